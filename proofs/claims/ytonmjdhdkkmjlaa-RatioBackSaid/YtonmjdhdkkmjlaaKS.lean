/- The clean executor: a run cut in pieces, each piece's end written out; the log does not count. -/
import Derived.Test.YtonmjdhdkkmjlaaKO
set_option linter.unusedVariables false
set_option linter.unusedSimpArgs false
namespace Go.Clean
open Go Go.RowKit
variable {P : Program} {call : Caller}

theorem code_again (hloc : LocalC call) {c : Code} {fr : Fr} {m m' m2 : Mem} {r : Ex × Fr} (h : codeX P call c fr m = some (r, m')) (ht : ∀ b, m2.t.get b = m.t.get b) (hn : m2.next = m.next) :
    ∃ m2', codeX P call c fr m2 = some (r, m2') ∧ (∀ b, m2'.t.get b = m'.t.get b) ∧ m2'.next = m'.next := by
  obtain ⟨nl, h1, h2, h3, h4⟩ := Local.codeX hloc c fr m r m' h
  obtain ⟨m2', e1, e2, e3, e4, e5⟩ := h4 m2 hn (fun p _ => ht p.2)
  refine ⟨m2', e1, fun b => ?_, e3⟩
  by_cases hb : (true, b) ∈ nl
  · exact e4 b hb
  · rw [e5 b hb, ht b, h3 b hb]

/-- A piece of code takes a frame and a memory to another, whatever the log. -/
def Chunk (P : Program) (call : Caller) (c : Code) (fr : Fr) (m : Mem) (e : Ex) (fr' : Fr) (m'' : Mem) : Prop :=
  ∃ m', codeX P call c fr m = some ((e, fr'), m') ∧ (∀ b, m'.t.get b = m''.t.get b) ∧ m'.next = m''.next

/-- What the kernel is asked. -/
def runC (P : Program) (call : Caller) (c : Code) (fr : Fr) (m : Mem) : Option (Ex × Fr × Trie Blk × Nat) := match codeX P call c fr m with
  | some ((e, fr'), m') => some (e, fr', m'.t, m'.next)
  | none => none

theorem Chunk.of {c : Code} {fr fr' : Fr} {m : Mem} {e : Ex} {t : Trie Blk} {n : Nat} (h : runC P call c fr m = some (e, fr', t, n)) : Chunk P call c fr m e fr' ⟨t, n, []⟩ := by
  unfold runC at h
  cases hc : codeX P call c fr m with
  | none => rw [hc] at h; cases h
  | some q =>
    obtain ⟨⟨e1, fr1⟩, m1⟩ := q
    rw [hc] at h
    simp only [Option.some.injEq, Prod.mk.injEq] at h
    obtain ⟨rfl, rfl, rfl, rfl⟩ := h
    exact ⟨m1, hc, fun _ => rfl, rfl⟩

theorem Chunk.seq (hloc : LocalC call) {a b : Code} {fr fr1 fr2 : Fr} {m m1 m2 : Mem} {e : Ex} (h1 : Chunk P call a fr m .normal fr1 m1) (h2 : Chunk P call b fr1 m1 e fr2 m2) : Chunk P call (.seq a b) fr m e fr2 m2 := by
  obtain ⟨ma, a1, a2, a3⟩ := h1
  obtain ⟨mb, b1, b2, b3⟩ := h2
  obtain ⟨mc, c1, c2, c3⟩ := code_again hloc b1 (m2 := ma) a2 a3
  refine ⟨mc, ?_, fun x => (c2 x).trans (b2 x), c3.trans b3⟩
  unfold codeX
  change M.bnd _ _ m = _
  unfold M.bnd
  simp only [a1]
  exact c1

/-- The first pieces of a code, and what is behind them. -/
def cut : Nat → Code → List Code × Code
  | k + 1, .seq a b => (a :: (cut k b).1, (cut k b).2)
  | _, c => ([], c)
def nest : List Code → Code → Code
  | [], r => r
  | c :: l, r => .seq c (nest l r)
theorem nest_cut : ∀ (k : Nat) (c : Code), nest (cut k c).1 (cut k c).2 = c
  | 0, c => by cases c <;> rfl
  | k + 1, c => by
    cases c with
    | seq a b => show Code.seq a (nest (cut k b).1 (cut k b).2) = _; rw [nest_cut k b]
    | _ => rfl
/-- Pieces one behind the other, each come to its end. -/
def runsX (P : Program) (call : Caller) : List Code → Fr → Mem → Option (Fr × Mem)
  | [], fr, m => some (fr, m)
  | c :: l, fr, m => match codeX P call c fr m with
    | some ((.normal, fr), m) => runsX P call l fr m
    | _ => none
def runsC (P : Program) (call : Caller) (l : List Code) (fr : Fr) (m : Mem) : Option (Fr × Trie Blk × Nat) := match runsX P call l fr m with
  | some (fr', m') => some (fr', m'.t, m'.next)
  | none => none
theorem chunk_runs (hloc : LocalC call) {r : Code} {fr1 fr2 : Fr} {m2 : Mem} {e : Ex} : ∀ (l : List Code) (fr : Fr) (m m1 : Mem), runsX P call l fr m = some (fr1, m1) → Chunk P call r fr1 m1 e fr2 m2 → Chunk P call (nest l r) fr m e fr2 m2
  | [], fr, m, m1, h, hr => by
    simp only [runsX, Option.some.injEq, Prod.mk.injEq] at h
    obtain ⟨rfl, rfl⟩ := h
    exact hr
  | c :: l, fr, m, m1, h, hr => by
    unfold runsX at h
    cases hc : codeX P call c fr m with
    | none => rw [hc] at h; cases h
    | some q =>
      obtain ⟨⟨e1, fr3⟩, m3⟩ := q
      rw [hc] at h
      cases e1 with
      | normal => exact Chunk.seq hloc ⟨m3, hc, fun _ => rfl, rfl⟩ (chunk_runs hloc l fr3 m3 m1 h hr)
      | exit i => cases h
      | ret => cases h
theorem chunk_cut (hloc : LocalC call) {k : Nat} {c : Code} {fr fr1 fr2 : Fr} {m m2 : Mem} {e : Ex} {t : Trie Blk} {n : Nat} (h : runsC P call (cut k c).1 fr m = some (fr1, t, n)) (hr : Chunk P call (cut k c).2 fr1 ⟨t, n, []⟩ e fr2 m2) : Chunk P call c fr m e fr2 m2 := by
  rw [← nest_cut k c]
  unfold runsC at h
  cases hx : runsX P call (cut k c).1 fr m with
  | none => rw [hx] at h; cases h
  | some q =>
    obtain ⟨fr3, m3⟩ := q
    rw [hx] at h
    simp only [Option.some.injEq, Prod.mk.injEq] at h
    obtain ⟨rfl, rfl, rfl⟩ := h
    refine chunk_runs hloc _ _ _ _ hx ?_
    obtain ⟨m4, h1, h2, h3⟩ := hr
    obtain ⟨m5, h4, h5, h6⟩ := code_again hloc h1 (m2 := m3) (fun _ => rfl) rfl
    exact ⟨m5, h4, fun b => (h5 b).trans (h2 b), h6.trans h3⟩

theorem bind_eq {α β : Type} {f : M α} {g : α → M β} {m m1 : Mem} {a : α} (h : f m = some (a, m1)) : (f >>= g) m = g a m1 := by
  change M.bnd f g m = _
  unfold M.bnd
  rw [h]

/-- A function whose code comes to a frame that holds true. -/
theorem chunk_body {fin : Nat → Fr → M Unit} {fn : Func} {c : Code} (hb : fn.body = some c) {fr' : Fr} {m'' : Mem} {e : Ex} (he : e = .normal ∨ e = .ret) (h : Chunk P call c ⟨.leaf, fn.ntmps, []⟩ .empty e fr' m'')
    (hfin : ∀ m, fin 0 fr' m = some ((), m)) {t : Tmp} (hres : fn.results = #[.tmp t]) (htrue : fr'.at t = .bool true) : ∃ m', bodyX P call fin fn [] .empty = some (.bool true, m') := by
  obtain ⟨m', h1, h2, h3⟩ := h
  refine ⟨m', ?_⟩
  unfold bodyX
  simp only [hb, frK_eq]
  rw [bind_eq (m1 := .empty) (a := ()) (by
    have h0 : Nat.ble 0 fn.ntmps = true := by cases fn.ntmps <;> rfl
    show M.guard (Nat.ble 0 fn.ntmps) Mem.empty = _
    rw [h0]; rfl), bind_eq (m1 := .empty) (a := 0) rfl, bind_eq (m1 := .empty) (a := ⟨.leaf, fn.ntmps, []⟩) rfl, bind_eq h1]
  have hend : (do
      fin 0 fr'
      let vs ← resX P fr' fn.results.toList
      match vs with
      | [v] => M.ret v
      | vs => M.ret (Value.tuple ⟨vs⟩)) m' = some (.bool true, m') := by
    rw [bind_eq (hfin m'), hres]
    show (resX P fr' [.tmp t] >>= _) m' = _
    rw [bind_eq (m1 := m') (a := [.bool true]) (by unfold resX; rw [bind_eq (m1 := m') (a := []) rfl, htrue]; rfl)]
    rfl
  rcases he with rfl | rfl
  · exact hend
  · exact hend

/-- A closed call whose body comes to true, is true. -/
theorem says_body {known : Known} (hk : KnownOK P known) (hmix : P.follows .mixedOrders = true) (hback : BackOK P) (hno : noCount P = true) {n : Nat} {f : FuncId} {fn : Func} (hfn : P.funcs[f]? = some fn)
    (h : ∃ m', bodyX P (callN P known n) (fun base fr => runDX (deferredX P (callN P known n)) base fr.d) fn [] .empty = some (.bool true, m')) (w : World) :
    Calls P f #[] w fun e w' => e = .returned (.bool true) ∧ Below w.heap.size w w' := by
  obtain ⟨m', hc⟩ := h
  have hr : Rel w.heap.size (fun _ => none) (Mem.empty.t.get) w := ⟨Nat.le_refl _, fun b x hb => by simp [Mem.empty, Trie.get] at hb, fun b b' x x' p p' _ hb => by simp [Mem.empty, Trie.get] at hb, fun b x p hb => by simp [Mem.empty, Trie.get] at hb⟩
  obtain ⟨_, hcall⟩ := body_does (callN_ok hk hmix hback hno n) (callN_local hk n) (deferred_ok (callN_ok hk hmix hback hno n) (callN_local hk n) hmix hback hno) (Local.deferredX (callN_local hk n)) hmix hback hfn hc hr .nil (fun _ _ _ => rfl)
  refine Calls.mono (callsIn_wide.1 hcall) fun e w' he => ?_
  obtain ⟨v', ρ', rfl, hA⟩ := he
  exact ⟨by rw [hA.val.bool], hA.below.below⟩
end Go.Clean

/- The clean executor: what a closed call of plain arguments has answered once, it answers always. -/
set_option linter.unusedVariables false
set_option linter.unusedSimpArgs false
namespace Go.Clean
open Go Go.RowKit
variable {P : Program}

/-- Plain values alike. -/
def eqL : Value → Value → Bool
  | .bool a, .bool b => a == b
  | .int k a, .int l b => k == l && a == b
  | .float k a, .float l b => k == l && a == b
  | .complex k a b, .complex l c d => k == l && a == c && b == d
  | _, _ => false
theorem eqL_eq {v v' : Value} (h : eqL v v' = true) : v = v' := by
  unfold eqL at h
  split at h
  · obtain rfl := eq_of_beq h; rfl
  · simp only [Bool.and_eq_true, beq_iff_eq] at h; obtain ⟨rfl, rfl⟩ := h; rfl
  · simp only [Bool.and_eq_true, beq_iff_eq] at h; obtain ⟨rfl, rfl⟩ := h; rfl
  · simp only [Bool.and_eq_true, beq_iff_eq] at h; obtain ⟨⟨rfl, rfl⟩, rfl⟩ := h; rfl
  · cases h
def eqLs : List Value → List Value → Bool
  | [], [] => true
  | a :: l, b :: k => eqL a b && eqLs l k
  | _, _ => false
theorem eqLs_eq : ∀ {l k : List Value}, eqLs l k = true → l = k
  | [], [], _ => rfl
  | [], _ :: _, h => by simp [eqLs] at h
  | _ :: _, [], h => by simp [eqLs] at h
  | a :: l, b :: k, h => by
    simp only [eqLs, Bool.and_eq_true] at h
    rw [eqL_eq h.1, eqLs_eq h.2]
def eqV : Value → Value → Bool
  | .agg ⟨l⟩, .agg ⟨k⟩ => eqLs l k
  | a, b => eqL a b
theorem eqV_eq {v v' : Value} (h : eqV v v' = true) : v = v' := by
  unfold eqV at h
  split at h
  · rw [eqLs_eq h]
  · exact eqL_eq h
def eqVs : List Value → List Value → Bool
  | [], [] => true
  | a :: l, b :: k => eqV a b && eqVs l k
  | _, _ => false
theorem eqVs_eq : ∀ {l k : List Value}, eqVs l k = true → l = k
  | [], [], _ => rfl
  | [], _ :: _, h => by simp [eqVs] at h
  | _ :: _, [], h => by simp [eqVs] at h
  | a :: l, b :: k, h => by
    simp only [eqVs, Bool.and_eq_true] at h
    rw [eqV_eq h.1, eqVs_eq h.2]

theorem VR.moveL {ρ ρ' : Env} {v v' : Value} (h : leafV v = true) (hv : VR ρ v v') : VR ρ' v v' := by
  unfold leafV at h
  split at h <;> first | (cases h; done) | skip
  all_goals first
    | exact hv
    | (obtain ⟨a, b, e, h1, h2⟩ := hv.fun'
       cases h1; cases h2
       subst e
       exact ⟨_, _, rfl, .nil, .nil⟩)
theorem VRs.moveL {ρ ρ' : Env} : ∀ {l l' : List Value}, l.all leafV = true → VRs ρ l l' → VRs ρ' l l'
  | [], _, _, h => h
  | v :: l, _, h, hv => by
    simp only [List.all_cons, Bool.and_eq_true] at h
    obtain ⟨a, b, rfl, h1, h2⟩ := hv
    exact ⟨a, b, rfl, .moveL h.1 h1, VRs.moveL h.2 h2⟩
theorem VR.move {ρ ρ' : Env} {v v' : Value} (h : plainV v = true) (hv : VR ρ v v') : VR ρ' v v' := by
  unfold plainV at h
  split at h
  · obtain ⟨l', rfl, h1⟩ := hv.agg'
    exact ⟨_, rfl, .moveL h h1⟩
  · obtain ⟨l', rfl, h1⟩ := hv.tup
    exact ⟨_, rfl, .moveL h h1⟩
  · exact .moveL h hv
theorem VRs.move {ρ ρ' : Env} : ∀ {l l' : List Value}, l.all plainV = true → VRs ρ l l' → VRs ρ' l l'
  | [], _, _, h => h
  | v :: l, _, h, hv => by
    simp only [List.all_cons, Bool.and_eq_true] at h
    obtain ⟨a, b, rfl, h1, h2⟩ := hv
    exact ⟨a, b, rfl, .move h.1 h1, VRs.move h.2 h2⟩

theorem Rel.none (w : World) : Rel w.heap.size (fun _ => Option.none) (Mem.empty.t.get) w :=
  ⟨Nat.le_refl _, fun b x hb => by simp [Mem.empty, Trie.get] at hb, fun b b' x x' p p' _ hb => by simp [Mem.empty, Trie.get] at hb, fun b x p hb => by simp [Mem.empty, Trie.get] at hb⟩

theorem memo_ok {call : Caller} (hcall : CallOK P call) {f : FuncId} {lits : List Value} {v : Value} (hrun : (match call f lits .empty with
    | some (u, _) => eqV u v
    | none => false) = true) (hl : lits.all plainV = true) (hv : plainV v = true) : Local (M.ret v) ∧
    ∀ m v1 m1, M.ret v m = some (v1, m1) → ∀ N ρ w cargs, Rel N ρ m.t.get w → VRs ρ lits cargs → Fresh ρ m m1 → Does P N ρ m m1 w v1 (callFunc f ⟨cargs⟩) := by
  refine ⟨Local.ret _, fun m v1 m1 h N ρ w cargs hr ha hf => ?_⟩
  obtain ⟨rfl, rfl⟩ := ret_some h
  cases hc : call f lits .empty with
  | none => rw [hc] at hrun; cases hrun
  | some q =>
    obtain ⟨u, m'⟩ := q
    rw [hc] at hrun
    obtain rfl := eqV_eq hrun
    intro r o a K Q hK
    refine hcall f lits .empty u m' hc w.heap.size (fun _ => Option.none) w cargs (Rel.none w) (VRs.move hl ha) (fun _ _ _ => rfl) r o a K Q fun v' w' ρ' hA => ?_
    exact hK v' w' ρ ⟨.refl ρ, fun b h h' => absurd h h', hr.later hA.below.below, VR.move hv hA.val, Keeps.of_below hr.base hA.below.below, fun b p h h' => absurd (h.symm.trans h') (by simp)⟩
end Go.Clean

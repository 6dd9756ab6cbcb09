/- Whole numbers and fractions of words in the clean executor: their memory; set. -/
import Derived.Test.YtghhanifakllpaaBpY
import Derived.Test.YtghhanifakllpaaKXY
set_option linter.unusedSimpArgs false
set_option linter.unusedVariables false
namespace Go.Proofs.Ytghhanifakllpaa
open Go.Clean

@[simp] theorem fa_I0 (s : Nat) : fieldAddrX Try.prog 54 (.pointer (some ⟨s, 0, none⟩)) 0 = some (.pointer (some ⟨s, 0, none⟩)) := by kernel_rfl
@[simp] theorem fa_I1 (s : Nat) : fieldAddrX Try.prog 54 (.pointer (some ⟨s, 0, none⟩)) 1 = some (.pointer (some ⟨s, 1, none⟩)) := by kernel_rfl
@[simp] theorem fa_R0 (s : Nat) : fieldAddrX Try.prog 56 (.pointer (some ⟨s, 0, none⟩)) 0 = some (.pointer (some ⟨s, 0, none⟩)) := by kernel_rfl
@[simp] theorem fa_R1 (s : Nat) : fieldAddrX Try.prog 56 (.pointer (some ⟨s, 0, none⟩)) 1 = some (.pointer (some ⟨s, 2, none⟩)) := by kernel_rfl
theorem sto_bo (x : Bool) : storeOK Try.prog 4 (.bool x) = true := by cases x <;> kernel_rfl
theorem WL.cell {m : Mem} {v : Value} {l : List Nat} (h : WL m v l) : cellsV v = [v] ∧ oneV v = true := by
  obtain ⟨a, k, rfl⟩ := h.val
  exact ⟨rfl, rfl⟩
/-- No cell holds a whole number of the language. -/
def nonI (cs : List Value) : Prop := cs ≠ [] ∧ ∀ (i : Nat) (k : IntKind) (x : Int), cs[i]? ≠ some (.int k x)
theorem nonI.not_ints {cs : List Value} (h : nonI cs) : ¬ intsOnly cs := fun k => by
  cases cs with
  | nil => exact h.1 rfl
  | cons c cs =>
    obtain ⟨q, n, hc⟩ := k c (List.mem_cons_self ..)
    exact h.2 0 q n (by rw [hc]; rfl)
/-- Only one block is another, and both hold no whole numbers. -/
structure TB (m m' : Mem) (b : Nat) (cs cs' : List Value) : Prop where
  next : m'.next = m.next
  old : ∀ c, c ≠ b → m'.at c = m.at c
  was : m.at b = some ⟨cs, 1, false, false⟩
  is : m'.at b = some ⟨cs', 1, false, false⟩
  n : nonI cs
theorem WL.turn {m m' : Mem} {b : Nat} {cs cs' : List Value} {v : Value} {l : List Nat} (t : TB m m' b cs cs') (h : WL m v l) : WL m' v l := by
  refine ⟨h.wd, ?_⟩
  rcases h.lie with h1 | ⟨b2, o2, k2, x, h1, h2, h3, h4, h5, h6⟩
  · exact .inl h1
  · by_cases hb : b2 = b
    · subst hb
      rw [t.was] at h3
      cases h3
      exact absurd h5.2 t.n.not_ints
    · exact .inr ⟨b2, o2, k2, x, h1, h2, by rw [t.old b2 hb]; exact h3, h4, h5, h6⟩
theorem nonI.set {cs : List Value} (h : nonI cs) {i : Nat} {v : Value} (hv : ∀ k x, v ≠ .int k x) : nonI (cs.set i v) := by
  refine ⟨fun h0 => h.1 (by simpa using h0), ?_⟩
  intro j k x
  rw [List.getElem?_set]
  split
  · split
    · intro h1; exact hv k x (Option.some.inj h1)
    · intro h1; cases h1
  · exact h.2 j k x
theorem WL.notI {m : Mem} {v : Value} {l : List Nat} (h : WL m v l) (k : IntKind) (x : Int) : v ≠ .int k x := by
  obtain ⟨a, c, rfl⟩ := h.val
  intro h1; cases h1
theorem nonI2 {be : Bool} {m : Mem} {v : Value} {l : List Nat} (h : WL m v l) : nonI [.bool be, v] := by
  obtain ⟨a, c, rfl⟩ := h.val
  refine ⟨by simp, ?_⟩
  intro i k x h1
  match i with
  | 0 => cases h1
  | 1 => cases h1
  | n + 2 => simp at h1
theorem nonI3 {be : Bool} {m m' : Mem} {v v' : Value} {l l' : List Nat} (h : WL m v l) (h' : WL m' v' l') : nonI [.bool be, v, v'] := by
  obtain ⟨a, c, rfl⟩ := h.val
  obtain ⟨a', c', rfl⟩ := h'.val
  refine ⟨by simp, ?_⟩
  intro i k x h1
  match i with
  | 0 => cases h1
  | 1 => cases h1
  | 2 => cases h1
  | n + 3 => simp at h1
theorem trim_tr {l : List Nat} (hd : Wd l) (h : Tr l) : trimL l = l := tr_inj (hd.trim) hd (tr_trim l) h (wv_trim l)
theorem TB.trans {m m1 m2 : Mem} {b : Nat} {cs cs' cs'' : List Value} (h : TB m m1 b cs cs') (k : TB m1 m2 b cs' cs'') : TB m m2 b cs cs'' :=
  ⟨k.next.trans h.next, fun c hc => (k.old c hc).trans (h.old c hc), h.was, k.is, h.n⟩
section
set_option maxRecDepth 10000
set_option maxHeartbeats 1000000 in
theorem intSet_ok (e : Nat) {m : Mem} {b : Nat} {c0 c1 : Value} {rest : List Value} {be : Bool} {vw : Value} {w : List Nat} (hat : m.at b = some ⟨c0 :: c1 :: rest, 1, false, false⟩) (hI : nonI (c0 :: c1 :: rest)) (h : WL m vw w) (hl : w.length < 1000000) {Q : Value → Mem → Prop}
    (hQ : ∀ m' v', TB m m' b (c0 :: c1 :: rest) (.bool (be && decide (0 < (trimL w).length)) :: v' :: rest) → WL m' v' (trimL w) → Q (.pointer (some ⟨b, 0, none⟩)) m') :
    Gives (callN Try.prog kn1 (e + 2) 80 [.pointer (some ⟨b, 0, none⟩), .bool be, vw]) m Q := by
  refine gives_fn (nt := 25) rfl Try.func80 rfl rfl rfl (Nat.le_of_ble_eq_true rfl) fun fr hn hd hargs => ?_
  have h0 : fr.at 0 = _ := hargs 0 _ rfl
  have h1 : fr.at 1 = _ := hargs 1 _ rfl
  have h2 : fr.at 2 = _ := hargs 2 _ rfl
  clear hargs
  simp [hn, h0, h1, h2]
  refine trim_ok e h hl fun m1 v1 o1 W1 => ?_
  have hat1 : m1.at b = some ⟨c0 :: c1 :: rest, 1, false, false⟩ := (o1.2 b).trans hat
  simp [hn]
  refine storeQ_one (cs := c0 :: c1 :: rest) (sz := 1) (gr := false) hat1 (by simp [W1.cell]) W1.cell.1 (by simp) fun m2 n2 _ e2 => ?_
  have t2 : TB m m2 b (c0 :: c1 :: rest) (c0 :: v1 :: rest) := ⟨n2.trans o1.1, fun c hc => by rw [e2, if_neg hc]; exact o1.2 c, hat, by rw [e2, if_pos rfl]; rfl, hI⟩
  have W2 : WL m2 v1 (trimL w) := W1.turn ⟨n2, fun c hc => by rw [e2, if_neg hc], hat1, t2.is, hI⟩
  have l2 := W2.len
  have a2 := t2.is
  have hI2 : nonI (c0 :: v1 :: rest) := hI.set (i := 1) (v := v1) W1.notI
  have fin : ∀ (be' : Bool), be' = (be && decide (0 < (trimL w).length)) → ∀ m3 : Mem, m3.next = m2.next → (∀ c, m3.at c = if c = b then some ⟨(c0 :: v1 :: rest).set 0 (.bool be'), 1, false, false⟩ else m2.at c) → Q (.pointer (some ⟨b, 0, none⟩)) m3 := fun be' hbe m3 n3 e3 => by
    have t3 : TB m2 m3 b (c0 :: v1 :: rest) (.bool be' :: v1 :: rest) := ⟨n3, fun c hc => by rw [e3, if_neg hc], t2.is, by rw [e3, if_pos rfl]; rfl, hI2⟩
    rw [hbe] at t3
    exact hQ _ _ (t2.trans t3) (W2.turn t3)
  cases be with
  | true =>
    simp [hn, h0, h1, yieldX, boolOf_bool, a2, l2]
    refine storeQ_one (cs := c0 :: v1 :: rest) (sz := 1) (gr := false) (by simp [a2]) (sto_bo _) rfl (by simp) fun m3 n3 _ e3 => ?_
    simp [Mem.next_rd, Mem.at_rd] at n3 e3
    simp [hn, hd, h0]
    exact fin (decide (0 < (trimL w).length)) (by simp) m3 n3 (by simpa using e3)
  | false =>
    simp [hn, h0, h1, yieldX, boolOf_bool]
    refine storeQ_one (cs := c0 :: v1 :: rest) (sz := 1) (gr := false) (by simp [a2]) (sto_bo _) rfl (by simp) fun m3 n3 _ e3 => ?_
    simp [Mem.next_rd, Mem.at_rd] at n3 e3
    simp [hn, hd, h0]
    exact fin false (by simp) m3 n3 (by simpa using e3)
end
end Go.Proofs.Ytghhanifakllpaa

/- The clean executor: what a piece touches was there before, or is new. -/
set_option linter.unusedVariables false
set_option linter.unusedSimpArgs false
namespace Go.Clean
open Go
variable {P : Program} {S : List Nat}

/-- What is touched was there before, or is new; what is not written is ps it was. (S: blocks that are known to have been there.) -/
def WS (S : List Nat) {α : Type} (f : M α) : Prop := ∀ m a m', f m = some (a, m') → ∃ nl, m'.log = nl ++ m.log ∧ m.next ≤ m'.next ∧ (∀ b, (true, b) ∉ nl → m'.t.get b = m.t.get b) ∧ ∀ p ∈ nl, p.2 ∈ S ∨ m.t.get p.2 ≠ none ∨ m.next ≤ p.2
theorem WS.ret {α : Type} (a : α) : WS S (M.ret a) := by
  intro m a' m' h
  cases h
  exact ⟨[], rfl, Nat.le_refl _, fun _ _ => rfl, fun p hp => by cases hp⟩
theorem WS.fail {α : Type} : WS S (M.fail : M α) := fun m a m' h => by cases h
theorem WS.lift {α : Type} (o : Option α) : WS S (M.lift o) := by
  cases o with
  | none => exact WS.fail
  | some a => exact WS.ret a
theorem WS.guard (b : Bool) : WS S (M.guard b) := by
  cases b with
  | false => exact WS.fail
  | true => exact WS.ret ()
theorem WS.bnd {α β : Type} {f : M α} {g : α → M β} (hf : WS S f) (hg : ∀ a, WS S (g a)) : WS S (M.bnd f g) := by
  intro m c m' h
  unfold M.bnd at h
  cases hfm : f m with
  | none => simp [hfm] at h
  | some p =>
    obtain ⟨a, m1⟩ := p
    simp only [hfm] at h
    obtain ⟨n1, l1, x1, fr1, k1⟩ := hf m a m1 hfm
    obtain ⟨n2, l2, x2, fr2, k2⟩ := hg a m1 c m' h
    refine ⟨n2 ++ n1, by rw [l2, l1, List.append_assoc], Nat.le_trans x1 x2, fun b hb => ?_, fun p hp => ?_⟩
    · simp only [List.mem_append, not_or] at hb
      rw [fr2 b hb.1, fr1 b hb.2]
    · rcases List.mem_append.1 hp with hp | hp
      · rcases k2 p hp with h1 | h1 | h1
        · exact .inl h1
        · by_cases hw : (true, p.2) ∈ n1
          · exact k1 (true, p.2) hw
          · rw [fr1 _ hw] at h1; exact .inr (.inl h1)
        · exact .inr (.inr (Nat.le_trans x1 h1))
      · exact k1 p hp
theorem WS.bind {α β : Type} {f : M α} {g : α → M β} (hf : WS S f) (hg : ∀ a, WS S (g a)) : WS S (f >>= g) := WS.bnd hf hg
theorem WS.getB (b : Nat) : WS S (getB b) := by
  intro m x m' h
  unfold Clean.getB at h
  cases hb : m.t.get b with
  | none => simp [hb] at h
  | some y =>
    simp only [hb, Option.some.injEq, Prod.mk.injEq] at h
    obtain ⟨rfl, rfl⟩ := h
    refine ⟨[(false, b)], rfl, Nat.le_refl _, fun _ _ => rfl, fun p hp => ?_⟩
    rw [List.mem_singleton.1 hp]
    exact .inr (.inl (by rw [hb]; simp))
theorem WS.getBind {β : Type} {b : Nat} {g : Blk → M β} (hg : ∀ x, WS (b :: S) (g x)) : WS S (Clean.getB b >>= g) := by
  intro m c m' h
  have h' : M.bnd (Clean.getB b) g m = some (c, m') := h
  unfold M.bnd Clean.getB at h'
  cases hb : m.t.get b with
  | none => simp [hb] at h'
  | some y =>
    simp only [hb] at h'
    obtain ⟨n2, l2, x2, fr2, k2⟩ := hg y _ c m' h'
    refine ⟨n2 ++ [(false, b)], by rw [l2]; simp, x2, fun c hc => fr2 c (fun h => hc (List.mem_append_left _ h)), fun p hp => ?_⟩
    rcases List.mem_append.1 hp with hp | hp
    · rcases k2 p hp with h1 | h1 | h1
      · rcases List.mem_cons.1 h1 with h1 | h1
        · rw [h1]; exact .inr (.inl (by rw [hb]; simp))
        · exact .inl h1
      · exact .inr (.inl h1)
      · exact .inr (.inr h1)
    · rw [List.mem_singleton.1 hp]
      exact .inr (.inl (by rw [hb]; simp))
theorem WS.setB {b : Nat} (x : Option Blk) (hb : b ∈ S) : WS S (setB b x) := by
  intro m u m' h
  rw [setB_eq] at h
  simp only [Option.some.injEq, Prod.mk.injEq, true_and] at h
  subst h
  refine ⟨[(true, b)], rfl, Nat.le_refl _, fun c hc => Trie.get_set_ne _ _ _ _ _ (by simpa using hc), fun p hp => ?_⟩
  rw [List.mem_singleton.1 hp]
  exact .inl hb
theorem WS.newB (x : Blk) : WS S (newB x) := by
  intro m u m' h
  rw [newB_eq] at h
  simp only [Option.some.injEq, Prod.mk.injEq] at h
  obtain ⟨rfl, rfl⟩ := h
  refine ⟨[(true, m.next)], rfl, Nat.le_succ _, fun c hc => Trie.get_set_ne _ _ _ _ _ (by simpa using hc), fun p hp => ?_⟩
  rw [List.mem_singleton.1 hp]
  exact .inr (.inr (Nat.le_refl _))
theorem WS.logged {α : Type} {f : M α} (hf : WS S f) : WS S (M.logged f) := by
  intro m c m' h
  unfold M.logged at h
  cases hfm : f { m with log := [] } with
  | none => simp [hfm] at h
  | some p =>
    obtain ⟨a, m1⟩ := p
    simp only [hfm, Option.some.injEq, Prod.mk.injEq] at h
    obtain ⟨rfl, rfl⟩ := h
    obtain ⟨nl, l1, x1, fr1, k1⟩ := hf _ a m1 hfm
    simp only [List.append_nil] at l1
    exact ⟨nl, by simp only [l1], x1, fr1, k1⟩
theorem WS.mlet {α β : Type} {o : Option α} {g : α → M β} (h : ∀ a, o = some a → WS S (g a)) : WS S (match o with | some a => g a | none => M.fail) := by
  cases o with
  | none => exact WS.fail
  | some a => exact h a rfl
theorem WS.congr {α : Type} {f g : M α} (h : ∀ m, f m = g m) (hg : WS S g) : WS S f := by
  have : f = g := funext h
  rw [this]; exact hg

theorem WS.newX (cells : List Value) (sz : Nat) (grow : Bool) : WS S (newX cells sz grow) := by
  unfold Clean.newX
  refine WS.bind (WS.guard _) fun _ => WS.congr (g := Clean.newB { cells, sz, grow, ro := false }) (fun m => by rw [valsK_eq]) (WS.newB _)

theorem WS.loadX (t : TypeId) (a : Value) : WS S (loadX P t a) := by
  unfold Clean.loadX
  repeat' (first | exact WS.fail | exact WS.ret _ | exact WS.lift _ | exact WS.guard _ | exact WS.getB _ | refine WS.getBind fun _ => ?_ | refine WS.bind ?_ fun _ => ?_ | split)

theorem WS.laid {α : Type} (cs : List Value) (o : Nat) (vs : List Value) (g : List Value → M α) (h : ∀ l, WS S (g l)) :
    WS S (fun m => layK cs o vs fun
      | some l => g l m
      | none => none) := by
  refine WS.congr (g := match lay cs o vs with
    | some l => g l
    | none => M.fail) (fun m => ?_) ?_
  · rw [layK_eq]
    cases lay cs o vs <;> rfl
  · cases lay cs o vs with
    | none => exact WS.fail
    | some l => exact h l

theorem WS.storeX (t : TypeId) (a x : Value) : WS S (storeX P t a x) := by
  unfold Clean.storeX
  split
  · refine WS.getBind fun blk => WS.bind (WS.guard _) fun _ => WS.laid _ _ _ _ fun l => WS.bind (WS.setB _ (by simp)) fun _ => WS.ret _
  · exact WS.fail

theorem WS.buildSliceX (t : TypeId) (len : Nat) (ps : List (Nat × Value)) : WS S (buildSliceX P t len ps) := by
  unfold Clean.buildSliceX
  repeat' (first | exact WS.fail | exact WS.ret _ | exact WS.lift _ | exact WS.guard _ | exact WS.getB _ | exact WS.newX _ _ _ | refine WS.getBind fun _ => ?_ | refine WS.bind ?_ fun _ => ?_ | split)
theorem WS.makeSliceX (t : TypeId) (l c : Value) : WS S (makeSliceX P t l c) := by
  unfold Clean.makeSliceX
  repeat' (first | exact WS.fail | exact WS.ret _ | exact WS.lift _ | exact WS.guard _ | exact WS.getB _ | exact WS.newX _ _ _ | refine WS.getBind fun _ => ?_ | refine WS.bind ?_ fun _ => ?_ | split)
theorem WS.cond {α : Type} {b : Bool} {f g : M α} (hf : WS S f) (hg : WS S g) : WS S (bif b then f else g) := by cases b <;> assumption
theorem WS.sliceX (t : TypeId) (x : Value) (lo hi mx : Option Value) : WS S (sliceX P t x lo hi mx) := by
  unfold Clean.sliceX
  repeat' (first | exact WS.fail | exact WS.ret _ | exact WS.lift _ | exact WS.guard _ | exact WS.getB _ | exact WS.newB _ | refine WS.getBind fun _ => ?_ | refine WS.bind ?_ fun _ => ?_ | refine WS.cond ?_ ?_ | split)
theorem WS.elemsX (x : Value) (n : Nat) : WS S (elemsX x n) := by
  unfold Clean.elemsX
  repeat' (first | exact WS.fail | exact WS.ret _ | exact WS.getB _ | refine WS.getBind fun _ => ?_ | refine WS.bind ?_ fun _ => ?_ | split)
theorem WS.appendX (t u : TypeId) (s x : Value) : WS S (appendX P t u s x) := by
  unfold Clean.appendX
  repeat' (first | exact WS.fail | exact WS.ret _ | exact WS.lift _ | exact WS.guard _ | exact WS.getB _ | exact WS.newX _ _ _ | exact WS.setB _ (by simp) | exact WS.elemsX _ _
                 | refine WS.laid _ _ _ _ fun _ => ?_ | refine WS.getBind fun _ => ?_ | refine WS.bind ?_ fun _ => ?_ | refine WS.cond ?_ ?_ | split)
theorem WS.takenX (s : Value) (n k : Nat) : WS S (takenX s n k) := by
  unfold Clean.takenX
  repeat' (first | exact WS.fail | exact WS.ret _ | exact WS.getB _ | refine WS.getBind fun _ => ?_ | refine WS.bind ?_ fun _ => ?_ | split)
theorem WS.copyX (t : TypeId) (d s : Value) : WS S (copyX P t d s) := by
  unfold Clean.copyX
  repeat' (first | exact WS.fail | exact WS.ret _ | exact WS.lift _ | exact WS.guard _ | exact WS.getB _ | exact WS.newX _ _ _ | exact WS.setB _ (by simp) | exact WS.takenX _ _ _
                 | refine WS.laid _ _ _ _ fun _ => ?_ | refine WS.getBind fun _ => ?_ | refine WS.bind ?_ fun _ => ?_ | refine WS.cond ?_ ?_ | split)

def WC (call : Caller) : Prop := ∀ (S : List Nat) f args, WS S (call f args)

theorem WS.capX (t : TypeId) (x : Value) : WS S (capX P t x) := by
  unfold Clean.capX
  split
  · exact WS.ret _
  · exact WS.bind (WS.getB _) fun _ => WS.bind (WS.guard _) fun _ => WS.ret _
  · exact WS.fail
theorem WS.zerosX (t u : TypeId) (n : Int) : WS S (zerosX P t u n) := by
  unfold Clean.zerosX
  repeat' (first | exact WS.fail | exact WS.ret _ | exact WS.guard _ | exact WS.newX _ _ _ | refine WS.getBind fun _ => ?_ | refine WS.bind ?_ fun _ => ?_ | split)
theorem WS.callX {call : Caller} (hc : WC call) (fr : Fr) (c : Call) : WS S (callX P call fr c) := by
  unfold Clean.callX
  repeat' (first | exact WS.fail | exact WS.ret _ | exact WS.lift _ | exact hc _ _ _ | exact WS.appendX _ _ _ _ | exact WS.copyX _ _ _ | exact WS.capX _ _ | exact WS.zerosX _ _ _ | split)

theorem WS.opX {call : Caller} (hc : WC call) (fr : Fr) (o : Oper) : WS S (opX P call fr o) := by
  unfold Clean.opX
  repeat' (first | exact WS.fail | exact WS.ret _ | exact WS.lift _ | exact WS.callX hc _ _ | exact WS.loadX _ _ | exact WS.storeX _ _ _ | exact WS.buildSliceX _ _ _
                 | exact WS.makeSliceX _ _ _ | exact WS.sliceX _ _ _ _ _ | exact WS.newX _ _ _ | refine WS.getBind fun _ => ?_ | refine WS.bind ?_ fun _ => ?_ | split)

theorem WS.put (fr : Fr) (dst : Option Tmp) (v : Value) : WS S (fr.put dst v) := by
  cases dst with
  | none => exact WS.congr (g := M.ret fr) (fun m => rfl) (WS.ret _)
  | some d =>
    by_cases h : d < fr.n
    · exact WS.congr (g := M.ret { fr with t := Trie.set (some v) (d + 1) fr.t d }) (fun m => by unfold Fr.put; rw [putK_eq]; simp only [h, if_true]; rfl) (WS.ret _)
    · exact WS.congr (g := M.fail) (fun m => by unfold Fr.put; rw [putK_eq]; simp only [h, if_false]; rfl) WS.fail

theorem WS.stepX {call : Caller} (hc : WC call) (ops : Array Oper) (fr : Fr) (o : Oper) : WS S (stepX P call ops fr o) := by
  unfold Clean.stepX
  exact WS.cond (WS.bind (WS.opX hc _ _) fun _ => WS.put _ _ _) (WS.put _ _ _)
theorem WS.stepDX {call : Caller} (hc : WC call) (ops : Array Oper) (fr : Fr) (o : Oper) : WS S (stepDX P call ops fr o) := by
  unfold Clean.stepDX
  split
  · refine WS.cond ?_ (WS.put _ _ _)
    split
    · exact WS.put _ _ _
    · exact WS.fail
  · exact WS.stepX hc _ _ _
theorem WS.stepsX {call : Caller} (hc : WC call) (ops : Array Oper) : ∀ (l : List Oper) (fr : Fr), WS S (stepsX P call ops l fr)
  | [], fr => WS.ret _
  | o :: l, fr => WS.bind (WS.stepDX hc _ _ _) fun fr => WS.stepsX hc ops l fr
theorem WS.drawX {call : Caller} (hc : WC call) (ops : Array Oper) : ∀ (l : List Oper) (ps : List Nat) (i : Nat) (logs : List (Nat × List (Bool × Nat))) (fr : Fr), WS S (drawX P call ops l ps i logs fr)
  | o :: l, a :: ps, i, logs, fr => WS.bind (WS.logged (WS.stepX hc _ _ _)) fun _ => WS.bind (WS.guard _) fun _ => WS.drawX hc ops l ps _ _ _
  | [], [], _, _, _ => WS.ret _
  | [], _ :: _, _, _, _ => WS.ret _
  | _ :: _, [], _, _, _ => WS.fail
theorem WS.loopX {body : Fr → M (Ex × Fr)} (h : ∀ fr, WS S (body fr)) : ∀ (n : Nat) (fr : Fr), WS S (loopX body n fr)
  | 0, _ => WS.fail
  | n + 1, fr => WS.bind (h fr) fun p => by
    obtain ⟨e, fr⟩ := p
    cases e with
    | normal => exact WS.loopX h n fr
    | exit i => exact WS.ret _
    | ret => exact WS.ret _
theorem WS.cellX (a : Addr) : WS S (cellX a) := by
  unfold Clean.cellX
  split
  · refine WS.bind (WS.getB _) fun blk => ?_
    split
    · exact WS.ret _
    · exact WS.fail
  · exact WS.fail
theorem WS.putRound : ∀ (ts : List Tmp) (vs : List Value) (fr : Fr), WS S (putRound ts vs fr)
  | t :: ts, v :: vs, fr => WS.bind (WS.put _ _ _) fun fr => WS.putRound ts vs fr
  | [], [], _ => WS.ret _
  | [], _ :: _, _ => WS.fail
  | _ :: _, [], _ => WS.fail
theorem WS.backX {assign body : Fr → M (Ex × Fr)} (ha : ∀ fr, WS S (assign fr)) (hb : ∀ fr, WS S (body fr)) (bx : Addr) (n : Nat) (ps : List Tmp) (fr : Fr) : ∀ i, WS S (backX assign body bx n ps fr i)
  | 0 => WS.ret _
  | i + 1 => by
    unfold Clean.backX
    refine WS.bind (WS.cellX _) fun v => ?_
    split
    · refine WS.bind (WS.guard _) fun _ => WS.bind (WS.cellX _) fun x => WS.bind (WS.putRound _ _ _) fun fr1 => WS.bind (ha _) fun q => ?_
      obtain ⟨e, fr2⟩ := q
      cases e with
      | normal =>
        refine WS.bind (hb _) fun q => ?_
        obtain ⟨e, fr3⟩ := q
        cases e with
        | normal => exact WS.backX ha hb bx n ps fr i
        | exit i => exact WS.ret _
        | ret => exact WS.ret _
      | exit i => exact WS.fail
      | ret => exact WS.fail
    · exact WS.fail
theorem WS.codeX {call : Caller} (hc : WC call) : ∀ (c : Code) (fr : Fr), WS S (codeX P call c fr) := by
  intro c
  induction c with
  | rangeFunc g ps assign body iha ihb =>
    intro fr
    unfold Clean.codeX
    refine WS.cond ?_ WS.fail
    split
    · refine WS.bind (WS.newB _) fun b => WS.bind (WS.cellX _) fun v => ?_
      split
      · exact WS.bind (WS.guard _) fun _ => WS.bind (WS.backX iha ihb _ _ _ _ _) fun e => WS.ret _
      · exact WS.fail
    · exact WS.fail
  | skip => intro fr; exact WS.ret _
  | region id ops draw =>
    intro fr
    unfold Clean.codeX
    refine WS.cond ?_ ?_
    · split
      · exact WS.bind (WS.drawX hc _ _ _ _ _ _) fun _ => WS.ret _
      · exact WS.fail
    · exact WS.bind (WS.stepsX hc _ _ _) fun _ => WS.ret _
  | seq a b ha hb =>
    intro fr
    unfold Clean.codeX
    refine WS.bind (ha fr) fun p => ?_
    obtain ⟨e, fr⟩ := p
    cases e with
    | normal => exact hb fr
    | exit i => exact WS.ret _
    | ret => exact WS.ret _
  | cond c a b ha hb =>
    intro fr
    unfold Clean.codeX
    split
    · exact ha fr
    · exact hb fr
    · exact WS.fail
  | block id c ih =>
    intro fr
    unfold Clean.codeX
    refine WS.bind (ih fr) fun p => ?_
    obtain ⟨e, fr⟩ := p
    cases e with
    | normal => exact WS.ret _
    | exit i => exact WS.cond (WS.ret _) (WS.ret _)
    | ret => exact WS.ret _
  | loop c ih => intro fr; unfold Clean.codeX; exact WS.loopX ih _ _
  | exit id => intro fr; exact WS.ret _
  | ret => intro fr; exact WS.ret _
  | _ => intro fr; exact WS.fail
theorem WS.resX (fr : Fr) : ∀ (l : List ResultVar), WS S (resX P fr l)
  | [] => WS.ret _
  | .tmp t :: l => WS.bind (WS.resX fr l) fun _ => WS.ret _
  | .cell a t :: l => WS.bind (WS.loadX _ _) fun _ => WS.bind (WS.resX fr l) fun _ => WS.ret _
theorem WS.nextX : WS S nextX := fun m a m' h => by cases h; exact ⟨[], rfl, Nat.le_refl _, fun _ _ => rfl, fun p hp => by cases hp⟩
theorem WS.runDX {dcall : Caller} (hd : WC dcall) (base : Nat) : ∀ (l : List (FuncId × List Value)) (S : List Nat), WS S (runDX dcall base l)
  | [], _ => WS.ret _
  | (f, args) :: l, S => by
    unfold Clean.runDX
    exact WS.cond (WS.bind WS.nextX fun _ => WS.bind (WS.guard _) fun _ => WS.getBind fun _ => WS.bind (WS.setB _ (by simp)) fun _ => WS.runDX hd base l _) (WS.bind (hd _ f args) fun _ => WS.runDX hd base l _)
theorem WS.endX {fin : Nat → Fr → M Unit} (hd : ∀ base fr, WS S (fin base fr)) (base : Nat) (fn : Func) (fr : Fr) : WS S (do
    fin base fr
    let vs ← Clean.resX P fr fn.results.toList
    match vs with
    | [v] => M.ret v
    | vs => M.ret (Value.tuple ⟨vs⟩)) := WS.bind (hd _ _) fun _ => WS.bind (WS.resX _ _) fun vs => by split <;> exact WS.ret _
theorem WS.bodyX {call : Caller} {fin : Nat → Fr → M Unit} (hc : WC call) (hd : ∀ base fr, WS S (fin base fr)) (fn : Func) (args : List Value) : WS S (bodyX P call fin fn args) := by
  unfold Clean.bodyX
  split
  · exact WS.fail
  · refine WS.bind (WS.guard _) fun _ => WS.bind WS.nextX fun base => WS.bind (by rw [frK_eq]; exact WS.ret _) fun fr => WS.bind (WS.codeX hc _ _) fun p => ?_
    obtain ⟨e, fr⟩ := p
    cases e with
    | normal => exact WS.endX hd _ fn fr
    | exit i => exact WS.fail
    | ret => exact WS.endX hd _ fn fr
theorem WS.deferredX {call : Caller} (hc : WC call) : WC (deferredX P call) := fun S f args => by
  unfold Clean.deferredX
  split
  · exact WS.fail
  · exact WS.bodyX hc (fun _ _ => WS.guard _) _ _
theorem WS.callN {known : Known} (hk : ∀ (S : List Nat) f args g, known f args = some g → WS S g) : ∀ n, WC (callN P known n)
  | 0 => fun _ _ _ => WS.fail
  | n + 1 => fun S f args => by
    unfold Clean.callN
    split
    · exact hk S f args _ ‹_›
    · split
      · exact WS.fail
      · exact WS.bodyX (WS.callN hk n) (fun _ _ => WS.runDX (WS.deferredX (WS.callN hk n)) _ _ _) _ _

end Go.Clean

/- Calls with blocks hidden. -/
namespace Go.Proofs.Ytghhanifakllpaa
open Go.Clean
variable {S : List Nat}
theorem WS.condX {b : Bool} {f g : M Value} (hf : WS S f) (hg : WS S g) : WS S (bif b then f else g) := by cases b <;> assumption
theorem ws_max (args : List Value) : WS S (maxY args) := by unfold maxY; split <;> first | exact WS.ret _ | exact WS.fail
theorem ws_abs (args : List Value) : WS S (absX args) := by unfold absX; split <;> first | exact WS.ret _ | exact WS.fail
theorem ws_from (args : List Value) : WS S (fromX args) := by unfold fromX; split <;> first | exact WS.ret _ | exact WS.fail
theorem ws_bits (args : List Value) : WS S (bitsX args) := by unfold bitsX; split <;> first | exact WS.fail | exact WS.bind (WS.guard _) fun _ => WS.ret _
theorem ws_fin (args : List Value) : WS S (finX args) := by unfold finX; split <;> first | exact WS.fail | exact WS.condX (WS.ret _) WS.fail
theorem ws_over (args : List Value) : WS S (overX args) := by unfold overX; split <;> first | exact WS.fail | exact WS.condX (WS.ret _) WS.fail
theorem ws_less (args : List Value) : WS S (lessX args) := by unfold lessX; split <;> first | exact WS.fail | exact WS.condX (WS.ret _) WS.fail
theorem kn0_ws (f : FuncId) (args : List Value) (g : M Value) (h : kn0 f args = some g) : WS S g := by
  unfold kn0 at h
  cases h0 : f == 44 with
  | true => simp only [h0, cond_true, cond_false, Option.some.injEq] at h; subst h; exact ws_from args
  | false =>
  cases h1 : f == 52 with
  | true => simp only [h0, h1, cond_true, cond_false, Option.some.injEq] at h; subst h; exact ws_bits args
  | false =>
  cases h2 : f == 31 with
  | true => simp only [h0, h1, h2, cond_true, cond_false, Option.some.injEq] at h; subst h; exact ws_abs args
  | false =>
  cases h3 : f == 71 with
  | true => simp only [h0, h1, h2, h3, cond_true, cond_false, Option.some.injEq] at h; subst h; exact ws_max args
  | false =>
  simp only [h0, h1, h2, h3, cond_false] at h; cases h
theorem kn1_ws (f : FuncId) (args : List Value) (g : M Value) (h : kn1 f args = some g) : WS S g := by
  unfold kn1 at h
  cases h0 : f == 46 with
  | true => simp only [h0, cond_true, Option.some.injEq] at h; subst h; exact ws_max args
  | false =>
  cases h1 : f == 50 with
  | true => simp only [h0, h1, cond_true, cond_false, Option.some.injEq] at h; subst h; exact ws_fin args
  | false =>
  cases h2 : f == 43 with
  | true => simp only [h0, h1, h2, cond_true, cond_false, Option.some.injEq] at h; subst h; exact ws_fin args
  | false =>
  cases h3 : f == 69 with
  | true => simp only [h0, h1, h2, h3, cond_true, cond_false, Option.some.injEq] at h; subst h; exact ws_over args
  | false =>
  cases h4 : f == 70 with
  | true => simp only [h0, h1, h2, h3, h4, cond_true, cond_false, Option.some.injEq] at h; subst h; exact ws_less args
  | false =>
  cases h5 : f == 7 with
  | true =>
    simp only [h0, h1, h2, h3, h4, h5, cond_true, cond_false] at h
    split at h
    · simp only [Option.some.injEq] at h; subst h; exact WS.ret _
    · cases h
  | false =>
  simp only [h0, h1, h2, h3, h4, h5, cond_false] at h; exact kn0_ws f args g h
theorem kn1_WC (n : Nat) : WC (callN Try.prog kn1 n) := WS.callN (fun S f args g h => kn1_ws f args g h) n
theorem kn1_LC (n : Nat) : LocalC (callN Try.prog kn1 n) := callN_local kn1_ok n
/-- A memory without one block. -/
def hid (m : Mem) (b : Nat) : Mem := { m with t := Trie.set none (b + 1) m.t b }
@[simp] theorem at_hid (m : Mem) (b c : Nat) : (hid m b).at c = if c = b then none else m.at c := by
  show Trie.get (Trie.set none (b + 1) m.t b) c = _
  by_cases h : c = b
  · subst h; rw [if_pos rfl]; exact Trie.get_set_same _ _ _ _ (Nat.lt_succ_self _)
  · rw [if_neg h]; exact Trie.get_set_ne _ _ _ _ _ h
@[simp] theorem next_hid (m : Mem) (b : Nat) : (hid m b).next = m.next := rfl
@[simp] theorem log_hid (m : Mem) (b : Nat) : (hid m b).log = m.log := rfl
/-- What has been logged meanwhile has not touched a block. -/
def NT (m m' : Mem) (b : Nat) : Prop := ∃ nl, m'.log = nl ++ m.log ∧ ∀ p ∈ nl, p.2 ≠ b
theorem NT.apart {m m' : Mem} {b : Nat} (h : NT m m' b) (h0 : m.log = []) : apartL m'.log [(false, b)] = true := by
  obtain ⟨nl, h1, h2⟩ := h
  rw [h1, h0, List.append_nil]
  unfold apartL
  rw [List.all_eq_true]
  rintro ⟨x, c⟩ hx
  have := h2 _ hx
  simp at this ⊢
  exact .inl this
/-- A call that gives so without some blocks gives so with them, and does not touch them. -/
theorem gives_hide {n : Nat} {f : FuncId} {args : List Value} {m mh : Mem} {Q : Value → Mem → Prop} (hn : mh.next = m.next) (hs : ∀ b x, mh.at b = some x → m.at b = some x) (hw : WF m)
    (hg : Gives (callN Try.prog kn1 n f args) mh fun v mh' => Up mh mh' ∧ ∀ m', Up m m' → (∀ b x, mh'.at b = some x → m'.at b = some x) → (∀ b, mh.at b = none → b < m.next → NT m m' b) → Q v m') : Gives (callN Try.prog kn1 n f args) m Q := by
  obtain ⟨v, mh', he, hup, hq⟩ := hg
  obtain ⟨nl, h1, h2, h3, h4⟩ := kn1_WC n [] f args mh v mh' he
  obtain ⟨nl', k1, k2, k3, k4⟩ := kn1_LC n f args mh v mh' he
  obtain rfl : nl = nl' := List.append_cancel_right (h1.symm.trans k1)
  have hag : ∀ p ∈ nl, m.t.get p.2 = mh.t.get p.2 := fun p hp => by
    rcases h4 p hp with h | h | h
    · cases h
    · cases hb : mh.t.get p.2 with
      | none => exact absurd hb h
      | some x => exact hs _ _ hb
    · cases hb : m.t.get p.2 with
      | some x => have := hw p.2 x hb; omega
      | none =>
        cases hb' : mh.t.get p.2 with
        | none => rfl
        | some x => have := hs _ _ hb'; rw [show m.at p.2 = m.t.get p.2 from rfl, hb] at this; cases this
  obtain ⟨m', e, lg, nx, w1, u1⟩ := k4 m hn.symm hag
  refine ⟨v, m', e, hq m' ?_ ?_ ?_⟩
  · refine ⟨by rw [nx]; have := hup.next; omega, fun c hc => ?_, fun _ b x hb => ?_⟩
    · by_cases hw2 : (true, c) ∈ nl
      · have e1 : m'.at c = mh'.at c := w1 c hw2
        have e2 : m.at c = mh.at c := hag _ hw2
        rw [e1, e2]
        exact hup.old c (by omega)
      · exact u1 c hw2
    · rw [nx]
      by_cases hw2 : (true, b) ∈ nl
      · have e1 : m'.at b = mh'.at b := w1 b hw2
        rw [e1] at hb
        exact hup.wf (fun c y hc => by rw [hn]; exact hw c y (hs c y hc)) b x hb
      · have e1 : m'.at b = m.at b := u1 b hw2
        rw [e1] at hb
        have := hw b x hb
        have := hup.next
        omega
  · intro b x hb
    by_cases hw2 : (true, b) ∈ nl
    · have e1 : m'.at b = mh'.at b := w1 b hw2
      rw [e1]; exact hb
    · have e1 : m'.at b = m.at b := u1 b hw2
      have e2 : mh'.at b = mh.at b := k3 b hw2
      rw [e1]
      rw [e2] at hb
      exact hs b x hb
  · intro b hb hlt
    refine ⟨nl, lg, fun p hp hpb => ?_⟩
    rcases h4 p hp with h | h | h
    · cases h
    · rw [hpb] at h; exact h hb
    · omega
end Go.Proofs.Ytghhanifakllpaa

/- Fractions of words in the clean executor: below, set. -/
namespace Go.Proofs.Ytghhanifakllpaa
open Go.Clean

def den (d : List Nat) : Nat := if d.length = 0 then 1 else wv d
def sgn (be : Bool) (n : Nat) : Int := if be then -(n : Int) else n
/-- A fraction in memory: N by D. -/
structure RT (m : Mem) (b : Nat) (N : Int) (D L : Nat) : Prop where
  ex : ∃ (be : Bool) (vw vd : Value) (w d : List Nat), m.at b = some ⟨[.bool be, vw, vd], 1, false, false⟩ ∧ WL m vw w ∧ WL m vd d ∧ Tr w ∧ Tr d ∧ w.length ≤ L ∧ d.length ≤ L ∧ (be = true → w ≠ []) ∧ sgn be (wv w) * (D : Int) = N * (den d : Int)
  pos : 0 < D
theorem den_pos {d : List Nat} (h : Tr d) : 0 < den d := by
  unfold den
  split
  · decide
  · refine tr_pos h ?_
    rintro rfl
    rename_i h1
    exact h1 rfl
/-- One block is set, new ones are made. -/
structure UpZ (m m' : Mem) (b : Nat) : Prop where
  next : m.next ≤ m'.next
  old : ∀ c, c < m.next → c ≠ b → m'.at c = m.at c
  wf : WF m → WF m'
  z : ∃ cs cs', m.at b = some ⟨cs, 1, false, false⟩ ∧ m'.at b = some ⟨cs', 1, false, false⟩ ∧ nonI cs ∧ nonI cs'
theorem WL.upz {m m' : Mem} {b : Nat} {v : Value} {l : List Nat} (h : WL m v l) (hw : WF m) (u : UpZ m m' b) : WL m' v l := by
  obtain ⟨cs, cs', z1, z2, z3, _⟩ := u.z
  refine ⟨h.wd, ?_⟩
  rcases h.lie with h1 | ⟨b2, o2, k2, x, h1, h2, h3, h4, h5, h6⟩
  · exact .inl h1
  · by_cases hb : b2 = b
    · subst hb
      rw [z1] at h3
      cases h3
      exact absurd h5.2 z3.not_ints
    · exact .inr ⟨b2, o2, k2, x, h1, h2, by rw [u.old b2 (hw b2 x h3) hb]; exact h3, h4, h5, h6⟩
theorem UpZ.after {m m1 m2 : Mem} {b : Nat} (h : Up m m1) (hw : WF m) (k : UpZ m1 m2 b) (hb : b < m.next) : UpZ m m2 b := by
  obtain ⟨cs, cs', z1, z2, z3, z4⟩ := k.z
  exact ⟨Nat.le_trans h.next k.next, fun c hc hcb => (k.old c (Nat.lt_of_lt_of_le hc h.next) hcb).trans (h.old c hc), fun w => k.wf (h.wf w), cs, cs', by rw [← h.old b hb]; exact z1, z2, z3, z4⟩
theorem UpZ.before {m m1 m2 : Mem} {b : Nat} (k : UpZ m m1 b) (hw : WF m) (h : Up m1 m2) : UpZ m m2 b := by
  obtain ⟨cs, cs', z1, z2, z3, z4⟩ := k.z
  exact ⟨Nat.le_trans k.next h.next, fun c hc hcb => (h.old c (Nat.lt_of_lt_of_le hc k.next)).trans (k.old c hc hcb), fun w => h.wf (k.wf w), cs, cs', z1, h.at z2 (k.wf hw), z3, z4⟩
theorem UpZ.trans {m m1 m2 : Mem} {b : Nat} (k : UpZ m m1 b) (h : UpZ m1 m2 b) : UpZ m m2 b := by
  obtain ⟨cs, cs', z1, z2, z3, z4⟩ := k.z
  obtain ⟨ds, ds', y1, y2, y3, y4⟩ := h.z
  exact ⟨Nat.le_trans k.next h.next, fun c hc hcb => (h.old c (Nat.lt_of_lt_of_le hc k.next) hcb).trans (k.old c hc hcb), fun w => h.wf (k.wf w), cs, ds', z1, y2, z3, y4⟩
theorem TB.upz {m m' : Mem} {b : Nat} {cs cs' : List Value} (t : TB m m' b cs cs') (hI : nonI cs') : UpZ m m' b :=
  ⟨by rw [t.next]; exact Nat.le_refl _, fun c _ hc => t.old c hc, fun w c x hc => by
    rw [t.next]
    by_cases h : c = b
    · subst h; exact w _ _ t.was
    · rw [t.old c h] at hc; exact w c x hc, cs, cs', t.was, t.is, t.n, hI⟩
theorem sgn_zero (be : Bool) : sgn be 0 = 0 := by cases be <;> rfl
/-- Writes only to what is new. -/
def Soft (m m' : Mem) : Prop := ∃ nl, m'.log = nl ++ m.log ∧ ∀ b, (true, b) ∈ nl → m.next ≤ b
section
set_option maxRecDepth 10000
theorem below_ok (e : Nat) {m : Mem} {b : Nat} {c0 c1 vd : Value} {d : List Nat} (hat : m.at b = some ⟨[c0, c1, vd], 1, false, false⟩) (h : WL m vd d) (td : Tr d) {Q : Value → Mem → Prop}
    (hQ : ∀ m' v l, Up m m' → Soft m m' → WL m' v l → Tr l → l.length ≤ max d.length 1 → wv l = den d → 0 < l.length → Q v m') :
    Gives (callN Try.prog kn1 (e + 1) 62 [.pointer (some ⟨b, 0, none⟩)]) m Q := by
  refine gives_fn (nt := 14) rfl Try.func62 rfl rfl rfl (Nat.le_of_ble_eq_true rfl) fun fr hn hd hargs => ?_
  have h0 : fr.at 0 = _ := hargs 0 _ rfl
  clear hargs
  by_cases hz : d.length = 0
  · have hz' : d = [] := List.eq_nil_of_length_eq_zero hz
    simp [hn, h0, hat, h.len, hz']
    refine gives_build1W 1 ?_
    simp [hn, hd]
    refine hQ _ _ [1] ((Up.rd _ _).trans (Up.nw _ _)) ⟨[(true, m.next), (false, b)], rfl, fun c hc => by simp at hc; omega⟩ (WL.own (l := [1]) (by simp) (fun x hx => by rw [List.mem_singleton.1 hx]; decide)) (by intro x hx; simp at hx; subst hx; decide) (by simp; omega) (by rw [hz']; rfl) (by simp)
  · have hz' : ¬ d = [] := by rintro rfl; exact hz rfl
    simp [hn, h0, hat, h.len, hz', hd]
    refine hQ _ _ d ((Up.rd _ _).trans (Up.rd _ _)) ⟨[(false, b), (false, b)], rfl, fun c hc => by simp at hc⟩ (h.only ⟨by simp, fun c => by simp⟩) td (by omega) ?_ (by omega)
    unfold den; rw [if_neg hz]
end
end Go.Proofs.Ytghhanifakllpaa

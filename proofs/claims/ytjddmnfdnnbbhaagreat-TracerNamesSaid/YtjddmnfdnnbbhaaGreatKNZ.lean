/- The clean executor: a region in whatever order. -/
import Derived.Test.YtjddmnfdnnbbhaaGreatKMZ
set_option linter.unusedSimpArgs false
set_option linter.unusedVariables false
set_option linter.unusedVariables false
set_option linter.unusedSimpArgs false
namespace Go.Clean
open Go Go.RowKit
variable {P : Program} {N : Nat} {ρ : Env} {m m' : Mem} {w : World}

abbrev Log := List (Bool × Nat)
theorem logged_some {α : Type} {f : M α} {a : α} {log : Log} (h : M.logged f m = some ((a, log), m')) : f { m with log := [] } = some (a, { m' with log := log }) ∧ m'.log = log ++ m.log := by
  unfold M.logged at h
  cases hf : f { m with log := [] } with
  | none => simp [hf] at h
  | some p =>
    obtain ⟨b, m1⟩ := p
    simp only [hf, Option.some.injEq, Prod.mk.injEq] at h
    obtain ⟨⟨rfl, rfl⟩, rfl⟩ := h
    exact ⟨rfl, rfl⟩
theorem apartAll_spec {a : Nat} {log : Log} : ∀ {r : List (Nat × Log)}, apartAll a log r = true → ∀ p ∈ r, a.testBit p.1 = true ∨ apartL log p.2 = true
  | [], _, p, hp => by simp at hp
  | (j, l) :: r, h, p, hp => by
    unfold apartAll at h
    simp only [Bool.and_eq_true, Bool.or_eq_true] at h
    rcases List.mem_cons.1 hp with rfl | hp
    · exact h.1
    · exact apartAll_spec h.2 p hp
theorem apartL_spec {l l' : Log} (h : apartL l l' = true) {x y : Bool} {b : Nat} (h1 : (x, b) ∈ l) (h2 : (y, b) ∈ l') : x = false ∧ y = false := by
  unfold apartL at h
  have := List.all_eq_true.1 (List.all_eq_true.1 h _ h1) _ h2
  simpa using this

/-- The text's run, step by step. -/
structure Trace (P : Program) (call : Caller) (ops : Array Oper) (as : List Nat) (F : Nat → Fr) (M : Nat → Mem) (G : Nat → Log) : Prop where
  step : ∀ k o, ops[k]? = some o → stepX P call ops (F k) o { M k with log := [] } = some (F (k + 1), { M (k + 1) with log := G k })
  apart : ∀ i k y, i < k → k < ops.size → as[k]? = some y → y.testBit i = true ∨ apartL (G k) (G i) = true

theorem draw_trace {call : Caller} {ops : Array Oper} : ∀ (l : List Oper) (as : List Nat) (i : Nat) (logs : List (Nat × Log)) (fr fr' : Fr) (m m' : Mem), drawX P call ops l as i logs fr m = some (fr', m') →
    ∃ (F : Nat → Fr) (M : Nat → Mem) (G : Nat → Log), F i = fr ∧ M i = m ∧ F (i + l.length) = fr' ∧ M (i + l.length) = m' ∧
      (∀ k o, l[k]? = some o → stepX P call ops (F (i + k)) o { M (i + k) with log := [] } = some (F (i + k + 1), { M (i + k + 1) with log := G (i + k) })) ∧
      ∀ k y, as[k]? = some y → k < l.length → (∀ p ∈ logs, y.testBit p.1 = true ∨ apartL (G (i + k)) p.2 = true) ∧ ∀ j, j < k → y.testBit (i + j) = true ∨ apartL (G (i + k)) (G (i + j)) = true
  | [], as, i, logs, fr, fr', m, m', h => by
    have h' : M.ret fr m = some (fr', m') := by cases as <;> exact h
    obtain ⟨rfl, rfl⟩ := ret_some h'
    exact ⟨fun _ => fr, fun _ => m, fun _ => [], rfl, rfl, rfl, rfl, fun k o ho => by simp at ho, fun k y _ hk => by simp at hk⟩
  | o :: l, [], i, logs, fr, fr', m, m', h => (fail_some h).elim
  | o :: l, a :: as, i, logs, fr, fr', m, m', h => by
    obtain ⟨q, m1, h1, h2⟩ := bind_some h
    obtain ⟨fr1, log⟩ := q
    obtain ⟨u, m2, h3, h4⟩ := bind_some h2
    obtain ⟨hg, rfl⟩ := guard_some h3
    obtain ⟨e1, e2⟩ := logged_some h1
    obtain ⟨F, M, G, f1, f2, f3, f4, f5, f6⟩ := draw_trace l as (i + 1) ((i, log) :: logs) fr1 fr' m1 m' h4
    refine ⟨fun j => if j = i then fr else F j, fun j => if j = i then m else M j, fun j => if j = i then log else G j, if_pos rfl, if_pos rfl, ?_, ?_, fun k p hk => ?_, fun k y hy hk => ?_⟩
    · simp only [List.length_cons]; rw [if_neg (by omega), show i + (l.length + 1) = i + 1 + l.length by omega]; exact f3
    · simp only [List.length_cons]; rw [if_neg (by omega), show i + (l.length + 1) = i + 1 + l.length by omega]; exact f4
    · cases k with
      | zero =>
        obtain rfl : o = p := by simpa using hk
        simp only [Nat.add_zero, if_true]
        rw [if_neg (by omega), if_neg (by omega), f1, f2]
        exact e1
      | succ k =>
        have := f5 k p (by simpa using hk)
        simp only
        rw [if_neg (by omega), if_neg (by omega), if_neg (by omega), if_neg (by omega), if_neg (by omega), show i + (k + 1) = i + 1 + k by omega]
        exact this
    · cases k with
      | zero =>
        obtain rfl : a = y := by simpa using hy
        simp only [Nat.add_zero, if_true]
        exact ⟨apartAll_spec hg, fun j hj => by omega⟩
      | succ k =>
        obtain ⟨g1, g2⟩ := f6 k y (by simpa using hy) (by simpa using hk)
        simp only
        rw [if_neg (by omega), show i + (k + 1) = i + 1 + k by omega]
        refine ⟨fun p hp => g1 p (by simp [hp]), fun j hj => ?_⟩
        cases j with
        | zero => rw [Nat.add_zero, if_pos rfl]; exact g1 (i, log) (by simp)
        | succ j => rw [if_neg (by omega), show i + (j + 1) = i + 1 + j by omega]; exact g2 j (by omega)

/-- Where a region stands, some of its operations done. -/
structure Inv (N : Nat) (ops : Array Oper) (F : Nat → Fr) (M : Nat → Mem) (G : Nat → Log) (ρ0 : Env) (w0 : World) (listed : Array Bool) (a : Act) (w : World) (T : Fr) (X : Mem) (ρ : Env) : Prop where
  size : listed.size = ops.size
  closed : ∀ (k : Nat) (o : Oper), ops[k]? = some o → listed.getD k false = true → ∀ e ∈ o.after, Region.binds .any e = true → listed.getD e.on false = true
  rel : Rel N ρ X.t.get w
  frame : FrR ρ T a
  tn : T.n = (F 0).n
  td : T.d = (F 0).d
  log : X.log = []
  mem : ∀ b j, j ≤ ops.size → (∀ k, k < ops.size → (true, b) ∈ G k → (listed.getD k false = true ↔ k < j)) → X.t.get b = (M j).t.get b
  tmps : ∀ t j, j ≤ ops.size → (∀ (k : Nat) (o : Oper), ops[k]? = some o → o.dst = some t → (listed.getD k false = true ↔ k < j)) → T.at t = (F j).at t
  ext : Ext ρ0 ρ
  dom : ∀ b, ρ0 b = none → ρ b ≠ none → ∃ k, listed.getD k false = true ∧ (M k).next ≤ b ∧ b < (M (k + 1)).next
  below : Keeps N w0 w
  marks : ∀ b p, ρ0 b = none → ρ b = some p → p.fin < p.off → w0.heap.size ≤ p.blk

section
variable {call : Caller} {ops : Array Oper} {as : List Nat} {F : Nat → Fr} {M : Nat → Mem} {G : Nat → Log} {ρ0 : Env} {w0 : World} {listed : Array Bool} {a : Act} {T : Fr} {X : Mem}

/-- All that an operation's bits name has come. -/
theorem Inv.come (h : Inv N ops F M G ρ0 w0 listed a w T X ρ) (pl : Plan ops as) : ∀ (k : Nat) (o : Oper) (y j : Nat), ops[k]? = some o → as[k]? = some y → (∀ e ∈ o.after, Region.binds .any e = true → listed.getD e.on false = true) → y.testBit j = true → listed.getD j false = true := by
  intro k
  induction k using Nat.strongRecOn with
  | _ k ih =>
    intro o y j ho hy hall hj
    obtain ⟨e, he, hb, h1⟩ := pl.path k o y ho hy j hj
    rcases h1 with rfl | ⟨z, hz, hzj⟩
    · exact hall e he hb
    · have hlt := pl.down k o ho e he hb
      have hsz := (Array.getElem?_eq_some_iff.1 ho).1
      obtain ⟨o2, ho2⟩ : ∃ o2, ops[e.on]? = some o2 := ⟨ops[e.on]'(by omega), Array.getElem?_eq_getElem _⟩
      exact ih e.on hlt o2 z j ho2 hz (h.closed e.on o2 ho2 (hall e he hb)) hzj

theorem getD_set (l : Array Bool) (k j : Nat) (hk : k < l.size) : (l.setIfInBounds k true).getD j false = if j = k then true else l.getD j false := by
  simp only [Array.getD_eq_getD_getElem?, Array.getElem?_setIfInBounds]
  by_cases h : k = j
  · subst h; simp [hk]
  · rw [if_neg h, if_neg (Ne.symm h)]

theorem as_get (pl : Plan ops as) {k : Nat} (hk : k < ops.size) : ∃ y, as[k]? = some y := ⟨as[k]'(by rw [pl.len]; exact hk), List.getElem?_eq_getElem _⟩

/-- An operation whose turn may have come finds what it looks at as the text's run has it. -/
theorem Inv.turn (h : Inv N ops F M G ρ0 w0 listed a w T X ρ) (pl : Plan ops as) (tr : Trace P call ops as F M G) {k : Nat} {o : Oper} (ho : ops[k]? = some o) (hun : listed.getD k false = false)
    (hall : ∀ e ∈ o.after, Region.binds .any e = true → listed.getD e.on false = true) : (∀ p ∈ G k, ∀ i, i < ops.size → (true, p.2) ∈ G i → (listed.getD i false = true ↔ i < k)) ∧
      ∀ t, (t ∈ reads ops o ∨ o.dst = some t) → ∀ (i : Nat) (q : Oper), ops[i]? = some q → q.dst = some t → (listed.getD i false = true ↔ i < k) := by
  have hk := (Array.getElem?_eq_some_iff.1 ho).1
  obtain ⟨y, hy⟩ := as_get pl hk
  have later : ∀ i, k < i → i < ops.size → ∀ z, as[i]? = some z → z.testBit k = true → ¬ listed.getD i false = true := by
    intro i hki hi z hz hb hl
    obtain ⟨q, hq⟩ : ∃ q, ops[i]? = some q := ⟨ops[i], Array.getElem?_eq_getElem _⟩
    have := h.come pl i q z k hq hz (h.closed i q hq hl) hb
    rw [hun] at this; cases this
  refine ⟨fun p hp i hi hw => ?_, fun t ht i q hq hd => ?_⟩
  · rcases Nat.lt_trichotomy i k with hlt | rfl | hgt
    · refine ⟨fun _ => hlt, fun _ => ?_⟩
      rcases tr.apart i k y hlt hk hy with hb | hap
      · exact h.come pl k o y i ho hy hall hb
      · have := apartL_spec hap (x := p.1) (b := p.2) hp hw
        simp at this
    · constructor
      · intro hl; rw [hun] at hl; cases hl
      · intro hlt; omega
    · obtain ⟨z, hz⟩ := as_get pl hi
      constructor
      · intro hl
        rcases tr.apart k i z hgt hi hz with hb | hap
        · exact absurd hl (later i hgt hi z hz hb)
        · have := apartL_spec hap (y := p.1) (b := p.2) hw hp
          simp at this
      · intro hlt; omega
  · have hi := (Array.getElem?_eq_some_iff.1 hq).1
    have hwq : t ∈ writes q := by unfold writes; simp [hd]
    have key : ∀ o1 o2, apartT ops o1 o2 = true → (t ∈ writes o1 → t ∉ reads ops o2 ∧ t ∉ writes o2) ∧ (t ∈ reads ops o1 → t ∉ writes o2) := by
      intro o1 o2 hap
      unfold apartT at hap
      simp only [Bool.and_eq_true, List.all_eq_true, Bool.not_eq_true', List.contains_eq_mem, decide_eq_false_iff_not] at hap
      exact ⟨fun h1 => hap.1 t h1, fun h1 => hap.2 t h1⟩
    rcases Nat.lt_trichotomy i k with hlt | rfl | hgt
    · refine ⟨fun _ => hlt, fun _ => ?_⟩
      rcases pl.pairs i k q o y hlt hq ho hy with hb | hap
      · exact h.come pl k o y i ho hy hall hb
      · have := (key q o hap).1 hwq
        rcases ht with ht | ht
        · exact absurd ht this.1
        · exact absurd (by unfold writes; simp [ht]) this.2
    · constructor
      · intro hl; rw [hun] at hl; cases hl
      · intro hlt; omega
    · obtain ⟨z, hz⟩ := as_get pl hi
      constructor
      · intro hl
        rcases pl.pairs k i o q z hgt ho hq hz with hb | hap
        · exact absurd hl (later i hgt hi z hz hb)
        · rcases ht with ht | ht
          · exact absurd hwq ((key o q hap).2 ht)
          · exact absurd hwq ((key o q hap).1 (by unfold writes; simp [ht])).2
      · intro hlt; omega

theorem Trace.fn (tr : Trace P call ops as F M G) (hloc : LocalC call) : ∀ k, k ≤ ops.size → (F k).n = (F 0).n ∧ (F k).d = (F 0).d
  | 0, _ => ⟨rfl, rfl⟩
  | k + 1, hk => by
    obtain ⟨o, ho⟩ : ∃ o, ops[k]? = some o := ⟨ops[k], Array.getElem?_eq_getElem _⟩
    obtain ⟨h1, h2⟩ := (step_frame hloc (tr.step k o ho) rfl).1
    obtain ⟨h3, h4⟩ := tr.fn hloc k (by omega)
    exact ⟨h1.trans h3, h2.trans h4⟩
theorem Trace.memStay (tr : Trace P call ops as F M G) (hloc : LocalC call) (b : Nat) : ∀ i j, i ≤ j → j ≤ ops.size → (∀ k, i ≤ k → k < j → (true, b) ∉ G k) → (M j).t.get b = (M i).t.get b := by
  intro i j hij
  induction j with
  | zero => intro _ _; obtain rfl : i = 0 := by omega
            rfl
  | succ j ih =>
    intro hj hno
    by_cases h : i = j + 1
    · rw [h]
    · obtain ⟨o, ho⟩ : ∃ o, ops[j]? = some o := ⟨ops[j], Array.getElem?_eq_getElem _⟩
      have h1 := (step_frame hloc (tr.step j o ho) rfl).2.2 b (hno j (by omega) (by omega))
      have h2 := ih (by omega) (by omega) fun k hk hk2 => hno k hk (by omega)
      exact h1.trans h2
theorem Trace.tmpStay (tr : Trace P call ops as F M G) (hloc : LocalC call) (t : Nat) : ∀ i j, i ≤ j → j ≤ ops.size → (∀ (k : Nat) (o : Oper), i ≤ k → k < j → ops[k]? = some o → o.dst ≠ some t) → (F j).at t = (F i).at t := by
  intro i j hij
  induction j with
  | zero => intro _ _; obtain rfl : i = 0 := by omega
            rfl
  | succ j ih =>
    intro hj hno
    by_cases h : i = j + 1
    · rw [h]
    · obtain ⟨o, ho⟩ : ∃ o, ops[j]? = some o := ⟨ops[j], Array.getElem?_eq_getElem _⟩
      have h1 := (step_frame hloc (tr.step j o ho) rfl).2.1 t (hno j o (by omega) (by omega) ho)
      have h2 := ih (by omega) (by omega) fun k o hk hk2 => hno k o hk (by omega)
      exact h1.trans h2
theorem Trace.nextMono (tr : Trace P call ops as F M G) (hloc : LocalC call) : ∀ i j, i ≤ j → j ≤ ops.size → (M i).next ≤ (M j).next := by
  intro i j hij
  induction j with
  | zero => intro _; obtain rfl : i = 0 := by omega
            exact Nat.le_refl _
  | succ j ih =>
    intro hj
    by_cases h : i = j + 1
    · rw [h]; exact Nat.le_refl _
    · obtain ⟨o, ho⟩ : ∃ o, ops[j]? = some o := ⟨ops[j], Array.getElem?_eq_getElem _⟩
      have h1 := next_mono (Local.stepX hloc ops (F j) o) (tr.step j o ho)
      exact Nat.le_trans (ih (by omega) (by omega)) h1


/-- At a turn: what the operation finds. -/
theorem Inv.finds (h : Inv N ops F M G ρ0 w0 listed a w T X ρ) (pl : Plan ops as) (tr : Trace P call ops as F M G) {k : Nat} {o : Oper} (ho : ops[k]? = some o) (hun : listed.getD k false = false)
    (hall : ∀ e ∈ o.after, Region.binds .any e = true → listed.getD e.on false = true) : (∀ p ∈ G k, X.t.get p.2 = (M k).t.get p.2) ∧ ∀ t, (t ∈ reads ops o ∨ o.dst = some t) → T.at t = (F k).at t := by
  have hk := (Array.getElem?_eq_some_iff.1 ho).1
  obtain ⟨h1, h2⟩ := h.turn pl tr ho hun hall
  exact ⟨fun p hp => h.mem p.2 k (by omega) fun i hi hw => h1 p hp i hi hw, fun t ht => h.tmps t k (by omega) fun i q hq hd => h2 t ht i q hq hd⟩

/-- One operation more. -/
theorem Inv.next (h : Inv N ops F M G ρ0 w0 listed a w T X ρ) (pl : Plan ops as) (tr : Trace P call ops as F M G) (hloc : LocalC call) {k : Nat} {o : Oper} (ho : ops[k]? = some o) (hun : listed.getD k false = false)
    (hall : ∀ e ∈ o.after, Region.binds .any e = true → listed.getD e.on false = true) {T' : Fr} {X' : Mem} (hlog : X'.log = G k) (hnx : X'.next = (M (k + 1)).next)
    (hw1 : ∀ b, (true, b) ∈ G k → X'.t.get b = (M (k + 1)).t.get b) (hw2 : ∀ b, (true, b) ∉ G k → X'.t.get b = X.t.get b) (hn : T'.n = T.n ∧ T'.d = T.d) (ht1 : ∀ t, o.dst = some t → T'.at t = (F (k + 1)).at t) (ht2 : ∀ t, o.dst ≠ some t → T'.at t = T.at t)
    {a' : Act} {w' : World} {ρ' : Env} (hf : AfterF N ρ { X with next := (M k).next, log := [] } X' w T' a' w' ρ') :
    Inv N ops F M G ρ0 w0 (listed.setIfInBounds k true) a' w' T' { X' with log := [] } ρ' := by
  have hk := (Array.getElem?_eq_some_iff.1 ho).1
  have hks : k < listed.size := by rw [h.size]; exact hk
  obtain ⟨t1, t2⟩ := h.turn pl tr ho hun hall
  refine ⟨by simp [h.size], fun i q hq hl e he hb => ?_, hf.rel, hf.frame, by rw [hn.1]; exact h.tn, by rw [hn.2]; exact h.td, rfl, fun b j hj hS => ?_, fun t j hj hS => ?_, h.ext.trans hf.ext, fun b hb hb' => ?_, h.below.trans hf.below, fun b p hb hp hm => by
    cases hc : ρ b with
    | none => exact Nat.le_trans h.below.size (hf.marks b p hc hp hm)
    | some q =>
      have := hf.ext b q hc
      rw [hp] at this
      obtain rfl := Option.some.inj this
      exact h.marks b p hb hc hm⟩
  · rw [getD_set _ _ _ hks] at hl ⊢
    by_cases hek : e.on = k
    · rw [if_pos hek]
    · rw [if_neg hek]
      by_cases hik : i = k
      · subst hik
        rw [ho] at hq
        obtain rfl := Option.some.inj hq
        exact hall e he hb
      · rw [if_neg hik] at hl
        exact h.closed i q hq hl e he hb
  · by_cases hw : (true, b) ∈ G k
    · -- k wrote it, and is its last writer so far
      have hkj : k < j := (hS k hk hw).1 (by rw [getD_set _ _ _ hks, if_pos rfl])
      show X'.t.get b = _
      rw [hw1 b hw]
      refine (tr.memStay hloc b (k + 1) j (by omega) hj fun i h1 h2 hwi => ?_).symm
      have hi : i < ops.size := by omega
      have := (hS i hi hwi).2 h2
      rw [getD_set _ _ _ hks, if_neg (by omega)] at this
      have := (t1 (true, b) hw i hi hwi).1 this
      omega
    · show X'.t.get b = _
      rw [hw2 b hw]
      refine h.mem b j hj fun i hi hwi => ?_
      have hik : i ≠ k := fun e => hw (e ▸ hwi)
      have := hS i hi hwi
      rwa [getD_set _ _ _ hks, if_neg hik] at this
  · by_cases hd : o.dst = some t
    · have hkj : k < j := (hS k o ho hd).1 (by rw [getD_set _ _ _ hks, if_pos rfl])
      rw [ht1 t hd]
      refine (tr.tmpStay hloc t (k + 1) j (by omega) hj fun i q h1 h2 hq hdi => ?_).symm
      have := (hS i q hq hdi).2 h2
      rw [getD_set _ _ _ hks, if_neg (by omega)] at this
      have := (t2 t (.inr hd) i q hq hdi).1 this
      omega
    · rw [ht2 t hd]
      refine h.tmps t j hj fun i q hq hdi => ?_
      have hik : i ≠ k := fun e => by subst e; rw [ho] at hq; obtain rfl := Option.some.inj hq; exact hd hdi
      have := hS i q hq hdi
      rwa [getD_set _ _ _ hks, if_neg hik] at this
  · by_cases hc : ρ b = none
    · have := hf.dom b hc hb'
      exact ⟨k, by rw [getD_set _ _ _ hks, if_pos rfl], this.1, by rw [← hnx]; exact this.2⟩
    · obtain ⟨i, h1, h2, h3⟩ := h.dom b hb hc
      refine ⟨i, ?_, h2, h3⟩
      rw [getD_set _ _ _ hks]
      split
      · rfl
      · exact h1

def unlisted (n : Nat) (listed : Array Bool) : List Nat := (List.range n).filter fun i => !listed.getD i false
theorem unlisted_set {n k : Nat} {listed : Array Bool} (hs : listed.size = n) (hk : k < n) (hun : listed.getD k false = false) : (unlisted n (listed.setIfInBounds k true)).length < (unlisted n listed).length := by
  have h1 : unlisted n (listed.setIfInBounds k true) = (unlisted n listed).filter fun i => i != k := by
    unfold unlisted
    rw [List.filter_filter]
    refine List.filter_congr fun i hi => ?_
    rw [getD_set _ _ _ (by omega)]
    by_cases hik : i = k
    · simp [hik]
    · simp [hik]
  rw [h1, List.length_filter_lt_length_iff_exists]
  refine ⟨k, ?_, by simp⟩
  unfold unlisted
  rw [List.mem_filter]
  exact ⟨List.mem_range.2 hk, by simp only [hun, Bool.not_false]⟩

/-- In whatever order. -/
theorem any_order {r : Option Nat} (hcall : CallOK P call) (hloc : LocalC call) (pl : Plan ops as) (tr : Trace P call ops as F M G) (hfresh : ∀ b, (M 0).next ≤ b → b < (M ops.size).next → ρ0 b = none) {Q : Exit → Act → World → Prop}
    (hQ : ∀ a' w' ρ', Ext ρ0 ρ' → (∀ b, ρ0 b = none → ρ' b ≠ none → (M 0).next ≤ b ∧ b < (M ops.size).next) → Rel N ρ' (M ops.size).t.get w' → FrR ρ' (F ops.size) a' → Keeps N w0 w' → (∀ b p, ρ0 b = none → ρ' b = some p → p.fin < p.off → w0.heap.size ≤ p.blk) → Q .normal a' w') :
    ∀ (fuel : Nat) (listed : Array Bool) (a : Act) (w : World) (T : Fr) (X : Mem) (ρ : Env), Inv N ops F M G ρ0 w0 listed a w T X ρ → (unlisted ops.size listed).length ≤ fuel → wpAnyIn (wideR r) 0 P .any ops Q fuel listed a w := by
  have hdone : ∀ (listed : Array Bool) (a : Act) (w : World) (T : Fr) (X : Mem) (ρ : Env), Inv N ops F M G ρ0 w0 listed a w T X ρ → Region.ready .any ops listed = [] → Q .normal a w := by
    intro listed a w T X ρ h hr
    have hfull : ∀ k, k < ops.size → listed.getD k false = true := by
      intro k
      induction k using Nat.strongRecOn with
      | _ k ih =>
        intro hk
        cases hl : listed.getD k false with
        | true => rfl
        | false =>
          exfalso
          obtain ⟨o, ho⟩ : ∃ o, ops[k]? = some o := ⟨ops[k], Array.getElem?_eq_getElem _⟩
          have : k ∈ Region.ready .any ops listed := by
            rw [mem_ready]
            refine ⟨?_, o, ho, fun e he hb => ?_⟩
            · have hks : k < listed.size := by rw [h.size]; exact hk
              simp only [Array.getD_eq_getD_getElem?, Array.getElem?_eq_getElem hks, Option.getD_some] at hl ⊢
              exact hl
            · have := pl.down k o ho e he hb
              exact ih e.on this (by omega)
          rw [hr] at this
          simp at this
    refine hQ a w ρ h.ext (fun b hb hb' => ?_) (h.rel.congr fun b => ?_) ⟨?_, fun t => ?_, by have := h.frame.defers; rw [h.td] at this; rw [(tr.fn hloc ops.size (Nat.le_refl _)).2]; exact this⟩ h.below h.marks
    · obtain ⟨k, h1, h2, h3⟩ := h.dom b hb hb'
      have hk : k < ops.size := by
        by_cases hk : k < ops.size
        · exact hk
        · rw [← h.size] at hk; simp [Array.getD_eq_getD_getElem?, Array.getElem?_eq_none (Nat.le_of_not_lt hk)] at h1
      have e1 := tr.nextMono hloc 0 k (by omega) (by omega)
      have e2 := tr.nextMono hloc (k + 1) ops.size (by omega) (Nat.le_refl _)
      omega
    · exact (h.mem b ops.size (Nat.le_refl _) fun k hk _ => ⟨fun _ => hk, fun _ => hfull k hk⟩).symm
    · rw [h.frame.size, h.tn, (tr.fn hloc ops.size (Nat.le_refl _)).1]
    · rw [← h.tmps t ops.size (Nat.le_refl _) fun k o ho _ => ⟨fun _ => (Array.getElem?_eq_some_iff.1 ho).1, fun _ => hfull k (Array.getElem?_eq_some_iff.1 ho).1⟩]
      exact h.frame.tmps t
  intro fuel
  induction fuel with
  | zero =>
    intro listed a w T X ρ h hu
    have hr : Region.ready .any ops listed = [] := by
      cases hr : Region.ready .any ops listed with
      | nil => rfl
      | cons k r =>
        exfalso
        have hm : k ∈ Region.ready .any ops listed := by rw [hr]; simp
        obtain ⟨h1, o, ho, _⟩ := mem_ready.1 hm
        have hk := (Array.getElem?_eq_some_iff.1 ho).1
        have hks : k < listed.size := by rw [h.size]; exact hk
        have : k ∈ unlisted ops.size listed := by
          unfold unlisted
          rw [List.mem_filter]
          refine ⟨List.mem_range.2 hk, ?_⟩
          simp only [Array.getD_eq_getD_getElem?, Array.getElem?_eq_getElem hks, Option.getD_some] at h1 ⊢
          rw [h1]; rfl
        have := List.length_pos_of_mem this
        omega
    exact ⟨hr, hdone listed a w T X ρ h hr⟩
  | succ fuel ih =>
    intro listed a w T X ρ h hu
    refine ⟨hdone listed a w T X ρ h, fun k hkr => ?_⟩
    obtain ⟨h1, o, ho, hall⟩ := mem_ready.1 hkr
    have hk := (Array.getElem?_eq_some_iff.1 ho).1
    have hks : k < listed.size := by rw [h.size]; exact hk
    have hun : listed.getD k false = false := by
      simp only [Array.getD_eq_getD_getElem?, Array.getElem?_eq_getElem hks, Option.getD_some] at h1 ⊢
      exact h1
    obtain ⟨f1, f2⟩ := h.finds pl tr ho hun hall
    have hstep := tr.step k o ho
    obtain ⟨T', X', e1, e2, e3, e4, e5, e6, e7, e8⟩ := step_again hloc hstep rfl (fr2 := T) (by rw [h.tn, (tr.fn hloc k (by omega)).1]) (fun t ht => f2 t (.inl ht)) { X with next := (M k).next, log := [] } rfl rfl f1
    have hfr : Fresh ρ { X with next := (M k).next, log := [] } X' := by
      intro b hb hb'
      rw [e3] at hb'
      simp only at hb hb'
      have n1 := tr.nextMono hloc 0 k (by omega) (by omega)
      have n2 := tr.nextMono hloc (k + 1) ops.size (by omega) (Nat.le_refl _)
      have h0 : ρ0 b = none := hfresh b (by omega) (by omega)
      by_cases hc : ρ b = none
      · exact hc
      · exfalso
        obtain ⟨i, i1, i2, i3⟩ := h.dom b h0 hc
        have hi : i < ops.size := by
          by_cases hi : i < ops.size
          · exact hi
          · rw [← h.size] at hi; simp [Array.getD_eq_getD_getElem?, Array.getElem?_eq_none (Nat.le_of_not_lt hi)] at i1
        have hik : i ≠ k := fun e => by subst e; rw [hun] at i1; cases i1
        rcases Nat.lt_or_gt_of_ne hik with hlt | hgt
        · have := tr.nextMono hloc (i + 1) k (by omega) (by omega); omega
        · have := tr.nextMono hloc (k + 1) i (by omega) (by omega); omega
    unfold wpOpIn
    simp only [ho]
    refine step_does hcall h.frame e1 (h.rel) hfr fun a' w' ρ' hf => ?_
    have hnext := h.next pl tr hloc ho hun hall (T' := T') (X' := X') e2 e3 e4 e5 e6 e7 e8 hf
    refine ih _ a' w' T' _ ρ' hnext ?_
    have := unlisted_set h.size hk hun
    omega

theorem region_any {r : Option Nat} (hcall : CallOK P call) (hloc : LocalC call) (hmix : P.follows .mixedOrders = true) {id : Nat} {fr fr' : Fr} {as : List Nat} (hp : planX ops = some as) (h : drawX P call ops ops.toList as 0 [] fr m = some (fr', m')) (hfr : FrR ρ fr a) (hr : Rel N ρ m.t.get w) (hf : Fresh ρ m m')
    {Q : Exit → Act → World → Prop} (hQ : ∀ a' w' ρ', AfterF N ρ m m' w fr' a' w' ρ' → Q .normal a' w') : (Code.region id ops true).wpIn (wideR r) 0 P Q a w := by
  have pl := plan_ok hp
  obtain ⟨F, M, G, f1, f2, f3, f4, f5, f6⟩ := draw_trace ops.toList as 0 [] fr fr' m m' h
  simp only [Nat.zero_add, Array.length_toList] at f3 f4 f5 f6
  have tr : Trace P call ops as F M G := ⟨fun k o ho => f5 k o (by simpa using ho), fun i k y hik hk hy => (f6 k y hy hk).2 i hik⟩
  refine wpIn_region_any hmix ?_
  have hbel : Keeps N w { w with drawn := w.drawn + 1 } := (Keeps.refl N w).drew
  have hl0 : ∀ k, (Array.replicate ops.size false).getD k false = false := fun k => by
    simp only [Array.getD_eq_getD_getElem?, Array.getElem?_replicate]; split <;> rfl
  refine any_order (N := N) (ρ0 := ρ) (w0 := w) hcall hloc pl tr (by rw [f2, f4]; exact hf) (fun a' w' ρ' g1 g2 g3 g4 g5 g6 => hQ a' w' ρ' ⟨g1, by rw [f2, f4] at g2; exact g2, by rw [f4] at g3; exact g3, by rw [f3] at g4; exact g4, g5, g6⟩)
    ops.size _ a _ fr { m with log := [] } ρ ⟨by simp, fun k o _ hl => ?_, hr.heap rfl, hfr, by rw [f1], by rw [f1], rfl, fun b j hj hS => ?_, fun t j hj hS => ?_, .refl ρ, fun b hb hb' => absurd hb hb', hbel, fun b p h h' => absurd (h.symm.trans h') (by simp)⟩ ?_
  · rw [hl0] at hl; cases hl
  · show m.t.get b = _
    rw [← f2]
    refine (tr.memStay hloc b 0 j (by omega) hj fun k _ hk hw => ?_).symm
    have := (hS k (by omega) hw).2 hk
    rw [hl0] at this; cases this
  · rw [← f1]
    refine (tr.tmpStay hloc t 0 j (by omega) hj fun k o _ hk ho hd => ?_).symm
    have := (hS k o ho hd).2 hk
    rw [hl0] at this; cases this
  · unfold unlisted
    exact Nat.le_trans (List.length_filter_le _ _) (by simp)

end

end Go.Clean

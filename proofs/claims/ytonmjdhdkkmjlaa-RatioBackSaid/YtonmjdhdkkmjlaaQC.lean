/- Polynomials in the clean executor: lists of whole complex numbers in memory; rules for rows. -/
import Derived.Test.YtonmjdhdkkmjlaaQB
namespace Go.Proofs.Ytonmjdhdkkmjlaa
open Go.Clean

/-! ### Memory that only grows -/
/-- No block lies beyond the next name. -/
def MW (m : Mem) : Prop := ∀ b x, m.at b = some x → b < m.next
structure Up (m m' : Mem) : Prop where
  next : m.next ≤ m'.next
  old : ∀ c, c < m.next → m'.at c = m.at c
  wf : MW m → MW m'
theorem Up.refl (m : Mem) : Up m m := ⟨Nat.le_refl _, fun _ _ => rfl, fun h => h⟩
theorem Up.trans {m m1 m2 : Mem} (h : Up m m1) (k : Up m1 m2) : Up m m2 := ⟨Nat.le_trans h.next k.next, fun c hc => (k.old c (Nat.lt_of_lt_of_le hc h.next)).trans (h.old c hc), fun w => k.wf (h.wf w)⟩
theorem Up.nw (m : Mem) (x : Blk) : Up m (m.nw x) := ⟨by simp, fun c hc => by simp only [Mem.at_nw]; rw [if_neg (by omega)], fun w c y hc => by
  simp only [Mem.at_nw, Mem.next_nw] at hc ⊢
  split at hc
  · omega
  · have := w c y hc; omega⟩
theorem Up.rd (m : Mem) (b : Nat) : Up m (m.rd b) := ⟨by simp, fun c _ => by simp, fun w c y hc => by simp at hc ⊢; exact w c y hc⟩
theorem Up.at {m m' : Mem} (h : Up m m') {b : Nat} {x : Blk} (hb : m.at b = some x) (hw : MW m) : m'.at b = some x := by rw [h.old b (hw b x hb)]; exact hb
theorem Up.same {m m' : Mem} (hn : m'.next = m.next) (e : ∀ c, m'.at c = m.at c) : Up m m' := ⟨by omega, fun c _ => e c, fun w c y hc => by rw [hn]; rw [e] at hc; exact w c y hc⟩
/-- A write to a block of one's own. -/
theorem Up.wr {m m1 m' : Mem} (h : Up m m1) {b : Nat} {x : Blk} (hb : m.next ≤ b) (hb2 : b < m1.next) (hn : m'.next = m1.next) (e : ∀ c, m'.at c = if c = b then some x else m1.at c) : Up m m' :=
  ⟨by rw [hn]; exact h.next, fun c hc => by rw [e, if_neg (by omega)]; exact h.old c hc, fun w c y hc => by
    rw [hn]
    rw [e] at hc
    split at hc
    · omega
    · exact h.wf w c y hc⟩
theorem Up.gone {m m1 m' : Mem} (h : Up m m1) {b : Nat} (hb : m.next ≤ b) (hn : m1.next ≤ m'.next) (e : ∀ c, m'.at c = if c = b then none else m1.at c) : Up m m' :=
  ⟨Nat.le_trans h.next hn, fun c hc => by rw [e, if_neg (by omega)]; exact h.old c hc, fun w c y hc => by
    rw [e] at hc
    split at hc
    · cases hc
    · have := h.wf w c y hc; omega⟩

/-! ### Lists -/
/-- These cells are these numbers. -/
def CL (cells : List Value) (n : Nat) (c : PG) : Prop := cells.length = n ∧ ∀ i, i < n → ∃ z, cells[i]? = some (cx z) ∧ WC z (c i)
theorem CL.one {cells : List Value} {n : Nat} {c : PG} (h : CL cells n c) : cells.all oneV = true := by
  rw [List.all_eq_true]
  intro v hv
  obtain ⟨i, hi, hv⟩ := List.mem_iff_getElem.1 hv
  obtain ⟨z, hz, _⟩ := h.2 i (by rw [← h.1]; exact hi)
  rw [List.getElem?_eq_getElem hi] at hz
  rw [← hv, Option.some.inj hz]
  rfl
theorem CL.congr {cells : List Value} {n : Nat} {c d : PG} (h : CL cells n c) (e : ∀ i, i < n → c i = d i) : CL cells n d := ⟨h.1, fun i hi => by rw [← e i hi]; exact h.2 i hi⟩
theorem CL.set {cells : List Value} {n : Nat} {c d : PG} (h : CL cells n c) {i : Nat} (hi : i < n) {z : C} {g : G} (hz : WC z g) (e : ∀ k, k < n → d k = if k = i then g else c k) : CL (cells.set i (cx z)) n d := by
  refine ⟨by rw [List.length_set]; exact h.1, fun k hk => ?_⟩
  rw [List.getElem?_set, e k hk]
  by_cases hki : k = i
  · subst hki
    rw [if_pos rfl, if_pos (by rw [h.1]; exact hk), if_pos rfl]
    exact ⟨z, rfl, hz⟩
  · rw [if_neg (fun h => hki h.symm), if_neg hki]
    exact h.2 k hk
theorem CL.push {cells : List Value} {n : Nat} {c d : PG} (h : CL cells n c) {z : C} (hz : WC z (d n)) (e : ∀ k, k < n → d k = c k) : CL (cells ++ [cx z]) (n + 1) d := by
  have hl := h.1
  refine ⟨by simp [h.1], fun k hk => ?_⟩
  by_cases hkn : k = n
  · subst hkn
    rw [List.getElem?_append_right (by omega), h.1, Nat.sub_self]
    exact ⟨z, rfl, hz⟩
  · rw [List.getElem?_append_left (by rw [h.1]; omega), e k (by omega)]
    exact h.2 k (by omega)
/-- A slice whose elements are these numbers. -/
def PL (m : Mem) (v : Value) (n : Nat) (c : PG) : Prop :=
  ∃ b o k x, v = .slice (some ⟨b, o, none⟩) n k ∧ n ≤ k ∧ m.at b = some x ∧ x.sz = 1 ∧ ∀ i, i < n → ∃ z, x.cells[o + i]? = some (cx z) ∧ WC z (c i)
theorem PL.up {m m' : Mem} {v : Value} {n : Nat} {c : PG} (h : PL m v n c) (hw : MW m) (u : Up m m') : PL m' v n c := by
  obtain ⟨b, o, k, x, h1, h0, h2, h3⟩ := h
  exact ⟨b, o, k, x, h1, h0, u.at h2 hw, h3⟩
theorem PL.keep {m m' : Mem} {v : Value} {n : Nat} {c : PG} (h : PL m v n c) (e : ∀ b, m'.at b = m.at b) : PL m' v n c := by
  obtain ⟨b, o, k, x, h1, h0, h2, h3⟩ := h
  exact ⟨b, o, k, x, h1, h0, by rw [e]; exact h2, h3⟩
theorem PL.congr {m : Mem} {v : Value} {n : Nat} {c d : PG} (h : PL m v n c) (e : ∀ i, i < n → c i = d i) : PL m v n d := by
  obtain ⟨b, o, k, x, h1, h0, h2, h3, h4⟩ := h
  exact ⟨b, o, k, x, h1, h0, h2, h3, fun i hi => by rw [← e i hi]; exact h4 i hi⟩
theorem PL.own {m : Mem} {b n : Nat} {cells : List Value} {gr ro : Bool} {c : PG} (hb : m.at b = some ⟨cells, 1, gr, ro⟩) (h : CL cells n c) : PL m (.slice (some ⟨b, 0, none⟩) n n) n c :=
  ⟨b, 0, n, _, rfl, Nat.le_refl _, hb, rfl, fun i hi => by rw [Nat.zero_add]; exact h.2 i hi⟩
/-- Fewer of them. -/
theorem PL.less {m : Mem} {b o n k k' n' : Nat} {c : PG} (h : PL m (.slice (some ⟨b, o, none⟩) n k) n c) (hn : n' ≤ n) (hk : n' ≤ k') : PL m (.slice (some ⟨b, o, none⟩) n' k') n' c := by
  obtain ⟨b', o', k2, x, h1, h0, h2, h3, h4⟩ := h
  cases h1
  exact ⟨b, o, k', x, rfl, hk, h2, h3, fun i hi => h4 i (by omega)⟩
theorem PL.take {m : Mem} {b o n k : Nat} {c : PG} (h : PL m (.slice (some ⟨b, o, none⟩) n k) n c) : ∃ x l, m.at b = some x ∧ takeN x.cells o n = some l ∧ CL l n c := by
  obtain ⟨b', o', k2, x, h1, h0, h2, h3, h4⟩ := h
  cases h1
  have hf : ∀ n', n' ≤ n → ∃ l : List Value, l.length = n' ∧ ∀ i, i < n' → x.cells[o + i]? = l[i]? := by
    intro n'
    induction n' with
    | zero => exact fun _ => ⟨[], rfl, fun i hi => by omega⟩
    | succ n' ih =>
      intro hn
      obtain ⟨l, hl, he⟩ := ih (by omega)
      obtain ⟨z, hz, _⟩ := h4 n' (by omega)
      refine ⟨l ++ [cx z], by simp [hl], fun i hi => ?_⟩
      by_cases hin : i = n'
      · subst hin
        rw [hz, List.getElem?_append_right (by omega), hl, Nat.sub_self]; rfl
      · rw [he i (by omega), List.getElem?_append_left (by omega)]
  obtain ⟨l, hl, he⟩ := hf n (Nat.le_refl _)
  refine ⟨x, l, h2, takeN_get _ _ _ _ hl he ?_, hl, fun i hi => ?_⟩
  · by_cases hz : n = 0
    · exact .inl hz
    · obtain ⟨z, hz, _⟩ := h4 (n - 1) (by omega)
      have := (List.getElem?_eq_some_iff.1 hz).1
      exact .inr (by omega)
  · rw [← he i hi]; exact h4 i hi

/-! ### Rows -/
section
variable {m : Mem} {Q : Value → Mem → Prop}
theorem gives_slice_hi {b o len cap k : Nat} {q : IntKind} {x : Blk} (hb : m.at b = some x) (hs : x.sz = 1) (hk : k ≤ cap) (h : Q (.slice (some ⟨b, o, none⟩) k cap) (m.rd b)) :
    Gives (sliceX Try.prog 24 (.slice (some ⟨b, o, none⟩) len cap) none (some (.int q k)) none) m Q := by
  unfold sliceX
  simp only [under_L, size_c]
  rw [gives_bind, gives_getB, hb, optQ_some, gives_bind, gives_guard]
  refine ⟨by rw [hs]; rfl, ?_⟩
  have e1 : boundX (some (Value.int q (k : Int))) len cap = some k := by
    show (bif decide (0 ≤ (k : Int) ∧ (k : Int) ≤ (cap : Int)) then some (Int.toNat (k : Int)) else none) = some k
    have : decide (0 ≤ (k : Int) ∧ (k : Int) ≤ (cap : Int)) = true := by simp; omega
    rw [this]; simp
  have e2 : boundX none 0 k = some 0 := rfl
  simp only [e1, e2, Nat.zero_mul, Nat.add_zero, Nat.sub_zero, beq_self_eq_true, Bool.or_true, Bool.true_or, cond_true]
  rw [gives_ret]
  cases hc : cap == 0 <;> exact h
theorem gives_slice3 {b o len cap k : Nat} {q q' : IntKind} {x : Blk} (hb : m.at b = some x) (hs : x.sz = 1) (hk : k ≤ cap) (h : Q (.slice (some ⟨b, o, none⟩) k k) (m.rd b)) :
    Gives (sliceX Try.prog 24 (.slice (some ⟨b, o, none⟩) len cap) none (some (.int q k)) (some (.int q' k))) m Q := by
  unfold sliceX
  simp only [under_L, size_c]
  rw [gives_bind, gives_getB, hb, optQ_some, gives_bind, gives_guard]
  refine ⟨by rw [hs]; rfl, ?_⟩
  rw [gives_bind, gives_guard]
  refine ⟨by simp; omega, ?_⟩
  have e2 : boundX none 0 (Int.toNat (k : Int)) = some 0 := rfl
  simp only [e2]
  rw [gives_ret]
  simp only [Int.toNat_natCast, Nat.zero_mul, Nat.add_zero, Nat.sub_zero]
  cases hc : k == 0 <;> exact h
/-- append([]complex128{}, l...) -/
theorem gives_build0 (h : Q (.slice (some ⟨m.next, 0, none⟩) 0 0) (m.nw ⟨[], 1, false, false⟩)) : Gives (buildSliceX Try.prog 24 0 []) m Q := by
  unfold buildSliceX
  simp only [under_L, size_c, zero_c]
  rw [gives_bind, gives_guard]
  refine ⟨rfl, ?_⟩
  show Gives (newX [] 1 false >>= fun b => _) m Q
  rw [gives_bind, gives_newX]
  exact ⟨rfl, (gives_ret _ _ _).2 h⟩
/-- Elements behind an empty literal. -/
theorem gives_append_lit {b b2 o k c : Nat} {x : Blk} (ha : m.at b = some ⟨[], 1, false, false⟩) (hb : m.at b2 = some x) {new : List Value} (hn : takeN x.cells o k = some new) (ho : new.all oneV = true) (hk : 0 < k) (hk2 : k ≤ 1048576)
    (q : Q (.slice (some ⟨m.next, 0, none⟩) k k) (((m.rd b2).rd b).nw ⟨new, 1, true, false⟩)) : Gives (appendX Try.prog 24 24 (.slice (some ⟨b, 0, none⟩) 0 0) (.slice (some ⟨b2, o, none⟩) k c)) m Q := by
  obtain ⟨hsz, e, e', i, z, h1, h2, h3, h4, h5, h6⟩ := app_spec app_L
  unfold appendX
  simp only [h1, h3, h4, h6]
  rw [gives_bind, gives_guard]
  refine ⟨rfl, ?_⟩
  rw [gives_bind]
  unfold elemsX
  rw [gives_bind, gives_getB, hb, optQ_some, gives_ret, h5, Nat.mul_one, hn]
  dsimp only
  rw [gives_bind, gives_getB, Mem.at_rd, ha, optQ_some, gives_bind, gives_guard]
  have hc : Nat.ble (0 + k) 0 = false := by rw [← Bool.not_eq_true, Nat.ble_eq]; omega
  refine ⟨by simp only [sliceLen, Bool.and_eq_true, beq_self_eq_true, true_and, Nat.ble_eq]; omega, ?_⟩
  simp only [sliceLen, hc, cond_false]
  have ht : takeN ([] : List Value) 0 (0 * 1) = some [] := rfl
  rw [ht]
  dsimp only
  rw [gives_bind, gives_newX]
  refine ⟨by simpa using ho, (gives_ret _ _ _).2 ?_⟩
  rw [Nat.zero_add]
  exact q
/-- One more element, where there is room. -/
theorem gives_append_room {b b2 n c : Nat} {gr : Bool} {v : Value} {cells : List Value} (ha : m.at b = some ⟨cells, 1, gr, false⟩) (hb : m.at b2 = some ⟨[v], 1, false, false⟩) (ho : oneV v = true) (hk : n < c) (hl : cells.length = c) (hk2 : c ≤ 1048576)
    (q : Q (.slice (some ⟨b, 0, none⟩) (n + 1) c) (((m.rd b2).rd b).wr b (some ⟨cells.set n v, 1, gr, false⟩))) : Gives (appendX Try.prog 24 24 (.slice (some ⟨b, 0, none⟩) n c) (.slice (some ⟨b2, 0, none⟩) 1 1)) m Q := by
  obtain ⟨hsz, e, e', i, z, h1, h2, h3, h4, h5, h6⟩ := app_spec app_L
  unfold appendX
  simp only [h1, h3, h4, h6]
  rw [gives_bind, gives_guard]
  refine ⟨rfl, ?_⟩
  rw [gives_bind]
  unfold elemsX
  rw [gives_bind, gives_getB, hb, optQ_some, gives_ret, h5]
  have ht : takeN [v] 0 (1 * 1) = some [v] := rfl
  rw [ht]
  dsimp only
  rw [gives_bind, gives_getB, Mem.at_rd, ha, optQ_some, gives_bind, gives_guard]
  have hc : Nat.ble (n + 1) c = true := by rw [Nat.ble_eq]; omega
  refine ⟨by simp only [sliceLen, Bool.and_eq_true, beq_self_eq_true, true_and, Nat.ble_eq]; omega, ?_⟩
  simp only [sliceLen, hc, cond_true]
  rw [show ((1 : Nat) == 0) = false from rfl, cond_false]
  refine (gives_bind _ _ _ _).2 ((gives_guard _ _ _).2 ⟨by simp [ho], ?_⟩)
  refine (gives_laid _ _ _ (fun l => (do setB b (some { (⟨cells, 1, gr, false⟩ : Blk) with cells := l }); M.ret (Value.slice (some ⟨b, 0, none⟩) (n + 1) c))) _ _).2 ?_
  rw [Nat.mul_one, Nat.zero_add, lay_one, if_pos (by omega), optQ_some, gives_bind, gives_setB, gives_ret]
  exact q
end
end Go.Proofs.Ytonmjdhdkkmjlaa

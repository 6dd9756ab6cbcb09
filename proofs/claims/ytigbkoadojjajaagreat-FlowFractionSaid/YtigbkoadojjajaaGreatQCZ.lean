/- Polynomials in the clean executor: lists of whole complex numbers in memory; rules for rows. -/
import Derived.Test.YtigbkoadojjajaaGreatQAZ
set_option linter.unusedSimpArgs false
set_option linter.unusedVariables false
namespace Go.Proofs.YtigbkoadojjajaaGreat
open Go.Clean

/-! ### Memory that only grows -/
/-- No block lies beyond the next name. -/
def MW (m : Mem) : Prop := ∀ b x, m.at b = some x → b < m.next
structure Up (m m' : Mem) : Prop where
  next : m.next ≤ m'.next
  old : ∀ c, c < m.next → m'.at c = m.at c
  wf : MW m → MW m'
theorem Up.refl (m : Mem) : Up m m := ⟨Nat.le_refl _, fun _ _ => rfl, fun h => h⟩
theorem Up.trans {m m1 m2 : Mem} (h : Up m m1) (k : Up m1 m2) : Up m m2 := ⟨Nat.le_trans h.next k.next, fun c hc => (k.old c (Nat.lt_of_lt_of_le hc h.next)).trans (h.old c hc), fun w => k.wf (h.wf w)⟩
theorem Up.nw (m : Mem) (x : Blk) : Up m (m.nw x) := ⟨by simp, fun c hc => by simp only [Mem.at_nw]; rw [if_neg (by omega)], fun w c y hc => by
  simp only [Mem.at_nw, Mem.next_nw] at hc ⊢
  split at hc
  · omega
  · have := w c y hc; omega⟩
theorem Up.rd (m : Mem) (b : Nat) : Up m (m.rd b) := ⟨by simp, fun c _ => by simp, fun w c y hc => by simp at hc ⊢; exact w c y hc⟩
theorem Up.at {m m' : Mem} (h : Up m m') {b : Nat} {x : Blk} (hb : m.at b = some x) (hw : MW m) : m'.at b = some x := by rw [h.old b (hw b x hb)]; exact hb
theorem Up.same {m m' : Mem} (hn : m'.next = m.next) (e : ∀ c, m'.at c = m.at c) : Up m m' := ⟨by omega, fun c _ => e c, fun w c y hc => by rw [hn]; rw [e] at hc; exact w c y hc⟩
/-- A write to a block of one's own. -/
theorem Up.wr {m m1 m' : Mem} (h : Up m m1) {b : Nat} {x : Blk} (hb : m.next ≤ b) (hb2 : b < m1.next) (hn : m'.next = m1.next) (e : ∀ c, m'.at c = if c = b then some x else m1.at c) : Up m m' :=
  ⟨by rw [hn]; exact h.next, fun c hc => by rw [e, if_neg (by omega)]; exact h.old c hc, fun w c y hc => by
    rw [hn]
    rw [e] at hc
    split at hc
    · omega
    · exact h.wf w c y hc⟩
theorem Up.gone {m m1 m' : Mem} (h : Up m m1) {b : Nat} (hb : m.next ≤ b) (hn : m1.next ≤ m'.next) (e : ∀ c, m'.at c = if c = b then none else m1.at c) : Up m m' :=
  ⟨Nat.le_trans h.next hn, fun c hc => by rw [e, if_neg (by omega)]; exact h.old c hc, fun w c y hc => by
    rw [e] at hc
    split at hc
    · cases hc
    · have := h.wf w c y hc; omega⟩

/-! ### Lists -/
/-- These cells are these numbers. -/
def CL (cells : List Value) (n : Nat) (c : PG) : Prop := cells.length = n ∧ ∀ i, i < n → ∃ z, cells[i]? = some (cx z) ∧ WC z (c i)
theorem CL.one {cells : List Value} {n : Nat} {c : PG} (h : CL cells n c) : cells.all oneV = true := by
  rw [List.all_eq_true]
  intro v hv
  obtain ⟨i, hi, hv⟩ := List.mem_iff_getElem.1 hv
  obtain ⟨z, hz, _⟩ := h.2 i (by rw [← h.1]; exact hi)
  rw [List.getElem?_eq_getElem hi] at hz
  rw [← hv, Option.some.inj hz]
  rfl
theorem CL.congr {cells : List Value} {n : Nat} {c d : PG} (h : CL cells n c) (e : ∀ i, i < n → c i = d i) : CL cells n d := ⟨h.1, fun i hi => by rw [← e i hi]; exact h.2 i hi⟩
theorem CL.set {cells : List Value} {n : Nat} {c d : PG} (h : CL cells n c) {i : Nat} (hi : i < n) {z : C} {g : G} (hz : WC z g) (e : ∀ k, k < n → d k = if k = i then g else c k) : CL (cells.set i (cx z)) n d := by
  refine ⟨by rw [List.length_set]; exact h.1, fun k hk => ?_⟩
  rw [List.getElem?_set, e k hk]
  by_cases hki : k = i
  · subst hki
    rw [if_pos rfl, if_pos (by rw [h.1]; exact hk), if_pos rfl]
    exact ⟨z, rfl, hz⟩
  · rw [if_neg (fun h => hki h.symm), if_neg hki]
    exact h.2 k hk
theorem CL.push {cells : List Value} {n : Nat} {c d : PG} (h : CL cells n c) {z : C} (hz : WC z (d n)) (e : ∀ k, k < n → d k = c k) : CL (cells ++ [cx z]) (n + 1) d := by
  have hl := h.1
  refine ⟨by simp [h.1], fun k hk => ?_⟩
  by_cases hkn : k = n
  · subst hkn
    rw [List.getElem?_append_right (by omega), h.1, Nat.sub_self]
    exact ⟨z, rfl, hz⟩
  · rw [List.getElem?_append_left (by rw [h.1]; omega), e k (by omega)]
    exact h.2 k (by omega)
/-- A slice whose elements are these numbers. -/
def PL (m : Mem) (v : Value) (n : Nat) (c : PG) : Prop :=
  ∃ b o k x, v = .slice (some ⟨b, o, none⟩) n k ∧ n ≤ k ∧ m.at b = some x ∧ x.sz = 1 ∧ ∀ i, i < n → ∃ z, x.cells[o + i]? = some (cx z) ∧ WC z (c i)
theorem PL.up {m m' : Mem} {v : Value} {n : Nat} {c : PG} (h : PL m v n c) (hw : MW m) (u : Up m m') : PL m' v n c := by
  obtain ⟨b, o, k, x, h1, h0, h2, h3⟩ := h
  exact ⟨b, o, k, x, h1, h0, u.at h2 hw, h3⟩
theorem PL.keep {m m' : Mem} {v : Value} {n : Nat} {c : PG} (h : PL m v n c) (e : ∀ b, m'.at b = m.at b) : PL m' v n c := by
  obtain ⟨b, o, k, x, h1, h0, h2, h3⟩ := h
  exact ⟨b, o, k, x, h1, h0, by rw [e]; exact h2, h3⟩
theorem PL.congr {m : Mem} {v : Value} {n : Nat} {c d : PG} (h : PL m v n c) (e : ∀ i, i < n → c i = d i) : PL m v n d := by
  obtain ⟨b, o, k, x, h1, h0, h2, h3, h4⟩ := h
  exact ⟨b, o, k, x, h1, h0, h2, h3, fun i hi => by rw [← e i hi]; exact h4 i hi⟩
theorem PL.own {m : Mem} {b n : Nat} {cells : List Value} {gr ro : Bool} {c : PG} (hb : m.at b = some ⟨cells, 1, gr, ro⟩) (h : CL cells n c) : PL m (.slice (some ⟨b, 0, none⟩) n n) n c :=
  ⟨b, 0, n, _, rfl, Nat.le_refl _, hb, rfl, fun i hi => by rw [Nat.zero_add]; exact h.2 i hi⟩
/-- Fewer of them. -/
theorem PL.less {m : Mem} {b o n k k' n' : Nat} {c : PG} (h : PL m (.slice (some ⟨b, o, none⟩) n k) n c) (hn : n' ≤ n) (hk : n' ≤ k') : PL m (.slice (some ⟨b, o, none⟩) n' k') n' c := by
  obtain ⟨b', o', k2, x, h1, h0, h2, h3, h4⟩ := h
  cases h1
  exact ⟨b, o, k', x, rfl, hk, h2, h3, fun i hi => h4 i (by omega)⟩
theorem PL.take {m : Mem} {b o n k : Nat} {c : PG} (h : PL m (.slice (some ⟨b, o, none⟩) n k) n c) : ∃ x l, m.at b = some x ∧ takeN x.cells o n = some l ∧ CL l n c := by
  obtain ⟨b', o', k2, x, h1, h0, h2, h3, h4⟩ := h
  cases h1
  have hf : ∀ n', n' ≤ n → ∃ l : List Value, l.length = n' ∧ ∀ i, i < n' → x.cells[o + i]? = l[i]? := by
    intro n'
    induction n' with
    | zero => exact fun _ => ⟨[], rfl, fun i hi => by omega⟩
    | succ n' ih =>
      intro hn
      obtain ⟨l, hl, he⟩ := ih (by omega)
      obtain ⟨z, hz, _⟩ := h4 n' (by omega)
      refine ⟨l ++ [cx z], by simp [hl], fun i hi => ?_⟩
      by_cases hin : i = n'
      · subst hin
        rw [hz, List.getElem?_append_right (by omega), hl, Nat.sub_self]; rfl
      · rw [he i (by omega), List.getElem?_append_left (by omega)]
  obtain ⟨l, hl, he⟩ := hf n (Nat.le_refl _)
  refine ⟨x, l, h2, takeN_get _ _ _ _ hl he ?_, hl, fun i hi => ?_⟩
  · by_cases hz : n = 0
    · exact .inl hz
    · obtain ⟨z, hz, _⟩ := h4 (n - 1) (by omega)
      have := (List.getElem?_eq_some_iff.1 hz).1
      exact .inr (by omega)
  · rw [← he i hi]; exact h4 i hi

/-! ### Rows -/
section
variable {m : Mem} {Q : Value → Mem → Prop}
theorem gives_slice_hi {b o len cap k : Nat} {q : IntKind} {x : Blk} (hb : m.at b = some x) (hs : x.sz = 1) (hk : k ≤ cap) (h : Q (.slice (some ⟨b, o, none⟩) k cap) (m.rd b)) :
    Gives (sliceX Tryz.prog 33 (.slice (some ⟨b, o, none⟩) len cap) none (some (.int q k)) none) m Q := by
  unfold sliceX
  simp only [under_L, size_c]
  rw [gives_bind, gives_getB, hb, optQ_some, gives_bind, gives_guard]
  refine ⟨by rw [hs]; rfl, ?_⟩
  have e1 : boundX (some (Value.int q (k : Int))) len cap = some k := by
    show (bif decide (0 ≤ (k : Int) ∧ (k : Int) ≤ (cap : Int)) then some (Int.toNat (k : Int)) else none) = some k
    have : decide (0 ≤ (k : Int) ∧ (k : Int) ≤ (cap : Int)) = true := by simp; omega
    rw [this]; simp
  have e2 : boundX none 0 k = some 0 := rfl
  simp only [e1, e2, Nat.zero_mul, Nat.add_zero, Nat.sub_zero, beq_self_eq_true, Bool.or_true, Bool.true_or, cond_true]
  rw [gives_ret]
  cases hc : cap == 0 <;> exact h
theorem gives_slice3 {b o len cap k : Nat} {q q' : IntKind} {x : Blk} (hb : m.at b = some x) (hs : x.sz = 1) (hk : k ≤ cap) (h : Q (.slice (some ⟨b, o, none⟩) k k) (m.rd b)) :
    Gives (sliceX Tryz.prog 33 (.slice (some ⟨b, o, none⟩) len cap) none (some (.int q k)) (some (.int q' k))) m Q := by
  unfold sliceX
  simp only [under_L, size_c]
  rw [gives_bind, gives_getB, hb, optQ_some, gives_bind, gives_guard]
  refine ⟨by rw [hs]; rfl, ?_⟩
  rw [gives_bind, gives_guard]
  refine ⟨by simp; omega, ?_⟩
  have e2 : boundX none 0 (Int.toNat (k : Int)) = some 0 := rfl
  simp only [e2]
  rw [gives_ret]
  simp only [Int.toNat_natCast, Nat.zero_mul, Nat.add_zero, Nat.sub_zero]
  cases hc : k == 0 <;> exact h
/-- append([]complex128{}, l...) -/
theorem gives_build0 (h : Q (.slice (some ⟨m.next, 0, none⟩) 0 0) (m.nw ⟨[], 1, false, false⟩)) : Gives (buildSliceX Tryz.prog 33 0 []) m Q := by
  unfold buildSliceX
  simp only [under_L, size_c, zero_c]
  rw [gives_bind, gives_guard]
  refine ⟨rfl, ?_⟩
  show Gives (newX [] 1 false >>= fun b => _) m Q
  rw [gives_bind, gives_newX]
  exact ⟨rfl, (gives_ret _ _ _).2 h⟩
/-- Elements behind an empty literal. -/
theorem gives_append_lit {b b2 o k c : Nat} {x : Blk} (ha : m.at b = some ⟨[], 1, false, false⟩) (hb : m.at b2 = some x) {new : List Value} (hn : takeN x.cells o k = some new) (ho : new.all oneV = true) (hk : 0 < k) (hk2 : k ≤ 1048576)
    (q : Q (.slice (some ⟨m.next, 0, none⟩) k k) (((m.rd b2).rd b).nw ⟨new, 1, true, false⟩)) : Gives (appendX Tryz.prog 33 33 (.slice (some ⟨b, 0, none⟩) 0 0) (.slice (some ⟨b2, o, none⟩) k c)) m Q := by
  obtain ⟨hsz, e, e', i, z, h1, h2, h3, h4, h5, h6⟩ := app_spec app_L
  unfold appendX
  simp only [h1, h3, h4, h6]
  rw [gives_bind, gives_guard]
  refine ⟨rfl, ?_⟩
  rw [gives_bind]
  unfold elemsX
  rw [gives_bind, gives_getB, hb, optQ_some, gives_ret, h5, Nat.mul_one, hn]
  dsimp only
  rw [gives_bind, gives_getB, Mem.at_rd, ha, optQ_some, gives_bind, gives_guard]
  have hc : Nat.ble (0 + k) 0 = false := by rw [← Bool.not_eq_true, Nat.ble_eq]; omega
  refine ⟨by simp only [sliceLen, Bool.and_eq_true, beq_self_eq_true, true_and, Nat.ble_eq]; omega, ?_⟩
  simp only [sliceLen, hc, cond_false]
  have ht : takeN ([] : List Value) 0 (0 * 1) = some [] := rfl
  rw [ht]
  dsimp only
  rw [gives_bind, gives_newX]
  refine ⟨by simpa using ho, (gives_ret _ _ _).2 ?_⟩
  rw [Nat.zero_add]
  exact q
/-- One more element, where there is room. -/
theorem gives_append_room {b b2 n c : Nat} {gr : Bool} {v : Value} {cells : List Value} (ha : m.at b = some ⟨cells, 1, gr, false⟩) (hb : m.at b2 = some ⟨[v], 1, false, false⟩) (ho : oneV v = true) (hk : n < c) (hl : cells.length = c) (hk2 : c ≤ 1048576)
    (q : Q (.slice (some ⟨b, 0, none⟩) (n + 1) c) (((m.rd b2).rd b).wr b (some ⟨cells.set n v, 1, gr, false⟩))) : Gives (appendX Tryz.prog 33 33 (.slice (some ⟨b, 0, none⟩) n c) (.slice (some ⟨b2, 0, none⟩) 1 1)) m Q := by
  obtain ⟨hsz, e, e', i, z, h1, h2, h3, h4, h5, h6⟩ := app_spec app_L
  unfold appendX
  simp only [h1, h3, h4, h6]
  rw [gives_bind, gives_guard]
  refine ⟨rfl, ?_⟩
  rw [gives_bind]
  unfold elemsX
  rw [gives_bind, gives_getB, hb, optQ_some, gives_ret, h5]
  have ht : takeN [v] 0 (1 * 1) = some [v] := rfl
  rw [ht]
  dsimp only
  rw [gives_bind, gives_getB, Mem.at_rd, ha, optQ_some, gives_bind, gives_guard]
  have hc : Nat.ble (n + 1) c = true := by rw [Nat.ble_eq]; omega
  refine ⟨by simp only [sliceLen, Bool.and_eq_true, beq_self_eq_true, true_and, Nat.ble_eq]; omega, ?_⟩
  simp only [sliceLen, hc, cond_true]
  rw [show ((1 : Nat) == 0) = false from rfl, cond_false]
  refine (gives_bind _ _ _ _).2 ((gives_guard _ _ _).2 ⟨by simp [ho], ?_⟩)
  refine (gives_laid _ _ _ (fun l => (do setB b (some { (⟨cells, 1, gr, false⟩ : Blk) with cells := l }); M.ret (Value.slice (some ⟨b, 0, none⟩) (n + 1) c))) _ _).2 ?_
  rw [Nat.mul_one, Nat.zero_add, lay_one, if_pos (by omega), optQ_some, gives_bind, gives_setB, gives_ret]
  exact q
end
end Go.Proofs.YtigbkoadojjajaaGreat

/- Polynomials in the clean executor: which ones may be. -/
namespace Go.Proofs.YtigbkoadojjajaaGreat
open Go.Clean

def boolOf : Value → Option Bool
  | .bool b => some b
  | _ => none
theorem boolOf_bool (b : Bool) : boolOf (.bool b) = some b := by simp [boolOf]
theorem region_hid {P : Program} {call : Caller} {id : Nat} {ops : Array Oper} {fr : Fr} {m : Mem} {Q : CQ} (h : ∀ ops' : Array Oper, ops' = ops → Gives (stepsX P call ops' ops.toList fr) m (regQ Q)) : Gives (codeX P call (.region id ops false) fr) m Q := (code_region id ops fr m Q).2 (h ops rfl)
theorem wrap_pred (n : Nat) (h0 : 0 < n) (h : n < 4611686018427387904) : IntKind.i64.wrap ((n : Int) - 1) = ((n - 1 : Nat) : Int) := by
  have := wrap_add (n - 1) 0 (by omega)
  rw [show ((n : Int) - 1) = ((n - 1 : Nat) : Int) + ((0 : Nat) : Int) by omega]
  exact this
/-- Nothing has turned. -/
def Sm (m m' : Mem) : Prop := m'.next = m.next ∧ ∀ b, m'.at b = m.at b
theorem Sm.refl (m : Mem) : Sm m m := ⟨rfl, fun _ => rfl⟩
theorem Sm.trans {m m1 m2 : Mem} (h : Sm m m1) (k : Sm m1 m2) : Sm m m2 := ⟨k.1.trans h.1, fun b => (k.2 b).trans (h.2 b)⟩
theorem Sm.up {m m' : Mem} (h : Sm m m') : Up m m' := Up.same h.1 h.2
theorem Sm.rd (m : Mem) (b : Nat) : Sm m (m.rd b) := ⟨by simp, fun c => by simp⟩
theorem Sm.mw {m m' : Mem} (h : Sm m m') (w : MW m) : MW m' := h.up.wf w
def far : Int := 1099511627776
/-- A polynomial that may be. -/
structure OKP (n : Nat) (c : PG) : Prop where
  pos : 0 < n
  most : n ≤ 65
  near : ∀ i, NB (c i) far
  last : 1 < n → c (n - 1) ≠ g0

section
set_option maxRecDepth 10000
theorem run_far (n : Nat) (x : C) (m : Mem) (Q : Value → Mem → Prop) : Gives (callN Tryz.prog known (n + 5) 75 [cx x]) m Q ↔ Q (.bool (!cwithin x lim)) m := by
  refine gives_pure (fun m => ?_) m Q
  refine gives_fn (nt := 6) rfl Tryz.func75 rfl rfl rfl (Nat.le_of_ble_eq_true rfl) fun fr hn hd hargs => ?_
  have h0 : fr.at 0 = _ := hargs 0 _ rfl
  clear hargs
  simp [h0, hn, hd, run_place]
def farV : Value := .func (.func 75) ⟨[]⟩ ⟨[]⟩
theorem fun_farV : funX farV = some (75, [], []) := rfl
def ixI (n : Nat) (v : Value) (m : Mem) (j : Nat) (fr : Fr) (m' : Mem) : Prop := ∃ i, i + j = n ∧ fr.n = 19 ∧ fr.d = [] ∧ fr.at 0 = v ∧ fr.at 1 = farV ∧ fr.at 7 = .int .i64 n ∧ fr.at 8 = .int .i64 (i : Nat) ∧ Sm m m'
theorem index_ok (d : Nat) {m : Mem} {v : Value} {n : Nat} {c : PG} (hv : PL m v n c) (hn1 : n < 1000000) (hc : ∀ i, NB (c i) far) {Q : Value → Mem → Prop} (hQ : ∀ m', Sm m m' → Q (.int .i64 (-1)) m') :
    Gives (callN Tryz.prog known (d + 6) 80 [v, farV]) m Q := by
  refine gives_fn (nt := 19) rfl Tryz.func80 rfl rfl rfl (Nat.le_of_ble_eq_true rfl) fun fr hn hd hargs => ?_
  have h0 : fr.at 0 = _ := hargs 0 _ rfl
  have h1 : fr.at 1 = _ := hargs 1 _ rfl
  clear hargs
  obtain ⟨b, o, k, x, rfl, _, hb, hs, he⟩ := hv
  simp [h0, h1, hn]
  refine code_loop (ixI n (.slice (some ⟨b, o, none⟩) n k) m) n (by omega) ⟨0, by omega, by simp [hn], by simp [hd], by simp [h0], by simp [h1], by simp, by simp, Sm.refl m⟩ ?_
  rintro j fr' m' ⟨i, hij, hn', hd', g0, g1, g7, g8, hsm⟩
  by_cases hi : i < n
  · obtain ⟨z, hz, hwz⟩ := he i hi
    have hm : m'.at b = some x := by rw [hsm.2]; exact hb
    have hw := wrap_succ i (by omega)
    simp [hn', g0, g1, g7, g8, hi, hm, idx_L _ _ _ _ _ _ hi, hz, fun_farV, run_far, hwz.place (hc i), hw]
    exact ⟨j - 1, by omega, i + 1, by omega, by simp [hn'], by simp [hd'], by simp [g0], by simp [g1], by simp [g7], by simp, hsm.trans (Sm.rd _ _)⟩
  · simp [hn', g0, g1, g7, g8, hi, hd']
    exact hQ _ hsm
theorem contains_ok (d : Nat) {m : Mem} {v : Value} {n : Nat} {c : PG} (hv : PL m v n c) (hn1 : n < 1000000) (hc : ∀ i, NB (c i) far) {Q : Value → Mem → Prop} (hQ : ∀ m', Sm m m' → Q (.bool false) m') :
    Gives (callN Tryz.prog known (d + 7) 61 [v, farV]) m Q := by
  refine gives_fn (nt := 9) rfl Tryz.func61 rfl rfl rfl (Nat.le_of_ble_eq_true rfl) fun fr hn hd hargs => ?_
  have h0 : fr.at 0 = _ := hargs 0 _ rfl
  have h1 : fr.at 1 = _ := hargs 1 _ rfl
  clear hargs
  simp [h0, h1, hn]
  refine index_ok d hv hn1 hc fun m' hs => ?_
  simp [hn, hd]
  exact hQ _ hs
theorem check_ok (d : Nat) {m : Mem} {v : Value} {n : Nat} {c : PG} (hv : PL m v n c) (hc : OKP n c) {Q : Value → Mem → Prop} (hQ : ∀ m', Sm m m' → Q (.int .i64 0) m') :
    Gives (callN Tryz.prog known (d + 8) 53 [v]) m Q := by
  refine gives_fn (nt := 31) rfl Tryz.func53 rfl rfl rfl (Nat.le_of_ble_eq_true rfl) fun fr hn hd hargs => ?_
  have h0 : fr.at 0 = _ := hargs 0 _ rfl
  clear hargs
  have hv' := hv
  obtain ⟨b, o, k, x, rfl, _, hb, hs, he⟩ := hv'
  have h1 := hc.pos
  have h2 := hc.most
  refine (code_seq _ _ _ _ _).2 ?_
  simp [h0, hn, -code_seq]
  refine (code_seq _ _ _ _ _).2 ?_
  simp [h0, hn, -code_seq]
  refine (code_seq _ _ _ _ _).2 ((code_seq _ _ _ _ _).2 (region_hid fun ops hops => ?_))
  have y3 : ∀ fr, yieldX ops fr 3 = boolOf (fr.at 7) := fun fr => by rw [hops]; rfl
  have y8 : ∀ fr, yieldX ops fr 8 = boolOf (fr.at 12) := fun fr => by rw [hops]; rfl
  have y13 : ∀ fr, yieldX ops fr 13 = boolOf (fr.at 17) := fun fr => by rw [hops]; rfl
  have y17 : ∀ fr, yieldX ops fr 17 = boolOf (fr.at 21) := fun fr => by rw [hops]; rfl
  clear hops
  iterate 12 (refine (steps_cons _ _ _ _ _ _).2 ?_; simp [h0, hn, -steps_cons, y3, y8, boolOf_bool, show ¬ n = 0 by omega, show ¬ 65 < (n : Int) by omega])
  refine contains_ok d hv (by omega) hc.near fun m' hsm => ?_
  simp [hn, -steps_cons]
  by_cases hn1 : n = 1
  · subst hn1
    iterate 14 (refine (steps_cons _ _ _ _ _ _).2 ?_; simp [h0, hn, -steps_cons, y8, y13, y17, boolOf_bool])
    simp [hn, hd]
    exact hQ _ hsm
  · have hw := wrap_pred n (by omega) (by omega)
    obtain ⟨z, hz, hwz⟩ := he (n - 1) (by omega)
    have hm : m'.at b = some x := by rw [hsm.2]; exact hb
    have hl : cnought z = false := by rw [hwz.nought]; exact decide_eq_false (hc.last (by omega))
    iterate 14 (refine (steps_cons _ _ _ _ _ _).2 ?_; simp [h0, hn, -steps_cons, y8, y13, y17, boolOf_bool, show 1 < (n : Int) by omega, hw, idx_L _ _ _ _ _ _ (show n - 1 < n by omega), hm, hz, run_nought, hl])
    simp [hn, hd]
    exact hQ _ (hsm.trans (Sm.rd _ _))
theorem asked_ok (d : Nat) {m : Mem} {v : Value} {n : Nat} {c : PG} {z : C} {g : G} (hv : PL m v n c) (hc : OKP n c) (hz : WC z g) (hg : NB g far) {Q : Value → Mem → Prop} (hQ : ∀ m', Sm m m' → Q (.int .i64 0) m') :
    Gives (callN Tryz.prog known (d + 9) 77 [v, cx z]) m Q := by
  refine gives_fn (nt := 14) rfl Tryz.func77 rfl rfl rfl (Nat.le_of_ble_eq_true rfl) fun fr hn hd hargs => ?_
  have h0 : fr.at 0 = _ := hargs 0 _ rfl
  have h1 : fr.at 1 = _ := hargs 1 _ rfl
  clear hargs
  simp [h0, hn]
  refine check_ok d hv hc fun m' hs => ?_
  simp [h0, h1, hn, hd, run_place, hz.place hg]
  exact hQ _ hs
theorem both_ok (d : Nat) {m : Mem} {v w : Value} {n k : Nat} {a b : PG} (hv : PL m v n a) (ha : OKP n a) (hw : PL m w k b) (hb : OKP k b) {Q : Value → Mem → Prop} (hQ : ∀ m', Sm m m' → Q (.int .i64 0) m') :
    Gives (callN Tryz.prog known (d + 9) 47 [v, w]) m Q := by
  refine gives_fn (nt := 13) rfl Tryz.func47 rfl rfl rfl (Nat.le_of_ble_eq_true rfl) fun fr hn hd hargs => ?_
  have h0 : fr.at 0 = _ := hargs 0 _ rfl
  have h1 : fr.at 1 = _ := hargs 1 _ rfl
  clear hargs
  simp [h0, hn]
  refine check_ok d hv ha fun m' hs => ?_
  simp [h0, h1, hn, hd]
  refine check_ok d (hw.keep hs.2) hb fun m2 hs2 => ?_
  simp [hn, hd]
  exact hQ _ (hs.trans hs2)
/-- Is a polynomial nought? Not one that has a coefficient. -/
theorem none_ok (d : Nat) {m : Mem} {v : Value} {n : Nat} {c : PG} (hv : PL m v n c) (hn0 : 0 < n) (hc : n = 1 → c 0 ≠ g0) {Q : Value → Mem → Prop} (hQ : ∀ m', Sm m m' → Q (.bool false) m') :
    Gives (callN Tryz.prog known (d + 2) 72 [v]) m Q := by
  refine gives_fn (nt := 12) rfl Tryz.func72 rfl rfl rfl (Nat.le_of_ble_eq_true rfl) fun fr hn hd hargs => ?_
  have h0 : fr.at 0 = _ := hargs 0 _ rfl
  clear hargs
  obtain ⟨b, o, k, x, rfl, _, hb, hs, he⟩ := hv
  by_cases h1 : n = 1
  · subst h1
    obtain ⟨z, hz, hwz⟩ := he 0 (by omega)
    have hl : cnought z = false := by rw [hwz.nought]; exact decide_eq_false (hc rfl)
    have hi := idx_L b o 1 k 0 .i64 (by omega)
    simp at hi hz
    simp [h0, hn, hd, yieldX, hi, hb, hz, run_nought, hl]
    exact hQ _ (Sm.rd _ _)
  · simp [h0, hn, hd, yieldX, show ¬ (n : Int) = 1 by omega]
    exact hQ _ (Sm.refl m)

/-! ### What is answered -/
def anI (b o k N : Nat) (c : PG) (m : Mem) (j : Nat) (fr : Fr) (m' : Mem) : Prop := ∃ n, n = j ∧ 0 < n ∧ n ≤ N ∧ (∀ i, n ≤ i → i < N → c i = g0) ∧ fr.n = 38 ∧ fr.d = [] ∧ fr.at 0 = .slice (some ⟨b, o, none⟩) N k ∧ fr.at 4 = .int .i64 (n : Nat) ∧ Sm m m'
def anJ (b o n : Nat) (m : Mem) (j : Nat) (fr : Fr) (m' : Mem) : Prop := ∃ i, i + j = n ∧ fr.n = 38 ∧ fr.d = [] ∧ fr.at 0 = .slice (some ⟨b, o, none⟩) n n ∧ fr.at 27 = .slice (some ⟨b, o, none⟩) n n ∧ fr.at 28 = .int .i64 (n : Nat) ∧ fr.at 29 = .int .i64 (i : Nat) ∧ Sm m m'
def anR (b o k N : Nat) (c : PG) (m : Mem) (r : Ex × Fr) (m' : Mem) : Prop := r.1 = .exit 0 ∧ ∃ n, 0 < n ∧ n ≤ N ∧ (∀ i, n ≤ i → i < N → c i = g0) ∧ (1 < n → c (n - 1) ≠ g0) ∧ r.2.n = 38 ∧ r.2.d = [] ∧ r.2.at 0 = .slice (some ⟨b, o, none⟩) N k ∧ r.2.at 4 = .int .i64 (n : Nat) ∧ Sm m m'
theorem answered_ok (d : Nat) {m : Mem} {b o k N : Nat} {c : PG} (hv : PL m (.slice (some ⟨b, o, none⟩) N k) N c) (h0 : 0 < N) (hN : N ≤ 65) (hc : ∀ i, NB (c i) far) {Q : Value → Mem → Prop}
    (hQ : ∀ m' n, Sm m m' → 0 < n → n ≤ N → (∀ i, n ≤ i → i < N → c i = g0) → (1 < n → c (n - 1) ≠ g0) → Q (.tuple ⟨[.slice (some ⟨b, o, none⟩) n n, .int .i64 0]⟩) m') :
    Gives (callN Tryz.prog known (d + 5) 41 [.slice (some ⟨b, o, none⟩) N k]) m Q := by
  refine gives_fn (nt := 38) rfl Tryz.func41 rfl rfl rfl (Nat.le_of_ble_eq_true rfl) fun fr hn hd hargs => ?_
  have h0' : fr.at 0 = _ := hargs 0 _ rfl
  clear hargs
  have hv' := hv
  obtain ⟨b', o', k', x, h1, hk, hb, hs, he⟩ := hv'
  cases h1
  simp [h0', hn]
  refine code_loop_post (anR b o k N c m) (anI b o k N c m) N (by omega) ⟨N, rfl, h0, Nat.le_refl _, fun i h1 h2 => by omega, by simp [hn], by simp [hd], by simp [h0'], by simp, Sm.refl m⟩ ?_ ?_
  · rintro j fr' m' ⟨n, rfl, hn0, hnN, hz0, hn', hd', g0', g4, hsm⟩
    have hm : m'.at b = some x := by rw [hsm.2]; exact hb
    by_cases h1 : n = 1
    · subst h1
      simp [g0', g4, hn', yieldX]
      exact ⟨rfl, 1, by omega, hnN, hz0, fun h => by omega, by simp [hn'], by simp [hd'], by simp [g0'], by simp [g4], hsm⟩
    · obtain ⟨z, hz, hwz⟩ := he (n - 1) (by omega)
      have hw := wrap_pred n (by omega) (by omega)
      cases hl : cnought z with
      | true =>
        have hcz : c (n - 1) = g0 := by
          rw [hwz.nought] at hl
          exact of_decide_eq_true hl
        simp [g0', g4, hn', yieldX, show 1 < (n : Int) by omega, hw, idx_L _ _ _ _ _ _ (show n - 1 < N by omega), hm, hz, run_nought, hl]
        refine ⟨n - 1, by omega, n - 1, rfl, by omega, by omega, fun i h1 h2 => ?_, by simp [hn'], by simp [hd'], by simp [g0'], by simp, hsm.trans (Sm.rd _ _)⟩
        by_cases hi : i = n - 1
        · rw [hi]; exact hcz
        · exact hz0 i (by omega) h2
      | false =>
        have hcz : c (n - 1) ≠ g0 := by
          rw [hwz.nought] at hl
          exact of_decide_eq_false hl
        simp [g0', g4, hn', yieldX, show 1 < (n : Int) by omega, hw, idx_L _ _ _ _ _ _ (show n - 1 < N by omega), hm, hz, run_nought, hl]
        exact ⟨rfl, n, hn0, hnN, hz0, fun _ => hcz, by simp [hn'], by simp [hd'], by simp [g0'], by simp [g4], hsm.trans (Sm.rd _ _)⟩
  · rintro ⟨e, fr'⟩ m' ⟨he', n, hn0, hnN, hz0, hlast, hn', hd', g0', g4, hsm⟩
    obtain rfl : e = .exit 0 := he'
    have hm : m'.at b = some x := by rw [hsm.2]; exact hb
    simp only at hn' hd' g0' g4
    simp [g0', g4, hn']
    refine gives_slice3 hm hs (by omega) ?_
    simp [hn', g4, show ¬ 65 < (n : Int) by omega]
    refine code_loop (anJ b o n m) n (by omega) ⟨0, by omega, by simp [hn'], by simp [hd'], by simp, by simp, by simp, by simp, hsm.trans (Sm.rd _ _)⟩ ?_
    clear hm hsm g0' g4 hn' hd' fr'
    rintro j fr' m2 ⟨i, hij, hn', hd', g0', g27, g28, g29, hsm⟩
    by_cases hi : i < n
    · obtain ⟨z, hz, hwz⟩ := he i (by omega)
      have hm : m2.at b = some x := by rw [hsm.2]; exact hb
      have hw := wrap_succ i (by omega)
      simp [g0', g27, g28, g29, hn', hi, idx_L _ _ _ _ _ _ hi, hm, hz, run_place, hwz.place (hc i), hw]
      exact ⟨j - 1, by omega, i + 1, by omega, by simp [hn'], by simp [hd'], by simp [g0'], by simp [g27], by simp [g28], by simp, hsm.trans (Sm.rd _ _)⟩
    · simp [g0', g27, g28, g29, hn', hd', hi]
      exact hQ _ n hsm hn0 hnN hz0 hlast
end
end Go.Proofs.YtigbkoadojjajaaGreat

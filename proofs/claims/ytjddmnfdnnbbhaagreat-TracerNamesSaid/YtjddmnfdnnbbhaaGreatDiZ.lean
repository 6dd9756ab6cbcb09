/- Plain: whole numbers in float64: without their sign, compared, divided where that comes out even. No program in sight. -/
import Derived.Test.YtjddmnfdnnbbhaaGreatFlZ
set_option linter.unusedSimpArgs false
set_option linter.unusedVariables false
set_option linter.unusedVariables false
set_option linter.unusedSimpArgs false
namespace Go.Proofs.YtjddmnfdnnbbhaaGreat
open Ieee

theorem WF.le {x y : F} {a b : Int} (hx : WF x a) (hy : WF y b) : fle x y = decide (a ≤ b) := by
  unfold fle
  rw [hx.cmp hy]
  show ((some (compareOfLessAndEq a b) == some Ordering.lt) || (some (compareOfLessAndEq a b) == some Ordering.eq)) = _
  unfold compareOfLessAndEq
  by_cases h1 : a < b
  · rw [if_pos h1, decide_eq_true (by omega)]; rfl
  · rw [if_neg h1]
    by_cases h2 : a = b
    · rw [if_pos h2, decide_eq_true (by omega)]; rfl
    · rw [if_neg h2, decide_eq_false (by omega)]; rfl
theorem read_mod (u : Nat) {s : Bool} {m : Nat} {k : Int} (h : double.read u = .number s m k) : double.read (u % 9223372036854775808) = .number false m k := by
  unfold Format.read at h ⊢
  simp only [lp, bn, ir, sw, Nat.mod_mod] at h ⊢
  have e : (u % 9223372036854775808 / 9223372036854775808 % 2 == 1) = false := by
    rw [Nat.div_eq_of_lt (Nat.mod_lt _ (by decide))]; rfl
  rw [e]
  split at h
  · rename_i h1
    rw [if_pos h1]
    obtain ⟨q1, q2, q3⟩ := Datum.number.inj h
    rw [q2, q3]
  · rename_i h1
    rw [if_neg h1]
    split at h
    · rename_i h2
      rw [if_pos h2]
      obtain ⟨q1, q2, q3⟩ := Datum.number.inj h
      rw [q2, q3]
    · split at h <;> exact absurd h (by simp)
theorem WF.abs {x : F} {a : Int} (hx : WF x a) : WF (fabs x) (a.natAbs : Int) := by
  obtain ⟨u, rfl, s, m, k, e1, h1⟩ := hx
  refine ⟨u % 9223372036854775808, rfl, false, m, k, read_mod u e1, ?_⟩
  rw [signed_zero] at h1 ⊢
  have h2 : (a * 2 ^ k).natAbs = a.natAbs * 2 ^ k := by rw [Int.natAbs_mul, Int.natAbs_pow]; rfl
  have h3 : m = a.natAbs * 2 ^ k := by rw [← h2, ← h1]; cases s <;> simp
  simp only [Bool.false_eq_true, if_false]
  rw [h3]; simp
/-- A quotient that comes out even. -/
theorem quot_whole {x y : Datum} {q d : Int} (hx : DW x (q * d)) (hy : DW y d) (hd : d ≠ 0) (hq : q.natAbs < 9007199254740992) : ∃ r, x.quotient 54 y = some r ∧ DW (double.read (double.write r)) q := by
  obtain ⟨s, m, i, rfl, h1⟩ := hx
  obtain ⟨t, n, j, rfl, h2⟩ := hy
  rw [signed_zero] at h1 h2
  have hd' : 0 < d.natAbs := by omega
  have hn : n = d.natAbs * 2 ^ j := by
    have : (d * 2 ^ j).natAbs = d.natAbs * 2 ^ j := by rw [Int.natAbs_mul, Int.natAbs_pow]; rfl
    rw [← this, ← h2]; cases t <;> simp
  have hm : m = q.natAbs * d.natAbs * 2 ^ i := by
    have : (q * d * 2 ^ i).natAbs = q.natAbs * d.natAbs * 2 ^ i := by rw [Int.natAbs_mul, Int.natAbs_mul, Int.natAbs_pow]; rfl
    rw [← this, ← h1]; cases s <;> simp
  have hn0 : 0 < n := by rw [hn]; exact Nat.mul_pos hd' (Nat.two_pow_pos j)
  have hlogn : n.log2 = d.natAbs.log2 + j := by
    rw [hn]
    refine (Nat.log2_eq_iff (Nat.ne_of_gt (Nat.mul_pos hd' (Nat.two_pow_pos j)))).2 ⟨?_, ?_⟩
    · rw [Nat.pow_add]; exact Nat.mul_le_mul_right _ (Nat.log2_self_le (by omega))
    · rw [show d.natAbs.log2 + j + 1 = (d.natAbs.log2 + 1) + j by omega, Nat.pow_add]; exact Nat.mul_lt_mul_of_pos_right Nat.lt_log2_self (Nat.two_pow_pos j)
  obtain ⟨more, hmore⟩ : ∃ more, more = 54 + n.log2 - m.log2 := ⟨_, rfl⟩
  have hle : j ≤ i + more := by
    by_cases hq0 : q.natAbs = 0
    · have : m = 0 := by rw [hm, hq0]; simp
      rw [this] at hmore
      have : Nat.log2 0 = 0 := by decide
      omega
    · have hlm : m.log2 ≤ 53 + d.natAbs.log2 + i := by
        have : m < 2 ^ (54 + d.natAbs.log2 + i) := by
          rw [hm, Nat.pow_add]
          refine Nat.mul_lt_mul_of_pos_right ?_ (Nat.two_pow_pos i)
          have ha : d.natAbs < 2 ^ (d.natAbs.log2 + 1) := Nat.lt_log2_self
          have : q.natAbs * d.natAbs < 2 ^ 53 * 2 ^ (d.natAbs.log2 + 1) := Nat.mul_lt_mul'' (by omega) ha
          rw [← Nat.pow_add] at this
          rw [show 54 + d.natAbs.log2 = 53 + (d.natAbs.log2 + 1) by omega]
          exact this
        have hm0 : m ≠ 0 := by rw [hm]; exact Nat.ne_of_gt (Nat.mul_pos (Nat.mul_pos (by omega) hd') (Nat.two_pow_pos i))
        have := (Nat.log2_lt hm0).2 this
        omega
      omega
  have hdiv : m <<< more = q.natAbs * 2 ^ (i + more - j) * n := by
    rw [Nat.shiftLeft_eq, hm, hn, Nat.mul_assoc, ← Nat.pow_add, Nat.mul_mul_mul_comm, ← Nat.pow_add, show i + more - j + j = i + more by omega]
  refine ⟨.number (s ^^ t) (2 * (q.natAbs * 2 ^ (i + more - j))) (-((i + more - j + 1 : Nat) : Int)), ?_, ?_⟩
  · show (if n = 0 then _ else _) = _
    rw [if_neg (by omega), ← hmore]
    show some (Datum.number (s ^^ t) (2 * (m <<< more / n) + (m <<< more % n != 0).toNat) (-(i : Int) - -(j : Int) - (more : Int) - 1)) = _
    rw [hdiv, Nat.mul_div_cancel _ hn0, Nat.mul_mod_left]
    congr 2
    omega
  · refine write_whole ?_ hq
    rw [signed_zero]
    have e : ((2 * (q.natAbs * 2 ^ (i + more - j)) : Nat) : Int) = (q.natAbs : Int) * 2 ^ (i + more - j + 1) := by
      rw [Int.pow_succ]
      simp
      grind
    rw [e]
    have hsg : (if (s ^^ t) = true then -(q.natAbs : Int) else (q.natAbs : Int)) = q := by
      have p1 : (0 : Int) < 2 ^ i := Int.pow_pos (by omega)
      have p2 : (0 : Int) < 2 ^ j := Int.pow_pos (by omega)
      have s1 : if s = true then q * d ≤ 0 else 0 ≤ q * d := by
        cases s
        · simp only [Bool.false_eq_true, if_false] at h1 ⊢
          have : 0 ≤ q * d * 2 ^ i := by rw [← h1]; omega
          exact Int.nonneg_of_mul_nonneg_left this p1
        · simp only [if_true] at h1 ⊢
          have : 0 ≤ -(q * d) * 2 ^ i := by rw [Int.neg_mul, ← h1]; omega
          have := Int.nonneg_of_mul_nonneg_left this p1
          omega
      have s2 : if t = true then d ≤ 0 else 0 ≤ d := by
        cases t
        · simp only [Bool.false_eq_true, if_false] at h2 ⊢
          have : 0 ≤ d * 2 ^ j := by rw [← h2]; omega
          exact Int.nonneg_of_mul_nonneg_left this p2
        · simp only [if_true] at h2 ⊢
          have : 0 ≤ -d * 2 ^ j := by rw [Int.neg_mul, ← h2]; omega
          have := Int.nonneg_of_mul_nonneg_left this p2
          omega
      have pos : ∀ a b : Int, 0 ≤ a * b → 0 < b → 0 ≤ a := fun a b h hb => Int.nonneg_of_mul_nonneg_left h hb
      cases s <;> cases t <;> simp only [Bool.false_eq_true, if_false, if_true, Bool.xor_false, Bool.xor_true, Bool.not_true, Bool.not_false] at s1 s2 ⊢
      · have := pos q d s1 (by omega); omega
      · have := pos (-q) (-d) (by rw [Int.neg_mul_neg]; exact s1) (by omega); omega
      · have := pos (-q) d (by rw [Int.neg_mul]; omega) (by omega); omega
      · have := pos q (-d) (by rw [Int.mul_neg]; omega) (by omega); omega
    cases hst : (s ^^ t) <;> rw [hst] at hsg <;> simp only [Bool.false_eq_true, if_false, if_true] at hsg ⊢
    · rw [← hsg]; simp
    · rw [← hsg]; simp [Int.neg_mul]
theorem WF.div {x y : F} {q d : Int} (hx : WF x (q * d)) (hy : WF y d) (hd : d ≠ 0) (hq : q.natAbs < 9007199254740992) : WF (fdiv x y) q := by
  obtain ⟨u, rfl, h1⟩ := hx
  obtain ⟨v, rfl, h2⟩ := hy
  obtain ⟨r, e, hr⟩ := quot_whole h1 h2 hd hq
  exact ⟨_, by show double.div u v = _; unfold Format.div; rw [fb]; show (Datum.quotient 54 _ _).map _ = _; rw [e]; rfl, hr⟩
theorem WF.fin {x : F} {n : Int} (hx : WF x n) (hn : n.natAbs < 9007199254740992) : ffin x = true := by
  obtain ⟨u, e0, s, m, k, e1, h1⟩ := hx.abs
  unfold ffin fle
  rw [e0]
  have ho : fcmp (some u) fbig = some .lt := by
    show double.order u 9218868437227405311 = _
    unfold Format.order
    have eb : double.read 9218868437227405311 = .number false 9007199254740991 971 := by decide
    rw [e1, eb]
    show some (compare (signed s m (-(k : Int) - min (-(k : Int)) 971).toNat) (signed false 9007199254740991 ((971 : Int) - min (-(k : Int)) 971).toNat)) = _
    have g1 : (-(k : Int) - min (-(k : Int)) 971).toNat = 0 := by omega
    have g2 : ((971 : Int) - min (-(k : Int)) 971).toNat = 971 + k := by omega
    rw [g1, g2, h1, signed_up false]
    rw [signed_zero]
    simp only [Bool.false_eq_true, if_false]
    have p1 : (0 : Int) < 2 ^ k := Int.pow_pos (by omega)
    have hlt : (n.natAbs : Int) * 2 ^ k < 9007199254740991 * 2 ^ (971 + k) := by
      rw [Int.pow_add]
      have a0 : (0 : Int) < 2 ^ 970 := Int.pow_pos (by omega)
      have a1 : (2 : Int) ≤ 2 ^ 971 := by rw [show (971 : Nat) = 970 + 1 from rfl, Int.pow_succ]; omega
      have a2 : (9007199254740991 : Int) * 2 ≤ 9007199254740991 * 2 ^ 971 := Int.mul_le_mul_of_nonneg_left a1 (by omega)
      have : (n.natAbs : Int) < 9007199254740991 * 2 ^ 971 := by omega
      have := Int.mul_lt_mul_of_pos_right this p1
      rw [Int.mul_assoc] at this
      exact this
    rw [show ((9007199254740991 : Nat) : Int) = 9007199254740991 from rfl]
    show some (compareOfLessAndEq _ _) = _
    unfold compareOfLessAndEq
    rw [if_pos hlt]
  rw [ho]; rfl

/-! ### Complex division -/
def fge (x y : F) : Bool := fcmp x y == some .gt || fcmp x y == some .eq
def cdiv (a b : C) : C :=
  if fge (fabs b.1) (fabs b.2) then
    (fdiv (fadd a.1 (fmul a.2 (fdiv b.2 b.1))) (fadd b.1 (fmul b.2 (fdiv b.2 b.1))), fdiv (fsub a.2 (fmul a.1 (fdiv b.2 b.1))) (fadd b.1 (fmul b.2 (fdiv b.2 b.1))))
  else
    (fdiv (fadd (fmul a.1 (fdiv b.1 b.2)) a.2) (fadd (fmul b.1 (fdiv b.1 b.2)) b.2), fdiv (fsub (fmul a.2 (fdiv b.1 b.2)) a.1) (fadd (fmul b.1 (fdiv b.1 b.2)) b.2))
/-! ### Limits -/
def lim : F := some 4787326403894837248
theorem WF.lim : WF lim 1099511627776 := by
  have h := WF.int 1099511627776 (by decide)
  have e : double.write (.number (decide ((1099511627776 : Int) < 0)) (1099511627776 : Int).natAbs 0) = 4787326403894837248 := by decide
  rw [e] at h
  exact h
def cwithin (x : C) (y : F) : Bool := fle (fabs x.1) y && fle (fabs x.2) y
theorem WC.place {x : C} {g : G} (hx : WC x g) (h : NB g 1099511627776) : cwithin x lim = true := by
  obtain ⟨h1, h2⟩ := h.parts (by decide)
  unfold cwithin
  rw [hx.1.abs.le WF.lim, hx.2.abs.le WF.lim]
  simp only [Bool.and_eq_true, decide_eq_true_eq]
  omega
def cfin (x : C) : Bool := ffin x.1 && ffin x.2
theorem WC.fin {x : C} {g b : G} (hx : WC x g) (h : BN g b) (hb : b.1 ≤ top) : cfin x = true := by
  obtain ⟨h1, h2⟩ := h.2.2.parts h.1
  unfold top at hb
  unfold cfin
  rw [hx.1.fin (by omega), hx.2.fin (by omega)]; rfl
def cnought (x : C) : Bool := feq x.1 (some 0) && feq x.2 (some 0)
theorem WC.nought {x : C} {g : G} (hx : WC x g) : cnought x = decide (g = g0) := by
  unfold cnought
  rw [hx.1.eq WF.zero, hx.2.eq WF.zero]
  by_cases h : g = g0
  · subst h; rfl
  · rw [decide_eq_false h]
    by_cases h1 : g.1 = 0
    · by_cases h2 : g.2 = 0
      · exact absurd (gext h1 h2) h
      · simp [h2]
    · simp [h1]
end Go.Proofs.YtjddmnfdnnbbhaaGreat

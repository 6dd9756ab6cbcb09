/- Plain: whole numbers in float64: without their sign, compared, divided where that comes out even. No program in sight. -/
import Derived.Test.YtghhanifakllpaaViY
set_option linter.unusedSimpArgs false
set_option linter.unusedVariables false
set_option linter.unusedVariables false
set_option linter.unusedSimpArgs false
namespace Go.Proofs.Ytghhanifakllpaa.Nu
open Ieee

theorem WF.le {x y : F} {a b : Int} (hx : WF x a) (hy : WF y b) : fle x y = decide (a ≤ b) := by
  unfold fle
  rw [hx.cmp hy]
  show ((some (compareOfLessAndEq a b) == some Ordering.lt) || (some (compareOfLessAndEq a b) == some Ordering.eq)) = _
  unfold compareOfLessAndEq
  by_cases h1 : a < b
  · rw [if_pos h1, decide_eq_true (by omega)]; rfl
  · rw [if_neg h1]
    by_cases h2 : a = b
    · rw [if_pos h2, decide_eq_true (by omega)]; rfl
    · rw [if_neg h2, decide_eq_false (by omega)]; rfl
theorem read_mod (u : Nat) {s : Bool} {m : Nat} {k : Int} (h : double.read u = .number s m k) : double.read (u % 9223372036854775808) = .number false m k := by
  unfold Format.read at h ⊢
  simp only [lp, bn, ir, sw, Nat.mod_mod] at h ⊢
  have e : (u % 9223372036854775808 / 9223372036854775808 % 2 == 1) = false := by
    rw [Nat.div_eq_of_lt (Nat.mod_lt _ (by decide))]; rfl
  rw [e]
  split at h
  · rename_i h1
    rw [if_pos h1]
    obtain ⟨q1, q2, q3⟩ := Datum.number.inj h
    rw [q2, q3]
  · rename_i h1
    rw [if_neg h1]
    split at h
    · rename_i h2
      rw [if_pos h2]
      obtain ⟨q1, q2, q3⟩ := Datum.number.inj h
      rw [q2, q3]
    · split at h <;> exact absurd h (by simp)
theorem WF.abs {x : F} {a : Int} (hx : WF x a) : WF (fabs x) (a.natAbs : Int) := by
  obtain ⟨u, rfl, s, m, k, e1, h1⟩ := hx
  refine ⟨u % 9223372036854775808, rfl, false, m, k, read_mod u e1, ?_⟩
  rw [signed_zero] at h1 ⊢
  have h2 : (a * 2 ^ k).natAbs = a.natAbs * 2 ^ k := by rw [Int.natAbs_mul, Int.natAbs_pow]; rfl
  have h3 : m = a.natAbs * 2 ^ k := by rw [← h2, ← h1]; cases s <;> simp
  simp only [Bool.false_eq_true, if_false]
  rw [h3]; simp
/-- A quotient that comes out even. -/
theorem quot_whole {x y : Datum} {q d : Int} (hx : DW x (q * d)) (hy : DW y d) (hd : d ≠ 0) (hq : q.natAbs < 9007199254740992) : ∃ r, x.quotient 54 y = some r ∧ DW (double.read (double.write r)) q := by
  obtain ⟨s, m, i, rfl, h1⟩ := hx
  obtain ⟨t, n, j, rfl, h2⟩ := hy
  rw [signed_zero] at h1 h2
  have hd' : 0 < d.natAbs := by omega
  have hn : n = d.natAbs * 2 ^ j := by
    have : (d * 2 ^ j).natAbs = d.natAbs * 2 ^ j := by rw [Int.natAbs_mul, Int.natAbs_pow]; rfl
    rw [← this, ← h2]; cases t <;> simp
  have hm : m = q.natAbs * d.natAbs * 2 ^ i := by
    have : (q * d * 2 ^ i).natAbs = q.natAbs * d.natAbs * 2 ^ i := by rw [Int.natAbs_mul, Int.natAbs_mul, Int.natAbs_pow]; rfl
    rw [← this, ← h1]; cases s <;> simp
  have hn0 : 0 < n := by rw [hn]; exact Nat.mul_pos hd' (Nat.two_pow_pos j)
  have hlogn : n.log2 = d.natAbs.log2 + j := by
    rw [hn]
    refine (Nat.log2_eq_iff (Nat.ne_of_gt (Nat.mul_pos hd' (Nat.two_pow_pos j)))).2 ⟨?_, ?_⟩
    · rw [Nat.pow_add]; exact Nat.mul_le_mul_right _ (Nat.log2_self_le (by omega))
    · rw [show d.natAbs.log2 + j + 1 = (d.natAbs.log2 + 1) + j by omega, Nat.pow_add]; exact Nat.mul_lt_mul_of_pos_right Nat.lt_log2_self (Nat.two_pow_pos j)
  obtain ⟨more, hmore⟩ : ∃ more, more = 54 + n.log2 - m.log2 := ⟨_, rfl⟩
  have hle : j ≤ i + more := by
    by_cases hq0 : q.natAbs = 0
    · have : m = 0 := by rw [hm, hq0]; simp
      rw [this] at hmore
      have : Nat.log2 0 = 0 := by decide
      omega
    · have hlm : m.log2 ≤ 53 + d.natAbs.log2 + i := by
        have : m < 2 ^ (54 + d.natAbs.log2 + i) := by
          rw [hm, Nat.pow_add]
          refine Nat.mul_lt_mul_of_pos_right ?_ (Nat.two_pow_pos i)
          have ha : d.natAbs < 2 ^ (d.natAbs.log2 + 1) := Nat.lt_log2_self
          have : q.natAbs * d.natAbs < 2 ^ 53 * 2 ^ (d.natAbs.log2 + 1) := Nat.mul_lt_mul'' (by omega) ha
          rw [← Nat.pow_add] at this
          rw [show 54 + d.natAbs.log2 = 53 + (d.natAbs.log2 + 1) by omega]
          exact this
        have hm0 : m ≠ 0 := by rw [hm]; exact Nat.ne_of_gt (Nat.mul_pos (Nat.mul_pos (by omega) hd') (Nat.two_pow_pos i))
        have := (Nat.log2_lt hm0).2 this
        omega
      omega
  have hdiv : m <<< more = q.natAbs * 2 ^ (i + more - j) * n := by
    rw [Nat.shiftLeft_eq, hm, hn, Nat.mul_assoc, ← Nat.pow_add, Nat.mul_mul_mul_comm, ← Nat.pow_add, show i + more - j + j = i + more by omega]
  refine ⟨.number (s ^^ t) (2 * (q.natAbs * 2 ^ (i + more - j))) (-((i + more - j + 1 : Nat) : Int)), ?_, ?_⟩
  · show (if n = 0 then _ else _) = _
    rw [if_neg (by omega), ← hmore]
    show some (Datum.number (s ^^ t) (2 * (m <<< more / n) + (m <<< more % n != 0).toNat) (-(i : Int) - -(j : Int) - (more : Int) - 1)) = _
    rw [hdiv, Nat.mul_div_cancel _ hn0, Nat.mul_mod_left]
    congr 2
    omega
  · refine write_whole ?_ hq
    rw [signed_zero]
    have e : ((2 * (q.natAbs * 2 ^ (i + more - j)) : Nat) : Int) = (q.natAbs : Int) * 2 ^ (i + more - j + 1) := by
      rw [Int.pow_succ]
      simp
      grind
    rw [e]
    have hsg : (if (s ^^ t) = true then -(q.natAbs : Int) else (q.natAbs : Int)) = q := by
      have p1 : (0 : Int) < 2 ^ i := Int.pow_pos (by omega)
      have p2 : (0 : Int) < 2 ^ j := Int.pow_pos (by omega)
      have s1 : if s = true then q * d ≤ 0 else 0 ≤ q * d := by
        cases s
        · simp only [Bool.false_eq_true, if_false] at h1 ⊢
          have : 0 ≤ q * d * 2 ^ i := by rw [← h1]; omega
          exact Int.nonneg_of_mul_nonneg_left this p1
        · simp only [if_true] at h1 ⊢
          have : 0 ≤ -(q * d) * 2 ^ i := by rw [Int.neg_mul, ← h1]; omega
          have := Int.nonneg_of_mul_nonneg_left this p1
          omega
      have s2 : if t = true then d ≤ 0 else 0 ≤ d := by
        cases t
        · simp only [Bool.false_eq_true, if_false] at h2 ⊢
          have : 0 ≤ d * 2 ^ j := by rw [← h2]; omega
          exact Int.nonneg_of_mul_nonneg_left this p2
        · simp only [if_true] at h2 ⊢
          have : 0 ≤ -d * 2 ^ j := by rw [Int.neg_mul, ← h2]; omega
          have := Int.nonneg_of_mul_nonneg_left this p2
          omega
      have pos : ∀ a b : Int, 0 ≤ a * b → 0 < b → 0 ≤ a := fun a b h hb => Int.nonneg_of_mul_nonneg_left h hb
      cases s <;> cases t <;> simp only [Bool.false_eq_true, if_false, if_true, Bool.xor_false, Bool.xor_true, Bool.not_true, Bool.not_false] at s1 s2 ⊢
      · have := pos q d s1 (by omega); omega
      · have := pos (-q) (-d) (by rw [Int.neg_mul_neg]; exact s1) (by omega); omega
      · have := pos (-q) d (by rw [Int.neg_mul]; omega) (by omega); omega
      · have := pos q (-d) (by rw [Int.mul_neg]; omega) (by omega); omega
    cases hst : (s ^^ t) <;> rw [hst] at hsg <;> simp only [Bool.false_eq_true, if_false, if_true] at hsg ⊢
    · rw [← hsg]; simp
    · rw [← hsg]; simp [Int.neg_mul]
theorem WF.div {x y : F} {q d : Int} (hx : WF x (q * d)) (hy : WF y d) (hd : d ≠ 0) (hq : q.natAbs < 9007199254740992) : WF (fdiv x y) q := by
  obtain ⟨u, rfl, h1⟩ := hx
  obtain ⟨v, rfl, h2⟩ := hy
  obtain ⟨r, e, hr⟩ := quot_whole h1 h2 hd hq
  exact ⟨_, by show double.div u v = _; unfold Format.div; rw [fb]; show (Datum.quotient 54 _ _).map _ = _; rw [e]; rfl, hr⟩
theorem WF.fin {x : F} {n : Int} (hx : WF x n) (hn : n.natAbs < 9007199254740992) : ffin x = true := by
  obtain ⟨u, e0, s, m, k, e1, h1⟩ := hx.abs
  unfold ffin fle
  rw [e0]
  have ho : fcmp (some u) fbig = some .lt := by
    show double.order u 9218868437227405311 = _
    unfold Format.order
    have eb : double.read 9218868437227405311 = .number false 9007199254740991 971 := by decide
    rw [e1, eb]
    show some (compare (signed s m (-(k : Int) - min (-(k : Int)) 971).toNat) (signed false 9007199254740991 ((971 : Int) - min (-(k : Int)) 971).toNat)) = _
    have g1 : (-(k : Int) - min (-(k : Int)) 971).toNat = 0 := by omega
    have g2 : ((971 : Int) - min (-(k : Int)) 971).toNat = 971 + k := by omega
    rw [g1, g2, h1, signed_up false]
    rw [signed_zero]
    simp only [Bool.false_eq_true, if_false]
    have p1 : (0 : Int) < 2 ^ k := Int.pow_pos (by omega)
    have hlt : (n.natAbs : Int) * 2 ^ k < 9007199254740991 * 2 ^ (971 + k) := by
      rw [Int.pow_add]
      have a0 : (0 : Int) < 2 ^ 970 := Int.pow_pos (by omega)
      have a1 : (2 : Int) ≤ 2 ^ 971 := by rw [show (971 : Nat) = 970 + 1 from rfl, Int.pow_succ]; omega
      have a2 : (9007199254740991 : Int) * 2 ≤ 9007199254740991 * 2 ^ 971 := Int.mul_le_mul_of_nonneg_left a1 (by omega)
      have : (n.natAbs : Int) < 9007199254740991 * 2 ^ 971 := by omega
      have := Int.mul_lt_mul_of_pos_right this p1
      rw [Int.mul_assoc] at this
      exact this
    rw [show ((9007199254740991 : Nat) : Int) = 9007199254740991 from rfl]
    show some (compareOfLessAndEq _ _) = _
    unfold compareOfLessAndEq
    rw [if_pos hlt]
  rw [ho]; rfl

/-! ### Complex division -/
def fge (x y : F) : Bool := fcmp x y == some .gt || fcmp x y == some .eq
theorem WF.ge {x y : F} {a b : Int} (hx : WF x a) (hy : WF y b) : fge x y = decide (b ≤ a) := by
  unfold fge
  rw [hx.cmp hy]
  show ((some (compareOfLessAndEq a b) == some Ordering.gt) || (some (compareOfLessAndEq a b) == some Ordering.eq)) = _
  unfold compareOfLessAndEq
  by_cases h1 : a < b
  · rw [if_pos h1, decide_eq_false (by omega)]; rfl
  · rw [if_neg h1]
    by_cases h2 : a = b
    · rw [if_pos h2, decide_eq_true (by omega)]; rfl
    · rw [if_neg h2, decide_eq_true (by omega)]; rfl
end Go.Proofs.Ytghhanifakllpaa.Nu

/- Plain: floats as fractions: sums, products, quotients, order; a complex quotient is finite. No program in sight. -/
set_option linter.unusedVariables false
set_option linter.unusedSimpArgs false
namespace Go.Proofs.Ytghhanifakllpaa.Nu
open Ieee

def sg (s : Bool) : Rat := if s then -1 else 1
def nv (s : Bool) (m : Nat) (k : Int) : Rat := sg s * ((m : Rat) * p2 k)
/-- A float that is this fraction. -/
def RV (x : F) (q : Rat) : Prop := ∃ b s m k, x = some b ∧ double.read b = .number s m k ∧ q = nv s m k
/-- No further than e from one another. -/
def Nr (r q e : Rat) : Prop := r ≤ q + e ∧ q ≤ r + e
/-- No greater than B. -/
def Ab (q B : Rat) : Prop := q ≤ B ∧ -B ≤ q
theorem cast_nn (m : Nat) : (0 : Rat) ≤ (m : Rat) := by
  have : ((0 : Nat) : Rat) ≤ (m : Rat) := Rat.natCast_le_natCast.2 (Nat.zero_le _)
  simpa using this
theorem mag_nn (m : Nat) (k : Int) : 0 ≤ (m : Rat) * p2 k := Rat.mul_nonneg (cast_nn m) (Rat.le_of_lt (p2_pos k))
theorem nv_abs {s : Bool} {m : Nat} {k : Int} {B : Rat} (h : Ab (nv s m k) B) : (m : Rat) * p2 k ≤ B := by
  unfold Ab nv sg at h
  cases s
  · simp at h; exact h.1
  · simp at h; have := h.2; grind
theorem abs_nv {s : Bool} {m : Nat} {k : Int} {B : Rat} (h : (m : Rat) * p2 k ≤ B) : Ab (nv s m k) B := by
  have := mag_nn m k
  unfold Ab nv sg
  cases s
  · simp; grind
  · simp; grind
theorem nr_nv {s : Bool} {m m' : Nat} {k k' : Int} {e : Rat} (h1 : (m : Rat) * p2 k ≤ (m' : Rat) * p2 k' + e) (h2 : (m' : Rat) * p2 k' ≤ (m : Rat) * p2 k + e) : Nr (nv s m k) (nv s m' k') e := by
  unfold Nr nv sg
  cases s
  · simp; exact ⟨h1, h2⟩
  · simp; grind
def e53 (B : Rat) : Rat := B * p2 (-53) + p2 (-1075)
/-- What is written is near. -/
theorem RV.write (s : Bool) (m : Nat) (k : Int) {B : Rat} (hB : Ab (nv s m k) B) (hB2 : B ≤ p2 1000) : ∃ r, RV (some (double.write (.number s m k))) r ∧ Nr r (nv s m k) (e53 B) := by
  obtain ⟨m', k', h1, _, h3, h4⟩ := near_write s m k (nv_abs hB) hB2
  exact ⟨nv s m' k', ⟨_, s, m', k', rfl, h1, rfl⟩, nr_nv h3 h4⟩

/-! ### Whole numbers times powers -/
theorem int_cast_mul (a : Int) (n : Nat) : ((a * (2 ^ n : Nat) : Int) : Rat) = (a : Rat) * p2 n := by
  rw [p2_nat, Rat.intCast_mul]; rfl
theorem signed_up' (s : Bool) (m u : Nat) : ((signed s m u : Int) : Rat) = sg s * ((m : Rat) * p2 u) := by
  unfold signed sg
  rw [Nat.shiftLeft_eq]
  cases s
  · simp only [Bool.false_eq_true, if_false]
    rw [Rat.one_mul, ← nat_p2]; rfl
  · simp only [if_true]
    rw [← nat_p2, Rat.intCast_neg]
    have : (((m * 2 ^ u : Nat) : Int) : Rat) = ((m * 2 ^ u : Nat) : Rat) := rfl
    rw [this]; grind
/-- A datum's number at a lower place. -/
theorem nv_at (s : Bool) (m : Nat) {k base : Int} (h : base ≤ k) : nv s m k = ((signed s m (k - base).toNat : Int) : Rat) * p2 base := by
  rw [signed_up']
  unfold nv
  rw [Rat.mul_assoc, Rat.mul_assoc, ← p2_add]
  rw [show ((k - base).toNat : Int) + base = k by omega]
theorem nv_int (t : Int) (z : Bool) (base : Int) : nv (if t = 0 then z else decide (t < 0)) t.natAbs base = (t : Rat) * p2 base := by
  unfold nv sg
  by_cases h : t = 0
  · subst h; simp
  · rw [if_neg h]
    by_cases h2 : t < 0
    · rw [decide_eq_true h2]
      obtain ⟨n, rfl⟩ : ∃ n : Nat, t = -(n : Int) := ⟨t.natAbs, by omega⟩
      have e : (-(n : Int)).natAbs = n := by omega
      rw [e, Rat.intCast_neg]
      have : (((n : Nat) : Int) : Rat) = (n : Rat) := rfl
      rw [this]; simp; grind
    · rw [decide_eq_false h2]
      obtain ⟨n, rfl⟩ : ∃ n : Nat, t = (n : Int) := ⟨t.natAbs, by omega⟩
      have e : ((n : Int)).natAbs = n := by omega
      rw [e]
      have : (((n : Nat) : Int) : Rat) = (n : Rat) := rfl
      rw [this]; simp
theorem sum_nv (s t : Bool) (m n : Nat) (i j : Int) : ∃ d, Datum.sum (.number s m i) (.number t n j) = some d ∧ ∃ s' m' k', d = .number s' m' k' ∧ nv s' m' k' = nv s m i + nv t n j := by
  refine ⟨_, rfl, _, _, _, rfl, ?_⟩
  rw [nv_int, Rat.intCast_add, Rat.add_mul, ← nv_at s m (Int.min_le_left i j), ← nv_at t n (Int.min_le_right i j)]

variable {x y : F} {p q B : Rat}
theorem RV.add (hx : RV x p) (hy : RV y q) (hB : Ab (p + q) B) (hB2 : B ≤ p2 1000) : ∃ r, RV (fadd x y) r ∧ Nr r (p + q) (e53 B) := by
  obtain ⟨a, s, m, i, rfl, h1, rfl⟩ := hx
  obtain ⟨b, t, n, j, rfl, h2, rfl⟩ := hy
  obtain ⟨d, h3, s', m', k', rfl, h4⟩ := sum_nv s t m n i j
  rw [← h4] at hB ⊢
  obtain ⟨r, h5, h6⟩ := RV.write s' m' k' hB hB2
  refine ⟨r, ?_, h6⟩
  have : fadd (some a) (some b) = some (double.write (.number s' m' k')) := by
    show ((double.read a).sum (double.read b)).map double.write = _
    rw [h1, h2, h3]; rfl
  rw [this]; exact h5
theorem opp_nv (s : Bool) (m : Nat) (k : Int) : nv (!s) m k = -nv s m k := by
  unfold nv sg
  cases s <;> simp <;> grind
theorem RV.sub (hx : RV x p) (hy : RV y q) (hB : Ab (p - q) B) (hB2 : B ≤ p2 1000) : ∃ r, RV (fsub x y) r ∧ Nr r (p - q) (e53 B) := by
  obtain ⟨a, s, m, i, rfl, h1, rfl⟩ := hx
  obtain ⟨b, t, n, j, rfl, h2, rfl⟩ := hy
  obtain ⟨d, h3, s', m', k', rfl, h4⟩ := sum_nv s (!t) m n i j
  rw [opp_nv, ← Rat.sub_eq_add_neg] at h4
  rw [← h4] at hB ⊢
  obtain ⟨r, h5, h6⟩ := RV.write s' m' k' hB hB2
  refine ⟨r, ?_, h6⟩
  have : fsub (some a) (some b) = some (double.write (.number s' m' k')) := by
    show ((double.read a).sum (double.read b).opposite).map double.write = _
    rw [h1, h2]
    show ((Datum.number s m i).sum (.number (!t) n j)).map double.write = _
    rw [h3]; rfl
  rw [this]; exact h5
theorem sg_xor (s t : Bool) : sg (s ^^ t) = sg s * sg t := by
  unfold sg; cases s <;> cases t <;> simp <;> grind
theorem RV.mul (hx : RV x p) (hy : RV y q) (hB : Ab (p * q) B) (hB2 : B ≤ p2 1000) : ∃ r, RV (fmul x y) r ∧ Nr r (p * q) (e53 B) := by
  obtain ⟨a, s, m, i, rfl, h1, rfl⟩ := hx
  obtain ⟨b, t, n, j, rfl, h2, rfl⟩ := hy
  have h4 : nv (s ^^ t) (m * n) (i + j) = nv s m i * nv t n j := by
    unfold nv
    rw [sg_xor, p2_add, Rat.natCast_mul]; grind
  rw [← h4] at hB ⊢
  obtain ⟨r, h5, h6⟩ := RV.write _ _ _ hB hB2
  refine ⟨r, ?_, h6⟩
  have : fmul (some a) (some b) = some (double.write (.number (s ^^ t) (m * n) (i + j))) := by
    show ((double.read a).product (double.read b)).map double.write = _
    rw [h1, h2]; rfl
  rw [this]; exact h5
theorem RV.neg (hx : RV x p) : RV (fneg x) (-p) := by
  obtain ⟨u, s, m, k, rfl, e1, rfl⟩ := hx
  refine ⟨u ^^^ 9223372036854775808, !s, m, k, rfl, ?_, (opp_nv s m k).symm⟩
  have hm : (u ^^^ 9223372036854775808) % 9223372036854775808 = u % 9223372036854775808 := xor_mod u
  have hs : ((u ^^^ 9223372036854775808) / 9223372036854775808 % 2 == 1) = !(u / 9223372036854775808 % 2 == 1) := by
    have h2 : (9223372036854775808 : Nat) = 2 ^ 63 := by decide
    have ht : ∀ z : Nat, (z / 9223372036854775808 % 2 == 1) = z.testBit 63 := fun z => by
      rw [h2, Nat.testBit_eq_decide_div_mod_eq]
      by_cases h : z / 2 ^ 63 % 2 = 1 <;> simp [h]
    rw [ht, ht, Nat.testBit_xor]
    have : Nat.testBit 9223372036854775808 63 = true := by decide
    rw [this]; simp
  unfold Format.read at e1 ⊢
  simp only [lp, bn, ir, sw] at e1 ⊢
  rw [hm, hs]
  split at e1
  · rename_i h
    rw [if_pos h]
    obtain ⟨q1, q2, q3⟩ := Datum.number.inj e1
    rw [q1, q2, q3]
  · rename_i h
    rw [if_neg h]
    split at e1
    · rename_i h
      rw [if_pos h]
      obtain ⟨q1, q2, q3⟩ := Datum.number.inj e1
      rw [q1, q2, q3]
    · split at e1 <;> exact absurd e1 (by simp)
def rabs (q : Rat) : Rat := if 0 ≤ q then q else -q
theorem RV.abs (hx : RV x p) : RV (fabs x) (rabs p) := by
  obtain ⟨u, s, m, k, rfl, e1, rfl⟩ := hx
  refine ⟨u % 9223372036854775808, false, m, k, rfl, read_mod u e1, ?_⟩
  have h := mag_nn m k
  unfold rabs nv sg
  cases s
  · simp only [Bool.false_eq_true, if_false, Rat.one_mul]
    rw [if_pos h]
  · simp only [if_true, Bool.false_eq_true, if_false, Rat.one_mul]
    by_cases h0 : (m : Rat) * p2 k = 0
    · rw [h0]; simp
    · rw [if_neg (by grind)]; grind

/-! ### Order -/
theorem RV.cmp (hx : RV x p) (hy : RV y q) : ∃ a b : Int, ∃ e : Int, fcmp x y = some (compare a b) ∧ p = (a : Rat) * p2 e ∧ q = (b : Rat) * p2 e := by
  obtain ⟨u, s, m, i, rfl, h1, rfl⟩ := hx
  obtain ⟨v, t, n, j, rfl, h2, rfl⟩ := hy
  refine ⟨_, _, min i j, ?_, nv_at s m (Int.min_le_left i j), nv_at t n (Int.min_le_right i j)⟩
  show (double.read u).order (double.read v) = _
  rw [h1, h2]; rfl
theorem p2_le (a b : Int) (e : Int) : (a : Rat) * p2 e ≤ (b : Rat) * p2 e ↔ a ≤ b := by
  constructor
  · intro h
    by_cases hab : a ≤ b
    · exact hab
    · have h1 : ((b + 1 : Int) : Rat) ≤ (a : Rat) := Rat.intCast_le_intCast.2 (by omega)
      have h2 := Rat.mul_le_mul_of_nonneg_right h1 (Rat.le_of_lt (p2_pos e))
      have h3 := p2_pos e
      rw [Rat.intCast_add, Rat.add_mul] at h2
      have h4 : ((1 : Int) : Rat) = 1 := rfl
      rw [h4, Rat.one_mul] at h2
      grind
  · intro h
    exact Rat.mul_le_mul_of_nonneg_right (Rat.intCast_le_intCast.2 h) (Rat.le_of_lt (p2_pos e))
theorem RV.le (hx : RV x p) (hy : RV y q) : fle x y = decide (p ≤ q) := by
  obtain ⟨a, b, e, h1, rfl, rfl⟩ := hx.cmp hy
  unfold fle
  rw [h1]
  have : decide ((a : Rat) * p2 e ≤ (b : Rat) * p2 e) = decide (a ≤ b) := by
    by_cases h : a ≤ b
    · rw [decide_eq_true h, decide_eq_true ((p2_le a b e).2 h)]
    · rw [decide_eq_false h, decide_eq_false fun h2 => h ((p2_le a b e).1 h2)]
  rw [this]
  show ((some (compareOfLessAndEq a b) == some Ordering.lt) || (some (compareOfLessAndEq a b) == some Ordering.eq)) = _
  unfold compareOfLessAndEq
  by_cases h1 : a < b
  · rw [if_pos h1, decide_eq_true (by omega)]; rfl
  · rw [if_neg h1]
    by_cases h2 : a = b
    · rw [if_pos h2, decide_eq_true (by omega)]; rfl
    · rw [if_neg h2, decide_eq_false (by omega)]; rfl
theorem RV.ge (hx : RV x p) (hy : RV y q) : fge x y = decide (q ≤ p) := by
  obtain ⟨a, b, e, h1, rfl, rfl⟩ := hx.cmp hy
  unfold fge
  rw [h1]
  have : decide ((b : Rat) * p2 e ≤ (a : Rat) * p2 e) = decide (b ≤ a) := by
    by_cases h : b ≤ a
    · rw [decide_eq_true h, decide_eq_true ((p2_le b a e).2 h)]
    · rw [decide_eq_false h, decide_eq_false fun h2 => h ((p2_le b a e).1 h2)]
  rw [this]
  show ((some (compareOfLessAndEq a b) == some Ordering.gt) || (some (compareOfLessAndEq a b) == some Ordering.eq)) = _
  unfold compareOfLessAndEq
  by_cases h1 : a < b
  · rw [if_pos h1, decide_eq_false (by omega)]; rfl
  · rw [if_neg h1]
    by_cases h2 : a = b
    · rw [if_pos h2, decide_eq_true (by omega)]; rfl
    · rw [if_neg h2, decide_eq_true (by omega)]; rfl
theorem RV.big : RV fbig (nv false 9007199254740991 971) := ⟨9218868437227405311, false, 9007199254740991, 971, rfl, by decide, rfl⟩
theorem RV.fin (hx : RV x p) (h : Ab p (p2 1001)) : ffin x = true := by
  unfold ffin
  rw [hx.abs.le RV.big, decide_eq_true_iff]
  have h1 : rabs p ≤ p2 1001 := by
    unfold rabs
    split
    · exact h.1
    · have := h.2; grind
  refine Rat.le_trans h1 ?_
  unfold nv sg
  simp only [Bool.false_eq_true, if_false, Rat.one_mul]
  rw [show (1001 : Int) = 30 + 971 by decide, p2_add]
  refine Rat.mul_le_mul_of_nonneg_right ?_ (Rat.le_of_lt (p2_pos 971))
  have : p2 30 = ((2 ^ 30 : Nat) : Rat) := p2_nat 30
  rw [this]
  exact Rat.natCast_le_natCast.2 (by decide)
theorem WF.rv {x : F} {n : Int} (h : WF x n) : RV x (n : Rat) := by
  obtain ⟨b, rfl, s, m, k, h1, h2⟩ := h
  refine ⟨b, s, m, _, rfl, h1, ?_⟩
  have h3 := nv_at s m (show -(k : Int) ≤ -(k : Int) from Int.le_refl _)
  rw [show (-(k : Int) - -(k : Int)).toNat = 0 by omega, h2] at h3
  rw [h3]
  have e : ((n * 2 ^ k : Int) : Rat) = (n : Rat) * p2 k := by
    rw [← int_cast_mul]; simp
  rw [e, Rat.mul_assoc, ← p2_add, show (k : Int) + -(k : Int) = 0 by omega, p2_zero, Rat.mul_one]
end Go.Proofs.Ytghhanifakllpaa.Nu

/- Plain: a quotient of floats as a fraction. No program in sight. -/
set_option linter.unusedVariables false
set_option linter.unusedSimpArgs false
namespace Go.Proofs.Ytghhanifakllpaa.Nu
open Ieee

theorem sg_sq (s : Bool) : sg s * sg s = 1 := by unfold sg; cases s <;> simp <;> grind
theorem le_of_mul_pos {a b c : Rat} (hc : 0 < c) (h : a * c ≤ b * c) : a ≤ b := by
  by_cases hab : a ≤ b
  · exact hab
  · have h1 : b < a := by grind
    have h2 := Rat.mul_lt_mul_of_pos_right h1 hc
    grind
theorem cancel_pos {a b c : Rat} (hc : 0 < c) (h : a * c = b * c) : a = b := by
  have h1 := le_of_mul_pos hc (show a * c ≤ b * c by grind)
  have h2 := le_of_mul_pos hc (show b * c ≤ a * c by grind)
  grind
theorem qh1 (M n d P F T : Rat) (hp1 : P*2 = F) (hTE : T*n = d*F) (c : M*n*P ≤ (2*d+n)*P) : M*P*n ≤ (T+P)*n := by
  subst hp1
  grind
theorem qh2 (M n d P F T : Rat) (hp1 : P*2 = F) (hTE : T*n = d*F) (c : 2*d*P ≤ (M*n+n)*P) : T*n ≤ (M*P+P)*n := by
  subst hp1
  grind
theorem qh3 (T n q F : Rat) (h : q*n*F ≤ T*n) : q*F*n ≤ T*n := by grind
theorem qh4 (P F T q r : Rat) (hp1 : P*2 = F) (e : q*r*2 = 1) (h : q*F*r ≤ T*r) : P ≤ T*r := by
  subst hp1
  have : q * (P*2) * r = P * (q*r*2) := by grind
  rw [this, e] at h
  grind
def e51 (B : Rat) : Rat := B * p2 (-51) + p2 (-1075)
theorem quot_near {m n : Nat} {i j : Int} {T : Rat} (hn : n ≠ 0) (hT : T * ((n : Rat) * p2 j) = (m : Rat) * p2 i) {more : Nat} (hmore : more = 54 + n.log2 - m.log2) :
    Nr (((2 * ((m <<< more) / n) + ((m <<< more) % n != 0).toNat : Nat) : Rat) * p2 (i - j - more - 1)) T (T * p2 (-54)) ∧ 0 ≤ T := by
  have hn1 : (1 : Rat) ≤ (n : Rat) := by
    have : ((1 : Nat) : Rat) ≤ (n : Rat) := Rat.natCast_le_natCast.2 (by omega)
    simpa using this
  have hn0 : (0 : Rat) < (n : Rat) := by grind
  have hnj : 0 < (n : Rat) * p2 j := Rat.mul_pos hn0 (p2_pos j)
  have hT0 : 0 ≤ T := by
    refine le_of_mul_pos hnj ?_
    rw [hT, Rat.zero_mul]; exact mag_nn m i
  refine ⟨?_, hT0⟩
  obtain ⟨E, hE⟩ : ∃ E : Int, E = i - j - more := ⟨_, rfl⟩
  have hTE : T * (n : Rat) = ((m <<< more : Nat) : Rat) * p2 E := by
    have h1 : T * (n : Rat) * p2 j = (m : Rat) * p2 (i - j) * p2 j := by
      rw [Rat.mul_assoc, hT, Rat.mul_assoc, ← p2_add]
      rw [show i - j + j = i by omega]
    have h2 : T * (n : Rat) = (m : Rat) * p2 (i - j) := by
      exact cancel_pos (p2_pos j) h1
    rw [h2, Nat.shiftLeft_eq, nat_p2, Rat.mul_assoc, ← p2_add]
    rw [show (more : Int) + E = i - j by omega]
  by_cases hm : m = 0
  · subst hm
    have hz : T = 0 := by
      have : T * (n : Rat) = 0 := by rw [hTE]; simp
      rcases Rat.mul_eq_zero.1 this with h | h
      · exact h
      · exact absurd h (Rat.ne_of_gt hn0)
    rw [hz]
    unfold Nr
    simp
    grind
  · have hdn : 2 ^ 53 * n ≤ m <<< more := by
      rw [Nat.shiftLeft_eq]
      have h1 : 2 ^ m.log2 ≤ m := Nat.log2_self_le hm
      have h2 : n < 2 ^ (n.log2 + 1) := Nat.lt_log2_self
      have h3 : 2 ^ m.log2 * 2 ^ more ≤ m * 2 ^ more := Nat.mul_le_mul_right _ h1
      rw [← Nat.pow_add] at h3
      have h4 : 2 ^ (53 + (n.log2 + 1)) ≤ 2 ^ (m.log2 + more) := Nat.pow_le_pow_right (by omega) (by omega)
      rw [Nat.pow_add 2 53] at h4
      have h5 : 2 ^ 53 * n ≤ 2 ^ 53 * 2 ^ (n.log2 + 1) := Nat.mul_le_mul_left _ (by omega)
      omega
    obtain ⟨d, hd⟩ : ∃ d, d = m <<< more := ⟨_, rfl⟩
    rw [← hd] at hTE hdn ⊢
    rw [show i - j - (more : Int) - 1 = E + -1 by omega]
    have hdm := Nat.div_add_mod d n
    have hr := Nat.mod_lt d (by omega : 0 < n)
    obtain ⟨Q, hQ⟩ : ∃ Q, Q = d / n := ⟨_, rfl⟩
    obtain ⟨R, hR⟩ : ∃ R, R = d % n := ⟨_, rfl⟩
    rw [← hQ, ← hR] at hdm
    rw [← hR] at hr
    rw [← hQ, ← hR]
    -- twice
    have k1 : (2 * Q + (R != 0).toNat) * n ≤ 2 * d + n := by
      rw [Nat.add_mul, Nat.mul_assoc, Nat.mul_comm Q n]
      by_cases h0 : R = 0
      · subst h0; simp; omega
      · have : (R != 0) = true := by simpa using h0
        rw [this]; simp; omega
    have k2 : 2 * d ≤ (2 * Q + (R != 0).toNat) * n + n := by
      rw [Nat.add_mul, Nat.mul_assoc, Nat.mul_comm Q n]
      by_cases h0 : R = 0
      · subst h0; simp; omega
      · have : (R != 0) = true := by simpa using h0
        rw [this]; simp; omega
    obtain ⟨M, hM⟩ : ∃ M, M = 2 * Q + (R != 0).toNat := ⟨_, rfl⟩
    rw [← hM] at k1 k2 ⊢
    have c1 : (M : Rat) * (n : Rat) ≤ 2 * (d : Rat) + (n : Rat) := by
      have : ((M * n : Nat) : Rat) ≤ ((2 * d + n : Nat) : Rat) := Rat.natCast_le_natCast.2 k1
      rw [Rat.natCast_mul, Rat.natCast_add, Rat.natCast_mul] at this
      exact this
    have c2 : 2 * (d : Rat) ≤ (M : Rat) * (n : Rat) + (n : Rat) := by
      have : ((2 * d : Nat) : Rat) ≤ ((M * n + n : Nat) : Rat) := Rat.natCast_le_natCast.2 k2
      rw [Rat.natCast_mul, Rat.natCast_add, Rat.natCast_mul] at this
      exact this
    have c3 : p2 53 * (n : Rat) ≤ (d : Rat) := by
      have : ((2 ^ 53 * n : Nat) : Rat) ≤ (d : Rat) := Rat.natCast_le_natCast.2 hdn
      rw [Rat.natCast_mul] at this
      have e : p2 53 = ((2 ^ 53 : Nat) : Rat) := p2_nat 53
      rw [e]; exact this
    have hpE := p2_pos E
    have hp1 : p2 (E + -1) * 2 = p2 E := by
      rw [← p2_one, ← p2_add, show E + -1 + 1 = E by omega]
    have hp1p := p2_pos (E + -1)
    -- the two are no further than half a unit from one another
    have b1 : (M : Rat) * p2 (E + -1) ≤ T + p2 (E + -1) := by
      refine le_of_mul_pos hn0 ?_
      exact qh1 _ _ _ _ _ _ hp1 hTE (Rat.mul_le_mul_of_nonneg_right c1 (Rat.le_of_lt hp1p))
    have b2 : T ≤ (M : Rat) * p2 (E + -1) + p2 (E + -1) := by
      refine le_of_mul_pos hn0 ?_
      exact qh2 _ _ _ _ _ _ hp1 hTE (Rat.mul_le_mul_of_nonneg_right c2 (Rat.le_of_lt hp1p))
    have b3 : p2 (E + -1) ≤ T * p2 (-54) := by
      have h54 := p2_pos (-54)
      have e54 : p2 53 * p2 (-54) * 2 = 1 := by
        rw [← p2_add, ← p2_one, ← p2_add]
        exact p2_zero
      have h1 : p2 53 * (n : Rat) * p2 E ≤ T * (n : Rat) := by
        rw [hTE]
        exact Rat.mul_le_mul_of_nonneg_right c3 (Rat.le_of_lt hpE)
      have h2 : p2 53 * p2 E ≤ T := by
        exact le_of_mul_pos hn0 (qh3 _ _ _ _ h1)
      exact qh4 _ _ _ _ _ hp1 e54 (Rat.mul_le_mul_of_nonneg_right h2 (Rat.le_of_lt h54))
    unfold Nr
    grind
variable {x y : F} {p q v B : Rat}
theorem RV.div (hx : RV x p) (hy : RV y q) (hq : q ≠ 0) (hv : p = v * q) (hB : Ab v B) (hB2 : B ≤ p2 999) : ∃ r, RV (fdiv x y) r ∧ Nr r v (e51 B) := by
  obtain ⟨a, s, m, i, rfl, h1, rfl⟩ := hx
  obtain ⟨b, t, n, j, rfl, h2, rfl⟩ := hy
  have hn : n ≠ 0 := fun h => by
    subst h
    exact hq (by unfold nv; simp)
  obtain ⟨T, hTv⟩ : ∃ T, T = sg (s ^^ t) * v := ⟨_, rfl⟩
  have hv2 : v = sg (s ^^ t) * T := by
    have := sg_sq (s ^^ t)
    rw [hTv]; grind
  have hT : T * ((n : Rat) * p2 j) = (m : Rat) * p2 i := by
    unfold nv at hv
    have e1 := sg_sq s
    have e2 := sg_sq t
    have e3 := sg_xor s t
    rw [hTv, e3]
    have : sg s * (sg s * ((m : Rat) * p2 i)) = sg s * (v * (sg t * ((n : Rat) * p2 j))) := by rw [hv]
    rw [← Rat.mul_assoc, e1] at this
    grind
  obtain ⟨hN, hT0⟩ := quot_near hn hT rfl
  have hTB : T ≤ B := by
    rw [hTv]
    unfold sg
    split
    · have := hB.2; grind
    · have := hB.1; grind
  obtain ⟨more, hmo⟩ : ∃ more, more = 54 + n.log2 - m.log2 := ⟨_, rfl⟩
  rw [← hmo] at hN
  obtain ⟨mg, hmg⟩ : ∃ mg, mg = 2 * ((m <<< more) / n) + ((m <<< more) % n != 0).toNat := ⟨_, rfl⟩
  rw [← hmg] at hN
  obtain ⟨pl, hpl⟩ : ∃ pl : Int, pl = i - j - more - 1 := ⟨_, rfl⟩
  rw [← hpl] at hN
  have hB0 : 0 ≤ B := Rat.le_trans hT0 hTB
  have h54 := p2_pos (-54)
  have h54b : p2 (-54) ≤ 1 := by
    have := p2_mono (show (-54 : Int) ≤ 0 by decide)
    rwa [p2_zero] at this
  have hT54 : T * p2 (-54) ≤ B * p2 (-54) := Rat.mul_le_mul_of_nonneg_right hTB (Rat.le_of_lt h54)
  have hB54 : B * p2 (-54) ≤ B := by
    have := Rat.mul_le_mul_of_nonneg_left h54b hB0
    rwa [Rat.mul_one] at this
  have hAb : Ab (nv (s ^^ t) mg pl) (2 * B) := abs_nv (by unfold Nr at hN; grind)
  have h2B : 2 * B ≤ p2 1000 := by
    have : p2 1000 = 2 * p2 999 := by rw [← p2_one, ← p2_add]; rfl
    rw [this]; grind
  obtain ⟨r, h5, h6⟩ := RV.write (s ^^ t) mg pl hAb h2B
  refine ⟨r, ?_, ?_⟩
  · have : fdiv (some a) (some b) = some (double.write (.number (s ^^ t) mg pl)) := by
      show ((double.read a).quotient 54 (double.read b)).map double.write = _
      rw [h1, h2]
      unfold Datum.quotient
      simp only [if_neg hn]
      rw [← hmo, ← hmg, ← hpl]; rfl
    rw [this]; exact h5
  · have e53' : p2 (-53) = 2 * p2 (-54) := by rw [← p2_one, ← p2_add]; rfl
    have e51' : p2 (-51) = 8 * p2 (-54) := by
      have : (8 : Rat) = p2 3 := by rw [show p2 3 = ((2 ^ 3 : Nat) : Rat) from p2_nat 3]; rfl
      rw [this, ← p2_add]; rfl
    have ht := p2_pos (-1075)
    have hnn : Nr (nv (s ^^ t) mg pl) v (B * p2 (-54)) := by
      rw [hv2]
      unfold Nr at hN ⊢
      unfold nv
      unfold sg
      split <;> grind
    unfold Nr e53 at h6
    unfold Nr at hnn ⊢
    unfold e51
    rw [e51']
    rw [e53'] at h6
    have hb := Rat.mul_nonneg hB0 (Rat.le_of_lt h54)
    grind
end Go.Proofs.Ytghhanifakllpaa.Nu

/- Plain: rounding: a float's value as a fraction, how near a result is. No program in sight. -/
import Derived.Test.YtghhanifakllpaaVfZ
set_option linter.unusedSimpArgs false
set_option linter.unusedVariables false
set_option linter.unusedVariables false
set_option linter.unusedSimpArgs false
namespace Go.Proofs.Ytghhanifakllpaa.Nu
open Ieee

/-! ### Powers of two -/
def p2 (k : Int) : Rat := (2 : Rat) ^ k
theorem p2_pos (k : Int) : 0 < p2 k := Rat.zpow_pos (by decide)
theorem p2_add (j k : Int) : p2 (j + k) = p2 j * p2 k := Rat.zpow_add (by decide) j k
theorem p2_zero : p2 0 = 1 := Rat.zpow_zero 2
theorem p2_one : p2 1 = 2 := Rat.zpow_one 2
theorem p2_nat (n : Nat) : p2 (n : Int) = ((2 ^ n : Nat) : Rat) := by
  unfold p2
  rw [Rat.zpow_natCast]
  simp
theorem p2_mono {j k : Int} (h : j ≤ k) : p2 j ≤ p2 k := by
  obtain ⟨n, rfl⟩ : ∃ n : Nat, k = j + n := ⟨(k - j).toNat, by omega⟩
  rw [p2_add, p2_nat]
  have h1 : (1 : Rat) ≤ ((2 ^ n : Nat) : Rat) := by
    have : ((1 : Nat) : Rat) ≤ ((2 ^ n : Nat) : Rat) := Rat.natCast_le_natCast.2 (Nat.one_le_two_pow)
    simpa using this
  have := Rat.mul_le_mul_of_nonneg_left h1 (Rat.le_of_lt (p2_pos j))
  rwa [Rat.mul_one] at this
theorem p2_lt {j k : Int} (h : p2 j ≤ p2 k) : j ≤ k := by
  by_cases hjk : j ≤ k
  · exact hjk
  · have h1 := p2_mono (show k + 1 ≤ j by omega)
    rw [p2_add, p2_one] at h1
    have := p2_pos k
    grind

/-! ### To cut -/
theorem cut_near (neg : Bool) (n D : Nat) : 2 * (Toward.even.cut neg n D * 2 ^ D) ≤ 2 * n + 2 ^ D ∧ 2 * n ≤ 2 * (Toward.even.cut neg n D * 2 ^ D) + 2 ^ D := by
  unfold Toward.cut
  simp only [Nat.one_shiftLeft]
  by_cases hD : D ≤ n.log2 + 2
  · rw [Nat.min_eq_left hD]
    have hp := Nat.two_pow_pos D
    generalize 2 ^ D = g at hp ⊢
    have h1 := Nat.div_add_mod n g
    have h2 := Nat.mod_lt n hp
    generalize n % g = r at h1 h2 ⊢
    generalize hq : n / g = q at h1 ⊢
    rw [Nat.mul_comm] at h1
    by_cases hm : g < 2 * r ∨ (g = 2 * r ∧ q % 2 = 1)
    · have e : (decide (g < 2 * r) || (g == 2 * r && q % 2 == 1)) = true := by simpa using hm
      rw [e]
      have e2 : (q + true.toNat) * g = q * g + g := by rw [Nat.add_mul]; simp
      rw [e2]
      omega
    · have e : (decide (g < 2 * r) || (g == 2 * r && q % 2 == 1)) = false := by
        rw [← Bool.not_eq_true]; simpa using hm
      rw [e]
      have e2 : (q + false.toNat) * g = q * g := by simp
      rw [e2]
      have : 2 * r ≤ g := by omega
      omega
  · rw [Nat.min_eq_right (by omega)]
    have h1 : n < 2 ^ (n.log2 + 1) := Nat.lt_log2_self
    have h2 : 2 ^ (n.log2 + 2) = 2 * 2 ^ (n.log2 + 1) := by rw [Nat.pow_succ 2 (n.log2 + 1)]; omega
    have h3 : 2 ^ (n.log2 + 2) ≤ 2 ^ D := Nat.pow_le_pow_right (by omega) (by omega)
    rw [Nat.div_eq_of_lt (by omega), Nat.mod_eq_of_lt (by omega)]
    have e : (decide (2 ^ (n.log2 + 2) < 2 * n) || (2 ^ (n.log2 + 2) == 2 * n && 0 % 2 == 1)) = false := by
      have : ¬ 2 ^ (n.log2 + 2) < 2 * n := by omega
      simp [this]
    rw [e]
    simp
    omega

/-! ### To read -/
theorem read_rung (neg : Bool) (L kept : Nat) (h : L = 0 ∨ 4503599627370496 ≤ kept) (h1 : kept ≤ 9007199254740992) (h2 : L ≤ 2040) :
    ∃ (m : Nat) (k : Int), double.read (double.word neg (L * 4503599627370496 + kept)) = .number neg m k ∧ (m : Rat) * p2 k = (kept : Rat) * p2 ((L : Int) - 1074) ∧ -1074 ≤ k := by
  have e1 : double.word neg (L * 4503599627370496 + kept) % 9223372036854775808 = L * 4503599627370496 + kept := by
    unfold Format.word
    rw [sw]
    cases neg <;> simp <;> omega
  have e2 : (double.word neg (L * 4503599627370496 + kept) / 9223372036854775808 % 2 == 1) = neg := by
    unfold Format.word
    rw [sw]
    cases neg
    · simp; omega
    · simp; omega
  unfold Format.read
  simp only [lp, bn, ir, sw, e1, e2]
  by_cases hk : kept < 4503599627370496
  · have hL : L = 0 := by omega
    subst hL
    rw [if_pos (by omega)]
    exact ⟨_, _, rfl, by simp, by omega⟩
  · rw [if_neg (by omega), if_pos (by omega)]
    by_cases hk2 : kept = 9007199254740992
    · subst hk2
      refine ⟨_, _, rfl, ?_, by omega⟩
      have a1 : 4503599627370496 + (L * 4503599627370496 + 9007199254740992) % 4503599627370496 = 4503599627370496 := by omega
      have a2 : (-1074 : Int) + (((L * 4503599627370496 + 9007199254740992) / 4503599627370496 - 1 : Nat) : Int) = 1 + ((L : Int) - 1074) := by omega
      rw [a1, a2, p2_add, p2_one]
      grind
    · refine ⟨_, _, rfl, ?_, by omega⟩
      have a1 : 4503599627370496 + (L * 4503599627370496 + kept) % 4503599627370496 = kept := by omega
      have a2 : (-1074 : Int) + (((L * 4503599627370496 + kept) / 4503599627370496 - 1 : Nat) : Int) = (L : Int) - 1074 := by omega
      rw [a1, a2]

/-! ### To round -/
theorem nat_p2 (n k : Nat) : ((n * 2 ^ k : Nat) : Rat) = (n : Rat) * p2 k := by
  rw [p2_nat]; exact Rat.natCast_mul n (2 ^ k)
theorem near_write (s : Bool) (mag : Nat) (place : Int) {B : Rat} (hB : (mag : Rat) * p2 place ≤ B) (hB2 : B ≤ p2 1000) :
    ∃ (m : Nat) (k : Int), double.read (double.nearest s mag place) = .number s m k ∧ -1074 ≤ k ∧ (m : Rat) * p2 k ≤ (mag : Rat) * p2 place + (B * p2 (-53) + p2 (-1075)) ∧ (mag : Rat) * p2 place ≤ (m : Rat) * p2 k + (B * p2 (-53) + p2 (-1075)) := by
  have hplace := p2_pos place
  have hB0 : 0 ≤ B := by
    have h1 : (0 : Rat) ≤ (mag : Rat) := by
      have : ((0 : Nat) : Rat) ≤ (mag : Rat) := Rat.natCast_le_natCast.2 (Nat.zero_le _)
      simpa using this
    have := Rat.mul_nonneg h1 (Rat.le_of_lt hplace)
    grind
  have hu := p2_pos (-53)
  have ht := p2_pos (-1075)
  have hBu := Rat.mul_nonneg hB0 (Rat.le_of_lt hu)
  by_cases hmag : mag = 0
  · subst hmag
    refine ⟨0, _, read_zero s place, by omega, ?_, ?_⟩ <;> simp <;> grind
  · obtain ⟨l, hl⟩ : ∃ l, l = mag.log2 := ⟨_, rfl⟩
    have h1 : 2 ^ l ≤ mag := by rw [hl]; exact Nat.log2_self_le hmag
    have h2 : mag < 2 ^ (l + 1) := by rw [hl]; exact Nat.lt_log2_self
    obtain ⟨last, hlast⟩ : ∃ last : Int, last = max (place + (l : Int) - 52) (-1074) := ⟨_, rfl⟩
    obtain ⟨U, hU⟩ : ∃ U, U = (place - last).toNat := ⟨_, rfl⟩
    obtain ⟨D, hD⟩ : ∃ D, D = (last - place).toNat := ⟨_, rfl⟩
    obtain ⟨c, hc⟩ : ∃ c, c = Toward.even.cut s (mag <<< U) D := ⟨_, rfl⟩
    obtain ⟨n1, n2⟩ := cut_near s (mag <<< U) D
    rw [← hc, Nat.shiftLeft_eq] at n1 n2
    have hpD := Nat.two_pow_pos D
    have hmU : mag * 2 ^ U < 2 ^ (53 + D) := by
      have : mag * 2 ^ U < 2 ^ (l + 1) * 2 ^ U := Nat.mul_lt_mul_of_pos_right h2 (Nat.two_pow_pos U)
      rw [← Nat.pow_add] at this
      exact Nat.lt_of_lt_of_le this (Nat.pow_le_pow_right (by omega) (by omega))
    have hc53 : c ≤ 9007199254740992 := by
      rw [Nat.pow_add] at hmU
      have : 2 * (c * 2 ^ D) < 2 * ((2 ^ 53 + 1) * 2 ^ D) := by
        have e : 2 * ((2 ^ 53 + 1) * 2 ^ D) = 2 * (2 ^ 53 * 2 ^ D) + 2 * 2 ^ D := by rw [Nat.add_mul]; omega
        omega
      have := Nat.lt_of_mul_lt_mul_right (Nat.lt_of_mul_lt_mul_left this)
      omega
    have hc52 : last = -1074 ∨ 4503599627370496 ≤ c := by
      by_cases hla : last = -1074
      · exact .inl hla
      · right
        have e : l + U = 52 + D := by omega
        have : 2 ^ l * 2 ^ U ≤ mag * 2 ^ U := Nat.mul_le_mul_right _ h1
        rw [← Nat.pow_add, e, Nat.pow_add] at this
        have h3 : (2 * 2 ^ 52 - 1) * 2 ^ D ≤ 2 * c * 2 ^ D := by
          rw [Nat.sub_mul, Nat.mul_assoc, Nat.mul_assoc]; omega
        have := Nat.le_of_mul_le_mul_right h3 hpD
        omega
    have hp2e : p2 (place + l) ≤ (mag : Rat) * p2 place := by
      rw [p2_add, p2_nat, Rat.mul_comm]
      exact Rat.mul_le_mul_of_nonneg_right (Rat.natCast_le_natCast.2 h1) (Rat.le_of_lt hplace)
    have he : place + l ≤ 1000 := p2_lt (Rat.le_trans hp2e (Rat.le_trans hB hB2))
    obtain ⟨L, hL⟩ : ∃ L, L = (last + 1074).toNat := ⟨_, rfl⟩
    have hLc : L = 0 ∨ 4503599627370496 ≤ c := by
      rcases hc52 with h | h
      · left; omega
      · exact .inr h
    obtain ⟨m, k, e1, e2, e3⟩ := read_rung s L c hLc hc53 (by omega)
    have hread : double.read (double.nearest s mag place) = .number s m k := by
      unfold Format.nearest
      rw [if_neg hmag]
      simp only [lp, fb, bn, ir]
      rw [← hl]
      have a1 : max (place + (l : Int) - ((52 : Nat) : Int)) (-1074) = last := hlast.symm
      rw [a1, ← hU, ← hD, ← hc]
      have a2 : (last - -1074).toNat = L := by rw [hL]; congr 1
      rw [a2, Nat.min_eq_left (by omega)]
      exact e1
    have hkl : (L : Int) - 1074 = last := by omega
    rw [hkl] at e2
    -- as fractions
    have q1 : (2 : Rat) * ((c : Rat) * p2 D) ≤ 2 * ((mag : Rat) * p2 U) + p2 D := by
      rw [← nat_p2, ← nat_p2, p2_nat]
      have : ((2 * (c * 2 ^ D) : Nat) : Rat) ≤ ((2 * (mag * 2 ^ U) + 2 ^ D : Nat) : Rat) := Rat.natCast_le_natCast.2 n1
      rw [Rat.natCast_add, Rat.natCast_mul, Rat.natCast_mul 2 (mag * 2 ^ U)] at this
      exact this
    have q2 : (2 : Rat) * ((mag : Rat) * p2 U) ≤ 2 * ((c : Rat) * p2 D) + p2 D := by
      rw [← nat_p2, ← nat_p2, p2_nat]
      have : ((2 * (mag * 2 ^ U) : Nat) : Rat) ≤ ((2 * (c * 2 ^ D) + 2 ^ D : Nat) : Rat) := Rat.natCast_le_natCast.2 n2
      rw [Rat.natCast_add, Rat.natCast_mul, Rat.natCast_mul 2 (c * 2 ^ D)] at this
      exact this
    have hP : ∀ x : Rat, x * p2 D * p2 (last - D) = x * p2 last := fun x => by
      rw [Rat.mul_assoc, ← p2_add, show (D : Int) + (last - D) = last by omega]
    have hQ : (mag : Rat) * p2 U * p2 (last - D) = (mag : Rat) * p2 place := by
      rw [Rat.mul_assoc, ← p2_add, show (U : Int) + (last - D) = place by omega]
    have hR : p2 D * p2 (last - D) = 2 * p2 (last - 1) := by
      rw [← p2_add, ← p2_one, ← p2_add, show (D : Int) + (last - D) = 1 + (last - 1) by omega]
    have hpos := Rat.le_of_lt (p2_pos (last - D))
    have r1 := Rat.mul_le_mul_of_nonneg_right q1 hpos
    have r2 := Rat.mul_le_mul_of_nonneg_right q2 hpos
    rw [Rat.add_mul, Rat.mul_assoc, Rat.mul_assoc 2, hP, hQ, hR] at r1
    rw [Rat.add_mul, Rat.mul_assoc, Rat.mul_assoc 2, hP, hQ, hR] at r2
    have herr : p2 (last - 1) ≤ B * p2 (-53) + p2 (-1075) := by
      by_cases hla : last = -1074
      · rw [hla]; show p2 (-1075) ≤ _; grind
      · have : last - 1 = (place + l) + (-53) := by omega
        rw [this, p2_add]
        have := Rat.mul_le_mul_of_nonneg_right (Rat.le_trans hp2e hB) (Rat.le_of_lt hu)
        grind
    refine ⟨m, k, hread, e3, ?_, ?_⟩
    · rw [e2]; grind
    · rw [e2]; grind
end Go.Proofs.Ytghhanifakllpaa.Nu

/- Plain: whole numbers in float64: without their sign, compared, divided where that comes out even. No program in sight. -/
set_option linter.unusedVariables false
set_option linter.unusedSimpArgs false
namespace Go.Proofs.Ytghhanifakllpaa.Nu
open Ieee

theorem WF.le {x y : F} {a b : Int} (hx : WF x a) (hy : WF y b) : fle x y = decide (a ≤ b) := by
  unfold fle
  rw [hx.cmp hy]
  show ((some (compareOfLessAndEq a b) == some Ordering.lt) || (some (compareOfLessAndEq a b) == some Ordering.eq)) = _
  unfold compareOfLessAndEq
  by_cases h1 : a < b
  · rw [if_pos h1, decide_eq_true (by omega)]; rfl
  · rw [if_neg h1]
    by_cases h2 : a = b
    · rw [if_pos h2, decide_eq_true (by omega)]; rfl
    · rw [if_neg h2, decide_eq_false (by omega)]; rfl
theorem read_mod (u : Nat) {s : Bool} {m : Nat} {k : Int} (h : double.read u = .number s m k) : double.read (u % 9223372036854775808) = .number false m k := by
  unfold Format.read at h ⊢
  simp only [lp, bn, ir, sw, Nat.mod_mod] at h ⊢
  have e : (u % 9223372036854775808 / 9223372036854775808 % 2 == 1) = false := by
    rw [Nat.div_eq_of_lt (Nat.mod_lt _ (by decide))]; rfl
  rw [e]
  split at h
  · rename_i h1
    rw [if_pos h1]
    obtain ⟨q1, q2, q3⟩ := Datum.number.inj h
    rw [q2, q3]
  · rename_i h1
    rw [if_neg h1]
    split at h
    · rename_i h2
      rw [if_pos h2]
      obtain ⟨q1, q2, q3⟩ := Datum.number.inj h
      rw [q2, q3]
    · split at h <;> exact absurd h (by simp)
theorem WF.abs {x : F} {a : Int} (hx : WF x a) : WF (fabs x) (a.natAbs : Int) := by
  obtain ⟨u, rfl, s, m, k, e1, h1⟩ := hx
  refine ⟨u % 9223372036854775808, rfl, false, m, k, read_mod u e1, ?_⟩
  rw [signed_zero] at h1 ⊢
  have h2 : (a * 2 ^ k).natAbs = a.natAbs * 2 ^ k := by rw [Int.natAbs_mul, Int.natAbs_pow]; rfl
  have h3 : m = a.natAbs * 2 ^ k := by rw [← h2, ← h1]; cases s <;> simp
  simp only [Bool.false_eq_true, if_false]
  rw [h3]; simp
/-- A quotient that comes out even. -/
theorem quot_whole {x y : Datum} {q d : Int} (hx : DW x (q * d)) (hy : DW y d) (hd : d ≠ 0) (hq : q.natAbs < 9007199254740992) : ∃ r, x.quotient 54 y = some r ∧ DW (double.read (double.write r)) q := by
  obtain ⟨s, m, i, rfl, h1⟩ := hx
  obtain ⟨t, n, j, rfl, h2⟩ := hy
  rw [signed_zero] at h1 h2
  have hd' : 0 < d.natAbs := by omega
  have hn : n = d.natAbs * 2 ^ j := by
    have : (d * 2 ^ j).natAbs = d.natAbs * 2 ^ j := by rw [Int.natAbs_mul, Int.natAbs_pow]; rfl
    rw [← this, ← h2]; cases t <;> simp
  have hm : m = q.natAbs * d.natAbs * 2 ^ i := by
    have : (q * d * 2 ^ i).natAbs = q.natAbs * d.natAbs * 2 ^ i := by rw [Int.natAbs_mul, Int.natAbs_mul, Int.natAbs_pow]; rfl
    rw [← this, ← h1]; cases s <;> simp
  have hn0 : 0 < n := by rw [hn]; exact Nat.mul_pos hd' (Nat.two_pow_pos j)
  have hlogn : n.log2 = d.natAbs.log2 + j := by
    rw [hn]
    refine (Nat.log2_eq_iff (Nat.ne_of_gt (Nat.mul_pos hd' (Nat.two_pow_pos j)))).2 ⟨?_, ?_⟩
    · rw [Nat.pow_add]; exact Nat.mul_le_mul_right _ (Nat.log2_self_le (by omega))
    · rw [show d.natAbs.log2 + j + 1 = (d.natAbs.log2 + 1) + j by omega, Nat.pow_add]; exact Nat.mul_lt_mul_of_pos_right Nat.lt_log2_self (Nat.two_pow_pos j)
  obtain ⟨more, hmore⟩ : ∃ more, more = 54 + n.log2 - m.log2 := ⟨_, rfl⟩
  have hle : j ≤ i + more := by
    by_cases hq0 : q.natAbs = 0
    · have : m = 0 := by rw [hm, hq0]; simp
      rw [this] at hmore
      have : Nat.log2 0 = 0 := by decide
      omega
    · have hlm : m.log2 ≤ 53 + d.natAbs.log2 + i := by
        have : m < 2 ^ (54 + d.natAbs.log2 + i) := by
          rw [hm, Nat.pow_add]
          refine Nat.mul_lt_mul_of_pos_right ?_ (Nat.two_pow_pos i)
          have ha : d.natAbs < 2 ^ (d.natAbs.log2 + 1) := Nat.lt_log2_self
          have : q.natAbs * d.natAbs < 2 ^ 53 * 2 ^ (d.natAbs.log2 + 1) := Nat.mul_lt_mul'' (by omega) ha
          rw [← Nat.pow_add] at this
          rw [show 54 + d.natAbs.log2 = 53 + (d.natAbs.log2 + 1) by omega]
          exact this
        have hm0 : m ≠ 0 := by rw [hm]; exact Nat.ne_of_gt (Nat.mul_pos (Nat.mul_pos (by omega) hd') (Nat.two_pow_pos i))
        have := (Nat.log2_lt hm0).2 this
        omega
      omega
  have hdiv : m <<< more = q.natAbs * 2 ^ (i + more - j) * n := by
    rw [Nat.shiftLeft_eq, hm, hn, Nat.mul_assoc, ← Nat.pow_add, Nat.mul_mul_mul_comm, ← Nat.pow_add, show i + more - j + j = i + more by omega]
  refine ⟨.number (s ^^ t) (2 * (q.natAbs * 2 ^ (i + more - j))) (-((i + more - j + 1 : Nat) : Int)), ?_, ?_⟩
  · show (if n = 0 then _ else _) = _
    rw [if_neg (by omega), ← hmore]
    show some (Datum.number (s ^^ t) (2 * (m <<< more / n) + (m <<< more % n != 0).toNat) (-(i : Int) - -(j : Int) - (more : Int) - 1)) = _
    rw [hdiv, Nat.mul_div_cancel _ hn0, Nat.mul_mod_left]
    congr 2
    omega
  · refine write_whole ?_ hq
    rw [signed_zero]
    have e : ((2 * (q.natAbs * 2 ^ (i + more - j)) : Nat) : Int) = (q.natAbs : Int) * 2 ^ (i + more - j + 1) := by
      rw [Int.pow_succ]
      simp
      grind
    rw [e]
    have hsg : (if (s ^^ t) = true then -(q.natAbs : Int) else (q.natAbs : Int)) = q := by
      have p1 : (0 : Int) < 2 ^ i := Int.pow_pos (by omega)
      have p2 : (0 : Int) < 2 ^ j := Int.pow_pos (by omega)
      have s1 : if s = true then q * d ≤ 0 else 0 ≤ q * d := by
        cases s
        · simp only [Bool.false_eq_true, if_false] at h1 ⊢
          have : 0 ≤ q * d * 2 ^ i := by rw [← h1]; omega
          exact Int.nonneg_of_mul_nonneg_left this p1
        · simp only [if_true] at h1 ⊢
          have : 0 ≤ -(q * d) * 2 ^ i := by rw [Int.neg_mul, ← h1]; omega
          have := Int.nonneg_of_mul_nonneg_left this p1
          omega
      have s2 : if t = true then d ≤ 0 else 0 ≤ d := by
        cases t
        · simp only [Bool.false_eq_true, if_false] at h2 ⊢
          have : 0 ≤ d * 2 ^ j := by rw [← h2]; omega
          exact Int.nonneg_of_mul_nonneg_left this p2
        · simp only [if_true] at h2 ⊢
          have : 0 ≤ -d * 2 ^ j := by rw [Int.neg_mul, ← h2]; omega
          have := Int.nonneg_of_mul_nonneg_left this p2
          omega
      have pos : ∀ a b : Int, 0 ≤ a * b → 0 < b → 0 ≤ a := fun a b h hb => Int.nonneg_of_mul_nonneg_left h hb
      cases s <;> cases t <;> simp only [Bool.false_eq_true, if_false, if_true, Bool.xor_false, Bool.xor_true, Bool.not_true, Bool.not_false] at s1 s2 ⊢
      · have := pos q d s1 (by omega); omega
      · have := pos (-q) (-d) (by rw [Int.neg_mul_neg]; exact s1) (by omega); omega
      · have := pos (-q) d (by rw [Int.neg_mul]; omega) (by omega); omega
      · have := pos q (-d) (by rw [Int.mul_neg]; omega) (by omega); omega
    cases hst : (s ^^ t) <;> rw [hst] at hsg <;> simp only [Bool.false_eq_true, if_false, if_true] at hsg ⊢
    · rw [← hsg]; simp
    · rw [← hsg]; simp [Int.neg_mul]
theorem WF.div {x y : F} {q d : Int} (hx : WF x (q * d)) (hy : WF y d) (hd : d ≠ 0) (hq : q.natAbs < 9007199254740992) : WF (fdiv x y) q := by
  obtain ⟨u, rfl, h1⟩ := hx
  obtain ⟨v, rfl, h2⟩ := hy
  obtain ⟨r, e, hr⟩ := quot_whole h1 h2 hd hq
  exact ⟨_, by show double.div u v = _; unfold Format.div; rw [fb]; show (Datum.quotient 54 _ _).map _ = _; rw [e]; rfl, hr⟩
theorem WF.fin {x : F} {n : Int} (hx : WF x n) (hn : n.natAbs < 9007199254740992) : ffin x = true := by
  obtain ⟨u, e0, s, m, k, e1, h1⟩ := hx.abs
  unfold ffin fle
  rw [e0]
  have ho : fcmp (some u) fbig = some .lt := by
    show double.order u 9218868437227405311 = _
    unfold Format.order
    have eb : double.read 9218868437227405311 = .number false 9007199254740991 971 := by decide
    rw [e1, eb]
    show some (compare (signed s m (-(k : Int) - min (-(k : Int)) 971).toNat) (signed false 9007199254740991 ((971 : Int) - min (-(k : Int)) 971).toNat)) = _
    have g1 : (-(k : Int) - min (-(k : Int)) 971).toNat = 0 := by omega
    have g2 : ((971 : Int) - min (-(k : Int)) 971).toNat = 971 + k := by omega
    rw [g1, g2, h1, signed_up false]
    rw [signed_zero]
    simp only [Bool.false_eq_true, if_false]
    have p1 : (0 : Int) < 2 ^ k := Int.pow_pos (by omega)
    have hlt : (n.natAbs : Int) * 2 ^ k < 9007199254740991 * 2 ^ (971 + k) := by
      rw [Int.pow_add]
      have a0 : (0 : Int) < 2 ^ 970 := Int.pow_pos (by omega)
      have a1 : (2 : Int) ≤ 2 ^ 971 := by rw [show (971 : Nat) = 970 + 1 from rfl, Int.pow_succ]; omega
      have a2 : (9007199254740991 : Int) * 2 ≤ 9007199254740991 * 2 ^ 971 := Int.mul_le_mul_of_nonneg_left a1 (by omega)
      have : (n.natAbs : Int) < 9007199254740991 * 2 ^ 971 := by omega
      have := Int.mul_lt_mul_of_pos_right this p1
      rw [Int.mul_assoc] at this
      exact this
    rw [show ((9007199254740991 : Nat) : Int) = 9007199254740991 from rfl]
    show some (compareOfLessAndEq _ _) = _
    unfold compareOfLessAndEq
    rw [if_pos hlt]
  rw [ho]; rfl

/-! ### Complex division -/
def fge (x y : F) : Bool := fcmp x y == some .gt || fcmp x y == some .eq
theorem WF.ge {x y : F} {a b : Int} (hx : WF x a) (hy : WF y b) : fge x y = decide (b ≤ a) := by
  unfold fge
  rw [hx.cmp hy]
  show ((some (compareOfLessAndEq a b) == some Ordering.gt) || (some (compareOfLessAndEq a b) == some Ordering.eq)) = _
  unfold compareOfLessAndEq
  by_cases h1 : a < b
  · rw [if_pos h1, decide_eq_false (by omega)]; rfl
  · rw [if_neg h1]
    by_cases h2 : a = b
    · rw [if_pos h2, decide_eq_true (by omega)]; rfl
    · rw [if_neg h2, decide_eq_true (by omega)]; rfl
end Go.Proofs.Ytghhanifakllpaa.Nu

/- Plain: floats as fractions: sums, products, quotients, order; a complex quotient is finite. No program in sight. -/
set_option linter.unusedVariables false
set_option linter.unusedSimpArgs false
namespace Go.Proofs.Ytghhanifakllpaa.Nu
open Ieee

def sg (s : Bool) : Rat := if s then -1 else 1
def nv (s : Bool) (m : Nat) (k : Int) : Rat := sg s * ((m : Rat) * p2 k)
/-- A float that is this fraction. -/
def RV (x : F) (q : Rat) : Prop := ∃ b s m k, x = some b ∧ double.read b = .number s m k ∧ q = nv s m k
/-- No further than e from one another. -/
def Nr (r q e : Rat) : Prop := r ≤ q + e ∧ q ≤ r + e
/-- No greater than B. -/
def Ab (q B : Rat) : Prop := q ≤ B ∧ -B ≤ q
theorem cast_nn (m : Nat) : (0 : Rat) ≤ (m : Rat) := by
  have : ((0 : Nat) : Rat) ≤ (m : Rat) := Rat.natCast_le_natCast.2 (Nat.zero_le _)
  simpa using this
theorem mag_nn (m : Nat) (k : Int) : 0 ≤ (m : Rat) * p2 k := Rat.mul_nonneg (cast_nn m) (Rat.le_of_lt (p2_pos k))
theorem nv_abs {s : Bool} {m : Nat} {k : Int} {B : Rat} (h : Ab (nv s m k) B) : (m : Rat) * p2 k ≤ B := by
  unfold Ab nv sg at h
  cases s
  · simp at h; exact h.1
  · simp at h; have := h.2; grind
theorem abs_nv {s : Bool} {m : Nat} {k : Int} {B : Rat} (h : (m : Rat) * p2 k ≤ B) : Ab (nv s m k) B := by
  have := mag_nn m k
  unfold Ab nv sg
  cases s
  · simp; grind
  · simp; grind
theorem nr_nv {s : Bool} {m m' : Nat} {k k' : Int} {e : Rat} (h1 : (m : Rat) * p2 k ≤ (m' : Rat) * p2 k' + e) (h2 : (m' : Rat) * p2 k' ≤ (m : Rat) * p2 k + e) : Nr (nv s m k) (nv s m' k') e := by
  unfold Nr nv sg
  cases s
  · simp; exact ⟨h1, h2⟩
  · simp; grind
def e53 (B : Rat) : Rat := B * p2 (-53) + p2 (-1075)
/-- What is written is near. -/
theorem RV.write (s : Bool) (m : Nat) (k : Int) {B : Rat} (hB : Ab (nv s m k) B) (hB2 : B ≤ p2 1000) : ∃ r, RV (some (double.write (.number s m k))) r ∧ Nr r (nv s m k) (e53 B) := by
  obtain ⟨m', k', h1, _, h3, h4⟩ := near_write s m k (nv_abs hB) hB2
  exact ⟨nv s m' k', ⟨_, s, m', k', rfl, h1, rfl⟩, nr_nv h3 h4⟩

/-! ### Whole numbers times powers -/
theorem int_cast_mul (a : Int) (n : Nat) : ((a * (2 ^ n : Nat) : Int) : Rat) = (a : Rat) * p2 n := by
  rw [p2_nat, Rat.intCast_mul]; rfl
theorem signed_up' (s : Bool) (m u : Nat) : ((signed s m u : Int) : Rat) = sg s * ((m : Rat) * p2 u) := by
  unfold signed sg
  rw [Nat.shiftLeft_eq]
  cases s
  · simp only [Bool.false_eq_true, if_false]
    rw [Rat.one_mul, ← nat_p2]; rfl
  · simp only [if_true]
    rw [← nat_p2, Rat.intCast_neg]
    have : (((m * 2 ^ u : Nat) : Int) : Rat) = ((m * 2 ^ u : Nat) : Rat) := rfl
    rw [this]; grind
/-- A datum's number at a lower place. -/
theorem nv_at (s : Bool) (m : Nat) {k base : Int} (h : base ≤ k) : nv s m k = ((signed s m (k - base).toNat : Int) : Rat) * p2 base := by
  rw [signed_up']
  unfold nv
  rw [Rat.mul_assoc, Rat.mul_assoc, ← p2_add]
  rw [show ((k - base).toNat : Int) + base = k by omega]
theorem nv_int (t : Int) (z : Bool) (base : Int) : nv (if t = 0 then z else decide (t < 0)) t.natAbs base = (t : Rat) * p2 base := by
  unfold nv sg
  by_cases h : t = 0
  · subst h; simp
  · rw [if_neg h]
    by_cases h2 : t < 0
    · rw [decide_eq_true h2]
      obtain ⟨n, rfl⟩ : ∃ n : Nat, t = -(n : Int) := ⟨t.natAbs, by omega⟩
      have e : (-(n : Int)).natAbs = n := by omega
      rw [e, Rat.intCast_neg]
      have : (((n : Nat) : Int) : Rat) = (n : Rat) := rfl
      rw [this]; simp; grind
    · rw [decide_eq_false h2]
      obtain ⟨n, rfl⟩ : ∃ n : Nat, t = (n : Int) := ⟨t.natAbs, by omega⟩
      have e : ((n : Int)).natAbs = n := by omega
      rw [e]
      have : (((n : Nat) : Int) : Rat) = (n : Rat) := rfl
      rw [this]; simp
theorem sum_nv (s t : Bool) (m n : Nat) (i j : Int) : ∃ d, Datum.sum (.number s m i) (.number t n j) = some d ∧ ∃ s' m' k', d = .number s' m' k' ∧ nv s' m' k' = nv s m i + nv t n j := by
  refine ⟨_, rfl, _, _, _, rfl, ?_⟩
  rw [nv_int, Rat.intCast_add, Rat.add_mul, ← nv_at s m (Int.min_le_left i j), ← nv_at t n (Int.min_le_right i j)]

variable {x y : F} {p q B : Rat}
theorem RV.add (hx : RV x p) (hy : RV y q) (hB : Ab (p + q) B) (hB2 : B ≤ p2 1000) : ∃ r, RV (fadd x y) r ∧ Nr r (p + q) (e53 B) := by
  obtain ⟨a, s, m, i, rfl, h1, rfl⟩ := hx
  obtain ⟨b, t, n, j, rfl, h2, rfl⟩ := hy
  obtain ⟨d, h3, s', m', k', rfl, h4⟩ := sum_nv s t m n i j
  rw [← h4] at hB ⊢
  obtain ⟨r, h5, h6⟩ := RV.write s' m' k' hB hB2
  refine ⟨r, ?_, h6⟩
  have : fadd (some a) (some b) = some (double.write (.number s' m' k')) := by
    show ((double.read a).sum (double.read b)).map double.write = _
    rw [h1, h2, h3]; rfl
  rw [this]; exact h5
theorem opp_nv (s : Bool) (m : Nat) (k : Int) : nv (!s) m k = -nv s m k := by
  unfold nv sg
  cases s <;> simp <;> grind
theorem RV.sub (hx : RV x p) (hy : RV y q) (hB : Ab (p - q) B) (hB2 : B ≤ p2 1000) : ∃ r, RV (fsub x y) r ∧ Nr r (p - q) (e53 B) := by
  obtain ⟨a, s, m, i, rfl, h1, rfl⟩ := hx
  obtain ⟨b, t, n, j, rfl, h2, rfl⟩ := hy
  obtain ⟨d, h3, s', m', k', rfl, h4⟩ := sum_nv s (!t) m n i j
  rw [opp_nv, ← Rat.sub_eq_add_neg] at h4
  rw [← h4] at hB ⊢
  obtain ⟨r, h5, h6⟩ := RV.write s' m' k' hB hB2
  refine ⟨r, ?_, h6⟩
  have : fsub (some a) (some b) = some (double.write (.number s' m' k')) := by
    show ((double.read a).sum (double.read b).opposite).map double.write = _
    rw [h1, h2]
    show ((Datum.number s m i).sum (.number (!t) n j)).map double.write = _
    rw [h3]; rfl
  rw [this]; exact h5
theorem sg_xor (s t : Bool) : sg (s ^^ t) = sg s * sg t := by
  unfold sg; cases s <;> cases t <;> simp <;> grind
theorem RV.mul (hx : RV x p) (hy : RV y q) (hB : Ab (p * q) B) (hB2 : B ≤ p2 1000) : ∃ r, RV (fmul x y) r ∧ Nr r (p * q) (e53 B) := by
  obtain ⟨a, s, m, i, rfl, h1, rfl⟩ := hx
  obtain ⟨b, t, n, j, rfl, h2, rfl⟩ := hy
  have h4 : nv (s ^^ t) (m * n) (i + j) = nv s m i * nv t n j := by
    unfold nv
    rw [sg_xor, p2_add, Rat.natCast_mul]; grind
  rw [← h4] at hB ⊢
  obtain ⟨r, h5, h6⟩ := RV.write _ _ _ hB hB2
  refine ⟨r, ?_, h6⟩
  have : fmul (some a) (some b) = some (double.write (.number (s ^^ t) (m * n) (i + j))) := by
    show ((double.read a).product (double.read b)).map double.write = _
    rw [h1, h2]; rfl
  rw [this]; exact h5
theorem RV.neg (hx : RV x p) : RV (fneg x) (-p) := by
  obtain ⟨u, s, m, k, rfl, e1, rfl⟩ := hx
  refine ⟨u ^^^ 9223372036854775808, !s, m, k, rfl, ?_, (opp_nv s m k).symm⟩
  have hm : (u ^^^ 9223372036854775808) % 9223372036854775808 = u % 9223372036854775808 := xor_mod u
  have hs : ((u ^^^ 9223372036854775808) / 9223372036854775808 % 2 == 1) = !(u / 9223372036854775808 % 2 == 1) := by
    have h2 : (9223372036854775808 : Nat) = 2 ^ 63 := by decide
    have ht : ∀ z : Nat, (z / 9223372036854775808 % 2 == 1) = z.testBit 63 := fun z => by
      rw [h2, Nat.testBit_eq_decide_div_mod_eq]
      by_cases h : z / 2 ^ 63 % 2 = 1 <;> simp [h]
    rw [ht, ht, Nat.testBit_xor]
    have : Nat.testBit 9223372036854775808 63 = true := by decide
    rw [this]; simp
  unfold Format.read at e1 ⊢
  simp only [lp, bn, ir, sw] at e1 ⊢
  rw [hm, hs]
  split at e1
  · rename_i h
    rw [if_pos h]
    obtain ⟨q1, q2, q3⟩ := Datum.number.inj e1
    rw [q1, q2, q3]
  · rename_i h
    rw [if_neg h]
    split at e1
    · rename_i h
      rw [if_pos h]
      obtain ⟨q1, q2, q3⟩ := Datum.number.inj e1
      rw [q1, q2, q3]
    · split at e1 <;> exact absurd e1 (by simp)
def rabs (q : Rat) : Rat := if 0 ≤ q then q else -q
theorem RV.abs (hx : RV x p) : RV (fabs x) (rabs p) := by
  obtain ⟨u, s, m, k, rfl, e1, rfl⟩ := hx
  refine ⟨u % 9223372036854775808, false, m, k, rfl, read_mod u e1, ?_⟩
  have h := mag_nn m k
  unfold rabs nv sg
  cases s
  · simp only [Bool.false_eq_true, if_false, Rat.one_mul]
    rw [if_pos h]
  · simp only [if_true, Bool.false_eq_true, if_false, Rat.one_mul]
    by_cases h0 : (m : Rat) * p2 k = 0
    · rw [h0]; simp
    · rw [if_neg (by grind)]; grind

/-! ### Order -/
theorem RV.cmp (hx : RV x p) (hy : RV y q) : ∃ a b : Int, ∃ e : Int, fcmp x y = some (compare a b) ∧ p = (a : Rat) * p2 e ∧ q = (b : Rat) * p2 e := by
  obtain ⟨u, s, m, i, rfl, h1, rfl⟩ := hx
  obtain ⟨v, t, n, j, rfl, h2, rfl⟩ := hy
  refine ⟨_, _, min i j, ?_, nv_at s m (Int.min_le_left i j), nv_at t n (Int.min_le_right i j)⟩
  show (double.read u).order (double.read v) = _
  rw [h1, h2]; rfl
theorem p2_le (a b : Int) (e : Int) : (a : Rat) * p2 e ≤ (b : Rat) * p2 e ↔ a ≤ b := by
  constructor
  · intro h
    by_cases hab : a ≤ b
    · exact hab
    · have h1 : ((b + 1 : Int) : Rat) ≤ (a : Rat) := Rat.intCast_le_intCast.2 (by omega)
      have h2 := Rat.mul_le_mul_of_nonneg_right h1 (Rat.le_of_lt (p2_pos e))
      have h3 := p2_pos e
      rw [Rat.intCast_add, Rat.add_mul] at h2
      have h4 : ((1 : Int) : Rat) = 1 := rfl
      rw [h4, Rat.one_mul] at h2
      grind
  · intro h
    exact Rat.mul_le_mul_of_nonneg_right (Rat.intCast_le_intCast.2 h) (Rat.le_of_lt (p2_pos e))
theorem RV.le (hx : RV x p) (hy : RV y q) : fle x y = decide (p ≤ q) := by
  obtain ⟨a, b, e, h1, rfl, rfl⟩ := hx.cmp hy
  unfold fle
  rw [h1]
  have : decide ((a : Rat) * p2 e ≤ (b : Rat) * p2 e) = decide (a ≤ b) := by
    by_cases h : a ≤ b
    · rw [decide_eq_true h, decide_eq_true ((p2_le a b e).2 h)]
    · rw [decide_eq_false h, decide_eq_false fun h2 => h ((p2_le a b e).1 h2)]
  rw [this]
  show ((some (compareOfLessAndEq a b) == some Ordering.lt) || (some (compareOfLessAndEq a b) == some Ordering.eq)) = _
  unfold compareOfLessAndEq
  by_cases h1 : a < b
  · rw [if_pos h1, decide_eq_true (by omega)]; rfl
  · rw [if_neg h1]
    by_cases h2 : a = b
    · rw [if_pos h2, decide_eq_true (by omega)]; rfl
    · rw [if_neg h2, decide_eq_false (by omega)]; rfl
theorem RV.ge (hx : RV x p) (hy : RV y q) : fge x y = decide (q ≤ p) := by
  obtain ⟨a, b, e, h1, rfl, rfl⟩ := hx.cmp hy
  unfold fge
  rw [h1]
  have : decide ((b : Rat) * p2 e ≤ (a : Rat) * p2 e) = decide (b ≤ a) := by
    by_cases h : b ≤ a
    · rw [decide_eq_true h, decide_eq_true ((p2_le b a e).2 h)]
    · rw [decide_eq_false h, decide_eq_false fun h2 => h ((p2_le b a e).1 h2)]
  rw [this]
  show ((some (compareOfLessAndEq a b) == some Ordering.gt) || (some (compareOfLessAndEq a b) == some Ordering.eq)) = _
  unfold compareOfLessAndEq
  by_cases h1 : a < b
  · rw [if_pos h1, decide_eq_false (by omega)]; rfl
  · rw [if_neg h1]
    by_cases h2 : a = b
    · rw [if_pos h2, decide_eq_true (by omega)]; rfl
    · rw [if_neg h2, decide_eq_true (by omega)]; rfl
theorem RV.big : RV fbig (nv false 9007199254740991 971) := ⟨9218868437227405311, false, 9007199254740991, 971, rfl, by decide, rfl⟩
theorem RV.fin (hx : RV x p) (h : Ab p (p2 1001)) : ffin x = true := by
  unfold ffin
  rw [hx.abs.le RV.big, decide_eq_true_iff]
  have h1 : rabs p ≤ p2 1001 := by
    unfold rabs
    split
    · exact h.1
    · have := h.2; grind
  refine Rat.le_trans h1 ?_
  unfold nv sg
  simp only [Bool.false_eq_true, if_false, Rat.one_mul]
  rw [show (1001 : Int) = 30 + 971 by decide, p2_add]
  refine Rat.mul_le_mul_of_nonneg_right ?_ (Rat.le_of_lt (p2_pos 971))
  have : p2 30 = ((2 ^ 30 : Nat) : Rat) := p2_nat 30
  rw [this]
  exact Rat.natCast_le_natCast.2 (by decide)
theorem WF.rv {x : F} {n : Int} (h : WF x n) : RV x (n : Rat) := by
  obtain ⟨b, rfl, s, m, k, h1, h2⟩ := h
  refine ⟨b, s, m, _, rfl, h1, ?_⟩
  have h3 := nv_at s m (show -(k : Int) ≤ -(k : Int) from Int.le_refl _)
  rw [show (-(k : Int) - -(k : Int)).toNat = 0 by omega, h2] at h3
  rw [h3]
  have e : ((n * 2 ^ k : Int) : Rat) = (n : Rat) * p2 k := by
    rw [← int_cast_mul]; simp
  rw [e, Rat.mul_assoc, ← p2_add, show (k : Int) + -(k : Int) = 0 by omega, p2_zero, Rat.mul_one]
end Go.Proofs.Ytghhanifakllpaa.Nu

/- Plain: whole numbers in float64, exactly. No program in sight. -/
import Derived.Test.YtonmjdhdkkmjlaaFl
set_option linter.unusedVariables false
set_option linter.unusedSimpArgs false
namespace Go.Proofs.Ytonmjdhdkkmjlaa
open Ieee

/-- A datum that is a whole number. -/
def DW (d : Datum) (n : Int) : Prop := ∃ (s : Bool) (m k : Nat), d = .number s m (-(k : Int)) ∧ signed s m 0 = n * 2 ^ (k : Nat)
/-- A float that is a whole number. -/
def WF (x : F) (n : Int) : Prop := ∃ b, x = some b ∧ DW (double.read b) n

theorem lp : double.leastPlace = -1074 := by decide
theorem bn : double.binade = 4503599627370496 := by decide
theorem ir : double.infRung = 9218868437227405312 := by decide
theorem sw : double.signWeight = 9223372036854775808 := by decide
theorem fb : double.fractionBits = 52 := by decide
/-- The word of a sign and a rung of a number between 2^-52 and 2^53. -/
theorem read_word (neg : Bool) (last : Nat) (kept : Nat) (h1 : 1 ≤ last) (h2 : last < 2000) (h3 : 4503599627370496 ≤ kept) (h4 : kept < 9007199254740992) :
    double.read (double.word neg (last * 4503599627370496 + kept)) = .number neg kept (-1074 + (last : Int)) := by
  have e1 : double.word neg (last * 4503599627370496 + kept) % 9223372036854775808 = last * 4503599627370496 + kept := by
    unfold Format.word
    rw [sw]
    cases neg <;> simp <;> omega
  have e2 : (double.word neg (last * 4503599627370496 + kept) / 9223372036854775808 % 2 == 1) = neg := by
    unfold Format.word
    rw [sw]
    cases neg
    · simp; omega
    · simp; omega
  unfold Format.read
  simp only [lp, bn, ir, sw, e1, e2]
  rw [if_neg (by omega), if_pos (by omega)]
  congr 1
  · omega
  · omega
theorem cut_exact (neg : Bool) (q d : Nat) (hq : 0 < q) : Toward.even.cut neg (q * 2 ^ d) d = q := by
  have hlog : d ≤ (q * 2 ^ d).log2 + 2 := by
    have : 2 ^ d ≤ q * 2 ^ d := Nat.le_mul_of_pos_left _ hq
    have h2 : d ≤ (q * 2 ^ d).log2 := (Nat.le_log2 (Nat.ne_of_gt (Nat.mul_pos hq (Nat.two_pow_pos d)))).2 this
    omega
  unfold Toward.cut
  have e1 : min d ((q * 2 ^ d).log2 + 2) = d := Nat.min_eq_left hlog
  simp only [e1, Nat.one_shiftLeft]
  have hp : 0 < 2 ^ d := Nat.two_pow_pos d
  rw [Nat.mul_div_cancel _ hp, Nat.mul_mod_left]
  have : ¬ (2 ^ d < 2 * 0) := by omega
  have h3 : (2 ^ d == 2 * 0) = false := by simp
  simp [h3]

/-- What is a whole number below 2^53 is written as it is. -/
theorem nearest_whole (neg : Bool) (q k : Nat) (hq : 0 < q) (hq2 : q < 9007199254740992) (mag : Nat) (hm : mag = q * 2 ^ k) :
    ∃ j : Nat, double.read (double.nearest neg mag (-(k : Int))) = .number neg (q * 2 ^ j) (-(j : Int)) := by
  have hmag : mag ≠ 0 := by rw [hm]; exact Nat.ne_of_gt (Nat.mul_pos hq (Nat.two_pow_pos k))
  obtain ⟨e, he⟩ : ∃ e, e = q.log2 := ⟨_, rfl⟩
  have h1 : 2 ^ e ≤ q := by rw [he]; exact Nat.log2_self_le (by omega)
  have h2 : q < 2 ^ (e + 1) := by rw [he]; exact Nat.lt_log2_self
  have he52 : e ≤ 52 := by
    by_cases h : e ≤ 52
    · exact h
    · have : 2 ^ 53 ≤ 2 ^ e := Nat.pow_le_pow_right (by omega) (by omega)
      omega
  have hlog : mag.log2 = e + k := by
    rw [hm]
    refine (Nat.log2_eq_iff (Nat.ne_of_gt (Nat.mul_pos hq (Nat.two_pow_pos k)))).2 ⟨?_, ?_⟩
    · rw [Nat.pow_add]; exact Nat.mul_le_mul_right _ h1
    · rw [show e + k + 1 = (e + 1) + k by omega, Nat.pow_add]; exact Nat.mul_lt_mul_of_pos_right h2 (Nat.two_pow_pos k)
  have hlast : max (-(k : Int) + (mag.log2 : Int) - 52) (-1074) = -((52 - e : Nat) : Int) := by
    rw [hlog]; omega
  refine ⟨52 - e, ?_⟩
  unfold Format.nearest
  rw [if_neg hmag]
  simp only [lp, fb, bn, ir]
  have hl2 : (max (-(k : Int) + (mag.log2 : Int) - ((52 : Nat) : Int)) (-1074)) = -((52 - e : Nat) : Int) := hlast
  rw [hl2]
  have hkept : Toward.even.cut neg (mag <<< (-(k : Int) - -((52 - e : Nat) : Int)).toNat) (-((52 - e : Nat) : Int) - -(k : Int)).toNat = q * 2 ^ (52 - e) := by
    by_cases hc : k ≤ 52 - e
    · have e1 : (-(k : Int) - -((52 - e : Nat) : Int)).toNat = 52 - e - k := by omega
      have e2 : (-((52 - e : Nat) : Int) - -(k : Int)).toNat = 0 := by omega
      rw [e1, e2, Nat.shiftLeft_eq, hm, Nat.mul_assoc, ← Nat.pow_add, show k + (52 - e - k) = 52 - e by omega]
      have := cut_exact neg (q * 2 ^ (52 - e)) 0 (Nat.mul_pos hq (Nat.two_pow_pos _))
      simpa using this
    · have e1 : (-(k : Int) - -((52 - e : Nat) : Int)).toNat = 0 := by omega
      have e2 : (-((52 - e : Nat) : Int) - -(k : Int)).toNat = k - (52 - e) := by omega
      rw [e1, e2, Nat.shiftLeft_zero, hm]
      have e3 : q * 2 ^ k = q * 2 ^ (52 - e) * 2 ^ (k - (52 - e)) := by rw [Nat.mul_assoc, ← Nat.pow_add, show 52 - e + (k - (52 - e)) = k by omega]
      rw [e3]
      exact cut_exact neg (q * 2 ^ (52 - e)) (k - (52 - e)) (Nat.mul_pos hq (Nat.two_pow_pos _))
  rw [hkept]
  have b1 : 4503599627370496 ≤ q * 2 ^ (52 - e) := by
    have : 2 ^ e * 2 ^ (52 - e) ≤ q * 2 ^ (52 - e) := Nat.mul_le_mul_right _ h1
    rw [← Nat.pow_add, show e + (52 - e) = 52 by omega] at this
    exact this
  have b2 : q * 2 ^ (52 - e) < 9007199254740992 := by
    have : q * 2 ^ (52 - e) < 2 ^ (e + 1) * 2 ^ (52 - e) := Nat.mul_lt_mul_of_pos_right h2 (Nat.two_pow_pos _)
    rw [← Nat.pow_add, show e + 1 + (52 - e) = 53 by omega] at this
    exact this
  have e4 : (-((52 - e : Nat) : Int) - -1074).toNat = 1074 - (52 - e) := by omega
  rw [e4, Nat.min_eq_left (by omega)]
  rw [read_word neg (1074 - (52 - e)) (q * 2 ^ (52 - e)) (by omega) (by omega) b1 b2]
  congr 1
  omega
theorem read_zero (neg : Bool) (k : Int) : double.read (double.nearest neg 0 k) = .number neg 0 (-((1074 : Nat) : Int)) := by
  unfold Format.nearest
  rw [if_pos rfl]
  cases neg <;> decide
theorem signed_zero (s : Bool) (m : Nat) : signed s m 0 = if s then -(m : Int) else (m : Int) := by
  unfold signed
  cases s <;> simp
/-- A number that is whole is written as it is. -/
theorem write_whole {s : Bool} {m k : Nat} {n : Int} (h : signed s m 0 = n * 2 ^ k) (hn : n.natAbs < 9007199254740992) : DW (double.read (double.write (.number s m (-(k : Int))))) n := by
  show DW (double.read (double.nearest s m (-(k : Int)))) n
  by_cases hm : m = 0
  · subst hm
    rw [read_zero]
    have hn0 : n = 0 := by
      rw [signed_zero] at h
      have h2 : n * 2 ^ k = 0 := by rw [← h]; cases s <;> simp
      rcases Int.mul_eq_zero.1 h2 with h3 | h3
      · exact h3
      · exact absurd h3 (Int.ne_of_gt (Int.pow_pos (by omega)))
    refine ⟨s, 0, 1074, rfl, ?_⟩
    rw [hn0, signed_zero, Int.zero_mul]
    cases s <;> rfl
  · have hq : m = n.natAbs * 2 ^ k ∧ 0 < n.natAbs := by
      rw [signed_zero] at h
      have h2 : (n * 2 ^ k).natAbs = n.natAbs * 2 ^ k := by rw [Int.natAbs_mul, Int.natAbs_pow]; rfl
      have h3 : m = n.natAbs * 2 ^ k := by
        rw [← h2, ← h]
        cases s <;> simp
      refine ⟨h3, Nat.pos_of_ne_zero fun h0 => hm ?_⟩
      rw [h3, h0, Nat.zero_mul]
    obtain ⟨j, hj⟩ := nearest_whole s n.natAbs k hq.2 hn m hq.1
    rw [hj]
    refine ⟨s, _, j, rfl, ?_⟩
    rw [signed_zero] at h ⊢
    have hp : (0 : Int) < 2 ^ k := Int.pow_pos (by omega)
    have hs : n = if s then -(n.natAbs : Int) else (n.natAbs : Int) := by
      have hm' : (m : Int) = (n.natAbs : Int) * 2 ^ k := by rw [hq.1]; simp
      cases s
      · simp only [Bool.false_eq_true, if_false] at h ⊢
        rw [hm'] at h
        exact (Int.eq_of_mul_eq_mul_right (Int.ne_of_gt hp) h).symm
      · simp only [if_true] at h ⊢
        rw [hm', ← Int.neg_mul] at h
        exact (Int.eq_of_mul_eq_mul_right (Int.ne_of_gt hp) h).symm
    have e : ((n.natAbs * 2 ^ j : Nat) : Int) = (n.natAbs : Int) * 2 ^ j := by simp
    rw [e]
    cases s
    · simp only [Bool.false_eq_true, if_false] at hs ⊢
      rw [← hs]
    · simp only [if_true] at hs ⊢
      rw [← Int.neg_mul, ← hs]

/-! ### The operations -/
theorem signed_up (s : Bool) (m u : Nat) : signed s m u = signed s m 0 * 2 ^ u := by
  rw [signed_zero]
  unfold signed
  rw [Nat.shiftLeft_eq]
  cases s <;> simp [Int.neg_mul]
theorem sign_of (t : Int) (z : Bool) : signed (if t = 0 then z else decide (t < 0)) t.natAbs 0 = t := by
  rw [signed_zero]
  by_cases h : t = 0
  · subst h; cases z <;> rfl
  · rw [if_neg h]
    by_cases h2 : t < 0
    · simp [h2]; omega
    · simp [h2]; omega
theorem sum_whole {d e : Datum} {a b : Int} (hd : DW d a) (he : DW e b) (h : (a + b).natAbs < 9007199254740992) : ∃ r, d.sum e = some r ∧ DW (double.read (double.write r)) (a + b) := by
  obtain ⟨s, m, k, rfl, h1⟩ := hd
  obtain ⟨t, n, l, rfl, h2⟩ := he
  have hb : min (-(k : Int)) (-(l : Int)) = -((max k l : Nat) : Int) := by omega
  have e1 : (-(k : Int) - min (-(k : Int)) (-(l : Int))).toNat = max k l - k := by omega
  have e2 : (-(l : Int) - min (-(k : Int)) (-(l : Int))).toNat = max k l - l := by omega
  refine ⟨_, rfl, ?_⟩
  rw [e1, e2, hb]
  have ht : signed s m (max k l - k) + signed t n (max k l - l) = (a + b) * 2 ^ (max k l) := by
    rw [signed_up s, signed_up t, h1, h2, Int.mul_assoc, Int.mul_assoc, ← Int.pow_add, ← Int.pow_add, show k + (max k l - k) = max k l by omega, show l + (max k l - l) = max k l by omega, Int.add_mul]
  exact write_whole (by rw [sign_of]; exact ht) h
theorem opp_whole {d : Datum} {a : Int} (hd : DW d a) : DW d.opposite (-a) := by
  obtain ⟨s, m, k, rfl, h1⟩ := hd
  refine ⟨!s, m, k, rfl, ?_⟩
  rw [Int.neg_mul, ← h1, signed_zero, signed_zero]
  cases s <;> simp
theorem prod_whole {d e : Datum} {a b : Int} (hd : DW d a) (he : DW e b) (h : (a * b).natAbs < 9007199254740992) : ∃ r, d.product e = some r ∧ DW (double.read (double.write r)) (a * b) := by
  obtain ⟨s, m, k, rfl, h1⟩ := hd
  obtain ⟨t, n, l, rfl, h2⟩ := he
  refine ⟨_, rfl, ?_⟩
  rw [show -(k : Int) + -(l : Int) = -((k + l : Nat) : Int) by omega]
  refine write_whole ?_ h
  rw [signed_zero] at h1 h2 ⊢
  rw [Int.pow_add, show a * b * (2 ^ k * 2 ^ l) = (a * 2 ^ k) * (b * 2 ^ l) by grind, ← h1, ← h2]
  cases s <;> cases t <;> simp [Int.neg_mul, Int.mul_neg]
theorem WF.add {x y : F} {a b : Int} (hx : WF x a) (hy : WF y b) (h : (a + b).natAbs < 9007199254740992) : WF (fadd x y) (a + b) := by
  obtain ⟨u, rfl, h1⟩ := hx
  obtain ⟨v, rfl, h2⟩ := hy
  obtain ⟨r, e, hr⟩ := sum_whole h1 h2 h
  exact ⟨_, by show double.add u v = _; unfold Format.add; rw [e]; rfl, hr⟩
theorem WF.sub {x y : F} {a b : Int} (hx : WF x a) (hy : WF y b) (h : (a - b).natAbs < 9007199254740992) : WF (fsub x y) (a - b) := by
  obtain ⟨u, rfl, h1⟩ := hx
  obtain ⟨v, rfl, h2⟩ := hy
  obtain ⟨r, e, hr⟩ := sum_whole h1 (opp_whole h2) (by rw [← Int.sub_eq_add_neg]; exact h)
  exact ⟨_, by show double.sub u v = _; unfold Format.sub; rw [e]; rfl, by rw [Int.sub_eq_add_neg]; exact hr⟩
theorem WF.mul {x y : F} {a b : Int} (hx : WF x a) (hy : WF y b) (h : (a * b).natAbs < 9007199254740992) : WF (fmul x y) (a * b) := by
  obtain ⟨u, rfl, h1⟩ := hx
  obtain ⟨v, rfl, h2⟩ := hy
  obtain ⟨r, e, hr⟩ := prod_whole h1 h2 h
  exact ⟨_, by show double.mul u v = _; unfold Format.mul; rw [e]; rfl, hr⟩
theorem cmp_scale (a b : Int) (k : Nat) : compare (a * 2 ^ k) (b * 2 ^ k) = compare a b := by
  have hp : (0 : Int) < 2 ^ k := Int.pow_pos (by omega)
  show compareOfLessAndEq _ _ = compareOfLessAndEq _ _
  unfold compareOfLessAndEq
  by_cases h1 : a < b
  · rw [if_pos h1, if_pos (Int.mul_lt_mul_of_pos_right h1 hp)]
  · rw [if_neg h1, if_neg (fun h => h1 (Int.lt_of_mul_lt_mul_right h (Int.le_of_lt hp)))]
    by_cases h2 : a = b
    · rw [if_pos h2, if_pos (by rw [h2])]
    · rw [if_neg h2, if_neg (fun h => h2 (Int.eq_of_mul_eq_mul_right (Int.ne_of_gt hp) h))]
theorem WF.cmp {x y : F} {a b : Int} (hx : WF x a) (hy : WF y b) : fcmp x y = some (compare a b) := by
  obtain ⟨u, rfl, h1⟩ := hx
  obtain ⟨v, rfl, h2⟩ := hy
  show double.order u v = _
  unfold Format.order
  obtain ⟨s, m, k, e1, h1⟩ := h1
  obtain ⟨t, n, l, e2, h2⟩ := h2
  rw [e1, e2]
  have g1 : (-(k : Int) - min (-(k : Int)) (-(l : Int))).toNat = max k l - k := by omega
  have g2 : (-(l : Int) - min (-(k : Int)) (-(l : Int))).toNat = max k l - l := by omega
  show some (compare (signed s m (-(k : Int) - min (-(k : Int)) (-(l : Int))).toNat) (signed t n (-(l : Int) - min (-(k : Int)) (-(l : Int))).toNat)) = _
  rw [g1, g2, signed_up s, signed_up t, h1, h2, Int.mul_assoc, Int.mul_assoc, ← Int.pow_add, ← Int.pow_add, show k + (max k l - k) = max k l by omega, show l + (max k l - l) = max k l by omega, cmp_scale]
theorem WF.eq {x y : F} {a b : Int} (hx : WF x a) (hy : WF y b) : feq x y = decide (a = b) := by
  unfold feq
  rw [hx.cmp hy]
  show (some (compareOfLessAndEq a b) == some Ordering.eq) = _
  unfold compareOfLessAndEq
  by_cases h1 : a < b
  · rw [if_pos h1, decide_eq_false (by omega)]; rfl
  · rw [if_neg h1]
    by_cases h2 : a = b
    · rw [if_pos h2, decide_eq_true h2]; rfl
    · rw [if_neg h2, decide_eq_false h2]; rfl
/-- A whole number, by Go's own conversion. -/
theorem WF.int (n : Int) (hn : n.natAbs < 9007199254740992) : WF (some (double.write (.number (decide (n < 0)) n.natAbs 0))) n := by
  refine ⟨_, rfl, ?_⟩
  have := write_whole (s := decide (n < 0)) (m := n.natAbs) (k := 0) (n := n) (by
    rw [signed_zero, Int.pow_zero, Int.mul_one]
    by_cases h : n < 0
    · simp [h]; omega
    · simp [h]; omega) hn
  simpa using this
theorem WF.zero : WF (some 0) 0 := ⟨0, rfl, false, 0, 1074, by decide, by rw [signed_zero, Int.zero_mul]; rfl⟩
theorem WF.one : WF (some 4607182418800017408) 1 := ⟨_, rfl, false, 4503599627370496, 52, by decide, by rw [signed_zero]; decide⟩
theorem WF.neg {x : F} {a : Int} (hx : WF x a) : WF (fneg x) (-a) := by
  obtain ⟨u, rfl, s, m, k, e1, h1⟩ := hx
  refine ⟨u ^^^ 9223372036854775808, rfl, !s, m, k, ?_, ?_⟩
  · have hm : (u ^^^ 9223372036854775808) % 9223372036854775808 = u % 9223372036854775808 := xor_mod u
    have hs : ((u ^^^ 9223372036854775808) / 9223372036854775808 % 2 == 1) = !(u / 9223372036854775808 % 2 == 1) := by
      have h2 : (9223372036854775808 : Nat) = 2 ^ 63 := by decide
      have ht : ∀ z : Nat, (z / 9223372036854775808 % 2 == 1) = z.testBit 63 := fun z => by
        rw [h2, Nat.testBit_eq_decide_div_mod_eq]
        by_cases h : z / 2 ^ 63 % 2 = 1 <;> simp [h]
      rw [ht, ht, Nat.testBit_xor]
      have : Nat.testBit 9223372036854775808 63 = true := by decide
      rw [this]; simp
    unfold Format.read at e1 ⊢
    simp only [lp, bn, ir, sw] at e1 ⊢
    rw [hm, hs]
    split at e1
    · rename_i h
      rw [if_pos h]
      obtain ⟨q1, q2, q3⟩ := Datum.number.inj e1
      rw [q1, q2, q3]
    · rename_i h
      rw [if_neg h]
      split at e1
      · rename_i h
        rw [if_pos h]
        obtain ⟨q1, q2, q3⟩ := Datum.number.inj e1
        rw [q1, q2, q3]
      · split at e1 <;> exact absurd e1 (by simp)
  · rw [Int.neg_mul, ← h1, signed_zero, signed_zero]
    cases s <;> simp
end Go.Proofs.Ytonmjdhdkkmjlaa

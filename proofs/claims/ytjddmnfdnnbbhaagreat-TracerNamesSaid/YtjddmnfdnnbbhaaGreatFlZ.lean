/- Plain: a float64 as a number that may be none; what is no number is one thing, whatever its bits. No program in sight. -/
import Derived.Laws.FloatArith
import GoSem.Core.Sem
set_option linter.unusedSimpArgs false
set_option linter.unusedVariables false
set_option linter.unusedVariables false
set_option linter.unusedSimpArgs false
namespace Go.Proofs.YtjddmnfdnnbbhaaGreat
open Ieee

/-- A float64 without its bits where it is no number. -/
abbrev F := Option Nat

def isNo (b : Nat) : Bool := (double.read b).isNaN
/-- What bits stand for. -/
def fl (b : Nat) : F := if isNo b then none else some b

def f2 (op : Nat → Nat → Option Nat) (x y : F) : F := x.bind fun a => y.bind fun b => op a b
def fadd : F → F → F := f2 double.add
def fsub : F → F → F := f2 double.sub
def fmul : F → F → F := f2 double.mul
def fdiv : F → F → F := f2 double.div
def fabs (x : F) : F := x.map (· % 9223372036854775808)
def fneg (x : F) : F := x.map (· ^^^ 9223372036854775808)
def fcmp (x y : F) : Option Ordering := x.bind fun a => y.bind fun b => double.order a b
def flt (x y : F) : Bool := fcmp x y == some .lt
def fle (x y : F) : Bool := fcmp x y == some .lt || fcmp x y == some .eq
def feq (x y : F) : Bool := fcmp x y == some .eq
def fbig : F := some 9218868437227405311
def ffin (x : F) : Bool := fle (fabs x) fbig

theorem read_write_no (d : Datum) (h : d.isNaN = false) : isNo (double.write d) = false := by
  have key : ∀ (neg : Bool) (r : Nat), r ≤ double.infRung → (double.read (double.word neg r)).isNaN = false := by
    intro neg r hr
    have h0 : double.infRung = 9218868437227405312 := by decide
    have h1 : double.signWeight = 9223372036854775808 := by decide
    have h2 : double.word neg r % double.signWeight = r := by
      rw [h0] at hr
      unfold Format.word
      rw [h1]
      cases neg <;> simp <;> omega
    unfold Format.read
    simp only [h2]
    split
    · rfl
    · split
      · rfl
      · split
        · rfl
        · rename_i a b c
          have : r < double.infRung ∨ r = double.infRung := by omega
          rcases this with h | h
          · exact absurd h b
          · exact absurd h c
  unfold isNo
  cases d with
  | nan s t => simp [Datum.isNaN] at h
  | infinity s => exact key s _ (Nat.le_refl _)
  | number s m e =>
    show (double.read (double.nearest s m e)).isNaN = false
    unfold Format.nearest
    split
    · exact key s 0 (Nat.zero_le _)
    · exact key s _ (Nat.min_le_right _ _)

theorem sum_ok {x y d : Datum} (h : x.sum y = some d) : d.isNaN = false := by
  unfold Datum.sum at h
  split at h
  all_goals first | (cases h; done) | skip
  · split at h
    · cases h; rfl
    · cases h
  · cases h; rfl
  · cases h; rfl
  · cases h; rfl
theorem product_ok {x y d : Datum} (h : x.product y = some d) : d.isNaN = false := by
  unfold Datum.product at h
  split at h
  all_goals first | (cases h; done) | skip
  · cases h; rfl
  all_goals first | (cases h; rfl) | (split at h <;> first | (cases h; done) | (cases h; rfl))
theorem quotient_ok {n : Nat} {x y d : Datum} (h : Datum.quotient n x y = some d) : d.isNaN = false := by
  unfold Datum.quotient at h
  split at h
  all_goals first | (cases h; done) | skip
  all_goals first | (cases h; rfl) | skip
  split at h
  · split at h
    · cases h
    · cases h; rfl
  · cases h; rfl

theorem fl_no {b : Nat} (h : isNo b = true) : fl b = none := by simp [fl, h]
theorem fl_yes {b : Nat} (h : isNo b = false) : fl b = some b := by simp [fl, h]

theorem sum_nan_left {x y : Datum} (h : x.isNaN = true) : x.sum y = none := by cases x <;> simp_all [Datum.isNaN, Datum.sum]
theorem sum_nan_right {x y : Datum} (h : y.isNaN = true) : x.sum y = none := by cases x <;> cases y <;> simp_all [Datum.isNaN, Datum.sum]
theorem product_nan_left {x y : Datum} (h : x.isNaN = true) : x.product y = none := by cases x <;> simp_all [Datum.isNaN, Datum.product]
theorem product_nan_right {x y : Datum} (h : y.isNaN = true) : x.product y = none := by cases x <;> cases y <;> simp_all [Datum.isNaN, Datum.product]
theorem quotient_nan_left {n : Nat} {x y : Datum} (h : x.isNaN = true) : Datum.quotient n x y = none := by cases x <;> simp_all [Datum.isNaN, Datum.quotient]
theorem quotient_nan_right {n : Nat} {x y : Datum} (h : y.isNaN = true) : Datum.quotient n x y = none := by cases x <;> cases y <;> simp_all [Datum.isNaN, Datum.quotient]
theorem order_nan_left {x y : Datum} (h : x.isNaN = true) : x.order y = none := by cases x <;> simp_all [Datum.isNaN, Datum.order]
theorem order_nan_right {x y : Datum} (h : y.isNaN = true) : x.order y = none := by cases x <;> cases y <;> simp_all [Datum.isNaN, Datum.order]
theorem opposite_nan {x : Datum} : x.opposite.isNaN = x.isNaN := by cases x <;> rfl

/-- The four operations, over bits, come to the four over what bits stand for. -/
def fop : BinOp → F → F → F
  | .add => fadd | .sub => fsub | .mul => fmul | .quo => fdiv | _ => fun _ _ => none

theorem fop_bits (op : BinOp) (x y : Nat) (hop : op = .add ∨ op = .sub ∨ op = .mul ∨ op = .quo) :
    fop op (fl x) (fl y) = floatBits op .f64 x y ∧ ∀ r, floatBits op .f64 x y = some r → fl r = some r := by
  have hw : ∀ d : Datum, d.isNaN = false → fl (double.write d) = some (double.write d) := fun d hd => fl_yes (read_write_no d hd)
  rcases hop with rfl | rfl | rfl | rfl
  · refine ⟨?_, fun r hr => ?_⟩
    · show fadd (fl x) (fl y) = double.add x y
      unfold fl
      cases hx : isNo x
      · cases hy : isNo y
        · simp [fadd, f2]
        · simp [fadd, f2, Format.add, sum_nan_right (show (double.read y).isNaN = true from hy)]
      · simp [fadd, f2, Format.add, sum_nan_left (show (double.read x).isNaN = true from hx)]
    · obtain ⟨d, hd, rfl⟩ := Option.map_eq_some_iff.1 (show (Datum.sum (double.read x) (double.read y)).map double.write = some r from hr)
      exact hw d (sum_ok hd)
  · refine ⟨?_, fun r hr => ?_⟩
    · show fsub (fl x) (fl y) = double.sub x y
      unfold fl
      cases hx : isNo x
      · cases hy : isNo y
        · simp [fsub, f2]
        · simp [fsub, f2, Format.sub, sum_nan_right (show (double.read y).opposite.isNaN = true from opposite_nan.trans hy)]
      · simp [fsub, f2, Format.sub, sum_nan_left (show (double.read x).isNaN = true from hx)]
    · obtain ⟨d, hd, rfl⟩ := Option.map_eq_some_iff.1 (show (Datum.sum (double.read x) (double.read y).opposite).map double.write = some r from hr)
      exact hw d (sum_ok hd)
  · refine ⟨?_, fun r hr => ?_⟩
    · show fmul (fl x) (fl y) = double.mul x y
      unfold fl
      cases hx : isNo x
      · cases hy : isNo y
        · simp [fmul, f2]
        · simp [fmul, f2, Format.mul, product_nan_right (show (double.read y).isNaN = true from hy)]
      · simp [fmul, f2, Format.mul, product_nan_left (show (double.read x).isNaN = true from hx)]
    · obtain ⟨d, hd, rfl⟩ := Option.map_eq_some_iff.1 (show (Datum.product (double.read x) (double.read y)).map double.write = some r from hr)
      exact hw d (product_ok hd)
  · refine ⟨?_, fun r hr => ?_⟩
    · show fdiv (fl x) (fl y) = double.div x y
      unfold fl
      cases hx : isNo x
      · cases hy : isNo y
        · simp [fdiv, f2]
        · simp [fdiv, f2, Format.div, quotient_nan_right (show (double.read y).isNaN = true from hy)]
      · simp [fdiv, f2, Format.div, quotient_nan_left (show (double.read x).isNaN = true from hx)]
    · obtain ⟨d, hd, rfl⟩ := Option.map_eq_some_iff.1 (show (Datum.quotient _ (double.read x) (double.read y)).map double.write = some r from hr)
      exact hw d (quotient_ok hd)

theorem fcmp_bits (x y : Nat) : fcmp (fl x) (fl y) = double.order x y := by
  unfold fl
  cases hx : isNo x
  · cases hy : isNo y
    · simp [fcmp]
    · simp [fcmp, Format.order, order_nan_right (show (double.read y).isNaN = true from hy)]
  · simp [fcmp, Format.order, order_nan_left (show (double.read x).isNaN = true from hx)]

theorem xor_mod (b : Nat) : (b ^^^ 9223372036854775808) % 9223372036854775808 = b % 9223372036854775808 := by
  have h : (9223372036854775808 : Nat) = 2 ^ 63 := by decide
  rw [h, Nat.xor_mod_two_pow]
  simp
end Go.Proofs.YtjddmnfdnnbbhaaGreat

/- Plain: whole numbers in float64, exactly. No program in sight. -/
set_option linter.unusedVariables false
set_option linter.unusedSimpArgs false
namespace Go.Proofs.YtjddmnfdnnbbhaaGreat
open Ieee

/-- A datum that is a whole number. -/
def DW (d : Datum) (n : Int) : Prop := ∃ (s : Bool) (m k : Nat), d = .number s m (-(k : Int)) ∧ signed s m 0 = n * 2 ^ (k : Nat)
/-- A float that is a whole number. -/
def WF (x : F) (n : Int) : Prop := ∃ b, x = some b ∧ DW (double.read b) n

theorem lp : double.leastPlace = -1074 := by decide
theorem bn : double.binade = 4503599627370496 := by decide
theorem ir : double.infRung = 9218868437227405312 := by decide
theorem sw : double.signWeight = 9223372036854775808 := by decide
theorem fb : double.fractionBits = 52 := by decide
/-- The word of a sign and a rung of a number between 2^-52 and 2^53. -/
theorem read_word (neg : Bool) (last : Nat) (kept : Nat) (h1 : 1 ≤ last) (h2 : last < 2000) (h3 : 4503599627370496 ≤ kept) (h4 : kept < 9007199254740992) :
    double.read (double.word neg (last * 4503599627370496 + kept)) = .number neg kept (-1074 + (last : Int)) := by
  have e1 : double.word neg (last * 4503599627370496 + kept) % 9223372036854775808 = last * 4503599627370496 + kept := by
    unfold Format.word
    rw [sw]
    cases neg <;> simp <;> omega
  have e2 : (double.word neg (last * 4503599627370496 + kept) / 9223372036854775808 % 2 == 1) = neg := by
    unfold Format.word
    rw [sw]
    cases neg
    · simp; omega
    · simp; omega
  unfold Format.read
  simp only [lp, bn, ir, sw, e1, e2]
  rw [if_neg (by omega), if_pos (by omega)]
  congr 1
  · omega
  · omega
theorem cut_exact (neg : Bool) (q d : Nat) (hq : 0 < q) : Toward.even.cut neg (q * 2 ^ d) d = q := by
  have hlog : d ≤ (q * 2 ^ d).log2 + 2 := by
    have : 2 ^ d ≤ q * 2 ^ d := Nat.le_mul_of_pos_left _ hq
    have h2 : d ≤ (q * 2 ^ d).log2 := (Nat.le_log2 (Nat.ne_of_gt (Nat.mul_pos hq (Nat.two_pow_pos d)))).2 this
    omega
  unfold Toward.cut
  have e1 : min d ((q * 2 ^ d).log2 + 2) = d := Nat.min_eq_left hlog
  simp only [e1, Nat.one_shiftLeft]
  have hp : 0 < 2 ^ d := Nat.two_pow_pos d
  rw [Nat.mul_div_cancel _ hp, Nat.mul_mod_left]
  have : ¬ (2 ^ d < 2 * 0) := by omega
  have h3 : (2 ^ d == 2 * 0) = false := by simp
  simp [h3]

/-- What is a whole number below 2^53 is written as it is. -/
theorem nearest_whole (neg : Bool) (q k : Nat) (hq : 0 < q) (hq2 : q < 9007199254740992) (mag : Nat) (hm : mag = q * 2 ^ k) :
    ∃ j : Nat, double.read (double.nearest neg mag (-(k : Int))) = .number neg (q * 2 ^ j) (-(j : Int)) := by
  have hmag : mag ≠ 0 := by rw [hm]; exact Nat.ne_of_gt (Nat.mul_pos hq (Nat.two_pow_pos k))
  obtain ⟨e, he⟩ : ∃ e, e = q.log2 := ⟨_, rfl⟩
  have h1 : 2 ^ e ≤ q := by rw [he]; exact Nat.log2_self_le (by omega)
  have h2 : q < 2 ^ (e + 1) := by rw [he]; exact Nat.lt_log2_self
  have he52 : e ≤ 52 := by
    by_cases h : e ≤ 52
    · exact h
    · have : 2 ^ 53 ≤ 2 ^ e := Nat.pow_le_pow_right (by omega) (by omega)
      omega
  have hlog : mag.log2 = e + k := by
    rw [hm]
    refine (Nat.log2_eq_iff (Nat.ne_of_gt (Nat.mul_pos hq (Nat.two_pow_pos k)))).2 ⟨?_, ?_⟩
    · rw [Nat.pow_add]; exact Nat.mul_le_mul_right _ h1
    · rw [show e + k + 1 = (e + 1) + k by omega, Nat.pow_add]; exact Nat.mul_lt_mul_of_pos_right h2 (Nat.two_pow_pos k)
  have hlast : max (-(k : Int) + (mag.log2 : Int) - 52) (-1074) = -((52 - e : Nat) : Int) := by
    rw [hlog]; omega
  refine ⟨52 - e, ?_⟩
  unfold Format.nearest
  rw [if_neg hmag]
  simp only [lp, fb, bn, ir]
  have hl2 : (max (-(k : Int) + (mag.log2 : Int) - ((52 : Nat) : Int)) (-1074)) = -((52 - e : Nat) : Int) := hlast
  rw [hl2]
  have hkept : Toward.even.cut neg (mag <<< (-(k : Int) - -((52 - e : Nat) : Int)).toNat) (-((52 - e : Nat) : Int) - -(k : Int)).toNat = q * 2 ^ (52 - e) := by
    by_cases hc : k ≤ 52 - e
    · have e1 : (-(k : Int) - -((52 - e : Nat) : Int)).toNat = 52 - e - k := by omega
      have e2 : (-((52 - e : Nat) : Int) - -(k : Int)).toNat = 0 := by omega
      rw [e1, e2, Nat.shiftLeft_eq, hm, Nat.mul_assoc, ← Nat.pow_add, show k + (52 - e - k) = 52 - e by omega]
      have := cut_exact neg (q * 2 ^ (52 - e)) 0 (Nat.mul_pos hq (Nat.two_pow_pos _))
      simpa using this
    · have e1 : (-(k : Int) - -((52 - e : Nat) : Int)).toNat = 0 := by omega
      have e2 : (-((52 - e : Nat) : Int) - -(k : Int)).toNat = k - (52 - e) := by omega
      rw [e1, e2, Nat.shiftLeft_zero, hm]
      have e3 : q * 2 ^ k = q * 2 ^ (52 - e) * 2 ^ (k - (52 - e)) := by rw [Nat.mul_assoc, ← Nat.pow_add, show 52 - e + (k - (52 - e)) = k by omega]
      rw [e3]
      exact cut_exact neg (q * 2 ^ (52 - e)) (k - (52 - e)) (Nat.mul_pos hq (Nat.two_pow_pos _))
  rw [hkept]
  have b1 : 4503599627370496 ≤ q * 2 ^ (52 - e) := by
    have : 2 ^ e * 2 ^ (52 - e) ≤ q * 2 ^ (52 - e) := Nat.mul_le_mul_right _ h1
    rw [← Nat.pow_add, show e + (52 - e) = 52 by omega] at this
    exact this
  have b2 : q * 2 ^ (52 - e) < 9007199254740992 := by
    have : q * 2 ^ (52 - e) < 2 ^ (e + 1) * 2 ^ (52 - e) := Nat.mul_lt_mul_of_pos_right h2 (Nat.two_pow_pos _)
    rw [← Nat.pow_add, show e + 1 + (52 - e) = 53 by omega] at this
    exact this
  have e4 : (-((52 - e : Nat) : Int) - -1074).toNat = 1074 - (52 - e) := by omega
  rw [e4, Nat.min_eq_left (by omega)]
  rw [read_word neg (1074 - (52 - e)) (q * 2 ^ (52 - e)) (by omega) (by omega) b1 b2]
  congr 1
  omega
theorem read_zero (neg : Bool) (k : Int) : double.read (double.nearest neg 0 k) = .number neg 0 (-((1074 : Nat) : Int)) := by
  unfold Format.nearest
  rw [if_pos rfl]
  cases neg <;> decide
theorem signed_zero (s : Bool) (m : Nat) : signed s m 0 = if s then -(m : Int) else (m : Int) := by
  unfold signed
  cases s <;> simp
/-- A number that is whole is written as it is. -/
theorem write_whole {s : Bool} {m k : Nat} {n : Int} (h : signed s m 0 = n * 2 ^ k) (hn : n.natAbs < 9007199254740992) : DW (double.read (double.write (.number s m (-(k : Int))))) n := by
  show DW (double.read (double.nearest s m (-(k : Int)))) n
  by_cases hm : m = 0
  · subst hm
    rw [read_zero]
    have hn0 : n = 0 := by
      rw [signed_zero] at h
      have h2 : n * 2 ^ k = 0 := by rw [← h]; cases s <;> simp
      rcases Int.mul_eq_zero.1 h2 with h3 | h3
      · exact h3
      · exact absurd h3 (Int.ne_of_gt (Int.pow_pos (by omega)))
    refine ⟨s, 0, 1074, rfl, ?_⟩
    rw [hn0, signed_zero, Int.zero_mul]
    cases s <;> rfl
  · have hq : m = n.natAbs * 2 ^ k ∧ 0 < n.natAbs := by
      rw [signed_zero] at h
      have h2 : (n * 2 ^ k).natAbs = n.natAbs * 2 ^ k := by rw [Int.natAbs_mul, Int.natAbs_pow]; rfl
      have h3 : m = n.natAbs * 2 ^ k := by
        rw [← h2, ← h]
        cases s <;> simp
      refine ⟨h3, Nat.pos_of_ne_zero fun h0 => hm ?_⟩
      rw [h3, h0, Nat.zero_mul]
    obtain ⟨j, hj⟩ := nearest_whole s n.natAbs k hq.2 hn m hq.1
    rw [hj]
    refine ⟨s, _, j, rfl, ?_⟩
    rw [signed_zero] at h ⊢
    have hp : (0 : Int) < 2 ^ k := Int.pow_pos (by omega)
    have hs : n = if s then -(n.natAbs : Int) else (n.natAbs : Int) := by
      have hm' : (m : Int) = (n.natAbs : Int) * 2 ^ k := by rw [hq.1]; simp
      cases s
      · simp only [Bool.false_eq_true, if_false] at h ⊢
        rw [hm'] at h
        exact (Int.eq_of_mul_eq_mul_right (Int.ne_of_gt hp) h).symm
      · simp only [if_true] at h ⊢
        rw [hm', ← Int.neg_mul] at h
        exact (Int.eq_of_mul_eq_mul_right (Int.ne_of_gt hp) h).symm
    have e : ((n.natAbs * 2 ^ j : Nat) : Int) = (n.natAbs : Int) * 2 ^ j := by simp
    rw [e]
    cases s
    · simp only [Bool.false_eq_true, if_false] at hs ⊢
      rw [← hs]
    · simp only [if_true] at hs ⊢
      rw [← Int.neg_mul, ← hs]

/-! ### The operations -/
theorem signed_up (s : Bool) (m u : Nat) : signed s m u = signed s m 0 * 2 ^ u := by
  rw [signed_zero]
  unfold signed
  rw [Nat.shiftLeft_eq]
  cases s <;> simp [Int.neg_mul]
theorem sign_of (t : Int) (z : Bool) : signed (if t = 0 then z else decide (t < 0)) t.natAbs 0 = t := by
  rw [signed_zero]
  by_cases h : t = 0
  · subst h; cases z <;> rfl
  · rw [if_neg h]
    by_cases h2 : t < 0
    · simp [h2]; omega
    · simp [h2]; omega
theorem sum_whole {d e : Datum} {a b : Int} (hd : DW d a) (he : DW e b) (h : (a + b).natAbs < 9007199254740992) : ∃ r, d.sum e = some r ∧ DW (double.read (double.write r)) (a + b) := by
  obtain ⟨s, m, k, rfl, h1⟩ := hd
  obtain ⟨t, n, l, rfl, h2⟩ := he
  have hb : min (-(k : Int)) (-(l : Int)) = -((max k l : Nat) : Int) := by omega
  have e1 : (-(k : Int) - min (-(k : Int)) (-(l : Int))).toNat = max k l - k := by omega
  have e2 : (-(l : Int) - min (-(k : Int)) (-(l : Int))).toNat = max k l - l := by omega
  refine ⟨_, rfl, ?_⟩
  rw [e1, e2, hb]
  have ht : signed s m (max k l - k) + signed t n (max k l - l) = (a + b) * 2 ^ (max k l) := by
    rw [signed_up s, signed_up t, h1, h2, Int.mul_assoc, Int.mul_assoc, ← Int.pow_add, ← Int.pow_add, show k + (max k l - k) = max k l by omega, show l + (max k l - l) = max k l by omega, Int.add_mul]
  exact write_whole (by rw [sign_of]; exact ht) h
theorem opp_whole {d : Datum} {a : Int} (hd : DW d a) : DW d.opposite (-a) := by
  obtain ⟨s, m, k, rfl, h1⟩ := hd
  refine ⟨!s, m, k, rfl, ?_⟩
  rw [Int.neg_mul, ← h1, signed_zero, signed_zero]
  cases s <;> simp
theorem prod_whole {d e : Datum} {a b : Int} (hd : DW d a) (he : DW e b) (h : (a * b).natAbs < 9007199254740992) : ∃ r, d.product e = some r ∧ DW (double.read (double.write r)) (a * b) := by
  obtain ⟨s, m, k, rfl, h1⟩ := hd
  obtain ⟨t, n, l, rfl, h2⟩ := he
  refine ⟨_, rfl, ?_⟩
  rw [show -(k : Int) + -(l : Int) = -((k + l : Nat) : Int) by omega]
  refine write_whole ?_ h
  rw [signed_zero] at h1 h2 ⊢
  rw [Int.pow_add, show a * b * (2 ^ k * 2 ^ l) = (a * 2 ^ k) * (b * 2 ^ l) by grind, ← h1, ← h2]
  cases s <;> cases t <;> simp [Int.neg_mul, Int.mul_neg]
theorem WF.add {x y : F} {a b : Int} (hx : WF x a) (hy : WF y b) (h : (a + b).natAbs < 9007199254740992) : WF (fadd x y) (a + b) := by
  obtain ⟨u, rfl, h1⟩ := hx
  obtain ⟨v, rfl, h2⟩ := hy
  obtain ⟨r, e, hr⟩ := sum_whole h1 h2 h
  exact ⟨_, by show double.add u v = _; unfold Format.add; rw [e]; rfl, hr⟩
theorem WF.sub {x y : F} {a b : Int} (hx : WF x a) (hy : WF y b) (h : (a - b).natAbs < 9007199254740992) : WF (fsub x y) (a - b) := by
  obtain ⟨u, rfl, h1⟩ := hx
  obtain ⟨v, rfl, h2⟩ := hy
  obtain ⟨r, e, hr⟩ := sum_whole h1 (opp_whole h2) (by rw [← Int.sub_eq_add_neg]; exact h)
  exact ⟨_, by show double.sub u v = _; unfold Format.sub; rw [e]; rfl, by rw [Int.sub_eq_add_neg]; exact hr⟩
theorem WF.mul {x y : F} {a b : Int} (hx : WF x a) (hy : WF y b) (h : (a * b).natAbs < 9007199254740992) : WF (fmul x y) (a * b) := by
  obtain ⟨u, rfl, h1⟩ := hx
  obtain ⟨v, rfl, h2⟩ := hy
  obtain ⟨r, e, hr⟩ := prod_whole h1 h2 h
  exact ⟨_, by show double.mul u v = _; unfold Format.mul; rw [e]; rfl, hr⟩
theorem cmp_scale (a b : Int) (k : Nat) : compare (a * 2 ^ k) (b * 2 ^ k) = compare a b := by
  have hp : (0 : Int) < 2 ^ k := Int.pow_pos (by omega)
  show compareOfLessAndEq _ _ = compareOfLessAndEq _ _
  unfold compareOfLessAndEq
  by_cases h1 : a < b
  · rw [if_pos h1, if_pos (Int.mul_lt_mul_of_pos_right h1 hp)]
  · rw [if_neg h1, if_neg (fun h => h1 (Int.lt_of_mul_lt_mul_right h (Int.le_of_lt hp)))]
    by_cases h2 : a = b
    · rw [if_pos h2, if_pos (by rw [h2])]
    · rw [if_neg h2, if_neg (fun h => h2 (Int.eq_of_mul_eq_mul_right (Int.ne_of_gt hp) h))]
theorem WF.cmp {x y : F} {a b : Int} (hx : WF x a) (hy : WF y b) : fcmp x y = some (compare a b) := by
  obtain ⟨u, rfl, h1⟩ := hx
  obtain ⟨v, rfl, h2⟩ := hy
  show double.order u v = _
  unfold Format.order
  obtain ⟨s, m, k, e1, h1⟩ := h1
  obtain ⟨t, n, l, e2, h2⟩ := h2
  rw [e1, e2]
  have g1 : (-(k : Int) - min (-(k : Int)) (-(l : Int))).toNat = max k l - k := by omega
  have g2 : (-(l : Int) - min (-(k : Int)) (-(l : Int))).toNat = max k l - l := by omega
  show some (compare (signed s m (-(k : Int) - min (-(k : Int)) (-(l : Int))).toNat) (signed t n (-(l : Int) - min (-(k : Int)) (-(l : Int))).toNat)) = _
  rw [g1, g2, signed_up s, signed_up t, h1, h2, Int.mul_assoc, Int.mul_assoc, ← Int.pow_add, ← Int.pow_add, show k + (max k l - k) = max k l by omega, show l + (max k l - l) = max k l by omega, cmp_scale]
theorem WF.eq {x y : F} {a b : Int} (hx : WF x a) (hy : WF y b) : feq x y = decide (a = b) := by
  unfold feq
  rw [hx.cmp hy]
  show (some (compareOfLessAndEq a b) == some Ordering.eq) = _
  unfold compareOfLessAndEq
  by_cases h1 : a < b
  · rw [if_pos h1, decide_eq_false (by omega)]; rfl
  · rw [if_neg h1]
    by_cases h2 : a = b
    · rw [if_pos h2, decide_eq_true h2]; rfl
    · rw [if_neg h2, decide_eq_false h2]; rfl
/-- A whole number, by Go's own conversion. -/
theorem WF.int (n : Int) (hn : n.natAbs < 9007199254740992) : WF (some (double.write (.number (decide (n < 0)) n.natAbs 0))) n := by
  refine ⟨_, rfl, ?_⟩
  have := write_whole (s := decide (n < 0)) (m := n.natAbs) (k := 0) (n := n) (by
    rw [signed_zero, Int.pow_zero, Int.mul_one]
    by_cases h : n < 0
    · simp [h]; omega
    · simp [h]; omega) hn
  simpa using this
theorem WF.zero : WF (some 0) 0 := ⟨0, rfl, false, 0, 1074, by decide, by rw [signed_zero, Int.zero_mul]; rfl⟩
theorem WF.one : WF (some 4607182418800017408) 1 := ⟨_, rfl, false, 4503599627370496, 52, by decide, by rw [signed_zero]; decide⟩
theorem WF.neg {x : F} {a : Int} (hx : WF x a) : WF (fneg x) (-a) := by
  obtain ⟨u, rfl, s, m, k, e1, h1⟩ := hx
  refine ⟨u ^^^ 9223372036854775808, rfl, !s, m, k, ?_, ?_⟩
  · have hm : (u ^^^ 9223372036854775808) % 9223372036854775808 = u % 9223372036854775808 := xor_mod u
    have hs : ((u ^^^ 9223372036854775808) / 9223372036854775808 % 2 == 1) = !(u / 9223372036854775808 % 2 == 1) := by
      have h2 : (9223372036854775808 : Nat) = 2 ^ 63 := by decide
      have ht : ∀ z : Nat, (z / 9223372036854775808 % 2 == 1) = z.testBit 63 := fun z => by
        rw [h2, Nat.testBit_eq_decide_div_mod_eq]
        by_cases h : z / 2 ^ 63 % 2 = 1 <;> simp [h]
      rw [ht, ht, Nat.testBit_xor]
      have : Nat.testBit 9223372036854775808 63 = true := by decide
      rw [this]; simp
    unfold Format.read at e1 ⊢
    simp only [lp, bn, ir, sw] at e1 ⊢
    rw [hm, hs]
    split at e1
    · rename_i h
      rw [if_pos h]
      obtain ⟨q1, q2, q3⟩ := Datum.number.inj e1
      rw [q1, q2, q3]
    · rename_i h
      rw [if_neg h]
      split at e1
      · rename_i h
        rw [if_pos h]
        obtain ⟨q1, q2, q3⟩ := Datum.number.inj e1
        rw [q1, q2, q3]
      · split at e1 <;> exact absurd e1 (by simp)
  · rw [Int.neg_mul, ← h1, signed_zero, signed_zero]
    cases s <;> simp
end Go.Proofs.YtjddmnfdnnbbhaaGreat

/- Plain: whole complex numbers in floats, exactly; how great they are. No program in sight. -/
set_option linter.unusedVariables false
set_option linter.unusedSimpArgs false
namespace Go.Proofs.YtjddmnfdnnbbhaaGreat

abbrev C := F × F
abbrev G := Int × Int
def cadd (x y : C) : C := (fadd x.1 y.1, fadd x.2 y.2)
def csub (x y : C) : C := (fsub x.1 y.1, fsub x.2 y.2)
def cmul (x y : C) : C := (fsub (fmul x.1 y.1) (fmul x.2 y.2), fadd (fmul x.1 y.2) (fmul x.2 y.1))
def cneg (x : C) : C := (fneg x.1, fneg x.2)
def gadd (x y : G) : G := (x.1 + y.1, x.2 + y.2)
def gsub (x y : G) : G := (x.1 - y.1, x.2 - y.2)
def gmul (x y : G) : G := (x.1 * y.1 - x.2 * y.2, x.1 * y.2 + x.2 * y.1)
def gneg (x : G) : G := (-x.1, -x.2)
def WC (z : C) (g : G) : Prop := WF z.1 g.1 ∧ WF z.2 g.2
/-- No farther from nothing than A. -/
def NB (g : G) (A : Int) : Prop := g.1 * g.1 + g.2 * g.2 ≤ A * A
theorem sq_le {a A : Int} (hA : 0 ≤ A) (h : a * a ≤ A * A) : a ≤ A ∧ -A ≤ a := by
  constructor
  · by_cases h1 : a ≤ A
    · exact h1
    · exfalso
      have h2 : A + 1 ≤ a := by omega
      have : (A + 1) * (A + 1) ≤ a * a := Int.mul_le_mul h2 h2 (by omega) (by omega)
      grind
  · by_cases h1 : -A ≤ a
    · exact h1
    · exfalso
      have h2 : A + 1 ≤ -a := by omega
      have : (A + 1) * (A + 1) ≤ -a * -a := Int.mul_le_mul h2 h2 (by omega) (by omega)
      grind
theorem sq_nonneg (a : Int) : 0 ≤ a * a := by
  rcases Int.le_total 0 a with h | h
  · exact Int.mul_nonneg h h
  · exact Int.mul_nonneg_of_nonpos_of_nonpos h h
theorem NB.parts {g : G} {A : Int} (hA : 0 ≤ A) (h : NB g A) : g.1.natAbs ≤ A.toNat ∧ g.2.natAbs ≤ A.toNat := by
  unfold NB at h
  have h1 := sq_nonneg g.1
  have h2 := sq_nonneg g.2
  obtain ⟨a1, a2⟩ := sq_le hA (show g.1 * g.1 ≤ A * A by omega)
  obtain ⟨b1, b2⟩ := sq_le hA (show g.2 * g.2 ≤ A * A by omega)
  omega
theorem NB.mono {g : G} {A B : Int} (hA : 0 ≤ A) (h : NB g A) (hAB : A ≤ B) : NB g B := by
  unfold NB at *
  have := Int.mul_le_mul hAB hAB hA (by omega)
  omega
theorem NB.mul {g h : G} {A B : Int} (hg : NB g A) (hh : NB h B) : NB (gmul g h) (A * B) := by
  unfold NB gmul at *
  have e : (g.1 * h.1 - g.2 * h.2) * (g.1 * h.1 - g.2 * h.2) + (g.1 * h.2 + g.2 * h.1) * (g.1 * h.2 + g.2 * h.1) = (g.1 * g.1 + g.2 * g.2) * (h.1 * h.1 + h.2 * h.2) := by grind
  have e2 : A * B * (A * B) = (A * A) * (B * B) := by grind
  rw [e, e2]
  have h1 := sq_nonneg h.1
  have h2 := sq_nonneg h.2
  exact Int.mul_le_mul hg hh (by omega) (sq_nonneg A)
theorem NB.neg {g : G} {A : Int} (h : NB g A) : NB (gneg g) A := by
  unfold NB gneg at *
  rw [Int.neg_mul_neg, Int.neg_mul_neg]
  exact h
theorem NB.add {g h : G} {A B : Int} (hA : 0 ≤ A) (hB : 0 ≤ B) (hg : NB g A) (hh : NB h B) : NB (gadd g h) (A + B) := by
  have hd : (g.1 * h.1 + g.2 * h.2) * (g.1 * h.1 + g.2 * h.2) ≤ (A * B) * (A * B) := by
    have e : (g.1 * h.1 + g.2 * h.2) * (g.1 * h.1 + g.2 * h.2) + (g.1 * h.2 - g.2 * h.1) * (g.1 * h.2 - g.2 * h.1) = (g.1 * g.1 + g.2 * g.2) * (h.1 * h.1 + h.2 * h.2) := by grind
    have e2 : A * B * (A * B) = (A * A) * (B * B) := by grind
    have h1 := sq_nonneg h.1
    have h2 := sq_nonneg h.2
    have h3 : (g.1 * g.1 + g.2 * g.2) * (h.1 * h.1 + h.2 * h.2) ≤ (A * A) * (B * B) := Int.mul_le_mul hg hh (by omega) (sq_nonneg A)
    have h4 := sq_nonneg (g.1 * h.2 - g.2 * h.1)
    omega
  obtain ⟨h1, _⟩ := sq_le (Int.mul_nonneg hA hB) hd
  unfold NB gadd at *
  have e : (g.1 + h.1) * (g.1 + h.1) + (g.2 + h.2) * (g.2 + h.2) = (g.1 * g.1 + g.2 * g.2) + (h.1 * h.1 + h.2 * h.2) + 2 * (g.1 * h.1 + g.2 * h.2) := by grind
  have e2 : (A + B) * (A + B) = A * A + B * B + 2 * (A * B) := by grind
  show (g.1 + h.1) * (g.1 + h.1) + (g.2 + h.2) * (g.2 + h.2) ≤ _
  rw [e, e2]
  omega
theorem NB.sub {g h : G} {A B : Int} (hA : 0 ≤ A) (hB : 0 ≤ B) (hg : NB g A) (hh : NB h B) : NB (gsub g h) (A + B) := by
  have := NB.add hA hB hg hh.neg
  have e : gadd g (gneg h) = gsub g h := by unfold gadd gneg gsub; simp [Int.sub_eq_add_neg]
  rwa [e] at this

def top : Int := 9007199254740991
theorem WC.add {x y : C} {g h : G} {A : Int} (hx : WC x g) (hy : WC y h) (hA : 0 ≤ A) (hA2 : A ≤ top) (hn : NB (gadd g h) A) : WC (cadd x y) (gadd g h) := by
  obtain ⟨h1, h2⟩ := hn.parts hA
  unfold top at hA2
  exact ⟨hx.1.add hy.1 (by show (gadd g h).1.natAbs < _; omega), hx.2.add hy.2 (by show (gadd g h).2.natAbs < _; omega)⟩
theorem WC.sub {x y : C} {g h : G} {A : Int} (hx : WC x g) (hy : WC y h) (hA : 0 ≤ A) (hA2 : A ≤ top) (hn : NB (gsub g h) A) : WC (csub x y) (gsub g h) := by
  obtain ⟨h1, h2⟩ := hn.parts hA
  unfold top at hA2
  exact ⟨hx.1.sub hy.1 (by show (gsub g h).1.natAbs < _; omega), hx.2.sub hy.2 (by show (gsub g h).2.natAbs < _; omega)⟩
theorem WC.neg {x : C} {g : G} (hx : WC x g) : WC (cneg x) (gneg g) := ⟨hx.1.neg, hx.2.neg⟩
theorem part_mul {a b A B : Int} (hA : 0 ≤ A) (hB : 0 ≤ B) (ha : a.natAbs ≤ A.toNat) (hb : b.natAbs ≤ B.toNat) (hAB : A * B ≤ top) : (a * b).natAbs < 9007199254740992 := by
  rw [Int.natAbs_mul]
  have h1 : a.natAbs * b.natAbs ≤ A.toNat * B.toNat := Nat.mul_le_mul ha hb
  have h2 : ((A.toNat * B.toNat : Nat) : Int) = A * B := by rw [Int.natCast_mul, Int.toNat_of_nonneg hA, Int.toNat_of_nonneg hB]
  unfold top at hAB
  omega
theorem WC.mul {x y : C} {g h : G} {A B : Int} (hx : WC x g) (hy : WC y h) (hA : 0 ≤ A) (hB : 0 ≤ B) (hg : NB g A) (hh : NB h B) (hAB : A * B ≤ top) : WC (cmul x y) (gmul g h) := by
  obtain ⟨g1, g2⟩ := hg.parts hA
  obtain ⟨h1, h2⟩ := hh.parts hB
  obtain ⟨p1, p2⟩ := (hg.mul hh).parts (Int.mul_nonneg hA hB)
  have hAB2 := hAB
  unfold top at hAB2
  have hnn := Int.mul_nonneg hA hB
  exact ⟨(hx.1.mul hy.1 (part_mul hA hB g1 h1 hAB)).sub (hx.2.mul hy.2 (part_mul hA hB g2 h2 hAB)) (by show (gmul g h).1.natAbs < _; omega),
    (hx.1.mul hy.2 (part_mul hA hB g1 h2 hAB)).add (hx.2.mul hy.1 (part_mul hA hB g2 h1 hAB)) (by show (gmul g h).2.natAbs < _; omega)⟩
end Go.Proofs.YtjddmnfdnnbbhaaGreat

/- Plain: polynomials of whole complex numbers as functions from a place to a number: values of sums, products, shifts; how great they are. No program in sight. -/
set_option linter.unusedVariables false
set_option linter.unusedSimpArgs false
namespace Go.Proofs.YtjddmnfdnnbbhaaGreat

def g0 : G := (0, 0)
def g1 : G := (1, 0)
theorem gext {x y : G} (h1 : x.1 = y.1) (h2 : x.2 = y.2) : x = y := Prod.ext h1 h2
section
variable (x y z w : G)
end
abbrev PG := Nat → G
/-- The value of n coefficients from the one at i on, by Horner's steps. -/
def tl (c : PG) (z : G) : Nat → Nat → G
  | 0, _ => g0
  | n + 1, i => gadd (gmul (tl c z n (i + 1)) z) (c i)
/-- The value of n coefficients. -/
def hs (n : Nat) (c : PG) (z : G) : G := tl c z n 0
def gpow (z : G) : Nat → G
  | 0 => g1
  | n + 1 => gmul (gpow z n) z
/-- Coefficients moved up by i places. -/
def up (i : Nat) (c : PG) : PG := fun k => if i ≤ k then c (k - i) else g0
/-! ### Products -/
/-- The rows below i of a product. -/
def cv (a b : PG) : Nat → PG
  | 0 => fun _ => g0
  | i + 1 => fun k => gadd (cv a b i k) (gmul (a i) (up i b k))
/-- Nothing from n on. -/
def Ends (c : PG) (n : Nat) : Prop := ∀ k, n ≤ k → c k = g0
end Go.Proofs.YtjddmnfdnnbbhaaGreat

/- Plain: polynomials of whole complex numbers: shifted ones, those of zeros, how great all is. No program in sight. -/
set_option linter.unusedVariables false
set_option linter.unusedSimpArgs false
namespace Go.Proofs.YtjddmnfdnnbbhaaGreat

/-! ### Shifts -/
/-- One pass: the coefficients from j to n by Horner's steps. -/
def pass (n : Nat) (b : G) (c : PG) (j : Nat) : PG := fun k => if j ≤ k ∧ k ≤ n then tl c b (n + 1 - k) k else c k
def sh (n : Nat) (b : G) (c : PG) : Nat → PG
  | 0 => c
  | j + 1 => pass n b (sh n b c j) j
/-! ### Zeros -/
def ofS (p : PG) (z : G) : PG := fun k => gsub (up 1 p k) (gmul z (p k))
def ofZ (z : Nat → G) : Nat → PG
  | 0 => fun k => if k = 0 then g1 else g0
  | i + 1 => ofS (ofZ z i) (z i)
/-! ### How great -/
def BN (g b : G) : Prop := 0 ≤ b.1 ∧ b.2 = 0 ∧ NB g b.1
theorem BN.zero : BN g0 g0 := ⟨Int.le_refl _, rfl, by unfold NB g0; simp⟩
theorem BN.add {g h b c : G} (hg : BN g b) (hh : BN h c) : BN (gadd g h) (gadd b c) :=
  ⟨Int.add_nonneg hg.1 hh.1, by show b.2 + c.2 = 0; rw [hg.2.1, hh.2.1]; rfl, hg.2.2.add hg.1 hh.1 hh.2.2⟩
theorem BN.sub {g h b c : G} (hg : BN g b) (hh : BN h c) : BN (gsub g h) (gadd b c) :=
  ⟨Int.add_nonneg hg.1 hh.1, by show b.2 + c.2 = 0; rw [hg.2.1, hh.2.1]; rfl, hg.2.2.sub hg.1 hh.1 hh.2.2⟩
theorem BN.mul {g h b c : G} (hg : BN g b) (hh : BN h c) : BN (gmul g h) (gmul b c) := by
  have e : (gmul b c).1 = b.1 * c.1 := by show b.1 * c.1 - b.2 * c.2 = _; rw [hg.2.1, Int.zero_mul, Int.sub_zero]
  refine ⟨by rw [e]; exact Int.mul_nonneg hg.1 hh.1, by show b.1 * c.2 + b.2 * c.1 = 0; rw [hg.2.1, hh.2.1, Int.zero_mul, Int.mul_zero]; rfl, ?_⟩
  rw [e]
  exact hg.2.2.mul hh.2.2
theorem BN.neg {g b : G} (h : BN g b) : BN (gneg g) b := ⟨h.1, h.2.1, h.2.2.neg⟩
theorem BN.mono {g b c : G} (h : BN g b) (hbc : b.1 ≤ c.1) (hc : c.2 = 0) : BN g c := ⟨Int.le_trans h.1 hbc, hc, h.2.2.mono h.1 hbc⟩
theorem BN.real {g : G} {B : Int} (hB : 0 ≤ B) (h : NB g B) : BN g (B, 0) := ⟨hB, rfl, h⟩
theorem BN.tl {c d : PG} {z w : G} (hz : BN z w) : ∀ {n i : Nat}, (∀ k, k < n → BN (c (i + k)) (d (i + k))) → BN (tl c z n i) (tl d w n i)
  | 0, _, _ => BN.zero
  | n + 1, i, h => by
    refine BN.add (BN.mul (BN.tl hz (n := n) (i := i + 1) fun k hk => ?_) hz) (h 0 (by omega))
    rw [show i + 1 + k = i + (k + 1) by omega]
    exact h (k + 1) (by omega)
theorem BN.up {c d : PG} (h : ∀ k, BN (c k) (d k)) (i k : Nat) : BN (up i c k) (up i d k) := by
  unfold YtjddmnfdnnbbhaaGreat.up
  split
  · exact h _
  · exact BN.zero
theorem BN.cv {a b A B : PG} (ha : ∀ k, BN (a k) (A k)) (hb : ∀ k, BN (b k) (B k)) : ∀ i k, BN (cv a b i k) (cv A B i k)
  | 0, _ => BN.zero
  | i + 1, k => BN.add (BN.cv ha hb i k) (BN.mul (ha i) (BN.up hb i k))
theorem BN.sh {c d : PG} {z w : G} (n : Nat) (hz : BN z w) (h : ∀ k, BN (c k) (d k)) : ∀ j k, BN (sh n z c j k) (sh n w d j k)
  | 0, k => h k
  | j + 1, k => by
    show BN (pass n z (YtjddmnfdnnbbhaaGreat.sh n z c j) j k) (pass n w (YtjddmnfdnnbbhaaGreat.sh n w d j) j k)
    unfold pass
    split
    · exact BN.tl hz fun k' _ => BN.sh n hz h j _
    · exact BN.sh n hz h j k
def ofB (Z : G) : Nat → PG
  | 0 => fun k => if k = 0 then g1 else g0
  | i + 1 => fun k => gadd (up 1 (ofB Z i) k) (gmul Z (ofB Z i k))
theorem BN.ofZ {z : Nat → G} {Z : G} (hz : ∀ i, BN (z i) Z) : ∀ i k, BN (ofZ z i k) (ofB Z i k)
  | 0, k => by
    unfold YtjddmnfdnnbbhaaGreat.ofZ ofB
    split
    · exact ⟨by decide, rfl, by unfold NB g1; decide⟩
    · exact BN.zero
  | i + 1, k => BN.sub (BN.up (BN.ofZ hz i) 1 k) (BN.mul (hz i) (BN.ofZ hz i k))

/-! ### Places by Horner's steps in floats -/
theorem WC.step {v z c : C} {g w h b W B : G} (hv : WC v g) (hz : WC z w) (hc : WC c h) (hg : BN g b) (hw : BN w W) (hh : BN h B) (ht : (gadd (gmul b W) B).1 ≤ top) : WC (cadd (cmul v z) c) (gadd (gmul g w) h) := by
  have hm := hg.mul hw
  have e : (gmul b W).1 = b.1 * W.1 := by show b.1 * W.1 - b.2 * W.2 = _; rw [hg.2.1, Int.zero_mul, Int.sub_zero]
  have hs := hm.add hh
  have ht' : (gmul b W).1 + B.1 ≤ top := ht
  have hB := hh.1
  have h1 := hv.mul hz hg.1 hw.1 hg.2.2 hw.2.2 (by rw [← e]; omega)
  exact h1.add hc hs.1 ht hs.2.2
/-! ### Division by one that has 1 in front -/
end Go.Proofs.YtjddmnfdnnbbhaaGreat

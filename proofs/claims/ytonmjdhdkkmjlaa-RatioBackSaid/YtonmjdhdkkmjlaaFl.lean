/- Plain: a float64 as a number that may be none; what is no number is one thing, whatever its bits. No program in sight. -/
import Derived.Laws.FloatArith
import GoSem.Core.Sem
set_option linter.unusedVariables false
set_option linter.unusedSimpArgs false
namespace Go.Proofs.Ytonmjdhdkkmjlaa
open Ieee

/-- A float64 without its bits where it is no number. -/
abbrev F := Option Nat

def isNo (b : Nat) : Bool := (double.read b).isNaN
/-- What bits stand for. -/
def fl (b : Nat) : F := if isNo b then none else some b

def f2 (op : Nat → Nat → Option Nat) (x y : F) : F := x.bind fun a => y.bind fun b => op a b
def fadd : F → F → F := f2 double.add
def fsub : F → F → F := f2 double.sub
def fmul : F → F → F := f2 double.mul
def fdiv : F → F → F := f2 double.div
def fabs (x : F) : F := x.map (· % 9223372036854775808)
def fneg (x : F) : F := x.map (· ^^^ 9223372036854775808)
def fcmp (x y : F) : Option Ordering := x.bind fun a => y.bind fun b => double.order a b
def flt (x y : F) : Bool := fcmp x y == some .lt
def fle (x y : F) : Bool := fcmp x y == some .lt || fcmp x y == some .eq
def feq (x y : F) : Bool := fcmp x y == some .eq
def fbig : F := some 9218868437227405311
def ffin (x : F) : Bool := fle (fabs x) fbig

theorem read_write_no (d : Datum) (h : d.isNaN = false) : isNo (double.write d) = false := by
  have key : ∀ (neg : Bool) (r : Nat), r ≤ double.infRung → (double.read (double.word neg r)).isNaN = false := by
    intro neg r hr
    have h0 : double.infRung = 9218868437227405312 := by decide
    have h1 : double.signWeight = 9223372036854775808 := by decide
    have h2 : double.word neg r % double.signWeight = r := by
      rw [h0] at hr
      unfold Format.word
      rw [h1]
      cases neg <;> simp <;> omega
    unfold Format.read
    simp only [h2]
    split
    · rfl
    · split
      · rfl
      · split
        · rfl
        · rename_i a b c
          have : r < double.infRung ∨ r = double.infRung := by omega
          rcases this with h | h
          · exact absurd h b
          · exact absurd h c
  unfold isNo
  cases d with
  | nan s t => simp [Datum.isNaN] at h
  | infinity s => exact key s _ (Nat.le_refl _)
  | number s m e =>
    show (double.read (double.nearest s m e)).isNaN = false
    unfold Format.nearest
    split
    · exact key s 0 (Nat.zero_le _)
    · exact key s _ (Nat.min_le_right _ _)

theorem sum_ok {x y d : Datum} (h : x.sum y = some d) : d.isNaN = false := by
  unfold Datum.sum at h
  split at h
  all_goals first | (cases h; done) | skip
  · split at h
    · cases h; rfl
    · cases h
  · cases h; rfl
  · cases h; rfl
  · cases h; rfl
theorem product_ok {x y d : Datum} (h : x.product y = some d) : d.isNaN = false := by
  unfold Datum.product at h
  split at h
  all_goals first | (cases h; done) | skip
  · cases h; rfl
  all_goals first | (cases h; rfl) | (split at h <;> first | (cases h; done) | (cases h; rfl))
theorem quotient_ok {n : Nat} {x y d : Datum} (h : Datum.quotient n x y = some d) : d.isNaN = false := by
  unfold Datum.quotient at h
  split at h
  all_goals first | (cases h; done) | skip
  all_goals first | (cases h; rfl) | skip
  split at h
  · split at h
    · cases h
    · cases h; rfl
  · cases h; rfl

theorem fl_no {b : Nat} (h : isNo b = true) : fl b = none := by simp [fl, h]
theorem fl_yes {b : Nat} (h : isNo b = false) : fl b = some b := by simp [fl, h]

theorem sum_nan_left {x y : Datum} (h : x.isNaN = true) : x.sum y = none := by cases x <;> simp_all [Datum.isNaN, Datum.sum]
theorem sum_nan_right {x y : Datum} (h : y.isNaN = true) : x.sum y = none := by cases x <;> cases y <;> simp_all [Datum.isNaN, Datum.sum]
theorem product_nan_left {x y : Datum} (h : x.isNaN = true) : x.product y = none := by cases x <;> simp_all [Datum.isNaN, Datum.product]
theorem product_nan_right {x y : Datum} (h : y.isNaN = true) : x.product y = none := by cases x <;> cases y <;> simp_all [Datum.isNaN, Datum.product]
theorem quotient_nan_left {n : Nat} {x y : Datum} (h : x.isNaN = true) : Datum.quotient n x y = none := by cases x <;> simp_all [Datum.isNaN, Datum.quotient]
theorem quotient_nan_right {n : Nat} {x y : Datum} (h : y.isNaN = true) : Datum.quotient n x y = none := by cases x <;> cases y <;> simp_all [Datum.isNaN, Datum.quotient]
theorem order_nan_left {x y : Datum} (h : x.isNaN = true) : x.order y = none := by cases x <;> simp_all [Datum.isNaN, Datum.order]
theorem order_nan_right {x y : Datum} (h : y.isNaN = true) : x.order y = none := by cases x <;> cases y <;> simp_all [Datum.isNaN, Datum.order]
theorem opposite_nan {x : Datum} : x.opposite.isNaN = x.isNaN := by cases x <;> rfl

/-- The four operations, over bits, come to the four over what bits stand for. -/
def fop : BinOp → F → F → F
  | .add => fadd | .sub => fsub | .mul => fmul | .quo => fdiv | _ => fun _ _ => none

theorem map_none_iff {o : Option Datum} {g : Datum → Nat} : o.map g = none ↔ o = none := by cases o <;> simp

theorem fop_bits (op : BinOp) (x y : Nat) (hop : op = .add ∨ op = .sub ∨ op = .mul ∨ op = .quo) :
    fop op (fl x) (fl y) = floatBits op .f64 x y ∧ ∀ r, floatBits op .f64 x y = some r → fl r = some r := by
  have hw : ∀ d : Datum, d.isNaN = false → fl (double.write d) = some (double.write d) := fun d hd => fl_yes (read_write_no d hd)
  rcases hop with rfl | rfl | rfl | rfl
  · refine ⟨?_, fun r hr => ?_⟩
    · show fadd (fl x) (fl y) = double.add x y
      unfold fl
      cases hx : isNo x
      · cases hy : isNo y
        · simp [fadd, f2]
        · simp [fadd, f2, Format.add, sum_nan_right (show (double.read y).isNaN = true from hy)]
      · simp [fadd, f2, Format.add, sum_nan_left (show (double.read x).isNaN = true from hx)]
    · obtain ⟨d, hd, rfl⟩ := Option.map_eq_some_iff.1 (show (Datum.sum (double.read x) (double.read y)).map double.write = some r from hr)
      exact hw d (sum_ok hd)
  · refine ⟨?_, fun r hr => ?_⟩
    · show fsub (fl x) (fl y) = double.sub x y
      unfold fl
      cases hx : isNo x
      · cases hy : isNo y
        · simp [fsub, f2]
        · simp [fsub, f2, Format.sub, sum_nan_right (show (double.read y).opposite.isNaN = true from opposite_nan.trans hy)]
      · simp [fsub, f2, Format.sub, sum_nan_left (show (double.read x).isNaN = true from hx)]
    · obtain ⟨d, hd, rfl⟩ := Option.map_eq_some_iff.1 (show (Datum.sum (double.read x) (double.read y).opposite).map double.write = some r from hr)
      exact hw d (sum_ok hd)
  · refine ⟨?_, fun r hr => ?_⟩
    · show fmul (fl x) (fl y) = double.mul x y
      unfold fl
      cases hx : isNo x
      · cases hy : isNo y
        · simp [fmul, f2]
        · simp [fmul, f2, Format.mul, product_nan_right (show (double.read y).isNaN = true from hy)]
      · simp [fmul, f2, Format.mul, product_nan_left (show (double.read x).isNaN = true from hx)]
    · obtain ⟨d, hd, rfl⟩ := Option.map_eq_some_iff.1 (show (Datum.product (double.read x) (double.read y)).map double.write = some r from hr)
      exact hw d (product_ok hd)
  · refine ⟨?_, fun r hr => ?_⟩
    · show fdiv (fl x) (fl y) = double.div x y
      unfold fl
      cases hx : isNo x
      · cases hy : isNo y
        · simp [fdiv, f2]
        · simp [fdiv, f2, Format.div, quotient_nan_right (show (double.read y).isNaN = true from hy)]
      · simp [fdiv, f2, Format.div, quotient_nan_left (show (double.read x).isNaN = true from hx)]
    · obtain ⟨d, hd, rfl⟩ := Option.map_eq_some_iff.1 (show (Datum.quotient _ (double.read x) (double.read y)).map double.write = some r from hr)
      exact hw d (quotient_ok hd)

theorem fcmp_bits (x y : Nat) : fcmp (fl x) (fl y) = double.order x y := by
  unfold fl
  cases hx : isNo x
  · cases hy : isNo y
    · simp [fcmp]
    · simp [fcmp, Format.order, order_nan_right (show (double.read y).isNaN = true from hy)]
  · simp [fcmp, Format.order, order_nan_left (show (double.read x).isNaN = true from hx)]

/-- A drawn pattern of what is no number is no number. -/
theorem cut_no (x y t : Nat) : isNo (Question.cut (.nanBits .f64 x y) t) = true ∧ Question.cut (.nanBits .f64 x y) t < 2 ^ 64 := by
  show isNo ((t % 2) * 2 ^ 63 + 0x7ff0000000000000 + 1 + (t / 2) % (2 ^ 52 - 1)) = true ∧ (t % 2) * 2 ^ 63 + 0x7ff0000000000000 + 1 + (t / 2) % (2 ^ 52 - 1) < 2 ^ 64
  have e1 : (2 : Nat) ^ 63 = 9223372036854775808 := by decide
  have e2 : (2 : Nat) ^ 52 - 1 = 4503599627370495 := by decide
  have e3 : (2 : Nat) ^ 64 = 18446744073709551616 := by decide
  rw [e1, e2, e3]
  have h2 : (t / 2) % 4503599627370495 < 4503599627370495 := Nat.mod_lt _ (by decide)
  generalize (t / 2) % 4503599627370495 = k at h2 ⊢
  have h1 : t % 2 < 2 := Nat.mod_lt _ (by decide)
  generalize t % 2 = s at h1 ⊢
  refine ⟨?_, by omega⟩
  have hw : double.signWeight = 9223372036854775808 := by decide
  have hi : double.infRung = 9218868437227405312 := by decide
  have hb : double.binade = 4503599627370496 := by decide
  unfold isNo Format.read
  simp only [hw, hi, hb]
  have hm : (s * 9223372036854775808 + 9218868437227405312 + 1 + k) % 9223372036854775808 = 9218868437227405312 + 1 + k := by
    have : s = 0 ∨ s = 1 := by omega
    rcases this with rfl | rfl <;> omega
  rw [hm]
  rw [if_neg (by omega), if_neg (by omega), if_neg (by omega)]
  rfl

theorem isNo_mod (b : Nat) : isNo (b % 9223372036854775808) = isNo b := by
  have hw : double.signWeight = 9223372036854775808 := by decide
  unfold isNo Format.read
  simp only [hw, Nat.mod_mod]
  split
  · rfl
  · split
    · rfl
    · split <;> rfl
theorem fabs_bits (b : Nat) : fl (b % 9223372036854775808) = fabs (fl b) := by
  unfold fl; rw [isNo_mod]; cases isNo b <;> rfl
theorem xor_mod (b : Nat) : (b ^^^ 9223372036854775808) % 9223372036854775808 = b % 9223372036854775808 := by
  have h : (9223372036854775808 : Nat) = 2 ^ 63 := by decide
  rw [h, Nat.xor_mod_two_pow]
  simp
theorem fneg_bits (b : Nat) : fl (b ^^^ 9223372036854775808) = fneg (fl b) := by
  have : isNo (b ^^^ 9223372036854775808) = isNo b := by rw [← isNo_mod (b ^^^ 9223372036854775808), xor_mod, isNo_mod]
  unfold fl; rw [this]; cases isNo b <;> rfl
end Go.Proofs.Ytonmjdhdkkmjlaa

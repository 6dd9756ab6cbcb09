/- Plain: a float64 as a number that may be none; what is no number is one thing, whatever its bits. No program in sight. -/
import Derived.Laws.FloatArith
import GoSem.Core.Sem
set_option linter.unusedSimpArgs false
set_option linter.unusedVariables false
namespace Go.Proofs.Ytghhanifakllpaa
open Ieee

/-- A float64 without its bits where it is no number. -/
abbrev F := Option Nat

def isNo (b : Nat) : Bool := (double.read b).isNaN
/-- What bits stand for. -/
def fl (b : Nat) : F := if isNo b then none else some b

def f2 (op : Nat → Nat → Option Nat) (x y : F) : F := x.bind fun a => y.bind fun b => op a b
def fadd : F → F → F := f2 double.add
def fsub : F → F → F := f2 double.sub
def fmul : F → F → F := f2 double.mul
def fdiv : F → F → F := f2 double.div
def fabs (x : F) : F := x.map (· % 9223372036854775808)
def fneg (x : F) : F := x.map (· ^^^ 9223372036854775808)
def fcmp (x y : F) : Option Ordering := x.bind fun a => y.bind fun b => double.order a b
def flt (x y : F) : Bool := fcmp x y == some .lt
def fle (x y : F) : Bool := fcmp x y == some .lt || fcmp x y == some .eq
def feq (x y : F) : Bool := fcmp x y == some .eq
def fbig : F := some 9218868437227405311
def ffin (x : F) : Bool := fle (fabs x) fbig

theorem read_write_no (d : Datum) (h : d.isNaN = false) : isNo (double.write d) = false := by
  have key : ∀ (neg : Bool) (r : Nat), r ≤ double.infRung → (double.read (double.word neg r)).isNaN = false := by
    intro neg r hr
    have h0 : double.infRung = 9218868437227405312 := by decide
    have h1 : double.signWeight = 9223372036854775808 := by decide
    have h2 : double.word neg r % double.signWeight = r := by
      rw [h0] at hr
      unfold Format.word
      rw [h1]
      cases neg <;> simp <;> omega
    unfold Format.read
    simp only [h2]
    split
    · rfl
    · split
      · rfl
      · split
        · rfl
        · rename_i a b c
          have : r < double.infRung ∨ r = double.infRung := by omega
          rcases this with h | h
          · exact absurd h b
          · exact absurd h c
  unfold isNo
  cases d with
  | nan s t => simp [Datum.isNaN] at h
  | infinity s => exact key s _ (Nat.le_refl _)
  | number s m e =>
    show (double.read (double.nearest s m e)).isNaN = false
    unfold Format.nearest
    split
    · exact key s 0 (Nat.zero_le _)
    · exact key s _ (Nat.min_le_right _ _)

theorem sum_ok {x y d : Datum} (h : x.sum y = some d) : d.isNaN = false := by
  unfold Datum.sum at h
  split at h
  all_goals first | (cases h; done) | skip
  · split at h
    · cases h; rfl
    · cases h
  · cases h; rfl
  · cases h; rfl
  · cases h; rfl
theorem product_ok {x y d : Datum} (h : x.product y = some d) : d.isNaN = false := by
  unfold Datum.product at h
  split at h
  all_goals first | (cases h; done) | skip
  · cases h; rfl
  all_goals first | (cases h; rfl) | (split at h <;> first | (cases h; done) | (cases h; rfl))
theorem quotient_ok {n : Nat} {x y d : Datum} (h : Datum.quotient n x y = some d) : d.isNaN = false := by
  unfold Datum.quotient at h
  split at h
  all_goals first | (cases h; done) | skip
  all_goals first | (cases h; rfl) | skip
  split at h
  · split at h
    · cases h
    · cases h; rfl
  · cases h; rfl

theorem fl_no {b : Nat} (h : isNo b = true) : fl b = none := by simp [fl, h]
theorem fl_yes {b : Nat} (h : isNo b = false) : fl b = some b := by simp [fl, h]

theorem sum_nan_left {x y : Datum} (h : x.isNaN = true) : x.sum y = none := by cases x <;> simp_all [Datum.isNaN, Datum.sum]
theorem sum_nan_right {x y : Datum} (h : y.isNaN = true) : x.sum y = none := by cases x <;> cases y <;> simp_all [Datum.isNaN, Datum.sum]
theorem product_nan_left {x y : Datum} (h : x.isNaN = true) : x.product y = none := by cases x <;> simp_all [Datum.isNaN, Datum.product]
theorem product_nan_right {x y : Datum} (h : y.isNaN = true) : x.product y = none := by cases x <;> cases y <;> simp_all [Datum.isNaN, Datum.product]
theorem quotient_nan_left {n : Nat} {x y : Datum} (h : x.isNaN = true) : Datum.quotient n x y = none := by cases x <;> simp_all [Datum.isNaN, Datum.quotient]
theorem quotient_nan_right {n : Nat} {x y : Datum} (h : y.isNaN = true) : Datum.quotient n x y = none := by cases x <;> cases y <;> simp_all [Datum.isNaN, Datum.quotient]
theorem order_nan_left {x y : Datum} (h : x.isNaN = true) : x.order y = none := by cases x <;> simp_all [Datum.isNaN, Datum.order]
theorem order_nan_right {x y : Datum} (h : y.isNaN = true) : x.order y = none := by cases x <;> cases y <;> simp_all [Datum.isNaN, Datum.order]
theorem opposite_nan {x : Datum} : x.opposite.isNaN = x.isNaN := by cases x <;> rfl

/-- The four operations, over bits, come to the four over what bits stand for. -/
def fop : BinOp → F → F → F
  | .add => fadd | .sub => fsub | .mul => fmul | .quo => fdiv | _ => fun _ _ => none

theorem fop_bits (op : BinOp) (x y : Nat) (hop : op = .add ∨ op = .sub ∨ op = .mul ∨ op = .quo) :
    fop op (fl x) (fl y) = floatBits op .f64 x y ∧ ∀ r, floatBits op .f64 x y = some r → fl r = some r := by
  have hw : ∀ d : Datum, d.isNaN = false → fl (double.write d) = some (double.write d) := fun d hd => fl_yes (read_write_no d hd)
  rcases hop with rfl | rfl | rfl | rfl
  · refine ⟨?_, fun r hr => ?_⟩
    · show fadd (fl x) (fl y) = double.add x y
      unfold fl
      cases hx : isNo x
      · cases hy : isNo y
        · simp [fadd, f2]
        · simp [fadd, f2, Format.add, sum_nan_right (show (double.read y).isNaN = true from hy)]
      · simp [fadd, f2, Format.add, sum_nan_left (show (double.read x).isNaN = true from hx)]
    · obtain ⟨d, hd, rfl⟩ := Option.map_eq_some_iff.1 (show (Datum.sum (double.read x) (double.read y)).map double.write = some r from hr)
      exact hw d (sum_ok hd)
  · refine ⟨?_, fun r hr => ?_⟩
    · show fsub (fl x) (fl y) = double.sub x y
      unfold fl
      cases hx : isNo x
      · cases hy : isNo y
        · simp [fsub, f2]
        · simp [fsub, f2, Format.sub, sum_nan_right (show (double.read y).opposite.isNaN = true from opposite_nan.trans hy)]
      · simp [fsub, f2, Format.sub, sum_nan_left (show (double.read x).isNaN = true from hx)]
    · obtain ⟨d, hd, rfl⟩ := Option.map_eq_some_iff.1 (show (Datum.sum (double.read x) (double.read y).opposite).map double.write = some r from hr)
      exact hw d (sum_ok hd)
  · refine ⟨?_, fun r hr => ?_⟩
    · show fmul (fl x) (fl y) = double.mul x y
      unfold fl
      cases hx : isNo x
      · cases hy : isNo y
        · simp [fmul, f2]
        · simp [fmul, f2, Format.mul, product_nan_right (show (double.read y).isNaN = true from hy)]
      · simp [fmul, f2, Format.mul, product_nan_left (show (double.read x).isNaN = true from hx)]
    · obtain ⟨d, hd, rfl⟩ := Option.map_eq_some_iff.1 (show (Datum.product (double.read x) (double.read y)).map double.write = some r from hr)
      exact hw d (product_ok hd)
  · refine ⟨?_, fun r hr => ?_⟩
    · show fdiv (fl x) (fl y) = double.div x y
      unfold fl
      cases hx : isNo x
      · cases hy : isNo y
        · simp [fdiv, f2]
        · simp [fdiv, f2, Format.div, quotient_nan_right (show (double.read y).isNaN = true from hy)]
      · simp [fdiv, f2, Format.div, quotient_nan_left (show (double.read x).isNaN = true from hx)]
    · obtain ⟨d, hd, rfl⟩ := Option.map_eq_some_iff.1 (show (Datum.quotient _ (double.read x) (double.read y)).map double.write = some r from hr)
      exact hw d (quotient_ok hd)

theorem fcmp_bits (x y : Nat) : fcmp (fl x) (fl y) = double.order x y := by
  unfold fl
  cases hx : isNo x
  · cases hy : isNo y
    · simp [fcmp]
    · simp [fcmp, Format.order, order_nan_right (show (double.read y).isNaN = true from hy)]
  · simp [fcmp, Format.order, order_nan_left (show (double.read x).isNaN = true from hx)]

theorem isNo_mod (b : Nat) : isNo (b % 9223372036854775808) = isNo b := by
  have hw : double.signWeight = 9223372036854775808 := by decide
  unfold isNo Format.read
  simp only [hw, Nat.mod_mod]
  split
  · rfl
  · split
    · rfl
    · split <;> rfl
theorem xor_mod (b : Nat) : (b ^^^ 9223372036854775808) % 9223372036854775808 = b % 9223372036854775808 := by
  have h : (9223372036854775808 : Nat) = 2 ^ 63 := by decide
  rw [h, Nat.xor_mod_two_pow]
  simp
theorem fneg_bits (b : Nat) : fl (b ^^^ 9223372036854775808) = fneg (fl b) := by
  have : isNo (b ^^^ 9223372036854775808) = isNo b := by rw [← isNo_mod (b ^^^ 9223372036854775808), xor_mod, isNo_mod]
  unfold fl; rw [this]; cases isNo b <;> rfl
end Go.Proofs.Ytghhanifakllpaa

/- Plain: what the steps of a linear system come to, over floats without bits. No program in sight. -/
namespace Go.Proofs.Ytghhanifakllpaa

def fgt (x y : F) : Bool := fcmp x y == some .gt
/-- a less f times b. -/
def fless (a f b : F) : F := fsub a (fmul f b)
def fzero : F := some 0

abbrev Mx := Nat → Nat → F

/-- The pivot's row in column c, of rows c to c + k. -/
def pickTo (M : Mx) (c : Nat) : Nat → Nat
  | 0 => c
  | k + 1 => if fgt (fabs (M (c + 1 + k) c)) (fabs (M (pickTo M c k) c)) then c + 1 + k else pickTo M c k
def pick (n : Nat) (M : Mx) (c : Nat) : Nat := pickTo M c (n - c - 1)
/-- c and p change places. -/
def sw (c p i : Nat) : Nat := if i = c then p else if i = p then c else i
def swapM {α : Type} (M : Nat → α) (c p : Nat) : Nat → α := fun i => M (sw c p i)
theorem sw_lt {n c p i : Nat} (hc : c < n) (hp : p < n) (hi : i < n) : sw c p i < n := by
  unfold sw
  split
  · omega
  · split <;> omega
theorem sw_inj {c p i j : Nat} (h : sw c p i = sw c p j) : i = j := by
  unfold sw at h
  split at h <;> split at h <;> (try split at h) <;> (try split at h) <;> omega
theorem sw_left (c p : Nat) : sw c p c = p := by unfold sw; simp
theorem sw_else {c p i : Nat} (h1 : i ≠ c) (h2 : i ≠ p) : sw c p i = i := by unfold sw; rw [if_neg h1, if_neg h2]
def elimM (n : Nat) (M : Mx) (c : Nat) : Mx := fun i j => if c < i ∧ i < n ∧ c < j ∧ j ≤ n then fless (M i j) (fdiv (M i c) (M c c)) (M c j) else M i j

structure Sys where
  M : Mx
  first : Nat → Nat
  piv : List F
  odd : List Bool

def bad (x : F) : Bool := feq x fzero || !ffin x
/-- The column's pivot is written down. -/
def noteS (n c : Nat) (s : Sys) : Sys := { s with piv := s.piv ++ [s.M (pick n s.M c) c], odd := s.odd ++ [pick n s.M c != c] }
def stepS (n c : Nat) (s : Sys) : Sys :=
  { noteS n c s with M := elimM n (swapM s.M c (pick n s.M c)) c, first := swapM s.first c (pick n s.M c) }
/-- The steps from column c on, k of them. -/
def goS (n : Nat) : Nat → Nat → Sys → Sys × Bool
  | 0, _, s => (s, true)
  | k + 1, c, s => if bad (s.M (pick n s.M c) c) then (noteS n c s, false) else goS n k (c + 1) (stepS n c s)
def startS (M : Mx) : Sys := { M := M, first := fun i => i, piv := [], odd := [] }
def stepsS (n : Nat) (M : Mx) : Sys × Bool := goS n n 0 (startS M)

theorem pickTo_ge (M : Mx) (c k : Nat) : c ≤ pickTo M c k ∧ pickTo M c k ≤ c + k := by
  induction k with
  | zero => exact ⟨Nat.le_refl _, Nat.le_refl _⟩
  | succ k ih =>
    unfold pickTo
    split <;> omega
theorem pick_lt {n c : Nat} (M : Mx) (h : c < n) : c ≤ pick n M c ∧ pick n M c < n := by
  have := pickTo_ge M c (n - c - 1)
  unfold pick
  omega

/-- The pivot's row of rows c to i - 1. -/
def pickI (M : Mx) (c i : Nat) : Nat := pickTo M c (i - (c + 1))
theorem pickI_start (M : Mx) (c : Nat) : pickI M c (c + 1) = c := by unfold pickI; rw [Nat.sub_self]; rfl
theorem pickI_succ (M : Mx) {c i : Nat} (h : c < i) : pickI M c (i + 1) = if fgt (fabs (M i c)) (fabs (M (pickI M c i) c)) then i else pickI M c i := by
  unfold pickI
  have e : i + 1 - (c + 1) = (i - (c + 1)) + 1 := by omega
  have e2 : c + 1 + (i - (c + 1)) = i := by omega
  rw [e, pickTo, e2]
theorem pickI_end (M : Mx) (n c : Nat) : pickI M c n = pick n M c := by unfold pickI pick; congr 1
theorem pickI_lt (M : Mx) {c i : Nat} (h : c < i) : c ≤ pickI M c i ∧ pickI M c i < i := by
  have := pickTo_ge M c (i - (c + 1))
  unfold pickI
  omega

/-- The elimination of column c, behind rows up to i - 1 and, of row i, columns up to j - 1. -/
def part (n : Nat) (S : Mx) (c i j : Nat) : Mx := fun i' j' => if c < i' ∧ i' < n ∧ c < j' ∧ j' ≤ n ∧ (i' < i ∨ (i' = i ∧ j' < j)) then fless (S i' j') (fdiv (S i' c) (S c c)) (S c j') else S i' j'
theorem part_start (n : Nat) (S : Mx) (c : Nat) : part n S c (c + 1) (c + 1) = S := by
  funext i' j'; unfold part; rw [if_neg (by omega)]
theorem part_row (n : Nat) (S : Mx) (c i : Nat) : part n S c i (n + 1) = part n S c (i + 1) (c + 1) := by
  funext i' j'; unfold part
  by_cases h : c < i' ∧ i' < n ∧ c < j' ∧ j' ≤ n ∧ (i' < i ∨ (i' = i ∧ j' < n + 1))
  · rw [if_pos h, if_pos (by omega)]
  · rw [if_neg h, if_neg (by omega)]
theorem part_end (n : Nat) (S : Mx) (c : Nat) : part n S c n (c + 1) = elimM n S c := by
  funext i' j'; unfold part elimM
  by_cases h : c < i' ∧ i' < n ∧ c < j' ∧ j' ≤ n
  · rw [if_pos (by omega), if_pos h]
  · rw [if_neg (by omega), if_neg h]
theorem part_at (n : Nat) (S : Mx) {c i j : Nat} : part n S c i j i j = S i j := by unfold part; rw [if_neg (by omega)]
theorem part_col (n : Nat) (S : Mx) {c i j : Nat} : part n S c i j i c = S i c := by unfold part; rw [if_neg (by omega)]
theorem part_top (n : Nat) (S : Mx) {c i j j' : Nat} : part n S c i j c j' = S c j' := by unfold part; rw [if_neg (by omega)]
theorem part_set (n : Nat) (S : Mx) {c i j : Nat} (h1 : c < i) (h2 : i < n) (h3 : c < j) (h4 : j ≤ n) :
    (fun i' j' => if i' = i ∧ j' = j then fless (S i j) (fdiv (S i c) (S c c)) (S c j) else part n S c i j i' j') = part n S c i (j + 1) := by
  funext i' j'
  by_cases h : i' = i ∧ j' = j
  · obtain ⟨rfl, rfl⟩ := h
    rw [if_pos ⟨rfl, rfl⟩]
    unfold part
    rw [if_pos (by omega)]
  · rw [if_neg h]
    unfold part
    by_cases h5 : c < i' ∧ i' < n ∧ c < j' ∧ j' ≤ n ∧ (i' < i ∨ (i' = i ∧ j' < j))
    · rw [if_pos h5, if_pos (by omega)]
    · rw [if_neg h5, if_neg (by omega)]
end Go.Proofs.Ytghhanifakllpaa

/- Plain: what the way back, the determinant and the distance of a linear system come to, over floats without bits. No program in sight. -/
namespace Go.Proofs.Ytghhanifakllpaa

/-- The right side of row i, behind k of the places beyond i. -/
def backT (n : Nat) (R : Mx) (x : Nat → F) (i : Nat) : Nat → F
  | 0 => R i n
  | k + 1 => fless (backT n R x i k) (R i (i + 1 + k)) (x (i + 1 + k))
/-- The unknowns, behind k rows from below. -/
def backX (n : Nat) (R : Mx) : Nat → Nat → F
  | 0 => fun _ => fzero
  | k + 1 => fun j => if j = n - 1 - k then fdiv (backT n R (backX n R k) (n - 1 - k) k) (R (n - 1 - k) (n - 1 - k)) else backX n R k j
/-- The unknowns, with m rows still to be done. -/
def backU (n : Nat) (R : Mx) (m : Nat) : Nat → F := backX n R (n - m)
theorem backU_start (n : Nat) (R : Mx) : backU n R n = fun _ => fzero := by unfold backU; rw [Nat.sub_self]; rfl
theorem backU_end (n : Nat) (R : Mx) : backU n R 0 = backX n R n := rfl
/-- Row i's right side, behind the places up to j - 1. -/
def backI (n : Nat) (R : Mx) (i j : Nat) : F := backT n R (backU n R (i + 1)) i (j - (i + 1))
theorem backI_start (n : Nat) (R : Mx) (i : Nat) : backI n R i (i + 1) = R i n := by unfold backI; rw [Nat.sub_self]; rfl
theorem backI_succ (n : Nat) (R : Mx) {i j : Nat} (h : i < j) : backI n R i (j + 1) = fless (backI n R i j) (R i j) (backU n R (i + 1) j) := by
  unfold backI
  have e : j + 1 - (i + 1) = (j - (i + 1)) + 1 := by omega
  have e2 : i + 1 + (j - (i + 1)) = j := by omega
  rw [e, backT, e2]
theorem backU_row (n : Nat) (R : Mx) {i : Nat} (h : i < n) :
    backU n R i = fun j => if j = i then fdiv (backI n R i n) (R i i) else backU n R (i + 1) j := by
  unfold backI backU
  have e : n - i = (n - (i + 1)) + 1 := by omega
  have e2 : n - 1 - (n - (i + 1)) = i := by omega
  rw [e, backX, e2]
/-- What Solve answers: the unknowns, or none. -/
def solvedF (n : Nat) (M : Mx) : Option (Nat → F) :=
  if (stepsS n M).2 then
    if ∀ i, i < n → ffin (backX n (stepsS n M).1.M n i) = true then some (backX n (stepsS n M).1.M n) else none
  else none

/-- The determinant: none behind a pivot of nothing. -/
def detGo : List F → List Bool → F → Option F
  | x :: xs, o :: os, d => if feq x fzero then none else detGo xs os (if o then fneg (fmul d x) else fmul d x)
  | _, _, d => some d
def fone : F := some 4607182418800017408
/-- What Det answers: a number, or none for 'too great'. -/
def detF (n : Nat) (M : Mx) : Option F :=
  match detGo (stepsS n M).1.piv (stepsS n M).1.odd fone with
  | none => some fzero
  | some d => if (stepsS n M).2 && ffin d then some d else none

/-- A row times x, its first k places. -/
def dotTo (M : Mx) (x : Nat → F) (i : Nat) : Nat → F
  | 0 => fzero
  | k + 1 => fadd (dotTo M x i k) (fmul (M i k) (x k))
/-- The greatest distance, of the first k rows. mx is how the greater of two is found. -/
def offTo (mx : F → F → F) (n : Nat) (M : Mx) (x b : Nat → F) : Nat → F
  | 0 => fzero
  | k + 1 => mx (offTo mx n M x b k) (fabs (fsub (dotTo M x k n) (b k)))
end Go.Proofs.Ytghhanifakllpaa

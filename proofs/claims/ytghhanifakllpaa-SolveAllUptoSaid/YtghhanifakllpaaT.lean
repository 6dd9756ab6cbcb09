/- Plain: what the way back, the determinant and the distance of a linear system come to, over floats without bits. No program in sight. -/
import Derived.Test.YtghhanifakllpaaS
namespace Go.Proofs.Ytghhanifakllpaa

/-- The right side of row i, behind k of the places beyond i. -/
def backT (n : Nat) (R : Mx) (x : Nat → F) (i : Nat) : Nat → F
  | 0 => R i n
  | k + 1 => fless (backT n R x i k) (R i (i + 1 + k)) (x (i + 1 + k))
/-- The unknowns, behind k rows from below. -/
def backX (n : Nat) (R : Mx) : Nat → Nat → F
  | 0 => fun _ => fzero
  | k + 1 => fun j => if j = n - 1 - k then fdiv (backT n R (backX n R k) (n - 1 - k) k) (R (n - 1 - k) (n - 1 - k)) else backX n R k j
/-- The unknowns, with m rows still to be done. -/
def backU (n : Nat) (R : Mx) (m : Nat) : Nat → F := backX n R (n - m)
theorem backU_start (n : Nat) (R : Mx) : backU n R n = fun _ => fzero := by unfold backU; rw [Nat.sub_self]; rfl
theorem backU_end (n : Nat) (R : Mx) : backU n R 0 = backX n R n := rfl
/-- Row i's right side, behind the places up to j - 1. -/
def backI (n : Nat) (R : Mx) (i j : Nat) : F := backT n R (backU n R (i + 1)) i (j - (i + 1))
theorem backI_start (n : Nat) (R : Mx) (i : Nat) : backI n R i (i + 1) = R i n := by unfold backI; rw [Nat.sub_self]; rfl
theorem backI_succ (n : Nat) (R : Mx) {i j : Nat} (h : i < j) : backI n R i (j + 1) = fless (backI n R i j) (R i j) (backU n R (i + 1) j) := by
  unfold backI
  have e : j + 1 - (i + 1) = (j - (i + 1)) + 1 := by omega
  have e2 : i + 1 + (j - (i + 1)) = j := by omega
  rw [e, backT, e2]
theorem backU_row (n : Nat) (R : Mx) {i : Nat} (h : i < n) :
    backU n R i = fun j => if j = i then fdiv (backI n R i n) (R i i) else backU n R (i + 1) j := by
  unfold backI backU
  have e : n - i = (n - (i + 1)) + 1 := by omega
  have e2 : n - 1 - (n - (i + 1)) = i := by omega
  rw [e, backX, e2]
/-- What Solve answers: the unknowns, or none. -/
def solvedF (n : Nat) (M : Mx) : Option (Nat → F) :=
  if (stepsS n M).2 then
    if ∀ i, i < n → ffin (backX n (stepsS n M).1.M n i) = true then some (backX n (stepsS n M).1.M n) else none
  else none

/-- The determinant: none behind a pivot of nothing. -/
def detGo : List F → List Bool → F → Option F
  | x :: xs, o :: os, d => if feq x fzero then none else detGo xs os (if o then fneg (fmul d x) else fmul d x)
  | _, _, d => some d
def fone : F := some 4607182418800017408
/-- What Det answers: a number, or none for 'too great'. -/
def detF (n : Nat) (M : Mx) : Option F :=
  match detGo (stepsS n M).1.piv (stepsS n M).1.odd fone with
  | none => some fzero
  | some d => if (stepsS n M).2 && ffin d then some d else none

/-- A row times x, its first k places. -/
def dotTo (M : Mx) (x : Nat → F) (i : Nat) : Nat → F
  | 0 => fzero
  | k + 1 => fadd (dotTo M x i k) (fmul (M i k) (x k))
/-- The greatest distance, of the first k rows. mx is how the greater of two is found. -/
def offTo (mx : F → F → F) (n : Nat) (M : Mx) (x b : Nat → F) : Nat → F
  | 0 => fzero
  | k + 1 => mx (offTo mx n M x b k) (fabs (fsub (dotTo M x k n) (b k)))
end Go.Proofs.Ytghhanifakllpaa

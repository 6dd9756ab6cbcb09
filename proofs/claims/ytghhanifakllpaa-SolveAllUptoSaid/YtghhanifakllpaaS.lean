/- Plain: what the steps of a linear system come to, over floats without bits. No program in sight. -/
import Derived.Test.YtghhanifakllpaaFl
namespace Go.Proofs.Ytghhanifakllpaa

def fgt (x y : F) : Bool := fcmp x y == some .gt
/-- a less f times b. -/
def fless (a f b : F) : F := fsub a (fmul f b)
def fzero : F := some 0

abbrev Mx := Nat → Nat → F

/-- The pivot's row in column c, of rows c to c + k. -/
def pickTo (M : Mx) (c : Nat) : Nat → Nat
  | 0 => c
  | k + 1 => if fgt (fabs (M (c + 1 + k) c)) (fabs (M (pickTo M c k) c)) then c + 1 + k else pickTo M c k
def pick (n : Nat) (M : Mx) (c : Nat) : Nat := pickTo M c (n - c - 1)
/-- c and p change places. -/
def sw (c p i : Nat) : Nat := if i = c then p else if i = p then c else i
def swapM {α : Type} (M : Nat → α) (c p : Nat) : Nat → α := fun i => M (sw c p i)
theorem sw_lt {n c p i : Nat} (hc : c < n) (hp : p < n) (hi : i < n) : sw c p i < n := by
  unfold sw
  split
  · omega
  · split <;> omega
theorem sw_inj {c p i j : Nat} (h : sw c p i = sw c p j) : i = j := by
  unfold sw at h
  split at h <;> split at h <;> (try split at h) <;> (try split at h) <;> omega
theorem sw_left (c p : Nat) : sw c p c = p := by unfold sw; simp
theorem sw_right (c p : Nat) : sw c p p = c := by unfold sw; split <;> simp_all
theorem sw_else {c p i : Nat} (h1 : i ≠ c) (h2 : i ≠ p) : sw c p i = i := by unfold sw; rw [if_neg h1, if_neg h2]
def elimM (n : Nat) (M : Mx) (c : Nat) : Mx := fun i j => if c < i ∧ i < n ∧ c < j ∧ j ≤ n then fless (M i j) (fdiv (M i c) (M c c)) (M c j) else M i j

structure Sys where
  M : Mx
  first : Nat → Nat
  piv : List F
  odd : List Bool

def bad (x : F) : Bool := feq x fzero || !ffin x
/-- The column's pivot is written down. -/
def noteS (n c : Nat) (s : Sys) : Sys := { s with piv := s.piv ++ [s.M (pick n s.M c) c], odd := s.odd ++ [pick n s.M c != c] }
def stepS (n c : Nat) (s : Sys) : Sys :=
  { noteS n c s with M := elimM n (swapM s.M c (pick n s.M c)) c, first := swapM s.first c (pick n s.M c) }
/-- The steps from column c on, k of them. -/
def goS (n : Nat) : Nat → Nat → Sys → Sys × Bool
  | 0, _, s => (s, true)
  | k + 1, c, s => if bad (s.M (pick n s.M c) c) then (noteS n c s, false) else goS n k (c + 1) (stepS n c s)
def startS (M : Mx) : Sys := { M := M, first := fun i => i, piv := [], odd := [] }
def stepsS (n : Nat) (M : Mx) : Sys × Bool := goS n n 0 (startS M)

theorem pickTo_ge (M : Mx) (c k : Nat) : c ≤ pickTo M c k ∧ pickTo M c k ≤ c + k := by
  induction k with
  | zero => exact ⟨Nat.le_refl _, Nat.le_refl _⟩
  | succ k ih =>
    unfold pickTo
    split <;> omega
theorem pick_lt {n c : Nat} (M : Mx) (h : c < n) : c ≤ pick n M c ∧ pick n M c < n := by
  have := pickTo_ge M c (n - c - 1)
  unfold pick
  omega

/-- The pivot's row of rows c to i - 1. -/
def pickI (M : Mx) (c i : Nat) : Nat := pickTo M c (i - (c + 1))
theorem pickI_start (M : Mx) (c : Nat) : pickI M c (c + 1) = c := by unfold pickI; rw [Nat.sub_self]; rfl
theorem pickI_succ (M : Mx) {c i : Nat} (h : c < i) : pickI M c (i + 1) = if fgt (fabs (M i c)) (fabs (M (pickI M c i) c)) then i else pickI M c i := by
  unfold pickI
  have e : i + 1 - (c + 1) = (i - (c + 1)) + 1 := by omega
  have e2 : c + 1 + (i - (c + 1)) = i := by omega
  rw [e, pickTo, e2]
theorem pickI_end (M : Mx) (n c : Nat) : pickI M c n = pick n M c := by unfold pickI pick; congr 1
theorem pickI_lt (M : Mx) {c i : Nat} (h : c < i) : c ≤ pickI M c i ∧ pickI M c i < i := by
  have := pickTo_ge M c (i - (c + 1))
  unfold pickI
  omega

/-- The elimination of column c, behind rows up to i - 1 and, of row i, columns up to j - 1. -/
def part (n : Nat) (S : Mx) (c i j : Nat) : Mx := fun i' j' => if c < i' ∧ i' < n ∧ c < j' ∧ j' ≤ n ∧ (i' < i ∨ (i' = i ∧ j' < j)) then fless (S i' j') (fdiv (S i' c) (S c c)) (S c j') else S i' j'
theorem part_start (n : Nat) (S : Mx) (c : Nat) : part n S c (c + 1) (c + 1) = S := by
  funext i' j'; unfold part; rw [if_neg (by omega)]
theorem part_row (n : Nat) (S : Mx) (c i : Nat) : part n S c i (n + 1) = part n S c (i + 1) (c + 1) := by
  funext i' j'; unfold part
  by_cases h : c < i' ∧ i' < n ∧ c < j' ∧ j' ≤ n ∧ (i' < i ∨ (i' = i ∧ j' < n + 1))
  · rw [if_pos h, if_pos (by omega)]
  · rw [if_neg h, if_neg (by omega)]
theorem part_end (n : Nat) (S : Mx) (c : Nat) : part n S c n (c + 1) = elimM n S c := by
  funext i' j'; unfold part elimM
  by_cases h : c < i' ∧ i' < n ∧ c < j' ∧ j' ≤ n
  · rw [if_pos (by omega), if_pos h]
  · rw [if_neg (by omega), if_neg h]
theorem part_at (n : Nat) (S : Mx) {c i j : Nat} : part n S c i j i j = S i j := by unfold part; rw [if_neg (by omega)]
theorem part_col (n : Nat) (S : Mx) {c i j : Nat} : part n S c i j i c = S i c := by unfold part; rw [if_neg (by omega)]
theorem part_top (n : Nat) (S : Mx) {c i j j' : Nat} : part n S c i j c j' = S c j' := by unfold part; rw [if_neg (by omega)]
theorem part_set (n : Nat) (S : Mx) {c i j : Nat} (h1 : c < i) (h2 : i < n) (h3 : c < j) (h4 : j ≤ n) :
    (fun i' j' => if i' = i ∧ j' = j then fless (S i j) (fdiv (S i c) (S c c)) (S c j) else part n S c i j i' j') = part n S c i (j + 1) := by
  funext i' j'
  by_cases h : i' = i ∧ j' = j
  · obtain ⟨rfl, rfl⟩ := h
    rw [if_pos ⟨rfl, rfl⟩]
    unfold part
    rw [if_pos (by omega)]
  · rw [if_neg h]
    unfold part
    by_cases h5 : c < i' ∧ i' < n ∧ c < j' ∧ j' ≤ n ∧ (i' < i ∨ (i' = i ∧ j' < j))
    · rw [if_pos h5, if_pos (by omega)]
    · rw [if_neg h5, if_neg (by omega)]
end Go.Proofs.Ytghhanifakllpaa

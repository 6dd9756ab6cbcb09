/- Plain: polynomials of whole complex numbers as functions from a place to a number: values of sums, products, shifts; how great they are. No program in sight. -/
import Derived.Test.YtonmjdhdkkmjlaaGa
set_option linter.unusedVariables false
set_option linter.unusedSimpArgs false
namespace Go.Proofs.Ytonmjdhdkkmjlaa

def g0 : G := (0, 0)
def g1 : G := (1, 0)
theorem gext {x y : G} (h1 : x.1 = y.1) (h2 : x.2 = y.2) : x = y := Prod.ext h1 h2
section
variable (x y z w : G)
theorem gadd_comm : gadd x y = gadd y x := gext (Int.add_comm _ _) (Int.add_comm _ _)
theorem gadd_assoc : gadd (gadd x y) z = gadd x (gadd y z) := gext (Int.add_assoc _ _ _) (Int.add_assoc _ _ _)
theorem gadd_zero : gadd x g0 = x := gext (Int.add_zero _) (Int.add_zero _)
theorem zero_gadd : gadd g0 x = x := gext (Int.zero_add _) (Int.zero_add _)
theorem gmul_comm : gmul x y = gmul y x := gext (by unfold gmul; grind) (by unfold gmul; grind)
theorem gmul_assoc : gmul (gmul x y) z = gmul x (gmul y z) := gext (by unfold gmul; grind) (by unfold gmul; grind)
theorem gmul_add : gmul x (gadd y z) = gadd (gmul x y) (gmul x z) := gext (by unfold gmul gadd; grind) (by unfold gmul gadd; grind)
theorem add_gmul : gmul (gadd x y) z = gadd (gmul x z) (gmul y z) := gext (by unfold gmul gadd; grind) (by unfold gmul gadd; grind)
theorem gmul_sub : gmul x (gsub y z) = gsub (gmul x y) (gmul x z) := gext (by unfold gmul gsub; grind) (by unfold gmul gsub; grind)
theorem sub_gmul : gmul (gsub x y) z = gsub (gmul x z) (gmul y z) := gext (by unfold gmul gsub; grind) (by unfold gmul gsub; grind)
theorem gmul_zero : gmul x g0 = g0 := gext (by unfold gmul g0; simp) (by unfold gmul g0; simp)
theorem gmul_one : gmul x g1 = x := gext (by unfold gmul g1; simp) (by unfold gmul g1; simp)
theorem one_gmul : gmul g1 x = x := gext (by unfold gmul g1; simp) (by unfold gmul g1; simp)
theorem zero_gmul : gmul g0 x = g0 := gext (by unfold gmul g0; simp) (by unfold gmul g0; simp)
theorem gsub_self : gsub x x = g0 := gext (Int.sub_self _) (Int.sub_self _)
theorem gsub_zero : gsub x g0 = x := gext (Int.sub_zero _) (Int.sub_zero _)
theorem zero_gsub : gsub g0 x = gneg x := gext (Int.zero_sub _) (Int.zero_sub _)
theorem gsub_add : gadd (gsub x y) y = x := gext (Int.sub_add_cancel _ _) (Int.sub_add_cancel _ _)
theorem gadd_sub : gsub (gadd x y) y = x := gext (Int.add_sub_cancel _ _) (Int.add_sub_cancel _ _)
theorem gadd_swap : gadd (gadd x y) (gadd z w) = gadd (gadd x z) (gadd y w) := gext (by show _ + _ + (_ + _) = _ + _ + (_ + _); omega) (by show _ + _ + (_ + _) = _ + _ + (_ + _); omega)
theorem gsub_swap : gsub (gadd x y) (gadd z w) = gadd (gsub x z) (gsub y w) := gext (by show _ + _ - (_ + _) = _ - _ + (_ - _); omega) (by show _ + _ - (_ + _) = _ - _ + (_ - _); omega)
theorem gneg_mul : gneg (gmul x y) = gmul (gneg x) y := gext (by unfold gneg gmul; grind) (by unfold gneg gmul; grind)
end
abbrev PG := Nat → G
/-- The value of n coefficients from the one at i on, by Horner's steps. -/
def tl (c : PG) (z : G) : Nat → Nat → G
  | 0, _ => g0
  | n + 1, i => gadd (gmul (tl c z n (i + 1)) z) (c i)
/-- The value of n coefficients. -/
def hs (n : Nat) (c : PG) (z : G) : G := tl c z n 0
theorem tl_congr {c d : PG} {z : G} : ∀ {n i : Nat}, (∀ k, k < n → c (i + k) = d (i + k)) → tl c z n i = tl d z n i
  | 0, _, _ => rfl
  | n + 1, i, h => by
    unfold tl
    rw [tl_congr (d := d) (n := n) (i := i + 1) fun k hk => by rw [show i + 1 + k = i + (k + 1) by omega]; exact h (k + 1) (by omega)]
    rw [show c i = d i from h 0 (by omega)]
theorem tl_shift (c : PG) (z : G) (j : Nat) : ∀ n i, tl (fun k => c (j + k)) z n i = tl c z n (j + i)
  | 0, _ => rfl
  | n + 1, i => by unfold tl; rw [tl_shift c z j n (i + 1)]; rfl
theorem tl_add (c d : PG) (z : G) : ∀ n i, tl (fun k => gadd (c k) (d k)) z n i = gadd (tl c z n i) (tl d z n i)
  | 0, _ => rfl
  | n + 1, i => by unfold tl; rw [tl_add c d z n (i + 1), add_gmul, gadd_swap]
theorem tl_sub (c d : PG) (z : G) : ∀ n i, tl (fun k => gsub (c k) (d k)) z n i = gsub (tl c z n i) (tl d z n i)
  | 0, _ => rfl
  | n + 1, i => by unfold tl; rw [tl_sub c d z n (i + 1), sub_gmul, gsub_swap]
theorem tl_scale (a : G) (c : PG) (z : G) : ∀ n i, tl (fun k => gmul a (c k)) z n i = gmul a (tl c z n i)
  | 0, _ => (gmul_zero a).symm
  | n + 1, i => by unfold tl; rw [tl_scale a c z n (i + 1), gmul_add, gmul_assoc]
theorem tl_zero {c : PG} {z : G} : ∀ {n i : Nat}, (∀ k, k < n → c (i + k) = g0) → tl c z n i = g0
  | 0, _, _ => rfl
  | n + 1, i, h => by
    unfold tl
    rw [tl_zero (n := n) (i := i + 1) fun k hk => by rw [show i + 1 + k = i + (k + 1) by omega]; exact h (k + 1) (by omega)]
    rw [show c i = g0 from h 0 (by omega), zero_gmul, gadd_zero]
/-- Noughts behind count nothing. -/
theorem tl_more {c : PG} {z : G} (m : Nat) : ∀ {n i : Nat}, (∀ k, n ≤ k → c (i + k) = g0) → tl c z (n + m) i = tl c z n i
  | 0, i, h => by rw [Nat.zero_add]; exact tl_zero fun k _ => h k (by omega)
  | n + 1, i, h => by
    rw [show n + 1 + m = (n + m) + 1 by omega]
    unfold tl
    rw [tl_more m (n := n) (i := i + 1) fun k hk => by rw [show i + 1 + k = i + (k + 1) by omega]; exact h (k + 1) (by omega)]
theorem hs_more {c : PG} {z : G} {n m : Nat} (hnm : n ≤ m) (h : ∀ k, n ≤ k → c k = g0) : hs m c z = hs n c z := by
  have := tl_more (c := c) (z := z) (m - n) (n := n) (i := 0) (fun k hk => by rw [Nat.zero_add]; exact h k hk)
  rw [show n + (m - n) = m by omega] at this
  exact this
theorem hs_congr {c d : PG} {z : G} {n : Nat} (h : ∀ k, k < n → c k = d k) : hs n c z = hs n d z := tl_congr fun k hk => by rw [Nat.zero_add]; exact h k hk
def gpow (z : G) : Nat → G
  | 0 => g1
  | n + 1 => gmul (gpow z n) z
/-- Coefficients moved up by i places. -/
def up (i : Nat) (c : PG) : PG := fun k => if i ≤ k then c (k - i) else g0
theorem hs_up (c : PG) (z : G) (n : Nat) : ∀ i, hs (i + n) (up i c) z = gmul (hs n c z) (gpow z i)
  | 0 => by
    rw [Nat.zero_add]
    unfold gpow
    rw [gmul_one]
    exact hs_congr fun k _ => by unfold up; simp
  | i + 1 => by
    rw [show i + 1 + n = (i + n) + 1 by omega]
    show gadd (gmul (tl (up (i + 1) c) z (i + n) 1) z) (up (i + 1) c 0) = _
    have e : up (i + 1) c 0 = g0 := by unfold up; rw [if_neg (by omega)]
    have e2 : tl (up (i + 1) c) z (i + n) 1 = hs (i + n) (up i c) z := by
      rw [← tl_shift (up (i + 1) c) z 1 (i + n) 0]
      exact tl_congr fun k _ => by
        unfold up
        rw [Nat.zero_add]
        by_cases h : i ≤ k
        · rw [if_pos (by omega), if_pos h]; congr 1; omega
        · rw [if_neg (by omega), if_neg h]
    rw [e, e2, hs_up c z n i, gadd_zero, gmul_assoc]
    rfl

/-! ### Products -/
/-- The rows below i of a product. -/
def cv (a b : PG) : Nat → PG
  | 0 => fun _ => g0
  | i + 1 => fun k => gadd (cv a b i k) (gmul (a i) (up i b k))
/-- Nothing from n on. -/
def Ends (c : PG) (n : Nat) : Prop := ∀ k, n ≤ k → c k = g0
theorem cv_ends {a b : PG} {lb : Nat} (hb : Ends b lb) : ∀ i, Ends (cv a b i) (i + lb - 1)
  | 0, _, _ => rfl
  | i + 1, k, hk => by
    show gadd (cv a b i k) (gmul (a i) (up i b k)) = g0
    have e : up i b k = g0 := by
      unfold up
      split
      · exact hb _ (by omega)
      · rfl
    rw [cv_ends hb i k (by omega), e, gmul_zero, gadd_zero]
theorem hs_last (c : PG) (z : G) : ∀ n i, tl c z (n + 1) i = gadd (tl c z n i) (gmul (c (i + n)) (gpow z n))
  | 0, i => by
    show gadd (gmul g0 z) (c i) = gadd g0 (gmul (c (i + 0)) g1)
    rw [zero_gmul, gmul_one]; rfl
  | n + 1, i => by
    rw [tl, hs_last c z n (i + 1), add_gmul]
    show _ = gadd (gadd (gmul (tl c z n (i + 1)) z) (c i)) (gmul (c (i + (n + 1))) (gmul (gpow z n) z))
    rw [show i + 1 + n = i + (n + 1) by omega, gmul_assoc, gadd_assoc, gadd_comm _ (c i), ← gadd_assoc]
theorem hs_cv {a b : PG} {lb : Nat} (hb : Ends b lb) (z : G) (n : Nat) : ∀ i, i + lb ≤ n + 1 → hs n (cv a b i) z = gmul (hs i a z) (hs lb b z)
  | 0, _ => by
    show _ = gmul g0 _
    rw [zero_gmul]
    exact tl_zero fun _ _ => rfl
  | i + 1, h => by
    have e1 : hs n (cv a b (i + 1)) z = gadd (hs n (cv a b i) z) (gmul (a i) (hs n (up i b) z)) := by
      show tl (fun k => gadd (cv a b i k) (gmul (a i) (up i b k))) z n 0 = _
      rw [tl_add, tl_scale]
      rfl
    have e2 : hs n (up i b) z = gmul (hs lb b z) (gpow z i) := by
      rw [← hs_up b z lb i]
      exact hs_more (by omega) fun k hk => by
        unfold up
        split
        · exact hb _ (by omega)
        · rfl
    have e3 : hs (i + 1) a z = gadd (hs i a z) (gmul (a i) (gpow z i)) := by
      have := hs_last a z i 0
      rw [Nat.zero_add] at this
      exact this
    rw [e1, e2, e3, hs_cv hb z n i (by omega), add_gmul, gmul_assoc (a i), gmul_comm (gpow z i)]
end Go.Proofs.Ytonmjdhdkkmjlaa

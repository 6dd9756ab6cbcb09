/- Plain: polynomials of whole complex numbers as functions from a place to a number: values of sums, products, shifts; how great they are. No program in sight. -/
import Derived.Test.YtonmjdhdkkmjlaaWh
set_option linter.unusedVariables false
set_option linter.unusedSimpArgs false
namespace Go.Proofs.Ytonmjdhdkkmjlaa

def g0 : G := (0, 0)
def g1 : G := (1, 0)
theorem gext {x y : G} (h1 : x.1 = y.1) (h2 : x.2 = y.2) : x = y := Prod.ext h1 h2
section
variable (x y z w : G)
theorem gadd_comm : gadd x y = gadd y x := gext (Int.add_comm _ _) (Int.add_comm _ _)
theorem gadd_assoc : gadd (gadd x y) z = gadd x (gadd y z) := gext (Int.add_assoc _ _ _) (Int.add_assoc _ _ _)
theorem gadd_zero : gadd x g0 = x := gext (Int.add_zero _) (Int.add_zero _)
theorem zero_gadd : gadd g0 x = x := gext (Int.zero_add _) (Int.zero_add _)
theorem gmul_comm : gmul x y = gmul y x := gext (by unfold gmul; grind) (by unfold gmul; grind)
theorem gmul_assoc : gmul (gmul x y) z = gmul x (gmul y z) := gext (by unfold gmul; grind) (by unfold gmul; grind)
theorem gmul_add : gmul x (gadd y z) = gadd (gmul x y) (gmul x z) := gext (by unfold gmul gadd; grind) (by unfold gmul gadd; grind)
theorem add_gmul : gmul (gadd x y) z = gadd (gmul x z) (gmul y z) := gext (by unfold gmul gadd; grind) (by unfold gmul gadd; grind)
theorem gmul_sub : gmul x (gsub y z) = gsub (gmul x y) (gmul x z) := gext (by unfold gmul gsub; grind) (by unfold gmul gsub; grind)
theorem sub_gmul : gmul (gsub x y) z = gsub (gmul x z) (gmul y z) := gext (by unfold gmul gsub; grind) (by unfold gmul gsub; grind)
theorem gmul_zero : gmul x g0 = g0 := gext (by unfold gmul g0; simp) (by unfold gmul g0; simp)
theorem gmul_one : gmul x g1 = x := gext (by unfold gmul g1; simp) (by unfold gmul g1; simp)
theorem one_gmul : gmul g1 x = x := gext (by unfold gmul g1; simp) (by unfold gmul g1; simp)
theorem zero_gmul : gmul g0 x = g0 := gext (by unfold gmul g0; simp) (by unfold gmul g0; simp)
theorem gsub_self : gsub x x = g0 := gext (Int.sub_self _) (Int.sub_self _)
theorem gsub_zero : gsub x g0 = x := gext (Int.sub_zero _) (Int.sub_zero _)
theorem zero_gsub : gsub g0 x = gneg x := gext (Int.zero_sub _) (Int.zero_sub _)
theorem gsub_add : gadd (gsub x y) y = x := gext (Int.sub_add_cancel _ _) (Int.sub_add_cancel _ _)
theorem gadd_sub : gsub (gadd x y) y = x := gext (Int.add_sub_cancel _ _) (Int.add_sub_cancel _ _)
theorem gadd_swap : gadd (gadd x y) (gadd z w) = gadd (gadd x z) (gadd y w) := gext (by show _ + _ + (_ + _) = _ + _ + (_ + _); omega) (by show _ + _ + (_ + _) = _ + _ + (_ + _); omega)
theorem gsub_swap : gsub (gadd x y) (gadd z w) = gadd (gsub x z) (gsub y w) := gext (by show _ + _ - (_ + _) = _ - _ + (_ - _); omega) (by show _ + _ - (_ + _) = _ - _ + (_ - _); omega)
theorem gneg_mul : gneg (gmul x y) = gmul (gneg x) y := gext (by unfold gneg gmul; grind) (by unfold gneg gmul; grind)
end
abbrev PG := Nat → G
/-- The value of n coefficients from the one at i on, by Horner's steps. -/
def tl (c : PG) (z : G) : Nat → Nat → G
  | 0, _ => g0
  | n + 1, i => gadd (gmul (tl c z n (i + 1)) z) (c i)
/-- The value of n coefficients. -/
def hs (n : Nat) (c : PG) (z : G) : G := tl c z n 0
theorem tl_congr {c d : PG} {z : G} : ∀ {n i : Nat}, (∀ k, k < n → c (i + k) = d (i + k)) → tl c z n i = tl d z n i
  | 0, _, _ => rfl
  | n + 1, i, h => by
    unfold tl
    rw [tl_congr (d := d) (n := n) (i := i + 1) fun k hk => by rw [show i + 1 + k = i + (k + 1) by omega]; exact h (k + 1) (by omega)]
    rw [show c i = d i from h 0 (by omega)]
theorem tl_shift (c : PG) (z : G) (j : Nat) : ∀ n i, tl (fun k => c (j + k)) z n i = tl c z n (j + i)
  | 0, _ => rfl
  | n + 1, i => by unfold tl; rw [tl_shift c z j n (i + 1)]; rfl
theorem tl_add (c d : PG) (z : G) : ∀ n i, tl (fun k => gadd (c k) (d k)) z n i = gadd (tl c z n i) (tl d z n i)
  | 0, _ => rfl
  | n + 1, i => by unfold tl; rw [tl_add c d z n (i + 1), add_gmul, gadd_swap]
theorem tl_sub (c d : PG) (z : G) : ∀ n i, tl (fun k => gsub (c k) (d k)) z n i = gsub (tl c z n i) (tl d z n i)
  | 0, _ => rfl
  | n + 1, i => by unfold tl; rw [tl_sub c d z n (i + 1), sub_gmul, gsub_swap]
theorem tl_scale (a : G) (c : PG) (z : G) : ∀ n i, tl (fun k => gmul a (c k)) z n i = gmul a (tl c z n i)
  | 0, _ => (gmul_zero a).symm
  | n + 1, i => by unfold tl; rw [tl_scale a c z n (i + 1), gmul_add, gmul_assoc]
theorem tl_zero {c : PG} {z : G} : ∀ {n i : Nat}, (∀ k, k < n → c (i + k) = g0) → tl c z n i = g0
  | 0, _, _ => rfl
  | n + 1, i, h => by
    unfold tl
    rw [tl_zero (n := n) (i := i + 1) fun k hk => by rw [show i + 1 + k = i + (k + 1) by omega]; exact h (k + 1) (by omega)]
    rw [show c i = g0 from h 0 (by omega), zero_gmul, gadd_zero]
/-- Noughts behind count nothing. -/
theorem tl_more {c : PG} {z : G} (m : Nat) : ∀ {n i : Nat}, (∀ k, n ≤ k → c (i + k) = g0) → tl c z (n + m) i = tl c z n i
  | 0, i, h => by rw [Nat.zero_add]; exact tl_zero fun k _ => h k (by omega)
  | n + 1, i, h => by
    rw [show n + 1 + m = (n + m) + 1 by omega]
    unfold tl
    rw [tl_more m (n := n) (i := i + 1) fun k hk => by rw [show i + 1 + k = i + (k + 1) by omega]; exact h (k + 1) (by omega)]
theorem hs_more {c : PG} {z : G} {n m : Nat} (hnm : n ≤ m) (h : ∀ k, n ≤ k → c k = g0) : hs m c z = hs n c z := by
  have := tl_more (c := c) (z := z) (m - n) (n := n) (i := 0) (fun k hk => by rw [Nat.zero_add]; exact h k hk)
  rw [show n + (m - n) = m by omega] at this
  exact this
theorem hs_congr {c d : PG} {z : G} {n : Nat} (h : ∀ k, k < n → c k = d k) : hs n c z = hs n d z := tl_congr fun k hk => by rw [Nat.zero_add]; exact h k hk
def gpow (z : G) : Nat → G
  | 0 => g1
  | n + 1 => gmul (gpow z n) z
/-- Coefficients moved up by i places. -/
def up (i : Nat) (c : PG) : PG := fun k => if i ≤ k then c (k - i) else g0
theorem hs_up (c : PG) (z : G) (n : Nat) : ∀ i, hs (i + n) (up i c) z = gmul (hs n c z) (gpow z i)
  | 0 => by
    rw [Nat.zero_add]
    unfold gpow
    rw [gmul_one]
    exact hs_congr fun k _ => by unfold up; simp
  | i + 1 => by
    rw [show i + 1 + n = (i + n) + 1 by omega]
    show gadd (gmul (tl (up (i + 1) c) z (i + n) 1) z) (up (i + 1) c 0) = _
    have e : up (i + 1) c 0 = g0 := by unfold up; rw [if_neg (by omega)]
    have e2 : tl (up (i + 1) c) z (i + n) 1 = hs (i + n) (up i c) z := by
      rw [← tl_shift (up (i + 1) c) z 1 (i + n) 0]
      exact tl_congr fun k _ => by
        unfold up
        rw [Nat.zero_add]
        by_cases h : i ≤ k
        · rw [if_pos (by omega), if_pos h]; congr 1; omega
        · rw [if_neg (by omega), if_neg h]
    rw [e, e2, hs_up c z n i, gadd_zero, gmul_assoc]
    rfl

/-! ### Products -/
/-- The rows below i of a product. -/
def cv (a b : PG) : Nat → PG
  | 0 => fun _ => g0
  | i + 1 => fun k => gadd (cv a b i k) (gmul (a i) (up i b k))
/-- Nothing from n on. -/
def Ends (c : PG) (n : Nat) : Prop := ∀ k, n ≤ k → c k = g0
theorem cv_ends {a b : PG} {lb : Nat} (hb : Ends b lb) : ∀ i, Ends (cv a b i) (i + lb - 1)
  | 0, _, _ => rfl
  | i + 1, k, hk => by
    show gadd (cv a b i k) (gmul (a i) (up i b k)) = g0
    have e : up i b k = g0 := by
      unfold up
      split
      · exact hb _ (by omega)
      · rfl
    rw [cv_ends hb i k (by omega), e, gmul_zero, gadd_zero]
theorem hs_last (c : PG) (z : G) : ∀ n i, tl c z (n + 1) i = gadd (tl c z n i) (gmul (c (i + n)) (gpow z n))
  | 0, i => by
    show gadd (gmul g0 z) (c i) = gadd g0 (gmul (c (i + 0)) g1)
    rw [zero_gmul, gmul_one]; rfl
  | n + 1, i => by
    rw [tl, hs_last c z n (i + 1), add_gmul]
    show _ = gadd (gadd (gmul (tl c z n (i + 1)) z) (c i)) (gmul (c (i + (n + 1))) (gmul (gpow z n) z))
    rw [show i + 1 + n = i + (n + 1) by omega, gmul_assoc, gadd_assoc, gadd_comm _ (c i), ← gadd_assoc]
theorem hs_cv {a b : PG} {lb : Nat} (hb : Ends b lb) (z : G) (n : Nat) : ∀ i, i + lb ≤ n + 1 → hs n (cv a b i) z = gmul (hs i a z) (hs lb b z)
  | 0, _ => by
    show _ = gmul g0 _
    rw [zero_gmul]
    exact tl_zero fun _ _ => rfl
  | i + 1, h => by
    have e1 : hs n (cv a b (i + 1)) z = gadd (hs n (cv a b i) z) (gmul (a i) (hs n (up i b) z)) := by
      show tl (fun k => gadd (cv a b i k) (gmul (a i) (up i b k))) z n 0 = _
      rw [tl_add, tl_scale]
      rfl
    have e2 : hs n (up i b) z = gmul (hs lb b z) (gpow z i) := by
      rw [← hs_up b z lb i]
      exact hs_more (by omega) fun k hk => by
        unfold up
        split
        · exact hb _ (by omega)
        · rfl
    have e3 : hs (i + 1) a z = gadd (hs i a z) (gmul (a i) (gpow z i)) := by
      have := hs_last a z i 0
      rw [Nat.zero_add] at this
      exact this
    rw [e1, e2, e3, hs_cv hb z n i (by omega), add_gmul, gmul_assoc (a i), gmul_comm (gpow z i)]
end Go.Proofs.Ytonmjdhdkkmjlaa

/- Plain: polynomials of whole complex numbers: shifted ones, those of zeros, how great all is. No program in sight. -/
set_option linter.unusedVariables false
set_option linter.unusedSimpArgs false
namespace Go.Proofs.Ytonmjdhdkkmjlaa

/-! ### Shifts -/
/-- One pass: the coefficients from j to n by Horner's steps. -/
def pass (n : Nat) (b : G) (c : PG) (j : Nat) : PG := fun k => if j ≤ k ∧ k ≤ n then tl c b (n + 1 - k) k else c k
def sh (n : Nat) (b : G) (c : PG) : Nat → PG
  | 0 => c
  | j + 1 => pass n b (sh n b c j) j
theorem syn (s : PG) (b w : G) (n : Nat) : ∀ m i, i + m = n → tl s w (m + 1) i = gadd (tl s b (m + 1) i) (gmul (tl (fun k => tl s b (n + 1 - k) k) w m (i + 1)) (gsub w b))
  | 0, i, _ => by
    show gadd (gmul g0 w) (s i) = gadd (gadd (gmul g0 b) (s i)) (gmul g0 _)
    rw [zero_gmul, zero_gmul, zero_gmul, gadd_zero]
  | m + 1, i, h => by
    have ih := syn s b w n m (i + 1) (by omega)
    have e1 : tl s w (m + 1 + 1) i = gadd (gmul (tl s w (m + 1) (i + 1)) w) (s i) := rfl
    have e2 : tl s b (m + 1 + 1) i = gadd (gmul (tl s b (m + 1) (i + 1)) b) (s i) := rfl
    have e3 : tl (fun k => tl s b (n + 1 - k) k) w (m + 1) (i + 1) = gadd (gmul (tl (fun k => tl s b (n + 1 - k) k) w m (i + 1 + 1)) w) (tl s b (n + 1 - (i + 1)) (i + 1)) := rfl
    rw [e1, e2, e3, ih, show n + 1 - (i + 1) = m + 1 by omega]
    generalize tl s b (m + 1) (i + 1) = U
    generalize tl (fun k => tl s b (n + 1 - k) k) w m (i + 1 + 1) = T
    generalize s i = S
    exact gext (by unfold gadd gmul gsub; grind) (by unfold gadd gmul gsub; grind)
theorem sh_above (n : Nat) (b : G) (c : PG) : ∀ j k, n < k → sh n b c j k = c k
  | 0, _, _ => rfl
  | j + 1, k, h => by
    show pass n b (sh n b c j) j k = _
    unfold pass
    rw [if_neg (by omega), sh_above n b c j k h]
theorem sh_val (n : Nat) (b z : G) (c : PG) : ∀ j, j ≤ n → gadd (hs j (sh n b c j) z) (gmul (tl (sh n b c j) (gadd z b) (n + 1 - j) j) (gpow z j)) = hs (n + 1) c (gadd z b)
  | 0, _ => by
    show gadd g0 (gmul _ g1) = _
    rw [gmul_one, zero_gadd]; rfl
  | j + 1, h => by
    rw [← sh_val n b z c j (by omega)]
    have e0 := syn (sh n b c j) b (gadd z b) n (n - j) j (by omega)
    rw [show n - j + 1 = n + 1 - j by omega, gadd_sub] at e0
    have e1 : hs (j + 1) (sh n b c (j + 1)) z = gadd (hs j (sh n b c j) z) (gmul (tl (sh n b c j) b (n + 1 - j) j) (gpow z j)) := by
      have := hs_last (sh n b c (j + 1)) z j 0
      rw [Nat.zero_add] at this
      rw [show hs (j + 1) (sh n b c (j + 1)) z = tl (sh n b c (j + 1)) z (j + 1) 0 from rfl, this]
      have h1 : tl (sh n b c (j + 1)) z j 0 = hs j (sh n b c j) z := tl_congr fun k hk => by
        show pass n b (sh n b c j) j (0 + k) = _
        unfold pass
        rw [if_neg (by omega)]
      have h2 : sh n b c (j + 1) j = tl (sh n b c j) b (n + 1 - j) j := by
        show pass n b (sh n b c j) j j = _
        unfold pass
        rw [if_pos (by omega)]
      rw [h1, h2]
    have e2 : tl (sh n b c (j + 1)) (gadd z b) (n + 1 - (j + 1)) (j + 1) = tl (fun k => tl (sh n b c j) b (n + 1 - k) k) (gadd z b) (n - j) (j + 1) := by
      rw [show n + 1 - (j + 1) = n - j by omega]
      exact tl_congr fun k hk => by
        show pass n b (sh n b c j) j (j + 1 + k) = _
        unfold pass
        rw [if_pos (by omega)]
    rw [e1, e2, e0]
    show gadd (gadd _ (gmul _ _)) (gmul _ (gmul (gpow z j) z)) = _
    rw [add_gmul, gadd_assoc, gmul_assoc _ z, gmul_comm z]
theorem hs_sh (n : Nat) (b z : G) (c : PG) : hs (n + 1) (sh n b c n) z = hs (n + 1) c (gadd z b) := by
  rw [← sh_val n b z c n (Nat.le_refl _)]
  have := hs_last (sh n b c n) z n 0
  rw [Nat.zero_add] at this
  rw [show hs (n + 1) (sh n b c n) z = tl (sh n b c n) z (n + 1) 0 from rfl, this]
  rw [show n + 1 - n = 1 by omega]
  show _ = gadd _ (gmul (gadd (gmul g0 _) (sh n b c n n)) _)
  rw [zero_gmul, zero_gadd]
  rfl

/-! ### Zeros -/
def ofS (p : PG) (z : G) : PG := fun k => gsub (up 1 p k) (gmul z (p k))
def ofZ (z : Nat → G) : Nat → PG
  | 0 => fun k => if k = 0 then g1 else g0
  | i + 1 => ofS (ofZ z i) (z i)
theorem ofZ_ends (z : Nat → G) : ∀ i, Ends (ofZ z i) (i + 1)
  | 0, k, h => by unfold ofZ; rw [if_neg (by omega)]
  | i + 1, k, h => by
    show gsub (up 1 (ofZ z i) k) (gmul (z i) (ofZ z i k)) = g0
    unfold up
    rw [if_pos (by omega), ofZ_ends z i (k - 1) (by omega), ofZ_ends z i k (by omega), gmul_zero, gsub_self]
theorem hs_ofZ (z : Nat → G) (w : G) (i : Nat) : hs (i + 1 + 1) (ofZ z (i + 1)) w = gmul (hs (i + 1) (ofZ z i) w) (gsub w (z i)) := by
  show tl (fun k => gsub (up 1 (ofZ z i) k) (gmul (z i) (ofZ z i k))) w (i + 1 + 1) 0 = _
  rw [tl_sub, tl_scale]
  have e1 : tl (up 1 (ofZ z i)) w (i + 1 + 1) 0 = gmul (hs (i + 1) (ofZ z i) w) w := by
    have := hs_up (ofZ z i) w (i + 1) 1
    rw [show 1 + (i + 1) = i + 1 + 1 by omega] at this
    rw [show tl (up 1 (ofZ z i)) w (i + 1 + 1) 0 = hs (i + 1 + 1) (up 1 (ofZ z i)) w from rfl, this]
    show gmul _ (gmul g1 w) = _
    rw [one_gmul]
  have e2 : tl (ofZ z i) w (i + 1 + 1) 0 = hs (i + 1) (ofZ z i) w := hs_more (by omega) (ofZ_ends z i)
  rw [e1, e2, gmul_sub, gmul_comm (z i)]
theorem hs_root (z : Nat → G) (k : Nat) : ∀ n, k < n → hs (n + 1) (ofZ z n) (z k) = g0
  | 0, h => by omega
  | n + 1, h => by
    rw [hs_ofZ]
    by_cases hk : k = n
    · subst hk; rw [gsub_self, gmul_zero]
    · rw [hs_root z k n (by omega), zero_gmul]
theorem ofZ_lead (z : Nat → G) : ∀ n, ofZ z n n = g1
  | 0 => rfl
  | n + 1 => by
    show gsub (up 1 (ofZ z n) (n + 1)) (gmul (z n) (ofZ z n (n + 1))) = g1
    rw [ofZ_ends z n (n + 1) (Nat.le_refl _), gmul_zero, gsub_zero]
    unfold up
    rw [if_pos (by omega), Nat.add_sub_cancel, ofZ_lead z n]

/-! ### How great -/
def BN (g b : G) : Prop := 0 ≤ b.1 ∧ b.2 = 0 ∧ NB g b.1
theorem BN.zero : BN g0 g0 := ⟨Int.le_refl _, rfl, by unfold NB g0; simp⟩
theorem BN.zero' {b : G} (h0 : 0 ≤ b.1) (h1 : b.2 = 0) : BN g0 b := ⟨h0, h1, by
  unfold NB g0
  have := sq_nonneg b.1
  simpa using this⟩
theorem BN.add {g h b c : G} (hg : BN g b) (hh : BN h c) : BN (gadd g h) (gadd b c) :=
  ⟨Int.add_nonneg hg.1 hh.1, by show b.2 + c.2 = 0; rw [hg.2.1, hh.2.1]; rfl, hg.2.2.add hg.1 hh.1 hh.2.2⟩
theorem BN.sub {g h b c : G} (hg : BN g b) (hh : BN h c) : BN (gsub g h) (gadd b c) :=
  ⟨Int.add_nonneg hg.1 hh.1, by show b.2 + c.2 = 0; rw [hg.2.1, hh.2.1]; rfl, hg.2.2.sub hg.1 hh.1 hh.2.2⟩
theorem BN.mul {g h b c : G} (hg : BN g b) (hh : BN h c) : BN (gmul g h) (gmul b c) := by
  have e : (gmul b c).1 = b.1 * c.1 := by show b.1 * c.1 - b.2 * c.2 = _; rw [hg.2.1, Int.zero_mul, Int.sub_zero]
  refine ⟨by rw [e]; exact Int.mul_nonneg hg.1 hh.1, by show b.1 * c.2 + b.2 * c.1 = 0; rw [hg.2.1, hh.2.1, Int.zero_mul, Int.mul_zero]; rfl, ?_⟩
  rw [e]
  exact hg.2.2.mul hh.2.2
theorem BN.neg {g b : G} (h : BN g b) : BN (gneg g) b := ⟨h.1, h.2.1, h.2.2.neg⟩
theorem BN.mono {g b c : G} (h : BN g b) (hbc : b.1 ≤ c.1) (hc : c.2 = 0) : BN g c := ⟨Int.le_trans h.1 hbc, hc, h.2.2.mono h.1 hbc⟩
theorem BN.real {g : G} {B : Int} (hB : 0 ≤ B) (h : NB g B) : BN g (B, 0) := ⟨hB, rfl, h⟩
theorem BN.tl {c d : PG} {z w : G} (hz : BN z w) : ∀ {n i : Nat}, (∀ k, k < n → BN (c (i + k)) (d (i + k))) → BN (tl c z n i) (tl d w n i)
  | 0, _, _ => BN.zero
  | n + 1, i, h => by
    refine BN.add (BN.mul (BN.tl hz (n := n) (i := i + 1) fun k hk => ?_) hz) (h 0 (by omega))
    rw [show i + 1 + k = i + (k + 1) by omega]
    exact h (k + 1) (by omega)
theorem BN.up {c d : PG} (h : ∀ k, BN (c k) (d k)) (i k : Nat) : BN (up i c k) (up i d k) := by
  unfold Ytonmjdhdkkmjlaa.up
  split
  · exact h _
  · exact BN.zero
theorem BN.cv {a b A B : PG} (ha : ∀ k, BN (a k) (A k)) (hb : ∀ k, BN (b k) (B k)) : ∀ i k, BN (cv a b i k) (cv A B i k)
  | 0, _ => BN.zero
  | i + 1, k => BN.add (BN.cv ha hb i k) (BN.mul (ha i) (BN.up hb i k))
theorem BN.sh {c d : PG} {z w : G} (n : Nat) (hz : BN z w) (h : ∀ k, BN (c k) (d k)) : ∀ j k, BN (sh n z c j k) (sh n w d j k)
  | 0, k => h k
  | j + 1, k => by
    show BN (pass n z (Ytonmjdhdkkmjlaa.sh n z c j) j k) (pass n w (Ytonmjdhdkkmjlaa.sh n w d j) j k)
    unfold pass
    split
    · exact BN.tl hz fun k' _ => BN.sh n hz h j _
    · exact BN.sh n hz h j k
def ofB (Z : G) : Nat → PG
  | 0 => fun k => if k = 0 then g1 else g0
  | i + 1 => fun k => gadd (up 1 (ofB Z i) k) (gmul Z (ofB Z i k))
theorem BN.ofZ {z : Nat → G} {Z : G} (hz : ∀ i, BN (z i) Z) : ∀ i k, BN (ofZ z i k) (ofB Z i k)
  | 0, k => by
    unfold Ytonmjdhdkkmjlaa.ofZ ofB
    split
    · exact ⟨by decide, rfl, by unfold NB g1; decide⟩
    · exact BN.zero
  | i + 1, k => BN.sub (BN.up (BN.ofZ hz i) 1 k) (BN.mul (hz i) (BN.ofZ hz i k))

/-! ### Places by Horner's steps in floats -/
theorem WC.step {v z c : C} {g w h b W B : G} (hv : WC v g) (hz : WC z w) (hc : WC c h) (hg : BN g b) (hw : BN w W) (hh : BN h B) (ht : (gadd (gmul b W) B).1 ≤ top) : WC (cadd (cmul v z) c) (gadd (gmul g w) h) := by
  have hm := hg.mul hw
  have e : (gmul b W).1 = b.1 * W.1 := by show b.1 * W.1 - b.2 * W.2 = _; rw [hg.2.1, Int.zero_mul, Int.sub_zero]
  have hs := hm.add hh
  have ht' : (gmul b W).1 + B.1 ≤ top := ht
  have hB := hh.1
  have h1 := hv.mul hz hg.1 hw.1 hg.2.2 hw.2.2 (by rw [← e]; omega)
  exact h1.add hc hs.1 ht hs.2.2
theorem WC.mulB {v z : C} {g w b W : G} (hv : WC v g) (hz : WC z w) (hg : BN g b) (hw : BN w W) (ht : (gmul b W).1 ≤ top) : WC (cmul v z) (gmul g w) := by
  have e : (gmul b W).1 = b.1 * W.1 := by show b.1 * W.1 - b.2 * W.2 = _; rw [hg.2.1, Int.zero_mul, Int.sub_zero]
  exact hv.mul hz hg.1 hw.1 hg.2.2 hw.2.2 (by rw [← e]; exact ht)
theorem WC.addB {v z : C} {g w b : G} (hv : WC v g) (hz : WC z w) (hg : BN (gadd g w) b) (ht : b.1 ≤ top) : WC (cadd v z) (gadd g w) := hv.add hz hg.1 ht hg.2.2
theorem WC.subB {v z : C} {g w b : G} (hv : WC v g) (hz : WC z w) (hg : BN (gsub g w) b) (ht : b.1 ≤ top) : WC (csub v z) (gsub g w) := hv.sub hz hg.1 ht hg.2.2

/-! ### Division by one that has 1 in front -/
/-- The rest at step k: what is left of the rows below k + 1, from k + m on what was there. -/
theorem cv_top {a b : PG} {m k : Nat} (hb : Ends b (m + 1)) (h1 : b m = g1) : cv a b (k + 1) (k + m) = a k := by
  show gadd (cv a b k (k + m)) (gmul (a k) (up k b (k + m))) = a k
  rw [cv_ends hb k (k + m) (by omega)]
  unfold up
  rw [if_pos (by omega), Nat.add_sub_cancel_left, h1, gmul_one, zero_gadd]
theorem cv_sub {a b : PG} {k j : Nat} : gsub (cv a b (k + 1) (k + j)) (gmul (a k) (b j)) = cv a b k (k + j) := by
  show gsub (gadd (cv a b k (k + j)) (gmul (a k) (up k b (k + j)))) (gmul (a k) (b j)) = _
  unfold up
  rw [if_pos (by omega), Nat.add_sub_cancel_left, gadd_sub]
end Go.Proofs.Ytonmjdhdkkmjlaa

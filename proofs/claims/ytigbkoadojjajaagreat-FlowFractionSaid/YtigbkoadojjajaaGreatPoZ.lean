/- Plain: polynomials of whole complex numbers as functions from a place to a number: values of sums, products, shifts; how great they are. No program in sight. -/
import Derived.Test.YtigbkoadojjajaaGreatFlZ
set_option linter.unusedSimpArgs false
set_option linter.unusedVariables false
set_option linter.unusedVariables false
set_option linter.unusedSimpArgs false
namespace Go.Proofs.YtigbkoadojjajaaGreat

def g0 : G := (0, 0)
def g1 : G := (1, 0)
theorem gext {x y : G} (h1 : x.1 = y.1) (h2 : x.2 = y.2) : x = y := Prod.ext h1 h2
section
variable (x y z w : G)
theorem gadd_comm : gadd x y = gadd y x := gext (Int.add_comm _ _) (Int.add_comm _ _)
theorem gadd_assoc : gadd (gadd x y) z = gadd x (gadd y z) := gext (Int.add_assoc _ _ _) (Int.add_assoc _ _ _)
theorem gadd_zero : gadd x g0 = x := gext (Int.add_zero _) (Int.add_zero _)
theorem zero_gadd : gadd g0 x = x := gext (Int.zero_add _) (Int.zero_add _)
theorem gmul_comm : gmul x y = gmul y x := gext (by unfold gmul; grind) (by unfold gmul; grind)
theorem gmul_assoc : gmul (gmul x y) z = gmul x (gmul y z) := gext (by unfold gmul; grind) (by unfold gmul; grind)
theorem gmul_add : gmul x (gadd y z) = gadd (gmul x y) (gmul x z) := gext (by unfold gmul gadd; grind) (by unfold gmul gadd; grind)
theorem add_gmul : gmul (gadd x y) z = gadd (gmul x z) (gmul y z) := gext (by unfold gmul gadd; grind) (by unfold gmul gadd; grind)
theorem gmul_sub : gmul x (gsub y z) = gsub (gmul x y) (gmul x z) := gext (by unfold gmul gsub; grind) (by unfold gmul gsub; grind)
theorem sub_gmul : gmul (gsub x y) z = gsub (gmul x z) (gmul y z) := gext (by unfold gmul gsub; grind) (by unfold gmul gsub; grind)
theorem gmul_zero : gmul x g0 = g0 := gext (by unfold gmul g0; simp) (by unfold gmul g0; simp)
theorem gmul_one : gmul x g1 = x := gext (by unfold gmul g1; simp) (by unfold gmul g1; simp)
theorem one_gmul : gmul g1 x = x := gext (by unfold gmul g1; simp) (by unfold gmul g1; simp)
theorem zero_gmul : gmul g0 x = g0 := gext (by unfold gmul g0; simp) (by unfold gmul g0; simp)
theorem gsub_self : gsub x x = g0 := gext (Int.sub_self _) (Int.sub_self _)
theorem gsub_zero : gsub x g0 = x := gext (Int.sub_zero _) (Int.sub_zero _)
theorem zero_gsub : gsub g0 x = gneg x := gext (Int.zero_sub _) (Int.zero_sub _)
theorem gadd_swap : gadd (gadd x y) (gadd z w) = gadd (gadd x z) (gadd y w) := gext (by show _ + _ + (_ + _) = _ + _ + (_ + _); omega) (by show _ + _ + (_ + _) = _ + _ + (_ + _); omega)
theorem gsub_swap : gsub (gadd x y) (gadd z w) = gadd (gsub x z) (gsub y w) := gext (by show _ + _ - (_ + _) = _ - _ + (_ - _); omega) (by show _ + _ - (_ + _) = _ - _ + (_ - _); omega)
end
abbrev PG := Nat → G
/-- The value of n coefficients from the one at i on, by Horner's steps. -/
def tl (c : PG) (z : G) : Nat → Nat → G
  | 0, _ => g0
  | n + 1, i => gadd (gmul (tl c z n (i + 1)) z) (c i)
/-- The value of n coefficients. -/
def hs (n : Nat) (c : PG) (z : G) : G := tl c z n 0
theorem tl_congr {c d : PG} {z : G} : ∀ {n i : Nat}, (∀ k, k < n → c (i + k) = d (i + k)) → tl c z n i = tl d z n i
  | 0, _, _ => rfl
  | n + 1, i, h => by
    unfold tl
    rw [tl_congr (d := d) (n := n) (i := i + 1) fun k hk => by rw [show i + 1 + k = i + (k + 1) by omega]; exact h (k + 1) (by omega)]
    rw [show c i = d i from h 0 (by omega)]
theorem tl_shift (c : PG) (z : G) (j : Nat) : ∀ n i, tl (fun k => c (j + k)) z n i = tl c z n (j + i)
  | 0, _ => rfl
  | n + 1, i => by unfold tl; rw [tl_shift c z j n (i + 1)]; rfl
theorem tl_add (c d : PG) (z : G) : ∀ n i, tl (fun k => gadd (c k) (d k)) z n i = gadd (tl c z n i) (tl d z n i)
  | 0, _ => rfl
  | n + 1, i => by unfold tl; rw [tl_add c d z n (i + 1), add_gmul, gadd_swap]
theorem tl_sub (c d : PG) (z : G) : ∀ n i, tl (fun k => gsub (c k) (d k)) z n i = gsub (tl c z n i) (tl d z n i)
  | 0, _ => rfl
  | n + 1, i => by unfold tl; rw [tl_sub c d z n (i + 1), sub_gmul, gsub_swap]
theorem tl_scale (a : G) (c : PG) (z : G) : ∀ n i, tl (fun k => gmul a (c k)) z n i = gmul a (tl c z n i)
  | 0, _ => (gmul_zero a).symm
  | n + 1, i => by unfold tl; rw [tl_scale a c z n (i + 1), gmul_add, gmul_assoc]
theorem tl_zero {c : PG} {z : G} : ∀ {n i : Nat}, (∀ k, k < n → c (i + k) = g0) → tl c z n i = g0
  | 0, _, _ => rfl
  | n + 1, i, h => by
    unfold tl
    rw [tl_zero (n := n) (i := i + 1) fun k hk => by rw [show i + 1 + k = i + (k + 1) by omega]; exact h (k + 1) (by omega)]
    rw [show c i = g0 from h 0 (by omega), zero_gmul, gadd_zero]
/-- Noughts behind count nothing. -/
theorem tl_more {c : PG} {z : G} (m : Nat) : ∀ {n i : Nat}, (∀ k, n ≤ k → c (i + k) = g0) → tl c z (n + m) i = tl c z n i
  | 0, i, h => by rw [Nat.zero_add]; exact tl_zero fun k _ => h k (by omega)
  | n + 1, i, h => by
    rw [show n + 1 + m = (n + m) + 1 by omega]
    unfold tl
    rw [tl_more m (n := n) (i := i + 1) fun k hk => by rw [show i + 1 + k = i + (k + 1) by omega]; exact h (k + 1) (by omega)]
theorem hs_more {c : PG} {z : G} {n m : Nat} (hnm : n ≤ m) (h : ∀ k, n ≤ k → c k = g0) : hs m c z = hs n c z := by
  have := tl_more (c := c) (z := z) (m - n) (n := n) (i := 0) (fun k hk => by rw [Nat.zero_add]; exact h k hk)
  rw [show n + (m - n) = m by omega] at this
  exact this
theorem hs_congr {c d : PG} {z : G} {n : Nat} (h : ∀ k, k < n → c k = d k) : hs n c z = hs n d z := tl_congr fun k hk => by rw [Nat.zero_add]; exact h k hk
def gpow (z : G) : Nat → G
  | 0 => g1
  | n + 1 => gmul (gpow z n) z
/-- Coefficients moved up by i places. -/
def up (i : Nat) (c : PG) : PG := fun k => if i ≤ k then c (k - i) else g0
theorem hs_up (c : PG) (z : G) (n : Nat) : ∀ i, hs (i + n) (up i c) z = gmul (hs n c z) (gpow z i)
  | 0 => by
    rw [Nat.zero_add]
    unfold gpow
    rw [gmul_one]
    exact hs_congr fun k _ => by unfold up; simp
  | i + 1 => by
    rw [show i + 1 + n = (i + n) + 1 by omega]
    show gadd (gmul (tl (up (i + 1) c) z (i + n) 1) z) (up (i + 1) c 0) = _
    have e : up (i + 1) c 0 = g0 := by unfold up; rw [if_neg (by omega)]
    have e2 : tl (up (i + 1) c) z (i + n) 1 = hs (i + n) (up i c) z := by
      rw [← tl_shift (up (i + 1) c) z 1 (i + n) 0]
      exact tl_congr fun k _ => by
        unfold up
        rw [Nat.zero_add]
        by_cases h : i ≤ k
        · rw [if_pos (by omega), if_pos h]; congr 1; omega
        · rw [if_neg (by omega), if_neg h]
    rw [e, e2, hs_up c z n i, gadd_zero, gmul_assoc]
    rfl

/-! ### Products -/
/-- The rows below i of a product. -/
def cv (a b : PG) : Nat → PG
  | 0 => fun _ => g0
  | i + 1 => fun k => gadd (cv a b i k) (gmul (a i) (up i b k))
/-- Nothing from n on. -/
def Ends (c : PG) (n : Nat) : Prop := ∀ k, n ≤ k → c k = g0
theorem cv_ends {a b : PG} {lb : Nat} (hb : Ends b lb) : ∀ i, Ends (cv a b i) (i + lb - 1)
  | 0, _, _ => rfl
  | i + 1, k, hk => by
    show gadd (cv a b i k) (gmul (a i) (up i b k)) = g0
    have e : up i b k = g0 := by
      unfold up
      split
      · exact hb _ (by omega)
      · rfl
    rw [cv_ends hb i k (by omega), e, gmul_zero, gadd_zero]
theorem hs_last (c : PG) (z : G) : ∀ n i, tl c z (n + 1) i = gadd (tl c z n i) (gmul (c (i + n)) (gpow z n))
  | 0, i => by
    show gadd (gmul g0 z) (c i) = gadd g0 (gmul (c (i + 0)) g1)
    rw [zero_gmul, gmul_one]; rfl
  | n + 1, i => by
    rw [tl, hs_last c z n (i + 1), add_gmul]
    show _ = gadd (gadd (gmul (tl c z n (i + 1)) z) (c i)) (gmul (c (i + (n + 1))) (gmul (gpow z n) z))
    rw [show i + 1 + n = i + (n + 1) by omega, gmul_assoc, gadd_assoc, gadd_comm _ (c i), ← gadd_assoc]
theorem hs_cv {a b : PG} {lb : Nat} (hb : Ends b lb) (z : G) (n : Nat) : ∀ i, i + lb ≤ n + 1 → hs n (cv a b i) z = gmul (hs i a z) (hs lb b z)
  | 0, _ => by
    show _ = gmul g0 _
    rw [zero_gmul]
    exact tl_zero fun _ _ => rfl
  | i + 1, h => by
    have e1 : hs n (cv a b (i + 1)) z = gadd (hs n (cv a b i) z) (gmul (a i) (hs n (up i b) z)) := by
      show tl (fun k => gadd (cv a b i k) (gmul (a i) (up i b k))) z n 0 = _
      rw [tl_add, tl_scale]
      rfl
    have e2 : hs n (up i b) z = gmul (hs lb b z) (gpow z i) := by
      rw [← hs_up b z lb i]
      exact hs_more (by omega) fun k hk => by
        unfold up
        split
        · exact hb _ (by omega)
        · rfl
    have e3 : hs (i + 1) a z = gadd (hs i a z) (gmul (a i) (gpow z i)) := by
      have := hs_last a z i 0
      rw [Nat.zero_add] at this
      exact this
    rw [e1, e2, e3, hs_cv hb z n i (by omega), add_gmul, gmul_assoc (a i), gmul_comm (gpow z i)]
end Go.Proofs.YtigbkoadojjajaaGreat

/- Plain: polynomials of whole complex numbers: shifted ones, those of zeros, how great all is. No program in sight. -/
set_option linter.unusedVariables false
set_option linter.unusedSimpArgs false
namespace Go.Proofs.YtigbkoadojjajaaGreat

/-! ### Shifts -/
/-- One pass: the coefficients from j to n by Horner's steps. -/
def pass (n : Nat) (b : G) (c : PG) (j : Nat) : PG := fun k => if j ≤ k ∧ k ≤ n then tl c b (n + 1 - k) k else c k
def sh (n : Nat) (b : G) (c : PG) : Nat → PG
  | 0 => c
  | j + 1 => pass n b (sh n b c j) j
/-! ### Zeros -/
def ofS (p : PG) (z : G) : PG := fun k => gsub (up 1 p k) (gmul z (p k))
def ofZ (z : Nat → G) : Nat → PG
  | 0 => fun k => if k = 0 then g1 else g0
  | i + 1 => ofS (ofZ z i) (z i)
theorem ofZ_ends (z : Nat → G) : ∀ i, Ends (ofZ z i) (i + 1)
  | 0, k, h => by unfold ofZ; rw [if_neg (by omega)]
  | i + 1, k, h => by
    show gsub (up 1 (ofZ z i) k) (gmul (z i) (ofZ z i k)) = g0
    unfold up
    rw [if_pos (by omega), ofZ_ends z i (k - 1) (by omega), ofZ_ends z i k (by omega), gmul_zero, gsub_self]
theorem hs_ofZ (z : Nat → G) (w : G) (i : Nat) : hs (i + 1 + 1) (ofZ z (i + 1)) w = gmul (hs (i + 1) (ofZ z i) w) (gsub w (z i)) := by
  show tl (fun k => gsub (up 1 (ofZ z i) k) (gmul (z i) (ofZ z i k))) w (i + 1 + 1) 0 = _
  rw [tl_sub, tl_scale]
  have e1 : tl (up 1 (ofZ z i)) w (i + 1 + 1) 0 = gmul (hs (i + 1) (ofZ z i) w) w := by
    have := hs_up (ofZ z i) w (i + 1) 1
    rw [show 1 + (i + 1) = i + 1 + 1 by omega] at this
    rw [show tl (up 1 (ofZ z i)) w (i + 1 + 1) 0 = hs (i + 1 + 1) (up 1 (ofZ z i)) w from rfl, this]
    show gmul _ (gmul g1 w) = _
    rw [one_gmul]
  have e2 : tl (ofZ z i) w (i + 1 + 1) 0 = hs (i + 1) (ofZ z i) w := hs_more (by omega) (ofZ_ends z i)
  rw [e1, e2, gmul_sub, gmul_comm (z i)]
theorem ofZ_lead (z : Nat → G) : ∀ n, ofZ z n n = g1
  | 0 => rfl
  | n + 1 => by
    show gsub (up 1 (ofZ z n) (n + 1)) (gmul (z n) (ofZ z n (n + 1))) = g1
    rw [ofZ_ends z n (n + 1) (Nat.le_refl _), gmul_zero, gsub_zero]
    unfold up
    rw [if_pos (by omega), Nat.add_sub_cancel, ofZ_lead z n]

/-! ### How great -/
def BN (g b : G) : Prop := 0 ≤ b.1 ∧ b.2 = 0 ∧ NB g b.1
theorem BN.zero : BN g0 g0 := ⟨Int.le_refl _, rfl, by unfold NB g0; simp⟩
theorem BN.zero' {b : G} (h0 : 0 ≤ b.1) (h1 : b.2 = 0) : BN g0 b := ⟨h0, h1, by
  unfold NB g0
  have := sq_nonneg b.1
  simpa using this⟩
theorem BN.add {g h b c : G} (hg : BN g b) (hh : BN h c) : BN (gadd g h) (gadd b c) :=
  ⟨Int.add_nonneg hg.1 hh.1, by show b.2 + c.2 = 0; rw [hg.2.1, hh.2.1]; rfl, hg.2.2.add hg.1 hh.1 hh.2.2⟩
theorem BN.sub {g h b c : G} (hg : BN g b) (hh : BN h c) : BN (gsub g h) (gadd b c) :=
  ⟨Int.add_nonneg hg.1 hh.1, by show b.2 + c.2 = 0; rw [hg.2.1, hh.2.1]; rfl, hg.2.2.sub hg.1 hh.1 hh.2.2⟩
theorem BN.mul {g h b c : G} (hg : BN g b) (hh : BN h c) : BN (gmul g h) (gmul b c) := by
  have e : (gmul b c).1 = b.1 * c.1 := by show b.1 * c.1 - b.2 * c.2 = _; rw [hg.2.1, Int.zero_mul, Int.sub_zero]
  refine ⟨by rw [e]; exact Int.mul_nonneg hg.1 hh.1, by show b.1 * c.2 + b.2 * c.1 = 0; rw [hg.2.1, hh.2.1, Int.zero_mul, Int.mul_zero]; rfl, ?_⟩
  rw [e]
  exact hg.2.2.mul hh.2.2
theorem BN.neg {g b : G} (h : BN g b) : BN (gneg g) b := ⟨h.1, h.2.1, h.2.2.neg⟩
theorem BN.mono {g b c : G} (h : BN g b) (hbc : b.1 ≤ c.1) (hc : c.2 = 0) : BN g c := ⟨Int.le_trans h.1 hbc, hc, h.2.2.mono h.1 hbc⟩
theorem BN.real {g : G} {B : Int} (hB : 0 ≤ B) (h : NB g B) : BN g (B, 0) := ⟨hB, rfl, h⟩
theorem BN.tl {c d : PG} {z w : G} (hz : BN z w) : ∀ {n i : Nat}, (∀ k, k < n → BN (c (i + k)) (d (i + k))) → BN (tl c z n i) (tl d w n i)
  | 0, _, _ => BN.zero
  | n + 1, i, h => by
    refine BN.add (BN.mul (BN.tl hz (n := n) (i := i + 1) fun k hk => ?_) hz) (h 0 (by omega))
    rw [show i + 1 + k = i + (k + 1) by omega]
    exact h (k + 1) (by omega)
theorem BN.up {c d : PG} (h : ∀ k, BN (c k) (d k)) (i k : Nat) : BN (up i c k) (up i d k) := by
  unfold YtigbkoadojjajaaGreat.up
  split
  · exact h _
  · exact BN.zero
theorem BN.cv {a b A B : PG} (ha : ∀ k, BN (a k) (A k)) (hb : ∀ k, BN (b k) (B k)) : ∀ i k, BN (cv a b i k) (cv A B i k)
  | 0, _ => BN.zero
  | i + 1, k => BN.add (BN.cv ha hb i k) (BN.mul (ha i) (BN.up hb i k))
theorem BN.sh {c d : PG} {z w : G} (n : Nat) (hz : BN z w) (h : ∀ k, BN (c k) (d k)) : ∀ j k, BN (sh n z c j k) (sh n w d j k)
  | 0, k => h k
  | j + 1, k => by
    show BN (pass n z (YtigbkoadojjajaaGreat.sh n z c j) j k) (pass n w (YtigbkoadojjajaaGreat.sh n w d j) j k)
    unfold pass
    split
    · exact BN.tl hz fun k' _ => BN.sh n hz h j _
    · exact BN.sh n hz h j k
def ofB (Z : G) : Nat → PG
  | 0 => fun k => if k = 0 then g1 else g0
  | i + 1 => fun k => gadd (up 1 (ofB Z i) k) (gmul Z (ofB Z i k))
theorem BN.ofZ {z : Nat → G} {Z : G} (hz : ∀ i, BN (z i) Z) : ∀ i k, BN (ofZ z i k) (ofB Z i k)
  | 0, k => by
    unfold YtigbkoadojjajaaGreat.ofZ ofB
    split
    · exact ⟨by decide, rfl, by unfold NB g1; decide⟩
    · exact BN.zero
  | i + 1, k => BN.sub (BN.up (BN.ofZ hz i) 1 k) (BN.mul (hz i) (BN.ofZ hz i k))

/-! ### Places by Horner's steps in floats -/
theorem WC.step {v z c : C} {g w h b W B : G} (hv : WC v g) (hz : WC z w) (hc : WC c h) (hg : BN g b) (hw : BN w W) (hh : BN h B) (ht : (gadd (gmul b W) B).1 ≤ top) : WC (cadd (cmul v z) c) (gadd (gmul g w) h) := by
  have hm := hg.mul hw
  have e : (gmul b W).1 = b.1 * W.1 := by show b.1 * W.1 - b.2 * W.2 = _; rw [hg.2.1, Int.zero_mul, Int.sub_zero]
  have hs := hm.add hh
  have ht' : (gmul b W).1 + B.1 ≤ top := ht
  have hB := hh.1
  have h1 := hv.mul hz hg.1 hw.1 hg.2.2 hw.2.2 (by rw [← e]; omega)
  exact h1.add hc hs.1 ht hs.2.2
theorem WC.mulB {v z : C} {g w b W : G} (hv : WC v g) (hz : WC z w) (hg : BN g b) (hw : BN w W) (ht : (gmul b W).1 ≤ top) : WC (cmul v z) (gmul g w) := by
  have e : (gmul b W).1 = b.1 * W.1 := by show b.1 * W.1 - b.2 * W.2 = _; rw [hg.2.1, Int.zero_mul, Int.sub_zero]
  exact hv.mul hz hg.1 hw.1 hg.2.2 hw.2.2 (by rw [← e]; exact ht)
theorem WC.addB {v z : C} {g w b : G} (hv : WC v g) (hz : WC z w) (hg : BN (gadd g w) b) (ht : b.1 ≤ top) : WC (cadd v z) (gadd g w) := hv.add hz hg.1 ht hg.2.2
theorem WC.subB {v z : C} {g w b : G} (hv : WC v g) (hz : WC z w) (hg : BN (gsub g w) b) (ht : b.1 ≤ top) : WC (csub v z) (gsub g w) := hv.sub hz hg.1 ht hg.2.2

/-! ### Division by one that has 1 in front -/
end Go.Proofs.YtigbkoadojjajaaGreat

/- Plain: whole numbers in float64: without their sign, compared, divided where that comes out even. No program in sight. -/
set_option linter.unusedVariables false
set_option linter.unusedSimpArgs false
namespace Go.Proofs.YtigbkoadojjajaaGreat
open Ieee

theorem WF.le {x y : F} {a b : Int} (hx : WF x a) (hy : WF y b) : fle x y = decide (a ≤ b) := by
  unfold fle
  rw [hx.cmp hy]
  show ((some (compareOfLessAndEq a b) == some Ordering.lt) || (some (compareOfLessAndEq a b) == some Ordering.eq)) = _
  unfold compareOfLessAndEq
  by_cases h1 : a < b
  · rw [if_pos h1, decide_eq_true (by omega)]; rfl
  · rw [if_neg h1]
    by_cases h2 : a = b
    · rw [if_pos h2, decide_eq_true (by omega)]; rfl
    · rw [if_neg h2, decide_eq_false (by omega)]; rfl
theorem read_mod (u : Nat) {s : Bool} {m : Nat} {k : Int} (h : double.read u = .number s m k) : double.read (u % 9223372036854775808) = .number false m k := by
  unfold Format.read at h ⊢
  simp only [lp, bn, ir, sw, Nat.mod_mod] at h ⊢
  have e : (u % 9223372036854775808 / 9223372036854775808 % 2 == 1) = false := by
    rw [Nat.div_eq_of_lt (Nat.mod_lt _ (by decide))]; rfl
  rw [e]
  split at h
  · rename_i h1
    rw [if_pos h1]
    obtain ⟨q1, q2, q3⟩ := Datum.number.inj h
    rw [q2, q3]
  · rename_i h1
    rw [if_neg h1]
    split at h
    · rename_i h2
      rw [if_pos h2]
      obtain ⟨q1, q2, q3⟩ := Datum.number.inj h
      rw [q2, q3]
    · split at h <;> exact absurd h (by simp)
theorem WF.abs {x : F} {a : Int} (hx : WF x a) : WF (fabs x) (a.natAbs : Int) := by
  obtain ⟨u, rfl, s, m, k, e1, h1⟩ := hx
  refine ⟨u % 9223372036854775808, rfl, false, m, k, read_mod u e1, ?_⟩
  rw [signed_zero] at h1 ⊢
  have h2 : (a * 2 ^ k).natAbs = a.natAbs * 2 ^ k := by rw [Int.natAbs_mul, Int.natAbs_pow]; rfl
  have h3 : m = a.natAbs * 2 ^ k := by rw [← h2, ← h1]; cases s <;> simp
  simp only [Bool.false_eq_true, if_false]
  rw [h3]; simp
/-- A quotient that comes out even. -/
theorem quot_whole {x y : Datum} {q d : Int} (hx : DW x (q * d)) (hy : DW y d) (hd : d ≠ 0) (hq : q.natAbs < 9007199254740992) : ∃ r, x.quotient 54 y = some r ∧ DW (double.read (double.write r)) q := by
  obtain ⟨s, m, i, rfl, h1⟩ := hx
  obtain ⟨t, n, j, rfl, h2⟩ := hy
  rw [signed_zero] at h1 h2
  have hd' : 0 < d.natAbs := by omega
  have hn : n = d.natAbs * 2 ^ j := by
    have : (d * 2 ^ j).natAbs = d.natAbs * 2 ^ j := by rw [Int.natAbs_mul, Int.natAbs_pow]; rfl
    rw [← this, ← h2]; cases t <;> simp
  have hm : m = q.natAbs * d.natAbs * 2 ^ i := by
    have : (q * d * 2 ^ i).natAbs = q.natAbs * d.natAbs * 2 ^ i := by rw [Int.natAbs_mul, Int.natAbs_mul, Int.natAbs_pow]; rfl
    rw [← this, ← h1]; cases s <;> simp
  have hn0 : 0 < n := by rw [hn]; exact Nat.mul_pos hd' (Nat.two_pow_pos j)
  have hlogn : n.log2 = d.natAbs.log2 + j := by
    rw [hn]
    refine (Nat.log2_eq_iff (Nat.ne_of_gt (Nat.mul_pos hd' (Nat.two_pow_pos j)))).2 ⟨?_, ?_⟩
    · rw [Nat.pow_add]; exact Nat.mul_le_mul_right _ (Nat.log2_self_le (by omega))
    · rw [show d.natAbs.log2 + j + 1 = (d.natAbs.log2 + 1) + j by omega, Nat.pow_add]; exact Nat.mul_lt_mul_of_pos_right Nat.lt_log2_self (Nat.two_pow_pos j)
  obtain ⟨more, hmore⟩ : ∃ more, more = 54 + n.log2 - m.log2 := ⟨_, rfl⟩
  have hle : j ≤ i + more := by
    by_cases hq0 : q.natAbs = 0
    · have : m = 0 := by rw [hm, hq0]; simp
      rw [this] at hmore
      have : Nat.log2 0 = 0 := by decide
      omega
    · have hlm : m.log2 ≤ 53 + d.natAbs.log2 + i := by
        have : m < 2 ^ (54 + d.natAbs.log2 + i) := by
          rw [hm, Nat.pow_add]
          refine Nat.mul_lt_mul_of_pos_right ?_ (Nat.two_pow_pos i)
          have ha : d.natAbs < 2 ^ (d.natAbs.log2 + 1) := Nat.lt_log2_self
          have : q.natAbs * d.natAbs < 2 ^ 53 * 2 ^ (d.natAbs.log2 + 1) := Nat.mul_lt_mul'' (by omega) ha
          rw [← Nat.pow_add] at this
          rw [show 54 + d.natAbs.log2 = 53 + (d.natAbs.log2 + 1) by omega]
          exact this
        have hm0 : m ≠ 0 := by rw [hm]; exact Nat.ne_of_gt (Nat.mul_pos (Nat.mul_pos (by omega) hd') (Nat.two_pow_pos i))
        have := (Nat.log2_lt hm0).2 this
        omega
      omega
  have hdiv : m <<< more = q.natAbs * 2 ^ (i + more - j) * n := by
    rw [Nat.shiftLeft_eq, hm, hn, Nat.mul_assoc, ← Nat.pow_add, Nat.mul_mul_mul_comm, ← Nat.pow_add, show i + more - j + j = i + more by omega]
  refine ⟨.number (s ^^ t) (2 * (q.natAbs * 2 ^ (i + more - j))) (-((i + more - j + 1 : Nat) : Int)), ?_, ?_⟩
  · show (if n = 0 then _ else _) = _
    rw [if_neg (by omega), ← hmore]
    show some (Datum.number (s ^^ t) (2 * (m <<< more / n) + (m <<< more % n != 0).toNat) (-(i : Int) - -(j : Int) - (more : Int) - 1)) = _
    rw [hdiv, Nat.mul_div_cancel _ hn0, Nat.mul_mod_left]
    congr 2
    omega
  · refine write_whole ?_ hq
    rw [signed_zero]
    have e : ((2 * (q.natAbs * 2 ^ (i + more - j)) : Nat) : Int) = (q.natAbs : Int) * 2 ^ (i + more - j + 1) := by
      rw [Int.pow_succ]
      simp
      grind
    rw [e]
    have hsg : (if (s ^^ t) = true then -(q.natAbs : Int) else (q.natAbs : Int)) = q := by
      have p1 : (0 : Int) < 2 ^ i := Int.pow_pos (by omega)
      have p2 : (0 : Int) < 2 ^ j := Int.pow_pos (by omega)
      have s1 : if s = true then q * d ≤ 0 else 0 ≤ q * d := by
        cases s
        · simp only [Bool.false_eq_true, if_false] at h1 ⊢
          have : 0 ≤ q * d * 2 ^ i := by rw [← h1]; omega
          exact Int.nonneg_of_mul_nonneg_left this p1
        · simp only [if_true] at h1 ⊢
          have : 0 ≤ -(q * d) * 2 ^ i := by rw [Int.neg_mul, ← h1]; omega
          have := Int.nonneg_of_mul_nonneg_left this p1
          omega
      have s2 : if t = true then d ≤ 0 else 0 ≤ d := by
        cases t
        · simp only [Bool.false_eq_true, if_false] at h2 ⊢
          have : 0 ≤ d * 2 ^ j := by rw [← h2]; omega
          exact Int.nonneg_of_mul_nonneg_left this p2
        · simp only [if_true] at h2 ⊢
          have : 0 ≤ -d * 2 ^ j := by rw [Int.neg_mul, ← h2]; omega
          have := Int.nonneg_of_mul_nonneg_left this p2
          omega
      have pos : ∀ a b : Int, 0 ≤ a * b → 0 < b → 0 ≤ a := fun a b h hb => Int.nonneg_of_mul_nonneg_left h hb
      cases s <;> cases t <;> simp only [Bool.false_eq_true, if_false, if_true, Bool.xor_false, Bool.xor_true, Bool.not_true, Bool.not_false] at s1 s2 ⊢
      · have := pos q d s1 (by omega); omega
      · have := pos (-q) (-d) (by rw [Int.neg_mul_neg]; exact s1) (by omega); omega
      · have := pos (-q) d (by rw [Int.neg_mul]; omega) (by omega); omega
      · have := pos q (-d) (by rw [Int.mul_neg]; omega) (by omega); omega
    cases hst : (s ^^ t) <;> rw [hst] at hsg <;> simp only [Bool.false_eq_true, if_false, if_true] at hsg ⊢
    · rw [← hsg]; simp
    · rw [← hsg]; simp [Int.neg_mul]
theorem WF.div {x y : F} {q d : Int} (hx : WF x (q * d)) (hy : WF y d) (hd : d ≠ 0) (hq : q.natAbs < 9007199254740992) : WF (fdiv x y) q := by
  obtain ⟨u, rfl, h1⟩ := hx
  obtain ⟨v, rfl, h2⟩ := hy
  obtain ⟨r, e, hr⟩ := quot_whole h1 h2 hd hq
  exact ⟨_, by show double.div u v = _; unfold Format.div; rw [fb]; show (Datum.quotient 54 _ _).map _ = _; rw [e]; rfl, hr⟩
theorem WF.fin {x : F} {n : Int} (hx : WF x n) (hn : n.natAbs < 9007199254740992) : ffin x = true := by
  obtain ⟨u, e0, s, m, k, e1, h1⟩ := hx.abs
  unfold ffin fle
  rw [e0]
  have ho : fcmp (some u) fbig = some .lt := by
    show double.order u 9218868437227405311 = _
    unfold Format.order
    have eb : double.read 9218868437227405311 = .number false 9007199254740991 971 := by decide
    rw [e1, eb]
    show some (compare (signed s m (-(k : Int) - min (-(k : Int)) 971).toNat) (signed false 9007199254740991 ((971 : Int) - min (-(k : Int)) 971).toNat)) = _
    have g1 : (-(k : Int) - min (-(k : Int)) 971).toNat = 0 := by omega
    have g2 : ((971 : Int) - min (-(k : Int)) 971).toNat = 971 + k := by omega
    rw [g1, g2, h1, signed_up false]
    rw [signed_zero]
    simp only [Bool.false_eq_true, if_false]
    have p1 : (0 : Int) < 2 ^ k := Int.pow_pos (by omega)
    have hlt : (n.natAbs : Int) * 2 ^ k < 9007199254740991 * 2 ^ (971 + k) := by
      rw [Int.pow_add]
      have a0 : (0 : Int) < 2 ^ 970 := Int.pow_pos (by omega)
      have a1 : (2 : Int) ≤ 2 ^ 971 := by rw [show (971 : Nat) = 970 + 1 from rfl, Int.pow_succ]; omega
      have a2 : (9007199254740991 : Int) * 2 ≤ 9007199254740991 * 2 ^ 971 := Int.mul_le_mul_of_nonneg_left a1 (by omega)
      have : (n.natAbs : Int) < 9007199254740991 * 2 ^ 971 := by omega
      have := Int.mul_lt_mul_of_pos_right this p1
      rw [Int.mul_assoc] at this
      exact this
    rw [show ((9007199254740991 : Nat) : Int) = 9007199254740991 from rfl]
    show some (compareOfLessAndEq _ _) = _
    unfold compareOfLessAndEq
    rw [if_pos hlt]
  rw [ho]; rfl

/-! ### Complex division -/
def fge (x y : F) : Bool := fcmp x y == some .gt || fcmp x y == some .eq
theorem WF.ge {x y : F} {a b : Int} (hx : WF x a) (hy : WF y b) : fge x y = decide (b ≤ a) := by
  unfold fge
  rw [hx.cmp hy]
  show ((some (compareOfLessAndEq a b) == some Ordering.gt) || (some (compareOfLessAndEq a b) == some Ordering.eq)) = _
  unfold compareOfLessAndEq
  by_cases h1 : a < b
  · rw [if_pos h1, decide_eq_false (by omega)]; rfl
  · rw [if_neg h1]
    by_cases h2 : a = b
    · rw [if_pos h2, decide_eq_true (by omega)]; rfl
    · rw [if_neg h2, decide_eq_true (by omega)]; rfl
def cdiv (a b : C) : C :=
  if fge (fabs b.1) (fabs b.2) then
    (fdiv (fadd a.1 (fmul a.2 (fdiv b.2 b.1))) (fadd b.1 (fmul b.2 (fdiv b.2 b.1))), fdiv (fsub a.2 (fmul a.1 (fdiv b.2 b.1))) (fadd b.1 (fmul b.2 (fdiv b.2 b.1))))
  else
    (fdiv (fadd (fmul a.1 (fdiv b.1 b.2)) a.2) (fadd (fmul b.1 (fdiv b.1 b.2)) b.2), fdiv (fsub (fmul a.2 (fdiv b.1 b.2)) a.1) (fadd (fmul b.1 (fdiv b.1 b.2)) b.2))
/-! ### Limits -/
def lim : F := some 4787326403894837248
theorem WF.lim : WF lim 1099511627776 := by
  have h := WF.int 1099511627776 (by decide)
  have e : double.write (.number (decide ((1099511627776 : Int) < 0)) (1099511627776 : Int).natAbs 0) = 4787326403894837248 := by decide
  rw [e] at h
  exact h
def cwithin (x : C) (y : F) : Bool := fle (fabs x.1) y && fle (fabs x.2) y
theorem WC.place {x : C} {g : G} (hx : WC x g) (h : NB g 1099511627776) : cwithin x lim = true := by
  obtain ⟨h1, h2⟩ := h.parts (by decide)
  unfold cwithin
  rw [hx.1.abs.le WF.lim, hx.2.abs.le WF.lim]
  simp only [Bool.and_eq_true, decide_eq_true_eq]
  omega
def cfin (x : C) : Bool := ffin x.1 && ffin x.2
theorem WC.fin {x : C} {g b : G} (hx : WC x g) (h : BN g b) (hb : b.1 ≤ top) : cfin x = true := by
  obtain ⟨h1, h2⟩ := h.2.2.parts h.1
  unfold top at hb
  unfold cfin
  rw [hx.1.fin (by omega), hx.2.fin (by omega)]; rfl
def cnought (x : C) : Bool := feq x.1 (some 0) && feq x.2 (some 0)
theorem WC.nought {x : C} {g : G} (hx : WC x g) : cnought x = decide (g = g0) := by
  unfold cnought
  rw [hx.1.eq WF.zero, hx.2.eq WF.zero]
  by_cases h : g = g0
  · subst h; rfl
  · rw [decide_eq_false h]
    by_cases h1 : g.1 = 0
    · by_cases h2 : g.2 = 0
      · exact absurd (gext h1 h2) h
      · simp [h2]
    · simp [h1]
end Go.Proofs.YtigbkoadojjajaaGreat

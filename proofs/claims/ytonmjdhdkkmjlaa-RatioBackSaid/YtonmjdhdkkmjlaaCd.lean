/- Plain: a complex quotient in floats is near the true one. No program in sight. -/
import Derived.Test.YtonmjdhdkkmjlaaQu
set_option linter.unusedVariables false
set_option linter.unusedSimpArgs false
namespace Go.Proofs.Ytonmjdhdkkmjlaa
open Ieee

def uu : Rat := p2 (-53)
def ww : Rat := p2 (-1075)
theorem uu_pos : 0 < uu := p2_pos _
theorem ww_pos : 0 < ww := p2_pos _
theorem ww_uu : ww ≤ uu := p2_mono (by decide)
theorem uu_small : 1000000 * uu ≤ 1 := by
  have h1 : p2 20 * uu ≤ 1 := by
    show p2 20 * p2 (-53) ≤ 1
    rw [← p2_add]
    have := p2_mono (show (20 : Int) + -53 ≤ 0 by decide)
    rwa [p2_zero] at this
  have h2 : p2 20 = 1048576 := by rw [show p2 20 = ((2 ^ 20 : Nat) : Rat) from p2_nat 20]; rfl
  have := uu_pos
  rw [h2] at h1
  grind
theorem e53_eq (B : Rat) : e53 B = B * uu + ww := rfl
theorem e51_eq (B : Rat) : e51 B = 4 * (B * uu) + ww := by
  unfold e51 uu ww
  have : p2 (-51) = 4 * p2 (-53) := by
    have h4 : (4 : Rat) = p2 2 := by rw [show p2 2 = ((2 ^ 2 : Nat) : Rat) from p2_nat 2]; rfl
    rw [h4, ← p2_add]; rfl
  rw [this]; grind
theorem ab_mul {p q A B : Rat} (hp : Ab p A) (hq : Ab q B) : Ab (p * q) (A * B) := by
  unfold Ab at *
  have h1 : 0 ≤ (A - p) * (B + q) := Rat.mul_nonneg (by grind) (by grind)
  have h2 : 0 ≤ (A + p) * (B - q) := Rat.mul_nonneg (by grind) (by grind)
  have h3 : 0 ≤ (A - p) * (B - q) := Rat.mul_nonneg (by grind) (by grind)
  have h4 : 0 ≤ (A + p) * (B + q) := Rat.mul_nonneg (by grind) (by grind)
  grind
theorem nr_ab {r q e : Rat} : Nr r q e ↔ Ab (r - q) e := by unfold Nr Ab; grind
theorem nr_mul {p r q A e : Rat} (hp : Ab p A) (h : Nr r q e) : Nr (p * r) (p * q) (A * e) := by
  rw [nr_ab] at h ⊢
  have := ab_mul hp h
  have e : p * r - p * q = p * (r - q) := by grind
  rw [e]; exact this
theorem ab_nn {p A : Rat} (h : Ab p A) : 0 ≤ A := by unfold Ab at h; grind
theorem small_quot {c d k g : Rat} (hg : 0 < g) (h1 : Ab (c * d) (k * g)) (h2 : g ≤ 2 * d ∨ 2 * d ≤ -g) : Ab c (2 * k) := by
  have hk : 0 ≤ k := by
    have := ab_nn h1
    refine le_of_mul_pos hg ?_
    rw [Rat.zero_mul]; exact this
  unfold Ab at h1 ⊢
  rcases h2 with h | h
  · have hpos : 0 < d := by grind
    have h3 := Rat.mul_le_mul_of_nonneg_left h hk
    exact ⟨le_of_mul_pos hpos (by grind), le_of_mul_pos hpos (by grind)⟩
  · have hpos : 0 < -d := by grind
    have h3 := Rat.mul_le_mul_of_nonneg_left (show g ≤ 2 * -d by grind) hk
    exact ⟨le_of_mul_pos hpos (by grind), le_of_mul_pos hpos (by grind)⟩
variable {x y : F} {p q v B M g T : Rat}
/-- The quotient of the smaller by the greater. -/
theorem cd_k (hx : RV x p) (hy : RV y q) (hq : q ≠ 0) (hle : Ab p (rabs q)) : ∃ v r, RV (fdiv x y) r ∧ p = v * q ∧ Ab v 1 ∧ Nr r v (5 * uu) := by
  have hv : p = p / q * q := (Rat.div_mul_cancel hq).symm
  have hA : Ab (p / q) 1 := by
    generalize p / q = v at hv
    subst hv
    unfold rabs at hle
    unfold Ab at hle ⊢
    split at hle
    · have : 0 < q := by grind
      exact ⟨le_of_mul_pos this (by grind), le_of_mul_pos this (by grind)⟩
    · have : 0 < -q := by grind
      exact ⟨le_of_mul_pos this (by grind), le_of_mul_pos this (by grind)⟩
  obtain ⟨r, h1, h2⟩ := RV.div hx hy hq hv hA (by rw [← p2_zero]; exact p2_mono (by decide))
  refine ⟨_, r, h1, hv, hA, ?_⟩
  rw [e51_eq] at h2
  have := ww_uu
  unfold Nr at h2 ⊢
  grind
/-- A product with it. -/
theorem cd_m {k : F} {rk : Rat} (hx : RV x p) (hp : Ab p M) (hM : 1 ≤ M) (hM2 : M ≤ p2 900) (hk : RV k rk) (hv : Ab v 1) (hn : Nr rk v (5 * uu)) : ∃ r, RV (fmul x k) r ∧ Nr r (p * v) (8 * (M * uu)) := by
  have h1 := nr_mul hp hn
  have hu := uu_pos
  have hus := uu_small
  have hw := ww_uu
  have hk2 : Ab rk 2 := by unfold Nr at hn; unfold Ab at hv ⊢; grind
  have hB : M * 2 ≤ p2 1000 := by
    have h2 : p2 1000 = p2 900 * p2 100 := by rw [← p2_add]; rfl
    have h3 : (2 : Rat) ≤ p2 100 := by have := p2_mono (show (1 : Int) ≤ 100 by decide); rwa [p2_one] at this
    have h4 := Rat.mul_le_mul_of_nonneg_right hM2 (show (0 : Rat) ≤ 2 by decide)
    have h5 := Rat.mul_le_mul_of_nonneg_left h3 (Rat.le_of_lt (p2_pos 900))
    rw [h2]; grind
  obtain ⟨r, h2, h3⟩ := RV.mul hx hk (ab_mul hp hk2) hB
  refine ⟨r, h2, ?_⟩
  rw [e53_eq] at h3
  have hMu : uu ≤ M * uu := by
    have := Rat.mul_le_mul_of_nonneg_right hM (Rat.le_of_lt hu)
    rwa [Rat.one_mul] at this
  unfold Nr at h1 h3 ⊢
  grind
theorem sum_room (hM2 : M ≤ p2 900) : 3 * M ≤ p2 1000 := by
  have h2 : p2 1000 = p2 900 * p2 100 := by rw [← p2_add]; rfl
  have h3 : (3 : Rat) ≤ p2 100 := by
    have h4 := p2_mono (show (2 : Int) ≤ 100 by decide)
    have h5 : p2 2 = 4 := by rw [show p2 2 = ((2 ^ 2 : Nat) : Rat) from p2_nat 2]; rfl
    grind
  have h4 := Rat.mul_le_mul_of_nonneg_right hM2 (show (0 : Rat) ≤ 3 by decide)
  have h5 := Rat.mul_le_mul_of_nonneg_left h3 (Rat.le_of_lt (p2_pos 900))
  rw [h2]; grind
theorem small_mul (hM : 1 ≤ M) : 1000000 * (M * uu) ≤ M ∧ uu ≤ M * uu := by
  have hu := uu_pos
  have h1 := Rat.mul_le_mul_of_nonneg_left uu_small (show 0 ≤ M by grind)
  have h2 := Rat.mul_le_mul_of_nonneg_right hM (Rat.le_of_lt hu)
  grind
theorem cd_add {q' : Rat} (hx : RV x p) (hy : RV y q') (hn : Nr q' q (8 * (M * uu))) (hp : Ab p M) (hq : Ab q M) (hM : 1 ≤ M) (hM2 : M ≤ p2 900) : ∃ r, RV (fadd x y) r ∧ Nr r (p + q) (12 * (M * uu)) := by
  obtain ⟨s1, s2⟩ := small_mul hM
  have hw := ww_uu
  obtain ⟨r, h2, h3⟩ := RV.add hx hy (B := 3 * M) (by unfold Ab at *; unfold Nr at hn; grind) (sum_room hM2)
  refine ⟨r, h2, ?_⟩
  rw [e53_eq] at h3
  unfold Nr at hn h3 ⊢
  grind
theorem cd_add' {q' : Rat} (hx : RV x p) (hy : RV y q') (hn : Nr q' q (8 * (M * uu))) (hp : Ab p M) (hq : Ab q M) (hM : 1 ≤ M) (hM2 : M ≤ p2 900) : ∃ r, RV (fadd y x) r ∧ Nr r (q + p) (12 * (M * uu)) := by
  obtain ⟨s1, s2⟩ := small_mul hM
  have hw := ww_uu
  obtain ⟨r, h2, h3⟩ := RV.add hy hx (B := 3 * M) (by unfold Ab at *; unfold Nr at hn; grind) (sum_room hM2)
  refine ⟨r, h2, ?_⟩
  rw [e53_eq] at h3
  unfold Nr at hn h3 ⊢
  grind
theorem cd_sub {q' : Rat} (hx : RV x p) (hy : RV y q') (hn : Nr q' q (8 * (M * uu))) (hp : Ab p M) (hq : Ab q M) (hM : 1 ≤ M) (hM2 : M ≤ p2 900) : ∃ r, RV (fsub x y) r ∧ Nr r (p - q) (12 * (M * uu)) := by
  obtain ⟨s1, s2⟩ := small_mul hM
  have hw := ww_uu
  obtain ⟨r, h2, h3⟩ := RV.sub hx hy (B := 3 * M) (by unfold Ab at *; unfold Nr at hn; grind) (sum_room hM2)
  refine ⟨r, h2, ?_⟩
  rw [e53_eq] at h3
  unfold Nr at hn h3 ⊢
  grind
theorem cd_sub' {q' : Rat} (hx : RV x p) (hy : RV y q') (hn : Nr q' q (8 * (M * uu))) (hp : Ab p M) (hq : Ab q M) (hM : 1 ≤ M) (hM2 : M ≤ p2 900) : ∃ r, RV (fsub y x) r ∧ Nr r (q - p) (12 * (M * uu)) := by
  obtain ⟨s1, s2⟩ := small_mul hM
  have hw := ww_uu
  obtain ⟨r, h2, h3⟩ := RV.sub hy hx (B := 3 * M) (by unfold Ab at *; unfold Nr at hn; grind) (sum_room hM2)
  refine ⟨r, h2, ?_⟩
  rw [e53_eq] at h3
  unfold Nr at hn h3 ⊢
  grind
/-- The last quotient: what is above and what is below are near the true ones. -/
theorem cd_div {n n' d d' t : Rat} (hx : RV x n') (hy : RV y d') (hn : Nr n' n (12 * (2 * (T * g) * uu))) (hd : Nr d' d (12 * (g * uu))) (ht : n = t * d) (hT : Ab t T) (hT1 : 1 ≤ T) (hT2 : T ≤ p2 900) (hg : 1 ≤ g) (hdg : g ≤ d ∨ d ≤ -g) :
    ∃ r, RV (fdiv x y) r ∧ Nr r t (128 * (T * uu)) := by
  obtain ⟨s1, s2⟩ := small_mul hg
  obtain ⟨s3, s4⟩ := small_mul hT1
  have hw := ww_uu
  have hu := uu_pos
  have hg0 : 0 < g := by grind
  have hTu : 0 ≤ T * uu := by grind
  have hdb : g ≤ 2 * d' ∨ 2 * d' ≤ -g := by
    unfold Nr at hd
    rcases hdg with h | h
    · left; grind
    · right; grind
  have hd0 : d' ≠ 0 := by rcases hdb with h | h <;> grind
  -- how far above is from t times below
  have hnd : Ab (n' - t * d') (36 * (T * g * uu)) := by
    have h1 : Nr (t * d') (t * d) (T * (12 * (g * uu))) := nr_mul hT hd
    rw [← ht] at h1
    unfold Nr at h1 hn
    unfold Ab
    grind
  have hq : n' = n' / d' * d' := (Rat.div_mul_cancel hd0).symm
  obtain ⟨z, hz⟩ : ∃ z, z = n' / d' := ⟨_, rfl⟩
  rw [← hz] at hq
  have hzt : Ab (z - t) (72 * (T * uu)) := by
    have e : n' - t * d' = (z - t) * d' := by rw [hq]; grind
    rw [e] at hnd
    generalize z - t = c at hnd ⊢
    have hk : 36 * (T * g * uu) = (36 * (T * uu)) * g := by grind
    rw [hk] at hnd
    have := small_quot hg0 hnd hdb
    unfold Ab at this ⊢
    grind
  have hzB : Ab z (2 * T) := by unfold Ab at *; grind
  have h2T : 2 * T ≤ p2 999 := by
    have h2 : p2 999 = p2 900 * p2 99 := by rw [← p2_add]; rfl
    have h3 : (2 : Rat) ≤ p2 99 := by have := p2_mono (show (1 : Int) ≤ 99 by decide); rwa [p2_one] at this
    have h4 := Rat.mul_le_mul_of_nonneg_right hT2 (show (0 : Rat) ≤ 2 by decide)
    have h5 := Rat.mul_le_mul_of_nonneg_left h3 (Rat.le_of_lt (p2_pos 900))
    rw [h2]; grind
  obtain ⟨r, h1, h2⟩ := RV.div hx hy hd0 hq hzB h2T
  refine ⟨r, h1, ?_⟩
  rw [e51_eq] at h2
  unfold Nr at h2 ⊢
  unfold Ab at hzt
  grind
theorem rabs_ab {p A : Rat} (h : rabs p ≤ A) : Ab p A := by unfold rabs at h; unfold Ab; split at h <;> grind
theorem ab_rabs {p A : Rat} (h : Ab p A) : rabs p ≤ A := by unfold Ab at h; unfold rabs; split <;> grind
theorem one_room {M : Rat} (h : 2 * M ≤ p2 900) (hM : 0 ≤ M) : M ≤ p2 900 := by grind
/-- One way round: what is below is c + d v, with d = v c. -/
theorem cd_near {a1 a2 b1 b2 : F} {a b c d t1 t2 : Rat} (ha : RV a1 a) (hb : RV a2 b) (hc : RV b1 c) (hd : RV b2 d) (h1 : a = t1 * c - t2 * d) (h2 : b = t1 * d + t2 * c) (hT1 : Ab t1 T) (hT2 : Ab t2 T) (hT : 1 ≤ T) (hg : 1 ≤ rabs c ∨ 1 ≤ rabs d) (hTm : 2 * (T * rabs c) ≤ p2 900) (hTm' : 2 * (T * rabs d) ≤ p2 900) :
    ∃ r1 r2, RV (cdiv (a1, a2) (b1, b2)).1 r1 ∧ RV (cdiv (a1, a2) (b1, b2)).2 r2 ∧ Nr r1 t1 (128 * (T * uu)) ∧ Nr r2 t2 (128 * (T * uu)) := by
  have hT0 : 0 ≤ T := by grind
  have hTle : ∀ g : Rat, 0 ≤ g → 2 * (T * g) ≤ p2 900 → g ≤ p2 900 := fun g h0 h => by
    have := Rat.mul_le_mul_of_nonneg_right hT h0
    grind
  have hTT : ∀ g : Rat, 1 ≤ g → 2 * (T * g) ≤ p2 900 → T ≤ p2 900 := fun g h0 h => by
    have := Rat.mul_le_mul_of_nonneg_left h0 hT0
    grind
  have hgT : ∀ g : Rat, 1 ≤ g → 1 ≤ 2 * (T * g) := fun g h0 => by
    have := Rat.mul_le_mul_of_nonneg_left h0 hT0
    grind
  unfold cdiv
  dsimp only
  by_cases hle : rabs d ≤ rabs c
  · have hge : fge (fabs b1) (fabs b2) = true := by rw [hc.abs.ge hd.abs]; exact decide_eq_true hle
    rw [if_pos hge]
    dsimp only
    obtain ⟨g, hgd⟩ : ∃ g, g = rabs c := ⟨_, rfl⟩
    rw [← hgd] at hle hTm
    have hg1 : 1 ≤ g := by rcases hg with h | h <;> grind
    have hac : Ab c g := rabs_ab (by grind)
    have had : Ab d g := rabs_ab hle
    have hc0 : c ≠ 0 := by
      rintro rfl
      unfold rabs at hgd
      simp at hgd
      grind
    obtain ⟨v, rk, k1, k2, k3, k4⟩ := cd_k hd hc hc0 (by rw [← hgd]; exact had)
    have hgr := hTle g (by grind) hTm
    obtain ⟨rm, m1, m2⟩ := cd_m hd had hg1 hgr k1 k3 k4
    have hdv : Ab (d * v) g := by have := ab_mul had k3; rwa [Rat.mul_one] at this
    obtain ⟨rd, d1, d2⟩ := cd_add hc m1 m2 hac hdv hg1 hgr
    obtain ⟨M, hM⟩ : ∃ M, M = 2 * (T * g) := ⟨_, rfl⟩
    have hM1 : 1 ≤ M := by rw [hM]; exact hgT g hg1
    have hM2 : M ≤ p2 900 := by rw [hM]; exact hTm
    have q1 := ab_mul hT1 hac
    have q2 := ab_mul hT2 had
    have q3 := ab_mul hT1 had
    have q4 := ab_mul hT2 hac
    have haM : Ab a M := by rw [h1, hM]; unfold Ab at *; grind
    have hbM : Ab b M := by rw [h2, hM]; unfold Ab at *; grind
    have hav : Ab (a * v) M := by have := ab_mul haM k3; rwa [Rat.mul_one] at this
    have hbv : Ab (b * v) M := by have := ab_mul hbM k3; rwa [Rat.mul_one] at this
    obtain ⟨x1, x2, x3⟩ := cd_m hb hbM hM1 hM2 k1 k3 k4
    obtain ⟨y1, y2, y3⟩ := cd_add ha x2 x3 haM hbv hM1 hM2
    obtain ⟨z1, z2, z3⟩ := cd_m ha haM hM1 hM2 k1 k3 k4
    obtain ⟨w1, w2, w3⟩ := cd_sub hb z2 z3 hbM hav hM1 hM2
    have hN : g ≤ c + d * v ∨ c + d * v ≤ -g := by
      have hsq : 0 ≤ v * v := by
        by_cases h : 0 ≤ v
        · exact Rat.mul_nonneg h h
        · have := Rat.mul_nonneg (show 0 ≤ -v by grind) (show 0 ≤ -v by grind); grind
      have e : c + d * v = c + (v * v) * c := by rw [k2]; grind
      rw [e, hgd]
      unfold rabs
      split
      · left; have := Rat.mul_nonneg hsq ‹0 ≤ c›; grind
      · right; have := Rat.mul_nonneg hsq (show 0 ≤ -c by grind); grind
    rw [hM] at y3 w3
    obtain ⟨r1, e1, e2⟩ := cd_div y2 d1 y3 d2 (t := t1) (by rw [h1, h2, k2]; grind) hT1 hT (hTT g hg1 hTm) hg1 hN
    obtain ⟨r2, e3, e4⟩ := cd_div w2 d1 w3 d2 (t := t2) (by rw [h1, h2, k2]; grind) hT2 hT (hTT g hg1 hTm) hg1 hN
    exact ⟨r1, r2, e1, e3, e2, e4⟩
  · have hge : ¬ fge (fabs b1) (fabs b2) = true := by rw [hc.abs.ge hd.abs]; simpa using hle
    rw [if_neg hge]
    dsimp only
    obtain ⟨g, hgd⟩ : ∃ g, g = rabs d := ⟨_, rfl⟩
    rw [← hgd] at hle hTm'
    have hg1 : 1 ≤ g := by rcases hg with h | h <;> grind
    have had : Ab d g := rabs_ab (by grind)
    have hac : Ab c g := rabs_ab (by grind)
    have hd0 : d ≠ 0 := by
      rintro rfl
      unfold rabs at hgd
      simp at hgd
      grind
    obtain ⟨v, rk, k1, k2, k3, k4⟩ := cd_k hc hd hd0 (by rw [← hgd]; exact hac)
    have hgr := hTle g (by grind) hTm'
    obtain ⟨rm, m1, m2⟩ := cd_m hc hac hg1 hgr k1 k3 k4
    have hcv : Ab (c * v) g := by have := ab_mul hac k3; rwa [Rat.mul_one] at this
    obtain ⟨rd, d1, d2⟩ := cd_add' hd m1 m2 had hcv hg1 hgr
    obtain ⟨M, hM⟩ : ∃ M, M = 2 * (T * g) := ⟨_, rfl⟩
    have hM1 : 1 ≤ M := by rw [hM]; exact hgT g hg1
    have hM2 : M ≤ p2 900 := by rw [hM]; exact hTm'
    have q1 := ab_mul hT1 hac
    have q2 := ab_mul hT2 had
    have q3 := ab_mul hT1 had
    have q4 := ab_mul hT2 hac
    have haM : Ab a M := by rw [h1, hM]; unfold Ab at *; grind
    have hbM : Ab b M := by rw [h2, hM]; unfold Ab at *; grind
    have hav : Ab (a * v) M := by have := ab_mul haM k3; rwa [Rat.mul_one] at this
    have hbv : Ab (b * v) M := by have := ab_mul hbM k3; rwa [Rat.mul_one] at this
    obtain ⟨x1, x2, x3⟩ := cd_m ha haM hM1 hM2 k1 k3 k4
    obtain ⟨y1, y2, y3⟩ := cd_add' hb x2 x3 hbM hav hM1 hM2
    obtain ⟨z1, z2, z3⟩ := cd_m hb hbM hM1 hM2 k1 k3 k4
    obtain ⟨w1, w2, w3⟩ := cd_sub' ha z2 z3 haM hbv hM1 hM2
    have hN : g ≤ c * v + d ∨ c * v + d ≤ -g := by
      have hsq : 0 ≤ v * v := by
        by_cases h : 0 ≤ v
        · exact Rat.mul_nonneg h h
        · have := Rat.mul_nonneg (show 0 ≤ -v by grind) (show 0 ≤ -v by grind); grind
      have e : c * v + d = (v * v) * d + d := by rw [k2]; grind
      rw [e, hgd]
      unfold rabs
      split
      · left; have := Rat.mul_nonneg hsq ‹0 ≤ d›; grind
      · right; have := Rat.mul_nonneg hsq (show 0 ≤ -d by grind); grind
    rw [hM] at y3 w3
    obtain ⟨r1, e1, e2⟩ := cd_div y2 d1 y3 d2 (t := t1) (by rw [h1, h2, k2]; grind) hT1 hT (hTT g hg1 hTm') hg1 hN
    obtain ⟨r2, e3, e4⟩ := cd_div w2 d1 w3 d2 (t := t2) (by rw [h1, h2, k2]; grind) hT2 hT (hTT g hg1 hTm') hg1 hN
    exact ⟨r1, r2, e1, e3, e2, e4⟩
end Go.Proofs.Ytonmjdhdkkmjlaa

/- Plain: quotients of whole complex numbers in floats: they are finite; where they come out even, they are near. No program in sight. -/
set_option linter.unusedVariables false
set_option linter.unusedSimpArgs false
namespace Go.Proofs.Ytonmjdhdkkmjlaa
open Ieee

theorem ab_int {n : Int} {k : Nat} (h : n.natAbs ≤ 2 ^ k) : Ab (n : Rat) (p2 k) := by
  rw [p2_nat]
  have e : ((2 ^ k : Nat) : Rat) = (((2 ^ k : Nat) : Int) : Rat) := rfl
  unfold Ab
  rw [e, ← Rat.intCast_neg]
  exact ⟨Rat.intCast_le_intCast.2 (by omega), Rat.intCast_le_intCast.2 (by omega)⟩
theorem one_int_abs {n : Int} (h : n ≠ 0) : 1 ≤ rabs (n : Rat) := by
  unfold rabs
  have e1 : (1 : Rat) = ((1 : Int) : Rat) := rfl
  have e0 : (0 : Rat) = ((0 : Int) : Rat) := rfl
  split
  · rename_i h0
    rw [e0] at h0
    have := Rat.intCast_le_intCast.1 h0
    rw [e1]; exact Rat.intCast_le_intCast.2 (by omega)
  · rename_i h0
    rw [e0] at h0
    have : ¬ 0 ≤ n := fun h1 => h0 (Rat.intCast_le_intCast.2 h1)
    rw [← Rat.intCast_neg, e1]; exact Rat.intCast_le_intCast.2 (by omega)
theorem p2_two (k : Int) : 2 * p2 k = p2 (k + 1) := by rw [← p2_one, ← p2_add, Int.add_comm]
theorem NB.p40 {g : G} (h : NB g (2 ^ 40)) : Ab (g.1 : Rat) (p2 40) ∧ Ab (g.2 : Rat) (p2 40) := by
  obtain ⟨h1, h2⟩ := h.parts (by decide)
  have e : ((2 ^ 40 : Int)).toNat = 2 ^ 40 := by decide
  rw [e] at h1 h2
  exact ⟨ab_int h1, ab_int h2⟩
theorem fin_near {x : F} {r t T : Rat} (hx : RV x r) (hn : Nr r t (128 * (T * uu))) (ht : Ab t T) (hT : 1 ≤ T) (hT2 : T ≤ p2 900) : ffin x = true := by
  obtain ⟨s1, s2⟩ := small_mul hT
  refine hx.fin ?_
  have h1 : 2 * T ≤ p2 1001 := by
    have h2 : p2 1001 = p2 900 * p2 101 := by rw [← p2_add]; rfl
    have h3 : (2 : Rat) ≤ p2 101 := by have := p2_mono (show (1 : Int) ≤ 101 by decide); rwa [p2_one] at this
    have h4 := Rat.mul_le_mul_of_nonneg_right hT2 (show (0 : Rat) ≤ 2 by decide)
    have h5 := Rat.mul_le_mul_of_nonneg_left h3 (Rat.le_of_lt (p2_pos 900))
    rw [h2]; grind
  unfold Nr at hn
  unfold Ab at *
  grind
theorem cdiv_fin {x y : C} {g h : G} (hx : WC x g) (hy : WC y h) (h0 : h ≠ g0) (hg : NB g (2 ^ 40)) (hh : NB h (2 ^ 40)) : cfin (cdiv x y) = true := by
  obtain ⟨a1, a2⟩ := hg.p40
  obtain ⟨c1, c2⟩ := hh.p40
  obtain ⟨a, ha⟩ : ∃ a : Rat, a = (g.1 : Rat) := ⟨_, rfl⟩
  obtain ⟨b, hb⟩ : ∃ a : Rat, a = (g.2 : Rat) := ⟨_, rfl⟩
  obtain ⟨c, hc⟩ : ∃ a : Rat, a = (h.1 : Rat) := ⟨_, rfl⟩
  obtain ⟨d, hd⟩ : ∃ a : Rat, a = (h.2 : Rat) := ⟨_, rfl⟩
  have hor : 1 ≤ rabs c ∨ 1 ≤ rabs d := by
    rw [hc, hd]
    by_cases h1 : h.1 = 0
    · right; exact one_int_abs fun h2 => h0 (gext h1 h2)
    · left; exact one_int_abs h1
  have rx1 := hx.1.rv
  have rx2 := hx.2.rv
  have ry1 := hy.1.rv
  have ry2 := hy.2.rv
  rw [← ha] at a1 rx1
  rw [← hb] at a2 rx2
  rw [← hc] at c1 ry1
  rw [← hd] at c2 ry2
  clear ha hb hc hd
  have sqn : ∀ v : Rat, 0 ≤ v * v := fun v => by
    by_cases h : 0 ≤ v
    · exact Rat.mul_nonneg h h
    · have := Rat.mul_nonneg (show 0 ≤ -v by grind) (show 0 ≤ -v by grind); grind
  have sq1 : ∀ v : Rat, 1 ≤ rabs v → 1 ≤ v * v := fun v h => by
    unfold rabs at h
    split at h
    · have := Rat.mul_le_mul_of_nonneg_left h (show 0 ≤ v by grind); grind
    · have := Rat.mul_le_mul_of_nonneg_left h (show 0 ≤ -v by grind); grind
  obtain ⟨s, hs⟩ : ∃ s, s = c * c + d * d := ⟨_, rfl⟩
  have hs1 : 1 ≤ s := by
    have := sqn c
    have := sqn d
    rcases hor with h | h
    · have := sq1 c h; grind
    · have := sq1 d h; grind
  have hs0 : s ≠ 0 := by grind
  obtain ⟨t1, ht1⟩ : ∃ t, t = (a * c + b * d) / s := ⟨_, rfl⟩
  obtain ⟨t2, ht2⟩ : ∃ t, t = (b * c - a * d) / s := ⟨_, rfl⟩
  have e1 : t1 * s = a * c + b * d := by rw [ht1]; exact Rat.div_mul_cancel hs0
  have e2 : t2 * s = b * c - a * d := by rw [ht2]; exact Rat.div_mul_cancel hs0
  have m1 := ab_mul a1 c1
  have m2 := ab_mul a2 c2
  have m3 := ab_mul a2 c1
  have m4 := ab_mul a1 c2
  have hTe : p2 40 * p2 40 + p2 40 * p2 40 = p2 81 := by
    rw [← p2_add]
    have := p2_two (40 + 40)
    have e : p2 (40 + 40 + 1) = p2 81 := rfl
    rw [e] at this
    grind
  have ab_of : ∀ t : Rat, Ab (t * s) (p2 81) → Ab t (p2 81) := fun t h => by
    have hp := p2_pos 81
    unfold Ab at h ⊢
    have hsp : 0 < s := by grind
    have := Rat.mul_le_mul_of_nonneg_left hs1 (Rat.le_of_lt hp)
    exact ⟨le_of_mul_pos hsp (by grind), le_of_mul_pos hsp (by grind)⟩
  have hT1 : Ab t1 (p2 81) := ab_of t1 (by rw [e1]; unfold Ab at *; grind)
  have hT2 : Ab t2 (p2 81) := ab_of t2 (by rw [e2]; unfold Ab at *; grind)
  have hsp : 0 < s := by grind
  have f1 : a = t1 * c - t2 * d := cancel_pos hsp (by
    have : (t1 * c - t2 * d) * s = (t1 * s) * c - (t2 * s) * d := by grind
    rw [this, e1, e2, hs]; grind)
  have f2 : b = t1 * d + t2 * c := cancel_pos hsp (by
    have : (t1 * d + t2 * c) * s = (t1 * s) * d + (t2 * s) * c := by grind
    rw [this, e1, e2, hs]; grind)
  have hTone : 1 ≤ p2 81 := by have := p2_mono (show (0 : Int) ≤ 81 by decide); rwa [p2_zero] at this
  have room : ∀ m : Rat, Ab m (p2 40) → 2 * (p2 81 * rabs m) ≤ p2 900 := fun m h => by
    have h1 := Rat.mul_le_mul_of_nonneg_left (ab_rabs h) (Rat.le_of_lt (p2_pos 81))
    have h2 : 2 * (p2 81 * p2 40) = p2 122 := by rw [← p2_add, p2_two]; rfl
    have h3 := p2_mono (show (122 : Int) ≤ 900 by decide)
    grind
  obtain ⟨r1, r2, q1, q2, q3, q4⟩ := cd_near rx1 rx2 ry1 ry2 f1 f2 hT1 hT2 hTone hor (room c c1) (room d c2)
  have h900 := p2_mono (show (81 : Int) ≤ 900 by decide)
  unfold cfin
  have k1 := fin_near q1 q3 hT1 hTone h900
  have k2 := fin_near q2 q4 hT2 hTone h900
  have e : cdiv x y = cdiv (x.1, x.2) (y.1, y.2) := rfl
  rw [e, k1, k2]; rfl
/-- Where the quotient is whole. -/
theorem cdiv_whole {x y : C} {t h : G} (hx : WC x (gmul t h)) (hy : WC y h) (h0 : h ≠ g0) (ht : t.1.natAbs ≤ 8 ∧ t.2.natAbs ≤ 8) (hh : NB h (2 ^ 40)) :
    ∃ r1 r2, RV (cdiv x y).1 r1 ∧ RV (cdiv x y).2 r2 ∧ Nr r1 (t.1 : Rat) (p2 (-43)) ∧ Nr r2 (t.2 : Rat) (p2 (-43)) := by
  obtain ⟨c1, c2⟩ := hh.p40
  have rx1 := hx.1.rv
  have rx2 := hx.2.rv
  have e1 : ((gmul t h).1 : Rat) = (t.1 : Rat) * (h.1 : Rat) - (t.2 : Rat) * (h.2 : Rat) := by
    show ((t.1 * h.1 - t.2 * h.2 : Int) : Rat) = _
    rw [Rat.intCast_sub, Rat.intCast_mul, Rat.intCast_mul]
  have e2 : ((gmul t h).2 : Rat) = (t.1 : Rat) * (h.2 : Rat) + (t.2 : Rat) * (h.1 : Rat) := by
    show ((t.1 * h.2 + t.2 * h.1 : Int) : Rat) = _
    rw [Rat.intCast_add, Rat.intCast_mul, Rat.intCast_mul]
  have hor : 1 ≤ rabs (h.1 : Rat) ∨ 1 ≤ rabs (h.2 : Rat) := by
    by_cases h1 : h.1 = 0
    · right; exact one_int_abs fun h2 => h0 (gext h1 h2)
    · left; exact one_int_abs h1
  have t1 : Ab (t.1 : Rat) (p2 3) := ab_int ht.1
  have t2 : Ab (t.2 : Rat) (p2 3) := ab_int ht.2
  have hTone : 1 ≤ p2 3 := by have := p2_mono (show (0 : Int) ≤ 3 by decide); rwa [p2_zero] at this
  have room : ∀ m : Rat, Ab m (p2 40) → 2 * (p2 3 * rabs m) ≤ p2 900 := fun m h => by
    have h1 := Rat.mul_le_mul_of_nonneg_left (ab_rabs h) (Rat.le_of_lt (p2_pos 3))
    have h2 : 2 * (p2 3 * p2 40) = p2 44 := by rw [← p2_add, p2_two]; rfl
    have h3 := p2_mono (show (44 : Int) ≤ 900 by decide)
    grind
  obtain ⟨r1, r2, q1, q2, q3, q4⟩ := cd_near rx1 rx2 hy.1.rv hy.2.rv e1 e2 t1 t2 hTone hor (room _ c1) (room _ c2)
  have e : 128 * (p2 3 * uu) = p2 (-43) := by
    have h7 : (128 : Rat) = p2 7 := by rw [show p2 7 = ((2 ^ 7 : Nat) : Rat) from p2_nat 7]; rfl
    unfold uu
    rw [h7, ← p2_add, ← p2_add]; rfl
  rw [e] at q3 q4
  exact ⟨r1, r2, q1, q2, q3, q4⟩
end Go.Proofs.Ytonmjdhdkkmjlaa

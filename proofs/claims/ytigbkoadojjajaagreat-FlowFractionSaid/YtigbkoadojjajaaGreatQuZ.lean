/- Plain: a quotient of floats as a fraction. No program in sight. -/
import Derived.Test.YtigbkoadojjajaaGreatW8Z
set_option linter.unusedSimpArgs false
set_option linter.unusedVariables false
set_option linter.unusedVariables false
set_option linter.unusedSimpArgs false
namespace Go.Proofs.YtigbkoadojjajaaGreat
open Ieee

theorem sg_sq (s : Bool) : sg s * sg s = 1 := by unfold sg; cases s <;> simp <;> grind
theorem le_of_mul_pos {a b c : Rat} (hc : 0 < c) (h : a * c ≤ b * c) : a ≤ b := by
  by_cases hab : a ≤ b
  · exact hab
  · have h1 : b < a := by grind
    have h2 := Rat.mul_lt_mul_of_pos_right h1 hc
    grind
theorem cancel_pos {a b c : Rat} (hc : 0 < c) (h : a * c = b * c) : a = b := by
  have h1 := le_of_mul_pos hc (show a * c ≤ b * c by grind)
  have h2 := le_of_mul_pos hc (show b * c ≤ a * c by grind)
  grind
theorem qh1 (M n d P F T : Rat) (hp1 : P*2 = F) (hTE : T*n = d*F) (c : M*n*P ≤ (2*d+n)*P) : M*P*n ≤ (T+P)*n := by
  subst hp1
  grind
theorem qh2 (M n d P F T : Rat) (hp1 : P*2 = F) (hTE : T*n = d*F) (c : 2*d*P ≤ (M*n+n)*P) : T*n ≤ (M*P+P)*n := by
  subst hp1
  grind
theorem qh3 (T n q F : Rat) (h : q*n*F ≤ T*n) : q*F*n ≤ T*n := by grind
theorem qh4 (P F T q r : Rat) (hp1 : P*2 = F) (e : q*r*2 = 1) (h : q*F*r ≤ T*r) : P ≤ T*r := by
  subst hp1
  have : q * (P*2) * r = P * (q*r*2) := by grind
  rw [this, e] at h
  grind
def e51 (B : Rat) : Rat := B * p2 (-51) + p2 (-1075)
theorem quot_near {m n : Nat} {i j : Int} {T : Rat} (hn : n ≠ 0) (hT : T * ((n : Rat) * p2 j) = (m : Rat) * p2 i) {more : Nat} (hmore : more = 54 + n.log2 - m.log2) :
    Nr (((2 * ((m <<< more) / n) + ((m <<< more) % n != 0).toNat : Nat) : Rat) * p2 (i - j - more - 1)) T (T * p2 (-54)) ∧ 0 ≤ T := by
  have hn1 : (1 : Rat) ≤ (n : Rat) := by
    have : ((1 : Nat) : Rat) ≤ (n : Rat) := Rat.natCast_le_natCast.2 (by omega)
    simpa using this
  have hn0 : (0 : Rat) < (n : Rat) := by grind
  have hnj : 0 < (n : Rat) * p2 j := Rat.mul_pos hn0 (p2_pos j)
  have hT0 : 0 ≤ T := by
    refine le_of_mul_pos hnj ?_
    rw [hT, Rat.zero_mul]; exact mag_nn m i
  refine ⟨?_, hT0⟩
  obtain ⟨E, hE⟩ : ∃ E : Int, E = i - j - more := ⟨_, rfl⟩
  have hTE : T * (n : Rat) = ((m <<< more : Nat) : Rat) * p2 E := by
    have h1 : T * (n : Rat) * p2 j = (m : Rat) * p2 (i - j) * p2 j := by
      rw [Rat.mul_assoc, hT, Rat.mul_assoc, ← p2_add]
      rw [show i - j + j = i by omega]
    have h2 : T * (n : Rat) = (m : Rat) * p2 (i - j) := by
      exact cancel_pos (p2_pos j) h1
    rw [h2, Nat.shiftLeft_eq, nat_p2, Rat.mul_assoc, ← p2_add]
    rw [show (more : Int) + E = i - j by omega]
  by_cases hm : m = 0
  · subst hm
    have hz : T = 0 := by
      have : T * (n : Rat) = 0 := by rw [hTE]; simp
      rcases Rat.mul_eq_zero.1 this with h | h
      · exact h
      · exact absurd h (Rat.ne_of_gt hn0)
    rw [hz]
    unfold Nr
    simp
    grind
  · have hdn : 2 ^ 53 * n ≤ m <<< more := by
      rw [Nat.shiftLeft_eq]
      have h1 : 2 ^ m.log2 ≤ m := Nat.log2_self_le hm
      have h2 : n < 2 ^ (n.log2 + 1) := Nat.lt_log2_self
      have h3 : 2 ^ m.log2 * 2 ^ more ≤ m * 2 ^ more := Nat.mul_le_mul_right _ h1
      rw [← Nat.pow_add] at h3
      have h4 : 2 ^ (53 + (n.log2 + 1)) ≤ 2 ^ (m.log2 + more) := Nat.pow_le_pow_right (by omega) (by omega)
      rw [Nat.pow_add 2 53] at h4
      have h5 : 2 ^ 53 * n ≤ 2 ^ 53 * 2 ^ (n.log2 + 1) := Nat.mul_le_mul_left _ (by omega)
      omega
    obtain ⟨d, hd⟩ : ∃ d, d = m <<< more := ⟨_, rfl⟩
    rw [← hd] at hTE hdn ⊢
    rw [show i - j - (more : Int) - 1 = E + -1 by omega]
    have hdm := Nat.div_add_mod d n
    have hr := Nat.mod_lt d (by omega : 0 < n)
    obtain ⟨Q, hQ⟩ : ∃ Q, Q = d / n := ⟨_, rfl⟩
    obtain ⟨R, hR⟩ : ∃ R, R = d % n := ⟨_, rfl⟩
    rw [← hQ, ← hR] at hdm
    rw [← hR] at hr
    rw [← hQ, ← hR]
    -- twice
    have k1 : (2 * Q + (R != 0).toNat) * n ≤ 2 * d + n := by
      rw [Nat.add_mul, Nat.mul_assoc, Nat.mul_comm Q n]
      by_cases h0 : R = 0
      · subst h0; simp; omega
      · have : (R != 0) = true := by simpa using h0
        rw [this]; simp; omega
    have k2 : 2 * d ≤ (2 * Q + (R != 0).toNat) * n + n := by
      rw [Nat.add_mul, Nat.mul_assoc, Nat.mul_comm Q n]
      by_cases h0 : R = 0
      · subst h0; simp; omega
      · have : (R != 0) = true := by simpa using h0
        rw [this]; simp; omega
    obtain ⟨M, hM⟩ : ∃ M, M = 2 * Q + (R != 0).toNat := ⟨_, rfl⟩
    rw [← hM] at k1 k2 ⊢
    have c1 : (M : Rat) * (n : Rat) ≤ 2 * (d : Rat) + (n : Rat) := by
      have : ((M * n : Nat) : Rat) ≤ ((2 * d + n : Nat) : Rat) := Rat.natCast_le_natCast.2 k1
      rw [Rat.natCast_mul, Rat.natCast_add, Rat.natCast_mul] at this
      exact this
    have c2 : 2 * (d : Rat) ≤ (M : Rat) * (n : Rat) + (n : Rat) := by
      have : ((2 * d : Nat) : Rat) ≤ ((M * n + n : Nat) : Rat) := Rat.natCast_le_natCast.2 k2
      rw [Rat.natCast_mul, Rat.natCast_add, Rat.natCast_mul] at this
      exact this
    have c3 : p2 53 * (n : Rat) ≤ (d : Rat) := by
      have : ((2 ^ 53 * n : Nat) : Rat) ≤ (d : Rat) := Rat.natCast_le_natCast.2 hdn
      rw [Rat.natCast_mul] at this
      have e : p2 53 = ((2 ^ 53 : Nat) : Rat) := p2_nat 53
      rw [e]; exact this
    have hpE := p2_pos E
    have hp1 : p2 (E + -1) * 2 = p2 E := by
      rw [← p2_one, ← p2_add, show E + -1 + 1 = E by omega]
    have hp1p := p2_pos (E + -1)
    -- the two are no further than half a unit from one another
    have b1 : (M : Rat) * p2 (E + -1) ≤ T + p2 (E + -1) := by
      refine le_of_mul_pos hn0 ?_
      exact qh1 _ _ _ _ _ _ hp1 hTE (Rat.mul_le_mul_of_nonneg_right c1 (Rat.le_of_lt hp1p))
    have b2 : T ≤ (M : Rat) * p2 (E + -1) + p2 (E + -1) := by
      refine le_of_mul_pos hn0 ?_
      exact qh2 _ _ _ _ _ _ hp1 hTE (Rat.mul_le_mul_of_nonneg_right c2 (Rat.le_of_lt hp1p))
    have b3 : p2 (E + -1) ≤ T * p2 (-54) := by
      have h54 := p2_pos (-54)
      have e54 : p2 53 * p2 (-54) * 2 = 1 := by
        rw [← p2_add, ← p2_one, ← p2_add]
        exact p2_zero
      have h1 : p2 53 * (n : Rat) * p2 E ≤ T * (n : Rat) := by
        rw [hTE]
        exact Rat.mul_le_mul_of_nonneg_right c3 (Rat.le_of_lt hpE)
      have h2 : p2 53 * p2 E ≤ T := by
        exact le_of_mul_pos hn0 (qh3 _ _ _ _ h1)
      exact qh4 _ _ _ _ _ hp1 e54 (Rat.mul_le_mul_of_nonneg_right h2 (Rat.le_of_lt h54))
    unfold Nr
    grind
variable {x y : F} {p q v B : Rat}
theorem RV.div (hx : RV x p) (hy : RV y q) (hq : q ≠ 0) (hv : p = v * q) (hB : Ab v B) (hB2 : B ≤ p2 999) : ∃ r, RV (fdiv x y) r ∧ Nr r v (e51 B) := by
  obtain ⟨a, s, m, i, rfl, h1, rfl⟩ := hx
  obtain ⟨b, t, n, j, rfl, h2, rfl⟩ := hy
  have hn : n ≠ 0 := fun h => by
    subst h
    exact hq (by unfold nv; simp)
  obtain ⟨T, hTv⟩ : ∃ T, T = sg (s ^^ t) * v := ⟨_, rfl⟩
  have hv2 : v = sg (s ^^ t) * T := by
    have := sg_sq (s ^^ t)
    rw [hTv]; grind
  have hT : T * ((n : Rat) * p2 j) = (m : Rat) * p2 i := by
    unfold nv at hv
    have e1 := sg_sq s
    have e2 := sg_sq t
    have e3 := sg_xor s t
    rw [hTv, e3]
    have : sg s * (sg s * ((m : Rat) * p2 i)) = sg s * (v * (sg t * ((n : Rat) * p2 j))) := by rw [hv]
    rw [← Rat.mul_assoc, e1] at this
    grind
  obtain ⟨hN, hT0⟩ := quot_near hn hT rfl
  have hTB : T ≤ B := by
    rw [hTv]
    unfold sg
    split
    · have := hB.2; grind
    · have := hB.1; grind
  obtain ⟨more, hmo⟩ : ∃ more, more = 54 + n.log2 - m.log2 := ⟨_, rfl⟩
  rw [← hmo] at hN
  obtain ⟨mg, hmg⟩ : ∃ mg, mg = 2 * ((m <<< more) / n) + ((m <<< more) % n != 0).toNat := ⟨_, rfl⟩
  rw [← hmg] at hN
  obtain ⟨pl, hpl⟩ : ∃ pl : Int, pl = i - j - more - 1 := ⟨_, rfl⟩
  rw [← hpl] at hN
  have hB0 : 0 ≤ B := Rat.le_trans hT0 hTB
  have h54 := p2_pos (-54)
  have h54b : p2 (-54) ≤ 1 := by
    have := p2_mono (show (-54 : Int) ≤ 0 by decide)
    rwa [p2_zero] at this
  have hT54 : T * p2 (-54) ≤ B * p2 (-54) := Rat.mul_le_mul_of_nonneg_right hTB (Rat.le_of_lt h54)
  have hB54 : B * p2 (-54) ≤ B := by
    have := Rat.mul_le_mul_of_nonneg_left h54b hB0
    rwa [Rat.mul_one] at this
  have hAb : Ab (nv (s ^^ t) mg pl) (2 * B) := abs_nv (by unfold Nr at hN; grind)
  have h2B : 2 * B ≤ p2 1000 := by
    have : p2 1000 = 2 * p2 999 := by rw [← p2_one, ← p2_add]; rfl
    rw [this]; grind
  obtain ⟨r, h5, h6⟩ := RV.write (s ^^ t) mg pl hAb h2B
  refine ⟨r, ?_, ?_⟩
  · have : fdiv (some a) (some b) = some (double.write (.number (s ^^ t) mg pl)) := by
      show ((double.read a).quotient 54 (double.read b)).map double.write = _
      rw [h1, h2]
      unfold Datum.quotient
      simp only [if_neg hn]
      rw [← hmo, ← hmg, ← hpl]; rfl
    rw [this]; exact h5
  · have e53' : p2 (-53) = 2 * p2 (-54) := by rw [← p2_one, ← p2_add]; rfl
    have e51' : p2 (-51) = 8 * p2 (-54) := by
      have : (8 : Rat) = p2 3 := by rw [show p2 3 = ((2 ^ 3 : Nat) : Rat) from p2_nat 3]; rfl
      rw [this, ← p2_add]; rfl
    have ht := p2_pos (-1075)
    have hnn : Nr (nv (s ^^ t) mg pl) v (B * p2 (-54)) := by
      rw [hv2]
      unfold Nr at hN ⊢
      unfold nv
      unfold sg
      split <;> grind
    unfold Nr e53 at h6
    unfold Nr at hnn ⊢
    unfold e51
    rw [e51']
    rw [e53'] at h6
    have hb := Rat.mul_nonneg hB0 (Rat.le_of_lt h54)
    grind
end Go.Proofs.YtigbkoadojjajaaGreat

/- Plain: a complex quotient in floats is near the true one. No program in sight. -/
set_option linter.unusedVariables false
set_option linter.unusedSimpArgs false
namespace Go.Proofs.YtigbkoadojjajaaGreat
open Ieee

def uu : Rat := p2 (-53)
def ww : Rat := p2 (-1075)
theorem uu_pos : 0 < uu := p2_pos _
theorem ww_uu : ww ≤ uu := p2_mono (by decide)
theorem uu_small : 1000000 * uu ≤ 1 := by
  have h1 : p2 20 * uu ≤ 1 := by
    show p2 20 * p2 (-53) ≤ 1
    rw [← p2_add]
    have := p2_mono (show (20 : Int) + -53 ≤ 0 by decide)
    rwa [p2_zero] at this
  have h2 : p2 20 = 1048576 := by rw [show p2 20 = ((2 ^ 20 : Nat) : Rat) from p2_nat 20]; rfl
  have := uu_pos
  rw [h2] at h1
  grind
theorem e53_eq (B : Rat) : e53 B = B * uu + ww := rfl
theorem e51_eq (B : Rat) : e51 B = 4 * (B * uu) + ww := by
  unfold e51 uu ww
  have : p2 (-51) = 4 * p2 (-53) := by
    have h4 : (4 : Rat) = p2 2 := by rw [show p2 2 = ((2 ^ 2 : Nat) : Rat) from p2_nat 2]; rfl
    rw [h4, ← p2_add]; rfl
  rw [this]; grind
theorem ab_mul {p q A B : Rat} (hp : Ab p A) (hq : Ab q B) : Ab (p * q) (A * B) := by
  unfold Ab at *
  have h1 : 0 ≤ (A - p) * (B + q) := Rat.mul_nonneg (by grind) (by grind)
  have h2 : 0 ≤ (A + p) * (B - q) := Rat.mul_nonneg (by grind) (by grind)
  have h3 : 0 ≤ (A - p) * (B - q) := Rat.mul_nonneg (by grind) (by grind)
  have h4 : 0 ≤ (A + p) * (B + q) := Rat.mul_nonneg (by grind) (by grind)
  grind
theorem nr_ab {r q e : Rat} : Nr r q e ↔ Ab (r - q) e := by unfold Nr Ab; grind
theorem nr_mul {p r q A e : Rat} (hp : Ab p A) (h : Nr r q e) : Nr (p * r) (p * q) (A * e) := by
  rw [nr_ab] at h ⊢
  have := ab_mul hp h
  have e : p * r - p * q = p * (r - q) := by grind
  rw [e]; exact this
theorem ab_nn {p A : Rat} (h : Ab p A) : 0 ≤ A := by unfold Ab at h; grind
theorem small_quot {c d k g : Rat} (hg : 0 < g) (h1 : Ab (c * d) (k * g)) (h2 : g ≤ 2 * d ∨ 2 * d ≤ -g) : Ab c (2 * k) := by
  have hk : 0 ≤ k := by
    have := ab_nn h1
    refine le_of_mul_pos hg ?_
    rw [Rat.zero_mul]; exact this
  unfold Ab at h1 ⊢
  rcases h2 with h | h
  · have hpos : 0 < d := by grind
    have h3 := Rat.mul_le_mul_of_nonneg_left h hk
    exact ⟨le_of_mul_pos hpos (by grind), le_of_mul_pos hpos (by grind)⟩
  · have hpos : 0 < -d := by grind
    have h3 := Rat.mul_le_mul_of_nonneg_left (show g ≤ 2 * -d by grind) hk
    exact ⟨le_of_mul_pos hpos (by grind), le_of_mul_pos hpos (by grind)⟩
variable {x y : F} {p q v B M g T : Rat}
/-- The quotient of the smaller by the greater. -/
theorem cd_k (hx : RV x p) (hy : RV y q) (hq : q ≠ 0) (hle : Ab p (rabs q)) : ∃ v r, RV (fdiv x y) r ∧ p = v * q ∧ Ab v 1 ∧ Nr r v (5 * uu) := by
  have hv : p = p / q * q := (Rat.div_mul_cancel hq).symm
  have hA : Ab (p / q) 1 := by
    generalize p / q = v at hv
    subst hv
    unfold rabs at hle
    unfold Ab at hle ⊢
    split at hle
    · have : 0 < q := by grind
      exact ⟨le_of_mul_pos this (by grind), le_of_mul_pos this (by grind)⟩
    · have : 0 < -q := by grind
      exact ⟨le_of_mul_pos this (by grind), le_of_mul_pos this (by grind)⟩
  obtain ⟨r, h1, h2⟩ := RV.div hx hy hq hv hA (by rw [← p2_zero]; exact p2_mono (by decide))
  refine ⟨_, r, h1, hv, hA, ?_⟩
  rw [e51_eq] at h2
  have := ww_uu
  unfold Nr at h2 ⊢
  grind
/-- A product with it. -/
theorem cd_m {k : F} {rk : Rat} (hx : RV x p) (hp : Ab p M) (hM : 1 ≤ M) (hM2 : M ≤ p2 900) (hk : RV k rk) (hv : Ab v 1) (hn : Nr rk v (5 * uu)) : ∃ r, RV (fmul x k) r ∧ Nr r (p * v) (8 * (M * uu)) := by
  have h1 := nr_mul hp hn
  have hu := uu_pos
  have hus := uu_small
  have hw := ww_uu
  have hk2 : Ab rk 2 := by unfold Nr at hn; unfold Ab at hv ⊢; grind
  have hB : M * 2 ≤ p2 1000 := by
    have h2 : p2 1000 = p2 900 * p2 100 := by rw [← p2_add]; rfl
    have h3 : (2 : Rat) ≤ p2 100 := by have := p2_mono (show (1 : Int) ≤ 100 by decide); rwa [p2_one] at this
    have h4 := Rat.mul_le_mul_of_nonneg_right hM2 (show (0 : Rat) ≤ 2 by decide)
    have h5 := Rat.mul_le_mul_of_nonneg_left h3 (Rat.le_of_lt (p2_pos 900))
    rw [h2]; grind
  obtain ⟨r, h2, h3⟩ := RV.mul hx hk (ab_mul hp hk2) hB
  refine ⟨r, h2, ?_⟩
  rw [e53_eq] at h3
  have hMu : uu ≤ M * uu := by
    have := Rat.mul_le_mul_of_nonneg_right hM (Rat.le_of_lt hu)
    rwa [Rat.one_mul] at this
  unfold Nr at h1 h3 ⊢
  grind
theorem sum_room (hM2 : M ≤ p2 900) : 3 * M ≤ p2 1000 := by
  have h2 : p2 1000 = p2 900 * p2 100 := by rw [← p2_add]; rfl
  have h3 : (3 : Rat) ≤ p2 100 := by
    have h4 := p2_mono (show (2 : Int) ≤ 100 by decide)
    have h5 : p2 2 = 4 := by rw [show p2 2 = ((2 ^ 2 : Nat) : Rat) from p2_nat 2]; rfl
    grind
  have h4 := Rat.mul_le_mul_of_nonneg_right hM2 (show (0 : Rat) ≤ 3 by decide)
  have h5 := Rat.mul_le_mul_of_nonneg_left h3 (Rat.le_of_lt (p2_pos 900))
  rw [h2]; grind
theorem small_mul (hM : 1 ≤ M) : 1000000 * (M * uu) ≤ M ∧ uu ≤ M * uu := by
  have hu := uu_pos
  have h1 := Rat.mul_le_mul_of_nonneg_left uu_small (show 0 ≤ M by grind)
  have h2 := Rat.mul_le_mul_of_nonneg_right hM (Rat.le_of_lt hu)
  grind
theorem cd_add {q' : Rat} (hx : RV x p) (hy : RV y q') (hn : Nr q' q (8 * (M * uu))) (hp : Ab p M) (hq : Ab q M) (hM : 1 ≤ M) (hM2 : M ≤ p2 900) : ∃ r, RV (fadd x y) r ∧ Nr r (p + q) (12 * (M * uu)) := by
  obtain ⟨s1, s2⟩ := small_mul hM
  have hw := ww_uu
  obtain ⟨r, h2, h3⟩ := RV.add hx hy (B := 3 * M) (by unfold Ab at *; unfold Nr at hn; grind) (sum_room hM2)
  refine ⟨r, h2, ?_⟩
  rw [e53_eq] at h3
  unfold Nr at hn h3 ⊢
  grind
theorem cd_add' {q' : Rat} (hx : RV x p) (hy : RV y q') (hn : Nr q' q (8 * (M * uu))) (hp : Ab p M) (hq : Ab q M) (hM : 1 ≤ M) (hM2 : M ≤ p2 900) : ∃ r, RV (fadd y x) r ∧ Nr r (q + p) (12 * (M * uu)) := by
  obtain ⟨s1, s2⟩ := small_mul hM
  have hw := ww_uu
  obtain ⟨r, h2, h3⟩ := RV.add hy hx (B := 3 * M) (by unfold Ab at *; unfold Nr at hn; grind) (sum_room hM2)
  refine ⟨r, h2, ?_⟩
  rw [e53_eq] at h3
  unfold Nr at hn h3 ⊢
  grind
theorem cd_sub {q' : Rat} (hx : RV x p) (hy : RV y q') (hn : Nr q' q (8 * (M * uu))) (hp : Ab p M) (hq : Ab q M) (hM : 1 ≤ M) (hM2 : M ≤ p2 900) : ∃ r, RV (fsub x y) r ∧ Nr r (p - q) (12 * (M * uu)) := by
  obtain ⟨s1, s2⟩ := small_mul hM
  have hw := ww_uu
  obtain ⟨r, h2, h3⟩ := RV.sub hx hy (B := 3 * M) (by unfold Ab at *; unfold Nr at hn; grind) (sum_room hM2)
  refine ⟨r, h2, ?_⟩
  rw [e53_eq] at h3
  unfold Nr at hn h3 ⊢
  grind
theorem cd_sub' {q' : Rat} (hx : RV x p) (hy : RV y q') (hn : Nr q' q (8 * (M * uu))) (hp : Ab p M) (hq : Ab q M) (hM : 1 ≤ M) (hM2 : M ≤ p2 900) : ∃ r, RV (fsub y x) r ∧ Nr r (q - p) (12 * (M * uu)) := by
  obtain ⟨s1, s2⟩ := small_mul hM
  have hw := ww_uu
  obtain ⟨r, h2, h3⟩ := RV.sub hy hx (B := 3 * M) (by unfold Ab at *; unfold Nr at hn; grind) (sum_room hM2)
  refine ⟨r, h2, ?_⟩
  rw [e53_eq] at h3
  unfold Nr at hn h3 ⊢
  grind
theorem rabs_ab {p A : Rat} (h : rabs p ≤ A) : Ab p A := by unfold rabs at h; unfold Ab; split at h <;> grind
theorem ab_rabs {p A : Rat} (h : Ab p A) : rabs p ≤ A := by unfold Ab at h; unfold rabs; split <;> grind
end Go.Proofs.YtigbkoadojjajaaGreat

/- Plain: a complex quotient in floats is near the true one, in proportion. No program in sight. -/
set_option linter.unusedVariables false
set_option linter.unusedSimpArgs false
namespace Go.Proofs.YtigbkoadojjajaaGreat
open Ieee
variable {x y : F} {p q v B M g T : Rat}
/-- The last quotient: what is above and what is below are near the true ones. -/
theorem cd_divR {n n' d d' t : Rat} (hx : RV x n') (hy : RV y d') (hn : Nr n' n (12 * (2 * (T * g) * uu))) (hd : Nr d' d (12 * (g * uu))) (ht : n = t * d) (hT : Ab t T) (hT1 : p2 (-900) ≤ T) (hT2 : T ≤ p2 900) (hg : 1 ≤ g) (hdg : g ≤ d ∨ d ≤ -g) :
    ∃ r, RV (fdiv x y) r ∧ Nr r t (128 * (T * uu)) := by
  obtain ⟨s1, s2⟩ := small_mul hg
  have hT0 : 0 ≤ T := by have := p2_pos (-900); grind
  have s3 : 1000000 * (T * uu) ≤ T := by
    have := Rat.mul_le_mul_of_nonneg_left uu_small hT0
    grind
  have hwT : ww ≤ T * uu := by
    have h1 := Rat.mul_le_mul_of_nonneg_right hT1 (Rat.le_of_lt uu_pos)
    have h2 : p2 (-900) * uu = p2 (-953) := by unfold uu; rw [← p2_add]; rfl
    have h3 : ww ≤ p2 (-953) := p2_mono (by decide)
    grind
  have hw := ww_uu
  have hu := uu_pos
  have hg0 : 0 < g := by grind
  have hTu : 0 ≤ T * uu := Rat.mul_nonneg hT0 (Rat.le_of_lt hu)
  have hdb : g ≤ 2 * d' ∨ 2 * d' ≤ -g := by
    unfold Nr at hd
    rcases hdg with h | h
    · left; grind
    · right; grind
  have hd0 : d' ≠ 0 := by rcases hdb with h | h <;> grind
  -- how far above is from t times below
  have hnd : Ab (n' - t * d') (36 * (T * g * uu)) := by
    have h1 : Nr (t * d') (t * d) (T * (12 * (g * uu))) := nr_mul hT hd
    rw [← ht] at h1
    unfold Nr at h1 hn
    unfold Ab
    grind
  have hq : n' = n' / d' * d' := (Rat.div_mul_cancel hd0).symm
  obtain ⟨z, hz⟩ : ∃ z, z = n' / d' := ⟨_, rfl⟩
  rw [← hz] at hq
  have hzt : Ab (z - t) (72 * (T * uu)) := by
    have e : n' - t * d' = (z - t) * d' := by rw [hq]; grind
    rw [e] at hnd
    generalize z - t = c at hnd ⊢
    have hk : 36 * (T * g * uu) = (36 * (T * uu)) * g := by grind
    rw [hk] at hnd
    have := small_quot hg0 hnd hdb
    unfold Ab at this ⊢
    grind
  have hzB : Ab z (2 * T) := by unfold Ab at *; grind
  have h2T : 2 * T ≤ p2 999 := by
    have h2 : p2 999 = p2 900 * p2 99 := by rw [← p2_add]; rfl
    have h3 : (2 : Rat) ≤ p2 99 := by have := p2_mono (show (1 : Int) ≤ 99 by decide); rwa [p2_one] at this
    have h4 := Rat.mul_le_mul_of_nonneg_right hT2 (show (0 : Rat) ≤ 2 by decide)
    have h5 := Rat.mul_le_mul_of_nonneg_left h3 (Rat.le_of_lt (p2_pos 900))
    rw [h2]; grind
  obtain ⟨r, h1, h2⟩ := RV.div hx hy hd0 hq hzB h2T
  refine ⟨r, h1, ?_⟩
  rw [e51_eq] at h2
  unfold Nr at h2 ⊢
  unfold Ab at hzt
  grind
/-- One way round: what is below is c + d v, with d = v c. -/
theorem cd_nearR {a1 a2 b1 b2 : F} {a b c d t1 t2 : Rat} (ha : RV a1 a) (hb : RV a2 b) (hc : RV b1 c) (hd : RV b2 d) (h1 : a = t1 * c - t2 * d) (h2 : b = t1 * d + t2 * c) (hT1 : Ab t1 T) (hT2 : Ab t2 T) (hT : p2 (-900) ≤ T) (hT9 : T ≤ p2 900) (hM0 : ∀ g, rabs c ≤ g → rabs d ≤ g → 1 ≤ 2 * (T * g)) (hg : 1 ≤ rabs c ∨ 1 ≤ rabs d) (hgc : rabs c ≤ p2 900) (hgd' : rabs d ≤ p2 900) (hTm : 2 * (T * rabs c) ≤ p2 900) (hTm' : 2 * (T * rabs d) ≤ p2 900) :
    ∃ r1 r2, RV (cdiv (a1, a2) (b1, b2)).1 r1 ∧ RV (cdiv (a1, a2) (b1, b2)).2 r2 ∧ Nr r1 t1 (128 * (T * uu)) ∧ Nr r2 t2 (128 * (T * uu)) := by
  have hT0 : 0 ≤ T := by have := p2_pos (-900); grind
  unfold cdiv
  dsimp only
  by_cases hle : rabs d ≤ rabs c
  · have hge : fge (fabs b1) (fabs b2) = true := by rw [hc.abs.ge hd.abs]; exact decide_eq_true hle
    rw [if_pos hge]
    dsimp only
    obtain ⟨g, hgd⟩ : ∃ g, g = rabs c := ⟨_, rfl⟩
    rw [← hgd] at hle hTm hgc
    have hg1 : 1 ≤ g := by rcases hg with h | h <;> grind
    have hac : Ab c g := rabs_ab (by grind)
    have had : Ab d g := rabs_ab hle
    have hc0 : c ≠ 0 := by
      rintro rfl
      unfold rabs at hgd
      simp at hgd
      grind
    obtain ⟨v, rk, k1, k2, k3, k4⟩ := cd_k hd hc hc0 (by rw [← hgd]; exact had)
    have hgr := hgc
    obtain ⟨rm, m1, m2⟩ := cd_m hd had hg1 hgr k1 k3 k4
    have hdv : Ab (d * v) g := by have := ab_mul had k3; rwa [Rat.mul_one] at this
    obtain ⟨rd, d1, d2⟩ := cd_add hc m1 m2 hac hdv hg1 hgr
    obtain ⟨M, hM⟩ : ∃ M, M = 2 * (T * g) := ⟨_, rfl⟩
    have hM1 : 1 ≤ M := by rw [hM]; exact hM0 g (by grind) (by grind)
    have hM2 : M ≤ p2 900 := by rw [hM]; exact hTm
    have q1 := ab_mul hT1 hac
    have q2 := ab_mul hT2 had
    have q3 := ab_mul hT1 had
    have q4 := ab_mul hT2 hac
    have haM : Ab a M := by rw [h1, hM]; unfold Ab at *; grind
    have hbM : Ab b M := by rw [h2, hM]; unfold Ab at *; grind
    have hav : Ab (a * v) M := by have := ab_mul haM k3; rwa [Rat.mul_one] at this
    have hbv : Ab (b * v) M := by have := ab_mul hbM k3; rwa [Rat.mul_one] at this
    obtain ⟨x1, x2, x3⟩ := cd_m hb hbM hM1 hM2 k1 k3 k4
    obtain ⟨y1, y2, y3⟩ := cd_add ha x2 x3 haM hbv hM1 hM2
    obtain ⟨z1, z2, z3⟩ := cd_m ha haM hM1 hM2 k1 k3 k4
    obtain ⟨w1, w2, w3⟩ := cd_sub hb z2 z3 hbM hav hM1 hM2
    have hN : g ≤ c + d * v ∨ c + d * v ≤ -g := by
      have hsq : 0 ≤ v * v := by
        by_cases h : 0 ≤ v
        · exact Rat.mul_nonneg h h
        · have := Rat.mul_nonneg (show 0 ≤ -v by grind) (show 0 ≤ -v by grind); grind
      have e : c + d * v = c + (v * v) * c := by rw [k2]; grind
      rw [e, hgd]
      unfold rabs
      split
      · left; have := Rat.mul_nonneg hsq ‹0 ≤ c›; grind
      · right; have := Rat.mul_nonneg hsq (show 0 ≤ -c by grind); grind
    rw [hM] at y3 w3
    obtain ⟨r1, e1, e2⟩ := cd_divR y2 d1 y3 d2 (t := t1) (by rw [h1, h2, k2]; grind) hT1 hT hT9 hg1 hN
    obtain ⟨r2, e3, e4⟩ := cd_divR w2 d1 w3 d2 (t := t2) (by rw [h1, h2, k2]; grind) hT2 hT hT9 hg1 hN
    exact ⟨r1, r2, e1, e3, e2, e4⟩
  · have hge : ¬ fge (fabs b1) (fabs b2) = true := by rw [hc.abs.ge hd.abs]; simpa using hle
    rw [if_neg hge]
    dsimp only
    obtain ⟨g, hgd⟩ : ∃ g, g = rabs d := ⟨_, rfl⟩
    rw [← hgd] at hle hTm' hgd'
    have hg1 : 1 ≤ g := by rcases hg with h | h <;> grind
    have had : Ab d g := rabs_ab (by grind)
    have hac : Ab c g := rabs_ab (by grind)
    have hd0 : d ≠ 0 := by
      rintro rfl
      unfold rabs at hgd
      simp at hgd
      grind
    obtain ⟨v, rk, k1, k2, k3, k4⟩ := cd_k hc hd hd0 (by rw [← hgd]; exact hac)
    have hgr := hgd'
    obtain ⟨rm, m1, m2⟩ := cd_m hc hac hg1 hgr k1 k3 k4
    have hcv : Ab (c * v) g := by have := ab_mul hac k3; rwa [Rat.mul_one] at this
    obtain ⟨rd, d1, d2⟩ := cd_add' hd m1 m2 had hcv hg1 hgr
    obtain ⟨M, hM⟩ : ∃ M, M = 2 * (T * g) := ⟨_, rfl⟩
    have hM1 : 1 ≤ M := by rw [hM]; exact hM0 g (by grind) (by grind)
    have hM2 : M ≤ p2 900 := by rw [hM]; exact hTm'
    have q1 := ab_mul hT1 hac
    have q2 := ab_mul hT2 had
    have q3 := ab_mul hT1 had
    have q4 := ab_mul hT2 hac
    have haM : Ab a M := by rw [h1, hM]; unfold Ab at *; grind
    have hbM : Ab b M := by rw [h2, hM]; unfold Ab at *; grind
    have hav : Ab (a * v) M := by have := ab_mul haM k3; rwa [Rat.mul_one] at this
    have hbv : Ab (b * v) M := by have := ab_mul hbM k3; rwa [Rat.mul_one] at this
    obtain ⟨x1, x2, x3⟩ := cd_m ha haM hM1 hM2 k1 k3 k4
    obtain ⟨y1, y2, y3⟩ := cd_add' hb x2 x3 hbM hav hM1 hM2
    obtain ⟨z1, z2, z3⟩ := cd_m hb hbM hM1 hM2 k1 k3 k4
    obtain ⟨w1, w2, w3⟩ := cd_sub' ha z2 z3 haM hbv hM1 hM2
    have hN : g ≤ c * v + d ∨ c * v + d ≤ -g := by
      have hsq : 0 ≤ v * v := by
        by_cases h : 0 ≤ v
        · exact Rat.mul_nonneg h h
        · have := Rat.mul_nonneg (show 0 ≤ -v by grind) (show 0 ≤ -v by grind); grind
      have e : c * v + d = (v * v) * d + d := by rw [k2]; grind
      rw [e, hgd]
      unfold rabs
      split
      · left; have := Rat.mul_nonneg hsq ‹0 ≤ d›; grind
      · right; have := Rat.mul_nonneg hsq (show 0 ≤ -d by grind); grind
    rw [hM] at y3 w3
    obtain ⟨r1, e1, e2⟩ := cd_divR y2 d1 y3 d2 (t := t1) (by rw [h1, h2, k2]; grind) hT1 hT hT9 hg1 hN
    obtain ⟨r2, e3, e4⟩ := cd_divR w2 d1 w3 d2 (t := t2) (by rw [h1, h2, k2]; grind) hT2 hT hT9 hg1 hN
    exact ⟨r1, r2, e1, e3, e2, e4⟩
end Go.Proofs.YtigbkoadojjajaaGreat

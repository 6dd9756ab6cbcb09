/- Plain: complex quotients of whole numbers, in proportion; nought exactly. No program in sight. -/
import Derived.Test.YtigbkoadojjajaaGreatQuZ
import Derived.Test.YtigbkoadojjajaaGreatW8Z
set_option linter.unusedSimpArgs false
set_option linter.unusedVariables false
set_option linter.unusedVariables false
set_option linter.unusedSimpArgs false
namespace Go.Proofs.YtigbkoadojjajaaGreat
open Ieee

/-! ### Nought is exact -/
theorem nv_zero {s : Bool} {m : Nat} {k : Int} (h : nv s m k = 0) : m = 0 := by
  by_cases hm : m = 0
  · exact hm
  · exfalso
    have h1 : ((1 : Nat) : Rat) ≤ ((m : Nat) : Rat) := Rat.natCast_le_natCast.2 (by omega)
    have e1 : ((1 : Nat) : Rat) = 1 := rfl
    rw [e1] at h1
    have h2 := Rat.mul_le_mul_of_nonneg_right h1 (Rat.le_of_lt (p2_pos k))
    have h3 := p2_pos k
    unfold nv sg at h
    cases s
    · simp at h; grind
    · simp at h; grind
theorem RV.wz (s : Bool) (k : Int) : RV (some (double.write (.number s 0 k))) 0 :=
  ⟨_, s, 0, _, rfl, read_zero s k, by unfold nv; simp⟩
theorem RV.mulz {x y : F} {q : Rat} (hx : RV x 0) (hy : RV y q) : RV (fmul x y) 0 := by
  obtain ⟨a, s, m, i, rfl, h1, h2⟩ := hx
  obtain ⟨b, t, n, j, rfl, h3, h4⟩ := hy
  have hm := nv_zero h2.symm
  subst hm
  have : fmul (some a) (some b) = some (double.write (.number (s ^^ t) 0 (i + j))) := by
    show ((double.read a).product (double.read b)).map double.write = _
    rw [h1, h3]
    show some (double.write (.number (s ^^ t) (0 * n) (i + j))) = _
    rw [Nat.zero_mul]
  rw [this]; exact RV.wz _ _
theorem signed_z (s : Bool) (u : Nat) : signed s 0 u = 0 := by unfold signed; cases s <;> simp
theorem RV.addz {x y : F} (hx : RV x 0) (hy : RV y 0) : RV (fadd x y) 0 := by
  obtain ⟨a, s, m, i, rfl, h1, h2⟩ := hx
  obtain ⟨b, t, n, j, rfl, h3, h4⟩ := hy
  have hm := nv_zero h2.symm
  have hn := nv_zero h4.symm
  subst hm hn
  have : fadd (some a) (some b) = some (double.write (.number (s && t) 0 (min i j))) := by
    show ((double.read a).sum (double.read b)).map double.write = _
    rw [h1, h3]
    show some (double.write (.number (if signed s 0 (i - min i j).toNat + signed t 0 (j - min i j).toNat = 0 then s && t else _) (signed s 0 (i - min i j).toNat + signed t 0 (j - min i j).toNat).natAbs (min i j))) = _
    rw [signed_z, signed_z]; rfl
  rw [this]; exact RV.wz _ _
theorem RV.subz {x y : F} (hx : RV x 0) (hy : RV y 0) : RV (fsub x y) 0 := by
  obtain ⟨a, s, m, i, rfl, h1, h2⟩ := hx
  obtain ⟨b, t, n, j, rfl, h3, h4⟩ := hy
  have hm := nv_zero h2.symm
  have hn := nv_zero h4.symm
  subst hm hn
  have : fsub (some a) (some b) = some (double.write (.number (s && !t) 0 (min i j))) := by
    show ((double.read a).sum (double.read b).opposite).map double.write = _
    rw [h1, h3]
    show some (double.write (.number (if signed s 0 (i - min i j).toNat + signed (!t) 0 (j - min i j).toNat = 0 then s && !t else _) (signed s 0 (i - min i j).toNat + signed (!t) 0 (j - min i j).toNat).natAbs (min i j))) = _
    rw [signed_z, signed_z]; rfl
  rw [this]; exact RV.wz _ _
theorem RV.divz {x y : F} {q : Rat} (hx : RV x 0) (hy : RV y q) (hq : q ≠ 0) : RV (fdiv x y) 0 := by
  obtain ⟨a, s, m, i, rfl, h1, h2⟩ := hx
  obtain ⟨b, t, n, j, rfl, h3, h4⟩ := hy
  have hm := nv_zero h2.symm
  subst hm
  have hn : n ≠ 0 := fun h => by
    subst h
    exact hq (by rw [h4]; unfold nv; simp)
  have : ∃ k, fdiv (some a) (some b) = some (double.write (.number (s ^^ t) 0 k)) := by
    refine ⟨i - j - ((54 + n.log2 - (0 : Nat).log2 : Nat) : Int) - 1, ?_⟩
    show ((double.read a).quotient 54 (double.read b)).map double.write = _
    rw [h1, h3]
    unfold Datum.quotient
    simp only [if_neg hn, Nat.zero_shiftLeft, Nat.zero_div, Nat.zero_mod]
    rfl
  obtain ⟨k, hk⟩ := this
  rw [hk]; exact RV.wz _ _
variable {c d t1 t2 T : Rat}
/-- Nought over what is not. -/
theorem cdiv_nought {a1 a2 b1 b2 : F} (ha : RV a1 0) (hb : RV a2 0) (hc : RV b1 c) (hd : RV b2 d) (hg : 1 ≤ rabs c ∨ 1 ≤ rabs d) (hgc : rabs c ≤ p2 400) (hgd : rabs d ≤ p2 400) :
    RV (cdiv (a1, a2) (b1, b2)).1 0 ∧ RV (cdiv (a1, a2) (b1, b2)).2 0 := by
  have h400 : p2 400 ≤ p2 900 := p2_mono (by decide)
  -- the divisor, by the rule for quotients of small worth
  have key : ∀ {u1 u2 : F} {e f : Rat}, RV u1 e → RV u2 f → rabs f ≤ rabs e → 1 ≤ rabs e → rabs e ≤ p2 400 → (∃ rk, RV (fdiv u2 u1) rk ∧ ∃ rd, RV (fadd u1 (fmul u2 (fdiv u2 u1))) rd ∧ rd ≠ 0) ∧ (∃ rd, RV (fadd (fmul u2 (fdiv u2 u1)) u1) rd ∧ rd ≠ 0) := by
    intro u1 u2 e f hu1 hu2 hle he1 he2
    obtain ⟨g, hgd⟩ : ∃ g, g = rabs e := ⟨_, rfl⟩
    have hae : Ab e g := rabs_ab (by grind)
    have haf : Ab f g := rabs_ab (by grind)
    have he0 : e ≠ 0 := by
      rintro rfl
      unfold rabs at he1
      simp at he1
      grind
    obtain ⟨v, rk, k1, k2, k3, k4⟩ := cd_k hu2 hu1 he0 (by rw [← hgd]; exact haf)
    obtain ⟨rm, m1, m2⟩ := cd_m hu2 haf (by grind) (by grind) k1 k3 k4
    have hfv : Ab (f * v) g := by have := ab_mul haf k3; rwa [Rat.mul_one] at this
    obtain ⟨rd, d1, d2⟩ := cd_add hu1 m1 m2 hae hfv (by grind) (by grind)
    obtain ⟨rd', d1', d2'⟩ := cd_add' hu1 m1 m2 hae hfv (by grind) (by grind)
    have hN : g ≤ e + f * v ∨ e + f * v ≤ -g := by
      have hsq : 0 ≤ v * v := by
        by_cases h : 0 ≤ v
        · exact Rat.mul_nonneg h h
        · have := Rat.mul_nonneg (show 0 ≤ -v by grind) (show 0 ≤ -v by grind); grind
      have e' : e + f * v = e + (v * v) * e := by rw [k2]; grind
      rw [e', hgd]
      unfold rabs
      split
      · left; have := Rat.mul_nonneg hsq ‹0 ≤ e›; grind
      · right; have := Rat.mul_nonneg hsq (show 0 ≤ -e by grind); grind
    obtain ⟨s1, s2⟩ := small_mul (show 1 ≤ g by grind)
    refine ⟨⟨rk, k1, rd, d1, ?_⟩, rd', d1', ?_⟩
    · unfold Nr at d2; rcases hN with h | h <;> grind
    · unfold Nr at d2'; rcases hN with h | h <;> grind
  unfold cdiv
  dsimp only
  by_cases hle : rabs d ≤ rabs c
  · have hge : fge (fabs b1) (fabs b2) = true := by rw [hc.abs.ge hd.abs]; exact decide_eq_true hle
    rw [if_pos hge]
    obtain ⟨⟨rk, k1, rd, d1, d0⟩, _⟩ := key hc hd hle (by rcases hg with h | h <;> grind) hgc
    exact ⟨RV.divz (RV.addz ha (RV.mulz hb k1)) d1 d0, RV.divz (RV.subz hb (RV.mulz ha k1)) d1 d0⟩
  · have hge : ¬ fge (fabs b1) (fabs b2) = true := by rw [hc.abs.ge hd.abs]; simpa using hle
    rw [if_neg hge]
    obtain ⟨⟨rk, k1, _⟩, rd, d1, d0⟩ := key hd hc (by grind) (by rcases hg with h | h <;> grind) hgd
    exact ⟨RV.divz (RV.addz (RV.mulz ha k1) hb) d1 d0, RV.divz (RV.subz (RV.mulz hb k1) ha) d1 d0⟩
theorem rabs_nn (q : Rat) : 0 ≤ rabs q := by unfold rabs; split <;> grind
theorem rabs_add (p q : Rat) : rabs (p + q) ≤ rabs p + rabs q := by
  have h1 := rabs_ab (show rabs p ≤ rabs p by grind)
  have h2 := rabs_ab (show rabs q ≤ rabs q by grind)
  exact ab_rabs (by unfold Ab at *; grind)
/-- Whole numbers, one by the other: near in proportion. -/
theorem cd_rel {a1 a2 b1 b2 : F} {a b c d : Int} (ha : RV a1 (a : Rat)) (hb : RV a2 (b : Rat)) (hc : RV b1 (c : Rat)) (hd : RV b2 (d : Rat)) (h0 : c ≠ 0 ∨ d ≠ 0) (hcb : rabs (c : Rat) ≤ p2 60) (hdb : rabs (d : Rat) ≤ p2 60)
    (h1 : (a : Rat) = t1 * c - t2 * d) (h2 : (b : Rat) = t1 * d + t2 * c) (hT : T = rabs t1 + rabs t2) (hT9 : T ≤ p2 200) :
    (∃ r1 r2, RV (cdiv (a1, a2) (b1, b2)).1 r1 ∧ RV (cdiv (a1, a2) (b1, b2)).2 r2 ∧ Nr r1 t1 (128 * (T * uu)) ∧ Nr r2 t2 (128 * (T * uu))) ∧ (T = 0 ∨ p2 (-60) ≤ T) := by
  have hi1 : ∀ n : Int, n ≠ 0 → 1 ≤ rabs (n : Rat) := fun n hn => by
    have hc : 1 ≤ n ∨ n ≤ -1 := by omega
    unfold rabs
    rcases hc with h | h
    · have a1 : ((1 : Int) : Rat) ≤ ((n : Int) : Rat) := Rat.intCast_le_intCast.2 h
      have e1 : ((1 : Int) : Rat) = 1 := rfl
      rw [if_pos (by grind)]; grind
    · have a1 : ((n : Int) : Rat) ≤ ((-1 : Int) : Rat) := Rat.intCast_le_intCast.2 h
      have e1 : ((-1 : Int) : Rat) = -1 := rfl
      rw [if_neg (by grind)]; grind
  have hg : 1 ≤ rabs (c : Rat) ∨ 1 ≤ rabs (d : Rat) := by
    rcases h0 with h | h
    · exact .inl (hi1 c h)
    · exact .inr (hi1 d h)
  have n1 := rabs_nn t1
  have n2 := rabs_nn t2
  have hT0 : 0 ≤ T := by grind
  have hA1 : Ab t1 T := rabs_ab (by grind)
  have hA2 : Ab t2 T := rabs_ab (by grind)
  have p60 : p2 60 ≤ p2 400 := p2_mono (by decide)
  by_cases hz : a = 0 ∧ b = 0
  · obtain ⟨rfl, rfl⟩ := hz
    have e0 : ((0 : Int) : Rat) = 0 := rfl
    rw [e0] at ha hb h1 h2
    -- then t is nought
    have hs : ∀ q : Rat, 0 ≤ q * q := fun q => by
      by_cases h : 0 ≤ q
      · exact Rat.mul_nonneg h h
      · have := Rat.mul_nonneg (show 0 ≤ -q by grind) (show 0 ≤ -q by grind); grind
    have hsp : 0 < (c : Rat) * c + (d : Rat) * d := by
      have sc := hs (c : Rat)
      have sd := hs (d : Rat)
      have big : ∀ q : Rat, 1 ≤ rabs q → 1 ≤ q * q := fun q h => by
        unfold rabs at h
        split at h
        · have := Rat.mul_le_mul_of_nonneg_left h (show 0 ≤ q by grind); grind
        · have := Rat.mul_le_mul_of_nonneg_left h (show 0 ≤ -q by grind); grind
      rcases hg with h | h
      · have := big _ h; grind
      · have := big _ h; grind
    have z1 : t1 * ((c : Rat) * c + (d : Rat) * d) = 0 := by
      have e : t1 * ((c : Rat) * c + (d : Rat) * d) = (t1 * c - t2 * d) * c + (t1 * d + t2 * c) * d := by grind
      rw [e, ← h1, ← h2]; grind
    have z2 : t2 * ((c : Rat) * c + (d : Rat) * d) = 0 := by
      have e : t2 * ((c : Rat) * c + (d : Rat) * d) = (t1 * d + t2 * c) * c - (t1 * c - t2 * d) * d := by grind
      rw [e, ← h1, ← h2]; grind
    have y1 : t1 = 0 := by rcases Rat.mul_eq_zero.1 z1 with h | h <;> grind
    have y2 : t2 = 0 := by rcases Rat.mul_eq_zero.1 z2 with h | h <;> grind
    have r0 : rabs 0 = 0 := by unfold rabs; rw [if_pos (by grind)]
    have hTz : T = 0 := by rw [hT, y1, y2, r0]; grind
    obtain ⟨q1, q2⟩ := cdiv_nought ha hb hc hd hg (by grind) (by grind)
    refine ⟨⟨0, 0, q1, q2, ?_, ?_⟩, .inl hTz⟩
    · rw [y1, hTz]; unfold Nr; grind
    · rw [y2, hTz]; unfold Nr; grind
  · have hTg : ∀ g : Rat, rabs (c : Rat) ≤ g → rabs (d : Rat) ≤ g → 1 ≤ T * g := by
      intro g hc1 hd1
      have g0 : 0 ≤ g := by have := rabs_nn (c : Rat); grind
      have m1 := ab_mul (rabs_ab (show rabs t1 ≤ rabs t1 by grind)) (rabs_ab hc1)
      have m2 := ab_mul (rabs_ab (show rabs t2 ≤ rabs t2 by grind)) (rabs_ab hd1)
      have m3 := ab_mul (rabs_ab (show rabs t1 ≤ rabs t1 by grind)) (rabs_ab hd1)
      have m4 := ab_mul (rabs_ab (show rabs t2 ≤ rabs t2 by grind)) (rabs_ab hc1)
      have eg : T * g = rabs t1 * g + rabs t2 * g := by rw [hT]; grind
      rw [eg]
      by_cases haz : a = 0
      · have hbz : b ≠ 0 := fun h => hz ⟨haz, h⟩
        refine Rat.le_trans (hi1 b hbz) (ab_rabs ?_)
        rw [h2]; unfold Ab at *; grind
      · refine Rat.le_trans (hi1 a haz) (ab_rabs ?_)
        rw [h1]; unfold Ab at *; grind
    have h60 := hTg (p2 60) hcb hdb
    have hTl : p2 (-60) ≤ T := by
      refine le_of_mul_pos (p2_pos 60) ?_
      have e : p2 (-60) * p2 60 = 1 := by rw [← p2_add]; exact p2_zero
      rw [e]; exact h60
    have room : ∀ m : Rat, m ≤ p2 60 → 2 * (T * m) ≤ p2 900 := fun m hm => by
      have a1 := Rat.mul_le_mul_of_nonneg_left hm hT0
      have a2 := Rat.mul_le_mul_of_nonneg_right hT9 (Rat.le_of_lt (p2_pos 60))
      have a3 : 2 * (p2 200 * p2 60) = p2 261 := by
        rw [← p2_add]
        have : p2 261 = p2 1 * p2 260 := by rw [← p2_add]; rfl
        rw [this, p2_one]; rfl
      have a4 : p2 261 ≤ p2 900 := p2_mono (by decide)
      grind
    refine ⟨cd_nearR ha hb hc hd h1 h2 hA1 hA2 (Rat.le_trans (p2_mono (by decide)) hTl) (Rat.le_trans hT9 (p2_mono (by decide))) (fun g g1 g2 => by have := hTg g g1 g2; grind) hg (Rat.le_trans hcb (p2_mono (by decide))) (Rat.le_trans hdb (p2_mono (by decide))) (room _ hcb) (room _ hdb), .inr hTl⟩
end Go.Proofs.YtigbkoadojjajaaGreat

/- Plain: a sum of up to three speeds, against the speed as one quotient. No program in sight. -/
set_option linter.unusedVariables false
set_option linter.unusedSimpArgs false
namespace Go.Proofs.YtigbkoadojjajaaGreat
open Ieee

def sumR (f : Nat → Rat) : Nat → Rat
  | 0 => 0
  | k + 1 => sumR f k + f k
/-- The sum of the first k numbers, from the left. -/
def sumW (w : Nat → C) : Nat → C
  | 0 => (some 0, some 0)
  | 1 => w 0
  | k + 2 => (fadd (sumW w (k + 1)).1 (w (k + 1)).1, fadd (sumW w (k + 1)).2 (w (k + 1)).2)
/-- The sum of their lengths. -/
def mostW (w : Nat → C) : Nat → F
  | 0 => some 0
  | k + 1 => fadd (mostW w k) (fadd (fabs (w k).1) (fabs (w k).2))
theorem rv_zero : RV (some 0) 0 := ⟨0, false, 0, -1074, rfl, by decide, by unfold nv; simp⟩
structure SpW (w : Nat → C) (x y N : Nat → Rat) (k : Nat) : Prop where
  n : N k = rabs (x k) + rabs (y k)
  up : N k ≤ p2 100
  lo : N k = 0 ∨ p2 (-60) ≤ N k
  v : ∃ a b, RV (w k).1 a ∧ RV (w k).2 b ∧ Nr a (x k) (128 * (N k * uu)) ∧ Nr b (y k) (128 * (N k * uu))
section
variable {w : Nat → C} {x y N : Nat → Rat} {m : Nat}
theorem sumR_nn {f : Nat → Rat} (h : ∀ i, 0 ≤ f i) (k : Nat) : 0 ≤ sumR f k := by
  induction k with
  | zero => show (0 : Rat) ≤ 0; grind
  | succ k ih => have := h k; simp only [sumR]; grind
theorem sumR_mono {f : Nat → Rat} (h : ∀ i, 0 ≤ f i) {j k : Nat} (hjk : j ≤ k) : sumR f j ≤ sumR f k := by
  induction k with
  | zero => obtain rfl : j = 0 := by omega
            exact Rat.le_refl
  | succ k ih =>
    by_cases hj : j = k + 1
    · rw [hj]; exact Rat.le_refl
    · have := ih (by omega); have := h k; simp only [sumR]; grind
theorem sumR_term {f : Nat → Rat} (h : ∀ i, 0 ≤ f i) {j k : Nat} (hjk : j < k) : f j ≤ sumR f k := by
  have h1 := sumR_mono h (show j + 1 ≤ k by omega)
  have h2 := sumR_nn h j
  simp only [sumR] at h1; grind
theorem sumR_ab (hN : ∀ i, N i = rabs (x i) + rabs (y i)) (k : Nat) : rabs (sumR x k) ≤ sumR N k ∧ rabs (sumR y k) ≤ sumR N k ∧ rabs (sumR x k) + rabs (sumR y k) ≤ sumR N k := by
  induction k with
  | zero =>
    have r0 : rabs 0 = 0 := by unfold rabs; rw [if_pos (by grind)]
    simp only [sumR]; rw [r0]; grind
  | succ k ih =>
    have a1 := rabs_add (sumR x k) (x k)
    have a2 := rabs_add (sumR y k) (y k)
    have n1 := rabs_nn (sumR x (k + 1))
    have n2 := rabs_nn (sumR y (k + 1))
    have := hN k
    simp only [sumR] at *
    grind
theorem uu_lt : uu * 1000000 ≤ 1 := by have := uu_small; grind
/-- All nought: all is nought, exactly. -/
theorem nought_all (h : ∀ i, i < m → SpW w x y N i) (hz : ∀ i, i < m → N i = 0) : ∀ k, k ≤ m → RV (sumW w k).1 0 ∧ RV (sumW w k).2 0 ∧ RV (mostW w k) 0 := by
  have hw : ∀ i, i < m → RV (w i).1 0 ∧ RV (w i).2 0 := by
    intro i hi
    have hs := h i hi
    have n1 := rabs_nn (x i)
    have n2 := rabs_nn (y i)
    have hn := hs.n
    have h0 := hz i hi
    have zx : x i = 0 := by
      have : rabs (x i) = 0 := by grind
      unfold rabs at this; split at this <;> grind
    have zy : y i = 0 := by
      have : rabs (y i) = 0 := by grind
      unfold rabs at this; split at this <;> grind
    obtain ⟨a, b, r1, r2, e1, e2⟩ := hs.v
    rw [h0, zx] at e1
    rw [h0, zy] at e2
    unfold Nr at e1 e2
    have za : a = 0 := by grind
    have zb : b = 0 := by grind
    rw [za] at r1
    rw [zb] at r2
    exact ⟨r1, r2⟩
  have r0 : rabs 0 = 0 := by unfold rabs; rw [if_pos (by grind)]
  have hab : ∀ {z : F}, RV z 0 → RV (fabs z) 0 := fun hz' => by have := hz'.abs; rwa [r0] at this
  intro k
  induction k with
  | zero => intro _; exact ⟨rv_zero, rv_zero, rv_zero⟩
  | succ k ih =>
    intro hk
    obtain ⟨a1, a2, a3⟩ := ih (by omega)
    obtain ⟨b1, b2⟩ := hw k (by omega)
    have b3 := RV.addz a3 (RV.addz (hab b1) (hab b2))
    cases k with
    | zero => exact ⟨b1, b2, b3⟩
    | succ k => exact ⟨RV.addz a1 b1, RV.addz a2 b2, b3⟩
theorem e53_le {B T : Rat} (hT : p2 (-60) ≤ T) (hB : B ≤ 4 * T) : e53 B ≤ 5 * (T * uu) := by
  rw [e53_eq]
  have h1 := Rat.mul_le_mul_of_nonneg_right hB (Rat.le_of_lt uu_pos)
  have h2 := Rat.mul_le_mul_of_nonneg_right hT (Rat.le_of_lt uu_pos)
  have h3 : p2 (-60) * uu = p2 (-113) := by unfold uu; rw [← p2_add]; rfl
  have h4 : ww ≤ p2 (-113) := p2_mono (by decide)
  grind
/-- Something is not nought: the sums are near. -/
theorem sums_near (hm : m ≤ 3) (h : ∀ i, i < m → SpW w x y N i) (hN : ∀ i, N i = rabs (x i) + rabs (y i)) {T : Rat} (hT : T = sumR N m) (hT0 : p2 (-60) ≤ T) (hT1 : T ≤ p2 200) :
    ∀ k, k ≤ m → (∃ r, RV (sumW w k).1 r ∧ Nr r (sumR x k) ((133 * (k : Nat)) * (T * uu))) ∧ (∃ r, RV (sumW w k).2 r ∧ Nr r (sumR y k) ((133 * (k : Nat)) * (T * uu))) ∧ ∃ r, RV (mostW w k) r ∧ Nr r (sumR N k) ((266 * (k : Nat)) * (T * uu)) := by
  have hNn : ∀ i, 0 ≤ N i := fun i => by rw [hN i]; have := rabs_nn (x i); have := rabs_nn (y i); grind
  have hu := uu_lt
  have hu0 := Rat.le_of_lt uu_pos
  have hTn : 0 ≤ T := by have := p2_pos (-60); grind
  have hTu : T * uu * 1000000 ≤ T := by
    have := Rat.mul_le_mul_of_nonneg_left hu hTn
    grind
  have hTu0 : 0 ≤ T * uu := Rat.mul_nonneg hTn hu0
  have room : 4 * T ≤ p2 1000 := by
    have h4 : (4 : Rat) = p2 2 := by rw [show p2 2 = ((2 ^ 2 : Nat) : Rat) from p2_nat 2]; rfl
    have h5 := Rat.mul_le_mul_of_nonneg_left hT1 (show (0 : Rat) ≤ 4 by decide)
    have h6 : 4 * p2 200 = p2 202 := by rw [h4, ← p2_add]; rfl
    have h7 : p2 202 ≤ p2 1000 := p2_mono (by decide)
    grind
  intro k
  induction k with
  | zero =>
    intro _
    have e0 : ((0 : Nat) : Rat) = 0 := rfl
    refine ⟨⟨0, rv_zero, ?_⟩, ⟨0, rv_zero, ?_⟩, 0, rv_zero, ?_⟩ <;> (rw [e0]; unfold Nr; simp only [sumR]; grind)
  | succ k ih =>
    intro hk
    obtain ⟨⟨r1, a1, a2⟩, ⟨r2, b1, b2⟩, r3, c1, c2⟩ := ih (by omega)
    obtain ⟨p, q, v1, v2, v3, v4⟩ := (h k (by omega)).v
    have hNk : N k ≤ T := by rw [hT]; exact sumR_term hNn (by omega)
    have hNu := Rat.mul_le_mul_of_nonneg_right hNk hu0
    have hk3 : ((k : Nat) : Rat) ≤ 2 := by
      have : ((k : Nat) : Rat) ≤ ((2 : Nat) : Rat) := Rat.natCast_le_natCast.2 (by omega)
      exact this
    have hk0 := cast_nn k
    have hkT := Rat.mul_le_mul_of_nonneg_right hk3 hTu0
    have hkT0 := Rat.mul_nonneg hk0 hTu0
    have sx := (sumR_ab hN k).1
    have sy := (sumR_ab hN k).2.1
    have sm : sumR N k ≤ T := by rw [hT]; exact sumR_mono hNn (by omega)
    have s1 : sumR N (k + 1) ≤ T := by rw [hT]; exact sumR_mono hNn (by omega)
    have s0 := sumR_nn hNn k
    have hx := rabs_ab (show rabs (sumR x k) ≤ T by grind)
    have hy := rabs_ab (show rabs (sumR y k) ≤ T by grind)
    have hxk := rabs_ab (show rabs (x k) ≤ N k by rw [hN k]; have := rabs_nn (y k); grind)
    have hyk := rabs_ab (show rabs (y k) ≤ N k by rw [hN k]; have := rabs_nn (x k); grind)
    rw [show (((k + 1 : Nat)) : Rat) = ((k : Nat) : Rat) + 1 from Rat.natCast_add k 1]
    obtain ⟨K, hK⟩ : ∃ K : Rat, K = ((k : Nat) : Rat) := ⟨_, rfl⟩
    rw [← hK] at hk3 hk0 hkT hkT0 a2 b2 c2 ⊢
    refine ⟨?_, ?_, ?_⟩
    · cases k with
      | zero =>
        refine ⟨p, v1, ?_⟩
        have e0 : sumR x 0 = 0 := rfl
        show Nr p (sumR x 0 + x 0) _
        rw [e0]
        unfold Nr at *; grind
      | succ k =>
        obtain ⟨r, z1, z2⟩ := RV.add a1 v1 (B := 4 * T) (by unfold Ab at *; unfold Nr at *; grind) room
        refine ⟨r, z1, ?_⟩
        have z3 := e53_le hT0 (show 4 * T ≤ 4 * T from Rat.le_refl)
        show Nr r (sumR x (k + 1) + x (k + 1)) _
        unfold Nr at *; grind
    · cases k with
      | zero =>
        refine ⟨q, v2, ?_⟩
        have e0 : sumR y 0 = 0 := rfl
        show Nr q (sumR y 0 + y 0) _
        rw [e0]
        unfold Nr at *; grind
      | succ k =>
        obtain ⟨r, z1, z2⟩ := RV.add b1 v2 (B := 4 * T) (by unfold Ab at *; unfold Nr at *; grind) room
        refine ⟨r, z1, ?_⟩
        have z3 := e53_le hT0 (show 4 * T ≤ 4 * T from Rat.le_refl)
        show Nr r (sumR y (k + 1) + y (k + 1)) _
        unfold Nr at *; grind
    · have f1 := v1.abs
      have f2 := v2.abs
      have g1 : Nr (rabs p) (rabs (x k)) (128 * (N k * uu)) := by unfold Nr rabs at *; split <;> split <;> grind
      have g2 : Nr (rabs q) (rabs (y k)) (128 * (N k * uu)) := by unfold Nr rabs at *; split <;> split <;> grind
      have nx := rabs_nn (x k)
      have ny := rabs_nn (y k)
      have hNkk := hN k
      obtain ⟨r, z1, z2⟩ := RV.add f1 f2 (B := 4 * T) (by unfold Ab at *; unfold Nr at *; grind) room
      have z3 := e53_le hT0 (show 4 * T ≤ 4 * T from Rat.le_refl)
      have z4 : Nr r (N k) (261 * (T * uu)) := by unfold Nr at *; grind
      obtain ⟨r', y1, y2⟩ := RV.add c1 z1 (B := 4 * T) (by have hnk := hNn k; simp only [sumR] at s1; unfold Ab; unfold Nr at *; grind) room
      refine ⟨r', y1, ?_⟩
      show Nr r' (sumR N k + N k) _
      unfold Nr at *; grind
/-- The one quotient is near the sum, by the law's own measure. -/
theorem off_near (hm : m ≤ 3) (h : ∀ i, i < m → SpW w x y N i) (hN : ∀ i, N i = rabs (x i) + rabs (y i)) {v : C} {T : Rat} (hT : T = rabs (sumR x m) + rabs (sumR y m))
    (hv : ∃ r1 r2, RV v.1 r1 ∧ RV v.2 r2 ∧ Nr r1 (sumR x m) (128 * (T * uu)) ∧ Nr r2 (sumR y m) (128 * (T * uu))) {t : F} (ht : RV t (p2 (-40))) :
    fle (fabs (fsub v.1 (sumW w m).1)) (fmul (mostW w m) t) = true ∧ fle (fabs (fsub v.2 (sumW w m).2)) (fmul (mostW w m) t) = true := by
  have hNn : ∀ i, 0 ≤ N i := fun i => by rw [hN i]; have := rabs_nn (x i); have := rabs_nn (y i); grind
  obtain ⟨S, hS⟩ : ∃ S, S = sumR N m := ⟨_, rfl⟩
  have hSn : 0 ≤ S := by rw [hS]; exact sumR_nn hNn m
  have hTS : T ≤ S := by rw [hT, hS]; exact (sumR_ab hN m).2.2
  obtain ⟨r1, r2, q1, q2, q3, q4⟩ := hv
  have r0 : rabs 0 = 0 := by unfold rabs; rw [if_pos (by grind)]
  by_cases hz : ∀ i, i < m → N i = 0
  · obtain ⟨a1, a2, a3⟩ := nought_all h hz m (Nat.le_refl _)
    have hS0 : S = 0 := by
      rw [hS]
      have : ∀ k, k ≤ m → sumR N k = 0 := by
        intro k
        induction k with
        | zero => intro _; rfl
        | succ k ih => intro hk; simp only [sumR]; rw [ih (by omega), hz k (by omega)]; grind
      exact this m (Nat.le_refl _)
    have n1 := rabs_nn (sumR x m)
    have n2 := rabs_nn (sumR y m)
    have zx : sumR x m = 0 := by
      have : rabs (sumR x m) = 0 := by grind
      unfold rabs at this; split at this <;> grind
    have zy : sumR y m = 0 := by
      have : rabs (sumR y m) = 0 := by grind
      unfold rabs at this; split at this <;> grind
    have hT0 : T = 0 := by grind
    rw [zx, hT0] at q3
    rw [zy, hT0] at q4
    unfold Nr at q3 q4
    have z1 : r1 = 0 := by grind
    have z2 : r2 = 0 := by grind
    rw [z1] at q1
    rw [z2] at q2
    have b1 := (RV.subz q1 a1).abs
    have b2 := (RV.subz q2 a2).abs
    rw [r0] at b1 b2
    have c := RV.mulz a3 ht
    rw [b1.le c, b2.le c]
    exact ⟨by simp, by simp⟩
  · have hex : ∃ i, i < m ∧ N i ≠ 0 := by
      refine Classical.byContradiction fun hn => hz fun i hi => ?_
      exact Classical.byContradiction fun h0 => hn ⟨i, hi, h0⟩
    obtain ⟨i, hi, hi0⟩ := hex
    have hlo : p2 (-60) ≤ S := by
      rcases (h i hi).lo with h1 | h1
      · exact absurd h1 hi0
      · rw [hS]; exact Rat.le_trans h1 (sumR_term hNn hi)
    have hup : S ≤ p2 200 := by
      have hp := p2_pos 100
      have : ∀ k, k ≤ m → sumR N k ≤ (k : Nat) * p2 100 := by
        intro k
        induction k with
        | zero =>
          intro _
          have e0 : ((0 : Nat) : Rat) = 0 := rfl
          rw [e0]; simp only [sumR]; grind
        | succ k ih =>
          intro hk
          have a1 := ih (by omega)
          have a2 := (h k (by omega)).up
          rw [show (((k + 1 : Nat)) : Rat) = ((k : Nat) : Rat) + 1 from Rat.natCast_add k 1]
          simp only [sumR]; grind
      have h1 := this m (Nat.le_refl _)
      have h2 : ((m : Nat) : Rat) ≤ 3 := by
        have : ((m : Nat) : Rat) ≤ ((3 : Nat) : Rat) := Rat.natCast_le_natCast.2 hm
        exact this
      have h3 := Rat.mul_le_mul_of_nonneg_right h2 (Rat.le_of_lt hp)
      have h4 : (4 : Rat) = p2 2 := by rw [show p2 2 = ((2 ^ 2 : Nat) : Rat) from p2_nat 2]; rfl
      have h6 : 4 * p2 100 = p2 102 := by rw [h4, ← p2_add]; rfl
      have h7 : p2 102 ≤ p2 200 := p2_mono (by decide)
      rw [hS]; grind
    obtain ⟨⟨u1, a1, a2⟩, ⟨u2, b1, b2⟩, u3, c1, c2⟩ := sums_near hm h hN hS hlo hup m (Nat.le_refl _)
    have hm3 : ((m : Nat) : Rat) ≤ 3 := by
      have : ((m : Nat) : Rat) ≤ ((3 : Nat) : Rat) := Rat.natCast_le_natCast.2 hm
      exact this
    have hu0 := Rat.le_of_lt uu_pos
    have hSu0 : 0 ≤ S * uu := Rat.mul_nonneg hSn hu0
    have hmS := Rat.mul_le_mul_of_nonneg_right hm3 hSu0
    have hTu := Rat.mul_le_mul_of_nonneg_right hTS hu0
    have hSu : S * uu * 1000000 ≤ S := by
      have := Rat.mul_le_mul_of_nonneg_left uu_lt hSn
      grind
    have room : 4 * S ≤ p2 1000 := by
      have h4 : (4 : Rat) = p2 2 := by rw [show p2 2 = ((2 ^ 2 : Nat) : Rat) from p2_nat 2]; rfl
      have h5 := Rat.mul_le_mul_of_nonneg_left hup (show (0 : Rat) ≤ 4 by decide)
      have h6 : 4 * p2 200 = p2 202 := by rw [h4, ← p2_add]; rfl
      have h7 : p2 202 ≤ p2 1000 := p2_mono (by decide)
      grind
    have z3 := e53_le hlo (show 4 * S ≤ 4 * S from Rat.le_refl)
    rw [← hS] at c2
    obtain ⟨M, hM⟩ : ∃ M : Rat, M = ((m : Nat) : Rat) := ⟨_, rfl⟩
    rw [← hM] at a2 b2 c2 hm3 hmS
    have hM0 : 0 ≤ M := by rw [hM]; exact cast_nn m
    have hMS0 := Rat.mul_nonneg hM0 hSu0
    have d1 : Ab (r1 - u1) (600 * (S * uu)) := by unfold Nr at *; unfold Ab; grind
    have d2 : Ab (r2 - u2) (600 * (S * uu)) := by unfold Nr at *; unfold Ab; grind
    obtain ⟨o1, f1, f2⟩ := RV.sub q1 a1 (B := 4 * S) (by unfold Ab at *; grind) room
    obtain ⟨o2, f3, f4⟩ := RV.sub q2 b1 (B := 4 * S) (by unfold Ab at *; grind) room
    have g1 : rabs o1 ≤ 605 * (S * uu) := ab_rabs (by unfold Nr at *; unfold Ab at *; grind)
    have g2 : rabs o2 ≤ 605 * (S * uu) := ab_rabs (by unfold Nr at *; unfold Ab at *; grind)
    -- the measure
    have hu3 : S ≤ 2 * u3 ∧ u3 ≤ 2 * S := by unfold Nr at c2; grind
    have p40 := p2_pos (-40)
    have p41 : p2 (-40) ≤ 1 := by have := p2_mono (show (-40 : Int) ≤ 0 by decide); rwa [p2_zero] at this
    have h40 := Rat.mul_le_mul_of_nonneg_left p41 (show 0 ≤ u3 by grind)
    have h40' := Rat.mul_nonneg (show 0 ≤ u3 by grind) (Rat.le_of_lt p40)
    obtain ⟨o3, f5, f6⟩ := RV.mul c1 ht (B := 4 * S) (by unfold Ab; grind) room
    have k40 : p2 (-40) = 8192 * uu := by
      have : p2 13 = 8192 := by rw [show p2 13 = ((2 ^ 13 : Nat) : Rat) from p2_nat 13]; rfl
      rw [← this]; unfold uu; rw [← p2_add]; rfl
    have h5 := Rat.mul_le_mul_of_nonneg_right hu3.1 hu0
    have g3 : 4000 * (S * uu) ≤ o3 := by
      unfold Nr at f6
      rw [k40] at f6
      grind
    rw [f1.abs.le f5, f3.abs.le f5]
    exact ⟨by simp; grind, by simp; grind⟩
end
end Go.Proofs.YtigbkoadojjajaaGreat

/- Flows in the clean executor: the sum of the speeds. -/
namespace Go.Clean
open Go Go.RowKit
section
variable {P : Program} {call : Caller} {ops : Array Oper} {fr : Fr} {m : Mem} {Q : Fr → Mem → Prop} {ty : TypeId} {pos : String} {af : Array Edge} {d : Option Tmp}
def nilO (o : Option Value) : Option Value := match o with
  | some (.pointer (some a)) => some (.pointer (some a))
  | some (.func (.func f) a b) => some (.func (.func f) a b)
  | _ => none
@[simp] theorem nilO_ptr (a : Addr) : nilO (some (.pointer (some a))) = some (.pointer (some a)) := (Eq.refl (some (Value.pointer (some a)))).trans rfl
@[simp] theorem step_nilCheck (x : Operand) : Gives (stepDX P call ops fr ⟨d, .nilCheck x, ty, pos, af, none⟩) m Q ↔ optQ (nilO (ev fr x)) fun v => putQ fr d Q v m := by
  rw [step_any rfl rfl]
  have e : opX P call fr ⟨d, .nilCheck x, ty, pos, af, none⟩ = M.lift (nilO (ev fr x)) := by
    unfold opX nilO
    dsimp only
    generalize ev fr x = o
    rcases o with _ | v
    · rfl
    · cases v with
      | pointer a => cases a <;> rfl
      | func f a b => cases f <;> rfl
      | _ => rfl
  rw [e]
  exact gives_lift' _
end
end Go.Clean
namespace Go.Proofs.YtigbkoadojjajaaGreat
open Go.Clean
def lw (w : Nat → C) (n : Nat) : List Value := (List.range n).map fun i => cx (w i)
theorem lw_succ (w : Nat → C) (n : Nat) : lw w (n + 1) = lw w n ++ [cx (w n)] := by unfold lw; rw [List.range_succ, List.map_append]; rfl
@[simp] theorem lw_len (w : Nat → C) (n : Nat) : (lw w n).length = n := by simp [lw]
@[simp] theorem lw_get (w : Nat → C) {n i : Nat} (h : i < (lw w n).length) : (lw w n)[i] = cx (w i) := by simp [lw]
theorem lw_one (w : Nat → C) (n : Nat) : (lw w n).all oneV = true := by
  rw [List.all_eq_true]
  intro v hv
  obtain ⟨i, _, rfl⟩ := List.mem_map.1 hv
  rfl
/-- A list of complex numbers, grown one by one. -/
def WS (m : Mem) (v : Value) (w : Nat → C) (n : Nat) : Prop := (n = 0 ∧ v = nilL) ∨ (0 < n ∧ ∃ b, v = .slice (some ⟨b, 0, none⟩) n n ∧ m.at b = some ⟨lw w n, 1, true, false⟩)
theorem WS.len {m : Mem} {v : Value} {w : Nat → C} {n : Nat} (h : WS m v w n) : lenX Tryz.prog 33 v = some (.int .i64 n) := by
  rcases h with ⟨rfl, rfl⟩ | ⟨_, b, rfl, _⟩
  · unfold nilL; simp
  · simp
def smI (m0 : Mem) (v : Value) (w : Nat → C) (n : Nat) (k : Nat) (fr : Fr) (m' : Mem) : Prop := ∃ i, i + k = n ∧ fr.n = 23 ∧ fr.d = [] ∧ fr.at 0 = v ∧ fr.at 6 = .int .i64 n ∧ fr.at 7 = .int .i64 i ∧ fr.at 3 = cx (sumW w i) ∧ Up m0 m' ∧ WS m' v w n
def smR (m0 : Mem) (w : Nat → C) (n : Nat) : CQ := fun r m' => r.1 = .exit 0 ∧ r.2.n = 23 ∧ r.2.d = [] ∧ r.2.at 3 = cx (sumW w n) ∧ Up m0 m'
section
set_option maxRecDepth 10000
theorem run_fplace (n : Nat) (x : C) (h : cwithin x lim = true) (m : Mem) (Q : Value → Mem → Prop) : Gives (callN Tryz.prog known (n + 4) 50 [cx x]) m Q ↔ Q (.int .i64 0) m := by
  refine gives_pure (fun m => ?_) m Q
  refine gives_fn (nt := 6) rfl Tryz.func50 rfl rfl rfl (Nat.le_of_ble_eq_true rfl) fun fr hn hd hargs => ?_
  have h0 : fr.at 0 = _ := hargs 0 _ rfl
  clear hargs
  simp [h0, hn, hd, fv_lim, run_within, h]
set_option maxHeartbeats 2000000 in
theorem psum_ok (d : Nat) {m : Mem} {v : Value} {w : Nat → C} {n : Nat} (hv : WS m v w n) (hl : n ≤ 3) {Q : Value → Mem → Prop} (hQ : ∀ m', Up m m' → Q (cx (sumW w n)) m') :
    Gives (callN Tryz.prog known (d + 2) 51 [v]) m Q := by
  refine gives_fn (nt := 23) rfl Tryz.func51 rfl rfl rfl (Nat.le_of_ble_eq_true rfl) fun fr hn hd hargs => ?_
  have h0 : fr.at 0 = _ := hargs 0 _ rfl
  clear hargs
  simp [h0, hn, hv.len, cx_zero]
  refine code_loop_post (smR m w n) (smI m v w n) n (by omega) ⟨0, by simp, by simp [hn], by simp [hd], by simp [h0], by simp, by simp, by simp [sumW], Up.refl m, hv⟩ ?_ ?_
  · rintro k f m2 ⟨i, hik, f1, f2, f3, f4, f5, f6, u2, v2⟩
    by_cases hi : i < n
    · rcases v2 with ⟨rfl, -⟩ | ⟨hne, b, rfl, hb2⟩
      · omega
      · cases i with
        | zero =>
          have hx := idx_L b 0 n n 0 .i64 hne
          have hx0 : indexAddrX Tryz.prog 33 (.slice (some ⟨b, 0, none⟩) n n) (.int .i64 0) = some (.pointer (some ⟨b, 0, none⟩)) := hx
          simp [f1, f2, f3, f4, f5, hne, hx0, hb2, wr1]
          exact ⟨n - 1, by omega, 1, by omega, by simp [f1], by simp [f2], by simp [f3], by simp [f4], by simp, by simp [sumW], u2.trans (Up.rd _ _), .inr ⟨hne, b, rfl, by simpa using hb2⟩⟩
        | succ i =>
          obtain ⟨i', hi'⟩ : ∃ i', i' = i + 1 := ⟨_, rfl⟩
          rw [← hi'] at f5 hi hik f6
          have hc : ¬ i' = 0 := by omega
          simp [f1, f2, f3, f4, f5, f6, hi, hc, idx_L _ _ _ _ _ _ hi, hb2, run_add, wrap_succ i' (by omega)]
          exact ⟨n - (i' + 1), by omega, i' + 1, by omega, by simp [f1], by simp [f2], by simp [f3], by simp [f4], by simp, by simp [hi', sumW, cadd], u2.trans (Up.rd _ _), .inr ⟨hne, b, rfl, by simpa using hb2⟩⟩
    · have : i = n := by omega
      subst this
      simp [f1, f2, f4, f5]
      exact ⟨rfl, by simp [f1], by simp [f2], by simp [f6], u2⟩
  · rintro ⟨e, f⟩ m2 ⟨he, f1, f2, f3, u3⟩
    obtain rfl : e = .exit 0 := he
    simp only at f1 f2 f3
    simp [f1, f2, f3]
    exact hQ _ u3
end
end Go.Proofs.YtigbkoadojjajaaGreat

/- Plain: sums of fractions; how far the way back is off. No program in sight. -/
import Derived.Test.YtghhanifakllpaaNaY
set_option linter.unusedSimpArgs false
set_option linter.unusedVariables false
set_option linter.unusedVariables false
set_option linter.unusedSimpArgs false
namespace Go.Proofs.Ytghhanifakllpaa.Nu
open Ieee

def rsum (f : Nat → Rat) : Nat → Rat
  | 0 => 0
  | k + 1 => rsum f k + f k
theorem rsum_congr {f g : Nat → Rat} {n : Nat} (h : ∀ i, i < n → f i = g i) : rsum f n = rsum g n := by
  induction n with
  | zero => rfl
  | succ n ih => unfold rsum; rw [ih fun i hi => h i (by omega), h n (by omega)]
theorem rsum_nn {f : Nat → Rat} {n : Nat} (h : ∀ i, i < n → 0 ≤ f i) : 0 ≤ rsum f n := by
  induction n with
  | zero => simp [rsum]
  | succ n ih => have := ih fun i hi => h i (by omega); have := h n (by omega); simp only [rsum]; grind
theorem rsum_mono {f : Nat → Rat} (h : ∀ i, 0 ≤ f i) {k n : Nat} (hk : k ≤ n) : rsum f k ≤ rsum f n := by
  induction n with
  | zero => have : k = 0 := by omega
            subst this; grind
  | succ n ih =>
    by_cases hkn : k = n + 1
    · subst hkn; grind
    · have := ih (by omega); have := h n; simp only [rsum]; grind
theorem rsum_term {f : Nat → Rat} (h : ∀ i, 0 ≤ f i) {k n : Nat} (hk : k < n) : f k ≤ rsum f n := by
  have h1 := rsum_mono h (show k + 1 ≤ n by omega)
  have h2 := rsum_nn (f := f) (n := k) fun i _ => h i
  simp only [rsum] at h1
  grind
/-- A sum of products is no greater than the greatest of the one times the sum of the other. -/
theorem rsum_ab {f x : Nat → Rat} {n : Nat} {G : Rat} (h : ∀ i, i < n → Ab (f i) G) : Ab (rsum (fun i => f i * x i) n) (G * rsum (fun i => rabs (x i)) n) := by
  induction n with
  | zero => simp [rsum, Ab]
  | succ n ih =>
    have h1 := ih fun i hi => h i (by omega)
    have h2 := (h n (by omega)).mul (ab_rabs (x n))
    simp only [rsum]
    rw [Rat.mul_add]
    exact h1.add h2
/-- The sum from place i on. -/
theorem rsum_tail (g : Nat → Rat) (i c : Nat) : rsum (fun j => if j < i then 0 else g j) (i + 1 + c) = g i + rsum (fun l => g (i + 1 + l)) c := by
  have h0 : ∀ k, k ≤ i → rsum (fun j => if j < i then 0 else g j) k = 0 := by
    intro k
    induction k with
    | zero => intro _; rfl
    | succ k ih => intro hk; simp only [rsum]; rw [ih (by omega), if_pos (by omega)]; grind
  induction c with
  | zero =>
    show rsum _ i + (if i < i then 0 else g i) = _
    rw [h0 i (Nat.le_refl _), if_neg (by omega)]; simp only [rsum]; grind
  | succ c ih =>
    show rsum _ (i + 1 + c) + (if i + 1 + c < i then 0 else g (i + 1 + c)) = _
    rw [ih, if_neg (by omega)]
    simp only [rsum]; grind
theorem rsum_shift {f : Nat → Rat} (h : ∀ i, 0 ≤ f i) (i c : Nat) : f i + rsum (fun l => f (i + 1 + l)) c ≤ rsum f (i + 1 + c) := by
  induction c with
  | zero => have := rsum_nn (f := f) (n := i) fun i _ => h i; simp [rsum]; grind
  | succ c ih =>
    show _ ≤ rsum f (i + 1 + c) + f (i + 1 + c)
    simp only [rsum]; grind

/-! ### The way back -/
theorem backX_more {n : Nat} {R : Mx} {j : Nat} (hj : j < n) : ∀ d, d ≤ j → backX n R (n - j + d) j = backX n R (n - j) j
  | 0, _ => rfl
  | d + 1, h => by
    show (if j = n - 1 - (n - j + d) then _ else backX n R (n - j + d) j) = _
    rw [if_neg (by omega)]; exact backX_more hj d (by omega)
theorem backX_end {n : Nat} {R : Mx} {j k : Nat} (hj : j < n) (hk : n - j ≤ k) (hkn : k ≤ n) : backX n R k j = backX n R (n - j) j := by
  have := backX_more (R := R) hj (k - (n - j)) (by omega)
  rwa [show n - j + (k - (n - j)) = k by omega] at this
/-- Each unknown by those behind it. -/
theorem backX_row {n : Nat} {R : Mx} {i : Nat} (hi : i < n) : backX n R n i = fdiv (backT n R (backX n R n) i (n - 1 - i)) (R i i) := by
  rw [backX_end hi (by omega : n - i ≤ n) (Nat.le_refl _)]
  obtain ⟨k, hk⟩ : ∃ k, n - i = k + 1 := ⟨n - i - 1, by omega⟩
  rw [hk]
  show (if i = n - 1 - k then _ else _) = _
  rw [if_pos (by omega)]
  rw [show n - 1 - k = i by omega, show n - 1 - i = k by omega]
  congr 1
  have hall : ∀ m, m ≤ k → backT n R (backX n R k) i m = backT n R (backX n R n) i m := by
    intro m
    induction m with
    | zero => intro _; rfl
    | succ m ih =>
      intro hm
      unfold backT
      rw [ih (by omega)]
      have hj : i + 1 + m < n := by omega
      rw [backX_end hj (by omega : n - (i + 1 + m) ≤ k) (by omega), backX_end hj (by omega : n - (i + 1 + m) ≤ n) (Nat.le_refl _)]
  exact hall k (Nat.le_refl _)

def u53 : Rat := p2 (-53)
def t0 : Rat := p2 (-1000)
def qf (x : Nat → F) (j : Nat) : Rat := vq (x j)
def xs (x : Nat → F) (n : Nat) : Rat := rsum (fun j => rabs (qf x j)) n
/-- One unit of what is off. -/
def unit (G X : Rat) : Rat := u53 * (G * X) + t0
def P50 : Rat := p2 50
theorem u53_val : u53 * 9007199254740992 = 1 := by
  have h1 : p2 (-53) * p2 53 = p2 0 := by rw [← p2_add]; rfl
  have h2 : p2 53 = ((2 ^ 53 : Nat) : Rat) := p2_nat 53
  rw [h2, p2_zero] at h1
  exact h1
theorem k52 : p2 (-52) = 2 * u53 := p2_half (-52)
theorem k51 : p2 (-51) = 4 * u53 := by
  have h1 : p2 (-51) = 2 * p2 (-52) := p2_half (-51)
  rw [h1, k52]; grind
theorem t0_pos : 0 < t0 := p2_pos _
theorem tiny1 : p2 (-1074) * p2 70 ≤ t0 := by rw [← p2_add]; exact p2_mono (by decide)
theorem tiny2 : 4 * p2 (-1074) ≤ t0 := by
  have : (4 : Rat) = p2 2 := (p2_nat 2).symm
  rw [this, ← p2_add]; exact p2_mono (by decide)
theorem tiny3 : p2 (-1075) ≤ p2 (-1074) := p2_mono (by decide)

section
variable {n : Nat} {R : Mx} {x : Nat → F} {G : Rat}
theorem back_fin {i : Nat} (hRi : Fi (R i i)) (hx : Fi (x i)) (hxi : x i = fdiv (backT n R x i (n - 1 - i)) (R i i)) :
    ∀ d, d ≤ n - 1 - i → Fi (backT n R x i (n - 1 - i - d)) := by
  intro d
  induction d with
  | zero => intro _; rw [hxi] at hx; exact hx.div_arg hRi
  | succ d ih =>
    intro hd
    have h := ih (by omega)
    rw [show n - 1 - i - d = (n - 1 - i - (d + 1)) + 1 by omega] at h
    exact h.sub_args.1
/-- The row's sum, its first k places behind the pivot's. -/
def tailS (R : Mx) (x : Nat → F) (i k : Nat) : Rat := rsum (fun l => vq (R i (i + 1 + l)) * qf x (i + 1 + l)) k
theorem back_off (hn : n ≤ 8) (hG : Ab 0 G) (hG1 : G ≤ p2 70) {i : Nat} (hi : i < n) (hR : ∀ j, j < n → Fi (R i j) ∧ Ab (vq (R i j)) G) (hz : vq (R i i) ≠ 0)
    (hx : ∀ j, j < n → Fi (x j)) (hxi : x i = fdiv (backT n R x i (n - 1 - i)) (R i i)) :
    ∀ d, d ≤ n - 1 - i → Ab (vq (backT n R x i (n - 1 - i - d)) - (tailS R x i (n - 1 - i) - tailS R x i (n - 1 - i - d)) - vq (R i i) * qf x i) ((5 + 4 * (d : Nat)) * unit G (xs x n)) := by
  have hG0 := hG.nn
  have hX : ∀ k, k ≤ n - 1 - i → rsum (fun l => rabs (qf x (i + 1 + l))) k + rabs (qf x i) ≤ xs x n := by
    intro k hk
    have h1 := rsum_shift (f := fun j => rabs (qf x j)) (fun j => rabs_nn _) i k
    have h2 := rsum_mono (f := fun j => rabs (qf x j)) (fun j => rabs_nn _) (show i + 1 + k ≤ n by omega)
    unfold xs; grind
  have hXn : 0 ≤ xs x n := rsum_nn fun _ _ => rabs_nn _
  have hGX := Rat.mul_nonneg hG0 hXn
  obtain ⟨W, hW⟩ : ∃ W, W = G * xs x n := ⟨_, rfl⟩
  have hU : unit G (xs x n) = u53 * W + t0 := by rw [hW]; rfl
  rw [hU]
  rw [← hW] at hGX
  have hu := u53_val
  have ht := t0_pos
  have hu0 : 0 ≤ u53 := Rat.le_of_lt (p2_pos _)
  have huW := Rat.mul_nonneg hu0 hGX
  intro d
  induction d with
  | zero =>
    intro _
    have hq := hx i hi
    have hxr := hxi ▸ hq
    have h1 := res_div hxr (hR i hi).1 hz (hxi ▸ ab_rabs (vq (x i))) (hR i hi).2
    rw [← hxi] at h1
    rw [Nat.sub_zero]
    have e : vq (backT n R x i (n - 1 - i)) - (tailS R x i (n - 1 - i) - tailS R x i (n - 1 - i)) - vq (R i i) * qf x i = -(vq (x i) * vq (R i i) - vq (backT n R x i (n - 1 - i))) := by unfold qf; grind
    rw [e]
    refine h1.neg.mono ?_
    have h2 := hX 0 (by omega)
    have h3 := Rat.mul_le_mul_of_nonneg_left (show rabs (qf x i) ≤ xs x n by simp only [rsum] at h2; grind) hG0
    rw [← hW] at h3
    have h4 := Rat.mul_le_mul_of_nonneg_left hG1 (Rat.le_of_lt (p2_pos (-1074)))
    have h5 := tiny1
    have h6 := Rat.mul_le_mul_of_nonneg_left h3 hu0
    have e2 : (rabs (vq (x i)) * p2 (-51) + p2 (-1074)) * G = 4 * (u53 * (G * rabs (qf x i))) + p2 (-1074) * G := by rw [k51]; unfold qf; grind
    rw [e2]
    have e0 : ((0 : Nat) : Rat) = 0 := rfl
    rw [e0]
    grind
  | succ d ih =>
    intro hd
    have h1 := ih (by omega)
    obtain ⟨k, hk⟩ : ∃ k, k = n - 1 - i - (d + 1) := ⟨_, rfl⟩
    have hk1 : n - 1 - i - d = k + 1 := by omega
    rw [← hk]
    rw [hk1] at h1
    have hf := back_fin (hR i hi).1 (hx i hi) hxi d (by omega)
    rw [hk1] at hf
    obtain ⟨j, hj⟩ : ∃ j, j = i + 1 + k := ⟨_, rfl⟩
    have hjn : j < n := by omega
    have eT : backT n R x i (k + 1) = fsub (backT n R x i k) (fmul (R i j) (x j)) := by rw [hj]; rfl
    have eS : tailS R x i (k + 1) = tailS R x i k + vq (R i j) * qf x j := by rw [hj]; rfl
    rw [eS] at h1
    rw [eT] at h1 hf
    obtain ⟨r, hr⟩ : ∃ r, r = vq (fsub (backT n R x i k) (fmul (R i j) (x j))) := ⟨_, rfl⟩
    have hm := fin_mul' hf.sub_args.2 ((hR j hjn).2.mul (ab_rabs (vq (x j))))
    have hs := res_sub hf (ab_rabs _)
    rw [← hr] at hs h1
    -- how great what is left is
    have hts : Ab (tailS R x i (n - 1 - i) - tailS R x i k - vq (R i j) * qf x j + vq (R i i) * qf x i) (W) := by
      have hd1 : ∀ c, Ab (rsum (fun l => vq (R i (i + 1 + (k + 1 + l))) * qf x (i + 1 + (k + 1 + l))) c) (G * rsum (fun l => rabs (qf x (i + 1 + (k + 1 + l)))) c) → True := fun _ _ => trivial
      have hdif : ∀ c, k + 1 + c ≤ n - 1 - i → Ab (tailS R x i (k + 1 + c) - tailS R x i (k + 1)) (G * (rsum (fun l => rabs (qf x (i + 1 + l))) (k + 1 + c) - rsum (fun l => rabs (qf x (i + 1 + l))) (k + 1))) := by
        intro c
        induction c with
        | zero => intro _; simp [Ab]; constructor <;> grind
        | succ c ihc =>
          intro hc
          have a1 := ihc (by omega)
          have a2 := ((hR (i + 1 + (k + 1 + c)) (by omega)).2.mul (ab_rabs (qf x (i + 1 + (k + 1 + c)))))
          have a3 := a1.add a2
          have b1 : tailS R x i (k + 1 + (c + 1)) = tailS R x i (k + 1 + c) + vq (R i (i + 1 + (k + 1 + c))) * qf x (i + 1 + (k + 1 + c)) := rfl
          have b2 : rsum (fun l => rabs (qf x (i + 1 + l))) (k + 1 + (c + 1)) = rsum (fun l => rabs (qf x (i + 1 + l))) (k + 1 + c) + rabs (qf x (i + 1 + (k + 1 + c))) := rfl
          rw [b1, b2]
          unfold Ab at *
          grind
      have h2 := hdif (n - 1 - i - (k + 1)) (by omega)
      rw [show k + 1 + (n - 1 - i - (k + 1)) = n - 1 - i by omega, eS] at h2
      have h3 := (hR i hi).2.mul (ab_rabs (qf x i))
      have h4 := h2.add h3
      have h5 := hX (n - 1 - i) (Nat.le_refl _)
      have h6 : 0 ≤ rsum (fun l => rabs (qf x (i + 1 + l))) (k + 1) := rsum_nn fun _ _ => rabs_nn _
      have h7 := Rat.mul_le_mul_of_nonneg_left (show rsum (fun l => rabs (qf x (i + 1 + l))) (n - 1 - i) - rsum (fun l => rabs (qf x (i + 1 + l))) (k + 1) + rabs (qf x i) ≤ xs x n by grind) hG0
      rw [← hW] at h7
      unfold Ab at *
      grind
    have hxj := Rat.mul_le_mul_of_nonneg_left (show rabs (vq (x j)) ≤ xs x n from rsum_term (f := fun j => rabs (qf x j)) (fun _ => rabs_nn _) hjn) hG0
    rw [← hW] at hxj
    have hxj2 := Rat.mul_le_mul_of_nonneg_left hxj hu0
    have hd8 : ((d : Nat) : Rat) ≤ 7 := by
      have : ((d : Nat) : Rat) ≤ ((7 : Nat) : Rat) := Rat.natCast_le_natCast.2 (by omega)
      exact this
    have hd0 : (0 : Rat) ≤ ((d : Nat) : Rat) := cast_nn d
    rw [show (((d + 1 : Nat)) : Rat) = ((d : Nat) : Rat) + 1 from Rat.natCast_add d 1]
    obtain ⟨D, hD⟩ : ∃ D : Rat, D = ((d : Nat) : Rat) := ⟨_, rfl⟩
    rw [← hD] at hd8 hd0 h1 ⊢
    have ht2 := tiny2
    have ht3 := tiny3
    rw [k52] at hs
    have hu' : p2 (-53) = u53 := rfl
    rw [hu'] at hm
    obtain ⟨V, hV⟩ : ∃ V, V = u53 * W + t0 := ⟨_, rfl⟩
    have hV0 : 0 ≤ V := by grind
    rw [← hV] at h1 ⊢
    have hDV : D * V ≤ 7 * V := Rat.mul_le_mul_of_nonneg_right hd8 hV0
    have hr2 : rabs r ≤ 40 * V + W := by
      rw [rabs_ab]
      have : Ab (r - (tailS R x i (n - 1 - i) - (tailS R x i k + vq (R i j) * qf x j)) - vq (R i i) * qf x i) (40 * V) := h1.mono (by grind)
      unfold Ab at *
      grind
    have hr3 := Rat.mul_le_mul_of_nonneg_right hr2 hu0
    have hr4 : u53 * 100 ≤ 1 / 1000 := by grind
    have hr5 := Rat.mul_le_mul_of_nonneg_left hr4 hV0
    unfold qf at *
    unfold Ab at *
    grind
end
end Go.Proofs.Ytghhanifakllpaa.Nu

/- Plain: one step of the elimination over fractions. No program in sight. -/
set_option linter.unusedVariables false
set_option linter.unusedSimpArgs false
namespace Go.Proofs.Ytghhanifakllpaa.Nu
open Ieee

/-! ### Order -/
theorem feq_rv {x y : F} (hx : Fi x) (hy : Fi y) : feq x y = decide (vq x = vq y) := by
  obtain ⟨a, b, e, h1, h2, h3⟩ := hx.rv.cmp hy.rv
  unfold feq
  rw [h1, h2, h3]
  have hab : ((a : Rat) * p2 e = (b : Rat) * p2 e) ↔ a = b := by
    constructor
    · intro h
      have g1 := (p2_le a b e).1 (by grind)
      have g2 := (p2_le b a e).1 (by grind)
      omega
    · intro h; rw [h]
  rw [show decide ((a : Rat) * p2 e = (b : Rat) * p2 e) = decide (a = b) from decide_eq_decide.2 hab]
  show (some (compareOfLessAndEq a b) == some Ordering.eq) = _
  unfold compareOfLessAndEq
  by_cases g1 : a < b
  · rw [if_pos g1, decide_eq_false (by omega)]; rfl
  · rw [if_neg g1]
    by_cases g2 : a = b
    · rw [if_pos g2, decide_eq_true g2]; rfl
    · rw [if_neg g2, decide_eq_false g2]; rfl
theorem fgt_rv {x y : F} (hx : Fi x) (hy : Fi y) : fgt x y = decide (vq y < vq x) := by
  obtain ⟨a, b, e, h1, h2, h3⟩ := hx.rv.cmp hy.rv
  unfold fgt
  rw [h1, h2, h3]
  have hab : ((b : Rat) * p2 e < (a : Rat) * p2 e) ↔ b < a := by
    have := p2_le a b e
    constructor
    · intro h
      by_cases hba : b < a
      · exact hba
      · have := this.2 (by omega)
        grind
    · intro h
      have g : ¬ ((a : Rat) * p2 e ≤ (b : Rat) * p2 e) := fun g => by have := this.1 g; omega
      grind
  rw [show decide ((b : Rat) * p2 e < (a : Rat) * p2 e) = decide (b < a) from decide_eq_decide.2 hab]
  show (some (compareOfLessAndEq a b) == some Ordering.gt) = _
  unfold compareOfLessAndEq
  by_cases g1 : a < b
  · rw [if_pos g1, decide_eq_false (by omega)]; rfl
  · rw [if_neg g1]
    by_cases g2 : a = b
    · rw [if_pos g2, decide_eq_false (by omega)]; rfl
    · rw [if_neg g2, decide_eq_true (by omega)]; rfl
theorem Fi.abs {x : F} (h : Fi x) : Fi (fabs x) ∧ vq (fabs x) = rabs (vq x) := (RV.abs h.rv).fi
theorem fi_zero : Fi fzero ∧ vq fzero = 0 := by
  have h : double.read 0 = .number false 0 (-1074) := by decide
  refine ⟨⟨0, _, _, _, rfl, h⟩, ?_⟩
  show vq (some 0) = 0
  rw [vq_some h]; unfold nv; simp
theorem bad_no {x : F} (h : bad x = false) : Fi x ∧ vq x ≠ 0 := by
  unfold bad at h
  have h1 : feq x fzero = false ∧ ffin x = true := by
    cases h2 : feq x fzero <;> cases h3 : ffin x <;> simp_all
  have h2 := ffin_fi h1.2
  refine ⟨h2, fun hz => ?_⟩
  rw [feq_rv h2 fi_zero.1, fi_zero.2, decide_eq_true hz] at h1
  exact absurd h1.1 (by simp)
/-! ### The pivot is the greatest -/
theorem pickTo_max {M : Mx} {c : Nat} : ∀ k, (∀ i, c ≤ i → i ≤ c + k → Fi (M i c)) → ∀ i, c ≤ i → i ≤ c + k → rabs (vq (M i c)) ≤ rabs (vq (M (pickTo M c k) c))
  | 0, hf, i, h1, h2 => by
    have : i = c := by omega
    subst this; exact Rat.le_refl
  | k + 1, hf, i, h1, h2 => by
    have ih := pickTo_max k fun i a b => hf i a (by omega)
    have hp := pickTo_ge M c k
    have g1 := (hf (c + 1 + k) (by omega) (by omega)).abs
    have g2 := (hf (pickTo M c k) hp.1 (by omega)).abs
    unfold pickTo
    rw [fgt_rv g1.1 g2.1, g1.2, g2.2]
    by_cases hlt : rabs (vq (M (pickTo M c k) c)) < rabs (vq (M (c + 1 + k) c))
    · rw [if_pos (by simpa using hlt)]
      by_cases hi : i = c + 1 + k
      · subst hi; exact Rat.le_refl
      · have := ih i h1 (by omega); grind
    · rw [if_neg (by simpa using hlt)]
      by_cases hi : i = c + 1 + k
      · subst hi; grind
      · exact ih i h1 (by omega)
theorem pick_max {M : Mx} {n c : Nat} (hc : c < n) (hf : ∀ i, c ≤ i → i < n → Fi (M i c)) {i : Nat} (h1 : c ≤ i) (h2 : i < n) : rabs (vq (M i c)) ≤ rabs (vq (M (pick n M c) c)) := by
  unfold pick
  exact pickTo_max (n - c - 1) (fun i a b => hf i a (by omega)) i h1 (by omega)

/-! ### A factor and a cell -/
theorem u_small : u53 * 1000000 ≤ 1 := by
  have := u53_val
  have := Rat.le_of_lt (p2_pos (-53))
  have h : 0 ≤ u53 := this
  grind
theorem u_nn : 0 ≤ u53 := Rat.le_of_lt (p2_pos (-53))
theorem small_g {g : Rat} (h : p2 (-900) ≤ g) : p2 (-1075) * 1000 ≤ u53 * g := by
  have h1 := Rat.mul_le_mul_of_nonneg_left h u_nn
  have h2 : u53 * p2 (-900) = p2 (-953) := by unfold u53; rw [← p2_add]; rfl
  have h3 : p2 (-1075) * p2 10 ≤ p2 (-953) := by rw [← p2_add]; exact p2_mono (by decide)
  have h4 : p2 10 = 1024 := p2_nat 10
  rw [h4] at h3
  have := p2_pos (-1075)
  grind
theorem tiny_u : p2 (-1075) ≤ u53 := p2_mono (by decide)
theorem factor_ok {a b : F} {g : Rat} (ha : Fi a) (hb : Fi b) (hab : rabs (vq a) ≤ rabs (vq b)) (hz : vq b ≠ 0) (hg : Ab (vq b) g) :
    Fi (fdiv a b) ∧ Ab (vq (fdiv a b)) (1 + 4 * u53) ∧ Ab (vq (fdiv a b) * vq b - vq a) (4 * u53 * g) := by
  obtain ⟨v, hv⟩ : ∃ v, v = vq a / vq b := ⟨_, rfl⟩
  have hv1 : vq a = v * vq b := by rw [hv, Rat.div_mul_cancel hz]
  have hb0 : 0 < rabs (vq b) := by unfold rabs; split <;> grind
  have hv2 : rabs v ≤ 1 := by
    refine le_of_mul_pos hb0 ?_
    rw [← rabs_mul, ← hv1]; grind
  have h999 : (1 : Rat) ≤ p2 999 := by
    have := p2_mono (show (0 : Int) ≤ 999 by decide)
    rwa [p2_zero] at this
  obtain ⟨r, h1, _⟩ := RV.div ha.rv hb.rv hz hv1 (rabs_ab.1 hv2) h999
  have hf := h1.fi.1
  have h2 := fin_div hf hb hz hv1
  have hu := u_small
  have hu0 := u_nn
  have ht := p2_pos (-1075)
  have htu := tiny_u
  have e52' : p2 (-52) = 2 * u53 := k52
  have hve := Rat.mul_le_mul_of_nonneg_right hv2 hu0
  have h3 := h2.mono (C := 3 * u53) (by unfold e52; rw [e52']; grind)
  refine ⟨hf, ?_, ?_⟩
  · have := rabs_ab.1 hv2
    unfold Ab at *; grind
  · have e : vq (fdiv a b) * vq b - vq a = (vq (fdiv a b) - v) * vq b := by rw [hv1]; grind
    rw [e]
    refine (h3.mul hg).mono ?_
    have := Rat.mul_nonneg hu0 hg.nn
    grind
theorem cell_ok {a f b : F} {g : Rat} (ha : Fi a) (hf : Fi f) (hb : Fi b) (ga : Ab (vq a) g) (gf : Ab (vq f) (1 + 4 * u53)) (gb : Ab (vq b) g) (g1 : p2 (-900) ≤ g) (g2 : g ≤ p2 900) :
    Fi (fless a f b) ∧ Fi (fmul f b) ∧ Ab (vq (fless a f b) - (vq a - vq f * vq b)) (4 * u53 * g) ∧ Ab (vq (fless a f b)) (17 / 8 * g) := by
  have hu := u_small
  have hu0 := u_nn
  have hg0 : 0 ≤ g := ga.nn
  have hug := Rat.mul_nonneg hu0 hg0
  have hug2 : u53 * (u53 * g) * 1000000 ≤ u53 * g := by
    have := Rat.mul_le_mul_of_nonneg_right hu hug
    grind
  have hug3 : u53 * g * 1000000 ≤ g := by
    have := Rat.mul_le_mul_of_nonneg_right hu hg0
    grind
  have hs := small_g g1
  have ht := p2_pos (-1075)
  have h901 : 4 * p2 900 ≤ p2 1000 := by
    have : (4 : Rat) = p2 2 := (p2_nat 2).symm
    rw [this, ← p2_add]; exact p2_mono (by decide)
  have hm := gf.mul gb
  have hm2 : Ab (vq f * vq b) (g + 4 * (u53 * g)) := hm.mono (by grind)
  obtain ⟨r, h1, h2⟩ := RV.mul hf.rv hb.rv hm2 (by grind)
  obtain ⟨h3, h4⟩ := h1.fi
  have h5 : Ab (r - vq f * vq b) (u53 * g + 1 / 4 * (u53 * g)) := h2.ab.mono (by
    unfold e53
    have : p2 (-53) = u53 := rfl
    rw [this]
    grind)
  have h6 : Ab (vq a - r) (2 * g + 6 * (u53 * g)) := by unfold Ab at *; grind
  obtain ⟨w, k1, k2⟩ := RV.sub ha.rv h1 h6 (by grind)
  obtain ⟨k3, k4⟩ := k1.fi
  have k5 : Ab (w - (vq a - r)) (2 * (u53 * g) + 1 / 4 * (u53 * g)) := k2.ab.mono (by
    unfold e53
    have : p2 (-53) = u53 := rfl
    rw [this]
    grind)
  refine ⟨k3, h3, ?_, ?_⟩
  · show Ab (vq (fsub a (fmul f b)) - _) _
    rw [k4]
    unfold Ab at *; grind
  · show Ab (vq (fsub a (fmul f b))) _
    rw [k4]
    unfold Ab at *; grind
end Go.Proofs.Ytghhanifakllpaa.Nu

/- Plain: how far the steps of a linear system are off. No program in sight. -/
import Derived.Test.YtghhanifakllpaaNcY
import Derived.Test.YtghhanifakllpaaViY
import Derived.Test.YtghhanifakllpaaBuY
set_option linter.unusedSimpArgs false
set_option linter.unusedVariables false
set_option linter.unusedVariables false
set_option linter.unusedSimpArgs false
namespace Go.Proofs.Ytghhanifakllpaa.Nu
open Ieee

/-- An element behind c steps: what is done away with is nothing. -/
def Vc (c : Nat) (R : Mx) (i j : Nat) : Rat := if j < min i c then 0 else vq (R i j)
/-- What row i, behind c steps, leaves. -/
def res (n c : Nat) (R : Mx) (x : Nat → F) (i : Nat) : Rat := rsum (fun j => Vc c R i j * qf x j) n - vq (R i n)
/-- All elements are finite, and no greater than g; right sides than h. -/
structure Okm (n : Nat) (M : Mx) (g h : Rat) : Prop where
  el : ∀ i j, i < n → j < n → Fi (M i j) ∧ Ab (vq (M i j)) g
  rs : ∀ i, i < n → Fi (M i n) ∧ Ab (vq (M i n)) h
  g1 : p2 (-900) ≤ g
  g2 : g ≤ p2 900
  h1 : p2 (-900) ≤ h
  h2 : h ≤ p2 900
theorem Okm.swap {n : Nat} {M : Mx} {g h : Rat} (o : Okm n M g h) {c p : Nat} (hc : c < n) (hp : p < n) : Okm n (swapM M c p) g h :=
  ⟨fun i j hi hj => o.el _ _ (sw_lt hc hp hi) hj, fun i hi => o.rs _ (sw_lt hc hp hi), o.g1, o.g2, o.h1, o.h2⟩
/-- The pivot stands at its place, and is the greatest below. -/
structure Top (n : Nat) (S : Mx) (c : Nat) : Prop where
  nz : vq (S c c) ≠ 0
  mx : ∀ i, c ≤ i → i < n → rabs (vq (S i c)) ≤ rabs (vq (S c c))
theorem top_of {n : Nat} {M : Mx} {g h : Rat} (o : Okm n M g h) {c : Nat} (hc : c < n) (hb : bad (M (pick n M c) c) = false) : Top n (swapM M c (pick n M c)) c := by
  have hp := pick_lt M hc
  refine ⟨?_, fun i h1 h2 => ?_⟩
  · unfold swapM; rw [sw_left]; exact (bad_no hb).2
  · unfold swapM; rw [sw_left]
    refine pick_max hc (fun i _ h => (o.el i c h hc).1) ?_ (sw_lt hc hp.2 h2)
    unfold Go.Proofs.Ytghhanifakllpaa.sw; split
    · exact hp.1
    · split <;> omega
section
variable {n : Nat} {S : Mx} {c : Nat} {g h : Rat}
theorem elim_ok (o : Okm n S g h) (t : Top n S c) {i : Nat} (hci : c < i) (hi : i < n) :
    ∃ fv, Ab fv (1 + 4 * u53) ∧ Ab (fv * vq (S c c) - vq (S i c)) (4 * u53 * g) ∧
      (∀ j, c < j → j < n → Fi (elimM n S c i j) ∧ Ab (vq (elimM n S c i j) - (vq (S i j) - fv * vq (S c j))) (4 * u53 * g) ∧ Ab (vq (elimM n S c i j)) (17 / 8 * g)) ∧
      Fi (elimM n S c i n) ∧ Ab (vq (elimM n S c i n)) (17 / 8 * h) ∧
      (∀ A B, Ab (vq (S c n)) A → Ab (vq (elimM n S c i n)) B → Ab (vq (elimM n S c i n) - (vq (S i n) - fv * vq (S c n))) (u53 * (1 + 4 * u53) * A + 2 * u53 * B + 4 * p2 (-1074))) := by
  have hc : c < n := by omega
  obtain ⟨f1, f2, f3⟩ := factor_ok (o.el i c hi hc).1 (o.el c c hc hc).1 (t.mx i (by omega) hi) t.nz (o.el c c hc hc).2
  refine ⟨_, f2, f3, fun j h1 h2 => ?_, ?_⟩
  · have e : elimM n S c i j = fless (S i j) (fdiv (S i c) (S c c)) (S c j) := by unfold elimM; rw [if_pos (by omega)]
    rw [e]
    obtain ⟨a1, a2, a3, a4⟩ := cell_ok (o.el i j hi h2).1 f1 (o.el c j hc h2).1 (o.el i j hi h2).2 f2 (o.el c j hc h2).2 o.g1 o.g2
    exact ⟨a1, a3, a4⟩
  · have e : elimM n S c i n = fless (S i n) (fdiv (S i c) (S c c)) (S c n) := by unfold elimM; rw [if_pos (by omega)]
    rw [e]
    obtain ⟨a1, a2, a3, a4⟩ := cell_ok (o.rs i hi).1 f1 (o.rs c hc).1 (o.rs i hi).2 f2 (o.rs c hc).2 o.h1 o.h2
    refine ⟨a1, a4, fun A B hA hB => ?_⟩
    have m1 := fin_mul' a2 (f2.mul hA)
    have m2 := res_sub a1 hB
    rw [k52] at m2
    have m3 : p2 (-53) = u53 := rfl
    rw [m3] at m1
    have m4 := tiny3
    have m5 := p2_pos (-1074)
    show Ab (vq (fsub (S i n) (fmul (fdiv (S i c) (S c c)) (S c n))) - _) _
    unfold Ab at *
    grind
/-- The next matrix. -/
theorem Okm.elim (o : Okm n S g h) (t : Top n S c) (hc : c + 1 < n) (g2 : 17 / 8 * g ≤ p2 900) (h2 : 17 / 8 * h ≤ p2 900) : Okm n (elimM n S c) (17 / 8 * g) (17 / 8 * h) := by
  have p0 := p2_pos (-900)
  have o1 := o.g1
  have o2 := o.h1
  refine ⟨fun i j hi hj => ?_, fun i hi => ?_, by grind, g2, by grind, h2⟩
  · by_cases hci : c < i
    · obtain ⟨_, _, _, h3, _⟩ := elim_ok o t hci hi
      by_cases hcj : c < j
      · exact ⟨(h3 j hcj hj).1, (h3 j hcj hj).2.2⟩
      · have e : elimM n S c i j = S i j := by unfold elimM; rw [if_neg (by omega)]
        rw [e]; exact ⟨(o.el i j hi hj).1, (o.el i j hi hj).2.mono (by grind)⟩
    · have e : elimM n S c i j = S i j := by unfold elimM; rw [if_neg (by omega)]
      rw [e]; exact ⟨(o.el i j hi hj).1, (o.el i j hi hj).2.mono (by grind)⟩
  · by_cases hci : c < i
    · obtain ⟨_, _, _, _, h4, h5, _⟩ := elim_ok o t hci hi
      exact ⟨h4, h5⟩
    · have e : elimM n S c i n = S i n := by unfold elimM; rw [if_neg (by omega)]
      rw [e]; exact ⟨(o.rs i hi).1, (o.rs i hi).2.mono (by grind)⟩
theorem elim_last (hc : c + 1 = n) (i j : Nat) : elimM n S c i j = S i j := by unfold elimM; rw [if_neg (by omega)]

/-! ### Residues -/
theorem res_low {x : Nat → F} {i : Nat} (hi : i ≤ c) : res n (c + 1) (elimM n S c) x i = res n c S x i := by
  unfold res
  have e : elimM n S c i n = S i n := by unfold elimM; rw [if_neg (by omega)]
  rw [e]
  congr 1
  refine rsum_congr fun j hj => ?_
  unfold Vc
  rw [show min i (c + 1) = min i c by omega]
  have e : elimM n S c i j = S i j := by unfold elimM; rw [if_neg (by omega)]
  rw [e]
theorem rsum_lin (a b d x : Nat → Rat) (f : Rat) (n : Nat) : rsum (fun j => a j * x j) n = f * rsum (fun j => b j * x j) n + rsum (fun j => d j * x j) n + rsum (fun j => (a j - f * b j - d j) * x j) n := by
  induction n with
  | zero => simp only [rsum]; grind
  | succ n ih => simp only [rsum]; rw [ih]; grind
theorem Vc_ab {R : Mx} (o : Okm n R g h) {i j : Nat} (hi : i < n) (hj : j < n) : Ab (Vc c R i j) g := by
  unfold Vc; split
  · have := (o.el i j hi hj).2.nn
    exact ab_zero this
  · exact (o.el i j hi hj).2
theorem res_step {x : Nat → F} {G H b1 r U : Rat} (o : Okm n S g h) (t : Top n S c) (hG : 17 / 8 * g ≤ G) {i : Nat} (hci : c < i) (hi : i < n)
    (hU : U = unit G (xs x n)) (hc : Ab (res n c S x c) b1) (hr : Ab (res n (c + 1) (elimM n S c) x i) r) (hb1 : b1 ≤ 100 * U) (hr1 : r ≤ 1000 * U) (o' : Okm n (elimM n S c) G H) : Ab (res n c S x i) (r + b1 + 8 * U) := by
  have hcn : c < n := by omega
  obtain ⟨f, f1, f2, f3, f4, f5, f6⟩ := elim_ok o t hci hi
  have hX : 0 ≤ xs x n := rsum_nn fun _ _ => rabs_nn _
  have hg0 := (o.el i c hi hcn).2.nn
  have hG0 : 0 ≤ G := by grind
  obtain ⟨W, hW⟩ : ∃ W, W = G * xs x n := ⟨_, rfl⟩
  have hW0 : 0 ≤ W := by rw [hW]; exact Rat.mul_nonneg hG0 hX
  have hUW : U = u53 * W + t0 := by rw [hU, hW]; rfl
  have hlin := rsum_lin (fun j => Vc c S i j) (fun j => Vc c S c j) (fun j => Vc (c + 1) (elimM n S c) i j) (qf x) f n
  have hd : ∀ j, j < n → Ab (Vc c S i j - f * Vc c S c j - Vc (c + 1) (elimM n S c) i j) (2 * u53 * G) := by
    intro j hj
    have hu := Rat.mul_le_mul_of_nonneg_left hG u_nn
    have hug := Rat.mul_nonneg u_nn hg0
    unfold Vc
    rw [show min i c = c by omega, show min c c = c by omega, show min i (c + 1) = c + 1 by omega]
    by_cases h1 : j < c
    · rw [if_pos h1, if_pos h1, if_pos (by omega)]
      unfold Ab; grind
    · rw [if_neg h1, if_neg h1]
      by_cases h2 : j = c
      · subst h2
        rw [if_pos (by omega)]
        unfold Ab at *; grind
      · rw [if_neg (by omega)]
        have := (f3 j (by omega) hj).2.1
        unfold Ab at *; grind
  have hds := rsum_ab (x := qf x) hd
  have hds2 : Ab (rsum (fun j => (Vc c S i j - f * Vc c S c j - Vc (c + 1) (elimM n S c) i j) * qf x j) n) (2 * (u53 * W)) := by
    refine hds.mono ?_
    rw [hW]; unfold xs; grind
  have hgG : g ≤ G := by grind
  have hVc : Ab (rsum (fun j => Vc c S c j * qf x j) n) W := by
    have := rsum_ab (x := qf x) (f := fun j => Vc c S c j) (G := G) fun j hj => (Vc_ab o hcn hj).mono hgG
    rw [hW]; exact this
  have hVi : Ab (rsum (fun j => Vc (c + 1) (elimM n S c) i j * qf x j) n) W := by
    have := rsum_ab (x := qf x) (f := fun j => Vc (c + 1) (elimM n S c) i j) (G := G) fun j hj => Vc_ab o' hi hj
    rw [hW]; exact this
  unfold res at hc hr ⊢
  have y1 : Ab (vq (S c n)) (W + b1) := by unfold Ab at *; grind
  have y2 : Ab (vq (elimM n S c i n)) (W + r) := by unfold Ab at *; grind
  have y3 := f6 _ _ y1 y2
  have hu := u_small
  have hu0 := u_nn
  have ht := t0_pos
  have ht2 := tiny2
  have huW := Rat.mul_nonneg hu0 hW0
  have hU0 : 0 ≤ U := by grind
  have hub : u53 * b1 ≤ U / 1000 := by
    have := Rat.mul_le_mul_of_nonneg_left hb1 hu0
    have h2 := Rat.mul_le_mul_of_nonneg_right hu hU0
    grind
  have hur : u53 * r ≤ U / 1000 := by
    have := Rat.mul_le_mul_of_nonneg_left hr1 hu0
    have h2 := Rat.mul_le_mul_of_nonneg_right hu hU0
    grind
  have huu : u53 * (u53 * W) * 1000000 ≤ u53 * W := by
    have := Rat.mul_le_mul_of_nonneg_right hu huW
    grind
  have hub0 : 0 ≤ b1 := hc.nn
  have hubb : u53 * (u53 * b1) * 1000000 ≤ u53 * b1 := by
    have := Rat.mul_le_mul_of_nonneg_right hu (Rat.mul_nonneg hu0 hub0)
    grind
  have y4 : Ab (vq (elimM n S c i n) - (vq (S i n) - f * vq (S c n))) (3 * (u53 * W) + t0 + U / 10) := y3.mono (by grind)
  have fc := f1.mul hc
  have fc2 : Ab (f * (rsum (fun j => Vc c S c j * qf x j) n - vq (S c n))) (b1 + U / 100) := fc.mono (by grind)
  rw [hlin]
  have h6 : 2 * (u53 * W) + (3 * (u53 * W) + t0 + U / 10) + (b1 + U / 100) + r ≤ r + b1 + 8 * U := by grind
  refine Ab.mono ?_ h6
  have hall := ((hds2.add y4).add fc2).add hr
  refine (congrArg (fun q => Ab q _) ?_).mpr hall
  grind
theorem sw_inv {c p i : Nat} : Go.Proofs.Ytghhanifakllpaa.sw c p (Go.Proofs.Ytghhanifakllpaa.sw c p i) = i := by
  unfold Go.Proofs.Ytghhanifakllpaa.sw
  by_cases h1 : i = c
  · subst h1
    rw [if_pos rfl]
    by_cases h2 : p = i
    · rw [if_pos h2]; exact h2
    · rw [if_neg h2, if_pos rfl]
  · rw [if_neg h1]
    by_cases h2 : i = p
    · subst h2
      rw [if_pos rfl, if_pos rfl]
    · rw [if_neg h2, if_neg h1, if_neg h2]
theorem res_swap {M : Mx} {x : Nat → F} {p i : Nat} (hcp : c ≤ p) : res n c (swapM M c p) x i = res n c M x (Go.Proofs.Ytghhanifakllpaa.sw c p i) := by
  unfold res Vc swapM
  congr 1
  refine rsum_congr fun j hj => ?_
  have : min i c = min (Go.Proofs.Ytghhanifakllpaa.sw c p i) c := by
    unfold Go.Proofs.Ytghhanifakllpaa.sw
    split
    · omega
    · split <;> omega
  rw [this]
end
/-! ### All steps -/
def b1 (n : Nat) : Rat := 4 * (n : Nat) + 1
/-- What is left of the greatest growth. -/
def grow (n c : Nat) : Rat := (17 / 8) ^ (n - 1 - c)
theorem grow_ge (n c : Nat) : 1 ≤ grow n c := by
  unfold grow
  induction n - 1 - c with
  | zero => rw [Rat.pow_zero]; grind
  | succ k ih => rw [Rat.pow_succ]; grind
theorem grow_step {n c : Nat} (h : c + 1 < n) : grow n c = grow n (c + 1) * (17 / 8) := by
  unfold grow
  rw [show n - 1 - c = (n - 1 - (c + 1)) + 1 by omega, Rat.pow_succ]
theorem grow_le {n c : Nat} {g G : Rat} (hg : 0 ≤ g) (h : g * grow n c ≤ G) : g ≤ G := by
  have := Rat.mul_le_mul_of_nonneg_left (grow_ge n c) hg
  grind
/-- Behind all steps the elements are finite, the pivots are not nothing. -/
theorem goS_ok {n : Nat} {G H : Rat} (hG : G ≤ p2 900) (hH : H ≤ p2 900) : ∀ k c s g h, c + k = n → Okm n s.M g h → g * grow n c ≤ G → h * grow n c ≤ H → (goS n k c s).2 = true →
    Okm n (goS n k c s).1.M G H ∧ (∀ i, c ≤ i → i < n → vq ((goS n k c s).1.M i i) ≠ 0) ∧ (∀ i j, i < c → (goS n k c s).1.M i j = s.M i j) := by
  intro k
  induction k with
  | zero =>
    intro c s g h hc o g1 h1 _
    have a1 := p2_pos (-900)
    have a2 := o.g1
    have a3 := o.h1
    have a4 := grow_le (by grind) g1
    have a5 := grow_le (by grind) h1
    exact ⟨⟨fun i j hi hj => ⟨(o.el i j hi hj).1, (o.el i j hi hj).2.mono a4⟩, fun i hi => ⟨(o.rs i hi).1, (o.rs i hi).2.mono a5⟩, by grind, hG, by grind, hH⟩, fun i h1 h2 => by omega, fun _ _ _ => rfl⟩
  | succ k ih =>
    intro c s g h hc o g1 h1 hg
    unfold goS at hg ⊢
    have a1 := p2_pos (-900)
    have a2 := o.g1
    have a3 := o.h1
    cases hb : bad (s.M (pick n s.M c) c) with
    | true => rw [hb] at hg; exact absurd hg (by simp)
    | false =>
      rw [hb] at hg
      simp only [Bool.false_eq_true, if_false] at hg ⊢
      have hcn : c < n := by omega
      have hp := pick_lt s.M hcn
      have t := top_of o hcn hb
      have o1 := o.swap hcn hp.2
      have hM : (stepS n c s).M = elimM n (swapM s.M c (pick n s.M c)) c := rfl
      have hlow : ∀ i j, i < c → (stepS n c s).M i j = s.M i j := by
        intro i j hi
        rw [hM]
        unfold elimM
        rw [if_neg (by omega)]
        unfold swapM
        rw [sw_else (by omega) (by omega)]
      have key : ∃ g' h', Okm n (stepS n c s).M g' h' ∧ g' * grow n (c + 1) ≤ G ∧ h' * grow n (c + 1) ≤ H := by
        rw [hM]
        by_cases hl : c + 1 < n
        · have e := grow_step hl
          have b1 := grow_ge n (c + 1)
          have b2 : 17 / 8 * g ≤ G := grow_le (n := n) (c := c + 1) (by grind) (by rw [e] at g1; grind)
          have b3 : 17 / 8 * h ≤ H := grow_le (n := n) (c := c + 1) (by grind) (by rw [e] at h1; grind)
          exact ⟨_, _, o1.elim t hl (by grind) (by grind), by rw [e] at g1; grind, by rw [e] at h1; grind⟩
        · have e : elimM n (swapM s.M c (pick n s.M c)) c = swapM s.M c (pick n s.M c) := by funext i j; exact elim_last (by omega) i j
          rw [e]
          have e2 : grow n (c + 1) = grow n c := by unfold grow; rw [show n - 1 - (c + 1) = n - 1 - c by omega]
          rw [e2]
          exact ⟨g, h, o1, g1, h1⟩
      obtain ⟨g', h', o2, g3, h3⟩ := key
      obtain ⟨r1, r2, r3⟩ := ih (c + 1) (stepS n c s) g' h' (by omega) o2 g3 h3 hg
      refine ⟨r1, fun i h1 h2 => ?_, fun i j hi => by rw [r3 i j (by omega), hlow i j hi]⟩
      by_cases hic : i = c
      · subst hic
        rw [r3 i i (by omega), hM]
        have : elimM n (swapM s.M i (pick n s.M i)) i i i = swapM s.M i (pick n s.M i) i i := by unfold elimM; rw [if_neg (by omega)]
        rw [this]; exact t.nz
      · exact r2 i (by omega) h2
/-- What the rows leave at first, by what they leave in the end. -/
theorem goS_res {n : Nat} {G H U : Rat} {x : Nat → F} (hn : n ≤ 8) (hG : G ≤ p2 900) (hH : H ≤ p2 900) (hU : U = unit G (xs x n)) (hU0 : 0 ≤ U) : ∀ k c s g h, c + k = n → Okm n s.M g h → g * grow n c ≤ G → h * grow n c ≤ H → (goS n k c s).2 = true →
    (∀ i, i < n → Ab (res n n (goS n k c s).1.M x i) (b1 n * U)) → ∀ i, i < n → Ab (res n c s.M x i) ((b1 n + ((k - 1 : Nat) : Rat) * (b1 n + 8)) * U) := by
  intro k
  induction k with
  | zero =>
    intro c s g h hc o g1 h1 _ hr i hi
    have hcn : c = n := by omega
    subst hcn
    refine (hr i hi).mono ?_
    have : (((0 - 1 : Nat) : Nat) : Rat) = 0 := rfl
    rw [this]; grind
  | succ k ih =>
    intro c s g h hc o g1 h1 hg hr
    have hall := goS_ok hG hH (k + 1) c s g h hc o g1 h1 hg
    unfold goS at hg hr hall
    have a1 := p2_pos (-900)
    have a2 := o.g1
    have a3 := o.h1
    cases hb : bad (s.M (pick n s.M c) c) with
    | true => rw [hb] at hg; exact absurd hg (by simp)
    | false =>
      rw [hb] at hg hr hall
      simp only [Bool.false_eq_true, if_false] at hg hr hall
      have hcn : c < n := by omega
      have hp := pick_lt s.M hcn
      have t := top_of o hcn hb
      have o1 := o.swap hcn hp.2
      have hM : (stepS n c s).M = elimM n (swapM s.M c (pick n s.M c)) c := rfl
      have key : ∃ g' h', Okm n (stepS n c s).M g' h' ∧ g' * grow n (c + 1) ≤ G ∧ h' * grow n (c + 1) ≤ H := by
        rw [hM]
        by_cases hl : c + 1 < n
        · have e := grow_step hl
          have b1 := grow_ge n (c + 1)
          have b2 : 17 / 8 * g ≤ G := grow_le (n := n) (c := c + 1) (by grind) (by rw [e] at g1; grind)
          have b3 : 17 / 8 * h ≤ H := grow_le (n := n) (c := c + 1) (by grind) (by rw [e] at h1; grind)
          exact ⟨_, _, o1.elim t hl (by grind) (by grind), by rw [e] at g1; grind, by rw [e] at h1; grind⟩
        · have e : elimM n (swapM s.M c (pick n s.M c)) c = swapM s.M c (pick n s.M c) := by funext i j; exact elim_last (by omega) i j
          rw [e]
          have e2 : grow n (c + 1) = grow n c := by unfold grow; rw [show n - 1 - (c + 1) = n - 1 - c by omega]
          rw [e2]
          exact ⟨g, h, o1, g1, h1⟩
      obtain ⟨g', h', o2, g3, h3⟩ := key
      have ih2 := ih (c + 1) (stepS n c s) g' h' (by omega) o2 g3 h3 hg hr
      obtain ⟨r1, r2, r3⟩ := goS_ok hG hH k (c + 1) (stepS n c s) g' h' (by omega) o2 g3 h3 hg
      obtain ⟨B, hB⟩ : ∃ B, B = b1 n := ⟨_, rfl⟩
      have hB1 : 1 ≤ B ∧ B ≤ 33 := by
        rw [hB]; unfold b1
        have h1 : ((n : Nat) : Rat) ≤ ((8 : Nat) : Rat) := Rat.natCast_le_natCast.2 hn
        have h2 : ((8 : Nat) : Rat) = 8 := rfl
        have h3 := cast_nn n
        grind
      have hk8 : ((k - 1 : Nat) : Rat) ≤ 7 := by
        have : ((k - 1 : Nat) : Rat) ≤ ((7 : Nat) : Rat) := Rat.natCast_le_natCast.2 (by omega)
        exact this
      have hk0 := cast_nn (k - 1)
      rw [← hB] at hr ih2 ⊢
      rw [show k + 1 - 1 = k by omega]
      have hkk : c + 1 < n → ((k : Nat) : Rat) = ((k - 1 : Nat) : Rat) + 1 := fun h => by
        have := Rat.natCast_add (k - 1) 1
        rw [show k - 1 + 1 = k by omega] at this
        exact this
      have hk00 := cast_nn k
      obtain ⟨K1, hK1⟩ : ∃ K1 : Rat, K1 = ((k : Nat) : Rat) := ⟨_, rfl⟩
      rw [← hK1] at hkk hk00 ⊢
      obtain ⟨K, hK⟩ : ∃ K : Rat, K = ((k - 1 : Nat) : Rat) := ⟨_, rfl⟩
      rw [← hK] at hkk
      rw [← hK] at hk8 hk0 ih2
      have hKB : 0 ≤ K * (B + 8) := Rat.mul_nonneg hk0 (by grind)
      have hKB2 : K * (B + 8) ≤ 7 * 41 := by
        have h1 := Rat.mul_le_mul_of_nonneg_right hk8 (show 0 ≤ B + 8 by grind)
        grind
      have hBU : B * U ≤ 33 * U := Rat.mul_le_mul_of_nonneg_right hB1.2 hU0
      have hBU0 : 0 ≤ B * U := Rat.mul_nonneg (by grind) hU0
      have hKU : K * (B + 8) * U ≤ 7 * 41 * U := Rat.mul_le_mul_of_nonneg_right hKB2 hU0
      have hKU0 : 0 ≤ K * (B + 8) * U := Rat.mul_nonneg hKB hU0
      -- rows up to c are as they end
      have hlow : ∀ i, i ≤ c → Ab (res n (c + 1) (stepS n c s).M x i) (B * U) := by
        intro i hi
        have h1 := hr i (by omega)
        have e : res n n (goS n k (c + 1) (stepS n c s)).1.M x i = res n (c + 1) (stepS n c s).M x i := by
          unfold res
          rw [r3 i n (by omega)]
          refine congrArg (fun q => q - vq _) (rsum_congr fun j hj => ?_)
          unfold Vc
          rw [show min i n = i by omega, show min i (c + 1) = i by omega, r3 i j (by omega)]
        rw [e] at h1; exact h1
      have hS : ∀ i, i < n → Ab (res n c (swapM s.M c (pick n s.M c)) x i) ((B + K1 * (B + 8)) * U) := by
        intro i hi
        by_cases hci : c < i
        · have hg0 : 0 ≤ g := by grind
          have hl : c + 1 < n := by omega
          have e := grow_step hl
          have b2 : 17 / 8 * g ≤ G := grow_le (n := n) (c := c + 1) (by grind) (by rw [e] at g1; grind)
          have hrc := hlow c (Nat.le_refl _)
          rw [hM, res_low (Nat.le_refl _)] at hrc
          have hri := ih2 i hi
          rw [hM] at hri
          have b3 : 17 / 8 * h ≤ H := grow_le (n := n) (c := c + 1) (by grind) (by rw [e] at h1; grind)
          have o3 := o1.elim t hl (by grind) (by grind)
          have o4 : Okm n (elimM n (swapM s.M c (pick n s.M c)) c) G (17 / 8 * h) := ⟨fun i j hi hj => ⟨(o3.el i j hi hj).1, (o3.el i j hi hj).2.mono b2⟩, o3.rs, by grind, hG, o3.h1, o3.h2⟩
          have := res_step o1 t b2 hci hi hU hrc hri (by grind) (by grind) o4
          rw [hkk hl]
          exact this.mono (by grind)
        · have h1 := hlow i (by omega)
          rw [hM, res_low (by omega)] at h1
          have hK1U : 0 ≤ K1 * (B + 8) * U := Rat.mul_nonneg (Rat.mul_nonneg hk00 (by grind)) hU0
          exact h1.mono (by grind)
      intro i hi
      have := hS (Go.Proofs.Ytghhanifakllpaa.sw c (pick n s.M c) i) (sw_lt hcn hp.2 hi)
      rw [res_swap hp.1, sw_inv] at this
      exact this
end Go.Proofs.Ytghhanifakllpaa.Nu

/- Plain: what Solve answers fits its rows. No program in sight. -/
set_option linter.unusedVariables false
set_option linter.unusedSimpArgs false
namespace Go.Proofs.Ytghhanifakllpaa.Nu
open Ieee

theorem rsum_row {n : Nat} {R : Mx} {x : Nat → F} {i : Nat} (hi : i < n) : rsum (fun j => Vc n R i j * qf x j) n = vq (R i i) * qf x i + tailS R x i (n - 1 - i) := by
  have h := rsum_tail (fun j => vq (R i j) * qf x j) i (n - 1 - i)
  rw [show i + 1 + (n - 1 - i) = n by omega] at h
  rw [show tailS R x i (n - 1 - i) = rsum (fun l => vq (R i (i + 1 + l)) * qf x (i + 1 + l)) (n - 1 - i) from rfl, ← h]
  refine rsum_congr fun j hj => ?_
  unfold Vc
  rw [show min i n = i by omega]
  split
  · grind
  · rfl
theorem unit_nn {G : Rat} (hG : 0 ≤ G) (x : Nat → F) (n : Nat) : 0 ≤ unit G (xs x n) := by
  have h1 := Rat.mul_nonneg u_nn (Rat.mul_nonneg hG (rsum_nn (n := n) (f := fun j => rabs (qf x j)) fun _ _ => rabs_nn _))
  have h2 := t0_pos
  unfold unit xs; grind
theorem solve_near {n : Nat} {M : Mx} {x : Nat → F} {g h G H : Rat} (hn : n ≤ 8) (o : Okm n M g h) (hg : g * grow n 0 ≤ G) (hh : h * grow n 0 ≤ H) (hG : G ≤ p2 70) (hH : H ≤ p2 900) (hs : solvedF n M = some x) :
    (∀ i, i < n → Fi (x i)) ∧ ∀ i, i < n → Ab (rsum (fun j => vq (M i j) * qf x j) n - vq (M i n)) ((b1 n + ((n - 1 : Nat) : Rat) * (b1 n + 8)) * unit G (xs x n)) := by
  have hG9 : G ≤ p2 900 := Rat.le_trans hG (p2_mono (by decide))
  unfold solvedF at hs
  split at hs
  · rename_i hgo
    split at hs
    · rename_i hfin
      have hx := Option.some.inj hs
      have hf : ∀ i, i < n → Fi (x i) := fun i hi => by rw [← hx]; exact ffin_fi (hfin i hi)
      refine ⟨hf, ?_⟩
      have hall := goS_ok hG9 hH n 0 (startS M) g h (by omega) o hg hh hgo
      obtain ⟨r1, r2, _⟩ := hall
      have p0 := p2_pos (-900)
      have q0 := r1.g1
      have hG0 : 0 ≤ G := by grind
      have hU0 := unit_nn hG0 x n
      refine fun i hi => ?_
      have hres := goS_res (x := x) hn hG9 hH rfl hU0 n 0 (startS M) g h (by omega) o hg hh hgo (fun i hi => ?_) i hi
      · have e : res n 0 (startS M).M x i = rsum (fun j => vq (M i j) * qf x j) n - vq (M i n) := by
          unfold res
          refine congrArg (fun q => q - vq _) (rsum_congr fun j hj => ?_)
          unfold Vc
          rw [if_neg (by omega)]; rfl
        rw [e] at hres
        exact hres
      · obtain ⟨R, hR⟩ : ∃ R, R = (goS n n 0 (startS M)).1.M := ⟨_, rfl⟩
        have hxR : x = backX n R n := by rw [← hx, hR]; rfl
        have hxi : x i = fdiv (backT n R x i (n - 1 - i)) (R i i) := by
          have := backX_row (R := R) hi
          rw [← hxR] at this; exact this
        rw [← hR] at r1 r2 ⊢
        have hb := back_off (x := x) (R := R) hn (ab_zero hG0) hG hi (fun j hj => r1.el i j hi hj) (r2 i (Nat.zero_le _) hi) hf hxi (n - 1 - i) (Nat.le_refl _)
        rw [Nat.sub_self] at hb
        unfold res
        rw [rsum_row hi]
        have e1 : backT n R x i 0 = R i n := rfl
        have e2 : tailS R x i 0 = 0 := rfl
        rw [e1, e2] at hb
        have hk : (((n - 1 - i : Nat)) : Rat) ≤ (n : Rat) - 1 := by
          have h1 : (((n - 1 - i : Nat)) : Rat) ≤ ((n - 1 : Nat) : Rat) := Rat.natCast_le_natCast.2 (by omega)
          have h2 : ((n : Nat) : Rat) = ((n - 1 : Nat) : Rat) + 1 := by
            have := Rat.natCast_add (n - 1) 1
            rw [show n - 1 + 1 = n by omega] at this
            exact this
          grind
        have hm := Rat.mul_le_mul_of_nonneg_right hk hU0
        have hb' := hb.neg.mono (C := b1 n * unit G (xs x n)) (by unfold b1; grind)
        refine (congrArg (fun q => Ab q _) ?_).mpr hb'
        grind
    · exact absurd hs (by simp)
  · exact absurd hs (by simp)
theorem grow8 {n : Nat} (hn : n ≤ 8) : grow n 0 ≤ 200 := by
  unfold grow
  have h7 : ∀ k : Nat, k ≤ 7 → ((17 / 8 : Rat)) ^ k ≤ 200 := by
    intro k hk
    have hc : k = 0 ∨ k = 1 ∨ k = 2 ∨ k = 3 ∨ k = 4 ∨ k = 5 ∨ k = 6 ∨ k = 7 := by omega
    rcases hc with rfl | rfl | rfl | rfl | rfl | rfl | rfl | rfl <;> simp only [Rat.pow_succ, Rat.pow_zero] <;> grind
  exact h7 _ (by omega)
/-- What SolveOff asks. -/
theorem off_law {n : Nat} {M : Mx} {x : Nat → F} {most : Rat} (hn : n ≤ 8) (hM : ∀ i j, i < n → j < n → Fi (M i j) ∧ Ab (vq (M i j)) most) (hb : ∀ i, i < n → Fi (M i n) ∧ Ab (vq (M i n)) (p2 40))
    (h1 : p2 (-40) ≤ most) (h2 : most ≤ p2 40) (hs : solvedF n M = some x) :
    (∀ i, i < n → Fi (x i)) ∧ ∀ i, i < n → Ab (rsum (fun j => vq (M i j) * qf x j) n - vq (M i n)) (most * xs x n * p2 (-34) + p2 (-900)) := by
  have hg := grow8 hn
  have p40 := p2_pos (-40)
  have p40' := p2_pos 40
  have m1 : p2 40 * 200 ≤ p2 70 := by
    have a1 : p2 8 = 256 := p2_nat 8
    have a2 : p2 40 * p2 8 ≤ p2 70 := by rw [← p2_add]; exact p2_mono (by decide)
    rw [a1] at a2; grind
  have m2 : p2 70 ≤ p2 900 := p2_mono (by decide)
  have hm0 : 0 ≤ most := by grind
  have o : Okm n M most (p2 40) := ⟨hM, hb, Rat.le_trans (p2_mono (by decide)) h1, by grind, p2_mono (by decide), p2_mono (by decide)⟩
  obtain ⟨r1, r2⟩ := solve_near (G := most * 200) (H := p2 40 * 200) hn o (Rat.mul_le_mul_of_nonneg_left hg hm0) (Rat.mul_le_mul_of_nonneg_left hg (Rat.le_of_lt p40')) (by grind) (by grind) hs
  refine ⟨r1, fun i hi => (r2 i hi).mono ?_⟩
  have hX : 0 ≤ xs x n := rsum_nn fun _ _ => rabs_nn _
  have hmX := Rat.mul_nonneg hm0 hX
  have hn8 : (n : Rat) ≤ 8 := by
    have : ((n : Nat) : Rat) ≤ ((8 : Nat) : Rat) := Rat.natCast_le_natCast.2 hn
    exact this
  have hn0 := cast_nn n
  have hb1 : b1 n ≤ 33 := by unfold b1; grind
  have hb2 : ((n - 1 : Nat) : Rat) * (b1 n + 8) ≤ 8 * 41 := by
    have hn1 : ((n - 1 : Nat) : Rat) ≤ ((8 : Nat) : Rat) := Rat.natCast_le_natCast.2 (by omega)
    have e8 : ((8 : Nat) : Rat) = 8 := rfl
    rw [e8] at hn1
    have a1 := Rat.mul_le_mul_of_nonneg_right hn1 (show 0 ≤ b1 n + 8 by unfold b1; grind)
    grind
  have hU0 := unit_nn (show 0 ≤ most * 200 by grind) x n
  have a1 := Rat.mul_le_mul_of_nonneg_right (show b1 n + ((n - 1 : Nat) : Rat) * (b1 n + 8) ≤ 361 by grind) hU0
  refine Rat.le_trans a1 ?_
  unfold unit
  obtain ⟨W, hW⟩ : ∃ W, W = most * xs x n := ⟨_, rfl⟩
  rw [← hW] at hmX ⊢
  have e1 : u53 * (most * 200 * xs x n) = 200 * (u53 * W) := by rw [hW]; grind
  rw [e1]
  have u1 : p2 (-34) = 524288 * u53 := by
    have a1 : p2 19 = 524288 := p2_nat 19
    rw [← a1]; unfold u53; rw [← p2_add]; rfl
  have u2 : 361 * t0 ≤ p2 (-900) := by
    have a1 : p2 9 = 512 := p2_nat 9
    have a2 : p2 9 * t0 ≤ p2 (-900) := by unfold t0; rw [← p2_add]; exact p2_mono (by decide)
    have := t0_pos
    rw [a1] at a2; grind
  have huW := Rat.mul_nonneg u_nn hmX
  rw [u1]
  grind
end Go.Proofs.Ytghhanifakllpaa.Nu

/- Plain: the determinant of a system of up to three unknowns. No program in sight. -/
set_option linter.unusedVariables false
set_option linter.unusedSimpArgs false
namespace Go.Proofs.Ytghhanifakllpaa.Nu
open Ieee

def d2 (A : Nat → Nat → Rat) (c : Nat) : Rat := A c c * A (c + 1) (c + 1) - A c (c + 1) * A (c + 1) c
def d3 (A : Nat → Nat → Rat) (c : Nat) : Rat :=
  A c c * (A (c + 1) (c + 1) * A (c + 2) (c + 2) - A (c + 1) (c + 2) * A (c + 2) (c + 1)) - A (c + 1) c * (A c (c + 1) * A (c + 2) (c + 2) - A c (c + 2) * A (c + 2) (c + 1)) - A (c + 2) c * (A (c + 1) (c + 1) * A c (c + 2) - A (c + 1) (c + 2) * A c (c + 1))
def qm (M : Mx) (i j : Nat) : Rat := vq (M i j)
/-- The determinant of what is left from column c on, of k columns. -/
def dk (k : Nat) (M : Mx) (c : Nat) : Rat := match k with
  | 0 => 1
  | 1 => qm M c c
  | 2 => d2 (qm M) c
  | _ => d3 (qm M) c
/-- A sign: changed or not. -/
def sgo (o : Bool) : Rat := if o then -1 else 1
section
variable {n c : Nat} {S : Mx} {g h : Rat}
/-- How far one step is off, of k + 1 columns. -/
def dErr (k : Nat) (g : Rat) : Rat := match k with
  | 0 => 0
  | 1 => 8 * u53 * (g * g)
  | _ => 60 * u53 * (g * g * g)
end
end Go.Proofs.Ytghhanifakllpaa.Nu

/- Plain: Det and Solve of up to three unknowns. No program in sight. -/
set_option linter.unusedVariables false
set_option linter.unusedSimpArgs false
namespace Go.Proofs.Ytghhanifakllpaa.Nu
open Ieee

theorem Okm.mono {n : Nat} {M : Mx} {g h g' h' : Rat} (o : Okm n M g h) (a : g ≤ g') (b : h ≤ h') (c : g' ≤ p2 900) (d : h' ≤ p2 900) : Okm n M g' h' :=
  ⟨fun i j hi hj => ⟨(o.el i j hi hj).1, (o.el i j hi hj).2.mono a⟩, fun i hi => ⟨(o.rs i hi).1, (o.rs i hi).2.mono b⟩, Rat.le_trans o.g1 a, c, Rat.le_trans o.h1 b, d⟩
theorem Okm.next {n c : Nat} {S : Mx} {g : Rat} (o : Okm n S g g) (t : Top n S c) (hc : c < n) (g2 : 17 / 8 * g ≤ p2 900) : Okm n (elimM n S c) (17 / 8 * g) (17 / 8 * g) := by
  by_cases h : c + 1 < n
  · exact o.elim t h g2 g2
  · have e : elimM n S c = S := by funext i j; exact elim_last (by omega) i j
    have p0 := p2_pos (-900)
    have p1 := o.g1
    rw [e]
    exact o.mono (by grind) (by grind) g2 g2
/-! ### Det -/
def outD (sb : Sys × Bool) : Option F := match detGo sb.1.piv sb.1.odd fone with
  | none => some fzero
  | some d => if sb.2 && ffin d then some d else none
/-- So far the determinant comes to d. -/
def Inv (s : Sys) (d : F) : Prop := s.piv.length = s.odd.length ∧ detGo s.piv s.odd fone = some d
section
variable {n : Nat}
/-! ### The pivots are not small -/
/-- By how much the determinant is greater than the pivot, at the most. -/
def pF (k : Nat) (g : Rat) : Rat := match k with | 0 => 1 | 1 => 2 * g | _ => 6 * (g * g)
def low : Rat := 1 / 1024
end
end Go.Proofs.Ytghhanifakllpaa.Nu

/- Plain: Solve of up to three unknowns of small whole numbers is near Cramer's answers. No program in sight. -/
set_option linter.unusedVariables false
set_option linter.unusedSimpArgs false
namespace Go.Proofs.Ytghhanifakllpaa.Nu
open Ieee

section
variable {n : Nat}
end

/-! ### Whole numbers -/
/-- The determinant of whole numbers. -/
def di (n : Nat) (K : Nat → Nat → Int) : Int := match n with
  | 1 => K 0 0
  | 2 => K 0 0 * K 1 1 - K 0 1 * K 1 0
  | _ => K 0 0 * (K 1 1 * K 2 2 - K 1 2 * K 2 1) + K 0 1 * (K 1 2 * K 2 0 - K 1 0 * K 2 2) + K 0 2 * (K 1 0 * K 2 1 - K 1 1 * K 2 0)
/-- The right side in place of column j. -/
def colK (n j : Nat) (K : Nat → Nat → Int) : Nat → Nat → Int := fun i l => if l = j then K i n else K i l
end Go.Proofs.Ytghhanifakllpaa.Nu

/- The law's own: det. -/
namespace Go.Proofs.Ytghhanifakllpaa
open Go.Clean
/-- A list of rows is so many rows of small whole numbers. -/
structure IntM (n : Nat) (K : Nat → Nat → Int) (rs : List (List F)) : Prop where
  len : rs.length = n
  row : ∀ i, i < n → (rat' rs i).length = n
  el : ∀ i j, i < n → j < n → fat (rat' rs i) j = some (fi (K i j))
  lo : ∀ i j, i < n → j < n → -8 ≤ K i j
  hi : ∀ i j, i < n → j < n → K i j ≤ 8
/-- The sum of three, its first j. -/
def pd (K : Nat → Nat → Int) (j : Nat) : Int := match j with
  | 0 => 0
  | 1 => 0 + K 0 0 * (K 1 1 * K 2 2 - K 1 2 * K 2 1)
  | 2 => 0 + K 0 0 * (K 1 1 * K 2 2 - K 1 2 * K 2 1) + K 0 1 * (K 1 2 * K 2 0 - K 1 0 * K 2 2)
  | _ => 0 + K 0 0 * (K 1 1 * K 2 2 - K 1 2 * K 2 1) + K 0 1 * (K 1 2 * K 2 0 - K 1 0 * K 2 2) + K 0 2 * (K 1 0 * K 2 1 - K 1 1 * K 2 0)
def ldetI (m : Mem) (va : Value) (K : Nat → Nat → Int) (k : Nat) (fr : Fr) (m' : Mem) : Prop := ∃ j, j + k = 3 ∧ fr.n = 95 ∧ fr.d = [] ∧ fr.at 0 = va ∧ fr.at 4 = .int .i64 (pd K j) ∧ fr.at 5 = .int .i64 (j : Nat) ∧ Only m m' ∧ (readsL m.log = true → readsL m'.log = true)
section
set_option maxRecDepth 10000
end
end Go.Proofs.Ytghhanifakllpaa

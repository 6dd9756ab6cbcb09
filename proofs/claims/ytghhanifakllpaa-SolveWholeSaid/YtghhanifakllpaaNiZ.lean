/- Plain: Solve of up to three unknowns of small whole numbers is near Cramer's answers. No program in sight. -/
import Derived.Test.YtghhanifakllpaaNhZ
set_option linter.unusedSimpArgs false
set_option linter.unusedVariables false
set_option linter.unusedVariables false
set_option linter.unusedSimpArgs false
namespace Go.Proofs.Ytghhanifakllpaa.Nu
open Ieee

section
variable {n : Nat}
theorem back_bound {R : Mx} {x : Nat → F} {i k : Nat} {P : Rat} (o : Okm n R 64 64) (hi : i < n) (hn : n ≤ 3) (hP1 : 1 ≤ P) (hP2 : P ≤ p2 200) (hx : ∀ j, i < j → j < n → Fi (x j) ∧ Ab (vq (x j)) P) :
    ∀ l, l ≤ n - 1 - i → Fi (backT n R x i l) ∧ Ab (vq (backT n R x i l)) (((l : Nat) + 1) * (256 * P)) := by
  have hu := u_small
  have hu0 := u_nn
  have htu := tiny_u
  have ht0 := p2_pos (-1075)
  have hP3 : 10000 * P ≤ p2 1000 := by
    have a1 : p2 14 = 16384 := p2_nat 14
    have a2 : p2 14 * p2 200 ≤ p2 1000 := by rw [← p2_add]; exact p2_mono (by decide)
    rw [a1] at a2; grind
  have huP := Rat.mul_le_mul_of_nonneg_right hu (show 0 ≤ P by grind)
  have huP0 := Rat.mul_nonneg hu0 (show 0 ≤ P by grind)
  have e53u : p2 (-53) = u53 := rfl
  intro l
  induction l with
  | zero =>
    intro _
    refine ⟨(o.rs i hi).1, (o.rs i hi).2.mono ?_⟩
    have : ((0 : Nat) : Rat) = 0 := rfl
    rw [this]; grind
  | succ l ih =>
    intro hl
    obtain ⟨t1, t2⟩ := ih (by omega)
    obtain ⟨x1, x2⟩ := hx (i + 1 + l) (by omega) (by omega)
    obtain ⟨a1, a2⟩ := o.el i (i + 1 + l) hi (by omega)
    have hl3 : ((l : Nat) : Rat) ≤ 3 := by
      have : ((l : Nat) : Rat) ≤ ((3 : Nat) : Rat) := Rat.natCast_le_natCast.2 (by omega)
      exact this
    have hl0 := cast_nn l
    rw [show (((l + 1 : Nat)) : Rat) = ((l : Nat) : Rat) + 1 from Rat.natCast_add l 1]
    obtain ⟨r, r1, r2⟩ := RV.mul a1.rv x1.rv (a2.mul x2) (by grind)
    have r3 : Ab r (65 * P) := by
      have := r2.ab
      have := a2.mul x2
      unfold e53 at *
      rw [e53u] at *
      unfold Ab at *; grind
    have hlP := Rat.mul_le_mul_of_nonneg_right hl3 (show 0 ≤ P by grind)
    have s0 : Ab (vq (backT n R x i l) - r) (((l : Nat) : Rat) * (256 * P) + 256 * P + 65 * P) := by unfold Ab at *; grind
    obtain ⟨w, w1, w2⟩ := RV.sub t1.rv r1 s0 (by grind)
    obtain ⟨w3, w4⟩ := w1.fi
    refine ⟨w3, ?_⟩
    show Ab (vq (fsub (backT n R x i l) (fmul (R i (i + 1 + l)) (x (i + 1 + l))))) _
    rw [w4]
    have w5 := w2.ab
    unfold e53 at w5
    rw [e53u] at w5
    have hlu := Rat.mul_le_mul_of_nonneg_right hl3 huP0
    have e1 : (((l : Nat) : Rat) * (256 * P) + 256 * P + 65 * P) * u53 = 256 * (((l : Nat) : Rat) * (u53 * P)) + 321 * (u53 * P) := by grind
    rw [e1] at w5
    unfold Ab at *; grind
theorem fwd {R : Mx} (o : Okm n R 64 64) (hn : n ≤ 3) (hz : ∀ i, i < n → low ≤ rabs (vq (R i i))) :
    ∀ k : Nat, k ≤ n → ∀ j, n - k ≤ j → j < n → Fi (backX n R n j) ∧ Ab (vq (backX n R n j)) (p2 (40 * (k : Int))) := by
  intro k
  induction k with
  | zero => intro _ j h1 h2; omega
  | succ k ih =>
    intro hk j h1 h2
    obtain ⟨P, hP⟩ : ∃ P, P = p2 (40 * (k : Int)) := ⟨_, rfl⟩
    have hPn : p2 (40 * ((k + 1 : Nat) : Int)) = p2 40 * P := by rw [hP, ← p2_add]; congr 1; omega
    have p40 : p2 40 = 1099511627776 := p2_nat 40
    have hP1 : 1 ≤ P := by
      have := p2_mono (show (0 : Int) ≤ 40 * (k : Int) by omega)
      rw [p2_zero] at this
      rw [hP]; exact this
    have hP2 : P ≤ p2 200 := by rw [hP]; exact p2_mono (by omega)
    rw [← hP] at ih
    rw [hPn, p40]
    by_cases hj : n - k ≤ j
    · obtain ⟨a, b⟩ := ih (by omega) j hj h2
      exact ⟨a, b.mono (by grind)⟩
    · have hrow := backX_row (R := R) h2
      have hb := back_bound (x := backX n R n) (k := k) o h2 hn hP1 hP2 (fun l hl hln => ih (by omega) l (by omega) hln) (n - 1 - j) (Nat.le_refl _)
      obtain ⟨t1, t2⟩ := hb
      have hk3 : (((n - 1 - j : Nat)) : Rat) ≤ 2 := by
        have : (((n - 1 - j : Nat)) : Rat) ≤ ((2 : Nat) : Rat) := Rat.natCast_le_natCast.2 (by omega)
        exact this
      have hkP := Rat.mul_le_mul_of_nonneg_right hk3 (show 0 ≤ P by grind)
      have t3 : Ab (vq (backT n R (backX n R n) j (n - 1 - j))) (768 * P) := t2.mono (by grind)
      have zj := hz j h2
      have hnz : vq (R j j) ≠ 0 := by
        intro h0
        rw [h0] at zj
        have : rabs 0 = 0 := by unfold rabs; grind
        rw [this] at zj
        unfold low at zj; grind
      obtain ⟨v, hv⟩ : ∃ v, v = vq (backT n R (backX n R n) j (n - 1 - j)) / vq (R j j) := ⟨_, rfl⟩
      have hv1 : vq (backT n R (backX n R n) j (n - 1 - j)) = v * vq (R j j) := by rw [hv, Rat.div_mul_cancel hnz]
      have hv2 : Ab v (786432 * P) := by
        rw [← rabs_ab]
        have a1 := rabs_ab.2 t3
        rw [hv1, rabs_mul] at a1
        have a2 := Rat.mul_le_mul_of_nonneg_left zj (rabs_nn v)
        unfold low at a2
        grind
      have hP3 : 1000000 * P ≤ p2 999 := by
        have a1 : p2 20 = 1048576 := p2_nat 20
        have a2 : p2 20 * p2 200 ≤ p2 999 := by rw [← p2_add]; exact p2_mono (by decide)
        rw [a1] at a2; grind
      obtain ⟨r, r1, r2⟩ := RV.div t1.rv (o.el j j h2 h2).1.rv hnz hv1 hv2 (by grind)
      obtain ⟨r3, r4⟩ := r1.fi
      rw [← hrow] at r3 r4
      refine ⟨r3, ?_⟩
      rw [r4]
      have hu := u_small
      have hu0 := u_nn
      have htu := tiny_u
      have ht0 := p2_pos (-1075)
      have huP := Rat.mul_le_mul_of_nonneg_right hu (show 0 ≤ P by grind)
      have r5 := r2.ab
      unfold e51 at r5
      rw [k51] at r5
      unfold Ab at *; grind
/-- Solve answers. -/
theorem solve_some {M : Mx} (h1 : 1 ≤ n) (h3 : n ≤ 3) (o : Okm n M 8 8) (hd : 1 ≤ rabs (dk n M 0)) : ∃ x, solvedF n M = some x := by
  obtain ⟨p1, p2'⟩ := piv_all h1 h3 o hd
  have hgr : grow n 0 ≤ 289 / 64 := by
    have hc : n = 1 ∨ n = 2 ∨ n = 3 := by omega
    unfold grow
    rcases hc with rfl | rfl | rfl
    · show ((17 / 8 : Rat)) ^ 0 ≤ _
      rw [Rat.pow_zero]; grind
    · show ((17 / 8 : Rat)) ^ 1 ≤ _
      simp only [Rat.pow_succ, Rat.pow_zero]; grind
    · show ((17 / 8 : Rat)) ^ 2 ≤ _
      simp only [Rat.pow_succ, Rat.pow_zero]; grind
  obtain ⟨r1, _, _⟩ := goS_ok (G := 64) (H := 64) (small900 (by grind)) (small900 (by grind)) n 0 (startS M) 8 8 (by omega) o (by grind) (by grind) p1
  have hf := fwd r1 h3 p2' n (Nat.le_refl _)
  refine ⟨backX n (stepsS n M).1.M n, ?_⟩
  · unfold solvedF
    rw [if_pos p1, if_pos]
    intro i hi
    obtain ⟨a, b⟩ := hf i (by omega) hi
    exact RV.fin a.rv (b.mono (p2_mono (by omega)))
end

/-! ### Whole numbers -/
/-- The determinant of whole numbers. -/
def di (n : Nat) (K : Nat → Nat → Int) : Int := match n with
  | 1 => K 0 0
  | 2 => K 0 0 * K 1 1 - K 0 1 * K 1 0
  | _ => K 0 0 * (K 1 1 * K 2 2 - K 1 2 * K 2 1) + K 0 1 * (K 1 2 * K 2 0 - K 1 0 * K 2 2) + K 0 2 * (K 1 0 * K 2 1 - K 1 1 * K 2 0)
theorem dk_di {n : Nat} {M : Mx} {K : Nat → Nat → Int} (h1 : 1 ≤ n) (h3 : n ≤ 3) (hM : ∀ i j, i < n → j < n → RV (M i j) (K i j : Rat)) : dk n M 0 = ((di n K : Int) : Rat) := by
  have e : ∀ i j, i < n → j < n → qm M i j = (K i j : Rat) := fun i j hi hj => (hM i j hi hj).fi.2
  have hc : n = 1 ∨ n = 2 ∨ n = 3 := by omega
  rcases hc with rfl | rfl | rfl
  · exact e 0 0 (by omega) (by omega)
  · show d2 (qm M) 0 = _
    unfold d2 di
    rw [e 0 0 (by omega) (by omega), e (0 + 1) (0 + 1) (by omega) (by omega), e 0 (0 + 1) (by omega) (by omega), e (0 + 1) 0 (by omega) (by omega)]
    simp only [Rat.intCast_sub, Rat.intCast_mul, Nat.zero_add]
  · show d3 (qm M) 0 = _
    unfold d3 di
    rw [e 0 0 (by omega) (by omega), e (0 + 1) (0 + 1) (by omega) (by omega), e 0 (0 + 1) (by omega) (by omega), e (0 + 1) 0 (by omega) (by omega), e (0 + 2) (0 + 2) (by omega) (by omega),
      e (0 + 1) (0 + 2) (by omega) (by omega), e (0 + 2) (0 + 1) (by omega) (by omega), e 0 (0 + 2) (by omega) (by omega), e (0 + 2) 0 (by omega) (by omega)]
    simp only [Rat.intCast_sub, Rat.intCast_mul, Rat.intCast_add, Nat.zero_add]
    grind
/-- The right side in place of column j. -/
def colK (n j : Nat) (K : Nat → Nat → Int) : Nat → Nat → Int := fun i l => if l = j then K i n else K i l
theorem int_ab {k : Int} (h1 : -8 ≤ k) (h2 : k ≤ 8) : Ab (k : Rat) 8 := by
  have a1 : ((k : Int) : Rat) ≤ ((8 : Int) : Rat) := Rat.intCast_le_intCast.2 h2
  have a2 : ((-8 : Int) : Rat) ≤ ((k : Int) : Rat) := Rat.intCast_le_intCast.2 h1
  have e1 : ((8 : Int) : Rat) = 8 := rfl
  have e2 : ((-8 : Int) : Rat) = -8 := rfl
  unfold Ab; grind
theorem int_one {d : Int} (h : d ≠ 0) : 1 ≤ rabs (d : Rat) := by
  have hc : 1 ≤ d ∨ d ≤ -1 := by omega
  unfold rabs
  rcases hc with h | h
  · have a1 : ((1 : Int) : Rat) ≤ ((d : Int) : Rat) := Rat.intCast_le_intCast.2 h
    have e1 : ((1 : Int) : Rat) = 1 := rfl
    rw [if_pos (by grind)]; grind
  · have a1 : ((d : Int) : Rat) ≤ ((-1 : Int) : Rat) := Rat.intCast_le_intCast.2 h
    have e1 : ((-1 : Int) : Rat) = -1 := rfl
    rw [if_neg (by grind)]; grind
theorem okm_int {n : Nat} {M : Mx} {K : Nat → Nat → Int} (hK : ∀ i j, i < n → j ≤ n → -8 ≤ K i j ∧ K i j ≤ 8) (hM : ∀ i j, i < n → j ≤ n → RV (M i j) (K i j : Rat)) : Okm n M 8 8 := by
  have hel : ∀ i j, i < n → j ≤ n → Fi (M i j) ∧ Ab (vq (M i j)) 8 := fun i j hi hj => by
    obtain ⟨a, b⟩ := (hM i j hi hj).fi
    exact ⟨a, by rw [b]; exact int_ab (hK i j hi hj).1 (hK i j hi hj).2⟩
  exact ⟨fun i j hi hj => hel i j hi (by omega), fun i hi => hel i n hi (Nat.le_refl _), big900 (by grind), small900 (by grind), big900 (by grind), small900 (by grind)⟩
/-- Det of whole numbers. -/
theorem det_law {n : Nat} {M : Mx} {K : Nat → Nat → Int} (h1 : 1 ≤ n) (h3 : n ≤ 3) (hK : ∀ i j, i < n → j ≤ n → -8 ≤ K i j ∧ K i j ≤ 8) (hM : ∀ i j, i < n → j ≤ n → RV (M i j) (K i j : Rat)) :
    ∃ d, detF n M = some d ∧ Fi d ∧ Ab (vq d - ((di n K : Int) : Rat)) (p2 (-29)) := by
  have h := det_near h1 h3 (okm_int hK hM)
  rw [dk_di h1 h3 fun i j hi hj => hM i j hi (by omega)] at h
  exact h
/-- The errors of Cramer's answers, by what the rows leave. -/
theorem cramer {n : Nat} {K : Nat → Nat → Int} {q : Nat → Rat} {ρ : Rat} (h1 : 1 ≤ n) (h3 : n ≤ 3) (hK : ∀ i j, i < n → j ≤ n → -8 ≤ K i j ∧ K i j ≤ 8)
    (hr : ∀ i, i < n → Ab (rsum (fun j => (K i j : Rat) * q j) n - (K i n : Rat)) ρ) : ∀ j, j < n → Ab (q j * ((di n K : Int) : Rat) - ((di n (colK n j K) : Int) : Rat)) (384 * ρ) ∧ Ab ((di n (colK n j K) : Int) : Rat) 3072 := by
  have a : ∀ i j, i < n → j ≤ n → Ab ((K i j : Int) : Rat) 8 := fun i j hi hj => int_ab (hK i j hi hj).1 (hK i j hi hj).2
  have hρ : 0 ≤ ρ := (hr 0 (by omega)).nn
  have hc : n = 1 ∨ n = 2 ∨ n = 3 := by omega
  rcases hc with rfl | rfl | rfl
  · intro j hj
    have : j = 0 := by omega
    subst this
    have r0 := hr 0 (by omega)
    simp only [rsum] at r0
    have b0 := a 0 1 (by omega) (by omega)
    unfold di colK
    simp only [if_true]
    refine ⟨?_, b0.mono (by grind)⟩
    refine (congrArg (fun q => Ab q _) ?_).mpr (r0.mono (C := 384 * ρ) (by grind))
    grind
  · have r0 := hr 0 (by omega)
    have r1 := hr 1 (by omega)
    simp only [rsum] at r0 r1
    have a00 := a 0 0 (by omega) (by omega)
    have a01 := a 0 1 (by omega) (by omega)
    have a10 := a 1 0 (by omega) (by omega)
    have a11 := a 1 1 (by omega) (by omega)
    have b0 := a 0 2 (by omega) (by omega)
    have b1 := a 1 2 (by omega) (by omega)
    intro j hj
    have hc : j = 0 ∨ j = 1 := by omega
    unfold di colK
    rcases hc with rfl | rfl
    · simp only [if_true, Nat.one_ne_zero, if_false, Rat.intCast_sub, Rat.intCast_mul]
      refine ⟨?_, ((b0.mul a11).sub (a01.mul b1)).mono (by grind)⟩
      refine (congrArg (fun q => Ab q _) ?_).mpr (((r0.mul a11).sub (a01.mul r1)).mono (C := 384 * ρ) (by grind))
      grind
    · simp only [if_true, Nat.zero_ne_one, if_false, Rat.intCast_sub, Rat.intCast_mul]
      refine ⟨?_, ((a00.mul b1).sub (b0.mul a10)).mono (by grind)⟩
      refine (congrArg (fun q => Ab q _) ?_).mpr (((a00.mul r1).sub (r0.mul a10)).mono (C := 384 * ρ) (by grind))
      grind
  · have r0 := hr 0 (by omega)
    have r1 := hr 1 (by omega)
    have r2 := hr 2 (by omega)
    simp only [rsum] at r0 r1 r2
    have a00 := a 0 0 (by omega) (by omega)
    have a01 := a 0 1 (by omega) (by omega)
    have a02 := a 0 2 (by omega) (by omega)
    have a10 := a 1 0 (by omega) (by omega)
    have a11 := a 1 1 (by omega) (by omega)
    have a12 := a 1 2 (by omega) (by omega)
    have a20 := a 2 0 (by omega) (by omega)
    have a21 := a 2 1 (by omega) (by omega)
    have a22 := a 2 2 (by omega) (by omega)
    have b0 := a 0 3 (by omega) (by omega)
    have b1 := a 1 3 (by omega) (by omega)
    have b2 := a 2 3 (by omega) (by omega)
    have ex : ∀ {x00 x01 x02 x10 x11 x12 x20 x21 x22 A B C D E F G H I : Rat}, Ab x00 A → Ab x01 B → Ab x02 C → Ab x10 D → Ab x11 E → Ab x12 F → Ab x20 G → Ab x21 H → Ab x22 I →
        Ab (x00 * (x11 * x22 - x12 * x21) + x01 * (x12 * x20 - x10 * x22) + x02 * (x10 * x21 - x11 * x20)) (A * (E * I + F * H) + B * (F * G + D * I) + C * (D * H + E * G)) :=
      fun p0 p1 p2 p3 p4 p5 p6 p7 p8 => ((p0.mul ((p4.mul p8).sub (p5.mul p7))).add (p1.mul ((p5.mul p6).sub (p3.mul p8)))).add (p2.mul ((p3.mul p7).sub (p4.mul p6)))
    intro j hj
    have hc : j = 0 ∨ j = 1 ∨ j = 2 := by omega
    unfold di colK
    rcases hc with rfl | rfl | rfl
    · simp only [if_true, Nat.one_ne_zero, show ¬ (2 : Nat) = 0 by decide, if_false, Rat.intCast_sub, Rat.intCast_mul, Rat.intCast_add]
      refine ⟨?_, (ex b0 a01 a02 b1 a11 a12 b2 a21 a22).mono (by grind)⟩
      refine (congrArg (fun q => Ab q _) ?_).mpr ((ex r0 a01 a02 r1 a11 a12 r2 a21 a22).mono (C := 384 * ρ) (by grind))
      grind
    · simp only [if_true, Nat.zero_ne_one, show ¬ (2 : Nat) = 1 by decide, if_false, Rat.intCast_sub, Rat.intCast_mul, Rat.intCast_add]
      refine ⟨?_, (ex a00 b0 a02 a10 b1 a12 a20 b2 a22).mono (by grind)⟩
      refine (congrArg (fun q => Ab q _) ?_).mpr ((ex a00 r0 a02 a10 r1 a12 a20 r2 a22).mono (C := 384 * ρ) (by grind))
      grind
    · simp only [if_true, show ¬ (0 : Nat) = 2 by decide, show ¬ (1 : Nat) = 2 by decide, if_false, Rat.intCast_sub, Rat.intCast_mul, Rat.intCast_add]
      refine ⟨?_, (ex a00 a01 b0 a10 a11 b1 a20 a21 b2).mono (by grind)⟩
      refine (congrArg (fun q => Ab q _) ?_).mpr ((ex a00 a01 r0 a10 a11 r1 a20 a21 r2).mono (C := 384 * ρ) (by grind))
      grind
/-- Solve of whole numbers. -/
theorem solve_law {n : Nat} {M : Mx} {K : Nat → Nat → Int} (h1 : 1 ≤ n) (h3 : n ≤ 3) (hK : ∀ i j, i < n → j ≤ n → -8 ≤ K i j ∧ K i j ≤ 8) (hM : ∀ i j, i < n → j ≤ n → RV (M i j) (K i j : Rat)) (hd : di n K ≠ 0) :
    ∃ x, solvedF n M = some x ∧ ∀ j, j < n → Fi (x j) ∧ Ab (vq (x j) * ((di n K : Int) : Rat) - ((di n (colK n j K) : Int) : Rat)) (p2 (-20) * rabs ((di n K : Int) : Rat)) := by
  have o := okm_int hK hM
  have hd1 := int_one hd
  obtain ⟨x, hx⟩ := solve_some h1 h3 o (by rw [dk_di h1 h3 fun i j hi hj => hM i j hi (by omega)]; exact hd1)
  refine ⟨x, hx, ?_⟩
  have hgr : grow n 0 ≤ 289 / 64 := by
    have hc : n = 1 ∨ n = 2 ∨ n = 3 := by omega
    unfold grow
    rcases hc with rfl | rfl | rfl
    · show ((17 / 8 : Rat)) ^ 0 ≤ _
      rw [Rat.pow_zero]; grind
    · show ((17 / 8 : Rat)) ^ 1 ≤ _
      simp only [Rat.pow_succ, Rat.pow_zero]; grind
    · show ((17 / 8 : Rat)) ^ 2 ≤ _
      simp only [Rat.pow_succ, Rat.pow_zero]; grind
  have hG70 : (289 / 8 : Rat) ≤ p2 70 := by
    have a1 : p2 14 ≤ p2 70 := p2_mono (by decide)
    have a2 : p2 14 = 16384 := p2_nat 14
    rw [a2] at a1; grind
  obtain ⟨f, hr⟩ := solve_near (G := 289 / 8) (H := 289 / 8) (by omega) o (by grind) (by grind) hG70 (small900 (by grind)) hx
  obtain ⟨X, hX⟩ : ∃ X, X = xs x n := ⟨_, rfl⟩
  rw [← hX] at hr
  have hX0 : 0 ≤ X := by rw [hX]; exact rsum_nn fun _ _ => rabs_nn _
  have hu := u_small
  have hu0 := u_nn
  have huv := u53_val
  have ht0 := t0_pos
  have htt : t0 * 1000000 ≤ u53 := by
    have a1 : p2 20 = 1048576 := p2_nat 20
    have a2 : t0 * p2 20 ≤ u53 := by unfold t0 u53; rw [← p2_add]; exact p2_mono (by decide)
    rw [a1] at a2; grind
  have huX := Rat.mul_nonneg hu0 hX0
  obtain ⟨ρ, hρ⟩ : ∃ ρ, ρ = 55 * (u53 * (289 / 8 * X) + t0) := ⟨_, rfl⟩
  have hC : b1 n + ((n - 1 : Nat) : Rat) * (b1 n + 8) ≤ 55 := by
    have hc : n = 1 ∨ n = 2 ∨ n = 3 := by omega
    unfold b1
    rcases hc with rfl | rfl | rfl
    · have e1 : ((1 : Nat) : Rat) = 1 := rfl
      have e0 : ((1 - 1 : Nat) : Rat) = 0 := rfl
      rw [e1, e0]; grind
    · have e1 : ((2 : Nat) : Rat) = 2 := rfl
      have e0 : ((2 - 1 : Nat) : Rat) = 1 := rfl
      rw [e1, e0]; grind
    · have e1 : ((3 : Nat) : Rat) = 3 := rfl
      have e0 : ((3 - 1 : Nat) : Rat) = 2 := rfl
      rw [e1, e0]; grind
  have hr2 : ∀ i, i < n → Ab (rsum (fun j => (K i j : Rat) * qf x j) n - (K i n : Rat)) ρ := by
    intro i hi
    have e : rsum (fun j => (K i j : Rat) * qf x j) n - (K i n : Rat) = rsum (fun j => vq (M i j) * qf x j) n - vq (M i n) := by
      rw [(hM i n hi (Nat.le_refl _)).fi.2]
      refine congrArg (fun q => q - _) (rsum_congr fun j hj => ?_)
      rw [(hM i j hi (by omega)).fi.2]
    rw [e]
    refine (hr i hi).mono ?_
    rw [hρ]
    exact Rat.mul_le_mul_of_nonneg_right hC (show 0 ≤ unit (289 / 8) X by unfold unit; grind)
  have hcr := cramer (q := qf x) h1 h3 hK hr2
  have h384 : 384 * ρ ≤ 762960 * (u53 * X) + u53 := by rw [hρ]; grind
  have hxj : ∀ j, j < n → rabs (qf x j) ≤ 3072 + 384 * ρ := by
    intro j hj
    obtain ⟨c1, c2⟩ := hcr j hj
    have a1 : rabs (qf x j * ((di n K : Int) : Rat)) ≤ 3072 + 384 * ρ := by rw [rabs_ab]; unfold Ab at *; grind
    rw [rabs_mul] at a1
    have a2 := Rat.mul_le_mul_of_nonneg_left hd1 (rabs_nn (qf x j))
    grind
  have hXs : X ≤ 3 * (3072 + 384 * ρ) := by
    rw [hX]
    have : ∀ k, k ≤ n → rsum (fun j => rabs (qf x j)) k ≤ ((k : Nat) : Rat) * (3072 + 384 * ρ) := by
      intro k
      induction k with
      | zero =>
        intro _
        have : ((0 : Nat) : Rat) = 0 := rfl
        simp only [rsum]; rw [this]; grind
      | succ k ih =>
        intro hk
        have a1 := ih (by omega)
        have a2 := hxj k (by omega)
        rw [show (((k + 1 : Nat)) : Rat) = ((k : Nat) : Rat) + 1 from Rat.natCast_add k 1]
        simp only [rsum]
        grind
    have h := this n (Nat.le_refl _)
    have hn3 : ((n : Nat) : Rat) ≤ 3 := by
      have : ((n : Nat) : Rat) ≤ ((3 : Nat) : Rat) := Rat.natCast_le_natCast.2 h3
      exact this
    have h0 : 0 ≤ 3072 + 384 * ρ := by grind
    have := Rat.mul_le_mul_of_nonneg_right hn3 h0
    unfold xs; grind
  have huX2 : u53 * X * 9007199254740992 = X := by grind
  have hX2 : X ≤ 9217 := by grind
  have h20 : p2 (-20) = 8589934592 * u53 := by
    have a1 : p2 33 = 8589934592 := p2_nat 33
    rw [← a1]; unfold u53; rw [← p2_add]; rfl
  have huX3 := Rat.mul_le_mul_of_nonneg_left hX2 hu0
  intro j hj
  refine ⟨f j hj, ((hcr j hj).1).mono ?_⟩
  have h20' : 384 * ρ ≤ p2 (-20) := by rw [h20]; grind
  have := Rat.mul_le_mul_of_nonneg_left hd1 (Rat.le_of_lt (p2_pos (-20)))
  grind
end Go.Proofs.Ytghhanifakllpaa.Nu

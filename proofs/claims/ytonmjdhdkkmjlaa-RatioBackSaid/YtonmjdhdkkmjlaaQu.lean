/- Plain: a quotient of floats as a fraction. No program in sight. -/
import Derived.Test.YtonmjdhdkkmjlaaRn
set_option linter.unusedVariables false
set_option linter.unusedSimpArgs false
namespace Go.Proofs.Ytonmjdhdkkmjlaa
open Ieee

theorem sg_sq (s : Bool) : sg s * sg s = 1 := by unfold sg; cases s <;> simp <;> grind
theorem le_of_mul_pos {a b c : Rat} (hc : 0 < c) (h : a * c ≤ b * c) : a ≤ b := by
  by_cases hab : a ≤ b
  · exact hab
  · have h1 : b < a := by grind
    have h2 := Rat.mul_lt_mul_of_pos_right h1 hc
    grind
theorem cancel_pos {a b c : Rat} (hc : 0 < c) (h : a * c = b * c) : a = b := by
  have h1 := le_of_mul_pos hc (show a * c ≤ b * c by grind)
  have h2 := le_of_mul_pos hc (show b * c ≤ a * c by grind)
  grind
theorem qh1 (M n d P F T : Rat) (hp1 : P*2 = F) (hTE : T*n = d*F) (c : M*n*P ≤ (2*d+n)*P) : M*P*n ≤ (T+P)*n := by
  subst hp1
  grind
theorem qh2 (M n d P F T : Rat) (hp1 : P*2 = F) (hTE : T*n = d*F) (c : 2*d*P ≤ (M*n+n)*P) : T*n ≤ (M*P+P)*n := by
  subst hp1
  grind
theorem qh3 (T n q F : Rat) (h : q*n*F ≤ T*n) : q*F*n ≤ T*n := by grind
theorem qh4 (P F T q r : Rat) (hp1 : P*2 = F) (e : q*r*2 = 1) (h : q*F*r ≤ T*r) : P ≤ T*r := by
  subst hp1
  have : q * (P*2) * r = P * (q*r*2) := by grind
  rw [this, e] at h
  grind
def e51 (B : Rat) : Rat := B * p2 (-51) + p2 (-1075)
theorem quot_near {m n : Nat} {i j : Int} {T : Rat} (hn : n ≠ 0) (hT : T * ((n : Rat) * p2 j) = (m : Rat) * p2 i) {more : Nat} (hmore : more = 54 + n.log2 - m.log2) :
    Nr (((2 * ((m <<< more) / n) + ((m <<< more) % n != 0).toNat : Nat) : Rat) * p2 (i - j - more - 1)) T (T * p2 (-54)) ∧ 0 ≤ T := by
  have hn1 : (1 : Rat) ≤ (n : Rat) := by
    have : ((1 : Nat) : Rat) ≤ (n : Rat) := Rat.natCast_le_natCast.2 (by omega)
    simpa using this
  have hn0 : (0 : Rat) < (n : Rat) := by grind
  have hnj : 0 < (n : Rat) * p2 j := Rat.mul_pos hn0 (p2_pos j)
  have hT0 : 0 ≤ T := by
    refine le_of_mul_pos hnj ?_
    rw [hT, Rat.zero_mul]; exact mag_nn m i
  refine ⟨?_, hT0⟩
  obtain ⟨E, hE⟩ : ∃ E : Int, E = i - j - more := ⟨_, rfl⟩
  have hTE : T * (n : Rat) = ((m <<< more : Nat) : Rat) * p2 E := by
    have h1 : T * (n : Rat) * p2 j = (m : Rat) * p2 (i - j) * p2 j := by
      rw [Rat.mul_assoc, hT, Rat.mul_assoc, ← p2_add]
      rw [show i - j + j = i by omega]
    have h2 : T * (n : Rat) = (m : Rat) * p2 (i - j) := by
      exact cancel_pos (p2_pos j) h1
    rw [h2, Nat.shiftLeft_eq, nat_p2, Rat.mul_assoc, ← p2_add]
    rw [show (more : Int) + E = i - j by omega]
  by_cases hm : m = 0
  · subst hm
    have hz : T = 0 := by
      have : T * (n : Rat) = 0 := by rw [hTE]; simp
      rcases Rat.mul_eq_zero.1 this with h | h
      · exact h
      · exact absurd h (Rat.ne_of_gt hn0)
    rw [hz]
    unfold Nr
    simp
    grind
  · have hdn : 2 ^ 53 * n ≤ m <<< more := by
      rw [Nat.shiftLeft_eq]
      have h1 : 2 ^ m.log2 ≤ m := Nat.log2_self_le hm
      have h2 : n < 2 ^ (n.log2 + 1) := Nat.lt_log2_self
      have h3 : 2 ^ m.log2 * 2 ^ more ≤ m * 2 ^ more := Nat.mul_le_mul_right _ h1
      rw [← Nat.pow_add] at h3
      have h4 : 2 ^ (53 + (n.log2 + 1)) ≤ 2 ^ (m.log2 + more) := Nat.pow_le_pow_right (by omega) (by omega)
      rw [Nat.pow_add 2 53] at h4
      have h5 : 2 ^ 53 * n ≤ 2 ^ 53 * 2 ^ (n.log2 + 1) := Nat.mul_le_mul_left _ (by omega)
      omega
    obtain ⟨d, hd⟩ : ∃ d, d = m <<< more := ⟨_, rfl⟩
    rw [← hd] at hTE hdn ⊢
    rw [show i - j - (more : Int) - 1 = E + -1 by omega]
    have hdm := Nat.div_add_mod d n
    have hr := Nat.mod_lt d (by omega : 0 < n)
    obtain ⟨Q, hQ⟩ : ∃ Q, Q = d / n := ⟨_, rfl⟩
    obtain ⟨R, hR⟩ : ∃ R, R = d % n := ⟨_, rfl⟩
    rw [← hQ, ← hR] at hdm
    rw [← hR] at hr
    rw [← hQ, ← hR]
    -- twice
    have k1 : (2 * Q + (R != 0).toNat) * n ≤ 2 * d + n := by
      rw [Nat.add_mul, Nat.mul_assoc, Nat.mul_comm Q n]
      by_cases h0 : R = 0
      · subst h0; simp; omega
      · have : (R != 0) = true := by simpa using h0
        rw [this]; simp; omega
    have k2 : 2 * d ≤ (2 * Q + (R != 0).toNat) * n + n := by
      rw [Nat.add_mul, Nat.mul_assoc, Nat.mul_comm Q n]
      by_cases h0 : R = 0
      · subst h0; simp; omega
      · have : (R != 0) = true := by simpa using h0
        rw [this]; simp; omega
    obtain ⟨M, hM⟩ : ∃ M, M = 2 * Q + (R != 0).toNat := ⟨_, rfl⟩
    rw [← hM] at k1 k2 ⊢
    have c1 : (M : Rat) * (n : Rat) ≤ 2 * (d : Rat) + (n : Rat) := by
      have : ((M * n : Nat) : Rat) ≤ ((2 * d + n : Nat) : Rat) := Rat.natCast_le_natCast.2 k1
      rw [Rat.natCast_mul, Rat.natCast_add, Rat.natCast_mul] at this
      exact this
    have c2 : 2 * (d : Rat) ≤ (M : Rat) * (n : Rat) + (n : Rat) := by
      have : ((2 * d : Nat) : Rat) ≤ ((M * n + n : Nat) : Rat) := Rat.natCast_le_natCast.2 k2
      rw [Rat.natCast_mul, Rat.natCast_add, Rat.natCast_mul] at this
      exact this
    have c3 : p2 53 * (n : Rat) ≤ (d : Rat) := by
      have : ((2 ^ 53 * n : Nat) : Rat) ≤ (d : Rat) := Rat.natCast_le_natCast.2 hdn
      rw [Rat.natCast_mul] at this
      have e : p2 53 = ((2 ^ 53 : Nat) : Rat) := p2_nat 53
      rw [e]; exact this
    have hpE := p2_pos E
    have hp1 : p2 (E + -1) * 2 = p2 E := by
      rw [← p2_one, ← p2_add, show E + -1 + 1 = E by omega]
    have hp1p := p2_pos (E + -1)
    -- the two are no further than half a unit from one another
    have b1 : (M : Rat) * p2 (E + -1) ≤ T + p2 (E + -1) := by
      refine le_of_mul_pos hn0 ?_
      exact qh1 _ _ _ _ _ _ hp1 hTE (Rat.mul_le_mul_of_nonneg_right c1 (Rat.le_of_lt hp1p))
    have b2 : T ≤ (M : Rat) * p2 (E + -1) + p2 (E + -1) := by
      refine le_of_mul_pos hn0 ?_
      exact qh2 _ _ _ _ _ _ hp1 hTE (Rat.mul_le_mul_of_nonneg_right c2 (Rat.le_of_lt hp1p))
    have b3 : p2 (E + -1) ≤ T * p2 (-54) := by
      have h54 := p2_pos (-54)
      have e54 : p2 53 * p2 (-54) * 2 = 1 := by
        rw [← p2_add, ← p2_one, ← p2_add]
        exact p2_zero
      have h1 : p2 53 * (n : Rat) * p2 E ≤ T * (n : Rat) := by
        rw [hTE]
        exact Rat.mul_le_mul_of_nonneg_right c3 (Rat.le_of_lt hpE)
      have h2 : p2 53 * p2 E ≤ T := by
        exact le_of_mul_pos hn0 (qh3 _ _ _ _ h1)
      exact qh4 _ _ _ _ _ hp1 e54 (Rat.mul_le_mul_of_nonneg_right h2 (Rat.le_of_lt h54))
    unfold Nr
    grind
variable {x y : F} {p q v B : Rat}
theorem RV.div (hx : RV x p) (hy : RV y q) (hq : q ≠ 0) (hv : p = v * q) (hB : Ab v B) (hB2 : B ≤ p2 999) : ∃ r, RV (fdiv x y) r ∧ Nr r v (e51 B) := by
  obtain ⟨a, s, m, i, rfl, h1, rfl⟩ := hx
  obtain ⟨b, t, n, j, rfl, h2, rfl⟩ := hy
  have hn : n ≠ 0 := fun h => by
    subst h
    exact hq (by unfold nv; simp)
  obtain ⟨T, hTv⟩ : ∃ T, T = sg (s ^^ t) * v := ⟨_, rfl⟩
  have hv2 : v = sg (s ^^ t) * T := by
    have := sg_sq (s ^^ t)
    rw [hTv]; grind
  have hT : T * ((n : Rat) * p2 j) = (m : Rat) * p2 i := by
    unfold nv at hv
    have e1 := sg_sq s
    have e2 := sg_sq t
    have e3 := sg_xor s t
    rw [hTv, e3]
    have : sg s * (sg s * ((m : Rat) * p2 i)) = sg s * (v * (sg t * ((n : Rat) * p2 j))) := by rw [hv]
    rw [← Rat.mul_assoc, e1] at this
    grind
  obtain ⟨hN, hT0⟩ := quot_near hn hT rfl
  have hTB : T ≤ B := by
    rw [hTv]
    unfold sg
    split
    · have := hB.2; grind
    · have := hB.1; grind
  obtain ⟨more, hmo⟩ : ∃ more, more = 54 + n.log2 - m.log2 := ⟨_, rfl⟩
  rw [← hmo] at hN
  obtain ⟨mg, hmg⟩ : ∃ mg, mg = 2 * ((m <<< more) / n) + ((m <<< more) % n != 0).toNat := ⟨_, rfl⟩
  rw [← hmg] at hN
  obtain ⟨pl, hpl⟩ : ∃ pl : Int, pl = i - j - more - 1 := ⟨_, rfl⟩
  rw [← hpl] at hN
  have hB0 : 0 ≤ B := Rat.le_trans hT0 hTB
  have h54 := p2_pos (-54)
  have h54b : p2 (-54) ≤ 1 := by
    have := p2_mono (show (-54 : Int) ≤ 0 by decide)
    rwa [p2_zero] at this
  have hT54 : T * p2 (-54) ≤ B * p2 (-54) := Rat.mul_le_mul_of_nonneg_right hTB (Rat.le_of_lt h54)
  have hB54 : B * p2 (-54) ≤ B := by
    have := Rat.mul_le_mul_of_nonneg_left h54b hB0
    rwa [Rat.mul_one] at this
  have hAb : Ab (nv (s ^^ t) mg pl) (2 * B) := abs_nv (by unfold Nr at hN; grind)
  have h2B : 2 * B ≤ p2 1000 := by
    have : p2 1000 = 2 * p2 999 := by rw [← p2_one, ← p2_add]; rfl
    rw [this]; grind
  obtain ⟨r, h5, h6⟩ := RV.write (s ^^ t) mg pl hAb h2B
  refine ⟨r, ?_, ?_⟩
  · have : fdiv (some a) (some b) = some (double.write (.number (s ^^ t) mg pl)) := by
      show ((double.read a).quotient 54 (double.read b)).map double.write = _
      rw [h1, h2]
      unfold Datum.quotient
      simp only [if_neg hn]
      rw [← hmo, ← hmg, ← hpl]; rfl
    rw [this]; exact h5
  · have e53' : p2 (-53) = 2 * p2 (-54) := by rw [← p2_one, ← p2_add]; rfl
    have e51' : p2 (-51) = 8 * p2 (-54) := by
      have : (8 : Rat) = p2 3 := by rw [show p2 3 = ((2 ^ 3 : Nat) : Rat) from p2_nat 3]; rfl
      rw [this, ← p2_add]; rfl
    have ht := p2_pos (-1075)
    have hnn : Nr (nv (s ^^ t) mg pl) v (B * p2 (-54)) := by
      rw [hv2]
      unfold Nr at hN ⊢
      unfold nv
      unfold sg
      split <;> grind
    unfold Nr e53 at h6
    unfold Nr at hnn ⊢
    unfold e51
    rw [e51']
    rw [e53'] at h6
    have hb := Rat.mul_nonneg hB0 (Rat.le_of_lt h54)
    grind
end Go.Proofs.Ytonmjdhdkkmjlaa

/- Plain: floats as fractions, where what comes is finite. No program in sight. -/
import Derived.Test.YtghhanifakllpaaDiY
import Derived.Test.YtghhanifakllpaaFlY
set_option linter.unusedSimpArgs false
set_option linter.unusedVariables false
set_option linter.unusedVariables false
set_option linter.unusedSimpArgs false
namespace Go.Proofs.Ytghhanifakllpaa.Nu
open Ieee
theorem read_rung2 (neg : Bool) (L kept : Nat) (h : L = 0 ∨ 4503599627370496 ≤ kept) (h1 : kept ≤ 9007199254740992) (h2 : L * 4503599627370496 + kept < 9218868437227405312) :
    ∃ (m : Nat) (k : Int), double.read (double.word neg (L * 4503599627370496 + kept)) = .number neg m k ∧ (m : Rat) * p2 k = (kept : Rat) * p2 ((L : Int) - 1074) ∧ -1074 ≤ k := by
  have e1 : double.word neg (L * 4503599627370496 + kept) % 9223372036854775808 = L * 4503599627370496 + kept := by
    unfold Format.word
    rw [sw]
    cases neg <;> simp <;> omega
  have e2 : (double.word neg (L * 4503599627370496 + kept) / 9223372036854775808 % 2 == 1) = neg := by
    unfold Format.word
    rw [sw]
    cases neg
    · simp; omega
    · simp; omega
  unfold Format.read
  simp only [lp, bn, ir, sw, e1, e2]
  by_cases hk : kept < 4503599627370496
  · have hL : L = 0 := by omega
    subst hL
    rw [if_pos (by omega)]
    exact ⟨_, _, rfl, by simp, by omega⟩
  · rw [if_neg (by omega), if_pos (by omega)]
    by_cases hk2 : kept = 9007199254740992
    · subst hk2
      refine ⟨_, _, rfl, ?_, by omega⟩
      have a1 : 4503599627370496 + (L * 4503599627370496 + 9007199254740992) % 4503599627370496 = 4503599627370496 := by omega
      have a2 : (-1074 : Int) + (((L * 4503599627370496 + 9007199254740992) / 4503599627370496 - 1 : Nat) : Int) = 1 + ((L : Int) - 1074) := by omega
      rw [a1, a2, p2_add, p2_one]
      grind
    · refine ⟨_, _, rfl, ?_, by omega⟩
      have a1 : 4503599627370496 + (L * 4503599627370496 + kept) % 4503599627370496 = kept := by omega
      have a2 : (-1074 : Int) + (((L * 4503599627370496 + kept) / 4503599627370496 - 1 : Nat) : Int) = (L : Int) - 1074 := by omega
      rw [a1, a2]

theorem near_write2 (s : Bool) (mag : Nat) (place : Int) {B : Rat} (hB : (mag : Rat) * p2 place ≤ B) (hfin : double.read (double.nearest s mag place) ≠ .infinity s) :
    ∃ (m : Nat) (k : Int), double.read (double.nearest s mag place) = .number s m k ∧ -1074 ≤ k ∧ (m : Rat) * p2 k ≤ (mag : Rat) * p2 place + (B * p2 (-53) + p2 (-1075)) ∧ (mag : Rat) * p2 place ≤ (m : Rat) * p2 k + (B * p2 (-53) + p2 (-1075)) := by
  have hplace := p2_pos place
  have hB0 : 0 ≤ B := by
    have h1 : (0 : Rat) ≤ (mag : Rat) := by
      have : ((0 : Nat) : Rat) ≤ (mag : Rat) := Rat.natCast_le_natCast.2 (Nat.zero_le _)
      simpa using this
    have := Rat.mul_nonneg h1 (Rat.le_of_lt hplace)
    grind
  have hu := p2_pos (-53)
  have ht := p2_pos (-1075)
  have hBu := Rat.mul_nonneg hB0 (Rat.le_of_lt hu)
  by_cases hmag : mag = 0
  · subst hmag
    refine ⟨0, _, read_zero s place, by omega, ?_, ?_⟩ <;> simp <;> grind
  · obtain ⟨l, hl⟩ : ∃ l, l = mag.log2 := ⟨_, rfl⟩
    have h1 : 2 ^ l ≤ mag := by rw [hl]; exact Nat.log2_self_le hmag
    have h2 : mag < 2 ^ (l + 1) := by rw [hl]; exact Nat.lt_log2_self
    obtain ⟨last, hlast⟩ : ∃ last : Int, last = max (place + (l : Int) - 52) (-1074) := ⟨_, rfl⟩
    obtain ⟨U, hU⟩ : ∃ U, U = (place - last).toNat := ⟨_, rfl⟩
    obtain ⟨D, hD⟩ : ∃ D, D = (last - place).toNat := ⟨_, rfl⟩
    obtain ⟨c, hc⟩ : ∃ c, c = Toward.even.cut s (mag <<< U) D := ⟨_, rfl⟩
    obtain ⟨n1, n2⟩ := cut_near s (mag <<< U) D
    rw [← hc, Nat.shiftLeft_eq] at n1 n2
    have hpD := Nat.two_pow_pos D
    have hmU : mag * 2 ^ U < 2 ^ (53 + D) := by
      have : mag * 2 ^ U < 2 ^ (l + 1) * 2 ^ U := Nat.mul_lt_mul_of_pos_right h2 (Nat.two_pow_pos U)
      rw [← Nat.pow_add] at this
      exact Nat.lt_of_lt_of_le this (Nat.pow_le_pow_right (by omega) (by omega))
    have hc53 : c ≤ 9007199254740992 := by
      rw [Nat.pow_add] at hmU
      have : 2 * (c * 2 ^ D) < 2 * ((2 ^ 53 + 1) * 2 ^ D) := by
        have e : 2 * ((2 ^ 53 + 1) * 2 ^ D) = 2 * (2 ^ 53 * 2 ^ D) + 2 * 2 ^ D := by rw [Nat.add_mul]; omega
        omega
      have := Nat.lt_of_mul_lt_mul_right (Nat.lt_of_mul_lt_mul_left this)
      omega
    have hc52 : last = -1074 ∨ 4503599627370496 ≤ c := by
      by_cases hla : last = -1074
      · exact .inl hla
      · right
        have e : l + U = 52 + D := by omega
        have : 2 ^ l * 2 ^ U ≤ mag * 2 ^ U := Nat.mul_le_mul_right _ h1
        rw [← Nat.pow_add, e, Nat.pow_add] at this
        have h3 : (2 * 2 ^ 52 - 1) * 2 ^ D ≤ 2 * c * 2 ^ D := by
          rw [Nat.sub_mul, Nat.mul_assoc, Nat.mul_assoc]; omega
        have := Nat.le_of_mul_le_mul_right h3 hpD
        omega
    have hp2e : p2 (place + l) ≤ (mag : Rat) * p2 place := by
      rw [p2_add, p2_nat, Rat.mul_comm]
      exact Rat.mul_le_mul_of_nonneg_right (Rat.natCast_le_natCast.2 h1) (Rat.le_of_lt hplace)
    obtain ⟨L, hL⟩ : ∃ L, L = (last + 1074).toNat := ⟨_, rfl⟩
    have hLc : L = 0 ∨ 4503599627370496 ≤ c := by
      rcases hc52 with h | h
      · left; omega
      · exact .inr h
    have hnear : double.nearest s mag place = double.word s (min (L * 4503599627370496 + c) 9218868437227405312) := by
      unfold Format.nearest
      rw [if_neg hmag]
      simp only [lp, fb, bn, ir]
      rw [← hl]
      have a1 : max (place + (l : Int) - ((52 : Nat) : Int)) (-1074) = last := hlast.symm
      rw [a1, ← hU, ← hD, ← hc]
      have a2 : (last - -1074).toNat = L := by rw [hL]; congr 1
      rw [a2]
    have hsmall : L * 4503599627370496 + c < 9218868437227405312 := by
      refine Nat.lt_of_not_le fun hge => hfin ?_
      rw [hnear, Nat.min_eq_right hge]
      cases s <;> decide
    obtain ⟨m, k, e1, e2, e3⟩ := read_rung2 s L c hLc hc53 hsmall
    have hread : double.read (double.nearest s mag place) = .number s m k := by
      rw [hnear, Nat.min_eq_left (Nat.le_of_lt hsmall)]
      exact e1
    have hkl : (L : Int) - 1074 = last := by omega
    rw [hkl] at e2
    -- as fractions
    have q1 : (2 : Rat) * ((c : Rat) * p2 D) ≤ 2 * ((mag : Rat) * p2 U) + p2 D := by
      rw [← nat_p2, ← nat_p2, p2_nat]
      have : ((2 * (c * 2 ^ D) : Nat) : Rat) ≤ ((2 * (mag * 2 ^ U) + 2 ^ D : Nat) : Rat) := Rat.natCast_le_natCast.2 n1
      rw [Rat.natCast_add, Rat.natCast_mul, Rat.natCast_mul 2 (mag * 2 ^ U)] at this
      exact this
    have q2 : (2 : Rat) * ((mag : Rat) * p2 U) ≤ 2 * ((c : Rat) * p2 D) + p2 D := by
      rw [← nat_p2, ← nat_p2, p2_nat]
      have : ((2 * (mag * 2 ^ U) : Nat) : Rat) ≤ ((2 * (c * 2 ^ D) + 2 ^ D : Nat) : Rat) := Rat.natCast_le_natCast.2 n2
      rw [Rat.natCast_add, Rat.natCast_mul, Rat.natCast_mul 2 (c * 2 ^ D)] at this
      exact this
    have hP : ∀ x : Rat, x * p2 D * p2 (last - D) = x * p2 last := fun x => by
      rw [Rat.mul_assoc, ← p2_add, show (D : Int) + (last - D) = last by omega]
    have hQ : (mag : Rat) * p2 U * p2 (last - D) = (mag : Rat) * p2 place := by
      rw [Rat.mul_assoc, ← p2_add, show (U : Int) + (last - D) = place by omega]
    have hR : p2 D * p2 (last - D) = 2 * p2 (last - 1) := by
      rw [← p2_add, ← p2_one, ← p2_add, show (D : Int) + (last - D) = 1 + (last - 1) by omega]
    have hpos := Rat.le_of_lt (p2_pos (last - D))
    have r1 := Rat.mul_le_mul_of_nonneg_right q1 hpos
    have r2 := Rat.mul_le_mul_of_nonneg_right q2 hpos
    rw [Rat.add_mul, Rat.mul_assoc, Rat.mul_assoc 2, hP, hQ, hR] at r1
    rw [Rat.add_mul, Rat.mul_assoc, Rat.mul_assoc 2, hP, hQ, hR] at r2
    have herr : p2 (last - 1) ≤ B * p2 (-53) + p2 (-1075) := by
      by_cases hla : last = -1074
      · rw [hla]; show p2 (-1075) ≤ _; grind
      · have : last - 1 = (place + l) + (-53) := by omega
        rw [this, p2_add]
        have := Rat.mul_le_mul_of_nonneg_right (Rat.le_trans hp2e hB) (Rat.le_of_lt hu)
        grind
    refine ⟨m, k, hread, e3, ?_, ?_⟩
    · rw [e2]; grind
    · rw [e2]; grind

/-- A float that is finite. -/
def Fi (x : F) : Prop := ∃ b s m k, x = some b ∧ double.read b = .number s m k
/-- What a float is worth; nothing, where it is not finite. -/
def vq (x : F) : Rat := match x with
  | none => 0
  | some b => match double.read b with
    | .number s m k => nv s m k
    | _ => 0
theorem vq_some {b : Nat} {s : Bool} {m : Nat} {k : Int} (h : double.read b = .number s m k) : vq (some b) = nv s m k := by
  unfold vq; simp only [h]
theorem Fi.rv {x : F} (h : Fi x) : RV x (vq x) := by
  obtain ⟨b, s, m, k, rfl, h1⟩ := h
  exact ⟨b, s, m, k, rfl, h1, vq_some h1⟩
theorem RV.fi {x : F} {q : Rat} (h : RV x q) : Fi x ∧ vq x = q := by
  obtain ⟨b, s, m, k, rfl, h1, rfl⟩ := h
  exact ⟨⟨b, s, m, k, rfl, h1⟩, vq_some h1⟩
theorem ffin_fi {x : F} (h : ffin x = true) : Fi x := by
  cases x with
  | none => exact absurd h (by decide)
  | some b =>
    cases h1 : double.read b with
    | number s m k => exact ⟨b, s, m, k, rfl, h1⟩
    | infinity s =>
      have h2 : double.read (b % 9223372036854775808) = .infinity false := by
        unfold Format.read at h1 ⊢
        simp only [lp, bn, ir, sw, Nat.mod_mod] at h1 ⊢
        split at h1
        · exact absurd h1 (by simp)
        · rename_i g1
          rw [if_neg g1]
          split at h1
          · exact absurd h1 (by simp)
          · rename_i g2
            rw [if_neg g2]
            split at h1
            · rename_i g3
              rw [if_pos g3]
              have : b % 9223372036854775808 / 9223372036854775808 = 0 := Nat.div_eq_of_lt (Nat.mod_lt _ (by decide))
              rw [this]; rfl
            · exact absurd h1 (by simp)
      have h3 : fcmp (fabs (some b)) fbig = some .gt := by
        show (double.read (b % 9223372036854775808)).order (double.read 9218868437227405311) = _
        rw [h2, show double.read 9218868437227405311 = .number false 9007199254740991 971 from by decide]; rfl
      unfold ffin fle at h
      rw [h3] at h
      exact absurd h (by decide)
    | nan s t =>
      have h2 : (double.read (b % 9223372036854775808)).isNaN = true := by
        have := isNo_mod b
        unfold isNo at this
        rw [this, h1]; rfl
      have h3 : fcmp (fabs (some b)) fbig = none := by
        show (double.read (b % 9223372036854775808)).order (double.read 9218868437227405311) = _
        exact order_nan_left h2
      unfold ffin fle at h
      rw [h3] at h
      exact absurd h (by decide)
end Go.Proofs.Ytghhanifakllpaa.Nu

/- Plain: what floats' sums, products and quotients are worth, where what comes is finite. No program in sight. -/
set_option linter.unusedVariables false
set_option linter.unusedSimpArgs false
namespace Go.Proofs.Ytghhanifakllpaa.Nu
open Ieee

theorem rabs_ab {q B : Rat} : rabs q ≤ B ↔ Ab q B := by
  unfold rabs Ab
  constructor
  · intro h; split at h <;> grind
  · intro h; split <;> grind
theorem ab_rabs (q : Rat) : Ab q (rabs q) := rabs_ab.1 (by grind)
theorem rabs_nn (q : Rat) : 0 ≤ rabs q := by unfold rabs; split <;> grind
theorem Ab.nn {q B : Rat} (h : Ab q B) : 0 ≤ B := by unfold Ab at h; grind
theorem Ab.mono {q B C : Rat} (h : Ab q B) (hc : B ≤ C) : Ab q C := by unfold Ab at *; grind
theorem Ab.add {p q B C : Rat} (h : Ab p B) (h2 : Ab q C) : Ab (p + q) (B + C) := by unfold Ab at *; grind
theorem Ab.sub {p q B C : Rat} (h : Ab p B) (h2 : Ab q C) : Ab (p - q) (B + C) := by unfold Ab at *; grind
theorem Ab.neg {p B : Rat} (h : Ab p B) : Ab (-p) B := by unfold Ab at *; grind
theorem Ab.mul {p q B C : Rat} (h : Ab p B) (h2 : Ab q C) : Ab (p * q) (B * C) := by
  have hB := h.nn
  have hC := h2.nn
  unfold Ab at *
  have a1 := Rat.mul_nonneg (show 0 ≤ B - p by grind) (show 0 ≤ C - q by grind)
  have a2 := Rat.mul_nonneg (show 0 ≤ B + p by grind) (show 0 ≤ C - q by grind)
  have a3 := Rat.mul_nonneg (show 0 ≤ B - p by grind) (show 0 ≤ C + q by grind)
  have a4 := Rat.mul_nonneg (show 0 ≤ B + p by grind) (show 0 ≤ C + q by grind)
  grind
theorem ab_zero {B : Rat} (h : 0 ≤ B) : Ab 0 B := by unfold Ab; grind
theorem rabs_mul (p q : Rat) : rabs (p * q) = rabs p * rabs q := by
  unfold rabs
  by_cases h1 : 0 ≤ p <;> by_cases h2 : 0 ≤ q
  · have := Rat.mul_nonneg h1 h2
    rw [if_pos h1, if_pos h2, if_pos this]
  · have := Rat.mul_nonneg h1 (show 0 ≤ -q by grind)
    rw [if_pos h1, if_neg h2]
    split
    · have : p * q = 0 := by grind
      grind
    · grind
  · have := Rat.mul_nonneg (show 0 ≤ -p by grind) h2
    rw [if_neg h1, if_pos h2]
    split
    · have : p * q = 0 := by grind
      grind
    · grind
  · have := Rat.mul_nonneg (show 0 ≤ -p by grind) (show 0 ≤ -q by grind)
    rw [if_neg h1, if_neg h2]
    split
    · grind
    · grind
theorem Nr.ab {r q e : Rat} (h : Nr r q e) : Ab (r - q) e := by unfold Nr at h; unfold Ab; grind

theorem rabs_nv (s : Bool) (m : Nat) (k : Int) : rabs (nv s m k) = (m : Rat) * p2 k := by
  have h := mag_nn m k
  unfold rabs nv sg
  cases s
  · simp only [Bool.false_eq_true, if_false, Rat.one_mul]; rw [if_pos h]
  · simp only [if_true]
    by_cases h0 : (m : Rat) * p2 k = 0
    · rw [h0]; simp
    · rw [if_neg (by grind)]; grind
/-- What is written is near, where it is finite. -/
theorem write_fin {s : Bool} {m : Nat} {k : Int} (h : Fi (some (double.write (.number s m k)))) : Ab (vq (some (double.write (.number s m k))) - nv s m k) (e53 (rabs (nv s m k))) := by
  obtain ⟨b, s1, m1, k1, h1, h2⟩ := h
  have h1 := Option.some.inj h1
  subst h1
  have hf : double.read (double.nearest s m k) ≠ .infinity s := by
    have : double.read (double.nearest s m k) = .number s1 m1 k1 := h2
    rw [this]; simp
  obtain ⟨m', k', e1, _, e3, e4⟩ := near_write2 s m k (B := (m : Rat) * p2 k) (by grind) hf
  have e1' : double.read (double.write (.number s m k)) = .number s m' k' := e1
  rw [vq_some e1', rabs_nv]
  exact (nr_nv e3 e4).ab

theorem Fi.sub_args {x y : F} (h : Fi (fsub x y)) : Fi x ∧ Fi y := by
  obtain ⟨b, s, m, k, h1, h2⟩ := h
  cases x with
  | none => exact absurd h1 (by simp [fsub, f2])
  | some u =>
    cases y with
    | none => exact absurd h1 (by simp [fsub, f2])
    | some v =>
      have h3 : ((double.read u).sum (double.read v).opposite).map double.write = some b := h1
      have hi : ∀ t : Bool, some (double.write (.infinity t)) ≠ some b := by
        intro t ht
        have := Option.some.inj ht
        subst this
        have : double.read (double.write (.infinity t)) = .infinity t := by cases t <;> decide
        rw [this] at h2; exact absurd h2 (by simp)
      cases hu : double.read u with
      | nan s t => rw [hu] at h3; exact absurd h3 (by simp [Datum.sum])
      | infinity s =>
        rw [hu] at h3
        cases hv : double.read v with
        | nan s t => rw [hv] at h3; exact absurd h3 (by simp [Datum.sum, Datum.opposite])
        | infinity t =>
          rw [hv] at h3
          simp only [Datum.sum, Datum.opposite] at h3
          split at h3
          · exact absurd h3 (hi _)
          · exact absurd h3 (by simp)
        | number t n j =>
          rw [hv] at h3
          exact absurd h3 (hi _)
      | number s' m' k' =>
        rw [hu] at h3
        cases hv : double.read v with
        | nan s t => rw [hv] at h3; exact absurd h3 (by simp [Datum.sum, Datum.opposite])
        | infinity t =>
          rw [hv] at h3
          exact absurd h3 (hi _)
        | number t n j => exact ⟨⟨u, _, _, _, rfl, hu⟩, ⟨v, _, _, _, rfl, hv⟩⟩
theorem Fi.mul_args {x y : F} (h : Fi (fmul x y)) : Fi x ∧ Fi y := by
  obtain ⟨b, s, m, k, h1, h2⟩ := h
  cases x with
  | none => exact absurd h1 (by simp [fmul, f2])
  | some u =>
    cases y with
    | none => exact absurd h1 (by simp [fmul, f2])
    | some v =>
      have h3 : ((double.read u).product (double.read v)).map double.write = some b := h1
      have hi : ∀ t : Bool, some (double.write (.infinity t)) ≠ some b := by
        intro t ht
        have := Option.some.inj ht
        subst this
        have : double.read (double.write (.infinity t)) = .infinity t := by cases t <;> decide
        rw [this] at h2; exact absurd h2 (by simp)
      cases hu : double.read u with
      | nan s t => rw [hu] at h3; exact absurd h3 (by simp [Datum.product])
      | infinity s =>
        rw [hu] at h3
        cases hv : double.read v with
        | nan s t => rw [hv] at h3; exact absurd h3 (by simp [Datum.product])
        | infinity t =>
          rw [hv] at h3
          exact absurd h3 (hi _)
        | number t n j =>
          rw [hv] at h3
          simp only [Datum.product] at h3
          split at h3
          · exact absurd h3 (by simp)
          · exact absurd h3 (hi _)
      | number s' m' k' =>
        rw [hu] at h3
        cases hv : double.read v with
        | nan s t => rw [hv] at h3; exact absurd h3 (by simp [Datum.product])
        | infinity t =>
          rw [hv] at h3
          simp only [Datum.product] at h3
          split at h3
          · exact absurd h3 (by simp)
          · exact absurd h3 (hi _)
        | number t n j => exact ⟨⟨u, _, _, _, rfl, hu⟩, ⟨v, _, _, _, rfl, hv⟩⟩
theorem Fi.div_arg {x y : F} (h : Fi (fdiv x y)) (hy : Fi y) : Fi x := by
  obtain ⟨b, s, m, k, h1, h2⟩ := h
  obtain ⟨v, t, n, j, rfl, hv⟩ := hy
  cases x with
  | none => exact absurd h1 (by simp [fdiv, f2])
  | some u =>
    have h3 : ((double.read u).quotient 54 (double.read v)).map double.write = some b := h1
    rw [hv] at h3
    cases hu : double.read u with
    | nan s t => rw [hu] at h3; exact absurd h3 (by simp [Datum.quotient])
    | infinity s =>
      rw [hu] at h3
      have ht : some (double.write (.infinity (s ^^ t))) = some b := h3
      have := Option.some.inj ht
      subst this
      have : double.read (double.write (.infinity (s ^^ t))) = .infinity (s ^^ t) := by cases s <;> cases t <;> decide
      rw [this] at h2; exact absurd h2 (by simp)
    | number s' m' k' => exact ⟨u, _, _, _, rfl, hu⟩

theorem fin_sub {x y : F} (h : Fi (fsub x y)) : Ab (vq (fsub x y) - (vq x - vq y)) (e53 (rabs (vq x - vq y))) := by
  obtain ⟨⟨a, s, m, i, rfl, h1⟩, ⟨b, t, n, j, rfl, h2⟩⟩ := h.sub_args
  obtain ⟨d, h3, s', m', k', rfl, h4⟩ := sum_nv s (!t) m n i j
  have e : fsub (some a) (some b) = some (double.write (.number s' m' k')) := by
    show ((double.read a).sum (double.read b).opposite).map double.write = _
    rw [h1, h2]
    show ((Datum.number s m i).sum (.number (!t) n j)).map double.write = _
    rw [h3]; rfl
  rw [opp_nv, ← Rat.sub_eq_add_neg] at h4
  rw [e] at h ⊢
  rw [vq_some h1, vq_some h2, ← h4]
  exact write_fin h
theorem fin_mul {x y : F} (h : Fi (fmul x y)) : Ab (vq (fmul x y) - vq x * vq y) (e53 (rabs (vq x * vq y))) := by
  obtain ⟨⟨a, s, m, i, rfl, h1⟩, ⟨b, t, n, j, rfl, h2⟩⟩ := h.mul_args
  have h4 : nv (s ^^ t) (m * n) (i + j) = nv s m i * nv t n j := by
    unfold nv
    rw [sg_xor, p2_add, Rat.natCast_mul]; grind
  have e : fmul (some a) (some b) = some (double.write (.number (s ^^ t) (m * n) (i + j))) := by
    show ((double.read a).product (double.read b)).map double.write = _
    rw [h1, h2]; rfl
  rw [e] at h ⊢
  rw [vq_some h1, vq_some h2, ← h4]
  exact write_fin h
def e52 (B : Rat) : Rat := B * p2 (-52) + p2 (-1075)
theorem fin_div {x y : F} {v : Rat} (h : Fi (fdiv x y)) (hy : Fi y) (hq : vq y ≠ 0) (hv : vq x = v * vq y) : Ab (vq (fdiv x y) - v) (e52 (rabs v)) := by
  obtain ⟨a, s, m, i, rfl, h1⟩ := h.div_arg hy
  obtain ⟨b, t, n, j, rfl, h2⟩ := hy
  rw [vq_some h1, vq_some h2] at hv
  rw [vq_some h2] at hq
  have hn : n ≠ 0 := fun h => by
    subst h
    exact hq (by unfold nv; simp)
  obtain ⟨T, hTv⟩ : ∃ T, T = sg (s ^^ t) * v := ⟨_, rfl⟩
  have hv2 : v = sg (s ^^ t) * T := by
    have := sg_sq (s ^^ t)
    rw [hTv]; grind
  have hT : T * ((n : Rat) * p2 j) = (m : Rat) * p2 i := by
    unfold nv at hv
    have e1 := sg_sq s
    have e2 := sg_sq t
    have e3 := sg_xor s t
    rw [hTv, e3]
    have : sg s * (sg s * ((m : Rat) * p2 i)) = sg s * (v * (sg t * ((n : Rat) * p2 j))) := by rw [hv]
    rw [← Rat.mul_assoc, e1] at this
    grind
  obtain ⟨hN, hT0⟩ := quot_near hn hT rfl
  have hTa : rabs v = T := by
    rw [hv2]
    unfold rabs sg
    split <;> split <;> grind
  obtain ⟨more, hmo⟩ : ∃ more, more = 54 + n.log2 - m.log2 := ⟨_, rfl⟩
  rw [← hmo] at hN
  obtain ⟨mg, hmg⟩ : ∃ mg, mg = 2 * ((m <<< more) / n) + ((m <<< more) % n != 0).toNat := ⟨_, rfl⟩
  rw [← hmg] at hN
  obtain ⟨pl, hpl⟩ : ∃ pl : Int, pl = i - j - more - 1 := ⟨_, rfl⟩
  rw [← hpl] at hN
  have e : fdiv (some a) (some b) = some (double.write (.number (s ^^ t) mg pl)) := by
    show ((double.read a).quotient 54 (double.read b)).map double.write = _
    rw [h1, h2]
    unfold Datum.quotient
    simp only [if_neg hn]
    rw [← hmo, ← hmg, ← hpl]; rfl
  rw [e] at h ⊢
  have hw := write_fin h
  rw [rabs_nv] at hw
  have hnn : Ab (nv (s ^^ t) mg pl - v) (T * p2 (-54)) := by
    rw [hv2]
    unfold Nr at hN
    unfold Ab nv sg
    split <;> grind
  rw [hTa]
  have h54 := p2_pos (-54)
  have e53' : p2 (-53) = 2 * p2 (-54) := by rw [← p2_one, ← p2_add]; rfl
  have e52' : p2 (-52) = 4 * p2 (-54) := by
    have : (4 : Rat) = p2 2 := by rw [show p2 2 = ((2 ^ 2 : Nat) : Rat) from p2_nat 2]; rfl
    rw [this, ← p2_add]; rfl
  have h54b : p2 (-54) * 2 ≤ 1 := by
    have := p2_mono (show (-53 : Int) ≤ 0 by decide)
    rw [p2_zero, e53'] at this
    grind
  have g1 : (mg : Rat) * p2 pl ≤ T + T * p2 (-54) := by unfold Nr at hN; exact hN.1
  have g2 := Rat.mul_le_mul_of_nonneg_right g1 (Rat.le_of_lt h54)
  have g3 := Rat.mul_nonneg hT0 (Rat.le_of_lt h54)
  have g4 := Rat.mul_le_mul_of_nonneg_left h54b g3
  unfold e53 at hw
  rw [e53'] at hw
  unfold e52
  rw [e52']
  unfold Ab at *
  grind

/-! ### Errors against what comes -/
theorem p2_half (k : Int) : p2 k = 2 * p2 (k - 1) := by
  rw [← p2_one, ← p2_add, show 1 + (k - 1) = k by omega]
theorem p2_le_one {k : Int} (h : k ≤ 0) : p2 k ≤ 1 := by
  have := p2_mono h
  rwa [p2_zero] at this
theorem rel_res {r q u t B : Rat} (hu0 : 0 ≤ u) (hu : 2 * u ≤ 1) (ht : 0 ≤ t) (h : Ab (r - q) (rabs q * u + t)) (hB : Ab r B) : Ab (r - q) (B * (2 * u) + 2 * t) := by
  have hB0 := hB.nn
  obtain ⟨Q, hQ⟩ : ∃ Q, Q = rabs q := ⟨_, rfl⟩
  have h2 := rabs_nn q
  rw [← hQ] at h h2
  have h3 : Q ≤ B + (Q * u + t) := by rw [hQ, rabs_ab, ← hQ]; unfold Ab at *; grind
  have h5 : Q * (2 * u) ≤ Q * 1 := Rat.mul_le_mul_of_nonneg_left hu h2
  have h4 : Q ≤ 2 * B + 2 * t := by grind
  have h6 := Rat.mul_le_mul_of_nonneg_right h4 hu0
  have h7 : t * (2 * u) ≤ t * 1 := Rat.mul_le_mul_of_nonneg_left hu ht
  exact h.mono (by grind)
theorem res_sub {x y : F} {B : Rat} (h : Fi (fsub x y)) (hB : Ab (vq (fsub x y)) B) : Ab (vq (fsub x y) - (vq x - vq y)) (B * p2 (-52) + p2 (-1074)) := by
  have h1 := fin_sub h
  unfold e53 at h1
  have := rel_res (Rat.le_of_lt (p2_pos _)) (by rw [← show p2 (-52) = 2 * p2 (-53) from p2_half (-52)]; exact p2_le_one (by decide)) (Rat.le_of_lt (p2_pos _)) h1 hB
  rw [← show p2 (-52) = 2 * p2 (-53) from p2_half (-52), ← show p2 (-1074) = 2 * p2 (-1075) from p2_half (-1074)] at this
  exact this
theorem fin_mul' {x y : F} {B : Rat} (h : Fi (fmul x y)) (hB : Ab (vq x * vq y) B) : Ab (vq (fmul x y) - vq x * vq y) (B * p2 (-53) + p2 (-1075)) := by
  refine (fin_mul h).mono ?_
  have := Rat.mul_le_mul_of_nonneg_right (rabs_ab.2 hB) (Rat.le_of_lt (p2_pos (-53)))
  unfold e53; grind
theorem res_div {x y : F} {B Q : Rat} (h : Fi (fdiv x y)) (hy : Fi y) (hq : vq y ≠ 0) (hB : Ab (vq (fdiv x y)) B) (hQ : Ab (vq y) Q) : Ab (vq (fdiv x y) * vq y - vq x) ((B * p2 (-51) + p2 (-1074)) * Q) := by
  have hv : vq x = (vq x / vq y) * vq y := by rw [Rat.div_mul_cancel hq]
  have h1 := fin_div h hy hq hv
  unfold e52 at h1
  have h2 := rel_res (Rat.le_of_lt (p2_pos _)) (by rw [← show p2 (-51) = 2 * p2 (-52) from p2_half (-51)]; exact p2_le_one (by decide)) (Rat.le_of_lt (p2_pos _)) h1 hB
  rw [← show p2 (-51) = 2 * p2 (-52) from p2_half (-51), ← show p2 (-1074) = 2 * p2 (-1075) from p2_half (-1074)] at h2
  have h3 := h2.mul hQ
  have e : vq (fdiv x y) * vq y - vq x = (vq (fdiv x y) - vq x / vq y) * vq y := by grind
  rw [e]; exact h3
end Go.Proofs.Ytghhanifakllpaa.Nu

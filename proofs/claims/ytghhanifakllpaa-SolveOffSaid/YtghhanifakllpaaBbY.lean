/- Plain: how often words go into words; Euclid's steps by first bits (Lehmer). No program in sight. -/
import Derived.Test.YtghhanifakllpaaKYY
import Derived.Test.YtghhanifakllpaaPUY
import Derived.Laws.BitsAllLaws
set_option linter.unusedSimpArgs false
set_option linter.unusedVariables false
set_option linter.unusedVariables false
set_option linter.unusedSimpArgs false
namespace Go.Proofs.Ytghhanifakllpaa

/-! ### A figure of a quotient -/
theorem fig_dec {num tp v2 u2 P U V q g r : Nat} (hr : g * tp + r = num) (hU : U < (num * 4294967296 + u2 + 1) * P) (hV : (tp * 4294967296 + v2) * P ≤ V) (hq : q * V ≤ U) (hqB : q < 4294967296) (hqg : q ≤ g) (hc : 4294967296 ≤ g ∨ r * 4294967296 + u2 < g * v2) : q + 1 ≤ g := by
  by_cases h : q + 1 ≤ g
  · exact h
  · exfalso
    obtain rfl : q = g := by omega
    rcases hc with hc | hc
    · omega
    · have h1 : num * 4294967296 + u2 + 1 ≤ q * (tp * 4294967296 + v2) := by
        have e : q * (tp * 4294967296 + v2) = (q * tp) * 4294967296 + q * v2 := by rw [Nat.mul_add, Nat.mul_assoc]
        rw [e, ← hr, Nat.add_mul]
        omega
      have h2 := Nat.mul_le_mul_right P h1
      have h3 := Nat.mul_le_mul_left q hV
      rw [← Nat.mul_assoc] at h3
      omega
theorem fig_fin {num tp v2 u2 P U V g : Nat} (hg : g * (tp * 4294967296 + v2) ≤ num * 4294967296 + u2) (hU : (num * 4294967296 + u2) * P ≤ U) (hV : V < (tp * 4294967296 + v2 + 1) * P) (hV2 : 4294967296 * P ≤ V) (gB : g < 4294967296) : g * V < U + V := by
  have hP : 0 < P := by
    rcases Nat.eq_zero_or_pos P with h | h
    · rw [h] at hV; simp at hV
    · exact h
  have h1 := Nat.mul_le_mul_left g (Nat.le_of_lt hV)
  have e : g * ((tp * 4294967296 + v2 + 1) * P) = g * (tp * 4294967296 + v2) * P + g * P := by
    rw [← Nat.mul_assoc, Nat.mul_add, Nat.add_mul, Nat.mul_one]
  rw [e] at h1
  have h2 := Nat.mul_le_mul_right P hg
  have h3 : g * P < 4294967296 * P := Nat.mul_lt_mul_of_pos_right gB hP
  omega
theorem fig_top {u w tp B V P : Nat} (h : u * (B * P) ≤ w) (hw : w < B * V) (hV : V < (tp + 1) * P) : u ≤ tp := by
  by_cases hu : u ≤ tp
  · exact hu
  · exfalso
    have h1 : (tp + 1) * (B * P) ≤ u * (B * P) := Nat.mul_le_mul_right _ (by omega)
    have h2 : B * V ≤ B * ((tp + 1) * P) := Nat.mul_le_mul_left B (Nat.le_of_lt hV)
    have e : (tp + 1) * (B * P) = B * ((tp + 1) * P) := by rw [← Nat.mul_assoc, Nat.mul_comm (tp + 1) B, Nat.mul_assoc]
    omega

/-! ### Lehmer's steps -/
/-- What Euclid's steps on first bits come to. -/
structure LS (x0 y0 s x y u1 u2 v1 v2 : Int) : Prop where
  hs : s = 1 ∨ s = -1
  ex : x = s * (u1 * x0 - v1 * y0)
  ey : y = s * (v2 * y0 - u2 * x0)
  det : u1 * v2 - u2 * v1 = s
  u1n : 0 ≤ u1
  u2n : 0 ≤ u2
  v1n : 0 ≤ v1
  v2p : 1 ≤ v2
  uv2 : u2 ≤ v2
  yx : 0 ≤ y
theorem LS.first {x0 y0 : Int} (hy : 0 ≤ y0) : LS x0 y0 1 x0 y0 1 0 0 1 := ⟨.inl rfl, by grind, by grind, by grind, by decide, by decide, by decide, by decide, by decide, hy⟩
theorem LS.whole {x0 y0 s x y u1 u2 v1 v2 : Int} (h : LS x0 y0 s x y u1 u2 v1 v2) : v2 * x + v1 * y = x0 := by
  have h1 := h.det
  have h2 := h.ex
  have h3 := h.ey
  rcases h.hs with rfl | rfl <;> subst h2 <;> subst h3 <;> grind
theorem LS.next {x0 y0 s x y u1 u2 v1 v2 q : Int} (h : LS x0 y0 s x y u1 u2 v1 v2) (hq : 1 ≤ q) (hr : 0 ≤ x - q * y) (hu : u1 ≤ v1 ∨ v1 = 0 ∧ u1 = 1 ∧ u2 = 0) : LS x0 y0 (-s) y (x - q * y) u2 (u1 + q * u2) v2 (v1 + q * v2) := by
  have h1 := h.det
  have h2 := h.ex
  have h3 := h.ey
  have h4 := h.u1n
  have h5 := h.u2n
  have h6 := h.v1n
  have h7 := h.v2p
  have h8 := h.uv2
  have qu : 0 ≤ q * u2 := Int.mul_nonneg (by omega) h5
  have qv : v2 ≤ q * v2 := by
    have := Int.mul_le_mul_of_nonneg_right hq (show 0 ≤ v2 by omega)
    omega
  have quv : q * u2 ≤ q * v2 := Int.mul_le_mul_of_nonneg_left h8 (by omega)
  refine ⟨by rcases h.hs with rfl | rfl <;> simp, ?_, ?_, ?_, h5, by omega, by omega, by omega, ?_, hr⟩
  · rcases h.hs with rfl | rfl <;> subst h3 <;> grind
  · rcases h.hs with rfl | rfl <;> subst h3 <;> subst h2 <;> grind
  · rcases h.hs with rfl | rfl <;> grind
  · rcases hu with hu | ⟨e1, e2, e3⟩
    · omega
    · subst e1; subst e2; subst e3
      omega
/-- Both are as Euclid's own, where the first bits are far enough apart. -/
theorem LS.good {x0 y0 s x y u1 u2 v1 v2 a b P a' b' : Int} (h : LS x0 y0 s x y u1 u2 v1 v2) (hu : u1 ≤ v1) (hP : 0 ≤ P) (ha : a = x0 * P + a') (hb : b = y0 * P + b') (ha0 : 0 ≤ a') (ha1 : a' ≤ P) (hb0 : 0 ≤ b') (hb1 : b' ≤ P) (hy : v2 ≤ y) (hx : y + v1 + v2 ≤ x) :
    0 ≤ s * (v2 * b - u2 * a) ∧ s * (v2 * b - u2 * a) ≤ s * (u1 * a - v1 * b) := by
  have h2 := h.ex
  have h3 := h.ey
  have h4 := h.u1n
  have h5 := h.u2n
  have h6 := h.v1n
  have h7 := h.v2p
  have h8 := h.uv2
  have eB : s * (v2 * b - u2 * a) = y * P + s * (v2 * b' - u2 * a') := by rw [h3, ha, hb]; grind
  have eA : s * (u1 * a - v1 * b) = x * P + s * (u1 * a' - v1 * b') := by rw [h2, ha, hb]; grind
  have m1 : v2 * b' ≤ v2 * P := Int.mul_le_mul_of_nonneg_left hb1 (by omega)
  have m2 : u2 * a' ≤ v2 * P := Int.le_trans (Int.mul_le_mul_of_nonneg_left ha1 h5) (Int.mul_le_mul_of_nonneg_right h8 hP)
  have m3 : v1 * b' ≤ v1 * P := Int.mul_le_mul_of_nonneg_left hb1 h6
  have m4 : u1 * a' ≤ v1 * P := Int.le_trans (Int.mul_le_mul_of_nonneg_left ha1 h4) (Int.mul_le_mul_of_nonneg_right hu hP)
  have n1 : 0 ≤ v2 * b' := Int.mul_nonneg (by omega) hb0
  have n2 : 0 ≤ u2 * a' := Int.mul_nonneg h5 ha0
  have n3 : 0 ≤ v1 * b' := Int.mul_nonneg h6 hb0
  have n4 : 0 ≤ u1 * a' := Int.mul_nonneg h4 ha0
  have k1 : v2 * P ≤ y * P := Int.mul_le_mul_of_nonneg_right hy hP
  have k2 : (y + v1 + v2) * P ≤ x * P := Int.mul_le_mul_of_nonneg_right hx hP
  rw [Int.add_mul, Int.add_mul] at k2
  rw [eA, eB]
  rcases h.hs with rfl | rfl
  · constructor <;> omega
  · constructor <;> omega
/-- How both come out of their answers. -/
theorem LS.back {x0 y0 s x y u1 u2 v1 v2 a b A B : Int} (h : LS x0 y0 s x y u1 u2 v1 v2) (hA : A = s * (u1 * a - v1 * b)) (hB : B = s * (v2 * b - u2 * a)) : a = v2 * A + v1 * B ∧ b = u2 * A + u1 * B := by
  have h1 := h.det
  rcases h.hs with rfl | rfl <;> subst hA <;> subst hB <;> constructor <;> grind
theorem gcd_lin {a b A B : Nat} {s u1 u2 v1 v2 : Int} (hA : (A : Int) = s * (u1 * a - v1 * b)) (hB : (B : Int) = s * (v2 * b - u2 * a)) (ha : (a : Int) = v2 * A + v1 * B) (hb : (b : Int) = u2 * A + u1 * B) : Nat.gcd A B = Nat.gcd a b := by
  refine Nat.dvd_antisymm (Nat.dvd_gcd ?_ ?_) (Nat.dvd_gcd ?_ ?_)
  · have h1 : ((Nat.gcd A B : Nat) : Int) ∣ (a : Int) := by
      rw [ha]
      exact Int.dvd_add (Int.dvd_mul_of_dvd_right (Int.natCast_dvd_natCast.2 (Nat.gcd_dvd_left A B))) (Int.dvd_mul_of_dvd_right (Int.natCast_dvd_natCast.2 (Nat.gcd_dvd_right A B)))
    exact Int.natCast_dvd_natCast.1 h1
  · have h1 : ((Nat.gcd A B : Nat) : Int) ∣ (b : Int) := by
      rw [hb]
      exact Int.dvd_add (Int.dvd_mul_of_dvd_right (Int.natCast_dvd_natCast.2 (Nat.gcd_dvd_left A B))) (Int.dvd_mul_of_dvd_right (Int.natCast_dvd_natCast.2 (Nat.gcd_dvd_right A B)))
    exact Int.natCast_dvd_natCast.1 h1
  · have h1 : ((Nat.gcd a b : Nat) : Int) ∣ (A : Int) := by
      rw [hA]
      exact Int.dvd_mul_of_dvd_right (Int.dvd_sub (Int.dvd_mul_of_dvd_right (Int.natCast_dvd_natCast.2 (Nat.gcd_dvd_left a b))) (Int.dvd_mul_of_dvd_right (Int.natCast_dvd_natCast.2 (Nat.gcd_dvd_right a b))))
    exact Int.natCast_dvd_natCast.1 h1
  · have h1 : ((Nat.gcd a b : Nat) : Int) ∣ (B : Int) := by
      rw [hB]
      exact Int.dvd_mul_of_dvd_right (Int.dvd_sub (Int.dvd_mul_of_dvd_right (Int.natCast_dvd_natCast.2 (Nat.gcd_dvd_right a b))) (Int.dvd_mul_of_dvd_right (Int.natCast_dvd_natCast.2 (Nat.gcd_dvd_left a b))))
    exact Int.natCast_dvd_natCast.1 h1
theorem gcd_step {a b : Nat} : Nat.gcd b (a % b) = Nat.gcd a b := by
  rw [Nat.gcd_comm a b, Nat.gcd_rec b a, Nat.gcd_comm]
end Go.Proofs.Ytghhanifakllpaa

/- Words in the clean executor: numbers of 32 and 64 bits, types, words in memory. -/
namespace Go.Proofs.Ytghhanifakllpaa
open Go.Clean

/-! ### Numbers of 32 and 64 bits -/
theorem w64 (n : Int) : IntKind.u64.wrap n = n % 18446744073709551616 := by simp [IntKind.wrap, IntKind.bits, IntKind.signed]
theorem w32 (n : Int) : IntKind.u32.wrap n = n % 4294967296 := by simp [IntKind.wrap, IntKind.bits, IntKind.signed]
theorem w64_nat {a : Nat} (h : a < 18446744073709551616) : IntKind.u64.wrap (a : Int) = (a : Int) := by rw [w64]; omega
theorem w64_add {a b : Nat} (h : a + b < 18446744073709551616) : IntKind.u64.wrap ((a : Int) + (b : Int)) = ((a + b : Nat) : Int) := by rw [w64]; omega
theorem w64_mul {a b : Nat} (h : a * b < 18446744073709551616) : IntKind.u64.wrap ((a : Int) * (b : Int)) = ((a * b : Nat) : Int) := by
  rw [w64, ← Int.natCast_mul]; omega
theorem w64_sub {a b : Nat} (h : b ≤ a) (ha : a < 18446744073709551616) : IntKind.u64.wrap ((a : Int) - (b : Int)) = ((a - b : Nat) : Int) := by rw [w64]; omega
section
variable {P : Program} {t : TypeId} {xo yo : Operand} {k k' : IntKind}
theorem pureV_int (n : Int) : pureV P (pure (.int k n)) = some (.int k n) := rfl
theorem bin_shift {op : BinOp} (hop : op = .shl ∨ op = .shr) (a : Int) (s : Nat) (hk : decide (k = k') = true ∨ decide (k = k') = false) : binX P op t xo yo (.int k a) (.int k' (s : Int)) = pureV P (Op.shift op k a k' (s : Int)) := by
  unfold binX
  rcases hop with rfl | rfl <;> rcases hk with h | h <;> simp only [h, cond_true, cond_false, intX] <;> rfl
theorem bin_shr (a s : Nat) : binX P .shr t xo yo (.int k (a : Int)) (.int k' (s : Int)) = some (.int k ((a / 2 ^ min s k.bits : Nat) : Int)) := by
  rw [bin_shift (.inr rfl) _ _ (by cases decide (k = k') <;> simp)]
  unfold Op.shift
  rw [if_neg (by omega)]
  show pureV P (pure (.int k ((a : Int).fdiv (2 ^ min (s : Int).toNat k.bits)))) = _
  rw [pureV_int, Int.toNat_natCast]
  congr 2
  rw [Int.fdiv_eq_ediv_of_nonneg _ (Int.pow_nonneg (by decide))]
  simp
theorem bin_shrI (a : Int) (s : Nat) : binX P .shr t xo yo (.int k a) (.int k' (s : Int)) = some (.int k (a / 2 ^ min s k.bits)) := by
  rw [bin_shift (.inr rfl) _ _ (by cases decide (k = k') <;> simp)]
  unfold Op.shift
  rw [if_neg (by omega)]
  show pureV P (pure (.int k (a.fdiv (2 ^ min (s : Int).toNat k.bits)))) = _
  rw [pureV_int, Int.toNat_natCast, Int.fdiv_eq_ediv_of_nonneg _ (Int.pow_nonneg (by decide))]
theorem bin_shl (a s : Nat) : binX P .shl t xo yo (.int k (a : Int)) (.int k' (s : Int)) = some (.int k (k.wrap ((a * 2 ^ min s k.bits : Nat) : Int))) := by
  rw [bin_shift (.inl rfl) _ _ (by cases decide (k = k') <;> simp)]
  unfold Op.shift
  rw [if_neg (by omega)]
  show pureV P (pure (.int k (k.wrap ((a : Int) * 2 ^ min (s : Int).toNat k.bits)))) = _
  rw [pureV_int, Int.toNat_natCast]
  simp
theorem bin_shr32 (a : Nat) : binX P .shr t xo yo (.int .u64 (a : Int)) (.int k' 32) = some (.int .u64 ((a / 4294967296 : Nat) : Int)) := bin_shr (k := .u64) a 32
theorem bin_shr63 (a : Nat) : binX P .shr t xo yo (.int .u64 (a : Int)) (.int k' 63) = some (.int .u64 ((a / 9223372036854775808 : Nat) : Int)) := bin_shr (k := .u64) a 63
theorem bin_shr52 (a : Nat) : binX P .shr t xo yo (.int .u64 (a : Int)) (.int k' 52) = some (.int .u64 ((a / 4503599627370496 : Nat) : Int)) := bin_shr (k := .u64) a 52
theorem bin_shl32 (a : Nat) (h : a < 4294967296) : binX P .shl t xo yo (.int .u64 (a : Int)) (.int k' 32) = some (.int .u64 ((a * 4294967296 : Nat) : Int)) := by
  have e := bin_shl (P := P) (t := t) (xo := xo) (yo := yo) (k := .u64) (k' := k') a 32
  rw [show min 32 IntKind.u64.bits = 32 from rfl, show (2 : Nat) ^ 32 = 4294967296 from rfl, w64_nat (by omega)] at e
  exact e
theorem bin_shlU (a s : Nat) (hs : s ≤ 64) (h : a * 2 ^ s < 18446744073709551616) : binX P .shl t xo yo (.int .u64 (a : Int)) (.int k' (s : Int)) = some (.int .u64 ((a * 2 ^ s : Nat) : Int)) := by
  rw [bin_shl, show min s IntKind.u64.bits = s from Nat.min_eq_left hs, w64_nat h]
theorem bin_shrU (a s : Nat) (hs : s ≤ 64) : binX P .shr t xo yo (.int .u64 (a : Int)) (.int k' (s : Int)) = some (.int .u64 ((a / 2 ^ s : Nat) : Int)) := by
  rw [bin_shr, show min s IntKind.u64.bits = s from Nat.min_eq_left hs]
theorem bin_shr32I (a : Int) : binX P .shr t xo yo (.int .i64 a) (.int k' 32) = some (.int .i64 (a / 4294967296)) := bin_shrI (k := .i64) a 32
@[simp] theorem bin_mul (a b : Int) : binX P .mul t xo yo (.int k a) (.int k b) = some (.int k (k.wrap (a * b))) := by simp [binX, intX]
theorem bin_bits {op : BinOp} (hop : op = .and ∨ op = .or) (a b : Int) : binX P op t xo yo (.int k a) (.int k b) = some (.int k (bits op k a b)) := by
  unfold binX
  rcases hop with rfl | rfl <;> simp only [decide_true, cond_true, intX] <;> cases k <;> rfl
theorem bin_or64 (a b : Nat) (h1 : a < 18446744073709551616) (h2 : b < 18446744073709551616) : binX P .or t xo yo (.int .u64 (a : Int)) (.int .u64 (b : Int)) = some (.int .u64 ((a ||| b : Nat) : Int)) := by
  rw [bin_bits (.inr rfl), u64_or_nat a b h1 h2]
theorem bin_or32 (a b : Nat) (h1 : a < 4294967296) (h2 : b < 4294967296) : binX P .or t xo yo (.int .u32 (a : Int)) (.int .u32 (b : Int)) = some (.int .u32 ((a ||| b : Nat) : Int)) := by
  rw [bin_bits (.inr rfl), u32_or_nat a b h1 h2]
theorem bin_and64 (a b : Nat) (h1 : a < 18446744073709551616) (h2 : b < 18446744073709551616) : binX P .and t xo yo (.int .u64 (a : Int)) (.int .u64 (b : Int)) = some (.int .u64 ((a &&& b : Nat) : Int)) := by
  rw [bin_bits (.inl rfl), u64_and_nat a b h1 h2]
theorem bin_quo (a b : Nat) (hb : 0 < b) (ha : a < 18446744073709551616) : binX P .quo t xo yo (.int .u64 (a : Int)) (.int .u64 (b : Int)) = some (.int .u64 ((a / b : Nat) : Int)) := by
  unfold binX
  simp only [decide_true, cond_true, intX]
  show pureV P (Op.intDiv .quo .u64 a b) = _
  unfold Op.intDiv
  rw [if_neg (by omega)]
  show pureV P (pure (.int .u64 (IntKind.u64.wrap ((a : Int).tdiv b)))) = _
  rw [pureV_int, Int.tdiv_eq_ediv_of_nonneg (by omega), ← Int.natCast_ediv, w64_nat (Nat.lt_of_le_of_lt (Nat.div_le_self _ _) ha)]
theorem bin_rem (a b : Nat) (hb : 0 < b) : binX P .rem t xo yo (.int k (a : Int)) (.int k (b : Int)) = some (.int k ((a % b : Nat) : Int)) := by
  unfold binX
  simp only [decide_true, cond_true, intX]
  have e : binOp .rem t (.int k (a : Int)) (.int k (b : Int)) = Op.intDiv .rem k a b := by cases k <;> rfl
  rw [e]
  unfold Op.intDiv
  rw [if_neg (by omega)]
  show pureV P (pure (.int k ((a : Int).tmod b))) = _
  rw [pureV_int, Int.tmod_eq_emod_of_nonneg (by omega), ← Int.natCast_emod]
theorem bin_quo32 (a : Nat) (ha : a < 4611686018427387904) : binX P .quo t xo yo (.int .i64 (a : Int)) (.int .i64 32) = some (.int .i64 ((a / 32 : Nat) : Int)) := by
  unfold binX
  simp only [decide_true, cond_true, intX]
  show pureV P (Op.intDiv .quo .i64 a 32) = _
  unfold Op.intDiv
  rw [if_neg (by omega)]
  show pureV P (pure (.int .i64 (IntKind.i64.wrap ((a : Int).tdiv 32)))) = _
  rw [pureV_int, Int.tdiv_eq_ediv_of_nonneg (by omega), show ((a : Int) / 32) = ((a / 32 : Nat) : Int) from (Int.natCast_ediv a 32).symm]
  have := wrap_add (a / 32) 0 (by omega)
  simp at this ⊢
  exact this
theorem bin_rem32 (a : Nat) : binX P .rem t xo yo (.int .i64 (a : Int)) (.int .i64 32) = some (.int .i64 ((a % 32 : Nat) : Int)) := bin_rem a 32 (by decide)
end
/-- Bits beside bits are a sum. -/
theorem or_add (a b s : Nat) (hb : b < 2 ^ s) : (a * 2 ^ s) ||| b = a * 2 ^ s + b := by
  rw [Nat.mul_comm, Nat.two_pow_add_eq_or_of_lt hb]
theorem or_add' (a b s : Nat) (hb : b < 2 ^ s) : b ||| (a * 2 ^ s) = b + a * 2 ^ s := by
  rw [Nat.or_comm, or_add a b s hb, Nat.add_comm]
section
theorem cv64_32 (a : Nat) : convX Try.prog 83 113 (.int .u64 (a : Int)) = some (.int .u32 ((a % 4294967296 : Nat) : Int)) := by
  have e : convX Try.prog 83 113 (.int .u64 (a : Int)) = some (.int .u32 (IntKind.u32.wrap (a : Int))) := by kernel_rfl
  rw [e, w32]; simp
theorem cv32_64 (a : Nat) (h : a < 4294967296) : convX Try.prog 113 83 (.int .u32 (a : Int)) = some (.int .u64 (a : Int)) := by
  have e : convX Try.prog 113 83 (.int .u32 (a : Int)) = some (.int .u64 (IntKind.u64.wrap (a : Int))) := by kernel_rfl
  rw [e, w64_nat (by omega)]
end

/-! ### Types -/
section
@[simp] theorem agg_w : Clean.isAgg Try.prog 113 = some false := by kernel_rfl
@[simp] theorem size_w : sizeT Try.prog 113 = some 1 := by kernel_rfl
@[simp] theorem ld_w (cs : List Value) (o : Nat) : ldX Try.prog 113 cs o = cs[o]? := ld_one agg_w cs o
@[simp] theorem sto_w (v : Value) : storeOK Try.prog 113 v = (1 == (cellsV v).length && (cellsV v).all oneV) := by unfold storeOK; rw [size_w]; rfl
@[simp] theorem agg_W : Clean.isAgg Try.prog 52 = some false := by kernel_rfl
@[simp] theorem size_W : sizeT Try.prog 52 = some 1 := by kernel_rfl
@[simp] theorem ld_W (cs : List Value) (o : Nat) : ldX Try.prog 52 cs o = cs[o]? := ld_one agg_W cs o
@[simp] theorem sto_W (v : Value) : storeOK Try.prog 52 v = (1 == (cellsV v).length && (cellsV v).all oneV) := by unfold storeOK; rw [size_W]; rfl
theorem under_W : Try.prog.underlying 52 = some (.slice 113) := by kernel_rfl
@[simp] theorem len_W (a : Option Addr) (n c : Nat) : lenX Try.prog 52 (.slice a n c) = some (.int .i64 n) := len_slice under_W a n c
theorem idx_W (b o n c k : Nat) (q : IntKind) (hk : k < n) : indexAddrX Try.prog 52 (.slice (some ⟨b, o, none⟩) n c) (.int q (k : Int)) = some (.pointer (some ⟨b, o + k, none⟩)) := index_slice under_W size_w b o n c k q hk
end
end Go.Proofs.Ytghhanifakllpaa

/- Words in the clean executor: words in memory, trimmed, copied, out of numbers, held against each other. -/
namespace Go.Proofs.Ytghhanifakllpaa
open Go.Clean

/-! ### Simp goes no deeper than it must -/
section
variable {P : Program} {call : Caller} {m : Mem}
@[congr] theorem optQ_congr {α : Type} {o o' : Option α} {k : α → Prop} (h : o = o') : optQ o k = optQ o' k := by rw [h]
@[congr] theorem pickQ_congr {o o' a a' b b' : Option Value} {k : Value → Prop} (h : o = o') (ha : a = a') (hb : b = b') : pickQ o a b k = pickQ o' a' b' k := by rw [h, ha, hb]
@[congr] theorem gives_congr {α : Type} {f : M α} {Q : α → Mem → Prop} : Gives f m Q = Gives f m Q := rfl
@[congr] theorem condQ_congr {o o' : Option Value} {a b : Code} {fr : Fr} {Q : CQ} (h : o = o') : condQ P call o a b fr m Q = condQ P call o' a b fr m Q := by rw [h]
end
def sRn : Nat → Code → Code
  | 0, c => c
  | n + 1, c => sRn n (sR c)
def boolOf : Value → Option Bool
  | .bool b => some b
  | _ => none
theorem boolOf_bool (b : Bool) : boolOf (.bool b) = some b := by simp [boolOf]
/-- A loop, with what holds behind it. -/
theorem code_loop_post {P : Program} {call : Caller} {c : Code} {fr : Fr} {m : Mem} {Q : CQ} (R : CQ) (I : Nat → Fr → Mem → Prop) (k : Nat) (hk : k < 4000000) (h0 : I k fr m) (hstep : ∀ k fr m, I k fr m → Gives (codeX P call c fr) m (loopQ I k R)) (hR : ∀ r m', R r m' → Q r m') : Gives (codeX P call (.loop c) fr) m Q :=
  (code_loop I k hk h0 hstep).mono hR
@[simp] theorem nd_slice {d : Option Tmp} {ty : TypeId} {pos : String} {af : Array Edge} {g : Option (Nat × Bool)} (t : TypeId) (x : Operand) (lo hi mx : Option Operand) : isDefer ⟨d, .slice t x lo hi mx, ty, pos, af, g⟩ = false := by cases d <;> rfl
@[simp] theorem one_int (q : IntKind) (n : Int) : oneV (.int q n) = true := by cases q <;> rfl
@[simp] theorem cells_int (q : IntKind) (n : Int) : cellsV (.int q n) = [.int q n] := by cases q <;> rfl

/-! ### Words in memory -/
def wc (l : List Nat) : List Value := l.map fun x => .int .u32 ((x : Nat) : Int)
theorem wc_len (l : List Nat) : (wc l).length = l.length := by simp [wc]
theorem wc_get {l : List Nat} {i : Nat} (hi : i < l.length) : (wc l)[i]? = some (.int .u32 ((wat l i : Nat) : Int)) := by
  simp [wc, wat, List.getD, hi]
theorem wc_set (l : List Nat) (i x : Nat) : (wc l).set i (.int .u32 (x : Int)) = wc (l.set i x) := by
  unfold wc; rw [List.map_set]
theorem wc_one (l : List Nat) : (wc l).all oneV = true := by
  rw [List.all_eq_true]
  intro v hv
  obtain ⟨x, _, rfl⟩ := List.mem_map.1 hv
  simp
/-- All cells hold whole numbers of the language. -/
def intsOnly (cs : List Value) : Prop := ∀ c ∈ cs, ∃ k n, c = .int k n
theorem wc_ints (l : List Nat) : intsOnly (wc l) := fun c hc => by
  obtain ⟨x, _, rfl⟩ := List.mem_map.1 hc
  exact ⟨_, _, rfl⟩
structure WL (m : Mem) (v : Value) (l : List Nat) : Prop where
  wd : Wd l
  lie : (l = [] ∧ v = .slice none 0 0) ∨ ∃ b o k x, v = .slice (some ⟨b, o, none⟩) l.length k ∧ l.length ≤ k ∧ m.at b = some x ∧ x.sz = 1 ∧ (x.grow = false ∧ intsOnly x.cells) ∧ ∀ i, i < l.length → x.cells[o + i]? = some (.int .u32 ((wat l i : Nat) : Int))
theorem WL.val {m : Mem} {v : Value} {l : List Nat} (h : WL m v l) : ∃ a k, v = .slice a l.length k := by
  rcases h.lie with ⟨rfl, rfl⟩ | ⟨b, o, k, x, rfl, _⟩
  · exact ⟨_, _, rfl⟩
  · exact ⟨_, _, rfl⟩
theorem WL.len {m : Mem} {v : Value} {l : List Nat} (h : WL m v l) : lenX Try.prog 52 v = some (.int .i64 l.length) := by
  obtain ⟨a, k, rfl⟩ := h.val
  exact len_W _ _ _
theorem WL.get {m : Mem} {v : Value} {l : List Nat} (h : WL m v l) (h0 : 0 < l.length) : ∃ b o k x, v = .slice (some ⟨b, o, none⟩) l.length k ∧ l.length ≤ k ∧ m.at b = some x ∧ x.sz = 1 ∧ (x.grow = false ∧ intsOnly x.cells) ∧ ∀ i, i < l.length → x.cells[o + i]? = some (.int .u32 ((wat l i : Nat) : Int)) := by
  rcases h.lie with ⟨rfl, rfl⟩ | h
  · simp at h0
  · exact h
theorem WL.keep {m m' : Mem} {v : Value} {l : List Nat} (h : WL m v l) (e : ∀ b x, m.at b = some x → m'.at b = some x) : WL m' v l := by
  refine ⟨h.wd, ?_⟩
  rcases h.lie with h | ⟨b, o, k, x, h1, h2, h3, h4⟩
  · exact .inl h
  · exact .inr ⟨b, o, k, x, h1, h2, e b x h3, h4⟩
theorem WL.up {m m' : Mem} {v : Value} {l : List Nat} (h : WL m v l) (hw : WF m) (u : Up m m') : WL m' v l := h.keep fun b x hb => u.at hb hw
theorem WL.only {m m' : Mem} {v : Value} {l : List Nat} (h : WL m v l) (u : Only m m') : WL m' v l := h.keep fun b x hb => by rw [u.2]; exact hb
theorem WL.nil (m : Mem) : WL m (.slice none 0 0) [] := ⟨Wd.nil, .inl ⟨rfl, rfl⟩⟩
theorem WL.own {m : Mem} {b : Nat} {l : List Nat} (hb : m.at b = some ⟨wc l, 1, false, false⟩) (hd : Wd l) : WL m (.slice (some ⟨b, 0, none⟩) l.length l.length) l :=
  ⟨hd, .inr ⟨b, 0, _, _, rfl, Nat.le_refl _, hb, rfl, ⟨rfl, wc_ints l⟩, fun i hi => by rw [Nat.zero_add]; exact wc_get hi⟩⟩
theorem Only.rd' (m : Mem) (b : Nat) : Only m (m.rd b) := ⟨by simp, fun c => by simp⟩
section
variable {m : Mem} {Q : Value → Mem → Prop}
theorem gives_cut {b o len cap k : Nat} {q : IntKind} {x : Blk} (hb : m.at b = some x) (hs : x.sz = 1) (hk : k ≤ cap) (h : Q (.slice (some ⟨b, o, none⟩) k cap) (m.rd b)) :
    Gives (sliceX Try.prog 52 (.slice (some ⟨b, o, none⟩) len cap) none (some (.int q k)) none) m Q := by
  unfold sliceX
  simp only [under_W, size_w]
  rw [gives_bind, gives_getB, hb, optQ_some, gives_bind, gives_guard]
  refine ⟨by rw [hs]; rfl, ?_⟩
  have e1 : boundX (some (Value.int q (k : Int))) len cap = some k := by
    show (bif decide (0 ≤ (k : Int) ∧ (k : Int) ≤ (cap : Int)) then some (Int.toNat (k : Int)) else none) = some k
    have : decide (0 ≤ (k : Int) ∧ (k : Int) ≤ (cap : Int)) = true := by simp; omega
    rw [this]; simp
  have e2 : boundX none 0 k = some 0 := rfl
  simp only [e1, e2, Nat.zero_mul, Nat.add_zero, Nat.sub_zero, beq_self_eq_true, Bool.or_true, Bool.true_or, cond_true]
  rw [gives_ret]
  cases hc : cap == 0 <;> exact h
theorem gives_cut0 {q : IntKind} (h : Q (.slice none 0 0) m) : Gives (sliceX Try.prog 52 (.slice none 0 0) none (some (.int q 0)) none) m Q := by
  unfold sliceX
  simp only [under_W, size_w]
  exact (gives_ret _ _ _).2 h
end
theorem WL.cut {m m' : Mem} {b o k n : Nat} {l : List Nat} (h : WL m (.slice (some ⟨b, o, none⟩) l.length k) l) (e : ∀ b x, m.at b = some x → m'.at b = some x) (hn : n ≤ l.length) : WL m' (.slice (some ⟨b, o, none⟩) n k) (l.take n) := by
  have hlen : (l.take n).length = n := by simp; omega
  refine ⟨h.wd.take n, .inr ?_⟩
  rcases h.lie with ⟨_, h1⟩ | ⟨b', o', k', x, h1, h2, h3, h4, h5, h6⟩
  · cases h1
  · cases h1
    refine ⟨b, o, k, x, by rw [hlen], by rw [hlen]; omega, e b x h3, h4, h5, fun i hi => ?_⟩
    rw [hlen] at hi
    rw [h6 i (by omega)]
    simp [wat, List.getD, List.getElem?_take, hi]
theorem wrap_prd (k : Nat) (h0 : 0 < k) (h : k < 4611686018427387904) : IntKind.i64.wrap ((k : Int) - 1) = ((k - 1 : Nat) : Int) := by
  have := wrap_add (k - 1) 0 (by omega)
  rw [show ((k : Int) - 1) = ((k - 1 : Nat) : Int) + ((0 : Nat) : Int) by omega]
  rw [this]; rfl
section
set_option maxRecDepth 10000
def trI (m : Mem) (v : Value) (l : List Nat) (q : Nat) (fr : Fr) (m' : Mem) : Prop := q ≤ l.length ∧ trimN l l.length = trimN l q ∧ fr.n = 21 ∧ fr.d = [] ∧ fr.at 0 = v ∧ fr.at 3 = .int .i64 (q : Nat) ∧ Only m m'
theorem trim_ok (n : Nat) {m : Mem} {v : Value} {l : List Nat} (h : WL m v l) (hl : l.length < 1000000) {Q : Value → Mem → Prop} (hQ : ∀ m' v', Only m m' → WL m' v' (trimL l) → Q v' m') :
    Gives (callN Try.prog kn1 (n + 1) 82 [v]) m Q := by
  refine gives_fn (nt := 21) rfl Try.func82 rfl rfl rfl (Nat.le_of_ble_eq_true rfl) fun fr hn hd hargs => ?_
  have h0 : fr.at 0 = _ := hargs 0 _ rfl
  clear hargs
  simp [h0, hn, h.len]
  refine code_loop (trI m v l) l.length (by omega) ⟨Nat.le_refl _, rfl, by simp [hn], by simp [hd], by simp [h0], by simp, Only.refl m⟩ ?_
  clear hn hd h0
  rintro q fr m' ⟨hq, htr, hn, hd, h0, h3, ho⟩
  by_cases hq0 : 0 < q
  · obtain ⟨b, o, k, x, hv, hk, hb, hs, hg, hx⟩ := (h.only ho).get (by omega)
    have hwq := wrap_prd q hq0 (by omega)
    obtain ⟨q1, hq1⟩ : ∃ q1, q1 = q - 1 := ⟨_, rfl⟩
    rw [← hq1] at hwq
    have hx1 := hx q1 (by omega)
    rw [hv] at h0
    by_cases hz : wat l q1 = 0
    · rw [hz] at hx1
      simp at hx1
      simp [hn, h0, h3, hq0, hwq, idx_W _ _ _ _ _ _ (show q1 < l.length by omega), hb, hx1, yieldX, boolOf_bool]
      refine ⟨q1, by omega, by omega, ?_, by simp [hn], by simp [hd], by simp [h0, hv], by simp, ho.trans (Only.rd' _ _)⟩
      rw [htr, show q = q1 + 1 by omega]
      show (if wat l q1 = 0 then trimN l q1 else q1 + 1) = _
      rw [if_pos hz]
    · simp [hn, h0, h3, hq0, hwq, idx_W _ _ _ _ _ _ (show q1 < l.length by omega), hb, hx1, hz, yieldX, boolOf_bool]
      have ht : trimN l l.length = q := by
        rw [htr, show q = q1 + 1 by omega]
        show (if wat l q1 = 0 then trimN l q1 else q1 + 1) = _
        rw [if_neg hz]
      refine gives_cut (by simpa using hb) hs (by omega) ?_
      simp [hn, hd]
      refine hQ _ _ (ho.trans ((Only.rd' _ _).trans (Only.rd' _ _))) ?_
      have hw := (h.only ho)
      rw [hv] at hw
      have := hw.cut (n := q) (m' := (m'.rd b).rd b) (fun c y hc => by simpa using hc) hq
      unfold trimL
      rw [ht]
      exact this
  · obtain rfl : q = 0 := by omega
    simp [hn, h0, h3, yieldX, boolOf_bool]
    have ht : trimN l l.length = 0 := htr
    rcases (h.only ho).lie with ⟨hl0, hv⟩ | ⟨b, o, k, x, hv, hk, hb, hs, hg, hx⟩
    · rw [hv]
      refine gives_cut0 ?_
      simp [hn, hd]
      refine hQ _ _ ho ?_
      rw [hl0]
      exact WL.nil _
    · rw [hv]
      refine gives_cut (k := 0) hb hs (by omega) ?_
      simp [hn, hd]
      refine hQ _ _ (ho.trans (Only.rd' _ _)) ?_
      have hw := (h.only ho)
      rw [hv] at hw
      have := hw.cut (n := 0) (m' := m'.rd b) (fun c y hc => by simpa using hc) (by omega)
      unfold trimL
      rw [ht]
      exact this
end
end Go.Proofs.Ytghhanifakllpaa

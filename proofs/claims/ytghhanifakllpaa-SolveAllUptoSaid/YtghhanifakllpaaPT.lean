/- Plain: which floats are finite, the document's way and the program's. No program in sight. -/
import Derived.Test.YtghhanifakllpaaZY
namespace Go.Proofs.Ytghhanifakllpaa
open Go.Clean Ieee

theorem cmp_le {a b : Int} (h : a ≤ b) : (compare a b == Ordering.gt) = false := by
  show (compareOfLessAndEq a b == Ordering.gt) = false
  unfold compareOfLessAndEq
  by_cases h1 : a < b
  · rw [if_pos h1]; rfl
  · rw [if_neg h1, if_pos (by omega)]; rfl
theorem cmp_ge {a b : Int} (h : b ≤ a) : (compare a b == Ordering.lt) = false := by
  show (compareOfLessAndEq a b == Ordering.lt) = false
  unfold compareOfLessAndEq
  rw [if_neg (by omega)]
  by_cases h1 : a = b
  · rw [if_pos h1]; rfl
  · rw [if_neg h1]; rfl
/-- A word that is no NaN stands for an infinity or for a number of 53 digits at the most. -/
theorem read_kind (b : Nat) : (double.read b).isNaN = true ∨ (∃ s, double.read b = .infinity s) ∨ ∃ s m p, double.read b = .number s m p ∧ m < 9007199254740992 ∧ -1074 ≤ p ∧ p ≤ 971 := by
  have h1 : double.signWeight = 9223372036854775808 := by decide
  have h2 : double.infRung = 9218868437227405312 := by decide
  have h3 : double.binade = 4503599627370496 := by decide
  have h4 : double.leastPlace = -1074 := by decide
  unfold Format.read
  simp only [h1, h2, h3, h4]
  split
  · exact .inr (.inr ⟨_, _, _, rfl, by omega, by omega, by omega⟩)
  · split
    · exact .inr (.inr ⟨_, _, _, rfl, by omega, by omega, by omega⟩)
    · split
      · exact .inr (.inl ⟨_, rfl⟩)
      · exact .inl rfl
theorem read_abs (b : Nat) : double.read (b % 9223372036854775808) = match double.read b with
    | .number _ m p => .number false m p
    | .infinity _ => .infinity false
    | .nan _ t => .nan false t := by
  have h1 : double.signWeight = 9223372036854775808 := by decide
  unfold Format.read
  simp only [h1, Nat.mod_mod]
  have hs : (b % 9223372036854775808 / 9223372036854775808 % 2 == 1) = false := by
    have : b % 9223372036854775808 / 9223372036854775808 = 0 := Nat.div_eq_of_lt (Nat.mod_lt _ (by decide))
    rw [this]; rfl
  rw [hs]
  split
  · rfl
  · split
    · rfl
    · split <;> rfl
theorem read_big : double.read 9218868437227405311 = .number false 9007199254740991 971 := by decide
theorem read_low : double.read 18442240474082181119 = .number true 9007199254740991 971 := by decide
theorem signed_abs (s : Bool) (m k : Nat) : -((m <<< k : Nat) : Int) ≤ signed s m k ∧ signed s m k ≤ ((m <<< k : Nat) : Int) := by
  unfold signed
  generalize m <<< k = z
  cases s
  · simp only [Bool.false_eq_true, if_false]; omega
  · simp only [if_true]; omega
theorem big_up (m : Nat) (p : Int) (hm : m < 9007199254740992) (hp : p ≤ 971) : ((m <<< (p - min p 971).toNat : Nat) : Int) ≤ ((9007199254740991 <<< (971 - min p 971).toNat : Nat) : Int) := by
  have e : min p 971 = p := by omega
  rw [e, Int.sub_self]
  have h : m <<< (0 : Int).toNat = m := by simp
  rw [h]
  have : 9007199254740991 ≤ 9007199254740991 <<< (971 - p).toNat := by
    rw [Nat.shiftLeft_eq]
    exact Nat.le_mul_of_pos_right _ (Nat.two_pow_pos _)
  omega
/-- The document's way: neither nothing nor endless. -/
theorem fin_doc (b : Nat) (hb : isNo b = false) : ffin (some b) = !(double.order b 9218868437227405311 == some .gt || double.order b 18442240474082181119 == some .lt) := by
  have e : ffin (some b) = (double.order (b % 9223372036854775808) 9218868437227405311 == some .lt || double.order (b % 9223372036854775808) 9218868437227405311 == some .eq) := rfl
  rw [e]
  unfold Format.order
  rw [read_abs, read_big, read_low]
  rcases read_kind b with h | ⟨s, h⟩ | ⟨s, m, p, h, hm, hp1, hp2⟩
  · exact absurd hb (by rw [show isNo b = true from h]; simp)
  · rw [h]; cases s <;> rfl
  · rw [h]
    have hb := big_up m p hm hp2
    obtain ⟨h3, h4⟩ := signed_abs s m (p - min p 971).toNat
    have h5 : signed false m (p - min p 971).toNat = ((m <<< (p - min p 971).toNat : Nat) : Int) := rfl
    have h6 : signed false 9007199254740991 (971 - min p 971).toNat = ((9007199254740991 <<< (971 - min p 971).toNat : Nat) : Int) := rfl
    have h7 : signed true 9007199254740991 (971 - min p 971).toNat = -((9007199254740991 <<< (971 - min p 971).toNat : Nat) : Int) := rfl
    show (some (compare (signed false m (p - min p 971).toNat) (signed false 9007199254740991 (971 - min p 971).toNat)) == some .lt || some (compare (signed false m (p - min p 971).toNat) (signed false 9007199254740991 (971 - min p 971).toNat)) == some .eq) = !(some (compare (signed s m (p - min p 971).toNat) (signed false 9007199254740991 (971 - min p 971).toNat)) == some .gt || some (compare (signed s m (p - min p 971).toNat) (signed true 9007199254740991 (971 - min p 971).toNat)) == some .lt)
    have g1 := cmp_le (a := signed s m (p - min p 971).toNat) (b := signed false 9007199254740991 (971 - min p 971).toNat) (by rw [h6]; omega)
    have g2 := cmp_ge (a := signed s m (p - min p 971).toNat) (b := signed true 9007199254740991 (971 - min p 971).toNat) (by rw [h7]; omega)
    have g3 := cmp_le (a := signed false m (p - min p 971).toNat) (b := signed false 9007199254740991 (971 - min p 971).toNat) (by rw [h5, h6]; exact hb)
    generalize compare (signed s m (p - min p 971).toNat) (signed false 9007199254740991 (971 - min p 971).toNat) = c1 at g1 ⊢
    generalize compare (signed s m (p - min p 971).toNat) (signed true 9007199254740991 (971 - min p 971).toNat) = c2 at g2 ⊢
    generalize compare (signed false m (p - min p 971).toNat) (signed false 9007199254740991 (971 - min p 971).toNat) = c3 at g3 ⊢
    cases c1 <;> cases c2 <;> cases c3 <;> first | rfl | (cases g1; done) | (cases g2; done) | (cases g3; done)
theorem ffin_no {b : Nat} (hb : isNo b = true) : ffin (some b) = false := by
  show (double.order (b % 9223372036854775808) 9218868437227405311 == some .lt || double.order (b % 9223372036854775808) 9218868437227405311 == some .eq) = false
  unfold Format.order
  rw [order_nan_left (x := double.read (b % 9223372036854775808)) (show isNo (b % 9223372036854775808) = true by rw [isNo_mod]; exact hb)]
  rfl
theorem ffin_clr (x : F) : ffin (clr x) = ffin x := by
  cases x with
  | none => rw [clr_none]
  | some b =>
    rw [clr_some]
    cases hb : isNo b with
    | true => rw [fl_no hb, ffin_no hb]; rfl
    | false => rw [fl_yes hb]
theorem clr_clr (x : F) : clr (clr x) = clr x := by unfold clr; rw [show fl (cOf x) = clr x from rfl, cOf_clr]; rfl
theorem fdiv_clr (x y : F) : fdiv (clr x) (clr y) = fdiv x y := f2_clr (fun a b h => by simp [Format.div, quotient_nan_left (show (double.read a).isNaN = true from h)]) (fun a b h => by simp [Format.div, quotient_nan_right (show (double.read b).isNaN = true from h)]) x y
theorem fmul_clr (x y : F) : fmul (clr x) (clr y) = fmul x y := f2_clr (fun a b h => by simp [Format.mul, product_nan_left (show (double.read a).isNaN = true from h)]) (fun a b h => by simp [Format.mul, product_nan_right (show (double.read b).isNaN = true from h)]) x y
theorem fsub_clr (x y : F) : fsub (clr x) (clr y) = fsub x y := f2_clr (fun a b h => by simp [Format.sub, sum_nan_left (show (double.read a).isNaN = true from h)]) (fun a b h => by simp [Format.sub, sum_nan_right (show (double.read b).opposite.isNaN = true from opposite_nan.trans h)]) x y
theorem fless_clr (x y z : F) : fless (clr x) (clr y) (clr z) = fless x y z := by
  unfold fless
  rw [fmul_clr, ← fsub_clr (clr x) (fmul y z), clr_clr, fsub_clr]
theorem canon_cOf (x : F) : canon (cOf x) = cOf x := by
  rw [← cOf_fl]
  exact cOf_clr x
theorem canon_abs (x : F) : canon (cOf x % 9223372036854775808) = cOf (fabs x) := by
  cases x with
  | none => decide
  | some b =>
    show canon (canon b % 9223372036854775808) = canon (b % 9223372036854775808)
    cases hb : isNo b with
    | true =>
      rw [canon_no hb, canon_no (show isNo (b % 9223372036854775808) = true by rw [isNo_mod]; exact hb)]
      decide
    | false => rw [canon_yes hb]
end Go.Proofs.Ytghhanifakllpaa

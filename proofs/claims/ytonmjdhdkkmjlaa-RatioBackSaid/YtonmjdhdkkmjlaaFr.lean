/- Plain: fractions of small polynomials of whole complex numbers: leading numbers, slopes, how great all comes to be. No program in sight. -/
import Derived.Test.YtonmjdhdkkmjlaaBo
set_option linter.unusedVariables false
set_option linter.unusedSimpArgs false
namespace Go.Proofs.Ytonmjdhdkkmjlaa

theorem sq_sum_no {a b : Int} (h : a * a + b * b = 0) : a = 0 ∧ b = 0 := by
  have h1 := sq_nonneg a
  have h2 := sq_nonneg b
  have e1 : a * a = 0 := by omega
  have e2 : b * b = 0 := by omega
  exact ⟨by rcases Int.mul_eq_zero.1 e1 with h | h <;> exact h, by rcases Int.mul_eq_zero.1 e2 with h | h <;> exact h⟩
theorem gmul_no {x y : G} (h : gmul x y = g0) : x = g0 ∨ y = g0 := by
  have h1 : x.1 * y.1 - x.2 * y.2 = 0 := congrArg Prod.fst h
  have h2 : x.1 * y.2 + x.2 * y.1 = 0 := congrArg Prod.snd h
  have e : (x.1 * x.1 + x.2 * x.2) * (y.1 * y.1 + y.2 * y.2) = (x.1 * y.1 - x.2 * y.2) * (x.1 * y.1 - x.2 * y.2) + (x.1 * y.2 + x.2 * y.1) * (x.1 * y.2 + x.2 * y.1) := by grind
  rw [h1, h2] at e
  rcases Int.mul_eq_zero.1 (by rw [e]; rfl) with h | h
  · exact .inl (gext (sq_sum_no h).1 (sq_sum_no h).2)
  · exact .inr (gext (sq_sum_no h).1 (sq_sum_no h).2)
/-- A product's leading number. -/
theorem cv_lead {a b : PG} {m k : Nat} (hb : Ends b (m + 1)) : cv a b (k + 1) (k + m) = gmul (a k) (b m) := by
  show gadd (cv a b k (k + m)) (gmul (a k) (up k b (k + m))) = _
  rw [cv_ends hb k (k + m) (by omega)]
  unfold up
  rw [if_pos (by omega), Nat.add_sub_cancel_left, zero_gadd]
/-- How long a product is. -/
theorem cv_len {a b : PG} {n k n' : Nat} (hn : 0 < n) (hk : 0 < k) (hb : Ends b k) (ha0 : a (n - 1) ≠ g0) (hb0 : b (k - 1) ≠ g0) (he : Ends (cv a b n) n') (hle : n' ≤ n + k - 1) : n' = n + k - 1 ∧ cv a b n (n' - 1) ≠ g0 := by
  have hl : cv a b n (n - 1 + (k - 1)) ≠ g0 := by
    have := cv_lead (a := a) (m := k - 1) (k := n - 1) (b := b) (by rw [show k - 1 + 1 = k by omega]; exact hb)
    rw [show n - 1 + 1 = n by omega] at this
    rw [this]
    exact fun h => (gmul_no h).elim ha0 hb0
  have h1 : ¬ n' ≤ n - 1 + (k - 1) := fun h => hl (he _ h)
  exact ⟨by omega, by rw [show n' - 1 = n - 1 + (k - 1) by omega]; exact hl⟩

/-! ### Slopes -/
def ks (t : Nat) : G := (((t + 1 : Nat) : Int), 0)
def sl (n : Nat) (a : PG) : PG := fun t => if t + 1 < n then gmul (a (t + 1)) (ks t) else g0
theorem sl_ends (n : Nat) (a : PG) : Ends (sl n a) (n - 1) := fun t ht => if_neg (by omega)

/-! ### How great -/
def A4 : PG := fun k => if k < 4 then (12, 0) else g0
def D4 : PG := fun k => if k < 4 then (36, 0) else g0
/-- A polynomial of at most four numbers. -/
structure PB (a A : PG) : Prop where
  ends : Ends a 4
  bn : ∀ t, BN (a t) (A t)
theorem ks_bn {t : Nat} (h : t < 3) : BN (ks t) (3, 0) := ⟨by decide, rfl, by
  unfold NB ks
  have : t = 0 ∨ t = 1 ∨ t = 2 := by omega
  rcases this with rfl | rfl | rfl <;> decide⟩
theorem PB.sl {a : PG} (h : PB a A4) {n : Nat} (hn : n ≤ 4) : PB (sl n a) D4 := by
  refine ⟨fun t ht => sl_ends n a t (by omega), fun t => ?_⟩
  unfold Ytonmjdhdkkmjlaa.sl
  split
  · have h1 := (h.bn (t + 1)).mul (ks_bn (t := t) (by omega))
    refine h1.mono ?_ ?_
    · unfold A4 D4
      rw [if_pos (by omega), if_pos (by omega)]
      decide
    · unfold D4; split <;> rfl
  · refine BN.zero' ?_ ?_ <;> (unfold D4; split <;> decide)
theorem PB.neg {a A : PG} (h : PB a A) : PB (fun t => gneg (a t)) A := ⟨fun t ht => by
  show gneg (a t) = g0
  rw [h.ends t ht]; rfl, fun t => (h.bn t).neg⟩
set_option maxRecDepth 100000
theorem rA : ∀ t, t ≤ 4 → (A4 t).1 ≤ 1048576 := by decide +kernel
theorem rD : ∀ t, t ≤ 4 → (D4 t).1 ≤ 1048576 := by decide +kernel
theorem rAA : ∀ i, i ≤ 4 → ∀ t, t ≤ 7 → (cv A4 A4 i t).1 ≤ 1000000 := by decide +kernel
theorem rAD : ∀ i, i ≤ 4 → ∀ t, t ≤ 7 → (cv A4 D4 i t).1 ≤ 1000000 := by decide +kernel
theorem rDA : ∀ i, i ≤ 4 → ∀ t, t ≤ 7 → (cv D4 A4 i t).1 ≤ 1000000 := by decide +kernel
theorem rB : ∀ n, n ≤ 4 → (hs n A4 Z12).1 ≤ 100000 := by decide +kernel
theorem rBD : ∀ n, n ≤ 4 → (hs n D4 Z12).1 ≤ 1000000 := by decide +kernel
theorem cv_cap4 {a b : PG} (h : Ends a 4) : ∀ i, 4 ≤ i → cv a b i = cv a b 4 := by
  intro i
  induction i with
  | zero => intro hi; omega
  | succ i ih =>
    intro hi
    by_cases h1 : 4 = i + 1
    · rw [h1]
    · rw [← ih (by omega)]
      funext t
      show gadd (cv a b i t) (gmul (a i) (up i b t)) = _
      rw [h i (by omega), zero_gmul, gadd_zero]
theorem cv_to4 {a b : PG} {n : Nat} (hn : n ≤ 4) (h : Ends a n) : cv a b n = cv a b 4 := by
  have : ∀ i, n ≤ i → cv a b i = cv a b n := by
    intro i
    induction i with
    | zero => intro hi; rw [show n = 0 by omega]
    | succ i ih =>
      intro hi
      by_cases h1 : n = i + 1
      · rw [h1]
      · rw [← ih (by omega)]
        funext t
        show gadd (cv a b i t) (gmul (a i) (up i b t)) = _
        rw [h i (by omega), zero_gmul, gadd_zero]
  exact (this 4 hn).symm
/-- A product's numbers. -/
theorem PB.cv {a b A B : PG} (ha : PB a A) (hb : PB b B) (h : ∀ i, i ≤ 4 → ∀ t, t ≤ 7 → (cv A B i t).1 ≤ 1000000) (i t : Nat) : BN (Ytonmjdhdkkmjlaa.cv a b i t) (1000000, 0) := by
  have key : ∀ j, j ≤ 4 → BN (Ytonmjdhdkkmjlaa.cv a b j t) (1000000, 0) := fun j hj => by
    by_cases ht : t ≤ 7
    · exact (BN.cv ha.bn hb.bn j t).mono (h j hj t ht) rfl
    · rw [cv_ends hb.ends j t (by omega)]
      exact BN.zero' (by decide) rfl
  by_cases hi : i ≤ 4
  · exact key i hi
  · rw [cv_cap4 ha.ends i (by omega)]
    exact key 4 (Nat.le_refl _)
theorem nb_of {g : G} {B C : Int} (h : BN g (B, 0)) (hBC : B ≤ C) : NB g C := h.2.2.mono h.1 hBC
end Go.Proofs.Ytonmjdhdkkmjlaa

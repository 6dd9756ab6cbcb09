/- Plain: fractions out of at most three poles at whole places: what top and slope are at the places. No program in sight. -/
import Derived.Test.YtonmjdhdkkmjlaaFr
set_option linter.unusedVariables false
set_option linter.unusedSimpArgs false
namespace Go.Proofs.Ytonmjdhdkkmjlaa

/-- All places but one. -/
def oth (zs : Nat → G) (i : Nat) : Nat → G := fun j => if j < i then zs j else zs (j + 1)
/-- One number alone. -/
def single (r : G) : PG := fun t => if t = 0 then r else g0
/-- What stands above, of i residues. -/
def tp (zs rs : Nat → G) (n : Nat) : Nat → PG
  | 0 => fun _ => g0
  | i + 1 => fun t => gadd (tp zs rs n i t) (cv (single (rs i)) (ofZ (oth zs i) (n - 1)) 1 t)
/-- How far a place is from all others. -/
def dz (zs : Nat → G) (n k : Nat) : G := hs n (ofZ (oth zs k) (n - 1)) (zs k)
theorem cv_single (r : G) (b : PG) (t : Nat) : cv (single r) b 1 t = gmul r (b t) := by
  show gadd g0 (gmul (single r 0) (up 0 b t)) = _
  rw [zero_gadd]
  rfl
theorem cv_single_all (r : G) (b : PG) (t : Nat) : ∀ i, cv (single r) b (i + 1) t = gmul r (b t)
  | 0 => cv_single r b t
  | i + 1 => by
    show gadd (cv (single r) b (i + 1) t) (gmul (single r (i + 1)) (up (i + 1) b t)) = _
    rw [cv_single_all r b t i]
    show gadd _ (gmul g0 _) = _
    rw [zero_gmul, gadd_zero]
theorem hs_single (r : G) (b : PG) (N : Nat) (w : G) : hs N (cv (single r) b 1) w = gmul r (hs N b w) := by
  have e : cv (single r) b 1 = fun t => gmul r (b t) := funext fun t => cv_single r b t
  rw [e]
  exact tl_scale r b w N 0
theorem oth_has {zs : Nat → G} {n j k : Nat} (hk : k < n) (hj : j < n) (hjk : j ≠ k) : ∃ k', k' < n - 1 ∧ oth zs j k' = zs k := by
  by_cases h : k < j
  · exact ⟨k, by omega, by unfold oth; rw [if_pos h]⟩
  · exact ⟨k - 1, by omega, by unfold oth; rw [if_neg (by omega), show k - 1 + 1 = k by omega]⟩
/-- What stands above, at a place. -/
theorem tp_at {zs rs : Nat → G} {n k : Nat} (hk : k < n) : ∀ i, i ≤ n → hs n (tp zs rs n i) (zs k) = if k < i then gmul (rs k) (dz zs n k) else g0
  | 0, _ => by
    rw [if_neg (by omega)]
    exact tl_zero fun _ _ => rfl
  | i + 1, hi => by
    have e : hs n (tp zs rs n (i + 1)) (zs k) = gadd (hs n (tp zs rs n i) (zs k)) (hs n (cv (single (rs i)) (ofZ (oth zs i) (n - 1)) 1) (zs k)) := tl_add _ _ _ _ _
    rw [e, hs_single, tp_at hk i (by omega)]
    by_cases h : k = i
    · subst h
      rw [if_neg (by omega), if_pos (by omega), zero_gadd]
      rfl
    · obtain ⟨k', h1, h2⟩ := oth_has (zs := zs) hk (show i < n by omega) (fun e => h e.symm)
      have h3 := hs_root (oth zs i) k' (n - 1) h1
      rw [show n - 1 + 1 = n by omega, h2] at h3
      rw [h3, gmul_zero, gadd_zero]
      by_cases h4 : k < i
      · rw [if_pos h4, if_pos (by omega)]
      · rw [if_neg h4, if_neg (by omega)]
theorem tp_ends (zs rs : Nat → G) (n : Nat) : ∀ k, n ≤ k → tp zs rs n n k = g0 := by
  have h : ∀ i, i ≤ n → ∀ k, n ≤ k → tp zs rs n i k = g0 := by
    intro i
    induction i with
    | zero => intro _ k _; rfl
    | succ i ih =>
      intro hi k hk
      show gadd (tp zs rs n i k) (cv (single (rs i)) (ofZ (oth zs i) (n - 1)) 1 k) = g0
      rw [ih (by omega) k hk, cv_single, ofZ_ends (oth zs i) (n - 1) k (by omega), gmul_zero]; rfl
  exact h n (Nat.le_refl n)
theorem gsub_no {x y : G} (h : gsub x y = g0) : x = y := by
  have h1 : x.1 - y.1 = 0 := congrArg Prod.fst h
  have h2 : x.2 - y.2 = 0 := congrArg Prod.snd h
  exact gext (by omega) (by omega)
theorem ofZ_no {z : Nat → G} {w : G} : ∀ n, (∀ i, i < n → z i ≠ w) → hs (n + 1) (ofZ z n) w ≠ g0
  | 0, _ => by
    show gadd (gmul g0 w) g1 ≠ g0
    rw [zero_gmul]
    decide
  | n + 1, h => by
    rw [hs_ofZ]
    intro h0
    rcases gmul_no h0 with h1 | h1
    · exact ofZ_no n (fun i hi => h i (by omega)) h1
    · exact h n (by omega) (gsub_no h1).symm
theorem dz_no {zs : Nat → G} {n k : Nat} (hk : k < n) (hd : ∀ i j, i < n → j < n → i ≠ j → zs i ≠ zs j) : dz zs n k ≠ g0 := by
  have h := ofZ_no (z := oth zs k) (w := zs k) (n - 1) (fun i hi => by
    unfold oth
    by_cases h : i < k
    · rw [if_pos h]; exact hd _ _ (by omega) hk (by omega)
    · rw [if_neg h]; exact hd _ _ (by omega) hk (by omega))
  rw [show n - 1 + 1 = n by omega] at h
  exact h
/-- The slope of what stands below, at a place. -/
theorem slope_at (zs : Nat → G) {n k : Nat} (hn : n ≤ 3) (hk : k < n) : hs n (sl (n + 1) (ofZ zs n)) (zs k) = dz zs n k := by
  have h : (n = 1 ∧ k = 0) ∨ (n = 2 ∧ k = 0) ∨ (n = 2 ∧ k = 1) ∨ (n = 3 ∧ k = 0) ∨ (n = 3 ∧ k = 1) ∨ (n = 3 ∧ k = 2) := by omega
  rcases h with ⟨rfl, rfl⟩ | ⟨rfl, rfl⟩ | ⟨rfl, rfl⟩ | ⟨rfl, rfl⟩ | ⟨rfl, rfl⟩ | ⟨rfl, rfl⟩
  all_goals
    simp [dz, hs, tl, sl, ks, ofZ, ofS, oth, Ytonmjdhdkkmjlaa.up, gadd, gsub, gmul, gneg, g0, g1]
    try grind
theorem up_len {a b : PG} {n k : Nat} (ha : Ends a n) (hb : Ends b k) : Ends (fun i => gadd (a i) (b i)) (max n k) := fun t ht => by
  show gadd (a t) (b t) = g0
  rw [ha t (by omega), hb t (by omega)]; rfl
/-- How great all is. -/
theorem of_bn {zs : Nat → G} (h : ∀ i, NB (zs i) 12) {i : Nat} (hi : i ≤ 3) (t : Nat) : BN (ofZ zs i t) (1728, 0) := by
  have hz : ∀ i, BN (zs i) (12, 0) := fun i => BN.real (by decide) (h i)
  by_cases ht : t ≤ 3
  · have h1 : ∀ i, i ≤ 3 → ∀ t, t ≤ 3 → (ofB (12, 0) i t).1 ≤ 1728 := by decide
    exact (BN.ofZ hz i t).mono (h1 i hi t ht) rfl
  · rw [ofZ_ends zs i t (by omega)]
    exact BN.zero' (by decide) rfl
theorem oth_nb {zs : Nat → G} {A : Int} (h : ∀ i, NB (zs i) A) (i j : Nat) : NB (oth zs i j) A := by
  unfold oth
  split <;> exact h _
theorem tp_bn {zs rs : Nat → G} (h : ∀ i, NB (zs i) 12) (hr : ∀ i, NB (rs i) 12) {n : Nat} (hn : n ≤ 3) (t : Nat) : ∀ i, i ≤ n → BN (tp zs rs n i t) (20736 * (i : Int), 0)
  | 0, _ => BN.zero' (by simp) rfl
  | i + 1, hi => by
    have h1 := tp_bn h hr hn t i (by omega)
    have h2 : BN (gmul (rs i) (ofZ (oth zs i) (n - 1) t)) (gmul (12, 0) (1728, 0)) := (BN.real (by decide) (hr i)).mul (of_bn (oth_nb h i) (by omega) t)
    rw [← cv_single] at h2
    refine (h1.add h2).mono ?_ rfl
    show (20736 * (i : Int)) + (12 * 1728 - 0 * 0) ≤ 20736 * ((i + 1 : Nat) : Int)
    omega
theorem cvs_far {zs : Nat → G} {r : G} (h : ∀ i, NB (zs i) 12) (hr : NB r 12) {n : Nat} (hn : n ≤ 3) (i t : Nat) : NB (cv (single r) (ofZ zs n) i t) 1099511627776 := by
  cases i with
  | zero => show NB g0 _; unfold NB; decide
  | succ i =>
    rw [cv_single_all]
    exact nb_of (((BN.real (by decide) hr).mul (of_bn h hn t)).mono (show (_ : Int) ≤ ((1099511627776 : Int), (0 : Int)).1 by decide) rfl) (Int.le_refl _)
theorem tp_bn' {zs rs : Nat → G} (h : ∀ i, NB (zs i) 12) (hr : ∀ i, NB (rs i) 12) {n : Nat} (hn : n ≤ 3) {i : Nat} (hi : i ≤ n) (t : Nat) : BN (tp zs rs n i t) (62208, 0) := by
  refine (tp_bn h hr hn t i hi).mono ?_ rfl
  show 20736 * (i : Int) ≤ 62208
  omega
theorem sl_bn' {zs : Nat → G} (h : ∀ i, NB (zs i) 12) {n : Nat} (hn : n ≤ 3) (t : Nat) : BN (sl (n + 1) (ofZ zs n) t) (5184, 0) := by
  unfold sl
  split
  · have h1 := (of_bn h hn (t + 1)).mul (ks_bn (t := t) (by omega))
    exact h1.mono (by decide) rfl
  · exact BN.zero' (by decide) rfl
theorem rC : ∀ n, n ≤ 4 → (hs n (fun _ => (62208, 0)) (12, 0)).1 ≤ 1099511627776 := by decide +kernel
theorem hs_bn {c : PG} {w : G} (hc : ∀ t, BN (c t) (62208, 0)) (hw : NB w 12) {n : Nat} (hn : n ≤ 4) : BN (hs n c w) (1099511627776, 0) := by
  have h := BN.tl (BN.real (by decide) hw) (c := c) (d := fun _ => (62208, 0)) (n := n) (i := 0) fun k _ => hc _
  exact h.mono (rC n hn) rfl
end Go.Proofs.Ytonmjdhdkkmjlaa

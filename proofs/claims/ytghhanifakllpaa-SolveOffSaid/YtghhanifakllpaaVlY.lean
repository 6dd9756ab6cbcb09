/- The law's own: small, a system of small whole numbers out of a list. -/
import Derived.Test.YtghhanifakllpaaNeY
import Derived.Test.YtghhanifakllpaaVaY
import Derived.Test.YtghhanifakllpaaBuY
set_option linter.unusedSimpArgs false
set_option linter.unusedVariables false
namespace Go.Proofs.Ytghhanifakllpaa
open Go.Clean
section
variable {m : Mem} {Q : Value → Mem → Prop}
end
/-- A list that grows, in a block of its own. -/
def Gr (m : Mem) (b : Nat) (v : Value) (l : List Value) : Prop := (l = [] ∧ v = .slice none 0 0) ∨ (l ≠ [] ∧ v = .slice (some ⟨b, 0, none⟩) l.length l.length ∧ m.at b = some ⟨l, 1, true, false⟩ ∧ b < m.next)
theorem Gr.keep {m m' : Mem} {b : Nat} {v : Value} {l : List Value} (h : Gr m b v l) (hn : m.next ≤ m'.next) (e : l ≠ [] → m'.at b = m.at b) : Gr m' b v l := by
  rcases h with h | ⟨h1, h2, h3, h4⟩
  · exact .inl h
  · exact .inr ⟨h1, h2, (e h1).trans h3, by omega⟩
/-- A list of whole numbers, maybe none. -/
def ILz (m : Mem) (v : Value) (n : Nat) (xs : Nat → Int) : Prop := ∃ a k, v = .slice a n k ∧ (n = 0 ∨ ∃ b o x, a = some ⟨b, o, none⟩ ∧ m.at b = some x ∧ ∀ i, i < n → x.cells[o + i]? = some (.int .i64 (xs i)))
theorem ILz.up {m m' : Mem} {v : Value} {n : Nat} {xs : Nat → Int} (h : ILz m v n xs) (hw : WF m) (u : Up m m') : ILz m' v n xs := by
  obtain ⟨a, k, h1, h2⟩ := h
  refine ⟨a, k, h1, ?_⟩
  rcases h2 with h2 | ⟨b, o, x, e1, e2, e3⟩
  · exact .inl h2
  · exact .inr ⟨b, o, x, e1, u.at e2 hw, e3⟩
/-- What small makes of a list: row i, place j. -/
def Kx (N : Nat) (xs : Nat → Int) (k i j : Nat) : Int := if i * (k + 1) + j < N then (xs (i * (k + 1) + j)).tmod 9 else 0
noncomputable def fiv (k : Int) : Value := .float .f64 (fi k)
noncomputable def rowL (K : Nat → Nat → Int) (i j : Nat) : List Value := (List.range j).map fun t => fiv (K i t)
noncomputable def rhsL (K : Nat → Nat → Int) (k i : Nat) : List Value := (List.range i).map fun r => fiv (K r k)
def hdC (k : Nat) (ρ : Nat → Nat) (r : Nat) : Value := .slice (some ⟨ρ r, 0, none⟩) k (k + 1)
def hdL (k : Nat) (ρ : Nat → Nat) (i : Nat) : List Value := (List.range i).map (hdC k ρ)
theorem rowL_succ (K : Nat → Nat → Int) (i j : Nat) : rowL K i j ++ [fiv (K i j)] = rowL K i (j + 1) := by unfold rowL; rw [List.range_succ, List.map_append]; rfl
theorem rhsL_succ (K : Nat → Nat → Int) (k i : Nat) : rhsL K k i ++ [fiv (K i k)] = rhsL K k (i + 1) := by unfold rhsL; rw [List.range_succ, List.map_append]; rfl
theorem hdL_succ (k : Nat) (ρ : Nat → Nat) (i b : Nat) : hdL k ρ i ++ [.slice (some ⟨b, 0, none⟩) k (k + 1)] = hdL k (fun r => if r = i then b else ρ r) (i + 1) := by
  unfold hdL
  rw [List.range_succ, List.map_append]
  refine congr (congrArg _ (List.map_congr_left fun r hr => ?_)) ?_
  · have := List.mem_range.1 hr
    unfold hdC
    dsimp only
    rw [if_neg (by omega)]
  · show [_] = [hdC k _ i]
    unfold hdC
    dsimp only
    rw [if_pos rfl]
theorem rowL_len (K : Nat → Nat → Int) (i j : Nat) : (rowL K i j).length = j := by unfold rowL; simp
theorem rhsL_len (K : Nat → Nat → Int) (k i : Nat) : (rhsL K k i).length = i := by unfold rhsL; simp
theorem hdL_len (k : Nat) (ρ : Nat → Nat) (i : Nat) : (hdL k ρ i).length = i := by unfold hdL; simp
theorem ne_nil {l : List Value} (h : l ≠ []) : 0 < l.length := List.length_pos_iff.2 h
/-- The rows that are made so far, and right sides. -/
structure SmO (m m' : Mem) (K : Nat → Nat → Int) (k i : Nat) (va vb : Value) (ρ : Nat → Nat) (ba bb : Nat) : Prop where
  up : Up m m'
  w : WF m'
  ga : Gr m' ba va (hdL k ρ i)
  gb : Gr m' bb vb (rhsL K k i)
  rows : ∀ r, r < i → m'.at (ρ r) = some ⟨rowL K r (k + 1), 1, true, false⟩ ∧ m.next ≤ ρ r ∧ ρ r < m'.next ∧ ρ r ≠ ba ∧ ρ r ≠ bb
  dab : 0 < i → ba ≠ bb ∧ m.next ≤ ba ∧ m.next ≤ bb
/-- And the row at hand. -/
structure SmM (m m' : Mem) (K : Nat → Nat → Int) (k i j : Nat) (va vb vr : Value) (ρ : Nat → Nat) (ba bb br : Nat) : Prop where
  o : SmO m m' K k i va vb ρ ba bb
  gr : Gr m' br vr (rowL K i j)
  dr : 0 < j → m.next ≤ br ∧ (0 < i → br ≠ ba ∧ br ≠ bb) ∧ ∀ r, r < i → ρ r ≠ br
/-- Another list was pushed on, that none of these is. -/
theorem SmO.keep {m m1 m2 : Mem} {K : Nat → Nat → Int} {k i : Nat} {va vb : Value} {ρ : Nat → Nat} {ba bb b : Nat} (s : SmO m m1 K k i va vb ρ ba bb) (hn : m1.next ≤ m2.next) (hw : WF m2) {e0 : Prop} (e : ∀ c, c < m1.next → (e0 → c ≠ b) → m2.at c = m1.at c)
    (hb : e0 → m.next ≤ b ∧ (0 < i → b ≠ ba ∧ b ≠ bb) ∧ ∀ r, r < i → ρ r ≠ b) : SmO m m2 K k i va vb ρ ba bb := by
  have hu := s.up.next
  refine ⟨⟨by omega, fun c hc => ?_, fun _ => hw⟩, hw, s.ga.keep hn fun h => ?_, s.gb.keep hn fun h => ?_, fun r hr => ?_, s.dab⟩
  · rw [e c (by omega) (fun h0 => by have := (hb h0).1; omega)]; exact s.up.old c hc
  · have hi := ne_nil h
    rw [hdL_len] at hi
    rcases s.ga with ⟨h1, _⟩ | ⟨_, _, _, h4⟩
    · exact absurd h1 h
    · exact e ba h4 fun h0 => Ne.symm ((hb h0).2.1 hi).1
  · have hi := ne_nil h
    rw [rhsL_len] at hi
    rcases s.gb with ⟨h1, _⟩ | ⟨_, _, _, h4⟩
    · exact absurd h1 h
    · exact e bb h4 fun h0 => Ne.symm ((hb h0).2.1 hi).2
  · obtain ⟨q1, q2, q3, q4, q5⟩ := s.rows r hr
    exact ⟨by rw [e _ q3 fun h0 => (hb h0).2.2 r hr]; exact q1, q2, by omega, q4, q5⟩
theorem SmM.push {m m1 m2 : Mem} {K : Nat → Nat → Int} {k i j : Nat} {va vb vr vr' : Value} {ρ : Nat → Nat} {ba bb br : Nat} (s : SmM m m1 K k i j va vb vr ρ ba bb br) (hn : m2.next = m1.next + 2) (hg : Gr m2 (m1.next + 1) vr' (rowL K i j ++ [fiv (K i j)]))
    (e : ∀ c, c < m1.next → (rowL K i j ≠ [] → c ≠ br) → m2.at c = m1.at c) (hw : WF m2) : SmM m m2 K k i (j + 1) va vb vr' ρ ba bb (m1.next + 1) := by
  rw [rowL_succ] at hg
  have hu := s.o.up.next
  refine ⟨s.o.keep (by omega) hw e (fun h => s.dr (by have := ne_nil h; rw [rowL_len] at this; exact this)), hg, fun _ => ⟨by omega, fun hi => ?_, fun r hr => by have := (s.o.rows r hr).2.2.1; omega⟩⟩
  have h1 : ba < m1.next := by
    rcases s.o.ga with ⟨h, _⟩ | ⟨_, _, _, h4⟩
    · have := congrArg List.length h; rw [hdL_len] at this; simp at this; omega
    · exact h4
  have h2 : bb < m1.next := by
    rcases s.o.gb with ⟨h, _⟩ | ⟨_, _, _, h4⟩
    · have := congrArg List.length h; rw [rhsL_len] at this; simp at this; omega
    · exact h4
  omega
theorem SmM.done {m m1 m2 m3 : Mem} {K : Nat → Nat → Int} {k i : Nat} {va vb vr va' vb' : Value} {ρ : Nat → Nat} {ba bb br : Nat} (s : SmM m m1 K k i (k + 1) va vb vr ρ ba bb br) (n2 : m2.next = m1.next + 2) (g2 : Gr m2 (m1.next + 1) vb' (rhsL K k i ++ [fiv (K i k)]))
    (e2 : ∀ c, c < m1.next → (rhsL K k i ≠ [] → c ≠ bb) → m2.at c = m1.at c) (n3 : m3.next = m2.next + 2) (g3 : Gr m3 (m2.next + 1) va' (hdL k ρ i ++ [.slice (some ⟨br, 0, none⟩) k (k + 1)])) (e3 : ∀ c, c < m2.next → (hdL k ρ i ≠ [] → c ≠ ba) → m3.at c = m2.at c) (w3 : WF m3) :
    SmO m m3 K k (i + 1) va' vb' (fun r => if r = i then br else ρ r) (m2.next + 1) (m1.next + 1) := by
  rw [rhsL_succ] at g2
  rw [hdL_succ] at g3
  have hu := s.o.up.next
  have hi1 : rhsL K k i ≠ [] → 0 < i := fun h => by have := ne_nil h; rwa [rhsL_len] at this
  have hi2 : hdL k ρ i ≠ [] → 0 < i := fun h => by have := ne_nil h; rwa [hdL_len] at this
  have hba : hdL k ρ i ≠ [] → m.next ≤ ba ∧ ba < m1.next := fun h => by
    refine ⟨(s.o.dab (hi2 h)).2.1, ?_⟩
    rcases s.o.ga with ⟨h1, _⟩ | ⟨_, _, _, h4⟩
    · exact absurd h1 h
    · exact h4
  have hbb : rhsL K k i ≠ [] → m.next ≤ bb := fun h => (s.o.dab (hi1 h)).2.2
  have hr : m1.at br = some ⟨rowL K i (k + 1), 1, true, false⟩ ∧ br < m1.next := by
    rcases s.gr with ⟨h1, _⟩ | ⟨_, _, h3, h4⟩
    · have := congrArg List.length h1; rw [rowL_len] at this; simp at this
    · exact ⟨h3, h4⟩
  have hd := s.dr (by omega)
  refine ⟨⟨by omega, fun c hc => ?_, fun _ => w3⟩, w3, g3, g2.keep (by omega) fun _ => e3 _ (by omega) fun h => by have := hba h; omega, fun r hr' => ?_, fun _ => by omega⟩
  · rw [e3 c (by omega) (fun h => by have := hba h; omega), e2 c (by omega) (fun h => by have := hbb h; omega)]
    exact s.o.up.old c hc
  · by_cases h : r = i
    · subst h
      simp only [if_true]
      refine ⟨?_, hd.1, by omega, by omega, by omega⟩
      rw [e3 br (by omega) (fun h => (hd.2.1 (hi2 h)).1), e2 br hr.2 (fun h => (hd.2.1 (hi1 h)).2)]
      exact hr.1
    · simp only [h, if_false]
      obtain ⟨q1, q2, q3, q4, q5⟩ := s.o.rows r (by omega)
      refine ⟨?_, q2, by omega, by omega, by omega⟩
      rw [e3 _ (by omega) (fun _ => q4), e2 _ q3 (fun _ => q5)]
      exact q1
def smoI (m : Mem) (vl : Value) (N : Nat) (xs : Nat → Int) (k : Nat) (q : Nat) (fr : Fr) (m' : Mem) : Prop := ∃ i va vb ρ ba bb, i + q = k ∧ fr.n = 60 ∧ fr.d = [] ∧ fr.at 1 = vl ∧ fr.at 6 = .int .i64 (k : Nat) ∧ fr.at 7 = .int .i64 ((i * (k + 1) : Nat) : Int) ∧ fr.at 8 = va ∧ fr.at 9 = vb ∧ fr.at 10 = .int .i64 (i : Nat) ∧ SmO m m' (Kx N xs k) k i va vb ρ ba bb
def smrI (m : Mem) (vl : Value) (N : Nat) (xs : Nat → Int) (k i : Nat) (q : Nat) (fr : Fr) (m' : Mem) : Prop := ∃ j va vb vr ρ ba bb br, j + q = k + 1 ∧ fr.n = 60 ∧ fr.d = [] ∧ fr.at 1 = vl ∧ fr.at 6 = .int .i64 (k : Nat) ∧ fr.at 7 = .int .i64 ((i * (k + 1) + j : Nat) : Int) ∧ fr.at 8 = va ∧ fr.at 9 = vb ∧ fr.at 10 = .int .i64 (i : Nat) ∧ fr.at 11 = vr ∧ fr.at 12 = .int .i64 (j : Nat) ∧ SmM m m' (Kx N xs k) k i j va vb vr ρ ba bb br
section
set_option maxRecDepth 10000
end
/-- The rows and right sides, as lists. -/
noncomputable def rowsK (K : Nat → Nat → Int) (k : Nat) : List (List F) := (List.range k).map fun i => (List.range k).map fun j => some (fi (K i j))
noncomputable def rhsK (K : Nat → Nat → Int) (k : Nat) : List F := (List.range k).map fun i => some (fi (K i k))
theorem rat_rowsK {K : Nat → Nat → Int} {k i : Nat} (hi : i < k) : rat' (rowsK K k) i = (List.range k).map fun j => some (fi (K i j)) := by
  unfold rat' rowsK; simp [hi]
theorem fat_rowsK {K : Nat → Nat → Int} {k i j : Nat} (hi : i < k) (hj : j < k) : fat (rat' (rowsK K k) i) j = some (fi (K i j)) := by
  rw [rat_rowsK hi]; unfold fat; simp [hj]
theorem fat_rhsK {K : Nat → Nat → Int} {k i : Nat} (hi : i < k) : fat (rhsK K k) i = some (fi (K i k)) := by
  unfold fat rhsK; simp [hi]
theorem IntM.rows {K : Nat → Nat → Int} {k : Nat} (h : ∀ i j, -8 ≤ K i j ∧ K i j ≤ 8) : IntM k K (rowsK K k) :=
  ⟨by simp [rowsK], fun i hi => by rw [rat_rowsK hi]; simp, fun i j hi hj => fat_rowsK hi hj, fun i j _ _ => (h i j).1, fun i j _ _ => (h i j).2⟩
theorem SmO.fm {m m' : Mem} {K : Nat → Nat → Int} {k : Nat} {va vb : Value} {ρ : Nat → Nat} {ba bb : Nat} (hk : 1 ≤ k) (S : SmO m m' K k k va vb ρ ba bb) (h : ∀ i j, -8 ≤ K i j ∧ K i j ≤ 8) : FM m' va (rowsK K k) := by
  have hl : (rowsK K k).length = k := by simp [rowsK]
  rcases S.ga with ⟨h1, _⟩ | ⟨_, h2, h3, _⟩
  · have := congrArg List.length h1; rw [hdL_len] at this; simp at this; omega
  · rw [hdL_len] at h2
    refine ⟨_, _, by rw [hl]; exact h2, .inr ⟨ba, 0, _, rfl, h3, fun i hi => ?_⟩⟩
    rw [hl] at hi
    obtain ⟨q1, _⟩ := S.rows i hi
    refine ⟨hdC k ρ i, by unfold hdL; simp [hi], ?_⟩
    have hrl : (rat' (rowsK K k) i).length = k := by rw [rat_rowsK hi]; simp
    refine ⟨_, _, by rw [hrl]; rfl, .inr ⟨ρ i, 0, _, rfl, q1, fun j hj => ?_⟩⟩
    rw [hrl] at hj
    rw [fat_rowsK hi hj, fi_no (h i j).1 (h i j).2]
    unfold rowL
    simp [show j < k + 1 by omega]; rfl
theorem SmO.fl {m m' : Mem} {K : Nat → Nat → Int} {k : Nat} {va vb : Value} {ρ : Nat → Nat} {ba bb : Nat} (hk : 1 ≤ k) (S : SmO m m' K k k va vb ρ ba bb) (h : ∀ i j, -8 ≤ K i j ∧ K i j ≤ 8) : FL m' vb (rhsK K k) := by
  have hl : (rhsK K k).length = k := by simp [rhsK]
  rcases S.gb with ⟨h1, _⟩ | ⟨_, h2, h3, _⟩
  · have := congrArg List.length h1; rw [rhsL_len] at this; simp at this; omega
  · rw [rhsL_len] at h2
    refine ⟨_, _, by rw [hl]; exact h2, .inr ⟨bb, 0, _, rfl, h3, fun i hi => ?_⟩⟩
    rw [hl] at hi
    rw [fat_rhsK hi, fi_no (h i k).1 (h i k).2]
    unfold rhsL
    simp [hi]; rfl
end Go.Proofs.Ytghhanifakllpaa

/- Floats as fractions: worth in units of 2^-1074, small whole numbers, near. -/
namespace Go.Proofs.Ytghhanifakllpaa
open Go.Clean Ieee
theorem lpv : double.leastPlace = -1074 := by decide
theorem read_fin {b : Nat} (hf : exF b ≠ 2047) : ∃ s m k, double.read b = .number s m k ∧ s = (b / 9223372036854775808 % 2 == 1) ∧ m = maN b ∧ k = ((exN b - 1 : Nat) : Int) + -1074 := by
  have hw : double.signWeight = 9223372036854775808 := by decide
  have hi : double.infRung = 9218868437227405312 := by decide
  have hb : double.binade = 4503599627370496 := by decide
  unfold Format.read
  simp only [hw, hi, hb, lpv]
  have hex : b % 9223372036854775808 / 4503599627370496 = exF b := by unfold exF; omega
  have hma : b % 9223372036854775808 % 4503599627370496 = maF b := by unfold maF; omega
  have hex2 : exF b < 2048 := by unfold exF; omega
  have hma2 : maF b < 4503599627370496 := by unfold maF; omega
  obtain ⟨r, hr⟩ : ∃ r, r = b % 9223372036854775808 := ⟨_, rfl⟩
  rw [← hr] at hex hma ⊢
  by_cases h1 : r < 4503599627370496
  · rw [if_pos h1]
    have hz : exF b = 0 := by omega
    refine ⟨_, _, _, rfl, rfl, ?_, ?_⟩
    · unfold maN; rw [if_pos hz]; omega
    · unfold exN; rw [if_pos hz]; rfl
  · rw [if_neg h1, if_pos (by omega)]
    have hz : exF b ≠ 0 := by omega
    refine ⟨_, _, _, rfl, rfl, ?_, ?_⟩
    · unfold maN; rw [if_neg hz]; omega
    · unfold exN; rw [if_neg hz, hex]; omega
theorem fin_ex {b : Nat} (h : Nu.Fi (some b)) : exF b ≠ 2047 ∧ Clean.isNaN b = false := by
  obtain ⟨b', s, m, k, e, h1⟩ := h
  cases e
  refine ⟨fun he => ?_, ?_⟩
  · have hw : double.signWeight = 9223372036854775808 := by decide
    have hi : double.infRung = 9218868437227405312 := by decide
    have hb : double.binade = 4503599627370496 := by decide
    have hex : b % 9223372036854775808 / 4503599627370496 = exF b := by unfold exF; omega
    unfold Format.read at h1
    simp only [hw, hi, hb] at h1
    rw [if_neg (by omega), if_neg (by omega)] at h1
    split at h1 <;> exact absurd h1 (by simp)
  · show (double.read b).isNaN = false
    rw [h1]; rfl
theorem vq_wth {b : Nat} (hb : b < 18446744073709551616) (hf : exF b ≠ 2047) : Nu.Fi (some b) ∧ Nu.vq (some b) * Nu.p2 1074 = ((wth b : Int) : Rat) := by
  obtain ⟨s, m, k, h1, hs, hm, hk⟩ := read_fin hf
  refine ⟨⟨b, s, m, k, rfl, h1⟩, ?_⟩
  rw [Nu.vq_some h1]
  unfold Nu.nv
  rw [hk, Nu.p2_add, Rat.mul_assoc, Rat.mul_assoc, Rat.mul_assoc, ← Nu.p2_add, show (-1074 : Int) + 1074 = 0 by decide, Nu.p2_zero, Rat.mul_one, ← Nu.nat_p2, hm]
  have hsd : s = decide (b / 9223372036854775808 = 1) := by
    rw [hs]
    have : b / 9223372036854775808 < 2 := by omega
    by_cases h : b / 9223372036854775808 = 1
    · rw [h]; rfl
    · rw [show b / 9223372036854775808 = 0 by omega]; rfl
  unfold wth
  rw [← hsd]
  unfold sgn Nu.sg
  cases s
  · simp only [Bool.false_eq_true, if_false, cond_false]
    rw [Rat.one_mul]; rfl
  · simp only [if_true, cond_true]
    rw [Rat.intCast_neg]
    show -1 * _ = -_
    have : (((maN b * 2 ^ (exN b - 1) : Nat) : Int) : Rat) = ((maN b * 2 ^ (exN b - 1) : Nat) : Rat) := rfl
    rw [this]; grind
theorem npow (n : Nat) : (((2 ^ n : Nat)) : Rat) = Nu.p2 (n : Int) := (Nu.p2_nat n).symm
theorem natAbs_rabs (T : Int) : ((T.natAbs : Nat) : Rat) = Nu.rabs (T : Rat) := by
  unfold Nu.rabs
  by_cases h : 0 ≤ T
  · have h1 : ((0 : Int) : Rat) ≤ ((T : Int) : Rat) := Rat.intCast_le_intCast.2 h
    have e0 : ((0 : Int) : Rat) = 0 := rfl
    rw [e0] at h1
    rw [if_pos h1]
    have : ((T.natAbs : Nat) : Int) = T := by omega
    have e : ((T.natAbs : Nat) : Rat) = (((T.natAbs : Nat) : Int) : Rat) := rfl
    rw [e, this]
  · have h1 : ((T : Int) : Rat) ≤ ((-1 : Int) : Rat) := Rat.intCast_le_intCast.2 (by omega)
    have e0 : ((-1 : Int) : Rat) = -1 := rfl
    rw [e0] at h1
    rw [if_neg (by grind)]
    have : ((T.natAbs : Nat) : Int) = -T := by omega
    have e : ((T.natAbs : Nat) : Rat) = (((T.natAbs : Nat) : Int) : Rat) := rfl
    rw [e, this, Rat.intCast_neg]
end Go.Proofs.Ytghhanifakllpaa

/- SolveWhole: what Det and Solve answer, plain. -/
namespace Go.Proofs.Ytghhanifakllpaa
open Go.Clean Ieee
/-- Bits of 64 places. -/
def B64 (x : F) : Prop := ∀ b, x = some b → b < 18446744073709551616
theorem write_64 (d : Datum) (h : d.isNaN = false) : double.write d < 18446744073709551616 := by
  have hw : double.signWeight = 9223372036854775808 := by decide
  have hi : double.infRung = 9218868437227405312 := by decide
  have key : ∀ (neg : Bool) (r : Nat), r ≤ double.infRung → double.word neg r < 18446744073709551616 := by
    intro neg r hr
    unfold Format.word
    rw [hw]
    cases neg <;> simp <;> omega
  cases d with
  | nan s t => simp [Datum.isNaN] at h
  | infinity s => exact key s _ (Nat.le_refl _)
  | number s m e =>
    show double.nearest s m e < _
    unfold Format.nearest
    split
    · exact key s 0 (Nat.zero_le _)
    · exact key s _ (Nat.min_le_right _ _)
theorem B64.mul (x y : F) : B64 (fmul x y) := by
  intro b h
  cases x with
  | none => exact absurd h (by simp [fmul, f2])
  | some u =>
    cases y with
    | none => exact absurd h (by simp [fmul, f2])
    | some v =>
      obtain ⟨d, hd, rfl⟩ := Option.map_eq_some_iff.1 (show (Datum.product (double.read u) (double.read v)).map double.write = some b from h)
      exact write_64 d (product_ok hd)
theorem B64.div (x y : F) : B64 (fdiv x y) := by
  intro b h
  cases x with
  | none => exact absurd h (by simp [fdiv, f2])
  | some u =>
    cases y with
    | none => exact absurd h (by simp [fdiv, f2])
    | some v =>
      obtain ⟨d, hd, rfl⟩ := Option.map_eq_some_iff.1 (show (Datum.quotient _ (double.read u) (double.read v)).map double.write = some b from h)
      exact write_64 d (quotient_ok hd)
theorem B64.neg {x : F} (h : B64 x) : B64 (fneg x) := by
  intro b hb
  cases x with
  | none => exact absurd hb (by simp [fneg])
  | some u =>
    have h1 := h u rfl
    have h2 : u ^^^ 9223372036854775808 = b := by simpa [fneg] using hb
    rw [← h2]
    have e : (18446744073709551616 : Nat) = 2 ^ 64 := by decide
    rw [e] at h1 ⊢
    exact Nat.xor_lt_two_pow h1 (by decide)
theorem B64.detGo : ∀ (ps : List F) (os : List Bool) (d d' : F), B64 d → detGo ps os d = some d' → B64 d'
  | [], _, d, d', h, e => by cases e; exact h
  | _ :: _, [], d, d', h, e => by cases e; exact h
  | p :: ps, o :: os, d, d', h, e => by
    have e' : (if feq p fzero then none else Go.Proofs.Ytghhanifakllpaa.detGo ps os (if o then fneg (fmul d p) else fmul d p)) = some d' := e
    split at e'
    · cases e'
    · refine B64.detGo ps os _ d' ?_ e'
      split
      · exact (B64.mul _ _).neg
      · exact B64.mul _ _
theorem B64.detF {n : Nat} {M : Mx} {d : F} (h : detF n M = some d) : B64 d := by
  unfold Go.Proofs.Ytghhanifakllpaa.detF at h
  split at h
  · cases h; intro b hb; cases hb; decide
  · rename_i d1 e1
    split at h
    · cases h
      exact B64.detGo _ _ _ _ (by intro b hb; cases hb; decide) e1
    · cases h
theorem solved_64 {n : Nat} {M : Mx} {x : Nat → F} (h : solvedF n M = some x) {j : Nat} (hj : j < n) : B64 (x j) := by
  unfold solvedF at h
  split at h
  · split at h
    · cases h
      rw [Nu.backX_row hj]; exact B64.div _ _
    · cases h
  · cases h
section
variable {K : Nat → Nat → Int} {k : Nat}
/-- The matrix with a right side of noughts. -/
def K0 (K : Nat → Nat → Int) (k : Nat) : Nat → Nat → Int := fun i j => if j = k then 0 else K i j
end
end Go.Proofs.Ytghhanifakllpaa

/- Regions of free order, each operation of a kind: quiet, reads of what was there, one new block, a call that touches what is newer, whatever it be. -/
namespace Go.Clean
variable {P : Program} {call : Caller}
def okL (k c : Nat) (log : List (Bool × Nat)) : Prop := match c with
  | 0 => log = []
  | 1 => ∀ x ∈ log, x.1 = false ∧ x.2 < k
  | 2 => ∀ x ∈ log, x.2 = k
  | 3 => ∀ x ∈ log, k < x.2
  | _ => True
def compatC (c d : Nat) : Bool := c == 0 || d == 0 || (c == 1 && d == 1) || (c == 1 && d == 2) || (c == 2 && d == 1) || (c == 1 && d == 3) || (c == 3 && d == 1) || (c == 2 && d == 3) || (c == 3 && d == 2)
theorem apart_of {l l' : List (Bool × Nat)} (h : ∀ x ∈ l, ∀ y ∈ l', x.2 ≠ y.2 ∨ (x.1 = false ∧ y.1 = false)) : apartL l l' = true := by
  unfold apartL
  rw [List.all_eq_true]
  rintro ⟨x, b⟩ hx
  rw [List.all_eq_true]
  rintro ⟨y, c⟩ hy
  rcases h _ hx _ hy with h1 | ⟨h1, h2⟩
  · simp at h1 ⊢
    exact .inl h1
  · simp at h1 h2 ⊢
    subst h1 h2
    simp
theorem apart_cls {k c d : Nat} {l l' : List (Bool × Nat)} (h : okL k c l) (h' : okL k d l') (hc : compatC c d = true) : apartL l l' = true := by
  refine apart_of fun x hx y hy => ?_
  unfold compatC at hc
  simp only [Bool.or_eq_true, Bool.and_eq_true, beq_iff_eq] at hc
  rcases hc with (((((((h1 | h1) | h1) | h1) | h1) | h1) | h1) | h1) | h1
  · subst h1
    have : l = [] := h
    subst this; cases hx
  · subst h1
    have : l' = [] := h'
    subst this; cases hy
  all_goals
    obtain ⟨rfl, rfl⟩ := h1
    have e1 := h x hx
    have e2 := h' y hy
    first
      | exact .inr ⟨e1.1, e2.1⟩
      | exact .inl (by omega)
/-- The masks and kinds fit: what an operation does not wait for, it does not disturb. -/
def chkC : Nat → List Nat → List Nat → List Nat → Bool
  | _, _, [], [] => true
  | i, prev, a :: ms, c :: cs => ((List.range i).all fun j => a.testBit j || compatC c (prev.getD (i - 1 - j) 4)) && chkC (i + 1) (c :: prev) ms cs
  | _, _, _, _ => false
def drawK (P : Program) (call : Caller) (ops : Array Oper) (k : Nat) : List Oper → List Nat → Fr → Mem → (Fr → Mem → Prop) → Prop
  | [], _, fr, m, Q => Q fr m
  | _ :: _, [], _, _, _ => False
  | o :: l, c :: cs, fr, m, Q => Gives (stepDX P call ops fr o) (m.lg []) fun fr' m' => okL k c m'.log ∧ drawK P call ops k l cs fr' (m'.lg (m'.log ++ m.log)) Q
def drawKQ (P : Program) (call : Caller) (ops : Array Oper) (k c : Nat) (l : List Oper) (cs : List Nat) (log : List (Bool × Nat)) (Q : Fr → Mem → Prop) (fr : Fr) (m : Mem) : Prop := okL k c m.log ∧ drawK P call ops k l cs fr (m.lg (m.log ++ log)) Q
theorem drawK_nil (ops : Array Oper) (k : Nat) (cs : List Nat) (fr : Fr) (m : Mem) (Q : Fr → Mem → Prop) : drawK P call ops k [] cs fr m Q ↔ Q fr m := by cases cs <;> exact Iff.rfl
theorem drawK_cons (ops : Array Oper) (k : Nat) (o : Oper) (l : List Oper) (c : Nat) (cs : List Nat) (fr : Fr) (m : Mem) (Q : Fr → Mem → Prop) : drawK P call ops k (o :: l) (c :: cs) fr m Q ↔ Gives (stepDX P call ops fr o) (m.lg []) (drawKQ P call ops k c l cs m.log Q) := Iff.rfl
theorem drawK_draws {ops : Array Oper} {k : Nat} {Q : Fr → Mem → Prop} : ∀ (l : List Oper) (ms cs prev : List Nat) (i : Nat) (ls : List (Nat × List (Bool × Nat))) (fr : Fr) (m : Mem), l.length = ms.length → (l.all fun o => !isDefer o) = true → chkC i prev ms cs = true → prev.length = i → (∀ p ∈ ls, p.1 < i ∧ okL k (prev.getD (i - 1 - p.1) 4) p.2) → drawK P call ops k l cs fr m Q → Gives (drawX P call ops l ms i ls fr) m Q
  | [], ms, cs, prev, i, ls, fr, m, _, _, _, _, _, h => (draw_nil ops ms i ls fr m Q).2 ((drawK_nil ops k cs fr m Q).1 h)
  | o :: l, [], cs, prev, i, ls, fr, m, h, _, _, _, _, _ => by simp at h
  | o :: l, a :: ms, [], prev, i, ls, fr, m, _, _, h, _, _, _ => by simp [chkC] at h
  | o :: l, a :: ms, c :: cs, prev, i, ls, fr, m, hl, hd, hch, hp, hls, h => by
    rw [List.all_cons, Bool.and_eq_true] at hd
    unfold chkC at hch
    rw [Bool.and_eq_true] at hch
    rw [draw_cons ops o (by simpa using hd.1)]
    refine Gives.mono h fun fr' m' q => ⟨?_, drawK_draws l ms cs (c :: prev) (i + 1) ((i, m'.log) :: ls) fr' _ (by simpa using hl) hd.2 hch.2 (by simp [hp]) (fun p hpm => ?_) q.2⟩
    · have : ∀ ls' : List (Nat × List (Bool × Nat)), (∀ p ∈ ls', p.1 < i ∧ okL k (prev.getD (i - 1 - p.1) 4) p.2) → apartAll a m'.log ls' = true := by
        intro ls'
        induction ls' with
        | nil => intro _; rfl
        | cons x r ih =>
          intro hx
          obtain ⟨j, l'⟩ := x
          show ((a.testBit j || apartL m'.log l') && apartAll a m'.log r) = true
          rw [ih fun p hp => hx p (List.mem_cons_of_mem _ hp)]
          obtain ⟨h1, h2⟩ := hx (j, l') (List.mem_cons_self ..)
          have h3 := List.all_eq_true.1 hch.1 j (List.mem_range.2 h1)
          simp only [Bool.or_eq_true] at h3
          rcases h3 with h3 | h3
          · rw [h3]; simp
          · rw [apart_cls q.1 h2 h3]; simp
      exact this ls hls
    · rcases List.mem_cons.1 hpm with rfl | hpm
      · refine ⟨Nat.lt_succ_self _, ?_⟩
        rw [show i + 1 - 1 - i = 0 by omega]
        exact q.1
      · obtain ⟨h1, h2⟩ := hls p hpm
        refine ⟨by omega, ?_⟩
        rw [show i + 1 - 1 - p.1 = (i - 1 - p.1) + 1 by omega]
        exact h2
theorem code_draw_cls {id : Nat} {ops : Array Oper} {ms : List Nat} (cs : List Nat) (k : Nat) (h : planX ops = some ms) (hl : ops.toList.length = ms.length) (hd : (ops.toList.all fun o => !isDefer o) = true) (hc : chkC 0 [] ms cs = true) {fr : Fr} {m : Mem} {Q : CQ}
    (hg : ∀ ops' : Array Oper, drawK P call ops' k ops.toList cs fr m (regQ Q)) : Gives (codeX P call (.region id ops true) fr) m Q :=
  code_draw_dyn h (drawK_draws _ _ cs [] 0 [] _ _ hl hd hc rfl (fun p hp => by cases hp) (hg ops))
theorem okL_nil (k c : Nat) : okL k c [] := by
  unfold okL
  split
  · rfl
  all_goals first | exact fun x hx => by cases hx | trivial
theorem okL_nil' (k c : Nat) : okL k c [] ↔ True := ⟨fun _ => trivial, fun _ => okL_nil k c⟩
theorem okL_read (k b : Nat) (l : List (Bool × Nat)) : okL k 1 ((false, b) :: l) ↔ b < k ∧ okL k 1 l :=
  ⟨fun h => ⟨(h _ (List.mem_cons_self ..)).2, fun x hx => h x (List.mem_cons_of_mem _ hx)⟩, fun h x hx => by
    rcases List.mem_cons.1 hx with rfl | hx
    · exact ⟨rfl, h.1⟩
    · exact h.2 x hx⟩
theorem okL_new (k b : Nat) : okL k 2 [(true, b)] ↔ b = k := ⟨fun h => h _ (List.mem_cons_self ..), fun h x hx => by simp at hx; subst hx; exact h⟩
theorem okL_any (k : Nat) (l : List (Bool × Nat)) : okL k 4 l ↔ True := ⟨fun _ => trivial, fun _ => trivial⟩
attribute [simp] drawK_nil drawK_cons okL_nil' okL_read okL_new okL_any
end Go.Clean
namespace Go.Proofs.Ytghhanifakllpaa
open Go.Clean
/-- A memory without its blocks. -/
def hidA (m : Mem) : Mem := { m with t := Mem.empty.t }
theorem at_hidA (m : Mem) (c : Nat) : (hidA m).at c = none := rfl
/-- A float's fraction, that touches nothing of what was there. -/
theorem lawRat_new (e : Nat) {m : Mem} {b : Nat} (hw : WF m) (h0 : m.log = []) (hno : Clean.isNaN b = false) (hb64 : b < 18446744073709551616) (hfin : exF b ≠ 2047) {Q : Value → Mem → Prop}
    (hQ : ∀ m' bz, Up m m' → m.next ≤ bz → (∀ x ∈ m'.log, m.next ≤ x.2) → RT m' bz (wth b) (2 ^ 1074) 36 → Q (.pointer (some ⟨bz, 0, none⟩)) m') :
    Gives (callN Try.prog kn1 (e + 8) 30 [.float .f64 b]) m Q := by
  refine gives_hide (mh := hidA m) rfl (fun c x h => by rw [at_hidA] at h; cases h) hw ?_
  refine lawRat_ok e (fun c x h => by rw [at_hidA] at h; cases h) hno hb64 hfin fun mh' bz u hbz r => ⟨u, fun m' um hk nt => ?_⟩
  refine hQ m' bz um hbz (fun x hx => ?_) (r.keep hk)
  refine Nat.le_of_not_lt fun hlt => ?_
  obtain ⟨nl, h1, h2⟩ := nt x.2 (at_hidA _ _) hlt
  rw [h0, List.append_nil] at h1
  rw [h1] at hx
  exact h2 x hx rfl
end Go.Proofs.Ytghhanifakllpaa

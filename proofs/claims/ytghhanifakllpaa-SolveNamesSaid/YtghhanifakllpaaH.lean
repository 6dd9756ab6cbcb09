/- package solve over float64: Pivots. -/
import Derived.Test.YtghhanifakllpaaE
namespace Go.Proofs.Ytghhanifakllpaa
open Go.RowKit

theorem checkF_zero {rows : List (List Nat)} (h : checkF (bitsF rows) = 0) : 0 < rows.length ∧ rows.length ≤ 128 ∧ (∀ i, i < rows.length → (rows.getD i []).length = rows.length) := by
  unfold checkF at h
  rw [bitsF_len] at h
  by_cases h0 : rows.length = 0 ∨ 128 < rows.length
  · rw [if_pos h0] at h; cases h
  · rw [if_neg h0] at h
    refine ⟨by omega, by omega, ?_⟩
    by_cases h1 : (bitsF rows).all (fun r => r.length == rows.length) = true
    · rw [bitsF_all] at h1
      intro i hi
      have := List.all_eq_true.1 h1 (rows.getD i []) (by simp [List.getD, hi])
      simpa using this
    · rw [if_neg h1] at h; cases h

theorem Mat.rows {w : World} {ab aoff n ac : Nat} {rows : List (List Nat)} (h : Mat w (.slice (some ⟨ab, aoff, none⟩) n ac) rows) (hn : 0 < n) (hl : ∀ i, i < n → (rows.getD i []).length = n) :
    ∀ i, i < n → ∃ rb ro rc, w.cell? ⟨ab, aoff + i, none⟩ = some (.slice (some ⟨rb, ro, none⟩) n rc) ∧ (rows.getD i []).length = n ∧ ∀ j, j < n → w.cell? ⟨rb, ro + j, none⟩ = some (flV ((rows.getD i []).getD j 0)) := by
  obtain ⟨a, m, c, hv, hm, hc⟩ := h
  cases hv
  intro i hi
  obtain ⟨b, off, ha, hcell⟩ := hc.resolve_left (by omega)
  cases ha
  obtain ⟨rv, h1, a2, m2, c2, h2, h3, h4, h5⟩ := hcell i hi
  have hm2 : m2 = n := by rw [← h3, hl i hi]
  subst hm2
  obtain ⟨rb, ro, ha2, hcc⟩ := h5.resolve_left (by omega)
  subst h2; subst ha2
  exact ⟨rb, ro, c2, h1, h3, hcc⟩
theorem Mat.words {w : World} {v : Value} {rows : List (List Nat)} (h : Mat w v rows) : ∀ i, i < rows.length → ∀ x ∈ rows.getD i [], W64 x := by
  obtain ⟨a, m, c, _, hm, hc⟩ := h
  intro i hi
  obtain ⟨b, off, _, hcell⟩ := hc.resolve_left (by omega)
  obtain ⟨rv, _, a2, m2, c2, _, _, h4, _⟩ := hcell i (by omega)
  exact h4

theorem owns_mono {w : World} {base base' e size n : Nat} {v : Value} {xs : List Value} (h : w.ownsRow base e size v n xs) (hb : base' ≤ base) : w.ownsRow base' e size v n xs := by
  refine ⟨h.1, ?_⟩
  rcases h.2 with h2 | ⟨g, cap, cur, h1, h2, h3⟩
  · exact .inl h2
  · exact .inr ⟨g, cap, cur, h1, Nat.le_trans hb h2, h3⟩

/-- Which rows were taken, or what is wrong. -/
def pivotsF (rows : List (List Nat)) : List Nat × Int :=
  if checkF (bitsF rows) ≠ 0 then ([], checkF (bitsF rows))
  else if (stepsS rows.length (M0 rows fun _ => 0)).2 then ((List.range rows.length).map (stepsS rows.length (M0 rows fun _ => 0)).1.first, 0) else ([], 141)
def PivPost (rows : List (List Nat)) (w : World) (e : Ending) (w' : World) : Prop :=
  ∃ v, e = .returned (.tuple #[v, .int .i64 (pivotsF rows).2]) ∧ Below w.heap.size w w' ∧ w'.ownsRow w.heap.size 3 1 v (pivotsF rows).1.length ((pivotsF rows).1.map fun j : Nat => Value.int .i64 j)

set_option maxHeartbeats 2000000 in
theorem pivots_any (v : Value) (rows : List (List Nat)) (w : World) (hv : Mat w v rows) (hn : rows.length ≤ 1000000) (hm : ∀ r ∈ rows, r.length ≤ 1000000) :
    Calls Try.prog 9 #[v] w (PivPost rows w) := by
  have HV := Lib.hid hv
  have HN := Lib.hid hn
  have HM := Lib.hid hm
  clear hn hm
  obtain ⟨ch, hch⟩ : ∃ ch, checkF (bitsF rows) = ch := ⟨_, rfl⟩
  have HCH := Lib.hid hch
  by_cases h0 : ch = 0
  · subst h0
    have hz := checkF_zero hch
    have HZ := Lib.hid hz
    obtain ⟨n, hnr⟩ : ∃ n, rows.length = n := ⟨_, rfl⟩
    have hn0 : 0 < n := by omega
    obtain ⟨a, m, ac, rfl, hm, hcs⟩ := hv
    obtain ⟨ab, aoff, rfl, _⟩ := hcs.resolve_left (by omega)
    obtain rfl : n = m := by omega
    have HNR := Lib.hid hnr
    clear hch hz hcs hm hnr
    go_enter Try.func9, Try.ntmps9
    go_wp2_with fail
    refine (floats_any _).mono ?_
    rintro e w1 ⟨rfl, hb1⟩
    go_wp2_with fail
    refine (check_any _ rows _ (HV.out.below hb1) HN.out HM.out).mono ?_
    rw [HCH.out]
    rintro e w2 ⟨rfl, hb2⟩
    go_wp2_with fail
    refine (floats_any _).mono ?_
    rintro e w3 ⟨rfl, hb3⟩
    have HV3 := Lib.hid (((HV.out.below hb1).below hb2).below hb3)
    go_wp2_with fail
    refine (steps_any ab aoff n ac rows (fun _ => 0) _ _ (by have := HZ.out.2.1; have := HNR.out; omega) hn0 (HV3.out.rows hn0 (by have h := HZ.out.2.2; rw [HNR.out] at h; exact h)) (by rw [← HNR.out]; exact HV3.out.words) (fun _ _ => by unfold W64; decide) (.inl ⟨rfl, fun _ _ => rfl⟩)).mono ?_
    rintro e w4 ⟨R, rv, fv, pv, ov, rfl, hb4, hs4⟩
    obtain ⟨gr, cr, rfl, _, _⟩ := owns_form hs4.ownR hn0
    obtain ⟨gf, cf, rfl, _, _⟩ := owns_form hs4.ownF hn0
    obtain ⟨hsp, hso⟩ := hs4.ones
    have HS4 := Lib.hid hs4
    have HB := Lib.hid (((hb1.trans (hb2.mono hb1.size)).trans (hb3.mono (Nat.le_trans hb1.size hb2.size))).trans (hb4.mono (Nat.le_trans (Nat.le_trans hb1.size hb2.size) hb3.size)))
    have HSZ : Hid (w.heap.size ≤ w3.heap.size + 3 ∧ w.heap.size ≤ w4.heap.size) := by
      have h1 := hb1.size; have h2 := hb2.size; have h3 := hb3.size; have h4 := hb4.size
      exact ⟨by omega, by omega⟩
    clear hs4 hb1 hb2 hb3 hb4
    cases hok : (stepsS n (M0 rows fun _ => 0)).2
    · have HP : Hid (pivotsF rows = ([], 141)) := by unfold Hid pivotsF; rw [HCH.out, HNR.out, hok]; rfl
      go_wp2_with fail
      go_ret2
      exact ⟨.slice none 0 0, by rw [HP.out]; rfl, HB.out.alloc HSZ.out.2 _, by rw [HP.out]; exact World.ownsRow_nil _ _ _ _⟩
    · have HP : Hid (pivotsF rows = ((List.range n).map (stepsS n (M0 rows fun _ => 0)).1.first, 0)) := by unfold Hid pivotsF; rw [HCH.out, HNR.out, hok]; rfl
      go_wp2_with fail
      go_ret2
      refine ⟨.slice (some ⟨gf, 0, none⟩) n cf, by rw [HP.out]; rfl, HB.out.alloc HSZ.out.2 _, ?_⟩
      rw [HP.out]
      have h := (owns_mono HS4.out.ownF HSZ.out.1).alloc (.cells #[.slice (some ⟨gr, 0, none⟩) n cr, .slice (some ⟨gf, 0, none⟩) n cf, pv, ov] 79)
      simp only [List.length_map, List.length_range, List.map_map]
      exact h
  · clear hv
    obtain ⟨a, m, ac, rfl, _⟩ := id HV.out
    have HP : Hid (pivotsF rows = ([], ch)) := by unfold Hid pivotsF; rw [HCH.out, if_pos h0]
    have hne : (ch != 0) = true := by rw [bne_iff_ne]; exact h0
    go_enter Try.func9, Try.ntmps9
    go_wp2_with fail
    refine (floats_any _).mono ?_
    rintro e w1 ⟨rfl, hb1⟩
    go_wp2_with fail
    refine (check_any _ rows _ (HV.out.below hb1) HN.out HM.out).mono ?_
    rw [HCH.out]
    rintro e w2 ⟨rfl, hb2⟩
    go_wp2_with fail
    go_ret2
    exact ⟨.slice none 0 0, by rw [HP.out]; rfl, hb1.trans (hb2.mono hb1.size), by rw [HP.out]; exact World.ownsRow_nil _ _ _ _⟩
end Go.Proofs.Ytghhanifakllpaa

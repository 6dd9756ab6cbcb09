/- package solve over float64: check. -/
import Derived.Test.YtghhanifakllpaaB
namespace Go.Proofs.Ytghhanifakllpaa
open Go.RowKit

/-- Rows of floats in memory. -/
def Mat (w : World) (v : Value) (rows : List (List Nat)) : Prop :=
  ∃ a n c, v = .slice a n c ∧ rows.length = n ∧
    (n = 0 ∨ ∃ b off, a = some ⟨b, off, none⟩ ∧ ∀ i, i < n → ∃ rv, w.cell? ⟨b, off + i, none⟩ = some rv ∧ FSl w rv (rows.getD i []))
theorem Mat.below {w w' : World} {v : Value} {rows : List (List Nat)} (h : Mat w v rows) (hb : Below w.heap.size w w') : Mat w' v rows := by
  obtain ⟨a, n, c, h1, h2, h4⟩ := h
  refine ⟨a, n, c, h1, h2, ?_⟩
  rcases h4 with h4 | ⟨b, off, ha, hc⟩
  · exact .inl h4
  · refine .inr ⟨b, off, ha, fun i hi => ?_⟩
    obtain ⟨rv, h, hf⟩ := hc i hi
    refine ⟨rv, ?_, hf.below hb⟩
    rw [hb.cell (p := ⟨b, off + i, none⟩) (World.block_lt_of_cell? w _ h)]
    exact h

/-- What is wrong with a system. -/
def checkF (rows : List (List F)) : Int :=
  if rows.length = 0 ∨ 128 < rows.length then 4
  else if rows.all (fun r => r.length == rows.length) then (if rows.all (·.all ffin) then 0 else 5) else 140

def bitsF (rows : List (List Nat)) : List (List F) := rows.map (·.map fl)

theorem bcell {W w1 : World} (hb : Below W.heap.size W w1) : (∀ b o, b < W.heap.size → w1.cell? ⟨b, o, none⟩ = W.cell? ⟨b, o, none⟩) ∧ (∀ b o, b < W.heap.size → w1.frozen? ⟨b, o, none⟩ = W.frozen? ⟨b, o, none⟩) :=
  ⟨fun b o h => hb.cell (p := ⟨b, o, none⟩) h, fun b o h => hb.frozen (p := ⟨b, o, none⟩) h⟩

theorem takeall_snoc {α : Type} (p : α → Bool) (l : List α) (d : α) (k : Nat) (h : k < l.length) : ((l.take (k + 1)).all p) = ((l.take k).all p && p (l.getD k d)) := by
  rw [List.take_succ_eq_append_getElem h, List.all_append]
  simp [List.getD, h]
theorem all_no {α : Type} (p : α → Bool) (l : List α) (d : α) (k : Nat) (h : k < l.length) (hf : p (l.getD k d) = false) : l.all p = false := by
  rw [List.all_eq_false]
  refine ⟨l.getD k d, ?_, by rw [hf]; simp⟩
  simp [List.getD, h]

theorem bitsF_len (rows : List (List Nat)) : (bitsF rows).length = rows.length := by simp [bitsF]
theorem bitsF_all (rows : List (List Nat)) (p : List F → Bool) : (bitsF rows).all p = rows.all (fun r => p (r.map fl)) := by
  unfold bitsF; rw [List.all_map]; rfl
theorem checkF_many (rows : List (List Nat)) (h : rows.length = 0 ∨ 128 < rows.length) : checkF (bitsF rows) = 4 := by
  unfold checkF; rw [if_pos (by rw [bitsF_len]; exact h)]
theorem checkF_shape (rows : List (List Nat)) (h : ¬ (rows.length = 0 ∨ 128 < rows.length)) (hs : rows.all (fun r => r.length == rows.length) = false) : checkF (bitsF rows) = 140 := by
  unfold checkF; rw [if_neg (by rw [bitsF_len]; exact h)]
  rw [bitsF_all, bitsF_len]
  simp only [List.length_map]
  rw [hs]; rfl
theorem checkF_real (rows : List (List Nat)) (h : ¬ (rows.length = 0 ∨ 128 < rows.length)) (hs : rows.all (fun r => r.length == rows.length) = true) (hf : rows.all (fun r => r.all finB) = false) : checkF (bitsF rows) = 5 := by
  have e : (fun r : List Nat => (r.map fl).all ffin) = fun r => r.all finB := by funext r; rw [List.all_map]; congr; funext x; exact (finB_eq x).symm
  unfold checkF; rw [if_neg (by rw [bitsF_len]; exact h)]
  rw [bitsF_all, bitsF_len, bitsF_all, e, hf]
  simp only [List.length_map]
  rw [hs]; rfl
theorem checkF_ok (rows : List (List Nat)) (h : ¬ (rows.length = 0 ∨ 128 < rows.length)) (hs : rows.all (fun r => r.length == rows.length) = true) (hf : rows.all (fun r => r.all finB) = true) : checkF (bitsF rows) = 0 := by
  have e : (fun r : List Nat => (r.map fl).all ffin) = fun r => r.all finB := by funext r; rw [List.all_map]; congr; funext x; exact (finB_eq x).symm
  unfold checkF; rw [if_neg (by rw [bitsF_len]; exact h)]
  rw [bitsF_all, bitsF_len, bitsF_all, e, hf]
  simp only [List.length_map]
  rw [hs]; rfl
theorem besideF_yes (r : List Nat) (n : Nat) (h : r.length = n) (hf : r.all finB = true) : besideF (r.map fl) n = 0 := by rw [besideF_bits, if_pos h, hf]; rfl
theorem besideF_no (r : List Nat) (n : Nat) (h : r.length = n) (hf : r.all finB = false) : besideF (r.map fl) n = 5 := by rw [besideF_bits, if_pos h, hf]; rfl

/-- The box in which a call keeps the field of floats. -/
def BoxF (w : World) (B : Nat) : Prop := w.heap[B]? = some (.cells kF 74 (0, 0))
theorem BoxF.below {w w' : World} {B B0 : Nat} (h : BoxF w B) (hb : Below B0 w w') (hB : B < B0) : BoxF w' B := by
  unfold BoxF; rw [hb.block B hB]; exact h
theorem BoxF.lt {w : World} {B : Nat} (h : BoxF w B) : B < w.heap.size := lt_of_block h
theorem BoxF.cells {w : World} {B : Nat} (h : BoxF w B) : w.cell? ⟨B, 0, none⟩ = some (.func (.func 31) #[] #[]) ∧ w.cell? ⟨B, 1, none⟩ = some (.func (.func 69) #[] #[]) ∧ w.cell? ⟨B, 2, none⟩ = some (.func (.func 70) #[] #[]) ∧ w.cell? ⟨B, 3, none⟩ = some (.func (.func 43) #[] #[]) := by
  unfold BoxF at h
  refine ⟨?_, ?_, ?_, ?_⟩ <;> (simp [World.cell?, h]; rfl)
theorem BoxF.made (w : World) : BoxF (w.alloc (.cells kF 74)) w.heap.size := heap_alloc_new w _

set_option maxHeartbeats 1000000 in
theorem check_any (v : Value) (rows : List (List Nat)) (w : World) (hv : Mat w v rows) (hn : rows.length ≤ 1000000) (hm : ∀ r ∈ rows, r.length ≤ 1000000) :
    Calls Try.prog 41 #[.agg kF, v] w (RB w (.int .i64 (checkF (bitsF rows)))) := by
  obtain ⟨a, n, c, rfl, rfl, hcells⟩ := hv
  have HC := Lib.hid hcells
  have HM := Lib.hid hm
  have H4 := Lib.hid (checkF_many rows)
  have H140 := Lib.hid (checkF_shape rows)
  have H5 := Lib.hid (checkF_real rows)
  have H0 := Lib.hid (checkF_ok rows)
  clear hcells hm
  by_cases h0 : rows.length = 0
  · have H := Lib.hid (H4.out (.inl h0))
    unfold kF
    rw [h0]
    go_enter Try.func41, Try.ntmps41
    go_wp2_with fail
    go_ret
    exact ⟨by rw [H.out]; rfl, (Below.refl _ _).alloc (Nat.le_refl _) _⟩
  by_cases h1 : 128 < rows.length
  · have H := Lib.hid (H4.out (.inr h1))
    have e0 : (((rows.length : Nat) : Int) == 0) = false := by rw [beq_eq_false_iff_ne]; omega
    unfold kF
    go_enter Try.func41, Try.ntmps41
    go_wp2_with fail
    go_ret
    exact ⟨by rw [H.out]; rfl, (Below.refl _ _).alloc (Nat.le_refl _) _⟩
  obtain ⟨b, off, rfl, hcell⟩ := HC.out.resolve_left h0
  have HC2 := Lib.hid hcell
  have hblt : b < w.heap.size := by
    obtain ⟨rv, h, _⟩ := hcell 0 (by omega)
    exact World.block_lt_of_cell? w _ h
  clear hcell HC
  have HH : Hid (¬ (rows.length = 0 ∨ 128 < rows.length)) := by intro h; rcases h with h | h <;> contradiction
  have e0 : (((rows.length : Nat) : Int) == 0) = false := by rw [beq_eq_false_iff_ne]; omega
  have e1 : ((128 : Int) < rows.length) = False := by simp; omega
  unfold kF
  go_enter Try.func41, Try.ntmps41
  go_wp2_with fail
  go_loop [20] (fun i => ∃ k : Nat, k ≤ rows.length ∧ i = .int .i64 k ∧ Hid ((rows.take k).all (fun r => r.length == rows.length) = true)) (fun i => rows.length - (intOf i).toNat)
  case atStart => exact ⟨0, Nat.zero_le _, rfl, by simp [Hid]⟩
  case round =>
    obtain ⟨k, hk, rfl, hpre⟩ := hrel
    by_cases hlt : k < rows.length
    · obtain ⟨rv, hc, m, rn, rc, rfl, hrl, hrest⟩ := HC2.out k hlt
      have HS := Lib.hid (takeall_snoc (fun r => r.length == rows.length) rows [] k hlt)
      have HN := Lib.hid (all_no (fun r => r.length == rows.length) rows [] k hlt)
      generalize rows.getD k [] = r at *
      subst hrl
      clear hrest
      by_cases hs : r.length = rows.length
      · have hs1 : (((r.length : Nat) : Int) != rows.length) = false := by simp [hs]
        have HS' : Hid ((rows.take (k + 1)).all (fun r => r.length == rows.length) = true) := by
          unfold Hid; rw [HS.out, hpre.out]; simp [hs]
        clear hs HS
        go_wp2_with fail
        go_round
        case rel => exact ⟨k + 1, by omega, by go_num, HS'⟩
        case measure => simp [intOf]; omega
      · have hs1 : (((r.length : Nat) : Int) != rows.length) = true := by rw [bne_iff_ne]; omega
        have H := Lib.hid (H140.out HH.out (HN.out (by simpa using hs)))
        clear hs HS HN
        go_wp2_with fail
        go_ret
        exact ⟨by rw [H.out]; rfl, (Below.refl _ _).alloc (Nat.le_refl _) _⟩
    · have hpre' := hpre.out
      rw [List.take_of_length_le (by omega)] at hpre'
      have HP := Lib.hid hpre'
      clear hpre' hpre
      go_wp2_with fail
      go_loopw [32] (fun i wr => ∃ k : Nat, k ≤ rows.length ∧ i = .int .i64 k ∧ Hid ((rows.take k).all (fun r => r.all finB) = true) ∧ Below w.heap.size w wr ∧ BoxF wr w.heap.size) (fun i _ => rows.length - (intOf i).toNat)
      case atStart => exact ⟨0, Nat.zero_le _, rfl, by simp [Hid], (Below.refl _ _).alloc (Nat.le_refl _) _, BoxF.made w⟩
      case round =>
        obtain ⟨k, hk, rfl, hpre, hb, hbox⟩ := hrel
        by_cases hlt : k < rows.length
        · obtain ⟨rv, hc0, hf0⟩ := HC2.out k hlt
          have hc : wr.cell? ⟨b, off + k, none⟩ = some rv := (hb.cell (p := ⟨b, off + k, none⟩) hblt).trans hc0
          have HF := Lib.hid (hf0.below hb)
          have hlen : (rows.getD k []).length = rows.length := by
            have := List.all_eq_true.1 HP.out (rows.getD k []) (by simp [List.getD, hlt])
            simpa using this
          have HL := Lib.hid hlen
          have HS := Lib.hid (takeall_snoc (fun r => r.all finB) rows [] k hlt)
          have HN := Lib.hid (all_no (fun r => r.all finB) rows [] k hlt)
          generalize rows.getD k [] = r at *
          obtain ⟨q0, q1, q2, q3⟩ := hbox.cells
          have hsz := hbox.lt
          have HB := Lib.hid hb
          have HX := Lib.hid hbox
          clear hc0 hf0 hlen hb hbox
          cases hfin : r.all finB
          · have HE := Lib.hid (besideF_no r rows.length HL.out hfin)
            have H := Lib.hid (H5.out HH.out HP.out (HN.out hfin))
            clear hfin
            go_wp2_with (go_at_call 45; refine (beside_any _ r _ _ HF.out (by omega) (by rw [HL.out]; omega)).mono ?_; rw [HE.out]; rintro e w' ⟨rfl, hb'⟩)
            go_ret
            exact ⟨by rw [H.out]; rfl, HB.out.trans (hb'.mono (by omega))⟩
          · have HE := Lib.hid (besideF_yes r rows.length HL.out hfin)
            have HS' : Hid ((rows.take (k + 1)).all (fun r => r.all finB) = true) := by
              unfold Hid; rw [HS.out, hpre.out]; exact hfin
            clear hfin
            go_wp2_with (go_at_call 45; refine (beside_any _ r _ _ HF.out (by omega) (by rw [HL.out]; omega)).mono ?_; rw [HE.out]; rintro e w' ⟨rfl, hb'⟩)
            go_roundw
            case rel => exact ⟨k + 1, by omega, by go_num, HS', HB.out.trans (hb'.mono (by omega)), HX.out.below hb' hsz⟩
            case measure => simp [intOf]; omega
        · have hpre' := hpre.out
          rw [List.take_of_length_le (by omega)] at hpre'
          have H := Lib.hid (H0.out HH.out HP.out hpre')
          have HB := Lib.hid hb
          clear hpre' hpre hb hbox
          go_wp2_with fail
          go_ret
          exact ⟨by rw [H.out]; rfl, HB.out⟩
end Go.Proofs.Ytghhanifakllpaa

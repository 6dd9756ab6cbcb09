/- package solve over float64: what is wrong with lists and systems. -/
import Derived.Test.YtghhanifakllpaaA
namespace Go.Proofs.Ytghhanifakllpaa
open Go.RowKit

/-- A call that gives v, and touches nothing that was there. -/
def RB (w : World) (v : Value) (e : Ending) (w' : World) : Prop := e = .returned v ∧ Below w.heap.size w w'

/-- A slice of floats in memory, read whole: 'bits' are the floats' bits. -/
def FSl (w : World) (v : Value) (bits : List Nat) : Prop :=
  ∃ a n c, v = .slice a n c ∧ bits.length = n ∧ (∀ x ∈ bits, W64 x) ∧
    (n = 0 ∨ ∃ b off, a = some ⟨b, off, none⟩ ∧ ∀ i, i < n → w.cell? ⟨b, off + i, none⟩ = some (.float .f64 (bits.getD i 0)))

theorem FSl.below {w w' : World} {v : Value} {bits : List Nat} (h : FSl w v bits) (hb : Below w.heap.size w w') : FSl w' v bits := by
  obtain ⟨a, n, c, h1, h2, h3, h4⟩ := h
  refine ⟨a, n, c, h1, h2, h3, ?_⟩
  rcases h4 with h4 | ⟨b, off, ha, hc⟩
  · exact .inl h4
  · refine .inr ⟨b, off, ha, fun i hi => ?_⟩
    have h := hc i hi
    rw [hb.cell (p := ⟨b, off + i, none⟩) (World.block_lt_of_cell? w _ h)]
    exact h

theorem W_getD {bits : List Nat} (h : ∀ x ∈ bits, W64 x) {i : Nat} (hi : i < bits.length) : W64 (bits.getD i 0) := by
  simp [List.getD, hi]; exact h _ (List.getElem_mem _)

/-- What is wrong with a list beside so many rows. -/
def besideF (xs : List F) (n : Nat) : Int := if xs.length = n then (if xs.all ffin then 0 else 5) else 140
theorem besideF_bits (bits : List Nat) (n : Nat) : besideF (bits.map fl) n = if bits.length = n then (if bits.all finB then 0 else 5) else 140 := by
  have hall : (bits.map fl).all ffin = bits.all finB := by
    rw [List.all_map]; congr; funext x; exact (finB_eq x).symm
  unfold besideF
  rw [hall, List.length_map]

theorem all_take_snoc (bits : List Nat) (k : Nat) (h : k < bits.length) : ((bits.take (k + 1)).all finB) = ((bits.take k).all finB && finB (bits.getD k 0)) := by
  rw [List.take_succ_eq_append_getElem h, List.all_append]
  simp [List.getD, h]
theorem all_not (bits : List Nat) (k : Nat) (h : k < bits.length) (hf : finB (bits.getD k 0) = false) : bits.all finB = false := by
  rw [List.all_eq_false]
  refine ⟨bits.getD k 0, ?_, by rw [hf]; simp⟩
  simp [List.getD, h]

set_option maxHeartbeats 400000 in
theorem beside_any (v : Value) (bits : List Nat) (n : Nat) (w : World) (hv : FSl w v bits) (hn : n ≤ 1000000) (hb : bits.length ≤ 1000000) :
    Calls Try.prog 45 #[.agg kF, v, .int .i64 n] w (RB w (.int .i64 (besideF (bits.map fl) n))) := by
  obtain ⟨a, m, c, rfl, rfl, hW, hcells⟩ := hv
  have hF := besideF_bits bits n
  have HW := Lib.hid hW
  have HC := Lib.hid hcells
  clear hW hcells
  by_cases hlen : bits.length = n
  · subst hlen
    rw [if_pos rfl] at hF
    have H0 : Hid (bits.all finB = true → besideF (bits.map fl) bits.length = 0) := fun h => by rw [hF, h]; rfl
    have H5 : Hid (bits.all finB = false → besideF (bits.map fl) bits.length = 5) := fun h => by rw [hF, h]; rfl
    clear hF
    unfold kF
    go_enter Try.func45, Try.ntmps45
    go_wp2_with fail
    go_loop [15] (fun i => ∃ k : Nat, k ≤ bits.length ∧ i = .int .i64 k ∧ Hid ((bits.take k).all finB = true)) (fun i => bits.length - (intOf i).toNat)
    case atStart => exact ⟨0, Nat.zero_le _, rfl, by simp [Hid]⟩
    case round =>
      obtain ⟨k, hk, rfl, hpre⟩ := hrel
      by_cases hlt : k < bits.length
      · obtain ⟨b, off, rfl, hcell⟩ := HC.out.resolve_left (by omega)
        have hc := hcell k hlt
        have HX := Lib.hid (W_getD HW.out hlt)
        have HS := Lib.hid (all_take_snoc bits k hlt)
        have HN := Lib.hid (all_not bits k hlt)
        generalize bits.getD k 0 = x at hc HX HS HN
        clear hcell
        have hblt : b < w.heap.size := World.block_lt_of_cell? w _ hc
        cases hfin : finB x
        · go_wp2_with (go_at_call 43; refine (finite_any _ _ HX.out).mono ?_; rintro e w' ⟨rfl, rfl⟩)
          go_ret
          exact ⟨by rw [H5.out (HN.out hfin)]; rfl, (Below.refl _ _).alloc (Nat.le_refl _) _⟩
        · go_wp2_with (go_at_call 43; refine (finite_any _ _ HX.out).mono ?_; rintro e w' ⟨rfl, rfl⟩)
          go_round
          case rel => exact ⟨k + 1, by omega, by go_num, by unfold Hid; rw [HS.out, hpre.out, hfin]; rfl⟩
          case measure => simp [intOf]; omega
      · have hpre' := hpre.out
        rw [List.take_of_length_le (by omega)] at hpre'
        have HP := Lib.hid hpre'
        clear hpre' hpre
        go_wp2_with fail
        go_ret
        exact ⟨by rw [H0.out HP.out]; rfl, (Below.refl _ _).alloc (Nat.le_refl _) _⟩
  · rw [if_neg hlen] at hF
    have H := Lib.hid hF
    clear hF
    have hb1 : (((bits.length : Nat) : Int) != n) = true := by rw [bne_iff_ne]; omega
    unfold kF
    go_enter Try.func45, Try.ntmps45
    go_wp2_with fail
    go_ret
    exact ⟨by rw [H.out]; rfl, (Below.refl _ _).alloc (Nat.le_refl _) _⟩
end Go.Proofs.Ytghhanifakllpaa

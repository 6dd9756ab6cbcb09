/- The document's steps, in the clean executor: the whole. -/
import Derived.Test.YtghhanifakllpaaY8
namespace Go.Proofs.Ytghhanifakllpaa
open Go.Clean

variable {known : Known}
set_option maxHeartbeats 1000000 in
set_option maxRecDepth 10000 in
theorem doc_steps (K : KN known) (n : Nat) (rs : List (List F)) (vin bin : Value) (bs : List F) (m : Mem) (hw0 : WF m) (hv : FM m vin rs) (hbv : FL m bin bs) (hlen : ∀ i, i < rs.length → (rat' rs i).length = rs.length) (hpos : 0 < rs.length) (hlen2 : rs.length ≤ 128) {M : Mx}
    (hM : ∀ i j, i < rs.length → j < rs.length → M i j = fat (rat' rs i) j) (hMB : ∀ i, i < rs.length → M i rs.length = if bs.length = rs.length then fat bs i else fzero) {Q : Value → Mem → Prop}
    (hQ : ∀ m' kd s5 v l ρ rw, (∀ c, c < m.next → m'.at c = m.at c) → Lay m' kd (m.next + 1) s5 v l (stepsS rs.length M).2 rs.length ρ rw → Cont l ρ rw rs.length (stepsS rs.length M).1 → Q (.agg ⟨[v 1, v 2, v 3, v 4, v 5, .bool (stepsS rs.length M).2]⟩) m') :
    Gives (callN Try.prog known (n + 3) 49 [vin, bin]) m Q := by
  refine gives_fn (nt := 244) (K.steps _) Try.func49 rfl rfl rfl (Nat.le_of_ble_eq_true rfl) fun fr hn hd hargs => ?_
  have h0 : fr.at 0 = _ := hargs 0 _ rfl
  have h1 : fr.at 1 = _ := hargs 1 _ rfl
  clear hargs
  simp [h0, hn, oneV, nilV]
  have hwA : WF (m.nw ⟨[nilV, nilV, nilV, nilV, nilV, .bool false], 1, false, false⟩) := by
    intro c y hc
    simp only [Mem.at_nw, Mem.next_nw] at hc ⊢
    split at hc
    · omega
    · have := hw0 c y hc; omega
  refine doc_rows K.rows (n + 1) rs vin _ hwA ?_ hlen hpos (by omega) fun m1 ρ b hR hb1 hb2 hb3 hb4 => ?_
  · exact hv.old hw0 fun c hc => by simp only [Mem.at_nw]; rw [if_neg (by omega)]
  have hb := build88 b rs.length
  unfold lst nilV at hb
  obtain ⟨va, vc, hvin, _⟩ := id hv
  simp [hn, hb, oneV, nilV, h0, hvin]
  refine storeQ_rule (y := ⟨[nilV, nilV, nilV, nilV, nilV, .bool false], 1, false, false⟩) (by simp [nilV]) rfl (by simp [oneV]) (lay6 _ _ _ _ _ _ _ _ _ _ _ _) fun m3 n3 _ e3 => ?_
  simp only [Mem.next_nw, Mem.at_nw] at n3 e3
  simp [hn, h0, hvin]
  have hnx := hR.next
  simp only [Mem.next_nw] at hnx hb1
  refine code_loop (L1I m vin bin rs M m.next (m.next + 1)) rs.length (by omega) ⟨0, _, m1.next, _, _, ρ, _, by simp, by simp [hn], by simp [hd], by simp [h0, hvin], by simp [h1], by simp, by simp, by simp, by simp, by omega, fun c hc => ?_, ⟨[nilV, nilV, nilV, nilV, nilV, .bool false], ?_, rfl⟩, start_lay hR hb1 hb2 hb3 hb4 hpos ?_ ?_, rfl, fun _ _ => rfl, rfl, rfl, rfl, rfl⟩ ?_
  · rw [e3, if_neg (by omega), if_neg (by omega), hR.old c (by simp; omega)]
    simp
    intro h; omega
  · rw [e3, if_neg (by omega), if_neg (by omega), hR.old m.next (by simp)]
    simp [nilV]
  · exact n3
  · intro c
    rw [e3]
    by_cases h : c = m1.next
    · rw [if_pos h, if_pos h]; rfl
    · rw [if_neg h, if_neg h, if_neg h]
  rintro j fr' m' ⟨i, kd, s5, v, l, ρ, rw, hij, hn', hd', g0, g1, g4, g5, g6, g7, hbn, hold, hr4, hL, l1, hrw, l2, l3, l4, l5⟩
  have hw := wrap_succ i
  by_cases hi : i < rs.length
  · have hcell := hL.cell
    have hl3 : (l 3).length = i := by rw [l3]; simp
    have hl2 : (l 2).length = i := by rw [l2]; simp
    simp [g7, g6, g5, hn', hi, hcell, rec5]
    refine gives_build1 bs29 rfl rfl ?_
    simp [hn']
    refine hL.append (k := 3) hbn (by omega) (by omega) app29 (x := .int .i64 (i : Nat)) rfl (by omega) ?_ ?_ ?_ fun m2 n2 s2 o2 mk2 => ?_
    · simp
    · simp
    · intro c hc; simp [hc]
    simp [hn', g5, lst]
    refine storeQ_one (cs := [v 1, v 2, v 3, v 4, v 5, .bool true]) (sz := 1) (gr := false) (by simpa [rec5] using s2) (by simp [cellsV, oneV]) rfl (by simp) fun m3 n3 _ e3 => ?_
    have hL3 := mk2 m3 _ n3 rfl (fun c => by rw [e3]; simp [rec5, lst])
    have hold3 : ∀ c, c < m.next + 1 → m3.at c = m'.at c := fun c hc => by rw [e3, if_neg (by have := hL.own.2; omega), o2 c hc]
    obtain ⟨w3, hw3⟩ : ∃ w3, w3 = fun j => if j = 3 then lst (m'.next + 1) ((l 3).length + 1) else v j := ⟨_, rfl⟩
    rw [← hw3] at hL3
    have hbv3 : FL m3 bin bs := hbv.old hw0 fun c hc => by rw [hold3 c (by omega), hold c hc]
    obtain ⟨ba, bc, rfl, hbx⟩ := hbv3
    have hc3 := hL3.cell
    by_cases hbl : bs.length = rs.length
    · simp [hn', g1, g6, hbl]
      refine code_draw_dyn (plan := [0, 1, 0, 0, 12, 28, 60, 127, 255, 511]) (by kernel_rfl) ?_
      rcases hbx with hbx | ⟨b, o, x, rfl, hb, hc⟩
      · exact absurd hbx.2.1 (by omega)
      have hci := hc i (by omega)
      simp [hn', g1, g5, g7, hc3, rec5, hb, hci, hbl, idx24 _ _ _ _ _ _ hi, drawQ, apartAll, apartL]
      refine gives_build1 bs24 rfl rfl ?_
      have hs5 := hL3.wf _ _ hc3
      simp [hn', drawQ, apartAll, apartL, Nat.testBit]
      refine ⟨by omega, ?_⟩
      refine hL3.append (k := 2) (by omega) (by omega) (by omega) app24 (x := fv (fat bs i)) rfl (by simp; omega) ?_ ?_ ?_ fun m4 n4 s4 o4 mk4 => ?_
      · simp
      · simp [fv]
      · intro c hc; simp [hc]
      simp [hn', g5, lst, drawQ, apartAll, apartL, Nat.testBit]
      refine storeQ_one (cs := [w3 1, w3 2, w3 3, w3 4, w3 5, .bool true]) (sz := 1) (gr := false) (by simpa [rec5] using s4) (by simp [cellsV, oneV]) rfl (by simp) fun m5 n5 g5' e5 => ?_
      simp only [Mem.next_lg, Mem.at_lg] at n5 e5
      have hL5 := mk4 m5 _ n5 rfl (fun c => by rw [e5]; simp [rec5, lst])
      have hold5 : ∀ c, c < m.next + 1 → m5.at c = m'.at c := fun c hc => by rw [e5, if_neg (by have := hL.own.2; omega), o4 c hc, hold3 c hc]
      simp [drawQ, apartAll, apartL, Nat.testBit, hn', g7, hw (by omega)]
      refine ⟨j - 1, by omega, i + 1, _, s5, _, _, ρ, rw, by omega, by simp [hn'], by simp [hd'], by simp [g0], by simp [g1, hbl], by simp [g4], by simp [g5], by simp [g6], by simp, by simp; omega, fun c hc => by rw [Mem.at_lg, hold5 c (by omega), hold c hc], by rw [Mem.at_lg, hold5 _ (by omega)]; exact hr4, hL5.same (Nat.le_refl _) (fun _ => rfl), by simp [l1], hrw, ?_, ?_, by simp [l4], by simp [l5]⟩
      · simp [l2, List.range_succ, hMB i hi, hbl]
      · simp [l3, List.range_succ]
    · have hbl' : ¬ (bs.length : Int) = (rs.length : Int) := by omega
      simp [hn', g1, g5, g6, hbl', hc3, rec5]
      refine gives_build1 bs24 rfl rfl ?_
      simp [hn']
      refine hL3.append (k := 2) (by omega) (by omega) (by omega) app24 (x := fv fzero) rfl (by simp; omega) ?_ ?_ ?_ fun m4 n4 s4 o4 mk4 => ?_
      · simp
      · simp [fv, cOf_zero]
      · intro c hc; simp [hc]
      simp [hn', g5, lst]
      refine storeQ_one (cs := [w3 1, w3 2, w3 3, w3 4, w3 5, .bool true]) (sz := 1) (gr := false) (by simpa [rec5] using s4) (by simp [cellsV, oneV]) rfl (by simp) fun m5 n5 g5' e5 => ?_
      have hL5 := mk4 m5 _ n5 rfl (fun c => by rw [e5]; simp [rec5, lst])
      have hold5 : ∀ c, c < m.next + 1 → m5.at c = m'.at c := fun c hc => by rw [e5, if_neg (by have := hL.own.2; omega), o4 c hc, hold3 c hc]
      simp [hn', g7, hw (by omega)]
      refine ⟨j - 1, by omega, i + 1, _, s5, _, _, ρ, rw, by omega, by simp [hn'], by simp [hd'], by simp [g0], by simp [g1], by simp [g4], by simp [g5], by simp [g6], by simp, by omega, fun c hc => by rw [hold5 c (by omega), hold c hc], by rw [hold5 _ (by omega)]; exact hr4, hL5, by simp [l1], hrw, ?_, ?_, by simp [l4], by simp [l5]⟩
      · simp [l2, List.range_succ, hMB i hi, hbl]
      · simp [l3, List.range_succ]
  · have hi' : i = rs.length := by omega
    subst hi'
    simp [g7, g6, hn']
    obtain ⟨y4, hy4, hy4l⟩ := hr4
    have hsys : SysAt m' (m.next + 1) s5 true rs.length (startS M) := by
      refine ⟨kd, v, l, ρ, rw, hL, ⟨by rw [l1]; simp, fun i hi => ?_⟩, fun i hi => ⟨by rw [hrw i hi]; simp [hlen i hi], fun j hj => ?_⟩, ⟨by rw [l2]; simp, fun i hi => ?_⟩, ⟨by rw [l3]; simp, fun i hi => ?_⟩, by rw [l4]; rfl, by rw [l5]; rfl⟩
      · rw [l1]; simp [hi, hdr]
      · rw [hrw i hi, fat_map _ (by rw [hlen i hi]; exact hj)]
        show _ = some (Value.float .f64 (cOf (M i j)))
        rw [hM i j hi hj]
      · rw [l2]; simp [hi, fv, startS]
      · rw [l3]; simp [hi, startS]
    refine via (X := pMain (bodyOf Try.f49)) (by kernel_rfl) (main_loop K (n + 0) (base := m.next + 1) (r4 := m.next) (s5 := s5) (N := rs.length) (S := startS M) hlen2 ⟨by simp [hn'], by simp [hd'], by simp [g4], by simp [g5], by simp [g6], by simp⟩ ⟨y4, hy4, hy4l⟩ (Nat.lt_succ_self _) hsys ⟨rfl, rfl⟩ (fun fr2 m2 k hF ho hS2 hok => ?_) (fun fr2 m2 k kd2 v2 l2 ρ2 rw2 hF ho hL2 hC2 hr hok => ?_))
    · obtain ⟨f1, f2, f3, f4, f5, f6⟩ := hF
      obtain ⟨kd2, v2, l2, ρ2, rw2, hL2, hC2⟩ := hS2
      have hc2 := hL2.cell
      have hs5 := hL2.own.2
      simp [f1, f3, f4, hc2, rec5, ld88, takeN]
      refine storeQ_rule (y := ⟨y4, 1, false, false⟩) (by simp [ho m.next (by omega), hy4]) rfl ?_ (lay_all _ _ (by rw [hy4l]; rfl)) fun m8 n8 _ e8 => ?_
      · simp [oneV_v hL2]
        simp [oneV]
      simp only [Mem.next_rd, Mem.at_rd] at n8 e8
      have hw8 : WF m8 := fun c x hc => by
        rw [n8]
        rw [e8] at hc
        split at hc
        · have := hL2.wf s5 _ hc2; omega
        · exact hL2.wf c x hc
      have h8 : m8.at m.next = some ⟨[v2 1, v2 2, v2 3, v2 4, v2 5, .bool true], 1, false, false⟩ := by rw [e8, if_pos rfl]; rfl
      simp [f2, f3, h8, ld88, takeN]
      have hQ' := hQ (m8.rd m.next) kd2 s5 v2 l2 ρ2 rw2 (fun c hc => by rw [Mem.at_rd, e8, if_neg (by omega), ho c (by omega), hold c hc]) (by rw [show (stepsS rs.length M).2 = true from hok]; exact (hL2.frame hw8 fun c hc => by rw [e8, if_neg (by omega)]).same (Nat.le_refl _) fun _ => rfl) hC2
      rw [show (stepsS rs.length M).2 = true from hok] at hQ'
      exact hQ'
    · obtain ⟨f1, f2, f3, f4, f5, f6⟩ := hF
      simp [f2, f3, hr, rec5, ld88, takeN]
      have hQ' := hQ (m2.rd m.next) kd2 s5 v2 l2 ρ2 rw2 (fun c hc => by rw [Mem.at_rd, ho c (by omega) (by omega), hold c hc]) (by rw [show (stepsS rs.length M).2 = false from hok]; exact hL2.same (Nat.le_refl _) fun _ => rfl) hC2
      rw [show (stepsS rs.length M).2 = false from hok] at hQ'
      exact hQ'
end Go.Proofs.Ytghhanifakllpaa

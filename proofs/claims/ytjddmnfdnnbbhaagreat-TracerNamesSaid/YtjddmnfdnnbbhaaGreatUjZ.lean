/- The law TracerNames in the clean executor, by triples. -/
import Derived.Test.YtjddmnfdnnbbhaaGreatUmZ
set_option linter.unusedSimpArgs false
set_option linter.unusedVariables false
namespace Go.Proofs.YtjddmnfdnnbbhaaGreat
open Go Go.RowKit Go.Clean
section
set_option maxRecDepth 10000
set_option maxHeartbeats 8000000
theorem names_ok {m : Mem} (hw : MW m) {Q : Value → Mem → Prop} (hQ : ∀ m', Up m m' → Q (.bool true) m') : TF Tryz.prog 3 [] m Q := by
  have E := exec_ok 20
  refine TF.body E Tryz.func3 rfl (Nat.le_of_ble_eq_true rfl) fun B hB hBm => ?_
  rw [show m.next = B.bs.m.next by rw [hBm]]
  have hbn : B.bs.m.next = m.next := by rw [hBm]
  generalize hfr : (⟨putArgs [] 0 .leaf, (Tryz.f3).ntmps, []⟩ : Fr) = fr
  have f1 : fr.n = 199 := by rw [← hfr]; exact Tryz.ntmps3
  have f2 : fr.d = [] := by rw [← hfr]
  clear hfr
  refine TS.seq (TS.gives E hB (.inl rfl) ?_)
  simp [f1]
  refine TS.seq (TS.region ?_)
  refine TO.call hB (vs := []) rfl (by simp [f1]) (alive_ok hw fun m0 u0 => ?_)
  have w0 := u0.wf hw
  refine TO.gives E hB (.inl rfl) ?_
  simp [f1]
  refine TS.seq (TS.gives E hB (.inl rfl) ?_)
  simp [f1]
  refine TS.seq (TS.gives E hB (.inl rfl) ?_)
  simp [f1]
  refine plain_ok _ fun m1 v u1 hel hvb => ?_
  obtain ⟨bv, rfl, hbv⟩ := hvb
  simp [f1, zero_Fl, zero_Ru, ruZ]
  refine storeQ_rule (y := ⟨[nilL], 1, false, false⟩) (by simp [show ¬ m1.next = m1.next + 1 by omega]) rfl (by rw [sto_Fw]; simp) (l := [.slice (some ⟨bv, 0, none⟩) 1 1]) rfl fun m2 n2 l2 e2 => ?_
  have w1 := u1.wf w0
  obtain ⟨q1, hq1⟩ : ∃ q1, q1 = m1.next := ⟨_, rfl⟩
  have u2 : Up m1 m2 := Up.wr (m1 := (m1.nw ⟨[nilL], 1, false, false⟩).nw ⟨[.float .f64 0, .int .i64 0, .float .f64 0, .complex .f64 0 0, .complex .f64 0 0], 1, false, false⟩) ((Up.nw _ _).trans (Up.nw _ _)) (b := m1.next) (Nat.le_refl _) (by simp; omega) n2 e2
  simp only [Mem.next_nw, Mem.at_nw] at n2 e2
  rw [← hq1] at n2 e2 ⊢
  have c1 : m2.at q1 = some ⟨[.slice (some ⟨bv, 0, none⟩) 1 1], 1, false, false⟩ := by rw [e2, if_pos rfl]
  have c2 : m2.at (q1 + 1) = some ⟨[.float .f64 0, .int .i64 0, .float .f64 0, .complex .f64 0 0, .complex .f64 0 0], 1, false, false⟩ := by rw [e2, if_neg (by omega), if_pos rfl]
  clear e2 l2
  simp [f1]
  refine storeQ_rule (y := ⟨[.float .f64 0, .int .i64 0, .float .f64 0, .complex .f64 0 0, .complex .f64 0 0], 1, false, false⟩) c2 rfl sto_Ru (l := ruL) rfl fun m3 n3 l3 e3 => ?_
  have u3 : Up m1 m3 := u2.wr (b := q1 + 1) (by omega) (by omega) n3 e3
  have A3 : AL m m3 q1 (q1 + 1) (.slice (some ⟨bv, 0, none⟩) 1 1) := ⟨u0.trans (u1.trans u3), by rw [e3, if_neg (by omega)]; exact c1, by rw [e3, if_pos rfl], hel.up w1 u3⟩
  clear e3 c1 c2 u2 n2 l3 hel
  have w3 := A3.up.wf hw
  obtain ⟨q2, hq2⟩ : ∃ q2, q2 = q1 + 1 := ⟨_, rfl⟩
  rw [← hq2] at A3 ⊢
  simp [f1]
  refine TS.seq (TS.gives E hB (.inl rfl) ?_)
  simp [f1]
  refine gives_makeT (n := 4097) mk_T (by omega) ?_
  rw [repeat_T]
  obtain ⟨BL, hBL⟩ : ∃ L, L = List.replicate 4097 tr0 := ⟨_, rfl⟩
  have hlen : BL.length = 4097 := by rw [hBL, List.length_replicate]
  have hget : ∀ i, i < 4097 → BL[i]? = some tr0 := fun i hi => by rw [hBL, List.getElem?_replicate, if_pos hi]
  rw [← hBL]
  clear hBL
  simp [f1]
  obtain ⟨m4, hm4⟩ : ∃ m4, m4 = m3.nw ⟨flatT BL, 3, false, false⟩ := ⟨_, rfl⟩
  obtain ⟨bg, hbg⟩ : ∃ bg, bg = m3.next := ⟨_, rfl⟩
  have u4 : Up m3 m4 := by rw [hm4]; exact Up.nw _ _
  have hbig : m4.at bg = some ⟨flatT BL, 3, false, false⟩ := by rw [hm4, hbg]; simp
  have A4 := A3.to hw u4
  have w4 := A4.up.wf hw
  rw [← hm4, ← hbg]
  clear hm4 hbg A3 u4 n3 u3 hq1 hq2
  refine TS.seq (TS.gives E hB (.inl rfl) ?_)
  simp [f1, A4.c1, A4.c2]
  have u5' : Up m4 ((m4.rd q1).rd q2) := Up.same (by simp) fun c => by simp
  refine run_no (n := 0) 12 (u5'.wf w4) (A4.el.up w4 u5') okay1 (check_many (c := 4097) (by omega) (by omega)) (by simp) (.inl (by decide)) fun m5 u5 => ?_
  have U5 := u5'.trans u5
  have A5 := A4.to hw U5
  have w5 := A5.up.wf hw
  have hbig := U5.at hbig w4
  simp [f1]
  refine (show ∀ fg : Fr, fg.n = 199 → fg.d = [] → fg.at 2 = .pointer (some ⟨q1, 0, none⟩) → fg.at 3 = .pointer (some ⟨q2, 0, none⟩) → fg.at 4 = .slice (some ⟨bg, 0, none⟩) 4097 4097 → fg.at 6 = .int .i64 4 → TS B none _ () fg m5 _ from ?_) _ (by simp [f1]) (by simp [f2]) (by simp) (by simp) (by simp) (by simp)
  clear f1 f2 w4 A4 u5' u5 U5
  intro fg f1 f2 a2 a3 a4 a6
  refine TS.seq (TS.drawM hB mix (n := 10) rfl rfl ?_)
  refine TA.pre (M0 := 0) (M1 := 15) (k := 6) (deps := [0, 0, 2, 0, 15, 31, 63, 63, 127, 511]) (by kernel_rfl) (fun mask fr m => fr.n = 199 ∧ fr.d = [] ∧ (∀ t, t < 44 → fr.at t = fg.at t) ∧ Up m5 m ∧
    (bitOn mask 0 → fr.at 45 = .agg ⟨[.slice (some ⟨bv, 0, none⟩) 1 1]⟩) ∧ (bitOn mask 1 → fr.at 46 = .slice (some ⟨bg, 0, none⟩) 4097 4097) ∧ (bitOn mask 2 → fr.at 47 = .slice (some ⟨bg, 0, none⟩) 4096 4097) ∧ (bitOn mask 3 → fr.at 48 = ruV))
    ?_ ?_ 4 0 fg m5 (by kernel_rfl) (by omega) (by kernel_rfl) (by kernel_rfl) ⟨f1, f2, fun _ _ => rfl, Up.refl _, fun h => (bit0 h).elim, fun h => (bit0 h).elim, fun h => (bit0 h).elim, fun h => (bit0 h).elim⟩
  · rintro mask i fr m hno hdp hle ⟨h1, h2, hk, u, b0, b1, b2, b3⟩
    have hi := lt_of_pow (c := 4) hle (by decide)
    have w := u.wf w5
    have c1 := u.at A5.c1 w5
    have c2 := u.at A5.c2 w5
    have cg := u.at hbig w5
    have e2 := hk 2 (by omega)
    have e3 := hk 3 (by omega)
    have e4 := hk 4 (by omega)
    rw [a2] at e2
    rw [a3] at e3
    rw [a4] at e4
    obtain rfl | rfl | rfl | rfl : i = 0 ∨ i = 1 ∨ i = 2 ∨ i = 3 := by omega
    · refine T1.keep E hB rfl (.inl rfl) ?_
      simp [h1, e2, c1]
      exact ⟨h2, fun t ht => by rw [if_neg (by omega)]; exact hk t ht, u.trans (Up.rd _ _), fun hb => b1 (bon hb (by decide)), fun hb => b2 (bon hb (by decide)), fun hb => b3 (bon hb (by decide))⟩
    · refine T1.keep E hB rfl (.inl rfl) ?_
      simp [h1, e4]
      exact ⟨h2, fun t ht => by rw [if_neg (by omega)]; exact hk t ht, u, fun hb => b0 (bon hb (by decide)), fun hb => b2 (bon hb (by decide)), fun hb => b3 (bon hb (by decide))⟩
    · have hb1 : bitOn mask 1 := bdep hdp (by decide)
      refine T1.keep E hB rfl (.inl rfl) ?_
      simp [h1, b1 hb1]
      refine gives_sliceT_hi (k := 4096) cg rfl (by omega) ?_
      simp [h1, b1 hb1]
      exact ⟨h2, fun t ht => by rw [if_neg (by omega)]; exact hk t ht, u.trans (Up.rd _ _), fun hb => b0 (bon hb (by decide)), fun hb => b3 (bon hb (by decide))⟩
    · refine T1.keep E hB rfl (.inl rfl) ?_
      simp [h1, e3, c2]
      exact ⟨h2, fun t ht => by rw [if_neg (by omega)]; exact hk t ht, u.trans (Up.rd _ _), fun hb => b0 (bon hb (by decide)), fun hb => b1 (bon hb (by decide)), fun hb => b2 (bon hb (by decide))⟩
  · rintro fr m6 ⟨h1, h2, hk, u, b0, b1, b2, b3⟩
    have b0 := b0 (by unfold bitOn; decide)
    have b2 := b2 (by unfold bitOn; decide)
    have b3 := b3 (by unfold bitOn; decide)
    clear b1
    have A6 := A5.to' w5 u
    have w6 := u.wf w5
    have cg6 := u.at hbig w5
    have lt6 : LT m6 (.slice (some ⟨bg, 0, none⟩) 4096 4097) bg 4096 4097 BL := ⟨rfl, by rw [hlen]; omega, false, cg6⟩
    refine TA.one (i := 4) (by kernel_rfl) (by kernel_rfl) ?_
    refine T1.tf hB rfl (vs := [.agg ⟨[.slice (some ⟨bv, 0, none⟩) 1 1]⟩, .slice (some ⟨bg, 0, none⟩) 4096 4097, ruV, .int .i64 1]) (by simp [b0, b2, b3]) (by simp [h1]) (run_ok (n := 1) (tr := trA) w6 A6.el okay1 lt6 (fun i hi => hget i (by omega)) mayA (by omega) (by omega) (by omega) (byA 1) fun m7 va ba ka hka hea u7 oa => ?_)
    have A7 := A6.to' w6 u7
    have w7 := u7.wf w6
    have cg7 := u7.at cg6 w6
    obtain rfl : ka = 1 := by
      rcases hea with h | h
      · exact h
      · have : ka = 0 ∨ ka = 1 := by omega
        rcases this with rfl | h'
        · exact absurd rfl h
        · exact h' 
    have U7 := u.trans u7
    clear hka hea b0 b2 b3 lt6 u7
    refine TA.pre (M0 := 31) (M1 := 1023) (k := 0) (deps := [0, 0, 2, 0, 15, 31, 63, 63, 127, 511]) (by kernel_rfl) (fun mask fr m => fr.n = 199 ∧ fr.d = [] ∧ (∀ t, t < 44 ∧ t ≠ 7 ∧ t ≠ 8 → fr.at t = fg.at t) ∧ m = m7 ∧ (∀ j, j < 5 → bitOn mask j) ∧ fr.at 49 = .tuple ⟨[va, .int .i64 0]⟩ ∧
      (bitOn mask 5 → fr.at 44 = .tuple ⟨[va, .int .i64 0]⟩) ∧ (bitOn mask 6 → fr.at 50 = va) ∧ (bitOn mask 7 → fr.at 51 = .int .i64 0) ∧ (bitOn mask 8 → fr.at 7 = va) ∧ (bitOn mask 9 → fr.at 8 = .int .i64 0))
      ?_ ?_ 5 31 _ m7 (by kernel_rfl) (by omega) (by kernel_rfl) (by kernel_rfl) ⟨by simp [h1], by simp [h2], fun t ht => by simp [show ¬ t = 49 by omega]; exact hk t ht.1, rfl, ?_, by simp [h1], ?_, ?_, ?_, ?_, ?_⟩
    · rintro mask i fr m hno hdp hle ⟨h1, h2, hk, rfl, hb, c4, c5, c6, c7, c8, c9⟩
      have hi := lt_of_pow (c := 10) hle (by decide)
      have hi5 : ¬ i < 5 := fun h => by have := hb i h; unfold bitOn at this; rw [hno] at this; cases this
      have hb' : ∀ j, j < 5 → bitOn (mask ||| 2 ^ i) j := fun j hj => by
        have := hb j hj
        unfold bitOn at *
        rw [Nat.testBit_or, this]; rfl
      obtain rfl | rfl | rfl | rfl | rfl : i = 5 ∨ i = 6 ∨ i = 7 ∨ i = 8 ∨ i = 9 := by omega
      · refine T1.keep E hB rfl (.inl rfl) ?_
        simp [h1, c4]
        exact ⟨h2, fun t x1 x2 x3 => by rw [if_neg (by omega)]; exact hk t ⟨x1, x2, x3⟩, hb', fun hb => c6 (bon hb (by decide)), fun hb => c7 (bon hb (by decide)), fun hb => c8 (bon hb (by decide)), fun hb => c9 (bon hb (by decide))⟩
      · have g5 : bitOn mask 5 := bdep hdp (by decide)
        refine T1.keep E hB rfl (.inl rfl) ?_
        simp [h1, c5 g5, c4]
        exact ⟨h2, fun t x1 x2 x3 => by rw [if_neg (by omega)]; exact hk t ⟨x1, x2, x3⟩, hb', fun hb => c7 (bon hb (by decide)), fun hb => c8 (bon hb (by decide)), fun hb => c9 (bon hb (by decide))⟩
      · have g5 : bitOn mask 5 := bdep hdp (by decide)
        refine T1.keep E hB rfl (.inl rfl) ?_
        simp [h1, c5 g5, c4]
        exact ⟨h2, fun t x1 x2 x3 => by rw [if_neg (by omega)]; exact hk t ⟨x1, x2, x3⟩, hb', fun hb => c6 (bon hb (by decide)), fun hb => c8 (bon hb (by decide)), fun hb => c9 (bon hb (by decide))⟩
      · have g6 : bitOn mask 6 := bdep hdp (by decide)
        refine T1.keep E hB rfl (.inl rfl) ?_
        simp [h1, c6 g6, c4]
        exact ⟨h2, fun t x1 x2 x3 => by rw [if_neg (by omega)]; exact hk t ⟨x1, x2, x3⟩, hb', fun hb => c5 (bon hb (by decide)), fun hb => c7 (bon hb (by decide)), fun hb => c9 (bon hb (by decide))⟩
      · have g7 : bitOn mask 7 := bdep hdp (by decide)
        refine T1.keep E hB rfl (.inl rfl) ?_
        simp [h1, c7 g7, c4]
        exact ⟨h2, fun t x1 x2 x3 => by rw [if_neg (by omega)]; exact hk t ⟨x1, x2, x3⟩, hb', fun hb => c5 (bon hb (by decide)), fun hb => c6 (bon hb (by decide)), fun hb => c8 (bon hb (by decide))⟩
    · rintro fr m ⟨h1, h2, hk, rfl, hb, c4, c5, c6, c7, c8, c9⟩
      have c8 := c8 (by unfold bitOn; decide)
      have c9 := c9 (by unfold bitOn; decide)
      refine TA.done (by kernel_rfl) ?_
      simp only [seqT_normal]
      clear c4 c5 c6 c7 hb
      have e2 := hk 2 (by omega)
      have e3 := hk 3 (by omega)
      have e4 := hk 4 (by omega)
      have e6 := hk 6 (by omega)
      rw [a2] at e2
      rw [a3] at e3
      rw [a4] at e4
      rw [a6] at e6
      refine rest8_ok hB (by have h1 := A7.up.next; omega) w7 A7 cg7 hlen hget oa.lt' h1 h2 e2 e3 e4 e6 c8 c9 fun m' u' => hQ m' (A7.up.trans u')
    · intro j hj
      obtain rfl | rfl | rfl | rfl | rfl : j = 0 ∨ j = 1 ∨ j = 2 ∨ j = 3 ∨ j = 4 := by omega
      all_goals (unfold bitOn; decide)
    all_goals (intro h; unfold bitOn at h; exact absurd h (by decide))
end
end Go.Proofs.YtjddmnfdnnbbhaaGreat

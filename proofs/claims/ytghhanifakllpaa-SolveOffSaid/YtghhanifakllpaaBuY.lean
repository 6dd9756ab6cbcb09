/- Fractions of words in the clean executor: set. -/
import Derived.Test.YtghhanifakllpaaBrY
import Derived.Test.YtghhanifakllpaaBkY
set_option linter.unusedSimpArgs false
set_option linter.unusedVariables false
namespace Go.Proofs.Ytghhanifakllpaa
open Go.Clean
theorem frac_less {mi : Bool} {N : Int} {D : Nat} {lq lq7 : List Nat} {g a d : Nat} (t7 : Tr lq7) (hgp : 0 < g) (hd : wv lq7 * g = d) (ha : wv lq * g = a) (hd0 : 0 < d) (hv : sgn mi a * (D : Int) = N * (d : Int)) : sgn mi (wv lq) * (D : Int) = N * (den lq7 : Int) := by
  have e1 : den lq7 = wv lq7 := by
    unfold den
    rw [if_neg]
    intro h
    rw [List.eq_nil_of_length_eq_zero h] at hd
    simp [wv] at hd
    omega
  rw [e1]
  have e2 : sgn mi a = sgn mi (wv lq) * (g : Int) := by
    rw [← ha]
    unfold sgn
    cases mi
    · simp
    · simp [Int.neg_mul]
  rw [e2, ← hd, Int.natCast_mul] at hv
  have hg' : (g : Int) ≠ 0 := by omega
  refine Int.eq_of_mul_eq_mul_right hg' ?_
  rw [Int.mul_assoc, Int.mul_comm (D : Int), ← Int.mul_assoc, hv, Int.mul_assoc]
section
set_option maxRecDepth 10000
theorem ratFin (e : Nat) {fr : Fr} {m : Mem} {bz : Nat} {c0 c1 c2 : Value} {mi : Bool} {va vd : Value} {a d : List Nat} {L : Nat} {N : Int} {D : Nat} (hat : m.at bz = some ⟨[c0, c1, c2], 1, false, false⟩) (hI : nonI [c0, c1, c2]) (ha : WL m va a) (hdd : WL m vd d) (ta : Tr a) (td : Tr d) (hla : a.length ≤ L) (hld : d.length ≤ L) (hL : L ≤ 60000) (hD : 0 < D)
    (hv : sgn mi (wv a) * (D : Int) = N * (den d : Int)) (hn : fr.n = 69) (hd : fr.d = []) (h0 : fr.at 0 = .pointer (some ⟨bz, 0, none⟩)) (h1 : fr.at 1 = .bool mi) (h2 : fr.at 2 = va) (h3 : fr.at 3 = vd) {Q : Value → Mem → Prop}
    (hQ : ∀ m', UpZ m m' bz → RT m' bz N D L → Q (.pointer (some ⟨bz, 0, none⟩)) m') :
    Gives (codeX Try.prog (callN Try.prog kn1 (e + 2)) (sRn 5 (bodyOf Try.f60)) fr) m (fnQ Try.prog [.tmp 8] Q) := by
  refine via (X := .seq (.region _ _ _) _) rfl ?_
  simp [hn, h0, h1, h2]
  refine intSet_ok e hat hI ha (by omega) fun m1 v1 t1 W1 => ?_
  rw [trim_tr ha.wd ta] at t1 W1
  have Wd1 := hdd.turn t1
  obtain ⟨be, hbe⟩ : ∃ be, be = (mi && decide (0 < a.length)) := ⟨_, rfl⟩
  rw [← hbe] at t1
  have hI1 : nonI [.bool be, v1, c2] := (hI.set (i := 0) (v := .bool be) (fun k x h => by cases h)).set (i := 1) (v := v1) W1.notI
  simp [hn, h0, h3]
  refine storeQ_one (cs := [.bool be, v1, c2]) (sz := 1) (gr := false) t1.is (by simp [Wd1.cell]) Wd1.cell.1 (by simp) fun m2 n2 _ e2 => ?_
  have t2 : TB m1 m2 bz [.bool be, v1, c2] [.bool be, v1, vd] := ⟨n2, fun c hc => by rw [e2, if_neg hc], t1.is, by rw [e2, if_pos rfl]; rfl, hI1⟩
  simp [hn, hd, h0]
  have W2 := W1.turn t2
  have Wd2 := Wd1.turn t2
  refine hQ m2 ((t1.trans t2).upz (nonI3 W2 Wd2)) ⟨⟨be, v1, vd, a, d, t2.is, W2, Wd2, ta, td, hla, hld, fun h h2 => ?_, ?_⟩, hD⟩
  · rw [hbe, h2] at h; simp at h
  · rw [← hv]
    congr 1
    rw [hbe]
    by_cases h0a : a.length = 0
    · have : a = [] := List.eq_nil_of_length_eq_zero h0a
      subst this
      show sgn _ 0 = sgn _ 0
      rw [sgn_zero, sgn_zero]
    · have : 0 < a.length := by omega
      simp [this]
theorem ratSet_ok (e : Nat) {m : Mem} {bz : Nat} {c0 c1 c2 : Value} {mi : Bool} {va vd : Value} {a d : List Nat} {L : Nat} {N : Int} {D : Nat} (hw : WF m) (hat : m.at bz = some ⟨[c0, c1, c2], 1, false, false⟩) (hI : nonI [c0, c1, c2]) (ha : WL m va a) (hdd : WL m vd d) (hla : a.length ≤ L) (hld : d.length ≤ L) (hL : L ≤ 60000) (hL2 : 2 ≤ L) (hD : 0 < D) (hd0 : 0 < wv d)
    (hv : sgn mi (wv a) * (D : Int) = N * (wv d : Int)) {Q : Value → Mem → Prop}
    (hQ : ∀ m', UpZ m m' bz → RT m' bz N D L → Q (.pointer (some ⟨bz, 0, none⟩)) m') :
    Gives (callN Try.prog kn1 (e + 6) 60 [.pointer (some ⟨bz, 0, none⟩), .bool mi, va, vd]) m Q := by
  refine gives_fn (nt := 69) rfl Try.func60 rfl rfl rfl (Nat.le_of_ble_eq_true rfl) fun fr hn hd hargs => ?_
  have h0 : fr.at 0 = _ := hargs 0 _ rfl
  have h1 : fr.at 1 = _ := hargs 1 _ rfl
  have h2 : fr.at 2 = _ := hargs 2 _ rfl
  have h3 : fr.at 3 = _ := hargs 3 _ rfl
  clear hargs
  refine (code_seq _ _ _ _ _).2 ?_
  simp [hn, -code_seq]
  refine (code_seq _ _ _ _ _).2 ?_
  simp [h0, h1, h2, h3, hn, -code_seq]
  refine trim_ok (e + 4) ha (by omega) fun m1 v1 o1 W1 => ?_
  simp [hn, -code_seq]
  refine (code_seq _ _ _ _ _).2 ?_
  simp [h3, hn, -code_seq]
  refine trim_ok (e + 4) (hdd.only o1) (by omega) fun m2 v2 o2 W2 => ?_
  have W1' := W1.only o2
  have o12 := o1.trans o2
  have ta := tr_trim a
  have td := tr_trim d
  have ea : wv (trimL a) = wv a := wv_trim a
  have ed : wv (trimL d) = wv d := wv_trim d
  have la : (trimL a).length ≤ L := Nat.le_trans (trimL_le a) hla
  have ld : (trimL d).length ≤ L := Nat.le_trans (trimL_le d) hld
  obtain ⟨a', ha'⟩ : ∃ x, x = trimL a := ⟨_, rfl⟩
  obtain ⟨d', hd'⟩ : ∃ x, x = trimL d := ⟨_, rfl⟩
  rw [← ha'] at W1' ta ea la
  rw [← hd'] at W2 td ed ld
  rw [← ea, ← ed] at hv
  rw [← ed] at hd0
  have hd'0 : 0 < d'.length := by
    rcases Nat.eq_zero_or_pos d'.length with h | h
    · rw [List.eq_nil_of_length_eq_zero h] at hd0; simp [wv] at hd0
    · exact h
  have eden : den d' = wv d' := by unfold den; rw [if_neg (by omega)]
  have hat2 : m2.at bz = some ⟨[c0, c1, c2], 1, false, false⟩ := (o12.2 bz).trans hat
  have u2 : Up m m2 := Up.only o12
  have hw2 := o12.wf hw
  clear W1 ha' hd'
  simp [hn, -code_seq]
  refine (code_seq _ _ _ _ _).2 ((code_seq _ _ _ _ _).2 ?_)
  by_cases ha0 : a'.length = 0
  · have ha0' : a' = [] := List.eq_nil_of_length_eq_zero ha0
    simp [hn, h0, W1'.len, ha0', -code_seq]
    simp [hn, h0]
    refine intSet_ok (e + 3) hat2 hI (WL.nil m2) (by simp) fun m3 v3 t3 W3 => ?_
    have e0 : trimL [] = [] := rfl
    rw [e0] at W3
    have t3' : TB m2 m3 bz [c0, c1, c2] [.bool false, v3, c2] := t3
    have hI3 : nonI [.bool false, v3, c2] := (hI.set (i := 0) (v := .bool false) (fun k x h => by cases h)).set (i := 1) (v := v3) W3.notI
    simp [hn, h0]
    refine storeQ_one (cs := [.bool false, v3, c2]) (sz := 1) (gr := false) t3'.is (by simp [(WL.nil m3).cell]) rfl (by simp) fun m4 n4 _ e4 => ?_
    have t4 : TB m3 m4 bz [.bool false, v3, c2] [.bool false, v3, .slice none 0 0] := ⟨n4, fun c hc => by rw [e4, if_neg hc], t3'.is, by rw [e4, if_pos rfl]; rfl, hI3⟩
    simp [hn, hd, h0]
    have W4 := W3.turn t4
    refine hQ m4 (UpZ.after u2 hw ((t3'.trans t4).upz (nonI3 W4 (WL.nil m4))) (hw bz _ hat)) ⟨⟨false, v3, _, [], [], t4.is, W4, WL.nil m4, Tr.nil, Tr.nil, by simp, by simp, by simp, ?_⟩, hD⟩
    rw [ha0'] at hv
    have hN : N = 0 := by
      rw [show wv ([] : List Nat) = 0 from rfl, sgn_zero, Int.zero_mul] at hv
      have hdp : (wv d' : Int) ≠ 0 := by omega
      rcases Int.mul_eq_zero.1 hv.symm with h | h
      · exact h
      · exact absurd h hdp
    rw [hN, show wv ([] : List Nat) = 0 from rfl, sgn_zero, Int.zero_mul, Int.zero_mul]
  · have ha0' : ¬ a' = [] := by rintro rfl; exact ha0 rfl
    simp [hn, h0, W1'.len, ha0', -code_seq]
    refine (code_seq _ _ _ _ _).2 ((code_seq _ _ _ _ _).2 ?_)
    obtain ⟨b1, o1', k1, x1, hB⟩ := W2.rd hd'0
    have g0 := hB.get 0 hd'0
    have e1 := hB.at'
    have lenD := W2.len
    have hbv := hB.val
    obtain ⟨dd, hdd0⟩ : ∃ x, x = wat d' 0 := ⟨_, rfl⟩
    rw [← hdd0] at g0
    simp only [Nat.add_zero] at g0
    have i0 : indexAddrX Try.prog 52 v2 (.int .i64 0) = some (.pointer (some ⟨b1, o1', none⟩)) := by rw [hbv]; exact idx_W b1 o1' d'.length k1 0 .i64 hd'0
    have plainD : ∀ (fr3 : Fr) (m3 : Mem), Only m2 m3 → fr3.n = 69 → fr3.d = [] → fr3.at 0 = .pointer (some ⟨bz, 0, none⟩) → fr3.at 1 = .bool mi → fr3.at 2 = v1 → fr3.at 3 = v2 → Gives (codeX Try.prog (callN Try.prog kn1 (e + 5)) (sRn 5 (bodyOf Try.f60)) fr3) m3 (fnQ Try.prog [.tmp 8] Q) := fun fr3 m3 o3 q1 q2 q3 q4 q5 q6 =>
      ratFin (e + 3) ((o3.2 bz).trans hat2) hI (W1'.only o3) (W2.only o3) ta td la ld hL hD (by rw [eden]; exact hv) q1 q2 q3 q4 q5 q6 fun m' u r => hQ m' (UpZ.after (u2.trans (Up.only o3)) hw u (hw bz _ hat)) r
    by_cases hd1 : d'.length = 1
    · by_cases hdv : dd = 1
      · rw [hdv] at g0
        have g0' : x1.cells[o1']? = some (.int .u32 1) := g0
        simp [hn, lenD, hd1, yieldX, boolOf_bool, i0, e1, g0', -code_seq]
        exact via (X := sRn 5 (bodyOf Try.f60)) (by kernel_rfl) (plainD _ _ (Only.rd' _ _) (by simp [hn]) (by simp [hd]) (by simp [h0]) (by simp [h1]) (by simp) (by simp))
      · have hdv' : ¬ ((dd : Int) = 1) := by omega
        simp [hn, lenD, hd1, yieldX, boolOf_bool, i0, e1, g0, hdv, hdv', -code_seq]
        refine (code_seq _ _ _ _ _).2 ?_
        simp [hn, -code_seq]
        have o3 : Only m2 (m2.rd b1) := Only.rd' _ _
        have hw3 := o3.wf hw2
        refine common_ok (L := L) e hw3 (W1'.only o3) (W2.only o3) ta td la ld hL fun m4 vg g u4 Wg hlg tg hg => ?_
        have hw4 := u4.wf hw3
        have hgp : 0 < wv g := by rw [hg]; exact Nat.gcd_pos_of_pos_right _ hd0
        have hg0 : 0 < g.length := by
          rcases Nat.eq_zero_or_pos g.length with h | h
          · rw [List.eq_nil_of_length_eq_zero h] at hgp; simp [wv] at hgp
          · exact h
        have u24 := (Up.only o3).trans u4
        have W1g := W1'.up hw2 u24
        have W2g := W2.up hw2 u24
        have hat4 := u24.at hat2 hw2
        simp [hn, -code_seq]
        refine (code_seq _ _ _ _ _).2 ?_
        obtain ⟨b5, o5', k5, x5, hB5⟩ := Wg.rd hg0
        have g5 := hB5.get 0 hg0
        have e5 := hB5.at'
        have lenG := Wg.len
        have hbv5 := hB5.val
        obtain ⟨gd, hgd0⟩ : ∃ x, x = wat g 0 := ⟨_, rfl⟩
        rw [← hgd0] at g5
        simp only [Nat.add_zero] at g5
        have i5 : indexAddrX Try.prog 52 vg (.int .i64 0) = some (.pointer (some ⟨b5, o5', none⟩)) := by rw [hbv5]; exact idx_W b5 o5' g.length k5 0 .i64 hg0
        by_cases hg1 : g.length = 1
        · by_cases hgv : gd = 1
          · rw [hgv] at g5
            have g5' : x5.cells[o5']? = some (.int .u32 1) := g5
            simp [hn, lenG, hg1, yieldX, boolOf_bool, i5, e5, g5', -code_seq]
            refine via (X := sRn 5 (bodyOf Try.f60)) (by kernel_rfl) (ratFin (e + 3) (by simpa using hat4) hI (W1g.only (Only.rd' _ _)) (W2g.only (Only.rd' _ _)) ta td la ld hL hD (by rw [eden]; exact hv) (by simp [hn]) (by simp [hd]) (by simp [h0]) (by simp [h1]) (by simp) (by simp) fun m' u r => hQ m' (UpZ.after ((u2.trans u24).trans (Up.only (Only.rd' _ _))) hw u (hw bz _ hat)) r)
          · have hgv' : ¬ ((gd : Int) = 1) := by omega
            simp [hn, lenG, hg1, yieldX, boolOf_bool, i5, e5, g5, hgv, hgv', -code_seq]
            refine (code_seq _ _ _ _ _).2 ?_
            have u45 := Up.only (Only.rd' m4 b5)
            simp [hn, -code_seq]
            refine divWords_ok (e + 1) (u45.wf hw4) (W1g.up hw4 u45) (Wg.up hw4 u45) ta tg (by omega) (by omega) hg0 fun m6 vq vr lq lr u6 W6 _ t6 _ hl6 _ hq6 _ => ?_
            simp [hn, -code_seq]
            have u46 := u45.trans u6
            have hw6 := u46.wf hw4
            refine divWords_ok (e + 1) hw6 (W2g.up hw4 u46) (Wg.up hw4 u46) td tg (by omega) (by omega) hg0 fun m7 vq7 vr7 lq7 lr7 u7 W7 _ t7 _ hl7 _ hq7 _ => ?_
            simp [hn, -code_seq]
            have u47 := u46.trans u7
            have hdg : wv lq7 * wv g = wv d' := by rw [hq7]; exact Nat.div_mul_cancel (by rw [hg]; exact Nat.gcd_dvd_right _ _)
            have hag : wv lq * wv g = wv a' := by rw [hq6]; exact Nat.div_mul_cancel (by rw [hg]; exact Nat.gcd_dvd_left _ _)
            exact via (X := sRn 5 (bodyOf Try.f60)) (by kernel_rfl) (ratFin (e + 3) (u47.at hat4 hw4) hI (W6.up hw6 u7) W7 t6 t7 (by omega) (by omega) hL hD (frac_less t7 hgp hdg hag hd0 hv) (by simp [hn]) (by simp [hd]) (by simp [h0]) (by simp [h1]) (by simp) (by simp) fun m' u r => hQ m' (UpZ.after ((u2.trans u24).trans u47) hw u (hw bz _ hat)) r)
        · have hg1' : ¬ ((g.length : Int) = 1) := by omega
          simp [hn, lenG, hg1', yieldX, boolOf_bool, -code_seq]
          refine (code_seq _ _ _ _ _).2 ?_
          have u45 := Up.refl m4
          simp [hn, -code_seq]
          refine divWords_ok (e + 1) (u45.wf hw4) (W1g.up hw4 u45) (Wg.up hw4 u45) ta tg (by omega) (by omega) hg0 fun m6 vq vr lq lr u6 W6 _ t6 _ hl6 _ hq6 _ => ?_
          simp [hn, -code_seq]
          have u46 := u45.trans u6
          have hw6 := u46.wf hw4
          refine divWords_ok (e + 1) hw6 (W2g.up hw4 u46) (Wg.up hw4 u46) td tg (by omega) (by omega) hg0 fun m7 vq7 vr7 lq7 lr7 u7 W7 _ t7 _ hl7 _ hq7 _ => ?_
          simp [hn, -code_seq]
          have u47 := u46.trans u7
          have hdg : wv lq7 * wv g = wv d' := by rw [hq7]; exact Nat.div_mul_cancel (by rw [hg]; exact Nat.gcd_dvd_right _ _)
          have hag : wv lq * wv g = wv a' := by rw [hq6]; exact Nat.div_mul_cancel (by rw [hg]; exact Nat.gcd_dvd_left _ _)
          exact via (X := sRn 5 (bodyOf Try.f60)) (by kernel_rfl) (ratFin (e + 3) (u47.at hat4 hw4) hI (W6.up hw6 u7) W7 t6 t7 (by omega) (by omega) hL hD (frac_less t7 hgp hdg hag hd0 hv) (by simp [hn]) (by simp [hd]) (by simp [h0]) (by simp [h1]) (by simp) (by simp) fun m' u r => hQ m' (UpZ.after ((u2.trans u24).trans u47) hw u (hw bz _ hat)) r)
    · have hd1' : ¬ ((d'.length : Int) = 1) := by omega
      simp [hn, lenD, hd1', yieldX, boolOf_bool, -code_seq]
      refine (code_seq _ _ _ _ _).2 ?_
      simp [hn, -code_seq]
      have o3 : Only m2 (m2) := Only.refl _
      have hw3 := o3.wf hw2
      refine common_ok (L := L) e hw3 (W1'.only o3) (W2.only o3) ta td la ld hL fun m4 vg g u4 Wg hlg tg hg => ?_
      have hw4 := u4.wf hw3
      have hgp : 0 < wv g := by rw [hg]; exact Nat.gcd_pos_of_pos_right _ hd0
      have hg0 : 0 < g.length := by
        rcases Nat.eq_zero_or_pos g.length with h | h
        · rw [List.eq_nil_of_length_eq_zero h] at hgp; simp [wv] at hgp
        · exact h
      have u24 := (Up.only o3).trans u4
      have W1g := W1'.up hw2 u24
      have W2g := W2.up hw2 u24
      have hat4 := u24.at hat2 hw2
      simp [hn, -code_seq]
      refine (code_seq _ _ _ _ _).2 ?_
      obtain ⟨b5, o5', k5, x5, hB5⟩ := Wg.rd hg0
      have g5 := hB5.get 0 hg0
      have e5 := hB5.at'
      have lenG := Wg.len
      have hbv5 := hB5.val
      obtain ⟨gd, hgd0⟩ : ∃ x, x = wat g 0 := ⟨_, rfl⟩
      rw [← hgd0] at g5
      simp only [Nat.add_zero] at g5
      have i5 : indexAddrX Try.prog 52 vg (.int .i64 0) = some (.pointer (some ⟨b5, o5', none⟩)) := by rw [hbv5]; exact idx_W b5 o5' g.length k5 0 .i64 hg0
      by_cases hg1 : g.length = 1
      · by_cases hgv : gd = 1
        · rw [hgv] at g5
          have g5' : x5.cells[o5']? = some (.int .u32 1) := g5
          simp [hn, lenG, hg1, yieldX, boolOf_bool, i5, e5, g5', -code_seq]
          refine via (X := sRn 5 (bodyOf Try.f60)) (by kernel_rfl) (ratFin (e + 3) (by simpa using hat4) hI (W1g.only (Only.rd' _ _)) (W2g.only (Only.rd' _ _)) ta td la ld hL hD (by rw [eden]; exact hv) (by simp [hn]) (by simp [hd]) (by simp [h0]) (by simp [h1]) (by simp) (by simp) fun m' u r => hQ m' (UpZ.after ((u2.trans u24).trans (Up.only (Only.rd' _ _))) hw u (hw bz _ hat)) r)
        · have hgv' : ¬ ((gd : Int) = 1) := by omega
          simp [hn, lenG, hg1, yieldX, boolOf_bool, i5, e5, g5, hgv, hgv', -code_seq]
          refine (code_seq _ _ _ _ _).2 ?_
          have u45 := Up.only (Only.rd' m4 b5)
          simp [hn, -code_seq]
          refine divWords_ok (e + 1) (u45.wf hw4) (W1g.up hw4 u45) (Wg.up hw4 u45) ta tg (by omega) (by omega) hg0 fun m6 vq vr lq lr u6 W6 _ t6 _ hl6 _ hq6 _ => ?_
          simp [hn, -code_seq]
          have u46 := u45.trans u6
          have hw6 := u46.wf hw4
          refine divWords_ok (e + 1) hw6 (W2g.up hw4 u46) (Wg.up hw4 u46) td tg (by omega) (by omega) hg0 fun m7 vq7 vr7 lq7 lr7 u7 W7 _ t7 _ hl7 _ hq7 _ => ?_
          simp [hn, -code_seq]
          have u47 := u46.trans u7
          have hdg : wv lq7 * wv g = wv d' := by rw [hq7]; exact Nat.div_mul_cancel (by rw [hg]; exact Nat.gcd_dvd_right _ _)
          have hag : wv lq * wv g = wv a' := by rw [hq6]; exact Nat.div_mul_cancel (by rw [hg]; exact Nat.gcd_dvd_left _ _)
          exact via (X := sRn 5 (bodyOf Try.f60)) (by kernel_rfl) (ratFin (e + 3) (u47.at hat4 hw4) hI (W6.up hw6 u7) W7 t6 t7 (by omega) (by omega) hL hD (frac_less t7 hgp hdg hag hd0 hv) (by simp [hn]) (by simp [hd]) (by simp [h0]) (by simp [h1]) (by simp) (by simp) fun m' u r => hQ m' (UpZ.after ((u2.trans u24).trans u47) hw u (hw bz _ hat)) r)
      · have hg1' : ¬ ((g.length : Int) = 1) := by omega
        simp [hn, lenG, hg1', yieldX, boolOf_bool, -code_seq]
        refine (code_seq _ _ _ _ _).2 ?_
        have u45 := Up.refl m4
        simp [hn, -code_seq]
        refine divWords_ok (e + 1) (u45.wf hw4) (W1g.up hw4 u45) (Wg.up hw4 u45) ta tg (by omega) (by omega) hg0 fun m6 vq vr lq lr u6 W6 _ t6 _ hl6 _ hq6 _ => ?_
        simp [hn, -code_seq]
        have u46 := u45.trans u6
        have hw6 := u46.wf hw4
        refine divWords_ok (e + 1) hw6 (W2g.up hw4 u46) (Wg.up hw4 u46) td tg (by omega) (by omega) hg0 fun m7 vq7 vr7 lq7 lr7 u7 W7 _ t7 _ hl7 _ hq7 _ => ?_
        simp [hn, -code_seq]
        have u47 := u46.trans u7
        have hdg : wv lq7 * wv g = wv d' := by rw [hq7]; exact Nat.div_mul_cancel (by rw [hg]; exact Nat.gcd_dvd_right _ _)
        have hag : wv lq * wv g = wv a' := by rw [hq6]; exact Nat.div_mul_cancel (by rw [hg]; exact Nat.gcd_dvd_left _ _)
        exact via (X := sRn 5 (bodyOf Try.f60)) (by kernel_rfl) (ratFin (e + 3) (u47.at hat4 hw4) hI (W6.up hw6 u7) W7 t6 t7 (by omega) (by omega) hL hD (frac_less t7 hgp hdg hag hd0 hv) (by simp [hn]) (by simp [hd]) (by simp [h0]) (by simp [h1]) (by simp) (by simp) fun m' u r => hQ m' (UpZ.after ((u2.trans u24).trans u47) hw u (hw bz _ hat)) r)
end
end Go.Proofs.Ytghhanifakllpaa

/- Regions of free order that read some blocks and call what does not write them. -/
namespace Go.Clean
variable {P : Program} {call : Caller}
def readsB (B : List Nat) (log : List (Bool × Nat)) : Prop := ∀ x ∈ log, x.1 = false ∧ x.2 ∈ B
def noW (B : List Nat) (log : List (Bool × Nat)) : Prop := ∀ b ∈ B, (true, b) ∉ log
def isCall (o : Oper) : Bool := match o.op with
  | .call ⟨.value _, _, _⟩ => true
  | _ => false
theorem readsB_nil (B : List Nat) : readsB B [] := fun x h => by cases h
theorem readsB_cons {B : List Nat} {b : Nat} {l : List (Bool × Nat)} : readsB B ((false, b) :: l) ↔ b ∈ B ∧ readsB B l :=
  ⟨fun h => ⟨(h _ (List.mem_cons_self ..)).2, fun x hx => h x (List.mem_cons_of_mem _ hx)⟩, fun h x hx => by
    rcases List.mem_cons.1 hx with rfl | hx
    · exact ⟨rfl, h.1⟩
    · exact h.2 x hx⟩
theorem apart_rr {B : List Nat} {l l' : List (Bool × Nat)} (h : readsB B l) (h' : readsB B l') : apartL l l' = true :=
  apartL_rd (by unfold readsL; rw [List.all_eq_true]; intro x hx; rw [(h x hx).1]; rfl) (by unfold readsL; rw [List.all_eq_true]; intro x hx; rw [(h' x hx).1]; rfl)
theorem apart_rn {B : List Nat} {l l' : List (Bool × Nat)} (h : readsB B l) (h' : noW B l') : apartL l l' = true := by
  unfold apartL
  rw [List.all_eq_true]
  rintro ⟨x, b⟩ hx
  rw [List.all_eq_true]
  rintro ⟨y, c⟩ hy
  have h1 := h _ hx
  simp only at h1 ⊢
  cases y with
  | false => rw [h1.1]; simp
  | true =>
    by_cases hbc : b = c
    · subst hbc; exact absurd hy (h' b h1.2)
    · simp [hbc]
theorem apart_nr {B : List Nat} {l l' : List (Bool × Nat)} (h : noW B l) (h' : readsB B l') : apartL l l' = true := by
  unfold apartL
  rw [List.all_eq_true]
  rintro ⟨x, b⟩ hx
  rw [List.all_eq_true]
  rintro ⟨y, c⟩ hy
  have h1 := h' _ hy
  simp only at h1 ⊢
  cases x with
  | false => rw [h1.1]; simp
  | true =>
    by_cases hbc : b = c
    · subst hbc; exact absurd hx (h b h1.2)
    · simp [hbc]
def LsOK (B : List Nat) (cs : List Nat) (ls : List (Nat × List (Bool × Nat))) : Prop := ∀ p ∈ ls, readsB B p.2 ∨ (noW B p.2 ∧ p.1 ∈ cs)
theorem apartAll_r {B : List Nat} {a : Nat} {l : List (Bool × Nat)} (h : readsB B l) {cs : List Nat} : ∀ {ls : List (Nat × List (Bool × Nat))}, LsOK B cs ls → apartAll a l ls = true
  | [], _ => rfl
  | (j, l') :: r, hr => by
    show ((a.testBit j || apartL l l') && apartAll a l r) = true
    rw [apartAll_r h (ls := r) (fun p hp => hr p (List.mem_cons_of_mem _ hp))]
    have : apartL l l' = true := by
      rcases hr (j, l') (List.mem_cons_self ..) with h1 | h1
      · exact apart_rr h h1
      · exact apart_rn h h1.1
    rw [this]; simp
theorem apartAll_n {B : List Nat} {a : Nat} {l : List (Bool × Nat)} (h : noW B l) {cs : List Nat} (hc : cs.all a.testBit = true) : ∀ {ls : List (Nat × List (Bool × Nat))}, LsOK B cs ls → apartAll a l ls = true
  | [], _ => rfl
  | (j, l') :: r, hr => by
    show ((a.testBit j || apartL l l') && apartAll a l r) = true
    rw [apartAll_n h hc (ls := r) (fun p hp => hr p (List.mem_cons_of_mem _ hp))]
    rcases hr (j, l') (List.mem_cons_self ..) with h1 | h1
    · rw [apart_nr h h1]; simp
    · rw [List.all_eq_true.1 hc j h1.2]; simp
def fullT : List Nat → Nat → Bool
  | [], _ => true
  | a :: ps, i => decide (a + 1 = 2 ^ i) && fullT ps (i + 1)
theorem apartAll_f {l : List (Bool × Nat)} {i a : Nat} (ha : a + 1 = 2 ^ i) : ∀ {ls : List (Nat × List (Bool × Nat))}, (∀ p ∈ ls, p.1 < i) → apartAll a l ls = true
  | [], _ => rfl
  | (j, l') :: r, hr => by
    show ((a.testBit j || apartL l l') && apartAll a l r) = true
    rw [apartAll_f ha (ls := r) (fun p hp => hr p (List.mem_cons_of_mem _ hp))]
    have hj : j < i := hr (j, l') (List.mem_cons_self ..)
    have : a.testBit j = true := by
      rw [show a = 2 ^ i - 1 by omega, Nat.testBit_two_pow_sub_one]
      simpa using hj
    rw [this]; simp
def drawF (P : Program) (call : Caller) (ops : Array Oper) : List Oper → Fr → Mem → (Fr → Mem → Prop) → Prop
  | [], fr, m, Q => Q fr m
  | o :: l, fr, m, Q => Gives (stepDX P call ops fr o) (m.lg []) fun fr' m' => drawF P call ops l fr' (m'.lg (m'.log ++ m.log)) Q
def drawFQ (P : Program) (call : Caller) (ops : Array Oper) (l : List Oper) (log : List (Bool × Nat)) (Q : Fr → Mem → Prop) (fr : Fr) (m : Mem) : Prop := drawF P call ops l fr (m.lg (m.log ++ log)) Q
theorem drawF_nil (ops : Array Oper) (fr : Fr) (m : Mem) (Q : Fr → Mem → Prop) : drawF P call ops [] fr m Q ↔ Q fr m := Iff.rfl
theorem drawF_cons (ops : Array Oper) (o : Oper) (l : List Oper) (fr : Fr) (m : Mem) (Q : Fr → Mem → Prop) : drawF P call ops (o :: l) fr m Q ↔ Gives (stepDX P call ops fr o) (m.lg []) (drawFQ P call ops l m.log Q) := Iff.rfl
theorem drawF_draws {ops : Array Oper} {Q : Fr → Mem → Prop} : ∀ (l : List Oper) (ps : List Nat) (i : Nat) (ls : List (Nat × List (Bool × Nat))) (fr : Fr) (m : Mem), l.length = ps.length → (l.all fun o => !isDefer o) = true → fullT ps i = true → (∀ p ∈ ls, p.1 < i) → drawF P call ops l fr m Q → Gives (drawX P call ops l ps i ls fr) m Q
  | [], ps, i, ls, fr, m, _, _, _, _, h => (draw_nil ops ps i ls fr m Q).2 h
  | o :: l, [], i, ls, fr, m, h, _, _, _, _ => by simp at h
  | o :: l, a :: ps, i, ls, fr, m, hl, hd, hf, hr, h => by
    rw [List.all_cons, Bool.and_eq_true] at hd
    unfold fullT at hf
    rw [Bool.and_eq_true, decide_eq_true_eq] at hf
    rw [draw_cons ops o (by simpa using hd.1)]
    refine Gives.mono h fun fr' m' q => ⟨apartAll_f hf.1 hr, drawF_draws l ps (i + 1) ((i, m'.log) :: ls) fr' _ (by simpa using hl) hd.2 hf.2 (fun p hp => ?_) q⟩
    rcases List.mem_cons.1 hp with rfl | hp
    · exact Nat.lt_succ_self _
    · exact Nat.lt_succ_of_lt (hr p hp)
def drawV (P : Program) (call : Caller) (ops : Array Oper) (B : List Nat) : List Oper → List Nat → Nat → List Nat → Fr → Mem → (Fr → Mem → Prop) → Prop
  | [], _, _, _, fr, m, Q => Q fr m
  | _ :: _, [], _, _, _, _, _ => False
  | o :: l, a :: ps, i, cs, fr, m, Q => Gives (stepDX P call ops fr o) (m.lg []) fun fr' m' => match isCall o with
    | true => (noW B m'.log ∧ cs.all a.testBit = true) ∧ drawV P call ops B l ps (i + 1) (i :: cs) fr' (m'.lg (m'.log ++ m.log)) Q
    | false => readsB B m'.log ∧ drawV P call ops B l ps (i + 1) cs fr' (m'.lg (m'.log ++ m.log)) Q
def drawVC (P : Program) (call : Caller) (ops : Array Oper) (B : List Nat) (l : List Oper) (a : Nat) (ps : List Nat) (i : Nat) (cs : List Nat) (log : List (Bool × Nat)) (Q : Fr → Mem → Prop) (fr : Fr) (m : Mem) : Prop := (noW B m.log ∧ cs.all a.testBit = true) ∧ drawV P call ops B l ps (i + 1) (i :: cs) fr (m.lg (m.log ++ log)) Q
def drawVR (P : Program) (call : Caller) (ops : Array Oper) (B : List Nat) (l : List Oper) (ps : List Nat) (i : Nat) (cs : List Nat) (log : List (Bool × Nat)) (Q : Fr → Mem → Prop) (fr : Fr) (m : Mem) : Prop := readsB B m.log ∧ drawV P call ops B l ps (i + 1) cs fr (m.lg (m.log ++ log)) Q
theorem drawV_nil (ops : Array Oper) (B ps : List Nat) (i : Nat) (cs : List Nat) (fr : Fr) (m : Mem) (Q : Fr → Mem → Prop) : drawV P call ops B [] ps i cs fr m Q ↔ Q fr m := by cases ps <;> exact Iff.rfl
theorem drawV_call {ops : Array Oper} {B : List Nat} {o : Oper} (ho : isCall o = true) (l : List Oper) (a : Nat) (ps : List Nat) (i : Nat) (cs : List Nat) (fr : Fr) (m : Mem) (Q : Fr → Mem → Prop) : drawV P call ops B (o :: l) (a :: ps) i cs fr m Q ↔ Gives (stepDX P call ops fr o) (m.lg []) (drawVC P call ops B l a ps i cs m.log Q) := by
  show (Gives _ _ _) ↔ _
  simp only [ho]
  exact Iff.rfl
theorem drawV_read {ops : Array Oper} {B : List Nat} {o : Oper} (ho : isCall o = false) (l : List Oper) (a : Nat) (ps : List Nat) (i : Nat) (cs : List Nat) (fr : Fr) (m : Mem) (Q : Fr → Mem → Prop) : drawV P call ops B (o :: l) (a :: ps) i cs fr m Q ↔ Gives (stepDX P call ops fr o) (m.lg []) (drawVR P call ops B l ps i cs m.log Q) := by
  show (Gives _ _ _) ↔ _
  simp only [ho]
  exact Iff.rfl
theorem drawV_draws {ops : Array Oper} {B : List Nat} {l2 : List Oper} {as2 : List Nat} {Q : Fr → Mem → Prop} {k : Nat} (hl2 : l2.length = as2.length) (hd2 : (l2.all fun o => !isDefer o) = true) (hf2 : fullT as2 k = true) : ∀ (l : List Oper) (ps : List Nat) (i : Nat) (cs : List Nat) (ls : List (Nat × List (Bool × Nat))) (fr : Fr) (m : Mem), i + l.length = k → l.length = ps.length → (l.all fun o => !isDefer o) = true → LsOK B cs ls → (∀ p ∈ ls, p.1 < i) → drawV P call ops B l ps i cs fr m (fun fr m => drawF P call ops l2 fr m Q) → Gives (drawX P call ops (l ++ l2) (ps ++ as2) i ls fr) m Q
  | [], [], i, cs, ls, fr, m, hk, _, _, _, hr, h => by
    have : i = k := by simpa using hk
    subst this
    exact drawF_draws l2 as2 i ls fr m hl2 hd2 hf2 hr h
  | [], _ :: _, i, cs, ls, fr, m, _, h, _, _, _, _ => by simp at h
  | o :: l, [], i, cs, ls, fr, m, _, h, _, _, _, _ => by simp at h
  | o :: l, a :: ps, i, cs, ls, fr, m, hk, hl, hd, hls, hr, h => by
    rw [List.all_cons, Bool.and_eq_true] at hd
    rw [List.cons_append, List.cons_append, draw_cons ops o (by simpa using hd.1)]
    have hr' : ∀ lg, ∀ p ∈ (i, lg) :: ls, p.1 < i + 1 := fun lg p hp => by
      rcases List.mem_cons.1 hp with rfl | hp
      · exact Nat.lt_succ_self _
      · exact Nat.lt_succ_of_lt (hr p hp)
    cases ho : isCall o with
    | true =>
      rw [drawV_call ho] at h
      refine Gives.mono h fun fr' m' q => ⟨apartAll_n q.1.1 q.1.2 hls, drawV_draws hl2 hd2 hf2 l ps (i + 1) (i :: cs) ((i, m'.log) :: ls) fr' _ (by simp at hk; omega) (by simpa using hl) hd.2 (fun p hp => ?_) (hr' _) q.2⟩
      rcases List.mem_cons.1 hp with rfl | hp
      · exact .inr ⟨q.1.1, List.mem_cons_self ..⟩
      · rcases hls p hp with h1 | h1
        · exact .inl h1
        · exact .inr ⟨h1.1, List.mem_cons_of_mem _ h1.2⟩
    | false =>
      rw [drawV_read ho] at h
      refine Gives.mono h fun fr' m' q => ⟨apartAll_r q.1 hls, drawV_draws hl2 hd2 hf2 l ps (i + 1) cs ((i, m'.log) :: ls) fr' _ (by simp at hk; omega) (by simpa using hl) hd.2 (fun p hp => ?_) (hr' _) q.2⟩
      rcases List.mem_cons.1 hp with rfl | hp
      · exact .inl q.1
      · exact hls p hp
theorem code_draw_calls {id : Nat} {ops : Array Oper} {p1 p2 : List Nat} (B : List Nat) (k : Nat) (h : planX ops = some (p1 ++ p2)) (hl1 : (ops.toList.take k).length = p1.length) (hl2 : (ops.toList.drop k).length = p2.length) (hd1 : ((ops.toList.take k).all fun o => !isDefer o) = true) (hd2 : ((ops.toList.drop k).all fun o => !isDefer o) = true) (hf : fullT p2 (ops.toList.take k).length = true) {fr : Fr} {m : Mem} {Q : CQ}
    (hg : ∀ ops' : Array Oper, drawV P call ops' B (ops.toList.take k) p1 0 [] fr m (fun fr m => drawF P call ops' (ops.toList.drop k) fr m (regQ Q))) : Gives (codeX P call (.region id ops true) fr) m Q := by
  refine code_draw_dyn h ?_
  have he : ops.toList = ops.toList.take k ++ ops.toList.drop k := (List.take_append_drop k _).symm
  have e2 : drawX P call ops ops.toList = drawX P call ops (ops.toList.take k ++ ops.toList.drop k) := by rw [← he]
  rw [e2]
  exact drawV_draws hl2 hd2 hf _ p1 0 [] [] fr m (by simp) hl1 hd1 (fun p hp => by cases hp) (fun p hp => by cases hp) (hg ops)
attribute [simp] readsB_nil readsB_cons drawF_nil drawF_cons drawV_nil drawV_call drawV_read
section
variable {ty : TypeId} {pos : String} {af : Array Edge} {d : Option Tmp} {g : Option (Nat × Bool)}
@[simp] theorem ic_move (x : Operand) : isCall ⟨d, .move x, ty, pos, af, g⟩ = false := by cases d <;> rfl
@[simp] theorem ic_assign (x : Operand) : isCall ⟨d, .assign x, ty, pos, af, g⟩ = false := by cases d <;> rfl
@[simp] theorem ic_binOp (o : BinOp) (t u : TypeId) (x y : Operand) : isCall ⟨d, .binOp o t x y u, ty, pos, af, g⟩ = false := by cases d <;> rfl
@[simp] theorem ic_load (t : TypeId) (x : Operand) : isCall ⟨d, .load t x, ty, pos, af, g⟩ = false := by cases d <;> rfl
@[simp] theorem ic_fieldAddr (t : TypeId) (x : Operand) (f : Nat) : isCall ⟨d, .fieldAddr t x f, ty, pos, af, g⟩ = false := by cases d <;> rfl
@[simp] theorem ic_nilCheck (x : Operand) : isCall ⟨d, .nilCheck x, ty, pos, af, g⟩ = false := by cases d <;> rfl
@[simp] theorem ic_call (x : Operand) (a : Array Operand) (ts : Array TypeId) : isCall ⟨d, .call ⟨.value x, a, ts⟩, ty, pos, af, g⟩ = true := by cases d <;> rfl
@[simp] theorem ic_len (b : Builtin) (a : Array Operand) (ts : Array TypeId) : isCall ⟨d, .call ⟨.builtin b, a, ts⟩, ty, pos, af, g⟩ = false := by cases d <;> rfl
@[simp] theorem ic_convert (t u : TypeId) (x : Operand) : isCall ⟨d, .convert t u x, ty, pos, af, g⟩ = false := by cases d <;> rfl
end
end Go.Clean

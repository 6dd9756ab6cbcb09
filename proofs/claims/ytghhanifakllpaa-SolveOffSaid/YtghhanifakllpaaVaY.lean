/- Fractions of words in the clean executor: copied, without sign, their sign. -/
import Derived.Test.YtghhanifakllpaaBvY
set_option linter.unusedSimpArgs false
set_option linter.unusedVariables false
namespace Go.Proofs.Ytghhanifakllpaa
open Go.Clean
theorem copiedL_ok (e : Nat) {m : Mem} {va : Value} {a : List Nat} (hw : WF m) (ha : WL m va a) (hl : a.length < 1000000) {Q : Value → Mem → Prop}
    (hQ : ∀ m' v, Up m m' → WL m' v a → Q v m') : Gives (callN Try.prog kn1 (e + 1) 78 [va]) m Q :=
  copied_ok e hw ha hl fun m' b u _ hat => hQ m' _ u (WL.own hat ha.wd)
theorem sgn_sign {be : Bool} {w : List Nat} {N : Int} {D d : Nat} (tw : Tr w) (hb : be = true → w ≠ []) (hD : 0 < D) (hd : 0 < d) (hv : sgn be (wv w) * (D : Int) = N * (d : Int)) : N.sign = if w.length = 0 then 0 else if be then -1 else 1 := by
  have hD' : (0 : Int) < D := by omega
  have hd' : (0 : Int) < d := by omega
  have e1 : (sgn be (wv w)).sign = N.sign := by
    have h1 : (sgn be (wv w) * (D : Int)).sign = (N * (d : Int)).sign := by rw [hv]
    rw [Int.sign_mul, Int.sign_mul, Int.sign_eq_one_of_pos hD', Int.sign_eq_one_of_pos hd', Int.mul_one, Int.mul_one] at h1
    exact h1
  rw [← e1]
  by_cases h0 : w.length = 0
  · rw [if_pos h0, List.eq_nil_of_length_eq_zero h0]
    show (sgn be 0).sign = 0
    rw [sgn_zero]; rfl
  · have hp : 0 < wv w := tr_pos tw (by rintro rfl; exact h0 rfl)
    rw [if_neg h0]
    cases be with
    | true => exact Int.sign_eq_neg_one_of_neg (by simp [sgn]; omega)
    | false => exact Int.sign_eq_one_of_pos (by simp [sgn]; omega)
theorem RT.it {m : Mem} {b : Nat} {N : Int} {D L : Nat} (h : RT m b N D L) : ∃ vd d n, IT m b [vd] n L ∧ WL m vd d ∧ Tr d ∧ d.length ≤ L ∧ n * (D : Int) = N * (den d : Int) := by
  obtain ⟨be, vw, vd, w, d, h1, h2, h3, h4, h5, h6, h7, h8, h9⟩ := h.ex
  exact ⟨vd, d, sgn be (wv w), ⟨be, vw, w, h1, h2, h4, h6, h8, rfl, nonI3 h2 h3⟩, h3, h5, h7, h9⟩
theorem UpZ.tb {m m1 m2 : Mem} {b : Nat} {cs cs' : List Value} (h : UpZ m m1 b) (t : TB m1 m2 b cs cs') (hI : nonI cs') : UpZ m m2 b := h.trans (t.upz hI)
section
set_option maxRecDepth 10000
set_option maxHeartbeats 4000000 in
theorem ratSetTo_ok (e : Nat) {m : Mem} {bz bx : Nat} {c0 c1 c2 : Value} {N : Int} {D L : Nat} (hw : WF m) (hat : m.at bz = some ⟨[c0, c1, c2], 1, false, false⟩) (hI : nonI [c0, c1, c2]) (hx : RT m bx N D L) (hL : L < 1000000) {Q : Value → Mem → Prop}
    (hQ : ∀ m', UpZ m m' bz → RT m' bz N D L → Q (.pointer (some ⟨bz, 0, none⟩)) m') :
    Gives (callN Try.prog kn1 (e + 4) 63 [.pointer (some ⟨bz, 0, none⟩), .pointer (some ⟨bx, 0, none⟩)]) m Q := by
  refine gives_fn (nt := 23) rfl Try.func63 rfl rfl rfl (Nat.le_of_ble_eq_true rfl) fun fr hn hd hargs => ?_
  have h0 : fr.at 0 = _ := hargs 0 _ rfl
  have h1 : fr.at 1 = _ := hargs 1 _ rfl
  clear hargs
  obtain ⟨vd, d, n, hit, hvd, td, ld, hv⟩ := hx.it
  obtain ⟨be1, vw1, w1, x1, x2, x3, x4, x5, x6, x7⟩ := hit.ex
  have hzb := hw _ _ hat
  simp [hn, h1, x1]
  have o1 : Only m (m.rd bx) := Only.rd' _ _
  refine copiedL_ok (e + 2) (o1.wf hw) (hvd.only o1) (by omega) fun m2 v2 u2 W2 => ?_
  have p2 : Up m m2 := (Up.only o1).trans u2
  simp [hn]
  refine code_draw_calls [] 6 (p1 := [0, 1, 3, 0, 8, 24]) (p2 := [63]) (by kernel_rfl) rfl rfl (by kernel_rfl) (by kernel_rfl) (by kernel_rfl) fun ops => ?_
  simp [drawVR, drawFQ, hn, h0, h1]
  have o2 : ∀ l, Only m2 (m2.lg l) := fun l => ⟨by simp, fun c => by simp⟩
  have p2' : Up m (m2.lg []) := p2.trans (Up.only (o2 _))
  refine intSetTo_ok e (p2'.wf hw) (p2'.at hat hw) hI (hit.up hw p2') hL fun m3 u3 r3 => ?_
  have o3 : ∀ l, Only m3 (m3.lg l) := fun l => ⟨by simp, fun c => by simp⟩
  obtain ⟨be3, v3, w3, f1, f2, f3, f4, f5, f6, f7⟩ := r3.ex
  have W3 := (W2.only (o2 [])).upz (p2'.wf hw) u3
  simp [drawFQ, hn, h0]
  refine storeQ_one (cs := [.bool be3, v3, c2]) (sz := 1) (gr := false) (by simp [f1]) (by simp [W3.cell]) W3.cell.1 (by simp) fun m4 n4 _ e4 => ?_
  simp at n4 e4
  have t4 : TB m3 m4 bz [.bool be3, v3, c2] [.bool be3, v3, v2] := ⟨n4, fun c hc => by rw [e4, if_neg hc], f1, by rw [e4, if_pos rfl], f7⟩
  have W4 := W3.turn t4
  have V4 := f2.turn t4
  simp [hn, hd, h0]
  refine hQ m4 ((UpZ.after p2' hw u3 hzb).tb t4 (nonI3 V4 W4)) ⟨⟨be3, v3, v2, w3, d, t4.is, V4, W4, f3, td, f4, ld, f5, ?_⟩, hx.pos⟩
  rw [f6]; exact hv
theorem ratAbs_ok (e : Nat) {m : Mem} {bz bx : Nat} {c0 c1 c2 : Value} {N : Int} {D L : Nat} (hw : WF m) (hat : m.at bz = some ⟨[c0, c1, c2], 1, false, false⟩) (hI : nonI [c0, c1, c2]) (hx : RT m bx N D L) (hL : L < 1000000) {Q : Value → Mem → Prop}
    (hQ : ∀ m', UpZ m m' bz → RT m' bz (N.natAbs : Int) D L → Q (.pointer (some ⟨bz, 0, none⟩)) m') :
    Gives (callN Try.prog kn1 (e + 5) 34 [.pointer (some ⟨bz, 0, none⟩), .pointer (some ⟨bx, 0, none⟩)]) m Q := by
  refine gives_fn (nt := 13) rfl Try.func34 rfl rfl rfl (Nat.le_of_ble_eq_true rfl) fun fr hn hd hargs => ?_
  have h0 : fr.at 0 = _ := hargs 0 _ rfl
  have h1 : fr.at 1 = _ := hargs 1 _ rfl
  clear hargs
  simp [hn, h0, h1]
  refine ratSetTo_ok e hw hat hI hx hL fun m2 u2 r2 => ?_
  obtain ⟨be, vw, vd, w, d, g1, g2, g3, g4, g5, g6, g7, g8, g9⟩ := r2.ex
  simp [hn, h0]
  refine storeQ_one (cs := [.bool be, vw, vd]) (sz := 1) (gr := false) (by simp [g1]) (sto_bo _) rfl (by simp) fun m4 n4 _ e4 => ?_
  have t4 : TB m2 m4 bz [.bool be, vw, vd] [.bool false, vw, vd] := ⟨n4, fun c hc => by rw [e4, if_neg hc], g1, by rw [e4, if_pos rfl]; rfl, nonI3 g2 g3⟩
  simp [hn, hd, h0]
  have V4 := g2.turn t4
  have W4 := g3.turn t4
  refine hQ m4 (u2.tb t4 (nonI3 V4 W4)) ⟨⟨false, vw, vd, w, d, t4.is, V4, W4, g4, g5, g6, g7, by simp, ?_⟩, hx.pos⟩
  have h9 : (sgn be (wv w) * (D : Int)).natAbs = (N * (den d : Int)).natAbs := by rw [g9]
  rw [Int.natAbs_mul, Int.natAbs_mul, Int.natAbs_natCast, Int.natAbs_natCast] at h9
  have h10 : (sgn be (wv w)).natAbs = wv w := by cases be <;> simp [sgn]
  rw [h10] at h9
  show (wv w : Int) * (D : Int) = (N.natAbs : Int) * (den d : Int)
  rw [← Int.natCast_mul, ← Int.natCast_mul, h9]
theorem intSign_ok (e : Nat) {m : Mem} {b : Nat} {be : Bool} {vw : Value} {w : List Nat} {rest : List Value} (hat : m.at b = some ⟨.bool be :: vw :: rest, 1, false, false⟩) (h : WL m vw w) {Q : Value → Mem → Prop}
    (hQ : ∀ m', Only m m' → Q (.int .i64 (if w.length = 0 then 0 else if be then -1 else 1)) m') :
    Gives (callN Try.prog kn1 (e + 1) 86 [.pointer (some ⟨b, 0, none⟩)]) m Q := by
  refine gives_fn (nt := 13) rfl Try.func86 rfl rfl rfl (Nat.le_of_ble_eq_true rfl) fun fr hn hd hargs => ?_
  have h0 : fr.at 0 = _ := hargs 0 _ rfl
  clear hargs
  by_cases hz : w.length = 0
  · have hz' : w = [] := List.eq_nil_of_length_eq_zero hz
    rw [if_pos hz] at hQ
    simp [hn, h0, hat, h.len, hz', hd]
    exact hQ _ (Only.rd' _ _)
  · have hz' : ¬ w = [] := by rintro rfl; exact hz rfl
    rw [if_neg hz] at hQ
    cases be with
    | true =>
      simp [hn, h0, hat, h.len, hz', hd]
      exact hQ _ ((Only.rd' _ _).trans (Only.rd' _ _))
    | false =>
      simp [hn, h0, hat, h.len, hz', hd]
      exact hQ _ ((Only.rd' _ _).trans (Only.rd' _ _))
theorem ratSign_ok (e : Nat) {m : Mem} {b : Nat} {N : Int} {D L : Nat} (hx : RT m b N D L) {Q : Value → Mem → Prop}
    (hQ : ∀ m', Only m m' → Q (.int .i64 N.sign) m') :
    Gives (callN Try.prog kn1 (e + 2) 64 [.pointer (some ⟨b, 0, none⟩)]) m Q := by
  refine gives_fn (nt := 7) rfl Try.func64 rfl rfl rfl (Nat.le_of_ble_eq_true rfl) fun fr hn hd hargs => ?_
  have h0 : fr.at 0 = _ := hargs 0 _ rfl
  clear hargs
  obtain ⟨be, vw, vd, w, d, g1, g2, g3, g4, g5, g6, g7, g8, g9⟩ := hx.ex
  simp [hn, h0]
  refine intSign_ok e g1 g2 fun m1 o1 => ?_
  rw [← sgn_sign g4 g8 hx.pos (den_pos g5) g9]
  simp [hn, hd]
  exact hQ _ o1
end
end Go.Proofs.Ytghhanifakllpaa

/- Fractions of words in the clean executor: held against each other. -/
namespace Go.Proofs.Ytghhanifakllpaa
open Go.Clean
theorem cross_sign {n1 n2 N1 N2 : Int} {D1 D2 e1 e2 : Nat} (h1 : n1 * (D1 : Int) = N1 * (e1 : Int)) (h2 : n2 * (D2 : Int) = N2 * (e2 : Int)) (hD1 : 0 < D1) (hD2 : 0 < D2) (he1 : 0 < e1) (he2 : 0 < e2) : (N1 * D2 - N2 * D1).sign = (n1 * e2 - n2 * e1).sign := by
  have e : (N1 * D2 - N2 * D1) * ((e1 * e2 : Nat) : Int) = (n1 * e2 - n2 * e1) * ((D1 * D2 : Nat) : Int) := by
    rw [Int.natCast_mul, Int.natCast_mul]
    calc (N1 * D2 - N2 * D1) * ((e1 : Int) * e2) = (N1 * e1) * (D2 * e2) - (N2 * e2) * (D1 * e1) := by grind
      _ = (n1 * D1) * (D2 * e2) - (n2 * D2) * (D1 * e1) := by rw [h1, h2]
      _ = (n1 * e2 - n2 * e1) * ((D1 : Int) * D2) := by grind
  have p1 : (0 : Int) < ((e1 * e2 : Nat) : Int) := by have := Nat.mul_pos he1 he2; omega
  have p2 : (0 : Int) < ((D1 * D2 : Nat) : Int) := by have := Nat.mul_pos hD1 hD2; omega
  have h : ((N1 * D2 - N2 * D1) * ((e1 * e2 : Nat) : Int)).sign = ((n1 * e2 - n2 * e1) * ((D1 * D2 : Nat) : Int)).sign := by rw [e]
  rw [Int.sign_mul, Int.sign_mul, Int.sign_eq_one_of_pos p1, Int.sign_eq_one_of_pos p2, Int.mul_one, Int.mul_one] at h
  exact h
theorem cmpN_sign (a b : Nat) : cmpN a b = ((a : Int) - (b : Int)).sign := by
  unfold cmpN
  split
  · rw [Int.sign_eq_neg_one_of_neg (by omega)]
  · split
    · rw [Int.sign_eq_one_of_pos (by omega)]
    · rw [show (a : Int) - (b : Int) = 0 by omega]; rfl
theorem sign_lt {N1 N2 : Int} {D1 D2 : Nat} (hD1 : 0 < D1) (hD2 : 0 < D2) (h : N1.sign < N2.sign) : (N1 * D2 - N2 * D1).sign = -1 := by
  have p1 : (0 : Int) < D1 := by omega
  have p2 : (0 : Int) < D2 := by omega
  refine Int.sign_eq_neg_one_of_neg ?_
  rcases Int.lt_trichotomy N1 0 with h1 | h1 | h1
  · have q1 := Int.mul_neg_of_neg_of_pos h1 p2
    rcases Int.lt_trichotomy N2 0 with h2 | h2 | h2
    · rw [Int.sign_eq_neg_one_of_neg h1, Int.sign_eq_neg_one_of_neg h2] at h; omega
    · rw [h2, Int.zero_mul]; omega
    · have := Int.mul_pos h2 p1; omega
  · rw [h1] at h ⊢
    rcases Int.lt_trichotomy N2 0 with h2 | h2 | h2
    · rw [Int.sign_eq_neg_one_of_neg h2] at h; simp at h
    · rw [h2] at h; simp at h
    · have := Int.mul_pos h2 p1; rw [Int.zero_mul]; omega
  · rcases Int.lt_trichotomy N2 0 with h2 | h2 | h2
    · rw [Int.sign_eq_one_of_pos h1, Int.sign_eq_neg_one_of_neg h2] at h; omega
    · rw [Int.sign_eq_one_of_pos h1, h2] at h; simp at h
    · rw [Int.sign_eq_one_of_pos h1, Int.sign_eq_one_of_pos h2] at h; omega
theorem sign_gt {N1 N2 : Int} {D1 D2 : Nat} (hD1 : 0 < D1) (hD2 : 0 < D2) (h : N2.sign < N1.sign) : (N1 * D2 - N2 * D1).sign = 1 := by
  have := sign_lt (N1 := N2) (N2 := N1) hD2 hD1 h
  rw [show N1 * D2 - N2 * D1 = -(N2 * D1 - N1 * D2) by omega, Int.sign_neg, this]; rfl
section
set_option maxRecDepth 10000
set_option maxHeartbeats 4000000 in
theorem ratCmp_ok (e : Nat) {m : Mem} {bx bY : Nat} {N1 N2 : Int} {D1 D2 L1 L2 : Nat} (hw : WF m) (hx : RT m bx N1 D1 L1) (hy : RT m bY N2 D2 L2) (hL : L1 + L2 ≤ 100000) {Q : Value → Mem → Prop}
    (hQ : ∀ m', Up m m' → Q (.int .i64 (N1 * D2 - N2 * D1).sign) m') :
    Gives (callN Try.prog kn1 (e + 5) 35 [.pointer (some ⟨bx, 0, none⟩), .pointer (some ⟨bY, 0, none⟩)]) m Q := by
  refine gives_fn (nt := 53) rfl Try.func35 rfl rfl rfl (Nat.le_of_ble_eq_true rfl) fun fr hn hd hargs => ?_
  have h0 : fr.at 0 = _ := hargs 0 _ rfl
  have h1 : fr.at 1 = _ := hargs 1 _ rfl
  clear hargs
  simp [hn, h0]
  refine ratSign_ok (e + 2) hx fun m1 o1 => ?_
  simp [hn, h1]
  refine ratSign_ok (e + 2) (hy.only o1) fun m2 o2 => ?_
  have o12 := o1.trans o2
  obtain ⟨s1, hs1⟩ : ∃ s, s = N1.sign := ⟨_, rfl⟩
  obtain ⟨s2, hs2⟩ : ∃ s, s = N2.sign := ⟨_, rfl⟩
  rw [← hs1, ← hs2]
  by_cases hne : s1 = s2
  · simp [hn, h0, hne, yieldX, boolOf_bool]
    refine ratSign_ok (e + 2) (hx.only o12) fun m3 o3 => ?_
    have o13 := o12.trans o3
    rw [← hs1]
    by_cases hz : s2 = 0
    · have hz1 : s1 = 0 := hne.trans hz
      simp [hn, h0, h1, hz1, yieldX, boolOf_bool]
      refine ratSign_ok (e + 2) (hx.only o13) fun m4 o4 => ?_
      simp [hn, h1]
      refine ratSign_ok (e + 2) (hy.only (o13.trans o4)) fun m5 o5 => ?_
      rw [← hs1, ← hs2, hz1, hz]
      simp [hn, h0]
      have o15 := (o13.trans o4).trans o5
      refine ratSign_ok (e + 2) (hx.only o15) fun m6 o6 => ?_
      simp [hn, h1]
      refine ratSign_ok (e + 2) (hy.only (o15.trans o6)) fun m7 o7 => ?_
      rw [← hs1, ← hs2, hz1, hz]
      simp [hn, hd]
      have hN1 : N1 = 0 := Int.sign_eq_zero_iff_zero.1 (hs1.symm.trans hz1)
      have hN2 : N2 = 0 := Int.sign_eq_zero_iff_zero.1 (hs2.symm.trans hz)
      have := hQ m7 (Up.only ((o15.trans o6).trans o7))
      rw [hN1, hN2] at this
      simpa using this
    · have hz1 : ¬ s1 = 0 := by rw [hne]; exact hz
      simp [hn, h0, h1, hz1, yieldX, boolOf_bool]
      obtain ⟨be1, vw1, vd1, w1, d1, x1, x2, x3, x4, x5, x6, x7, x8, x9⟩ := hx.ex
      obtain ⟨be2, vw2, vd2, w2, d2, y1, y2, y3, y4, y5, y6, y7, y8, y9⟩ := hy.ex
      have xI : nonI [.bool be1, vw1, vd1] := nonI3 x2 x3
      have yI : nonI [.bool be2, vw2, vd2] := nonI3 y2 y3
      have hxb := hw _ _ x1
      have hyb := hw _ _ y1
      have g1 := sgn_sign x4 x8 hx.pos (den_pos x5) x9
      have g2 := sgn_sign y4 y8 hy.pos (den_pos y5) y9
      rw [← hs1] at g1
      rw [← hs2] at g2
      have hbe : be1 = be2 := by
        rw [hne] at g1
        rw [g1] at g2
        by_cases k1 : w1.length = 0
        · rw [if_pos k1] at g1; exact absurd g1 hz
        · by_cases k2 : w2.length = 0
          · rw [if_neg k1, if_pos k2] at g2; cases be1 <;> simp at g2
          · rw [if_neg k1, if_neg k2] at g2; cases be1 <;> cases be2 <;> simp at g2 ⊢
      have u3 : Up m m3 := Up.only o13
      refine code_draw_calls [bx, bY] 15 (p1 := [0, 1, 3, 7, 15, 0, 32, 127, 0, 256, 768, 1792, 3840, 0, 8447]) (p2 := [32767, 65535, 131071]) (by kernel_rfl) rfl rfl (by kernel_rfl) (by kernel_rfl) (by kernel_rfl) fun ops => ?_
      simp [drawVR, hn, h0, h1, u3.at x1 hw]
      have q3 : ∀ l, Up m (m3.lg l) := fun l => u3.trans (Up.only ⟨by simp, fun c => by simp⟩)
      refine below_ok (e + 3) ((q3 _).at y1 hw) (y3.up hw (q3 _)) y5 fun m4 v4 l4 u4 sf4 W4 t4 hl4 hv4 hp4 => ?_
      have nw4 := sf4.noW rfl (B := [bx, bY]) (fun b hb => by have := (q3 []).next; simp at hb; rcases hb with rfl | rfl <;> omega)
      simp [drawVR, drawVC, hn, nw4]
      have o4 : ∀ l, Only m4 (m4.lg l) := fun l => ⟨by simp, fun c => by simp⟩
      have q4 : ∀ l, Up m (m4.lg l) := fun l => ((q3 _).trans u4).trans (Up.only (o4 l))
      refine mulWords_off (e + 2) ((q4 _).wf hw) rfl (bx := bx) (bY := bY) ((q4 _).at x1 hw) xI ((q4 _).at y1 hw) yI (x2.up hw (q4 _)) (W4.only (o4 _)) (by omega) (by omega) fun m5 v5 l5 u5 nw5 W5 hl5 t5 hv5 => ?_
      have q5 : ∀ l, Up m (m5.lg l) := fun l => ((q4 _).trans u5).trans (Up.only ⟨by simp, fun c => by simp⟩)
      have a5 := (q5 []).at y1 hw
      simp at a5
      simp [drawVR, drawVC, Nat.testBit, hn, h0, h1, nw5, a5]
      refine below_ok (e + 3) ((q5 _).at x1 hw) (x3.up hw (q5 _)) x5 fun m6 v6 l6 u6 sf6 W6 t6 hl6 hv6 hp6 => ?_
      have nw6 := sf6.noW rfl (B := [bx, bY]) (fun b hb => by have := (q5 []).next; simp at hb this ⊢; rcases hb with rfl | rfl <;> omega)
      simp [drawVR, drawVC, drawFQ, Nat.testBit, hn, nw6]
      have o5 : ∀ l, Only m5 (m5.lg l) := fun l => ⟨by simp, fun c => by simp⟩
      have o6 : ∀ l, Only m6 (m6.lg l) := fun l => ⟨by simp, fun c => by simp⟩
      have q6 : ∀ l, Up m (m6.lg l) := fun l => ((q5 _).trans u6).trans (Up.only (o6 l))
      refine mulWords_ok (e + 2) ((q6 _).wf hw) (y2.up hw (q6 _)) (W6.only (o6 _)) (by omega) (by omega) fun m7 v7 l7 u7 W7 hl7 t7 hv7 => ?_
      simp [drawFQ, hn]
      have o7 : ∀ l, Only m7 (m7.lg l) := fun l => ⟨by simp, fun c => by simp⟩
      have q7 : ∀ l, Up m (m7.lg l) := fun l => ((q6 _).trans u7).trans (Up.only (o7 l))
      have W5' := W5.up ((q4 []).trans u5 |>.wf hw) ((Up.only (o5 [])).trans (u6.trans ((Up.only (o6 [])).trans (u7.trans (Up.only (o7 []))))))
      refine cmpWords_ok (e + 3) W5' (W7.only (o7 _)) t5 t7 (by omega) (by omega) fun m8 o8 => ?_
      have q8 : ∀ l, Up m (m8.lg l) := fun l => ((q7 _).trans (Up.only o8)).trans (Up.only ⟨by simp, fun c => by simp⟩)
      have a8 := (q8 []).at x1 hw
      simp at a8
      have hcr := cross_sign x9 y9 hx.pos hy.pos (den_pos x5) (den_pos y5)
      rw [hv5, hv7, hv4, hv6]
      obtain ⟨cc, hcc⟩ : ∃ cc, cc = cmpN (wv w1 * den d2) (wv w2 * den d1) := ⟨_, rfl⟩
      have hc1 := hcc.trans (cmpN_sign _ _)
      rw [Int.natCast_mul, Int.natCast_mul] at hc1
      have hcb : -1 ≤ cc ∧ cc ≤ 1 := by rw [hcc]; unfold cmpN; split <;> (try split) <;> omega
      rw [← hcc]
      rw [hcr] at hQ
      have gneg : ∀ {P : Program}, unX P .neg (.int .i64 cc) = some (.int .i64 (-cc)) := fun {P} => un_negI _ (by omega) (by omega)
      have q9 : ∀ l b, Up m ((m8.lg l).rd b) := fun l b => (q8 l).trans (Up.rd _ _)
      cases be1 with
      | false =>
        rw [← hbe] at hQ
        simp [drawFQ, hn, h0, hd, a8]
        have hq : ∀ m', Up m m' → Q (.int .i64 cc) m' := fun m' u => by
          have h9 := hQ m' u
          simp only [sgn, Bool.false_eq_true, if_false] at h9
          rw [← hc1] at h9
          exact h9
        exact hq _ (q8 _)
      | true =>
        rw [← hbe] at hQ
        simp [drawFQ, hn, h0, hd, a8, @gneg]
        have hq : ∀ m', Up m m' → Q (.int .i64 (-cc)) m' := fun m' u => by
          have h9 := hQ m' u
          simp only [sgn, if_true] at h9
          rw [show -(wv w1 : Int) * (den d2 : Int) - -(wv w2 : Int) * (den d1 : Int) = -((wv w1 : Int) * (den d2 : Int) - (wv w2 : Int) * (den d1 : Int)) by grind, Int.sign_neg, ← hc1] at h9
          exact h9
        exact hq _ (q8 _)
  · simp [hn, h0, hne, yieldX, boolOf_bool]
    refine ratSign_ok (e + 2) (hx.only o12) fun m4 o4 => ?_
    simp [hn, h1]
    refine ratSign_ok (e + 2) (hy.only (o12.trans o4)) fun m5 o5 => ?_
    have o15 := (o12.trans o4).trans o5
    rw [← hs1, ← hs2]
    by_cases hlt : s1 < s2
    · simp [hn, hd, hlt]
      have := hQ m5 (Up.only o15)
      rw [sign_lt hx.pos hy.pos (by rw [← hs1, ← hs2]; exact hlt)] at this
      exact this
    · simp [hn, h0, hlt]
      refine ratSign_ok (e + 2) (hx.only o15) fun m6 o6 => ?_
      simp [hn, h1]
      refine ratSign_ok (e + 2) (hy.only (o15.trans o6)) fun m7 o7 => ?_
      have hgt : s2 < s1 := by omega
      rw [← hs1, ← hs2]
      simp [hn, hd, hgt]
      have := hQ m7 (Up.only ((o15.trans o6).trans o7))
      rw [sign_gt hx.pos hy.pos (by rw [← hs1, ← hs2]; exact hgt)] at this
      exact this
end
end Go.Proofs.Ytghhanifakllpaa

/- Whole numbers and fractions of words in the clean executor: out of the language's numbers. -/
namespace Go.Proofs.Ytghhanifakllpaa
open Go.Clean
section
set_option maxRecDepth 10000
end
end Go.Proofs.Ytghhanifakllpaa

/- Fractions of words in the clean executor: NewRat, shifts. -/
namespace Go.Proofs.Ytghhanifakllpaa
open Go.Clean
section
set_option maxRecDepth 10000
end
end Go.Proofs.Ytghhanifakllpaa

/- Fractions of words in the clean executor: of floats. -/
namespace Go.Proofs.Ytghhanifakllpaa
open Go.Clean
def exF (b : Nat) : Nat := b / 4503599627370496 % 2048
def maF (b : Nat) : Nat := b % 4503599627370496
def exN (b : Nat) : Nat := if exF b = 0 then 1 else exF b
def maN (b : Nat) : Nat := if exF b = 0 then maF b else maF b + 4503599627370496
/-- What a finite float is worth, in units of 2^-1074. -/
def wth (b : Nat) : Int := sgn (decide (b / 9223372036854775808 = 1)) (maN b * 2 ^ (exN b - 1))
theorem bits_gives (n : Nat) (b : Nat) (hb : Clean.isNaN b = false) (m : Mem) (Q : Value → Mem → Prop) (h : Q (.int .u64 (b : Int)) m) : Gives (callN Try.prog kn1 (n + 1) 52 [.float .f64 b]) m Q := by
  refine (gives_known (g := bitsX [.float .f64 b]) (by rfl) m Q).2 ?_
  unfold bitsX
  refine (gives_bind _ _ _ _).2 ((gives_guard _ _ _).2 ⟨by rw [hb]; rfl, ?_⟩)
  exact (gives_ret _ _ _).2 h
theorem and11 {P : Program} {t' : TypeId} {xo yo : Operand} (x : Nat) (h : x < 18446744073709551616) : binX P .and t' xo yo (.int .u64 (x : Int)) (.int .u64 2047) = some (.int .u64 ((x % 2048 : Nat) : Int)) := by
  have e := bin_and64 (P := P) (t := t') (xo := xo) (yo := yo) x 2047 h (by decide)
  rw [show (2047 : Nat) = 2 ^ 11 - 1 from rfl, Nat.and_two_pow_sub_one_eq_mod] at e
  exact e
theorem and52 {P : Program} {t' : TypeId} {xo yo : Operand} (x : Nat) (h : x < 18446744073709551616) : binX P .and t' xo yo (.int .u64 (x : Int)) (.int .u64 4503599627370495) = some (.int .u64 ((x % 4503599627370496 : Nat) : Int)) := by
  have e := bin_and64 (P := P) (t := t') (xo := xo) (yo := yo) x 4503599627370495 h (by decide)
  rw [show (4503599627370495 : Nat) = 2 ^ 52 - 1 from rfl, Nat.and_two_pow_sub_one_eq_mod] at e
  exact e
theorem or52 {P : Program} {t' : TypeId} {xo yo : Operand} (x : Nat) (h : x < 4503599627370496) : binX P .or t' xo yo (.int .u64 (x : Int)) (.int .u64 4503599627370496) = some (.int .u64 ((x + 4503599627370496 : Nat) : Int)) := by
  have e := bin_or64 (P := P) (t := t') (xo := xo) (yo := yo) x 4503599627370496 (by omega) (by decide)
  rw [show (4503599627370496 : Nat) = 1 * 2 ^ 52 from rfl, or_add' 1 x 52 h] at e
  exact e
theorem cvu_int (x : Nat) (h : x < 9223372036854775808) : convX Try.prog 83 3 (.int .u64 (x : Int)) = some (.int .i64 (x : Int)) := by
  have e : convX Try.prog 83 3 (.int .u64 (x : Int)) = some (.int .i64 (IntKind.i64.wrap (x : Int))) := by kernel_rfl
  rw [e, w63 _ (by omega) (by omega)]
theorem pow_sum {Z a b c : Nat} (hZ : Z = 2 ^ b) (h : a + b = c) : 2 ^ a * Z = 2 ^ c := by rw [hZ, ← Nat.pow_add, h]
theorem pow_sum' {Z a b c : Nat} (hZ : Z = 2 ^ c) (h : a + b = c) : 2 ^ a * 2 ^ b = Z := by rw [hZ, ← Nat.pow_add, h]
theorem pow_one' {a c : Nat} (h : a = wv [1] * 2 ^ c) : a = 2 ^ c := by rw [h, show wv [1] = 1 from rfl, Nat.one_mul]
section
set_option maxRecDepth 10000
set_option maxHeartbeats 4000000 in
theorem ratFloat_ok (e : Nat) {m : Mem} {bz : Nat} {c0 c1 c2 : Value} {b : Nat} (hw : WF m) (hat : m.at bz = some ⟨[c0, c1, c2], 1, false, false⟩) (hI : nonI [c0, c1, c2]) (hno : Clean.isNaN b = false) (hb64 : b < 18446744073709551616) (hfin : exF b ≠ 2047) {Q : Value → Mem → Prop}
    (hQ : ∀ m', UpZ m m' bz → RT m' bz (wth b) (2 ^ 1074) 36 → Q (.pointer (some ⟨bz, 0, none⟩)) m') :
    Gives (callN Try.prog kn1 (e + 7) 53 [.pointer (some ⟨bz, 0, none⟩), .float .f64 b]) m Q := by
  obtain ⟨Z, hZ⟩ : ∃ Z : Nat, Z = 2 ^ 1074 := ⟨_, rfl⟩
  have hZp : 0 < Z := by rw [hZ]; exact Nat.two_pow_pos 1074
  rw [← hZ] at hQ
  refine gives_fn (nt := 44) rfl Try.func53 rfl rfl rfl (Nat.le_of_ble_eq_true rfl) fun fr hn hd hargs => ?_
  have h0 : fr.at 0 = _ := hargs 0 _ rfl
  have h1 : fr.at 1 = _ := hargs 1 _ rfl
  clear hargs
  have hzb := hw _ _ hat
  simp [hn, h1]
  refine bits_gives (e + 5) b hno m _ ?_
  obtain ⟨sh, hsh⟩ : ∃ x, x = b / 4503599627370496 := ⟨_, rfl⟩
  have s52 : ∀ {P : Program} {t' : TypeId} {xo yo : Operand} {k' : IntKind}, binX P .shr t' xo yo (.int .u64 (b : Int)) (.int k' 52) = some (.int .u64 (sh : Int)) := fun {P t' xo yo k'} => by rw [hsh]; exact bin_shr52 b
  obtain ⟨ex, hex⟩ : ∃ x, x = exF b := ⟨_, rfl⟩
  have a11 : ∀ {P : Program} {t' : TypeId} {xo yo : Operand}, binX P .and t' xo yo (.int .u64 (sh : Int)) (.int .u64 2047) = some (.int .u64 (ex : Int)) := fun {P t' xo yo} => by rw [hex, exF, ← hsh]; exact and11 sh (by omega)
  obtain ⟨ma, hma⟩ : ∃ x, x = maF b := ⟨_, rfl⟩
  have a52 : ∀ {P : Program} {t' : TypeId} {xo yo : Operand}, binX P .and t' xo yo (.int .u64 (b : Int)) (.int .u64 4503599627370495) = some (.int .u64 (ma : Int)) := fun {P t' xo yo} => by rw [hma, maF]; exact and52 b hb64
  have hex2 : ex < 2048 := by rw [hex, exF]; omega
  have hma2 : ma < 4503599627370496 := by rw [hma, maF]; omega
  have o52 : ∀ {P : Program} {t' : TypeId} {xo yo : Operand}, binX P .or t' xo yo (.int .u64 (ma : Int)) (.int .u64 4503599627370496) = some (.int .u64 ((ma + 4503599627370496 : Nat) : Int)) := fun {P t' xo yo} => or52 ma hma2
  have cve := cvu_int ex (by omega)
  have hexf : ¬ ex = 2047 := by rw [hex]; exact hfin
  have hexf' : ¬ (ex : Int) = 2047 := by omega
  obtain ⟨sg, hsg⟩ : ∃ x, x = b / 9223372036854775808 := ⟨_, rfl⟩
  have s63 : ∀ {P : Program} {t' : TypeId} {xo yo : Operand} {k' : IntKind}, binX P .shr t' xo yo (.int .u64 (b : Int)) (.int k' 63) = some (.int .u64 (sg : Int)) := fun {P t' xo yo k'} => by rw [hsg]; exact bin_shr63 b
  have rest' : ∀ (m1 : Mem) (v8 v9 : Value) (l8 l9 : List Nat), Up m m1 → WL m1 v8 l8 → WL m1 v9 l9 → l8.length ≤ 36 → l9.length ≤ 36 → 0 < wv l9 → wv l8 * Z = maN b * 2 ^ (exN b - 1) * wv l9 → ∀ {Q' : Value → Mem → Prop}, (∀ m', Q (.pointer (some ⟨bz, 0, none⟩)) m' → Q' (.pointer (some ⟨bz, 0, none⟩)) m') → Gives (callN Try.prog kn1 (e + 6) 60 [.pointer (some ⟨bz, 0, none⟩), .bool (decide ((sg : Int) = 1)), v8, v9]) m1 Q' := fun m1 v8 v9 l8 l9 u W8 W9 k8 k9 hp hv Q' hQ' => by
    rw [show decide ((sg : Int) = 1) = decide (sg = 1) from decide_eq_decide.2 (by omega)]
    refine ratSet_ok e (L := 36) (N := wth b) (D := Z) (u.wf hw) (u.at hat hw) hI W8 W9 k8 k9 (by omega) (by omega) hZp hp ?_ ?_
    rotate_left
    · intro m2 u2 r2
      exact hQ' m2 (hQ m2 (UpZ.after u hw u2 hzb) r2)
    rw [wth, ← hsg, ← sgn_mulN, ← sgn_mulN, hv]
  by_cases hz : ex = 0
  · have hz0 : ¬ 0 < (ex : Int) := by omega
    have hz00 : ¬ 0 < ex := by omega
    simp [hn, h0, h1, s52, a11, a52, @o52, cve, hexf, hexf', hz0, hz00]
    refine fromUint_ok (e + 4) (by omega) fun m1 v1 l1 u1 W1 hl1 t1 hv1 => ?_
    simp [hn]
    refine gives_build1W 1 ?_
    obtain ⟨m2, hm2⟩ : ∃ x, x = m1.nw ⟨wc [1], 1, false, false⟩ := ⟨_, rfl⟩
    have u2 : Up m1 m2 := by rw [hm2]; exact Up.nw _ _
    have W2 : WL m2 (.slice (some ⟨m1.next, 0, none⟩) 1 1) [1] := WL.own (l := [1]) (by rw [hm2]; simp) (fun x hx => by rw [List.mem_singleton.1 hx]; decide)
    rw [← hm2]
    have u02 := u1.trans u2
    simp [hn, show IntKind.i64.wrap 1074 = 1074 from by decide]
    refine up_ok (e + 4) (c := 1074) (u02.wf hw) W2 (by simp) (by omega) fun m3 v3 l3 u3 W3 hl3 t3 hv3 => ?_
    simp [hn, h0, s63]
    have e1 : wv l3 = Z := (pow_one' hv3).trans hZ.symm
    refine rest' m3 v1 v3 l1 l3 (u02.trans u3) ((W1.up (u1.wf hw) (u2.trans u3))) W3 (by omega) (by simp at hl3; omega) (by rw [e1]; exact hZp) ?_ fun m9 q9 => ?_
    · rw [hv1, e1, maN, exN, ← hex, if_pos hz, if_pos hz, ← hma]; simp
    · simp [hn, hd]; exact q9
  · have hz' : 0 < (ex : Int) := by omega
    obtain ⟨mm, hmm⟩ : ∃ x, x = ma + 4503599627370496 := ⟨_, rfl⟩
    rw [← hmm] at o52
    have hz2 : 0 < ex := by omega
    simp [hn, h0, h1, s52, a11, a52, @o52, cve, hexf, hexf', hz', hz2]
    refine fromUint_ok (e + 4) (by omega) fun m1 v1 l1 u1 W1 hl1 t1 hv1 => ?_
    simp [hn]
    refine gives_build1W 1 ?_
    obtain ⟨m2, hm2⟩ : ∃ x, x = m1.nw ⟨wc [1], 1, false, false⟩ := ⟨_, rfl⟩
    have u2 : Up m1 m2 := by rw [hm2]; exact Up.nw _ _
    have W2 : WL m2 (.slice (some ⟨m1.next, 0, none⟩) 1 1) [1] := WL.own (l := [1]) (by rw [hm2]; simp) (fun x hx => by rw [List.mem_singleton.1 hx]; decide)
    rw [← hm2]
    have u02 := u1.trans u2
    have e0 : wv [1] = 1 := rfl
    have emm : maN b = mm := by rw [maN, ← hex, if_neg hz, ← hma, hmm]
    have eex : exN b = ex := by rw [exN, ← hex, if_neg hz]
    by_cases hg : 1075 ≤ ex
    · have hg' : (1075 : Int) ≤ (ex : Int) := by omega
      obtain ⟨c, hc⟩ : ∃ c, c = ex - 1075 := ⟨_, rfl⟩
      have hwc : IntKind.i64.wrap ((ex : Int) - 1075) = (c : Int) := by rw [w63 _ (by omega) (by omega)]; omega
      simp [hn, hg, hg', hwc]
      refine up_ok (e + 4) (c := c) (u02.wf hw) (W1.up (u1.wf hw) u2) (by omega) (by omega) fun m3 v3 l3 u3 W3 hl3 t3 hv3 => ?_
      simp [hn, h0, s63]
      refine rest' m3 v3 _ l3 [1] (u02.trans u3) W3 (W2.up (u02.wf hw) u3) (by omega) (by simp) (by rw [e0]; omega) ?_ fun m9 q9 => ?_
      · have hpz : 2 ^ c * Z = 2 ^ (ex - 1) := pow_sum hZ (by omega)
        rw [hv3, hv1, e0, emm, eex, Nat.mul_one, Nat.mul_assoc, hpz]
      · simp [hn, hd]; exact q9
    · have hg' : ¬ (1075 : Int) ≤ (ex : Int) := by omega
      obtain ⟨c, hc⟩ : ∃ c, c = 1075 - ex := ⟨_, rfl⟩
      have hwc : IntKind.i64.wrap (1075 - (ex : Int)) = (c : Int) := by rw [w63 _ (by omega) (by omega)]; omega
      simp [hn, hg, hg', hwc]
      refine up_ok (e + 4) (c := c) (u02.wf hw) W2 (by simp) (by omega) fun m3 v3 l3 u3 W3 hl3 t3 hv3 => ?_
      simp [hn, h0, s63]
      refine rest' m3 v1 v3 l1 l3 (u02.trans u3) (W1.up (u1.wf hw) (u2.trans u3)) W3 (by omega) (by simp at hl3; omega) (by rw [hv3, e0, Nat.one_mul]; exact Nat.two_pow_pos _) ?_ fun m9 q9 => ?_
      · have hpz : Z = 2 ^ (ex - 1) * 2 ^ c := (pow_sum' hZ (by omega)).symm
        rw [hv3, hv1, e0, emm, eex, Nat.one_mul, Nat.mul_assoc, ← hpz]
      · simp [hn, hd]; exact q9
end
end Go.Proofs.Ytghhanifakllpaa

/- The law's own fractions: rat, near. -/
namespace Go.Proofs.Ytghhanifakllpaa
open Go.Clean
theorem zero_R : zeroT Try.prog 56 = some (.agg ⟨[.bool false, .slice none 0 0, .slice none 0 0]⟩) := by kernel_rfl
theorem RT.cells {m : Mem} {b : Nat} {N : Int} {D L : Nat} (h : RT m b N D L) : ∃ c0 c1 c2, m.at b = some ⟨[c0, c1, c2], 1, false, false⟩ ∧ nonI [c0, c1, c2] := by
  obtain ⟨be, vw, vd, w, d, h1, h2, h3, _⟩ := h.ex
  exact ⟨_, _, _, h1, nonI3 h2 h3⟩
section
set_option maxRecDepth 10000
theorem lawRat_ok (e : Nat) {m : Mem} {b : Nat} (hw : WF m) (hno : Clean.isNaN b = false) (hb64 : b < 18446744073709551616) (hfin : exF b ≠ 2047) {Q : Value → Mem → Prop}
    (hQ : ∀ m' bz, Up m m' → m.next ≤ bz → RT m' bz (wth b) (2 ^ 1074) 36 → Q (.pointer (some ⟨bz, 0, none⟩)) m') :
    Gives (callN Try.prog kn1 (e + 8) 30 [.float .f64 b]) m Q := by
  refine gives_fn (nt := 6) rfl Try.func30 rfl rfl rfl (Nat.le_of_ble_eq_true rfl) fun fr hn hd hargs => ?_
  have h0 : fr.at 0 = _ := hargs 0 _ rfl
  clear hargs
  simp [hn, h0, zero_R, elem_R, cells_agg, one_bool, one_nilS]
  have u1 : Up m (m.nw ⟨[.bool false, .slice none 0 0, .slice none 0 0], 1, false, false⟩) := Up.nw _ _
  refine ratFloat_ok (c0 := .bool false) (c1 := .slice none 0 0) (c2 := .slice none 0 0) e (u1.wf hw) (by simp) (nonI3 (WL.nil m) (WL.nil m)) hno hb64 hfin fun m2 u2 r2 => ?_
  simp [hn, hd]
  exact hQ m2 _ (UpZ.up u1 u2 (Nat.le_refl _)) (Nat.le_refl _) r2
end
end Go.Proofs.Ytghhanifakllpaa

/- Small whole numbers as floats: products, back to whole numbers (by running through them all). -/
namespace Go.Proofs.Ytghhanifakllpaa
open Go.Clean
def f64of (v : Option Value) : Option Nat := match v with
  | some (.float .f64 b) => some b
  | _ => none
def i64of (v : Option Value) : Option Int := match v with
  | some (.int .i64 b) => some b
  | _ => none
/-- The bits of a small whole number. -/
noncomputable def fi (k : Int) : Nat := (f64of (convX Try.prog 3 25 (.int .i64 k))).getD 0
def smallI : List Int := [-8, -7, -6, -5, -4, -3, -2, -1, 0, 1, 2, 3, 4, 5, 6, 7, 8]
theorem fi_plain : (smallI.all fun k => !Clean.isNaN (fi k) && decide (fi k < 18446744073709551616) && decide (exF (fi k) ≠ 2047)) = true := by kernel_rfl
end Go.Proofs.Ytghhanifakllpaa

/- The law's own: plain. -/
namespace Go.Proofs.Ytghhanifakllpaa
open Go.Clean
def pLo : F := some 4427038433705197568
def pHi : F := some 4787326403894837248
theorem cLo : cOf pLo = 4427038433705197568 := by decide
theorem cHi : cOf pHi = 4787326403894837248 := by decide
/-- Nought, or from 2^-40 to 2^40, without its sign. -/
def plainF (x : F) : Bool := feq x fzero || ((fcmp (fabs x) pLo == some .gt || fcmp (fabs x) pLo == some .eq) && fle (fabs x) pHi)
theorem bin_fgeLo {P : Program} {t : TypeId} {xo yo : Operand} (x : F) : binX P .geq t xo yo (.float .f64 (cOf x)) (.float .f64 4427038433705197568) = (cmpX .geq (fcmp x pLo)).map .bool := by
  rw [← cLo]; exact bin_fcmp x pLo .geq rfl
theorem bin_fleHi {P : Program} {t : TypeId} {xo yo : Operand} (x : F) : binX P .leq t xo yo (.float .f64 (cOf x)) (.float .f64 4787326403894837248) = some (.bool (fle x pHi)) := by
  rw [← cHi]; exact bin_fle x pHi
theorem cmp_geF (x y : F) : cmpX .geq (fcmp x y) = some (fcmp x y == some .gt || fcmp x y == some .eq) := by
  rcases fcmp x y with _ | c
  · rfl
  · cases c <;> rfl
section
set_option maxRecDepth 10000
theorem plain_ok (e : Nat) (x : F) {m : Mem} {Q : Value → Mem → Prop} (hQ : Q (.bool (plainF x)) m) : Gives (callN Try.prog kn1 (e + 2) 58 [.float .f64 (cOf x)]) m Q := by
  refine gives_fn (nt := 16) rfl Try.func58 rfl rfl rfl (Nat.le_of_ble_eq_true rfl) fun fr hn hd hargs => ?_
  have h0 : fr.at 0 = _ := hargs 0 _ rfl
  clear hargs
  simp [hn, h0]
  refine (gives_abs kn1_KP e x m _).2 ?_
  unfold plainF at hQ
  cases hz : feq x fzero with
  | true =>
    rw [hz] at hQ
    simp [hn, hd, h0, hz, yieldX, boolOf_bool, undef]
    simpa using hQ
  | false =>
    rw [hz] at hQ
    cases hl : (fcmp (fabs x) pLo == some .gt || fcmp (fabs x) pLo == some .eq) with
    | true =>
      rw [hl] at hQ
      simp [hn, hd, h0, hz, yieldX, boolOf_bool, undef, bin_fgeLo, bin_fleHi, cmp_geF, hl]
      simpa using hQ
    | false =>
      rw [hl] at hQ
      simp [hn, hd, h0, hz, yieldX, boolOf_bool, undef, bin_fgeLo, bin_fleHi, cmp_geF, hl]
      simpa using hQ
end
end Go.Proofs.Ytghhanifakllpaa

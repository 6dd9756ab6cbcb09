/- Fractions of words in the clean executor: products. -/
import Derived.Test.YtghhanifakllpaaBuY
set_option linter.unusedSimpArgs false
set_option linter.unusedVariables false
namespace Go.Proofs.Ytghhanifakllpaa
open Go.Clean
theorem WL.hid {m : Mem} {b : Nat} {cs : List Value} {v : Value} {l : List Nat} (h : WL m v l) (hb : m.at b = some ⟨cs, 1, false, false⟩) (hI : nonI cs) : WL (hid m b) v l := by
  refine ⟨h.wd, ?_⟩
  rcases h.lie with h1 | ⟨b2, o2, k2, x, h1, h2, h3, h4, h5, h6⟩
  · exact .inl h1
  · refine .inr ⟨b2, o2, k2, x, h1, h2, ?_, h4, h5, h6⟩
    rw [at_hid, if_neg]
    · exact h3
    · rintro rfl
      rw [hb] at h3
      cases h3
      exact hI.not_ints h5.2
theorem WF.hid {m : Mem} (h : WF m) (b : Nat) : WF (hid m b) := fun c x hc => by
  rw [at_hid] at hc
  split at hc
  · cases hc
  · exact h c x hc
theorem RT.keep {m m' : Mem} {b : Nat} {N : Int} {D L : Nat} (h : RT m b N D L) (e : ∀ b x, m.at b = some x → m'.at b = some x) : RT m' b N D L := by
  obtain ⟨be, vw, vd, w, d, h1, h2, h3, h4⟩ := h.ex
  exact ⟨⟨be, vw, vd, w, d, e _ _ h1, h2.keep e, h3.keep e, h4⟩, h.pos⟩
theorem RT.only {m m' : Mem} {b : Nat} {N : Int} {D L : Nat} (h : RT m b N D L) (u : Only m m') : RT m' b N D L := h.keep fun b x hb => by rw [u.2]; exact hb
theorem RT.up {m m' : Mem} {b : Nat} {N : Int} {D L : Nat} (h : RT m b N D L) (hw : WF m) (u : Up m m') : RT m' b N D L := h.keep fun b x hb => u.at hb hw
theorem RT.upz {m m' : Mem} {b bz : Nat} {N : Int} {D L : Nat} (h : RT m b N D L) (hw : WF m) (u : UpZ m m' bz) (hb : b ≠ bz) : RT m' b N D L := by
  obtain ⟨be, vw, vd, w, d, h1, h2, h3, h4⟩ := h.ex
  exact ⟨⟨be, vw, vd, w, d, by rw [u.old b (hw _ _ h1) hb]; exact h1, h2.upz hw u, h3.upz hw u, h4⟩, h.pos⟩
theorem RT.more {m : Mem} {b : Nat} {N : Int} {D L L' : Nat} (h : RT m b N D L) (hL : L ≤ L') : RT m b N D L' := by
  obtain ⟨be, vw, vd, w, d, h1, h2, h3, h4, h5, h6, h7, h8⟩ := h.ex
  exact ⟨⟨be, vw, vd, w, d, h1, h2, h3, h4, h5, by omega, by omega, h8⟩, h.pos⟩
theorem Soft.noW {m m' : Mem} {B : List Nat} (h : Soft m m') (h0 : m.log = []) (hB : ∀ b ∈ B, b < m.next) : noW B m'.log := by
  obtain ⟨nl, h1, h2⟩ := h
  intro b hb hm
  rw [h1, h0, List.append_nil] at hm
  have := h2 b hm
  have := hB b hb
  omega
theorem NT.noW {m m' : Mem} {b : Nat} (h : NT m m' b) (h0 : m.log = []) : (true, b) ∉ m'.log := by
  obtain ⟨nl, h1, h2⟩ := h
  intro hm
  rw [h1, h0, List.append_nil] at hm
  exact h2 _ hm rfl
theorem mulWords_off (e : Nat) {m : Mem} {bx bY : Nat} {cx cy : List Value} {va vb : Value} {a b : List Nat} (hw : WF m) (h0 : m.log = []) (hx : m.at bx = some ⟨cx, 1, false, false⟩) (hxI : nonI cx) (hy : m.at bY = some ⟨cy, 1, false, false⟩) (hyI : nonI cy) (ha : WL m va a) (hb : WL m vb b) (hl : a.length < 400000) (hlb : b.length < 400000) {Q : Value → Mem → Prop}
    (hQ : ∀ m' v l, Up m m' → noW [bx, bY] m'.log → WL m' v l → l.length ≤ a.length + b.length → Tr l → wv l = wv a * wv b → Q v m') :
    Gives (callN Try.prog kn1 (e + 2) 61 [va, vb]) m Q := by
  have hs : ∀ b' x, (hid (hid m bx) bY).at b' = some x → m.at b' = some x := fun b' x h => by
    rw [at_hid] at h
    split at h
    · cases h
    · rw [at_hid] at h
      split at h
      · cases h
      · exact h
  by_cases hxy : bx = bY
  · subst hxy
    have hs' : ∀ b' x, (hid m bx).at b' = some x → m.at b' = some x := fun b' x h => by
      rw [at_hid] at h
      split at h
      · cases h
      · exact h
    refine gives_hide (mh := hid m bx) rfl hs' hw ?_
    refine mulWords_ok e (hw.hid bx) (ha.hid hx hxI) (hb.hid hx hxI) hl hlb fun mh' v l u W hll tl hv => ⟨u, fun m' um hk nt => ?_⟩
    have n1 := (nt bx (by simp) (hw _ _ hx)).noW h0
    refine hQ m' v l um (fun c hc => ?_) (W.keep hk) hll tl hv
    simp at hc
    subst hc
    exact n1
  · refine gives_hide (mh := hid (hid m bx) bY) rfl hs hw ?_
    have hy' : (hid m bx).at bY = some ⟨cy, 1, false, false⟩ := by rw [at_hid, if_neg (fun h => hxy h.symm)]; exact hy
    refine mulWords_ok e ((hw.hid bx).hid bY) ((ha.hid hx hxI).hid hy' hyI) ((hb.hid hx hxI).hid hy' hyI) hl hlb fun mh' v l u W hll tl hv => ⟨u, fun m' um hk nt => ?_⟩
    have n1 := (nt bx (by simp) (hw _ _ hx)).noW h0
    have n2 := (nt bY (by simp) (hw _ _ hy)).noW h0
    refine hQ m' v l um (fun c hc => ?_) (W.keep hk) hll tl hv
    simp at hc
    rcases hc with rfl | rfl
    · exact n1
    · exact n2
theorem bin_neB {xo yo : Operand} (a b : Bool) : binX Try.prog .neq 4 xo yo (.bool a) (.bool b) = some (.bool (a != b)) := by cases a <;> cases b <;> kernel_rfl
theorem bin_eqB {xo yo : Operand} (a b : Bool) : binX Try.prog .eql 4 xo yo (.bool a) (.bool b) = some (.bool (a == b)) := by cases a <;> cases b <;> kernel_rfl
theorem sgn_mul (a b : Bool) (x y : Nat) : sgn (a != b) (x * y) = sgn a x * sgn b y := by
  unfold sgn
  cases a <;> cases b <;> simp [Int.neg_mul, Int.mul_neg]
theorem frac_mul {a b : Bool} {x y D1 D2 d1 d2 : Nat} {N1 N2 : Int} (h1 : sgn a x * (D1 : Int) = N1 * (d1 : Int)) (h2 : sgn b y * (D2 : Int) = N2 * (d2 : Int)) : sgn (a != b) (x * y) * ((D1 * D2 : Nat) : Int) = N1 * N2 * ((d1 * d2 : Nat) : Int) := by
  rw [sgn_mul, Int.natCast_mul, Int.natCast_mul]
  calc sgn a x * sgn b y * ((D1 : Int) * D2) = (sgn a x * D1) * (sgn b y * D2) := by grind
    _ = (N1 * d1) * (N2 * d2) := by rw [h1, h2]
    _ = N1 * N2 * ((d1 : Int) * d2) := by grind
section
set_option maxRecDepth 10000
set_option maxHeartbeats 4000000 in
theorem ratMul_ok (e : Nat) {m : Mem} {bz bx bY : Nat} {c0 c1 c2 : Value} {N1 N2 : Int} {D1 D2 L1 L2 L : Nat} (hw : WF m) (hat : m.at bz = some ⟨[c0, c1, c2], 1, false, false⟩) (hI : nonI [c0, c1, c2]) (hx : RT m bx N1 D1 L1) (hy : RT m bY N2 D2 L2) (hL1 : L1 + L2 + 2 ≤ L) (hL : L ≤ 60000) {Q : Value → Mem → Prop}
    (hQ : ∀ m', UpZ m m' bz → RT m' bz (N1 * N2) (D1 * D2) L → Q (.pointer (some ⟨bz, 0, none⟩)) m') :
    Gives (callN Try.prog kn1 (e + 7) 32 [.pointer (some ⟨bz, 0, none⟩), .pointer (some ⟨bx, 0, none⟩), .pointer (some ⟨bY, 0, none⟩)]) m Q := by
  refine gives_fn (nt := 36) rfl Try.func32 rfl rfl rfl (Nat.le_of_ble_eq_true rfl) fun fr hn hd hargs => ?_
  have h0 : fr.at 0 = _ := hargs 0 _ rfl
  have h1 : fr.at 1 = _ := hargs 1 _ rfl
  have h2 : fr.at 2 = _ := hargs 2 _ rfl
  clear hargs
  obtain ⟨be1, vw1, vd1, w1, d1, x1, x2, x3, x4, x5, x6, x7, x8, x9⟩ := hx.ex
  obtain ⟨be2, vw2, vd2, w2, d2, y1, y2, y3, y4, y5, y6, y7, y8, y9⟩ := hy.ex
  have xI : nonI [.bool be1, vw1, vd1] := nonI3 x2 x3
  have yI : nonI [.bool be2, vw2, vd2] := nonI3 y2 y3
  simp [hn]
  refine code_draw_calls [bx, bY] 28 (p1 := [0, 0, 2, 6, 14, 30, 0, 64, 192, 448, 960, 2046, 0, 4096, 12288, 28672, 61440, 0, 131072, 393216, 917504, 1966080, 4190208, 0, 16773120, 0, 67104768, 134213632]) (p2 := [268435455, 536870911]) (by kernel_rfl) rfl rfl (by kernel_rfl) (by kernel_rfl) (by kernel_rfl) fun ops => ?_
  simp [drawVR, hn, h0, h1, h2, x1, y1, bin_neB]
  have hxb := hw _ _ x1
  have hyb := hw _ _ y1
  have o1 : Only m (m.lg []) := ⟨by simp, fun c => by simp⟩
  refine mulWords_off (e + 4) (o1.wf hw) rfl (bx := bx) (bY := bY) (by simp [x1]) xI (by simp [y1]) yI (x2.only o1) (y2.only o1) (by omega) (by omega) fun m2 v2 l2 u2 nw2 W2 hl2 t2 hv2 => ?_
  simp [drawVR, drawVC, hn, h1, nw2]
  have o2 : Only m2 (m2.lg []) := ⟨by simp, fun c => by simp⟩
  have u02 : Up m (m2.lg []) := (Up.only o1).trans (u2.trans (Up.only o2))
  have w02 := u02.wf hw
  refine below_ok (e + 5) (u02.at x1 hw) (x3.up hw u02) x5 fun m3 v3 l3 u3 sf3 W3 t3 hl3 hv3 hp3 => ?_
  have nw3 := sf3.noW rfl (B := [bx, bY]) (fun b hb => by have := u02.next; simp at hb; rcases hb with rfl | rfl <;> omega)
  simp [drawVR, drawVC, Nat.testBit, hn, h2, nw3]
  have o3 : Only m3 (m3.lg []) := ⟨by simp, fun c => by simp⟩
  have u03 : Up m (m3.lg []) := u02.trans (u3.trans (Up.only o3))
  refine below_ok (e + 5) (u03.at y1 hw) (y3.up hw u03) y5 fun m4 v4 l4 u4 sf4 W4 t4 hl4 hv4 hp4 => ?_
  have nw4 := sf4.noW rfl (B := [bx, bY]) (fun b hb => by have := u03.next; simp at hb; rcases hb with rfl | rfl <;> omega)
  simp [drawVR, drawVC, Nat.testBit, hn, nw4]
  have o4 : Only m4 (m4.lg []) := ⟨by simp, fun c => by simp⟩
  have u04 : Up m (m4.lg []) := u03.trans (u4.trans (Up.only o4))
  refine mulWords_off (e + 4) (u04.wf hw) rfl (bx := bx) (bY := bY) (u04.at x1 hw) xI (u04.at y1 hw) yI (W3.up (u3.wf w02) ((Up.only o3).trans (u4.trans (Up.only o4)))) (W4.only o4) (by omega) (by omega) fun m5 v5 l5 u5 nw5 W5 hl5 t5 hv5 => ?_
  simp [drawVR, drawVC, drawFQ, Nat.testBit, hn, nw5]
  have o5 : Only m5 (m5.lg []) := ⟨by simp, fun c => by simp⟩
  have u05 : Up m (m5.lg []) := u04.trans (u5.trans (Up.only o5))
  have w05 := u05.wf hw
  have hp1 := den_pos x5
  have hp2 := den_pos y5
  have hlx : l3.length ≤ L1 + 1 := by omega
  have hly : l4.length ≤ L2 + 1 := by omega
  refine ratSet_ok e (L := L) (N := N1 * N2) (D := D1 * D2) w05 (u05.at hat hw) hI (W2.up (u2.wf (o1.wf hw)) ((Up.only o2).trans ((u3.trans (Up.only o3)).trans ((u4.trans (Up.only o4)).trans (u5.trans (Up.only o5)))))) (W5.only o5) (by omega) (by omega) hL (by omega) (Nat.mul_pos hx.pos hy.pos) (by rw [hv5, hv3, hv4]; exact Nat.mul_pos hp1 hp2) ?_ fun m6 u6 r6 => ?_
  · rw [hv2, hv5, hv3, hv4]
    exact frac_mul x9 y9
  · simp [drawFQ, hn, hd]
    have o6 : ∀ l, Only m6 (m6.lg l) := fun l => ⟨by simp, fun c => by simp⟩
    exact hQ _ ((UpZ.after u05 hw u6 (hw _ _ hat)).before hw (Up.only (o6 _))) (r6.only (o6 _))
end
end Go.Proofs.Ytghhanifakllpaa

/- Whole numbers of words in the clean executor: sums. -/
namespace Go.Proofs.Ytghhanifakllpaa
open Go.Clean
theorem sgn_and (be : Bool) (w : List Nat) : sgn (be && decide (0 < w.length)) (wv w) = sgn be (wv w) := by
  by_cases h : 0 < w.length
  · simp [h]
  · have : w = [] := List.eq_nil_of_length_eq_zero (by omega)
    subst this
    show sgn _ 0 = sgn _ 0
    rw [sgn_zero, sgn_zero]
theorem sgn_add (be : Bool) (x y : Nat) : sgn be (x + y) = sgn be x + sgn be y := by
  unfold sgn
  cases be <;> simp <;> omega
theorem sgn_sub {b1 b2 : Bool} {x y : Nat} (h : ¬ b1 = b2) (hxy : x ≤ y) : sgn b2 (y - x) = sgn b1 x + sgn b2 y := by
  unfold sgn
  cases b1 <;> cases b2 <;> simp at h ⊢ <;> omega
/-- A whole number in memory, behind which other cells may lie. -/
structure IT (m : Mem) (b : Nat) (rest : List Value) (n : Int) (L : Nat) : Prop where
  ex : ∃ (be : Bool) (vw : Value) (w : List Nat), m.at b = some ⟨.bool be :: vw :: rest, 1, false, false⟩ ∧ WL m vw w ∧ Tr w ∧ w.length ≤ L ∧ (be = true → w ≠ []) ∧ sgn be (wv w) = n ∧ nonI (.bool be :: vw :: rest)
theorem intSet_it (e : Nat) {m : Mem} {b : Nat} {c0 c1 : Value} {rest : List Value} {be : Bool} {vw : Value} {w : List Nat} {L : Nat} (hat : m.at b = some ⟨c0 :: c1 :: rest, 1, false, false⟩) (hI : nonI (c0 :: c1 :: rest)) (h : WL m vw w) (tw : Tr w) (hl : w.length ≤ L) (hL : L < 1000000) {Q : Value → Mem → Prop}
    (hQ : ∀ m', UpZ m m' b → IT m' b rest (sgn be (wv w)) L → Q (.pointer (some ⟨b, 0, none⟩)) m') :
    Gives (callN Try.prog kn1 (e + 2) 80 [.pointer (some ⟨b, 0, none⟩), .bool be, vw]) m Q := by
  refine intSet_ok e hat hI h (by omega) fun m' v' t W => ?_
  rw [trim_tr h.wd tw] at t W
  have hI' : nonI (.bool (be && decide (0 < w.length)) :: v' :: rest) := (hI.set (i := 0) (v := .bool (be && decide (0 < w.length))) (fun k x h => by cases h)).set (i := 1) (v := v') W.notI
  refine hQ m' (t.upz hI') ⟨_, v', w, t.is, W, tw, hl, fun h h2 => ?_, sgn_and be w, hI'⟩
  rw [h2] at h; simp at h
section
set_option maxRecDepth 10000
theorem intAdded_ok (e : Nat) {m : Mem} {bz : Nat} {c0 c1 : Value} {rest : List Value} {be1 be2 : Bool} {va vb : Value} {a b : List Nat} {L : Nat} (hw : WF m) (hat : m.at bz = some ⟨c0 :: c1 :: rest, 1, false, false⟩) (hI : nonI (c0 :: c1 :: rest)) (ha : WL m va a) (hb : WL m vb b) (ta : Tr a) (tb : Tr b) (hla : a.length + 1 ≤ L) (hlb : b.length + 1 ≤ L) (hL : L < 900000) {Q : Value → Mem → Prop}
    (hQ : ∀ m', UpZ m m' bz → IT m' bz rest (sgn be1 (wv a) + sgn be2 (wv b)) L → Q (.pointer (some ⟨bz, 0, none⟩)) m') :
    Gives (callN Try.prog kn1 (e + 4) 99 [.pointer (some ⟨bz, 0, none⟩), va, .bool be1, vb, .bool be2]) m Q := by
  refine gives_fn (nt := 36) rfl Try.func99 rfl rfl rfl (Nat.le_of_ble_eq_true rfl) fun fr hn hd hargs => ?_
  have h0 : fr.at 0 = _ := hargs 0 _ rfl
  have h1 : fr.at 1 = _ := hargs 1 _ rfl
  have h2 : fr.at 2 = _ := hargs 2 _ rfl
  have h3 : fr.at 3 = _ := hargs 3 _ rfl
  have h4 : fr.at 4 = _ := hargs 4 _ rfl
  clear hargs
  have hzb := hw _ _ hat
  by_cases hbb : be1 = be2
  · simp [hn, h0, h1, h2, h3, h4, bin_eqB, hbb]
    refine addWords_ok (e + 1) hw ha hb (by omega) (by omega) fun m1 v1 l1 u1 W1 hl1 t1 hv1 => ?_
    simp [hn]
    refine intSet_it (L := L) (e + 1) (u1.at hat hw) hI W1 t1 (by omega) (by omega) fun m2 u2 r2 => ?_
    simp [hn, hd]
    refine hQ m2 (UpZ.after u1 hw u2 hzb) ?_
    rw [hv1, sgn_add] at r2
    rw [hbb]; exact r2
  · have hbb' : (be1 == be2) = false := by simpa using hbb
    simp [hn, h0, h1, h2, h3, h4, bin_eqB, hbb']
    refine cmpWords_ok (e + 2) ha hb ta tb (by omega) (by omega) fun m1 o1 => ?_
    by_cases hlt : wv a < wv b
    · have hc : cmpN (wv a) (wv b) = -1 := if_pos hlt
      simp [hc, hn, h0, h1, h2, h3, h4]
      refine subWords_ok (e + 1) (o1.wf hw) (hb.only o1) (ha.only o1) ta (by omega) (by omega) fun m2 v2 l2 u2 W2 hl2 t2 hv2 => ?_
      simp [hn]
      have u02 := (Up.only o1).trans u2
      refine intSet_it (L := L) (e + 1) (u02.at hat hw) hI W2 t2 (by omega) (by omega) fun m3 u3 r3 => ?_
      simp [hn, hd]
      refine hQ m3 (UpZ.after u02 hw u3 hzb) ?_
      have : sgn be2 (wv b - wv a) = sgn be1 (wv a) + sgn be2 (wv b) := sgn_sub hbb (by omega)
      rw [← this, ← hv2]; exact r3
    · have hc : 0 ≤ cmpN (wv a) (wv b) := by
        unfold cmpN
        rw [if_neg hlt]
        split <;> omega
      simp [hc, hn, h0, h1, h2, h3, h4]
      refine subWords_ok (e + 1) (o1.wf hw) (ha.only o1) (hb.only o1) tb (by omega) (by omega) fun m2 v2 l2 u2 W2 hl2 t2 hv2 => ?_
      simp [hn]
      have u02 := (Up.only o1).trans u2
      refine intSet_it (L := L) (e + 1) (u02.at hat hw) hI W2 t2 (by omega) (by omega) fun m3 u3 r3 => ?_
      simp [hn, hd]
      refine hQ m3 (UpZ.after u02 hw u3 hzb) ?_
      have : sgn be1 (wv a - wv b) = sgn be1 (wv a) + sgn be2 (wv b) := by rw [Int.add_comm]; exact sgn_sub (fun h => hbb h.symm) (by omega)
      rw [← this, ← hv2]; exact r3
end
end Go.Proofs.Ytghhanifakllpaa

/- Fractions of words in the clean executor: sums. -/
namespace Go.Proofs.Ytghhanifakllpaa
open Go.Clean
theorem build_I : buildX Try.prog 54 [] = some (.agg ⟨[.bool false, .slice none 0 0]⟩) := by kernel_rfl
theorem elem_I : elemT Try.prog 54 = 1 := by kernel_rfl
theorem elem_R : elemT Try.prog 56 = 1 := by kernel_rfl
theorem UpZ.up {m m1 m2 : Mem} {b : Nat} (h : Up m m1) (k : UpZ m1 m2 b) (hb : m.next ≤ b) : Up m m2 :=
  ⟨Nat.le_trans h.next k.next, fun c hc => (k.old c (Nat.lt_of_lt_of_le hc h.next) (by omega)).trans (h.old c hc), fun w => k.wf (h.wf w)⟩
theorem IT.keep {m m' : Mem} {b : Nat} {rest : List Value} {n : Int} {L : Nat} (h : IT m b rest n L) (e : ∀ b x, m.at b = some x → m'.at b = some x) : IT m' b rest n L := by
  obtain ⟨be, vw, w, h1, h2, h3⟩ := h.ex
  exact ⟨be, vw, w, e _ _ h1, h2.keep e, h3⟩
theorem IT.only {m m' : Mem} {b : Nat} {rest : List Value} {n : Int} {L : Nat} (h : IT m b rest n L) (u : Only m m') : IT m' b rest n L := h.keep fun b x hb => by rw [u.2]; exact hb
theorem IT.up {m m' : Mem} {b : Nat} {rest : List Value} {n : Int} {L : Nat} (h : IT m b rest n L) (hw : WF m) (u : Up m m') : IT m' b rest n L := h.keep fun b x hb => u.at hb hw
theorem IT.upz {m m' : Mem} {b bz : Nat} {rest : List Value} {n : Int} {L : Nat} (h : IT m b rest n L) (hw : WF m) (u : UpZ m m' bz) (hb : b ≠ bz) : IT m' b rest n L := by
  obtain ⟨be, vw, w, h1, h2, h3⟩ := h.ex
  exact ⟨be, vw, w, by rw [u.old b (hw _ _ h1) hb]; exact h1, h2.upz hw u, h3⟩
theorem sgn_mulN (a : Bool) (x y : Nat) : sgn a (x * y) = sgn a x * (y : Int) := by
  unfold sgn
  cases a <;> simp [Int.neg_mul]
theorem sgn_turn (b t : Bool) (y : Nat) : sgn (b != t) y = if t then -sgn b y else sgn b y := by
  unfold sgn
  cases b <;> cases t <;> simp
theorem frac_add {b1 b2 t : Bool} {x y D1 D2 d1 d2 : Nat} {N1 N2 : Int} (h1 : sgn b1 x * (D1 : Int) = N1 * (d1 : Int)) (h2 : sgn b2 y * (D2 : Int) = N2 * (d2 : Int)) :
    (sgn b1 (x * d2) + sgn (b2 != t) (y * d1)) * ((D1 * D2 : Nat) : Int) = (N1 * D2 + (if t then -N2 else N2) * D1) * ((d1 * d2 : Nat) : Int) := by
  rw [sgn_turn, sgn_mulN, sgn_mulN, Int.natCast_mul, Int.natCast_mul]
  cases t
  · simp only [Bool.false_eq_true, if_false]
    calc (sgn b1 x * (d2 : Int) + sgn b2 y * d1) * ((D1 : Int) * D2) = (sgn b1 x * D1) * (d2 * D2) + (sgn b2 y * D2) * (d1 * D1) := by grind
      _ = (N1 * d1) * (d2 * D2) + (N2 * d2) * (d1 * D1) := by rw [h1, h2]
      _ = (N1 * D2 + N2 * D1) * ((d1 : Int) * d2) := by grind
  · simp only [if_true]
    calc (sgn b1 x * (d2 : Int) + -(sgn b2 y * d1)) * ((D1 : Int) * D2) = (sgn b1 x * D1) * (d2 * D2) - (sgn b2 y * D2) * (d1 * D1) := by grind
      _ = (N1 * d1) * (d2 * D2) - (N2 * d2) * (d1 * D1) := by rw [h1, h2]
      _ = (N1 * D2 + -N2 * D1) * ((d1 : Int) * d2) := by grind
theorem one_bool (b : Bool) : oneV (.bool b) = true := by cases b <;> rfl
theorem one_nilS : oneV (.slice none 0 0) = true := by kernel_rfl
section
set_option maxRecDepth 10000
set_option maxHeartbeats 4000000 in
theorem intAdd_ok (e : Nat) {m : Mem} {bz bx bY : Nat} {c0 c1 : Value} {rest rx ry : List Value} {n1 n2 : Int} {L1 L : Nat} (hw : WF m) (hat : m.at bz = some ⟨c0 :: c1 :: rest, 1, false, false⟩) (hI : nonI (c0 :: c1 :: rest)) (hx : IT m bx rx n1 L1) (hy : IT m bY ry n2 L1) (hL1 : L1 + 1 ≤ L) (hL : L < 900000) {Q : Value → Mem → Prop}
    (hQ : ∀ m', UpZ m m' bz → IT m' bz rest (n1 + n2) L → Q (.pointer (some ⟨bz, 0, none⟩)) m') :
    Gives (callN Try.prog kn1 (e + 5) 81 [.pointer (some ⟨bz, 0, none⟩), .pointer (some ⟨bx, 0, none⟩), .pointer (some ⟨bY, 0, none⟩)]) m Q := by
  refine gives_fn (nt := 25) rfl Try.func81 rfl rfl rfl (Nat.le_of_ble_eq_true rfl) fun fr hn hd hargs => ?_
  have h0 : fr.at 0 = _ := hargs 0 _ rfl
  have h1 : fr.at 1 = _ := hargs 1 _ rfl
  have h2 : fr.at 2 = _ := hargs 2 _ rfl
  clear hargs
  obtain ⟨be1, vw1, w1, x1, x2, x3, x4, x5, x6, x7⟩ := hx.ex
  obtain ⟨be2, vw2, w2, y1, y2, y3, y4, y5, y6, y7⟩ := hy.ex
  have hzb := hw _ _ hat
  simp [hn]
  refine code_draw_calls [bx, bY] 17 (p1 := [0, 0, 2, 6, 14, 0, 32, 96, 224, 0, 512, 1536, 3584, 0, 8192, 24576, 57344]) (p2 := [131071, 262143]) (by kernel_rfl) rfl rfl (by kernel_rfl) (by kernel_rfl) (by kernel_rfl) fun ops => ?_
  simp [drawVR, drawFQ, hn, h0, h1, h2, x1, y1]
  have o1 : Only m (m.lg []) := ⟨by simp, fun c => by simp⟩
  refine intAdded_ok e (o1.wf hw) (by simpa using hat) hI (x2.only o1) (y2.only o1) x3 y3 (by omega) (by omega) hL fun m2 u2 r2 => ?_
  simp [drawFQ, hn, hd]
  have o2 : ∀ l, Only m2 (m2.lg l) := fun l => ⟨by simp, fun c => by simp⟩
  refine hQ _ ((UpZ.after (Up.only o1) hw u2 hzb).before hw (Up.only (o2 _))) ?_
  obtain ⟨be3, v3, w3, q1, q2, q3, q4, q5, q6, q7⟩ := r2.ex
  exact ⟨be3, v3, w3, by simpa using q1, q2.only (o2 _), q3, q4, q5, by rw [q6, x6, y6], q7⟩
set_option maxHeartbeats 4000000 in
theorem ratAdded_ok (e : Nat) {m : Mem} {bz bx bY : Nat} {c0 c1 c2 : Value} {N1 N2 : Int} {D1 D2 L1 L2 L : Nat} {turned : Bool} (hw : WF m) (hat : m.at bz = some ⟨[c0, c1, c2], 1, false, false⟩) (hI : nonI [c0, c1, c2]) (hx : RT m bx N1 D1 L1) (hy : RT m bY N2 D2 L2) (hL1 : L1 + L2 + 4 ≤ L) (hL : L ≤ 60000) {Q : Value → Mem → Prop}
    (hQ : ∀ m', UpZ m m' bz → RT m' bz (N1 * D2 + (if turned then -N2 else N2) * D1) (D1 * D2) L → Q (.pointer (some ⟨bz, 0, none⟩)) m') :
    Gives (callN Try.prog kn1 (e + 7) 59 [.pointer (some ⟨bz, 0, none⟩), .pointer (some ⟨bx, 0, none⟩), .pointer (some ⟨bY, 0, none⟩), .bool turned]) m Q := by
  refine gives_fn (nt := 68) rfl Try.func59 rfl rfl rfl (Nat.le_of_ble_eq_true rfl) fun fr hn hd hargs => ?_
  have h0 : fr.at 0 = _ := hargs 0 _ rfl
  have h1 : fr.at 1 = _ := hargs 1 _ rfl
  have h2 : fr.at 2 = _ := hargs 2 _ rfl
  have h3 : fr.at 3 = _ := hargs 3 _ rfl
  clear hargs
  have hzb := hw _ _ hat
  simp [hn, build_I, elem_I, cells_agg, one_bool, one_nilS]
  obtain ⟨be1, vw1, vd1, w1, d1, x1, x2, x3, x4, x5, x6, x7, x8, x9⟩ := hx.ex
  obtain ⟨be2, vw2, vd2, w2, d2, y1, y2, y3, y4, y5, y6, y7, y8, y9⟩ := hy.ex
  have xI : nonI [.bool be1, vw1, vd1] := nonI3 x2 x3
  have yI : nonI [.bool be2, vw2, vd2] := nonI3 y2 y3
  obtain ⟨bb, hbb⟩ : ∃ x, x = m.next + 1 := ⟨_, rfl⟩
  obtain ⟨ba, hba⟩ : ∃ x, x = m.next := ⟨_, rfl⟩
  rw [← hbb, ← hba]
  obtain ⟨m1, hm1⟩ : ∃ x, x = (m.nw ⟨[.bool false, .slice none 0 0], 1, false, false⟩).nw ⟨[.bool false, .slice none 0 0], 1, false, false⟩ := ⟨_, rfl⟩
  rw [← hm1]
  have u1 : Up m m1 := by rw [hm1]; exact (Up.nw _ _).trans (Up.nw _ _)
  have a1 : m1.at ba = some ⟨[.bool false, .slice none 0 0], 1, false, false⟩ := by rw [hm1, hba]; simp
  have b1 : m1.at bb = some ⟨[.bool false, .slice none 0 0], 1, false, false⟩ := by rw [hm1, hbb]; simp
  have n1 : m1.next = bb + 1 := by rw [hm1, hbb]; simp
  have nI : nonI [.bool false, .slice none 0 0] := nonI2 (WL.nil m)
  have hne : ba ≠ bb := by omega
  clear hm1
  have w1' := u1.wf hw
  have hxb := hw _ _ x1
  have hyb := hw _ _ y1
  refine code_draw_calls [bx, bY] 14 (p1 := [0, 0, 2, 6, 14, 30, 0, 64, 192, 448, 960, 0, 2048, 8128]) (p2 := [16383]) (by kernel_rfl) rfl rfl (by kernel_rfl) (by kernel_rfl) (by kernel_rfl) fun ops => ?_
  simp [drawVR, hn, h0, h1, h2, u1.at x1 hw]
  have o1 : ∀ l, Only m1 (m1.lg l) := fun l => ⟨by simp, fun c => by simp⟩
  have p1 : Up m (m1.lg []) := u1.trans (Up.only (o1 _))
  refine below_ok (e + 5) (p1.at y1 hw) (y3.up hw p1) y5 fun m2 v2 l2 u2 sf2 W2 t2 hl2 hv2 hp2 => ?_
  have nw2 := sf2.noW rfl (B := [bx, bY]) (fun b hb => by have := p1.next; simp at hb; rcases hb with rfl | rfl <;> omega)
  simp [drawVR, drawVC, hn, nw2]
  have o2 : ∀ l, Only m2 (m2.lg l) := fun l => ⟨by simp, fun c => by simp⟩
  have p2 : Up m (m2.lg []) := p1.trans (u2.trans (Up.only (o2 _)))
  refine mulWords_off (e + 4) (p2.wf hw) rfl (bx := bx) (bY := bY) (p2.at x1 hw) xI (p2.at y1 hw) yI (x2.up hw p2) (W2.only (o2 _)) (by omega) (by omega) fun m3 v3 l3 u3 nw3 W3 hl3 t3 hv3 => ?_
  simp [drawVR, drawVC, drawFQ, Nat.testBit, hn, nw3]
  have o3 : ∀ l, Only m3 (m3.lg l) := fun l => ⟨by simp, fun c => by simp⟩
  have q13 : Up m1 (m3.lg []) := (Up.only (o1 _)).trans (u2.trans ((Up.only (o2 _)).trans (u3.trans (Up.only (o3 _)))))
  have p3 := u1.trans q13
  refine intSet_it (L := L1 + L2 + 1) (e + 4) (q13.at a1 w1') nI (W3.only (o3 _)) t3 (by omega) (by omega) fun m4 u4 r4 => ?_
  simp [drawFQ, hn]
  have o4 : ∀ l, Only m4 (m4.lg l) := fun l => ⟨by simp, fun c => by simp⟩
  have p4 : Up m m4 := UpZ.up p3 u4 (by omega)
  have b4 : m4.at bb = some ⟨[.bool false, .slice none 0 0], 1, false, false⟩ := by
    have h9 := q13.at b1 w1'
    rw [u4.old bb (q13.wf w1' _ _ h9) (Ne.symm hne)]; exact h9
  refine code_draw_calls [bx, bY] 16 (p1 := [0, 0, 2, 6, 14, 30, 0, 126, 0, 256, 768, 1792, 3840, 0, 8192, 32512]) (p2 := [65535]) (by kernel_rfl) rfl rfl (by kernel_rfl) (by kernel_rfl) (by kernel_rfl) fun ops => ?_
  simp [drawVR, hn, h0, h1, h2, h3, p4.at y1 hw, bin_neB]
  have p4' : Up m (m4.lg []) := p4.trans (Up.only (o4 _))
  refine below_ok (e + 5) (p4'.at x1 hw) (x3.up hw p4') x5 fun m5 v5 l5 u5 sf5 W5 t5 hl5 hv5 hp5 => ?_
  have nw5 := sf5.noW rfl (B := [bx, bY]) (fun b hb => by have := p4'.next; simp at hb; rcases hb with rfl | rfl <;> omega)
  simp [drawVR, drawVC, hn, nw5]
  have o5 : ∀ l, Only m5 (m5.lg l) := fun l => ⟨by simp, fun c => by simp⟩
  have p5 : Up m (m5.lg []) := p4'.trans (u5.trans (Up.only (o5 _)))
  refine mulWords_off (e + 4) (p5.wf hw) rfl (bx := bx) (bY := bY) (p5.at x1 hw) xI (p5.at y1 hw) yI (y2.up hw p5) (W5.only (o5 _)) (by omega) (by omega) fun m6 v6 l6 u6 nw6 W6 hl6 t6 hv6 => ?_
  simp [drawVR, drawVC, drawFQ, Nat.testBit, hn, nw6]
  have o6 : ∀ l, Only m6 (m6.lg l) := fun l => ⟨by simp, fun c => by simp⟩
  have q46 : Up m4 (m6.lg []) := (Up.only (o4 _)).trans (u5.trans ((Up.only (o5 _)).trans (u6.trans (Up.only (o6 _)))))
  have w4 := p4.wf hw
  have p6 := p4.trans q46
  refine intSet_it (L := L1 + L2 + 1) (e + 4) (q46.at b4 w4) nI (W6.only (o6 _)) t6 (by omega) (by omega) fun m7 u7 r7 => ?_
  have r47 := (r4.up w4 q46).upz (q46.wf w4) u7 hne
  simp [drawFQ, hn, h1, h2]
  have o7 : ∀ l, Only m7 (m7.lg l) := fun l => ⟨by simp, fun c => by simp⟩
  have p7 : Up m m7 := UpZ.up p6 u7 (by omega)
  have P7 : ∀ l, Up m (m7.lg l) := fun l => p7.trans (Up.only (o7 l))
  refine below_ok (e + 5) ((P7 _).at x1 hw) (x3.up hw (P7 _)) x5 fun m8 v8 l8 u8 _ W8 t8 hl8 hv8 hp8 => ?_
  simp [hn, h2]
  have p8 : Up m m8 := (P7 _).trans u8
  refine below_ok (e + 5) (p8.at y1 hw) (y3.up hw p8) y5 fun m9 v9 l9 u9 _ W9 t9 hl9 hv9 hp9 => ?_
  simp [hn]
  have p9 : Up m m9 := p8.trans u9
  refine mulWords_ok (e + 4) (p9.wf hw) (W8.up (p8.wf hw) u9) W9 (by omega) (by omega) fun m10 v10 l10 u10 W10 hl10 t10 hv10 => ?_
  simp [hn]
  have w7 := p7.wf hw
  have q7 : Up m7 m10 := (Up.only (o7 _)).trans (u8.trans (u9.trans u10))
  have ra := r47.up w7 q7
  have rb := r7.up w7 q7
  have p10 := p7.trans q7
  have w10 := p10.wf hw
  obtain ⟨bea, vva, wwa, z1, z2, z3, z4, z5, z6, z7⟩ := ra.ex
  refine intAdd_ok (e + 1) (L := L1 + L2 + 2) w10 z1 z7 ra rb (by omega) (by omega) fun m11 u11 r11 => ?_
  have p11 : Up m m11 := UpZ.up p10 u11 (by omega)
  have w11 := p11.wf hw
  have W11 := W10.upz w10 u11
  obtain ⟨be3, v3', w3', f1, f2, f3, f4, f5, f6, f7⟩ := r11.ex
  simp [hn]
  refine code_draw_calls [ba] 10 (p1 := [0, 0, 2, 6, 14, 0, 32, 96, 224, 0]) (p2 := [1023, 2047]) (by kernel_rfl) rfl rfl (by kernel_rfl) (by kernel_rfl) (by kernel_rfl) fun ops => ?_
  simp [drawVR, drawFQ, hn, h0, f1]
  have o11 : ∀ l, Only m11 (m11.lg l) := fun l => ⟨by simp, fun c => by simp⟩
  have p12 : Up m (m11.lg []) := p11.trans (Up.only (o11 _))
  refine ratSet_ok e (L := L) (N := N1 * D2 + (if turned then -N2 else N2) * D1) (D := D1 * D2) (p12.wf hw) (p12.at hat hw) hI (f2.only (o11 _)) (W11.only (o11 _)) (by omega) (by omega) hL (by omega) (Nat.mul_pos hx.pos hy.pos) (by rw [hv10, hv8, hv9]; exact Nat.mul_pos (den_pos x5) (den_pos y5)) ?_ fun m13 u13 r13 => ?_
  · rw [f6, hv10, hv8, hv9, hv3, hv6, hv2, hv5]
    exact frac_add x9 y9
  · simp [drawFQ, hn, hd]
    have o13 : ∀ l, Only m13 (m13.lg l) := fun l => ⟨by simp, fun c => by simp⟩
    exact hQ _ ((UpZ.after p12 hw u13 hzb).before hw (Up.only (o13 _))) (r13.only (o13 _))
end
end Go.Proofs.Ytghhanifakllpaa

/- Fractions of words in the clean executor: added, taken away, copied, without sign. -/
namespace Go.Proofs.Ytghhanifakllpaa
open Go.Clean
theorem hidW2 {m : Mem} {bx bY : Nat} {cx cy : List Value} {v : Value} {l : List Nat} (h : WL m v l) (hx : m.at bx = some ⟨cx, 1, false, false⟩) (hxI : nonI cx) (hy : m.at bY = some ⟨cy, 1, false, false⟩) (hyI : nonI cy) : WL (hid (hid m bx) bY) v l := by
  by_cases hxy : bx = bY
  · subst hxy
    refine (h.hid hx hxI).keep fun c x hc => ?_
    rw [at_hid] at hc ⊢
    split at hc
    · cases hc
    · rw [if_neg ‹_›, at_hid, if_neg ‹_›]; exact hc
  · exact (h.hid hx hxI).hid (by rw [at_hid, if_neg (fun h => hxy h.symm)]; exact hy) hyI
theorem off2 {n : Nat} {f : FuncId} {args : List Value} {m : Mem} {bx bY : Nat} {cx cy : List Value} {Q : Value → Mem → Prop} (hw : WF m) (h0 : m.log = []) (hx : m.at bx = some ⟨cx, 1, false, false⟩) (hy : m.at bY = some ⟨cy, 1, false, false⟩)
    (hg : Gives (callN Try.prog kn1 n f args) (hid (hid m bx) bY) fun v mh' => Up (hid (hid m bx) bY) mh' ∧ ∀ m', Up m m' → (∀ b x, mh'.at b = some x → m'.at b = some x) → noW [bx, bY] m'.log → Q v m') : Gives (callN Try.prog kn1 n f args) m Q := by
  have hs : ∀ b' x, (hid (hid m bx) bY).at b' = some x → m.at b' = some x := fun b' x h => by
    rw [at_hid] at h
    split at h
    · cases h
    · rw [at_hid] at h
      split at h
      · cases h
      · exact h
  refine gives_hide (mh := hid (hid m bx) bY) rfl hs hw (hg.mono fun v mh' q => ⟨q.1, fun m' um hk nt => q.2 m' um hk fun c hc => ?_⟩)
  have n1 := (nt bx (by simp) (hw _ _ hx)).noW h0
  have n2 := (nt bY (by simp) (hw _ _ hy)).noW h0
  simp at hc
  rcases hc with rfl | rfl
  · exact n1
  · exact n2
theorem copied_off (e : Nat) {m : Mem} {bx bY : Nat} {cx cy : List Value} {va : Value} {a : List Nat} (hw : WF m) (h0 : m.log = []) (hx : m.at bx = some ⟨cx, 1, false, false⟩) (hxI : nonI cx) (hy : m.at bY = some ⟨cy, 1, false, false⟩) (hyI : nonI cy) (ha : WL m va a) (hl : a.length < 1000000) {Q : Value → Mem → Prop}
    (hQ : ∀ m' v, Up m m' → noW [bx, bY] m'.log → WL m' v a → Q v m') :
    Gives (callN Try.prog kn1 (e + 1) 78 [va]) m Q := by
  refine off2 hw h0 hx hy ?_
  refine copied_ok e ((hw.hid bx).hid bY) (hidW2 ha hx hxI hy hyI) hl fun mh' b u hb hat => ⟨u, fun m' um hk nw => ?_⟩
  exact hQ m' _ um nw ((WL.own hat ha.wd).keep hk)
section
set_option maxRecDepth 10000
set_option maxHeartbeats 4000000 in
theorem intSetTo_ok (e : Nat) {m : Mem} {bz bx : Nat} {c0 c1 : Value} {rest rx : List Value} {n : Int} {L : Nat} (hw : WF m) (hat : m.at bz = some ⟨c0 :: c1 :: rest, 1, false, false⟩) (hI : nonI (c0 :: c1 :: rest)) (hx : IT m bx rx n L) (hL : L < 1000000) {Q : Value → Mem → Prop}
    (hQ : ∀ m', UpZ m m' bz → IT m' bz rest n L → Q (.pointer (some ⟨bz, 0, none⟩)) m') :
    Gives (callN Try.prog kn1 (e + 3) 85 [.pointer (some ⟨bz, 0, none⟩), .pointer (some ⟨bx, 0, none⟩)]) m Q := by
  refine gives_fn (nt := 16) rfl Try.func85 rfl rfl rfl (Nat.le_of_ble_eq_true rfl) fun fr hn hd hargs => ?_
  have h0 : fr.at 0 = _ := hargs 0 _ rfl
  have h1 : fr.at 1 = _ := hargs 1 _ rfl
  clear hargs
  obtain ⟨be1, vw1, w1, x1, x2, x3, x4, x5, x6, x7⟩ := hx.ex
  have hzb := hw _ _ hat
  simp [hn]
  refine code_draw_calls [bx] 10 (p1 := [0, 0, 2, 6, 14, 0, 32, 96, 224, 480]) (p2 := [1023, 2047]) (by kernel_rfl) rfl rfl (by kernel_rfl) (by kernel_rfl) (by kernel_rfl) fun ops => ?_
  simp [drawVR, hn, h0, h1, x1]
  have o1 : ∀ l, Only m (m.lg l) := fun l => ⟨by simp, fun c => by simp⟩
  refine copied_off (e + 1) ((o1 _).wf hw) rfl (bx := bx) (bY := bx) (by simpa using x1) x7 (by simpa using x1) x7 (x2.only (o1 _)) (by omega) fun m2 v2 u2 nw2 W2 => ?_
  have nw2' : noW [bx] m2.log := fun b hb => nw2 b (by simp at hb ⊢; exact hb)
  simp [drawVR, drawVC, drawFQ, hn, nw2']
  have o2 : ∀ l, Only m2 (m2.lg l) := fun l => ⟨by simp, fun c => by simp⟩
  have p2 : Up m (m2.lg []) := (Up.only (o1 _)).trans (u2.trans (Up.only (o2 _)))
  refine intSet_it (L := L) e (p2.at hat hw) hI (W2.only (o2 _)) x3 x4 hL fun m3 u3 r3 => ?_
  simp [drawFQ, hn, hd]
  have o3 : ∀ l, Only m3 (m3.lg l) := fun l => ⟨by simp, fun c => by simp⟩
  rw [x6] at r3
  exact hQ _ ((UpZ.after p2 hw u3 hzb).before hw (Up.only (o3 _))) (r3.only (o3 _))
theorem ratAdd_ok (e : Nat) {m : Mem} {bz bx bY : Nat} {c0 c1 c2 : Value} {N1 N2 : Int} {D1 D2 L1 L2 L : Nat} (hw : WF m) (hat : m.at bz = some ⟨[c0, c1, c2], 1, false, false⟩) (hI : nonI [c0, c1, c2]) (hx : RT m bx N1 D1 L1) (hy : RT m bY N2 D2 L2) (hL1 : L1 + L2 + 4 ≤ L) (hL : L ≤ 60000) {Q : Value → Mem → Prop}
    (hQ : ∀ m', UpZ m m' bz → RT m' bz (N1 * D2 + N2 * D1) (D1 * D2) L → Q (.pointer (some ⟨bz, 0, none⟩)) m') :
    Gives (callN Try.prog kn1 (e + 8) 29 [.pointer (some ⟨bz, 0, none⟩), .pointer (some ⟨bx, 0, none⟩), .pointer (some ⟨bY, 0, none⟩)]) m Q := by
  refine gives_fn (nt := 11) rfl Try.func29 rfl rfl rfl (Nat.le_of_ble_eq_true rfl) fun fr hn hd hargs => ?_
  have h0 : fr.at 0 = _ := hargs 0 _ rfl
  have h1 : fr.at 1 = _ := hargs 1 _ rfl
  have h2 : fr.at 2 = _ := hargs 2 _ rfl
  clear hargs
  simp [hn, h0, h1, h2]
  refine ratAdded_ok e hw hat hI hx hy hL1 hL fun m1 u1 r1 => ?_
  simp [hn, hd]
  exact hQ m1 u1 (by simpa using r1)
theorem ratSub_ok (e : Nat) {m : Mem} {bz bx bY : Nat} {c0 c1 c2 : Value} {N1 N2 : Int} {D1 D2 L1 L2 L : Nat} (hw : WF m) (hat : m.at bz = some ⟨[c0, c1, c2], 1, false, false⟩) (hI : nonI [c0, c1, c2]) (hx : RT m bx N1 D1 L1) (hy : RT m bY N2 D2 L2) (hL1 : L1 + L2 + 4 ≤ L) (hL : L ≤ 60000) {Q : Value → Mem → Prop}
    (hQ : ∀ m', UpZ m m' bz → RT m' bz (N1 * D2 + -N2 * D1) (D1 * D2) L → Q (.pointer (some ⟨bz, 0, none⟩)) m') :
    Gives (callN Try.prog kn1 (e + 8) 33 [.pointer (some ⟨bz, 0, none⟩), .pointer (some ⟨bx, 0, none⟩), .pointer (some ⟨bY, 0, none⟩)]) m Q := by
  refine gives_fn (nt := 11) rfl Try.func33 rfl rfl rfl (Nat.le_of_ble_eq_true rfl) fun fr hn hd hargs => ?_
  have h0 : fr.at 0 = _ := hargs 0 _ rfl
  have h1 : fr.at 1 = _ := hargs 1 _ rfl
  have h2 : fr.at 2 = _ := hargs 2 _ rfl
  clear hargs
  simp [hn, h0, h1, h2]
  refine ratAdded_ok e hw hat hI hx hy hL1 hL fun m1 u1 r1 => ?_
  simp [hn, hd]
  exact hQ m1 u1 (by simpa only [if_true] using r1)
end
end Go.Proofs.Ytghhanifakllpaa

/- The law SolveAll, in the clean executor: true of all that may be asked. -/
import Derived.Test.YtghhanifakllpaaPN
namespace Go.Proofs.Ytghhanifakllpaa
open Go.Clean

variable {known : Known}
theorem IL.blk {m : Mem} {v : Value} {xs : List Nat} (h : IL m v xs) {a : Addr} {n c : Nat} (e : v = .slice (some a) n c) : ∃ x, m.at a.block = some x := by
  obtain ⟨a', c', rfl, h2⟩ := h
  rcases h2 with h2 | ⟨b, o, x, rfl, e2, _⟩
  · cases e; cases h2.1
  · cases e; exact ⟨x, e2⟩
theorem OwnF.beyond {m : Mem} {b0 : Nat} {v : Value} {xs : List F} (h : OwnF m b0 v xs) : Beyond b0 v := by
  rcases h with ⟨_, rfl⟩ | ⟨b, _, rfl, h1, _⟩
  · exact Beyond.nil _
  · intro a n c e; unfold lst at e; cases e; exact h1
theorem OwnI.beyond {m : Mem} {b0 : Nat} {v : Value} {xs : List Nat} (h : OwnI m b0 v xs) : Beyond b0 v := by
  rcases h with ⟨_, rfl⟩ | ⟨b, _, rfl, h1, _⟩
  · exact Beyond.nil _
  · intro a n c e; unfold lst at e; cases e; exact h1
theorem OwnF.st {m : Mem} {b0 : Nat} {v : Value} {xs : List F} (h : OwnF m b0 v xs) : ∃ b, StS m v false xs.length b ∧ (0 < xs.length → b0 ≤ b) := by
  rcases h with ⟨rfl, rfl⟩ | ⟨b, h0, rfl, h1, h2⟩
  · exact ⟨0, .inl ⟨rfl, rfl⟩, fun h => absurd h (by simp)⟩
  · exact ⟨b, .inr ⟨h0, rfl, _, h2, by simp, fv_one xs⟩, fun _ => h1⟩
theorem OwnI.st {m : Mem} {b0 : Nat} {v : Value} {xs : List Nat} (h : OwnI m b0 v xs) : ∃ b, StS m v true xs.length b ∧ (0 < xs.length → b0 ≤ b) := by
  rcases h with ⟨rfl, rfl⟩ | ⟨b, h0, rfl, h1, h2⟩
  · exact ⟨0, .inl ⟨rfl, rfl⟩, fun h => absurd h (by simp)⟩
  · exact ⟨b, .inr ⟨h0, rfl, _, h2, by simp, by simp [oneV]⟩, fun _ => h1⟩
theorem StS.lt {m : Mem} {v : Value} {g : Bool} {n b : Nat} (h : StS m v g n b) (hw : WF m) (hn : 0 < n) : b < m.next := by
  rcases h with ⟨h1, _⟩ | ⟨_, _, cells, hc, _⟩
  · omega
  · exact hw _ _ hc
theorem IL.up {m m' : Mem} {v : Value} {xs : List Nat} (h : IL m v xs) (hw : WF m) (u : Up m m') : IL m' v xs := h.keep fun a n c e => by
  obtain ⟨x, hx⟩ := h.blk e
  rw [u.old _ (hw _ _ hx)]
theorem sol_len (rs : List (List F)) (bs : List F) : (solveFF rs bs).1.length ≤ 128 := by
  unfold solveFF
  split
  · simp
  · rename_i h
    split
    · simp
    · split
      · simp
      · have := (check0 (by simpa using h)).2.1
        simpa using this
theorem piv_len (rs : List (List F)) : (pivotsFF rs).1.length ≤ 128 := by
  unfold pivotsFF
  split
  · simp
  · rename_i h
    split
    · have := (check0 (by simpa using h)).2.1
      simpa using this
    · simp

set_option maxHeartbeats 2000000 in
set_option maxRecDepth 10000 in
theorem law_calls (K : KQ known) (n : Nat) {fr : Fr} {m : Mem} {rs : List (List F)} {xs bs : List F} {va vx vb vr vu vv : Value} (hw : WF m)
    (hn : fr.n = 226) (hd : fr.d = []) (g0 : fr.at 0 = va) (g1 : fr.at 1 = vx) (g2 : fr.at 2 = vb) (g9 : fr.at 9 = vr) (g11 : fr.at 11 = vu) (g12 : fr.at 12 = vv)
    (ha : FM m va rs) (hr : FM m vr rs) (hx : FL m vx xs) (hu : FL m vu xs) (hb : FL m vb bs) (hv : FL m vv bs) (l1 : rs.length ≤ 100000) (l2 : ∀ r ∈ rs, r.length ≤ 100000) (l3 : xs.length ≤ 100000) (l4 : bs.length ≤ 100000)
    {Q : CQ} (hQ : ∀ fr' m', fr'.d = [] → fr'.at 6 = .bool true → (∀ c, c < m.next → m'.at c = m.at c) → Q (.ret, fr') m') :
    Gives (codeX Try.prog (callN Try.prog known (n + 5)) (sRn 8 (bodyOf Try.f4)) fr) m Q := by
  refine via (X := .seq (.region _ _ _) (sRn 9 (bodyOf Try.f4))) rfl ((code_seq _ _ _ _ _).2 (reg_call2 (B := 34) (R := fun v1 v2 m' => Up m m' ∧ OwnF m' m.next v1 (solveFF rs bs).1 ∧ v2 = .int .i64 (solveFF rs bs).2) (by omega) (by omega) g9 g12 (solve_ok K.kp n rs _ _ bs m hw hr hv l2 l1 l4 fun m' v u o => ⟨_, _, rfl, u, o, rfl⟩) fun f1 m1 vs v2 ⟨u1, os, e1⟩ n1 d1 s1 t1 k1 => ?_))
  subst e1
  have w1 := u1.wf hw
  show Gives (codeX _ _ (sRn 9 (bodyOf Try.f4)) f1) m1 Q
  refine via (X := .seq (.region _ _ _) (sRn 10 (bodyOf Try.f4))) rfl ((code_seq _ _ _ _ _).2 (reg_call1 (B := 34) (R := fun v1 v2 m' => Up m1 m' ∧ OwnI m' m1.next v1 (pivotsFF rs).1 ∧ v2 = .int .i64 (pivotsFF rs).2) (by omega) (by omega) (by rw [k1 _ (by omega) (by omega) (by omega)]; exact g9) (pivots_ok K.kp (n + 1) rs _ m1 w1 (hr.up hw u1) l2 l1 fun m' v u o => ⟨_, _, rfl, u, o, rfl⟩) fun f2 m2 vp v2 ⟨u2', op, e2⟩ n2 d2 s2 t2 k2 => ?_))
  subst e2
  have u2 := u1.trans u2'
  have w2 := u2.wf hw
  have K2 : ∀ t, t < 34 → t ≠ 13 → t ≠ 14 → t ≠ 15 → t ≠ 16 → f2.at t = fr.at t := fun t h1 h2 h3 h4 h5 => by rw [k2 t h1 h4 h5, k1 t h1 h2 h3]
  show Gives (codeX _ _ (sRn 10 (bodyOf Try.f4)) f2) m2 Q
  refine via (X := .seq (.region _ _ _) (sRn 11 (bodyOf Try.f4))) rfl ((code_seq _ _ _ _ _).2 (reg_call1 (B := 34) (R := fun v1 v2 m' => Up m2 m' ∧ v1 = .float .f64 (cOf (detFF rs).1) ∧ v2 = .int .i64 (detFF rs).2) (by omega) (by omega) (by rw [K2 _ (by omega) (by omega) (by omega) (by omega) (by omega)]; exact g9) (det_ok K.kp (n + 1) rs _ m2 w2 (hr.up hw u2) l2 l1 fun m' u => ⟨_, _, rfl, u, rfl, rfl⟩) fun f3 m3 v1 v2 ⟨u3', e3, e3'⟩ n3 d3 s3 t3 k3 => ?_))
  subst e3; subst e3'
  have u3 := u2.trans u3'
  have w3 := u3.wf hw
  have K3 : ∀ t, t < 34 → (t < 13 ∨ 18 < t) → f3.at t = fr.at t := fun t h1 h2 => by rw [k3 t h1 (by omega) (by omega), K2 t h1 (by omega) (by omega) (by omega) (by omega)]
  show Gives (codeX _ _ (sRn 11 (bodyOf Try.f4)) f3) m3 Q
  refine via (X := .seq (.region _ _ _) (sRn 12 (bodyOf Try.f4))) rfl ((code_seq _ _ _ _ _).2 (reg_call3 (B := 34) (R := fun v1 v2 m' => Up m3 m' ∧ v1 = .float .f64 (cOf (offFF rs xs bs).1) ∧ v2 = .int .i64 (offFF rs xs bs).2) (by omega) (by omega) (by rw [K3 _ (by omega) (by omega)]; exact g9) (by rw [K3 _ (by omega) (by omega)]; exact g11) (by rw [K3 _ (by omega) (by omega)]; exact g12) (off_ok K.kp (n + 1) rs _ _ _ xs bs m3 w3 (hr.up hw u3) (hu.up hw u3) (hv.up hw u3) l2 l1 l3 l4 fun m' u => ⟨_, _, rfl, u, rfl, rfl⟩) fun f4 m4 v1 v2 ⟨u4', e4, e4'⟩ n4 d4 s4 t4 k4 => ?_))
  subst e4; subst e4'
  have u4 := u3.trans u4'
  have w4 := u4.wf hw
  have K4 : ∀ t, t < 34 → (t < 13 ∨ 20 < t) → f4.at t = fr.at t := fun t h1 h2 => by rw [k4 t h1 (by omega) (by omega), K3 t h1 (by omega)]
  show Gives (codeX _ _ (sRn 12 (bodyOf Try.f4)) f4) m4 Q
  refine via (X := .seq (.region _ _ _) (sRn 13 (bodyOf Try.f4))) rfl ((code_seq _ _ _ _ _).2 (reg_call2 (B := 34) (R := fun v1 v2 m' => Up m4 m' ∧ FL m' v1 (solveFF rs bs).1 ∧ Beyond m4.next v1 ∧ v2 = .int .i64 (solveFF rs bs).2) (by omega) (by omega) (by rw [K4 _ (by omega) (by omega)]; exact g0) (by rw [K4 _ (by omega) (by omega)]; exact g2) (doc_solve K.kp.kn (fun args => K.kp.non _ rfl args) (n + 1) rs _ _ bs m4 w4 (ha.up hw u4) (hb.up hw u4) l2 l1 l4 fun m' v o w f b => ⟨_, _, rfl, ⟨b.1, o, fun _ => w⟩, f, b.2, rfl⟩) fun f5 m5 vt v2 ⟨u5', hvt, bvt, e5⟩ n5 d5 s5 t5 k5 => ?_))
  subst e5
  have u5 := u4.trans u5'
  have w5 := u5.wf hw
  have K5 : ∀ t, t < 34 → (t < 13 ∨ 22 < t) → f5.at t = fr.at t := fun t h1 h2 => by rw [k5 t h1 (by omega) (by omega), K4 t h1 (by omega)]
  show Gives (codeX _ _ (sRn 13 (bodyOf Try.f4)) f5) m5 Q
  refine via (X := .seq (.region _ _ _) (sRn 14 (bodyOf Try.f4))) rfl ((code_seq _ _ _ _ _).2 (reg_call1 (B := 34) (R := fun v1 v2 m' => Up m5 m' ∧ IL m' v1 (pivotsFF rs).1 ∧ Beyond m5.next v1 ∧ v2 = .int .i64 (pivotsFF rs).2) (by omega) (by omega) (by rw [K5 _ (by omega) (by omega)]; exact g0) (doc_pivots K.kp.kn (fun args => K.kp.non _ rfl args) (n + 1) rs _ m5 w5 (ha.up hw u5) l2 l1 fun m' v o w f b => ⟨_, _, rfl, ⟨b.1, o, fun _ => w⟩, f, b.2, rfl⟩) fun f6 m6 vq v2 ⟨u6', hvq, bvq, e6⟩ n6 d6 s6 t6 k6 => ?_))
  subst e6
  have u6 := u5.trans u6'
  have w6 := u6.wf hw
  have K6 : ∀ t, t < 34 → (t < 13 ∨ 24 < t) → f6.at t = fr.at t := fun t h1 h2 => by rw [k6 t h1 (by omega) (by omega), K5 t h1 (by omega)]
  show Gives (codeX _ _ (sRn 14 (bodyOf Try.f4)) f6) m6 Q
  refine via (X := .seq (.region _ _ _) (sRn 15 (bodyOf Try.f4))) rfl ((code_seq _ _ _ _ _).2 (reg_call1 (B := 34) (R := fun v1 v2 m' => Up m6 m' ∧ v1 = .float .f64 (cOf (detFF rs).1) ∧ v2 = .int .i64 (detFF rs).2) (by omega) (by omega) (by rw [K6 _ (by omega) (by omega)]; exact g0) (doc_det K.kp.kn (fun args => K.kp.non _ rfl args) (n + 1) rs _ m6 w6 (ha.up hw u6) l2 l1 fun m' o w b => ⟨_, _, rfl, ⟨b, o, fun _ => w⟩, rfl, rfl⟩) fun f7 m7 v1 v2 ⟨u7', e7, e7'⟩ n7 d7 s7 t7 k7 => ?_))
  subst e7; subst e7'
  have u7 := u6.trans u7'
  have w7 := u7.wf hw
  have K7 : ∀ t, t < 34 → (t < 13 ∨ 26 < t) → f7.at t = fr.at t := fun t h1 h2 => by rw [k7 t h1 (by omega) (by omega), K6 t h1 (by omega)]
  show Gives (codeX _ _ (sRn 15 (bodyOf Try.f4)) f7) m7 Q
  refine via (X := .seq (.region _ _ _) (sRn 16 (bodyOf Try.f4))) rfl ((code_seq _ _ _ _ _).2 (reg_call3 (B := 34) (R := fun v1 v2 m' => Up m7 m' ∧ v1 = .float .f64 (cOf (offFF rs xs bs).1) ∧ v2 = .int .i64 (offFF rs xs bs).2) (by omega) (by omega) (by rw [K7 _ (by omega) (by omega)]; exact g0) (by rw [K7 _ (by omega) (by omega)]; exact g1) (by rw [K7 _ (by omega) (by omega)]; exact g2) (doc_off K.kp.kn (fun args => K.kp.non _ rfl args) (n + 1) rs _ _ _ xs bs m7 w7 (ha.up hw u7) (hx.up hw u7) (hb.up hw u7) l2 l1 l3 l4 fun m' o => ⟨_, _, rfl, Up.only o, rfl, rfl⟩) fun f8 m8 v1 v2 ⟨u8', e8, e8'⟩ n8 d8 s8 t8 k8 => ?_))
  subst e8; subst e8'
  have u8 := u7.trans u8'
  have w8 := u8.wf hw
  have K8 : ∀ t, t < 34 → (t < 13 ∨ 28 < t) → f8.at t = fr.at t := fun t h1 h2 => by rw [k8 t h1 (by omega) (by omega), K7 t h1 (by omega)]
  have s1' : f8.at 13 = vs := by rw [k8 _ (by omega) (by omega) (by omega), k7 _ (by omega) (by omega) (by omega), k6 _ (by omega) (by omega) (by omega), k5 _ (by omega) (by omega) (by omega), k4 _ (by omega) (by omega) (by omega), k3 _ (by omega) (by omega) (by omega), k2 _ (by omega) (by omega) (by omega)]; exact s1
  have t1' : f8.at 14 = .int .i64 (solveFF rs bs).2 := by rw [k8 _ (by omega) (by omega) (by omega), k7 _ (by omega) (by omega) (by omega), k6 _ (by omega) (by omega) (by omega), k5 _ (by omega) (by omega) (by omega), k4 _ (by omega) (by omega) (by omega), k3 _ (by omega) (by omega) (by omega), k2 _ (by omega) (by omega) (by omega)]; exact t1
  have s2' : f8.at 15 = vp := by rw [k8 _ (by omega) (by omega) (by omega), k7 _ (by omega) (by omega) (by omega), k6 _ (by omega) (by omega) (by omega), k5 _ (by omega) (by omega) (by omega), k4 _ (by omega) (by omega) (by omega), k3 _ (by omega) (by omega) (by omega)]; exact s2
  have t2' : f8.at 16 = .int .i64 (pivotsFF rs).2 := by rw [k8 _ (by omega) (by omega) (by omega), k7 _ (by omega) (by omega) (by omega), k6 _ (by omega) (by omega) (by omega), k5 _ (by omega) (by omega) (by omega), k4 _ (by omega) (by omega) (by omega), k3 _ (by omega) (by omega) (by omega)]; exact t2
  have s3' : f8.at 17 = .float .f64 (cOf (detFF rs).1) := by rw [k8 _ (by omega) (by omega) (by omega), k7 _ (by omega) (by omega) (by omega), k6 _ (by omega) (by omega) (by omega), k5 _ (by omega) (by omega) (by omega), k4 _ (by omega) (by omega) (by omega)]; exact s3
  have t3' : f8.at 18 = .int .i64 (detFF rs).2 := by rw [k8 _ (by omega) (by omega) (by omega), k7 _ (by omega) (by omega) (by omega), k6 _ (by omega) (by omega) (by omega), k5 _ (by omega) (by omega) (by omega), k4 _ (by omega) (by omega) (by omega)]; exact t3
  have s4' : f8.at 19 = .float .f64 (cOf (offFF rs xs bs).1) := by rw [k8 _ (by omega) (by omega) (by omega), k7 _ (by omega) (by omega) (by omega), k6 _ (by omega) (by omega) (by omega), k5 _ (by omega) (by omega) (by omega)]; exact s4
  have t4' : f8.at 20 = .int .i64 (offFF rs xs bs).2 := by rw [k8 _ (by omega) (by omega) (by omega), k7 _ (by omega) (by omega) (by omega), k6 _ (by omega) (by omega) (by omega), k5 _ (by omega) (by omega) (by omega)]; exact t4
  have s5' : f8.at 21 = vt := by rw [k8 _ (by omega) (by omega) (by omega), k7 _ (by omega) (by omega) (by omega), k6 _ (by omega) (by omega) (by omega)]; exact s5
  have t5' : f8.at 22 = .int .i64 (solveFF rs bs).2 := by rw [k8 _ (by omega) (by omega) (by omega), k7 _ (by omega) (by omega) (by omega), k6 _ (by omega) (by omega) (by omega)]; exact t5
  have s6' : f8.at 23 = vq := by rw [k8 _ (by omega) (by omega) (by omega), k7 _ (by omega) (by omega) (by omega)]; exact s6
  have t6' : f8.at 24 = .int .i64 (pivotsFF rs).2 := by rw [k8 _ (by omega) (by omega) (by omega), k7 _ (by omega) (by omega) (by omega)]; exact t6
  have s7' : f8.at 25 = .float .f64 (cOf (detFF rs).1) := by rw [k8 _ (by omega) (by omega) (by omega)]; exact s7
  have t7' : f8.at 26 = .int .i64 (detFF rs).2 := by rw [k8 _ (by omega) (by omega) (by omega)]; exact t7
  clear k1 k2 k3 k4 k5 k6 k7 k8 K2 K3 K4 K5 K6 K7 s1 t1 s2 t2 s3 t3 s4 t4 s5 t5 s6 t6 s7 t7
  have n8' : f8.n = 226 := by omega
  have d8' : f8.d = [] := by rw [d8, d7, d6, d5, d4, d3, d2, d1, hd]
  clear n1 n2 n3 n4 n5 n6 n7 n8 d1 d2 d3 d4 d5 d6 d7 d8 hn hd
  have u38 : Up m2 m8 := (((((u3'.trans u4').trans u5').trans u6').trans u7').trans u8')
  have u18 : Up m1 m8 := u2'.trans u38
  have os8 := os.up w1 u18
  have op8 := op.up w2 u38
  have vt8 := hvt.up w5 ((u6'.trans u7').trans u8')
  have vq8 := hvq.up w6 (u7'.trans u8')
  -- the first answers are alike
  show Gives (codeX _ _ (sRn 16 (bodyOf Try.f4)) f8) m8 Q
  refine via (X := .seq (.region _ _ _) (sRn 17 (bodyOf Try.f4))) rfl ((code_seq _ _ _ _ _).2 (region_hid fun ops hops => ?_))
  have y3 : ∀ fr, yieldX ops fr 3 = boolOf (fr.at 114) := fun fr => by rw [hops]; rfl
  have y8 : ∀ fr, yieldX ops fr 8 = boolOf (fr.at 119) := fun fr => by rw [hops]; rfl
  have y13 : ∀ fr, yieldX ops fr 13 = boolOf (fr.at 124) := fun fr => by rw [hops]; rfl
  clear hops
  have ls : (solveFF rs bs).1.length ≤ 100000 := Nat.le_trans (sol_len rs bs) (by omega)
  have lp : (pivotsFF rs).1.length ≤ 100000 := Nat.le_trans (piv_len rs) (by omega)
  refine grp_first (B := 34) (R := fun m' => Only m8 m') (by omega) (by omega) s1' s5' (sameFloats_ok K (n + 2) _ _ _ _ os8.fl vt8 ls fun m' ho => ⟨rfl, ho⟩) fun h1 m9 n1 d1 p1 k1 o9 => ?_
  refine grp_call (B := 34) (R := fun m' => Only m8 m') y3 (by omega) (by omega) p1 (by rw [k1 _ (by omega)]; exact s2') (by rw [k1 _ (by omega)]; exact s6') (ints_ok K (n + 3) _ _ _ _ (op8.il.keep fun _ _ _ _ => o9.2 _) (vq8.keep fun _ _ _ _ => o9.2 _) lp fun m' ho => ⟨rfl, o9.trans ho⟩) fun h2 m10 n2 d2 p2 k2 o10 => ?_
  refine grp_call (B := 34) (R := fun m' => Only m8 m') y8 (by omega) (by omega) p2 (by rw [k2 _ (by omega), k1 _ (by omega)]; exact s3') (by rw [k2 _ (by omega), k1 _ (by omega)]; exact s7') (same_ok K (n + 3) _ m10 ⟨rfl, o10⟩) fun h3 m11 n3 d3 p3 k3 o11 => ?_
  refine grp_call (B := 34) (R := fun m' => Only m8 m') y13 (by omega) (by omega) p3 (by rw [k3 _ (by omega), k2 _ (by omega), k1 _ (by omega)]; exact s4') (by rw [k3 _ (by omega), k2 _ (by omega), k1 _ (by omega)]; exact s8) (same_ok K (n + 3) _ m11 ⟨rfl, o11⟩) fun h4 m12 n4 d4 p4 k4 o12 => ?_
  have KK : ∀ t, t < 34 → h4.at t = f8.at t := fun t ht => by rw [k4 t ht, k3 t ht, k2 t ht, k1 t ht]
  refine (steps_cons _ _ _ _ _ _).2 ((step_assign _).2 ?_)
  simp only [ev_tmp, optQ_some, putQ_some, stepsQ_eq, p4]
  refine ⟨by rw [n4, n3, n2, n1, n8']; exact Nat.le_of_ble_eq_true rfl, (steps_nil _ _ _ _).2 ?_⟩
  obtain ⟨f9, hf9⟩ : ∃ f9, f9 = h4.upd 29 (.bool true) := ⟨_, rfl⟩
  rw [← hf9]
  have n9 : f9.n = 226 := by rw [hf9]; simp; omega
  have d9 : f9.d = [] := by rw [hf9]; simp [d4, d3, d2, d1, d8']
  have K9 : ∀ t, t < 34 → t ≠ 29 → f9.at t = f8.at t := fun t ht h => by rw [hf9, Fr.at_upd, if_neg h, KK t ht]
  have q9 : f9.at 29 = .bool true := by rw [hf9]; simp
  clear hf9 KK k1 k2 k3 k4 p1 p2 p3 p4 n1 n2 n3 n4 d1 d2 d3 d4 y3 y8 y13
  have u12 := u8.trans (Up.only o12)
  have w12 := u12.wf hw
  -- once more
  show Gives (codeX _ _ (sRn 17 (bodyOf Try.f4)) f9) m12 Q
  refine via (X := .seq (.region _ _ _) (sRn 18 (bodyOf Try.f4))) rfl ((code_seq _ _ _ _ _).2 (reg_call2 (B := 34) (R := fun v1 v2 m' => Up m12 m' ∧ OwnF m' m12.next v1 (solveFF rs bs).1 ∧ v2 = .int .i64 (solveFF rs bs).2) (by omega) (by omega) (by rw [K9 _ (by omega) (by omega), K8 _ (by omega) (by omega)]; exact g9) (by rw [K9 _ (by omega) (by omega), K8 _ (by omega) (by omega)]; exact g12) (solve_ok K.kp n rs _ _ bs m12 w12 (hr.up hw u12) (hv.up hw u12) l2 l1 l4 fun m' v u o => ⟨_, _, rfl, u, o, rfl⟩) fun f10 m13 vw v2 ⟨u13', ow, e1⟩ n10 d10 s10 t10 k10 => ?_))
  subst e1
  have u13 := u12.trans u13'
  have w13 := u13.wf hw
  show Gives (codeX _ _ (sRn 18 (bodyOf Try.f4)) f10) m13 Q
  refine via (X := .seq (.region _ _ _) (sRn 19 (bodyOf Try.f4))) rfl ((code_seq _ _ _ _ _).2 (reg_call1 (B := 34) (R := fun v1 v2 m' => Up m13 m' ∧ OwnI m' m13.next v1 (pivotsFF rs).1 ∧ v2 = .int .i64 (pivotsFF rs).2) (by omega) (by omega) (by rw [k10 _ (by omega) (by omega) (by omega), K9 _ (by omega) (by omega), K8 _ (by omega) (by omega)]; exact g9) (pivots_ok K.kp (n + 1) rs _ m13 w13 (hr.up hw u13) l2 l1 fun m' v u o => ⟨_, _, rfl, u, o, rfl⟩) fun f11 m14 vz v2 ⟨u14', oz, e1⟩ n11 d11 s11 t11 k11 => ?_))
  subst e1
  have u14 := u13.trans u14'
  have w14 := u14.wf hw
  have K11 : ∀ t, t < 34 → t < 29 → f11.at t = f8.at t := fun t h1 h2 => by rw [k11 t h1 (by omega) (by omega), k10 t h1 (by omega) (by omega), K9 t h1 (by omega)]
  have q11 : f11.at 29 = .bool true := by rw [k11 _ (by omega) (by omega) (by omega), k10 _ (by omega) (by omega) (by omega)]; exact q9
  have s10' : f11.at 30 = vw := by rw [k11 _ (by omega) (by omega) (by omega)]; exact s10
  have t10' : f11.at 31 = .int .i64 (solveFF rs bs).2 := by rw [k11 _ (by omega) (by omega) (by omega)]; exact t10
  -- the loops
  have u8e : Up m8 m14 := ((Up.only o12).trans u13').trans u14'
  obtain ⟨bs', hst, hbs⟩ := (os8.up w8 u8e).st
  obtain ⟨bp', hpt, hbp⟩ := (op8.up w8 u8e).st
  have hbs2 : 0 < (solveFF rs bs).1.length → bs' < m1.next := fun h => by
    obtain ⟨b1, hb1, _⟩ := os.st
    have hlt := hb1.lt w1 h
    have e : bs' = b1 := by
      rcases hst with ⟨h0, _⟩ | ⟨_, h1, _⟩
      · omega
      · rcases hb1 with ⟨h0, _⟩ | ⟨_, h2, _⟩
        · omega
        · rw [h1] at h2; unfold lst at h2; simpa using h2
    omega
  have hbp2 : 0 < (pivotsFF rs).1.length → bp' < m2.next := fun h => by
    obtain ⟨b1, hb1, _⟩ := op.st
    have hlt := hb1.lt w2 h
    have e : bp' = b1 := by
      rcases hpt with ⟨h0, _⟩ | ⟨_, h1, _⟩
      · omega
      · rcases hb1 with ⟨h0, _⟩ | ⟨_, h2, _⟩
        · omega
        · rw [h1] at h2; unfold lst at h2; simpa using h2
    omega
  have hn01 := u1.next
  have hn12 := u2'.next
  have hn24 := (u3'.trans u4').next
  have hn45 := u5'.next
  have hn8e := u8e.next
  have hn28 := u38.next
  have hn1213 := u13'.next
  have hn812 : m8.next = m12.next := o12.1.symm
  show Gives (codeX _ _ (sRn 19 (bodyOf Try.f4)) f11) m14 Q
  refine law_loops (n + 5) (vs := vs) (vp := vp) (n1 := (solveFF rs bs).1.length) (n2 := (pivotsFF rs).1.length) (bs := bs') (bp := bp') w14 (by omega) (by rw [d11, d10, d9]) (by rw [K11 _ (by omega) (by omega)]; exact s1') (by rw [K11 _ (by omega) (by omega)]; exact s2') hst hpt (fun h h2 => by have := hbs2 h; have := hbp h2; omega) (by have := sol_len rs bs; omega) (by have := piv_len rs; omega) fun f12 m15 n12 d12 K12 o15 => ?_
  have old15 : ∀ c, c < m.next → m15.at c = m.at c := fun c hc => by
    rw [o15 c (by omega) (fun h => ?_) (fun h => ?_), u14.old c hc]
    · by_cases hz : (solveFF rs bs).1.length = 0
      · exact hz
      · have := hbs (by omega); omega
    · by_cases hz : (pivotsFF rs).1.length = 0
      · exact hz
      · have := hbp (by omega); omega
  have far : ∀ c, m2.next ≤ c → c < m14.next → m15.at c = m14.at c := fun c h1 h2 => o15 c h2 (fun h => by
    by_cases hz : (solveFF rs bs).1.length = 0
    · exact hz
    · have := hbs2 (by omega); omega) (fun h => by
    by_cases hz : (pivotsFF rs).1.length = 0
    · exact hz
    · have := hbp2 (by omega); omega)
  have vt14 := vt8.up w8 u8e
  have vq14 := vq8.up w8 u8e
  have vw14 := (ow.up w13 u14')
  refine law_last K (n + 1) (rs := rs) (xs := xs) (bs := bs) (sol := (solveFF rs bs).1) (piv := (pivotsFF rs).1) (e1 := (solveFF rs bs).2) (e2 := (pivotsFF rs).2) (e3 := (detFF rs).2) (e4 := (offFF rs xs bs).2) (ex := 0) (ey := 0) n12 d12
    (by rw [K12 _ (by omega) (by omega) (by omega), K11 _ (by omega) (by omega), K8 _ (by omega) (by omega)]; exact g0) (by rw [K12 _ (by omega) (by omega) (by omega), K11 _ (by omega) (by omega), K8 _ (by omega) (by omega)]; exact g1) (by rw [K12 _ (by omega) (by omega) (by omega), K11 _ (by omega) (by omega), K8 _ (by omega) (by omega)]; exact g2) (by rw [K12 _ (by omega) (by omega) (by omega), K11 _ (by omega) (by omega), K8 _ (by omega) (by omega)]; exact g9) (by rw [K12 _ (by omega) (by omega) (by omega), K11 _ (by omega) (by omega), K8 _ (by omega) (by omega)]; exact g11) (by rw [K12 _ (by omega) (by omega) (by omega), K11 _ (by omega) (by omega), K8 _ (by omega) (by omega)]; exact g12)
    (by rw [K12 _ (by omega) (by omega) (by omega), K11 _ (by omega) (by omega)]; exact t1') (by rw [K12 _ (by omega) (by omega) (by omega), K11 _ (by omega) (by omega)]; exact t2') (by rw [K12 _ (by omega) (by omega) (by omega), K11 _ (by omega) (by omega)]; exact t3') (by rw [K12 _ (by omega) (by omega) (by omega), K11 _ (by omega) (by omega)]; exact t4') (by rw [K12 _ (by omega) (by omega) (by omega), K11 _ (by omega) (by omega)]; exact s5') (by rw [K12 _ (by omega) (by omega) (by omega), K11 _ (by omega) (by omega)]; exact t5') (by rw [K12 _ (by omega) (by omega) (by omega), K11 _ (by omega) (by omega)]; exact s6') (by rw [K12 _ (by omega) (by omega) (by omega), K11 _ (by omega) (by omega)]; exact t6') (by rw [K12 _ (by omega) (by omega) (by omega), K11 _ (by omega) (by omega)]; exact t7') (by rw [K12 _ (by omega) (by omega) (by omega), K11 _ (by omega) (by omega)]; exact t8)
    (by rw [K12 _ (by omega) (by omega) (by omega)]; exact q11) (by rw [K12 _ (by omega) (by omega) (by omega)]; exact s10') (by rw [K12 _ (by omega) (by omega) (by omega)]; exact t10') (by rw [K12 _ (by omega) (by omega) (by omega)]; exact s11) (by rw [K12 _ (by omega) (by omega) (by omega)]; exact t11)
    (ha.old hw old15) (hr.old hw old15) (hx.old hw old15) (hu.old hw old15) (hb.old hw old15) (hv.old hw old15)
    (vt14.keep fun a n c e x hx => ?_) (vw14.fl.keep fun a n c e x hx => ?_) (vq14.keep fun a n c e => ?_) (oz.il.keep fun a n c e => ?_) l1 l2 l3 l4 ls lp fun fr' m' h1 h2 ho => hQ fr' m' h1 h2 fun c hc => by rw [ho.2, old15 c hc]
  · have := bvt a n c e
    exact far _ (by omega) (w14 _ _ hx)
  · have := ow.beyond a n c e
    exact far _ (by omega) (w14 _ _ hx)
  · obtain ⟨x, hx⟩ := vq14.blk e
    have := bvq a n c e
    exact far _ (by omega) (w14 _ _ hx)
  · obtain ⟨x, hx⟩ := oz.il.blk e
    have := oz.beyond a n c e
    exact far _ (by omega) (w14 _ _ hx)
end Go.Proofs.Ytghhanifakllpaa

/- The law's first part: alive. -/
import Derived.Test.YtjddmnfdnnbbhaaGreatUgZ
import Derived.Test.YtjddmnfdnnbbhaaGreatTfZ
import Derived.Test.YtjddmnfdnnbbhaaGreatTgZ
set_option linter.unusedSimpArgs false
set_option linter.unusedVariables false
namespace Go.Proofs.YtjddmnfdnnbbhaaGreat
open Go Go.RowKit Go.Clean
/-- What both parts of the law have at hand. -/
structure AL (m0 m : Mem) (q1 q2 : Nat) (v : Value) : Prop where
  up : Up m0 m
  c1 : m.at q1 = some ⟨[v], 1, false, false⟩
  c2 : m.at q2 = some ⟨ruL, 1, false, false⟩
  el : EL m v [e1]
theorem AL.to {m0 m m' : Mem} {q1 q2 : Nat} {v : Value} (h : AL m0 m q1 q2 v) (hw : MW m0) (u : Up m m') : AL m0 m' q1 q2 v :=
  have w := h.up.wf hw
  ⟨h.up.trans u, u.at h.c1 w, u.at h.c2 w, h.el.up w u⟩
theorem AL.to' {m0 m m' : Mem} {q1 q2 : Nat} {v : Value} (h : AL m0 m q1 q2 v) (w : MW m) (u : Up m m') : AL m0 m' q1 q2 v :=
  ⟨h.up.trans u, u.at h.c1 w, u.at h.c2 w, h.el.up w u⟩
theorem build_T0 : buildX Tryz.prog 41 [] = some tr0.val := by kernel_rfl
theorem build_TB : buildX Tryz.prog 41 [(0, .complex .f64 0 4615063718147915776)] = some (trB 0).val := by kernel_rfl
theorem build_F0 : buildX Tryz.prog 25 [] = some (.agg ⟨[nilL]⟩) := by kernel_rfl
theorem c00 : Value.complex .f64 0 0 = cx (some 0, some 0) := by kernel_rfl
theorem c24 : Value.complex .f64 4611686018427387904 4616189618054758400 = cx (some 4611686018427387904, some 4616189618054758400) := by kernel_rfl
theorem build_B1 : buildX Tryz.prog 29 [(1, .complex .f64 4611686018427387904 4607182418800017408)] = some (bxV (some 0, some 0) (some 4611686018427387904, some 4607182418800017408)) := by kernel_rfl
theorem ck_B1 : known 18 [bxV (some 0, some 0) (some 4611686018427387904, some 4607182418800017408)] = some (M.ret (.int .i64 0)) := by kernel_rfl
theorem lt_one {m : Mem} {b : Nat} {a : Tr} {gr : Bool} (h : m.at b = some ⟨flatT [a], 3, gr, false⟩) : LT m (.slice (some ⟨b, 0, none⟩) 1 1) b 1 1 [a] := ⟨rfl, Nat.le_refl _, gr, h⟩
theorem one_at (a : Tr) : ∀ i, i < 1 → [a][i]? = some a := fun i hi => (show i = 0 by omega) ▸ rfl
section
set_option maxRecDepth 10000
set_option maxHeartbeats 8000000
def rkR3 : List Tr := rk (fun k => (co (some 0) (some 4611686018427387904) k 3, co (some 0) (some 4616189618054758400) k 3)) 3 3
def rkC6 : List Tr := rk (clF (some 0, some 0) (some 4611686018427387904, some 4607182418800017408) 3 2) 6 6
theorem ca0 : (flatT (List.replicate 1 (trA 2)))[0]? = some (.complex .f64 4607182418800017408 4611686018427387904) := by kernel_rfl
theorem ca1 : (flatT (List.replicate 1 (trA 2)))[1]? = some (.float .f64 4607182418800017408) := by kernel_rfl
theorem ca2 : (flatT (List.replicate 1 (trA 2)))[2]? = some (.int .u8 0) := by kernel_rfl
theorem cb1 : (flatT (List.replicate 1 (trB 1)))[1]? = some (.float .f64 0) := by kernel_rfl
theorem cb2 : (flatT (List.replicate 1 (trB 1)))[2]? = some (.int .u8 3) := by kernel_rfl
theorem eqc12 (xo yo : Operand) : binX Tryz.prog .eql 27 xo yo (.complex .f64 4607182418800017408 4611686018427387904) (.complex .f64 4607182418800017408 4611686018427387904) = some (.bool true) := by kernel_rfl
theorem eqc11 (xo yo : Operand) : binX Tryz.prog .eql 27 xo yo (.complex .f64 4607182418800017408 4607182418800017408) (.complex .f64 4607182418800017408 4607182418800017408) = some (.bool true) := by kernel_rfl
theorem eqf1 (xo yo : Operand) : binX Tryz.prog .eql 26 xo yo (.float .f64 4607182418800017408) (.float .f64 4607182418800017408) = some (.bool true) := by kernel_rfl
theorem eqf0 (xo yo : Operand) : binX Tryz.prog .eql 26 xo yo (.float .f64 0) (.float .f64 0) = some (.bool true) := by kernel_rfl
theorem cr3 : (flatT rkR3)[3]? = some (.complex .f64 4607182418800017408 4611686018427387904) := by kernel_rfl
theorem cc12 : (flatT rkC6)[12]? = some (.complex .f64 4607182418800017408 4607182418800017408) := by kernel_rfl
theorem sr0 : ∀ i, i < 3 → ∃ a b, rkR3[i]? = some a ∧ rkR3[i]? = some b ∧ known 23 [a.val, b.val] = some (M.ret (.bool true)) := by
  intro i hi
  have h := rk_get (fun k => (co (some 0) (some 4611686018427387904) k 3, co (some 0) (some 4616189618054758400) k 3)) (n := 3) (i := 3) hi
  rw [if_pos hi] at h
  refine ⟨_, _, h, h, ?_⟩
  obtain rfl | rfl | rfl : i = 0 ∨ i = 1 ∨ i = 2 := by omega
  all_goals kernel_rfl
noncomputable def tailC : Code := sR (sR (sR (sR (sR (sR (sR (bodyOf Tryz.f4)))))))
theorem tail_ok {B : Go.Clean.Start Tryz.prog Unit} (hB : B.OK) {m : Mem} {base ba bb bc br bd : Nat} {tc : Tr} {fr : Fr} (hw : MW m) (ta : m.at ba = some ⟨flatT (List.replicate 1 (trA 2)), 3, true, false⟩) (tb : m.at bb = some ⟨flatT (List.replicate 1 (trB 1)), 3, true, false⟩) (tcc : m.at bc = some ⟨flatT (List.replicate 1 tc), 3, true, false⟩) (htc : tc.w = 2)
    (lr : LT m (.slice (some ⟨br, 0, none⟩) 3 3) br 3 3 rkR3) (lc : LT m (.slice (some ⟨bd, 0, none⟩) 6 6) bd 6 6 rkC6)
    (h1 : fr.n = 171) (h2 : fr.d = []) (g3 : fr.at 3 = .slice (some ⟨ba, 0, none⟩) 1 1) (g4 : fr.at 4 = .int .i64 0) (g5 : fr.at 5 = .slice (some ⟨bb, 0, none⟩) 1 1) (g6 : fr.at 6 = .int .i64 0) (g7 : fr.at 7 = .slice (some ⟨bc, 0, none⟩) 1 1) (g8 : fr.at 8 = .int .i64 0) (g9 : fr.at 9 = .slice (some ⟨br, 0, none⟩) 3 3) (g10 : fr.at 10 = .int .i64 0) (g11 : fr.at 11 = .slice (some ⟨bd, 0, none⟩) 6 6) (g12 : fr.at 12 = .int .i64 0)
    {Q : Value → Mem → Prop} (hQ : ∀ m', Up m m' → Q (.bool true) m') : TS B none tailC () fr m (finT Tryz.prog base Tryz.f4 fun _ => Q) := by
  have E := exec_ok 20
  show TS B none (.seq (.seq (.region _ _ _) _) _) () fr m _
  refine TS.seq (TS.gives E hB (.inl rfl) ?_)
  refine (code_seq _ _ _ _ _).2 (region_hid fun ops hops => ?_)
  have y2 : ∀ fr, yieldX ops fr 2 = boolOf (fr.at 56) := fun fr => by rw [hops]; rfl
  have y6 : ∀ fr, yieldX ops fr 6 = boolOf (fr.at 60) := fun fr => by rw [hops]; rfl
  have y10 : ∀ fr, yieldX ops fr 10 = boolOf (fr.at 64) := fun fr => by rw [hops]; rfl
  have y14 : ∀ fr, yieldX ops fr 14 = boolOf (fr.at 68) := fun fr => by rw [hops]; rfl
  have y18 : ∀ fr, yieldX ops fr 18 = boolOf (fr.at 72) := fun fr => by rw [hops]; rfl
  have y23 : ∀ fr, yieldX ops fr 23 = boolOf (fr.at 77) := fun fr => by rw [hops]; rfl
  have y28 : ∀ fr, yieldX ops fr 28 = boolOf (fr.at 82) := fun fr => by rw [hops]; rfl
  have y33 : ∀ fr, yieldX ops fr 33 = boolOf (fr.at 87) := fun fr => by rw [hops]; rfl
  have y38 : ∀ fr, yieldX ops fr 38 = boolOf (fr.at 92) := fun fr => by rw [hops]; rfl
  clear hops
  iterate 43 (refine (steps_cons _ _ _ _ _ _).2 ?_; simp [h1, g3, g4, g5, g6, g7, g8, g9, g10, g11, g12, boolOf_bool, -steps_cons, y2, y6, y10, y14, y18, y23, y28, y33, y38])
  refine (show ∀ fg : Fr, fg.n = 171 → fg.d = [] → fg.at 3 = .slice (some ⟨ba, 0, none⟩) 1 1 → fg.at 5 = .slice (some ⟨bb, 0, none⟩) 1 1 → fg.at 7 = .slice (some ⟨bc, 0, none⟩) 1 1 → fg.at 9 = .slice (some ⟨br, 0, none⟩) 3 3 → fg.at 11 = .slice (some ⟨bd, 0, none⟩) 6 6 → TS B none _ () fg m _ from ?_) _ (by simp [h1]) (by simp [h2]) (by simp [g3]) (by simp [g5]) (by simp [g7]) (by simp [g9]) (by simp [g11])
  clear h1 h2 g3 g4 g5 g6 g7 g8 g9 g10 g11 g12
  clear fr
  intro fr h1 h2 g3 g5 g7 g9 g11
  have xa := idx_T ba 1 1 0 (by omega)
  have xb := idx_T bb 1 1 0 (by omega)
  have xc := idx_T bc 1 1 0 (by omega)
  simp only [Nat.zero_mul, Int.natCast_zero] at xa xb xc
  have tc2 : (flatT (List.replicate 1 tc))[2]? = some (.int .u8 2) := by
    show some (Value.int .u8 tc.w) = _
    rw [htc]; rfl
  obtain ⟨LA, hLA⟩ : ∃ L, L = flatT (List.replicate 1 (trA 2)) := ⟨_, rfl⟩
  obtain ⟨LB, hLB⟩ : ∃ L, L = flatT (List.replicate 1 (trB 1)) := ⟨_, rfl⟩
  obtain ⟨LC, hLC⟩ : ∃ L, L = flatT (List.replicate 1 tc) := ⟨_, rfl⟩
  have xa0 := ca0
  have xa1 := ca1
  have xa2 := ca2
  have xb1 := cb1
  have xb2 := cb2
  have tb' := tb
  rw [← hLA] at ta xa0 xa1 xa2
  rw [← hLB] at tb xb1 xb2
  rw [← hLC] at tcc tc2
  clear hLA hLB hLC
  refine TS.seq (TS.gives E hB (.inl rfl) ?_)
  refine code_chain (plan := [0, 1, 3, 7, 0, 31, 63, 127, 255, 511, 1023, 2047, 4095, 8191, 16383, 32767, 65535, 131071, 262143, 524287, 1048575, 2097151, 4194303, 8388607, 16777215, 33554431, 67108863, 134217727, 268435455, 536870911, 1073741823, 2147483647, 4294967295, 8589934591, 17179869183, 34359738367, 68719476735, 137438953471, 274877906943, 549755813887, 1099511627775, 2199023255551]) (by kernel_rfl) fun ops hops => ?_
  have y6 : ∀ fr, yieldX ops fr 6 = boolOf (fr.at 103) := fun fr => by rw [hops]; rfl
  have y13 : ∀ fr, yieldX ops fr 13 = boolOf (fr.at 110) := fun fr => by rw [hops]; rfl
  have y20 : ∀ fr, yieldX ops fr 20 = boolOf (fr.at 117) := fun fr => by rw [hops]; rfl
  have y27 : ∀ fr, yieldX ops fr 27 = boolOf (fr.at 124) := fun fr => by rw [hops]; rfl
  have y34 : ∀ fr, yieldX ops fr 34 = boolOf (fr.at 131) := fun fr => by rw [hops]; rfl
  clear hops
  iterate 4 (refine DX.full (by decide) (by decide) ?_; simp [h1, g3, g5, g7, xa, xb, xc, ta, tb, tcc, xa0, xa1, xa2, xb1, xb2, tc2, run_ofR, eqc12, eqf1, eqf0, boolOf_bool, y6, y13, y20, y27, y34])
  refine DX.quiet (by decide) ?_
  simp [h1, g3, g5, g7, xa, xb, xc, ta, tb, tcc, xa0, xa1, xa2, xb1, xb2, tc2, run_ofR, eqc12, eqf1, eqf0, boolOf_bool, y6, y13, y20, y27, y34]
  iterate 37 (refine DX.full (by decide) (by decide) ?_; simp [h1, g3, g5, g7, xa, xb, xc, ta, tb, tcc, xa0, xa1, xa2, xb1, xb2, tc2, run_ofR, eqc12, eqf1, eqf0, boolOf_bool, y6, y13, y20, y27, y34])
  refine DX.nil ?_
  simp
  refine (show ∀ (fg : Fr) (m2 : Mem), Up m m2 → fg.n = 171 → fg.d = [] → fg.at 5 = .slice (some ⟨bb, 0, none⟩) 1 1 → fg.at 9 = .slice (some ⟨br, 0, none⟩) 3 3 → fg.at 11 = .slice (some ⟨bd, 0, none⟩) 6 6 → fg.at 13 = .bool true → TS B none _ () fg m2 _ from ?_) _ _ (Up.same (by simp) fun c => by simp) (by simp [h1]) (by simp [h2]) (by simp [g5]) (by simp [g9]) (by simp [g11]) (by simp)
  clear h1 h2 g3 g5 g7 g9 g11 y6 y13 y20 y27 y34 ops
  clear fr
  intro fr m2 u2 h1 h2 g5 g9 g11 g13
  have w2 := u2.wf hw
  have lr2 := lr.up hw u2
  have lc2 := lc.up hw u2
  have lb2 : LT m2 (.slice (some ⟨bb, 0, none⟩) 1 1) bb 1 1 (List.replicate 1 (trB 1)) := ⟨rfl, by simp, true, u2.at tb' hw⟩
  obtain ⟨gr1, hr2⟩ := lr2.at_
  obtain ⟨gr2, hd2⟩ := lc2.at_
  have xr := idx_T br 3 3 1 (by omega)
  have xd := idx_T bd 6 6 4 (by omega)
  have LR3 := cr3
  have LD12 := cc12
  have lr3 := lr2
  obtain ⟨LR, hLR⟩ : ∃ L, L = flatT rkR3 := ⟨_, rfl⟩
  obtain ⟨LD, hLD⟩ : ∃ L, L = flatT rkC6 := ⟨_, rfl⟩
  rw [← hLR] at hr2 LR3
  rw [← hLD] at hd2 LD12
  clear hLR hLD
  simp only [Nat.one_mul, Int.natCast_one, show (4 * 3 : Nat) = 12 from rfl, show ((4 : Nat) : Int) = 4 from rfl] at xr xd
  refine TS.gives E hB (.inl rfl) ((code_seq _ _ _ _ _).2 ?_)
  refine code_chain (plan := [0, 1, 3, 7, 15, 31, 3, 127, 255, 511, 1023, 2047, 4095, 8191, 1023, 32767, 65535, 131071, 262143, 524287, 1048575, 2097151, 4194303, 8388607, 8388607, 33554431, 67108863, 134217727, 268435455, 268435455, 1073741823, 2147483647, 4294967295, 8589934591]) (by kernel_rfl) fun ops hops => ?_
  have y1 : ∀ fr, yieldX ops fr 1 = boolOf (fr.at 139) := fun fr => by rw [hops]; rfl
  have y9 : ∀ fr, yieldX ops fr 9 = boolOf (fr.at 147) := fun fr => by rw [hops]; rfl
  have y17 : ∀ fr, yieldX ops fr 17 = boolOf (fr.at 155) := fun fr => by rw [hops]; rfl
  have y22 : ∀ fr, yieldX ops fr 22 = boolOf (fr.at 160) := fun fr => by rw [hops]; rfl
  have y27 : ∀ fr, yieldX ops fr 27 = boolOf (fr.at 165) := fun fr => by rw [hops]; rfl
  clear hops
  iterate 6 (refine DX.full (by decide) (by decide) ?_; simp [h1, h2, g5, g9, g11, g13, xr, xd, hr2, hd2, LR3, LD12, run_ofR, eqc12, eqc11, boolOf_bool, y1, y9, y17, y22, y27])
  refine DX.quiet (by decide) ?_
  simp [h1, h2, g5, g9, g11, g13, xr, xd, hr2, hd2, LR3, LD12, run_ofR, eqc12, eqc11, boolOf_bool, y1, y9, y17, y22, y27]
  iterate 7 (refine DX.full (by decide) (by decide) ?_; simp [h1, h2, g5, g9, g11, g13, xr, xd, hr2, hd2, LR3, LD12, run_ofR, eqc12, eqc11, boolOf_bool, y1, y9, y17, y22, y27])
  refine DX.quiet (by decide) ?_
  simp [h1, h2, g5, g9, g11, g13, xr, xd, hr2, hd2, LR3, LD12, run_ofR, eqc12, eqc11, boolOf_bool, y1, y9, y17, y22, y27]
  iterate 4 (refine DX.full (by decide) (by decide) ?_; simp [h1, h2, g5, g9, g11, g13, xr, xd, hr2, hd2, LR3, LD12, run_ofR, eqc12, eqc11, boolOf_bool, y1, y9, y17, y22, y27])
  refine DX.full (by decide) (by decide) ?_
  simp [h1, h2, g5, g9, g11, g13, boolOf_bool, y1, y9, y17, y22, y27]
  refine (show ∀ (m4 : Mem), Up m2 m4 → Gives (callN Tryz.prog known 20 11 [.slice (some ⟨bb, 0, none⟩) 1 1]) m4 _ from fun m4 u4 => ?_) _ (Up.same (by simp) fun c => by simp)
  have w4 := u4.wf w2
  refine left_ok (z := false) 19 w4 (lb2.up w2 u4) (by omega) (fun i hi => ⟨trB 1, (show i = 0 by omega) ▸ rfl, rfl⟩) fun m5 u5 => ?_
  have u25 := u4.trans u5
  simp [h1, h2, g5, g9, g11, g13, boolOf_bool, y1, y9, y17, y22, y27]
  iterate 4 (refine DX.full (by decide) (by decide) ?_; simp [h1, h2, g5, g9, g11, g13, boolOf_bool, y1, y9, y17, y22, y27])
  refine DX.quiet (by decide) ?_
  simp [h1, h2, g5, g9, g11, g13, boolOf_bool, y1, y9, y17, y22, y27]
  refine DX.full (by decide) (by decide) ?_
  simp [h1, h2, g5, g9, g11, g13, boolOf_bool, y1, y9, y17, y22, y27]
  have u26 : Up m2 (m5.lg []) := u25.trans (Up.lg _ _)
  refine same_ok 17 (u26.wf w2) (lr3.up w2 u26) (lr3.up w2 u26) (by omega) sr0 fun m6 u6 => ?_
  have u27 := u26.trans u6
  simp [h1, h2, g5, g9, g11, g13, boolOf_bool, y1, y9, y17, y22, y27]
  iterate 3 (refine DX.full (by decide) (by decide) ?_; simp [h1, h2, g5, g9, g11, g13, boolOf_bool, y1, y9, y17, y22, y27])
  refine DX.quiet (by decide) ?_
  simp [h1, h2, g5, g9, g11, g13, boolOf_bool, y1, y9, y17, y22, y27]
  refine DX.full (by decide) (by decide) ?_
  simp [h1, h2, g5, g9, g11, g13, boolOf_bool, y1, y9, y17, y22, y27]
  refine same_len 17 (by omega) ?_
  simp [h1, h2, g5, g9, g11, g13, boolOf_bool, y1, y9, y17, y22, y27]
  iterate 3 (refine DX.full (by decide) (by decide) ?_; simp [h1, h2, g5, g9, g11, g13, boolOf_bool, y1, y9, y17, y22, y27])
  refine DX.nil ?_
  simp [h1, h2]
  refine finT_tmp (a := 0) rfl (by simp [h2]) (.inr rfl) ?_
  simp [h1]
  exact hQ _ (u2.trans (u27.trans (Up.same (by simp) fun c => by simp)))
theorem alive_ok {m : Mem} (hw : MW m) {Q : Value → Mem → Prop} (hQ : ∀ m', Up m m' → Q (.bool true) m') : TF Tryz.prog 4 [] m Q := by
  have E := exec_ok 20
  refine TF.body E Tryz.func4 rfl (Nat.le_of_ble_eq_true rfl) fun B hB hBm => ?_
  generalize hfr : (⟨putArgs [] 0 .leaf, (Tryz.f4).ntmps, []⟩ : Fr) = fr
  have f1 : fr.n = 171 := by rw [← hfr]; exact Tryz.ntmps4
  have f2 : fr.d = [] := by rw [← hfr]
  clear hfr
  refine TS.seq (TS.gives E hB (.inl rfl) ?_)
  simp [f1]
  refine TS.seq (TS.gives E hB (.inl rfl) ?_)
  simp [f1]
  refine plain_ok _ fun m1 v u1 hel hvb => ?_
  obtain ⟨bv, rfl, hbv⟩ := hvb
  simp [f1, zero_Fl, zero_Ru, ruZ]
  refine storeQ_rule (y := ⟨[nilL], 1, false, false⟩) (by simp [show ¬ m1.next = m1.next + 1 by omega]) rfl (by rw [sto_Fw]; simp) (l := [.slice (some ⟨bv, 0, none⟩) 1 1]) rfl fun m2 n2 l2 e2 => ?_
  have w1 := u1.wf hw
  obtain ⟨q1, hq1⟩ : ∃ q1, q1 = m1.next := ⟨_, rfl⟩
  have u2 : Up m1 m2 := Up.wr (m1 := (m1.nw ⟨[nilL], 1, false, false⟩).nw ⟨[.float .f64 0, .int .i64 0, .float .f64 0, .complex .f64 0 0, .complex .f64 0 0], 1, false, false⟩) ((Up.nw _ _).trans (Up.nw _ _)) (b := m1.next) (Nat.le_refl _) (by simp; omega) n2 e2
  simp only [Mem.next_nw, Mem.at_nw] at n2 e2
  rw [← hq1] at n2 e2 ⊢
  have c1 : m2.at q1 = some ⟨[.slice (some ⟨bv, 0, none⟩) 1 1], 1, false, false⟩ := by rw [e2, if_pos rfl]
  have c2 : m2.at (q1 + 1) = some ⟨[.float .f64 0, .int .i64 0, .float .f64 0, .complex .f64 0 0, .complex .f64 0 0], 1, false, false⟩ := by rw [e2, if_neg (by omega), if_pos rfl]
  clear e2 l2
  simp [f1]
  refine storeQ_rule (y := ⟨[.float .f64 0, .int .i64 0, .float .f64 0, .complex .f64 0 0, .complex .f64 0 0], 1, false, false⟩) c2 rfl sto_Ru (l := ruL) rfl fun m3 n3 l3 e3 => ?_
  have u3 : Up m1 m3 := u2.wr (b := q1 + 1) (by omega) (by omega) n3 e3
  have A3 : AL m m3 q1 (q1 + 1) (.slice (some ⟨bv, 0, none⟩) 1 1) := ⟨u1.trans u3, by rw [e3, if_neg (by omega)]; exact c1, by rw [e3, if_pos rfl], hel.up w1 u3⟩
  clear e3 c1 c2 u2 n2 l3 hel
  have w3 := A3.up.wf hw
  obtain ⟨q2, hq2⟩ : ∃ q2, q2 = q1 + 1 := ⟨_, rfl⟩
  rw [← hq2] at A3 ⊢
  simp [f1]
  refine (show ∀ fg : Fr, fg.n = 171 → fg.d = [] → fg.at 1 = .pointer (some ⟨q1, 0, none⟩) → fg.at 2 = .pointer (some ⟨q2, 0, none⟩) → TS B none _ () fg m3 _ from ?_) _ (by simp [f1]) (by simp [f2]) (by simp) (by simp)
  clear f1 f2 u3 n3 u1 w1 hq1 hq2 m1 m2
  intro fg f1 f2 a1 a2
  refine TS.seq (TS.region ?_)
  refine TO.step E hB (.inl rfl) ?_
  simp [f1, a1, A3.c1]
  refine TO.step E hB (.inl rfl) ?_
  simp [f1, build_T0]
  refine TO.step E hB (.inl rfl) ?_
  simp [f1]
  refine gives_build1T ?_
  simp [f1]
  have lq2 : ¬ q2 = m3.next := Nat.ne_of_lt (w3 q2 _ A3.c2)
  refine TO.step E hB (.inl rfl) ?_
  simp [f1, a2, A3.c2, lq2]
  obtain ⟨m4, hm4⟩ : ∃ m4, m4 = (((m3.rd q1).nw ⟨flatT [tr0], 3, false, false⟩).rd q2) := ⟨_, rfl⟩
  have u4 : Up m3 m4 := by rw [hm4]; exact (Up.rd _ _).trans ((Up.nw _ _).trans (Up.rd _ _))
  have t4 : m4.at m3.next = some ⟨flatT [tr0], 3, false, false⟩ := by rw [hm4]; simp
  have A4 := A3.to hw u4
  have w4 := A4.up.wf hw
  rw [← hm4]
  clear hm4
  refine TO.call hB (vs := [.agg ⟨[.slice (some ⟨bv, 0, none⟩) 1 1]⟩, .slice (some ⟨m3.next, 0, none⟩) 1 1, ruV, .int .i64 2]) (by simp) (by simp [f1]) (run_ok (n := 2) (tr := trA) w4 A4.el okay1 (lt_one t4) (one_at _) mayA (by omega) (by omega) (by omega) (byA 2) fun m5 va ba ka hka hea u5 oa => ?_)
  have A5 := A4.to hw u5
  have w5 := A5.up.wf hw
  obtain rfl : ka = 2 := by
    rcases hea with h | h
    · exact h
    · exfalso
      have : ka = 0 ∨ ka = 1 ∨ ka = 2 := by omega
      rcases this with rfl | rfl | rfl <;> exact h rfl
  clear hka hea A4 A3 w3 w4 u4 t4 u5
  refine TO.gives E hB (.inl rfl) ?_
  simp [f1]
  refine (show ∀ fg : Fr, fg.n = 171 → fg.d = [] → fg.at 1 = .pointer (some ⟨q1, 0, none⟩) → fg.at 2 = .pointer (some ⟨q2, 0, none⟩) → fg.at 3 = va → fg.at 4 = .int .i64 0 → TS B none _ () fg m5 _ from ?_) _ (by simp [f1]) (by simp [f2]) (by simp [a1]) (by simp [a2]) (by simp) (by simp)
  clear f1 f2 a1 a2 lq2
  intro fg f1 f2 a1 a2 a3 a4
  refine TS.seq (TS.drawM hB mix (n := 11) rfl rfl ?_)
  have p1 := A5.c1
  have p2 := A5.c2
  have ld27 : ∀ {m' : Mem}, Up m5 m' → m'.at q1 = some ⟨[.slice (some ⟨bv, 0, none⟩) 1 1], 1, false, false⟩ := fun u => u.at p1 w5
  have ld31 : ∀ {m' : Mem}, Up m5 m' → m'.at q2 = some ⟨ruL, 1, false, false⟩ := fun u => u.at p2 w5
  refine TA.pre (M0 := 0) (M1 := 31) (k := 6) (deps := [0, 0, 2, 6, 0, 31, 63, 127, 127, 255, 1023]) (by kernel_rfl) (fun mask fr m => fr.n = 171 ∧ fr.d = [] ∧ (∀ t, t < 27 → fr.at t = fg.at t) ∧ Up m5 m ∧
    (bitOn mask 0 → fr.at 27 = .agg ⟨[.slice (some ⟨bv, 0, none⟩) 1 1]⟩) ∧ (bitOn mask 1 → fr.at 28 = .complex .f64 0 4615063718147915776) ∧ (bitOn mask 2 → fr.at 29 = (trB 0).val) ∧ (bitOn mask 3 → ∃ bb, fr.at 30 = .slice (some ⟨bb, 0, none⟩) 1 1 ∧ m.at bb = some ⟨flatT [trB 0], 3, false, false⟩) ∧ (bitOn mask 4 → fr.at 31 = ruV))
    ?_ ?_ 5 0 fg m5 (by kernel_rfl) (by omega) (by kernel_rfl) (by kernel_rfl) ⟨f1, f2, fun _ _ => rfl, Up.refl _, fun h => (bit0 h).elim, fun h => (bit0 h).elim, fun h => (bit0 h).elim, fun h => (bit0 h).elim, fun h => (bit0 h).elim⟩
  · rintro mask i fr m hno hdp hle ⟨h1, h2, hk, u, b0, b1, b2, b3, b4⟩
    have hi := lt_of_pow (c := 5) hle (by decide)
    have w := u.wf w5
    have c1 := ld27 u
    have c2 := ld31 u
    have e1 := hk 1 (by omega)
    have e2 := hk 2 (by omega)
    rw [a1] at e1
    rw [a2] at e2
    obtain rfl | rfl | rfl | rfl | rfl : i = 0 ∨ i = 1 ∨ i = 2 ∨ i = 3 ∨ i = 4 := by omega
    · refine T1.keep E hB rfl (.inl rfl) ?_
      simp [h1, e1, c1]
      exact ⟨h2, fun t ht => by rw [if_neg (by omega)]; exact hk t ht, u.trans (Up.rd _ _), fun hb => b1 (bon hb (by decide)), fun hb => b2 (bon hb (by decide)), fun hb => b3 (bon hb (by decide)), fun hb => b4 (bon hb (by decide))⟩
    · refine T1.keep E hB rfl (.inl rfl) ?_
      simp [h1, run_ofR]
      exact ⟨h2, fun t ht => by rw [if_neg (by omega)]; exact hk t ht, u, fun hb => b0 (bon hb (by decide)), fun hb => b2 (bon hb (by decide)), fun hb => b3 (bon hb (by decide)), fun hb => b4 (bon hb (by decide))⟩
    · have hb1 : bitOn mask 1 := by
        exact bdep hdp (by decide)
      refine T1.keep E hB rfl (.inl rfl) ?_
      simp [h1, b1 hb1, build_TB]
      exact ⟨h2, fun t ht => by rw [if_neg (by omega)]; exact hk t ht, u, fun hb => b0 (bon hb (by decide)), fun hb => b3 (bon hb (by decide)), fun hb => b4 (bon hb (by decide))⟩
    · have hb2 : bitOn mask 2 := by
        exact bdep hdp (by decide)
      refine T1.keep E hB rfl (.inl rfl) ?_
      simp [h1, b2 hb2]
      refine gives_build1T ?_
      simp [h1]
      exact ⟨h2, fun t ht => by rw [if_neg (by omega)]; exact hk t ht, u.trans (Up.nw _ _), fun hb => b0 (bon hb (by decide)), fun hb => b1 (bon hb (by decide)), fun hb => b2 (bon hb (by decide)), fun hb => b4 (bon hb (by decide))⟩
    · refine T1.keep E hB rfl (.inl rfl) ?_
      simp [h1, e2, c2]
      exact ⟨h2, fun t ht => by rw [if_neg (by omega)]; exact hk t ht, u.trans (Up.rd _ _), fun hb => b0 (bon hb (by decide)), fun hb => b1 (bon hb (by decide)), fun hb => b2 (bon hb (by decide)), fun hb => b3 (bon hb (by decide))⟩
  · rintro fr m6 ⟨h1, h2, hk, u, b0, b1, b2, b3, b4⟩
    have b0 := b0 (by unfold bitOn; decide)
    have b4 := b4 (by unfold bitOn; decide)
    obtain ⟨bb, b3, t6⟩ := b3 (by unfold bitOn; decide)
    clear b1 b2
    have A6 := A5.to hw u
    have w6 := A6.up.wf hw
    have oa6 := oa.to w5 u
    refine TA.one (i := 5) (by kernel_rfl) (by kernel_rfl) ?_
    refine T1.tf hB rfl (vs := [.agg ⟨[.slice (some ⟨bv, 0, none⟩) 1 1]⟩, .slice (some ⟨bb, 0, none⟩) 1 1, ruV, .int .i64 1]) (by simp [b0, b3, b4]) (by simp [h1]) (run_ok (n := 1) (tr := trB) w6 A6.el okay1 (lt_one t6) (one_at _) mayB (by omega) (by omega) (by omega) (byB 1) fun m7 vb bb' kb hkb heb u7 ob => ?_)
    have A7 := A6.to hw u7
    have w7 := A7.up.wf hw
    have oa7 := oa6.to w6 u7
    obtain rfl : kb = 1 := by
      rcases heb with h | h
      · exact h
      · have : kb = 0 ∨ kb = 1 := by omega
        rcases this with rfl | h'
        · exact absurd rfl h
        · exact h'
    clear hkb heb b0 b3 b4 t6 A5 ld27 ld31 p1 p2
    refine TA.pre (M0 := 63) (M1 := 2047) (k := 0) (deps := [0, 0, 2, 6, 0, 31, 63, 127, 127, 255, 1023]) (by kernel_rfl) (fun mask fr m => fr.n = 171 ∧ fr.d = [] ∧ (∀ t, t < 5 → fr.at t = fg.at t) ∧ m = m7 ∧ (∀ j, j < 6 → bitOn mask j) ∧ fr.at 32 = .tuple ⟨[vb, .int .i64 0]⟩ ∧
      (bitOn mask 6 → fr.at 26 = .tuple ⟨[vb, .int .i64 0]⟩) ∧ (bitOn mask 7 → fr.at 33 = vb) ∧ (bitOn mask 8 → fr.at 34 = .int .i64 0) ∧ (bitOn mask 9 → fr.at 5 = vb) ∧ (bitOn mask 10 → fr.at 6 = .int .i64 0))
      ?_ ?_ 5 63 _ m7 (by kernel_rfl) (by omega) (by kernel_rfl) (by kernel_rfl) ⟨by simp [h1], by simp [h2], fun t ht => by simp [show ¬ t = 32 by omega]; exact hk t (by omega), rfl, ?_, by simp [h1], ?_, ?_, ?_, ?_, ?_⟩
    · rintro mask i fr m hno hdp hle ⟨h1, h2, hk, rfl, hb, c32, c6, c7, c8, c9, c10⟩
      have hi := lt_of_pow (c := 11) hle (by decide)
      have hi6 : ¬ i < 6 := fun h => by have := hb i h; unfold bitOn at this; rw [hno] at this; cases this
      have hb' : ∀ j, j < 6 → bitOn (mask ||| 2 ^ i) j := fun j hj => by
        have := hb j hj
        unfold bitOn at *
        rw [Nat.testBit_or, this]; rfl
      obtain rfl | rfl | rfl | rfl | rfl : i = 6 ∨ i = 7 ∨ i = 8 ∨ i = 9 ∨ i = 10 := by omega
      · refine T1.keep E hB rfl (.inl rfl) ?_
        simp [h1, c32]
        exact ⟨h2, fun t ht => by rw [if_neg (by omega)]; exact hk t ht, hb', fun hb => c7 (bon hb (by decide)), fun hb => c8 (bon hb (by decide)), fun hb => c9 (bon hb (by decide)), fun hb => c10 (bon hb (by decide))⟩
      · have h6 : bitOn mask 6 := bdep hdp (by decide)
        refine T1.keep E hB rfl (.inl rfl) ?_
        simp [h1, c6 h6, c32]
        exact ⟨h2, fun t ht => by rw [if_neg (by omega)]; exact hk t ht, hb', fun hb => c8 (bon hb (by decide)), fun hb => c9 (bon hb (by decide)), fun hb => c10 (bon hb (by decide))⟩
      · have h6 : bitOn mask 6 := bdep hdp (by decide)
        refine T1.keep E hB rfl (.inl rfl) ?_
        simp [h1, c6 h6, c32]
        exact ⟨h2, fun t ht => by rw [if_neg (by omega)]; exact hk t ht, hb', fun hb => c7 (bon hb (by decide)), fun hb => c9 (bon hb (by decide)), fun hb => c10 (bon hb (by decide))⟩
      · have h7 : bitOn mask 7 := bdep hdp (by decide)
        refine T1.keep E hB rfl (.inl rfl) ?_
        simp [h1, c7 h7, c32]
        exact ⟨h2, fun t ht => by rw [if_neg (by omega)]; exact hk t ht, hb', fun hb => c6 (bon hb (by decide)), fun hb => c8 (bon hb (by decide)), fun hb => c10 (bon hb (by decide))⟩
      · have h8 : bitOn mask 8 := bdep hdp (by decide)
        refine T1.keep E hB rfl (.inl rfl) ?_
        simp [h1, c8 h8, c32]
        exact ⟨h2, fun t ht => by rw [if_neg (by omega)]; exact hk t ht, hb', fun hb => c6 (bon hb (by decide)), fun hb => c7 (bon hb (by decide)), fun hb => c9 (bon hb (by decide))⟩
    · rintro fr m ⟨h1, h2, hk, rfl, hb, c32, c6, c7, c8, c9, c10⟩
      have c9 := c9 (by unfold bitOn; decide)
      have c10 := c10 (by unfold bitOn; decide)
      refine TA.done (by kernel_rfl) ?_
      simp
      have e1 := hk 1 (by omega)
      have e2 := hk 2 (by omega)
      have e3 := hk 3 (by omega)
      have e4 := hk 4 (by omega)
      rw [a1] at e1
      rw [a2] at e2
      rw [a3] at e3
      rw [a4] at e4
      clear hk c6 c7 c8 hb c32
      have p2 := A7.c2
      have lq2 : ¬ q2 = m.next := Nat.ne_of_lt (w7 q2 _ p2)
      refine TS.seq (TS.region ?_)
      refine TO.step E hB (.inl rfl) ?_
      simp [h1, build_F0]
      refine TO.step E hB (.inl rfl) ?_
      simp [h1, build_T0]
      refine TO.step E hB (.inl rfl) ?_
      simp [h1]
      refine gives_build1T ?_
      simp [h1]
      refine TO.step E hB (.inl rfl) ?_
      simp [h1, e2, p2, lq2]
      obtain ⟨m8, hm8⟩ : ∃ m8, m8 = ((m.nw ⟨flatT [tr0], 3, false, false⟩).rd q2) := ⟨_, rfl⟩
      have u8 : Up m m8 := by rw [hm8]; exact (Up.nw _ _).trans (Up.rd _ _)
      have t8 : m8.at m.next = some ⟨flatT [tr0], 3, false, false⟩ := by rw [hm8]; simp
      have A8 := A7.to hw u8
      have w8 := A8.up.wf hw
      have oa8 := oa7.to w7 u8
      have ob8 := ob.to w7 u8
      rw [← hm8]
      clear hm8
      refine TO.call hB (vs := [.agg ⟨[nilL]⟩, .slice (some ⟨m.next, 0, none⟩) 1 1, ruV, .int .i64 9]) (by simp) (by simp [h1]) (run_ok (n := 9) (tr := trC) w8 (.inl ⟨rfl, rfl⟩) okay0 (lt_one t8) (one_at _) mayC (by omega) (by omega) (by omega) (byC 9) fun m9 vc bc kc hkc hec u9 oc => ?_)
      have A9 := A8.to hw u9
      have w9 := A9.up.wf hw
      have oa9 := oa8.to w8 u9
      have ob9 := ob8.to w8 u9
      obtain ⟨tc, htc, htc'⟩ : ∃ tc, trC kc = tc ∧ tc.w = 2 := by
        refine ⟨_, rfl, ?_⟩
        match kc, hec with
        | 0, h => exact absurd rfl (h.resolve_left (by omega))
        | k + 1, _ => rfl
      rw [htc] at oc
      clear htc hkc hec A8 A7 w8 w7 oa8 ob8 u8 t8 p2 lq2
      refine TO.gives E hB (.inl rfl) ?_
      simp [h1]
      refine (show ∀ fg : Fr, fg.n = 171 → fg.d = [] → fg.at 3 = va → fg.at 4 = .int .i64 0 → fg.at 5 = vb → fg.at 6 = .int .i64 0 → fg.at 7 = vc → fg.at 8 = .int .i64 0 → TS B none _ () fg m9 _ from ?_) _ (by simp [h1]) (by simp [h2]) (by simp [e3]) (by simp [e4]) (by simp [c9]) (by simp [c10]) (by simp) (by simp)
      clear h1 h2 e1 e2 e3 e4 c9 c10
      intro fx h1 h2 g3 g4 g5 g6 g7 g8
      refine TS.seq (TS.gives E hB (.inl rfl) ?_)
      simp [h1, run_ofR]
      rw [c00, c24]
      refine rake_ok (n := 3) 15 (by decide) (by decide) (by omega) (by omega) fun m10 br u10 hbr lr => ?_
      have A10 := A9.to hw u10
      have w10 := A10.up.wf hw
      have oa10 := oa9.to w9 u10
      have ob10 := ob9.to w9 u10
      have oc10 := oc.to w9 u10
      simp [h1]
      refine TS.seq (TS.gives E hB (.inl rfl) ?_)
      simp [h1, run_ofR, build_B1]
      refine cloud_ok 14 Grid.a ck_B1 (by decide) (by decide) fun m11 bc' u11 hbc lc => ?_
      have A11 := A10.to hw u11
      have w11 := A11.up.wf hw
      have oa11 := oa10.to w10 u11
      have ob11 := ob10.to w10 u11
      have oc11 := oc10.to w10 u11
      have lr11 := lr.up w10 u11
      simp [h1]
      obtain ⟨rfl, -, -, ta⟩ := oa11
      obtain ⟨rfl, -, -, tb⟩ := ob11
      obtain ⟨rfl, -, -, tcc⟩ := oc11
      clear oa10 ob10 oc10 oa9 ob9 oc A9 A10 w10 w9 u10 u9 lr hbr hbc
      simp only [List.length_replicate] at g3 g5 g7
      refine (show ∀ fg : Fr, fg.n = 171 → fg.d = [] → fg.at 3 = .slice (some ⟨ba, 0, none⟩) 1 1 → fg.at 4 = .int .i64 0 → fg.at 5 = .slice (some ⟨bb', 0, none⟩) 1 1 → fg.at 6 = .int .i64 0 → fg.at 7 = .slice (some ⟨bc, 0, none⟩) 1 1 → fg.at 8 = .int .i64 0 → fg.at 9 = .slice (some ⟨br, 0, none⟩) 3 3 → fg.at 10 = .int .i64 0 → fg.at 11 = .slice (some ⟨bc', 0, none⟩) 6 6 → fg.at 12 = .int .i64 0 → TS B none _ () fg m11 _ from ?_) _ (by simp [h1]) (by simp [h2]) (by simp [g3]) (by simp [g4]) (by simp [g5]) (by simp [g6]) (by simp [g7]) (by simp [g8]) (by simp) (by simp) (by simp) (by simp)
      clear h1 h2 g3 g4 g5 g6 g7 g8 c9 a3
      intro fy h1 h2 g3 g4 g5 g6 g7 g8 g9 g10 g11 g12
      refine tail_ok hB w11 ta tb tcc htc' lr11 lc h1 h2 g3 g4 g5 g6 g7 g8 g9 g10 g11 g12 fun m12 u12 => hQ m12 (A11.up.trans u12)
    · intro j hj
      obtain rfl | rfl | rfl | rfl | rfl | rfl : j = 0 ∨ j = 1 ∨ j = 2 ∨ j = 3 ∨ j = 4 ∨ j = 5 := by omega
      all_goals (unfold bitOn; decide)
    all_goals (intro h; unfold bitOn at h; exact absurd h (by decide))
end
end Go.Proofs.YtjddmnfdnnbbhaaGreat

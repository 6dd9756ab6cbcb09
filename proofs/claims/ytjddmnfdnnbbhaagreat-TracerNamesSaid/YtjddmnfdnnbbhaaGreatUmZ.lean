/- The law TracerNames in the clean executor, by triples: the fourth part. -/
import Derived.Test.YtjddmnfdnnbbhaaGreatUiZ
set_option linter.unusedSimpArgs false
set_option linter.unusedVariables false
namespace Go.Clean
open Go Go.RowKit
theorem resX_tmp1 {P : Program} {fr : Fr} {a : Tmp} {m : Mem} {Q : Value → Mem → Prop} (h : Q (fr.at a) m) : Gives (do
    let vs ← resX P fr [.tmp a]
    match vs with
    | [v] => M.ret v
    | vs => M.ret (Value.tuple ⟨vs⟩)) m Q := by
  rw [gives_bind]
  unfold resX
  rw [gives_bind]
  unfold resX
  exact (gives_ret _ _ _).2 ((gives_ret _ _ _).2 ((gives_ret _ _ _).2 h))
end Go.Clean
namespace Go.Proofs.YtjddmnfdnnbbhaaGreat
open Go Go.RowKit Go.Clean
def tr5 : Tr := ⟨(some 0, some 0), some 0, 5⟩
def trT : Tr := ⟨(some 0, some 0), some 4607182418800017408, 2⟩
theorem build_TE : buildX Tryz.prog 41 [(2, .int .u8 2)] = some trE.val := by kernel_rfl
theorem build_T5 : buildX Tryz.prog 41 [(2, .int .u8 5)] = some tr5.val := by kernel_rfl
theorem build_TT : buildX Tryz.prog 41 [(1, .float .f64 4607182418800017408), (2, .int .u8 2)] = some trT.val := by kernel_rfl
theorem same_ET : known 23 [trE.val, trT.val] = some (M.ret (.bool false)) := by kernel_rfl
theorem nil_goF (xo yo : Operand) (a b c : Nat) : binX Tryz.prog .eql 43 xo yo (goF a b c) .nilFunc = some (.bool false) := by kernel_rfl
noncomputable def c17C : Code := sR (sR (sR (sR (sR (sR (sR (sR (sR (sR (sR (sR (sR (sR (sR (bodyOf Tryz.f3)))))))))))))))
section
set_option maxRecDepth 10000
set_option maxHeartbeats 8000000
theorem rest17_ok {B : Go.Clean.Start Tryz.prog Unit} (hB : B.OK) {m0 m5 : Mem} {q1 q2 bv ba1 bc bd : Nat} {LA : List Tr} {fg : Fr} (hbm : B.bs.m.next ≤ m5.next) (w5 : MW m5) (A5 : AL m0 m5 q1 q2 (.slice (some ⟨bv, 0, none⟩) 1 1))
    (ha1 : m5.at ba1 = some ⟨flatT LA, 3, true, false⟩) (hla : LA.length = 4096) (hga : ∀ i, i < 4096 → LA[i]? = some (trA 1))
    (f1 : fg.n = 199) (f2 : fg.d = []) (a2 : fg.at 2 = .pointer (some ⟨q1, 0, none⟩)) (a3 : fg.at 3 = .pointer (some ⟨q2, 0, none⟩)) (a7 : fg.at 7 = .slice (some ⟨ba1, 0, none⟩) 4096 4096)
    (a15 : fg.at 15 = .slice (some ⟨bc, 0, none⟩) 4096 4096) (a16 : fg.at 16 = .int .i64 0) (a18 : fg.at 18 = .int .i64 4) (a19 : fg.at 19 = .slice (some ⟨bd, 0, none⟩) 4096 4096) (a20 : fg.at 20 = .int .i64 0) (a22 : fg.at 22 = .int .i64 4)
    {Q : Value → Mem → Prop} (hQ : ∀ m', Up m5 m' → Q (.bool true) m') : TS B none c17C () fg m5 (finT Tryz.prog B.bs.m.next Tryz.f3 fun _ => Q) := by
  have E := exec_ok 20
  show TS B none (.seq (.region _ _ _) _) () fg m5 _
  refine TS.seq (TS.gives E hB (.inl rfl) ?_)
  simp [f1, build_TE]
  refine gives_build1T ?_
  obtain ⟨be, hbe⟩ : ∃ be, be = m5.next := ⟨_, rfl⟩
  obtain ⟨m6, hm6⟩ : ∃ m6, m6 = m5.nw ⟨flatT [trE], 3, false, false⟩ := ⟨_, rfl⟩
  have u6 : Up m5 m6 := by rw [hm6]; exact Up.nw _ _
  have te : m6.at be = some ⟨flatT [trE], 3, false, false⟩ := by rw [hm6, hbe]; simp
  rw [← hm6, ← hbe]
  clear hm6
  have A6 := A5.to' w5 u6
  have w6 := u6.wf w5
  simp [f1]
  refine TS.seq (TS.gives E hB (.inl rfl) ?_)
  simp [f1, a2, A6.c1, build_T5]
  refine gives_build1T ?_
  have lq2 : ¬ q2 = m6.next := Nat.ne_of_lt (w6 q2 _ A6.c2)
  simp [f1, a3, A6.c2, lq2]
  obtain ⟨m7, hm7⟩ : ∃ m7, m7 = (((m6.rd q1).nw ⟨flatT [tr5], 3, false, false⟩).rd q2) := ⟨_, rfl⟩
  have u7 : Up m6 m7 := by rw [hm7]; exact (Up.rd _ _).trans ((Up.nw _ _).trans (Up.rd _ _))
  have t5 : m7.at m6.next = some ⟨flatT [tr5], 3, false, false⟩ := by rw [hm7]; simp
  have A7 := A6.to' w6 u7
  have w7 := u7.wf w6
  rw [← hm7]
  clear hm7
  refine run_no (n := 1) (e := 2) 12 w7 A7.el okay1 (check_arg (a := tr5) w7 (lt_one t5) rfl (by decide) (by decide) rfl) (by simp) (.inl (by decide)) fun m8 u8 => ?_
  have A8 := A7.to' w7 u8
  have w8 := u8.wf w7
  simp [f1]
  have te8 := (u7.trans u8).at te w6
  refine TS.seq (TS.gives E hB (.inl rfl) ?_)
  simp [f1, a2, a3, A8.c1, A8.c2]
  have um : Up m8 ((m8.rd q1).rd q2) := Up.same (by simp) fun c => by simp
  refine go_ok 18 (um.wf w8) (A8.el.up w8 um) (by decide) (by decide) (lt_one (by simpa using te8)) (by omega) (by omega) fun m9 p1 p2 p3 v' vl' b' u9' l1 l2 l3 hel hown hot d1 d2 d3 => ?_
  have u9 := um.trans u9'
  have A9 := A8.to' w8 u9
  have w9 := u9.wf w8
  have te9 := u9.at te8 w8
  simp only [Mem.next_rd] at l1 l2 l3
  simp [f1]
  refine (show ∀ (fx : Fr), fx.n = 199 → fx.d = [] → fx.at 7 = .slice (some ⟨ba1, 0, none⟩) 4096 4096 → fx.at 15 = .slice (some ⟨bc, 0, none⟩) 4096 4096 → fx.at 16 = .int .i64 0 → fx.at 18 = .int .i64 4 → fx.at 19 = .slice (some ⟨bd, 0, none⟩) 4096 4096 → fx.at 20 = .int .i64 0 → fx.at 22 = .int .i64 4 → fx.at 23 = .slice (some ⟨be, 0, none⟩) 1 1 → fx.at 25 = .int .i64 2 → fx.at 26 = goF p1 p2 p3 → TS B none _ () fx m9 _ from ?_) _ (by simp [f1]) (by simp [f2]) (by simp [a7]) (by simp [a15]) (by simp [a16]) (by simp [a18]) (by simp [a19]) (by simp [a20]) (by simp [a22]) (by simp) (by simp) (by simp)
  have u59 := u6.trans (u7.trans (u8.trans u9))
  have ha1 := u59.at ha1 w5
  clear f1 f2 a2 a3 a7 a15 a16 a18 a19 a20 a22 um u6 u7 u8 u9' A6 A7 A8 t5 lq2 te te8 w6 w7
  clear fg
  intro fr f1 f2 a7 a15 a16 a18 a19 a20 a22 a23 a25 a26
  refine TS.seq (TS.gives E hB (.inl rfl) ?_)
  simp [f1, a23, a25, a26, nil_goF, build_TT, yieldX, boolOf_bool]
  refine gives_build1T ?_
  obtain ⟨ma, hma⟩ : ∃ ma, ma = m9.nw ⟨flatT [trT], 3, false, false⟩ := ⟨_, rfl⟩
  have ua : Up m9 ma := by rw [hma]; exact Up.nw _ _
  have tt : ma.at m9.next = some ⟨flatT [trT], 3, false, false⟩ := by rw [hma]; simp
  have wa := ua.wf w9
  simp [f1, yieldX, boolOf_bool]
  rw [← hma]
  clear hma
  refine same_ne1 17 wa (lt_one (ua.at te9 w9)) (lt_one tt) rfl rfl same_ET fun mb ub => ?_
  have uab := ua.trans ub
  have wb := uab.wf w9
  simp [f1, yieldX, boolOf_bool]
  refine TS.seq (TS.gives E hB (.inl rfl) ?_)
  simp [f1]
  obtain ⟨q, hq⟩ : ∃ q, q = mb.next := ⟨_, rfl⟩
  refine storeQ_one (cs := [.int .i64 0]) (sz := 1) (gr := false) (by simp) (by simp) (by simp) (by simp) fun mc nc lc ec => ?_
  have uc : Up mb mc := Up.wr (m1 := mb.nw ⟨[.int .i64 0], 1, false, false⟩) (Up.nw _ _) (b := mb.next) (Nat.le_refl _) (by simp) nc ec
  have tq : mc.at q = some ⟨[.int .i64 0], 1, false, false⟩ := by rw [ec, hq, if_pos rfl]; rfl
  have nq : mc.next = q + 1 := by rw [nc, hq]; simp
  rw [← hq]
  clear ec lc nc
  have u9c := uab.trans uc
  have wc := u9c.wf w9
  have A_c := A9.to' w9 u9c
  have lb' := hot.lt.up w9 u9c
  have hel' := hel.up w9 u9c
  have lp1 := w9 p1 _ d1
  have lp2 := w9 p2 _ d2
  have lp3 := w9 p3 _ d3
  have d1 := u9c.at d1 w9
  have d2 := u9c.at d2 w9
  have d3 := u9c.at d3 w9
  have hac := u9c.at ha1 w9
  have n9q : m9.next ≤ q := by rw [hq]; exact uab.next
  have hvl : vl' = .slice (some ⟨b', 0, none⟩) 1 1 := hot.v
  have hb9 : b' < m9.next := hot.hi
  have U5c := u59.trans u9c
  simp [f1]
  refine TS.seq (TS.seq (TS.gives E hB (.inl rfl) ?_))
  simp [f1, a26]
  refine (show ∀ (fx : Fr), fx.n = 199 → fx.d = [] → fx.at 7 = .slice (some ⟨ba1, 0, none⟩) 4096 4096 → fx.at 15 = .slice (some ⟨bc, 0, none⟩) 4096 4096 → fx.at 16 = .int .i64 0 → fx.at 18 = .int .i64 4 → fx.at 19 = .slice (some ⟨bd, 0, none⟩) 4096 4096 → fx.at 20 = .int .i64 0 → fx.at 22 = .int .i64 4 → fx.at 27 = .pointer (some ⟨q, 0, none⟩) → fx.at 155 = goF p1 p2 p3 → TS B none _ () fx mc _ from ?_) _ (by simp [f1]) (by simp [f2]) (by simp [a7]) (by simp [a15]) (by simp [a16]) (by simp [a18]) (by simp [a19]) (by simp [a20]) (by simp [a22]) (by simp) (by simp)
  clear f1 f2 a7 a15 a16 a18 a19 a20 a22 a23 a25 a26
  clear fr
  intro fr f1 f2 a7 a15 a16 a18 a19 a20 a22 a27 a155
  obtain ⟨md, hmd⟩ : ∃ md, md = mc.nw markB := ⟨_, rfl⟩
  have ud : Up mc md := by rw [hmd]; exact Up.nw _ _
  have kd : md.at mc.next = some markB := by rw [hmd]; simp
  have nd : md.next = mc.next + 1 := by rw [hmd]; simp
  have wd := ud.wf wc
  have hac_d := ud.at hac wc
  refine TS.block (TS.range E hB (it := 21) (caps := [ptr p1, ptr p2, ptr p3]) (by simp [a155, goF]) Tryz.func21 rfl (Nat.le_of_ble_eq_true rfl) rfl fun l B2 ok2 hbs hty => ?_)
  rw [← hmd]
  have bsn : B2.bs.m.next = B.bs.m.next := by rw [hbs]
  have h59 := u59.next
  have h9c := u9c.next
  rw [← bsn]
  refine goes_ok ok2 (q := q) (es := [e1]) (ts := [trE]) (cap := 1) Tryz.func21 rfl wd (by rw [bsn]; omega) (ud.at d1 wc) (ud.at d2 wc) (ud.at d3 wc) (hel'.up wc ud) okay1 (lb'.up wc ud) rfl ⟨_, ud.at tq wc⟩ (by omega) (by omega) (by omega) (by omega) (fun b n k hv => by
    have := hown b n k hv
    rcases hel with ⟨h0, -⟩ | ⟨-, b2, gr, hv2, hat⟩
    · cases h0
    · rw [hv2] at hv
      have hbb : b2 = b := by injection hv with h1; injection h1 with h1; injection h1
      have := w9 b2 _ hat
      omega) ?_ ?_
  · intro mi vi ui Q' hq1
    refine hty () _ _ _ ?_
    refine gives_round2 (by simp [f1]) (by simp [f1]) ?_
    obtain ⟨fh, hfh⟩ : ∃ fh : Fr, fh = { fr with d := [] } := ⟨_, rfl⟩
    have h1 : fh.n = 199 := by rw [hfh]; exact f1
    have h27 : fh.at 27 = .pointer (some ⟨q, 0, none⟩) := by rw [hfh]; exact a27
    rw [← hfh]
    clear hfh
    simp [h1]
    intro B4 ok4 lk4
    have tqi := ui.at (ud.at tq wc) wd
    refine TS.gives E ok4 (.inr rfl) ?_
    simp [h1, h27, tqi, wr1]
    refine storeQ_one (cs := [.int .i64 0]) (sz := 1) (gr := false) (by simpa using tqi) (by simp) (by simp) (by simp) fun mj nj lj ej => ?_
    simp only [Mem.next_rd, Mem.at_rd] at nj ej
    simp
    exact hq1 mj ((UpX.of (Up.refl mi)).wr (.inl rfl) (by have := ui.next; omega) nj ej) (by rw [ej, if_pos rfl]; rfl)
  · intro m' ux hq1
    have hmk : m'.at mc.next = some markB := ux.at kd (by omega) wd
    have w' := ux.wf wd
    simp only [if_true, blockT_normal, seqT_normal]
    obtain ⟨fk, hfk⟩ : ∃ fk : Fr, fk = { fr with d := (mc.next, markV) :: fr.d } := ⟨_, rfl⟩
    have k1 : fk.n = 199 := by rw [hfk]; exact f1
    have k2 : fk.d = [(mc.next, markV)] := by rw [hfk, ← f2]
    have kk : ∀ t, fk.at t = fr.at t := fun t => by rw [hfk]; rfl
    rw [← hfk]
    clear hfk
    rw [← kk] at a7 a15 a16 a18 a19 a20 a22 a27
    refine TS.seq (TS.gives E hB (.inl rfl) ?_)
    simp [k1, a27, hq1]
    refine TS.gives E hB (.inl rfl) ((code_seq _ _ _ _ _).2 (region_hid fun ops hops => ?_))
    have y0 : ∀ fr, yieldX ops fr 0 = boolOf (fr.at 164) := fun fr => by rw [hops]; rfl
    have y4 : ∀ fr, yieldX ops fr 4 = boolOf (fr.at 168) := fun fr => by rw [hops]; rfl
    have y9 : ∀ fr, yieldX ops fr 9 = boolOf (fr.at 173) := fun fr => by rw [hops]; rfl
    have y13 : ∀ fr, yieldX ops fr 13 = boolOf (fr.at 177) := fun fr => by rw [hops]; rfl
    have y17 : ∀ fr, yieldX ops fr 17 = boolOf (fr.at 181) := fun fr => by rw [hops]; rfl
    have y22 : ∀ fr, yieldX ops fr 22 = boolOf (fr.at 186) := fun fr => by rw [hops]; rfl
    have y26 : ∀ fr, yieldX ops fr 26 = boolOf (fr.at 190) := fun fr => by rw [hops]; rfl
    have y31 : ∀ fr, yieldX ops fr 31 = boolOf (fr.at 195) := fun fr => by rw [hops]; rfl
    clear hops
    have lA : LT m' (.slice (some ⟨ba1, 0, none⟩) 4096 4096) ba1 4096 4096 LA := ⟨rfl, by rw [hla]; exact Nat.le_refl _, true, by
      have hlt := w9 ba1 _ ha1
      exact ux.at hac_d (by omega) wd⟩
    iterate 28 (refine (steps_cons _ _ _ _ _ _).2 ?_; simp [k1, a7, a15, a16, a18, a19, a20, a22, boolOf_bool, -steps_cons, y0, y4, y9, y13, y17, y22, y26, y31])
    refine (steps_cons _ _ _ _ _ _).2 ?_
    simp [k1, a7, a15, a16, a18, a19, a20, a22, boolOf_bool, -steps_cons, y0, y4, y9, y13, y17, y22, y26, y31]
    have ur : Up m' (m'.rd q) := Up.rd _ _
    refine left_ok (z := true) 19 (ur.wf w') (lA.up w' ur) (by omega) (fun i hi => ⟨trA 1, hga i hi, rfl⟩) fun mL uL => ?_
    have uL' := ur.trans uL
    have wL := uL'.wf w'
    simp [k1, a7, a15, a16, a18, a19, a20, a22, boolOf_bool, -steps_cons, y0, y4, y9, y13, y17, y22, y26, y31]
    iterate 3 (refine (steps_cons _ _ _ _ _ _).2 ?_; simp [k1, a7, a15, a16, a18, a19, a20, a22, boolOf_bool, -steps_cons, y0, y4, y9, y13, y17, y22, y26, y31])
    refine (steps_cons _ _ _ _ _ _).2 ?_
    simp [k1, a7, a15, a16, a18, a19, a20, a22, boolOf_bool, -steps_cons, y0, y4, y9, y13, y17, y22, y26, y31]
    refine sum_nil 19 ?_
    simp [k1, a7, a15, a16, a18, a19, a20, a22, boolOf_bool, -steps_cons, y0, y4, y9, y13, y17, y22, y26, y31]
    iterate 3 (refine (steps_cons _ _ _ _ _ _).2 ?_; simp [k1, a7, a15, a16, a18, a19, a20, a22, boolOf_bool, -steps_cons, y0, y4, y9, y13, y17, y22, y26, y31])
    have x1 := uL'.next
    have x2 := ux.next
    have x3 := U5c.next
    have x4 := u59.next
    refine finT_mark (b := mc.next) (x := markB) (by simp [k2]) (by rw [bsn]; omega) (uL'.at hmk w') (by omega) (.inr rfl) (resX_tmp1 ?_)
    simp [k1]
    refine hQ _ ⟨by simp; omega, fun x hx => ?_, fun _ x y hx => ?_⟩
    · simp [show x ≠ mc.next by omega]
      rw [uL'.old x (by omega), ux.old x (by omega) (by omega), ud.old x (by omega)]
      exact U5c.old x hx
    · by_cases hxk : x = mc.next
      · simp [hxk] at hx
      · simp [hxk] at hx
        simpa using wL x y hx
end
end Go.Proofs.YtjddmnfdnnbbhaaGreat

/- The law TracerNames in the clean executor, by triples: the third part. -/
namespace Go.Proofs.YtjddmnfdnnbbhaaGreat
open Go Go.RowKit Go.Clean
theorem c10' : Value.complex .f64 4607182418800017408 0 = cx (some 4607182418800017408, some 0) := by kernel_rfl
theorem ck_BX : known 18 [bxV (some 13839561654909534208, some 13839561654909534208) (some 4616189618054758400, some 4616189618054758400)] = some (M.ret (.int .i64 0)) := by kernel_rfl
noncomputable def c10C : Code := sR (sR (sR (sR (sR (sR (sR (sR (sR (bodyOf Tryz.f3)))))))))
section
set_option maxRecDepth 10000
set_option maxHeartbeats 8000000
theorem rest10_ok {B : Go.Clean.Start Tryz.prog Unit} (hB : B.OK) {m0 m5 : Mem} {q1 q2 bv ba1 ba9 : Nat} {t9 : Tr} {LA : List Tr} {fg : Fr} (hbm : B.bs.m.next ≤ m5.next) (w5 : MW m5) (A5 : AL m0 m5 q1 q2 (.slice (some ⟨bv, 0, none⟩) 1 1))
    (ha1 : m5.at ba1 = some ⟨flatT LA, 3, true, false⟩) (hla : LA.length = 4096) (hga : ∀ i, i < 4096 → LA[i]? = some (trA 1)) (ha9 : m5.at ba9 = some ⟨flatT [t9], 3, true, false⟩) (h9 : t9.w = 3)
    (f1 : fg.n = 199) (f2 : fg.d = []) (a2 : fg.at 2 = .pointer (some ⟨q1, 0, none⟩)) (a3 : fg.at 3 = .pointer (some ⟨q2, 0, none⟩)) (a6 : fg.at 6 = .int .i64 4) (a7 : fg.at 7 = .slice (some ⟨ba1, 0, none⟩) 4096 4096) (a8 : fg.at 8 = .int .i64 0) (a10 : fg.at 10 = .int .i64 2) (a11 : fg.at 11 = .slice (some ⟨ba9, 0, none⟩) 1 1) (a12 : fg.at 12 = .int .i64 0)
    {Q : Value → Mem → Prop} (hQ : ∀ m', Up m5 m' → Q (.bool true) m') : TS B none c10C () fg m5 (finT Tryz.prog B.bs.m.next Tryz.f3 fun _ => Q) := by
  have E := exec_ok 20
  show TS B none (.seq (.region _ _ _) _) () fg m5 _
  refine TS.seq (TS.gives E hB (.inl rfl) ?_)
  simp [f1]
  rw [c00, c10']
  refine rake_many 15 (by decide) (by decide) ?_
  simp [f1]
  refine TS.seq (TS.gives E hB (.inl rfl) ?_)
  simp [f1]
  refine rake_ok (n := 4096) 15 (by decide) (by decide) (by omega) (by omega) fun m6 bc u6 _ _ => ?_
  have A6 := A5.to' w5 u6
  have w6 := u6.wf w5
  simp [f1]
  refine TS.seq (TS.gives E hB (.inl rfl) ?_)
  simp [f1, a3, A6.c2]
  rw [boxV_eq]
  have um : Up m6 (m6.rd q2) := Up.rd _ _
  refine cloud_many (w := 64) (h := 65) 14 (.inl ⟨rfl, rfl⟩) ck_BX (by decide) (by decide) fun m7 u7' => ?_
  have u7 := um.trans u7'
  have A7 := A6.to' w6 u7
  have w7 := u7.wf w6
  simp [f1]
  refine TS.seq (TS.gives E hB (.inl rfl) ?_)
  simp [f1, a3, A7.c2]
  rw [boxV_eq]
  have um7 : Up m7 (m7.rd q2) := Up.rd _ _
  refine cloud_ok (w := 64) (h := 64) 14 Grid.b ck_BX (by decide) (by decide) fun m8 bd u8' _ _ => ?_
  have u8 := um7.trans u8'
  have A8 := A7.to' w7 u8
  have w8 := u8.wf w7
  simp [f1]
  refine TS.seq (TS.gives E hB (.inl rfl) ?_)
  simp [f1, a3, A8.c2]
  rw [boxV_eq]
  have um8 : Up m8 (m8.rd q2) := Up.rd _ _
  refine cloud_many (w := 4611686018427387904) (h := 4611686018427387904) 14 (.inr ⟨rfl, rfl⟩) ck_BX (by decide) (by decide) fun m9 u9' => ?_
  have u9 := um8.trans u9'
  have A9 := A8.to' w8 u9
  have w9 := u9.wf w8
  have u59 := u6.trans (u7.trans (u8.trans u9))
  have hbm9 : B.bs.m.next ≤ m9.next := Nat.le_trans hbm u59.next
  simp [f1]
  refine (show ∀ (fx : Fr), fx.n = 199 → fx.d = [] → fx.at 2 = .pointer (some ⟨q1, 0, none⟩) → fx.at 3 = .pointer (some ⟨q2, 0, none⟩) → fx.at 6 = .int .i64 4 → fx.at 7 = .slice (some ⟨ba1, 0, none⟩) 4096 4096 → fx.at 8 = .int .i64 0 → fx.at 10 = .int .i64 2 → fx.at 11 = .slice (some ⟨ba9, 0, none⟩) 1 1 → fx.at 12 = .int .i64 0 → fx.at 14 = .int .i64 2 → fx.at 15 = .slice (some ⟨bc, 0, none⟩) 4096 4096 → fx.at 16 = .int .i64 0 → fx.at 18 = .int .i64 4 → fx.at 19 = .slice (some ⟨bd, 0, none⟩) 4096 4096 → fx.at 20 = .int .i64 0 → fx.at 22 = .int .i64 4 → TS B none _ () fx m9 _ from ?_) _ (by simp [f1]) (by simp [f2]) (by simp [a2]) (by simp [a3]) (by simp [a6]) (by simp [a7]) (by simp [a8]) (by simp [a10]) (by simp [a11]) (by simp [a12]) (by simp) (by simp) (by simp) (by simp) (by simp) (by simp) (by simp)
  have ha1 := u59.at ha1 w5
  have ha9 := u59.at ha9 w5
  clear f1 f2 a2 a3 a6 a7 a8 a10 a11 a12 um um7 um8 u6 u7 u8 u9 u7' u8' u9' A6 A7 A8
  clear fg
  intro fr f1 f2 a2 a3 a6 a7 a8 a10 a11 a12 a14 a15 a16 a18 a19 a20 a22
  have xa := idx_T ba9 1 1 0 (by omega)
  simp only [Nat.zero_mul, Int.natCast_zero] at xa
  obtain ⟨L9, hL9⟩ : ∃ L, L = flatT [t9] := ⟨_, rfl⟩
  have tw : L9[2]? = some (.int .u8 3) := by
    rw [hL9]
    show some (Value.int .u8 t9.w) = _
    rw [h9]; rfl
  rw [← hL9] at ha9
  clear hL9
  refine TS.seq (TS.gives E hB (.inl rfl) ((code_seq _ _ _ _ _).2 (region_hid fun ops hops => ?_)))
  have y2 : ∀ fr, yieldX ops fr 2 = boolOf (fr.at 96) := fun fr => by rw [hops]; rfl
  have y6 : ∀ fr, yieldX ops fr 6 = boolOf (fr.at 100) := fun fr => by rw [hops]; rfl
  have y11 : ∀ fr, yieldX ops fr 11 = boolOf (fr.at 105) := fun fr => by rw [hops]; rfl
  have y15 : ∀ fr, yieldX ops fr 15 = boolOf (fr.at 109) := fun fr => by rw [hops]; rfl
  have y19 : ∀ fr, yieldX ops fr 19 = boolOf (fr.at 113) := fun fr => by rw [hops]; rfl
  have y24 : ∀ fr, yieldX ops fr 24 = boolOf (fr.at 118) := fun fr => by rw [hops]; rfl
  have y31 : ∀ fr, yieldX ops fr 31 = boolOf (fr.at 125) := fun fr => by rw [hops]; rfl
  clear hops
  iterate 35 (refine (steps_cons _ _ _ _ _ _).2 ?_; simp [f1, a6, a7, a8, a10, a11, a12, a14, xa, ha9, tw, boolOf_bool, -steps_cons, y2, y6, y11, y15, y19, y24, y31])
  refine (show ∀ (fx : Fr) (ma : Mem), Up m9 ma → fx.n = 199 → fx.d = [] → fx.at 2 = .pointer (some ⟨q1, 0, none⟩) → fx.at 3 = .pointer (some ⟨q2, 0, none⟩) → fx.at 7 = .slice (some ⟨ba1, 0, none⟩) 4096 4096 → fx.at 15 = .slice (some ⟨bc, 0, none⟩) 4096 4096 → fx.at 16 = .int .i64 0 → fx.at 18 = .int .i64 4 → fx.at 19 = .slice (some ⟨bd, 0, none⟩) 4096 4096 → fx.at 20 = .int .i64 0 → fx.at 22 = .int .i64 4 → TS B none _ () fx ma _ from ?_) _ _ (Up.same (by simp) fun c => by simp) (by simp [f1]) (by simp [f2]) (by simp [a2]) (by simp [a3]) (by simp [a7]) (by simp [a15]) (by simp [a16]) (by simp [a18]) (by simp [a19]) (by simp [a20]) (by simp [a22])
  intro fx ma ua f1 f2 a2 a3 a7 a15 a16 a18 a19 a20 a22
  exact rest17_ok hB (Nat.le_trans hbm9 ua.next) (ua.wf w9) (A9.to' w9 ua) (ua.at ha1 w9) hla hga f1 f2 a2 a3 a7 a15 a16 a18 a19 a20 a22 fun m' u' => hQ m' (u59.trans (ua.trans u'))
end
end Go.Proofs.YtjddmnfdnnbbhaaGreat

/- The law TracerNames in the clean executor, by triples: the second part. -/
namespace Go.Proofs.YtjddmnfdnnbbhaaGreat
open Go Go.RowKit Go.Clean
@[simp] theorem nd_slice {d : Option Tmp} {ty : TypeId} {pos : String} {af : Array Edge} {g : Option (Nat × Bool)} (t : TypeId) (x : Operand) (lo hi mx : Option Operand) : isDefer ⟨d, .slice t x lo hi mx, ty, pos, af, g⟩ = false := by cases d <;> rfl
theorem gives_sliceT_hi {m : Mem} {Q : Value → Mem → Prop} {b len cap k : Nat} {q : IntKind} {x : Blk} (hb : m.at b = some x) (hs : x.sz = 3) (hk : k ≤ cap) (h : Q (.slice (some ⟨b, 0, none⟩) k cap) (m.rd b)) :
    Gives (sliceX Tryz.prog 34 (.slice (some ⟨b, 0, none⟩) len cap) none (some (.int q k)) none) m Q := by
  unfold sliceX
  simp only [under_T, size_Tr]
  rw [gives_bind, gives_getB, hb, optQ_some, gives_bind, gives_guard]
  refine ⟨by rw [hs]; rfl, ?_⟩
  have e1 : boundX (some (Value.int q (k : Int))) len cap = some k := by
    show (bif decide (0 ≤ (k : Int) ∧ (k : Int) ≤ (cap : Int)) then some (Int.toNat (k : Int)) else none) = some k
    have : decide (0 ≤ (k : Int) ∧ (k : Int) ≤ (cap : Int)) = true := by simp; omega
    rw [this]; simp
  have e2 : boundX none 0 k = some 0 := rfl
  simp only [e1, e2, Nat.zero_mul, Nat.add_zero, Nat.sub_zero, beq_self_eq_true, Bool.or_true, Bool.true_or, cond_true]
  rw [gives_ret]
  cases hc : cap == 0 <;> exact h

theorem OT.lt' {m0 m : Mem} {v : Value} {b c : Nat} {a : Tr} (h : OT m0 m v b (List.replicate c a)) : ∃ L : List Tr, v = .slice (some ⟨b, 0, none⟩) c c ∧ m.at b = some ⟨flatT L, 3, true, false⟩ ∧ L.length = c ∧ ∀ i, i < c → L[i]? = some a :=
  ⟨_, by have := h.v; rw [List.length_replicate] at this; exact this, h.at_, by rw [List.length_replicate], fun i hi => by rw [List.getElem?_replicate, if_pos hi]⟩
noncomputable def c8C : Code := sR (sR (sR (sR (sR (sR (sR (bodyOf Tryz.f3))))))) 
section
set_option maxRecDepth 10000
set_option maxHeartbeats 8000000
theorem rest8_ok {B : Go.Clean.Start Tryz.prog Unit} (hB : B.OK) {m0 m5 : Mem} {q1 q2 bv bg ba1 : Nat} {BL : List Tr} {va1 : Value} {fg : Fr} (hbm : B.bs.m.next ≤ m5.next) (w5 : MW m5) (A5 : AL m0 m5 q1 q2 (.slice (some ⟨bv, 0, none⟩) 1 1)) (hbig : m5.at bg = some ⟨flatT BL, 3, false, false⟩) (hlen : BL.length = 4097) (hget : ∀ i, i < 4097 → BL[i]? = some tr0)
    (ha1 : ∃ L : List Tr, va1 = .slice (some ⟨ba1, 0, none⟩) 4096 4096 ∧ m5.at ba1 = some ⟨flatT L, 3, true, false⟩ ∧ L.length = 4096 ∧ ∀ i, i < 4096 → L[i]? = some (trA 1))
    (f1 : fg.n = 199) (f2 : fg.d = []) (a2 : fg.at 2 = .pointer (some ⟨q1, 0, none⟩)) (a3 : fg.at 3 = .pointer (some ⟨q2, 0, none⟩)) (a4 : fg.at 4 = .slice (some ⟨bg, 0, none⟩) 4097 4097) (a6 : fg.at 6 = .int .i64 4) (a7 : fg.at 7 = va1) (a8 : fg.at 8 = .int .i64 0)
    {Q : Value → Mem → Prop} (hQ : ∀ m', Up m5 m' → Q (.bool true) m') : TS B none c8C () fg m5 (finT Tryz.prog B.bs.m.next Tryz.f3 fun _ => Q) := by
  have E := exec_ok 20
  show TS B none (.seq (.region _ _ _) _) () fg m5 _
  refine TS.seq (TS.gives E hB (.inl rfl) ?_)
  refine code_draw_dyn (plan := [0, 0, 2, 0, 15, 31, 63, 63, 127, 511]) (by kernel_rfl) ?_
  simp [drawQ, apartAll, apartL, Nat.testBit, f1, a2, a4, A5.c1]
  refine gives_sliceT_hi (k := 1) (cap := 4097) (x := ⟨flatT BL, 3, false, false⟩) (by simpa using hbig) rfl (by omega) ?_
  simp [drawQ, apartAll, apartL, Nat.testBit, f1, a3, A5.c2]
  have um : Up m5 (m5.lg []) := Up.lg _ _
  have wm := um.wf w5
  have ltb : LT (m5.lg []) (.slice (some ⟨bg, 0, none⟩) 1 4097) bg 1 4097 BL := ⟨rfl, by rw [hlen]; omega, false, by simpa using hbig⟩
  refine run_no (n := 16385) (e := 0) 12 wm (A5.el.up w5 um) okay1 (check_ok wm ltb (by omega) fun i hi => ⟨tr0, hget i (by omega), mayA⟩) (by simp) (.inr (by omega)) fun m6 u6' => ?_
  have u6 := um.trans u6'
  simp [drawQ, apartAll, apartL, Nat.testBit, f1]
  refine (show ∀ (fx : Fr) (m9 : Mem), Up m5 m9 → fx.n = 199 → fx.d = [] → fx.at 2 = .pointer (some ⟨q1, 0, none⟩) → fx.at 3 = .pointer (some ⟨q2, 0, none⟩) → fx.at 4 = .slice (some ⟨bg, 0, none⟩) 4097 4097 → fx.at 6 = .int .i64 4 → fx.at 7 = va1 → fx.at 8 = .int .i64 0 → fx.at 10 = .int .i64 2 → TS B none _ () fx m9 _ from ?_) _ _ (u6.trans (Up.same (by simp) fun c => by simp)) (by simp [f1]) (by simp [f2]) (by simp [a2]) (by simp [a3]) (by simp [a4]) (by simp [a6]) (by simp [a7]) (by simp [a8]) (by simp)
  clear f1 f2 a2 a3 a4 a6 a7 a8 ltb wm um u6 u6' m6
  clear fg
  intro fg m9 u9 f1 f2 a2 a3 a4 a6 a7 a8 a10
  obtain ⟨LA, hva, hba, hla, hga⟩ := ha1
  have hba9 := u9.at hba w5
  have A9 := A5.to' w5 u9
  have w9 := u9.wf w5
  have hbig := u9.at hbig w5
  refine TS.seq (TS.drawM hB mix (n := 10) rfl rfl ?_)
  refine TA.pre (M0 := 0) (M1 := 15) (k := 6) (deps := [0, 0, 2, 0, 15, 31, 63, 63, 127, 511]) (by kernel_rfl) (fun mask fr m => fr.n = 199 ∧ fr.d = [] ∧ (∀ t, t < 60 → fr.at t = fg.at t) ∧ Up m9 m ∧
    (bitOn mask 0 → fr.at 61 = .agg ⟨[.slice (some ⟨bv, 0, none⟩) 1 1]⟩) ∧ (bitOn mask 1 → fr.at 62 = .slice (some ⟨bg, 0, none⟩) 4097 4097) ∧ (bitOn mask 2 → fr.at 63 = .slice (some ⟨bg, 0, none⟩) 1 4097) ∧ (bitOn mask 3 → fr.at 64 = ruV))
    ?_ ?_ 4 0 fg m9 (by kernel_rfl) (by omega) (by kernel_rfl) (by kernel_rfl) ⟨f1, f2, fun _ _ => rfl, Up.refl _, fun h => (bit0 h).elim, fun h => (bit0 h).elim, fun h => (bit0 h).elim, fun h => (bit0 h).elim⟩
  · rintro mask i fr m hno hdp hle ⟨h1, h2, hk, u, b0, b1, b2, b3⟩
    have hi := lt_of_pow (c := 4) hle (by decide)
    have w := u.wf w9
    have c1 := u.at A9.c1 w9
    have c2 := u.at A9.c2 w9
    have cg := u.at hbig w9
    have e2 := hk 2 (by omega)
    have e3 := hk 3 (by omega)
    have e4 := hk 4 (by omega)
    rw [a2] at e2
    rw [a3] at e3
    rw [a4] at e4
    obtain rfl | rfl | rfl | rfl : i = 0 ∨ i = 1 ∨ i = 2 ∨ i = 3 := by omega
    · refine T1.keep E hB rfl (.inl rfl) ?_
      simp [h1, e2, c1]
      exact ⟨h2, fun t ht => by rw [if_neg (by omega)]; exact hk t ht, u.trans (Up.rd _ _), fun hb => b1 (bon hb (by decide)), fun hb => b2 (bon hb (by decide)), fun hb => b3 (bon hb (by decide))⟩
    · refine T1.keep E hB rfl (.inl rfl) ?_
      simp [h1, e4]
      exact ⟨h2, fun t ht => by rw [if_neg (by omega)]; exact hk t ht, u, fun hb => b0 (bon hb (by decide)), fun hb => b2 (bon hb (by decide)), fun hb => b3 (bon hb (by decide))⟩
    · have hb1 : bitOn mask 1 := bdep hdp (by decide)
      refine T1.keep E hB rfl (.inl rfl) ?_
      simp [h1, b1 hb1]
      refine gives_sliceT_hi (k := 1) cg rfl (by omega) ?_
      simp [h1, b1 hb1]
      exact ⟨h2, fun t ht => by rw [if_neg (by omega)]; exact hk t ht, u.trans (Up.rd _ _), fun hb => b0 (bon hb (by decide)), fun hb => b3 (bon hb (by decide))⟩
    · refine T1.keep E hB rfl (.inl rfl) ?_
      simp [h1, e3, c2]
      exact ⟨h2, fun t ht => by rw [if_neg (by omega)]; exact hk t ht, u.trans (Up.rd _ _), fun hb => b0 (bon hb (by decide)), fun hb => b1 (bon hb (by decide)), fun hb => b2 (bon hb (by decide))⟩
  · rintro fr m6 ⟨h1, h2, hk, u, b0, b1, b2, b3⟩
    have b0 := b0 (by unfold bitOn; decide)
    have b2 := b2 (by unfold bitOn; decide)
    have b3 := b3 (by unfold bitOn; decide)
    clear b1
    have A6 := A9.to' w9 u
    have w6 := u.wf w9
    have cg6 := u.at hbig w9
    have lt6 : LT m6 (.slice (some ⟨bg, 0, none⟩) 1 4097) bg 1 4097 BL := ⟨rfl, by rw [hlen]; omega, false, cg6⟩
    refine TA.one (i := 4) (by kernel_rfl) (by kernel_rfl) ?_
    refine T1.tf hB rfl (vs := [.agg ⟨[.slice (some ⟨bv, 0, none⟩) 1 1]⟩, .slice (some ⟨bg, 0, none⟩) 1 4097, ruV, .int .i64 16384]) (by simp [b0, b2, b3]) (by simp [h1]) (run_ok (n := 16384) (tr := trA) w6 A6.el okay1 lt6 (fun i hi => hget i (by omega)) mayA (by omega) (by omega) (by omega) (byA 16384) fun m7 va ba ka hka hea u7 oa => ?_)
    have A7 := A6.to' w6 u7
    have w7 := u7.wf w6
    have cg7 := u7.at cg6 w6
    have hwk : (trA ka).w = 3 := by
      rcases hea with h | h
      · rw [h]; rfl
      · match ka, h with
        | 0, h => exact absurd rfl h
        | 1, h => exact absurd rfl h
        | 2, h => exact absurd rfl h
        | 3, h => exact absurd rfl h
        | 4, h => exact absurd rfl h
        | k + 5, _ => rfl
    have U7 := u.trans u7
    clear hka hea b0 b2 b3 lt6 u7
    refine TA.pre (M0 := 31) (M1 := 1023) (k := 0) (deps := [0, 0, 2, 0, 15, 31, 63, 63, 127, 511]) (by kernel_rfl) (fun mask fr m => fr.n = 199 ∧ fr.d = [] ∧ (∀ t, t < 60 ∧ t ≠ 11 ∧ t ≠ 12 → fr.at t = fg.at t) ∧ m = m7 ∧ (∀ j, j < 5 → bitOn mask j) ∧ fr.at 65 = .tuple ⟨[va, .int .i64 0]⟩ ∧
      (bitOn mask 5 → fr.at 60 = .tuple ⟨[va, .int .i64 0]⟩) ∧ (bitOn mask 6 → fr.at 66 = va) ∧ (bitOn mask 7 → fr.at 67 = .int .i64 0) ∧ (bitOn mask 8 → fr.at 11 = va) ∧ (bitOn mask 9 → fr.at 12 = .int .i64 0))
      ?_ ?_ 5 31 _ m7 (by kernel_rfl) (by omega) (by kernel_rfl) (by kernel_rfl) ⟨by simp [h1], by simp [h2], fun t ht => by simp [show ¬ t = 65 by omega]; exact hk t ht.1, rfl, ?_, by simp [h1], ?_, ?_, ?_, ?_, ?_⟩
    · rintro mask i fr m hno hdp hle ⟨h1, h2, hk, rfl, hb, c4, c5, c6, c7, c8, c9⟩
      have hi := lt_of_pow (c := 10) hle (by decide)
      have hi5 : ¬ i < 5 := fun h => by have := hb i h; unfold bitOn at this; rw [hno] at this; cases this
      have hb' : ∀ j, j < 5 → bitOn (mask ||| 2 ^ i) j := fun j hj => by
        have := hb j hj
        unfold bitOn at *
        rw [Nat.testBit_or, this]; rfl
      obtain rfl | rfl | rfl | rfl | rfl : i = 5 ∨ i = 6 ∨ i = 7 ∨ i = 8 ∨ i = 9 := by omega
      · refine T1.keep E hB rfl (.inl rfl) ?_
        simp [h1, c4]
        exact ⟨h2, fun t x1 x2 x3 => by rw [if_neg (by omega)]; exact hk t ⟨x1, x2, x3⟩, hb', fun hb => c6 (bon hb (by decide)), fun hb => c7 (bon hb (by decide)), fun hb => c8 (bon hb (by decide)), fun hb => c9 (bon hb (by decide))⟩
      · have g5 : bitOn mask 5 := bdep hdp (by decide)
        refine T1.keep E hB rfl (.inl rfl) ?_
        simp [h1, c5 g5, c4]
        exact ⟨h2, fun t x1 x2 x3 => by rw [if_neg (by omega)]; exact hk t ⟨x1, x2, x3⟩, hb', fun hb => c7 (bon hb (by decide)), fun hb => c8 (bon hb (by decide)), fun hb => c9 (bon hb (by decide))⟩
      · have g5 : bitOn mask 5 := bdep hdp (by decide)
        refine T1.keep E hB rfl (.inl rfl) ?_
        simp [h1, c5 g5, c4]
        exact ⟨h2, fun t x1 x2 x3 => by rw [if_neg (by omega)]; exact hk t ⟨x1, x2, x3⟩, hb', fun hb => c6 (bon hb (by decide)), fun hb => c8 (bon hb (by decide)), fun hb => c9 (bon hb (by decide))⟩
      · have g6 : bitOn mask 6 := bdep hdp (by decide)
        refine T1.keep E hB rfl (.inl rfl) ?_
        simp [h1, c6 g6, c4]
        exact ⟨h2, fun t x1 x2 x3 => by rw [if_neg (by omega)]; exact hk t ⟨x1, x2, x3⟩, hb', fun hb => c5 (bon hb (by decide)), fun hb => c7 (bon hb (by decide)), fun hb => c9 (bon hb (by decide))⟩
      · have g7 : bitOn mask 7 := bdep hdp (by decide)
        refine T1.keep E hB rfl (.inl rfl) ?_
        simp [h1, c7 g7, c4]
        exact ⟨h2, fun t x1 x2 x3 => by rw [if_neg (by omega)]; exact hk t ⟨x1, x2, x3⟩, hb', fun hb => c5 (bon hb (by decide)), fun hb => c6 (bon hb (by decide)), fun hb => c8 (bon hb (by decide))⟩
    · rintro fr m ⟨h1, h2, hk, rfl, hb, c4, c5, c6, c7, c8, c9⟩
      have c8 := c8 (by unfold bitOn; decide)
      have c9 := c9 (by unfold bitOn; decide)
      refine TA.done (by kernel_rfl) ?_
      simp only [seqT_normal]
      clear c4 c5 c6 c7 hb
      have e2 := hk 2 (by omega)
      have e3 := hk 3 (by omega)
      have e6 := hk 6 (by omega)
      have e7 := hk 7 (by omega)
      have e8 := hk 8 (by omega)
      have e10 := hk 10 (by omega)
      rw [a2] at e2
      rw [a3] at e3
      rw [a6] at e6
      rw [a7] at e7
      rw [a8] at e8
      rw [a10] at e10
      have e11 : fr.at 11 = .slice (some ⟨ba, 0, none⟩) 1 1 := by rw [c8]; exact oa.v
      have hba7 := U7.at hba9 w9
      exact rest10_ok hB (Nat.le_trans hbm (Nat.le_trans u9.next U7.next)) w7 A7 hba7 hla hga (show m.at ba = some ⟨flatT [trA ka], 3, true, false⟩ from oa.at_) hwk h1 h2 e2 e3 e6 (by rw [e7, hva]) e8 e10 e11 c9 fun m' u' => hQ m' (u9.trans (U7.trans u'))
    · intro j hj
      obtain rfl | rfl | rfl | rfl | rfl : j = 0 ∨ j = 1 ∨ j = 2 ∨ j = 3 ∨ j = 4 := by omega
      all_goals (unfold bitOn; decide)
    all_goals (intro h; unfold bitOn at h; exact absurd h (by decide))
end
end Go.Proofs.YtjddmnfdnnbbhaaGreat

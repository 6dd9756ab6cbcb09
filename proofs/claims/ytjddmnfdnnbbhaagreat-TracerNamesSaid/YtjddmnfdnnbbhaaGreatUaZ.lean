/- Tracers in the clean executor: tracer.Run where it says no; tracer.Go; tracer.Sum of nothing; the law's small helpers. -/
import Derived.Test.YtjddmnfdnnbbhaaGreatU9Z
import Derived.Test.YtjddmnfdnnbbhaaGreatTeZ
set_option linter.unusedSimpArgs false
set_option linter.unusedVariables false
namespace Go.Proofs.YtjddmnfdnnbbhaaGreat
open Go Go.RowKit Go.Clean
section
set_option maxRecDepth 10000
set_option maxHeartbeats 2000000
/-- What Run says no to. -/
theorem run_no (d : Nat) {m : Mem} {v vl : Value} {es : List El} {e : Int} {n : Nat} (hw : MW m) (hv : EL m v es) (he : Okay es) (hl : Chk vl m e) (ho : oneV vl = true) (hno : e ≠ 0 ∨ 16384 < n) {Q : Value → Mem → Prop}
    (hQ : ∀ m', Up m m' → Q (.tuple ⟨[nilL, .int .i64 (if e = 0 then 2 else e)]⟩) m') :
    Gives (callN Tryz.prog known (d + 8) 6 [.agg ⟨[v]⟩, vl, ruV, .int .i64 n]) m Q := by
  refine gives_fn (nt := 36) rfl Tryz.func6 rfl rfl rfl (Nat.le_of_ble_eq_true rfl) fun fr hn hd hargs => ?_
  have h0 : fr.at 0 = _ := hargs 0 _ rfl
  have h1 : fr.at 1 = _ := hargs 1 _ rfl
  have h2 : fr.at 2 = _ := hargs 2 _ rfl
  have h3 : fr.at 3 = _ := hargs 3 _ rfl
  clear hargs
  refine (code_seq _ _ _ _ _).2 ?_
  simp [h0, h1, h2, hn, hv.one, -code_seq]
  obtain ⟨m1, hm1⟩ : ∃ m1, m1 = (m.nw ⟨[v], 1, false, false⟩).nw ⟨ruL, 1, false, false⟩ := ⟨_, rfl⟩
  have u1 : Up m m1 := by rw [hm1]; exact (Up.nw _ _).trans (Up.nw _ _)
  have c1 : m1.at m.next = some ⟨[v], 1, false, false⟩ := by rw [hm1]; simp
  have c2 : m1.at (m.next + 1) = some ⟨ruL, 1, false, false⟩ := by rw [hm1]; simp
  rw [← hm1]
  simp [hn, h1, c1, c2]
  have u2 : Up m ((m1.rd m.next).rd (m.next + 1)) := u1.trans (Up.same (by simp) fun c => by simp)
  refine asked_ok _ (u2.wf hw) (hv.up hw u2) he (e := e) (fun d m3 u3 => hl d m3 (u2.trans u3)) ho fun m3 u3 => ?_
  have u3' := u2.trans u3
  by_cases h : e = 0
  · subst h
    have hn1 : (16384 : Int) < (n : Int) := by omega
    have hn0 : ¬ (n : Int) < 0 := by omega
    simp [hn, hd, h3, hn0, hn1, yieldX, boolOf_bool]
    exact hQ _ u3'
  · have := hQ m3 u3'
    rw [if_neg h] at this
    simp [hn, hd, h]
    exact this
theorem sum_nil (d : Nat) {m : Mem} {Q : Value → Mem → Prop} (hQ : Q (.int .u64 14695981039346656037) m) : Gives (callN Tryz.prog known (d + 1) 12 [nilL]) m Q := by
  refine gives_fn (nt := 39) rfl Tryz.func12 rfl rfl rfl (Nat.le_of_ble_eq_true rfl) fun fr hn hd hargs => ?_
  have h0 : fr.at 0 = .slice none 0 0 := hargs 0 _ rfl
  clear hargs
  simp [h0, hn, hd]
  refine code_loop_post (fun r m' => r.1 = .exit 0 ∧ r.2.n = 39 ∧ r.2.d = [] ∧ r.2.at 3 = .int .u64 14695981039346656037 ∧ m' = m) (fun k fr m' => k = 1 ∧ fr.n = 39 ∧ fr.d = [] ∧ fr.at 3 = .int .u64 14695981039346656037 ∧ fr.at 9 = .int .i64 0 ∧ fr.at 10 = .int .i64 0 ∧ m' = m) 1 (by omega) ⟨rfl, by simp [hn], by simp [hd], by simp, by simp, by simp, rfl⟩ ?_ ?_
  · rintro k f m2 ⟨rfl, f1, f2, f3, f4, f5, rfl⟩
    simp [f1, f2, f3, f4, f5]
  · rintro ⟨e, f⟩ m2 ⟨he, f1, f2, f3, rfl⟩
    obtain rfl : e = .exit 0 := he
    simp only at f1 f2 f3
    simp [f1, f2, f3]
    exact hQ
/-- What Go gives. -/
def goF (p1 p2 p3 : Nat) : Value := .func (.func 21) ⟨[]⟩ ⟨[ptr p1, ptr p2, ptr p3]⟩
theorem go_ok (d : Nat) {m : Mem} {v vl : Value} {es : List El} {bl c cap : Nat} {ts : List Tr} (hw : MW m) (hv : EL m v es) (he0 : 0 < es.length) (he1 : es.length ≤ 3) (hl : LT m vl bl c cap ts) (hc0 : 0 < c) (hc1 : c ≤ 4096) {Q : Value → Mem → Prop}
    (hQ : ∀ m' p1 p2 p3 v' vl' b', Up m m' → m.next ≤ p1 → m.next ≤ p2 → m.next ≤ p3 → EL m' v' es → (∀ b n k, v' = .slice (some ⟨b, 0, none⟩) n k → m.next ≤ b) → OT m m' vl' b' (ts.take c) → m'.at p1 = some ⟨[v'], 1, false, false⟩ → m'.at p2 = some ⟨[vl'], 1, false, false⟩ → m'.at p3 = some ⟨ruL, 1, false, false⟩ → Q (goF p1 p2 p3) m') :
    Gives (callN Tryz.prog known (d + 2) 9 [.agg ⟨[v]⟩, vl, ruV]) m Q := by
  refine gives_fn (nt := 14) rfl Tryz.func9 rfl rfl rfl (Nat.le_of_ble_eq_true rfl) fun fr hn hd hargs => ?_
  have h0 : fr.at 0 = _ := hargs 0 _ rfl
  have h1 : fr.at 1 = _ := hargs 1 _ rfl
  have h2 : fr.at 2 = _ := hargs 2 _ rfl
  clear hargs
  have ovl : oneV vl = true := by rw [hl.v]; simp
  have cvl : cellsV vl = [vl] := by rw [hl.v]; simp
  simp [h0, h1, h2, hn, hv.one, ovl, cvl]
  obtain ⟨q1, hq1⟩ : ∃ q1, q1 = m.next := ⟨_, rfl⟩
  obtain ⟨q2, hq2⟩ : ∃ q2, m.next + 1 = q2 := ⟨_, rfl⟩
  obtain ⟨q3, hq3⟩ : ∃ q3, q2 + 1 = q3 := ⟨_, rfl⟩
  simp only [hq2, hq3]
  obtain ⟨m1, hm1⟩ : ∃ m1, m1 = (((m.nw ⟨[v], 1, false, false⟩).nw ⟨[vl], 1, false, false⟩).nw ⟨ruL, 1, false, false⟩) := ⟨_, rfl⟩
  have u1 : Up m m1 := by rw [hm1]; exact (Up.nw _ _).trans ((Up.nw _ _).trans (Up.nw _ _))
  have n1 : m1.next = q3 + 1 := by rw [hm1, ← hq3, ← hq2]; simp
  have c1 : m1.at q1 = some ⟨[v], 1, false, false⟩ := by rw [hm1, hq1]; simp [show ¬ m.next = m.next + 1 + 1 by omega]
  have c2 : m1.at q2 = some ⟨[vl], 1, false, false⟩ := by rw [hm1, ← hq2]; simp
  have c3 : m1.at q3 = some ⟨ruL, 1, false, false⟩ := by rw [hm1, ← hq3, ← hq2]; simp
  rw [← hm1, ← hq1]
  clear hm1
  refine code_draw_dyn (plan := [0, 1, 3, 0, 15, 7, 63, 127]) (by kernel_rfl) ?_
  simp [drawQ, apartAll, apartL, Nat.testBit, hn, c1]
  rcases hv with ⟨rfl, -⟩ | ⟨hne, be, gr, rfl, hbe⟩
  · simp at he0
  have hbn := hw be _ hbe
  have hb1 : m1.at be = some ⟨flat es, 4, gr, false⟩ := u1.at hbe hw
  refine cloneE_at (b := be) (gr := gr) _ (by simpa using hb1) (by simp; omega) he0 he1 ?_
  simp [drawQ, apartAll, apartL, Nat.testBit, hn, c2, n1, show ¬ q2 = q3 + 1 + 1 by omega, show ¬ q2 = q3 + 1 by omega]
  obtain ⟨m2, hm2⟩ : ∃ m2, m2 = ((((((m1.lg []).nw ⟨[], 4, false, false⟩).rd be).rd (q3 + 1)).nw ⟨flat es, 4, true, false⟩).lg []) := ⟨_, rfl⟩
  have u2 : Up m1 m2 := by
    rw [hm2]
    exact (Up.lg _ _).trans ((Up.nw _ _).trans ((Up.rd _ _).trans ((Up.rd _ _).trans ((Up.nw _ _).trans (Up.lg _ _)))))
  have n2 : m2.next = q3 + 3 := by rw [hm2]; simp [n1]
  have d2 : m2.at (q3 + 1 + 1) = some ⟨flat es, 4, true, false⟩ := by rw [hm2]; simp [n1]
  rw [← hm2]
  clear hm2
  have U2 := u1.trans u2
  have w1 := u1.wf hw
  refine cloneT_ok _ (U2.wf hw) (hl.up hw U2) hc0 (by omega) fun m3 v3 b3 u3 o3 => ?_
  have U3 := U2.trans u3
  have e1 := (u2.trans u3).at c1 w1
  have e2 := (u2.trans u3).at c2 w1
  have e3 := (u2.trans u3).at c3 w1
  have d3 := u3.at d2 (U2.wf hw)
  have n3 := u3.next
  have o3l := o3.lo
  have o3h := o3.hi
  have v3c : cellsV v3 = [v3] ∧ oneV v3 = true := by rw [o3.v]; simp
  simp [drawQ, apartAll, apartL, Nat.testBit, hn]
  refine storeQ_one (cs := [.slice (some ⟨be, 0, none⟩) es.length es.length]) (sz := 1) (gr := false) (by simpa using e1) (by unfold storeOK; rw [size_Els]; simp) (by simp) (by simp) fun m4 n4 l4 e4 => ?_
  simp only [Mem.next_lg, Mem.at_lg] at n4 e4
  have u4 : Up m m4 := U3.wr (b := q1) (by omega) (by omega) n4 e4
  have p1 : m4.at q1 = some ⟨[.slice (some ⟨q3 + 1 + 1, 0, none⟩) es.length es.length], 1, false, false⟩ := by rw [e4, if_pos rfl]; rfl
  have p2 : m4.at q2 = some ⟨[vl], 1, false, false⟩ := by rw [e4, if_neg (by omega)]; exact e2
  have p3 : m4.at q3 = some ⟨ruL, 1, false, false⟩ := by rw [e4, if_neg (by omega)]; exact e3
  have p4 : m4.at (q3 + 1 + 1) = some ⟨flat es, 4, true, false⟩ := by rw [e4, if_neg (by omega)]; exact d3
  have p5 : m4.at b3 = some ⟨flatT (ts.take c), 3, true, false⟩ := by rw [e4, if_neg (by omega)]; exact o3.at_
  clear e4 l4 e1 e2 e3 d3
  simp [drawQ, apartAll, apartL, Nat.testBit, hn]
  refine storeQ_one (cs := [vl]) (sz := 1) (gr := false) (by simpa using p2) (by simp [v3c]) v3c.1 (by simp) fun m5 n5 l5 e5 => ?_
  simp only [Mem.next_lg, Mem.at_lg] at n5 e5
  have u5 : Up m m5 := u4.wr (b := q2) (by omega) (by omega) n5 e5
  have r1 : m5.at q1 = some ⟨[.slice (some ⟨q3 + 1 + 1, 0, none⟩) es.length es.length], 1, false, false⟩ := by rw [e5, if_neg (by omega)]; exact p1
  have r2 : m5.at q2 = some ⟨[v3], 1, false, false⟩ := by rw [e5, if_pos rfl]; rfl
  have r3 : m5.at q3 = some ⟨ruL, 1, false, false⟩ := by rw [e5, if_neg (by omega)]; exact p3
  have r4 : m5.at (q3 + 1 + 1) = some ⟨flat es, 4, true, false⟩ := by rw [e5, if_neg (by omega)]; exact p4
  have r5 : m5.at b3 = some ⟨flatT (ts.take c), 3, true, false⟩ := by rw [e5, if_neg (by omega)]; exact p5
  clear e5 l5
  simp [drawQ, apartAll, apartL, Nat.testBit, hn, hd]
  refine hQ _ q1 q2 q3 (.slice (some ⟨q3 + 1 + 1, 0, none⟩) es.length es.length) v3 b3 (u5.trans (Up.lg _ _)) (by omega) (by omega) (by omega) (.inr ⟨hne, _, _, rfl, by simpa using r4⟩) (fun b n k hv => by
    injection hv with h1; injection h1 with h1; injection h1 with h1; omega) ⟨o3.v, by omega, by simp; omega, by simpa using r5⟩ (by simpa using r1) (by simpa using r2) (by simpa using r3)
end
end Go.Proofs.YtjddmnfdnnbbhaaGreat

/- Tracers in the clean executor: what tracer.Go goes through. -/
namespace Go.Clean
open Go Go.RowKit
theorem resX_none {P : Program} {fr : Fr} {m : Mem} {Q : Value → Mem → Prop} (h : Q (.tuple ⟨[]⟩) m) : Gives (do
    let vs ← resX P fr []
    match vs with
    | [v] => M.ret v
    | vs => M.ret (Value.tuple ⟨vs⟩)) m Q := by
  rw [gives_bind]
  unfold resX
  exact (gives_ret _ _ _).2 ((gives_ret _ _ _).2 h)
end Go.Clean
namespace Go.Proofs.YtjddmnfdnnbbhaaGreat
open Go Go.RowKit Go.Clean
@[simp] theorem one_yield (l : Nat) : oneV (yieldV l) = true := rfl
@[simp] theorem cells_yield (l : Nat) : cellsV (yieldV l) = [yieldV l] := rfl
@[simp] theorem elt_Y : elemT Tryz.prog 59 = 1 := by kernel_rfl
@[simp] theorem agg_Y : Clean.isAgg Tryz.prog 59 = some false := by kernel_rfl
@[simp] theorem ld_Y (cs : List Value) (o : Nat) : ldX Tryz.prog 59 cs o = cs[o]? := ld_one agg_Y cs o
/-- A tracer that has ended. -/
def trE : Tr := ⟨(some 0, some 0), some 0, 2⟩
theorem trE_may : trE.May := ⟨by decide, by decide, by decide⟩
section
set_option maxRecDepth 10000
set_option maxHeartbeats 4000000
theorem goes_ok {B : Go.Clean.Start Tryz.prog (Bool × Unit)} (hB : B.OK) {m0 : Mem} {v vl : Value} {es : List El} {p1 p2 p3 q l bl cap : Nat} {ts : List Tr} {cd : Code} {fn : Func} (hfn : Tryz.prog.funcs[21]? = some fn) (hcd : fn.body = some cd)
    (hw : MW m0) (hbs : B.bs.m.next ≤ m0.next) (b1 : m0.at p1 = some ⟨[v], 1, false, false⟩) (b2 : m0.at p2 = some ⟨[vl], 1, false, false⟩) (b3 : m0.at p3 = some ⟨ruL, 1, false, false⟩) (hel : EL m0 v es) (he : Okay es) (hlt : LT m0 vl bl 1 cap ts) (hts : ts[0]? = some trE)
    (hq : ∃ x, m0.at q = some ⟨[x], 1, false, false⟩) (x1 : p1 ≠ q) (x2 : p2 ≠ q) (x3 : p3 ≠ q) (xl : bl ≠ q) (xe : ∀ b n k, v = .slice (some ⟨b, 0, none⟩) n k → b ≠ q)
    (hY : ∀ mi v', Up m0 mi → ∀ Q' : Bool → Bool × Unit → Mem → Prop, (∀ m', UpX (· = q) mi m' → m'.at q = some ⟨[.int .i64 1], 1, false, false⟩ → Q' true (true, ()) m') → TY B l [.int .i64 0, v'] (true, ()) mi Q')
    {F : Bool × Unit → Mem → Prop} (hF : ∀ m', UpX (· = q) m0 m' → m'.at q = some ⟨[.int .i64 1], 1, false, false⟩ → F (true, ()) m') :
    TS B none cd (true, ()) ⟨putArgs (yieldV l :: [ptr p1, ptr p2, ptr p3]) 0 .leaf, fn.ntmps, []⟩ m0 (finT Tryz.prog B.bs.m.next fn fun t _ m' => F t m') := by
  obtain rfl : Tryz.f21 = fn := by
    have := Tryz.func21
    rw [this] at hfn
    exact Option.some.inj hfn
  have hcd' : Tryz.f21.body = some (bodyOf Tryz.f21) := rfl
  rw [hcd'] at hcd
  obtain rfl := Option.some.inj hcd
  generalize hfr : (⟨putArgs (yieldV l :: [ptr p1, ptr p2, ptr p3]) 0 .leaf, (Tryz.f21).ntmps, []⟩ : Fr) = fr
  have f1 : fr.n = 32 := by rw [← hfr]; exact Tryz.ntmps21
  have f2 : fr.d = [] := by rw [← hfr]
  have a0 : fr.at 0 = yieldV l := by rw [← hfr]; exact at_put rfl
  have a1 : fr.at 1 = ptr p1 := by rw [← hfr]; exact at_put rfl
  have a2 : fr.at 2 = ptr p2 := by rw [← hfr]; exact at_put rfl
  have a3 : fr.at 3 = ptr p3 := by rw [← hfr]; exact at_put rfl
  clear hfr
  have E := exec_ok 20
  refine TS.seq (TS.gives E hB (.inl rfl) ?_)
  simp [f1, a0]
  obtain ⟨pb, hpb⟩ : ∃ pb, pb = m0.next := ⟨_, rfl⟩
  obtain ⟨m1, hm1⟩ : ∃ m1, m1 = m0.nw ⟨[yieldV l], 1, false, false⟩ := ⟨_, rfl⟩
  have u1 : Up m0 m1 := by rw [hm1]; exact Up.nw _ _
  have cb1 : m1.at pb = some ⟨[yieldV l], 1, false, false⟩ := by rw [hm1, hpb]; simp
  have nb1 : pb < m1.next := by rw [hm1, hpb]; simp
  rw [← hm1, ← hpb]
  have w1 := u1.wf hw
  have c1 := u1.at b1 hw
  have c2 := u1.at b2 hw
  have c3 := u1.at b3 hw
  obtain ⟨xq, hxq⟩ := hq
  have hqn : q < m0.next := hw q _ hxq
  have ovl : oneV vl = true := by rw [hlt.v]; simp
  have cvl : cellsV vl = [vl] := by rw [hlt.v]; simp
  have hcell : ∀ i, i < 1 → ts[i]? = some trE := fun i hi => (show i = 0 by omega) ▸ hts
  have hchk := check_ok (m := m0) hw hlt (by omega) fun i hi => ⟨trE, hcell i hi, trE_may⟩
  refine TS.seq (TS.gives E hB (.inl rfl) ?_)
  simp [f1, a1, a2, a3, ptr, c1, c2, c3]
  have u2 : Up m0 (((m1.rd p1).rd p2).rd p3) := u1.trans (Up.same (by simp) fun c => by simp)
  have w2 := u2.wf hw
  refine asked_ok _ w2 (hel.up hw u2) he (e := 0) (fun d m3 u3 => hchk d m3 (u2.trans u3)) ovl fun m3 u3 => ?_
  have u13 : Up m1 m3 := Up.trans (Up.same (by simp) fun c => by simp) u3
  have U3 := u2.trans u3
  have w3 := U3.wf hw
  have d1 := U3.at b1 hw
  have d2 := U3.at b2 hw
  have d3 := U3.at b3 hw
  have db := u13.at cb1 w1
  simp [f1]
  refine TS.seq (TS.gives E hB (.inl rfl) ?_)
  simp [f1, a1, a2, a3, ptr, d1, d2, d3]
  have u4 : Up m3 ((((m3.rd p1).rd p2).rd p3).rd p3) := Up.same (by simp) fun c => by simp
  refine mkSteps_ok (n := 3) _ hel.one ovl cvl fun m6 r1 r2 r3 r4 u6 l1 l2 l3 l4 q1 q2 q3 q4 => ?_
  simp only [Mem.next_rd] at l1 l2 l3 l4
  have u36 := u4.trans u6
  have w6 := u36.wf w3
  have U6 := U3.trans u36
  have db6 := u36.at db w3
  simp [f1]
  obtain ⟨m7, hm7⟩ : ∃ m7, m7 = m6.nw markB := ⟨_, rfl⟩
  have u7 : Up m6 m7 := by rw [hm7]; exact Up.nw _ _
  have k7 : m7.at m6.next = some markB := by rw [hm7]; simp
  have n7 : m7.next = m6.next + 1 := by rw [hm7]; simp
  have w7 := u7.wf w6
  have U7 := U6.trans u7
  have db7 := u7.at db6 w6
  have n03 : m0.next ≤ m3.next := U3.next
  have n36 : m3.next ≤ m6.next := u36.next
  have IT7 : IT (· = q) m7 v es r1 r2 r3 r4 vl bl 1 cap ts 3 := ⟨w7, fun x hx => by omega, u7.at q1 w6, u7.at q2 w6, u7.at q3 w6, u7.at q4 w6, hlt.up hw U7, hel.up hw U7, by omega, by omega, by omega, by omega, xe⟩
  refine (show ∀ fg : Fr, fg.n = 32 → fg.d = [] → fg.at 4 = .pointer (some ⟨pb, 0, none⟩) → fg.at 18 = itF r1 r2 r3 r4 → TS B none _ (true, ()) fg m6 _ from ?_) _ (by simp [f1]) (by simp [f2]) (by simp) (by simp)
  clear f1 f2 a0 a1 a2 a3
  intro fg f1 f2 f4 f18
  refine TS.block (TS.range E hB (it := 30) (caps := [ptr r1, ptr r2, ptr r3, ptr r4]) (by simp [f18, itF]) Tryz.func30 rfl (Nat.le_of_ble_eq_true rfl) rfl fun l2 B3 ok3 hbs3 hty => ?_)
  rw [← hm7]
  have xqb : ¬ pb = q := by omega
  refine steps_ok ok3 Tryz.func30 rfl IT7 (tr := fun _ => trE) hcell (by omega) (by omega) (by omega) ⟨fun k hk h0 => by cases h0⟩ (fun k s m => k = 0 ∧ s = (true, ()) ∧ Up m7 m) (fun s m => s = (true, ()) ∧ m.at q = some ⟨[.int .i64 1], 1, false, false⟩) (fun m1 u => ⟨rfl, rfl, u⟩) ?_ ?_ ?_
  · rintro k s1 mi v' b' hk ⟨rfl, rfl, ui⟩ U o Q' hq1 hq2
    refine hty _ _ _ _ ?_
    refine gives_round2 (by simp [f1]) (by simp [f1]) ?_
    obtain ⟨fh, hfh⟩ : ∃ fh : Fr, fh = { fg with d := [] } := ⟨_, rfl⟩
    have h1 : fh.n = 32 := by rw [hfh]; exact f1
    have h2 : fh.d = [] := by rw [hfh]
    have h4 : fh.at 4 = .pointer (some ⟨pb, 0, none⟩) := by rw [hfh]; exact f4
    rw [← hfh]
    clear hfh
    simp [h1]
    intro B4 ok4 lk4
    have o1 := o.lt
    simp only [List.length_replicate] at o1
    have wi := U.wf w7
    refine TS.block (TS.seq (TS.gives E ok4 (.inr rfl) ?_))
    simp [h1]
    refine left_ok (z := false) _ wi o1 (by omega) (fun i hi => ⟨trE, (show i = 0 by omega) ▸ rfl, rfl⟩) fun m8 u8 => ?_
    have w8 := u8.wf wi
    have cb8 : m8.at pb = some ⟨[yieldV l], 1, false, false⟩ := u8.at (U.at db7 xqb w7) wi
    simp [h1]
    have u78 : Up m7 m8 := ui.trans u8
    refine TS.seq (TS.region ?_)
    refine TO.step E ok4 (.inr rfl) ?_
    simp [h1, h4, cb8]
    refine TO.step E ok4 (.inr rfl) ?_
    simp [h1]
    refine TO.step E ok4 (.inr rfl) ?_
    simp [h1]
    refine TO.yield ok4 lk4 (ly := l) (vs := [.int .i64 0, v']) (by simp) (by simp) (by simp [h1]) ?_
    refine hY _ v' (U7.trans (u78.trans (Up.rd _ _))) _ fun m9 u9 q9 => ?_
    refine TO.gives E ok4 (.inr rfl) ?_
    simp [h1, yieldX, boolOf_bool]
    refine TS.cond (b := true) (by simp [h1]) ?_
    simp only [if_true]
    refine TS.ret ?_
    simp
    exact hq2 (true, ()) m9 ((UpX.of (u8.trans (Up.rd _ _))).trans u9) ⟨rfl, q9⟩
  · rintro k s' m' hk hend ⟨hk1, -⟩
    omega
  · rintro s' m' ⟨rfl, hq1⟩ U
    obtain ⟨fk, hfk⟩ : ∃ fk : Fr, fk = { fg with d := (m6.next, markV) :: fg.d } := ⟨_, rfl⟩
    have h2 : fk.d = [(m6.next, markV)] := by rw [hfk, ← f2]
    rw [← hfk]
    clear hfk
    have hmk : m'.at m6.next = some markB := U.at k7 (by omega) w7
    have hmn : m6.next < m'.next := by have := U.next; omega
    have w' := U.wf w7
    simp
    refine finT_mark (b := m6.next) (x := markB) h2 (by omega) hmk hmn (.inr rfl) (resX_none ?_)
    refine hF _ ⟨by simp; omega, fun x hx hxq => ?_, fun _ x y hx => ?_⟩ (by simp [show q ≠ m6.next by omega, hq1])
    · simp [show x ≠ m6.next by omega]
      exact (U.old x (by omega) hxq).trans (U7.old x hx)
    · by_cases hxk : x = m6.next
      · simp [hxk] at hx
      · simp [hxk] at hx
        simpa using w' x y hx
end
end Go.Proofs.YtjddmnfdnnbbhaaGreat

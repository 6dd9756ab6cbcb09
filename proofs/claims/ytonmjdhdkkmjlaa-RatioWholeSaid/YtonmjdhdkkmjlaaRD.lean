/- Fractions in the clean executor: products, turned ones. -/
import Derived.Test.YtonmjdhdkkmjlaaRC
namespace Go.Proofs.Ytonmjdhdkkmjlaa
open Go.Clean

section
set_option maxRecDepth 10000
theorem rmul_ok (d : Nat) {m : Mem} {va vb vc vd : Value} {n k p q : Nat} {a b c e : PG} (hw : MW m) (hf : FQ m va vb n k a b) (hg : FQ m vc vd p q c e) {Q : Value → Mem → Prop}
    (hQ : ∀ m' vt vu nt nu, Up m m' → nt ≤ 7 → RP m' vt nt (cv a c n) → nu ≤ 7 → RP m' vu nu (cv b e k) → Q (.tuple ⟨[frV vt vu, .int .i64 0]⟩) m') :
    Gives (callN Try.prog known (d + 12) 25 [frV va vb, frV vc vd]) m Q := by
  refine gives_fnD (nt := 29) rfl Try.func25 rfl rfl rfl (Nat.le_of_ble_eq_true rfl) fun fr hn hd hargs => ?_
  have h0 : fr.at 0 = _ := hargs 0 _ rfl
  have h1 : fr.at 1 = _ := hargs 1 _ rfl
  clear hargs
  have oa := hf.top.pl.one'
  have ob := hf.bot.pl.one'
  have oc := hg.top.pl.one'
  have od := hg.bot.pl.one'
  have t1 := hf.tn
  have t2 := hf.bk
  have t3 := hg.tn
  have t4 := hg.bk
  simp [h0, h1, hn, oa, ob, oc, od]
  obtain ⟨m0, hm0⟩ : ∃ x : Mem, x = (((((m.nw ⟨[va, vb], 1, false, false⟩).nw ⟨[vc, vd], 1, false, false⟩).nw ⟨[nilL, nilL], 1, false, false⟩).nw ⟨[.int .i64 0], 1, false, false⟩).nw ⟨[.int .i64 0], 1, false, false⟩) := ⟨_, rfl⟩
  rw [← hm0]
  obtain ⟨bw, hbw⟩ : ∃ x, x = m.next + 1 + 1 + 1 + 1 := ⟨_, rfl⟩
  rw [← hbw]
  obtain ⟨be, hbe⟩ : ∃ x, x = m.next + 1 + 1 + 1 := ⟨_, rfl⟩
  rw [← hbe]
  obtain ⟨bo, hbo⟩ : ∃ x, x = m.next + 1 + 1 := ⟨_, rfl⟩
  rw [← hbo]
  obtain ⟨bg, hbg⟩ : ∃ x, x = m.next + 1 := ⟨_, rfl⟩
  rw [← hbg]
  obtain ⟨bf, hbf⟩ : ∃ x, x = m.next := ⟨_, rfl⟩
  rw [← hbf]
  have u0 : Up m m0 := by
    rw [hm0]
    exact (Up.nw _ _).trans ((Up.nw _ _).trans ((Up.nw _ _).trans ((Up.nw _ _).trans (Up.nw _ _))))
  have n0 : m0.next = m.next + 5 := by rw [hm0]; simp
  have f0 : m0.at bf = some ⟨[va, vb], 1, false, false⟩ := by rw [hm0, hbf]; simp [Nat.add_assoc]
  have f1 : m0.at bg = some ⟨[vc, vd], 1, false, false⟩ := by rw [hm0, hbg]; simp [Nat.add_assoc]
  have f2 : m0.at bo = some ⟨[nilL, nilL], 1, false, false⟩ := by rw [hm0, hbo]; simp [Nat.add_assoc]
  have f3 : m0.at be = some ⟨[.int .i64 0], 1, false, false⟩ := by rw [hm0, hbe]; simp [Nat.add_assoc]
  have f4 : m0.at bw = some ⟨[.int .i64 0], 1, false, false⟩ := by rw [hm0, hbw]; simp [Nat.add_assoc]
  have w0 := u0.wf hw
  clear hm0
  refine Clean.step_defer (deferX_tmp (t := 8) (f := 60) (first := []) (cap := [.pointer (some ⟨bw, 0, none⟩), .pointer (some ⟨bo, 0, none⟩), .pointer (some ⟨be, 0, none⟩)]) (by simp)) ?_
  simp [hn, f0, f1]
  have r0 : Up m0 ((m0.rd bf).rd bg) := (Up.rd _ _).trans (Up.rd _ _)
  have hf0 := hf.up hw u0
  have hg0 := hg.up hw u0
  refine rchecks_ok _ (r0.wf w0) (hf0.top.up w0 r0) (hf0.bot.up w0 r0) hf.b0 (hg0.top.up w0 r0) (hg0.bot.up w0 r0) hg.b0 fun m1 u1 => ?_
  have U1 := r0.trans u1
  have w1 := U1.wf w0
  have n1 := U1.next
  have g0 := U1.at f0 w0
  have g1 := U1.at f1 w0
  have g2 := U1.at f2 w0
  have g3 := U1.at f3 w0
  have g4 := U1.at f4 w0
  simp [hn]
  have S4 : RS m m1 bo be bw nilL nilL := ⟨u0.trans U1, by omega, by omega, by omega, by omega, by omega, by omega, g2, g3, g4⟩
  have w1' := w1
  have r1 : Up m1 ((m1.rd bf).rd bg) := (Up.rd _ _).trans (Up.rd _ _)
  simp [hn, g0, g1]
  have S5' := S4.next hw r1
  refine wmul_ok d (S5'.up.wf hw) S5'.at_w (hf.top.up hw S5'.up) (hg.top.up hw S5'.up) (by omega) (a4_small hf.ta) (a4_small hg.ta) (aa_far hf.ta hg.ta) fun m5 v3 k3 u5 l3 p3 _ => ?_
  have S5 := S5'.next hw u5
  simp [hn]
  refine storeQ_one (cs := [nilL, nilL]) (sz := 1) (gr := false) S5.at_o (by simp [p3.pl.cells, p3.pl.one']) p3.pl.cells (by simp) fun m6 n6 _ e6 => ?_
  simp only [List.set_cons_zero] at e6
  have S6 := S5.put hw n6 e6
  have p6 : RP m6 v3 k3 _ := p3.beside S5.at_o (isSl2 trivial trivial) fun c hc => by rw [e6, if_neg hc]
  have g0 : m6.at bf = some ⟨[va, vb], 1, false, false⟩ := by rw [e6, if_neg (by omega)]; exact (r1.trans u5).at g0 w1'
  have g1 : m6.at bg = some ⟨[vc, vd], 1, false, false⟩ := by rw [e6, if_neg (by omega)]; exact (r1.trans u5).at g1 w1'
  simp [hn, g0, g1]
  have r6 : Up m6 ((m6.rd bf).rd bg) := (Up.rd _ _).trans (Up.rd _ _)
  have S7 := S6.next hw r6
  have w6 := S6.up.wf hw
  have w7 := S7.up.wf hw
  refine wmul_ok d w7 S7.at_w (hf.bot.up hw S7.up) (hg.bot.up hw S7.up) (by omega) (a4_small hf.tb) (a4_small hg.tb) (aa_far hf.tb hg.tb) fun m8 v4 k4 u8 l4 p4 _ => ?_
  have S8 := S7.next hw u8
  have p8 := (p6.up w6 r6).up w7 u8
  simp [hn]
  refine storeQ_one (cs := [v3, nilL]) (sz := 1) (gr := false) S8.at_o (by simp [p4.pl.cells, p4.pl.one']) p4.pl.cells (by simp) fun m9 n9 _ e9 => ?_
  simp only [List.set_cons_zero, List.set_cons_succ] at e9
  have S9 := S8.put hw n9 e9
  have q3 : RP m9 v3 k3 _ := p8.beside S8.at_o (isSl2 p3.pl.isSl trivial) fun c hc => by rw [e9, if_neg hc]
  have q4 : RP m9 v4 k4 _ := p4.beside S8.at_o (isSl2 p3.pl.isSl trivial) fun c hc => by rw [e9, if_neg hc]
  simp [hn, S9.at_o]
  have r9 : Up m9 (m9.rd bo) := Up.rd _ _
  have S10 := S9.next hw r9
  have w9 := S9.up.wf hw
  refine storeQ_rule S10.at_o rfl (by rw [sto_F]; simp [p3.pl.one', p4.pl.one']) (l := [v3, v4]) (by simp [lay]) fun m10 n10 _ e10 => ?_
  have S11 := S10.put hw n10 e10
  have k3' := (q3.up w9 r9).beside S10.at_o (isSl2 p3.pl.isSl p4.pl.isSl) fun c hc => show m10.at c = _ by rw [e10, if_neg hc]
  have k4' := (q4.up w9 r9).beside S10.at_o (isSl2 p3.pl.isSl p4.pl.isSl) fun c hc => show m10.at c = _ by rw [e10, if_neg hc]
  simp [hn]
  refine storeQ_one (cs := [.int .i64 0]) (sz := 1) (gr := false) S11.at_e (by simp) rfl (by simp) fun m11 n11 _ e11 => ?_
  simp only [List.set_cons_zero] at e11
  have S12 := S11.pute hw n11 e11
  have j3 := k3'.beside S11.at_e (isSl1 trivial) fun c hc => show m11.at c = _ by rw [e11, if_neg hc]
  have j4 := k4'.beside S11.at_e (isSl1 trivial) fun c hc => show m11.at c = _ by rw [e11, if_neg hc]
  simp [hn]
  obtain ⟨hk4, hb4⟩ := cv_len hf.bot.ok.pos hg.bot.ok.pos hg.bot.ends hf.b0 hg.b0 q4.ends l4
  refine fnD_ret (by simp [hd]) rfl (ddef_mul (d + 8) S12.at_w S12.at_o S12.at_e j4 hb4 fun v m12 hs => ?_)
  simp [hs.2, S12.at_o, S12.at_e]
  have r12 : Sm m12 ((m12.rd bo).rd be) := (Sm.rd _ _).trans (Sm.rd _ _)
  have hs' := hs.trans r12
  exact hQ _ v3 v4 k3 k4 (S12.up.trans hs'.up) (by omega) (j3.keep hs'.2) (by omega) (j4.keep hs'.2)
end
end Go.Proofs.Ytonmjdhdkkmjlaa

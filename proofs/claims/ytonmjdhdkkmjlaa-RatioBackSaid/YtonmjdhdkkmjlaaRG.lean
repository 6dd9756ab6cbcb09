/- Fractions in the clean executor: slopes. -/
import Derived.Test.YtonmjdhdkkmjlaaRF
namespace Go.Proofs.Ytonmjdhdkkmjlaa
open Go.Clean

theorem RP.hideS {m : Mem} {v : Value} {n : Nat} {c : PG} (h : RP m v n c) {B : List Nat} (hB : ∀ b ∈ B, ∃ y, m.at b = some y ∧ ∀ u ∈ y.cells, Ytonmjdhdkkmjlaa.isSl u) : RP (m.hide B) v n c := by
  obtain ⟨⟨b, o, k, x, h1, h0, h2, h3, h4⟩, h5, h6⟩ := h
  refine ⟨⟨b, o, k, x, h1, h0, ?_, h3, h4⟩, h5, h6⟩
  rw [Mem.at_hide, if_neg ?_]
  · exact h2
  · intro hb
    obtain ⟨y, hy, hcx⟩ := hB b hb
    rw [hy] at h2
    cases h2
    obtain ⟨z, hz, _⟩ := h4 0 h5.pos
    exact hcx _ (List.mem_of_getElem? hz)
theorem wmul_hid2 (d : Nat) {m : Mem} {bw : Nat} {va vb : Value} {n k : Nat} {a b : PG} {gr : Bool} (B : List Nat) (hw : MW m) (hB : ∀ b ∈ B, ∃ y, m.at b = some y ∧ ∀ u ∈ y.cells, isSl u) (hbw : bw ∉ B) (hW : m.at bw = some ⟨[.int .i64 0], 1, gr, false⟩) (ha : RP m va n a) (hb : RP m vb k b) (hnk : n + k ≤ 66) (ha1 : ∀ i, NB (a i) small) (hb1 : ∀ i, NB (b i) small) (hc : ∀ i t, NB (cv a b i t) far) {Q : Value → Mem → Prop}
    (hQ : ∀ m' v n' nl, Up m m' → n' ≤ n + k - 1 → RP m' v n' (cv a b n) → OL m m' v → m'.log = nl ++ m.log → (∀ p ∈ nl, p.2 ∉ B) → Q v m') :
    Gives (callN Try.prog known (d + 11) 58 [.pointer (some ⟨bw, 0, none⟩), va, vb]) m Q := by
  refine call_hide B (fun b hb => by obtain ⟨y, hy, _⟩ := hB b hb; exact hw b y hy) (Q := fun v m1 => ∃ n', Up (m.hide B) m1 ∧ n' ≤ n + k - 1 ∧ RP m1 v n' (cv a b n) ∧ OL (m.hide B) m1 v) (wmul_ok d (hw.hide B) (by rw [Mem.at_hide, if_neg hbw]; exact hW) (ha.hideS hB) (hb.hideS hB) hnk ha1 hb1 hc fun m1 v n' h1 h2 h3 h4 => ⟨n', h1, h2, h3, h4⟩) ?_
  rintro v m1 m' nl ⟨n', h1, h2, h3, h4⟩ h5 h6 h7
  exact hQ m' v n' nl (h7.up h1) h2 (h7.rp h1 h3) (h7.ol h1 h4) h5 h6
theorem gneg_no {g : G} (h : gneg g = g0) : g = g0 := by
  have h1 : -g.1 = 0 := congrArg Prod.fst h
  have h2 : -g.2 = 0 := congrArg Prod.snd h
  exact gext (by show g.1 = 0; omega) (by show g.2 = 0; omega)
structure NF (fr : Fr) (bf bo be bw : Nat) (dd : List (FuncId × List Value)) (v1 v2 : Value) (N i : Nat) : Prop where
  n : fr.n = 71
  d : fr.d = dd
  f1 : fr.at 1 = .pointer (some ⟨bf, 0, none⟩)
  f2 : fr.at 2 = .pointer (some ⟨bo, 0, none⟩)
  f3 : fr.at 3 = .pointer (some ⟨be, 0, none⟩)
  f4 : fr.at 4 = .pointer (some ⟨bw, 0, none⟩)
  f8 : fr.at 8 = v1
  f9 : fr.at 9 = v2
  f47 : fr.at 47 = .int .i64 N
  f48 : fr.at 48 = .int .i64 (i : Nat)
def NM (m m' : Mem) (bb o N i : Nat) (gr : Bool) (c : PG) : Prop := Up m m' ∧ bb < m'.next ∧ ∃ cells, m'.at bb = some ⟨cells, 1, gr, false⟩ ∧ ∀ t, t < N → ∃ z, cells[o + t]? = some (cx z) ∧ WC z (if t < i then gneg (c t) else c t)
def ngI (m : Mem) (bf bo be bw : Nat) (dd : List (FuncId × List Value)) (v1 v2 : Value) (bb o N : Nat) (gr : Bool) (c : PG) (q : Nat) (fr : Fr) (m' : Mem) : Prop := ∃ i, i + q = N ∧ NF fr bf bo be bw dd v1 v2 N i ∧ NM m m' bb o N i gr c
def ngR (m : Mem) (bf bo be bw : Nat) (dd : List (FuncId × List Value)) (v1 v2 : Value) (bb o N : Nat) (gr : Bool) (c : PG) (r : Ex × Fr) (m' : Mem) : Prop := r.1 = .exit 0 ∧ NF r.2 bf bo be bw dd v1 v2 N N ∧ NM m m' bb o N N gr c
section
set_option maxRecDepth 10000
set_option maxHeartbeats 4000000 in
theorem rslope_ok (d : Nat) {m : Mem} {va vb : Value} {n k : Nat} {a b : PG} (hw : MW m) (hf : FQ m va vb n k a b) {Q : Value → Mem → Prop}
    (hQ : ∀ m' vt vu nt nu, Up m m' → nt ≤ 7 → RP m' vt nt (fun i => gadd (cv (sl n a) b 4 i) (gneg (cv a (sl k b) 4 i))) → nu ≤ 7 → RP m' vu nu (cv b b k) → Q (.tuple ⟨[frV vt vu, .int .i64 0]⟩) m') :
    Gives (callN Try.prog known (d + 12) 26 [frV va vb]) m Q := by
  refine gives_fnD (nt := 71) rfl Try.func26 rfl rfl rfl (Nat.le_of_ble_eq_true rfl) fun fr hn hd hargs => ?_
  have h0 : fr.at 0 = _ := hargs 0 _ rfl
  clear hargs
  have oa := hf.top.pl.one'
  have ob := hf.bot.pl.one'
  have t1 := hf.tn
  have t2 := hf.bk
  have sa := hf.ta.sl t1
  have sb := hf.tb.sl t2
  simp [h0, hn, oa, ob]
  obtain ⟨m0, hm0⟩ : ∃ x : Mem, x = ((((m.nw ⟨[va, vb], 1, false, false⟩).nw ⟨[nilL, nilL], 1, false, false⟩).nw ⟨[.int .i64 0], 1, false, false⟩).nw ⟨[.int .i64 0], 1, false, false⟩) := ⟨_, rfl⟩
  rw [← hm0]
  obtain ⟨bw, hbw⟩ : ∃ x, x = m.next + 1 + 1 + 1 := ⟨_, rfl⟩
  rw [← hbw]
  obtain ⟨be, hbe⟩ : ∃ x, x = m.next + 1 + 1 := ⟨_, rfl⟩
  rw [← hbe]
  obtain ⟨bo, hbo⟩ : ∃ x, x = m.next + 1 := ⟨_, rfl⟩
  rw [← hbo]
  obtain ⟨bf, hbf⟩ : ∃ x, x = m.next := ⟨_, rfl⟩
  rw [← hbf]
  have u0 : Up m m0 := by
    rw [hm0]
    exact (Up.nw _ _).trans ((Up.nw _ _).trans ((Up.nw _ _).trans (Up.nw _ _)))
  have n0 : m0.next = m.next + 4 := by rw [hm0]; simp
  have f0 : m0.at bf = some ⟨[va, vb], 1, false, false⟩ := by rw [hm0, hbf]; simp [Nat.add_assoc]
  have f2 : m0.at bo = some ⟨[nilL, nilL], 1, false, false⟩ := by rw [hm0, hbo]; simp [Nat.add_assoc]
  have f3 : m0.at be = some ⟨[.int .i64 0], 1, false, false⟩ := by rw [hm0, hbe]; simp [Nat.add_assoc]
  have f4 : m0.at bw = some ⟨[.int .i64 0], 1, false, false⟩ := by rw [hm0, hbw]; simp [Nat.add_assoc]
  have w0 := u0.wf hw
  clear hm0
  refine Clean.step_defer (deferX_tmp (t := 11) (f := 61) (first := []) (cap := [.pointer (some ⟨bw, 0, none⟩), .pointer (some ⟨bo, 0, none⟩), .pointer (some ⟨be, 0, none⟩)]) (by simp)) ?_
  simp [hn, f0]
  have r0 : Up m0 (m0.rd bf) := Up.rd _ _
  have hf0 := hf.up hw u0
  refine rcheck_ok _ (r0.wf w0) (hf0.top.up w0 r0) (hf0.bot.up w0 r0) hf.b0 fun m1 u1 => ?_
  have U1 := r0.trans u1
  have w1 := U1.wf w0
  have n1 := U1.next
  have g0 := U1.at f0 w0
  have S1 : RS m m1 bo be bw nilL nilL := ⟨u0.trans U1, by omega, by omega, by omega, by omega, by omega, by omega, U1.at f2 w0, U1.at f3 w0, U1.at f4 w0⟩
  simp [hn, g0]
  have r1 : Up m1 (m1.rd bf) := Up.rd _ _
  have S2 := S1.next hw r1
  refine pslope_ok _ (S2.up.wf hw) (hf.top.up hw S2.up) t1 hf.ta fun m2 vp np u2 lp pp => ?_
  have S3 := S2.next hw u2
  simp [hn, extractX]
  refine storeQ_one (cs := [.int .i64 0]) (sz := 1) (gr := false) S3.at_e (by simp) rfl (by simp) fun m3 n3 _ e3 => ?_
  simp only [List.set_cons_zero] at e3
  have S4 := S3.pute hw n3 e3
  have pp := pp.beside S3.at_e (isSl1 trivial) (m' := m3) fun c hc => by rw [e3, if_neg hc]
  have g1 : m3.at bf = some ⟨[va, vb], 1, false, false⟩ := by rw [e3, if_neg (by omega)]; exact (r1.trans u2).at g0 w1
  simp [hn, S4.at_e, g1]
  have r3 : Up m3 ((m3.rd be).rd bf) := (Up.rd _ _).trans (Up.rd _ _)
  have w3 := S4.up.wf hw
  have S5 := S4.next hw r3
  refine pslope_ok _ (S5.up.wf hw) (hf.bot.up hw S5.up) t2 hf.tb fun m4 vq nq u4 lq pq => ?_
  have S6 := S5.next hw u4
  have pp := (pp.up w3 r3).up (r3.wf w3) u4
  simp [hn, extractX]
  refine storeQ_one (cs := [.int .i64 0]) (sz := 1) (gr := false) S6.at_e (by simp) rfl (by simp) fun m5 n5 _ e5 => ?_
  simp only [List.set_cons_zero] at e5
  have S7 := S6.pute hw n5 e5
  have pp := pp.beside S6.at_e (isSl1 trivial) (m' := m5) fun c hc => by rw [e5, if_neg hc]
  have pq := pq.beside S6.at_e (isSl1 trivial) (m' := m5) fun c hc => by rw [e5, if_neg hc]
  have g2 : m5.at bf = some ⟨[va, vb], 1, false, false⟩ := by rw [e5, if_neg (by omega)]; exact (r3.trans u4).at g1 w3
  have w5 := S7.up.wf hw
  simp [hn, S7.at_e]
  refine code_draw_dyn (plan := [0, 0, 2, 7, 0, 16, 0, 127, 255, 511]) (by kernel_rfl) ?_
  simp [drawQ, apartAll, apartL, Nat.testBit, hn, g2]
  have r5 : Up m5 (m5.lg []) := Up.same (by simp) fun c => by simp
  have S8 := S7.next hw r5
  have hBs : ∀ b ∈ [bf], ∃ y, (m5.lg []).at b = some y ∧ ∀ u ∈ y.cells, isSl u := fun b hb => by
    obtain rfl := List.mem_singleton.1 hb
    exact ⟨_, by simpa using g2, isSl2 hf.top.pl.isSl hf.bot.pl.isSl⟩
  refine wmul_hid2 d [bf] (S8.up.wf hw) hBs (fun hb => by have := List.mem_singleton.1 hb; omega) S8.at_w (pp.up w5 r5) (hf.bot.up hw S8.up) (by omega) (d4_small sa) (a4_small hf.tb) (da_far sa hf.tb) fun m6 v1 k1 nl u6 l1 p1 _ hlg hnl => ?_
  have e1 : apartL [(false, bf)] nl = true := apart_hid hnl (by simp)
  have S9 := S8.next hw u6
  have w6 := S9.up.wf hw
  have g3 : m6.at bf = some ⟨[va, vb], 1, false, false⟩ := (r5.trans u6).at g2 w5
  have pq := (pq.up w5 r5).up (r5.wf w5) u6
  simp only [Mem.log_lg, List.append_nil] at hlg
  simp [drawQ, apartAll, Nat.testBit, hn, hlg, apart_nil, apart_nil2, apart_rr, e1, g3]
  have ulg : Up m6 (m6.lg []) := Up.same (by simp) fun c => by simp
  have S10 := S9.next hw ulg
  have w10 := S10.up.wf hw
  refine wmul_ok d w10 S10.at_w (hf.top.up hw S10.up) (pq.up w6 ulg) (by omega) (a4_small hf.ta) (d4_small sb) (ad_far hf.ta sb) fun m7 v2 k2 u7 l2 p2 o2 => ?_
  have w7 := u7.wf w10
  have p1 := p1.up w6 ulg
  have g4 : (m6.lg []).at bf = some ⟨[va, vb], 1, false, false⟩ := ulg.at g3 w6
  obtain ⟨bb, o, N, kk, x, rfl, hbb, hxb, hro, hsz⟩ := o2
  obtain ⟨b', o', kk', x', hv, hkk, hx', hs', he⟩ := id p2.pl
  cases hv
  rw [hxb] at hx'
  cases hx'
  obtain ⟨cells, sz, gr, ro⟩ := x
  simp only at hsz hro
  subst hsz
  subst hro
  have hk2 : k2 ≤ 65 := p2.ok.most
  obtain ⟨mb, hmb⟩ : ∃ x, x = m6.lg [] := ⟨_, rfl⟩
  rw [← hmb] at S10 w10 p1 g4 hbb u7
  clear hmb
  simp [drawQ, apartAll, Nat.testBit, hn, hlg, apart_nil, apart_nil2, apart_rr, e1]
  have hbb7 := w7 bb _ hxb
  refine code_loop_post (ngR mb bf bo be bw [(61, [.pointer (some ⟨bw, 0, none⟩), .pointer (some ⟨bo, 0, none⟩), .pointer (some ⟨be, 0, none⟩)])] v1 (.slice (some ⟨bb, o, none⟩) k2 kk) bb o k2 gr (cv a (sl k b) n)) (ngI mb bf bo be bw [(61, [.pointer (some ⟨bw, 0, none⟩), .pointer (some ⟨bo, 0, none⟩), .pointer (some ⟨be, 0, none⟩)])] v1 (.slice (some ⟨bb, o, none⟩) k2 kk) bb o k2 gr (cv a (sl k b) n)) k2 (by omega)
    ⟨0, by omega, ⟨by simp [hn], by simp [hd], by simp, by simp, by simp, by simp, by simp, by simp, by simp, by simp⟩, u7.trans (Up.same (by simp) fun c => by simp), by simpa using hbb7, cells, by simpa using hxb, fun t ht => by
      obtain ⟨z, hz, hwz⟩ := he t ht
      exact ⟨z, hz, by rw [if_neg (by omega)]; exact hwz⟩⟩ ?_ ?_
  · clear hn hd h0 he
    rintro q fr' m' ⟨i, hiq, F, hu, hlt, cs, hm, hc⟩
    by_cases hi : i < k2
    · obtain ⟨z, hz, hwz⟩ := hc i hi
      rw [if_neg (by omega)] at hwz
      have hwi := wrap_succ i (by omega)
      simp [F.n, F.f9, F.f47, F.f48, hi, idx_L _ _ _ _ _ _ hi, hm, hz, run_neg]
      have hoi := (List.getElem?_eq_some_iff.1 hz).1
      refine storeQ_one (cs := cs) (sz := 1) (gr := gr) (by simp [hm]) (by simp) (cells_cx _) hoi fun m4 n4 _ e4 => ?_
      simp only [Mem.next_rd, Mem.at_rd] at n4 e4
      simp [F.n, F.f48, hwi]
      refine ⟨q - 1, by omega, i + 1, by omega, ⟨by simp [F.n], by simp [F.d], by simp [F.f1], by simp [F.f2], by simp [F.f3], by simp [F.f4], by simp [F.f8], by simp [F.f9], by simp [F.f47], by simp⟩, hu.wr (b := bb) hbb hlt n4 e4, by omega, _, by rw [e4, if_pos rfl], fun t ht => ?_⟩
      by_cases hti : t = i
      · subst hti
        exact ⟨_, by rw [List.getElem?_set_self hoi], by rw [if_pos (by omega)]; exact hwz.neg⟩
      · obtain ⟨z', hz', hwz'⟩ := hc t ht
        refine ⟨z', by rw [List.getElem?_set_ne (by omega)]; exact hz', ?_⟩
        by_cases h1 : t < i
        · rw [if_pos h1] at hwz'; rw [if_pos (by omega)]; exact hwz'
        · rw [if_neg h1] at hwz'; rw [if_neg (by omega)]; exact hwz'
    · have hik : i = k2 := by omega
      subst hik
      simp [F.n, F.f47, F.f48]
      exact ⟨rfl, ⟨by simp [F.n], by simp [F.d], by simp [F.f1], by simp [F.f2], by simp [F.f3], by simp [F.f4], by simp [F.f8], by simp [F.f9], by simp [F.f47], by simp [F.f48]⟩, hu, hlt, cs, hm, hc⟩
  · clear hn hd h0 he
    rintro ⟨e, fr'⟩ m8 ⟨he', F, hu8, hlt8, cs, hm8, hc8⟩
    obtain rfl : e = .exit 0 := he'
    simp only at F
    have S12 := S10.next hw hu8
    have w12 := S12.up.wf hw
    have q2 : RP m8 (.slice (some ⟨bb, o, none⟩) k2 kk) k2 (fun t => gneg (cv a (sl k b) n t)) := by
      refine ⟨⟨bb, o, kk, _, rfl, hkk, hm8, rfl, fun t ht => ?_⟩, ⟨p2.ok.pos, p2.ok.most, fun t => (p2.ok.near t).neg, fun h1 h2 => p2.ok.last h1 (gneg_no h2)⟩, fun t ht => by
        show gneg (cv a (sl k b) n t) = _
        rw [p2.ends t ht]; rfl⟩
      obtain ⟨z, hz, hwz⟩ := hc8 t ht
      rw [if_pos ht] at hwz
      exact ⟨z, hz, hwz⟩
    simp [F.n, F.f8, F.f9, F.f4]
    refine wadd_ok d w12 S12.at_w (p1.up w10 hu8) q2 (fun i => ?_) fun m9 v3 k3 u9 l3 p3 => ?_
    · exact nb_of ((sa.cv hf.tb rDA np i).add (hf.ta.cv sb rAD n i).neg) (by decide)
    have S13 := S12.next hw u9
    simp [F.n, F.f2]
    refine storeQ_one (cs := [nilL, nilL]) (sz := 1) (gr := false) S13.at_o (by simp [p3.pl.cells, p3.pl.one']) p3.pl.cells (by simp) fun m10 n10 _ e10 => ?_
    simp only [List.set_cons_zero] at e10
    have S14 := S13.put hw n10 e10
    have p6 : RP m10 v3 k3 _ := p3.beside S13.at_o (isSl2 trivial trivial) fun c hc => by rw [e10, if_neg hc]
    have g5 : m10.at bf = some ⟨[va, vb], 1, false, false⟩ := by rw [e10, if_neg (by omega)]; exact (hu8.trans u9).at g4 w10
    simp [F.n, F.f1, F.f4, g5]
    have r6 : Up m10 ((m10.rd bf).rd bf) := (Up.rd _ _).trans (Up.rd _ _)
    have S15 := S14.next hw r6
    have w14 := S14.up.wf hw
    have w15 := S15.up.wf hw
    refine wmul_ok d w15 S15.at_w (hf.bot.up hw S15.up) (hf.bot.up hw S15.up) (by omega) (a4_small hf.tb) (a4_small hf.tb) (aa_far hf.tb hf.tb) fun m16 v4 k4 u8 l4 p4 _ => ?_
    have S16 := S15.next hw u8
    have p8 := (p6.up w14 r6).up w15 u8
    simp [F.n, F.f2]
    refine storeQ_one (cs := [v3, nilL]) (sz := 1) (gr := false) S16.at_o (by simp [p4.pl.cells, p4.pl.one']) p4.pl.cells (by simp) fun m17 n17 _ e17 => ?_
    simp only [List.set_cons_zero, List.set_cons_succ] at e17
    have S17 := S16.put hw n17 e17
    have q3 : RP m17 v3 k3 _ := p8.beside S16.at_o (isSl2 p3.pl.isSl trivial) fun c hc => by rw [e17, if_neg hc]
    have q4 : RP m17 v4 k4 _ := p4.beside S16.at_o (isSl2 p3.pl.isSl trivial) fun c hc => by rw [e17, if_neg hc]
    simp [F.n, F.f2, S17.at_o]
    have r17 : Up m17 (m17.rd bo) := Up.rd _ _
    have S18 := S17.next hw r17
    have w17 := S17.up.wf hw
    refine storeQ_rule S18.at_o rfl (by rw [sto_F]; simp [p3.pl.one', p4.pl.one']) (l := [v3, v4]) (by simp [lay]) fun m19 n19 _ e19 => ?_
    have S19 := S18.put hw n19 e19
    have k3' := (q3.up w17 r17).beside S18.at_o (isSl2 p3.pl.isSl p4.pl.isSl) fun c hc => show m19.at c = _ by rw [e19, if_neg hc]
    have k4' := (q4.up w17 r17).beside S18.at_o (isSl2 p3.pl.isSl p4.pl.isSl) fun c hc => show m19.at c = _ by rw [e19, if_neg hc]
    simp [F.n, F.f3]
    refine storeQ_one (cs := [.int .i64 0]) (sz := 1) (gr := false) S19.at_e (by simp) rfl (by simp) fun m20 n20 _ e20 => ?_
    simp only [List.set_cons_zero] at e20
    have S20 := S19.pute hw n20 e20
    have j3 := k3'.beside S19.at_e (isSl1 trivial) fun c hc => show m20.at c = _ by rw [e20, if_neg hc]
    have j4 := k4'.beside S19.at_e (isSl1 trivial) fun c hc => show m20.at c = _ by rw [e20, if_neg hc]
    simp [F.n]
    obtain ⟨hk4, hb4⟩ := cv_len hf.bot.ok.pos hf.bot.ok.pos hf.bot.ends hf.b0 hf.b0 q4.ends l4
    refine fnD_ret (by simp [F.d]) rfl (ddef_slope (d + 8) S20.at_w S20.at_o S20.at_e j4 hb4 fun v m21 hs => ?_)
    simp [hs.2, S20.at_o, S20.at_e, F.f2, F.f3]
    have r21 : Sm m21 ((m21.rd bo).rd be) := (Sm.rd _ _).trans (Sm.rd _ _)
    have hs' := hs.trans r21
    have ha4 : cv (sl n a) b np = cv (sl n a) b 4 := cv_to4 (by omega) pp.ends
    have hb4' : cv a (sl k b) n = cv a (sl k b) 4 := cv_to4 t1 hf.top.ends
    rw [ha4, hb4'] at j3
    exact hQ _ v3 v4 k3 k4 (S20.up.trans hs'.up) (by omega) (j3.keep hs'.2) (by omega) (j4.keep hs'.2)
end
end Go.Proofs.Ytonmjdhdkkmjlaa

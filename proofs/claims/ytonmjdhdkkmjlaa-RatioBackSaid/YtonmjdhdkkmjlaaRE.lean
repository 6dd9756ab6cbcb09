/- Fractions in the clean executor: turned ones. -/
import Derived.Test.YtonmjdhdkkmjlaaRC
namespace Go.Proofs.Ytonmjdhdkkmjlaa
open Go.Clean

/-- These cells are these floats. -/
def CX (cells : List Value) (n : Nat) (zs : Nat → C) (c : PG) : Prop := cells.length = n ∧ ∀ i, i < n → cells[i]? = some (cx (zs i)) ∧ WC (zs i) (c i)
theorem CX.cl {cells : List Value} {n : Nat} {zs : Nat → C} {c : PG} (h : CX cells n zs c) : CL cells n c := ⟨h.1, fun i hi => ⟨_, h.2 i hi⟩⟩
theorem PX.take {m : Mem} {b o n k : Nat} {zs : Nat → C} {c : PG} (h : PX m (.slice (some ⟨b, o, none⟩) n k) n zs c) : ∃ x l, m.at b = some x ∧ takeN x.cells o n = some l ∧ CX l n zs c := by
  obtain ⟨b', o', k2, x, h1, h0, h2, h3, h4⟩ := h
  cases h1
  refine ⟨x, (List.range n).map fun i => cx (zs i), h2, takeN_get _ _ _ _ (by simp) (fun i hi => ?_) ?_, by simp, fun i hi => ⟨?_, (h4 i hi).2⟩⟩
  · rw [(h4 i hi).1]; simp [hi]
  · by_cases hz : n = 0
    · exact .inl hz
    · have := (List.getElem?_eq_some_iff.1 (h4 (n - 1) (by omega)).1).1
      exact .inr (by omega)
  · simp [hi]
theorem PX.own {m : Mem} {b n : Nat} {cells : List Value} {gr ro : Bool} {zs : Nat → C} {c : PG} (hb : m.at b = some ⟨cells, 1, gr, ro⟩) (h : CX cells n zs c) : PX m (.slice (some ⟨b, 0, none⟩) n n) n zs c :=
  ⟨b, 0, n, _, rfl, Nat.le_refl _, hb, rfl, fun i hi => by rw [Nat.zero_add]; exact h.2 i hi⟩
theorem PX.beside {m m' : Mem} {v : Value} {n : Nat} {zs : Nat → C} {c : PG} (h : PX m v n zs c) (hn : 0 < n) {bo : Nat} {y : Blk} (hy : m.at bo = some y) (hcx : ∀ u ∈ y.cells, Ytonmjdhdkkmjlaa.isSl u) (e : ∀ c, c ≠ bo → m'.at c = m.at c) : PX m' v n zs c := by
  obtain ⟨b, o, k, x, h1, h0, h2, h3, h4⟩ := h
  refine ⟨b, o, k, x, h1, h0, ?_, h3, h4⟩
  rw [e b ?_]
  · exact h2
  · rintro rfl
    rw [hy] at h2
    cases h2
    have := hcx _ (List.mem_of_getElem? (h4 0 hn).1)
    exact this
theorem PX.rp {m : Mem} {v : Value} {n : Nat} {zs : Nat → C} {c : PG} (h : PX m v n zs c) (hc : OKP n c) (he : Ends c n) : RP m v n c := ⟨h.pl, hc, he⟩
section
set_option maxRecDepth 10000
/-- A copy behind nothing. -/
theorem gives_copy {m : Mem} {va : Value} {n : Nat} {zs : Nat → C} {c : PG} (h : PX m va n zs c) (h0 : 0 < n) (h1 : n ≤ 1048576) {Q : Value → Mem → Prop} (hQ : ∀ m' v, Up m m' → PX m' v n zs c → Q v m') : Gives (appC Try.prog 24 24 (.slice none 0 0) va) m Q := by
  obtain ⟨b, o, k, x, rfl, _⟩ := id h
  rw [appC_slice]
  obtain ⟨x, l, hx, hl, hc⟩ := h.take
  refine gives_append_new app_L hx (by rw [Nat.mul_one]; exact hl) hc.cl.one h0 h1 ?_
  exact hQ _ _ ((Up.rd _ _).trans (Up.nw _ _)) (PX.own (gr := true) (ro := false) (by simp) hc)
theorem rturn_ok (d : Nat) {m : Mem} {va vb : Value} {n k : Nat} {a b : PG} {za zb : Nat → C} (hw : MW m) (hf : FQ m va vb n k a b) (ha0 : a (n - 1) ≠ g0) (hxa : PX m va n za a) (hxb : PX m vb k zb b) {Q : Value → Mem → Prop}
    (hQ : ∀ m' vt vu, Up m m' → FQ m' vt vu k n b a → PX m' vt k zb b → PX m' vu n za a → Q (.tuple ⟨[frV vt vu, .int .i64 0]⟩) m') :
    Gives (callN Try.prog known (d + 12) 27 [frV va vb]) m Q := by
  refine gives_fnD (nt := 22) rfl Try.func27 rfl rfl rfl (Nat.le_of_ble_eq_true rfl) fun fr hn hd hargs => ?_
  have h0 : fr.at 0 = _ := hargs 0 _ rfl
  clear hargs
  have oa := hf.top.pl.one'
  have ob := hf.bot.pl.one'
  have t1 := hf.tn
  have t2 := hf.bk
  have p1 := hf.top.ok.pos
  have p2 := hf.bot.ok.pos
  simp [h0, hn, oa, ob]
  obtain ⟨m0, hm0⟩ : ∃ x : Mem, x = ((((m.nw ⟨[va, vb], 1, false, false⟩).nw ⟨[nilL, nilL], 1, false, false⟩).nw ⟨[.int .i64 0], 1, false, false⟩).nw ⟨[.int .i64 0], 1, false, false⟩) := ⟨_, rfl⟩
  rw [← hm0]
  obtain ⟨bw, hbw⟩ : ∃ x, x = m.next + 1 + 1 + 1 := ⟨_, rfl⟩
  rw [← hbw]
  obtain ⟨be, hbe⟩ : ∃ x, x = m.next + 1 + 1 := ⟨_, rfl⟩
  rw [← hbe]
  obtain ⟨bo, hbo⟩ : ∃ x, x = m.next + 1 := ⟨_, rfl⟩
  rw [← hbo]
  obtain ⟨bf, hbf⟩ : ∃ x, x = m.next := ⟨_, rfl⟩
  rw [← hbf]
  have u0 : Up m m0 := by
    rw [hm0]
    exact (Up.nw _ _).trans ((Up.nw _ _).trans ((Up.nw _ _).trans (Up.nw _ _)))
  have n0 : m0.next = m.next + 4 := by rw [hm0]; simp
  have f0 : m0.at bf = some ⟨[va, vb], 1, false, false⟩ := by rw [hm0, hbf]; simp [Nat.add_assoc]
  have f2 : m0.at bo = some ⟨[nilL, nilL], 1, false, false⟩ := by rw [hm0, hbo]; simp [Nat.add_assoc]
  have f3 : m0.at be = some ⟨[.int .i64 0], 1, false, false⟩ := by rw [hm0, hbe]; simp [Nat.add_assoc]
  have f4 : m0.at bw = some ⟨[.int .i64 0], 1, false, false⟩ := by rw [hm0, hbw]; simp [Nat.add_assoc]
  have w0 := u0.wf hw
  clear hm0
  refine Clean.step_defer (deferX_tmp (t := 6) (f := 63) (first := []) (cap := [.pointer (some ⟨bw, 0, none⟩), .pointer (some ⟨bo, 0, none⟩), .pointer (some ⟨be, 0, none⟩)]) (by simp)) ?_
  simp [hn, f0]
  have r0 : Up m0 (m0.rd bf) := Up.rd _ _
  have hf0 := hf.up hw u0
  refine rcheck_ok _ (r0.wf w0) (hf0.top.up w0 r0) (hf0.bot.up w0 r0) hf.b0 fun m1 u1 => ?_
  have U1 := r0.trans u1
  have w1 := U1.wf w0
  have n1 := U1.next
  have g0 := U1.at f0 w0
  have S1 : RS m m1 bo be bw nilL nilL := ⟨u0.trans U1, by omega, by omega, by omega, by omega, by omega, by omega, U1.at f2 w0, U1.at f3 w0, U1.at f4 w0⟩
  simp [hn, g0]
  have r1 : Up m1 (m1.rd bf) := Up.rd _ _
  have S2 := S1.next hw r1
  refine gives_copy (hxb.up hw S2.up) p2 (by omega) fun m3 v3 u3 x3 => ?_
  have S3 := S2.next hw u3
  simp [hn]
  refine storeQ_one (cs := [nilL, nilL]) (sz := 1) (gr := false) S3.at_o (by simp [x3.pl.cells, x3.pl.one']) x3.pl.cells (by simp) fun m6 n6 _ e6 => ?_
  simp only [List.set_cons_zero] at e6
  have S6 := S3.put hw n6 e6
  have p6 := x3.beside p2 S3.at_o (isSl2 trivial trivial) (m' := m6) fun c hc => by rw [e6, if_neg hc]
  have g0 : m6.at bf = some ⟨[va, vb], 1, false, false⟩ := by rw [e6, if_neg (by omega)]; exact (r1.trans u3).at g0 w1
  simp [hn, g0]
  have r6 : Up m6 (m6.rd bf) := Up.rd _ _
  have S7 := S6.next hw r6
  have w6 := S6.up.wf hw
  have w7 := S7.up.wf hw
  refine gives_copy (hxa.up hw S7.up) p1 (by omega) fun m8 v4 u8 x4 => ?_
  have S8 := S7.next hw u8
  have p8 := (p6.up w6 r6).up w7 u8
  simp [hn]
  refine storeQ_one (cs := [v3, nilL]) (sz := 1) (gr := false) S8.at_o (by simp [x4.pl.cells, x4.pl.one']) x4.pl.cells (by simp) fun m9 n9 _ e9 => ?_
  simp only [List.set_cons_zero, List.set_cons_succ] at e9
  have S9 := S8.put hw n9 e9
  have q3 := p8.beside p2 S8.at_o (isSl2 x3.pl.isSl trivial) (m' := m9) fun c hc => by rw [e9, if_neg hc]
  have q4 := x4.beside p1 S8.at_o (isSl2 x3.pl.isSl trivial) (m' := m9) fun c hc => by rw [e9, if_neg hc]
  simp [hn, S9.at_o]
  have r9 : Up m9 (m9.rd bo) := Up.rd _ _
  have S10 := S9.next hw r9
  have w9 := S9.up.wf hw
  refine storeQ_rule S10.at_o rfl (by rw [sto_F]; simp [x3.pl.one', x4.pl.one']) (l := [v3, v4]) (by simp [lay]) fun m10 n10 _ e10 => ?_
  have S11 := S10.put hw n10 e10
  have k3' := (q3.up w9 r9).beside p2 S10.at_o (isSl2 x3.pl.isSl x4.pl.isSl) (m' := m10) fun c hc => show m10.at c = _ by rw [e10, if_neg hc]
  have k4' := (q4.up w9 r9).beside p1 S10.at_o (isSl2 x3.pl.isSl x4.pl.isSl) (m' := m10) fun c hc => show m10.at c = _ by rw [e10, if_neg hc]
  simp [hn]
  refine storeQ_one (cs := [.int .i64 0]) (sz := 1) (gr := false) S11.at_e (by simp) rfl (by simp) fun m11 n11 _ e11 => ?_
  simp only [List.set_cons_zero] at e11
  have S12 := S11.pute hw n11 e11
  have j3 := k3'.beside p2 S11.at_e (isSl1 trivial) (m' := m11) fun c hc => show m11.at c = _ by rw [e11, if_neg hc]
  have j4 := k4'.beside p1 S11.at_e (isSl1 trivial) (m' := m11) fun c hc => show m11.at c = _ by rw [e11, if_neg hc]
  simp [hn]
  refine fnD_ret (by simp [hd]) rfl (ddef_turn (d + 8) S12.at_w S12.at_o S12.at_e (j4.rp hf.top.ok hf.top.ends) ha0 fun v m12 hs => ?_)
  simp [hs.2, S12.at_o, S12.at_e]
  have r12 : Sm m12 ((m12.rd bo).rd be) := (Sm.rd _ _).trans (Sm.rd _ _)
  have hs' := hs.trans r12
  have i3 := j3.keep hs'.2
  have i4 := j4.keep hs'.2
  exact hQ _ v3 v4 (S12.up.trans hs'.up) ⟨i3.rp hf.bot.ok hf.bot.ends, i4.rp hf.top.ok hf.top.ends, t2, t1, hf.tb, hf.ta, ha0⟩ i3 i4
end
end Go.Proofs.Ytonmjdhdkkmjlaa

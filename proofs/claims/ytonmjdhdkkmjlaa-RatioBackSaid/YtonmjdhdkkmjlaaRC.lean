/- Fractions in the clean executor: sums, products, turned ones. -/
import Derived.Test.YtonmjdhdkkmjlaaRA
import Derived.Test.YtonmjdhdkkmjlaaFr
namespace Go.Proofs.Ytonmjdhdkkmjlaa
open Go.Clean

section
set_option maxRecDepth 10000
/-- A fraction of small polynomials. -/
structure FQ (m : Mem) (va vb : Value) (n k : Nat) (a b : PG) : Prop where
  top : RP m va n a
  bot : RP m vb k b
  tn : n ≤ 4
  bk : k ≤ 4
  ta : PB a A4
  tb : PB b A4
  b0 : b (k - 1) ≠ g0
theorem FQ.up {m m' : Mem} {va vb : Value} {n k : Nat} {a b : PG} (h : FQ m va vb n k a b) (hw : MW m) (u : Up m m') : FQ m' va vb n k a b := ⟨h.top.up hw u, h.bot.up hw u, h.tn, h.bk, h.ta, h.tb, h.b0⟩
theorem a4_small {a : PG} (h : PB a A4) (i : Nat) : NB (a i) small := by
  by_cases hi : i ≤ 4
  · exact (h.bn i).2.2.mono (h.bn i).1 (rA i hi)
  · rw [h.ends i (by omega)]; unfold NB; decide
theorem d4_small {a : PG} (h : PB a D4) (i : Nat) : NB (a i) small := by
  by_cases hi : i ≤ 4
  · exact (h.bn i).2.2.mono (h.bn i).1 (rD i hi)
  · rw [h.ends i (by omega)]; unfold NB; decide
theorem aa_far {a b : PG} (ha : PB a A4) (hb : PB b A4) (i t : Nat) : NB (cv a b i t) far := nb_of (ha.cv hb rAA i t) (by decide)
theorem ad_far {a b : PG} (ha : PB a A4) (hb : PB b D4) (i t : Nat) : NB (cv a b i t) far := nb_of (ha.cv hb rAD i t) (by decide)
theorem da_far {a b : PG} (ha : PB a D4) (hb : PB b A4) (i t : Nat) : NB (cv a b i t) far := nb_of (ha.cv hb rDA i t) (by decide)
theorem wmul_hid (d : Nat) {m m00 : Mem} {bw : Nat} {va vb : Value} {n k : Nat} {a b : PG} {gr : Bool} (B : List Nat) (hw : MW m) (hB : ∀ b ∈ B, b < m.next) (hB0 : ∀ b ∈ B, m00.next ≤ b) (hbw : bw ∉ B) (hW : m.at bw = some ⟨[.int .i64 0], 1, gr, false⟩) (hw0 : MW m00) (hu : Up m00 m) (ha : RP m00 va n a) (hb : RP m00 vb k b) (hnk : n + k ≤ 66) (ha1 : ∀ i, NB (a i) small) (hb1 : ∀ i, NB (b i) small) (hc : ∀ i t, NB (cv a b i t) far) {Q : Value → Mem → Prop}
    (hQ : ∀ m' v n' nl, Up m m' → n' ≤ n + k - 1 → RP m' v n' (cv a b n) → OL m m' v → m'.log = nl ++ m.log → (∀ p ∈ nl, p.2 ∉ B) → Q v m') :
    Gives (callN Try.prog known (d + 11) 58 [.pointer (some ⟨bw, 0, none⟩), va, vb]) m Q := by
  refine call_hide B hB (Q := fun v m1 => ∃ n', Up (m.hide B) m1 ∧ n' ≤ n + k - 1 ∧ RP m1 v n' (cv a b n) ∧ OL (m.hide B) m1 v) (wmul_ok d (hw.hide B) (by rw [Mem.at_hide, if_neg hbw]; exact hW) (ha.hide hw0 hu hB0) (hb.hide hw0 hu hB0) hnk ha1 hb1 hc fun m1 v n' h1 h2 h3 h4 => ⟨n', h1, h2, h3, h4⟩) ?_
  rintro v m1 m' nl ⟨n', h1, h2, h3, h4⟩ h5 h6 h7
  exact hQ m' v n' nl (h7.up h1) h2 (h7.rp h1 h3) (h7.ol h1 h4) h5 h6
theorem ddef_add (d : Nat) {m : Mem} {bw bo be k : Nat} {vt vb : Value} {b : PG} {g1 g2 g3 : Bool} (hW : m.at bw = some ⟨[.int .i64 0], 1, g1, false⟩) (hO : m.at bo = some ⟨[vt, vb], 1, g2, false⟩) (hE : m.at be = some ⟨[.int .i64 0], 1, g3, false⟩) (hb : RP m vb k b) (hb0 : b (k - 1) ≠ g0)
    {Q : Value → Mem → Prop} (hQ : ∀ v m', Sm m m' → Q v m') :
    Gives (deferredX Try.prog (callN Try.prog known (d + 3)) 55 [.pointer (some ⟨bw, 0, none⟩), .pointer (some ⟨bo, 0, none⟩), .pointer (some ⟨be, 0, none⟩)]) m Q := by
  refine gives_deferred (nt := 4) Try.func55 rfl rfl rfl (Nat.le_of_ble_eq_true rfl) fun fr hn hd hargs => ?_
  have h0 : fr.at 0 = _ := hargs 0 _ rfl
  have h1 : fr.at 1 = _ := hargs 1 _ rfl
  have h2 : fr.at 2 = _ := hargs 2 _ rfl
  clear hargs
  simp [h0, h1, h2, hn]
  refine look_ok _ hW hO hE hb hb0 fun m' hs => ?_
  simp [hn, hd]
  exact hQ _ _ hs
theorem ddef_mul (d : Nat) {m : Mem} {bw bo be k : Nat} {vt vb : Value} {b : PG} {g1 g2 g3 : Bool} (hW : m.at bw = some ⟨[.int .i64 0], 1, g1, false⟩) (hO : m.at bo = some ⟨[vt, vb], 1, g2, false⟩) (hE : m.at be = some ⟨[.int .i64 0], 1, g3, false⟩) (hb : RP m vb k b) (hb0 : b (k - 1) ≠ g0)
    {Q : Value → Mem → Prop} (hQ : ∀ v m', Sm m m' → Q v m') :
    Gives (deferredX Try.prog (callN Try.prog known (d + 3)) 60 [.pointer (some ⟨bw, 0, none⟩), .pointer (some ⟨bo, 0, none⟩), .pointer (some ⟨be, 0, none⟩)]) m Q := by
  refine gives_deferred (nt := 4) Try.func60 rfl rfl rfl (Nat.le_of_ble_eq_true rfl) fun fr hn hd hargs => ?_
  have h0 : fr.at 0 = _ := hargs 0 _ rfl
  have h1 : fr.at 1 = _ := hargs 1 _ rfl
  have h2 : fr.at 2 = _ := hargs 2 _ rfl
  clear hargs
  simp [h0, h1, h2, hn]
  refine look_ok _ hW hO hE hb hb0 fun m' hs => ?_
  simp [hn, hd]
  exact hQ _ _ hs
theorem ddef_turn (d : Nat) {m : Mem} {bw bo be k : Nat} {vt vb : Value} {b : PG} {g1 g2 g3 : Bool} (hW : m.at bw = some ⟨[.int .i64 0], 1, g1, false⟩) (hO : m.at bo = some ⟨[vt, vb], 1, g2, false⟩) (hE : m.at be = some ⟨[.int .i64 0], 1, g3, false⟩) (hb : RP m vb k b) (hb0 : b (k - 1) ≠ g0)
    {Q : Value → Mem → Prop} (hQ : ∀ v m', Sm m m' → Q v m') :
    Gives (deferredX Try.prog (callN Try.prog known (d + 3)) 63 [.pointer (some ⟨bw, 0, none⟩), .pointer (some ⟨bo, 0, none⟩), .pointer (some ⟨be, 0, none⟩)]) m Q := by
  refine gives_deferred (nt := 4) Try.func63 rfl rfl rfl (Nat.le_of_ble_eq_true rfl) fun fr hn hd hargs => ?_
  have h0 : fr.at 0 = _ := hargs 0 _ rfl
  have h1 : fr.at 1 = _ := hargs 1 _ rfl
  have h2 : fr.at 2 = _ := hargs 2 _ rfl
  clear hargs
  simp [h0, h1, h2, hn]
  refine look_ok _ hW hO hE hb hb0 fun m' hs => ?_
  simp [hn, hd]
  exact hQ _ _ hs
theorem ddef_slope (d : Nat) {m : Mem} {bw bo be k : Nat} {vt vb : Value} {b : PG} {g1 g2 g3 : Bool} (hW : m.at bw = some ⟨[.int .i64 0], 1, g1, false⟩) (hO : m.at bo = some ⟨[vt, vb], 1, g2, false⟩) (hE : m.at be = some ⟨[.int .i64 0], 1, g3, false⟩) (hb : RP m vb k b) (hb0 : b (k - 1) ≠ g0)
    {Q : Value → Mem → Prop} (hQ : ∀ v m', Sm m m' → Q v m') :
    Gives (deferredX Try.prog (callN Try.prog known (d + 3)) 61 [.pointer (some ⟨bw, 0, none⟩), .pointer (some ⟨bo, 0, none⟩), .pointer (some ⟨be, 0, none⟩)]) m Q := by
  refine gives_deferred (nt := 4) Try.func61 rfl rfl rfl (Nat.le_of_ble_eq_true rfl) fun fr hn hd hargs => ?_
  have h0 : fr.at 0 = _ := hargs 0 _ rfl
  have h1 : fr.at 1 = _ := hargs 1 _ rfl
  have h2 : fr.at 2 = _ := hargs 2 _ rfl
  clear hargs
  simp [h0, h1, h2, hn]
  refine look_ok _ hW hO hE hb hb0 fun m' hs => ?_
  simp [hn, hd]
  exact hQ _ _ hs
def isSl : Value → Prop
  | .slice _ _ _ => True
  | .int _ _ => True
  | _ => False
theorem PL.isSl {m : Mem} {v : Value} {n : Nat} {c : PG} (h : PL m v n c) : Ytonmjdhdkkmjlaa.isSl v := by
  obtain ⟨b, o, k, x, rfl, _⟩ := h; trivial
theorem RP.beside {m m' : Mem} {v : Value} {n : Nat} {c : PG} (h : RP m v n c) {bo : Nat} {y : Blk} (hy : m.at bo = some y) (hcx : ∀ u ∈ y.cells, Ytonmjdhdkkmjlaa.isSl u) (e : ∀ c, c ≠ bo → m'.at c = m.at c) : RP m' v n c := by
  obtain ⟨⟨b, o, k, x, h1, h0, h2, h3, h4⟩, h5, h6⟩ := h
  refine ⟨⟨b, o, k, x, h1, h0, ?_, h3, h4⟩, h5, h6⟩
  rw [e b ?_]
  · exact h2
  · rintro rfl
    rw [hy] at h2
    cases h2
    obtain ⟨z, hz, _⟩ := h4 0 h5.pos
    have := hcx _ (List.mem_of_getElem? hz)
    exact this
theorem isSl2 {x y : Value} (hx : isSl x) (hy : isSl y) : ∀ u ∈ [x, y], isSl u := fun u hu => by
  rcases List.mem_cons.1 hu with rfl | hu
  · exact hx
  · obtain rfl := List.mem_singleton.1 hu; exact hy
theorem isSl1 {x : Value} (hx : isSl x) : ∀ u ∈ [x], isSl u := fun u hu => by
  obtain rfl := List.mem_singleton.1 hu; exact hx
/-- What a function's blocks are, as it goes. -/
structure RS (m m' : Mem) (bo be bw : Nat) (vt vb : Value) : Prop where
  up : Up m m'
  lo : m.next ≤ bo
  le : m.next ≤ be
  lw : m.next ≤ bw
  oe : bo ≠ be
  ow : bo ≠ bw
  ew : be ≠ bw
  at_o : m'.at bo = some ⟨[vt, vb], 1, false, false⟩
  at_e : m'.at be = some ⟨[.int .i64 0], 1, false, false⟩
  at_w : m'.at bw = some ⟨[.int .i64 0], 1, false, false⟩
theorem RS.next {m m' m2 : Mem} {bo be bw : Nat} {vt vb : Value} (h : RS m m' bo be bw vt vb) (hw : MW m) (u : Up m' m2) : RS m m2 bo be bw vt vb :=
  ⟨h.up.trans u, h.lo, h.le, h.lw, h.oe, h.ow, h.ew, u.at h.at_o (h.up.wf hw), u.at h.at_e (h.up.wf hw), u.at h.at_w (h.up.wf hw)⟩
/-- The fraction that comes out is told. -/
theorem RS.put {m m' m2 : Mem} {bo be bw : Nat} {vt vb ut ub : Value} (h : RS m m' bo be bw vt vb) (hw : MW m) (hn : m2.next = m'.next) (e : ∀ c, m2.at c = if c = bo then some ⟨[ut, ub], 1, false, false⟩ else m'.at c) : RS m m2 bo be bw ut ub :=
  ⟨h.up.wr (b := bo) h.lo (h.up.wf hw bo _ h.at_o) hn e, h.lo, h.le, h.lw, h.oe, h.ow, h.ew, by rw [e, if_pos rfl], by rw [e, if_neg h.oe.symm]; exact h.at_e, by rw [e, if_neg h.ow.symm]; exact h.at_w⟩
theorem RS.pute {m m' m2 : Mem} {bo be bw : Nat} {vt vb : Value} (h : RS m m' bo be bw vt vb) (hw : MW m) (hn : m2.next = m'.next) (e : ∀ c, m2.at c = if c = be then some ⟨[.int .i64 0], 1, false, false⟩ else m'.at c) : RS m m2 bo be bw vt vb :=
  ⟨h.up.wr (b := be) h.le (h.up.wf hw be _ h.at_e) hn e, h.lo, h.le, h.lw, h.oe, h.ow, h.ew, by rw [e, if_neg h.oe]; exact h.at_o, by rw [e, if_pos rfl], by rw [e, if_neg h.ew.symm]; exact h.at_w⟩
theorem apart_nil (l : List (Bool × Nat)) : apartL [] l = true := by cases l <;> rfl
theorem apart_nil2 (l : List (Bool × Nat)) : apartL l [] = true := by unfold apartL; simp
theorem apart_rr (a b : Nat) : apartL [(false, a)] [(false, b)] = true := by unfold apartL; simp
theorem radd_ok (d : Nat) {m : Mem} {va vb vc vd : Value} {n k p q : Nat} {a b c e : PG} (hw : MW m) (hf : FQ m va vb n k a b) (hg : FQ m vc vd p q c e) {Q : Value → Mem → Prop}
    (hQ : ∀ m' vt vu nt nu, Up m m' → nt ≤ 7 → RP m' vt nt (fun i => gadd (cv a e n i) (cv c b p i)) → nu ≤ 7 → RP m' vu nu (cv b e k) → Q (.tuple ⟨[frV vt vu, .int .i64 0]⟩) m') :
    Gives (callN Try.prog known (d + 12) 24 [frV va vb, frV vc vd]) m Q := by
  refine gives_fnD (nt := 39) rfl Try.func24 rfl rfl rfl (Nat.le_of_ble_eq_true rfl) fun fr hn hd hargs => ?_
  have h0 : fr.at 0 = _ := hargs 0 _ rfl
  have h1 : fr.at 1 = _ := hargs 1 _ rfl
  clear hargs
  have oa := hf.top.pl.one'
  have ob := hf.bot.pl.one'
  have oc := hg.top.pl.one'
  have od := hg.bot.pl.one'
  have t1 := hf.tn
  have t2 := hf.bk
  have t3 := hg.tn
  have t4 := hg.bk
  simp [h0, h1, hn, oa, ob, oc, od]
  obtain ⟨m0, hm0⟩ : ∃ x : Mem, x = (((((m.nw ⟨[va, vb], 1, false, false⟩).nw ⟨[vc, vd], 1, false, false⟩).nw ⟨[nilL, nilL], 1, false, false⟩).nw ⟨[.int .i64 0], 1, false, false⟩).nw ⟨[.int .i64 0], 1, false, false⟩) := ⟨_, rfl⟩
  rw [← hm0]
  obtain ⟨bw, hbw⟩ : ∃ x, x = m.next + 1 + 1 + 1 + 1 := ⟨_, rfl⟩
  rw [← hbw]
  obtain ⟨be, hbe⟩ : ∃ x, x = m.next + 1 + 1 + 1 := ⟨_, rfl⟩
  rw [← hbe]
  obtain ⟨bo, hbo⟩ : ∃ x, x = m.next + 1 + 1 := ⟨_, rfl⟩
  rw [← hbo]
  obtain ⟨bg, hbg⟩ : ∃ x, x = m.next + 1 := ⟨_, rfl⟩
  rw [← hbg]
  obtain ⟨bf, hbf⟩ : ∃ x, x = m.next := ⟨_, rfl⟩
  rw [← hbf]
  have u0 : Up m m0 := by
    rw [hm0]
    exact (Up.nw _ _).trans ((Up.nw _ _).trans ((Up.nw _ _).trans ((Up.nw _ _).trans (Up.nw _ _))))
  have n0 : m0.next = m.next + 5 := by rw [hm0]; simp
  have f0 : m0.at bf = some ⟨[va, vb], 1, false, false⟩ := by rw [hm0, hbf]; simp [Nat.add_assoc]
  have f1 : m0.at bg = some ⟨[vc, vd], 1, false, false⟩ := by rw [hm0, hbg]; simp [Nat.add_assoc]
  have f2 : m0.at bo = some ⟨[nilL, nilL], 1, false, false⟩ := by rw [hm0, hbo]; simp [Nat.add_assoc]
  have f3 : m0.at be = some ⟨[.int .i64 0], 1, false, false⟩ := by rw [hm0, hbe]; simp [Nat.add_assoc]
  have f4 : m0.at bw = some ⟨[.int .i64 0], 1, false, false⟩ := by rw [hm0, hbw]; simp [Nat.add_assoc]
  have w0 := u0.wf hw
  clear hm0
  refine Clean.step_defer (deferX_tmp (t := 10) (f := 55) (first := []) (cap := [.pointer (some ⟨bw, 0, none⟩), .pointer (some ⟨bo, 0, none⟩), .pointer (some ⟨be, 0, none⟩)]) (by simp)) ?_
  simp [hn, f0, f1]
  have r0 : Up m0 ((m0.rd bf).rd bg) := (Up.rd _ _).trans (Up.rd _ _)
  have hf0 := hf.up hw u0
  have hg0 := hg.up hw u0
  refine rchecks_ok _ (r0.wf w0) (hf0.top.up w0 r0) (hf0.bot.up w0 r0) hf.b0 (hg0.top.up w0 r0) (hg0.bot.up w0 r0) hg.b0 fun m1 u1 => ?_
  have U1 := r0.trans u1
  have w1 := U1.wf w0
  have n1 := U1.next
  have g0 := U1.at f0 w0
  have g1 := U1.at f1 w0
  have g2 := U1.at f2 w0
  have g3 := U1.at f3 w0
  have g4 := U1.at f4 w0
  simp [hn]
  refine code_draw_dyn (plan := [0, 1, 0, 4, 15, 0, 32, 0, 128, 511, 1023, 2047]) (by kernel_rfl) ?_
  simp [drawQ, apartAll, apartL, Nat.testBit, hn, g0, g1]
  have UL : Up m (m1.lg []) := (u0.trans U1).trans (Up.same (by simp) fun c => by simp)
  have hBm : ∀ b ∈ [bf, bg], b < (m1.lg []).next := fun b hb => by
    rw [Mem.next_lg]
    rcases List.mem_cons.1 hb with rfl | hb
    · omega
    · obtain rfl := List.mem_singleton.1 hb; omega
  have hB0 : ∀ b ∈ [bf, bg], m.next ≤ b := fun b hb => by
    rcases List.mem_cons.1 hb with rfl | hb
    · omega
    · obtain rfl := List.mem_singleton.1 hb; omega
  have hbw0 : bw ∉ [bf, bg] := fun hb => by
    rcases List.mem_cons.1 hb with h | hb
    · omega
    · have := List.mem_singleton.1 hb; omega
  refine wmul_hid d [bf, bg] (UL.wf hw) hBm hB0 hbw0 (by rw [Mem.at_lg]; exact g4) hw UL hf.top hg.bot (by omega) (a4_small hf.ta) (a4_small hg.tb) (aa_far hf.ta hg.tb) fun m2 v1 k1 nl u2 l1 p1 o1 hlg hnl => ?_
  have e1 : apartL [(false, bg)] nl = true := apart_hid hnl (by simp)
  have e2 : apartL [(false, bf)] nl = true := apart_hid hnl (by simp)
  have U2 := UL.trans u2
  have w2 := U2.wf hw
  have n2 := u2.next
  rw [Mem.next_lg] at n2
  have ulg : Up m0 (m1.lg []) := U1.trans (Up.same (by simp) fun c => by simp)
  have U20 := ulg.trans u2
  have g0 := U20.at f0 w0
  have g1 := U20.at f1 w0
  have g2 := U20.at f2 w0
  have g3 := U20.at f3 w0
  have g4 := U20.at f4 w0
  simp only [Mem.log_lg, List.append_nil] at hlg
  simp [drawQ, apartAll, Nat.testBit, hn, hlg, apart_nil, apart_nil2, apart_rr, e1, e2, g0, g1]
  have ulg2 : Up m2 (m2.lg []) := Up.same (by simp) fun c => by simp
  have U3 := U2.trans ulg2
  refine wmul_ok d (U3.wf hw) (by rw [Mem.at_lg]; exact g4) (hg.top.up hw U3) (hf.bot.up hw U3) (by omega) (a4_small hg.ta) (a4_small hf.tb) (aa_far hg.ta hf.tb) fun m3 v2 k2 u3 l2 p2 o2 => ?_
  have U4 := U3.trans u3
  have w3 := U4.wf hw
  have U40 := (U20.trans ulg2).trans u3
  have g0 := U40.at f0 w0
  have g1 := U40.at f1 w0
  have g2 := U40.at f2 w0
  have g3 := U40.at f3 w0
  have g4 := U40.at f4 w0
  have p1' := (p1.up w2 ulg2).up (ulg2.wf w2) u3
  simp [drawQ, apartAll, Nat.testBit, hn, hlg, apart_nil, apart_nil2, apart_rr, e1, e2, g0, g1]
  obtain ⟨m4, hm4⟩ : ∃ x, x = m3.lg (m3.log ++ (false, bf) :: (false, bg) :: (nl ++ (false, bg) :: (false, bf) :: m1.log)) := ⟨_, rfl⟩
  rw [← hm4]
  have u4 : Up m3 m4 := by rw [hm4]; exact Up.same (by simp) fun c => by simp
  clear hm4
  have S4 : RS m m4 bo be bw nilL nilL := ⟨U4.trans u4, by omega, by omega, by omega, by omega, by omega, by omega, u4.at g2 w3, u4.at g3 w3, u4.at g4 w3⟩
  have w4 := u4.wf w3
  refine wadd_ok d w4 S4.at_w (p1'.up w3 u4) (p2.up w3 u4) (fun i => ?_) fun m5 v3 k3 u5 l3 p3 => ?_
  · exact nb_of (((hf.ta.cv hg.tb rAA n i)).add ((hg.ta.cv hf.tb rAA p i))) (by decide)
  have S5 := S4.next hw u5
  simp [hn]
  refine storeQ_one (cs := [nilL, nilL]) (sz := 1) (gr := false) S5.at_o (by simp [p3.pl.cells, p3.pl.one']) p3.pl.cells (by simp) fun m6 n6 _ e6 => ?_
  simp only [List.set_cons_zero] at e6
  have S6 := S5.put hw n6 e6
  have p6 : RP m6 v3 k3 _ := p3.beside S5.at_o (isSl2 trivial trivial) fun c hc => by rw [e6, if_neg hc]
  have g0 : m6.at bf = some ⟨[va, vb], 1, false, false⟩ := by rw [e6, if_neg (by omega)]; exact (u4.trans u5).at g0 w3
  have g1 : m6.at bg = some ⟨[vc, vd], 1, false, false⟩ := by rw [e6, if_neg (by omega)]; exact (u4.trans u5).at g1 w3
  simp [hn, g0, g1]
  have r6 : Up m6 ((m6.rd bf).rd bg) := (Up.rd _ _).trans (Up.rd _ _)
  have S7 := S6.next hw r6
  have w6 := S6.up.wf hw
  have w7 := S7.up.wf hw
  refine wmul_ok d w7 S7.at_w (hf.bot.up hw S7.up) (hg.bot.up hw S7.up) (by omega) (a4_small hf.tb) (a4_small hg.tb) (aa_far hf.tb hg.tb) fun m8 v4 k4 u8 l4 p4 _ => ?_
  have S8 := S7.next hw u8
  have p8 := (p6.up w6 r6).up w7 u8
  simp [hn]
  refine storeQ_one (cs := [v3, nilL]) (sz := 1) (gr := false) S8.at_o (by simp [p4.pl.cells, p4.pl.one']) p4.pl.cells (by simp) fun m9 n9 _ e9 => ?_
  simp only [List.set_cons_zero, List.set_cons_succ] at e9
  have S9 := S8.put hw n9 e9
  have q3 : RP m9 v3 k3 _ := p8.beside S8.at_o (isSl2 p3.pl.isSl trivial) fun c hc => by rw [e9, if_neg hc]
  have q4 : RP m9 v4 k4 _ := p4.beside S8.at_o (isSl2 p3.pl.isSl trivial) fun c hc => by rw [e9, if_neg hc]
  simp [hn, S9.at_o]
  have r9 : Up m9 (m9.rd bo) := Up.rd _ _
  have S10 := S9.next hw r9
  have w9 := S9.up.wf hw
  refine storeQ_rule S10.at_o rfl (by rw [sto_F]; simp [p3.pl.one', p4.pl.one']) (l := [v3, v4]) (by simp [lay]) fun m10 n10 _ e10 => ?_
  have S11 := S10.put hw n10 e10
  have k3' := (q3.up w9 r9).beside S10.at_o (isSl2 p3.pl.isSl p4.pl.isSl) fun c hc => show m10.at c = _ by rw [e10, if_neg hc]
  have k4' := (q4.up w9 r9).beside S10.at_o (isSl2 p3.pl.isSl p4.pl.isSl) fun c hc => show m10.at c = _ by rw [e10, if_neg hc]
  simp [hn]
  refine storeQ_one (cs := [.int .i64 0]) (sz := 1) (gr := false) S11.at_e (by simp) rfl (by simp) fun m11 n11 _ e11 => ?_
  simp only [List.set_cons_zero] at e11
  have S12 := S11.pute hw n11 e11
  have j3 := k3'.beside S11.at_e (isSl1 trivial) fun c hc => show m11.at c = _ by rw [e11, if_neg hc]
  have j4 := k4'.beside S11.at_e (isSl1 trivial) fun c hc => show m11.at c = _ by rw [e11, if_neg hc]
  simp [hn]
  obtain ⟨hk4, hb4⟩ := cv_len hf.bot.ok.pos hg.bot.ok.pos hg.bot.ends hf.b0 hg.b0 q4.ends l4
  refine fnD_ret (by simp [hd]) rfl (ddef_add (d + 8) S12.at_w S12.at_o S12.at_e j4 hb4 fun v m12 hs => ?_)
  simp [hs.2, S12.at_o, S12.at_e]
  have r12 : Sm m12 ((m12.rd bo).rd be) := (Sm.rd _ _).trans (Sm.rd _ _)
  have hs' := hs.trans r12
  exact hQ _ v3 v4 k3 k4 (S12.up.trans hs'.up) (by omega) (j3.keep hs'.2) (by omega) (j4.keep hs'.2)
end
end Go.Proofs.Ytonmjdhdkkmjlaa

/- Fractions in the clean executor: products, turned ones. -/
namespace Go.Proofs.Ytonmjdhdkkmjlaa
open Go.Clean

section
set_option maxRecDepth 10000
theorem rmul_ok (d : Nat) {m : Mem} {va vb vc vd : Value} {n k p q : Nat} {a b c e : PG} (hw : MW m) (hf : FQ m va vb n k a b) (hg : FQ m vc vd p q c e) {Q : Value → Mem → Prop}
    (hQ : ∀ m' vt vu nt nu, Up m m' → nt ≤ 7 → RP m' vt nt (cv a c n) → nu ≤ 7 → RP m' vu nu (cv b e k) → Q (.tuple ⟨[frV vt vu, .int .i64 0]⟩) m') :
    Gives (callN Try.prog known (d + 12) 25 [frV va vb, frV vc vd]) m Q := by
  refine gives_fnD (nt := 29) rfl Try.func25 rfl rfl rfl (Nat.le_of_ble_eq_true rfl) fun fr hn hd hargs => ?_
  have h0 : fr.at 0 = _ := hargs 0 _ rfl
  have h1 : fr.at 1 = _ := hargs 1 _ rfl
  clear hargs
  have oa := hf.top.pl.one'
  have ob := hf.bot.pl.one'
  have oc := hg.top.pl.one'
  have od := hg.bot.pl.one'
  have t1 := hf.tn
  have t2 := hf.bk
  have t3 := hg.tn
  have t4 := hg.bk
  simp [h0, h1, hn, oa, ob, oc, od]
  obtain ⟨m0, hm0⟩ : ∃ x : Mem, x = (((((m.nw ⟨[va, vb], 1, false, false⟩).nw ⟨[vc, vd], 1, false, false⟩).nw ⟨[nilL, nilL], 1, false, false⟩).nw ⟨[.int .i64 0], 1, false, false⟩).nw ⟨[.int .i64 0], 1, false, false⟩) := ⟨_, rfl⟩
  rw [← hm0]
  obtain ⟨bw, hbw⟩ : ∃ x, x = m.next + 1 + 1 + 1 + 1 := ⟨_, rfl⟩
  rw [← hbw]
  obtain ⟨be, hbe⟩ : ∃ x, x = m.next + 1 + 1 + 1 := ⟨_, rfl⟩
  rw [← hbe]
  obtain ⟨bo, hbo⟩ : ∃ x, x = m.next + 1 + 1 := ⟨_, rfl⟩
  rw [← hbo]
  obtain ⟨bg, hbg⟩ : ∃ x, x = m.next + 1 := ⟨_, rfl⟩
  rw [← hbg]
  obtain ⟨bf, hbf⟩ : ∃ x, x = m.next := ⟨_, rfl⟩
  rw [← hbf]
  have u0 : Up m m0 := by
    rw [hm0]
    exact (Up.nw _ _).trans ((Up.nw _ _).trans ((Up.nw _ _).trans ((Up.nw _ _).trans (Up.nw _ _))))
  have n0 : m0.next = m.next + 5 := by rw [hm0]; simp
  have f0 : m0.at bf = some ⟨[va, vb], 1, false, false⟩ := by rw [hm0, hbf]; simp [Nat.add_assoc]
  have f1 : m0.at bg = some ⟨[vc, vd], 1, false, false⟩ := by rw [hm0, hbg]; simp [Nat.add_assoc]
  have f2 : m0.at bo = some ⟨[nilL, nilL], 1, false, false⟩ := by rw [hm0, hbo]; simp [Nat.add_assoc]
  have f3 : m0.at be = some ⟨[.int .i64 0], 1, false, false⟩ := by rw [hm0, hbe]; simp [Nat.add_assoc]
  have f4 : m0.at bw = some ⟨[.int .i64 0], 1, false, false⟩ := by rw [hm0, hbw]; simp [Nat.add_assoc]
  have w0 := u0.wf hw
  clear hm0
  refine Clean.step_defer (deferX_tmp (t := 8) (f := 60) (first := []) (cap := [.pointer (some ⟨bw, 0, none⟩), .pointer (some ⟨bo, 0, none⟩), .pointer (some ⟨be, 0, none⟩)]) (by simp)) ?_
  simp [hn, f0, f1]
  have r0 : Up m0 ((m0.rd bf).rd bg) := (Up.rd _ _).trans (Up.rd _ _)
  have hf0 := hf.up hw u0
  have hg0 := hg.up hw u0
  refine rchecks_ok _ (r0.wf w0) (hf0.top.up w0 r0) (hf0.bot.up w0 r0) hf.b0 (hg0.top.up w0 r0) (hg0.bot.up w0 r0) hg.b0 fun m1 u1 => ?_
  have U1 := r0.trans u1
  have w1 := U1.wf w0
  have n1 := U1.next
  have g0 := U1.at f0 w0
  have g1 := U1.at f1 w0
  have g2 := U1.at f2 w0
  have g3 := U1.at f3 w0
  have g4 := U1.at f4 w0
  simp [hn]
  have S4 : RS m m1 bo be bw nilL nilL := ⟨u0.trans U1, by omega, by omega, by omega, by omega, by omega, by omega, g2, g3, g4⟩
  have w1' := w1
  have r1 : Up m1 ((m1.rd bf).rd bg) := (Up.rd _ _).trans (Up.rd _ _)
  simp [hn, g0, g1]
  have S5' := S4.next hw r1
  refine wmul_ok d (S5'.up.wf hw) S5'.at_w (hf.top.up hw S5'.up) (hg.top.up hw S5'.up) (by omega) (a4_small hf.ta) (a4_small hg.ta) (aa_far hf.ta hg.ta) fun m5 v3 k3 u5 l3 p3 _ => ?_
  have S5 := S5'.next hw u5
  simp [hn]
  refine storeQ_one (cs := [nilL, nilL]) (sz := 1) (gr := false) S5.at_o (by simp [p3.pl.cells, p3.pl.one']) p3.pl.cells (by simp) fun m6 n6 _ e6 => ?_
  simp only [List.set_cons_zero] at e6
  have S6 := S5.put hw n6 e6
  have p6 : RP m6 v3 k3 _ := p3.beside S5.at_o (isSl2 trivial trivial) fun c hc => by rw [e6, if_neg hc]
  have g0 : m6.at bf = some ⟨[va, vb], 1, false, false⟩ := by rw [e6, if_neg (by omega)]; exact (r1.trans u5).at g0 w1'
  have g1 : m6.at bg = some ⟨[vc, vd], 1, false, false⟩ := by rw [e6, if_neg (by omega)]; exact (r1.trans u5).at g1 w1'
  simp [hn, g0, g1]
  have r6 : Up m6 ((m6.rd bf).rd bg) := (Up.rd _ _).trans (Up.rd _ _)
  have S7 := S6.next hw r6
  have w6 := S6.up.wf hw
  have w7 := S7.up.wf hw
  refine wmul_ok d w7 S7.at_w (hf.bot.up hw S7.up) (hg.bot.up hw S7.up) (by omega) (a4_small hf.tb) (a4_small hg.tb) (aa_far hf.tb hg.tb) fun m8 v4 k4 u8 l4 p4 _ => ?_
  have S8 := S7.next hw u8
  have p8 := (p6.up w6 r6).up w7 u8
  simp [hn]
  refine storeQ_one (cs := [v3, nilL]) (sz := 1) (gr := false) S8.at_o (by simp [p4.pl.cells, p4.pl.one']) p4.pl.cells (by simp) fun m9 n9 _ e9 => ?_
  simp only [List.set_cons_zero, List.set_cons_succ] at e9
  have S9 := S8.put hw n9 e9
  have q3 : RP m9 v3 k3 _ := p8.beside S8.at_o (isSl2 p3.pl.isSl trivial) fun c hc => by rw [e9, if_neg hc]
  have q4 : RP m9 v4 k4 _ := p4.beside S8.at_o (isSl2 p3.pl.isSl trivial) fun c hc => by rw [e9, if_neg hc]
  simp [hn, S9.at_o]
  have r9 : Up m9 (m9.rd bo) := Up.rd _ _
  have S10 := S9.next hw r9
  have w9 := S9.up.wf hw
  refine storeQ_rule S10.at_o rfl (by rw [sto_F]; simp [p3.pl.one', p4.pl.one']) (l := [v3, v4]) (by simp [lay]) fun m10 n10 _ e10 => ?_
  have S11 := S10.put hw n10 e10
  have k3' := (q3.up w9 r9).beside S10.at_o (isSl2 p3.pl.isSl p4.pl.isSl) fun c hc => show m10.at c = _ by rw [e10, if_neg hc]
  have k4' := (q4.up w9 r9).beside S10.at_o (isSl2 p3.pl.isSl p4.pl.isSl) fun c hc => show m10.at c = _ by rw [e10, if_neg hc]
  simp [hn]
  refine storeQ_one (cs := [.int .i64 0]) (sz := 1) (gr := false) S11.at_e (by simp) rfl (by simp) fun m11 n11 _ e11 => ?_
  simp only [List.set_cons_zero] at e11
  have S12 := S11.pute hw n11 e11
  have j3 := k3'.beside S11.at_e (isSl1 trivial) fun c hc => show m11.at c = _ by rw [e11, if_neg hc]
  have j4 := k4'.beside S11.at_e (isSl1 trivial) fun c hc => show m11.at c = _ by rw [e11, if_neg hc]
  simp [hn]
  obtain ⟨hk4, hb4⟩ := cv_len hf.bot.ok.pos hg.bot.ok.pos hg.bot.ends hf.b0 hg.b0 q4.ends l4
  refine fnD_ret (by simp [hd]) rfl (ddef_mul (d + 8) S12.at_w S12.at_o S12.at_e j4 hb4 fun v m12 hs => ?_)
  simp [hs.2, S12.at_o, S12.at_e]
  have r12 : Sm m12 ((m12.rd bo).rd be) := (Sm.rd _ _).trans (Sm.rd _ _)
  have hs' := hs.trans r12
  exact hQ _ v3 v4 k3 k4 (S12.up.trans hs'.up) (by omega) (j3.keep hs'.2) (by omega) (j4.keep hs'.2)
end
end Go.Proofs.Ytonmjdhdkkmjlaa

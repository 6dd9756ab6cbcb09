/- Poles of a fraction, in the clean executor. -/
import Derived.Test.YtonmjdhdkkmjlaaSA
namespace Go.Proofs.Ytonmjdhdkkmjlaa
open Go.Clean

section
set_option maxRecDepth 10000
theorem pslope_gen (d : Nat) {m : Mem} {va : Value} {n : Nat} {a : PG} (hw : MW m) (ha : RP m va n a) (hn4 : n ≤ 4) (hsm : ∀ t, BN (sl n a t) (1000000, 0)) {Q : Value → Mem → Prop}
    (hQ : ∀ m' v n', Up m m' → n' ≤ 3 → RP m' v n' (sl n a) → Q (.tuple ⟨[v, .int .i64 0]⟩) m') :
    Gives (callN Try.prog known (d + 10) 29 [va]) m Q := by
  refine gives_fn (nt := 41) rfl Try.func29 rfl rfl rfl (Nat.le_of_ble_eq_true rfl) fun fr hn hd hargs => ?_
  have h0 : fr.at 0 = _ := hargs 0 _ rfl
  clear hargs
  simp [h0, hn]
  refine check_ok _ ha.pl ha.ok fun m1 hs1 => ?_
  have hp0 := ha.ok.pos
  have hu1 := hs1.up
  have hw1 := hu1.wf hw
  obtain ⟨b, o, k, x, rfl, hk, hb, hsz, he⟩ := ha.pl.up hw hu1
  by_cases h1 : n = 1
  · subst h1
    simp [h0, hn, cx_zero]
    refine gives_build1 bs_L (cells_cx _) (one_cx _) ?_
    simp [hn, hd]
    have hz : ∀ t, sl 1 a t = g0 := fun t => if_neg (by omega)
    exact hQ _ _ 1 (hu1.trans (Up.nw _ _)) (by omega) ⟨PL.own (gr := false) (ro := false) (cells := [cx (some 0, some 0)]) (by simp) ⟨rfl, fun i hi => ⟨(some 0, some 0), by rw [show i = 0 by omega]; rfl, by rw [hz]; exact WC.zero⟩⟩, ⟨by omega, by omega, fun i => by rw [hz]; unfold NB; decide, fun h => by omega⟩, fun t _ => hz t⟩
  · simp [h0, hn, show ¬ (n : Int) = 1 by omega]
    refine gives_make (c := n) (l := 0) mk_L (by omega) (by omega) ?_
    simp [h0, hn]
    have hne : b ≠ m1.next := fun h => by
      have := hw1 b x hb
      omega
    refine gives_slice_lo (x := x) (by simp [hne, hb]) hsz (by omega) hk ?_
    obtain ⟨N, hN⟩ : ∃ N, N = n - 1 := ⟨_, rfl⟩
    rw [← hN]
    simp [hn]
    have hu2 : Up m1 ((m1.nw ⟨List.replicate n (.complex .f64 0 0), 1, false, false⟩).rd b) := (Up.nw _ _).trans (Up.rd _ _)
    refine code_loop (psI m1 (.slice (some ⟨b, o + 1, none⟩) N (k - 1)) n N m1.next a) N (by omega) ⟨0, List.replicate n (.complex .f64 0 0), by omega, by simp [hn], by simp [hd], by simp, by simp, by simp, by simp, hu2, Nat.le_refl _, by simp, by simp, by simp, fun t ht => by omega⟩ ?_
    clear hn hd h0
    rintro q fr' m' ⟨i, cells, hiq, f1, f2, f5, f21, f22, f23, hu, hbo, hbo2, hm, hlen, hcl⟩
    by_cases hi : i < N
    · obtain ⟨z, hz, hwz⟩ := he (i + 1) (by omega)
      have hbm : m'.at b = some x := hu.at hb hw1
      have hz' : x.cells[o + 1 + i]? = some (cx z) := by rw [show o + 1 + i = o + (i + 1) by omega]; exact hz
      obtain ⟨i1, hi1⟩ : ∃ i1, i1 = i + 1 := ⟨_, rfl⟩
      have hwi : IntKind.i64.wrap ((i : Int) + 1) = (i1 : Int) := by rw [hi1]; exact wrap_succ i (by omega)
      simp [f1, f5, f21, f22, f23, hi, idx_L _ _ _ _ _ _ hi, hbm, hz', hwi, conv_nat (show i1 < 1000000 by omega), run_scale]
      refine gives_build1 bs_L (cells_cx _) (one_cx _) ?_
      simp [f1]
      have hks : gmul (a (i + 1)) (ks i) = sl n a i := (if_pos (show i + 1 < n by omega)).symm
      have hww : WC (cscale z (intF i1)) (sl n a i) := by
        have hb := hsm i
        rw [← hks] at hb ⊢
        refine WC.scale (k := ((i + 1 : Nat) : Int)) hwz ?_ hb.1 hb.2.2 ?_
        · rw [hi1]; exact WF.intF (by omega)
        · decide
      have hbne : m1.next ≠ m'.next := by omega
      refine gives_append_room (b := m1.next) (b2 := m'.next) (n := i) (c := n) (v := cx (cscale z (intF i1))) (cells := cells) (gr := false) (by simp [hbne, hm]) (by simp) (one_cx _) (by omega) hlen (by omega) ?_
      simp [f1, f23, hwi]
      refine ⟨q - 1, by omega, i1, cells.set i (cx (cscale z (intF i1))), by omega, by simp [f1], by simp [f2], ?_, by simp [f21], by simp [f22], by simp, ?_, hbo, by simp; omega, by simp, by simp [hlen], ?_⟩
      · simp [hi1]
      · have hua : Up m1 (((m'.rd b).nw ⟨[cx (cscale z (intF i1))], 1, false, false⟩).rd m'.next |>.rd m1.next) := hu.trans ((Up.rd _ _).trans ((Up.nw _ _).trans ((Up.rd _ _).trans (Up.rd _ _))))
        exact hua.wr (b := m1.next) (x := ⟨cells.set i (cx (cscale z (intF i1))), 1, false, false⟩) hbo (by simp; omega) (by simp) (fun c => by simp)
      · intro t ht
        by_cases hti : t = i
        · subst hti
          exact ⟨_, by rw [List.getElem?_set_self (by omega)], hww⟩
        · rw [List.getElem?_set_ne (by omega)]
          exact hcl t (by omega)
    · have hiN : i = N := by omega
      subst hiN
      simp [f1, f5, f22, f23]
      have hpl : PL m' (.slice (some ⟨m1.next, 0, none⟩) i n) i (sl n a) := ⟨m1.next, 0, n, _, rfl, by omega, hm, rfl, fun t ht => by rw [Nat.zero_add]; exact hcl t ht⟩
      refine answer_ok _ hpl (by omega) (by omega) (fun t => nb_of (hsm t) (by decide)) (by rw [hN]; exact sl_ends n a) fun m2 v n' hs2 hn2 hr => ?_
      simp [f1, f2, extractX]
      exact hQ m2 v n' (hu1.trans (hu.trans hs2.up)) (by omega) hr

theorem rvalue_gen (d : Nat) {m : Mem} {va vb : Value} {n k : Nat} {a b : PG} {za zb : Nat → C} {z : C} {g : G} (hw : MW m) (hn : n ≤ 4) (hk : k ≤ 4) (oa : OKP n a) (ob : OKP k b) (ba : ∀ t, BN (a t) (62208, 0)) (bb : ∀ t, BN (b t) (62208, 0)) (hxa : PX m va n za a) (hxb : PX m vb k zb b) (hz : WC z g) (hg : NB g 12) (h0 : hs k b g ≠ g0) {Q : Value → Mem → Prop}
    (hQ : ∀ m', Up m m' → WC (ctl za z (n - 1) 0) (hs n a g) → WC (ctl zb z (k - 1) 0) (hs k b g) → Q (.tuple ⟨[cx (cdiv (ctl za z (n - 1) 0) (ctl zb z (k - 1) 0)), .int .i64 0]⟩) m') :
    Gives (callN Try.prog known (d + 11) 66 [va, vb, cx z]) m Q := by
  refine gives_fn (nt := 34) rfl Try.func66 rfl rfl rfl (Nat.le_of_ble_eq_true rfl) fun fr hnn hd hargs => ?_
  have q0 : fr.at 0 = _ := hargs 0 _ rfl
  have q1 : fr.at 1 = _ := hargs 1 _ rfl
  have q2 : fr.at 2 = _ := hargs 2 _ rfl
  clear hargs
  have hgf : NB g far := hg.mono (by decide) (by decide)
  have hone : (1 : Int) ≤ Z12.1 := by decide
  have hc4 : ∀ n, n ≤ 4 → (hs n (fun _ => (62208, 0)) Z12).1 ≤ top := fun n hn => Int.le_trans (rC n hn) (by decide)
  simp [q0, q2, hnn]
  refine at_okx _ hw hxa oa hz hgf (D := fun _ => (62208, 0)) ba (near12 hg) hone (hc4 n hn) fun m1 u1 wa => ?_
  simp [q1, q2, hnn, extractX]
  refine at_okx _ (u1.wf hw) (hxb.up hw u1) ob hz hgf (D := fun _ => (62208, 0)) bb (near12 hg) hone (hc4 k hk) fun m2 u2 wb => ?_
  simp [hnn, extractX]
  have hc : cnought (ctl zb z (k - 1) 0) = false := by rw [wb.nought]; exact decide_eq_false h0
  have ha40 : NB (hs n a g) (2 ^ 40) := nb_of (hs_bn ba hg hn) (by decide)
  have hb40 : NB (hs k b g) (2 ^ 40) := nb_of (hs_bn bb hg hk) (by decide)
  rw [run_quot1 _ _ _ hc (cdiv_fin wa wb h0 ha40 hb40)]
  simp [hnn, hd, extractX]
  exact hQ _ (u1.trans u2) wa wb
/-- Numbers that are told, maybe none. -/
structure AL (m : Mem) (v : Value) (n : Nat) (zC : Nat → C) (zG : Nat → G) : Prop where
  val : ∃ a, v = .slice a n n
  px : 0 < n → PX m v n zC zG
theorem AL.up {m m' : Mem} {v : Value} {n : Nat} {zC : Nat → C} {zG : Nat → G} (h : AL m v n zC zG) (hw : MW m) (u : Up m m') : AL m' v n zC zG := ⟨h.val, fun h0 => (h.px h0).up hw u⟩
def poI (m : Mem) (v va vb : Value) (n b2 : Nat) (q : Nat) (fr : Fr) (m' : Mem) : Prop := ∃ i, i + q = n ∧ fr.n = 76 ∧ fr.d = [] ∧ fr.at 1 = v ∧ fr.at 2 = .pointer (some ⟨b2, 0, none⟩) ∧ fr.at 28 = v ∧ fr.at 29 = .int .i64 n ∧ fr.at 30 = .int .i64 (i : Nat) ∧ Up m m' ∧ m'.at b2 = some ⟨[va, vb], 1, false, false⟩
def poR (m : Mem) (v va vb : Value) (n b2 : Nat) (r : Ex × Fr) (m' : Mem) : Prop := r.1 = .exit 0 ∧ r.2.n = 76 ∧ r.2.d = [] ∧ r.2.at 1 = v ∧ r.2.at 2 = .pointer (some ⟨b2, 0, none⟩) ∧ Up m m' ∧ m'.at b2 = some ⟨[va, vb], 1, false, false⟩
def pcF (i : Nat) (f : Nat → C) : Nat → C := fun t => if t < i then f t else (some 0, some 0)
def ppI (m : Mem) (v va vb vq : Value) (n b2 bp : Nat) (zC qC : Nat → C) (T : Nat → Prop) (q : Nat) (fr : Fr) (m' : Mem) : Prop := ∃ i cells, i + q = n ∧ fr.n = 76 ∧ fr.d = [] ∧ fr.at 2 = .pointer (some ⟨b2, 0, none⟩) ∧ fr.at 9 = vq ∧ fr.at 11 = .slice (some ⟨bp, 0, none⟩) n n ∧ fr.at 50 = v ∧ fr.at 51 = .int .i64 n ∧ fr.at 52 = .int .i64 (i : Nat) ∧ Up m m' ∧ m.next ≤ bp ∧ m'.at bp = some ⟨cells, 2, false, false⟩ ∧ PC cells n (pcF i zC) (pcF i qC) ∧ ∀ t, t < i → T t
def ppR (m : Mem) (n bp : Nat) (zC qC : Nat → C) (T : Nat → Prop) (r : Ex × Fr) (m' : Mem) : Prop := r.1 = .exit 2 ∧ r.2.n = 76 ∧ r.2.d = [] ∧ r.2.at 11 = .slice (some ⟨bp, 0, none⟩) n n ∧ Up m m' ∧ ∃ cells, m'.at bp = some ⟨cells, 2, false, false⟩ ∧ PC cells n zC qC ∧ ∀ t, t < n → T t
theorem rpoles_ok (d : Nat) {m : Mem} {va vb v : Value} {nt n : Nat} {zC : Nat → C} {zG rG : Nat → G} (hw : MW m) (hn3 : n ≤ 3) (hnt : nt ≤ 3) (ha : RP m va nt (tp zG rG n n)) (hb : RP m vb (n + 1) (ofZ zG n)) (hv : AL m v n zC zG) (nz : ∀ i, NB (zG i) 12) (nr : ∀ i, NB (rG i) 12)
    (hdist : ∀ i j, i < n → j < n → i ≠ j → zG i ≠ zG j) {Q : Value → Mem → Prop}
    (hQ : ∀ m' w qC, Up m m' → PoL m' w n zC qC → (∀ i, i < n → ∃ x y, qC i = cdiv x y ∧ WC x (gmul (rG i) (dz zG n i)) ∧ WC y (dz zG n i)) → Q (.tuple ⟨[w, .int .i64 0]⟩) m') :
    Gives (callN Try.prog known (d + 12) 35 [frV va vb, v]) m Q := by
  refine gives_fn (nt := 76) rfl Try.func35 rfl rfl rfl (Nat.le_of_ble_eq_true rfl) fun fr hn hd hargs => ?_
  have h0 : fr.at 0 = _ := hargs 0 _ rfl
  have h1 : fr.at 1 = _ := hargs 1 _ rfl
  clear hargs
  have oa := ha.pl.one'
  have ob := hb.pl.one'
  obtain ⟨av, hva⟩ := hv.val
  have hlen : lenX Try.prog 24 v = some (.int .i64 n) := by rw [hva]; exact len_L _ _ _
  have hb0 : ofZ zG n (n + 1 - 1) ≠ g0 := by rw [Nat.add_sub_cancel, ofZ_lead]; decide
  simp [h0, h1, hn, oa, ob]
  have u1 : Up m ((m.nw ⟨[va, vb], 1, false, false⟩).rd m.next) := (Up.nw _ _).trans (Up.rd _ _)
  refine rcheck_ok _ (u1.wf hw) (ha.up hw u1) (hb.up hw u1) hb0 fun m2 u2 => ?_
  obtain ⟨b2, hb2⟩ : ∃ x, x = m.next := ⟨_, rfl⟩
  have g2 : m2.at b2 = some ⟨[va, vb], 1, false, false⟩ := by rw [hb2, u2.old _ (by simp)]; simp
  have U2 := u1.trans u2
  have w2 := U2.wf hw
  obtain ⟨N1, hN1⟩ : ∃ x, x = n + 1 := ⟨_, rfl⟩
  have hlb : lenX Try.prog 24 vb = some (.int .i64 N1) := by rw [hN1]; exact hb.pl.len
  have hw1 : IntKind.i64.wrap ((N1 : Int) - 1) = (n : Int) := by
    rw [wrap_pred N1 (by omega) (by omega), hN1]; rfl
  rw [← hb2]
  simp [h1, hn, hlen, g2, hlb, hw1]
  have r2 := Up.rd m2 b2
  refine code_loop_post (poR m v va vb n b2) (poI m v va vb n b2) n (by omega) ⟨0, by omega, by simp [hn], by simp [hd], by simp [h1], by simp, by simp [h1], by simp, by simp, U2.trans r2, by simpa using g2⟩ ?_ ?_
  · clear hn hd h0 h1 hN1
    rintro q fr' m' ⟨i, hiq, f1, f2, k1, k2, k28, k29, k30, hu, hat⟩
    by_cases hi : i < n
    · obtain ⟨b, o, k, x, hvx, _, hbx, _, he⟩ := (hv.px (by omega)).up hw hu
      obtain ⟨hz, hwz⟩ := he i hi
      have e : v = .slice (some ⟨b, o, none⟩) n k := hvx
      have hpz : cwithin (zC i) lim = true := hwz.place ((nz i).mono (by decide) (by decide))
      have hwi := wrap_succ i (by omega)
      rw [e] at k28
      simp [f1, k28, k29, k30, hi, idx_L _ _ _ _ _ _ hi, hbx, hz, run_placed, hpz, hwi]
      exact ⟨q - 1, by omega, i + 1, by omega, by simp [f1], by simp [f2], by simp [k1], by simp [k2], by simp [k28, e], by simp [k29], by simp, hu.trans (Up.rd _ _), by simpa using hat⟩
    · obtain rfl : i = n := by omega
      simp [f1, k29, k30]
      exact ⟨rfl, by simp [f1], by simp [f2], by simp [k1], by simp [k2], hu, hat⟩
  · rintro ⟨e, fr'⟩ m' ⟨he', f1, f2, k1, k2, hu, hat⟩
    obtain rfl : e = .exit 0 := he'
    simp only at f1 f2 k1 k2
    clear hn hd h0 h1
    simp [f1, k2, hat]
    have w' := hu.wf hw
    have r3 := Up.rd m' b2
    have U3 := hu.trans r3
    refine pslope_gen _ (U3.wf hw) (hb.up hw U3) (by omega) (fun t => (sl_bn' nz hn3 t).mono (by decide) rfl) fun m4 vq nq u4 lq pq => ?_
    have U4 := U3.trans u4
    have w4 := U4.wf hw
    have g4 : m4.at b2 = some ⟨[va, vb], 1, false, false⟩ := (r3.trans u4).at hat w'
    obtain ⟨zt, hxt⟩ := (ha.up hw U4).pl.px
    obtain ⟨zs, hxs⟩ := pq.pl.px
    obtain ⟨qC, hqC⟩ : ∃ qC : Nat → C, qC = fun i => cdiv (ctl zt (zC i) (nt - 1) 0) (ctl zs (zC i) (nq - 1) 0) := ⟨_, rfl⟩
    have hv4 := hv.up hw U4
    simp [f1, k1, hlen, extractX]
    refine gives_makeP (by omega) fun cells0 hpc0 => ?_
    obtain ⟨bp, hbp⟩ : ∃ x, x = m4.next := ⟨_, rfl⟩
    rw [← hbp]
    simp [f1, k1, hlen]
    have un := Up.nw m4 ⟨cells0, 2, false, false⟩
    have htn : nt ≤ 4 := by omega
    have hval : ∀ i, i < n → hs nt (tp zG rG n n) (zG i) = gmul (rG i) (dz zG n i) := fun i hi => by
      have h := tp_at (zs := zG) (rs := rG) hi n (Nat.le_refl n)
      rw [if_pos hi] at h
      rw [← h]
      have h3 : ∀ k, n ≤ k → tp zG rG n n k = g0 := tp_ends zG rG n
      by_cases hnn : nt ≤ n
      · exact (hs_more hnn ha.ends).symm
      · exact hs_more (by omega) h3
    have hsl : ∀ i, i < n → hs nq (sl (n + 1) (ofZ zG n)) (zG i) = dz zG n i := fun i hi => by
      rw [← slope_at zG hn3 hi]
      have h3 : ∀ k, n ≤ k → sl (n + 1) (ofZ zG n) k = g0 := fun k hk => sl_ends (n + 1) _ k (by omega)
      by_cases hnn : nq ≤ n
      · exact (hs_more hnn pq.ends).symm
      · exact hs_more (by omega) h3
    obtain ⟨T, hT⟩ : ∃ T : Nat → Prop, T = fun i => WC (ctl zt (zC i) (nt - 1) 0) (hs nt (tp zG rG n n) (zG i)) ∧ WC (ctl zs (zC i) (nq - 1) 0) (hs nq (sl (n + 1) (ofZ zG n)) (zG i)) := ⟨_, rfl⟩
    refine code_loop_post (ppR m4 n bp zC qC T) (ppI m4 v va vb vq n b2 bp zC qC T) n (by omega) ⟨0, cells0, by omega, by simp [f1], by simp [f2], by simp [k2], by simp, by simp, by simp [k1], by simp, by simp, un, by omega, by simp [hbp], ⟨hpc0.1, fun i hi => ?_⟩, fun t ht => by omega⟩ ?_ ?_
    · obtain ⟨q1, q2⟩ := hpc0.2 i hi
      exact ⟨q1, q2⟩
    · clear f1 f2 k1 k2
      rintro q fr2 m5 ⟨i, cells, hiq, f1, f2, k2, k9, k11, k50, k51, k52, hu5, hlo, hat5, hpc, hTi⟩
      by_cases hi : i < n
      · have w5 := hu5.wf w4
        obtain ⟨b, o, k, x, hvx, _, hbx, _, he⟩ := (hv4.px (by omega)).up w4 hu5
        obtain ⟨hz, hwz⟩ := he i hi
        have e : v = .slice (some ⟨b, o, none⟩) n k := hvx
        have hwi := wrap_succ i (by omega)
        have g5 := hu5.at g4 w4
        rw [e] at k50
        simp [f1, k2, k9, k50, k51, k52, hi, idx_L _ _ _ _ _ _ hi, hbx, hz, g5]
        have r5 : Up m5 ((m5.rd b).rd b2) := (Up.rd _ _).trans (Up.rd _ _)
        have U5 := hu5.trans r5
        refine rvalue_gen (za := zt) (zb := zs) _ (U5.wf w4) htn (by omega) ha.ok pq.ok (fun t => tp_bn' nz nr hn3 (Nat.le_refl n) t) (fun t => (sl_bn' nz hn3 t).mono (by decide) rfl) (hxt.up w4 U5) (hxs.up w4 U5) hwz (nz i) (by rw [hsl i hi]; exact dz_no hi hdist) fun m6 u6 wx wy => ?_
        have U6 := U5.trans u6
        have hat6 : m6.at bp = some ⟨cells, 2, false, false⟩ := u6.at (by simpa using hat5) (U5.wf w4)
        simp [f1, k11, k52, extractX, yieldX, boolOf_bool, idx_Q _ _ _ _ _ _ hi]
        have hci : i * 2 + 1 < cells.length := by rw [hpc.1]; omega
        refine storeQ_rule hat6 rfl (by rw [sto_P]; simp) (l := (cells.set (i * 2) (cx (zC i))).set (i * 2 + 1) (cx (cdiv (ctl zt (zC i) (nt - 1) 0) (ctl zs (zC i) (nq - 1) 0)))) (by rw [cells_poV]; exact lay_two _ _ _ _ hci) fun m7 n7 _ e7 => ?_
        simp [f1, k52, hwi]
        refine ⟨q - 1, by omega, i + 1, _, by omega, by simp [f1], by simp [f2], by simp [k2], by simp [k9], by simp [k11], by simp [k50, e], by simp [k51], by simp, U6.wr hlo (U6.wf w4 bp _ hat6) n7 e7, hlo, by rw [e7, if_pos rfl], ?_, fun t ht => ?_⟩
        · have h := hpc.set (zs' := pcF (i + 1) zC) (rs' := pcF (i + 1) qC) hi fun k hk => by
            unfold pcF
            by_cases h : k < i
            · rw [if_pos h, if_pos h, if_pos (by omega), if_pos (by omega)]; exact ⟨rfl, rfl⟩
            · rw [if_neg h, if_neg h, if_neg (by omega), if_neg (by omega)]; exact ⟨rfl, rfl⟩
          have e1 : pcF (i + 1) zC i = zC i := if_pos (by omega)
          have e2 : pcF (i + 1) qC i = qC i := if_pos (by omega)
          rw [e1, e2, hqC] at h
          rw [hqC]
          exact h
        · by_cases hti : t = i
          · subst hti
            rw [hT]
            exact ⟨wx, wy⟩
          · exact hTi t (by omega)
      · obtain rfl : i = n := by omega
        simp [f1, k51, k52]
        refine ⟨rfl, by simp [f1], by simp [f2], by simp [k11], hu5, cells, hat5, ⟨hpc.1, fun t ht => ?_⟩, hTi⟩
        have h := hpc.2 t ht
        unfold pcF at h
        rw [if_pos ht, if_pos ht] at h
        exact h
    · rintro ⟨e, fr2⟩ m5 ⟨he', f1, f2, k11, hu5, cells, hat5, hpc, hTi⟩
      obtain rfl : e = .exit 2 := he'
      simp only at f1 f2 k11
      simp [f1, f2, k11]
      refine hQ m5 _ qC (U4.trans hu5) (.inr ⟨bp, cells, false, rfl, hat5, hpc⟩) fun i hi => ?_
      have h := hTi i hi
      rw [hT] at h
      obtain ⟨h1, h2⟩ := h
      rw [hval i hi] at h1
      rw [hsl i hi] at h2
      exact ⟨_, _, by rw [hqC], h1, h2⟩
end
end Go.Proofs.Ytonmjdhdkkmjlaa

/- The law of chapter 10 in the clean executor: of whole numbers sums, products, slopes are those of the values. -/
import Derived.Test.YtonmjdhdkkmjlaaRL

namespace Go.Proofs.Ytonmjdhdkkmjlaa
open Go.Clean

theorem nine_near10 (x y : Int) : NB (nine x, nine y) 12 := cs8_near (fun i => if i = 0 then x else y) 0
theorem OK4.fq {m : Mem} {va vb : Value} {n k : Nat} {a b : PG} (ha : OK4 n a) (hb : OK4 k b) (pa : PL m va n a) (pb : PL m vb k b) : FQ m va vb n k a b := ⟨ha.rp pa, hb.rp pb, ha.most, hb.most, ha.pb, hb.pb, hb.last⟩
section
set_option maxRecDepth 10000
theorem store_G {m m1 : Mem} {bo : Nat} {va vb : Value} (hw : MW m) (u : Up m m1) (hb : m.next ≤ bo) (hat : m1.at bo = some ⟨[nilL, nilL], 1, false, false⟩) (oa : oneV va = true) (ob : oneV vb = true) (ca : cellsV va = [va]) (cb : cellsV vb = [vb]) {Q : Mem → Prop}
    (h : ∀ m2, m2.next = m1.next → Up m m2 → (∀ c, m2.at c = if c = bo then some ⟨[va, vb], 1, false, false⟩ else m1.at c) → Q m2) :
    storeQ Try.prog 43 (.pointer (some ⟨bo, 0, none⟩)) (frV va vb) m1 Q := by
  refine storeQ_rule (y := ⟨[nilL, nilL], 1, false, false⟩) hat rfl (by rw [sto_F]; simp [oa, ob]) (l := [va, vb]) (by simp [lay]) fun m2 n2 _ e2 => ?_
  exact h m2 n2 (u.wr (b := bo) (x := ⟨[va, vb], 1, false, false⟩) hb (u.wf hw bo _ hat) n2 e2) e2
set_option maxHeartbeats 2000000 in
theorem ratioWhole_ok (e : Nat) {m : Mem} {v1 v2 v3 v4 : Value} {n1 n2 n3 n4 : Nat} {xs1 xs2 xs3 xs4 : Nat → Int} (hw : MW m) (h1 : IL m v1 n1 xs1) (h2 : IL m v2 n2 xs2) (h3 : IL m v3 n3 xs3) (h4 : IL m v4 n4 xs4) (x y : Int) {Q : Value → Mem → Prop} (hQ : ∀ m', Up m m' → Q (.bool true) m') :
    Gives (callN Try.prog known (e + 14) 4 [v1, v2, v3, v4, .int .i64 x, .int .i64 y]) m Q := by
  refine gives_fn (nt := 354) rfl Try.func4 rfl rfl rfl (Nat.le_of_ble_eq_true rfl) fun fr hn hd hargs => ?_
  have g0' : fr.at 0 = _ := hargs 0 _ rfl
  have g1 : fr.at 1 = _ := hargs 1 _ rfl
  have g2 : fr.at 2 = _ := hargs 2 _ rfl
  have g3 : fr.at 3 = _ := hargs 3 _ rfl
  have g4 : fr.at 4 = _ := hargs 4 _ rfl
  have g5 : fr.at 5 = _ := hargs 5 _ rfl
  clear hargs
  simp [hn]
  refine (gives_known (g := M.ret (.bool true)) rfl _ _).2 ((gives_ret _ _ _).2 ?_)
  simp [hn, g0']
  refine whole_ok _ hw h1 fun m1 va n a u1 pa oka => ?_
  have w1 := u1.wf hw
  simp [hn, g1]
  refine whole_ok _ w1 (h2.up hw u1) fun m2 vb k b u2 pb okb => ?_
  have w2 := u2.wf w1
  have U2 := u1.trans u2
  simp [hn]
  refine of10_ok _ pa.one' pb.one' pa.cells pb.cells fun m3 u3 => ?_
  have w3 := u3.wf w2
  have U3 := U2.trans u3
  simp [hn, g2]
  refine whole_ok _ w3 (h3.up hw U3) fun m4 vc p c u4 pc okc => ?_
  have w4 := u4.wf w3
  have U4 := U3.trans u4
  simp [hn, g3]
  refine whole_ok _ w4 (h4.up hw U4) fun m5 vd q d u5 pd okd => ?_
  have w5 := u5.wf w4
  have U5 := U4.trans u5
  simp [hn]
  refine of10_ok _ pc.one' pd.one' pc.cells pd.cells fun m6 u6 => ?_
  have w6 := u6.wf w5
  have U6 := U5.trans u6
  have hf := oka.fq okb (pa.up w1 (u2.trans (u3.trans (u4.trans (u5.trans u6))))) (pb.up w2 (u3.trans (u4.trans (u5.trans u6))))
  have hh := okc.fq okd (pc.up w4 (u5.trans u6)) (pd.up w5 u6)
  simp [hn]
  obtain ⟨bf, hbf⟩ : ∃ bf, bf = m6.next := ⟨_, rfl⟩
  obtain ⟨bg, hbg⟩ : ∃ bg, bg = m6.next + 1 := ⟨_, rfl⟩
  obtain ⟨m7, hm7⟩ : ∃ m7, m7 = (m6.nw ⟨[nilL, nilL], 1, false, false⟩).nw ⟨[nilL, nilL], 1, false, false⟩ := ⟨_, rfl⟩
  have u7 : Up m6 m7 := by rw [hm7]; exact (Up.nw _ _).trans (Up.nw _ _)
  have f7 : m7.at bf = some ⟨[nilL, nilL], 1, false, false⟩ := by rw [hm7, hbf]; simp
  have k7 : m7.at bg = some ⟨[nilL, nilL], 1, false, false⟩ := by rw [hm7, hbg]; simp
  rw [← hm7, ← hbg, ← hbf]
  refine store_G w6 u7 (by omega) f7 pa.one' pb.one' pa.cells pb.cells fun m8 n8 u8 e8 => ?_
  have k8 : m8.at bg = some ⟨[nilL, nilL], 1, false, false⟩ := by rw [e8, if_neg (by omega)]; exact k7
  have f8 : m8.at bf = some ⟨[va, vb], 1, false, false⟩ := by rw [e8, if_pos rfl]
  simp [hn]
  refine store_G w6 u8 (by omega) k8 pc.one' pd.one' pc.cells pd.cells fun m9 n9 u9 e9 => ?_
  have k9 : m9.at bg = some ⟨[vc, vd], 1, false, false⟩ := by rw [e9, if_pos rfl]
  have f9 : m9.at bf = some ⟨[va, vb], 1, false, false⟩ := by rw [e9, if_neg (by omega)]; exact f8
  clear e8 e9
  have w9 := u9.wf w6
  have U9 := U6.trans u9
  have hf := hf.up w6 u9
  have hh := hh.up w6 u9
  have hz : WC (wholeF x, wholeF y) (nine x, nine y) := ⟨WF.whole x, WF.whole y⟩
  have hzn := nine_near10 x y
  simp [hn, g4, g5, run_small10, f9, k9]
  have r9 : Up m9 ((m9.rd bf).rd bg) := (Up.rd _ _).trans (Up.rd _ _)
  refine radd_ok _ (r9.wf w9) (hf.up w9 r9) (hh.up w9 r9) fun m10 vst vsb nst nsb u10 lst hst lsb hsb => ?_
  have d10 := r9.trans u10
  have w10 := d10.wf w9
  simp [hn, extractX]
  refine store_F hst.pl.one' hsb.pl.one' hst.pl.cells hsb.pl.cells fun m11 n11 u11 bs11 => ?_
  have d11 := d10.trans u11
  have w11 := d11.wf w9
  have f11 := d11.at f9 w9
  have k11 := d11.at k9 w9
  simp [hn, f11, k11]
  have r11 : Up m11 ((m11.rd bf).rd bg) := (Up.rd _ _).trans (Up.rd _ _)
  have q11 := d11.trans r11
  refine rmul_ok _ (r11.wf w11) (hf.up w9 q11) (hh.up w9 q11) fun m12 vbt vbb nbt nbb u12 lbt hbt lbb hbb => ?_
  have d12 := r11.trans u12
  have w12 := d12.wf w11
  simp [hn, extractX]
  refine store_F hbt.pl.one' hbb.pl.one' hbt.pl.cells hbb.pl.cells fun m13 n13 u13 bm13 => ?_
  have d13 := d12.trans u13
  have w13 := d13.wf w11
  have D13 := d11.trans d13
  have f13 := D13.at f9 w9
  simp [hn, f13]
  have r13 : Up m13 (m13.rd bf) := Up.rd _ _
  have q13 := D13.trans r13
  refine rslope_ok _ (r13.wf w13) (hf.up w9 q13) fun m14 vlt vlb nlt nlb u14 llt hlt llb hlb => ?_
  have d14 := r13.trans u14
  have w14 := d14.wf w13
  simp [hn, extractX]
  refine store_F hlt.pl.one' hlb.pl.one' hlt.pl.cells hlb.pl.cells fun m15 n15 u15 bl15 => ?_
  have d15 := d14.trans u15
  have w15 := d15.wf w13
  have D15 := D13.trans d15
  have f15 := D15.at f9 w9
  simp [hn, f15]
  have r15 : Up m15 (m15.rd bf) := Up.rd _ _
  have q15 := D15.trans r15
  obtain ⟨za, hxa⟩ := hf.top.pl.px
  obtain ⟨zb, hxb⟩ := hf.bot.pl.px
  refine rturn_ok _ (r15.wf w15) (hf.up w9 q15) oka.last (hxa.up w9 q15) (hxb.up w9 q15) fun m16 vt vu u16 hk hxt hxu => ?_
  have d16 := r15.trans u16
  have w16 := d16.wf w15
  simp [hn, extractX]
  refine store_F hxt.pl.one' hxu.pl.one' hxt.pl.cells hxu.pl.cells fun m17 n17 u17 bk17 => ?_
  have d17 := d16.trans u17
  have w17 := d17.wf w15
  have D17 := D15.trans d17
  simp [hn, -code_seq]
  refine (code_seq _ _ _ _ _).2 ((code_seq _ _ _ _ _).2 ?_)
  simp [hn, yieldX, boolOf_bool, -code_seq]
  have E11 : Up m11 m17 := (d13.trans d15).trans d17
  have E13 : Up m13 m17 := d15.trans d17
  refine via (X := sRn 9 (bodyOf Try.f4)) (by kernel_rfl) (rw_vals e (U9.trans D17) w17 (hf.up w9 D17) oka.last (hxa.up w9 D17) (hxb.up w9 D17) (hh.up w9 D17) (hk.up w16 u17) (hxt.up w16 u17) (hxu.up w16 u17) (D17.at f9 w9) (D17.at k9 w9) (E11.at bs11 w11) (E13.at bm13 w13) (d17.at bl15 w15) bk17
    ((hst.up w10 u11).up w11 E11) lst ((hsb.up w10 u11).up w11 E11) lsb ((hbt.up w12 u13).up w13 E13) lbt ((hbb.up w12 u13).up w13 E13) lbb ((hlt.up w14 u15).up w15 d17) llt ((hlb.up w14 u15).up w15 d17) llb hz hzn ⟨by simp [hn], by simp [hd], by simp, by simp, by simp, by simp, by simp, by simp, by simp⟩ hQ)
end
end Go.Proofs.Ytonmjdhdkkmjlaa

/- The law of chapter 10 in the clean executor: the values are worked out. -/
import Derived.Test.YtonmjdhdkkmjlaaRK
namespace Go.Proofs.Ytonmjdhdkkmjlaa
open Go.Clean

/-! ### What the values are -/
theorem tl_neg (c : PG) (z : G) (n i : Nat) : tl (fun k => gneg (c k)) z n i = gneg (tl c z n i) := by
  have h := tl_sub (fun _ => g0) c z n i
  have e : (fun k => gsub g0 (c k)) = fun k => gneg (c k) := by funext k; exact zero_gsub _
  rw [e, tl_zero (c := fun _ => g0) (fun _ _ => rfl), zero_gsub] at h
  exact h
theorem hs_sum (c d : PG) (z : G) (n : Nat) : hs n (fun k => gadd (c k) (d k)) z = gadd (hs n c z) (hs n d z) := tl_add c d z n 0
theorem hs_neg (c : PG) (z : G) (n : Nat) : hs n (fun k => gneg (c k)) z = gneg (hs n c z) := tl_neg c z n 0
theorem gadd_neg (x y : G) : gadd x (gneg y) = gsub x y := gext (by show _ + -_ = _ - _; omega) (by show _ + -_ = _ - _; omega)
theorem val_prod {a b : PG} {n k n' : Nat} {g : G} (hn : n ≤ 4) (hb : Ends b k) (hk : k ≤ 4) (he : Ends (cv a b n) n') (hn' : n' ≤ 7) : hs n' (cv a b n) g = gmul (hs n a g) (hs k b g) := by
  rw [← hs_more hn' he, hs_cv hb g 7 n (by omega)]
theorem val_sum {a b c d : PG} {n k p q n' : Nat} {g : G} (hn : n ≤ 4) (hp : p ≤ 4) (hd : Ends d q) (hq : q ≤ 4) (hb : Ends b k) (hk : k ≤ 4) (he : Ends (fun i => gadd (cv a d n i) (cv c b p i)) n') (hn' : n' ≤ 7) :
    hs n' (fun i => gadd (cv a d n i) (cv c b p i)) g = gadd (gmul (hs n a g) (hs q d g)) (gmul (hs p c g) (hs k b g)) := by
  rw [← hs_more hn' he, hs_sum, hs_cv hd g 7 n (by omega), hs_cv hb g 7 p (by omega)]
theorem val_slope {a b : PG} {n k n' n1 n2 : Nat} {g : G} (hn : n ≤ 4) (hk : k ≤ 4) (ha : Ends a n) (hb : Ends b k) (he : Ends (fun i => gadd (cv (sl n a) b 4 i) (gneg (cv a (sl k b) 4 i))) n') (hn' : n' ≤ 7) (h1 : Ends (sl n a) n1) (h2 : Ends (sl k b) n2) (hn1 : n1 ≤ 4) (hn2 : n2 ≤ 4) :
    hs n' (fun i => gadd (cv (sl n a) b 4 i) (gneg (cv a (sl k b) 4 i))) g = gsub (gmul (hs n1 (sl n a) g) (hs k b g)) (gmul (hs n a g) (hs n2 (sl k b) g)) := by
  rw [← hs_more hn' he, hs_sum, hs_neg, hs_cv hb g 7 4 (by omega), hs_cv h2 g 7 4 (by omega), ← hs_more hn1 h1, ← hs_more hn ha, gadd_neg]
/-- How great the values are. -/
def B20 : PG := fun _ => (2000000, 0)
theorem b20 {g : G} {t : Nat} (h : BN g (1000000, 0)) : BN g (B20 t) := h.mono (show (1000000 : Int) ≤ 2000000 by decide) rfl
theorem b20' {g : G} {t : Nat} (h : BN g (gadd (1000000, 0) (1000000, 0))) : BN g (B20 t) := h.mono (show (1000000 + 1000000 : Int) ≤ 2000000 by decide) rfl
theorem rB20 : ∀ n, n ≤ 7 → (hs n B20 Z12).1 ≤ top := by decide +kernel
theorem bn_sl {n n1 : Nat} {a : PG} {g : G} (hn : n ≤ 4) (ha : PB a A4) (hg : NB g 12) (hn1 : n1 ≤ 4) : BN (hs n1 (sl n a) g) (1000000, 0) := by
  have h := BN.tl (near12 hg) (c := sl n a) (d := D4) (n := n1) (i := 0) fun k _ => (ha.sl hn).bn _
  exact h.mono (rBD n1 hn1) rfl
section
set_option maxRecDepth 10000
/-- A fraction is kept in a block of its own. -/
theorem store_F {m : Mem} {va vb : Value} (oa : oneV va = true) (ob : oneV vb = true) (ca : cellsV va = [va]) (cb : cellsV vb = [vb]) {Q : Mem → Prop} (h : ∀ m2, m2.next = m.next + 1 → Up m m2 → m2.at m.next = some ⟨[va, vb], 1, false, false⟩ → Q m2) :
    storeQ Try.prog 43 (.pointer (some ⟨m.next, 0, none⟩)) (frV va vb) (m.nw ⟨[nilL, nilL], 1, false, false⟩) Q := by
  refine storeQ_rule (y := ⟨[nilL, nilL], 1, false, false⟩) (by simp) rfl (by rw [sto_F]; simp [oa, ob]) (l := [va, vb]) (by simp [lay]) fun m2 n2 _ e2 => ?_
  simp only [Mem.next_nw, Mem.at_nw] at n2 e2
  have u : Up m m2 := (Up.nw m ⟨[nilL, nilL], 1, false, false⟩).wr (b := m.next) (x := ⟨[va, vb], 1, false, false⟩) (Nat.le_refl _) (by simp) (by simpa using n2) (fun c => by rw [e2, Mem.at_nw])
  exact h m2 n2 u (by rw [e2, if_pos rfl])
/-- The frame before the values. -/
structure VF (fr : Fr) (bf bg bs bm bl bk : Nat) (z : C) : Prop where
  n : fr.n = 354
  d : fr.d = []
  f14 : fr.at 14 = .pointer (some ⟨bf, 0, none⟩)
  f15 : fr.at 15 = .pointer (some ⟨bg, 0, none⟩)
  f16 : fr.at 16 = cx z
  f17 : fr.at 17 = .pointer (some ⟨bs, 0, none⟩)
  f19 : fr.at 19 = .pointer (some ⟨bm, 0, none⟩)
  f21 : fr.at 21 = .pointer (some ⟨bl, 0, none⟩)
  f23 : fr.at 23 = .pointer (some ⟨bk, 0, none⟩)
set_option maxHeartbeats 2000000 in
theorem rw_vals (e : Nat) {fr : Fr} {m0 m : Mem} {va vb vc vd vt vu vst vsb vbt vbb vlt vlb : Value} {n k p q nst nsb nbt nbb nlt nlb bf bg bs bm bl bk : Nat} {a b c d : PG} {za zb : Nat → C} {z : C} {g : G}
    (hu0 : Up m0 m) (hw : MW m) (hf : FQ m va vb n k a b) (ha0 : a (n - 1) ≠ g0) (hxa : PX m va n za a) (hxb : PX m vb k zb b) (hh : FQ m vc vd p q c d) (hk : FQ m vt vu k n b a) (hxt : PX m vt k zb b) (hxu : PX m vu n za a)
    (hbf : m.at bf = some ⟨[va, vb], 1, false, false⟩) (hbg : m.at bg = some ⟨[vc, vd], 1, false, false⟩) (hbs : m.at bs = some ⟨[vst, vsb], 1, false, false⟩) (hbm : m.at bm = some ⟨[vbt, vbb], 1, false, false⟩) (hbl : m.at bl = some ⟨[vlt, vlb], 1, false, false⟩) (hbk : m.at bk = some ⟨[vt, vu], 1, false, false⟩)
    (hst : RP m vst nst fun i => gadd (cv a d n i) (cv c b p i)) (nst7 : nst ≤ 7) (hsb : RP m vsb nsb (cv b d k)) (nsb7 : nsb ≤ 7) (hbt : RP m vbt nbt (cv a c n)) (nbt7 : nbt ≤ 7) (hbb : RP m vbb nbb (cv b d k)) (nbb7 : nbb ≤ 7)
    (hlt : RP m vlt nlt fun i => gadd (cv (sl n a) b 4 i) (gneg (cv a (sl k b) 4 i))) (nlt7 : nlt ≤ 7) (hlb : RP m vlb nlb (cv b b k)) (nlb7 : nlb ≤ 7)
    (hz : WC z g) (hg : NB g 12) (F : VF fr bf bg bs bm bl bk z) {Q : Value → Mem → Prop} (hQ : ∀ m', Up m0 m' → Q (.bool true) m') :
    Gives (codeX Try.prog (callN Try.prog known (e + 13)) (sRn 9 (bodyOf Try.f4)) fr) m (fnQ Try.prog [.tmp 12] Q) := by
  have hnn : fr.n = 354 := F.n
  have t1 := hf.tn
  have t2 := hf.bk
  have t3 := hh.tn
  have t4 := hh.bk
  have hgf : NB g far := hg.mono (by decide) (by decide)
  have hone : (1 : Int) ≤ Z12.1 := by decide
  have hsmall : ∀ n, n ≤ 4 → (hs n A4 Z12).1 ≤ top := fun n hn => Int.le_trans (rB n hn) (by decide)
  have hsmallD : ∀ n, n ≤ 4 → (hs n D4 Z12).1 ≤ top := fun n hn => Int.le_trans (rBD n hn) (by decide)
  refine via (X := .seq (.region _ _ _) _) rfl ?_
  simp [hnn, F.f23, hbk]
  have r1 := Up.rd m bk
  refine rturn_ok _ (r1.wf hw) (hk.up hw r1) hf.b0 (hxt.up hw r1) (hxu.up hw r1) fun m1 vw vx u1 hk1 hx1 hy1 => ?_
  have U1 := r1.trans u1
  have w1 := U1.wf hw
  simp [hnn, extractX]
  refine store_F hx1.pl.one' hy1.pl.one' hx1.pl.cells hy1.pl.cells fun m2 n2 u2 hba => ?_
  have U2 := U1.trans u2
  have w2 := U2.wf hw
  have c2 := U2.at hbf hw
  simp [hnn, F.f14, F.f16, c2, extractX]
  have r2 := U2.trans (Up.rd m2 bf)
  refine at10_ok _ (r2.wf hw) (hxa.up hw r2) hf.top.ok hz hgf hf.ta.bn (near12 hg) hone (hsmall n t1) fun m3 u3 wp => ?_
  have U3 := r2.trans u3
  have a3 := (Up.rd m2 bf).trans u3
  have w3 := U3.wf hw
  have c3 := U3.at hbf hw
  simp [hnn, F.f14, F.f16, c3, extractX]
  have r3 := U3.trans (Up.rd m3 bf)
  refine at10_ok _ (r3.wf hw) (hxb.up hw r3) hf.bot.ok hz hgf hf.tb.bn (near12 hg) hone (hsmall k t2) fun m4 u4 wq => ?_
  have U4 := r3.trans u4
  have a4 := (Up.rd m3 bf).trans u4
  have w4 := U4.wf hw
  have c4 := U4.at hbg hw
  simp [hnn, F.f15, F.f16, c4, extractX]
  have r4 := U4.trans (Up.rd m4 bg)
  refine at10_rp _ (r4.wf hw) (hh.top.up hw r4) hz hgf hh.ta.bn (near12 hg) hone (hsmall p t3) fun m5 xr u5 wr => ?_
  have U5 := r4.trans u5
  have a5 := (Up.rd m4 bg).trans u5
  have w5 := U5.wf hw
  have c5 := U5.at hbg hw
  simp [hnn, F.f15, F.f16, c5, extractX]
  have r5 := U5.trans (Up.rd m5 bg)
  refine at10_rp _ (r5.wf hw) (hh.bot.up hw r5) hz hgf hh.tb.bn (near12 hg) hone (hsmall q t4) fun m6 xs u6 ws => ?_
  have U6 := r5.trans u6
  have a6 := (Up.rd m5 bg).trans u6
  have w6 := U6.wf hw
  have c6 := U6.at hbf hw
  simp [hnn, F.f14, c6, extractX]
  have r6 := U6.trans (Up.rd m6 bf)
  refine pslope_ok _ (r6.wf hw) (hf.top.up hw r6) t1 hf.ta fun m7 vdu ndu u7 ldu hdu => ?_
  have U7 := r6.trans u7
  have a7 := (Up.rd m6 bf).trans u7
  have w7 := U7.wf hw
  have c7 := U7.at hbf hw
  simp [hnn, F.f14, c7, extractX]
  have r7 := U7.trans (Up.rd m7 bf)
  refine pslope_ok _ (r7.wf hw) (hf.bot.up hw r7) t2 hf.tb fun m8 vdv ndv u8 ldv hdv => ?_
  have U8 := r7.trans u8
  have a8 := (Up.rd m7 bf).trans u8
  have w8 := U8.wf hw
  simp [hnn, F.f16, extractX]
  have r8 := U8
  have k7 := a8
  refine at10_rp _ (r8.wf hw) (hdu.up w7 k7) hz hgf (hf.ta.sl t1).bn (near12 hg) hone (hsmallD ndu (by omega)) fun m9 xu u9 wu => ?_
  have U9 := r8.trans u9
  have a9 := u9
  have w9 := U9.wf hw
  simp [hnn, F.f16, extractX]
  have r9 := U9
  have k8 := a9
  refine at10_rp _ (r9.wf hw) (hdv.up w8 k8) hz hgf (hf.tb.sl t2).bn (near12 hg) hone (hsmallD ndv (by omega)) fun m10 xv u10 wv => ?_
  have U10 := r9.trans u10
  have a10 := u10
  have w10 := U10.wf hw
  have c10 := U10.at hbs hw
  simp [hnn, F.f17, F.f16, c10, extractX]
  have r10 := U10.trans (Up.rd m10 bs)
  refine at10_rp _ (r10.wf hw) (hst.up hw r10) hz hgf (D := B20) (fun t => b20' ((hf.ta.cv hh.tb rAA n t).add (hh.ta.cv hf.tb rAA p t))) (near12 hg) hone (rB20 nst nst7) fun m11 xst u11 wst => ?_
  have U11 := r10.trans u11
  have a11 := (Up.rd m10 bs).trans u11
  have w11 := U11.wf hw
  have c11 := U11.at hbs hw
  simp [hnn, F.f17, F.f16, c11, extractX]
  have r11 := U11.trans (Up.rd m11 bs)
  refine at10_rp _ (r11.wf hw) (hsb.up hw r11) hz hgf (D := B20) (fun t => b20 (hf.tb.cv hh.tb rAA k t)) (near12 hg) hone (rB20 nsb nsb7) fun m12 xsb u12 wsb => ?_
  have U12 := r11.trans u12
  have a12 := (Up.rd m11 bs).trans u12
  have w12 := U12.wf hw
  have c12 := U12.at hbm hw
  simp [hnn, F.f19, F.f16, c12, extractX]
  have r12 := U12.trans (Up.rd m12 bm)
  refine at10_rp _ (r12.wf hw) (hbt.up hw r12) hz hgf (D := B20) (fun t => b20 (hf.ta.cv hh.ta rAA n t)) (near12 hg) hone (rB20 nbt nbt7) fun m13 xbt u13 wbt => ?_
  have U13 := r12.trans u13
  have a13 := (Up.rd m12 bm).trans u13
  have w13 := U13.wf hw
  have c13 := U13.at hbm hw
  simp [hnn, F.f19, F.f16, c13, extractX]
  have r13 := U13.trans (Up.rd m13 bm)
  refine at10_rp _ (r13.wf hw) (hbb.up hw r13) hz hgf (D := B20) (fun t => b20 (hf.tb.cv hh.tb rAA k t)) (near12 hg) hone (rB20 nbb nbb7) fun m14 xbb u14 wbb => ?_
  have U14 := r13.trans u14
  have a14 := (Up.rd m13 bm).trans u14
  have w14 := U14.wf hw
  have c14 := U14.at hbl hw
  simp [hnn, F.f21, F.f16, c14, extractX]
  have r14 := U14.trans (Up.rd m14 bl)
  refine at10_rp _ (r14.wf hw) (hlt.up hw r14) hz hgf (D := B20) (fun t => b20' (((hf.ta.sl t1).cv hf.tb rDA 4 t).add (hf.ta.cv (hf.tb.sl t2) rAD 4 t).neg)) (near12 hg) hone (rB20 nlt nlt7) fun m15 xlt u15 wlt => ?_
  have U15 := r14.trans u15
  have a15 := (Up.rd m14 bl).trans u15
  have w15 := U15.wf hw
  have c15 := U15.at hbl hw
  simp [hnn, F.f21, F.f16, c15, extractX]
  have r15 := U15.trans (Up.rd m15 bl)
  refine at10_rp _ (r15.wf hw) (hlb.up hw r15) hz hgf (D := B20) (fun t => b20 (hf.tb.cv hf.tb rAA k t)) (near12 hg) hone (rB20 nlb nlb7) fun m16 xlb u16 wlb => ?_
  have U16 := r15.trans u16
  have a16 := (Up.rd m15 bl).trans u16
  have w16 := U16.wf hw
  simp [hnn, extractX, -code_seq]
  have Z2 : Up m2 m16 := (((((((((((((a3).trans a4).trans a5).trans a6).trans a7).trans a8).trans a9).trans a10).trans a11).trans a12).trans a13).trans a14).trans a15).trans a16
  have Z1 : Up m1 m16 := u2.trans Z2
  have est := val_sum (g := g) t1 t3 hh.bot.ends t4 hf.bot.ends t2 hst.ends nst7
  have esb := val_prod (g := g) t2 hh.bot.ends t4 hsb.ends nsb7
  have ebt := val_prod (g := g) t1 hh.top.ends t3 hbt.ends nbt7
  have ebb := val_prod (g := g) t2 hh.bot.ends t4 hbb.ends nbb7
  have elt := val_slope (g := g) t1 t2 hf.top.ends hf.bot.ends hlt.ends nlt7 hdu.ends hdv.ends (by omega) (by omega)
  have elb := val_prod (g := g) t2 hf.bot.ends t2 hlb.ends nlb7
  rw [est] at wst
  rw [esb] at wsb
  rw [ebt] at wbt
  rw [ebb] at wbb
  rw [elt] at wlt
  rw [elb] at wlb
  refine via (X := sRn 24 (bodyOf Try.f4)) (by kernel_rfl) (rw_chk e (hu0.trans U16) w16 (hf.up hw U16) (hxa.up hw U16) (hxb.up hw U16) (hx1.up w1 Z1) (hy1.up w1 Z1) (U16.at hbf hw) (Z2.at hba w2) hz hg rfl rfl rfl rfl ⟨by simp [hnn], by simp [F.d], by simp [F.f14], by simp [F.f16], by simp, by simp, by simp, by simp, by simp, by simp, by simp, by simp, by simp, by simp, by simp, by simp, by simp, by simp, by simp, by simp, by simp, by simp, by simp, by simp, by simp, by simp, by simp, by simp, by simp, by simp, by simp, by simp⟩
    ⟨wp, wq, wr, ws, wu, wv, wst, wsb, wbt, wbb, wlt, wlb, bn_val t1 hf.ta hg, bn_val t2 hf.tb hg, bn_val t3 hh.ta hg, bn_val t4 hh.tb hg, bn_sl t1 hf.ta hg (by omega), bn_sl t2 hf.tb hg (by omega)⟩ hQ)
end
end Go.Proofs.Ytonmjdhdkkmjlaa

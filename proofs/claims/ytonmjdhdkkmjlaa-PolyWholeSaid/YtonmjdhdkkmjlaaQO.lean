/- The law of chapter 8 in the clean executor: the values of a sum, a product, a shift. -/
import Derived.Test.YtonmjdhdkkmjlaaQN
namespace Go.Proofs.Ytonmjdhdkkmjlaa
open Go.Clean

section
set_option maxRecDepth 10000
theorem hs_to {c : PG} {z : G} {n N : Nat} (h : Ends c n) (hn : n ≤ N) : hs n c z = hs N c z := (hs_more hn h).symm
theorem pw_vals (d : Nat) {fr : Fr} {m0 m : Mem} {va vb vs vp vh : Value} {ba na bb nb ns np nh : Nat} {a b : PG} {z y : C} {g w : G} (hu0 : Up m0 m) (hw : MW m) (ha : OW m va ba na a) (hb : OW m vb bb nb b) (hne : ba ≠ bb) (hb0 : m0.next ≤ bb)
    (hs : RP m vs ns fun i => gadd (a i) (b i)) (hns : ns ≤ 7) (hp : RP m vp np (cv a b na)) (hnp : np ≤ 13) (hh : RP m vh nh (sh (na - 1) w a (na - 1))) (hnh : nh ≤ na) (hz : WC z g) (hg : NB g 12) (hy : WC y w) (hwn : NB w 12)
    (f1 : fr.n = 184) (f2 : fr.d = []) (f14 : fr.at 14 = va) (f15 : fr.at 15 = vb) (f16 : fr.at 16 = cx z) (f17 : fr.at 17 = cx y) (f18 : fr.at 18 = vs) (f20 : fr.at 20 = vp) (f22 : fr.at 22 = vh) {Q : Value → Mem → Prop} (hQ : ∀ m', Up m0 m' → Q (.bool true) m') :
    Gives (codeX Try.prog (callN Try.prog known (d + 12)) (sRn 11 (bodyOf Try.f3)) fr) m (fnQ Try.prog [.tmp 12] Q) := by
  have hoka := ha.ok
  have hokb := hb.ok
  have h7 := hoka.most
  have h0 := hoka.pos
  have k7 := hokb.most
  have hgf : NB g far := hg.mono (by decide) (by decide)
  have hone : (1 : Int) ≤ Z12.1 := by decide
  refine via (X := .seq (.region _ _ _) _) rfl ?_
  simp [f1, f14, f16]
  refine at8_ok _ hw ha.rp hz hgf hoka.bn (near12 hg) hone (t1 na h7) fun m1 u1 hu1 hw1 => ?_
  have hm1 := hu1.wf hw
  simp [f1, f15, f16]
  refine at8_ok _ hm1 (hb.rp.up hw hu1) hz hgf hokb.bn (near12 hg) hone (t1 nb k7) fun m2 u2 hu2 hw2 => ?_
  have hm2 := hu2.wf hm1
  have hU2 := hu1.trans hu2
  simp [f1, -code_seq]
  refine (code_seq _ _ _ _ _).2 ((code_seq _ _ _ _ _).2 (region_hid fun ops hops => ?_))
  have y8 : ∀ fr, yieldX ops fr 8 = boolOf (fr.at 91) := fun fr => by rw [hops]; rfl
  have y18 : ∀ fr, yieldX ops fr 18 = boolOf (fr.at 101) := fun fr => by rw [hops]; rfl
  clear hops
  iterate 3 (refine (steps_cons _ _ _ _ _ _).2 ?_; simp [f1, f16, f18, -steps_cons])
  have hsum : ∀ t, BN (gadd (a t) (b t)) (gadd (A12 t) (A12 t)) := fun t => (hoka.bn t).add (hokb.bn t)
  refine at8_ok _ hm2 (hs.up hw hU2) hz hgf hsum (near12 hg) hone (t3 ns hns) fun m3 u3 hu3 hw3 => ?_
  have hm3 := hu3.wf hm2
  have hU3 := hU2.trans hu3
  have e1 : gadd (Ytonmjdhdkkmjlaa.hs na a g) (Ytonmjdhdkkmjlaa.hs nb b g) = Ytonmjdhdkkmjlaa.hs 7 (fun i => gadd (a i) (b i)) g := by
    rw [hs_to hoka.ends h7, hs_to hokb.ends k7]
    exact (tl_add a b g 7 0).symm
  have hadd : WC (cadd u1 u2) (gadd (Ytonmjdhdkkmjlaa.hs na a g) (Ytonmjdhdkkmjlaa.hs nb b g)) := by
    refine hw1.addB hw2 (b := Ytonmjdhdkkmjlaa.hs 7 (fun k => gadd (A12 k) (A12 k)) Z12) ?_ (t3 7 (Nat.le_refl _))
    rw [e1]
    exact BN.tl (near12 hg) fun t _ => hsum _
  rw [hs_to hs.ends hns, ← e1] at hw3
  simp [f1, -steps_cons]
  iterate 6 (refine (steps_cons _ _ _ _ _ _).2 ?_; simp [f1, f16, f18, f20, -steps_cons, run_add, run_Like _ _ _ hw3 hadd, y8, boolOf_bool])
  iterate 3 (refine (steps_cons _ _ _ _ _ _).2 ?_; simp [f1, f16, f20, -steps_cons, y8, boolOf_bool])
  refine at8_ok _ hm3 (hp.up hw hU3) hz hgf (hoka.bcv hokb na) (near12 hg) hone (t4 na h7 np hnp) fun m4 u4 hu4 hw4 => ?_
  have hm4 := hu4.wf hm3
  have hU4 := hU3.trans hu4
  have hmul : WC (cmul u1 u2) (gmul (Ytonmjdhdkkmjlaa.hs na a g) (Ytonmjdhdkkmjlaa.hs nb b g)) := hw1.mulB hw2 (BN.tl (near12 hg) fun t _ => hoka.bn _) (BN.tl (near12 hg) fun t _ => hokb.bn _) (t11 na h7 nb k7)
  rw [hs_to hp.ends hnp, hs_cv hokb.ends g 13 na (by omega)] at hw4
  simp [f1, -steps_cons]
  iterate 9 (refine (steps_cons _ _ _ _ _ _).2 ?_; simp [f1, f16, f22, -steps_cons, run_mul, run_Like _ _ _ hw4 hmul, y8, y18, boolOf_bool])
  refine (steps_cons _ _ _ _ _ _).2 ?_
  simp [f1, -steps_cons, y18, boolOf_bool]
  refine at8_ok _ hm4 (hh.up hw hU4) hz hgf (fun t => hoka.bsh hwn (na - 1) t) (near12 hg) hone (t8 na h7 nh hnh) fun m5 u5 hu5 hw5 => ?_
  have hm5 := hu5.wf hm4
  have hU5 := hU4.trans hu5
  have e2 : Ytonmjdhdkkmjlaa.hs na (sh (na - 1) w a (na - 1)) g = Ytonmjdhdkkmjlaa.hs na a (gadd g w) := by
    have := hs_sh (na - 1) w g a
    rw [show na - 1 + 1 = na by omega] at this
    exact this
  rw [hs_to hh.ends hnh, e2] at hw5
  have hgw : BN (gadd g w) Z24 := (near12 hg).add (near12 hwn)
  have hzy : WC (cadd z y) (gadd g w) := hz.addB hy hgw (by decide)
  simp [f1, -steps_cons]
  iterate 4 (refine (steps_cons _ _ _ _ _ _).2 ?_; simp [f1, f14, f16, f17, -steps_cons, run_add, y18, boolOf_bool])
  refine (steps_cons _ _ _ _ _ _).2 ?_
  simp [f1, -steps_cons, y18, boolOf_bool]
  refine at8_ok _ hm5 (ha.rp.up hw hU5) hzy (hgw.2.2.mono hgw.1 (by decide)) hoka.bn hgw (by decide) (t2 na h7) fun m6 u6 hu6 hw6 => ?_
  have hm6 := hu6.wf hm5
  have hU6 := hU5.trans hu6
  simp [f1, -steps_cons]
  iterate 3 (refine (steps_cons _ _ _ _ _ _).2 ?_; simp [f1, -steps_cons, -code_seq, run_Like _ _ _ hw5 hw6, y18, boolOf_bool])
  refine via (X := sRn 14 (bodyOf Try.f3)) (by kernel_rfl) (pw_div d (hu0.trans hU6) hm6 (ha.up hw hU6) (hb.up hw hU6) hne hb0 ?_ ?_ ?_ ?_ hQ)
  · simp [f1]
  · simp [f2]
  · simp [f14]
  · simp [f15]
end
end Go.Proofs.Ytonmjdhdkkmjlaa

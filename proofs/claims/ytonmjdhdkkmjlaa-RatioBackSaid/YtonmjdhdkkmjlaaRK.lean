/- The law of chapter 10 in the clean executor: the values are told: from the end. -/
import Derived.Test.YtonmjdhdkkmjlaaRI
namespace Go.Proofs.Ytonmjdhdkkmjlaa
open Go.Clean

theorem WC.ceq {x y : C} {g : G} (hx : WC x g) (hy : WC y g) : (feq x.1 y.1 && feq x.2 y.2) = true := by
  rw [hx.1.eq hy.1, hx.2.eq hy.2]; simp
theorem bin_ceq_yes {P : Program} {t : TypeId} {xo yo : Operand} {x y : C} {g : G} (hx : WC x g) (hy : WC y g) : binX P .eql t xo yo (cx x) (cx y) = some (.bool true) := by
  rw [bin_ceq, hx.ceq hy]
/-- The frame at the law's checks. -/
structure CF (fr : Fr) (bf ba : Nat) (z p q r s u v st sb bt bb lt lb : C) : Prop where
  n : fr.n = 354
  d : fr.d = []
  f14 : fr.at 14 = .pointer (some ⟨bf, 0, none⟩)
  f16 : fr.at 16 = cx z
  f25 : fr.at 25 = .pointer (some ⟨ba, 0, none⟩)
  f26 : fr.at 26 = .int .i64 0
  f36 : fr.at 36 = .int .i64 0
  f38 : fr.at 38 = .int .i64 0
  f28 : fr.at 28 = .bool true
  f30 : fr.at 30 = .bool true
  f32 : fr.at 32 = .bool true
  f34 : fr.at 34 = .bool true
  f40 : fr.at 40 = .bool true
  f42 : fr.at 42 = .bool true
  f44 : fr.at 44 = .bool true
  f46 : fr.at 46 = .bool true
  f48 : fr.at 48 = .bool true
  f50 : fr.at 50 = .bool true
  f52 : fr.at 52 = .bool true
  f54 : fr.at 54 = .bool true
  f27 : fr.at 27 = cx p
  f29 : fr.at 29 = cx q
  f31 : fr.at 31 = cx r
  f33 : fr.at 33 = cx s
  f39 : fr.at 39 = cx u
  f41 : fr.at 41 = cx v
  f43 : fr.at 43 = cx st
  f45 : fr.at 45 = cx sb
  f47 : fr.at 47 = cx bt
  f49 : fr.at 49 = cx bb
  f51 : fr.at 51 = cx lt
  f53 : fr.at 53 = cx lb
/-- The values' whole numbers. -/
structure CW (p q r s u v st sb bt bb lt lb : C) (P Q R S U V : G) : Prop where
  p : WC p P
  q : WC q Q
  r : WC r R
  s : WC s S
  u : WC u U
  v : WC v V
  st : WC st (gadd (gmul P S) (gmul R Q))
  sb : WC sb (gmul Q S)
  bt : WC bt (gmul P R)
  bb : WC bb (gmul Q S)
  lt : WC lt (gsub (gmul U Q) (gmul P V))
  lb : WC lb (gmul Q Q)
  bp : BN P (100000, 0)
  bq : BN Q (100000, 0)
  br : BN R (100000, 0)
  bs : BN S (100000, 0)
  bu : BN U (1000000, 0)
  bv : BN V (1000000, 0)
section
set_option maxRecDepth 10000
set_option maxHeartbeats 1000000 in
theorem rw_end (e : Nat) {fr : Fr} {m0 m : Mem} {va vb : Value} {n k bf ba : Nat} {a b : PG} {za zb : Nat → C} {z p q r s u v st sb bt bb lt lb : C} {P Qg R S U V g : G} (hu0 : Up m0 m) (hw : MW m) (hf : FQ m va vb n k a b) (hxa : PX m va n za a) (hxb : PX m vb k zb b) {vc vd : Value} (hya : PX m vc n za a) (hyb : PX m vd k zb b)
    (hbf : m.at bf = some ⟨[va, vb], 1, false, false⟩) (hba : m.at ba = some ⟨[vc, vd], 1, false, false⟩) (hz : WC z g) (hg : NB g 12) (hp : p = ctl za z (n - 1) 0) (hq : q = ctl zb z (k - 1) 0) (hP : P = hs n a g) (hQg : Qg = hs k b g)
    (F : CF fr bf ba z p q r s u v st sb bt bb lt lb) (W : CW p q r s u v st sb bt bb lt lb P Qg R S U V) {Q : Value → Mem → Prop} (hQ : ∀ m', Up m0 m' → Q (.bool true) m') :
    Gives (codeX Try.prog (callN Try.prog known (e + 13)) (sRn 25 (bodyOf Try.f4)) fr) m (fnQ Try.prog [.tmp 12] Q) := by
  have hnn : fr.n = 354 := F.n
  have ht1 : (gmul (100000, 0) (100000, 0) : G).1 ≤ top := by decide
  have ht2 : (gmul (1000000, 0) (100000, 0) : G).1 ≤ top := by decide
  have ht3 : (gmul (100000, 0) (1000000, 0) : G).1 ≤ top := by decide
  have hps := W.p.mulB W.s W.bp W.bs ht1
  have hrq := W.r.mulB W.q W.br W.bq ht1
  have hqs := W.q.mulB W.s W.bq W.bs ht1
  have hpr := W.p.mulB W.r W.bp W.br ht1
  have huq := W.u.mulB W.q W.bu W.bq ht2
  have hpv := W.p.mulB W.v W.bp W.bv ht3
  have hqq := W.q.mulB W.q W.bq W.bq ht1
  have hadd : WC (cadd (cmul p s) (cmul r q)) (gadd (gmul P S) (gmul R Qg)) := hps.addB hrq ((W.bp.mul W.bs).add (W.br.mul W.bq)) (by decide)
  have hsub : WC (csub (cmul u q) (cmul p v)) (gsub (gmul U Qg) (gmul P V)) := huq.subB hpv ((W.bu.mul W.bq).sub (W.bp.mul W.bv)) (by decide)
  refine via (X := .seq (.region _ _ _) _) rfl ?_
  refine (code_seq _ _ _ _ _).2 (region_hid fun ops hops => ?_)
  have y9 : ∀ fr, yieldX ops fr 9 = boolOf (fr.at 281) := fun fr => by rw [hops]; rfl
  have y16 : ∀ fr, yieldX ops fr 16 = boolOf (fr.at 288) := fun fr => by rw [hops]; rfl
  have y23 : ∀ fr, yieldX ops fr 23 = boolOf (fr.at 295) := fun fr => by rw [hops]; rfl
  clear hops
  iterate 31 (refine (steps_cons _ _ _ _ _ _).2 ?_; simp [hnn, F.f27, F.f29, F.f31, F.f33, F.f43, F.f45, F.f47, F.f49, run_mul, bin_cadd hadd, bin_ceq_yes W.st hadd, bin_ceq_yes W.sb hqs, bin_ceq_yes W.bt hpr, bin_ceq_yes W.bb hqs, boolOf_bool, -code_seq, -steps_cons, y9, y16, y23])
  refine (code_seq _ _ _ _ _).2 (region_hid fun ops hops => ?_)
  have y9 : ∀ fr, yieldX ops fr 9 = boolOf (fr.at 311) := fun fr => by rw [hops]; rfl
  have y16 : ∀ fr, yieldX ops fr 16 = boolOf (fr.at 318) := fun fr => by rw [hops]; rfl
  clear hops
  iterate 17 (refine (steps_cons _ _ _ _ _ _).2 ?_; simp [hnn, F.f27, F.f29, F.f39, F.f41, F.f51, F.f53, run_mul, bin_csub hsub, bin_ceq_yes W.lt hsub, bin_ceq_yes W.lb hqq, boolOf_bool, -code_seq, -steps_cons, y9, y16])
  iterate 3 (refine (steps_cons _ _ _ _ _ _).2 ?_; simp [hnn, F.f14, F.f25, hba, hbf, boolOf_bool, -code_seq, -steps_cons, y9, y16])
  have r1 : Up m ((m.rd ba).rd bf) := (Up.rd _ _).trans (Up.rd _ _)
  have t1 := hf.tn
  have t2 := hf.bk
  refine fsame_ok _ (r1.wf hw) (hya.up hw r1) (hyb.up hw r1) (hxa.up hw r1) (hxb.up hw r1) (by omega) (by omega) fun m2 u2 => ?_
  have U2 := r1.trans u2
  have w2 := U2.wf hw
  have g2 := U2.at hbf hw
  simp [hnn, boolOf_bool, -code_seq, -steps_cons, y16]
  iterate 2 (refine (steps_cons _ _ _ _ _ _).2 ?_; simp [hnn, boolOf_bool, -code_seq, -steps_cons, y16])
  refine (code_seq _ _ _ _ _).2 ?_
  simp [hnn, F.f14, F.f16, g2, -code_seq]
  have r3 : Up m2 (m2.rd bf) := Up.rd _ _
  have U3 := U2.trans r3
  have hbz : cnought q = decide (Qg = g0) := W.q.nought
  refine rat_ok _ (U3.wf hw) (hf.up hw U3) (hxa.up hw U3) (hxb.up hw U3) hz hg (fun h0 m3 u3 => ?_) fun h0 m3 u3 => ?_
  · rw [← hQg] at h0
    rw [decide_eq_true h0] at hbz
    have hbz' : (feq q.1 (some 0) && feq q.2 (some 0)) = true := hbz
    simp [hnn, F.f29, extractX, cx_zero, bin_ceq, hbz', -Bool.and_eq_true, -code_seq]
    refine (code_seq _ _ _ _ _).2 ?_
    simp [hnn, F.f29, extractX, cx_zero, bin_ceq, hbz', -Bool.and_eq_true, yieldX, F.d]
    exact hQ _ (hu0.trans (U3.trans u3))
  · rw [← hQg] at h0
    rw [decide_eq_false h0] at hbz
    have hbz' : (feq q.1 (some 0) && feq q.2 (some 0)) = false := hbz
    rw [← hp, ← hq]
    have hP40 : NB P (2 ^ 40) := nb_of W.bp (by decide)
    have hQ40 : NB Qg (2 ^ 40) := nb_of W.bq (by decide)
    have hfin := cdiv_fin W.p W.q h0 hP40 hQ40
    have hnum : NumC (cdiv p q) := by
      unfold cfin at hfin
      rw [Bool.and_eq_true] at hfin
      exact ⟨fin_num hfin.1, fin_num hfin.2⟩
    simp [hnn, F.f29, extractX, cx_zero, bin_ceq, hbz', -Bool.and_eq_true, -code_seq]
    refine (code_seq _ _ _ _ _).2 ((code_seq _ _ _ _ _).2 ?_)
    simp [hnn, F.f29, extractX, cx_zero, bin_ceq, hbz', -Bool.and_eq_true, -code_seq]
    refine (code_seq _ _ _ _ _).2 ?_
    simp [hnn, F.f27, F.f29, extractX, yieldX, boolOf_bool, run_div, run_psame _ hnum, F.d]
    exact hQ _ (hu0.trans (U3.trans u3))
set_option maxHeartbeats 1000000 in
theorem rw_chk (e : Nat) {fr : Fr} {m0 m : Mem} {va vb : Value} {n k bf ba : Nat} {a b : PG} {za zb : Nat → C} {z p q r s u v st sb bt bb lt lb : C} {P Qg R S U V g : G} (hu0 : Up m0 m) (hw : MW m) (hf : FQ m va vb n k a b) (hxa : PX m va n za a) (hxb : PX m vb k zb b) {vc vd : Value} (hya : PX m vc n za a) (hyb : PX m vd k zb b)
    (hbf : m.at bf = some ⟨[va, vb], 1, false, false⟩) (hba : m.at ba = some ⟨[vc, vd], 1, false, false⟩) (hz : WC z g) (hg : NB g 12) (hp : p = ctl za z (n - 1) 0) (hq : q = ctl zb z (k - 1) 0) (hP : P = hs n a g) (hQg : Qg = hs k b g)
    (F : CF fr bf ba z p q r s u v st sb bt bb lt lb) (W : CW p q r s u v st sb bt bb lt lb P Qg R S U V) {Q : Value → Mem → Prop} (hQ : ∀ m', Up m0 m' → Q (.bool true) m') :
    Gives (codeX Try.prog (callN Try.prog known (e + 13)) (sRn 24 (bodyOf Try.f4)) fr) m (fnQ Try.prog [.tmp 12] Q) := by
  refine via (X := .seq (.seq (.region _ _ _) _) _) rfl ?_
  refine (code_seq _ _ _ _ _).2 ((code_seq _ _ _ _ _).2 (region_hid fun ops hops => ?_))
  have y2 : ∀ fr, yieldX ops fr 2 = boolOf (fr.at 216) := fun fr => by rw [hops]; rfl
  have y6 : ∀ fr, yieldX ops fr 6 = boolOf (fr.at 220) := fun fr => by rw [hops]; rfl
  have y10 : ∀ fr, yieldX ops fr 10 = boolOf (fr.at 224) := fun fr => by rw [hops]; rfl
  have y14 : ∀ fr, yieldX ops fr 14 = boolOf (fr.at 228) := fun fr => by rw [hops]; rfl
  have y18 : ∀ fr, yieldX ops fr 18 = boolOf (fr.at 232) := fun fr => by rw [hops]; rfl
  have y22 : ∀ fr, yieldX ops fr 22 = boolOf (fr.at 236) := fun fr => by rw [hops]; rfl
  have y26 : ∀ fr, yieldX ops fr 26 = boolOf (fr.at 240) := fun fr => by rw [hops]; rfl
  have y30 : ∀ fr, yieldX ops fr 30 = boolOf (fr.at 244) := fun fr => by rw [hops]; rfl
  have y34 : ∀ fr, yieldX ops fr 34 = boolOf (fr.at 248) := fun fr => by rw [hops]; rfl
  have y38 : ∀ fr, yieldX ops fr 38 = boolOf (fr.at 252) := fun fr => by rw [hops]; rfl
  have y42 : ∀ fr, yieldX ops fr 42 = boolOf (fr.at 256) := fun fr => by rw [hops]; rfl
  have y46 : ∀ fr, yieldX ops fr 46 = boolOf (fr.at 260) := fun fr => by rw [hops]; rfl
  have y50 : ∀ fr, yieldX ops fr 50 = boolOf (fr.at 264) := fun fr => by rw [hops]; rfl
  have y54 : ∀ fr, yieldX ops fr 54 = boolOf (fr.at 268) := fun fr => by rw [hops]; rfl
  clear hops
  have hnn : fr.n = 354 := F.n
  iterate 58 (refine (steps_cons _ _ _ _ _ _).2 ?_; simp [hnn, F.f26, F.f36, F.f38, F.f28, F.f30, F.f32, F.f34, F.f40, F.f42, F.f44, F.f46, F.f48, F.f50, F.f52, F.f54, boolOf_bool, -code_seq, -steps_cons, y2, y6, y10, y14, y18, y22, y26, y30, y34, y38, y42, y46, y50, y54])
  refine via (X := sRn 25 (bodyOf Try.f4)) (by kernel_rfl) (rw_end e hu0 hw hf hxa hxb hya hyb hbf hba hz hg hp hq hP hQg ⟨by simp [hnn], by simp [F.d], by simp [F.f14], by simp [F.f16], by simp [F.f25], by simp [F.f26], by simp [F.f36], by simp [F.f38], by simp [F.f28], by simp [F.f30], by simp [F.f32], by simp [F.f34], by simp [F.f40], by simp [F.f42], by simp [F.f44], by simp [F.f46], by simp [F.f48], by simp [F.f50], by simp [F.f52], by simp [F.f54], by simp [F.f27], by simp [F.f29], by simp [F.f31], by simp [F.f33], by simp [F.f39], by simp [F.f41], by simp [F.f43], by simp [F.f45], by simp [F.f47], by simp [F.f49], by simp [F.f51], by simp [F.f53]⟩ W hQ)
end
end Go.Proofs.Ytonmjdhdkkmjlaa

/- SolveOff's walk. -/
import Derived.Test.YtghhanifakllpaaVsY
import Derived.Test.YtghhanifakllpaaRows
import Derived.ProofKit
import Derived.OpenShut
import Derived.JoinedCond
import Derived.Deep.Slices
import Derived.Carry
set_option linter.unusedSimpArgs false
set_option linter.unusedVariables false
namespace Go.Proofs.Ytghhanifakllpaa
open Go.Clean
theorem bin_f0 {P : Program} {t : TypeId} {xo yo : Operand} (x : Nat) (h : Nu.Fi (some x)) : binX P .sub t xo yo (.float .f64 x) (.float .f64 x) = some (.float .f64 0) := by
  have e := bin_fsub (P := P) (t := t) (xo := xo) (yo := yo) (some x) (some x)
  rw [show cOf (some x) = x from canon_yes (fin_ex h).2, self_sub h, show cOf fzero = 0 from by decide] at e
  exact e
/-- math.Abs of a finite float. -/
theorem absN_ok (n : Nat) {b : Nat} (h : Nu.Fi (some b)) {m : Mem} {Q : Value → Mem → Prop} (hQ : Q (.float .f64 (b % 9223372036854775808)) m) : Gives (callN Try.prog kn1 (n + 1) 31 [.float .f64 b]) m Q := by
  have e := (gives_abs kn1_KP n (some b) m Q).2
  rw [show cOf (some b) = b from canon_yes (fin_ex h).2] at e
  refine e ?_
  have ha := Nu.Fi.abs h
  rw [show cOf (fabs (some b)) = b % 9223372036854775808 from canon_yes (fin_ex ha.1).2]
  exact hQ
theorem vq_34 : Nu.vq (some 4454060031469420544) = Nu.p2 (-34) := by
  have h : Ieee.double.read 4454060031469420544 = .number false 4503599627370496 (-86) := by decide
  rw [Nu.vq_some h]
  unfold Nu.nv Nu.sg
  have : ((4503599627370496 : Nat) : Rat) = Nu.p2 52 := (Nu.p2_nat 52).symm
  simp only [Bool.false_eq_true, if_false, Rat.one_mul]
  rw [this, ← Nu.p2_add]; rfl
theorem vq_900 : Nu.vq (some 553942754166571008) = Nu.p2 (-900) := by
  have h : Ieee.double.read 553942754166571008 = .number false 4503599627370496 (-952) := by decide
  rw [Nu.vq_some h]
  unfold Nu.nv Nu.sg
  have : ((4503599627370496 : Nat) : Rat) = Nu.p2 52 := (Nu.p2_nat 52).symm
  simp only [Bool.false_eq_true, if_false, Rat.one_mul]
  rw [this, ← Nu.p2_add]; rfl
structure OfF (fr : Fr) (va vb v7 : Value) : Prop where
  n : fr.n = 139
  d : fr.d = []
  f0 : fr.at 0 = va
  f1 : fr.at 1 = vb
  f7 : fr.at 7 = v7
theorem MxP.step {n : Nat} {A : Nat → Nat → Nat} {i j mst : Nat} {x : Nat} (h : MxP n A i j mst) (hi : i < n) (hj : j < n) (hx : Nu.Fi (some x)) (hb : x < 18446744073709551616) (hv : Nu.vq (some x) = Nu.rabs (qA A i j)) : MxP n A i (j + 1) (maxF mst x) := by
  obtain ⟨m1, m2, m3⟩ := maxF_law h.fi hx
  refine ⟨?_, ?_, fun i' j' hj' hi' hc => ?_, ?_⟩
  · rcases m1 with e | e <;> rw [e]
    · exact h.fi
    · exact hx
  · rcases m1 with e | e <;> rw [e]
    · exact h.b
    · exact hb
  · by_cases hij : i' = i ∧ j' = j
    · obtain ⟨rfl, rfl⟩ := hij
      rw [← hv]; exact m3
    · exact Rat.le_trans (h.ge i' j' hj' hi' (by omega)) m2
  · rcases m1 with e | e <;> rw [e]
    · exact h.at'
    · exact .inr ⟨i, j, hi, hj, hv⟩
def ofI (m0 : Mem) (va vb v7 : Value) (n : Nat) (A : Nat → Nat → Nat) (x : Nat → Nat) (bS : Nat) (q : Nat) (fr : Fr) (m' : Mem) : Prop := ∃ i mst, i + q = n ∧ OfF fr va vb v7 ∧ fr.at 9 = .float .f64 mst ∧ fr.at 10 = .pointer (some ⟨bS, 0, none⟩) ∧ fr.at 11 = .int .i64 (i : Nat) ∧ Up m0 m' ∧ RQ m' bS (sumX x i) (2 + 40 * i) ∧ MxP n A i 0 mst
def ofJ (m0 : Mem) (va vb v7 : Value) (n : Nat) (A : Nat → Nat → Nat) (x : Nat → Nat) (bS : Nat) (i : Nat) (q : Nat) (fr : Fr) (m' : Mem) : Prop := ∃ j mst, j + q = n ∧ OfF fr va vb v7 ∧ fr.at 9 = .float .f64 mst ∧ fr.at 10 = .pointer (some ⟨bS, 0, none⟩) ∧ fr.at 11 = .int .i64 (i : Nat) ∧ fr.at 12 = .int .i64 (j : Nat) ∧ Up m0 m' ∧ RQ m' bS (sumX x (i + 1)) (2 + 40 * (i + 1)) ∧ MxP n A i j mst
def o2I (m0 : Mem) (va vb v7 : Value) (n bB : Nat) (q : Nat) (fr : Fr) (m' : Mem) : Prop := ∃ i, i + q = n ∧ OfF fr va vb v7 ∧ fr.at 13 = .pointer (some ⟨bB, 0, none⟩) ∧ fr.at 14 = .int .i64 (i : Nat) ∧ Up m0 m'
def o2J (m0 : Mem) (va vb v7 : Value) (n bB bs : Nat) (A : Nat → Nat → Nat) (x : Nat → Nat) (i : Nat) (q : Nat) (fr : Fr) (m' : Mem) : Prop := ∃ j, j + q = n ∧ OfF fr va vb v7 ∧ fr.at 13 = .pointer (some ⟨bB, 0, none⟩) ∧ fr.at 14 = .int .i64 (i : Nat) ∧ fr.at 15 = .pointer (some ⟨bs, 0, none⟩) ∧ fr.at 16 = .int .i64 (j : Nat) ∧ Up m0 m' ∧ RQ m' bs (rowSum A x i j) (2 + 100 * j)
section
set_option maxRecDepth 10000
set_option maxHeartbeats 4000000 in
theorem off_walk (e : Nat) {m : Mem} {va vb : Value} {rs : List (List F)} {bs : List F} (hw : WF m) (hv : FM m va rs) (hb : FL m vb bs) (h64 : ∀ i j, B64 (fat (rat' rs i) j)) (h64b : ∀ i, B64 (fat bs i)) {Q : Value → Mem → Prop}
    (hQ : ∀ m', Up m m' → Q (.bool true) m') :
    Gives (callN Try.prog kn1 (e + 9) 6 [va, vb]) m Q := by
  refine gives_fn (nt := 139) rfl Try.func6 rfl rfl rfl (Nat.le_of_ble_eq_true rfl) fun fr hn hd hargs => ?_
  have h0 : fr.at 0 = _ := hargs 0 _ rfl
  have h1 : fr.at 1 = _ := hargs 1 _ rfl
  clear hargs
  simp [hn, gives_known kn1_alive, gives_ret, h0, h1]
  refine simple_ok (e + 5) hv hb fun m1 s o1 hs => ?_
  cases s with
  | false =>
    simp [hn, hd]
    exact hQ m1 (Up.only o1)
  | true =>
    have S := hs rfl
    have w1 := o1.wf hw
    have hv1 := hv.old hw fun b _ => o1.2 b
    have hb1 := hb.old hw fun b _ => o1.2 b
    have hlr : ∀ r ∈ rs, r.length ≤ 100000 := fun r hr => by
      obtain ⟨i, hi, rfl⟩ := List.getElem_of_mem hr
      have := S.row i hi
      unfold rat' at this
      simp [List.getD, hi] at this
      have := S.hi
      omega
    simp [hn, h0, h1]
    have s8 := S.hi
    have slb := S.lb
    refine solve_ok kn1_KP (e + 3) rs va vb bs m1 w1 hv1 hb1 hlr (by omega) (by omega) fun m2 v7 u2 own => ?_
    have w2 := u2.wf w1
    have hv2 := hv1.up w1 u2
    have hb2 := hb1.up w1 u2
    have U2 : Up m m2 := (Up.only o1).trans u2
    have hval : lenX Try.prog 23 va = some (.int .i64 rs.length) := by obtain ⟨a, c, rfl, _⟩ := hv; simp
    obtain ⟨A, B, hA, hB, hans⟩ := off_ans S h64 h64b
    rcases hans with hE | ⟨x, hE, C, hlaw⟩
    · rw [hE] at own ⊢
      simp [hn, hd, extractX]
      exact hQ m2 U2
    · rw [hE] at own ⊢
      have hx2 := own.fl
      have hxl : ((List.range rs.length).map (fun j => (some (x j) : Option Nat))).length = rs.length := by simp
      have hv7 : lenX Try.prog 24 v7 = some (.int .i64 rs.length) := by obtain ⟨a, c, h, _⟩ := hx2; rw [hxl] at h; rw [h]; simp
      simp [hn, h0, hval, hv7, extractX, zero_R, elem_R, cells_agg, one_bool, one_nilS]
      obtain ⟨n, hnn⟩ : ∃ n, n = rs.length := ⟨_, rfl⟩
      rw [← hnn] at hA hB C hlaw hval hv7 hxl s8 slb hx2
      have n1 := C.n1
      have n8 := C.n8
      have hrl : ∀ i, i < n → (rat' rs i).length = n := fun i hi => by rw [hnn]; exact S.row i (by omega)
      have ha : ∀ i j, i < n → j < n → cOf (fat (rat' rs i) j) = A i j := fun i j hi hj => by rw [hA i j hi hj]; exact canon_yes (fin_ex (C.fa i j hi hj).1).2
      have hbB : ∀ i, i < n → cOf (fat bs i) = B i := fun i hi => by rw [hB i hi]; exact canon_yes (fin_ex (C.fb i hi).1).2
      have hxX : ∀ i, i < n → cOf (fat ((List.range n).map (fun j => (some (x j) : Option Nat))) i) = x i := fun i hi => by
        have : fat ((List.range n).map (fun j => (some (x j) : Option Nat))) i = some (x i) := by unfold fat; simp [hi]
        rw [this]; exact canon_yes (fin_ex (C.fx i hi).1).2
      obtain ⟨bS, hbS⟩ : ∃ bS, bS = m2.next := ⟨_, rfl⟩
      rw [← hbS]
      obtain ⟨m3, hm3⟩ : ∃ m3, m3 = m2.nw ⟨[.bool false, .slice none 0 0, .slice none 0 0], 1, false, false⟩ := ⟨_, rfl⟩
      rw [← hm3]
      have u3 : Up m2 m3 := by rw [hm3]; exact Up.nw _ _
      have r3 : RQ m3 bS 0 2 := RQ.zero (by rw [hm3, hbS]; simp) 2
      refine code_loop (ofI m2 va vb v7 n A x bS) n (by omega) ⟨0, 0, by omega, ⟨by simp [hn], by simp [hd], by simp [h0], by simp [h1], by simp⟩, by simp, by simp, by simp, u3, r3, ⟨Nu.fi_zero.1, by decide, fun i' j' _ _ h => by omega, .inl Nu.fi_zero.2⟩⟩ ?_
      clear hn hd h0 h1 hm3
      rintro q fr m4 ⟨i, mst, hiq, F, f9, f10, f11, u4, r4, M⟩
      have hn := F.n
      have hd := F.d
      have w4 := u4.wf w2
      have hv4 := hv2.up w2 u4
      have hb4 := hb2.up w2 u4
      have hx4 := hx2.up w2 u4
      by_cases hi : i < n
      · obtain ⟨b7, o7, x7, c7, ev7, ea7, ec7⟩ := hx4.get (by rw [hxl]; omega)
        rw [hxl] at ev7 ec7
        have hc7 := ec7 i hi
        rw [hxX i hi] at hc7
        have h7 := F.f7
        rw [ev7] at h7
        have fxi := C.fx i hi
        have hxa := Nu.Fi.abs fxi.1
        simp [hn, F.f0, f11, hval, hi]
        refine code_draw (sil := silF) (kn1_KN.silent _) (kn1_KN.parC _) (by kernel_rfl) ?_
        simp [hn, hd, h7, f10, f11, idx24 _ _ _ _ _ _ hi, ea7, hc7, bin_f0 _ fxi.1, bin_f00, yieldX]
        obtain ⟨m5, hm5⟩ : ∃ m5, m5 = ((m4.rd b7).rd b7).rd b7 := ⟨_, rfl⟩
        rw [← hm5]
        have o5 : Only m4 m5 := by rw [hm5]; exact ⟨by simp, fun c => by simp⟩
        clear hm5
        have w5 := o5.wf w4
        have hb63 : x i % 9223372036854775808 < 18446744073709551616 := by omega
        refine absN_ok (e + 7) fxi.1 ?_
        simp [hn]
        refine lawRat_ok e w5 (fin_ex hxa.1).2 hb63 (fin_ex hxa.1).1 fun m6 bz u6 hbz r6 => ?_
        have w6 := u6.wf w5
        have q6 := RQ.rat hb63 (fin_ex hxa.1).1 r6
        have r46 := (r4.up w4 (Up.only o5)).up w5 u6
        obtain ⟨c0, c1, c2, z6, zI⟩ := r46.cells
        simp [hn]
        refine rqAdd_ok e (L := 2 + 40 * (i + 1)) w6 z6 zI r46 q6 (by omega) (by omega) fun m7 u7 q7 => ?_
        have w7 := u7.wf w6
        have U27 : Up m2 m7 := UpZ.up ((u4.trans (Up.only o5)).trans u6) u7 (by omega)
        have e7 : sumX x i + Nu.vq (some (x i % 9223372036854775808)) = sumX x (i + 1) := by
          show _ = sumX x i + Nu.rabs (q1 x i)
          rw [show Nu.vq (some (x i % 9223372036854775808)) = Nu.rabs (q1 x i) from hxa.2]
        rw [e7] at q7
        simp [hn]
        refine code_loop (ofJ m2 va vb v7 n A x bS i) n (by omega) ⟨0, mst, by omega, ⟨by simp [hn], by simp [hd], by simp [F.f0], by simp [F.f1], by simp [h7, ev7]⟩, by simp [f9], by simp [f10], by simp [f11], by simp, U27, q7, M⟩ ?_
        clear hn hd F f9 f10 f11 h7 M
        rintro q2 fr m8 ⟨j, mst, hjq, F, f9, f10, f11, f12, u8, r8, M⟩
        have hn := F.n
        have hd := F.d
        have w8 := u8.wf w2
        have hv8 := hv2.up w2 u8
        by_cases hj : j < n
        · obtain ⟨ba, oa, xa, ca, eva, ea, ec⟩ := hv8.get (by omega)
          rw [← hnn] at eva ec
          obtain ⟨u, hu, hfl⟩ := ec i hi
          have hri := hrl i hi
          obtain ⟨b4, o4, x4, c4, evu, eu, ecu⟩ := hfl.get (by omega)
          rw [hri] at evu ecu
          have hcj := ecu j hj
          rw [ha i j hi hj] at hcj
          have h0' := F.f0
          have hval' := hval
          rw [eva] at h0' hval'
          have fa := C.fa i j hi hj
          have haa := Nu.Fi.abs fa.1
          simp [hn, h0', f9, f11, f12, hval', hj, idx23 _ _ _ _ _ _ hi, ea, hu, evu, idx24 _ _ _ _ _ _ hj, eu, hcj]
          refine absN_ok (e + 7) fa.1 ?_
          have hwj := wrap_succ j (by omega)
          simp [hn, step_maxF _ _ _ _ (a := mst) (b := A i j % 9223372036854775808), f9, f12, hwj]
          refine ⟨q2 - 1, by omega, j + 1, maxF mst (A i j % 9223372036854775808), by omega, ⟨by simp [hn], by simp [hd], by simp [h0', eva], by simp [F.f1], by simp [F.f7]⟩, by simp, by simp [f10], by simp [f11], by simp, u8.trans (Up.only ⟨by simp, fun c => by simp⟩), r8.up w8 (Up.only ⟨by simp, fun c => by simp⟩), M.step hi hj haa.1 (by omega) haa.2⟩
        · have hjn : j = n := by omega
          have hj' : ¬ (j : Int) < (n : Int) := by omega
          have hwi := wrap_succ i (by omega)
          simp [hn, F.f0, f11, f12, hval, hj, hj', hwi]
          refine ⟨q - 1, by omega, i + 1, mst, by omega, ⟨by simp [hn], by simp [hd], by simp [F.f0], by simp [F.f1], by simp [F.f7]⟩, by simp [f9], by simp [f10], by simp, u8, r8, ⟨M.fi, M.b, fun i' j' hj1 hi1 hc => M.ge i' j' hj1 hi1 (by omega), M.at'⟩⟩
      · have hin : i = n := by omega
        have hi' : ¬ (i : Int) < (n : Int) := by omega
        rw [hin] at r4 M
        simp [hn, F.f0, f10, f9, f11, hval, hi, hi', zero_R, elem_R, cells_agg, one_bool, one_nilS]
        obtain ⟨m5, hm5⟩ : ∃ m5, m5 = (m4.nw ⟨[.bool false, .slice none 0 0, .slice none 0 0], 1, false, false⟩).nw ⟨[.bool false, .slice none 0 0, .slice none 0 0], 1, false, false⟩ := ⟨_, rfl⟩
        obtain ⟨bB, hbB'⟩ : ∃ bB, bB = m4.next := ⟨_, rfl⟩
        obtain ⟨bM, hbM⟩ : ∃ bM, bM = m4.next + 1 := ⟨_, rfl⟩
        rw [← hm5, ← hbM, ← hbB']
        have u5 : Up m4 m5 := by rw [hm5]; exact (Up.nw _ _).trans (Up.nw _ _)
        have a5 : m5.at bB = some ⟨[.bool false, .slice none 0 0, .slice none 0 0], 1, false, false⟩ := by rw [hm5, hbB']; simp
        have c5 : m5.at bM = some ⟨[.bool false, .slice none 0 0, .slice none 0 0], 1, false, false⟩ := by rw [hm5, hbM]; simp
        have w5 := u5.wf w4
        clear hm5
        have nI : nonI [.bool false, .slice none 0 0, .slice none 0 0] := nonI3 (WL.nil m) (WL.nil m)
        refine lawRat_ok e w5 (fin_ex M.fi).2 M.b (fin_ex M.fi).1 fun m6 bz u6 hbz r6 => ?_
        have w6 := u6.wf w5
        have q6 := RQ.rat M.b (fin_ex M.fi).1 r6
        have rS6 := (r4.up w4 u5).up w5 u6
        simp [hn, f10]
        refine rqMul_ok (e + 1) (L := 400) w6 (u6.at c5 w5) nI q6 rS6 (by omega) (by omega) fun m7 u7 q7 => ?_
        have w7 := u7.wf w6
        have hMB : bM ≠ bB := by omega
        have a6 := u6.at a5 w5
        have a7 : m7.at bB = some ⟨[.bool false, .slice none 0 0, .slice none 0 0], 1, false, false⟩ := by
          rw [u7.old bB (w6 _ _ a6) (Ne.symm hMB)]; exact a6
        simp [hn]
        refine lawRat_ok e w7 (by decide) (by decide) (by decide) fun m8 bz2 u8 hbz2 r8 => ?_
        have w8 := u8.wf w7
        have q8 := RQ.rat (by decide) (by decide) r8
        rw [vq_34] at q8
        simp [hn]
        refine rqMul_ok (e + 1) (L := 440) w8 (u8.at a7 w7) nI (q7.up w7 u8) q8 (by omega) (by omega) fun m9 u9 q9 => ?_
        have w9 := u9.wf w8
        simp [hn]
        refine lawRat_ok e w9 (by decide) (by decide) (by decide) fun m10 bz3 u10 hbz3 r10 => ?_
        have w10 := u10.wf w9
        have q10 := RQ.rat (by decide) (by decide) r10
        rw [vq_900] at q10
        have qB10 := q9.up w9 u10
        obtain ⟨c0, c1, c2, z10, zI⟩ := qB10.cells
        simp [hn]
        refine rqAdd_ok e (L := 480) w10 z10 zI qB10 q10 (by omega) (by omega) fun m11 u11 q11 => ?_
        have w11 := u11.wf w10
        have U46 := u5.trans u6
        have U47 : Up m4 m7 := UpZ.up U46 u7 (by omega)
        have U49 : Up m4 m9 := UpZ.up (U47.trans u8) u9 (by omega)
        have U411 : Up m4 m11 := UpZ.up (U49.trans u10) u11 (by omega)
        have U211 := u4.trans U411
        simp [hn]
        refine code_loop (o2I m11 va vb v7 n bB) n (by omega) ⟨0, by omega, ⟨by simp [hn], by simp [hd], by simp [F.f0], by simp [F.f1], by simp [F.f7]⟩, by simp, by simp, Up.refl m11⟩ ?_
        clear hn hd F f9 f10 f11
        rintro q3 fr m12 ⟨i, hiq, F, f13, f14, u12⟩
        have hn := F.n
        have hd := F.d
        have w12 := u12.wf w11
        have U212 := U211.trans u12
        by_cases hi : i < n
        · simp [hn, F.f0, f14, hval, hi, zero_R, elem_R, cells_agg, one_bool, one_nilS]
          obtain ⟨bs', hbs'⟩ : ∃ b, b = m12.next := ⟨_, rfl⟩
          rw [← hbs']
          obtain ⟨m13, hm13⟩ : ∃ m13, m13 = m12.nw ⟨[.bool false, .slice none 0 0, .slice none 0 0], 1, false, false⟩ := ⟨_, rfl⟩
          rw [← hm13]
          have u13 : Up m12 m13 := by rw [hm13]; exact Up.nw _ _
          have r13 : RQ m13 bs' 0 2 := RQ.zero (by rw [hm13, hbs']; simp) 2
          refine code_loop (o2J m12 va vb v7 n bB bs' A x i) n (by omega) ⟨0, by omega, ⟨by simp [hn], by simp [hd], by simp [F.f0], by simp [F.f1], by simp [F.f7]⟩, by simp [f13], by simp [f14], by simp, by simp, u13, r13⟩ ?_
          clear hn hd F f13 f14 hm13
          rintro q4 fr m14 ⟨j, hjq, F, f13, f14, f15, f16, u14, r14⟩
          have hn := F.n
          have hd := F.d
          have w14 := u14.wf w12
          have U214 := U212.trans u14
          have hv14 := hv2.up w2 U214
          have hb14 := hb2.up w2 U214
          have hx14 := hx2.up w2 U214
          obtain ⟨b7, o7, x7, c7, ev7, ea7, ec7⟩ := hx14.get (by rw [hxl]; omega)
          rw [hxl] at ev7 ec7
          by_cases hj : j < n
          · have hc7 := ec7 j hj
            rw [hxX j hj] at hc7
            have h7 := F.f7
            rw [ev7] at h7
            obtain ⟨ba, oa, xa, ca, eva, ea, ec⟩ := hv14.get (by omega)
            rw [← hnn] at eva ec
            obtain ⟨u, hu, hfl⟩ := ec i hi
            have hri := hrl i hi
            obtain ⟨b4, o4, x4, c4, evu, eu, ecu⟩ := hfl.get (by omega)
            rw [hri] at evu ecu
            have hcj := ecu j hj
            rw [ha i j hi hj] at hcj
            have h0' := F.f0
            have hval' := hval
            rw [eva] at h0' hval'
            have fa := C.fa i j hi hj
            have fxj := C.fx j hj
            have k7 := w14 _ _ ea7
            have ka := w14 _ _ ea
            have k4 := w14 _ _ eu
            simp [hn, h0', f16, hval', hj]
            obtain ⟨kk, hkk⟩ : ∃ kk, kk = m14.next := ⟨_, rfl⟩
            rw [← hkk] at k7 ka k4
            refine code_draw_cls [0, 0, 2, 0, 0, 0, 1, 0, 0, 1, 3, 0, 0, 0, 1, 3, 4, 4] kk (ms := [0, 0, 0, 0, 0, 24, 56, 0, 248, 504, 1016, 0, 0, 6144, 14336, 32760, 65532, 131071]) (by kernel_rfl) rfl (by kernel_rfl) (by kernel_rfl) fun ops => ?_
            simp [drawKQ, hn, h0', f14, f15, f16, hkk.symm, zero_R, elem_R, cells_agg, one_bool, one_nilS, idx23 _ _ _ _ _ _ hi, ea, hu, evu, idx24 _ _ _ _ _ _ hj, eu, hcj, k7, ka, k4, show ba ≠ kk by omega, show b4 ≠ kk by omega]
            obtain ⟨m15, hm15⟩ : ∃ m15, m15 = ((m14.lg []).nw ⟨[.bool false, .slice none 0 0, .slice none 0 0], 1, false, false⟩).lg [] := ⟨_, rfl⟩
            rw [← hm15]
            have l15 : m15.log = [] := by rw [hm15]; rfl
            have n15 : m15.next = kk + 1 := by rw [hm15]; simp [hkk]
            have u15 : Up m14 m15 := by
              rw [hm15]
              exact ((Up.only ⟨by simp, fun c => by simp⟩ : Up m14 (m14.lg [])).trans (Up.nw _ ⟨[.bool false, .slice none 0 0, .slice none 0 0], 1, false, false⟩)).trans (Up.only ⟨by simp, fun c => by simp⟩)
            have a15 : m15.at kk = some ⟨[.bool false, .slice none 0 0, .slice none 0 0], 1, false, false⟩ := by rw [hm15, hkk]; simp
            clear hm15
            have w15 := u15.wf w14
            refine lawRat_new e w15 l15 (fin_ex fa.1).2 fa.2 (fin_ex fa.1).1 fun m16 bz1 u16 hb1 l16 r16 => ?_
            have w16 := u16.wf w15
            have ok16 : okL kk 3 m16.log := fun x hx => by have := l16 x hx; omega
            have q16 := RQ.rat fa.2 (fin_ex fa.1).1 r16
            have ea16 : m16.at b7 = some x7 := (u15.trans u16).at ea7 w14
            simp [drawKQ, hn, h7, f16, ok16, idx24 _ _ _ _ _ _ hj, ea16, hc7, k7]
            have ol16 : Up m16 (m16.lg []) := Up.only ⟨by simp, fun c => by simp⟩
            refine lawRat_new (m := m16.lg []) e (ol16.wf w16) rfl (fin_ex fxj.1).2 fxj.2 (fin_ex fxj.1).1 fun m17 bz2 u17 hb2 l17 r17 => ?_
            have w17 := u17.wf (ol16.wf w16)
            have hn16 := u16.next
            have ok17 : okL kk 3 m17.log := fun x hx => by have := l17 x hx; simp at this; omega
            have q17 := RQ.rat fxj.2 (fin_ex fxj.1).1 r17
            simp [drawKQ, hn, ok17]
            have ol17 : Up m17 (m17.lg []) := Up.only ⟨by simp, fun c => by simp⟩
            have U1517 := ((u16.trans ol16).trans u17).trans ol17
            have a17 := U1517.at a15 w15
            have w17' := ol17.wf w17
            have nI2 : nonI [.bool false, .slice none 0 0, .slice none 0 0] := nonI3 (WL.nil m) (WL.nil m)
            refine rqMul_ok (m := m17.lg []) (e + 1) (L := 80) w17' a17 nI2 ((((q16.up w16 ol16).up (ol16.wf w16) u17).up w17 ol17)) (q17.up w17 ol17) (by omega) (by omega) fun m18 u18 q18 => ?_
            have w18 := u18.wf w17'
            simp [drawKQ, hn]
            have ol18 : Up m18 (m18.lg []) := Up.only ⟨by simp, fun c => by simp⟩
            have hbs14 := r14.lt w14
            have hne : bs' ≠ kk := by omega
            have r17' := (r14.up w14 u15).up w15 U1517
            have r18 := (r17'.upz w17' u18 hne).up w18 ol18
            obtain ⟨d0, d1, d2, z18, zI18⟩ := r18.cells
            refine rqAdd_ok (m := m18.lg []) e (L := 2 + 100 * (j + 1)) (ol18.wf w18) z18 zI18 r18 (q18.up w18 ol18) (by omega) (by omega) fun m19 u19 q19 => ?_
            have hwj := wrap_succ j (by omega)
            simp [drawKQ, hn, f16, hwj]
            have U1418 : Up m14 m18 := UpZ.up (u15.trans U1517) u18 (by omega)
            have hnx12 := u12.next
            have U19 : Up m12 m19 := UpZ.up ((u14.trans U1418).trans ol18) u19 (by omega)
            have eS : rowSum A x i j + Nu.vq (some (A i j)) * Nu.vq (some (x j)) = rowSum A x i (j + 1) := rfl
            rw [eS] at q19
            have w19 := u19.wf (ol18.wf w18)
            refine ⟨q4 - 1, by omega, j + 1, by omega, ⟨by simp [hn], by simp [hd], by simp [h0', eva], by simp [F.f1], by simp [h7, ev7]⟩, by simp [f13], by simp [f14], by simp [f15], by simp, U19.trans (Up.only ⟨by simp, fun c => by simp⟩), q19.up w19 (Up.only ⟨by simp, fun c => by simp⟩)⟩
          · have hjn : j = n := by omega
            have hj' : ¬ (j : Int) < (n : Int) := by omega
            rw [hjn] at r14
            obtain ⟨b8, o8, x8, c8, ev8, ea8, ec8⟩ := hb14.get (by omega)
            have hbl : bs.length = n := by omega
            rw [hbl] at ev8 ec8
            have hc8 := ec8 i hi
            rw [hbB i hi] at hc8
            have h1' := F.f1
            rw [ev8] at h1'
            have fb := C.fb i hi
            simp [hn, F.f0, h1', f14, f15, f16, hval, hj, hj', idx24 _ _ _ _ _ _ hi, ea8, hc8]
            have o15 : Up m14 (m14.rd b8) := Up.rd _ _
            have w15 := o15.wf w14
            refine lawRat_ok e w15 (fin_ex fb.1).2 fb.2 (fin_ex fb.1).1 fun m16 bz1 u16 hb1 r16 => ?_
            have w16 := u16.wf w15
            have q16 := RQ.rat fb.2 (fin_ex fb.1).1 r16
            have r16' := (r14.up w14 o15).up w15 u16
            obtain ⟨c0, c1, c2, z16, zI16⟩ := r16'.cells
            simp [hn]
            refine rqSub_ok e (L := 1000) w16 z16 zI16 r16' q16 (by omega) (by omega) fun m17 u17 q17 => ?_
            have w17 := u17.wf w16
            obtain ⟨d0, d1, d2, z17, zI17⟩ := q17.cells
            simp [hn, f15]
            refine rqAbs_ok (e + 3) (L := 1000) w17 z17 zI17 q17 (by omega) fun m18 u18 q18 => ?_
            have w18 := u18.wf w17
            have hnx12 := u12.next
            have U1216 := (u14.trans o15).trans u16
            have U1217 : Up m12 m17 := UpZ.up U1216 u17 (by omega)
            have U1218 : Up m12 m18 := UpZ.up U1217 u18 (by omega)
            have qB18 := (q11.up w11 u12).up w12 U1218
            simp [hn, f13]
            refine rqCmp_ok (e + 3) w18 q18 qB18 (by omega) fun m19 kc u19 hkc => ?_
            have hle := hlaw mst M i hi
            have hkc' := hkc (Nu.rabs_ab.2 hle)
            have hwi := wrap_succ i (by omega)
            simp [hn, f14, hkc', hwi]
            refine ⟨q3 - 1, by omega, i + 1, by omega, ⟨by simp [hn], by simp [hd], by simp [F.f0], by simp [h1', ev8], by simp [F.f7]⟩, by simp [f13], by simp, (u12.trans U1218).trans u19⟩
        · have hi' : ¬ (i : Int) < (n : Int) := by omega
          simp [hn, hd, F.f0, f14, hval, hi, hi']
          exact hQ m12 (U2.trans U212)
end
end Go.Proofs.Ytghhanifakllpaa

/- Arguments of slices of floats, in the clean memory. -/
namespace Go.Proofs.Ytghhanifakllpaa
open Go.RowKit Go.Clean Go.ChangeShapes Go.WideShapes
set_option maxRecDepth 100000

/-! ### What the arguments are -/
theorem und25 : Try.prog.underlying 25 = some (.float .f64) := by kernel_rfl
theorem cof25 : Try.prog.cellsOf 25 = 1 := by kernel_rfl
theorem cof24 : Try.prog.cellsOf 24 = 1 := by kernel_rfl
section
variable {H : Type} {enc : TypeId × Value → H} {W : World}
theorem wf_lt {y : Nat} (h : (Lit.float .f64 y).wf = true) : y < 18446744073709551616 := by
  unfold Lit.wf at h
  simpa using h
theorem float_of {fuel : Nat} {v : Value} {x : DataW H × List MemPlace} (h : DataW.trod enc Try.prog W 0 (fun _ => true) true fuel 25 [v] = some x) : ∃ y, v = .float .f64 y ∧ y < 18446744073709551616 := by
  cases fuel with
  | zero => simp [DataW.trod] at h
  | succ n =>
    unfold DataW.trod at h
    rw [und25] at h
    cases v with
    | float k y =>
      cases k with
      | f64 =>
        simp only at h
        split at h
        · rename_i hk
          exact ⟨y, rfl, wf_lt hk.2⟩
        · cases h
      | f32 => simp at h
    | _ => simp at h
/-- A slice of these bits. -/
def RowC (W : World) (v : Value) (ys : List Nat) : Prop := (v = .slice none 0 0 ∧ ys = []) ∨ ∃ a cap, v = .slice (some a) ys.length cap ∧ ys.length ≤ cap ∧ (a.spot = none ∨ cap = 0) ∧ ∀ i, i < ys.length → W.cell? ⟨a.block, a.off + i, none⟩ = some (.float .f64 (ys.getD i 0))
def Lo (ys : List Nat) : Prop := ∀ i, ys.getD i 0 < 18446744073709551616
def bitOf : Value → Nat
  | .float _ y => y
  | _ => 0
theorem rowC_of {fuel : Nat} {cs : List Value} {x : DataW H × List MemPlace} (h : DataW.trod enc Try.prog W 0 (fun _ => true) true fuel 24 cs = some x) : ∃ v ys, cs = [v] ∧ RowC W v ys ∧ Lo ys := by
  rcases Go.Deep.open_slice1 under24 cof25 h with ⟨rfl, rfl⟩ | ⟨a, len, cap, m, n, V, D, Pl, rfl, _, hl, _, hm, rfl, hall⟩
  · exact ⟨_, [], rfl, .inl ⟨rfl, rfl⟩, fun i => by simp⟩
  · simp only [if_true] at hm
    subst hm
    have hspot : a.spot = none ∨ m = 0 := by
      by_cases h0 : m = 0
      · exact .inr h0
      · have := (hall 0 (by omega)).1
        exact .inl (by simpa [Addr.add] using World.cell?_spot this)
    refine ⟨_, (List.range len).map fun i => bitOf (V i), rfl, .inr ⟨a, m, by simp, by simpa using hl, hspot, fun i hi => ?_⟩, fun i => ?_⟩
    · simp only [List.length_map, List.length_range] at hi
      obtain ⟨h1, h2⟩ := hall i (by omega)
      obtain ⟨y, hy, _⟩ := float_of h2
      have hs : a.spot = none := by
        rcases hspot with h | h
        · exact h
        · omega
      obtain ⟨b, o, s⟩ := a
      simp only at hs
      subst hs
      rw [add_plain] at h1
      rw [h1, hy]
      simp [List.getD, hi, hy, bitOf]
    · by_cases hi : i < len
      · obtain ⟨h1, h2⟩ := hall i (by omega)
        obtain ⟨y, hy, hlt⟩ := float_of h2
        simp [List.getD, hi, hy, bitOf, hlt]
      · simp [List.getD, hi]
def MatC (W : World) (v : Value) (rv : Nat → Value) (yss : List (List Nat)) : Prop := (v = .slice none 0 0 ∧ yss = []) ∨ ∃ a cap, v = .slice (some a) yss.length cap ∧ yss.length ≤ cap ∧ a.spot = none ∧ ∀ i, i < yss.length → W.cell? ⟨a.block, a.off + i, none⟩ = some (rv i) ∧ RowC W (rv i) (yss.getD i [])
def flss (yss : List (List Nat)) : List (List F) := yss.map fun ys => ys.map fl
theorem matC_of {fuel : Nat} {cs : List Value} {x : DataW H × List MemPlace} (h : DataW.trod enc Try.prog W 0 (fun _ => true) true fuel 23 cs = some x) (hsp : ∀ a n c, cs = [.slice (some a) n c] → a.spot = none) : ∃ v rv yss, cs = [v] ∧ MatC W v rv yss ∧ ∀ i, Lo (yss.getD i []) := by
  rcases Go.Deep.open_slice1 under23 cof24 h with ⟨rfl, rfl⟩ | ⟨a, len, cap, m, n, V, D, Pl, rfl, _, hl, _, hm, rfl, hall⟩
  · exact ⟨_, fun _ => undef, [], rfl, .inl ⟨rfl, rfl⟩, fun i => fun j => by simp⟩
  · simp only [if_true] at hm
    subst hm
    have hspot : a.spot = none := hsp _ _ _ rfl
    have hrow : ∀ i, ∃ ys : List Nat, i < m → RowC W (V i) ys ∧ Lo ys := fun i => by
      by_cases hi : i < m
      · obtain ⟨v, ys, h1, h2, h3⟩ := rowC_of (hall i hi).2
        cases h1
        exact ⟨ys, fun _ => ⟨h2, h3⟩⟩
      · exact ⟨[], fun h => absurd h hi⟩
    obtain ⟨Y, hY⟩ := Classical.axiomOfChoice hrow
    have hlen : ((List.range len).map Y).length = len := by simp
    refine ⟨_, V, (List.range len).map Y, rfl, .inr ⟨a, m, by rw [hlen], by rw [hlen]; exact hl, hspot, fun i hi => ?_⟩, fun i => ?_⟩
    · rw [hlen] at hi
      obtain ⟨h1, h2⟩ := hall i (by omega)
      have hs : a.spot = none := hspot
      obtain ⟨b, o, s⟩ := a
      simp only at hs
      subst hs
      rw [add_plain] at h1
      refine ⟨h1, ?_⟩
      have := (hY i (by omega)).1
      simpa [List.getD, hi] using this
    · by_cases hi : i < len
      · have := (hY i (by omega)).2
        simpa [List.getD, hi] using this
      · have e : ((List.range len).map Y).getD i [] = [] := by simp [List.getD, hi]
        rw [e]
        exact fun j => by simp
end

/-! ### The clean memory of the arguments -/
def memOf (l : List Blk) : Mem := l.foldl (fun m x => m.nw x) Mem.empty
theorem memOf_go : ∀ (l : List Blk) (m : Mem), (l.foldl (fun m x => m.nw x) m).next = m.next + l.length ∧ ∀ b, (l.foldl (fun m x => m.nw x) m).at b = if b < m.next then m.at b else if b < m.next + l.length then l[b - m.next]? else m.at b
  | [], m => ⟨rfl, fun b => by simp only [List.foldl_nil, List.length_nil, Nat.add_zero]; split <;> rfl⟩
  | x :: l, m => by
    obtain ⟨h1, h2⟩ := memOf_go l (m.nw x)
    simp only [List.foldl_cons]
    refine ⟨by rw [h1]; simp; omega, fun b => ?_⟩
    rw [h2 b]
    simp only [Mem.next_nw, Mem.at_nw, List.length_cons]
    by_cases h3 : b < m.next
    · rw [if_pos (by omega), if_neg (by omega), if_pos h3]
    · by_cases h4 : b = m.next
      · subst h4
        rw [if_pos (by omega), if_pos rfl, if_neg (by omega), if_pos (by omega)]
        simp
      · rw [if_neg (by omega), if_neg h3]
        by_cases h5 : b < m.next + (l.length + 1)
        · rw [if_pos (by omega), if_pos h5, show b - m.next = (b - (m.next + 1)) + 1 by omega]
          rfl
        · rw [if_neg (by omega), if_neg h5, if_neg h4]
theorem memOf_next (l : List Blk) : (memOf l).next = l.length := by
  have := (memOf_go l Mem.empty).1
  simpa [memOf, Mem.empty] using this
theorem memOf_at (l : List Blk) (b : Nat) : (memOf l).at b = l[b]? := by
  have h := (memOf_go l Mem.empty).2 b
  have e : (Mem.empty).next = 0 := rfl
  rw [e] at h
  show (l.foldl (fun m x => m.nw x) Mem.empty).at b = _
  rw [h, if_neg (Nat.not_lt_zero _), Nat.zero_add, Nat.sub_zero]
  by_cases h2 : b < l.length
  · rw [if_pos h2]
  · rw [if_neg h2, List.getElem?_eq_none (by omega)]
    rfl
theorem memOf_wf (l : List Blk) : WF (memOf l) := fun b x hb => by
  rw [memOf_at] at hb
  rw [memOf_next]
  exact (List.getElem?_eq_some_iff.1 hb).1

def absV (k : Nat) : Value → Value
  | .slice (some ⟨_, _, none⟩) n c => .slice (some ⟨k, 0, none⟩) n c
  | .slice (some ⟨_, _, some s⟩) _ _ => .slice (some ⟨k, 0, some s⟩) 0 0
  | _ => .slice none 0 0
def plc : Value → Clean.Place
  | .slice (some a) _ c => ⟨a.block, a.off, a.off + c, 1, true⟩
  | _ => ⟨0, 0, 0, 1, true⟩
def fBlk (ys : List Nat) : Blk := ⟨ys.map fun y => .float .f64 (canon y), 1, false, true⟩
theorem absV_one (k : Nat) (v : Value) : oneV (absV k v) = true := by
  unfold absV
  split <;> rfl
theorem row_VR {W : World} {v : Value} {ys : List Nat} (h : RowC W v ys) {ρ : Env} {k : Nat} (hk : ρ k = some (plc v)) : VR ρ (absV k v) v := by
  rcases h with ⟨rfl, rfl⟩ | ⟨⟨b, o, s⟩, cap, rfl, hl, hs, _⟩
  · rfl
  · cases s with
    | none => exact .inl ⟨_, cap, hk, rfl, rfl, hl, Nat.le_refl _, fun _ => rfl, by show o + 0 + cap * 1 ≤ o + cap; omega⟩
    | some s =>
      have hc : cap = 0 := by
        rcases hs with h | h
        · cases h
        · exact h
      have hz : ys.length = 0 := by omega
      refine .inr ⟨by simp, rfl, rfl, _, by rw [hz, hc]⟩
theorem mat_VR {W : World} {v : Value} {rv : Nat → Value} {yss : List (List Nat)} (h : MatC W v rv yss) {ρ : Env} {k : Nat} (hk : ρ k = some (plc v)) : VR ρ (absV k v) v := by
  rcases h with ⟨rfl, rfl⟩ | ⟨⟨b, o, s⟩, cap, rfl, hl, hs, _⟩
  · rfl
  · simp only at hs
    subst hs
    exact .inl ⟨_, cap, hk, rfl, rfl, hl, Nat.le_refl _, fun _ => rfl, by show o + 0 + cap * 1 ≤ o + cap; omega⟩
theorem row_FL {W : World} {v : Value} {ys : List Nat} (h : RowC W v ys) {m : Mem} {k : Nat} (hk : m.at k = some (fBlk ys)) : FL m (absV k v) (ys.map fl) := by
  rcases h with ⟨rfl, rfl⟩ | ⟨⟨b, o, s⟩, cap, rfl, hl, hs, _⟩
  · exact FL.nil _
  · cases s with
    | none =>
      refine ⟨some ⟨k, 0, none⟩, cap, by simp [absV], .inr ⟨k, 0, _, rfl, hk, fun i hi => ?_⟩⟩
      simp only [List.length_map] at hi
      rw [Nat.zero_add]
      simp [fBlk, fat, List.getD, hi, cOf_fl]
    | some s =>
      have hc : cap = 0 := by
        rcases hs with h | h
        · cases h
        · exact h
      have hz : ys.length = 0 := by omega
      refine ⟨some ⟨k, 0, some s⟩, 0, by simp [absV, hz], .inl ⟨fun w h => by cases h; simp, by simpa using hz, rfl⟩⟩
theorem row_cells {W : World} {v : Value} {ys : List Nat} (h : RowC W v ys) {ρ : Env} {i : Nat} {u : Value} (hi : (fBlk ys).cells[i]? = some u) : ∃ u', W.cell? ⟨(plc v).blk, (plc v).off + i, none⟩ = some u' ∧ VR ρ u u' ∧ oneV u = true := by
  have hlt : i < ys.length := by
    have := (List.getElem?_eq_some_iff.1 hi).1
    simpa [fBlk] using this
  have hu : u = .float .f64 (canon (ys.getD i 0)) := by
    simp [fBlk, hlt] at hi
    rw [← hi]; simp [List.getD, hlt]
  subst hu
  rcases h with ⟨rfl, rfl⟩ | ⟨a, cap, rfl, hl, hs, hcell⟩
  · simp at hlt
  · exact ⟨_, hcell i hlt, ⟨_, rfl, FR_canon _⟩, rfl⟩
/-- Below the heap's end, what holds cells. -/
theorem cell_lt {W : World} {b o : Nat} {v : Value} (h : W.cell? ⟨b, o, none⟩ = some v) : b < W.heap.size := by
  by_cases hlt : b < W.heap.size
  · exact hlt
  · simp [World.cell?, Array.getElem?_eq_none (Nat.le_of_not_lt hlt)] at h

/-- What the executor's run gives, in the model. -/
theorem calls_of {P : Program} {known : Known} (hk : KnownOK P known) (hmix : P.follows .mixedOrders = true) (hback : BackOK P) (hno : noCount P = true) {n : Nat} {f : FuncId} {args : List Value} (hkf : known f args = none) {N : Nat} {ρ : Env} {m m' : Mem} {w : World} {cargs : List Value} {v : Value}
    (h : callN P known (n + 1) f args m = some (v, m')) (hr : Rel N ρ m.t.get w) (ha : VRs ρ args cargs) (hf : Fresh ρ m m') :
    Calls P f ⟨cargs⟩ w fun e w' => ∃ v' ρ', e = .returned v' ∧ After N ρ m m' w v v' w' ρ' := by
  unfold callN at h
  simp only [hkf] at h
  cases hfn : P.funcs[f]? with
  | none => simp only [hfn] at h; exact (fail_some h).elim
  | some fn =>
    simp only [hfn] at h
    obtain ⟨_, hcall⟩ := body_does (callN_ok hk hmix hback hno n) (callN_local hk n) (deferred_ok (callN_ok hk hmix hback hno n) (callN_local hk n) hmix hback hno) (Local.deferredX (callN_local hk n)) hmix hback hfn h hr ha hf
    exact callsIn_wide.1 hcall
end Go.Proofs.Ytghhanifakllpaa

/- Tracers in the clean executor: Same's no; the law's plain flow and rule. -/
import Derived.Test.YtjddmnfdnnbbhaaGreatUcZ
set_option linter.unusedSimpArgs false
set_option linter.unusedVariables false
namespace Go.Clean
variable {P : Program} {m : Mem} {Q : Value → Mem → Prop}
/-- A literal of one element. -/
theorem gives_buildT {t e : TypeId} {n : Nat} {z v : Value} (h1 : P.underlying t = some (.slice e)) (h2 : sizeT P e = some n) (h3 : zeroT P e = some z) (h4 : (n == (cellsV z).length && Nat.blt 0 n && Nat.ble n 16777216) = true) (h5 : fillX (fun i => some (i * n, n)) (repeatL (cellsV z) 1) [(0, v)] = some (cellsV v)) (h6 : (cellsV v).all oneV = true)
    (q : Q (.slice (some ⟨m.next, 0, none⟩) 1 1) (m.nw ⟨cellsV v, n, false, false⟩)) : Gives (buildSliceX P t 1 [(0, v)]) m Q := by
  simp only [Bool.and_eq_true, Nat.ble_eq, Nat.blt_eq] at h4
  unfold buildSliceX
  simp only [h1, h2, h3]
  rw [gives_bind, gives_guard]
  refine ⟨by simp only [Bool.and_eq_true, Nat.ble_eq, Nat.blt_eq]; exact ⟨⟨h4.1.1, by omega⟩, h4.1.2⟩, ?_⟩
  rw [h5]
  dsimp only
  rw [gives_bind, gives_newX]
  exact ⟨h6, (gives_ret _ _ _).2 q⟩
end Go.Clean
namespace Go.Proofs.YtjddmnfdnnbbhaaGreat
open Go Go.RowKit Go.Clean
theorem gives_build1T {m : Mem} {a : Tr} {Q : Value → Mem → Prop} (q : Q (.slice (some ⟨m.next, 0, none⟩) 1 1) (m.nw ⟨flatT [a], 3, false, false⟩)) : Gives (buildSliceX Tryz.prog 34 1 [(0, a.val)]) m Q :=
  gives_buildT under_T size_Tr zero_tr (by decide) rfl (by simp) q
theorem gives_build1E {m : Mem} {e : El} {Q : Value → Mem → Prop} (q : Q (.slice (some ⟨m.next, 0, none⟩) 1 1) (m.nw ⟨flat [e], 4, false, false⟩)) : Gives (buildSliceX Tryz.prog 23 1 [(0, e.val)]) m Q :=
  gives_buildT under_Es size_El zero_El (by decide) rfl rfl q
@[simp] theorem one_flt (n : Nat) : oneV (.float .f64 n) = true := rfl
section
set_option maxRecDepth 10000
set_option maxHeartbeats 4000000
theorem run_ofR (n x y : Nat) (m : Mem) (Q : Value → Mem → Prop) : Gives (callN Tryz.prog known (n + 1) 13 [.float .f64 x, .float .f64 y]) m Q ↔ Q (.complex .f64 x y) m := by
  refine gives_pure (fun m => ?_) m Q
  refine gives_fn (nt := 8) rfl Tryz.func13 rfl rfl rfl (Nat.le_of_ble_eq_true rfl) fun fr hn hd hargs => ?_
  have h0 : fr.at 0 = _ := hargs 0 _ rfl
  have h1 : fr.at 1 = _ := hargs 1 _ rfl
  clear hargs
  simp [h0, h1, hn, hd, compX]
theorem same_len (d : Nat) {m : Mem} {b1 b2 c1 c2 k1 k2 : Nat} (hc : c1 ≠ c2) {Q : Value → Mem → Prop} (hQ : Q (.bool false) m) :
    Gives (callN Tryz.prog known (d + 3) 10 [.slice (some ⟨b1, 0, none⟩) c1 k1, .slice (some ⟨b2, 0, none⟩) c2 k2]) m Q := by
  refine gives_fn (nt := 8) rfl Tryz.func10 rfl rfl rfl (Nat.le_of_ble_eq_true rfl) fun fr fn fd hargs => ?_
  have a0 : fr.at 0 = _ := hargs 0 _ rfl
  have a1 : fr.at 1 = _ := hargs 1 _ rfl
  clear hargs
  simp [a0, a1, fn]
  refine gives_fn (nt := 32) rfl Tryz.func22 rfl rfl rfl (Nat.le_of_ble_eq_true rfl) fun fq qn qd hargs => ?_
  have q0 : fq.at 0 = _ := hargs 0 _ rfl
  have q1 : fq.at 1 = _ := hargs 1 _ rfl
  clear hargs
  have hci : ¬ (c1 : Int) = (c2 : Int) := by omega
  simp [q0, q1, qn, qd, hc, hci, fn, fd]
  exact hQ
theorem same_ne1 (d : Nat) {m : Mem} {v1 v2 : Value} {b1 b2 k1 k2 : Nat} {ts1 ts2 : List Tr} {a b : Tr} (hw : MW m) (h1 : LT m v1 b1 1 k1 ts1) (h2 : LT m v2 b2 1 k2 ts2) (ha : ts1[0]? = some a) (hb : ts2[0]? = some b) (hk : known 23 [a.val, b.val] = some (M.ret (.bool false))) {Q : Value → Mem → Prop}
    (hQ : ∀ m', Up m m' → Q (.bool false) m') : Gives (callN Tryz.prog known (d + 3) 10 [v1, v2]) m Q := by
  refine gives_fn (nt := 8) rfl Tryz.func10 rfl rfl rfl (Nat.le_of_ble_eq_true rfl) fun fr fn fd hargs => ?_
  have a0 : fr.at 0 = _ := hargs 0 _ rfl
  have a1 : fr.at 1 = _ := hargs 1 _ rfl
  clear hargs
  simp [a0, a1, fn]
  have h1' := h1
  have h2' := h2
  obtain ⟨rfl, -, -⟩ := h1
  obtain ⟨rfl, -, -⟩ := h2
  refine gives_fn (nt := 32) rfl Tryz.func22 rfl rfl rfl (Nat.le_of_ble_eq_true rfl) fun fq qn qd hargs => ?_
  have q0 : fq.at 0 = _ := hargs 0 _ rfl
  have q1 : fq.at 1 = _ := hargs 1 _ rfl
  have q2 : fq.at 2 = _ := hargs 2 _ rfl
  clear hargs
  simp [q0, q1, q2, qn]
  refine code_loop_post (fun r m' => r.1 = .ret ∧ r.2.n = 32 ∧ r.2.d = [] ∧ r.2.at 6 = .bool false ∧ Up m m') (fun k fr m' => k = 1 ∧ eqI m b1 b2 1 k1 k2 ts1 ts2 k fr m') 1 (by omega) ⟨rfl, 0, by simp, by simp [qn], by simp [qd], by simp, by simp [q1], by simp [q2], by simp, by simp, h1', h2', Up.refl _⟩ ?_ ?_
  · rintro k f m2 ⟨rfl, i, hik, f1, f2, f15, g1, g2, f16, f17, L1, L2, u2⟩
    obtain rfl : i = 0 := by omega
    obtain ⟨gr1, hb1⟩ := L1.at_
    obtain ⟨gr2, hb2⟩ := L2.at_
    have w2 := u2.wf hw
    have x1 := idx_T b1 1 k1 0 (by omega)
    have x2 := idx_T b2 1 k2 0 (by omega)
    have l1 := ld_T ha
    have l2 := ld_T hb
    simp only [Nat.zero_mul, Int.natCast_zero] at x1 x2 l1 l2
    simp [f1, f15, f16, f17, x1, hb1, l1, zero_tr]
    refine storeQ_rule (y := ⟨tr0.cells, 1, false, false⟩) (by simp) rfl (by rw [sto_Tr]; simp) (l := a.cells) rfl fun m4 n4 l4 e4 => ?_
    simp only [Mem.next_rd, Mem.next_nw, Mem.at_rd, Mem.at_nw] at n4 e4
    have u4 : Up m2 m4 := Up.wr (m1 := (m2.rd b1).nw ⟨tr0.cells, 1, false, false⟩) (Up.trans (Up.rd _ _) (Up.nw _ _)) (Nat.le_refl _) (by simp) (by simpa using n4) (fun c => by simpa using e4 c)
    have e5 : m4.at m2.next = some ⟨a.cells, 1, false, false⟩ := by rw [e4, if_pos rfl]
    have hb4 := u4.at hb2 w2
    have w4 := u4.wf w2
    obtain ⟨pa, hpa⟩ : ∃ pa, pa = m2.next := ⟨_, rfl⟩
    rw [← hpa] at e5 ⊢
    clear e4 l4
    simp [f1, g1, x2, hb4, l2, zero_tr]
    refine storeQ_rule (y := ⟨tr0.cells, 1, false, false⟩) (by simp) rfl (by rw [sto_Tr]; simp) (l := b.cells) rfl fun m6 n6 l6 e6 => ?_
    simp only [Mem.next_rd, Mem.next_nw, Mem.at_rd, Mem.at_nw] at n6 e6
    have u6 : Up m4 m6 := Up.wr (m1 := (m4.rd b2).nw ⟨tr0.cells, 1, false, false⟩) (Up.trans (Up.rd _ _) (Up.nw _ _)) (Nat.le_refl _) (by simp) (by simpa using n6) (fun c => by simpa using e6 c)
    have e7 : m6.at m4.next = some ⟨b.cells, 1, false, false⟩ := by rw [e6, if_pos rfl]
    have e8 := u6.at e5 w4
    clear e6 l6
    simp [f1, f2, g2, e7, e8, funX, gk _ hk]
    exact u2.trans (u4.trans (u6.trans (Up.same (by simp) fun c => by simp)))
  · rintro ⟨e, f⟩ m2 ⟨he, f1, f2, f6, u2⟩
    obtain rfl : e = .ret := he
    simp only at f1 f2 f6
    simp [f1, f2, f6, fn, fd]
    exact hQ _ u2
def ruZ : Value := .agg ⟨[.float .f64 0, .int .i64 0, .float .f64 0, .complex .f64 0 0, .complex .f64 0 0]⟩
theorem zero_Ru : zeroT Tryz.prog 31 = some ruZ := by kernel_rfl
theorem zero_Fl : zeroT Tryz.prog 25 = some (.agg ⟨[nilL]⟩) := by kernel_rfl
theorem build_Bx (a b c d : Nat) : buildX Tryz.prog 29 [(0, .complex .f64 a b), (1, .complex .f64 c d)] = some (.agg ⟨[.complex .f64 a b, .complex .f64 c d]⟩) := by kernel_rfl
theorem build_Ru : buildX Tryz.prog 31 [(0, .float .f64 4602678819172646912), (1, .int .i64 3), (2, .float .f64 4598175219545276416), (3, .agg ⟨[.complex .f64 13839561654909534208 13839561654909534208, .complex .f64 4616189618054758400 4616189618054758400]⟩)] = some ruV := by kernel_rfl
theorem build_Fl (a : Option Addr) (n k : Nat) : buildX Tryz.prog 25 [(0, .slice a n k)] = some (.agg ⟨[.slice a n k]⟩) := by kernel_rfl
theorem build_E1' : buildX Tryz.prog 51 [(0, .int .u8 1), (2, .complex .f64 4607182418800017408 13835058055282163712)] = some e1.val := by kernel_rfl
theorem sto_Fw (v : Value) : storeOK Tryz.prog 25 v = (1 == (cellsV v).length && (cellsV v).all oneV) := by unfold storeOK; rw [size_Fw]; rfl
theorem sto_Ru : storeOK Tryz.prog 31 ruV = true := by kernel_rfl
theorem plain_ok (d : Nat) {m : Mem} {Q : Value → Mem → Prop} (hQ : ∀ m' v, Up m m' → EL m' v [e1] → (∃ b, v = .slice (some ⟨b, 0, none⟩) 1 1 ∧ m.next ≤ b) → Q (.tuple ⟨[.agg ⟨[v]⟩, ruV]⟩) m') :
    Gives (callN Tryz.prog known (d + 2) 5 []) m Q := by
  refine gives_fn (nt := 14) rfl Tryz.func5 rfl rfl rfl (Nat.le_of_ble_eq_true rfl) fun fr fn fd hargs => ?_
  clear hargs
  simp [fn, zero_Fl, zero_Ru, run_ofR, build_E1', ruZ]
  refine gives_build1E ?_
  obtain ⟨m1, hm1⟩ : ∃ m1, m1 = ((m.nw ⟨[nilL], 1, false, false⟩).nw ⟨[.float .f64 0, .int .i64 0, .float .f64 0, .complex .f64 0 0, .complex .f64 0 0], 1, false, false⟩).nw ⟨flat [e1], 4, false, false⟩ := ⟨_, rfl⟩
  obtain ⟨q0, hq0⟩ : ∃ q0, q0 = m.next := ⟨_, rfl⟩
  have u1 : Up m m1 := by rw [hm1]; exact (Up.nw _ _).trans ((Up.nw _ _).trans (Up.nw _ _))
  have n1 : m1.next = q0 + 1 + 1 + 1 := by rw [hm1, hq0]; simp
  have c0 : m1.at q0 = some ⟨[nilL], 1, false, false⟩ := by rw [hm1, hq0]; simp [show ¬ m.next = m.next + 1 + 1 by omega]
  have c1 : m1.at (q0 + 1) = some ⟨[.float .f64 0, .int .i64 0, .float .f64 0, .complex .f64 0 0, .complex .f64 0 0], 1, false, false⟩ := by rw [hm1, hq0]; simp
  have c2 : m1.at (q0 + 1 + 1) = some ⟨flat [e1], 4, false, false⟩ := by rw [hm1, hq0]; simp
  simp [fn, build_Fl, zero_Fl]
  rw [← hm1, ← hq0]
  clear hm1
  refine storeQ_rule (y := ⟨[nilL], 1, false, false⟩) (by simp [n1]) rfl (by rw [sto_Fw]; simp) (l := [.slice (some ⟨q0 + 1 + 1, 0, none⟩) 1 1]) rfl fun m2 n2 l2 e2 => ?_
  have u2 : Up m m2 := Up.wr (m1 := m1.nw ⟨[nilL], 1, false, false⟩) (u1.trans (Up.nw _ _)) (b := q0 + 1 + 1 + 1) (by omega) (by simp; omega) n2 e2
  simp only [Mem.next_nw, Mem.at_nw, n1] at n2 e2
  have d0 : m2.at q0 = some ⟨[nilL], 1, false, false⟩ := by rw [e2, if_neg (by omega), if_neg (by omega)]; exact c0
  have d1 : m2.at (q0 + 1) = some ⟨[.float .f64 0, .int .i64 0, .float .f64 0, .complex .f64 0 0, .complex .f64 0 0], 1, false, false⟩ := by rw [e2, if_neg (by omega), if_neg (by omega)]; exact c1
  have d2 : m2.at (q0 + 1 + 1) = some ⟨flat [e1], 4, false, false⟩ := by rw [e2, if_neg (by omega), if_neg (by omega)]; exact c2
  have d3 : m2.at (q0 + 1 + 1 + 1) = some ⟨[.slice (some ⟨q0 + 1 + 1, 0, none⟩) 1 1], 1, false, false⟩ := by rw [e2, if_pos rfl]
  clear e2 l2
  simp [fn, run_ofR, build_Bx, build_Ru, zero_Ru, ruZ]
  refine storeQ_rule (y := ⟨[.float .f64 0, .int .i64 0, .float .f64 0, .complex .f64 0 0, .complex .f64 0 0], 1, false, false⟩) (by simp [n2]) rfl sto_Ru (l := ruL) rfl fun m4 n4 l4 e4 => ?_
  have u4 : Up m m4 := Up.wr (m1 := m2.nw ⟨[.float .f64 0, .int .i64 0, .float .f64 0, .complex .f64 0 0, .complex .f64 0 0], 1, false, false⟩) (u2.trans (Up.nw _ _)) (b := m2.next) (by rw [n2]; omega) (by simp) n4 e4
  obtain ⟨q4, hq4⟩ : ∃ q4, q4 = m2.next := ⟨_, rfl⟩
  simp only [Mem.next_nw, Mem.at_nw] at n4 e4
  rw [← hq4] at n2 n4 e4 ⊢
  have g0 : m4.at q0 = some ⟨[nilL], 1, false, false⟩ := by rw [e4, if_neg (by omega), if_neg (by omega)]; exact d0
  have g1 : m4.at (q0 + 1) = some ⟨[.float .f64 0, .int .i64 0, .float .f64 0, .complex .f64 0 0, .complex .f64 0 0], 1, false, false⟩ := by rw [e4, if_neg (by omega), if_neg (by omega)]; exact d1
  have g2 : m4.at (q0 + 1 + 1) = some ⟨flat [e1], 4, false, false⟩ := by rw [e4, if_neg (by omega), if_neg (by omega)]; exact d2
  have g3 : m4.at (q0 + 1 + 1 + 1) = some ⟨[.slice (some ⟨q0 + 1 + 1, 0, none⟩) 1 1], 1, false, false⟩ := by rw [e4, if_neg (by omega), if_neg (by omega)]; exact d3
  have g4 : m4.at q4 = some ⟨ruL, 1, false, false⟩ := by rw [e4, if_pos rfl]
  clear e4 l4
  simp [fn]
  refine code_draw_dyn (plan := [0, 0, 1, 7]) (by kernel_rfl) ?_
  simp [drawQ, apartAll, apartL, Nat.testBit, fn, g3, g4]
  refine storeQ_rule (y := ⟨[nilL], 1, false, false⟩) (by simpa using g0) rfl (by rw [sto_Fw]; simp) (l := [.slice (some ⟨q0 + 1 + 1, 0, none⟩) 1 1]) rfl fun m5 n5 l5 e5 => ?_
  simp only [Mem.next_lg, Mem.at_lg, Mem.next_rd, Mem.at_rd] at n5 e5
  have u5 : Up m m5 := u4.wr (b := q0) (by omega) (by omega) n5 e5
  have r0 : m5.at q0 = some ⟨[.slice (some ⟨q0 + 1 + 1, 0, none⟩) 1 1], 1, false, false⟩ := by rw [e5, if_pos rfl]
  have r1 : m5.at (q0 + 1) = some ⟨[.float .f64 0, .int .i64 0, .float .f64 0, .complex .f64 0 0, .complex .f64 0 0], 1, false, false⟩ := by rw [e5, if_neg (by omega)]; exact g1
  have r2 : m5.at (q0 + 1 + 1) = some ⟨flat [e1], 4, false, false⟩ := by rw [e5, if_neg (by omega)]; exact g2
  clear e5
  simp [drawQ, apartAll, apartL, Nat.testBit, fn, l5]
  refine ⟨by omega, ?_⟩
  refine storeQ_rule (y := ⟨[.float .f64 0, .int .i64 0, .float .f64 0, .complex .f64 0 0, .complex .f64 0 0], 1, false, false⟩) (by simpa using r1) rfl sto_Ru (l := ruL) rfl fun m6 n6 l6 e6 => ?_
  simp only [Mem.next_lg, Mem.at_lg] at n6 e6
  have u6 : Up m m6 := u5.wr (b := q0 + 1) (by omega) (by omega) n6 e6
  have t0 : m6.at q0 = some ⟨[.slice (some ⟨q0 + 1 + 1, 0, none⟩) 1 1], 1, false, false⟩ := by rw [e6, if_neg (by omega)]; exact r0
  have t1 : m6.at (q0 + 1) = some ⟨ruL, 1, false, false⟩ := by rw [e6, if_pos rfl]
  have t2 : m6.at (q0 + 1 + 1) = some ⟨flat [e1], 4, false, false⟩ := by rw [e6, if_neg (by omega)]; exact r2
  clear e6
  simp [drawQ, apartAll, apartL, Nat.testBit, fn, fd, l6, t0, t1]
  exact hQ _ _ (u6.trans (Up.same (by simp) fun c => by simp)) (.inr ⟨by simp, q0 + 1 + 1, false, rfl, by simpa using t2⟩) ⟨q0 + 1 + 1, rfl, by omega⟩
end
end Go.Proofs.YtjddmnfdnnbbhaaGreat

/- The law's tracers, step by step. -/
namespace Go.Proofs.YtjddmnfdnnbbhaaGreat
open Go Go.RowKit Go.Clean
def nF (b : Nat) : F := some b
def trA : Nat → Tr
  | 0 => tr0
  | 1 => ⟨(some 4602678819172646912, some 4607182418800017408), some 4602678819172646912, 0⟩
  | 2 => ⟨(some 4607182418800017408, some 4611686018427387904), some 4607182418800017408, 0⟩
  | 3 => ⟨(some 4609434218613702656, some 4613937818241073152), some 4609434218613702656, 0⟩
  | 4 => ⟨(some 4611686018427387904, some 4616189618054758400), some 4611686018427387904, 0⟩
  | _ => ⟨(some 4611686018427387904, some 4616189618054758400), some 4611686018427387904, 3⟩
def trB : Nat → Tr
  | 0 => ⟨(some 0, some 4615063718147915776), some 0, 0⟩
  | _ => ⟨(some 0, some 4615063718147915776), some 0, 3⟩
def trC : Nat → Tr
  | 0 => tr0
  | _ => ⟨(some 0, some 0), some 0, 2⟩
def wA : C := (some 4607182418800017408, some 4611686018427387904)
def w0 : C := (some 0, some 9223372036854775808)
theorem wayA (z : C) : way [e1] z = wA := by
  show cconj e1.s = wA
  kernel_rfl
theorem way0 (z : C) : way [] z = w0 := by
  show cconj (some 0, some 0) = w0
  kernel_rfl
def lenA : F := some 4612217596255138984
theorem knA : known 42 [cx wA] = some (M.ret (fv lenA)) := by kernel_rfl
theorem kn0 : known 42 [cx w0] = some (M.ret (fv (some 0))) := by kernel_rfl
theorem goA0 : Goes [e1] wA (trA 0) (trA 1) := ⟨okay1, wayA, rfl, by kernel_rfl, by kernel_rfl, lenA, knA, .inr ⟨by kernel_rfl, by kernel_rfl, by kernel_rfl, by kernel_rfl, by kernel_rfl, true, by kernel_rfl, by kernel_rfl⟩⟩
theorem goA1 : Goes [e1] wA (trA 1) (trA 2) := ⟨okay1, wayA, rfl, by kernel_rfl, by kernel_rfl, lenA, knA, .inr ⟨by kernel_rfl, by kernel_rfl, by kernel_rfl, by kernel_rfl, by kernel_rfl, true, by kernel_rfl, by kernel_rfl⟩⟩
theorem goA2 : Goes [e1] wA (trA 2) (trA 3) := ⟨okay1, wayA, rfl, by kernel_rfl, by kernel_rfl, lenA, knA, .inr ⟨by kernel_rfl, by kernel_rfl, by kernel_rfl, by kernel_rfl, by kernel_rfl, true, by kernel_rfl, by kernel_rfl⟩⟩
theorem goA3 : Goes [e1] wA (trA 3) (trA 4) := ⟨okay1, wayA, rfl, by kernel_rfl, by kernel_rfl, lenA, knA, .inr ⟨by kernel_rfl, by kernel_rfl, by kernel_rfl, by kernel_rfl, by kernel_rfl, true, by kernel_rfl, by kernel_rfl⟩⟩
theorem goA4 : Goes [e1] wA (trA 4) (trA 5) := ⟨okay1, wayA, rfl, by kernel_rfl, by kernel_rfl, lenA, knA, .inr ⟨by kernel_rfl, by kernel_rfl, by kernel_rfl, by kernel_rfl, by kernel_rfl, false, by kernel_rfl, by kernel_rfl⟩⟩
theorem goB0 : Goes [e1] wA (trB 0) (trB 1) := ⟨okay1, wayA, rfl, by kernel_rfl, by kernel_rfl, lenA, knA, .inr ⟨by kernel_rfl, by kernel_rfl, by kernel_rfl, by kernel_rfl, by kernel_rfl, false, by kernel_rfl, by kernel_rfl⟩⟩
theorem goC0 : Goes [] w0 (trC 0) (trC 1) := ⟨okay0, way0, rfl, by kernel_rfl, by kernel_rfl, some 0, kn0, .inl ⟨by kernel_rfl, by kernel_rfl⟩⟩
theorem neqA0 : Neq (trA 0) (trA 1) := by unfold Neq; kernel_rfl
theorem neqA1 : Neq (trA 1) (trA 2) := by unfold Neq; kernel_rfl
theorem neqA2 : Neq (trA 2) (trA 3) := by unfold Neq; kernel_rfl
theorem neqA3 : Neq (trA 3) (trA 4) := by unfold Neq; kernel_rfl
theorem neqA4 : Neq (trA 4) (trA 5) := by unfold Neq; kernel_rfl
theorem neqB0 : Neq (trB 0) (trB 1) := by unfold Neq; kernel_rfl
theorem neqC0 : Neq (trC 0) (trC 1) := by unfold Neq; kernel_rfl
theorem byA (n : Nat) : GoesBy [e1] trA n := ⟨fun k hk h0 => by
  match k with
  | 0 => exact ⟨⟨wA, goA0⟩, neqA0⟩
  | 1 => exact ⟨⟨wA, goA1⟩, neqA1⟩
  | 2 => exact ⟨⟨wA, goA2⟩, neqA2⟩
  | 3 => exact ⟨⟨wA, goA3⟩, neqA3⟩
  | 4 => exact ⟨⟨wA, goA4⟩, neqA4⟩
  | k + 5 => cases h0⟩
theorem byB (n : Nat) : GoesBy [e1] trB n := ⟨fun k hk h0 => by
  match k with
  | 0 => exact ⟨⟨wA, goB0⟩, neqB0⟩
  | k + 1 => cases h0⟩
theorem byC (n : Nat) : GoesBy [] trC n := ⟨fun k hk h0 => by
  match k with
  | 0 => exact ⟨⟨w0, goC0⟩, neqC0⟩
  | k + 1 => cases h0⟩
theorem mayA : (trA 0).May := ⟨by decide, by decide, by decide⟩
theorem mayB : (trB 0).May := ⟨by decide, by decide, by decide⟩
theorem mayC : (trC 0).May := ⟨by decide, by decide, by decide⟩
end Go.Proofs.YtjddmnfdnnbbhaaGreat

/- The law's first loop: the flow. -/
import Derived.Test.YtigbkoadojjajaaGreatWxZ
set_option linter.unusedSimpArgs false
set_option linter.unusedVariables false
namespace Go.Proofs.YtigbkoadojjajaaGreat
open Go.Clean
theorem places_El : (match Tryz.prog.underlying 31 with | some (.struct fs) => placesX Tryz.prog fs.toList | _ => none) = some [(0, 1), (1, 1), (2, 1), (3, 1)] := by kernel_rfl
theorem build_El0 (s : C) : buildX Tryz.prog 31 [(0, .int .u8 1), (2, cx s)] = some (elV 1 (some 0, some 0) s 0) := by
  have h := places_El
  unfold buildX
  simp only [zero_El]
  split at h
  · rename_i fs e
    simp only [e, h]
    simp [fillX, layK, Nat.blt, Nat.ble, elV, cx_zero]
  · cases h
structure LF (fr : Fr) (va : Value) (z : C) (p9 i : Nat) : Prop where
  fn : fr.n = 201
  fd : fr.d = []
  a0 : fr.at 0 = va
  a7 : fr.at 7 = .bool true
  a8 : fr.at 8 = cx z
  a9 : fr.at 9 = .pointer (some ⟨p9, 0, none⟩)
  a10 : fr.at 10 = .int .i64 (i : Nat)
structure LM (m0 m' : Mem) (vE : Value) (g : G) (p9 : Nat) (qs : List W3) : Prop where
  up : Up m0 m'
  low : m0.next ≤ p9
  c9 : m'.at p9 = some ⟨[vE], 1, false, false⟩
  el : EL m' vE (es qs)
  own : ∀ b n k, vE = .slice (some ⟨b, 0, none⟩) n k → m0.next ≤ b
  eq : ∀ q ∈ qs, EQ q
  h3 : ∀ q ∈ qs, q.1.k = 3 → q.2.1 ≠ g
def liI (m0 : Mem) (va : Value) (z : C) (g : G) (p9 : Nat) (k : Nat) (fr : Fr) (m' : Mem) : Prop := ∃ i vE qs, i = 6 * qs.length ∧ k + qs.length = 3 ∧ LF fr va z p9 i ∧ LM m0 m' vE g p9 qs
def liR (m0 : Mem) (va : Value) (z : C) (g : G) (p9 : Nat) : CQ := fun r m' => (r.1 = .exit 0 ∧ ∃ i vE qs, qs.length ≤ 3 ∧ LF r.2 va z p9 i ∧ LM m0 m' vE g p9 qs) ∨ (r.1 = .ret ∧ r.2.n = 201 ∧ r.2.d = [] ∧ r.2.at 6 = .bool true ∧ Up m0 m')
theorem LM.to {m0 m m' : Mem} {vE : Value} {g : G} {p9 : Nat} {qs : List W3} (h : LM m0 m vE g p9 qs) (hw : MW m0) (u : Up m m') : LM m0 m' vE g p9 qs := ⟨h.up.trans u, h.low, u.at h.c9 (h.up.wf hw), h.el.up (h.up.wf hw) u, h.own, h.eq, h.h3⟩
/-- The numbers of an element. -/
def rdI (m : Mem) (va : Value) (n : Nat) (xs : Nat → Int) : Prop := IL m va n xs
theorem rd_at {m : Mem} {va : Value} {n : Nat} {xs : Nat → Int} (h : IL m va n xs) {i : Nat} (hi : i < n) : ∃ b o k x, va = .slice (some ⟨b, o, none⟩) n k ∧ m.at b = some x ∧ ∀ i, i < n → x.cells[o + i]? = some (.int .i64 (xs i)) := by
  obtain ⟨a, k, rfl, h | ⟨b, o, x, rfl, h1, h2⟩⟩ := h
  · omega
  · exact ⟨b, o, k, x, rfl, h1, h2⟩
theorem run_s1 (n : Nat) (a : Int) (m : Mem) (Q : Value → Mem → Prop) : Gives (callN Tryz.prog known (n + 1) 5 [.int .i64 a, .int .i64 1]) m Q ↔ Q (fv (iF (a.tmod 2))) m := run_small n a 1 (.inl rfl) m Q
theorem run_s2 (n : Nat) (a : Int) (m : Mem) (Q : Value → Mem → Prop) : Gives (callN Tryz.prog known (n + 1) 5 [.int .i64 a, .int .i64 2]) m Q ↔ Q (fv (iF (a.tmod 3))) m := run_small n a 2 (.inr (.inl rfl)) m Q
theorem run_s4 (n : Nat) (a : Int) (m : Mem) (Q : Value → Mem → Prop) : Gives (callN Tryz.prog known (n + 1) 5 [.int .i64 a, .int .i64 4]) m Q ↔ Q (fv (iF (a.tmod 5))) m := run_small n a 4 (.inr (.inr (.inl rfl))) m Q
theorem run_s8 (n : Nat) (a : Int) (m : Mem) (Q : Value → Mem → Prop) : Gives (callN Tryz.prog known (n + 1) 5 [.int .i64 a, .int .i64 8]) m Q ↔ Q (fv (iF (a.tmod 9))) m := run_small n a 8 (.inr (.inr (.inr rfl))) m Q
theorem run_alive (n : Nat) (m : Mem) (Q : Value → Mem → Prop) : Gives (callN Tryz.prog known (n + 1) 4 []) m Q ↔ Q (.bool true) m := gk n (by rfl) m Q
theorem zero_Fw : zeroT Tryz.prog 29 = some (.agg ⟨[nilL]⟩) := (by kernel_rfl : zeroT Tryz.prog 29 = some (.agg ⟨[nilL]⟩))
theorem t2_le (a : Int) : (a.tmod 2).natAbs ≤ 1 := Nat.le_of_lt_succ (tmod_le a (k := 2) (by omega))
theorem t3_le (a : Int) : (a.tmod 3).natAbs ≤ 2 := Nat.le_of_lt_succ (tmod_le a (k := 3) (by omega))
theorem t5_le (a : Int) : (a.tmod 5).natAbs ≤ 4 := Nat.le_of_lt_succ (tmod_le a (k := 5) (by omega))
theorem t9_le (a : Int) : (a.tmod 9).natAbs ≤ 8 := Nat.le_of_lt_succ (tmod_le a (k := 9) (by omega))
section
variable {m0 m : Mem} {b : Nat} {k : Int} {a s : C} {p : Nat} {Q : Mem → Prop}
theorem st_any {t : TypeId} {o : Nat} {v : Value} (h : m.at b = some ⟨elL k a s p, 1, false, false⟩) (hu : Up m0 m) (h0 : m0.next ≤ b) (h1 : b < m.next) (hok : storeOK Tryz.prog t v = true) (hc : cellsV v = [v]) (ho : o < 4)
    (q : ∀ m', Up m0 m' → m'.next = m.next → m'.at b = some ⟨(elL k a s p).set o v, 1, false, false⟩ → Q m') : storeQ Tryz.prog t (.pointer (some ⟨b, o, none⟩)) v m Q :=
  storeQ_one h hok hc ho fun m' n _ e => q m' (hu.wr h0 h1 n e) n (by rw [e, if_pos rfl])
end
theorem ok_kind (k : Int) : storeOK Tryz.prog 5 (.int .u8 k) = true := by kernel_rfl
theorem ok_flt (p : Nat) : storeOK Tryz.prog 25 (.float .f64 p) = true := by kernel_rfl
/-- Behind the switch: what the element is. -/
structure SW (m2 m' : Mem) (fr : Fr) (va : Value) (z aC sC : C) (ga : G) (p9 p11 i : Nat) (k : Int) (aE : C) (gE : G) (p n : Nat) : Prop where
  lf : LF fr va z p9 i
  a11 : fr.at 11 = .pointer (some ⟨p11, 0, none⟩)
  a12 : fr.at 12 = cx aC
  up : Up m2 m'
  lt : p11 < m'.next
  c11 : m'.at p11 = some ⟨elL k aE sC p, 1, false, false⟩
  kp : KP k p n
  pl : (k = 1 ∧ aE = (some 0, some 0) ∧ gE = g0) ∨ (k ≠ 1 ∧ aE = aC ∧ gE = ga)
def swR (m2 : Mem) (va : Value) (z aC sC : C) (ga : G) (p9 p11 i : Nat) : CQ := fun r m' => r.1 = .normal ∧ ∃ k aE gE p n, SW m2 m' r.2 va z aC sC ga p9 p11 i k aE gE p n
theorem kind_cases (a : Int) : IntKind.i64.wrap (a.tmod 3 + 3) = a.tmod 3 + 3 ∧ ((a.tmod 3 + 3).tmod 3 = 0 ∨ (a.tmod 3 + 3).tmod 3 = 1 ∨ (a.tmod 3 + 3).tmod 3 = 2) := by
  have h := tmod_le a (k := 3) (by omega)
  have h1 : (a.tmod ((3 : Nat) : Int)) = a.tmod 3 := rfl
  rw [h1] at h
  generalize a.tmod 3 = j at *
  have : j = -2 ∨ j = -1 ∨ j = 0 ∨ j = 1 ∨ j = 2 := by omega
  rcases this with rfl | rfl | rfl | rfl | rfl
  · exact ⟨by kernel_rfl, by decide⟩
  · exact ⟨by kernel_rfl, by decide⟩
  · exact ⟨by kernel_rfl, by decide⟩
  · exact ⟨by kernel_rfl, by decide⟩
  · exact ⟨by kernel_rfl, by decide⟩
theorem pow_add (j : Int) (h : j.natAbs ≤ 2) : ∃ p : Nat, (∀ xo yo : Operand, binX Tryz.prog .add 25 xo yo (.float .f64 4607182418800017408) (.float .f64 (cOf (fabs (iF j)))) = some (.float .f64 p)) ∧ ((j.natAbs = 0 ∧ p = 4607182418800017408) ∨ (j.natAbs = 1 ∧ p = 4611686018427387904) ∨ (j.natAbs = 2 ∧ p = 4613937818241073152)) := by
  obtain ⟨p, h1, h2, h3⟩ := pow_bits j h
  refine ⟨p, fun xo yo => ?_, h3⟩
  have e := bin_fadd (P := Tryz.prog) (t := 25) (xo := xo) (yo := yo) (some 4607182418800017408) (fabs (iF j))
  rw [cOf_one, h1, h2] at e
  exact e
theorem nb_small {x y : Int} {k A : Nat} (hx : x.natAbs ≤ k) (hy : y.natAbs ≤ k) (h : k * k + k * k ≤ A * A) : NB (x, y) (A : Int) := by
  have k1 : x.natAbs * x.natAbs ≤ k * k := Nat.mul_le_mul hx hx
  have k2 : y.natAbs * y.natAbs ≤ k * k := Nat.mul_le_mul hy hy
  have e1 := Int.natAbs_mul_self (a := x)
  have e2 := Int.natAbs_mul_self (a := y)
  show x * x + y * y ≤ (A : Int) * A
  have e3 : ((A * A : Nat) : Int) = (A : Int) * A := by simp
  omega
theorem eq_of {k : Int} {a s : C} {p n : Nat} {ga gs : G} (hk : KP k p n) (wa : WC a ga) (ws : WC s gs) (na : NB ga 6) (ns : NB gs 12) (h1 : k = 1 → ga = g0) : EQ (⟨k, a, s, p, n⟩, ga, gs) :=
  ⟨⟨hk, wa.place (na.mono (by decide) (by decide)), ws.place (ns.mono (by decide) (by decide)), fun h => by rw [wa.nought]; exact decide_eq_true (h1 h)⟩, wa, ws, na, ns⟩
@[simp] theorem ex3_0 (a b c : Value) : extractX (.tuple ⟨[a, b, c]⟩) 0 = some a := (Eq.refl (some a)).trans rfl
@[simp] theorem ex3_1 (a b c : Value) : extractX (.tuple ⟨[a, b, c]⟩) 1 = some b := (Eq.refl (some b)).trans rfl
@[simp] theorem ex3_2 (a b c : Value) : extractX (.tuple ⟨[a, b, c]⟩) 2 = some c := (Eq.refl (some c)).trans rfl
structure LB (fr : Fr) (z sm v : C) (p9 : Nat) (mo : F) (j : Nat) : Prop where
  fn : fr.n = 201
  fd : fr.d = []
  a7 : fr.at 7 = .bool true
  a8 : fr.at 8 = cx z
  a9 : fr.at 9 = .pointer (some ⟨p9, 0, none⟩)
  a16 : fr.at 16 = cx sm
  a18 : fr.at 18 = cx v
  a19 : fr.at 19 = .int .i64 0
  a20 : fr.at 20 = fv mo
  a21 : fr.at 21 = .int .i64 (j : Nat)
def lbI (m0 : Mem) (vE : Value) (z sm v : C) (g : G) (p9 : Nat) (qs : List W3) (k : Nat) (fr : Fr) (m' : Mem) : Prop := ∃ j, j + k = qs.length ∧ LB fr z sm v p9 (mostW (spds (es qs) z) j) j ∧ LM m0 m' vE g p9 qs
def lbR (m0 : Mem) (vE : Value) (z sm v : C) (g : G) (p9 : Nat) (qs : List W3) : CQ := fun r m' => r.1 = .exit 3 ∧ LB r.2 z sm v p9 (mostW (spds (es qs) z) qs.length) qs.length ∧ LM m0 m' vE g p9 qs
theorem fv_zero' : Value.float .f64 0 = fv (some 0) := by unfold fv; rw [cOf_zero]
def skR (m2 : Mem) (va : Value) (z aC sC : C) (ga g : G) (p9 p11 i : Nat) (k : Int) (aE : C) (gE : G) (p n : Nat) : CQ := fun r m' => (r.1 = .normal ∧ SW m2 m' r.2 va z aC sC ga p9 p11 i k aE gE p n ∧ (k = 3 → gE ≠ g)) ∨ (r.1 = .ret ∧ r.2.n = 201 ∧ r.2.d = [] ∧ r.2.at 6 = .bool true ∧ Up m2 m')
section
set_option maxRecDepth 10000
set_option maxHeartbeats 2000000 in
theorem ffrac_ok (d : Nat) {m : Mem} {va : Value} {N : Nat} {xs : Nat → Int} (hw : MW m) (hv : IL m va N xs) (x y : Int) {Q : Value → Mem → Prop} (hQ : ∀ m', Up m m' → Q (.bool true) m') :
    Gives (callN Tryz.prog known (d + 20) 3 [va, .int .i64 x, .int .i64 y]) m Q := by
  refine gives_fn (nt := 201) rfl Tryz.func3 rfl rfl rfl (Nat.le_of_ble_eq_true rfl) fun fr hn hd hargs => ?_
  have h0 : fr.at 0 = _ := hargs 0 _ rfl
  have h1 : fr.at 1 = _ := hargs 1 _ rfl
  have h2 : fr.at 2 = _ := hargs 2 _ rfl
  clear hargs
  obtain ⟨z, hz⟩ : ∃ z : C, z = (iF (x.tmod 5), iF (y.tmod 5)) := ⟨_, rfl⟩
  have hlen : lenX Tryz.prog 22 va = some (.int .i64 N) := by
    obtain ⟨a, k, rfl, _⟩ := hv
    exact len_I _ _ _
  have wz : WC z (x.tmod 5, y.tmod 5) := by
    rw [hz]
    have hx := tmod_le x (k := 5) (by omega)
    have hy := tmod_le y (k := 5) (by omega)
    exact ⟨WF.int _ (Nat.lt_trans hx (by decide)), WF.int _ (Nat.lt_trans hy (by decide))⟩
  obtain ⟨g, hg⟩ : ∃ g : G, g = (x.tmod 5, y.tmod 5) := ⟨_, rfl⟩
  rw [← hg] at wz
  obtain ⟨m1, hm1⟩ : ∃ m1, m1 = m.nw ⟨[nilL], 1, false, false⟩ := ⟨_, rfl⟩
  have u1 : Up m m1 := by rw [hm1]; exact Up.nw _ _
  have e1 : m1.at m.next = some ⟨[nilL], 1, false, false⟩ := by rw [hm1]; simp
  simp [h0, h1, h2, hn, hd, run_alive, run_s4, comp_fv, ← hz, zero_Fw]
  rw [← hm1]
  refine code_loop_post (liR m va z g m.next) (liI m va z g m.next) 3 (by omega) ⟨0, nilL, [], by simp, by simp, ⟨by simp [hn], by simp [hd], by simp [h0], by simp, by simp, by simp, by simp⟩, ⟨u1, Nat.le_refl _, e1, .inl ⟨rfl, rfl⟩, by simp [nilL], by simp, by simp⟩⟩ ?_ ?_
  · rintro k f m2 ⟨i, vE, qs, hi, hk, ⟨f1, f2, f3, f4, f5, f6, f7⟩, lm⟩
    have hlenE := lm.el.len
    have hql : (es qs).length = qs.length := by simp [es]
    rw [hql] at hlenE
    have w5 : IntKind.i64.wrap ((i : Int) + 5) = ((i + 5 : Nat) : Int) := wrap_add i 5 (by omega)
    by_cases hN : i + 5 < N
    · have hN' : (i : Int) + 5 < (N : Int) := by omega
      by_cases hq3 : qs.length < 3
      · have hq3' : (qs.length : Int) < 3 := by omega
        obtain ⟨b, o, kc, xb, hva, hb, hx⟩ := rd_at hv (show i < N by omega)
        have hb2 : m2.at b = some xb := lm.up.at hb hw
        have hbl : b < m2.next := Nat.lt_of_lt_of_le (hw b _ hb) lm.up.next
        have w1 : IntKind.i64.wrap ((i : Int) + 1) = ((i + 1 : Nat) : Int) := wrap_add i 1 (by omega)
        have w2 : IntKind.i64.wrap ((i : Int) + 2) = ((i + 2 : Nat) : Int) := wrap_add i 2 (by omega)
        have w3 : IntKind.i64.wrap ((i : Int) + 3) = ((i + 3 : Nat) : Int) := wrap_add i 3 (by omega)
        have w4 : IntKind.i64.wrap ((i : Int) + 4) = ((i + 4 : Nat) : Int) := wrap_add i 4 (by omega)
        have w6 : IntKind.i64.wrap ((i : Int) + 6) = ((i + 6 : Nat) : Int) := wrap_add i 6 (by omega)
        simp [f1, f3, f6, f7, hlen, w5, hN', yieldX, boolOf_bool, lm.c9, hlenE, hq3']
        obtain ⟨kk, hkk⟩ : ∃ kk, kk = m2.next := ⟨_, rfl⟩
        refine code_draw_cls [0, 0, 0, 0, 1, 0, 0, 0, 0, 0, 1, 0, 0, 0, 2, 4] kk (ms := [0, 0, 2, 7, 15, 31, 0, 0, 128, 448, 960, 2047, 4095, 8191, 0, 32767]) (by kernel_rfl) rfl (by kernel_rfl) (by kernel_rfl) fun ops => ?_
        have i1 := idx_I b o N kc (i + 1) .i64 (by omega)
        have i2 := idx_I b o N kc (i + 2) .i64 (by omega)
        have i3 := idx_I b o N kc (i + 3) .i64 (by omega)
        have i4 := idx_I b o N kc (i + 4) .i64 (by omega)
        have i5 := idx_I b o N kc (i + 5) .i64 (by omega)
        have i0 := idx_I b o N kc i .i64 (by omega)
        have x1 := hx (i + 1) (by omega)
        have x2 := hx (i + 2) (by omega)
        have x3 := hx (i + 3) (by omega)
        have x4 := hx (i + 4) (by omega)
        have x5 := hx (i + 5) (by omega)
        have x0 := hx i (by omega)
        simp at i1 i2 i3 i4 i5
        have hbk : b < kk := by omega
        obtain ⟨sC, hsC⟩ : ∃ sC : C, sC = (iF ((xs (i + 1)).tmod 9), iF ((xs (i + 2)).tmod 9)) := ⟨_, rfl⟩
        obtain ⟨aC, haC⟩ : ∃ aC : C, aC = (iF ((xs (i + 3)).tmod 5), iF ((xs (i + 4)).tmod 5)) := ⟨_, rfl⟩
        simp [drawKQ, f1, f3, f7, hva, w1, w2, i1, i2, x1, x2, hb2, hbk, run_s8, comp_fv, build_El0, zero_El, ← hsC]
        refine ⟨rfl, hkk.symm, storeQ_rule (y := ⟨[.int .u8 0, .complex .f64 0 0, .complex .f64 0 0, .float .f64 0], 1, false, false⟩) (by simp) rfl (by rw [sto_El]; rfl) (l := elL 1 (some 0, some 0) sC 0) rfl fun m3 n3 l3 e3 => ?_⟩
        simp only [Mem.next_lg, Mem.next_nw, Mem.at_lg, Mem.at_nw] at n3 e3
        have u3 : Up m2 m3 := Up.wr (m1 := m2.nw ⟨[.int .u8 0, .complex .f64 0 0, .complex .f64 0 0, .float .f64 0], 1, false, false⟩) (x := ⟨elL 1 (some 0, some 0) sC 0, 1, false, false⟩) (b := kk) (Up.nw _ _) (by omega) (by simp; omega) (by simpa using n3) (fun c => by rw [e3, hkk]; simp)
        have c3 : m3.at kk = some ⟨elL 1 (some 0, some 0) sC 0, 1, false, false⟩ := by rw [e3, hkk, if_pos rfl]
        have hb3 : m3.at b = some xb := by rw [e3, if_neg (by omega), if_neg (by omega)]; exact hb2
        have n3' : kk < m3.next := by omega
        rw [← hkk]
        clear e3 l3 n3
        simp [drawKQ, f1, -code_seq]
        refine (code_seq _ _ _ _ _).2 ?_
        refine code_draw_cls [0, 0, 0, 0, 1, 0, 0, 0, 0, 0, 1, 0, 0, 0] (kk + 1) (ms := [0, 0, 2, 7, 15, 31, 0, 0, 128, 448, 960, 2047, 4095, 8191]) (by kernel_rfl) rfl (by kernel_rfl) (by kernel_rfl) fun ops => ?_
        have hbk2 : b < kk + 1 := by omega
        simp [drawKQ, f1, f3, f7, hva, w3, w4, i3, i4, x3, x4, hb3, hbk2, run_s4, comp_fv, ← haC, -code_seq]
        generalize hm4 : Mem.lg m3 _ = m4
        have u4 : Up m2 m4 := by rw [← hm4]; exact u3.trans (Up.same (by simp) fun c => by simp)
        have n4 : kk < m4.next := by rw [← hm4]; simpa using n3'
        have c4 : m4.at kk = some ⟨elL 1 (some 0, some 0) sC 0, 1, false, false⟩ := by rw [← hm4]; simpa using c3
        have hb4 : m4.at b = some xb := by rw [← hm4]; simpa using hb3
        clear hm4
        refine (code_seq _ _ _ _ _).2 (Gives.mono (Q := swR m2 va z aC sC ((xs (i + 3)).tmod 5, (xs (i + 4)).tmod 5) m.next kk i) ?_ ?_)
        · obtain ⟨hw3, hK⟩ := kind_cases (xs i)
          obtain ⟨K, hKe⟩ : ∃ K, K = ((xs i).tmod 3 + 3).tmod 3 := ⟨_, rfl⟩
          rw [← hKe] at hK
          rcases hK with rfl | rfl | rfl
          · simp [f1, f3, f7, hva, i0, x0, hb4, rem3, hw3, ← hKe]
            exact ⟨rfl, 1, (some 0, some 0), g0, 0, 0, ⟨⟨by simp [f1], by simp [f2], by simp [f3, hva], by simp [f4], by simp [f5], by simp [f6], by simp [f7]⟩, by simp, by simp, u4.trans (Up.rd _ _), by simpa using n4, by simpa using c4, .s, .inl ⟨rfl, rfl, rfl⟩⟩⟩
          · obtain ⟨p, hp, hpc⟩ := pow_add ((xs (i + 5)).tmod 2) (Nat.le_trans (t2_le _) (by decide))
            simp [f1, f3, f7, hva, i0, x0, hb4, rem3, hw3, ← hKe, w5, i5, x5, run_s1, run_abs, fv, hp]
            refine st_any (m0 := m2) (m := (m4.rd b).rd b) (k := 1) (a := (some 0, some 0)) (s := sC) (p := 0) (by simpa using c4) (u4.trans ((Up.rd _ _).trans (Up.rd _ _))) (by omega) (by simpa using n4) (ok_kind 3) (by simp) (by omega) fun m5 u5 n5 c5 => ?_
            have n5' : kk < m5.next := by rw [n5]; simpa using n4
            have c5' : m5.at kk = some ⟨elL 3 (some 0, some 0) sC 0, 1, false, false⟩ := c5
            simp [f1]
            refine st_any (m0 := m2) c5' u5 (by omega) n5' (by simp) (cells_cx _) (by omega) fun m6 u6 n6 c6 => ?_
            have c6' : m6.at kk = some ⟨elL 3 aC sC 0, 1, false, false⟩ := c6
            simp [f1]
            refine st_any (m0 := m2) c6' u6 (by omega) (by omega) (ok_flt p) rfl (by omega) fun m7 u7 n7 c7 => ?_
            have c7' : m7.at kk = some ⟨elL 3 aC sC p, 1, false, false⟩ := c7
            simp [f1]
            obtain ⟨n, hkp⟩ : ∃ n, KP 3 p n := by
              have hle := t2_le (xs (i + 5))
              rcases hpc with ⟨_, rfl⟩ | ⟨_, rfl⟩ | ⟨h, rfl⟩
              · exact ⟨1, .d1⟩
              · exact ⟨2, .d2⟩
              · omega
            exact ⟨rfl, 3, aC, _, p, n, ⟨⟨by simp [f1], by simp [f2], by simp [f3, hva], by simp [f4], by simp [f5], by simp [f6], by simp [f7]⟩, by simp, by simp, u7, by omega, c7', hkp, .inr ⟨by decide, rfl, rfl⟩⟩⟩
          · obtain ⟨p, hp, hpc⟩ := pow_add ((xs (i + 5)).tmod 3) (t3_le _)
            simp [f1, f3, f7, hva, i0, x0, hb4, rem3, hw3, ← hKe, w5, i5, x5, run_s2, run_abs, fv, hp]
            refine st_any (m0 := m2) (m := (m4.rd b).rd b) (k := 1) (a := (some 0, some 0)) (s := sC) (p := 0) (by simpa using c4) (u4.trans ((Up.rd _ _).trans (Up.rd _ _))) (by omega) (by simpa using n4) (ok_kind 4) (by simp) (by omega) fun m5 u5 n5 c5 => ?_
            have n5' : kk < m5.next := by rw [n5]; simpa using n4
            have c5' : m5.at kk = some ⟨elL 4 (some 0, some 0) sC 0, 1, false, false⟩ := c5
            simp [f1]
            refine st_any (m0 := m2) c5' u5 (by omega) n5' (by simp) (cells_cx _) (by omega) fun m6 u6 n6 c6 => ?_
            have c6' : m6.at kk = some ⟨elL 4 aC sC 0, 1, false, false⟩ := c6
            simp [f1]
            refine st_any (m0 := m2) c6' u6 (by omega) (by omega) (ok_flt p) rfl (by omega) fun m7 u7 n7 c7 => ?_
            have c7' : m7.at kk = some ⟨elL 4 aC sC p, 1, false, false⟩ := c7
            simp [f1]
            obtain ⟨n, hkp⟩ : ∃ n, KP 4 p n := by
              have hle := t3_le (xs (i + 5))
              rcases hpc with ⟨_, rfl⟩ | ⟨_, rfl⟩ | ⟨h, rfl⟩
              · exact ⟨1, .c1⟩
              · exact ⟨2, .c2⟩
              · exact ⟨3, .c3⟩
            exact ⟨rfl, 4, aC, _, p, n, ⟨⟨by simp [f1], by simp [f2], by simp [f3, hva], by simp [f4], by simp [f5], by simp [f6], by simp [f7]⟩, by simp, by simp, u7, by omega, c7', hkp, .inr ⟨by decide, rfl, rfl⟩⟩⟩
        · rintro ⟨ex, f'⟩ m5 ⟨hex, k5, aE, gE, p, n, sw⟩
          obtain rfl : ex = .normal := hex
          rw [seqQ_normal]
          obtain ⟨⟨g1, g2, g3, g4, g5, g6, g7⟩, a11, a12, u5, lt5, c11, hkp, hpl⟩ := sw
          simp only at g1 g2 g3 g4 g5 g6 g7 a11 a12
          have wa : WC aC ((xs (i + 3)).tmod 5, (xs (i + 4)).tmod 5) := by
            rw [haC]
            exact ⟨WF.int _ (Nat.lt_of_le_of_lt (t5_le _) (by decide)), WF.int _ (Nat.lt_of_le_of_lt (t5_le _) (by decide))⟩
          have ws : WC sC ((xs (i + 1)).tmod 9, (xs (i + 2)).tmod 9) := by
            rw [hsC]
            exact ⟨WF.int _ (Nat.lt_of_le_of_lt (t9_le _) (by decide)), WF.int _ (Nat.lt_of_le_of_lt (t9_le _) (by decide))⟩
          refine (code_seq _ _ _ _ _).2 (Gives.mono (Q := skR m2 va z aC sC ((xs (i + 3)).tmod 5, (xs (i + 4)).tmod 5) g m.next kk i k5 aE gE p n) ?_ ?_)
          · by_cases hk3 : k5 = 3
            · subst hk3
              rcases hpl with ⟨h, _⟩ | ⟨hk1, rfl, rfl⟩
              · omega
              · have hce := wa.ceq wz
                by_cases hag : ((xs (i + 3)).tmod 5, (xs (i + 4)).tmod 5) = g
                · rw [decide_eq_true hag] at hce
                  simp [g1, a11, a12, c11, yieldX, boolOf_bool, g4, g5, bin_ceq, hce]
                  exact .inr ⟨rfl, by simp [g1], by simp [g2], by simp, u5.trans (Up.rd _ _)⟩
                · rw [decide_eq_false hag] at hce
                  simp [g1, a11, a12, c11, yieldX, boolOf_bool, g5, bin_ceq, hce]
                  exact .inl ⟨rfl, ⟨⟨by simp [g1], by simp [g2], by simp [g3], by simp [g4], by simp [g5], by simp [g6], by simp [g7]⟩, by simp [a11], by simp [a12], u5.trans (Up.rd _ _), by simpa using lt5, by simpa using c11, hkp, .inr ⟨by decide, rfl, rfl⟩⟩, fun _ => hag⟩
            · simp [g1, a11, a12, c11, hk3, yieldX, boolOf_bool]
              exact .inl ⟨rfl, ⟨⟨by simp [g1], by simp [g2], by simp [g3], by simp [g4], by simp [g5], by simp [g6], by simp [g7]⟩, by simp [a11], by simp [a12], u5.trans (Up.rd _ _), by simpa using lt5, by simpa using c11, hkp, hpl⟩, fun h => absurd h hk3⟩
          · clear g1 g2 g3 g4 g5 g6 g7 a11 a12 u5 lt5 c11 hkp hpl
            rintro ⟨ex, f6⟩ m6 (⟨hex, sw, hne⟩ | ⟨hex, g1, g2, g6, u6⟩)
            · obtain rfl : ex = .normal := hex
              rw [seqQ_normal]
              obtain ⟨⟨g1, g2, g3, g4, g5, g6, g7⟩, a11, a12, u6, lt6, c11, hkp, hpl⟩ := sw
              simp only at g1 g2 g3 g4 g5 g6 g7 a11 a12
              have lm6 := lm.to hw u6
              obtain ⟨e, he⟩ : ∃ e : El, e = ⟨k5, aE, sC, p, n⟩ := ⟨_, rfl⟩
              have hev : elV k5 aE sC p = e.val := by rw [he]; rfl
              have hec : elL k5 aE sC p = e.cells := by rw [he]; rfl
              simp [g1, g6, a11, lm6.c9, c11]
              rw [hev]
              refine gives_build1E ?_
              obtain ⟨m7, hm7⟩ : ∃ m7, m7 = ((m6.rd m.next).rd kk).nw ⟨e.cells, 4, false, false⟩ := ⟨_, rfl⟩
              have u7 : Up m6 m7 := by rw [hm7]; exact (Up.rd _ _).trans ((Up.rd _ _).trans (Up.nw _ _))
              have c7 : m7.at m6.next = some ⟨e.cells, 4, false, false⟩ := by rw [hm7]; simp
              have lm7 := lm6.to hw u7
              simp [g1]
              rw [← hm7]
              clear hm7 u7
              refine lm7.el.push c7 lm7.up hw (by rw [hql]; omega) lm7.own fun m8 v8 u8 n8 el8 own8 fr8 => ?_
              have c98 := fr8 _ _ lm7.c9 rfl
              have hv8 : cellsV v8 = [v8] ∧ oneV v8 = true := ⟨el8.cells, el8.one⟩
              simp [g1, g6]
              refine storeQ_one (cs := [vE]) (sz := 1) (gr := false) c98 (by unfold storeOK; rw [size_Els]; simp [hv8]) hv8.1 (by simp) fun m9 n9 l9 e9 => ?_
              have nlt : m.next < m7.next := (lm7.up.wf hw) _ _ lm7.c9
              have u9 : Up m m9 := u8.wr (x := ⟨[v8], 1, false, false⟩) (Nat.le_refl _) (by omega) n9 e9
              have el9 : EL m9 v8 (es qs ++ [e]) := by
                rcases el8 with h | ⟨h, bb, q1, q2⟩
                · exact .inl h
                · refine .inr ⟨h, bb, q1, ?_⟩
                  have := own8 bb _ _ q1
                  rw [e9, if_neg (by omega)]
                  exact q2
              simp [g1, g7, w6]
              have hes : es (qs ++ [(e, gE, ((xs (i + 1)).tmod 9, (xs (i + 2)).tmod 9))]) = es qs ++ [e] := by simp [es]
              refine ⟨k - 1, by omega, i + 6, v8, qs ++ [(e, gE, ((xs (i + 1)).tmod 9, (xs (i + 2)).tmod 9))], by simp; omega, by simp; omega, ⟨by simp [g1], by simp [g2], by simp [g3, hva], by simp [g4], by simp [g5], by simp [g6], by simp⟩, ⟨u9, Nat.le_refl _, by rw [e9, if_pos rfl]; rfl, by rw [hes]; exact el9, fun bb n k h => Nat.le_trans (by omega) (own8 bb n k h), ?_, ?_⟩⟩
              · intro q hq
                rcases List.mem_append.1 hq with hq | hq
                · exact lm.eq q hq
                · rw [List.mem_singleton.1 hq]
                  rw [he]
                  have ns : NB ((xs (i + 1)).tmod 9, (xs (i + 2)).tmod 9) 12 := nb_small (k := 8) (A := 12) (t9_le _) (t9_le _) (by decide)
                  rcases hpl with ⟨hk1, rfl, rfl⟩ | ⟨hk1, rfl, rfl⟩
                  · exact eq_of hkp WC.zero ws (by unfold NB g0; decide) ns fun _ => rfl
                  · exact eq_of hkp wa ws (nb_small (k := 4) (A := 6) (t5_le _) (t5_le _) (by decide)) ns fun h => absurd h hk1
              · intro q hq hk3
                rcases List.mem_append.1 hq with hq | hq
                · exact lm.h3 q hq hk3
                · rw [List.mem_singleton.1 hq] at hk3 ⊢
                  rw [he] at hk3
                  exact hne hk3
            · obtain rfl : ex = .ret := hex
              simp only at g1 g2 g6
              simp
              exact .inr ⟨rfl, g1, g2, g6, lm.up.trans u6⟩
      · have hq3' : ¬ (qs.length : Int) < 3 := by omega
        simp [f1, f3, f6, f7, hlen, w5, hN', yieldX, boolOf_bool, lm.c9, hlenE, hq3']
        exact .inl ⟨rfl, i, vE, qs, by omega, ⟨by simp [f1], by simp [f2], by simp [f3], by simp [f4], by simp [f5], by simp [f6], by simp [f7]⟩, lm.to hw (Up.rd _ _)⟩
    · have hN' : ¬ (i : Int) + 5 < (N : Int) := by omega
      simp [f1, f3, f7, hlen, w5, hN', yieldX, boolOf_bool]
      exact .inl ⟨rfl, i, vE, qs, by omega, ⟨by simp [f1], by simp [f2], by simp [f3], by simp [f4], by simp [f5], by simp [f6], by simp [f7]⟩, lm⟩
  · rintro ⟨ex, f⟩ m2 (⟨hex, i, vE, qs, hl, ⟨f1, f2, f3, f4, f5, f6, f7⟩, lm⟩ | ⟨hex, f1, f2, f6, u2⟩)
    · obtain rfl : ex = .exit 0 := hex
      simp only at f1 f2 f3 f4 f5 f6 f7
      have ng : NB g 6 := by
        rw [hg]
        exact nb_small (k := 4) (A := 6) (t5_le _) (t5_le _) (by decide)
      have zw : cwithin z lim = true := wz.place (ng.mono (by decide) (by decide))
      simp [f1, f6, lm.c9]
      have hql : (es qs).length = qs.length := by simp [es]
      have lm2 := lm.to hw (Up.rd m2 m.next)
      refine fraction_ok _ (lm2.up.wf hw) lm2.el hl lm2.eq fun m3 vt nt vb u3 hnt rt rb => ?_
      have lm3 := lm2.to hw u3
      obtain ⟨m4, hm4⟩ : ∃ m4, m4 = m3.nw ⟨[nilL, nilL], 1, false, false⟩ := ⟨_, rfl⟩
      have u4 : Up m3 m4 := by rw [hm4]; exact Up.nw _ _
      have c4 : m4.at m3.next = some ⟨[nilL, nilL], 1, false, false⟩ := by rw [hm4]; simp
      have n4 : m3.next < m4.next := by rw [hm4]; simp
      simp [f1]
      rw [← hm4]
      refine storeQ_rule (y := ⟨[nilL, nilL], 1, false, false⟩) c4 rfl (by rw [sto_F]; simp [rt.pl.one', rb.pl.one']) (l := [vt, vb]) (by simp; rfl) fun m5 n5 l5 e5 => ?_
      have u5 : Up m3 m5 := Up.wr (x := ⟨[vt, vb], 1, false, false⟩) u4 (Nat.le_refl _) n4 n5 (fun c => by rw [e5])
      have c5 : m5.at m3.next = some ⟨[vt, vb], 1, false, false⟩ := by rw [e5, if_pos rfl]
      have lm5 := lm3.to hw u5
      have mw3 := lm3.up.wf hw
      have rt5 := rt.up mw3 u5
      have rb5 := rb.up mw3 u5
      clear e5 l5 hm4 u4 c4 rt rb
      have u5' := Up.rd m5 m.next
      have lm5' := lm5.to hw u5'
      have hat := at_ok' lm.eq wz ng lm.h3
      simp [f1, f5, f6, lm5.c9]
      refine fspeed_ok _ (lm5'.up.wf hw) lm5'.el (by rw [hql]; exact hl) hat zw (by rw [hql]; exact sum_fin lm.eq hl wz ng lm.h3) fun m6 u6 => ?_
      have u56 := u5'.trans u6
      have lm6 := lm5.to hw u56
      have mw5 := lm5.up.wf hw
      have c6 := u56.at c5 mw5
      have rt6 := rt5.up mw5 u56
      have rb6 := rb5.up mw5 u56
      have hnear := rl_near lm.eq
      have hl9 := rl_len lm.eq hl
      have hB := hs_list (rl qs) g
      have hnz := prodL_nz (rl_ne lm.h3)
      have hlead : ofZ (zf (rl qs)) (rl qs).length ((rl qs).length + 1 - 1) ≠ g0 := by
        rw [Nat.add_sub_cancel, ofZ_lead]; decide
      have hT12 : hs nt (topT qs (rl qs) qs.length) g = hs 12 (topT qs (rl qs) qs.length) g := (hs_more hnt rt6.ends).symm
      simp [f1, f5, yieldX, boolOf_bool, c6]
      refine rat_ok _ ((lm6.up.trans (Up.rd _ m3.next)).wf hw) (rt6.keep fun c => by simp) (rb6.keep fun c => by simp) hlead wz ng (D := fun k => gmul (3, 0) (DT k)) (E := DB) (fun t => topT_3 lm.eq hnear hl9 t hl) (fun t => ofZ_le (zf_bn hnear) hl9 t) (DT_hs nt hnt) (DB_hs _ (by omega)) (by rw [hB]; exact hnz) (fun u w hu hw' => by
        rw [hT12] at hu
        rw [hB] at hw'
        exact quot_fin lm.eq hl wz ng lm.h3 hu hw') fun m7 u w u7 hu hw' => ?_
      rw [hT12] at hu
      rw [hB] at hw'
      have lm7 := lm6.to hw ((Up.rd _ _).trans u7)
      clear rt5 rb5 rt6 rb6 c5 c6 u56 u6 lm5' u5'
      simp [f1]
      refine code_loop_post (lbR m vE z (sumW (spds (es qs) z) qs.length) (cdiv u w) g m.next qs) (lbI m vE z (sumW (spds (es qs) z) qs.length) (cdiv u w) g m.next qs) qs.length (by omega) ⟨0, by omega, ⟨by simp [f1], by simp [f2], by simp [f4], by simp [f5], by simp [f6], by simp [hql], by simp, by simp, by simp [fv_zero', mostW], by simp⟩, lm7⟩ ?_ ?_
      · clear lm2 lm3 lm5 lm6 u5 u3 hlead hT12 f1 f2 f3 f4 f5 f6 f7
        rintro k f m8 ⟨j, hjk, ⟨g1, g2, g7, g8, g9, g16, g18, g19, g20, g21⟩, lm8⟩
        have hlenE := lm8.el.len
        rw [hql] at hlenE
        by_cases hj : j < qs.length
        · have hjE : j < (es qs).length := by rw [hql]; exact hj
          have hje := hat _ (List.getElem_mem hjE)
          have wj := wrap_succ j (by omega)
          rcases id lm8.el with ⟨h, -⟩ | ⟨hne, b, hv2, hb2⟩
          · rw [h] at hjE
            simp at hjE
          · rw [hql] at hv2
            have c9' : m8.at m.next = some ⟨[.slice (some ⟨b, 0, none⟩) qs.length qs.length], 1, false, false⟩ := by rw [← hv2]; exact lm8.c9
            simp [g1, g9, g21, c9', len_Els, hj, idx_El _ _ _ _ hj, hb2, ld_El' hjE, g8]
            refine espeed_ok _ (lm8.up.trans ((Up.rd _ _).trans ((Up.rd _ _).trans (Up.rd _ _))) |>.wf hw) hje.ok.kp hje.ok.ha hje.ok.hs zw hje.ok.h1 hje.h3 hje.fin fun m9 u9 => ?_
            have lm9 := lm8.to hw (((Up.rd _ _).trans ((Up.rd _ _).trans (Up.rd _ _))).trans u9)
            have hsj : spds (es qs) z j = spd (es qs)[j].k (es qs)[j].s (csub z (es qs)[j].a) (es qs)[j].n := by
              unfold spds
              rw [List.getElem?_eq_getElem hjE]; rfl
            rw [← hsj]
            simp [g1, g20, g21, cx, fv, run_abs, wj]
            exact ⟨k - 1, by omega, j + 1, by omega, ⟨by simp [g1], by simp [g2], by simp [g7], by simp [g8], by simp [g9], by simp [g16], by simp [g18], by simp [g19], by simp [fv, mostW], by simp⟩, lm9⟩
        · have hjq : j = qs.length := by omega
          subst hjq
          simp [g1, g9, g21, lm8.c9, hlenE]
          exact ⟨rfl, ⟨by simp [g1], by simp [g2], by simp [g7], by simp [g8], by simp [g9], by simp [g16], by simp [g18], by simp [g19], by simp [g20], by simp [g21]⟩, lm8.to hw (Up.rd _ _)⟩
      · rintro ⟨ex, f⟩ m8 ⟨hex, ⟨g1, g2, g7, g8, g9, g16, g18, g19, g20, g21⟩, lm8⟩
        obtain rfl : ex = .exit 3 := hex
        simp only at g1 g2 g7 g8 g9 g16 g18 g19 g20 g21
        obtain ⟨r1, r2, o1, o2⟩ := off_rv lm.eq hl wz ng lm.h3 hu hw'
        obtain ⟨l1, l2⟩ := law_plain lm.eq hl wz ng lm.h3 hu hw'
        have hsub := fun (xo yo : Operand) => bin_csubR (P := Tryz.prog) (t := 24) (xo := xo) (yo := yo) o1 o2
        refine (code_seq _ _ _ _ _).2 ?_
        simp [g1, g16, g18, hsub, -code_seq]
        refine (code_seq _ _ _ _ _).2 (region_hid fun ops hops => ?_)
        have y1 : ∀ fr, yieldX ops fr 1 = boolOf (fr.at 181) := fun fr => by rw [hops]; rfl
        have y5 : ∀ fr, yieldX ops fr 5 = boolOf (fr.at 185) := fun fr => by rw [hops]; rfl
        have y13 : ∀ fr, yieldX ops fr 13 = boolOf (fr.at 193) := fun fr => by rw [hops]; rfl
        clear hops
        obtain ⟨t1, ht1⟩ : ∃ t, t = fsub (cdiv u w).1 (sumW (spds (es qs) z) qs.length).1 := ⟨_, rfl⟩
        obtain ⟨t2, ht2⟩ : ∃ t, t = fsub (cdiv u w).2 (sumW (spds (es qs) z) qs.length).2 := ⟨_, rfl⟩
        have hoff : csub (cdiv u w) (sumW (spds (es qs) z) qs.length) = (t1, t2) := by rw [ht1, ht2]; rfl
        obtain ⟨mo, hmo⟩ : ∃ mo, mo = mostW (spds (es qs) z) qs.length := ⟨_, rfl⟩
        rw [← ht1, ← hmo] at l1
        rw [← ht2, ← hmo] at l2
        rw [← hmo] at g20
        have hmul := fun (xo yo : Operand) => (bin_fmul (P := Tryz.prog) (t := 25) (xo := xo) (yo := yo) mo t40)
        have e40 : cOf t40 = 4427038433705197568 := by kernel_rfl
        rw [e40] at hmul
        rw [hoff]
        iterate 22 (refine (steps_cons _ _ _ _ _ _).2 ?_; simp [g1, g7, g19, g20, cx, fv, run_abs, hmul, l1, l2, boolOf_bool, -steps_cons, y1, y5, y13])
        exact ⟨g2, hQ _ lm8.up⟩
    · obtain rfl : ex = .ret := hex
      simp only at f1 f2 f6
      simp [f2, f6]
      exact hQ _ u2
end
end Go.Proofs.YtigbkoadojjajaaGreat

/- Polynomials in the clean executor: a range over slices.Backward; values. -/
import Derived.Test.YtigbkoadojjajaaGreatQCZ
set_option linter.unusedSimpArgs false
set_option linter.unusedVariables false
namespace Go.Proofs.YtigbkoadojjajaaGreat
open Go.Clean

/-! ### A range over a function -/
def mkB : Blk := ⟨[], 0, false, true⟩
def Fr.clr (fr : Fr) : Fr := { fr with d := [] }
def Fr.mk1 (fr : Fr) (b : Nat) : Fr := { fr with d := (b, markV) :: fr.d }
@[simp] theorem at_clr (fr : Fr) (t : Nat) : (Fr.clr fr).at t = fr.at t := by cases fr; rfl
@[simp] theorem n_clr (fr : Fr) : (Fr.clr fr).n = fr.n := by cases fr; rfl
@[simp] theorem d_clr (fr : Fr) : (Fr.clr fr).d = [] := by cases fr; rfl
@[simp] theorem at_mk1 (fr : Fr) (b t : Nat) : (Fr.mk1 fr b).at t = fr.at t := by cases fr; rfl
@[simp] theorem n_mk1 (fr : Fr) (b : Nat) : (Fr.mk1 fr b).n = fr.n := by cases fr; rfl
@[simp] theorem d_mk1 (fr : Fr) (b : Nat) : (Fr.mk1 fr b).d = (b, markV) :: fr.d := by cases fr; rfl
theorem gives_round2 {s t : Tmp} {u v : Value} {fr : Fr} {m : Mem} {Q : Fr → Mem → Prop} (hs : s < fr.n) (ht : t < fr.n) (h : Q ((fr.upd s u).upd t v) m) : Gives (putRound [s, t] [u, v] fr) m Q := by
  unfold putRound
  rw [gives_bind]
  refine (gives_put _ _ _ _ _).2 ?_
  rw [putQ_some]
  refine ⟨hs, ?_⟩
  unfold putRound
  rw [gives_bind]
  refine (gives_put _ _ _ _ _).2 ?_
  rw [putQ_some]
  refine ⟨by simpa using ht, ?_⟩
  unfold putRound
  exact (gives_ret _ _ _).2 h
theorem gives_cell {b o : Nat} {m : Mem} {Q : Value → Mem → Prop} {x : Blk} {v : Value} (hb : m.at b = some x) (hv : x.cells[o]? = some v) (h : Q v (m.rd b)) : Gives (cellX ⟨b, o, none⟩) m Q := by
  unfold cellX
  dsimp only
  rw [gives_bind, gives_getB, hb, optQ_some, hv]
  exact (gives_ret _ _ _).2 h
theorem code_range {P : Program} {call : Caller} {g : Operand} {s t : Tmp} {assign body : Code} {fr : Fr} {m : Mem} {Q : CQ} {bx n : Nat} (hnd : (noDefer assign && noDefer body) = true) (hg : (ev fr g).bind (backV P) = some ⟨bx, 0, none⟩) (hn : n ≤ 1048576) (I : Nat → Mem → Prop) {bk : Blk} {a : Option Addr} {kk : Nat}
    (hb : (m.nw mkB).at bx = some bk) (hk : bk.cells[0]? = some (.slice a n kk)) (h0 : I n ((m.nw mkB).rd bx)) (hs : s < fr.n) (ht : t < fr.n)
    (hstep : ∀ i m', i < n → I (i + 1) m' → ∃ bk b o k x xv, m'.at bx = some bk ∧ bk.cells[0]? = some (.slice (some ⟨b, o, none⟩) n k) ∧ m'.at b = some x ∧ x.cells[o + i]? = some xv ∧
      Gives (codeX P call assign (((Fr.clr fr).upd s (.int .i64 i)).upd t xv)) ((m'.rd bx).rd b) fun r m2 => r.1 = .normal ∧ Gives (codeX P call body r.2) m2 fun r m3 => r.1 = .normal ∧ I i m3)
    (hQ : ∀ m', I 0 m' → Q (.normal, Fr.mk1 fr m.next) m') : Gives (codeX P call (.rangeFunc g #[s, t] assign body) fr) m Q := by
  have hloop : ∀ i m', i ≤ n → I i m' → Gives (backX (codeX P call assign) (codeX P call body) ⟨bx, 0, none⟩ n [s, t] (Fr.clr fr) i) m' fun e m2 => e = .normal ∧ I 0 m2 := by
    intro i
    induction i with
    | zero => exact fun m' _ hI => (gives_ret _ _ _).2 ⟨rfl, hI⟩
    | succ i ih =>
      intro m' hi hI
      obtain ⟨bk, b, o, k, x, xv, h1, h2, h3, h4, h5⟩ := hstep i m' (by omega) hI
      unfold backX
      rw [gives_bind]
      refine gives_cell h1 h2 ?_
      dsimp only
      rw [gives_bind, gives_guard]
      refine ⟨by simp, ?_⟩
      rw [gives_bind]
      refine gives_cell (by rw [Mem.at_rd]; exact h3) h4 ?_
      rw [gives_bind]
      refine gives_round2 (by simpa using hs) (by simpa using ht) ?_
      rw [gives_bind]
      refine h5.mono fun r m2 h => ?_
      obtain ⟨e, fr2⟩ := r
      obtain ⟨rfl, h⟩ := h
      dsimp only
      rw [gives_bind]
      refine h.mono fun r m3 h => ?_
      obtain ⟨e, fr3⟩ := r
      obtain ⟨rfl, h⟩ := h
      exact ih m3 (by omega) h
  rw [codeX]
  simp only [hnd, hg, cond_true]
  rw [gives_bind]
  refine (gives_newB _ _ _).2 ?_
  rw [gives_bind]
  refine gives_cell hb hk ?_
  dsimp only
  rw [gives_bind, gives_guard]
  refine ⟨by rw [Nat.ble_eq]; exact hn, ?_⟩
  rw [gives_bind]
  refine (hloop n _ (Nat.le_refl _) h0).mono fun e m2 h => ?_
  obtain ⟨rfl, h⟩ := h
  exact (gives_ret _ _ _).2 (hQ m2 h)
/-- A function that ranges over a function once. -/
def fnM (P : Program) (rs : List ResultVar) (base : Nat) (Q : Value → Mem → Prop) : CQ := fun r m => match r.1 with
  | .exit _ => False
  | _ => ∃ b x, r.2.d = [(b, markV)] ∧ base ≤ b ∧ b < m.next ∧ m.at b = some x ∧ Gives (resX P r.2 rs) ((m.rd b).wr b none) fun vs m' => Q (retV vs) m'
theorem fnM_ret (P : Program) (rs : List ResultVar) (base : Nat) (Q : Value → Mem → Prop) (fr : Fr) (m : Mem) : fnM P rs base Q (.ret, fr) m = ∃ b x, fr.d = [(b, markV)] ∧ base ≤ b ∧ b < m.next ∧ m.at b = some x ∧ Gives (resX P fr rs) ((m.rd b).wr b none) fun vs m' => Q (retV vs) m' := rfl
theorem gives_fnM {P : Program} {known : Known} {n : Nat} {f : FuncId} {fn : Func} {c : Code} {nt : Nat} {rs : List ResultVar} {args : List Value} (hk : known f args = none) (hf : P.funcs[f]? = some fn) (hb : fn.body = some c) (hn : fn.ntmps = nt) (hr : fn.results.toList = rs) (hl : args.length ≤ nt)
    {m : Mem} {Q : Value → Mem → Prop} (h : ∀ fr : Fr, fr.n = nt → fr.d = [] → (∀ i v, args[i]? = some v → fr.at i = v) → Gives (codeX P (callN P known n) c fr) m (fnM P rs m.next Q)) : Gives (callN P known (n + 1) f args) m Q := by
  subst hn; subst hr
  have e : callN P known (n + 1) f args = bodyX P (callN P known n) (fun base fr => runDX (deferredX P (callN P known n)) base fr.d) fn args := by
    conv => lhs; unfold callN
    simp only [hk, hf]
  rw [e]
  unfold bodyX
  simp only [hb]
  rw [gives_bind, gives_guard]
  refine ⟨by rw [Nat.ble_eq]; exact hl, ?_⟩
  rw [gives_bind]
  refine ⟨m.next, m, rfl, ?_⟩
  dsimp only
  rw [gives_bind, frK_eq, gives_ret, gives_bind]
  refine (h ⟨putArgs args 0 .leaf, fn.ntmps, []⟩ rfl rfl fun i v hi => ?_).mono fun r m' q => ?_
  · show ((putArgs args 0 .leaf).get i).getD undef = v
    have hlt : i < args.length := (List.getElem?_eq_some_iff.1 hi).1
    rw [putArgs_get, if_pos (by omega)]
    simp only [Nat.sub_zero, hi]; rfl
  · obtain ⟨e, fr'⟩ := r
    have fin : fnM P fn.results.toList m.next Q (.ret, fr') m' → Gives (do
        runDX (deferredX P (callN P known n)) m.next fr'.d
        let vs ← resX P fr' fn.results.toList
        match vs with
        | [v] => M.ret v
        | vs => M.ret (Value.tuple ⟨vs⟩)) m' Q := by
      rintro ⟨b, x, q1, qb, qn, qx, q2⟩
      rw [gives_bind, q1]
      unfold runDX
      rw [show isMark markV = true from rfl, cond_true, gives_bind]
      refine ⟨m'.next, m', rfl, ?_⟩
      refine (gives_bind _ _ _ _).2 ((gives_guard _ _ _).2 ?_)
      refine ⟨by simp only [Bool.and_eq_true, Nat.ble_eq, Nat.blt_eq]; exact ⟨qb, qn⟩, ?_⟩
      rw [gives_bind, gives_getB, qx, optQ_some, gives_bind, gives_setB]
      refine (gives_ret _ _ _).2 ?_
      rw [gives_bind]
      refine q2.mono fun vs m2 q3 => ?_
      match vs, q3 with
      | [], q3 => exact (gives_ret _ _ _).2 q3
      | [v], q3 => exact (gives_ret _ _ _).2 q3
      | _ :: _ :: _, q3 => exact (gives_ret _ _ _).2 q3
    cases e with
    | normal => exact fin q
    | exit i => exact q.elim
    | ret => exact fin q

section
set_option maxRecDepth 10000
def backF (b : Nat) : Value := .func (.func 88) ⟨[]⟩ ⟨[.pointer (some ⟨b, 0, none⟩)]⟩
theorem backV_f (b : Nat) : backV Tryz.prog (backF b) = some ⟨b, 0, none⟩ := by kernel_rfl
theorem backward_ok (d : Nat) {m : Mem} {v : Value} (hv : oneV v = true) (hc : cellsV v = [v]) {Q : Value → Mem → Prop} (hQ : Q (backF m.next) (m.nw ⟨[v], 1, false, false⟩)) :
    Gives (callN Tryz.prog known (d + 1) 78 [v]) m Q := by
  refine gives_fn (nt := 4) rfl Tryz.func78 rfl rfl rfl (Nat.le_of_ble_eq_true rfl) fun fr hn hd hargs => ?_
  have h0 : fr.at 0 = _ := hargs 0 _ rfl
  clear hargs
  simp [h0, hn, hd, hc, hv]
  exact hQ
theorem bn_le {c d : PG} {z w : G} (hz : BN z w) (h1 : 1 ≤ w.1) {n i : Nat} (h : ∀ k, BN (c k) (d k)) : (tl d w n (i + 1)).1 ≤ (tl d w (n + 1) i).1 := by
  have h2 := (BN.tl (c := c) hz (n := n) (i := i + 1) fun k _ => h _)
  have h3 := (h i).1
  show _ ≤ (gmul (tl d w n (i + 1)) w).1 + (d i).1
  have e : (gmul (tl d w n (i + 1)) w).1 = (tl d w n (i + 1)).1 * w.1 := by show _ * _ - _ * _ = _; rw [h2.2.1, Int.zero_mul, Int.sub_zero]
  rw [e]
  have := Int.mul_le_mul_of_nonneg_left h1 h2.1
  rw [Int.mul_one] at this
  omega
theorem bn_all {c d : PG} {z w : G} (hz : BN z w) (h1 : 1 ≤ w.1) (h : ∀ k, BN (c k) (d k)) {n : Nat} : ∀ i, i ≤ n → (tl d w (n - i) i).1 ≤ (tl d w n 0).1
  | 0, _ => Int.le_refl _
  | i + 1, hi => by
    have h1 := bn_le (c := c) hz h1 (n := n - (i + 1)) (i := i) h
    rw [show n - (i + 1) + 1 = n - i by omega] at h1
    exact Int.le_trans h1 (bn_all (c := c) hz ‹1 ≤ w.1› h i (by omega))
/-- Horner's steps in floats. -/
def ctl (c : Nat → C) (z : C) : Nat → Nat → C
  | 0, i => c i
  | n + 1, i => cadd (cmul (ctl c z n (i + 1)) z) (c i)
/-- A slice whose elements are these floats and these numbers. -/
def PX (m : Mem) (v : Value) (n : Nat) (zs : Nat → C) (c : PG) : Prop :=
  ∃ b o k x, v = .slice (some ⟨b, o, none⟩) n k ∧ n ≤ k ∧ m.at b = some x ∧ x.sz = 1 ∧ ∀ i, i < n → x.cells[o + i]? = some (cx (zs i)) ∧ WC (zs i) (c i)
theorem PX.pl {m : Mem} {v : Value} {n : Nat} {zs : Nat → C} {c : PG} (h : PX m v n zs c) : PL m v n c := by
  obtain ⟨b, o, k, x, h1, h0, h2, h3, h4⟩ := h
  exact ⟨b, o, k, x, h1, h0, h2, h3, fun i hi => ⟨zs i, h4 i hi⟩⟩
theorem PL.px {m : Mem} {v : Value} {n : Nat} {c : PG} (h : PL m v n c) : ∃ zs, PX m v n zs c := by
  obtain ⟨b, o, k, x, h1, h0, h2, h3, h4⟩ := h
  refine ⟨fun i => if h : i < n then Classical.choose (h4 i h) else (none, none), b, o, k, x, h1, h0, h2, h3, fun i hi => ?_⟩
  simp only [dif_pos hi]
  exact Classical.choose_spec (h4 i hi)
theorem PX.up {m m' : Mem} {v : Value} {n : Nat} {zs : Nat → C} {c : PG} (h : PX m v n zs c) (hw : MW m) (u : Up m m') : PX m' v n zs c := by
  obtain ⟨b, o, k, x, h1, h0, h2, h3⟩ := h
  exact ⟨b, o, k, x, h1, h0, u.at h2 hw, h3⟩
theorem PX.keep {m m' : Mem} {v : Value} {n : Nat} {zs : Nat → C} {c : PG} (h : PX m v n zs c) (e : ∀ b, m'.at b = m.at b) : PX m' v n zs c := by
  obtain ⟨b, o, k, x, h1, h0, h2, h3⟩ := h
  exact ⟨b, o, k, x, h1, h0, by rw [e]; exact h2, h3⟩
def atI (m : Mem) (r3 r7 rb b o n k bm : Nat) (x : Blk) (zs : Nat → C) (c : PG) (g : G) (z : C) (j : Nat) (m' : Mem) : Prop := Up m m' ∧ m.next ≤ bm ∧ bm < m'.next ∧ (∃ y, m'.at bm = some y) ∧ m'.at r3 = some ⟨[cx z], 1, false, false⟩ ∧ m'.at rb = some ⟨[.slice (some ⟨b, o, none⟩) (n - 1) k], 1, false, false⟩ ∧ m'.at b = some x ∧ m'.at r7 = some ⟨[cx (ctl zs z (n - 1 - j) j)], 1, false, false⟩ ∧ WC (ctl zs z (n - 1 - j) j) (tl c g (n - j) j)
theorem at_okx (d : Nat) {m : Mem} {v : Value} {n : Nat} {zs : Nat → C} {c : PG} {z : C} {g : G} (hw : MW m) (hv : PX m v n zs c) (hc : OKP n c) (hz : WC z g) (hg : NB g far) {D : PG} {Z : G} (hD : ∀ k, BN (c k) (D k)) (hZ : BN g Z) (h1 : 1 ≤ Z.1) (ht : (hs n D Z).1 ≤ top)
    {Q : Value → Mem → Prop} (hQ : ∀ m', Up m m' → WC (ctl zs z (n - 1) 0) (hs n c g) → Q (.tuple ⟨[cx (ctl zs z (n - 1) 0), .int .i64 0]⟩) m') :
    Gives (callN Tryz.prog known (d + 10) 55 [v, cx z]) m Q := by
  refine gives_fnM (nt := 39) rfl Tryz.func55 rfl rfl rfl (Nat.le_of_ble_eq_true rfl) fun fr hn hd hargs => ?_
  have h0 : fr.at 0 = _ := hargs 0 _ rfl
  have h1 : fr.at 1 = _ := hargs 1 _ rfl
  clear hargs
  have hn0 := hc.pos
  have hn65 := hc.most
  have hu1 := Up.nw m ⟨[cx z], 1, false, false⟩
  simp [h0, h1, hn]
  refine asked_ok d (hv.up hw (hu1.trans (Up.rd _ _))).pl hc hz hg fun m1 hs1 => ?_
  have hv1 : PX m1 v n zs c := hv.up hw (hu1.trans ((Up.rd _ _).trans hs1.up))
  obtain ⟨b, o, k, x, rfl, hk, hb, hsz, he⟩ := hv1
  obtain ⟨hu, hwu⟩ := he (n - 1) (by omega)
  obtain ⟨u, hu0⟩ : ∃ u, u = zs (n - 1) := ⟨_, rfl⟩
  rw [← hu0] at hu hwu
  have hp := wrap_pred n (by omega) (by omega)
  have hne : b ≠ m1.next := by
    intro h
    have := (hu1.trans ((Up.rd _ _).trans hs1.up)).wf hw b x hb
    omega
  simp [h0, hn, hp, idx_L _ _ _ _ _ _ (show n - 1 < n by omega), hb, hu]
  refine storeQ_one (cs := [.complex .f64 0 0]) (sz := 1) (gr := false) (by simp) (by simp) (cells_cx u) (by simp) fun m2 n2 _ e2 => ?_
  simp only [Mem.next_nw, Mem.next_rd, Mem.at_nw, Mem.at_rd, List.set_cons_zero] at n2 e2
  have hb2 : m2.at b = some x := by rw [e2, if_neg hne, if_neg hne]; exact hb
  have hn1 : m1.next = m.next + 1 := by rw [hs1.1]; simp
  have hu2a : Up m ((m1.rd b).nw ⟨[.complex .f64 0 0], 1, false, false⟩) := (hu1.trans ((Up.rd _ _).trans hs1.up)).trans ((Up.rd _ _).trans (Up.nw _ _))
  have hu2 : Up m m2 := hu2a.wr (b := m1.next) (x := ⟨[cx u], 1, false, false⟩) (by omega) (by simp) (by simpa using n2) (fun c => by
    rw [e2]; by_cases h : c = m1.next <;> simp [h])
  have h32 : m2.at m.next = some ⟨[cx z], 1, false, false⟩ := by
    rw [e2, if_neg (by omega), if_neg (by omega), hs1.2]; simp
  have h72 : m2.at m1.next = some ⟨[cx u], 1, false, false⟩ := by rw [e2, if_pos rfl]
  have hbn : b < m2.next := hu2.wf hw b x hb2
  clear e2
  simp [h0, hn, hp]
  refine gives_slice_hi hb2 hsz (by omega) ?_
  simp [hn]
  refine backward_ok _ rfl rfl ?_
  simp [hn]
  have hu3 : Up m (((m2.rd b).nw ⟨[.slice (some ⟨b, o, none⟩) (n - 1) k], 1, false, false⟩).nw mkB) := hu2.trans ((Up.rd _ _).trans ((Up.nw _ _).trans (Up.nw _ _)))
  refine code_range (bx := m2.next) (n := n - 1) (bk := ⟨[.slice (some ⟨b, o, none⟩) (n - 1) k], 1, false, false⟩) rfl ?_ (by omega) (atI m m.next m1.next m2.next b o n k (m2.next + 1) x zs c g z) ?_ rfl ?_ ?_ ?_ ?_ ?_
  · simp [backV_f]
  · simp
  · refine ⟨hu3.trans (Up.rd _ _), by have := hu2.next; omega, by simp, ⟨mkB, by simp⟩, ?_, ?_, ?_, ?_, ?_⟩
    · simp [show m.next ≠ m2.next by omega, show m.next ≠ m2.next + 1 by omega, h32]
    · simp
    · simp [show b ≠ m2.next by omega, show b ≠ m2.next + 1 by omega, hb2]
    · rw [show n - 1 - (n - 1) = 0 by omega, show ctl zs z 0 (n - 1) = u from hu0.symm]
      simp [show m1.next ≠ m2.next by omega, show m1.next ≠ m2.next + 1 by omega, h72]
    · rw [show n - 1 - (n - 1) = 0 by omega, show n - (n - 1) = 1 by omega]
      show WC (zs (n - 1)) (gadd (gmul g0 g) (c (n - 1)))
      rw [zero_gmul, zero_gadd, ← hu0]
      exact hwu
  · simp [hn]
  · simp [hn]
  · rintro i m' hi ⟨a1, a2, a3, ⟨y, a4⟩, a5, a6, a7, a8, a9⟩
    obtain ⟨hzi, hwi⟩ := he i (by omega)
    refine ⟨_, b, o, k, x, cx (zs i), a6, rfl, a7, hzi, ?_⟩
    have hstep : ctl zs z (n - 1 - i) i = cadd (cmul (ctl zs z (n - 1 - (i + 1)) (i + 1)) z) (zs i) := by
      rw [show n - 1 - i = (n - 1 - (i + 1)) + 1 by omega]; rfl
    generalize ctl zs z (n - 1 - (i + 1)) (i + 1) = v at a8 a9 hstep
    simp [hn, a5, a8, run_mul, run_add]
    refine storeQ_one (cs := [cx v]) (sz := 1) (gr := false) (by simp [a8]) (by simp) (cells_cx _) (by simp) fun m4 n4 _ e4 => ?_
    simp only [Mem.next_rd, Mem.at_rd, List.set_cons_zero] at n4 e4
    have hne2 := hu2.next
    simp
    refine ⟨a1.wr (b := m1.next) (by omega) (by omega) n4 e4, a2, by omega, ⟨y, by rw [e4, if_neg (by omega)]; exact a4⟩, by rw [e4, if_neg (by omega)]; exact a5, by rw [e4, if_neg (by omega)]; exact a6, by rw [e4, if_neg hne]; exact a7, by rw [e4, if_pos rfl, hstep], ?_⟩
    have hB := BN.tl hZ (c := c) (d := D) (n := n - (i + 1)) (i := i + 1) fun k _ => hD _
    have hle := bn_all (c := c) hZ ‹1 ≤ Z.1› hD (n := n) i (by omega)
    rw [hstep]
    rw [show n - i = n - (i + 1) + 1 by omega] at hle ⊢
    exact WC.step a9 hz hwi hB hZ (hD i) (Int.le_trans hle ht)
  · rintro m' ⟨a1, a2, a3, ⟨y, a4⟩, a5, a6, a7, a8, a9⟩
    rw [Nat.sub_zero] at a8 a9
    have hB := BN.tl hZ (c := c) (d := D) (n := n) (i := 0) fun k _ => hD _
    simp [hn, a8, run_finite, WC.fin a9 hB ht]
    rw [fnM_ret]
    refine ⟨m2.next + 1, y, by simp [hd], by omega, by simpa using a3, by simpa using a4, ?_⟩
    simp
    refine hQ _ ?_ a9
    have h1 : Up m ((((m'.rd m1.next).rd m1.next).rd (m2.next + 1))) := a1.trans ((Up.rd _ _).trans ((Up.rd _ _).trans (Up.rd _ _)))
    exact h1.gone (b := m2.next + 1) (by omega) (by simp) (fun c => by simp)
theorem at_ok (d : Nat) {m : Mem} {v : Value} {n : Nat} {c : PG} {z : C} {g : G} (hw : MW m) (hv : PL m v n c) (hc : OKP n c) (hz : WC z g) (hg : NB g far) {D : PG} {Z : G} (hD : ∀ k, BN (c k) (D k)) (hZ : BN g Z) (h1 : 1 ≤ Z.1) (ht : (hs n D Z).1 ≤ top)
    {Q : Value → Mem → Prop} (hQ : ∀ m' u, Up m m' → WC u (hs n c g) → Q (.tuple ⟨[cx u, .int .i64 0]⟩) m') :
    Gives (callN Tryz.prog known (d + 10) 55 [v, cx z]) m Q := by
  obtain ⟨zs, hx⟩ := hv.px
  exact at_okx d hw hx hc hz hg hD hZ h1 ht fun m' hu hwu => hQ m' _ hu hwu
end
end Go.Proofs.YtigbkoadojjajaaGreat

/- Polynomials in the clean executor: copies, sums. -/
namespace Go.Proofs.YtigbkoadojjajaaGreat
open Go.Clean

@[simp] theorem bin_nil_L (xo yo : Operand) (a : Addr) (n c : Nat) : binX Tryz.prog .eql 33 xo yo (.slice (some a) n c) (.slice none 0 0) = some (.bool false) := by
  unfold binX
  simp [eqlX, isNilLit, nilType, under_L, isNil]
/-- A polynomial in memory. -/
structure RP (m : Mem) (v : Value) (n : Nat) (c : PG) : Prop where
  pl : PL m v n c
  ok : OKP n c
  ends : Ends c n
theorem RP.up {m m' : Mem} {v : Value} {n : Nat} {c : PG} (h : RP m v n c) (hw : MW m) (u : Up m m') : RP m' v n c := ⟨h.pl.up hw u, h.ok, h.ends⟩
theorem RP.keep {m m' : Mem} {v : Value} {n : Nat} {c : PG} (h : RP m v n c) (e : ∀ b, m'.at b = m.at b) : RP m' v n c := ⟨h.pl.keep e, h.ok, h.ends⟩
theorem ends_of {c : PG} {n N : Nat} (h : Ends c N) (hz : ∀ i, n ≤ i → i < N → c i = g0) : Ends c n := fun k hk => by
  by_cases h1 : k < N
  · exact hz k hk h1
  · exact h k (by omega)
section
set_option maxRecDepth 10000
theorem answer_ok (d : Nat) {m : Mem} {b o k N : Nat} {c : PG} (hv : PL m (.slice (some ⟨b, o, none⟩) N k) N c) (h0 : 0 < N) (hN : N ≤ 65) (hc : ∀ i, NB (c i) far) (he : Ends c N) {Q : Value → Mem → Prop}
    (hQ : ∀ m' v n, Sm m m' → n ≤ N → RP m' v n c → Q (.tuple ⟨[v, .int .i64 0]⟩) m') :
    Gives (callN Tryz.prog known (d + 5) 41 [.slice (some ⟨b, o, none⟩) N k]) m Q :=
  answered_ok d hv h0 hN hc fun m' n hs h1 h2 h3 h4 => hQ m' _ n hs h2 ⟨(hv.keep hs.2).less h2 (Nat.le_refl _), ⟨h1, by omega, hc, h4⟩, ends_of he h3⟩
theorem clone_ok (d : Nat) {m : Mem} {v : Value} {n : Nat} {c : PG} (hw : MW m) (hv : PL m v n c) (hn0 : 0 < n) (hn1 : n ≤ 65) {Q : Value → Mem → Prop}
    (hQ : ∀ m' b cells, Up m m' → m.next ≤ b → b < m'.next → m'.at b = some ⟨cells, 1, true, false⟩ → CL cells n c → Q (.slice (some ⟨b, 0, none⟩) n n) m') :
    Gives (callN Tryz.prog known (d + 1) 48 [v]) m Q := by
  refine gives_fn (nt := 8) rfl Tryz.func48 rfl rfl rfl (Nat.le_of_ble_eq_true rfl) fun fr hn hd hargs => ?_
  have h0 : fr.at 0 = _ := hargs 0 _ rfl
  clear hargs
  have hv' := hv
  obtain ⟨b, o, k, x, rfl, hk, hb, hs, he⟩ := hv'
  obtain ⟨x', l, hb', hl, hcl⟩ := hv.take
  obtain rfl : x = x' := by rw [hb] at hb'; exact Option.some.inj hb'
  have hbn : b < m.next := hw b x hb
  simp [h0, hn, hd]
  refine gives_build0 ?_
  simp [h0, hn, hd]
  refine gives_append_lit (x := x) (by simp) (by simp [show b ≠ m.next by omega, hb]) hl hcl.one hn0 (by omega) ?_
  simp [hn, hd]
  exact hQ _ _ _ ((Up.nw _ _).trans ((Up.rd _ _).trans ((Up.rd _ _).trans (Up.nw _ _)))) (by omega) (by simp) (by simp) hcl

def adI (m : Mem) (vb : Value) (bo n k : Nat) (a b : PG) (j : Nat) (fr : Fr) (m' : Mem) : Prop := ∃ i cells, i + j = k ∧ fr.n = 46 ∧ fr.d = [] ∧ fr.at 7 = .slice (some ⟨bo, 0, none⟩) n n ∧ fr.at 25 = vb ∧ fr.at 26 = .int .i64 k ∧ fr.at 27 = .int .i64 (i : Nat) ∧ Up m m' ∧ m.next ≤ bo ∧ bo < m'.next ∧ m'.at bo = some ⟨cells, 1, true, false⟩ ∧ CL cells n fun x => if x < i then gadd (a x) (b x) else a x
def adR (m : Mem) (bo n : Nat) (a b : PG) (r : Ex × Fr) (m' : Mem) : Prop := r.1 = .exit 0 ∧ ∃ cells, r.2.n = 46 ∧ r.2.d = [] ∧ r.2.at 7 = .slice (some ⟨bo, 0, none⟩) n n ∧ Up m m' ∧ m'.at bo = some ⟨cells, 1, true, false⟩ ∧ CL cells n fun x => gadd (a x) (b x)
theorem add_rest (d : Nat) {fr : Fr} {m : Mem} {va vb : Value} {n k : Nat} {a b : PG} (hw : MW m) (ha : RP m va n a) (hb : RP m vb k b) (hkn : k ≤ n) (hc : ∀ i, NB (gadd (a i) (b i)) far) (hn : fr.n = 46) (hd : fr.d = []) (h0 : fr.at 0 = va) (h1 : fr.at 1 = vb) {Q : Value → Mem → Prop}
    (hQ : ∀ m' v n', Up m m' → n' ≤ n → RP m' v n' (fun i => gadd (a i) (b i)) → Q (.tuple ⟨[v, .int .i64 0]⟩) m') :
    Gives (codeX Tryz.prog (callN Tryz.prog known (d + 9)) (sR (sR (sR (bodyOf Tryz.f22)))) fr) m (fnQ Tryz.prog [.tmp 4, .tmp 5] Q) := by
  refine via (X := .seq (.region _ _ _) _) rfl ?_
  have hn65 := ha.ok.most
  simp [h0, hn]
  refine clone_ok _ hw ha.pl ha.ok.pos ha.ok.most fun m1 bo cells hu1 hb1 hb2 hbo hcl => ?_
  have hvb := hb.pl.up hw hu1
  obtain ⟨b2, o, kk, x, rfl, hkk, hbx, hs, he⟩ := hvb
  simp [h1, hn]
  refine code_loop_post (adR m bo n a b) (adI m (.slice (some ⟨b2, o, none⟩) k kk) bo n k a b) k (by omega) ⟨0, cells, by omega, by simp [hn], by simp [hd], by simp, by simp, by simp, by simp, hu1, hb1, hb2, hbo, by simpa using hcl⟩ ?_ ?_
  · rintro j fr' m' ⟨i, cells, hij, hn', hd', g7, g25, g26, g27, hu, q1, q2, q3, q4⟩
    by_cases hi : i < k
    · obtain ⟨z, hz, hwz⟩ := he i hi
      have hbk : b2 ≠ bo := by
        intro h
        have hbb := hb.pl
        obtain ⟨b3, o3, k3, x3, e1, _, e2, _⟩ := hbb
        cases e1
        have := hw b2 x3 e2
        omega
      have hm : m'.at b2 = some x := by
        have hbb := hb.pl
        obtain ⟨b3, o3, k3, x3, e1, _, e2, _⟩ := hbb
        cases e1
        have h3 := hu1.at e2 hw
        rw [hbx] at h3
        cases Option.some.inj h3
        exact hu.at e2 hw
      obtain ⟨y, hy, hwy⟩ := q4.2 i (by omega)
      simp only [Nat.lt_irrefl, if_false] at hwy
      have hwr := wrap_succ i (by omega)
      simp [g7, g25, g26, g27, hn', hi, idx_L _ _ _ _ _ _ hi, idx_L _ _ _ _ _ _ (show i < n by omega), hm, hz, q3, hy, run_add]
      refine storeQ_one (cs := cells) (sz := 1) (gr := true) (by simp [q3]) (by simp) (cells_cx _) (by rw [q4.1]; omega) fun m4 n4 _ e4 => ?_
      simp only [Mem.next_rd, Mem.at_rd] at n4 e4
      simp [hn', g27, hwr]
      refine ⟨j - 1, by omega, i + 1, _, by omega, by simp [hn'], by simp [hd'], by simp [g7], by simp [g25], by simp [g26], by simp, hu.wr (b := bo) q1 q2 n4 e4, q1, by omega, by rw [e4, if_pos rfl], q4.set (by omega) (hwy.addB hwz (BN.real (by decide) (hc i)) (by decide)) fun x hx => ?_⟩
      by_cases hxi : x = i
      · subst hxi; rw [if_pos (by omega), if_pos rfl]
      · rw [if_neg hxi]
        by_cases h : x < i
        · rw [if_pos h, if_pos (by omega)]
        · rw [if_neg h, if_neg (by omega)]
    · simp [g7, g25, g26, g27, hn', hi]
      refine ⟨rfl, cells, by simp [hn'], by simp [hd'], by simp [g7], hu, q3, q4.congr fun x hx => ?_⟩
      by_cases h : x < i
      · rw [if_pos h]
      · rw [if_neg h, hb.ends x (by omega), gadd_zero]
  · rintro ⟨e, fr'⟩ m' ⟨he', cells, hn', hd', g7, hu, q3, q4⟩
    obtain rfl : e = .exit 0 := he'
    simp only at hn' hd' g7
    simp [g7, hn']
    refine answer_ok (c := fun i => gadd (a i) (b i)) _ (PL.own q3 q4) ha.ok.pos ha.ok.most hc (fun i hi => by show gadd (a i) (b i) = g0; rw [ha.ends i hi, hb.ends i (by omega), gadd_zero]) fun m2 v n' hs2 hn2 hr => ?_
    simp [hn', hd']
    exact hQ m2 v n' (hu.trans hs2.up) hn2 hr
theorem add_ok (d : Nat) {m : Mem} {va vb : Value} {n k : Nat} {a b : PG} (hw : MW m) (ha : RP m va n a) (hb : RP m vb k b) (hc : ∀ i, NB (gadd (a i) (b i)) far) {Q : Value → Mem → Prop}
    (hQ : ∀ m' v n', Up m m' → n' ≤ max n k → RP m' v n' (fun i => gadd (a i) (b i)) → Q (.tuple ⟨[v, .int .i64 0]⟩) m') :
    Gives (callN Tryz.prog known (d + 10) 22 [va, vb]) m Q := by
  refine gives_fn (nt := 46) rfl Tryz.func22 rfl rfl rfl (Nat.le_of_ble_eq_true rfl) fun fr hn hd hargs => ?_
  have h0 : fr.at 0 = _ := hargs 0 _ rfl
  have h1 : fr.at 1 = _ := hargs 1 _ rfl
  clear hargs
  obtain ⟨ba, oa, ka, xa, rfl, _⟩ := id ha.pl
  obtain ⟨bb, ob, kb, xb, rfl, _⟩ := id hb.pl
  simp [h0, h1, hn]
  refine both_ok _ ha.pl ha.ok hb.pl hb.ok fun m1 hs => ?_
  simp [h0, h1, hn, -code_seq]
  refine (code_seq _ _ _ _ _).2 ?_
  simp [h0, h1, hn, -code_seq]
  refine (code_seq _ _ _ _ _).2 ((code_seq _ _ _ _ _).2 ?_)
  have hw1 := hs.mw hw
  by_cases hlt : n < k
  · simp [h0, h1, hn, -code_seq, show (n : Int) < (k : Int) by omega]
    refine via (X := sR (sR (sR (bodyOf Tryz.f22)))) (by kernel_rfl) (add_rest d hw1 (hb.keep hs.2) (ha.keep hs.2) (by omega) (fun i => by rw [gadd_comm]; exact hc i) ?_ ?_ ?_ ?_ fun m' v n' hu hn' hr => ?_)
    · simp [hn]
    · simp [hd]
    · simp
    · simp
    · refine hQ m' v n' (hs.up.trans hu) (by omega) ?_
      have e : (fun i => gadd (b i) (a i)) = fun i => gadd (a i) (b i) := by funext i; exact gadd_comm _ _
      rw [e] at hr
      exact hr
  · simp [h0, h1, hn, -code_seq, show ¬ (n : Int) < (k : Int) by omega]
    refine via (X := sR (sR (sR (bodyOf Tryz.f22)))) (by kernel_rfl) (add_rest d hw1 (ha.keep hs.2) (hb.keep hs.2) (by omega) hc ?_ ?_ ?_ ?_ fun m' v n' hu hn' hr => hQ m' v n' (hs.up.trans hu) (by omega) hr)
    · simp [hn]
    · simp [hd]
    · simp [h0]
    · simp [h1]
end
end Go.Proofs.YtigbkoadojjajaaGreat

/- Polynomials in the clean executor: products. -/
namespace Go.Proofs.YtigbkoadojjajaaGreat
open Go.Clean

/-! ### make -/
def mkOK (P : Program) (t : TypeId) (v : Value) : Bool := match P.underlying t with
  | some (.slice e) => match P.info? e, zeroT P e with
    | some i, some z => i.size == 1 && (cellsV z).length == 1 && Nat.ble i.bytes 1024 && oneV v && (match cellsV z, v with
      | [.complex .f64 0 0], .complex .f64 0 0 => true
      | [.bool false], .bool false => true
      | _, _ => false)
    | _, _ => false
  | _ => false
theorem mk_L : mkOK Tryz.prog 33 (.complex .f64 0 0) = true := by kernel_rfl
theorem mk_B : mkOK Tryz.prog 110 (.bool false) = true := by kernel_rfl
theorem repeat_one (v : Value) : ∀ n, repeatL [v] n = List.replicate n v
  | 0 => rfl
  | n + 1 => by rw [List.replicate_succ, ← repeat_one v n]; rfl
theorem gives_make {P : Program} {t : TypeId} {v : Value} (h : mkOK P t v = true) {l c : Nat} {q q' : IntKind} (hl : l ≤ c) (hc : c ≤ 1048576) {m : Mem} {Q : Value → Mem → Prop} (hQ : Q (.slice (some ⟨m.next, 0, none⟩) l c) (m.nw ⟨List.replicate c v, 1, false, false⟩)) : Gives (makeSliceX P t (.int q l) (.int q' c)) m Q := by
  unfold mkOK at h
  split at h
  · rename_i e h1
    split at h
    · rename_i i z h2 h3
      simp only [Bool.and_eq_true, beq_iff_eq, Nat.ble_eq] at h
      obtain ⟨⟨⟨⟨h4, h5⟩, h6⟩, h7⟩, h8⟩ := h
      have hz : cellsV z = [v] := by
        split at h8
        · rename_i e1; exact e1
        · rename_i e1; exact e1
        · cases h8
      unfold makeSliceX
      simp only [h1, h2, h3]
      rw [gives_bind, gives_guard]
      refine ⟨?_, ?_⟩
      · simp only [Bool.and_eq_true, beq_iff_eq, decide_eq_true_eq, Nat.ble_eq, Nat.blt_eq]
        refine ⟨⟨⟨by omega, by omega⟩, by omega⟩, ?_⟩
        rw [Int.toNat_natCast]
        exact Nat.le_trans (Nat.mul_le_mul h6 hc) (by decide)
      · rw [gives_bind, gives_newX, hz, repeat_one, h4]
        refine ⟨?_, (gives_ret _ _ _).2 ?_⟩
        · rw [List.all_eq_true]
          intro u hu
          rw [List.eq_of_mem_replicate hu]
          exact h7
        · simpa using hQ
    · cases h
  · cases h
theorem cx_zero : Value.complex .f64 0 0 = cx (some 0, some 0) := by unfold cx; rw [cOf_zero]
theorem WC.zero : WC (some 0, some 0) g0 := ⟨WF.zero, WF.zero⟩
theorem CL.zeros (n : Nat) : CL (List.replicate n (Value.complex .f64 0 0)) n fun _ => g0 := by
  refine ⟨by simp, fun i hi => ⟨_, ?_, WC.zero⟩⟩
  rw [List.getElem?_replicate, if_pos hi, cx_zero]
/-- Which places have been come to. -/
def TL (cells : List Value) (n : Nat) (th : Nat → Bool) : Prop := cells.length = n ∧ ∀ i, i < n → cells[i]? = some (.bool (th i))
theorem TL.none (n : Nat) : TL (List.replicate n (Value.bool false)) n fun _ => false := by
  refine ⟨by simp, fun i hi => ?_⟩
  rw [List.getElem?_replicate, if_pos hi]
theorem TL.set {cells : List Value} {n : Nat} {th : Nat → Bool} (h : TL cells n th) {i : Nat} (hi : i < n) : TL (cells.set i (.bool true)) n fun k => if k = i then true else th k := by
  refine ⟨by rw [List.length_set]; exact h.1, fun k hk => ?_⟩
  rw [List.getElem?_set]
  show _ = some (Value.bool (if k = i then true else th k))
  by_cases hki : k = i
  · subst hki; rw [if_pos rfl, if_pos (by rw [h.1]; exact hk), if_pos rfl]
  · rw [if_neg (fun h => hki h.symm), if_neg hki]; exact h.2 k hk

/-- A list of one's own. -/
def OL (m0 m : Mem) (v : Value) : Prop := ∃ b o n k x, v = .slice (some ⟨b, o, none⟩) n k ∧ m0.next ≤ b ∧ m.at b = some x ∧ x.ro = false ∧ x.sz = 1
theorem OL.low {m0 m1 m : Mem} {v : Value} (h : OL m1 m v) (u : m0.next ≤ m1.next) : OL m0 m v := by
  obtain ⟨b, o, n, k, x, h1, h2, h3⟩ := h
  exact ⟨b, o, n, k, x, h1, Nat.le_trans u h2, h3⟩
section
set_option maxRecDepth 10000
structure MF (fr : Fr) (va vb : Value) (n k bo bt N i : Nat) : Prop where
  fn : fr.n = 88
  fd : fr.d = []
  a1 : fr.at 1 = vb
  a7 : fr.at 7 = .slice (some ⟨bo, 0, none⟩) N N
  a8 : fr.at 8 = .slice (some ⟨bt, 0, none⟩) N N
  a45 : fr.at 45 = va
  a46 : fr.at 46 = .int .i64 n
  a47 : fr.at 47 = .int .i64 (i : Nat)
structure MM (m m' : Mem) (bo bt N : Nat) (c : PG) : Prop where
  up : Up m m'
  bo1 : m.next ≤ bo
  bt1 : m.next ≤ bt
  ne : bo ≠ bt
  bo2 : bo < m'.next
  bt2 : bt < m'.next
  ex : ∃ cells tc th, m'.at bo = some ⟨cells, 1, false, false⟩ ∧ m'.at bt = some ⟨tc, 1, false, false⟩ ∧ CL cells N c ∧ TL tc N th ∧ ∀ k, k < N → th k = false → c k = g0
theorem MM.keep {m m' m2 : Mem} {bo bt N : Nat} {c e : PG} (h : MM m m' bo bt N c) (hs : Sm m' m2) (he : ∀ t, e t = c t) : MM m m2 bo bt N e := by
  obtain ⟨h1, h2, h3, h4, h5, h6, cells, tc, th, q1, q2, q3, q4, q5⟩ := h
  exact ⟨h1.trans hs.up, h2, h3, h4, by rw [hs.1]; exact h5, by rw [hs.1]; exact h6, cells, tc, th, by rw [hs.2]; exact q1, by rw [hs.2]; exact q2, q3.congr fun t _ => (he t).symm, q4, fun t ht hf => by rw [he]; exact q5 t ht hf⟩
def mlI (m : Mem) (va vb : Value) (n k bo bt N : Nat) (a b : PG) (j : Nat) (fr : Fr) (m' : Mem) : Prop := ∃ i, i + j = n ∧ MF fr va vb n k bo bt N i ∧ MM m m' bo bt N (cv a b i)
def mlJ (m : Mem) (va vb : Value) (n k bo bt N i : Nat) (a b : PG) (x : C) (q : Nat) (fr : Fr) (m' : Mem) : Prop := ∃ j, j + q = k ∧ MF fr va vb n k bo bt N i ∧ fr.at 9 = .int .i64 (i : Nat) ∧ fr.at 10 = cx x ∧ fr.at 52 = vb ∧ fr.at 53 = .int .i64 k ∧ fr.at 54 = .int .i64 (j : Nat) ∧ MM m m' bo bt N fun t => if t < i + j then cv a b (i + 1) t else cv a b i t
def mlS (m : Mem) (va vb : Value) (n k bo bt N i : Nat) (a b : PG) (r : Ex × Fr) (m' : Mem) : Prop := r.1 = .exit 2 ∧ MF r.2 va vb n k bo bt N i ∧ MM m m' bo bt N (cv a b (i + 1))
def mlR (m : Mem) (bo bt N n : Nat) (a b : PG) (r : Ex × Fr) (m' : Mem) : Prop := r.1 = .exit 0 ∧ r.2.n = 88 ∧ r.2.d = [] ∧ r.2.at 7 = .slice (some ⟨bo, 0, none⟩) N N ∧ MM m m' bo bt N (cv a b n)
def small : Int := 1048576
theorem cv_low {a b : PG} {i k : Nat} (h : k < i) : cv a b (i + 1) k = cv a b i k := by
  show gadd (cv a b i k) (gmul (a i) (up i b k)) = _
  unfold YtigbkoadojjajaaGreat.up
  rw [if_neg (by omega), gmul_zero, gadd_zero]
theorem cv_high {a b : PG} {i k lb : Nat} (hb : Ends b lb) (h : i + lb ≤ k) : cv a b (i + 1) k = cv a b i k := by
  show gadd (cv a b i k) (gmul (a i) (up i b k)) = _
  unfold YtigbkoadojjajaaGreat.up
  rw [if_pos (by omega), hb _ (by omega), gmul_zero, gadd_zero]
theorem cv_here {a b : PG} {i j : Nat} : cv a b (i + 1) (i + j) = gadd (cv a b i (i + j)) (gmul (a i) (b j)) := by
  show gadd (cv a b i (i + j)) (gmul (a i) (up i b (i + j))) = _
  unfold YtigbkoadojjajaaGreat.up
  rw [if_pos (by omega), Nat.add_sub_cancel_left]
end
end Go.Proofs.YtigbkoadojjajaaGreat

/- Polynomials in the clean executor: shifts. -/
namespace Go.Proofs.YtigbkoadojjajaaGreat
open Go.Clean

section
set_option maxRecDepth 10000
structure SF (fr : Fr) (z : C) (n bo j : Nat) : Prop where
  fn : fr.n = 53
  fd : fr.d = []
  a1 : fr.at 1 = cx z
  a7 : fr.at 7 = .slice (some ⟨bo, 0, none⟩) n n
  a8 : fr.at 8 = .int .i64 ((n - 1 : Nat) : Int)
  a22 : fr.at 22 = .int .i64 ((n - 1 : Nat) : Int)
  a23 : fr.at 23 = .int .i64 (j : Nat)
structure SM (m m' : Mem) (bo n : Nat) (c : PG) : Prop where
  up : Up m m'
  bo1 : m.next ≤ bo
  bo2 : bo < m'.next
  ex : ∃ cells, m'.at bo = some ⟨cells, 1, true, false⟩ ∧ CL cells n c
theorem SM.keep {m m' m2 : Mem} {bo n : Nat} {c e : PG} (h : SM m m' bo n c) (hs : Sm m' m2) (he : ∀ t, t < n → e t = c t) : SM m m2 bo n e := by
  obtain ⟨h1, h2, h3, cells, q1, q2⟩ := h
  exact ⟨h1.trans hs.up, h2, by rw [hs.1]; exact h3, cells, by rw [hs.2]; exact q1, q2.congr fun t ht => (he t ht).symm⟩
def shI (m : Mem) (z : C) (g : G) (n bo : Nat) (c : PG) (q : Nat) (fr : Fr) (m' : Mem) : Prop := ∃ j, j + q = n - 1 ∧ SF fr z n bo j ∧ SM m m' bo n (sh (n - 1) g c j)
def shJ (m : Mem) (z : C) (g : G) (n bo j : Nat) (s : PG) (r : Nat) (fr : Fr) (m' : Mem) : Prop := ∃ q, q = r + j ∧ q ≤ n - 1 ∧ SF fr z n bo j ∧ fr.at 9 = .int .i64 (j : Nat) ∧ fr.at 10 = .int .i64 ((q : Int) - 1) ∧ SM m m' bo n fun k => if q ≤ k ∧ k ≤ n - 1 then tl s g (n - k) k else s k
def shS (m : Mem) (z : C) (g : G) (n bo j : Nat) (c : PG) (r : Ex × Fr) (m' : Mem) : Prop := r.1 = .exit 2 ∧ SF r.2 z n bo j ∧ SM m m' bo n (sh (n - 1) g c (j + 1))
def shR (m : Mem) (g : G) (n bo : Nat) (c : PG) (r : Ex × Fr) (m' : Mem) : Prop := r.1 = .exit 0 ∧ r.2.n = 53 ∧ r.2.d = [] ∧ r.2.at 7 = .slice (some ⟨bo, 0, none⟩) n n ∧ SM m m' bo n (sh (n - 1) g c (n - 1))
end
end Go.Proofs.YtigbkoadojjajaaGreat

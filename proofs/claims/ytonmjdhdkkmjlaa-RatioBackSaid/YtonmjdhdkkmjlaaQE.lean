/- Polynomials in the clean executor: a range over slices.Backward; values. -/
import Derived.Test.YtonmjdhdkkmjlaaQD
namespace Go.Proofs.Ytonmjdhdkkmjlaa
open Go.Clean

/-! ### A range over a function -/
def mkB : Blk := ⟨[], 0, false, true⟩
def Fr.clr (fr : Fr) : Fr := { fr with d := [] }
def Fr.mk1 (fr : Fr) (b : Nat) : Fr := { fr with d := (b, markV) :: fr.d }
@[simp] theorem at_clr (fr : Fr) (t : Nat) : (Fr.clr fr).at t = fr.at t := by cases fr; rfl
@[simp] theorem n_clr (fr : Fr) : (Fr.clr fr).n = fr.n := by cases fr; rfl
@[simp] theorem d_clr (fr : Fr) : (Fr.clr fr).d = [] := by cases fr; rfl
@[simp] theorem at_mk1 (fr : Fr) (b t : Nat) : (Fr.mk1 fr b).at t = fr.at t := by cases fr; rfl
@[simp] theorem n_mk1 (fr : Fr) (b : Nat) : (Fr.mk1 fr b).n = fr.n := by cases fr; rfl
@[simp] theorem d_mk1 (fr : Fr) (b : Nat) : (Fr.mk1 fr b).d = (b, markV) :: fr.d := by cases fr; rfl
theorem gives_round2 {s t : Tmp} {u v : Value} {fr : Fr} {m : Mem} {Q : Fr → Mem → Prop} (hs : s < fr.n) (ht : t < fr.n) (h : Q ((fr.upd s u).upd t v) m) : Gives (putRound [s, t] [u, v] fr) m Q := by
  unfold putRound
  rw [gives_bind]
  refine (gives_put _ _ _ _ _).2 ?_
  rw [putQ_some]
  refine ⟨hs, ?_⟩
  unfold putRound
  rw [gives_bind]
  refine (gives_put _ _ _ _ _).2 ?_
  rw [putQ_some]
  refine ⟨by simpa using ht, ?_⟩
  unfold putRound
  exact (gives_ret _ _ _).2 h
theorem gives_cell {b o : Nat} {m : Mem} {Q : Value → Mem → Prop} {x : Blk} {v : Value} (hb : m.at b = some x) (hv : x.cells[o]? = some v) (h : Q v (m.rd b)) : Gives (cellX ⟨b, o, none⟩) m Q := by
  unfold cellX
  dsimp only
  rw [gives_bind, gives_getB, hb, optQ_some, hv]
  exact (gives_ret _ _ _).2 h
theorem code_range {P : Program} {call : Caller} {g : Operand} {s t : Tmp} {assign body : Code} {fr : Fr} {m : Mem} {Q : CQ} {bx n : Nat} (hnd : (noDefer assign && noDefer body) = true) (hg : (ev fr g).bind (backV P) = some ⟨bx, 0, none⟩) (hn : n ≤ 1048576) (I : Nat → Mem → Prop) {bk : Blk} {a : Option Addr} {kk : Nat}
    (hb : (m.nw mkB).at bx = some bk) (hk : bk.cells[0]? = some (.slice a n kk)) (h0 : I n ((m.nw mkB).rd bx)) (hs : s < fr.n) (ht : t < fr.n)
    (hstep : ∀ i m', i < n → I (i + 1) m' → ∃ bk b o k x xv, m'.at bx = some bk ∧ bk.cells[0]? = some (.slice (some ⟨b, o, none⟩) n k) ∧ m'.at b = some x ∧ x.cells[o + i]? = some xv ∧
      Gives (codeX P call assign (((Fr.clr fr).upd s (.int .i64 i)).upd t xv)) ((m'.rd bx).rd b) fun r m2 => r.1 = .normal ∧ Gives (codeX P call body r.2) m2 fun r m3 => r.1 = .normal ∧ I i m3)
    (hQ : ∀ m', I 0 m' → Q (.normal, Fr.mk1 fr m.next) m') : Gives (codeX P call (.rangeFunc g #[s, t] assign body) fr) m Q := by
  have hloop : ∀ i m', i ≤ n → I i m' → Gives (backX (codeX P call assign) (codeX P call body) ⟨bx, 0, none⟩ n [s, t] (Fr.clr fr) i) m' fun e m2 => e = .normal ∧ I 0 m2 := by
    intro i
    induction i with
    | zero => exact fun m' _ hI => (gives_ret _ _ _).2 ⟨rfl, hI⟩
    | succ i ih =>
      intro m' hi hI
      obtain ⟨bk, b, o, k, x, xv, h1, h2, h3, h4, h5⟩ := hstep i m' (by omega) hI
      unfold backX
      rw [gives_bind]
      refine gives_cell h1 h2 ?_
      dsimp only
      rw [gives_bind, gives_guard]
      refine ⟨by simp, ?_⟩
      rw [gives_bind]
      refine gives_cell (by rw [Mem.at_rd]; exact h3) h4 ?_
      rw [gives_bind]
      refine gives_round2 (by simpa using hs) (by simpa using ht) ?_
      rw [gives_bind]
      refine h5.mono fun r m2 h => ?_
      obtain ⟨e, fr2⟩ := r
      obtain ⟨rfl, h⟩ := h
      dsimp only
      rw [gives_bind]
      refine h.mono fun r m3 h => ?_
      obtain ⟨e, fr3⟩ := r
      obtain ⟨rfl, h⟩ := h
      exact ih m3 (by omega) h
  rw [codeX]
  simp only [hnd, hg, cond_true]
  rw [gives_bind]
  refine (gives_newB _ _ _).2 ?_
  rw [gives_bind]
  refine gives_cell hb hk ?_
  dsimp only
  rw [gives_bind, gives_guard]
  refine ⟨by rw [Nat.ble_eq]; exact hn, ?_⟩
  rw [gives_bind]
  refine (hloop n _ (Nat.le_refl _) h0).mono fun e m2 h => ?_
  obtain ⟨rfl, h⟩ := h
  exact (gives_ret _ _ _).2 (hQ m2 h)
/-- A function that ranges over a function once. -/
def fnM (P : Program) (rs : List ResultVar) (base : Nat) (Q : Value → Mem → Prop) : CQ := fun r m => match r.1 with
  | .exit _ => False
  | _ => ∃ b x, r.2.d = [(b, markV)] ∧ base ≤ b ∧ b < m.next ∧ m.at b = some x ∧ Gives (resX P r.2 rs) ((m.rd b).wr b none) fun vs m' => Q (retV vs) m'
theorem fnM_ret (P : Program) (rs : List ResultVar) (base : Nat) (Q : Value → Mem → Prop) (fr : Fr) (m : Mem) : fnM P rs base Q (.ret, fr) m = ∃ b x, fr.d = [(b, markV)] ∧ base ≤ b ∧ b < m.next ∧ m.at b = some x ∧ Gives (resX P fr rs) ((m.rd b).wr b none) fun vs m' => Q (retV vs) m' := rfl
theorem gives_fnM {P : Program} {known : Known} {n : Nat} {f : FuncId} {fn : Func} {c : Code} {nt : Nat} {rs : List ResultVar} {args : List Value} (hk : known f args = none) (hf : P.funcs[f]? = some fn) (hb : fn.body = some c) (hn : fn.ntmps = nt) (hr : fn.results.toList = rs) (hl : args.length ≤ nt)
    {m : Mem} {Q : Value → Mem → Prop} (h : ∀ fr : Fr, fr.n = nt → fr.d = [] → (∀ i v, args[i]? = some v → fr.at i = v) → Gives (codeX P (callN P known n) c fr) m (fnM P rs m.next Q)) : Gives (callN P known (n + 1) f args) m Q := by
  subst hn; subst hr
  have e : callN P known (n + 1) f args = bodyX P (callN P known n) (fun base fr => runDX (deferredX P (callN P known n)) base fr.d) fn args := by
    conv => lhs; unfold callN
    simp only [hk, hf]
  rw [e]
  unfold bodyX
  simp only [hb]
  rw [gives_bind, gives_guard]
  refine ⟨by rw [Nat.ble_eq]; exact hl, ?_⟩
  rw [gives_bind]
  refine ⟨m.next, m, rfl, ?_⟩
  dsimp only
  rw [gives_bind, frK_eq, gives_ret, gives_bind]
  refine (h ⟨putArgs args 0 .leaf, fn.ntmps, []⟩ rfl rfl fun i v hi => ?_).mono fun r m' q => ?_
  · show ((putArgs args 0 .leaf).get i).getD undef = v
    have hlt : i < args.length := (List.getElem?_eq_some_iff.1 hi).1
    rw [putArgs_get, if_pos (by omega)]
    simp only [Nat.sub_zero, hi]; rfl
  · obtain ⟨e, fr'⟩ := r
    have fin : fnM P fn.results.toList m.next Q (.ret, fr') m' → Gives (do
        runDX (deferredX P (callN P known n)) m.next fr'.d
        let vs ← resX P fr' fn.results.toList
        match vs with
        | [v] => M.ret v
        | vs => M.ret (Value.tuple ⟨vs⟩)) m' Q := by
      rintro ⟨b, x, q1, qb, qn, qx, q2⟩
      rw [gives_bind, q1]
      unfold runDX
      rw [show isMark markV = true from rfl, cond_true, gives_bind]
      refine ⟨m'.next, m', rfl, ?_⟩
      refine (gives_bind _ _ _ _).2 ((gives_guard _ _ _).2 ?_)
      refine ⟨by simp only [Bool.and_eq_true, Nat.ble_eq, Nat.blt_eq]; exact ⟨qb, qn⟩, ?_⟩
      rw [gives_bind, gives_getB, qx, optQ_some, gives_bind, gives_setB]
      refine (gives_ret _ _ _).2 ?_
      rw [gives_bind]
      refine q2.mono fun vs m2 q3 => ?_
      match vs, q3 with
      | [], q3 => exact (gives_ret _ _ _).2 q3
      | [v], q3 => exact (gives_ret _ _ _).2 q3
      | _ :: _ :: _, q3 => exact (gives_ret _ _ _).2 q3
    cases e with
    | normal => exact fin q
    | exit i => exact q.elim
    | ret => exact fin q

section
set_option maxRecDepth 10000
def backF (b : Nat) : Value := .func (.func 85) ⟨[]⟩ ⟨[.pointer (some ⟨b, 0, none⟩)]⟩
theorem backV_f (b : Nat) : backV Try.prog (backF b) = some ⟨b, 0, none⟩ := by kernel_rfl
theorem backward_ok (d : Nat) {m : Mem} {v : Value} (hv : oneV v = true) (hc : cellsV v = [v]) {Q : Value → Mem → Prop} (hQ : Q (backF m.next) (m.nw ⟨[v], 1, false, false⟩)) :
    Gives (callN Try.prog known (d + 1) 72 [v]) m Q := by
  refine gives_fn (nt := 4) rfl Try.func72 rfl rfl rfl (Nat.le_of_ble_eq_true rfl) fun fr hn hd hargs => ?_
  have h0 : fr.at 0 = _ := hargs 0 _ rfl
  clear hargs
  simp [h0, hn, hd, hc, hv]
  exact hQ
theorem bn_le {c d : PG} {z w : G} (hz : BN z w) (h1 : 1 ≤ w.1) {n i : Nat} (h : ∀ k, BN (c k) (d k)) : (tl d w n (i + 1)).1 ≤ (tl d w (n + 1) i).1 := by
  have h2 := (BN.tl (c := c) hz (n := n) (i := i + 1) fun k _ => h _)
  have h3 := (h i).1
  show _ ≤ (gmul (tl d w n (i + 1)) w).1 + (d i).1
  have e : (gmul (tl d w n (i + 1)) w).1 = (tl d w n (i + 1)).1 * w.1 := by show _ * _ - _ * _ = _; rw [h2.2.1, Int.zero_mul, Int.sub_zero]
  rw [e]
  have := Int.mul_le_mul_of_nonneg_left h1 h2.1
  rw [Int.mul_one] at this
  omega
theorem bn_all {c d : PG} {z w : G} (hz : BN z w) (h1 : 1 ≤ w.1) (h : ∀ k, BN (c k) (d k)) {n : Nat} : ∀ i, i ≤ n → (tl d w (n - i) i).1 ≤ (tl d w n 0).1
  | 0, _ => Int.le_refl _
  | i + 1, hi => by
    have h1 := bn_le (c := c) hz h1 (n := n - (i + 1)) (i := i) h
    rw [show n - (i + 1) + 1 = n - i by omega] at h1
    exact Int.le_trans h1 (bn_all (c := c) hz ‹1 ≤ w.1› h i (by omega))
/-- Horner's steps in floats. -/
def ctl (c : Nat → C) (z : C) : Nat → Nat → C
  | 0, i => c i
  | n + 1, i => cadd (cmul (ctl c z n (i + 1)) z) (c i)
/-- A slice whose elements are these floats and these numbers. -/
def PX (m : Mem) (v : Value) (n : Nat) (zs : Nat → C) (c : PG) : Prop :=
  ∃ b o k x, v = .slice (some ⟨b, o, none⟩) n k ∧ n ≤ k ∧ m.at b = some x ∧ x.sz = 1 ∧ ∀ i, i < n → x.cells[o + i]? = some (cx (zs i)) ∧ WC (zs i) (c i)
theorem PX.pl {m : Mem} {v : Value} {n : Nat} {zs : Nat → C} {c : PG} (h : PX m v n zs c) : PL m v n c := by
  obtain ⟨b, o, k, x, h1, h0, h2, h3, h4⟩ := h
  exact ⟨b, o, k, x, h1, h0, h2, h3, fun i hi => ⟨zs i, h4 i hi⟩⟩
theorem PL.px {m : Mem} {v : Value} {n : Nat} {c : PG} (h : PL m v n c) : ∃ zs, PX m v n zs c := by
  obtain ⟨b, o, k, x, h1, h0, h2, h3, h4⟩ := h
  refine ⟨fun i => if h : i < n then Classical.choose (h4 i h) else (none, none), b, o, k, x, h1, h0, h2, h3, fun i hi => ?_⟩
  simp only [dif_pos hi]
  exact Classical.choose_spec (h4 i hi)
theorem PX.up {m m' : Mem} {v : Value} {n : Nat} {zs : Nat → C} {c : PG} (h : PX m v n zs c) (hw : MW m) (u : Up m m') : PX m' v n zs c := by
  obtain ⟨b, o, k, x, h1, h0, h2, h3⟩ := h
  exact ⟨b, o, k, x, h1, h0, u.at h2 hw, h3⟩
theorem PX.keep {m m' : Mem} {v : Value} {n : Nat} {zs : Nat → C} {c : PG} (h : PX m v n zs c) (e : ∀ b, m'.at b = m.at b) : PX m' v n zs c := by
  obtain ⟨b, o, k, x, h1, h0, h2, h3⟩ := h
  exact ⟨b, o, k, x, h1, h0, by rw [e]; exact h2, h3⟩
def atI (m : Mem) (r3 r7 rb b o n k bm : Nat) (x : Blk) (zs : Nat → C) (c : PG) (g : G) (z : C) (j : Nat) (m' : Mem) : Prop := Up m m' ∧ m.next ≤ bm ∧ bm < m'.next ∧ (∃ y, m'.at bm = some y) ∧ m'.at r3 = some ⟨[cx z], 1, false, false⟩ ∧ m'.at rb = some ⟨[.slice (some ⟨b, o, none⟩) (n - 1) k], 1, false, false⟩ ∧ m'.at b = some x ∧ m'.at r7 = some ⟨[cx (ctl zs z (n - 1 - j) j)], 1, false, false⟩ ∧ WC (ctl zs z (n - 1 - j) j) (tl c g (n - j) j)
theorem at_okx (d : Nat) {m : Mem} {v : Value} {n : Nat} {zs : Nat → C} {c : PG} {z : C} {g : G} (hw : MW m) (hv : PX m v n zs c) (hc : OKP n c) (hz : WC z g) (hg : NB g far) {D : PG} {Z : G} (hD : ∀ k, BN (c k) (D k)) (hZ : BN g Z) (h1 : 1 ≤ Z.1) (ht : (hs n D Z).1 ≤ top)
    {Q : Value → Mem → Prop} (hQ : ∀ m', Up m m' → WC (ctl zs z (n - 1) 0) (hs n c g) → Q (.tuple ⟨[cx (ctl zs z (n - 1) 0), .int .i64 0]⟩) m') :
    Gives (callN Try.prog known (d + 10) 49 [v, cx z]) m Q := by
  refine gives_fnM (nt := 39) rfl Try.func49 rfl rfl rfl (Nat.le_of_ble_eq_true rfl) fun fr hn hd hargs => ?_
  have h0 : fr.at 0 = _ := hargs 0 _ rfl
  have h1 : fr.at 1 = _ := hargs 1 _ rfl
  clear hargs
  have hn0 := hc.pos
  have hn65 := hc.most
  have hu1 := Up.nw m ⟨[cx z], 1, false, false⟩
  simp [h0, h1, hn]
  refine asked_ok d (hv.up hw (hu1.trans (Up.rd _ _))).pl hc hz hg fun m1 hs1 => ?_
  have hv1 : PX m1 v n zs c := hv.up hw (hu1.trans ((Up.rd _ _).trans hs1.up))
  obtain ⟨b, o, k, x, rfl, hk, hb, hsz, he⟩ := hv1
  obtain ⟨hu, hwu⟩ := he (n - 1) (by omega)
  obtain ⟨u, hu0⟩ : ∃ u, u = zs (n - 1) := ⟨_, rfl⟩
  rw [← hu0] at hu hwu
  have hp := wrap_pred n (by omega) (by omega)
  have hne : b ≠ m1.next := by
    intro h
    have := (hu1.trans ((Up.rd _ _).trans hs1.up)).wf hw b x hb
    omega
  simp [h0, hn, hp, idx_L _ _ _ _ _ _ (show n - 1 < n by omega), hb, hu]
  refine storeQ_one (cs := [.complex .f64 0 0]) (sz := 1) (gr := false) (by simp) (by simp) (cells_cx u) (by simp) fun m2 n2 _ e2 => ?_
  simp only [Mem.next_nw, Mem.next_rd, Mem.at_nw, Mem.at_rd, List.set_cons_zero] at n2 e2
  have hb2 : m2.at b = some x := by rw [e2, if_neg hne, if_neg hne]; exact hb
  have hn1 : m1.next = m.next + 1 := by rw [hs1.1]; simp
  have hu2a : Up m ((m1.rd b).nw ⟨[.complex .f64 0 0], 1, false, false⟩) := (hu1.trans ((Up.rd _ _).trans hs1.up)).trans ((Up.rd _ _).trans (Up.nw _ _))
  have hu2 : Up m m2 := hu2a.wr (b := m1.next) (x := ⟨[cx u], 1, false, false⟩) (by omega) (by simp) (by simpa using n2) (fun c => by
    rw [e2]; by_cases h : c = m1.next <;> simp [h])
  have h32 : m2.at m.next = some ⟨[cx z], 1, false, false⟩ := by
    rw [e2, if_neg (by omega), if_neg (by omega), hs1.2]; simp
  have h72 : m2.at m1.next = some ⟨[cx u], 1, false, false⟩ := by rw [e2, if_pos rfl]
  have hbn : b < m2.next := hu2.wf hw b x hb2
  clear e2
  simp [h0, hn, hp]
  refine gives_slice_hi hb2 hsz (by omega) ?_
  simp [hn]
  refine backward_ok _ rfl rfl ?_
  simp [hn]
  have hu3 : Up m (((m2.rd b).nw ⟨[.slice (some ⟨b, o, none⟩) (n - 1) k], 1, false, false⟩).nw mkB) := hu2.trans ((Up.rd _ _).trans ((Up.nw _ _).trans (Up.nw _ _)))
  refine code_range (bx := m2.next) (n := n - 1) (bk := ⟨[.slice (some ⟨b, o, none⟩) (n - 1) k], 1, false, false⟩) rfl ?_ (by omega) (atI m m.next m1.next m2.next b o n k (m2.next + 1) x zs c g z) ?_ rfl ?_ ?_ ?_ ?_ ?_
  · simp [backV_f]
  · simp
  · refine ⟨hu3.trans (Up.rd _ _), by have := hu2.next; omega, by simp, ⟨mkB, by simp⟩, ?_, ?_, ?_, ?_, ?_⟩
    · simp [show m.next ≠ m2.next by omega, show m.next ≠ m2.next + 1 by omega, h32]
    · simp
    · simp [show b ≠ m2.next by omega, show b ≠ m2.next + 1 by omega, hb2]
    · rw [show n - 1 - (n - 1) = 0 by omega, show ctl zs z 0 (n - 1) = u from hu0.symm]
      simp [show m1.next ≠ m2.next by omega, show m1.next ≠ m2.next + 1 by omega, h72]
    · rw [show n - 1 - (n - 1) = 0 by omega, show n - (n - 1) = 1 by omega]
      show WC (zs (n - 1)) (gadd (gmul g0 g) (c (n - 1)))
      rw [zero_gmul, zero_gadd, ← hu0]
      exact hwu
  · simp [hn]
  · simp [hn]
  · rintro i m' hi ⟨a1, a2, a3, ⟨y, a4⟩, a5, a6, a7, a8, a9⟩
    obtain ⟨hzi, hwi⟩ := he i (by omega)
    refine ⟨_, b, o, k, x, cx (zs i), a6, rfl, a7, hzi, ?_⟩
    have hstep : ctl zs z (n - 1 - i) i = cadd (cmul (ctl zs z (n - 1 - (i + 1)) (i + 1)) z) (zs i) := by
      rw [show n - 1 - i = (n - 1 - (i + 1)) + 1 by omega]; rfl
    generalize ctl zs z (n - 1 - (i + 1)) (i + 1) = v at a8 a9 hstep
    simp [hn, a5, a8, run_mul, run_add]
    refine storeQ_one (cs := [cx v]) (sz := 1) (gr := false) (by simp [a8]) (by simp) (cells_cx _) (by simp) fun m4 n4 _ e4 => ?_
    simp only [Mem.next_rd, Mem.at_rd, List.set_cons_zero] at n4 e4
    have hne2 := hu2.next
    simp
    refine ⟨a1.wr (b := m1.next) (by omega) (by omega) n4 e4, a2, by omega, ⟨y, by rw [e4, if_neg (by omega)]; exact a4⟩, by rw [e4, if_neg (by omega)]; exact a5, by rw [e4, if_neg (by omega)]; exact a6, by rw [e4, if_neg hne]; exact a7, by rw [e4, if_pos rfl, hstep], ?_⟩
    have hB := BN.tl hZ (c := c) (d := D) (n := n - (i + 1)) (i := i + 1) fun k _ => hD _
    have hle := bn_all (c := c) hZ ‹1 ≤ Z.1› hD (n := n) i (by omega)
    rw [hstep]
    rw [show n - i = n - (i + 1) + 1 by omega] at hle ⊢
    exact WC.step a9 hz hwi hB hZ (hD i) (Int.le_trans hle ht)
  · rintro m' ⟨a1, a2, a3, ⟨y, a4⟩, a5, a6, a7, a8, a9⟩
    rw [Nat.sub_zero] at a8 a9
    have hB := BN.tl hZ (c := c) (d := D) (n := n) (i := 0) fun k _ => hD _
    simp [hn, a8, run_finite, WC.fin a9 hB ht]
    rw [fnM_ret]
    refine ⟨m2.next + 1, y, by simp [hd], by omega, by simpa using a3, by simpa using a4, ?_⟩
    simp
    refine hQ _ ?_ a9
    have h1 : Up m ((((m'.rd m1.next).rd m1.next).rd (m2.next + 1))) := a1.trans ((Up.rd _ _).trans ((Up.rd _ _).trans (Up.rd _ _)))
    exact h1.gone (b := m2.next + 1) (by omega) (by simp) (fun c => by simp)
theorem at_ok (d : Nat) {m : Mem} {v : Value} {n : Nat} {c : PG} {z : C} {g : G} (hw : MW m) (hv : PL m v n c) (hc : OKP n c) (hz : WC z g) (hg : NB g far) {D : PG} {Z : G} (hD : ∀ k, BN (c k) (D k)) (hZ : BN g Z) (h1 : 1 ≤ Z.1) (ht : (hs n D Z).1 ≤ top)
    {Q : Value → Mem → Prop} (hQ : ∀ m' u, Up m m' → WC u (hs n c g) → Q (.tuple ⟨[cx u, .int .i64 0]⟩) m') :
    Gives (callN Try.prog known (d + 10) 49 [v, cx z]) m Q := by
  obtain ⟨zs, hx⟩ := hv.px
  exact at_okx d hw hx hc hz hg hD hZ h1 ht fun m' hu hwu => hQ m' _ hu hwu
end
end Go.Proofs.Ytonmjdhdkkmjlaa

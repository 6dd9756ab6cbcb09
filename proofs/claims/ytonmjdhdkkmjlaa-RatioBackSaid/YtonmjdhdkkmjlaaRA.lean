/- Fractions in the clean executor: types, a memory of which a part is hidden, which fractions may be. -/
import Derived.Test.YtonmjdhdkkmjlaaQL
import Derived.Test.YtonmjdhdkkmjlaaKY
namespace Go.Proofs.Ytonmjdhdkkmjlaa
open Go.Clean

/-! ### What is hidden -/
theorem known_tch : ∀ f args g, known f args = some g → ∀ S, Tch S g := by
  have hp : ∀ (args : List Value) (g : M Value), aliveX args = some g → ∀ S, Tch S g := fun args g h S => by
    unfold aliveX at h
    split at h
    · cases h; exact Tch.ret _
    · cases h
  intro f args g h S
  unfold known at h
  cases h0 : f == 6 with
  | true => simp only [h0, cond_true] at h; exact hp _ _ h S
  | false =>
  cases h1 : f == 20 with
  | true => simp only [h0, h1, cond_true, cond_false] at h; exact hp _ _ h S
  | false =>
  simp only [h0, h1, cond_false] at h
  unfold known0 at h
  cases h2 : f == 70 with
  | true =>
    simp only [h2, cond_true, Option.some.injEq] at h
    subst h
    unfold fromX
    split <;> first | exact Tch.ret _ | exact Tch.fail | exact Tch.lift _
  | false =>
  cases h3 : f == 71 with
  | true =>
    simp only [h2, h3, cond_true, cond_false, Option.some.injEq] at h
    subst h
    unfold bitsX
    split <;> first | exact Tch.bind (Tch.guard _) fun _ => Tch.ret _ | exact Tch.ret _ | exact Tch.fail
  | false =>
  cases h4 : f == 36 with
  | true =>
    simp only [h2, h3, h4, cond_true, cond_false, Option.some.injEq] at h
    subst h
    unfold absX
    split <;> first | exact Tch.ret _ | exact Tch.fail | exact Tch.lift _
  | false => simp only [h2, h3, h4, cond_false] at h; cases h
theorem tchC (n : Nat) (f : FuncId) (args : List Value) : Tch [] (callN Try.prog known n f args) := Tch.callN known_tch n [] f args
theorem locC (n : Nat) (f : FuncId) (args : List Value) : Local (callN Try.prog known n f args) := callN_local known_ok n f args
theorem MW.hide {m : Mem} (w : MW m) (B : List Nat) : MW (m.hide B) := fun c y hy => by
  rw [Mem.at_hide] at hy
  split at hy
  · cases hy
  · simpa using w c y hy
/-- What a memory is behind a call that was made with a part hidden. -/
structure Unhid (m m1 m' : Mem) (B : List Nat) : Prop where
  lt : ∀ b ∈ B, b < m.next
  next : m'.next = m1.next
  at' : ∀ c, m'.at c = if c ∈ B then m.at c else m1.at c
theorem Unhid.up {m m1 m' : Mem} {B : List Nat} (h : Unhid m m1 m' B) (u : Up (m.hide B) m1) : Up m m' := by
  refine ⟨by rw [h.next]; have := u.next; simpa using this, fun c hc => ?_, fun w c x hx => ?_⟩
  · rw [h.at']
    split
    · rfl
    · rename_i hn
      rw [u.old c (by simpa using hc), Mem.at_hide, if_neg hn]
  · rw [h.at'] at hx
    split at hx
    · have := h.lt c ‹_›
      have := u.next
      rw [Mem.next_hide] at this
      rw [h.next]; omega
    · rw [h.next]
      exact u.wf (w.hide B) c x hx
theorem Unhid.gone {m m1 m' : Mem} {B : List Nat} (h : Unhid m m1 m' B) (u : Up (m.hide B) m1) {b : Nat} {x : Blk} (hx : m1.at b = some x) : m'.at b = some x := by
  rw [h.at']
  split
  · rename_i hb
    have := h.lt b hb
    rw [u.old b (by simpa using this), Mem.at_hide, if_pos hb] at hx
    cases hx
  · exact hx
theorem Unhid.pl {m m1 m' : Mem} {B : List Nat} (h : Unhid m m1 m' B) (u : Up (m.hide B) m1) {v : Value} {n : Nat} {c : PG} (hv : PL m1 v n c) : PL m' v n c := by
  obtain ⟨b, o, k, x, h1, h0, h2, h3⟩ := hv
  exact ⟨b, o, k, x, h1, h0, h.gone u h2, h3⟩
theorem Unhid.rp {m m1 m' : Mem} {B : List Nat} (h : Unhid m m1 m' B) (u : Up (m.hide B) m1) {v : Value} {n : Nat} {c : PG} (hv : RP m1 v n c) : RP m' v n c := ⟨h.pl u hv.pl, hv.ok, hv.ends⟩
theorem Unhid.ol {m m1 m' : Mem} {B : List Nat} (h : Unhid m m1 m' B) (u : Up (m.hide B) m1) {v : Value} (hv : OL (m.hide B) m1 v) : OL m m' v := by
  obtain ⟨b, o, n, k, x, h1, h2, h3, h4⟩ := hv
  exact ⟨b, o, n, k, x, h1, by simpa using h2, h.gone u h3, h4⟩
theorem RP.hide {m0 m : Mem} {v : Value} {n : Nat} {c : PG} (h : RP m0 v n c) (w : MW m0) (u : Up m0 m) {B : List Nat} (hB : ∀ b ∈ B, m0.next ≤ b) : RP (m.hide B) v n c := by
  obtain ⟨⟨b, o, k, x, h1, h0, h2, h3⟩, h4, h5⟩ := h
  refine ⟨⟨b, o, k, x, h1, h0, ?_, h3⟩, h4, h5⟩
  have hlt := w b x h2
  rw [Mem.at_hide, if_neg (fun hb => by have := hB b hb; omega), u.old b hlt]
  exact h2
/-- A call beside blocks that it does not touch. -/
theorem call_hide {n : Nat} {f : FuncId} {args : List Value} {m : Mem} (B : List Nat) (hB : ∀ b ∈ B, b < m.next) {Q : Value → Mem → Prop} (h : Gives (callN Try.prog known n f args) (m.hide B) Q) {R : Value → Mem → Prop}
    (hR : ∀ v m1 m' nl, Q v m1 → m'.log = nl ++ m.log → (∀ p ∈ nl, p.2 ∉ B) → Unhid m m1 m' B → R v m') : Gives (callN Try.prog known n f args) m R :=
  (gives_hide (locC n f args) (tchC n f args) B hB h).mono fun v m' ⟨m1, nl, q, h1, h2, h3, h4⟩ => hR v m1 m' nl q h1 h2 ⟨hB, h3, h4⟩
theorem apart_hid {nl : List (Bool × Nat)} {B : List Nat} (h : ∀ p ∈ nl, p.2 ∉ B) {l : List (Bool × Nat)} (hl : ∀ p ∈ l, p.2 ∈ B) : apartL l nl = true := by
  unfold apartL
  rw [List.all_eq_true]
  rintro ⟨x, b⟩ hx
  rw [List.all_eq_true]
  rintro ⟨y, c⟩ hy
  have h2 : b ∈ B := hl (x, b) hx
  have : b ≠ c := fun e => h (y, c) hy (e ▸ h2)
  simp [this]

/-! ### Types -/
def frV (a b : Value) : Value := .agg ⟨[a, b]⟩
def nilL : Value := .slice none 0 0
section
@[simp] theorem agg_F : Clean.isAgg Try.prog 43 = some true := by kernel_rfl
@[simp] theorem size_F : sizeT Try.prog 43 = some 2 := by kernel_rfl
@[simp] theorem elt_F : elemT Try.prog 43 = 1 := by kernel_rfl
@[simp] theorem zero_F : zeroT Try.prog 43 = some (frV nilL nilL) := (by kernel_rfl : zeroT Try.prog 43 = some (frV nilL nilL)).trans rfl
@[simp] theorem ld_F (x y : Value) : ldX Try.prog 43 [x, y] 0 = some (frV x y) := (ld_agg agg_F size_F [x, y] 0).trans rfl
@[simp] theorem fa_F0 (s : Nat) : fieldAddrX Try.prog 43 (.pointer (some ⟨s, 0, none⟩)) 0 = some (.pointer (some ⟨s, 0, none⟩)) := (by kernel_rfl : fieldAddrX Try.prog 43 (.pointer (some ⟨s, 0, none⟩)) 0 = some (.pointer (some ⟨s, 0, none⟩))).trans rfl
@[simp] theorem fa_F1 (s : Nat) : fieldAddrX Try.prog 43 (.pointer (some ⟨s, 0, none⟩)) 1 = some (.pointer (some ⟨s, 1, none⟩)) := (by kernel_rfl : fieldAddrX Try.prog 43 (.pointer (some ⟨s, 0, none⟩)) 1 = some (.pointer (some ⟨s, 1, none⟩))).trans rfl
@[simp] theorem cells_frV (x y : Value) : cellsV (frV x y) = [x, y] := by cases x <;> rfl
@[simp] theorem one_slice (a : Option Addr) (n k : Nat) : oneV (.slice a n k) = true := by cases a <;> rfl
@[simp] theorem cells_slice (a : Option Addr) (n k : Nat) : cellsV (.slice a n k) = [.slice a n k] := by cases a <;> rfl
@[simp] theorem cells_int (q : IntKind) (n : Int) : cellsV (.int q n) = [.int q n] := by cases q <;> rfl
@[simp] theorem one_int (q : IntKind) (n : Int) : oneV (.int q n) = true := by cases q <;> rfl
@[simp] theorem cells_nilL : cellsV nilL = [nilL] := by unfold nilL; simp
@[simp] theorem one_nilL : oneV nilL = true := by unfold nilL; simp
theorem places_F : (match Try.prog.underlying 43 with | some (.struct fs) => placesX Try.prog fs.toList | _ => none) = some [(0, 1), (1, 1)] := by kernel_rfl
@[simp] theorem build_F {x y : Value} (hx : cellsV x = [x]) (hy : cellsV y = [y]) : buildX Try.prog 43 [(0, x), (1, y)] = some (frV x y) := by
  have h := places_F
  unfold buildX
  simp only [zero_F]
  split at h
  · rename_i fs e
    simp only [e, h]
    simp only [cells_frV]
    simp [fillX, layK, Nat.blt, Nat.ble, hx, hy, frV]
  · cases h
theorem PL.cells {m : Mem} {v : Value} {n : Nat} {c : PG} (h : PL m v n c) : cellsV v = [v] := by
  obtain ⟨b, o, k, x, rfl, _⟩ := h; simp
theorem PL.one' {m : Mem} {v : Value} {n : Nat} {c : PG} (h : PL m v n c) : oneV v = true := by
  obtain ⟨b, o, k, x, rfl, _⟩ := h; simp
theorem PL.len {m : Mem} {v : Value} {n : Nat} {c : PG} (h : PL m v n c) : lenX Try.prog 24 v = some (.int .i64 n) := by
  obtain ⟨b, o, k, x, rfl, _⟩ := h; simp
@[simp] theorem agg_E : Clean.isAgg Try.prog 30 = some false := by kernel_rfl
@[simp] theorem size_E : sizeT Try.prog 30 = some 1 := by kernel_rfl
@[simp] theorem elt_E : elemT Try.prog 30 = 1 := by kernel_rfl
@[simp] theorem zero_E : zeroT Try.prog 30 = some (.int .i64 0) := (by kernel_rfl : zeroT Try.prog 30 = some (.int .i64 0)).trans rfl
@[simp] theorem ld_E (cs : List Value) (o : Nat) : ldX Try.prog 30 cs o = cs[o]? := ld_one agg_E cs o
@[simp] theorem sto_E (v : Value) : storeOK Try.prog 30 v = (1 == (cellsV v).length && (cellsV v).all oneV) := by unfold storeOK; rw [size_E]; rfl
theorem sto_F (v : Value) : storeOK Try.prog 43 v = (2 == (cellsV v).length && (cellsV v).all oneV) := by unfold storeOK; rw [size_F]; rfl
@[simp] theorem elt_W : elemT Try.prog 79 = 1 := by kernel_rfl
@[simp] theorem zero_W : zeroT Try.prog 79 = some (.agg ⟨[.int .i64 0]⟩) := (by kernel_rfl : zeroT Try.prog 79 = some (.agg ⟨[.int .i64 0]⟩)).trans rfl
@[simp] theorem cells_agg (l : List Value) : cellsV (.agg ⟨l⟩) = l := by cases l <;> rfl
@[simp] theorem fa_W0 (s : Nat) : fieldAddrX Try.prog 79 (.pointer (some ⟨s, 0, none⟩)) 0 = some (.pointer (some ⟨s, 0, none⟩)) := (by kernel_rfl : fieldAddrX Try.prog 79 (.pointer (some ⟨s, 0, none⟩)) 0 = some (.pointer (some ⟨s, 0, none⟩))).trans rfl
theorem under_A2 : Try.prog.underlying 98 = some (.array 2 24) := by kernel_rfl
theorem zero_A2 : zeroT Try.prog 98 = some (.agg ⟨[nilL, nilL]⟩) := by kernel_rfl
@[simp] theorem build_A2 {x y : Value} (hx : cellsV x = [x]) (hy : cellsV y = [y]) : buildX Try.prog 98 [(0, x), (1, y)] = some (.agg ⟨[x, y]⟩) := by
  unfold buildX
  simp only [zero_A2, under_A2, size_L]
  simp [fillX, layK, Nat.blt, Nat.ble, hx, hy]
@[simp] theorem index_A20 (x y : Value) : indexX Try.prog 98 (.agg ⟨[x, y]⟩) (.int .i64 0) = some x := by
  unfold indexX
  simp [under_A2, partX]
@[simp] theorem index_A21 (x y : Value) : indexX Try.prog 98 (.agg ⟨[x, y]⟩) (.int .i64 1) = some y := by
  unfold indexX
  simp [under_A2, partX]
end
end Go.Proofs.Ytonmjdhdkkmjlaa

/- Fractions in the clean executor: which may be; products and sums with the first error; what is looked at last. -/
namespace Go.Proofs.Ytonmjdhdkkmjlaa
open Go.Clean

section
set_option maxRecDepth 10000
theorem run_rnought (n : Nat) (x : C) (m : Mem) (Q : Value → Mem → Prop) : Gives (callN Try.prog known (n + 1) 92 [cx x]) m Q ↔ Q (.bool (cnought x)) m := by
  refine gives_pure (fun m => ?_) m Q
  refine gives_fn (nt := 11) rfl Try.func92 rfl rfl rfl (Nat.le_of_ble_eq_true rfl) fun fr hn hd hargs => ?_
  have h0 : fr.at 0 = _ := hargs 0 _ rfl
  clear hargs
  cases hg : feq x.1 (some 0) <;>
  simp [h0, hn, hd, cx, cnought, hg, yieldX, bin_z]
theorem rnone_ok (d : Nat) {m : Mem} {v : Value} {n : Nat} {c : PG} (hv : PL m v n c) (hn0 : 0 < n) (hc : c (n - 1) ≠ g0) {Q : Value → Mem → Prop} (hQ : ∀ m', Sm m m' → Q (.bool false) m') :
    Gives (callN Try.prog known (d + 2) 82 [v]) m Q := by
  refine gives_fn (nt := 12) rfl Try.func82 rfl rfl rfl (Nat.le_of_ble_eq_true rfl) fun fr hn hd hargs => ?_
  have h0 : fr.at 0 = _ := hargs 0 _ rfl
  clear hargs
  obtain ⟨b, o, k, x, rfl, _, hb, hs, he⟩ := hv
  by_cases h1 : n = 1
  · subst h1
    obtain ⟨z, hz, hwz⟩ := he 0 (by omega)
    have hl : cnought z = false := by rw [hwz.nought]; exact decide_eq_false hc
    have hi := idx_L b o 1 k 0 .i64 (by omega)
    simp at hi hz
    simp [h0, hn, hd, yieldX, hi, hb, hz, run_rnought, hl]
    exact hQ _ (Sm.rd _ _)
  · simp [h0, hn, hd, yieldX, show ¬ (n : Int) = 1 by omega]
    exact hQ _ (Sm.refl m)
/-- A polynomial that is nought. -/
theorem none_yes (d : Nat) {m : Mem} {v : Value} {c : PG} (hv : PL m v 1 c) (hc : c 0 = g0) {Q : Value → Mem → Prop} (hQ : ∀ m', Sm m m' → Q (.bool true) m') :
    Gives (callN Try.prog known (d + 2) 47 [v]) m Q := by
  refine gives_fn (nt := 12) rfl Try.func47 rfl rfl rfl (Nat.le_of_ble_eq_true rfl) fun fr hn hd hargs => ?_
  have h0 : fr.at 0 = _ := hargs 0 _ rfl
  clear hargs
  obtain ⟨b, o, k, x, rfl, _, hb, hs, he⟩ := hv
  obtain ⟨z, hz, hwz⟩ := he 0 (by omega)
  have hl : cnought z = true := by rw [hwz.nought]; exact decide_eq_true hc
  have hi := idx_L b o 1 k 0 .i64 (by omega)
  simp at hi hz
  simp [h0, hn, hd, yieldX, hi, hb, hz, run_nought, hl]
  exact hQ _ (Sm.rd _ _)
def rkI (m : Mem) (va vb : Value) (j : Nat) (fr : Fr) (m' : Mem) : Prop := ∃ i, i + j = 2 ∧ fr.n = 23 ∧ fr.d = [] ∧ fr.at 1 = .pointer (some ⟨m.next, 0, none⟩) ∧ fr.at 10 = .agg ⟨[va, vb]⟩ ∧ fr.at 11 = .int .i64 (i : Nat) ∧ Up m m' ∧ m.next < m'.next ∧ m'.at m.next = some ⟨[va, vb], 1, false, false⟩
theorem rcheck_ok (d : Nat) {m : Mem} {va vb : Value} {n k : Nat} {a b : PG} (hw : MW m) (ha : RP m va n a) (hb : RP m vb k b) (hb0 : b (k - 1) ≠ g0) {Q : Value → Mem → Prop} (hQ : ∀ m', Up m m' → Q (.int .i64 0) m') :
    Gives (callN Try.prog known (d + 9) 62 [frV va vb]) m Q := by
  refine gives_fn (nt := 23) rfl Try.func62 rfl rfl rfl (Nat.le_of_ble_eq_true rfl) fun fr hn hd hargs => ?_
  have h0 : fr.at 0 = _ := hargs 0 _ rfl
  clear hargs
  have oa := ha.pl.one'
  have ob := hb.pl.one'
  simp [h0, hn, oa, ob, ha.pl.cells, hb.pl.cells]
  have hu1 := Up.nw m ⟨[va, vb], 1, false, false⟩
  refine code_loop (rkI m va vb) 2 (by omega) ⟨0, by omega, by simp [hn], by simp [hd], by simp, by simp, by simp, hu1.trans ((Up.rd _ _).trans (Up.rd _ _)), by simp, by simp⟩ ?_
  rintro j fr' m' ⟨i, hij, f1, f2, g1, g10, g11, hu, hlt, hm⟩
  have hw' := hu.wf hw
  by_cases h0 : i = 0
  · subst h0
    simp [f1, g10, g11]
    refine check_ok _ (ha.pl.up hw hu) ha.ok fun m2 hs => ?_
    have hw1 : IntKind.i64.wrap 1 = 1 := rfl
    simp [f1, g11, hw1]
    exact ⟨1, by omega, 1, by omega, by simp [f1], by simp [f2], by simp [g1], by simp [g10], by simp, hu.trans hs.up, by rw [hs.1]; exact hlt, by rw [hs.2]; exact hm⟩
  · by_cases h1 : i = 1
    · subst h1
      simp [f1, g10, g11]
      refine check_ok _ (hb.pl.up hw hu) hb.ok fun m2 hs => ?_
      have hw1 : IntKind.i64.wrap 2 = 2 := rfl
      simp [f1, g11, hw1]
      exact ⟨0, by omega, 2, by omega, by simp [f1], by simp [f2], by simp [g1], by simp [g10], by simp, hu.trans hs.up, by rw [hs.1]; exact hlt, by rw [hs.2]; exact hm⟩
    · obtain rfl : i = 2 := by omega
      simp [f1, g1, g11, hm]
      refine rnone_ok _ ((hb.pl.up hw hu).keep fun _ => by simp) hb.ok.pos hb0 fun m2 hs => ?_
      simp [f1, f2]
      exact hQ _ (hu.trans ((Up.rd _ _).trans hs.up))
theorem rchecks_ok (d : Nat) {m : Mem} {va vb vc vd : Value} {n k p q : Nat} {a b c e : PG} (hw : MW m) (ha : RP m va n a) (hb : RP m vb k b) (hb0 : b (k - 1) ≠ g0) (hc : RP m vc p c) (hd : RP m vd q e) (hd0 : e (q - 1) ≠ g0) {Q : Value → Mem → Prop} (hQ : ∀ m', Up m m' → Q (.int .i64 0) m') :
    Gives (callN Try.prog known (d + 10) 57 [frV va vb, frV vc vd]) m Q := by
  refine gives_fn (nt := 13) rfl Try.func57 rfl rfl rfl (Nat.le_of_ble_eq_true rfl) fun fr hn hdd hargs => ?_
  have h0 : fr.at 0 = _ := hargs 0 _ rfl
  have h1 : fr.at 1 = _ := hargs 1 _ rfl
  clear hargs
  have oa := ha.pl.one'
  have ob := hb.pl.one'
  have oc := hc.pl.one'
  have od := hd.pl.one'
  simp [h0, h1, hn, oa, ob, oc, od]
  have hu1 : Up m (((m.nw ⟨[va, vb], 1, false, false⟩).nw ⟨[vc, vd], 1, false, false⟩).rd m.next) := (Up.nw _ _).trans ((Up.nw _ _).trans (Up.rd _ _))
  refine rcheck_ok _ (hu1.wf hw) (ha.up hw hu1) (hb.up hw hu1) hb0 fun m2 hu2 => ?_
  have h3 : m2.at (m.next + 1) = some ⟨[vc, vd], 1, false, false⟩ := by rw [hu2.old _ (by simp)]; simp
  simp [hn, h3]
  have hu3 := hu1.trans (hu2.trans (Up.rd m2 (m.next + 1)))
  refine rcheck_ok _ (hu3.wf hw) (hc.up hw hu3) (hd.up hw hu3) hd0 fun m3 hu4 => ?_
  simp [hn, hdd]
  exact hQ _ (hu3.trans hu4)
/-- What is looked at last: nothing turns, where there is no error. -/
theorem look_ok (d : Nat) {m : Mem} {bw bo be k : Nat} {vt vb : Value} {b : PG} {g1 g2 g3 : Bool} (hW : m.at bw = some ⟨[.int .i64 0], 1, g1, false⟩) (hO : m.at bo = some ⟨[vt, vb], 1, g2, false⟩) (hE : m.at be = some ⟨[.int .i64 0], 1, g3, false⟩) (hb : RP m vb k b) (hb0 : b (k - 1) ≠ g0)
    {Q : Value → Mem → Prop} (hQ : ∀ m', Sm m m' → Q (.tuple ⟨[]⟩) m') :
    Gives (callN Try.prog known (d + 3) 56 [.pointer (some ⟨bw, 0, none⟩), .pointer (some ⟨bo, 0, none⟩), .pointer (some ⟨be, 0, none⟩)]) m Q := by
  refine gives_fn (nt := 36) rfl Try.func56 rfl rfl rfl (Nat.le_of_ble_eq_true rfl) fun fr hn hd hargs => ?_
  have h0 : fr.at 0 = _ := hargs 0 _ rfl
  have h1 : fr.at 1 = _ := hargs 1 _ rfl
  have h2 : fr.at 2 = _ := hargs 2 _ rfl
  clear hargs
  simp [h0, h1, h2, hn, hE, hW]
  refine storeQ_one (cs := [.int .i64 0]) (sz := 1) (gr := g3) (by simp [hE]) (by simp) rfl (by simp) fun m4 n4 _ e4 => ?_
  simp only [Mem.next_rd, Mem.at_rd, List.set_cons_zero] at n4 e4
  have h4 : ∀ c, m4.at c = m.at c := fun c => by
    rw [e4]
    split
    · rename_i h; rw [h, hE]
    · rfl
  have hs4 : Sm m m4 := ⟨n4, h4⟩
  simp [h0, h1, h2, hn, h4, hE, hO, yieldX]
  refine rnone_ok _ ((hb.pl.keep h4).keep fun _ => by simp) hb.ok.pos hb0 fun m5 hs5 => ?_
  have h5 : ∀ c, m5.at c = m.at c := fun c => by rw [hs5.2]; simp [h4]
  simp [h2, hn, hd, h5, hE, yieldX]
  exact hQ _ ⟨by simp [hs5.1, n4], fun c => by simp [h5]⟩
theorem mulz_ok (d : Nat) {m : Mem} {va vb : Value} {n k : Nat} {a b : PG} (hw : MW m) (ha : RP m va n a) (hb : RP m vb k b) (hnk : n + k ≤ 66) (ha1 : ∀ i, NB (a i) small) (hb1 : ∀ i, NB (b i) small) (hc : ∀ i t, NB (cv a b i t) far) {Q : Value → Mem → Prop}
    (hQ : ∀ m' v n', Up m m' → n' ≤ n + k - 1 → RP m' v n' (cv a b n) → OL m m' v → Q (.tuple ⟨[v, .int .i64 0]⟩) m') :
    Gives (callN Try.prog known (d + 10) 11 [va, vb]) m Q := by
  have hn0 := ha.ok.pos
  have hk0 := hb.ok.pos
  by_cases hz : (n = 1 ∧ a 0 = g0) ∨ (k = 1 ∧ b 0 = g0)
  · have hzero : ∀ t, cv a b n t = g0 := by
      rcases hz with ⟨rfl, h⟩ | ⟨rfl, h⟩
      · intro t
        show gadd g0 (gmul (a 0) _) = g0
        rw [h, zero_gmul, gadd_zero]
      · have hb' : ∀ i, b i = g0 := fun i => by
          by_cases hi : i = 0
          · rw [hi]; exact h
          · exact hb.ends i (by omega)
        have : ∀ i t, cv a b i t = g0 := by
          intro i
          induction i with
          | zero => intro t; rfl
          | succ i ih =>
            intro t
            show gadd (cv a b i t) (gmul (a i) (Ytonmjdhdkkmjlaa.up i b t)) = g0
            have e : Ytonmjdhdkkmjlaa.up i b t = g0 := by
              unfold Ytonmjdhdkkmjlaa.up
              split
              · exact hb' _
              · rfl
            rw [ih, e, gmul_zero, gadd_zero]
        exact this n
    have hend : ∀ m' : Mem, Up m m' → Q (.tuple ⟨[.slice (some ⟨m'.next, 0, none⟩) 1 1, .int .i64 0]⟩) (m'.nw ⟨[cx (some 0, some 0)], 1, false, false⟩) := fun m' hu =>
      hQ _ _ 1 (hu.trans (Up.nw _ _)) (by omega) ⟨PL.own (gr := false) (ro := false) (cells := [cx (some 0, some 0)]) (by simp) ⟨rfl, fun i hi => ⟨(some 0, some 0), by rw [show i = 0 by omega]; rfl, by rw [hzero]; exact WC.zero⟩⟩, ⟨by omega, by omega, fun i => by rw [hzero]; unfold NB; decide, fun h => by omega⟩, fun t _ => hzero t⟩ ⟨_, _, _, _, _, rfl, hu.next, by simp; rfl, rfl, rfl⟩
    refine gives_fn (nt := 88) rfl Try.func11 rfl rfl rfl (Nat.le_of_ble_eq_true rfl) fun fr hn hd hargs => ?_
    have h0 : fr.at 0 = _ := hargs 0 _ rfl
    have h1 : fr.at 1 = _ := hargs 1 _ rfl
    clear hargs
    obtain ⟨ba, oa, ka, xa, hva, _⟩ := id ha.pl
    obtain ⟨bb, ob, kb, xb, hvb, _⟩ := id hb.pl
    simp [h0, h1, hn]
    refine both_ok _ ha.pl ha.ok hb.pl hb.ok fun m1 hs => ?_
    simp [h0, h1, hn]
    by_cases hza : n = 1 ∧ a 0 = g0
    · obtain ⟨rfl, ha0⟩ := hza
      refine none_yes _ (ha.pl.keep hs.2) ha0 fun m2 hs2 => ?_
      simp [h0, h1, hn, yieldX, cx_zero]
      refine gives_build1 bs_L (cells_cx _) (one_cx _) ?_
      simp [hn, hd]
      exact hend m2 (hs.trans hs2).up
    · obtain ⟨rfl, hb0⟩ : k = 1 ∧ b 0 = g0 := hz.resolve_left hza
      refine none_ok _ (ha.pl.keep hs.2) hn0 (fun h1 h2 => hza ⟨h1, h2⟩) fun m2 hs2 => ?_
      simp [h0, h1, hn, yieldX]
      refine none_yes _ ((hb.pl.keep hs.2).keep hs2.2) hb0 fun m3 hs3 => ?_
      simp [h0, h1, hn, yieldX, cx_zero]
      refine gives_build1 bs_L (cells_cx _) (one_cx _) ?_
      simp [hn, hd]
      exact hend m3 ((hs.trans hs2).trans hs3).up
  · exact mul_ok d hw ha hb (fun h1 h2 => hz (.inl ⟨h1, h2⟩)) (fun h1 h2 => hz (.inr ⟨h1, h2⟩)) hnk ha1 hb1 hc hQ
theorem wmul_ok (d : Nat) {m : Mem} {bw : Nat} {va vb : Value} {n k : Nat} {a b : PG} {gr : Bool} (hw : MW m) (hW : m.at bw = some ⟨[.int .i64 0], 1, gr, false⟩) (ha : RP m va n a) (hb : RP m vb k b) (hnk : n + k ≤ 66) (ha1 : ∀ i, NB (a i) small) (hb1 : ∀ i, NB (b i) small) (hc : ∀ i t, NB (cv a b i t) far) {Q : Value → Mem → Prop}
    (hQ : ∀ m' v n', Up m m' → n' ≤ n + k - 1 → RP m' v n' (cv a b n) → OL m m' v → Q v m') :
    Gives (callN Try.prog known (d + 11) 58 [.pointer (some ⟨bw, 0, none⟩), va, vb]) m Q := by
  refine gives_fn (nt := 25) rfl Try.func58 rfl rfl rfl (Nat.le_of_ble_eq_true rfl) fun fr hn hd hargs => ?_
  have h0 : fr.at 0 = _ := hargs 0 _ rfl
  have h1 : fr.at 1 = _ := hargs 1 _ rfl
  have h2 : fr.at 2 = _ := hargs 2 _ rfl
  clear hargs
  have hlt := hw bw _ hW
  simp [h0, h1, h2, hn, hW]
  have hu1 := Up.rd m bw
  refine mulz_ok _ (hu1.wf hw) (ha.up hw hu1) (hb.up hw hu1) hnk ha1 hb1 hc fun m2 v n' hu2 hn' hr ho => ?_
  have hW2 : m2.at bw = some ⟨[.int .i64 0], 1, gr, false⟩ := by rw [hu2.old bw (by simpa using hlt)]; simpa using hW
  simp [h0, hn, extractX]
  refine storeQ_one (cs := [.int .i64 0]) (sz := 1) (gr := gr) (by simp [hW2]) (by simp) rfl (by simp) fun m4 n4 _ e4 => ?_
  simp only [List.set_cons_zero] at e4
  have h4 : ∀ c, m4.at c = m2.at c := fun c => by
    rw [e4]
    split
    · rename_i h; rw [h, hW2]
    · rfl
  have hs4 : Sm m2 m4 := ⟨n4, h4⟩
  simp [hn, hd]
  refine hQ m4 v n' (hu1.trans (hu2.trans hs4.up)) hn' (hr.keep h4) ?_
  obtain ⟨b', o', n1, k1, x1, q1, q2, q3, q4⟩ := ho
  exact ⟨b', o', n1, k1, x1, q1, by simpa using q2, by rw [h4]; exact q3, q4⟩
theorem wadd_ok (d : Nat) {m : Mem} {bw : Nat} {va vb : Value} {n k : Nat} {a b : PG} {gr : Bool} (hw : MW m) (hW : m.at bw = some ⟨[.int .i64 0], 1, gr, false⟩) (ha : RP m va n a) (hb : RP m vb k b) (hc : ∀ i, NB (gadd (a i) (b i)) far) {Q : Value → Mem → Prop}
    (hQ : ∀ m' v n', Up m m' → n' ≤ max n k → RP m' v n' (fun i => gadd (a i) (b i)) → Q v m') :
    Gives (callN Try.prog known (d + 11) 59 [.pointer (some ⟨bw, 0, none⟩), va, vb]) m Q := by
  refine gives_fn (nt := 25) rfl Try.func59 rfl rfl rfl (Nat.le_of_ble_eq_true rfl) fun fr hn hd hargs => ?_
  have h0 : fr.at 0 = _ := hargs 0 _ rfl
  have h1 : fr.at 1 = _ := hargs 1 _ rfl
  have h2 : fr.at 2 = _ := hargs 2 _ rfl
  clear hargs
  have hlt := hw bw _ hW
  simp [h0, h1, h2, hn, hW]
  have hu1 := Up.rd m bw
  refine add_ok _ (hu1.wf hw) (ha.up hw hu1) (hb.up hw hu1) hc fun m2 v n' hu2 hn' hr => ?_
  have hW2 : m2.at bw = some ⟨[.int .i64 0], 1, gr, false⟩ := by rw [hu2.old bw (by simpa using hlt)]; simpa using hW
  simp [h0, hn, extractX]
  refine storeQ_one (cs := [.int .i64 0]) (sz := 1) (gr := gr) (by simp [hW2]) (by simp) rfl (by simp) fun m4 n4 _ e4 => ?_
  simp only [List.set_cons_zero] at e4
  have h4 : ∀ c, m4.at c = m2.at c := fun c => by
    rw [e4]
    split
    · rename_i h; rw [h, hW2]
    · rfl
  have hs4 : Sm m2 m4 := ⟨n4, h4⟩
  simp [hn, hd]
  exact hQ m4 v n' (hu1.trans (hu2.trans hs4.up)) hn' (hr.keep h4)
end
end Go.Proofs.Ytonmjdhdkkmjlaa

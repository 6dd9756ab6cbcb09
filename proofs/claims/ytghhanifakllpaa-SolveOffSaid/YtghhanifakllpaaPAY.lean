/- The program's chapter 14, in the clean executor: the field of floats, lists and systems that may be. -/
import Derived.Test.YtghhanifakllpaaYAY
import Derived.Test.YtghhanifakllpaaProg
set_option linter.unusedSimpArgs false
set_option linter.unusedVariables false
namespace Go.Proofs.Ytghhanifakllpaa
open Go.Clean

/-! ### Memory that only grows -/
structure Up (m m' : Mem) : Prop where
  next : m.next ≤ m'.next
  old : ∀ c, c < m.next → m'.at c = m.at c
  wf : WF m → WF m'
theorem Up.refl (m : Mem) : Up m m := ⟨Nat.le_refl _, fun _ _ => rfl, fun h => h⟩
theorem Up.trans {m m1 m2 : Mem} (h : Up m m1) (k : Up m1 m2) : Up m m2 := ⟨Nat.le_trans h.next k.next, fun c hc => (k.old c (Nat.lt_of_lt_of_le hc h.next)).trans (h.old c hc), fun w => k.wf (h.wf w)⟩
theorem Up.only {m m' : Mem} (h : Only m m') : Up m m' := ⟨by rw [h.1]; exact Nat.le_refl _, fun c _ => h.2 c, fun w => h.wf w⟩
theorem Up.nw (m : Mem) (x : Blk) : Up m (m.nw x) := ⟨by simp, fun c hc => by simp only [Mem.at_nw]; rw [if_neg (by omega)], fun w c y hc => by
  simp only [Mem.at_nw, Mem.next_nw] at hc ⊢
  split at hc
  · omega
  · have := w c y hc; omega⟩
theorem Up.rd (m : Mem) (b : Nat) : Up m (m.rd b) := ⟨by simp, fun c _ => by simp, fun w c y hc => by simp at hc ⊢; exact w c y hc⟩
theorem Up.at {m m' : Mem} (h : Up m m') {b : Nat} {x : Blk} (hb : m.at b = some x) (hw : WF m) : m'.at b = some x := by rw [h.old b (hw b x hb)]; exact hb
/-- A write to a block of one's own. -/
theorem Up.wr {m m1 m' : Mem} (h : Up m m1) {b : Nat} {x : Blk} (hb : m.next ≤ b) (hb2 : b < m1.next) (hn : m'.next = m1.next) (e : ∀ c, m'.at c = if c = b then some x else m1.at c) : Up m m' :=
  ⟨by rw [hn]; exact h.next, fun c hc => by rw [e, if_neg (by omega)]; exact h.old c hc, fun w c y hc => by
    rw [hn]
    rw [e] at hc
    split at hc
    · omega
    · exact h.wf w c y hc⟩

/-! ### What is known -/
def fnV (f : FuncId) : Value := .func (.func f) #[] #[]
def kL : List Value := [fnV 31, fnV 69, fnV 70, fnV 43]
def kA : Value := .agg ⟨kL⟩
def ownF (f : FuncId) : Bool := f == 4 || f == 8 || f == 9 || f == 10 || f == 13 || f == 14 || f == 15 || f == 16 || f == 17 || f == 18 || f == 19 || f == 20 || f == 21 || f == 22 || f == 23 || f == 24 || f == 39 || f == 40 || f == 41 || f == 42 || f == 45 || f == 51
structure KP (known : Known) : Prop where
  kn : KN known
  fin2 : ∀ x, known 43 [.float .f64 (cOf x)] = some (M.ret (.bool (ffin x)))
  over : ∀ x y, known 69 [.float .f64 (cOf x), .float .f64 (cOf y)] = some (M.ret (.float .f64 (cOf (fdiv x y))))
  less : ∀ a f b, known 70 [.float .f64 (cOf a), .float .f64 (cOf f), .float .f64 (cOf b)] = some (M.ret (.float .f64 (cOf (fless a f b))))
  non : ∀ f, ownF f = true → ∀ args, known f args = none
@[simp] theorem fun_fnV (f : FuncId) : funX (fnV f) = some (f, [], []) := rfl
@[simp] theorem one_fnV (f : FuncId) : oneV (fnV f) = true := rfl

section
@[simp] theorem agg74 : Clean.isAgg Try.prog 74 = some true := by kernel_rfl
@[simp] theorem size74 : sizeT Try.prog 74 = some 4 := by kernel_rfl
@[simp] theorem elem74 : elemT Try.prog 74 = 1 := by kernel_rfl
theorem zero74b : (match zeroT Try.prog 74 with
  | some (.agg ⟨l⟩) => l.length == 4 && l.all oneV
  | _ => false) = true := by kernel_rfl
theorem zero74 : ∃ l, zeroT Try.prog 74 = some (.agg ⟨l⟩) ∧ l.length = 4 ∧ l.all oneV = true := by
  have h := zero74b
  split at h
  · rename_i l hl
    simp only [Bool.and_eq_true, beq_iff_eq] at h
    exact ⟨l, hl, h.1, h.2⟩
  · cases h
theorem build74 : buildX Try.prog 74 [(0, fnV 31), (1, fnV 69), (2, fnV 70), (3, fnV 43)] = some kA := by kernel_rfl
theorem ld74 (cs : List Value) (o : Nat) : ldX Try.prog 74 cs o = (takeN cs o 4).map fun l => .agg ⟨l⟩ := ld_agg agg74 size74 cs o
@[simp] theorem sto74 (v : Value) : storeOK Try.prog 74 v = (4 == (cellsV v).length && (cellsV v).all oneV) := by unfold storeOK; rw [size74]; rfl
@[simp] theorem fa74_0 (s : Nat) : fieldAddrX Try.prog 74 (.pointer (some ⟨s, 0, none⟩)) 0 = some (.pointer (some ⟨s, 0, none⟩)) := by kernel_rfl
@[simp] theorem fa74_1 (s : Nat) : fieldAddrX Try.prog 74 (.pointer (some ⟨s, 0, none⟩)) 1 = some (.pointer (some ⟨s, 1, none⟩)) := by kernel_rfl
@[simp] theorem fa74_2 (s : Nat) : fieldAddrX Try.prog 74 (.pointer (some ⟨s, 0, none⟩)) 2 = some (.pointer (some ⟨s, 2, none⟩)) := by kernel_rfl
@[simp] theorem fa74_3 (s : Nat) : fieldAddrX Try.prog 74 (.pointer (some ⟨s, 0, none⟩)) 3 = some (.pointer (some ⟨s, 3, none⟩)) := by kernel_rfl
@[simp] theorem agg59 : Clean.isAgg Try.prog 59 = some false := by kernel_rfl
@[simp] theorem agg70 : Clean.isAgg Try.prog 70 = some false := by kernel_rfl
@[simp] theorem agg71 : Clean.isAgg Try.prog 71 = some false := by kernel_rfl
@[simp] theorem agg72 : Clean.isAgg Try.prog 72 = some false := by kernel_rfl
@[simp] theorem ld59 (cs : List Value) (o : Nat) : ldX Try.prog 59 cs o = cs[o]? := ld_one agg59 cs o
@[simp] theorem ld70 (cs : List Value) (o : Nat) : ldX Try.prog 70 cs o = cs[o]? := ld_one agg70 cs o
@[simp] theorem ld71 (cs : List Value) (o : Nat) : ldX Try.prog 71 cs o = cs[o]? := ld_one agg71 cs o
@[simp] theorem ld72 (cs : List Value) (o : Nat) : ldX Try.prog 72 cs o = cs[o]? := ld_one agg72 cs o
end

variable {known : Known}
theorem gives_fin2 (K : KP known) (n : Nat) (x : F) (m : Mem) (Q : Value → Mem → Prop) : Gives (callN Try.prog known (n + 1) 43 [.float .f64 (cOf x)]) m Q ↔ Q (.bool (ffin x)) m := by
  rw [gives_known (K.fin2 x), gives_ret]
theorem gives_abs (K : KP known) (n : Nat) (x : F) (m : Mem) (Q : Value → Mem → Prop) : Gives (callN Try.prog known (n + 1) 31 [.float .f64 (cOf x)]) m Q ↔ Q (.float .f64 (cOf (fabs x))) m := by
  rw [gives_known (K.kn.abs x), gives_ret]
theorem gives_over (K : KP known) (n : Nat) (x y : F) (m : Mem) (Q : Value → Mem → Prop) : Gives (callN Try.prog known (n + 1) 69 [.float .f64 (cOf x), .float .f64 (cOf y)]) m Q ↔ Q (.float .f64 (cOf (fdiv x y))) m := by
  rw [gives_known (K.over x y), gives_ret]
theorem gives_less (K : KP known) (n : Nat) (x y z : F) (m : Mem) (Q : Value → Mem → Prop) : Gives (callN Try.prog known (n + 1) 70 [.float .f64 (cOf x), .float .f64 (cOf y), .float .f64 (cOf z)]) m Q ↔ Q (.float .f64 (cOf (fless x y z))) m := by
  rw [gives_known (K.less x y z), gives_ret]

theorem lay4 (a b c d u v w x : Value) : lay [a, b, c, d] 0 [u, v, w, x] = some [u, v, w, x] := rfl
set_option maxRecDepth 10000 in
theorem floats_ok (K : KP known) (n : Nat) (m : Mem) {Q : Value → Mem → Prop} (hQ : ∀ m', Up m m' → Q kA m') : Gives (callN Try.prog known (n + 1) 40 []) m Q := by
  refine gives_fn (nt := 2) (K.non _ rfl _) Try.func40 rfl rfl rfl (Nat.le_of_ble_eq_true rfl) fun fr hn hd _ => ?_
  obtain ⟨l, hz, hl, ho⟩ := zero74
  have ho' : ∀ x ∈ l, oneV x = true := List.all_eq_true.1 ho
  have hb := build74
  unfold fnV at hb
  simp [hn, hz, ho', hb]
  refine ⟨ho', ?_⟩
  refine storeQ_rule (y := ⟨l, 1, false, false⟩) (l := kL) (by simp) rfl (by simp [kA, kL]) (lay_all _ _ (by rw [hl]; rfl)) fun m3 n3 _ e3 => ?_
  simp only [Mem.next_nw, Mem.at_nw] at n3 e3
  have h3 : m3.at m.next = some ⟨kL, 1, false, false⟩ := by rw [e3, if_pos rfl]
  simp [hd, h3, ld74, kL, takeN]
  have hu : Up m m3 := (Up.nw m ⟨l, 1, false, false⟩).wr (b := m.next) (x := ⟨kL, 1, false, false⟩) (Nat.le_refl _) (by simp) (by rw [n3]; simp) (fun c => by rw [e3]; by_cases h : c = m.next <;> simp [h])
  exact hQ _ (hu.trans (Up.rd _ _))

def bsdI (xs : List F) (a : Option Addr) (c kb : Nat) (m : Mem) (j : Nat) (fr : Fr) (m' : Mem) : Prop := ∃ i, i + j = xs.length ∧ fr.n = 25 ∧ fr.d = [] ∧ fr.at 3 = .pointer (some ⟨kb, 0, none⟩) ∧ fr.at 13 = .slice a xs.length c ∧ fr.at 14 = .int .i64 xs.length ∧ fr.at 15 = .int .i64 (i : Nat) ∧ (xs.take i).all ffin = true ∧ Only m m'
set_option maxRecDepth 10000 in
theorem beside_ok (K : KP known) (n : Nat) (xs : List F) (v : Value) (k : Nat) (m : Mem) (hw0 : WF m) (hv : FL m v xs) (hlen : xs.length ≤ 100000) {Q : Value → Mem → Prop} (hQ : ∀ m', Up m m' → Q (.int .i64 (listF xs k)) m') :
    Gives (callN Try.prog known (n + 2) 45 [kA, v, .int .i64 k]) m Q := by
  obtain ⟨a, c, rfl, hx⟩ := hv
  refine gives_fn (nt := 25) (K.non _ rfl _) Try.func45 rfl rfl rfl (Nat.le_of_ble_eq_true rfl) fun fr hn hd hargs => ?_
  have h0 : fr.at 0 = _ := hargs 0 _ rfl
  have h1 : fr.at 1 = _ := hargs 1 _ rfl
  have h2 : fr.at 2 = _ := hargs 2 _ rfl
  clear hargs
  have hup := Up.nw m ⟨kL, 1, false, false⟩
  by_cases hk : xs.length = k
  · subst hk
    simp [h0, h1, h2, hn, kA]
    refine ⟨by simp [kL], ?_⟩
    refine code_loop (bsdI xs a c m.next (m.nw ⟨kL, 1, false, false⟩)) xs.length (by omega) ⟨0, by simp, by simp [hn], by simp [hd], by simp, by simp [h1], by simp, by simp, rfl, Only.refl _⟩ ?_
    rintro j fr' m' ⟨i, hij, hn', hd', g3, g13, g14, g15, hall, ho⟩
    by_cases hi : i < xs.length
    · rcases hx with hx | ⟨b, o, x, rfl, hb, hc⟩
      · exact absurd hx.2.1 (by omega)
      have hm : m'.at b = some x := by rw [ho.2]; exact hup.at hb hw0
      have hkb : m'.at m.next = some ⟨kL, 1, false, false⟩ := by rw [ho.2]; simp
      have hci := hc i hi
      have hw := wrap_succ i (by omega)
      cases hf : ffin (fat xs i) with
      | true =>
        simp [g3, g13, g14, g15, hn', hi, idx24 _ _ _ _ _ _ hi, hm, hkb, hci, kL, gives_fin2 K, hf, hw]
        refine ⟨j - 1, by omega, i + 1, by omega, by simp [hn'], by simp [hd'], by simp [g3], by simp [g13], by simp [g14], by simp, ?_, ho.trans ⟨rfl, fun _ => rfl⟩⟩
        rw [all_take_f xs i hi, hall, hf]; rfl
      | false =>
        have hF : listF xs xs.length = 5 := by unfold listF; rw [if_pos rfl, all_not_f xs i hi hf]; rfl
        rw [hF] at hQ
        simp [g3, g13, g14, g15, hn', hd', hi, idx24 _ _ _ _ _ _ hi, hm, hkb, hci, kL, gives_fin2 K, hf, hw]
        exact hQ _ (hup.trans (Up.only (ho.trans ⟨rfl, fun _ => rfl⟩)))
    · have hF : listF xs xs.length = 0 := by
        have : i = xs.length := by omega
        subst this
        rw [List.take_length] at hall
        unfold listF; rw [if_pos rfl, hall]; rfl
      rw [hF] at hQ
      simp [g13, g14, g15, hn', hd', hi]
      exact hQ _ (hup.trans (Up.only ho))
  · have hk' : ¬ (xs.length : Int) = (k : Int) := by omega
    have hF : listF xs k = 140 := by unfold listF; rw [if_neg hk]
    rw [hF] at hQ
    simp [h0, h1, h2, hn, hd, hk', kA]
    exact ⟨by simp [kL], hQ _ hup⟩
end Go.Proofs.Ytghhanifakllpaa

/- The program's chapter 14, in the clean executor: systems that may be. -/
namespace Go.Proofs.Ytghhanifakllpaa
open Go.Clean

variable {known : Known}
theorem FL.up {m m' : Mem} {v : Value} {xs : List F} (h : FL m v xs) (hw : WF m) (u : Up m m') : FL m' v xs := h.old hw u.old
theorem FM.up {m m' : Mem} {v : Value} {rs : List (List F)} (h : FM m v rs) (hw : WF m) (u : Up m m') : FM m' v rs := h.old hw u.old

def pchI1 (rs : List (List F)) (a : Option Addr) (c kb : Nat) (m : Mem) (j : Nat) (fr : Fr) (m' : Mem) : Prop := ∃ i, i + j = rs.length ∧ fr.n = 45 ∧ fr.d = [] ∧ fr.at 1 = .slice a rs.length c ∧ fr.at 2 = .pointer (some ⟨kb, 0, none⟩) ∧ fr.at 18 = .slice a rs.length c ∧ fr.at 19 = .int .i64 rs.length ∧ fr.at 20 = .int .i64 (i : Nat) ∧ (∀ k, k < i → (rat' rs k).length = rs.length) ∧ Only m m'
def pchI2 (rs : List (List F)) (a : Option Addr) (c kb : Nat) (m : Mem) (j : Nat) (fr : Fr) (m' : Mem) : Prop := ∃ i, i + j = rs.length ∧ fr.n = 45 ∧ fr.d = [] ∧ fr.at 1 = .slice a rs.length c ∧ fr.at 2 = .pointer (some ⟨kb, 0, none⟩) ∧ fr.at 30 = .slice a rs.length c ∧ fr.at 31 = .int .i64 rs.length ∧ fr.at 32 = .int .i64 (i : Nat) ∧ (∀ k, k < i → (rat' rs k).all ffin = true) ∧ Up m m'
set_option maxRecDepth 10000 in
theorem check_ok (K : KP known) (n : Nat) (rs : List (List F)) (v : Value) (m : Mem) (hw0 : WF m) (hv : FM m v rs) (hlen : ∀ r ∈ rs, r.length ≤ 100000) (hlen2 : rs.length ≤ 100000) {Q : Value → Mem → Prop} (hQ : ∀ m', Up m m' → Q (.int .i64 (checkF rs)) m') :
    Gives (callN Try.prog known (n + 3) 41 [kA, v]) m Q := by
  obtain ⟨a, c, rfl, hx⟩ := hv
  refine gives_fn (nt := 45) (K.non _ rfl _) Try.func41 rfl rfl rfl (Nat.le_of_ble_eq_true rfl) fun fr hn hd hargs => ?_
  have h0 : fr.at 0 = _ := hargs 0 _ rfl
  have h1 : fr.at 1 = _ := hargs 1 _ rfl
  clear hargs
  have hup := Up.nw m ⟨kL, 1, false, false⟩
  have hone : ∀ x ∈ kL, oneV x = true := by simp [kL]
  by_cases hk : rs.length < 1
  · have e1 : rs.length = 0 := by omega
    rw [chk4 (.inl hk)] at hQ
    simp [h0, h1, hn, hd, e1, yieldX, kA]
    exact ⟨hone, hQ _ hup⟩
  have e1 : ¬ rs.length = 0 := by omega
  by_cases hk2 : 128 < rs.length
  · have e2 : 128 < (rs.length : Int) := by omega
    rw [chk4 (.inr hk2)] at hQ
    simp [h0, h1, hn, hd, e1, e2, yieldX, kA]
    exact ⟨hone, hQ _ hup⟩
  have e2 : ¬ 128 < (rs.length : Int) := by omega
  have hr := (show ¬ (rs.length < 1 ∨ 128 < rs.length) by omega)
  simp [h0, h1, hn, hd, e1, e2, yieldX, kA]
  refine ⟨hone, ?_⟩
  refine code_loop (pchI1 rs a c m.next (m.nw ⟨kL, 1, false, false⟩)) rs.length (by omega) ⟨0, by simp, by simp [hn], by simp [hd], by simp [h1], by simp, by simp, by simp, by simp, fun k hk => absurd hk (by omega), Only.refl _⟩ ?_
  rintro j fr' m' ⟨i, hij, hn', hd', g1, g2, g18, g19, g20, hall, ho⟩
  have hup' := hup.trans (Up.only ho)
  by_cases hi : i < rs.length
  · rcases hx with hx | ⟨b, o, x, rfl, hb, hc⟩
    · exact absurd hx.2.1 (by omega)
    obtain ⟨u, hu, hfl⟩ := hc i hi
    obtain ⟨a', c', rfl, _⟩ := hfl
    have hm : m'.at b = some x := hup'.at hb hw0
    have hw := wrap_succ i (by omega)
    by_cases hl : (rat' rs i).length = rs.length
    · have e3 : ((rat' rs i).length : Int) = (rs.length : Int) := by omega
      simp [g1, g18, g19, g20, hn', hi, idx23 _ _ _ _ _ _ hi, hm, hu, hw, e3]
      refine ⟨j - 1, by omega, i + 1, by omega, by simp [hn'], by simp [hd'], by simp [g1], by simp [g2], by simp [g18], by simp [g19], by simp, fun k hk => ?_, ho.trans ⟨rfl, fun _ => rfl⟩⟩
      by_cases h : k = i
      · subst h; exact hl
      · exact hall k (by omega)
    · have e3 : ¬ ((rat' rs i).length : Int) = (rs.length : Int) := by omega
      rw [chk140 hr hi hl] at hQ
      simp [g1, g18, g19, g20, hn', hd', hi, idx23 _ _ _ _ _ _ hi, hm, hu, hw, e3]
      exact hQ _ (hup'.trans (Up.only ⟨rfl, fun _ => rfl⟩))
  · have hall' : ∀ k, k < rs.length → (rat' rs k).length = rs.length := fun k hk => hall k (by omega)
    simp [g1, g18, g19, g20, hn', hi]
    have hkb0 : m'.at m.next = some ⟨kL, 1, false, false⟩ := by rw [ho.2]; simp
    have hn0 : m.next < m'.next := by rw [ho.1]; simp
    refine code_loop (pchI2 rs a c m.next m') rs.length (by omega) ⟨0, by simp, by simp [hn'], by simp [hd'], by simp [g1], by simp [g2], by simp, by simp, by simp, fun k hk => absurd hk (by omega), Up.refl _⟩ ?_
    clear g1 g2 g18 g19 g20 hn' hd' hij hi hall
    clear i fr' j
    rintro j fr' m2 ⟨i, hij, hn', hd', g1, g2, g30, g31, g32, hall, hu2⟩
    have hup2 := hup'.trans hu2
    by_cases hi : i < rs.length
    · rcases hx with hx | ⟨b, o, x, rfl, hb, hc⟩
      · exact absurd hx.2.1 (by omega)
      obtain ⟨u, hu, hfl⟩ := hc i hi
      have hm : m2.at b = some x := hup2.at hb hw0
      have hkb : m2.at m.next = some ⟨kL, 1, false, false⟩ := by rw [hu2.old _ hn0]; exact hkb0
      have hw := wrap_succ i (by omega)
      have hl := hall' i hi
      simp [g1, g2, g30, g31, g32, hn', hi, idx23 _ _ _ _ _ _ hi, hm, hu, hkb, ld74, kL, takeN]
      refine beside_ok K n _ u rs.length _ ?_ ((hfl.up hw0 hup2).same fun b => by simp) (hlen _ (rat_mem hi)) fun m3 hu3 => ?_
      · exact ((Up.rd _ _).trans (Up.rd _ _)).wf (hup2.wf hw0)
      have hu3' : Up m2 m3 := ((Up.rd _ _).trans (Up.rd _ _)).trans hu3
      cases hf : (rat' rs i).all ffin with
      | true =>
        have hF : listF (rat' rs i) rs.length = 0 := by unfold listF; rw [if_pos hl, hf]; rfl
        simp [hF, hn', g32, hw]
        refine ⟨j - 1, by omega, i + 1, by omega, by simp [hn'], by simp [hd'], by simp [g1], by simp [g2], by simp [g30], by simp [g31], by simp, fun k hk => ?_, hu2.trans hu3'⟩
        by_cases h : k = i
        · subst h; exact hf
        · exact hall k (by omega)
      | false =>
        have hF : listF (rat' rs i) rs.length = 5 := by unfold listF; rw [if_pos hl, hf]; rfl
        rw [chk5 hr hall' hi hf] at hQ
        simp [hF, hn', hd']
        exact hQ _ (hup2.trans hu3')
    · rw [chk0 hr hall' fun k hk => hall k (by omega)] at hQ
      simp [g1, g30, g31, g32, hn', hd', hi]
      exact hQ _ hup2
end Go.Proofs.Ytghhanifakllpaa

/- The program's system in the clean memory: a record of four lists, rows apart. No program. -/
namespace Go.Proofs.Ytghhanifakllpaa
open Go.Clean

/-- One more element behind a list of one's own, with what is touched. -/
theorem gives_pushL {P : Program} {t : TypeId} (h : appOK P t t 1 = true) {b1 : Nat} {v x : Value} {l : List Value} {m : Mem} {Q : Value → Mem → Prop} {b : Nat} (hx : m.at b1 = some ⟨[x], 1, false, false⟩) (hl : (l = [] ∧ v = .slice none 0 0) ∨ (l ≠ [] ∧ v = .slice (some ⟨b, 0, none⟩) l.length l.length ∧ m.at b = some ⟨l, 1, true, false⟩ ∧ b ≠ m.next))
    (hoo : l.all oneV = true) (ho : oneV x = true) (hk : l.length < 1048576)
    (q : ∀ m', m'.next = m.next + 1 → m'.at m.next = some ⟨l ++ [x], 1, true, false⟩ → (∀ c, c ≠ b → c ≠ m.next → m'.at c = m.at c) → (∀ p ∈ m'.log, p.2 = b ∨ p.2 = b1 ∨ p.2 = m.next ∨ p ∈ m.log) → Q (.slice (some ⟨m.next, 0, none⟩) (l.length + 1) (l.length + 1)) m') :
    Gives (appendX P t t v (.slice (some ⟨b1, 0, none⟩) 1 1)) m Q := by
  rcases hl with ⟨rfl, rfl⟩ | ⟨hne, rfl, hb, hbn⟩
  · refine gives_append_new h hx (new := [x]) rfl (by simp [ho]) (by omega) (by omega) (q _ rfl ?_ ?_ ?_)
    · simp
    · intro c _ hc; simp [hc]
    · intro p hp
      simp at hp
      rcases hp with rfl | rfl | hp <;> simp [*]
  · refine gives_append_grow h hb (by simp) hx (new := [x]) rfl hoo (by simp [ho]) (by omega) (by omega) (q _ rfl ?_ ?_ ?_)
    · simp
    · intro c hc hc2; simp [hc, hc2]
    · intro p hp
      simp at hp
      rcases hp with rfl | rfl | rfl | rfl | hp <;> simp [*]
def rec4 (v : Nat → Value) : Blk := ⟨[v 1, v 2, v 3, v 4], 1, false, false⟩
structure Lap (m : Mem) (kd : Nat → Nat) (base s5 : Nat) (v : Nat → Value) (l : Nat → List Value) (n : Nat) (ρ : Nat → Nat) (rw : Nat → List Value) : Prop where
  wf : WF m
  cell : m.at s5 = some (rec4 v)
  own : kd s5 = 0 ∧ base ≤ s5
  gl : ∀ k, 1 ≤ k → k ≤ 4 → (l k).all oneV = true ∧ ((l k = [] ∧ v k = nilV) ∨ (l k ≠ [] ∧ ∃ b, v k = lst b (l k).length ∧ kd b = k ∧ base ≤ b ∧ m.at b = some ⟨l k, 1, true, false⟩))
  row : ∀ i, i < n → 6 ≤ kd (ρ i) ∧ base ≤ ρ i ∧ m.at (ρ i) = some ⟨rw i, 1, false, false⟩
  inj : ∀ i j, i < n → j < n → ρ i = ρ j → i = j

section
variable {m m' : Mem} {kd : Nat → Nat} {base s5 : Nat} {v : Nat → Value} {l : Nat → List Value} {n : Nat} {ρ : Nat → Nat} {rw : Nat → List Value}
theorem Lap.same (h : Lap m kd base s5 v l n ρ rw) (hn : m.next ≤ m'.next) (e : ∀ c, m'.at c = m.at c) : Lap m' kd base s5 v l n ρ rw :=
  ⟨fun b x hb => Nat.lt_of_lt_of_le (h.wf b x (by rw [← e]; exact hb)) hn, by rw [e]; exact h.cell, h.own, fun k h1 h5 => by
    obtain ⟨h0, hg⟩ := h.gl k h1 h5
    refine ⟨h0, ?_⟩
    rcases hg with hg | ⟨hg1, b, hg2, hg3, hg4, hg5⟩
    · exact .inl hg
    · exact .inr ⟨hg1, b, hg2, hg3, hg4, by rw [e]; exact hg5⟩, fun i hi => by
    obtain ⟨h1, h2, h3⟩ := h.row i hi
    exact ⟨h1, h2, by rw [e]; exact h3⟩, h.inj⟩

/-- One list's block, of a list that is not empty. -/
theorem Lap.blk (h : Lap m kd base s5 v l n ρ rw) {k : Nat} (h1 : 1 ≤ k) (h5 : k ≤ 4) (hne : 0 < (l k).length) : ∃ b, v k = lst b (l k).length ∧ kd b = k ∧ base ≤ b ∧ m.at b = some ⟨l k, 1, true, false⟩ := by
  obtain ⟨_, hg⟩ := h.gl k h1 h5
  rcases hg with ⟨hg, _⟩ | ⟨_, hg⟩
  · rw [hg] at hne; simp at hne
  · exact hg

/-- An element of a list is turned. -/
theorem Lap.setL (h : Lap m kd base s5 v l n ρ rw) {k : Nat} (h1 : 1 ≤ k) (h5 : k ≤ 4) {b : Nat} (hv : v k = lst b (l k).length) (hne : 0 < (l k).length) {x : Value} (hx : oneV x = true) (j : Nat) (hn : m'.next = m.next) (e : ∀ c, m'.at c = if c = b then some ⟨(l k).set j x, 1, true, false⟩ else m.at c) :
    Lap m' kd base s5 v (fun q => if q = k then (l k).set j x else l q) n ρ rw := by
  obtain ⟨b', hv', hb1, hb2, hb3⟩ := h.blk h1 h5 hne
  obtain rfl : b = b' := by rw [hv] at hv'; unfold lst at hv'; simpa using hv'
  have hlt := h.wf b _ hb3
  have ne : ∀ c, kd c ≠ k → m'.at c = m.at c := fun c hc => by rw [e, if_neg (fun hh => hc (by rw [hh]; exact hb1))]
  refine ⟨fun c y hc => ?_, by rw [ne s5 (by have := h.own.1; omega)]; exact h.cell, h.own, fun q q1 q5 => ?_, fun i hi => ?_, h.inj⟩
  · rw [hn]
    rw [e] at hc
    split at hc
    · subst_vars; exact hlt
    · exact h.wf c y hc
  · by_cases hq : q = k
    · subst hq
      simp only [if_true]
      refine ⟨?_, .inr ⟨?_, b, by rw [List.length_set]; exact hv, hb1, hb2, by rw [e, if_pos rfl]⟩⟩
      · rw [List.all_eq_true]
        intro y hy
        rcases List.mem_or_eq_of_mem_set hy with hy | hy
        · exact List.all_eq_true.1 (h.gl q h1 h5).1 y hy
        · rw [hy]; exact hx
      · intro h0
        have := congrArg List.length h0
        rw [List.length_set] at this
        simp at this
        rw [this] at hne; simp at hne
    · simp only [if_neg hq]
      obtain ⟨h0, hg⟩ := h.gl q q1 q5
      refine ⟨h0, ?_⟩
      rcases hg with hg | ⟨hg1, b2, hg2, hg3, hg4, hg5⟩
      · exact .inl hg
      · exact .inr ⟨hg1, b2, hg2, hg3, hg4, by rw [ne b2 (by omega)]; exact hg5⟩
  · obtain ⟨r1, r2, r3⟩ := h.row i hi
    exact ⟨r1, r2, by rw [ne _ (by omega)]; exact r3⟩

/-- An element of a row is turned. -/
theorem Lap.setRow (h : Lap m kd base s5 v l n ρ rw) {i : Nat} (hi : i < n) (x : Value) (j : Nat) (hn : m'.next = m.next) (e : ∀ c, m'.at c = if c = ρ i then some ⟨(rw i).set j x, 1, false, false⟩ else m.at c) :
    Lap m' kd base s5 v l n ρ (fun q => if q = i then (rw i).set j x else rw q) := by
  obtain ⟨r1, r2, r3⟩ := h.row i hi
  have hlt := h.wf _ _ r3
  have ne : ∀ c, kd c < 6 → m'.at c = m.at c := fun c hc => by rw [e, if_neg (fun hh => by rw [hh] at hc; omega)]
  refine ⟨fun c y hc => ?_, by rw [ne s5 (by have := h.own.1; omega)]; exact h.cell, h.own, fun q q1 q5 => ?_, fun q hq => ?_, h.inj⟩
  · rw [hn]
    rw [e] at hc
    split at hc
    · subst_vars; exact hlt
    · exact h.wf c y hc
  · obtain ⟨h0, hg⟩ := h.gl q q1 q5
    refine ⟨h0, ?_⟩
    rcases hg with hg | ⟨hg1, b2, hg2, hg3, hg4, hg5⟩
    · exact .inl hg
    · exact .inr ⟨hg1, b2, hg2, hg3, hg4, by rw [ne b2 (by omega)]; exact hg5⟩
  · obtain ⟨s1, s2, s3⟩ := h.row q hq
    refine ⟨s1, s2, ?_⟩
    by_cases hqi : q = i
    · subst hqi; simp only [if_true]; rw [e, if_pos rfl]
    · simp only [if_neg hqi]
      rw [e, if_neg (fun hh => hqi (h.inj q i hq hi hh))]
      exact s3

/-- The rows in another order. -/
theorem Lap.swap (h : Lap m kd base s5 v l n ρ rw) {c p : Nat} (hc : c < n) (hp : p < n) : Lap m kd base s5 v l n (fun i => ρ (sw c p i)) (fun i => rw (sw c p i)) :=
  ⟨h.wf, h.cell, h.own, h.gl, fun i hi => h.row _ (sw_lt hc hp hi), fun i j hi hj e => sw_inj (h.inj _ _ (sw_lt hc hp hi) (sw_lt hc hp hj) e)⟩

/-- One more element behind a list: what append comes to, and the record behind the store. -/
theorem Lap.append (h : Lap m kd base s5 v l n ρ rw) (hb0 : base ≤ m.next) {k : Nat} (h1 : 1 ≤ k) (h5 : k ≤ 4) {P : Program} {t : TypeId} (happ : appOK P t t 1 = true) {m1 : Mem} {x : Value} (hx : oneV x = true) (hl : (l k).length < 100000)
    (e0 : m1.next = m.next + 1) (e1 : m1.at m.next = some ⟨[x], 1, false, false⟩) (e2 : ∀ c, c ≠ m.next → c ≠ s5 → m1.at c = m.at c) {Q : Value → Mem → Prop}
    (q : ∀ m2, m2.next = m.next + 2 → m2.at s5 = m1.at s5 → (∀ c, c < base → m2.at c = m.at c) → (∀ p ∈ m2.log, p ∈ m1.log ∨ p.2 = m.next ∨ p.2 = m.next + 1 ∨ (p.2 < m.next ∧ kd p.2 = k)) →
      (∀ m' w, m'.next = m2.next → w = (fun j => if j = k then lst (m.next + 1) ((l k).length + 1) else v j) → (∀ c, m'.at c = if c = s5 then some (rec4 w) else m2.at c) → Lap m' (fun c => if c = m.next + 1 then k else kd c) base s5 w (fun j => if j = k then l k ++ [x] else l j) n ρ rw) →
      Q (lst (m.next + 1) ((l k).length + 1)) m2) : Gives (appendX P t t (v k) (.slice (some ⟨m.next, 0, none⟩) 1 1)) m1 Q := by
  have hs5 := h.wf _ _ h.cell
  obtain ⟨h0, hg⟩ := h.gl k h1 h5
  obtain ⟨b, hb⟩ : ∃ b, ((l k = [] ∧ v k = nilV ∧ b = m.next + 1)) ∨ (l k ≠ [] ∧ v k = lst b (l k).length ∧ kd b = k ∧ base ≤ b ∧ m.at b = some ⟨l k, 1, true, false⟩ ∧ b < m.next) := by
    rcases hg with ⟨g1, g2⟩ | ⟨g1, b, g2, g3, g4, g5⟩
    · exact ⟨_, .inl ⟨g1, g2, rfl⟩⟩
    · exact ⟨b, .inr ⟨g1, g2, g3, g4, g5, h.wf _ _ g5⟩⟩
  have hbs : b ≠ s5 := fun hh => by
    subst hh
    rcases hb with ⟨_, _, g⟩ | ⟨_, _, g, _⟩
    · omega
    · have := h.own.1; omega
  refine gives_pushL (b := b) happ e1 (l := l k) ?_ h0 hx (by omega) fun m2 n2 a2 o2 lg2 => ?_
  · rcases hb with ⟨g1, g2, _⟩ | ⟨g1, g2, g3, g4, g5, g6⟩
    · exact .inl ⟨g1, g2⟩
    · exact .inr ⟨g1, g2, by rw [e2 b (by omega) hbs]; exact g5, by omega⟩
  rw [e0] at n2 a2 o2 lg2 ⊢
  have nb : ∀ c, c < m.next → kd c ≠ k → c ≠ b := fun c hc hk hh => by
    subst hh
    rcases hb with ⟨_, _, g⟩ | ⟨_, _, g, _⟩
    · omega
    · exact hk g
  have old : ∀ c, c < m.next → kd c ≠ k → c ≠ s5 → m2.at c = m.at c := fun c hc hk hs => by rw [o2 c (nb c hc hk) (by omega), e2 c (by omega) hs]
  refine q m2 n2 (o2 s5 (fun hh => hbs hh.symm) (by omega)) (fun c hc => ?_) (fun p hp => ?_) fun m' w hn' hw he => ?_
  · have hcb : c ≠ b := by
      rcases hb with ⟨_, _, g⟩ | ⟨_, _, _, g, _⟩ <;> omega
    have := h.own.2
    rw [o2 c hcb (by omega), e2 c (by omega) (by omega)]
  · rcases lg2 p hp with hp | hp | hp | hp
    · rcases hb with ⟨_, _, g⟩ | ⟨_, _, g3, _, _, g⟩
      · exact .inr (.inr (.inl (by omega)))
      · exact .inr (.inr (.inr (by rw [hp]; exact ⟨g, g3⟩)))
    · exact .inr (.inl hp)
    · exact .inr (.inr (.inl hp))
    · exact .inl hp
  · have old' : ∀ c, c < m.next → kd c ≠ k → c ≠ s5 → m'.at c = m.at c := fun c h1 h2 h3 => by rw [he, if_neg h3, old c h1 h2 h3]
    have knew : ∀ c, c < m.next → (if c = m.next + 1 then k else kd c) = kd c := fun c hc => by rw [if_neg (by omega)]
    refine ⟨fun c y hc => ?_, by rw [he, if_pos rfl], ⟨by rw [knew _ hs5]; exact h.own.1, h.own.2⟩, fun q q1 q5 => ?_, fun i hi => ?_, h.inj⟩
    · rw [hn', n2]
      rw [he] at hc
      by_cases hcs : c = s5
      · omega
      · rw [if_neg hcs] at hc
        by_cases hcb : c = b
        · rcases hb with ⟨_, _, g⟩ | ⟨_, _, _, _, _, g⟩
          · omega
          · omega
        · by_cases hcn : c = m.next + 1
          · omega
          · rw [o2 c hcb hcn] at hc
            by_cases hcm : c = m.next
            · omega
            · rw [e2 c hcm hcs] at hc
              have := h.wf c y hc
              omega
    · by_cases hq : q = k
      · subst hq
        simp only [if_true]
        refine ⟨by rw [List.all_append, h0]; simp [hx], .inr ⟨by simp, m.next + 1, by rw [hw]; simp, by simp, by omega, by rw [he, if_neg (by omega), a2]⟩⟩
      · simp only [if_neg hq]
        obtain ⟨g0, hg'⟩ := h.gl q q1 q5
        refine ⟨g0, ?_⟩
        rcases hg' with ⟨g1, g2⟩ | ⟨hg1, b2, hg2, hg3, hg4, hg5⟩
        · exact .inl ⟨g1, by rw [hw]; simp only [if_neg hq]; exact g2⟩
        · have hb2 := h.wf _ _ hg5
          have hb2s : b2 ≠ s5 := fun hh => by have := h.own.1; rw [hh] at hg3; omega
          exact .inr ⟨hg1, b2, by rw [hw]; simp only [if_neg hq]; exact hg2, by rw [knew _ hb2]; exact hg3, hg4, by rw [old' b2 hb2 (by omega) hb2s]; exact hg5⟩
    · obtain ⟨s1, s2, s3⟩ := h.row i hi
      have hlt := h.wf _ _ s3
      have hs : ρ i ≠ s5 := fun hh => by have := h.own.1; rw [hh] at s1; omega
      exact ⟨by rw [knew _ hlt]; exact s1, s2, by rw [old' _ hlt (by omega) hs]; exact s3⟩
/-- A list is turned. -/
theorem Lap.putL (h : Lap m kd base s5 v l n ρ rw) {k : Nat} (h1 : 1 ≤ k) (h5 : k ≤ 4) {b : Nat} (hv : v k = lst b (l k).length) (hne : 0 < (l k).length) {L : List Value} (hx : L.all oneV = true) (hL : L.length = (l k).length) (hn : m'.next = m.next) (e : ∀ c, m'.at c = if c = b then some ⟨L, 1, true, false⟩ else m.at c) :
    Lap m' kd base s5 v (fun q => if q = k then L else l q) n ρ rw := by
  obtain ⟨b', hv', hb1, hb2, hb3⟩ := h.blk h1 h5 hne
  obtain rfl : b = b' := by rw [hv] at hv'; unfold lst at hv'; simpa using hv'
  have hlt := h.wf b _ hb3
  have ne : ∀ c, kd c ≠ k → m'.at c = m.at c := fun c hc => by rw [e, if_neg (fun hh => hc (by rw [hh]; exact hb1))]
  refine ⟨fun c y hc => ?_, by rw [ne s5 (by have := h.own.1; omega)]; exact h.cell, h.own, fun q q1 q5 => ?_, fun i hi => ?_, h.inj⟩
  · rw [hn]
    rw [e] at hc
    split at hc
    · subst_vars; exact hlt
    · exact h.wf c y hc
  · by_cases hq : q = k
    · subst hq
      simp only [if_true]
      refine ⟨hx, .inr ⟨?_, b, by rw [hL]; exact hv, hb1, hb2, by rw [e, if_pos rfl]⟩⟩
      intro h0
      have := congrArg List.length h0
      rw [hL] at this
      simp at this
      rw [this] at hne; simp at hne
    · simp only [if_neg hq]
      obtain ⟨h0, hg⟩ := h.gl q q1 q5
      refine ⟨h0, ?_⟩
      rcases hg with hg | ⟨hg1, b2, hg2, hg3, hg4, hg5⟩
      · exact .inl hg
      · exact .inr ⟨hg1, b2, hg2, hg3, hg4, by rw [ne b2 (by omega)]; exact hg5⟩
  · obtain ⟨r1, r2, r3⟩ := h.row i hi
    exact ⟨r1, r2, by rw [ne _ (by omega)]; exact r3⟩
end
theorem Lap.frame {m m' : Mem} {kd : Nat → Nat} {base s5 : Nat} {v : Nat → Value} {l : Nat → List Value} {n : Nat} {ρ : Nat → Nat} {rw : Nat → List Value} (h : Lap m kd base s5 v l n ρ rw) (hw : WF m') (e : ∀ c, base ≤ c → m'.at c = m.at c) : Lap m' kd base s5 v l n ρ rw :=
  ⟨hw, by rw [e _ h.own.2]; exact h.cell, h.own, fun k h1 h5 => by
    obtain ⟨h0, hg⟩ := h.gl k h1 h5
    refine ⟨h0, ?_⟩
    rcases hg with hg | ⟨hg1, b, hg2, hg3, hg4, hg5⟩
    · exact .inl hg
    · exact .inr ⟨hg1, b, hg2, hg3, hg4, by rw [e b hg4]; exact hg5⟩, fun i hi => by
    obtain ⟨h1, h2, h3⟩ := h.row i hi
    exact ⟨h1, h2, by rw [e _ h2]; exact h3⟩, h.inj⟩
theorem Lap.above {m m' : Mem} {kd : Nat → Nat} {base s5 : Nat} {v : Nat → Value} {l : Nat → List Value} {n : Nat} {ρ : Nat → Nat} {rw : Nat → List Value} (h : Lap m kd base s5 v l n ρ rw) (hw : WF m') (e : ∀ c, c < m.next → m'.at c = m.at c) : Lap m' kd base s5 v l n ρ rw :=
  ⟨hw, by rw [e _ (h.wf _ _ h.cell)]; exact h.cell, h.own, fun k h1 h5 => by
    obtain ⟨h0, hg⟩ := h.gl k h1 h5
    refine ⟨h0, ?_⟩
    rcases hg with hg | ⟨hg1, b, hg2, hg3, hg4, hg5⟩
    · exact .inl hg
    · exact .inr ⟨hg1, b, hg2, hg3, hg4, by rw [e b (h.wf _ _ hg5)]; exact hg5⟩, fun i hi => by
    obtain ⟨h1, h2, h3⟩ := h.row i hi
    exact ⟨h1, h2, by rw [e _ (h.wf _ _ h3)]; exact h3⟩, h.inj⟩
end Go.Proofs.Ytghhanifakllpaa

/- The program's steps, in the clean executor: one row; all rows below the pivot's. -/
namespace Go.Proofs.Ytghhanifakllpaa
open Go.Clean

section
@[simp] theorem fa79_0 (s : Nat) : fieldAddrX Try.prog 79 (.pointer (some ⟨s, 0, none⟩)) 0 = some (.pointer (some ⟨s, 0, none⟩)) := by kernel_rfl
@[simp] theorem fa79_1 (s : Nat) : fieldAddrX Try.prog 79 (.pointer (some ⟨s, 0, none⟩)) 1 = some (.pointer (some ⟨s, 1, none⟩)) := by kernel_rfl
@[simp] theorem fa79_2 (s : Nat) : fieldAddrX Try.prog 79 (.pointer (some ⟨s, 0, none⟩)) 2 = some (.pointer (some ⟨s, 2, none⟩)) := by kernel_rfl
@[simp] theorem fa79_3 (s : Nat) : fieldAddrX Try.prog 79 (.pointer (some ⟨s, 0, none⟩)) 3 = some (.pointer (some ⟨s, 3, none⟩)) := by kernel_rfl
@[simp] theorem agg79 : Clean.isAgg Try.prog 79 = some true := by kernel_rfl
@[simp] theorem size79 : sizeT Try.prog 79 = some 4 := by kernel_rfl
@[simp] theorem elem79 : elemT Try.prog 79 = 1 := by kernel_rfl
@[simp] theorem zero79 : zeroT Try.prog 79 = some (.agg ⟨[nilV, nilV, nilV, nilV]⟩) := by kernel_rfl
theorem ld79 (cs : List Value) (o : Nat) : ldX Try.prog 79 cs o = (takeN cs o 4).map fun l => .agg ⟨l⟩ := ld_agg agg79 size79 cs o
@[simp] theorem sto79 (v : Value) : storeOK Try.prog 79 v = (4 == (cellsV v).length && (cellsV v).all oneV) := by unfold storeOK; rw [size79]; rfl
end

structure Conp (l : Nat → List Value) (ρ : Nat → Nat) (rw : Nat → List Value) (N : Nat) (S : Sys) : Prop where
  hd : (l 1).length = N ∧ ∀ i, i < N → (l 1)[i]? = some (.slice (some ⟨ρ i, 0, none⟩) (N + 1) (N + 1))
  row : ∀ i, i < N → (rw i).length = N + 1 ∧ ∀ j, j ≤ N → (rw i)[j]? = some (.float .f64 (cOf (S.M i j)))
  ord : (l 2).length = N ∧ ∀ i, i < N → (l 2)[i]? = some (.int .i64 (S.first i : Nat))
  piv : l 3 = S.piv.map fv
  odd : l 4 = S.odd.map .bool
structure FP (fr : Fr) (kb r6 s8 N k : Nat) : Prop where
  n : fr.n = 209
  d : fr.d = []
  a3 : fr.at 3 = .pointer (some ⟨kb, 0, none⟩)
  a6 : fr.at 6 = .pointer (some ⟨r6, 0, none⟩)
  a8 : fr.at 8 = .pointer (some ⟨s8, 0, none⟩)
  a9 : fr.at 9 = .int .i64 N
  a13 : fr.at 13 = .int .i64 (k : Nat)
  a58 : fr.at 58 = .int .i64 N
  a59 : fr.at 59 = .int .i64 (k : Nat)
theorem Conp.setRow {N : Nat} {S : Sys} {l : Nat → List Value} {ρ : Nat → Nat} {rw : Nat → List Value} (h : Conp l ρ rw N S) {i j : Nat} (hi : i < N) (hj : j ≤ N) (x : F) {M' : Mx} (hM : ∀ a b, a < N → b ≤ N → M' a b = if a = i ∧ b = j then x else S.M a b) :
    Conp l ρ (fun q => if q = i then (rw i).set j (.float .f64 (cOf x)) else rw q) N { S with M := M' } := by
  refine ⟨h.hd, fun a ha => ?_, h.ord, h.piv, h.odd⟩
  by_cases hai : a = i
  · subst hai
    simp only [if_true, List.length_set]
    refine ⟨(h.row a ha).1, fun b hb => ?_⟩
    rw [List.getElem?_set]
    show _ = some (Value.float .f64 (cOf (M' a b)))
    rw [hM a b ha hb]
    by_cases hbj : j = b
    · subst hbj
      rw [if_pos rfl, if_pos (by rw [(h.row a ha).1]; omega), if_pos ⟨rfl, rfl⟩]
    · rw [if_neg hbj, if_neg (by omega)]
      exact (h.row a ha).2 b hb
  · simp only [if_neg hai]
    refine ⟨(h.row a ha).1, fun b hb => ?_⟩
    show _ = some (Value.float .f64 (cOf (M' a b)))
    rw [hM a b ha hb, if_neg (by omega)]
    exact (h.row a ha).2 b hb

/-! ### One row -/
def qMain (c : Code) : Code := inB (sR (sL (sR (sR (sR (sR c))))))
def qY (c : Code) : Code := inB (sL (sR (sR (inB (qMain c)))))
def qPiv (c : Code) : Code := inB (sR (sL (sR (sR (qY c)))))
def qElim (c : Code) : Code := inB (sR (sR (sR (sR (sR (sR (sR (sR (sR (qY c))))))))))
def qRow (c : Code) : Code := inB (sR (sR (sR (inB (sL (sR (sR (inB (qElim c)))))))))

def growI (m : Mem) (base kb r6 s8 N k i : Nat) (sv : Value) (f : F) (S : Sys) (kd : Nat → Nat) (v : Nat → Value) (l : Nat → List Value) (ρ : Nat → Nat) (q : Nat) (fr : Fr) (m' : Mem) : Prop :=
  ∃ j rw, j + q = N + 1 ∧ k < j ∧ FP fr kb r6 s8 N k ∧ fr.at 166 = sv ∧ fr.at 167 = .int .i64 ((N - (k + 1) : Nat) : Int) ∧ fr.at 168 = .int .i64 ((i - (k + 1) : Nat) : Int) ∧ fr.at 16 = .float .f64 (cOf (S.M k k)) ∧ fr.at 18 = .slice (some ⟨ρ i, 0, none⟩) (N + 1) (N + 1) ∧ fr.at 19 = .float .f64 (cOf f) ∧ fr.at 20 = .int .i64 (j : Nat) ∧ Old base m m' ∧
  Lap m' kd base s8 v l N ρ rw ∧ Conp l ρ rw N { S with M := part N S.M k i j }
set_option maxRecDepth 10000 in
theorem grow_loop {known : Known} (K : KP known) (n : Nat) {fr : Fr} {m : Mem} {base kb r6 s8 N k i : Nat} {sv : Value} {S : Sys} {kd : Nat → Nat} {v : Nat → Value} {l : Nat → List Value} {ρ : Nat → Nat} {rw : Nat → List Value} (hki : k < i) (hiN : i < N) (hN : N ≤ 128) (hF : FP fr kb r6 s8 N k)
    (h166 : fr.at 166 = sv) (h167 : fr.at 167 = .int .i64 ((N - (k + 1) : Nat) : Int)) (h168 : fr.at 168 = .int .i64 ((i - (k + 1) : Nat) : Int)) (h16 : fr.at 16 = .float .f64 (cOf (S.M k k))) (h18 : fr.at 18 = .slice (some ⟨ρ i, 0, none⟩) (N + 1) (N + 1)) (h19 : fr.at 19 = .float .f64 (cOf (fdiv (S.M i k) (S.M k k)))) (h20 : fr.at 20 = .int .i64 ((k + 1 : Nat) : Int))
    (hkb : m.at kb = some ⟨kL, 1, false, false⟩) (hkbb : kb < base) (hL : Lap m kd base s8 v l N ρ rw) (hC : Conp l ρ rw N { S with M := part N S.M k i (k + 1) }) {Q : CQ}
    (hQ : ∀ fr' m' rw', FP fr' kb r6 s8 N k → fr'.at 166 = sv → fr'.at 167 = .int .i64 ((N - (k + 1) : Nat) : Int) → fr'.at 168 = .int .i64 ((i - (k + 1) : Nat) : Int) → fr'.at 16 = .float .f64 (cOf (S.M k k)) → Old base m m' → Lap m' kd base s8 v l N ρ rw' → Conp l ρ rw' N { S with M := part N S.M k i (N + 1) } → Q (.exit 8, fr') m') :
    Gives (codeX Try.prog (callN Try.prog known (n + 1)) (qRow (bodyOf Try.f42)) fr) m Q := by
  refine via (X := .loop _) rfl ?_
  refine code_loop (growI m base kb r6 s8 N k i sv (fdiv (S.M i k) (S.M k k)) S kd v l ρ) (N - k) (by omega) ⟨k + 1, rw, by omega, by omega, hF, h166, h167, h168, h16, h18, h19, h20, .refl _ _, hL, hC⟩ ?_
  clear hL hC rw
  rintro q fr' m' ⟨j, rw, hjq, hkj, ⟨f1, f2, f3, f4, f5, f6, f7, f8, f9⟩, g166, g167, g168, g16, g18, g19, g20, ho, hL, hC⟩
  by_cases hj : j ≤ N
  · simp [f1, f6, g20, hj]
    refine code_draw (sil := silF) (K.kn.silent _) (K.kn.parC _) (by kernel_rfl) ?_
    have hcell := hL.cell
    obtain ⟨bA, hv1, _, _, hbA⟩ := hL.blk (k := 1) (by omega) (by omega) (by rw [hC.hd.1]; omega)
    rw [hC.hd.1] at hv1
    obtain ⟨_, _, hri⟩ := hL.row i hiN
    obtain ⟨_, _, hrk⟩ := hL.row k (by omega)
    have hdk := hC.hd.2 k (by omega)
    have eij := (hC.row i hiN).2 j hj
    have ekj := (hC.row k (by omega)).2 j hj
    have eij' : (rw i)[j]? = some (.float .f64 (cOf (S.M i j))) := by rw [eij]; show some (Value.float .f64 (cOf (part N S.M k i j i j))) = _; rw [part_at]
    have ekj' : (rw k)[j]? = some (.float .f64 (cOf (S.M k j))) := by rw [ekj]; show some (Value.float .f64 (cOf (part N S.M k i j k j))) = _; rw [part_top]
    clear eij ekj
    have hw := wrap_succ j (by omega)
    have hkb' : m'.at kb = some ⟨kL, 1, false, false⟩ := by rw [ho kb hkbb]; exact hkb
    simp [f1, f3, f5, f7, g18, g19, g20, hcell, hkb', kL, rec4, hv1, lst, hbA, hdk, hri, hrk, eij', ekj', idx23 _ _ _ _ _ _ (show k < N by omega), idx24 _ _ _ _ _ _ (show j < N + 1 by omega), gives_less K]
    refine storeQ_one (cs := rw i) (sz := 1) (gr := false) (by simpa using hri) (by simp [cellsV, oneV]) rfl (by rw [(hC.row i hiN).1]; omega) fun m3 n3 _ e3 => ?_
    simp only [Mem.next_rd, Mem.at_rd] at n3 e3
    simp [f1, g20, hw]
    have hp : ∀ a b, a < N → b ≤ N → part N S.M k i (j + 1) a b = if a = i ∧ b = j then fless (S.M i j) (fdiv (S.M i k) (S.M k k)) (S.M k j) else part N S.M k i j a b := fun a b _ _ => by
      rw [← part_set N S.M hki hiN hkj hj]
    refine ⟨q - 1, by omega, j + 1, _, by omega, by omega, ⟨by simp [f1], by simp [f2], by simp [f3], by simp [f4], by simp [f5], by simp [f6], by simp [f7], by simp [f8], by simp [f9]⟩, by simp [g166], by simp [g167], by simp [g168], by simp [g16], by simp [g18], by simp [g19], by simp, ho.trans fun c hc => ?_, hL.setRow hiN _ j n3 e3, hC.setRow hiN hj _ hp⟩
    rw [e3, if_neg]
    have := (hL.row i hiN).2.1
    omega
  · have : j = N + 1 := by omega
    subst this
    simp [f1, f6, g20, show ¬ ((N : Int) + 1 ≤ (N : Int)) by omega]
    exact hQ _ m' rw ⟨by simp [f1], by simp [f2], by simp [f3], by simp [f4], by simp [f5], by simp [f6], by simp [f7], by simp [f8], by simp [f9]⟩ (by simp [g166]) (by simp [g167]) (by simp [g168]) (by simp [g16]) ho hL hC

def loseI (m : Mem) (base kb r6 s8 N k : Nat) (sv : Value) (S : Sys) (kd : Nat → Nat) (v : Nat → Value) (l : Nat → List Value) (ρ : Nat → Nat) (q : Nat) (fr : Fr) (m' : Mem) : Prop :=
  ∃ i rw, i + q = N ∧ k < i ∧ FP fr kb r6 s8 N k ∧ fr.at 166 = sv ∧ fr.at 167 = .int .i64 ((N - (k + 1) : Nat) : Int) ∧ fr.at 168 = .int .i64 ((i - (k + 1) : Nat) : Int) ∧ fr.at 16 = .float .f64 (cOf (S.M k k)) ∧ Old base m m' ∧ Lap m' kd base s8 v l N ρ rw ∧ Conp l ρ rw N { S with M := part N S.M k i (k + 1) }
set_option maxRecDepth 10000 in
theorem lose_loop {known : Known} (K : KP known) (n : Nat) {fr : Fr} {m : Mem} {base kb r6 s8 N k : Nat} {sv : Value} {S : Sys} {kd : Nat → Nat} {v : Nat → Value} {l : Nat → List Value} {ρ : Nat → Nat} {rw : Nat → List Value} (hkN : k < N) (hN : N ≤ 128) (hF : FP fr kb r6 s8 N k)
    (h166 : fr.at 166 = sv) (h167 : fr.at 167 = .int .i64 ((N - (k + 1) : Nat) : Int)) (h168 : fr.at 168 = .int .i64 0) (h16 : fr.at 16 = .float .f64 (cOf (S.M k k))) (hsv : k + 1 < N → ∃ bA, v 1 = lst bA N ∧ sv = .slice (some ⟨bA, k + 1, none⟩) (N - (k + 1)) (N - (k + 1)))
    (hkb : m.at kb = some ⟨kL, 1, false, false⟩) (hkbb : kb < base) (hL : Lap m kd base s8 v l N ρ rw) (hC : Conp l ρ rw N S) {Q : CQ}
    (hQ : ∀ fr' m' rw', FP fr' kb r6 s8 N k → Old base m m' → Lap m' kd base s8 v l N ρ rw' → Conp l ρ rw' N { S with M := elimM N S.M k } → Q (.exit 6, fr') m') :
    Gives (codeX Try.prog (callN Try.prog known (n + 1)) (qElim (bodyOf Try.f42)) fr) m Q := by
  refine via (X := .loop _) rfl ?_
  refine code_loop (loseI m base kb r6 s8 N k sv S kd v l ρ) (N - (k + 1)) (by omega) ⟨k + 1, rw, by omega, by omega, hF, h166, h167, by rw [h168, Nat.sub_self]; rfl, h16, .refl _ _, hL, by rw [part_start]; exact hC⟩ ?_
  clear hL hC rw
  rintro q fr' m' ⟨i, rw, hiq, hki, ⟨f1, f2, f3, f4, f5, f6, f7, f8, f9⟩, g166, g167, g168, g16, ho, hL, hC⟩
  by_cases hi : i < N
  · obtain ⟨bA, hv1, rfl⟩ := hsv (by omega)
    have hlt : i - (k + 1) < N - (k + 1) := by omega
    obtain ⟨bA', hv1', _, _, hbA⟩ := hL.blk (k := 1) (by omega) (by omega) (by rw [hC.hd.1]; omega)
    rw [hC.hd.1] at hv1'
    obtain rfl : bA = bA' := by rw [hv1] at hv1'; unfold lst at hv1'; simpa using hv1'
    have hdi := hC.hd.2 i hi
    rw [show i = k + 1 + (i - (k + 1)) by omega] at hdi
    obtain ⟨_, _, hri⟩ := hL.row i hi
    have eik : (rw i)[k]? = some (.float .f64 (cOf (S.M i k))) := by rw [(hC.row i hi).2 k (by omega)]; show some (Value.float .f64 (cOf (part N S.M k i (k + 1) i k))) = _; rw [part_col]
    have hwk := wrap_succ k (by omega)
    have hw := wrap_succ (i - (k + 1)) (by omega)
    have hkb' : m'.at kb = some ⟨kL, 1, false, false⟩ := by rw [ho kb hkbb]; exact hkb
    simp [f1, g166, g167, g168, hlt, idx23 _ _ _ _ _ _ hlt, hbA, hdi]
    refine code_draw (sil := silF) (K.kn.silent _) (K.kn.parC _) (by kernel_rfl) ?_
    rw [show k + 1 + (i - (k + 1)) = i by omega]
    simp [f1, f3, f7, g16, hkb', kL, hri, eik, hwk, idx24 _ _ _ _ _ _ (show k < N + 1 by omega), gives_over K]
    refine via (X := qRow (bodyOf Try.f42)) (by kernel_rfl) (grow_loop K n (base := base) (kb := kb) (r6 := r6) (s8 := s8) (N := N) (k := k) (i := i) (S := S) (sv := .slice (some ⟨bA, k + 1, none⟩) (N - (k + 1)) (N - (k + 1))) (kd := kd) (v := v) (l := l) (ρ := ρ) (rw := rw) hki hi hN ⟨by simp [f1], by simp [f2], by simp [f3], by simp [f4], by simp [f5], by simp [f6], by simp [f7], by simp [f8], by simp [f9]⟩ ?_ ?_ ?_ ?_ ?_ ?_ ?_ ?_ hkbb (hL.same ?_ ?_) hC fun fr2 m2 rw2 hF2 g166 g167 g168 g16 ho2 hL2 hC2 => ?_)
    · simp [g166]
    · simp [g167]
    · simp [g168]
    · simp [g16]
    · simp
    · simp
    · simp
    · simp [hkb', kL]
    · simp
    · intro c; simp
    obtain ⟨f1, f2, f3, f4, f5, f6, f7, f8, f9⟩ := hF2
    simp [f1, g168, hw]
    rw [part_row] at hC2
    refine ⟨q - 1, by omega, i + 1, rw2, by omega, by omega, ⟨by simp [f1], by simp [f2], by simp [f3], by simp [f4], by simp [f5], by simp [f6], by simp [f7], by simp [f8], by simp [f9]⟩, by simp [g166], by simp [g167], ?_, by simp [g16], ho.trans fun c hc => by rw [ho2 c hc]; simp, hL2, hC2⟩
    simp; omega
  · have : i = N := by omega
    subst this
    rw [part_end] at hC
    simp [f1, g167, g168]
    exact hQ _ m' rw ⟨by simp [f1], by simp [f2], by simp [f3], by simp [f4], by simp [f5], by simp [f6], by simp [f7], by simp [f8], by simp [f9]⟩ ho hL hC
end Go.Proofs.Ytghhanifakllpaa

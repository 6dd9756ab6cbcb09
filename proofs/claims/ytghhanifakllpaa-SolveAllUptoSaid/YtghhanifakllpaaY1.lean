/- The document's answer for chapter 14, in the clean executor: lists and systems that may be. -/
import Derived.Test.YtghhanifakllpaaZY
import Derived.Test.YtghhanifakllpaaProg
import Derived.Test.YtghhanifakllpaaC
namespace Go.Proofs.Ytghhanifakllpaa
open Go.Clean

/-- math.Max's bits of two floats' bits, whatever it is. -/
def archR' (x y : Nat) : Nat :=
  let a := FloatKind.f64.decode x
  let b := FloatKind.f64.decode y
  if a == .infinity false || b == .infinity false then FloatKind.f64.encode (.infinity false)
  else if a.isNaN || b.isNaN then 0x7FF8000000000001
  else if a.isZero && b.isZero then (if a.neg == false then x else y)
  else if a.order b == some .gt then x else y
def fmax (x y : F) : F := fl (archR' (cOf x) (cOf y))
/-- What the executor takes for known, as far as this needs it. -/
structure KN (known : Known) : Prop where
  fin : ∀ x, known 50 [.float .f64 (cOf x)] = some (M.ret (.bool (ffin x)))
  abs : ∀ x, known 31 [.float .f64 (cOf x)] = some (M.ret (.float .f64 (cOf (fabs x))))
  max : ∀ x y, known 46 [.float .f64 (cOf x), .float .f64 (cOf y)] = some (M.ret (.float .f64 (cOf (fmax x y))))
  list : ∀ args, known 48 args = none
  check : ∀ args, known 47 args = none
  rows : ∀ args, known 73 args = none
  steps : ∀ args, known 49 args = none
  par : ∀ f args g, known f args = some g → Par g
  sil : ∀ f, (f = 50 ∨ f = 31 ∨ f = 46) → ∀ args, ∃ g, known f args = some g ∧ Nl g

def silF (f : FuncId) : Bool := f == 50 || f == 31 || f == 46
theorem KN.silent {known : Known} (K : KN known) (n : Nat) : SilOK silF (callN Try.prog known (n + 1)) := by
  intro f hf args m a m' h
  obtain ⟨g, h1, h2⟩ := K.sil f (by simpa [silF, or_assoc] using hf) args
  have e : callN Try.prog known (n + 1) f args = g := by
    conv => lhs; unfold callN
    simp only [h1]
  rw [e] at h
  exact h2 m a m' h
theorem KN.parC {known : Known} (K : KN known) (n : Nat) : ParC (callN Try.prog known n) := Par.callN (fun f args g h => K.par f args g h) n

def listF (xs : List F) (n : Nat) : Int := if xs.length = n then (if xs.all ffin then 0 else 5) else 140

variable {known : Known}
theorem gives_fin (K : KN known) (n : Nat) (x : F) (m : Mem) (Q : Value → Mem → Prop) : Gives (callN Try.prog known (n + 1) 50 [.float .f64 (cOf x)]) m Q ↔ Q (.bool (ffin x)) m := by
  rw [gives_known (K.fin x), gives_ret]

theorem all_take_f (xs : List F) (k : Nat) (h : k < xs.length) : (xs.take (k + 1)).all ffin = ((xs.take k).all ffin && ffin (fat xs k)) := by
  rw [List.take_succ_eq_append_getElem h, List.all_append]
  simp [fat, List.getD, h]
theorem all_not_f (xs : List F) (k : Nat) (h : k < xs.length) (hf : ffin (fat xs k) = false) : xs.all ffin = false := by
  rw [List.all_eq_false]
  refine ⟨fat xs k, ?_, by rw [hf]; simp⟩
  simp [fat, List.getD, h]

def listI (xs : List F) (a : Option Addr) (c : Nat) (m : Mem) (j : Nat) (fr : Fr) (m' : Mem) : Prop := ∃ i, i + j = xs.length ∧ fr.n = 23 ∧ fr.d = [] ∧ fr.at 0 = .slice a xs.length c ∧ fr.at 1 = .int .i64 xs.length ∧ fr.at 5 = .int .i64 (i : Nat) ∧ (xs.take i).all ffin = true ∧ Only m m'
set_option maxRecDepth 10000 in
theorem list_ok (K : KN known) (n : Nat) (xs : List F) (v : Value) (k : Nat) (m : Mem) (hv : FL m v xs) (hlen : xs.length ≤ 100000) {Q : Value → Mem → Prop} (hQ : ∀ m', Only m m' → Q (.int .i64 (listF xs k)) m') :
    Gives (callN Try.prog known (n + 2) 48 [v, .int .i64 k]) m Q := by
  obtain ⟨a, c, rfl, hx⟩ := hv
  refine gives_fn (nt := 23) (K.list _) Try.func48 rfl rfl rfl (Nat.le_of_ble_eq_true rfl) fun fr hn hd hargs => ?_
  have h0 : fr.at 0 = _ := hargs 0 _ rfl
  have h1 : fr.at 1 = _ := hargs 1 _ rfl
  clear hargs
  by_cases hk : xs.length = k
  · subst hk
    simp [h0, h1, hn]
    refine code_loop (listI xs a c m) xs.length (by omega) ⟨0, by simp, by simp [hn], by simp [hd], by simp [h0], by simp [h1], by simp, rfl, Only.refl m⟩ ?_
    rintro j fr' m' ⟨i, hij, hn', hd', g0, g1, g5, hall, ho⟩
    by_cases hi : i < xs.length
    · rcases hx with hx | ⟨b, o, x, rfl, hb, hc⟩
      · exact absurd hx.2.1 (by omega)
      have hm : m'.at b = some x := by rw [ho.2]; exact hb
      have hci := hc i hi
      have hw := wrap_succ i (by omega)
      cases hf : ffin (fat xs i) with
      | true =>
        simp [g0, g1, g5, hn', hi, idx24 _ _ _ _ _ _ hi, hm, hci, gives_fin K, hf, hw]
        refine ⟨j - 1, by omega, i + 1, by omega, by simp [hn'], by simp [hd'], by simp [g0], by simp [g1], by simp, ?_, ho.trans ⟨rfl, fun _ => rfl⟩⟩
        rw [all_take_f xs i hi, hall, hf]; rfl
      | false =>
        have hF : listF xs xs.length = 5 := by unfold listF; rw [if_pos rfl, all_not_f xs i hi hf]; rfl
        rw [hF] at hQ
        simp [g0, g1, g5, hn', hd', hi, idx24 _ _ _ _ _ _ hi, hm, hci, gives_fin K, hf, hw]
        exact hQ _ (ho.trans ⟨rfl, fun _ => rfl⟩)
    · have hF : listF xs xs.length = 0 := by
        have : i = xs.length := by omega
        subst this
        rw [List.take_length] at hall
        unfold listF; rw [if_pos rfl, hall]; rfl
      rw [hF] at hQ
      simp [g0, g1, g5, hn', hd', hi]
      exact hQ _ ho
  · have hk' : ¬ (xs.length : Int) = (k : Int) := by omega
    have hF : listF xs k = 140 := by unfold listF; rw [if_neg hk]
    rw [hF] at hQ
    simp [h0, h1, hn, hd, hk']
    exact hQ _ (Only.refl m)
end Go.Proofs.Ytghhanifakllpaa

/- The document's answer for chapter 14, in the clean executor: systems that may be; a copy of the rows. -/
namespace Go.Proofs.Ytghhanifakllpaa
open Go.Clean

variable {known : Known}
def rat' (rs : List (List F)) (i : Nat) : List F := rs.getD i []
/-- A slice of slices of floats. -/
def FM (m : Mem) (v : Value) (rs : List (List F)) : Prop :=
  ∃ a c, v = .slice a rs.length c ∧ ((a = none ∧ rs.length = 0 ∧ c = 0) ∨ ∃ b o x, a = some ⟨b, o, none⟩ ∧ m.at b = some x ∧ ∀ (i : Nat), i < rs.length → ∃ u, x.cells[o + i]? = some u ∧ FL m u (rat' rs i))
theorem FM.same {m m' : Mem} {v : Value} {rs : List (List F)} (h : FM m v rs) (e : ∀ b, m'.at b = m.at b) : FM m' v rs := by
  obtain ⟨a, c, h1, h2⟩ := h
  refine ⟨a, c, h1, ?_⟩
  rcases h2 with h2 | ⟨b, o, x, e1, e2, e3⟩
  · exact .inl h2
  · refine .inr ⟨b, o, x, e1, by rw [e]; exact e2, fun i hi => ?_⟩
    obtain ⟨u, h4, h5⟩ := e3 i hi
    exact ⟨u, h4, h5.same e⟩

theorem FM.old {m m' : Mem} {v : Value} {rs : List (List F)} (h : FM m v rs) (hw : WF m) (e : ∀ b, b < m.next → m'.at b = m.at b) : FM m' v rs := by
  obtain ⟨a, c, h1, h2⟩ := h
  refine ⟨a, c, h1, ?_⟩
  rcases h2 with h2 | ⟨b, o, x, e1, e2, e3⟩
  · exact .inl h2
  · refine .inr ⟨b, o, x, e1, by rw [e b (hw b x e2)]; exact e2, fun i hi => ?_⟩
    obtain ⟨u, h4, h5⟩ := e3 i hi
    exact ⟨u, h4, h5.old hw e⟩
theorem mem_rat {rs : List (List F)} {r : List F} (h : r ∈ rs) : ∃ i, i < rs.length ∧ rat' rs i = r := by
  obtain ⟨i, hi, rfl⟩ := List.getElem_of_mem h
  exact ⟨i, hi, by simp [rat', List.getD, hi]⟩
theorem rat_mem {rs : List (List F)} {i : Nat} (h : i < rs.length) : rat' rs i ∈ rs := by simp [rat', List.getD, h]
theorem chk4 {rs : List (List F)} (h : rs.length < 1 ∨ 128 < rs.length) : checkF rs = 4 := by unfold checkF; rw [if_pos (by omega)]
theorem chk140 {rs : List (List F)} (h : ¬ (rs.length < 1 ∨ 128 < rs.length)) {i : Nat} (hi : i < rs.length) (hl : (rat' rs i).length ≠ rs.length) : checkF rs = 140 := by
  unfold checkF
  rw [if_neg (by omega), if_neg]
  rw [List.all_eq_true]
  intro k
  have := k _ (rat_mem hi)
  simp at this
  exact hl this
theorem chkL {rs : List (List F)} (hl : ∀ k, k < rs.length → (rat' rs k).length = rs.length) : rs.all (fun r => r.length == rs.length) = true := by
  rw [List.all_eq_true]
  intro r hr
  obtain ⟨i, hi, rfl⟩ := mem_rat hr
  simp [hl i hi]
theorem chk5 {rs : List (List F)} (h : ¬ (rs.length < 1 ∨ 128 < rs.length)) (hl : ∀ k, k < rs.length → (rat' rs k).length = rs.length) {i : Nat} (hi : i < rs.length) (hf : (rat' rs i).all ffin = false) : checkF rs = 5 := by
  unfold checkF
  rw [if_neg (by omega), if_pos (chkL hl), if_neg]
  rw [List.all_eq_true]
  intro k
  have := k _ (rat_mem hi)
  rw [hf] at this; cases this
theorem chk0 {rs : List (List F)} (h : ¬ (rs.length < 1 ∨ 128 < rs.length)) (hl : ∀ k, k < rs.length → (rat' rs k).length = rs.length) (hf : ∀ k, k < rs.length → (rat' rs k).all ffin = true) : checkF rs = 0 := by
  unfold checkF
  rw [if_neg (by omega), if_pos (chkL hl), if_pos]
  rw [List.all_eq_true]
  intro r hr
  obtain ⟨i, hi, rfl⟩ := mem_rat hr
  exact hf i hi

def chkI1 (rs : List (List F)) (a : Option Addr) (c : Nat) (m : Mem) (j : Nat) (fr : Fr) (m' : Mem) : Prop := ∃ i, i + j = rs.length ∧ fr.n = 44 ∧ fr.d = [] ∧ fr.at 0 = .slice a rs.length c ∧ fr.at 3 = .int .i64 (i : Nat) ∧ (∀ k, k < i → (rat' rs k).length = rs.length) ∧ Only m m'
def chkI2 (rs : List (List F)) (a : Option Addr) (c : Nat) (m : Mem) (j : Nat) (fr : Fr) (m' : Mem) : Prop := ∃ i, i + j = rs.length ∧ fr.n = 44 ∧ fr.d = [] ∧ fr.at 0 = .slice a rs.length c ∧ fr.at 4 = .int .i64 (i : Nat) ∧ (∀ k, k < i → (rat' rs k).all ffin = true) ∧ Only m m'
set_option maxRecDepth 10000 in
theorem doc_check (K : KN known) (n : Nat) (rs : List (List F)) (v : Value) (m : Mem) (hv : FM m v rs) (hlen : ∀ r ∈ rs, r.length ≤ 100000) (hlen2 : rs.length ≤ 100000) {Q : Value → Mem → Prop} (hQ : ∀ m', Only m m' → Q (.int .i64 (checkF rs)) m') :
    Gives (callN Try.prog known (n + 3) 47 [v]) m Q := by
  obtain ⟨a, c, rfl, hx⟩ := hv
  refine gives_fn (nt := 44) (K.check _) Try.func47 rfl rfl rfl (Nat.le_of_ble_eq_true rfl) fun fr hn hd hargs => ?_
  have h0 : fr.at 0 = _ := hargs 0 _ rfl
  clear hargs
  by_cases hk : rs.length < 1
  · have e1 : (rs.length : Int) < 1 := by omega
    rw [chk4 (.inl hk)] at hQ
    simp [h0, hn, hd, e1, yieldX]
    exact hQ _ (Only.refl m)
  have e1 : ¬ (rs.length : Int) < 1 := by omega
  by_cases hk2 : 128 < rs.length
  · have e2 : 128 < (rs.length : Int) := by omega
    rw [chk4 (.inr hk2)] at hQ
    simp [h0, hn, hd, e1, e2, yieldX]
    exact hQ _ (Only.refl m)
  have e2 : ¬ 128 < (rs.length : Int) := by omega
  have hr := (show ¬ (rs.length < 1 ∨ 128 < rs.length) by omega)
  simp [h0, hn, hd, e1, e2, yieldX]
  refine code_loop (chkI1 rs a c m) rs.length (by omega) ⟨0, by simp, by simp [hn], by simp [hd], by simp [h0], by simp, fun k hk => absurd hk (by omega), Only.refl m⟩ ?_
  rintro j fr' m' ⟨i, hij, hn', hd', g0, g3, hall, ho⟩
  by_cases hi : i < rs.length
  · rcases hx with hx | ⟨b, o, x, rfl, hb, hc⟩
    · exact absurd hx.2.1 (by omega)
    obtain ⟨u, hu, hfl⟩ := hc i hi
    obtain ⟨a', c', rfl, _⟩ := hfl
    have hm : m'.at b = some x := by rw [ho.2]; exact hb
    have hw := wrap_succ i (by omega)
    by_cases hl : (rat' rs i).length = rs.length
    · have e3 : ((rat' rs i).length : Int) = (rs.length : Int) := by omega
      simp [g0, g3, hn', hi, idx23 _ _ _ _ _ _ hi, hm, hu, hw, e3]
      refine ⟨j - 1, by omega, i + 1, by omega, by simp [hn'], by simp [hd'], by simp [g0], by simp, fun k hk => ?_, ho.trans ⟨rfl, fun _ => rfl⟩⟩
      by_cases h : k = i
      · subst h; exact hl
      · exact hall k (by omega)
    · have e3 : ¬ ((rat' rs i).length : Int) = (rs.length : Int) := by omega
      rw [chk140 hr hi hl] at hQ
      simp [g0, g3, hn', hd', hi, idx23 _ _ _ _ _ _ hi, hm, hu, hw, e3]
      exact hQ _ (ho.trans ⟨rfl, fun _ => rfl⟩)
  · have hall' : ∀ k, k < rs.length → (rat' rs k).length = rs.length := fun k hk => hall k (by omega)
    simp [g0, g3, hn', hi]
    refine code_loop (chkI2 rs a c m) rs.length (by omega) ⟨0, by simp, by simp [hn'], by simp [hd'], by simp [g0], by simp, fun k hk => absurd hk (by omega), ho⟩ ?_
    clear g0 g3 hn' hd' hij hi hall ho
    clear i fr' m' j
    rintro j fr' m' ⟨i, hij, hn', hd', g0, g4, hall, ho⟩
    by_cases hi : i < rs.length
    · rcases hx with hx | ⟨b, o, x, rfl, hb, hc⟩
      · exact absurd hx.2.1 (by omega)
      obtain ⟨u, hu, hfl⟩ := hc i hi
      have hm : m'.at b = some x := by rw [ho.2]; exact hb
      have hw := wrap_succ i (by omega)
      have hl := hall' i hi
      simp [g0, g4, hn', hi, idx23 _ _ _ _ _ _ hi, hm, hu]
      refine list_ok K n _ u rs.length _ (hfl.same fun b => by simp [ho.2]) (hlen _ (rat_mem hi)) fun m2 ho2 => ?_
      cases hf : (rat' rs i).all ffin with
      | true =>
        have hF : listF (rat' rs i) rs.length = 0 := by unfold listF; rw [if_pos hl, hf]; rfl
        simp [hF, hn', g4, hw]
        refine ⟨j - 1, by omega, i + 1, by omega, by simp [hn'], by simp [hd'], by simp [g0], by simp, fun k hk => ?_, ho.trans (.trans ⟨rfl, fun _ => rfl⟩ ho2)⟩
        by_cases h : k = i
        · subst h; exact hf
        · exact hall k (by omega)
      | false =>
        have hF : listF (rat' rs i) rs.length = 5 := by unfold listF; rw [if_pos hl, hf]; rfl
        rw [chk5 hr hall' hi hf] at hQ
        simp [hF, hn', hd']
        exact hQ _ (ho.trans (.trans ⟨rfl, fun _ => rfl⟩ ho2))
    · rw [chk0 hr hall' fun k hk => hall k (by omega)] at hQ
      simp [g0, g4, hn', hd', hi]
      exact hQ _ ho
end Go.Proofs.Ytghhanifakllpaa

/- The document's answer for chapter 14, in the clean executor: the rows' copy. -/
namespace Go.Proofs.Ytghhanifakllpaa
open Go.Clean

variable {known : Known}
def hdr (n : Nat) (ρ : Nat → Nat) (i : Nat) : Value := .slice (some ⟨ρ i, 0, none⟩) n n
structure RowsAt (m m' : Mem) (rs : List (List F)) (n i : Nat) (ρ : Nat → Nat) : Prop where
  next : m.next ≤ m'.next
  old : ∀ c, c < m.next → m'.at c = m.at c
  row : ∀ k, k < i → m.next ≤ ρ k ∧ ρ k < m'.next ∧ m'.at (ρ k) = some ⟨(rat' rs k).map fv, 1, true, false⟩
  inj : ∀ k j, k < j → j < i → ρ k < ρ j
  wf : WF m'
def rowsI (rs : List (List F)) (v : Value) (m : Mem) (j : Nat) (fr : Fr) (m' : Mem) : Prop := ∃ i ρ, i + j = rs.length ∧ fr.n = 23 ∧ fr.d = [] ∧ fr.at 0 = v ∧ fr.at 4 = .int .i64 (i : Nat) ∧ RowsAt m m' rs rs.length i ρ ∧
  ((i = 0 ∧ fr.at 3 = .slice none 0 0) ∨ ∃ b, fr.at 3 = .slice (some ⟨b, 0, none⟩) i i ∧ m.next ≤ b ∧ b < m'.next ∧ m'.at b = some ⟨(List.range i).map (hdr rs.length ρ), 1, true, false⟩ ∧ (∀ k, k < i → ρ k < b) ∧ 0 < i)
theorem hdr_one (n : Nat) (ρ : Nat → Nat) (i : Nat) : ((List.range i).map (hdr n ρ)).all oneV = true := by
  rw [List.all_eq_true]
  intro v hv
  obtain ⟨x, _, rfl⟩ := List.mem_map.1 hv
  rfl
theorem range_snoc (n : Nat) (ρ ρ' : Nat → Nat) (i : Nat) (h : ∀ k, k ≤ i → ρ' k = if k = i then ρ' i else ρ k) : (List.range (i + 1)).map (hdr n ρ') = (List.range i).map (hdr n ρ) ++ [.slice (some ⟨ρ' i, 0, none⟩) n n] := by
  rw [List.range_succ, List.map_append]
  refine congr (congrArg _ (List.map_congr_left fun k hk => ?_)) rfl
  have hki : k < i := List.mem_range.1 hk
  unfold hdr
  rw [h k (by omega), if_neg (by omega)]
set_option maxRecDepth 10000 in
theorem doc_rows (hk : ∀ args, known 73 args = none) (n : Nat) (rs : List (List F)) (v : Value) (m : Mem) (hw0 : WF m) (hv : FM m v rs) (hlen : ∀ i, i < rs.length → (rat' rs i).length = rs.length) (hpos : 0 < rs.length) (hlen2 : rs.length ≤ 100000) {Q : Value → Mem → Prop}
    (hQ : ∀ m' ρ b, RowsAt m m' rs rs.length rs.length ρ → m.next ≤ b → b < m'.next → m'.at b = some ⟨(List.range rs.length).map (hdr rs.length ρ), 1, true, false⟩ → (∀ k, k < rs.length → ρ k < b) → Q (.slice (some ⟨b, 0, none⟩) rs.length rs.length) m') :
    Gives (callN Try.prog known (n + 1) 73 [v]) m Q := by
  refine gives_fn (nt := 23) (hk _) Try.func73 rfl rfl rfl (Nat.le_of_ble_eq_true rfl) fun fr hn hd hargs => ?_
  have h0 : fr.at 0 = _ := hargs 0 _ rfl
  clear hargs
  simp [h0, hn]
  refine code_loop (rowsI rs v m) rs.length (by omega) ⟨0, fun _ => 0, by simp, by simp [hn], by simp [hd], by simp [h0], by simp, ⟨Nat.le_refl _, fun _ _ => rfl, fun k hk => absurd hk (by omega), fun k j h h2 => absurd h2 (by omega), hw0⟩, .inl ⟨rfl, by simp⟩⟩ ?_
  rintro j fr' m' ⟨i, ρ, hij, hn', hd', g0, g4, hR, g3⟩
  have hv' := hv.old hw0 hR.old
  obtain ⟨a, c, rfl, hx⟩ := hv'
  by_cases hi : i < rs.length
  · rcases hx with hx | ⟨b, o, x, rfl, hm, hc⟩
    · exact absurd hx.2.1 (by omega)
    obtain ⟨u, hu, hfl⟩ := hc i hi
    have hw := wrap_succ i (by omega)
    simp [g0, g4, hn', hi, idx23 _ _ _ _ _ _ hi, hm, hu]
    refine gives_copyF (m := m'.rd b) (xs := rat' rs i) (hfl.same fun _ => by simp) (by rw [hlen i hi]; omega) ?_ ?_
    · intro hz; rw [hlen i hi] at hz; omega
    intro _ m1 n1 a1 o1
    rw [hlen i hi]
    simp only [Mem.next_rd, Mem.at_rd] at n1 a1 o1
    simp [hn']
    refine gives_build1 bs23 rfl rfl ?_
    simp [hn']
    obtain ⟨bh, hbh⟩ : ∃ bh, ((List.range i).map (hdr rs.length ρ) = [] ∧ fr'.at 3 = .slice none 0 0 ∧ bh = m'.next + 1) ∨ ((List.range i).map (hdr rs.length ρ) ≠ [] ∧ fr'.at 3 = .slice (some ⟨bh, 0, none⟩) i i ∧ m.next ≤ bh ∧ bh < m'.next ∧ m'.at bh = some ⟨(List.range i).map (hdr rs.length ρ), 1, true, false⟩ ∧ ∀ k, k < i → ρ k < bh) := by
      rcases g3 with ⟨h1, h2⟩ | ⟨bh, h1, h2, h3, h4, h5, h6⟩
      · exact ⟨_, .inl ⟨by rw [h1]; rfl, h2, rfl⟩⟩
      · exact ⟨bh, .inr ⟨by simp; omega, h1, h2, h3, h4, h5⟩⟩
    have hρ : ∀ k, k < i → ρ k ≠ bh := fun k hk => by
      have := hR.row k hk
      rcases hbh with ⟨_, _, h⟩ | ⟨_, _, _, _, _, h⟩
      · omega
      · have := h k hk; omega
    have hb1 : m.next ≤ bh := by
      rcases hbh with ⟨_, _, h⟩ | ⟨_, _, h, _⟩
      · have := hR.next; omega
      · exact h
    have hnx := hR.next
    refine gives_push (b := bh) app23 (l := (List.range i).map (hdr rs.length ρ)) (x := .slice (some ⟨m'.next, 0, none⟩) rs.length rs.length) ?_ ?_ (hdr_one _ _ _) rfl (by simp only [List.length_map, List.length_range]; omega) fun m2 n2 a2 o2 => ?_
    · simp
    · rcases hbh with ⟨h1, h2, _⟩ | ⟨h1, h2, _, h3, h4, _⟩
      · exact .inl ⟨h1, h2⟩
      · refine .inr ⟨h1, by simp [h2], ?_, by simp [n1]; omega⟩
        simp only [Mem.at_nw]
        rw [if_neg (by omega), o1 _ (by omega)]
        exact h4
    simp only [Mem.next_nw, Mem.at_nw, List.length_map, List.length_range, n1] at n2 a2 o2
    simp [hn', g4, hw]
    have key : ∀ k, k ≤ i → (fun k => if k = i then m'.next else ρ k) k = if k = i then m'.next else ρ k := fun _ _ => rfl
    have old2 : ∀ c, c ≠ bh → c < m'.next → m2.at c = m'.at c := fun c h1 h2 => by rw [o2 c h1 (by omega), if_neg (by omega), o1 c (by omega)]
    refine ⟨j - 1, by omega, i + 1, fun k => if k = i then m'.next else ρ k, by omega, by simp [hn'], by simp [hd'], by simp [g0], by simp, ⟨by omega, fun c hc => ?_, fun k hk => ?_, fun k l hkl hl => ?_, ?_⟩, .inr ⟨m'.next + 2, by simp, by omega, by omega, ?_, fun k hk => ?_, by omega⟩⟩
    · rw [old2 c (by omega) (by omega), hR.old c hc]
    · by_cases h : k = i
      · subst h
        simp only [if_true]
        refine ⟨by omega, by omega, ?_⟩
        have hne : m'.next ≠ bh := by
          rcases hbh with ⟨_, _, h⟩ | ⟨_, _, _, h, _⟩ <;> omega
        rw [o2 _ hne (by omega), if_neg (by omega), a1]
      · simp only [h, if_false]
        obtain ⟨q1, q2, q3⟩ := hR.row k (by omega)
        refine ⟨q1, by omega, ?_⟩
        rw [old2 _ (hρ k (by omega)) q2, q3]
    · by_cases h : l = i
      · subst h
        have := hR.row k (by omega)
        simp only [if_true, if_neg (show ¬ k = l by omega)]
        omega
      · simp only [if_neg h, if_neg (show ¬ k = i by omega)]
        exact hR.inj k l hkl (by omega)
    · intro c y hc
      by_cases h1 : c < m'.next + 3
      · omega
      · by_cases h2 : c = bh
        · rcases hbh with ⟨_, _, h⟩ | ⟨_, _, _, h, _⟩ <;> omega
        · rw [o2 c h2 (by omega), if_neg (by omega), o1 c (by omega)] at hc
          have := hR.wf c y hc
          omega
    · rw [range_snoc rs.length ρ _ i (by intro k hk; by_cases h : k = i <;> simp [h])]
      simpa using a2
    · by_cases h : k = i
      · simp only [h, if_true]; omega
      · simp only [h, if_false]
        have := (hR.row k (by omega)).2.1
        omega
  · simp [g0, g4, hn', hd', hi]
    have hi' : i = rs.length := by omega
    subst hi'
    rcases g3 with ⟨h1, h2⟩ | ⟨b, h1, h2, h3, h4, h5, h6⟩
    · omega
    · rw [h1]
      exact hQ m' ρ b hR h2 h3 h4 h5
end Go.Proofs.Ytghhanifakllpaa

/- The document's system in the clean memory: a record of five lists, rows apart. No program. -/
namespace Go.Proofs.Ytghhanifakllpaa
open Go.Clean

def nilV : Value := .slice none 0 0
def lst (b n : Nat) : Value := .slice (some ⟨b, 0, none⟩) n n
def rec5 (v : Nat → Value) (ok : Bool) : Blk := ⟨[v 1, v 2, v 3, v 4, v 5, .bool ok], 1, false, false⟩
structure Lay (m : Mem) (kd : Nat → Nat) (base s5 : Nat) (v : Nat → Value) (l : Nat → List Value) (ok : Bool) (n : Nat) (ρ : Nat → Nat) (rw : Nat → List Value) : Prop where
  wf : WF m
  cell : m.at s5 = some (rec5 v ok)
  own : kd s5 = 0 ∧ base ≤ s5
  gl : ∀ k, 1 ≤ k → k ≤ 5 → (l k).all oneV = true ∧ ((l k = [] ∧ v k = nilV) ∨ (l k ≠ [] ∧ ∃ b, v k = lst b (l k).length ∧ kd b = k ∧ base ≤ b ∧ m.at b = some ⟨l k, 1, true, false⟩))
  row : ∀ i, i < n → 6 ≤ kd (ρ i) ∧ base ≤ ρ i ∧ m.at (ρ i) = some ⟨rw i, 1, true, false⟩
  inj : ∀ i j, i < n → j < n → ρ i = ρ j → i = j

section
variable {m m' : Mem} {kd : Nat → Nat} {base s5 : Nat} {v : Nat → Value} {l : Nat → List Value} {ok : Bool} {n : Nat} {ρ : Nat → Nat} {rw : Nat → List Value}
theorem Lay.same (h : Lay m kd base s5 v l ok n ρ rw) (hn : m.next ≤ m'.next) (e : ∀ c, m'.at c = m.at c) : Lay m' kd base s5 v l ok n ρ rw :=
  ⟨fun b x hb => Nat.lt_of_lt_of_le (h.wf b x (by rw [← e]; exact hb)) hn, by rw [e]; exact h.cell, h.own, fun k h1 h5 => by
    obtain ⟨h0, hg⟩ := h.gl k h1 h5
    refine ⟨h0, ?_⟩
    rcases hg with hg | ⟨hg1, b, hg2, hg3, hg4, hg5⟩
    · exact .inl hg
    · exact .inr ⟨hg1, b, hg2, hg3, hg4, by rw [e]; exact hg5⟩, fun i hi => by
    obtain ⟨h1, h2, h3⟩ := h.row i hi
    exact ⟨h1, h2, by rw [e]; exact h3⟩, h.inj⟩

/-- One list's block, of a list that is not empty. -/
theorem Lay.blk (h : Lay m kd base s5 v l ok n ρ rw) {k : Nat} (h1 : 1 ≤ k) (h5 : k ≤ 5) (hne : 0 < (l k).length) : ∃ b, v k = lst b (l k).length ∧ kd b = k ∧ base ≤ b ∧ m.at b = some ⟨l k, 1, true, false⟩ := by
  obtain ⟨_, hg⟩ := h.gl k h1 h5
  rcases hg with ⟨hg, _⟩ | ⟨_, hg⟩
  · rw [hg] at hne; simp at hne
  · exact hg

/-- An element of a list is turned. -/
theorem Lay.setL (h : Lay m kd base s5 v l ok n ρ rw) {k : Nat} (h1 : 1 ≤ k) (h5 : k ≤ 5) {b : Nat} (hv : v k = lst b (l k).length) (hne : 0 < (l k).length) {x : Value} (hx : oneV x = true) (j : Nat) (hn : m'.next = m.next) (e : ∀ c, m'.at c = if c = b then some ⟨(l k).set j x, 1, true, false⟩ else m.at c) :
    Lay m' kd base s5 v (fun q => if q = k then (l k).set j x else l q) ok n ρ rw := by
  obtain ⟨b', hv', hb1, hb2, hb3⟩ := h.blk h1 h5 hne
  obtain rfl : b = b' := by rw [hv] at hv'; unfold lst at hv'; simpa using hv'
  have hlt := h.wf b _ hb3
  have ne : ∀ c, kd c ≠ k → m'.at c = m.at c := fun c hc => by rw [e, if_neg (fun hh => hc (by rw [hh]; exact hb1))]
  refine ⟨fun c y hc => ?_, by rw [ne s5 (by have := h.own.1; omega)]; exact h.cell, h.own, fun q q1 q5 => ?_, fun i hi => ?_, h.inj⟩
  · rw [hn]
    rw [e] at hc
    split at hc
    · subst_vars; exact hlt
    · exact h.wf c y hc
  · by_cases hq : q = k
    · subst hq
      simp only [if_true]
      refine ⟨?_, .inr ⟨?_, b, by rw [List.length_set]; exact hv, hb1, hb2, by rw [e, if_pos rfl]⟩⟩
      · rw [List.all_eq_true]
        intro y hy
        rcases List.mem_or_eq_of_mem_set hy with hy | hy
        · exact List.all_eq_true.1 (h.gl q h1 h5).1 y hy
        · rw [hy]; exact hx
      · intro h0
        have := congrArg List.length h0
        rw [List.length_set] at this
        simp at this
        rw [this] at hne; simp at hne
    · simp only [if_neg hq]
      obtain ⟨h0, hg⟩ := h.gl q q1 q5
      refine ⟨h0, ?_⟩
      rcases hg with hg | ⟨hg1, b2, hg2, hg3, hg4, hg5⟩
      · exact .inl hg
      · exact .inr ⟨hg1, b2, hg2, hg3, hg4, by rw [ne b2 (by omega)]; exact hg5⟩
  · obtain ⟨r1, r2, r3⟩ := h.row i hi
    exact ⟨r1, r2, by rw [ne _ (by omega)]; exact r3⟩

/-- An element of a row is turned. -/
theorem Lay.setRow (h : Lay m kd base s5 v l ok n ρ rw) {i : Nat} (hi : i < n) (x : Value) (j : Nat) (hn : m'.next = m.next) (e : ∀ c, m'.at c = if c = ρ i then some ⟨(rw i).set j x, 1, true, false⟩ else m.at c) :
    Lay m' kd base s5 v l ok n ρ (fun q => if q = i then (rw i).set j x else rw q) := by
  obtain ⟨r1, r2, r3⟩ := h.row i hi
  have hlt := h.wf _ _ r3
  have ne : ∀ c, kd c < 6 → m'.at c = m.at c := fun c hc => by rw [e, if_neg (fun hh => by rw [hh] at hc; omega)]
  refine ⟨fun c y hc => ?_, by rw [ne s5 (by have := h.own.1; omega)]; exact h.cell, h.own, fun q q1 q5 => ?_, fun q hq => ?_, h.inj⟩
  · rw [hn]
    rw [e] at hc
    split at hc
    · subst_vars; exact hlt
    · exact h.wf c y hc
  · obtain ⟨h0, hg⟩ := h.gl q q1 q5
    refine ⟨h0, ?_⟩
    rcases hg with hg | ⟨hg1, b2, hg2, hg3, hg4, hg5⟩
    · exact .inl hg
    · exact .inr ⟨hg1, b2, hg2, hg3, hg4, by rw [ne b2 (by omega)]; exact hg5⟩
  · obtain ⟨s1, s2, s3⟩ := h.row q hq
    refine ⟨s1, s2, ?_⟩
    by_cases hqi : q = i
    · subst hqi; simp only [if_true]; rw [e, if_pos rfl]
    · simp only [if_neg hqi]
      rw [e, if_neg (fun hh => hqi (h.inj q i hq hi hh))]
      exact s3

/-- The record's mark is turned. -/
theorem Lay.setOk (h : Lay m kd base s5 v l ok n ρ rw) (ok' : Bool) (hn : m'.next = m.next) (e : ∀ c, m'.at c = if c = s5 then some (rec5 v ok') else m.at c) : Lay m' kd base s5 v l ok' n ρ rw := by
  have hlt := h.wf _ _ h.cell
  have ne : ∀ c, kd c ≠ 0 → m'.at c = m.at c := fun c hc => by rw [e, if_neg (fun hh => hc (by rw [hh]; exact h.own.1))]
  refine ⟨fun c y hc => ?_, by rw [e, if_pos rfl], h.own, fun q q1 q5 => ?_, fun q hq => ?_, h.inj⟩
  · rw [hn]
    rw [e] at hc
    split at hc
    · subst_vars; exact hlt
    · exact h.wf c y hc
  · obtain ⟨h0, hg⟩ := h.gl q q1 q5
    refine ⟨h0, ?_⟩
    rcases hg with hg | ⟨hg1, b2, hg2, hg3, hg4, hg5⟩
    · exact .inl hg
    · exact .inr ⟨hg1, b2, hg2, hg3, hg4, by rw [ne b2 (by omega)]; exact hg5⟩
  · obtain ⟨s1, s2, s3⟩ := h.row q hq
    exact ⟨s1, s2, by rw [ne _ (by omega)]; exact s3⟩

/-- The rows in another order. -/
theorem Lay.swap (h : Lay m kd base s5 v l ok n ρ rw) {c p : Nat} (hc : c < n) (hp : p < n) : Lay m kd base s5 v l ok n (fun i => ρ (sw c p i)) (fun i => rw (sw c p i)) :=
  ⟨h.wf, h.cell, h.own, h.gl, fun i hi => h.row _ (sw_lt hc hp hi), fun i j hi hj e => sw_inj (h.inj _ _ (sw_lt hc hp hi) (sw_lt hc hp hj) e)⟩

/-- One more element behind a list: what append comes to, and the record behind the store. -/
theorem Lay.append (h : Lay m kd base s5 v l ok n ρ rw) (hb0 : base ≤ m.next) {k : Nat} (h1 : 1 ≤ k) (h5 : k ≤ 5) {P : Program} {t : TypeId} (happ : appOK P t t 1 = true) {m1 : Mem} {x : Value} (hx : oneV x = true) (hl : (l k).length < 100000)
    (e0 : m1.next = m.next + 1) (e1 : m1.at m.next = some ⟨[x], 1, false, false⟩) (e2 : ∀ c, c ≠ m.next → m1.at c = m.at c) {Q : Value → Mem → Prop}
    (q : ∀ m2, m2.next = m.next + 2 → m2.at s5 = some (rec5 v ok) → (∀ c, c < base → m2.at c = m.at c) →
      (∀ m' w, m'.next = m2.next → w = (fun j => if j = k then lst (m.next + 1) ((l k).length + 1) else v j) → (∀ c, m'.at c = if c = s5 then some (rec5 w ok) else m2.at c) → Lay m' (fun c => if c = m.next + 1 then k else kd c) base s5 w (fun j => if j = k then l k ++ [x] else l j) ok n ρ rw) →
      Q (lst (m.next + 1) ((l k).length + 1)) m2) : Gives (appendX P t t (v k) (.slice (some ⟨m.next, 0, none⟩) 1 1)) m1 Q := by
  have hs5 := h.wf _ _ h.cell
  obtain ⟨h0, hg⟩ := h.gl k h1 h5
  obtain ⟨b, hb⟩ : ∃ b, ((l k = [] ∧ v k = nilV ∧ b = m.next + 1)) ∨ (l k ≠ [] ∧ v k = lst b (l k).length ∧ kd b = k ∧ base ≤ b ∧ m.at b = some ⟨l k, 1, true, false⟩ ∧ b < m.next) := by
    rcases hg with ⟨g1, g2⟩ | ⟨g1, b, g2, g3, g4, g5⟩
    · exact ⟨_, .inl ⟨g1, g2, rfl⟩⟩
    · exact ⟨b, .inr ⟨g1, g2, g3, g4, g5, h.wf _ _ g5⟩⟩
  refine gives_push (b := b) happ e1 (l := l k) ?_ h0 hx (by omega) fun m2 n2 a2 o2 => ?_
  · rcases hb with ⟨g1, g2, _⟩ | ⟨g1, g2, g3, g4, g5, g6⟩
    · exact .inl ⟨g1, g2⟩
    · exact .inr ⟨g1, g2, by rw [e2 b (by omega)]; exact g5, by omega⟩
  rw [e0] at n2 a2 o2 ⊢
  have nb : ∀ c, c < m.next → kd c ≠ k → c ≠ b := fun c hc hk hh => by
    subst hh
    rcases hb with ⟨_, _, g⟩ | ⟨_, _, g, _⟩
    · omega
    · exact hk g
  have old : ∀ c, c < m.next → kd c ≠ k → m2.at c = m.at c := fun c hc hk => by rw [o2 c (nb c hc hk) (by omega), e2 c (by omega)]
  refine q m2 n2 (by rw [old s5 hs5 (by have := h.own.1; omega)]; exact h.cell) (fun c hc => ?_) fun m' w hn' hw he => ?_
  · have hcb : c ≠ b := by
      rcases hb with ⟨_, _, g⟩ | ⟨_, _, _, g, _⟩ <;> omega
    rw [o2 c hcb (by omega), e2 c (by omega)]
  · have old' : ∀ c, c < m.next → kd c ≠ k → c ≠ s5 → m'.at c = m.at c := fun c h1 h2 h3 => by rw [he, if_neg h3, old c h1 h2]
    have knew : ∀ c, c < m.next → (if c = m.next + 1 then k else kd c) = kd c := fun c hc => by rw [if_neg (by omega)]
    refine ⟨fun c y hc => ?_, by rw [he, if_pos rfl], ⟨by rw [knew _ hs5]; exact h.own.1, h.own.2⟩, fun q q1 q5 => ?_, fun i hi => ?_, h.inj⟩
    · rw [hn', n2]
      rw [he] at hc
      split at hc
      · omega
      · by_cases hcb : c = b
        · rcases hb with ⟨_, _, g⟩ | ⟨_, _, _, _, _, g⟩
          · omega
          · omega
        · by_cases hcn : c = m.next + 1
          · omega
          · rw [o2 c hcb hcn] at hc
            by_cases hcm : c = m.next
            · omega
            · rw [e2 c hcm] at hc
              have := h.wf c y hc
              omega
    · by_cases hq : q = k
      · subst hq
        simp only [if_true]
        refine ⟨by rw [List.all_append, h0]; simp [hx], .inr ⟨by simp, m.next + 1, by rw [hw]; simp, by simp, by omega, by rw [he, if_neg (by omega), a2]⟩⟩
      · simp only [if_neg hq]
        obtain ⟨g0, hg'⟩ := h.gl q q1 q5
        refine ⟨g0, ?_⟩
        rcases hg' with ⟨g1, g2⟩ | ⟨hg1, b2, hg2, hg3, hg4, hg5⟩
        · exact .inl ⟨g1, by rw [hw]; simp only [if_neg hq]; exact g2⟩
        · have hb2 := h.wf _ _ hg5
          have hb2s : b2 ≠ s5 := fun hh => by have := h.own.1; rw [hh] at hg3; omega
          exact .inr ⟨hg1, b2, by rw [hw]; simp only [if_neg hq]; exact hg2, by rw [knew _ hb2]; exact hg3, hg4, by rw [old' b2 hb2 (by omega) hb2s]; exact hg5⟩
    · obtain ⟨s1, s2, s3⟩ := h.row i hi
      have hlt := h.wf _ _ s3
      have hs : ρ i ≠ s5 := fun hh => by have := h.own.1; rw [hh] at s1; omega
      exact ⟨by rw [knew _ hlt]; exact s1, s2, by rw [old' _ hlt (by omega) hs]; exact s3⟩
end
end Go.Proofs.Ytghhanifakllpaa

/- The document's steps, in the clean executor: the start, and the lists beside the rows. -/
namespace Go.Proofs.Ytghhanifakllpaa
open Go.Clean

variable {known : Known}
@[simp] theorem fa88_0 (s : Nat) : fieldAddrX Try.prog 88 (.pointer (some ⟨s, 0, none⟩)) 0 = some (.pointer (some ⟨s, 0, none⟩)) := by kernel_rfl
@[simp] theorem fa88_1 (s : Nat) : fieldAddrX Try.prog 88 (.pointer (some ⟨s, 0, none⟩)) 1 = some (.pointer (some ⟨s, 1, none⟩)) := by kernel_rfl
@[simp] theorem fa88_2 (s : Nat) : fieldAddrX Try.prog 88 (.pointer (some ⟨s, 0, none⟩)) 2 = some (.pointer (some ⟨s, 2, none⟩)) := by kernel_rfl
@[simp] theorem fa88_3 (s : Nat) : fieldAddrX Try.prog 88 (.pointer (some ⟨s, 0, none⟩)) 3 = some (.pointer (some ⟨s, 3, none⟩)) := by kernel_rfl
@[simp] theorem fa88_4 (s : Nat) : fieldAddrX Try.prog 88 (.pointer (some ⟨s, 0, none⟩)) 4 = some (.pointer (some ⟨s, 4, none⟩)) := by kernel_rfl
@[simp] theorem fa88_5 (s : Nat) : fieldAddrX Try.prog 88 (.pointer (some ⟨s, 0, none⟩)) 5 = some (.pointer (some ⟨s, 5, none⟩)) := by kernel_rfl
@[simp] theorem agg88 : Clean.isAgg Try.prog 88 = some true := by kernel_rfl
@[simp] theorem size88 : sizeT Try.prog 88 = some 6 := by kernel_rfl
@[simp] theorem elem88 : elemT Try.prog 88 = 1 := by kernel_rfl
@[simp] theorem zero88 : zeroT Try.prog 88 = some (.agg ⟨[nilV, nilV, nilV, nilV, nilV, .bool false]⟩) := by kernel_rfl
theorem build88 (b n : Nat) : buildX Try.prog 88 [(0, lst b n), (5, .bool true)] = some (.agg ⟨[lst b n, nilV, nilV, nilV, nilV, .bool true]⟩) := by kernel_rfl
theorem ld88 (cs : List Value) (o : Nat) : ldX Try.prog 88 cs o = (takeN cs o 6).map fun l => .agg ⟨l⟩ := ld_agg agg88 size88 cs o
@[simp] theorem sto88 (v : Value) : storeOK Try.prog 88 v = (6 == (cellsV v).length && (cellsV v).all oneV) := by unfold storeOK; rw [size88]; rfl
@[simp] theorem cells_agg (l : List Value) : cellsV (.agg ⟨l⟩) = l := rfl

def L1I (m : Mem) (vin bin : Value) (rs : List (List F)) (M : Mx) (r4 base : Nat) (j : Nat) (fr : Fr) (m' : Mem) : Prop :=
  ∃ i kd s5 v l ρ rw, i + j = rs.length ∧ fr.n = 244 ∧ fr.d = [] ∧ fr.at 0 = vin ∧ fr.at 1 = bin ∧ fr.at 4 = .pointer (some ⟨r4, 0, none⟩) ∧ fr.at 5 = .pointer (some ⟨s5, 0, none⟩) ∧ fr.at 6 = .int .i64 rs.length ∧ fr.at 7 = .int .i64 (i : Nat) ∧
  base ≤ m'.next ∧ (∀ c, c < m.next → m'.at c = m.at c) ∧ (∃ y, m'.at r4 = some ⟨y, 1, false, false⟩ ∧ y.length = 6) ∧ Lay m' kd base s5 v l true rs.length ρ rw ∧ l 1 = (List.range rs.length).map (hdr rs.length ρ) ∧ (∀ i, i < rs.length → rw i = (rat' rs i).map fv) ∧
  l 2 = (List.range i).map (fun i => fv (M i rs.length)) ∧ l 3 = (List.range i).map (fun (i : Nat) => .int .i64 i) ∧ l 4 = [] ∧ l 5 = []

theorem lay6 (a b c d e f u v w x y z : Value) : lay [a, b, c, d, e, f] 0 [u, v, w, x, y, z] = some [u, v, w, x, y, z] := rfl
theorem hdr_len (n : Nat) (ρ : Nat → Nat) : ((List.range n).map (hdr n ρ)).length = n := by simp
theorem start_lay {m m1 m' : Mem} {rs : List (List F)} {ρ : Nat → Nat} {b : Nat} (hR : RowsAt m m1 rs rs.length rs.length ρ) (hb1 : m.next ≤ b) (hb2 : b < m1.next) (hb3 : m1.at b = some ⟨(List.range rs.length).map (hdr rs.length ρ), 1, true, false⟩) (hb4 : ∀ k, k < rs.length → ρ k < b) (hpos : 0 < rs.length)
    (hn : m'.next = m1.next + 1) (e : ∀ c, m'.at c = if c = m1.next then some (rec5 (fun k => if k = 1 then lst b rs.length else nilV) true) else m1.at c) :
    Lay m' (fun c => if c = m1.next then 0 else if c = b then 1 else 6) m.next m1.next (fun k => if k = 1 then lst b rs.length else nilV) (fun k => if k = 1 then (List.range rs.length).map (hdr rs.length ρ) else []) true rs.length ρ (fun i => (rat' rs i).map fv) := by
  have hnx := hR.next
  refine ⟨fun c y hc => ?_, by rw [e, if_pos rfl], ⟨by simp, hnx⟩, fun k h1 h5 => ?_, fun i hi => ?_, fun i j hi hj hij => ?_⟩
  · rw [hn]
    rw [e] at hc
    split at hc
    · omega
    · have := hR.wf c y hc; omega
  · by_cases hk : k = 1
    · subst hk
      simp only [if_true]
      refine ⟨hdr_one _ _ _, .inr ⟨?_, b, by rw [hdr_len], ?_, hb1, ?_⟩⟩
      · intro h0
        have := congrArg List.length h0
        rw [hdr_len, List.length_nil] at this
        omega
      · rw [if_neg (by omega), if_pos rfl]
      · rw [e, if_neg (by omega)]; exact hb3
    · exact ⟨by simp [hk], .inl ⟨by simp [hk], by simp [hk]⟩⟩
  · obtain ⟨r1, r2, r3⟩ := hR.row i hi
    have h4 := hb4 i hi
    refine ⟨?_, r1, ?_⟩
    · rw [if_neg (by omega), if_neg (by omega)]; exact Nat.le_refl 6
    · rw [e, if_neg (by omega)]; exact r3
  · rcases Nat.lt_trichotomy i j with h | h | h
    · have := hR.inj i j h hj; omega
    · exact h
    · have := hR.inj j i h hi; omega

end Go.Proofs.Ytghhanifakllpaa

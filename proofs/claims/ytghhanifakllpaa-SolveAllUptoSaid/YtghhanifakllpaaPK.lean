/- The law's own functions, in the clean executor: Same, SameFloats, ints, kept, few, own. -/
import Derived.Test.YtghhanifakllpaaPJ
namespace Go.Proofs.Ytghhanifakllpaa
open Go.Clean

def bitsX : List Value → M Value
  | [.float .f64 a] => do
    M.guard (!Clean.isNaN a)
    M.ret (.int .u64 a)
  | _ => .fail
structure KQ (known : Known) : Prop where
  kp : KP known
  alive : known 7 [] = some (M.ret (.bool true))
  bits : ∀ b, known 52 [.float .f64 b] = some (bitsX [.float .f64 b])

variable {known : Known}
def nanF (x : F) : Bool := fcmp x x != some .eq
@[simp] theorem bin_fneq {P : Program} {t : TypeId} {xo yo : Operand} (x y : F) : binX P .neq t xo yo (.float .f64 (cOf x)) (.float .f64 (cOf y)) = some (.bool (fcmp x y != some .eq)) := bin_fcmp x y .neq rfl
theorem nanF_no {x : F} (h : nanF x = false) : Clean.isNaN (cOf x) = false := by
  cases hn : Clean.isNaN (cOf x) with
  | false => rfl
  | true =>
    have h1 : clr x = none := fl_no (show isNo (cOf x) = true from hn)
    have h2 := fcmp_clr x x
    rw [h1] at h2
    unfold nanF at h
    rw [← h2] at h
    cases h
theorem gives_bits (K : KQ known) (n : Nat) {x : F} (hx : nanF x = false) (m : Mem) (Q : Value → Mem → Prop) : Gives (callN Try.prog known (n + 1) 52 [.float .f64 (cOf x)]) m Q ↔ Q (.int .u64 (cOf x)) m := by
  rw [gives_known (K.bits _)]
  unfold bitsX
  rw [gives_bind, gives_guard, gives_ret]
  simp [nanF_no hx]
set_option maxRecDepth 10000 in
theorem none_ok (K : KQ known) (n : Nat) (x : F) (m : Mem) {Q : Value → Mem → Prop} (hQ : Q (.bool (nanF x)) m) : Gives (callN Try.prog known (n + 1) 51 [.float .f64 (cOf x)]) m Q := by
  refine gives_fn (nt := 6) (K.kp.non _ rfl _) Try.func51 rfl rfl rfl (Nat.le_of_ble_eq_true rfl) fun fr hn hd hargs => ?_
  have h0 : fr.at 0 = _ := hargs 0 _ rfl
  clear hargs
  simp [h0, hn, hd]
  exact hQ
set_option maxRecDepth 10000 in
theorem same_ok (K : KQ known) (n : Nat) (x : F) (m : Mem) {Q : Value → Mem → Prop} (hQ : Q (.bool true) m) : Gives (callN Try.prog known (n + 2) 23 [.float .f64 (cOf x), .float .f64 (cOf x)]) m Q := by
  refine gives_fn (nt := 22) (K.kp.non _ rfl _) Try.func23 rfl rfl rfl (Nat.le_of_ble_eq_true rfl) fun fr hn hd hargs => ?_
  have h0 : fr.at 0 = _ := hargs 0 _ rfl
  have h1 : fr.at 1 = _ := hargs 1 _ rfl
  clear hargs
  simp [h0, h1, hn]
  refine none_ok K n x m ?_
  cases hx : nanF x with
  | true =>
    simp [h0, h1, hn, yieldX]
    refine none_ok K n x m ?_
    rw [hx]
    simp [h0, h1, hn, yieldX]
    refine none_ok K n x m ?_
    rw [hx]
    simp [hn, hd]
    exact hQ
  | false =>
    simp [h0, h1, hn, yieldX]
    refine none_ok K n x m ?_
    rw [hx]
    simp [h0, h1, hn, hd, gives_bits K n hx]
    exact hQ
end Go.Proofs.Ytghhanifakllpaa

/- The law's own functions, in the clean executor: lists alike; few; own. -/
namespace Go.Proofs.Ytghhanifakllpaa
open Go.Clean

variable {known : Known}
def sfI (m : Mem) (va vb : Value) (N : Nat) (q : Nat) (fr : Fr) (m' : Mem) : Prop := ∃ i, i + q = N ∧ fr.n = 29 ∧ fr.d = [] ∧ fr.at 0 = va ∧ fr.at 1 = vb ∧ fr.at 5 = .int .i64 (i : Nat) ∧ Only m m'
set_option maxRecDepth 10000 in
theorem sameFloats_ok (K : KQ known) (n : Nat) (xs : List F) (va vb : Value) (m : Mem) (ha : FL m va xs) (hb : FL m vb xs) (hl : xs.length ≤ 100000) {Q : Value → Mem → Prop} (hQ : ∀ m', Only m m' → Q (.bool true) m') :
    Gives (callN Try.prog known (n + 3) 21 [va, vb]) m Q := by
  refine gives_fn (nt := 29) (K.kp.non _ rfl _) Try.func21 rfl rfl rfl (Nat.le_of_ble_eq_true rfl) fun fr hn hd hargs => ?_
  have h0 : fr.at 0 = _ := hargs 0 _ rfl
  have h1 : fr.at 1 = _ := hargs 1 _ rfl
  clear hargs
  obtain ⟨aa, ac, hva, hax⟩ := id ha
  obtain ⟨ba, bc, hvb, hbx⟩ := id hb
  simp [h0, h1, hn, hva, hvb]
  refine code_loop (sfI m va vb xs.length) xs.length (by omega) ⟨0, by simp, by simp [hn], by simp [hd], by simp [h0, hva], by simp [h1, hvb], by simp, .refl _⟩ ?_
  rintro q fr1 m1 ⟨i, hiq, f1, f2, g0, g1, g5, ho⟩
  by_cases hi : i < xs.length
  · obtain ⟨ab, ao, ax, ac, rfl, h3, h4⟩ := ha.get (by omega)
    obtain ⟨bb, bo, bx, bc, rfl, h5, h6⟩ := hb.get (by omega)
    have h3' : m1.at ab = some ax := by rw [ho.2]; exact h3
    have h5' : m1.at bb = some bx := by rw [ho.2]; exact h5
    have hwi := wrap_succ i (by omega)
    simp [f1, g0, g5, hi]
    refine code_draw (sil := silF) (K.kp.kn.silent _) (K.kp.kn.parC _) (by kernel_rfl) ?_
    simp [f1, g0, g1, g5, idx24 _ _ _ _ _ _ hi, h3', h5', h4 i hi, h6 i hi]
    refine same_ok K n (fat xs i) _ ?_
    simp [f1, g5, hwi]
    exact ⟨q - 1, by omega, i + 1, by omega, by simp [f1], by simp [f2], by simp [g0], by simp [g1], by simp, ho.trans ⟨rfl, fun _ => rfl⟩⟩
  · simp [f1, f2, g0, g5, hi, hva]
    exact hQ _ ho
def intI (m : Mem) (va vb : Value) (N : Nat) (q : Nat) (fr : Fr) (m' : Mem) : Prop := ∃ i, i + q = N ∧ fr.n = 26 ∧ fr.d = [] ∧ fr.at 0 = va ∧ fr.at 1 = vb ∧ fr.at 5 = .int .i64 (i : Nat) ∧ Only m m'
theorem IL.get {m : Mem} {v : Value} {xs : List Nat} (h : IL m v xs) (hpos : 0 < xs.length) : ∃ b o x c, v = .slice (some ⟨b, o, none⟩) xs.length c ∧ m.at b = some x ∧ ∀ i, i < xs.length → x.cells[o + i]? = some (.int .i64 (xs.getD i 0 : Nat)) := by
  obtain ⟨a, c, rfl, h2⟩ := h
  rcases h2 with h2 | ⟨b, o, x, rfl, e2, e3⟩
  · omega
  · exact ⟨b, o, x, c, rfl, e2, e3⟩
set_option maxRecDepth 10000 in
theorem ints_ok (K : KQ known) (n : Nat) (xs : List Nat) (va vb : Value) (m : Mem) (ha : IL m va xs) (hb : IL m vb xs) (hl : xs.length ≤ 100000) {Q : Value → Mem → Prop} (hQ : ∀ m', Only m m' → Q (.bool true) m') :
    Gives (callN Try.prog known (n + 2) 22 [va, vb]) m Q := by
  refine gives_fn (nt := 26) (K.kp.non _ rfl _) Try.func22 rfl rfl rfl (Nat.le_of_ble_eq_true rfl) fun fr hn hd hargs => ?_
  have h0 : fr.at 0 = _ := hargs 0 _ rfl
  have h1 : fr.at 1 = _ := hargs 1 _ rfl
  clear hargs
  obtain ⟨aa, ac, hva, hax⟩ := id ha
  obtain ⟨ba, bc, hvb, hbx⟩ := id hb
  simp [h0, h1, hn, hva, hvb]
  refine code_loop (intI m va vb xs.length) xs.length (by omega) ⟨0, by simp, by simp [hn], by simp [hd], by simp [h0, hva], by simp [h1, hvb], by simp, .refl _⟩ ?_
  rintro q fr1 m1 ⟨i, hiq, f1, f2, g0, g1, g5, ho⟩
  by_cases hi : i < xs.length
  · obtain ⟨ab, ao, ax, ac, rfl, h3, h4⟩ := ha.get (by omega)
    obtain ⟨bb, bo, bx, bc, rfl, h5, h6⟩ := hb.get (by omega)
    have h3' : m1.at ab = some ax := by rw [ho.2]; exact h3
    have h5' : m1.at bb = some bx := by rw [ho.2]; exact h5
    have hwi := wrap_succ i (by omega)
    simp [f1, g0, g5, hi]
    refine code_draw (sil := silF) (K.kp.kn.silent _) (K.kp.kn.parC _) (by kernel_rfl) ?_
    simp [f1, g0, g1, g5, idx29 _ _ _ _ _ _ hi, h3', h5', h4 i hi, h6 i hi, hwi]
    exact ⟨q - 1, by omega, i + 1, by omega, by simp [f1], by simp [f2], by simp [g0], by simp [g1], by simp, ho.trans ⟨rfl, fun _ => rfl⟩⟩
  · simp [f1, f2, g0, g5, hi, hva]
    exact hQ _ ho
def keptI (m : Mem) (va vb : Value) (N : Nat) (q : Nat) (fr : Fr) (m' : Mem) : Prop := ∃ i, i + q = N ∧ fr.n = 29 ∧ fr.d = [] ∧ fr.at 0 = va ∧ fr.at 1 = vb ∧ fr.at 5 = .int .i64 (i : Nat) ∧ Only m m'
set_option maxRecDepth 10000 in
theorem kept_ok (K : KQ known) (n : Nat) (rs : List (List F)) (va vb : Value) (m : Mem) (ha : FM m va rs) (hb : FM m vb rs) (hl : rs.length ≤ 100000) (hl2 : ∀ r ∈ rs, r.length ≤ 100000) {Q : Value → Mem → Prop} (hQ : ∀ m', Only m m' → Q (.bool true) m') :
    Gives (callN Try.prog known (n + 4) 24 [va, vb]) m Q := by
  refine gives_fn (nt := 29) (K.kp.non _ rfl _) Try.func24 rfl rfl rfl (Nat.le_of_ble_eq_true rfl) fun fr hn hd hargs => ?_
  have h0 : fr.at 0 = _ := hargs 0 _ rfl
  have h1 : fr.at 1 = _ := hargs 1 _ rfl
  clear hargs
  obtain ⟨aa, ac, hva, hax⟩ := id ha
  obtain ⟨ba, bc, hvb, hbx⟩ := id hb
  simp [h0, h1, hn, hva, hvb]
  refine code_loop (keptI m va vb rs.length) rs.length (by omega) ⟨0, by simp, by simp [hn], by simp [hd], by simp [h0, hva], by simp [h1, hvb], by simp, .refl _⟩ ?_
  rintro q fr1 m1 ⟨i, hiq, f1, f2, g0, g1, g5, ho⟩
  by_cases hi : i < rs.length
  · obtain ⟨ab, ao, ax, ac, rfl, h3, h4⟩ := ha.get (by omega)
    obtain ⟨bb, bo, bx, bc, rfl, h5, h6⟩ := hb.get (by omega)
    have h3' : m1.at ab = some ax := by rw [ho.2]; exact h3
    have h5' : m1.at bb = some bx := by rw [ho.2]; exact h5
    obtain ⟨u, hu, hfu⟩ := h4 i hi
    obtain ⟨w, hw, hfw⟩ := h6 i hi
    have hwi := wrap_succ i (by omega)
    simp [f1, g1, g5, hi]
    refine code_draw (sil := silF) (K.kp.kn.silent _) (K.kp.kn.parC _) (by kernel_rfl) ?_
    simp [f1, g0, g1, g5, idx23 _ _ _ _ _ _ hi, h3', h5', hu, hw]
    refine sameFloats_ok K n (rat' rs i) _ _ _ (hfu.same fun c => by simp [ho.2]) (hfw.same fun c => by simp [ho.2]) (hl2 _ (rat_mem hi)) fun m2 ho2 => ?_
    simp [f1, g5, hwi]
    exact ⟨q - 1, by omega, i + 1, by omega, by simp [f1], by simp [f2], by simp [g0], by simp [g1], by simp, ho.trans (Only.trans ⟨rfl, fun _ => rfl⟩ ho2)⟩
  · simp [f1, f2, g0, g1, g5, hi, hva, hvb]
    exact hQ _ ho

/-! ### few, own -/
def fewTo (rs : List (List F)) : Nat → Nat
  | 0 => 0
  | k + 1 => fewTo rs k + (1 + (rat' rs k).length)
theorem fewTo_mono (rs : List (List F)) (i : Nat) : ∀ d, fewTo rs i + d ≤ fewTo rs (i + d)
  | 0 => Nat.le_refl _
  | d + 1 => by
    have := fewTo_mono rs i d
    show _ ≤ fewTo rs (i + d) + _
    omega
theorem fewTo_row (rs : List (List F)) {i k : Nat} (h : i < k) : 1 + (rat' rs i).length ≤ fewTo rs k := by
  have h1 := fewTo_mono rs (i + 1) (k - (i + 1))
  rw [show i + 1 + (k - (i + 1)) = k by omega] at h1
  have : fewTo rs (i + 1) = fewTo rs i + (1 + (rat' rs i).length) := rfl
  omega
def fewI (m : Mem) (va : Value) (rs : List (List F)) (q : Nat) (fr : Fr) (m' : Mem) : Prop := ∃ i, i + q = rs.length ∧ fr.n = 21 ∧ fr.d = [] ∧ fr.at 0 = va ∧ fr.at 3 = .int .i64 (fewTo rs i : Nat) ∧ fr.at 4 = .int .i64 (i : Nat) ∧ Only m m'
set_option maxRecDepth 10000 in
theorem few_ok (K : KQ known) (n : Nat) (rs : List (List F)) (va : Value) (m : Mem) (ha : FM m va rs) (hl : fewTo rs rs.length ≤ 3000000) {Q : Value → Mem → Prop} (hQ : ∀ m', Only m m' → Q (.bool (decide (fewTo rs rs.length ≤ 20000))) m') :
    Gives (callN Try.prog known (n + 1) 14 [va]) m Q := by
  refine gives_fn (nt := 21) (K.kp.non _ rfl _) Try.func14 rfl rfl rfl (Nat.le_of_ble_eq_true rfl) fun fr hn hd hargs => ?_
  have h0 : fr.at 0 = _ := hargs 0 _ rfl
  clear hargs
  obtain ⟨aa, ac, hva, hax⟩ := id ha
  have hle : rs.length ≤ 3000000 := by
    have := fewTo_mono rs 0 rs.length
    rw [Nat.zero_add] at this
    have h00 : fewTo rs 0 = 0 := rfl
    omega
  simp [h0, hn, hva]
  refine code_loop (fewI m va rs) rs.length (by omega) ⟨0, by simp, by simp [hn], by simp [hd], by simp [h0, hva], by simp [fewTo], by simp, .refl _⟩ ?_
  rintro q fr1 m1 ⟨i, hiq, f1, f2, g0, g3, g4, ho⟩
  by_cases hi : i < rs.length
  · obtain ⟨ab, ao, ax, ac, rfl, h3, h4⟩ := ha.get (by omega)
    have h3' : m1.at ab = some ax := by rw [ho.2]; exact h3
    obtain ⟨u, hu, hfu⟩ := h4 i hi
    obtain ⟨ua, uc, rfl, _⟩ := hfu
    have hwi := wrap_succ i (by omega)
    have hrow := fewTo_row rs hi
    have hmono := fewTo_mono rs (i + 1) (rs.length - (i + 1))
    rw [show i + 1 + (rs.length - (i + 1)) = rs.length by omega] at hmono
    have hs : fewTo rs (i + 1) = fewTo rs i + (1 + (rat' rs i).length) := rfl
    have hw1 := wrap_add 1 (rat' rs i).length (by omega)
    have hw2 := wrap_add (fewTo rs i) (1 + (rat' rs i).length) (by omega)
    have hw1' : IntKind.i64.wrap (1 + ((rat' rs i).length : Int)) = ((1 + (rat' rs i).length : Nat) : Int) := hw1
    simp only [Int.natCast_add, Int.natCast_one] at hw1' hw2
    simp [f1, g0, g3, g4, hi, idx23 _ _ _ _ _ _ hi, h3', hu, hwi, hw1', hw2]
    exact ⟨q - 1, by omega, i + 1, by omega, by simp [f1], by simp [f2], by simp [g0], by simp [hs], by simp, ho.trans ⟨rfl, fun _ => rfl⟩⟩
  · have hi' : i = rs.length := by omega
    subst hi'
    simp [f1, f2, g0, g3, g4, hva]
    have e : decide (((fewTo rs rs.length : Nat) : Int) ≤ 20000) = decide (fewTo rs rs.length ≤ 20000) := by
      by_cases h : fewTo rs rs.length ≤ 20000
      · rw [decide_eq_true h, decide_eq_true (by omega)]
      · rw [decide_eq_false h, decide_eq_false (by omega)]
    rw [e]
    exact hQ _ ho
/-- A list of one's own that may grow. -/
def OwnG (m : Mem) (b0 : Nat) (v : Value) (xs : List F) : Prop := (xs = [] ∧ v = nilV) ∨ ∃ b, 0 < xs.length ∧ v = lst b xs.length ∧ b0 ≤ b ∧ m.at b = some ⟨xs.map fv, 1, true, false⟩
theorem OwnG.fl {m : Mem} {b0 : Nat} {v : Value} {xs : List F} (h : OwnG m b0 v xs) : FL m v xs := by
  rcases h with ⟨rfl, rfl⟩ | ⟨b, h0, rfl, h1, h2⟩
  · exact FL.nil _
  · exact ⟨_, _, rfl, .inr ⟨b, 0, _, rfl, h2, fun i hi => by rw [Nat.zero_add]; exact fat_map _ hi⟩⟩
set_option maxRecDepth 10000 in
theorem own_ok (K : KQ known) (n : Nat) (xs : List F) (va : Value) (m : Mem) (ha : FL m va xs) (hl : xs.length ≤ 100000) {Q : Value → Mem → Prop} (hQ : ∀ m' v, Up m m' → OwnG m' m.next v xs → Q v m') :
    Gives (callN Try.prog known (n + 1) 16 [va]) m Q := by
  refine gives_fn (nt := 7) (K.kp.non _ rfl _) Try.func16 rfl rfl rfl (Nat.le_of_ble_eq_true rfl) fun fr hn hd hargs => ?_
  have h0 : fr.at 0 = _ := hargs 0 _ rfl
  clear hargs
  simp [h0, hn]
  refine gives_copyF ha (by omega) (fun hz m1 n1 e1 => ?_) fun hpos m1 n1 e1 o1 => ?_
  · simp [hn, hd]
    exact hQ m1 _ (Up.only ⟨n1, e1⟩) (.inl ⟨List.eq_nil_of_length_eq_zero hz, rfl⟩)
  · simp [hn, hd]
    refine hQ m1 _ ⟨by omega, fun c hc => o1 c (by omega), fun w c y hc => ?_⟩ (.inr ⟨m.next, hpos, rfl, Nat.le_refl _, e1⟩)
    rw [n1]
    by_cases h : c = m.next
    · omega
    · rw [o1 c h] at hc
      have := w c y hc; omega
end Go.Proofs.Ytghhanifakllpaa

/- The law's own functions, in the clean executor: lent. -/
namespace Go.Proofs.Ytghhanifakllpaa
open Go.Clean

variable {known : Known}
theorem gives_append_zero {P : Program} {t : TypeId} (h : appOK P t t 1 = true) {b n : Nat} {m : Mem} {old : List Value} (ha : m.at b = some ⟨old, 1, true, false⟩) (hn : n ≤ 1048576) {a : Option Addr} {c : Nat} (hx : a = none ∨ ∃ b2 o x, a = some ⟨b2, o, none⟩ ∧ m.at b2 = some x) {Q : Value → Mem → Prop}
    (q : ∀ m', Only m m' → Q (.slice (some ⟨b, 0, none⟩) n n) m') : Gives (appendX P t t (.slice (some ⟨b, 0, none⟩) n n) (.slice a 0 c)) m Q := by
  obtain ⟨_, e, e', i, z, h1, h2, h3, h4, h5, h6⟩ := app_spec h
  unfold appendX
  simp only [h1, h3, h4, h6]
  rw [gives_bind, gives_guard]
  refine ⟨rfl, ?_⟩
  rw [gives_bind]
  have hc : Nat.ble (n + 0) n = true := by rw [Nat.ble_eq]; exact Nat.le_refl n
  rcases hx with rfl | ⟨b2, o, x, rfl, hb2⟩
  · have e : elemsX (.slice none 0 c) i.size = M.ret (some []) := rfl
    rw [e, gives_ret]
    dsimp only
    rw [gives_bind, gives_getB, ha, optQ_some, gives_bind, gives_guard]
    refine ⟨by simp [sliceLen, h5, hn], ?_⟩
    simp only [sliceLen, hc, cond_true, beq_self_eq_true]
    rw [gives_ret]
    exact q _ ⟨rfl, fun _ => rfl⟩
  · unfold elemsX
    rw [gives_bind, gives_getB, hb2, optQ_some, gives_ret]
    have e : takeN x.cells o (0 * i.size) = some [] := by rw [Nat.zero_mul]; cases x.cells <;> cases o <;> rfl
    rw [e]
    dsimp only
    rw [gives_bind, gives_getB, Mem.at_rd, ha, optQ_some, gives_bind, gives_guard]
    refine ⟨by simp [sliceLen, h5, hn], ?_⟩
    simp only [sliceLen, hc, cond_true, beq_self_eq_true]
    rw [gives_ret]
    exact q _ ⟨rfl, fun _ => rfl⟩
theorem gives_append_loose2 {P : Program} {t : TypeId} (h : appOK P t t 1 = true) {b n : Nat} {m : Mem} {old : List Value} (ha : m.at b = some ⟨old, 1, true, false⟩) (hn : n ≤ 1048576) {b2 o s c : Nat} {Q : Value → Mem → Prop}
    (q : ∀ m', Only m m' → Q (.slice (some ⟨b, 0, none⟩) n n) m') : Gives (appendX P t t (.slice (some ⟨b, 0, none⟩) n n) (.slice (some ⟨b2, o, some s⟩) 0 c)) m Q := by
  obtain ⟨_, e, e', i, z, h1, h2, h3, h4, h5, h6⟩ := app_spec h
  unfold appendX
  simp only [h1, h3, h4, h6]
  rw [gives_bind, gives_guard]
  refine ⟨rfl, ?_⟩
  rw [gives_bind]
  have hc : Nat.ble (n + 0) n = true := by rw [Nat.ble_eq]; exact Nat.le_refl n
  have e : elemsX (.slice (some ⟨b2, o, some s⟩) 0 c) i.size = M.ret (some []) := rfl
  rw [e, gives_ret]
  dsimp only
  rw [gives_bind, gives_getB, ha, optQ_some, gives_bind, gives_guard]
  refine ⟨by simp [sliceLen, h5, hn], ?_⟩
  simp only [sliceLen, hc, cond_true, beq_self_eq_true]
  rw [gives_ret]
  exact q _ ⟨rfl, fun _ => rfl⟩
theorem gives_appF {m : Mem} {b0 : Nat} {v w : Value} {xs ys : List F} (h : OwnG m b0 v xs) (hb : b0 ≤ m.next) (hw : WF m) (hy : FL m w ys) (hk : xs.length + ys.length < 1048576) {Q : Value → Mem → Prop}
    (q : ∀ m' v', m.next ≤ m'.next → WF m' → (∀ c, c < b0 → m'.at c = m.at c) → OwnG m' b0 v' (xs ++ ys) → Q v' m') : Gives (appC Try.prog 24 24 v w) m Q := by
  rcases h with ⟨rfl, rfl⟩ | ⟨b, hpos, rfl, hb2, hat⟩
  · refine gives_copyF hy (by simpa using hk) (fun hz m1 n1 e1 => ?_) fun hpos m1 n1 e1 o1 => ?_
    · refine q m1 _ (by omega) (fun c y hc => ?_) (fun c _ => e1 c) (.inl ⟨by simpa using hz, rfl⟩)
      rw [e1] at hc; rw [n1]; exact hw c y hc
    · refine q m1 _ (by omega) (fun c y hc => ?_) (fun c hc => o1 c (by omega)) (.inr ⟨m.next, by simpa using hpos, rfl, hb, by simpa using e1⟩)
      rw [n1]
      by_cases h : c = m.next
      · omega
      · rw [o1 c h] at hc
        have := hw c y hc; omega
  · obtain ⟨a, c, rfl, hax⟩ := hy
    unfold lst
    rw [appC_slice]
    by_cases hz : ys.length = 0
    · rw [hz]
      obtain rfl := List.eq_nil_of_length_eq_zero hz
      have fin : ∀ m1, Only m m1 → Q (.slice (some ⟨b, 0, none⟩) xs.length xs.length) m1 := fun m1 ho => by
        refine q m1 _ (by rw [ho.1]; exact Nat.le_refl _) (ho.wf hw) (fun c _ => ho.2 c) (.inr ⟨b, by simpa using hpos, by simp [lst], hb2, by rw [ho.2]; simpa using hat⟩)
      rcases hax with ⟨h, _⟩ | ⟨b2, o, x, h1, h2, _⟩
      · cases a with
        | none => exact gives_append_zero app24 hat (by omega) (.inl rfl) fin
        | some w =>
          obtain ⟨b2, o, s⟩ := w
          cases s with
          | none => exact absurd rfl (h _ rfl)
          | some s => exact gives_append_loose2 app24 hat (by omega) fin
      · exact gives_append_zero app24 hat (by omega) (.inr ⟨b2, o, x, h1, h2⟩) fin
    · rcases hax with hax | ⟨b2, o, x, rfl, h2, h3⟩
      · omega
      have hbn := hw _ _ hat
      refine gives_append_grow app24 hat (by simp) h2 (new := ys.map fv) (by rw [Nat.mul_one]; exact FL.take (m := m) (b := b2) h3) (fv_one xs) (fv_one ys) (by omega) (by omega) (q _ _ ?_ ?_ ?_ (.inr ⟨m.next, by simp; omega, by simp [lst], hb, ?_⟩))
      · simp
      · intro c y hc
        simp at hc ⊢
        by_cases h1 : c = m.next
        · omega
        · rw [if_neg h1] at hc
          by_cases h4 : c = b
          · rw [if_pos h4] at hc; cases hc
          · rw [if_neg h4] at hc
            have := hw c y hc; omega
      · intro c hc
        simp
        rw [if_neg (by omega), if_neg (by omega)]
      · simp
theorem gives_part {m : Mem} {b0 : Nat} {v : Value} {xs : List F} (h : OwnG m b0 v xs) {lo hi : Nat} (h1 : lo ≤ hi) (h2 : hi ≤ xs.length) {Q : Value → Mem → Prop}
    (q : ∀ m' v', Up m m' → FL m' v' ((xs.drop lo).take (hi - lo)) → (∀ a n c, v' = .slice (some a) n c → (∃ n2 c2 a2, v = .slice (some a2) n2 c2 ∧ a.block = a2.block) ∨ m'.at a.block = some ⟨[], 1, true, true⟩) → Q v' m') :
    Gives (sliceX Try.prog 24 v (some (.int .i64 (lo : Nat))) (some (.int .i64 (hi : Nat))) none) m Q := by
  have e2 : ∀ N, hi ≤ N → boundX (some (.int .i64 (hi : Nat))) N N = some hi := fun N hN => by
    unfold boundX
    have : decide (0 ≤ (hi : Int) ∧ (hi : Int) ≤ (N : Int)) = true := by simp; omega
    simp only [this, cond_true, Int.toNat_natCast]
  have e1 : boundX (some (.int .i64 (lo : Nat))) 0 hi = some lo := by
    unfold boundX
    have : decide (0 ≤ (lo : Int) ∧ (lo : Int) ≤ (hi : Int)) = true := by simp; omega
    simp only [this, cond_true, Int.toNat_natCast]
  rcases h with ⟨rfl, rfl⟩ | ⟨b, hpos, rfl, hb2, hat⟩
  · have hhi : hi = 0 := by simpa using h2
    have hlo : lo = 0 := by omega
    subst hhi; subst hlo
    unfold nilV sliceX
    simp only [under24, size25]
    have e3 : boundX (some (.int .i64 ((0 : Nat) : Int))) 0 0 = some 0 := rfl
    simp only [e3]
    rw [gives_ret]
    exact q m _ (Up.refl _) (FL.nil _) (fun a n c h => by cases h)
  · unfold lst sliceX
    simp only [under24, size25]
    rw [gives_bind, gives_getB, hat, optQ_some, gives_bind, gives_guard]
    refine ⟨rfl, ?_⟩
    simp only [e2 _ h2, e1]
    have hlen : ((xs.drop lo).take (hi - lo)).length = hi - lo := by simp; omega
    by_cases hc : xs.length = lo
    · have hl0 : (lo == 0) = false := by simp; omega
      have hcb : (xs.length == lo) = true := by simpa using hc
      simp only [hcb, hl0, Bool.not_true, Bool.false_or, cond_false]
      rw [gives_bind, gives_newB, gives_ret]
      refine q _ _ ((Up.rd _ _).trans (Up.nw _ _)) ⟨some ⟨m.next, 0, none⟩, 0, by rw [hlen, show hi - lo = 0 by omega]; rfl, .inr ⟨m.next, 0, ⟨[], 1, true, true⟩, rfl, by simp, fun i hi => by rw [hlen] at hi; omega⟩⟩ (fun a n c h => .inr (by cases h; simp))
    · have hcb : (xs.length == lo) = false := by simpa using hc
      simp only [hcb, Bool.not_false, Bool.true_or, cond_true, cond_false, Nat.zero_add, Nat.mul_one]
      rw [gives_ret]
      refine q _ _ (Up.rd _ _) ⟨some ⟨b, lo, none⟩, xs.length - lo, by rw [hlen], .inr ⟨b, lo, _, rfl, by simpa using hat, fun i hi => ?_⟩⟩ (fun a n c h => .inl ⟨_, _, _, rfl, by cases h; rfl⟩)
      rw [hlen] at hi
      show (xs.map fv)[lo + i]? = _
      rw [fat_map xs (by omega)]
      simp [fat, List.getD, List.getElem?_take, hi]

def catTo (rs : List (List F)) : Nat → List F
  | 0 => []
  | k + 1 => catTo rs k ++ rat' rs k
theorem catTo_more (rs : List (List F)) (i : Nat) : ∀ d, ∃ r, catTo rs (i + d) = catTo rs i ++ r
  | 0 => ⟨[], by simp⟩
  | d + 1 => by
    obtain ⟨r, hr⟩ := catTo_more rs i d
    exact ⟨r ++ rat' rs (i + d), by show catTo rs (i + d) ++ rat' rs (i + d) = _; rw [hr, List.append_assoc]⟩
theorem catTo_len (rs : List (List F)) : ∀ k, (catTo rs k).length ≤ fewTo rs k
  | 0 => Nat.le_refl _
  | k + 1 => by
    have := catTo_len rs k
    show (catTo rs k ++ rat' rs k).length ≤ fewTo rs k + (1 + (rat' rs k).length)
    rw [List.length_append]; omega
theorem catTo_part (rs : List (List F)) {i N : Nat} (h : i < N) : (catTo rs i).length + (rat' rs i).length ≤ (catTo rs N).length ∧ ((catTo rs N).drop (catTo rs i).length).take (rat' rs i).length = rat' rs i := by
  obtain ⟨r, hr⟩ := catTo_more rs (i + 1) (N - (i + 1))
  rw [show i + 1 + (N - (i + 1)) = N by omega] at hr
  have e : catTo rs (i + 1) = catTo rs i ++ rat' rs i := rfl
  rw [hr, e]
  refine ⟨by simp <;> omega, ?_⟩
  rw [List.append_assoc, List.drop_left, List.take_left]
/-- A row that a list of rows may hold, while the list itself grows. -/
def RowP (m : Mem) (base : Nat) (u : Value) (ys : List F) : Prop := FL m u ys ∧ ∀ a n c, u = .slice (some a) n c → a.block < base ∨ m.at a.block = some ⟨[], 1, true, true⟩
theorem RowP.one {m : Mem} {base : Nat} {u : Value} {ys : List F} (h : RowP m base u ys) : oneV u = true := by
  obtain ⟨⟨a, c, rfl, _⟩, _⟩ := h
  rfl
theorem RowP.keep {m m' : Mem} {base : Nat} {u : Value} {ys : List F} (h : RowP m base u ys) (e : ∀ c, (c < base ∨ m.at c = some ⟨[], 1, true, true⟩) → m'.at c = m.at c) : RowP m' base u ys := by
  obtain ⟨⟨a, c, rfl, hx⟩, h2⟩ := h
  refine ⟨⟨a, c, rfl, ?_⟩, fun a' n' c' h' => ?_⟩
  · rcases hx with hx | ⟨b, o, x, rfl, hb, hc⟩
    · exact .inl hx
    · exact .inr ⟨b, o, x, rfl, by rw [e b (h2 _ _ _ rfl)]; exact hb, hc⟩
  · have := h2 _ _ _ h'
    rcases this with h3 | h3
    · exact .inl h3
    · exact .inr (by rw [e _ (.inr h3)]; exact h3)
def lentI (m : Mem) (va : Value) (rs : List (List F)) (q : Nat) (fr : Fr) (m' : Mem) : Prop := ∃ i, i + q = rs.length ∧ fr.n = 49 ∧ fr.d = [] ∧ fr.at 0 = va ∧ fr.at 5 = .int .i64 (i : Nat) ∧ OwnG m' m.next (fr.at 4) (catTo rs i) ∧ m.next ≤ m'.next ∧ WF m' ∧ (∀ c, c < m.next → m'.at c = m.at c)
def lentJ (m m1 : Mem) (va vall : Value) (rs : List (List F)) (q : Nat) (fr : Fr) (m' : Mem) : Prop := ∃ i l b, i + q = rs.length ∧ fr.n = 49 ∧ fr.d = [] ∧ fr.at 0 = va ∧ fr.at 4 = vall ∧ fr.at 7 = .int .i64 ((catTo rs i).length : Nat) ∧ fr.at 8 = .int .i64 (i : Nat) ∧
  l.length = i ∧ ((l = [] ∧ fr.at 6 = nilV) ∨ (l ≠ [] ∧ fr.at 6 = lst b l.length ∧ m1.next ≤ b ∧ b < m'.next ∧ m'.at b = some ⟨l, 1, true, false⟩)) ∧ (∀ k, k < i → ∃ u, l[k]? = some u ∧ RowP m' m1.next u (rat' rs k)) ∧ Up m1 m'
set_option maxHeartbeats 1000000 in
set_option maxRecDepth 10000 in
theorem lent_ok (K : KQ known) (n : Nat) (rs : List (List F)) (va : Value) (m : Mem) (hw0 : WF m) (ha : FM m va rs) (hl : fewTo rs rs.length ≤ 20000) {Q : Value → Mem → Prop} (hQ : ∀ m' v w, Up m m' → FM m' v rs → Q (.tuple ⟨[v, w]⟩) m') :
    Gives (callN Try.prog known (n + 1) 15 [va]) m Q := by
  refine gives_fn (nt := 49) (K.kp.non _ rfl _) Try.func15 rfl rfl rfl (Nat.le_of_ble_eq_true rfl) fun fr hn hd hargs => ?_
  have h0 : fr.at 0 = _ := hargs 0 _ rfl
  clear hargs
  have hle : rs.length ≤ 20000 := by
    have := fewTo_mono rs 0 rs.length
    rw [Nat.zero_add] at this
    have h00 : fewTo rs 0 = 0 := rfl
    omega
  have hcat : ∀ i, i ≤ rs.length → (catTo rs i).length ≤ 20000 := fun i hi => by
    have := catTo_len rs i
    have h2 := fewTo_mono rs i (rs.length - i)
    rw [show i + (rs.length - i) = rs.length by omega] at h2
    omega
  obtain ⟨aa, ac, hva, hax⟩ := id ha
  simp [h0, hn]
  refine code_loop (lentI m va rs) rs.length (by omega) ⟨0, by simp, by simp [hn], by simp [hd], by simp [h0], by simp, .inl ⟨rfl, by simp [nilV]⟩, Nat.le_refl _, hw0, fun _ _ => rfl⟩ ?_
  rintro q fr1 m1 ⟨i, hiq, f1, f2, g0, g5, hown, hn1, hw1, hold1⟩
  by_cases hi : i < rs.length
  · obtain ⟨ab, ao, ax, ac', hva', h3, h4⟩ := ha.get (by omega)
    have h3' : m1.at ab = some ax := by rw [hold1 _ (hw0 _ _ h3)]; exact h3
    obtain ⟨u, hu, hfu⟩ := h4 i hi
    have hwi := wrap_succ i (by omega)
    have hfu1 := hfu.old hw0 hold1
    simp [f1, g0, g5, hva', hi, idx23 _ _ _ _ _ _ hi, h3', hu]
    have hci := hcat (i + 1) (by omega)
    have e : catTo rs (i + 1) = catTo rs i ++ rat' rs i := rfl
    rw [e, List.length_append] at hci
    refine gives_appF (m := m1.rd ab) (b0 := m.next) (xs := catTo rs i) (ys := rat' rs i) ?_ hn1 (fun c y hc => hw1 c y hc) (hfu1.same fun c => by simp) (by omega) fun m2 v2 n2 w2 o2 own2 => ?_
    · rcases hown with ⟨h5, h6⟩ | ⟨b, h5, h6, h7, h8⟩
      · exact .inl ⟨h5, h6⟩
      · exact .inr ⟨b, h5, h6, h7, by simpa using h8⟩
    simp [f1, g5, hwi]
    exact ⟨q - 1, by omega, i + 1, by omega, by simp [f1], by simp [f2], by simp [g0, hva'], by simp, by simp; exact own2, by simp at n2; omega, w2, fun c hc => by rw [o2 c hc]; simpa using hold1 c hc⟩
  · have hi' : i = rs.length := by omega
    subst hi'
    simp [f1, g0, g5, hva]
    have hFM1 : FM m1 va rs := ha.old hw0 hold1
    refine code_loop (lentJ m m1 va (fr1.at 4) rs) rs.length (by omega) ⟨0, [], 0, by simp, by simp [f1], by simp [f2], by simp [g0, hva], by simp, by simp [catTo], by simp, rfl, .inl ⟨rfl, by simp [nilV]⟩, fun k hk => absurd hk (by omega), Up.refl _⟩ ?_
    have hvall : FL m1 (fr1.at 4) (catTo rs rs.length) := hown.fl
    obtain ⟨vall, hva4⟩ : ∃ vall, vall = fr1.at 4 := ⟨_, rfl⟩
    rw [← hva4] at hown ⊢
    clear hvall
    rintro q fr2 m2 ⟨i, l, b, hiq, k1, k2, k0, k4, k7, k8, hll, k6, hrows, hu2⟩
    by_cases hi : i < rs.length
    · obtain ⟨ab, ao, ax, ac', hva', h3, h4⟩ := hFM1.get (by omega)
      have h3' : m2.at ab = some ax := hu2.at h3 hw1
      obtain ⟨u, hu, hfu⟩ := h4 i hi
      obtain ⟨ua, uc, rfl, hux⟩ := id hfu
      have hwi := wrap_succ i (by omega)
      have hci := hcat (i + 1) (by omega)
      have e : catTo rs (i + 1) = catTo rs i ++ rat' rs i := rfl
      rw [e, List.length_append] at hci
      have hwa := wrap_add (catTo rs i).length (rat' rs i).length (by omega)
      obtain ⟨hp1, hp2⟩ := catTo_part rs hi
      simp [k1, k0, k4, k7, k8, hva', hi, idx23 _ _ _ _ _ _ hi, h3', hu, hwa]
      have hown2 : OwnG (m2.rd ab) m.next vall (catTo rs rs.length) := by
        rcases hown with h | ⟨b1, h5, h6, h7, h8⟩
        · exact .inl h
        · exact .inr ⟨b1, h5, h6, h7, by rw [Mem.at_rd]; exact hu2.at h8 hw1⟩
      rw [← Int.natCast_add]
      refine gives_part hown2 (by omega) hp1 fun m3 u3 hu3' hfl3 hbk3 => ?_
      rw [Nat.add_sub_cancel_left, hp2] at hfl3
      have hu3 : Up m2 m3 := (Up.rd _ _).trans hu3'
      clear hu3'
      have hw2 := hu2.wf hw1
      have hw3 := hu3.wf hw2
      have hn12 := hu2.next
      have hn23 := hu3.next
      have hr3 : RowP m3 m1.next u3 (rat' rs i) := ⟨hfl3, fun a n c h => by
        rcases hbk3 a n c h with ⟨n2, c2, a2, h5, h6⟩ | h5
        · rcases hown with ⟨_, h7⟩ | ⟨b1, _, h7, _, h9⟩
          · rw [h7] at h5; cases h5
          · rw [h7] at h5; unfold lst at h5; cases h5
            left
            rw [h6]
            exact hw1 _ _ h9
        · exact .inr h5⟩
      have hrows3 : ∀ k, k < i → ∃ u, l[k]? = some u ∧ RowP m3 m1.next u (rat' rs k) := fun k hk => by
        obtain ⟨u, h5, h6⟩ := hrows k hk
        refine ⟨u, h5, h6.keep fun c hc => ?_⟩
        rcases hc with hc | hc
        · exact hu3.old c (by omega)
        · exact hu3.old c (hw2 c _ hc)
      have hlone : l.all oneV = true := by
        rw [List.all_eq_true]
        intro x hx
        obtain ⟨k, hk, rfl⟩ := List.getElem_of_mem hx
        obtain ⟨u, h5, h6⟩ := hrows k (by omega)
        rw [List.getElem?_eq_getElem hk] at h5
        cases h5
        exact h6.one
      simp [k1]
      refine gives_build1 bs23 hfl3.cell.1 hfl3.cell.2 ?_
      simp [k1]
      obtain ⟨b', hb'⟩ : ∃ b', (l = [] ∧ fr2.at 6 = nilV ∧ b' = m3.next + 1) ∨ (l ≠ [] ∧ fr2.at 6 = lst b' l.length ∧ m1.next ≤ b' ∧ b' < m2.next ∧ m3.at b' = some ⟨l, 1, true, false⟩) := by
        rcases k6 with ⟨h5, h6⟩ | ⟨h5, h6, h7, h8, h9⟩
        · exact ⟨_, .inl ⟨h5, h6, rfl⟩⟩
        · exact ⟨b, .inr ⟨h5, h6, h7, h8, by rw [hu3.old b h8]; exact h9⟩⟩
      refine gives_push (b := b') app23 (l := l) (x := u3) ?_ ?_ hlone hfl3.cell.2 (by omega) fun m4 n4 e4 o4 => ?_
      · simp
      · rcases hb' with ⟨h5, h6, _⟩ | ⟨h5, h6, h7, h8, h9⟩
        · exact .inl ⟨h5, h6⟩
        · refine .inr ⟨h5, h6, ?_, by simp; omega⟩
          simp only [Mem.at_nw]
          rw [if_neg (by omega)]
          exact h9
      simp only [Mem.next_nw, Mem.at_nw] at n4 e4 o4
      have hb1 : m1.next ≤ b' := by
        rcases hb' with ⟨_, _, h⟩ | ⟨_, _, h, _⟩ <;> omega
      have old4 : ∀ c, c < m3.next → c ≠ b' → m4.at c = m3.at c := fun c h5 h6 => by rw [o4 c h6 (by omega), if_neg (by omega)]
      have hw4 : WF m4 := fun c y hc => by
        rw [n4]
        by_cases h5 : c < m3.next + 2
        · omega
        · have h6 : c ≠ b' := by
            rcases hb' with ⟨_, _, h⟩ | ⟨_, _, _, h, _⟩ <;> omega
          rw [o4 c h6 (by omega), if_neg (by omega)] at hc
          have := hw3 c y hc; omega
      have hu4 : Up m1 m4 := ⟨by omega, fun c hc => by rw [old4 c (by omega) (by omega), hu3.old c (by omega), hu2.old c hc], fun _ => hw4⟩
      have keep4 : ∀ c, (c < m1.next ∨ m3.at c = some ⟨[], 1, true, true⟩) → m4.at c = m3.at c := fun c hc => by
        rcases hc with hc | hc
        · exact old4 c (by omega) (by omega)
        · refine old4 c (hw3 c _ hc) fun h => ?_
          rcases hb' with ⟨_, _, h5⟩ | ⟨_, _, _, _, h5⟩
          · have := hw3 c _ hc; omega
          · rw [h, h5] at hc; cases hc
      have h4' : m4.at ab = some ax := hu4.at h3 hw1
      have hwa' : IntKind.i64.wrap (((catTo rs i).length : Int) + ((rat' rs i).length : Int)) = ((catTo rs i).length : Int) + ((rat' rs i).length : Int) := by rw [hwa]; simp
      simp [k1, k0, k7, k8, hva', idx23 _ _ _ _ _ _ hi, h4', hu, hwa', hwi]
      refine ⟨q - 1, by omega, i + 1, l ++ [u3], m3.next + 1, by omega, by simp [k1], by simp [k2], by simp [k0, hva'], by simp [k4], by simp [e], by simp, by simp [hll], .inr ⟨by simp, by simp [lst], by omega, by simp; omega, by simp [e4]⟩, fun k hk => ?_, ⟨hu4.next, fun c hc => by simpa using hu4.old c hc, fun w => hw4⟩⟩
      have keepR : ∀ {u : Value} {ys : List F}, RowP m3 m1.next u ys → RowP m4 m1.next u ys := fun h => h.keep keep4
      by_cases hki : k = i
      · subst hki
        exact ⟨u3, by rw [← hll]; simp, keepR hr3⟩
      · obtain ⟨u, h5, h6⟩ := hrows3 k (by omega)
        exact ⟨u, by rw [List.getElem?_append_left (by omega)]; exact h5, keepR h6⟩
    · have hi' : i = rs.length := by omega
      subst hi'
      simp [k1, k2, k0, k8, hva]
      refine hQ m2 _ _ (⟨by have := hu2.next; omega, fun c hc => by rw [hu2.old c (by omega), hold1 c hc], fun _ => hu2.wf hw1⟩) ?_
      rcases k6 with ⟨h5, h6⟩ | ⟨h5, h6, h7, h8, h9⟩
      · rw [h6]
        rw [h5] at hll
        exact ⟨none, 0, by rw [← hll]; rfl, .inl ⟨rfl, hll.symm, rfl⟩⟩
      · rw [h6]
        refine ⟨some ⟨b, 0, none⟩, l.length, by rw [← hll]; rfl, .inr ⟨b, 0, _, rfl, h9, fun i hi => ?_⟩⟩
        obtain ⟨u, h10, h11⟩ := hrows i hi
        exact ⟨u, by rw [Nat.zero_add]; exact h10, h11.1⟩
end Go.Proofs.Ytghhanifakllpaa

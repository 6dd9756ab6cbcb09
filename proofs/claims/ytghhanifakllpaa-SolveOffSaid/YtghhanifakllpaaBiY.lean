/- Words in the clean executor: how many bits, shifted down, first bits. -/
import Derived.Test.YtghhanifakllpaaBgY
set_option linter.unusedSimpArgs false
set_option linter.unusedVariables false
namespace Go.Proofs.Ytghhanifakllpaa
open Go.Clean

def lenN (x : Nat) : Nat := if x = 0 then 0 else x.log2 + 1
theorem lenN_small : ∀ x, x < 256 → ((⟨#[0, 1, 2, 2, 3, 3, 3, 3, 4, 4, 4, 4, 4, 4, 4, 4, 5, 5, 5, 5, 5, 5, 5, 5, 5, 5, 5, 5, 5, 5, 5, 5, 6, 6, 6, 6, 6, 6, 6, 6, 6, 6, 6, 6, 6, 6, 6, 6, 6, 6, 6, 6, 6, 6, 6, 6, 6, 6, 6, 6, 6, 6, 6, 6, 7, 7, 7, 7, 7, 7, 7, 7, 7, 7, 7, 7, 7, 7, 7, 7, 7, 7, 7, 7, 7, 7, 7, 7, 7, 7, 7, 7, 7, 7, 7, 7, 7, 7, 7, 7, 7, 7, 7, 7, 7, 7, 7, 7, 7, 7, 7, 7, 7, 7, 7, 7, 7, 7, 7, 7, 7, 7, 7, 7, 7, 7, 7, 7, 8, 8, 8, 8, 8, 8, 8, 8, 8, 8, 8, 8, 8, 8, 8, 8, 8, 8, 8, 8, 8, 8, 8, 8, 8, 8, 8, 8, 8, 8, 8, 8, 8, 8, 8, 8, 8, 8, 8, 8, 8, 8, 8, 8, 8, 8, 8, 8, 8, 8, 8, 8, 8, 8, 8, 8, 8, 8, 8, 8, 8, 8, 8, 8, 8, 8, 8, 8, 8, 8, 8, 8, 8, 8, 8, 8, 8, 8, 8, 8, 8, 8, 8, 8, 8, 8, 8, 8, 8, 8, 8, 8, 8, 8, 8, 8, 8, 8, 8, 8, 8, 8, 8, 8, 8, 8, 8, 8, 8, 8, 8, 8, 8, 8, 8, 8, 8, 8, 8, 8, 8, 8, 8, 8, 8, 8, 8, 8]⟩ : ByteArray)[x]?).map (fun b => b.toNat) = some (lenN x) := by decide +kernel
set_option maxRecDepth 100000 in
theorem tab_at (x : Nat) (hx : x < 256) : indexX Try.prog 9 (.string ⟨#[0, 1, 2, 2, 3, 3, 3, 3, 4, 4, 4, 4, 4, 4, 4, 4, 5, 5, 5, 5, 5, 5, 5, 5, 5, 5, 5, 5, 5, 5, 5, 5, 6, 6, 6, 6, 6, 6, 6, 6, 6, 6, 6, 6, 6, 6, 6, 6, 6, 6, 6, 6, 6, 6, 6, 6, 6, 6, 6, 6, 6, 6, 6, 6, 7, 7, 7, 7, 7, 7, 7, 7, 7, 7, 7, 7, 7, 7, 7, 7, 7, 7, 7, 7, 7, 7, 7, 7, 7, 7, 7, 7, 7, 7, 7, 7, 7, 7, 7, 7, 7, 7, 7, 7, 7, 7, 7, 7, 7, 7, 7, 7, 7, 7, 7, 7, 7, 7, 7, 7, 7, 7, 7, 7, 7, 7, 7, 7, 8, 8, 8, 8, 8, 8, 8, 8, 8, 8, 8, 8, 8, 8, 8, 8, 8, 8, 8, 8, 8, 8, 8, 8, 8, 8, 8, 8, 8, 8, 8, 8, 8, 8, 8, 8, 8, 8, 8, 8, 8, 8, 8, 8, 8, 8, 8, 8, 8, 8, 8, 8, 8, 8, 8, 8, 8, 8, 8, 8, 8, 8, 8, 8, 8, 8, 8, 8, 8, 8, 8, 8, 8, 8, 8, 8, 8, 8, 8, 8, 8, 8, 8, 8, 8, 8, 8, 8, 8, 8, 8, 8, 8, 8, 8, 8, 8, 8, 8, 8, 8, 8, 8, 8, 8, 8, 8, 8, 8, 8, 8, 8, 8, 8, 8, 8, 8, 8, 8, 8, 8, 8, 8, 8, 8, 8, 8, 8]⟩) (.int .u8 (x : Int)) = some (.int .u8 ((lenN x : Nat) : Int)) := by
  have h := lenN_small x hx
  unfold indexX
  have e : Try.prog.underlying 9 = some .string := by kernel_rfl
  simp only [e]
  have h0 : decide ((0 : Int) ≤ (x : Int)) = true := by simp
  rw [h0, cond_true, Int.toNat_natCast]
  generalize ((⟨#[0, 1, 2, 2, 3, 3, 3, 3, 4, 4, 4, 4, 4, 4, 4, 4, 5, 5, 5, 5, 5, 5, 5, 5, 5, 5, 5, 5, 5, 5, 5, 5, 6, 6, 6, 6, 6, 6, 6, 6, 6, 6, 6, 6, 6, 6, 6, 6, 6, 6, 6, 6, 6, 6, 6, 6, 6, 6, 6, 6, 6, 6, 6, 6, 7, 7, 7, 7, 7, 7, 7, 7, 7, 7, 7, 7, 7, 7, 7, 7, 7, 7, 7, 7, 7, 7, 7, 7, 7, 7, 7, 7, 7, 7, 7, 7, 7, 7, 7, 7, 7, 7, 7, 7, 7, 7, 7, 7, 7, 7, 7, 7, 7, 7, 7, 7, 7, 7, 7, 7, 7, 7, 7, 7, 7, 7, 7, 7, 8, 8, 8, 8, 8, 8, 8, 8, 8, 8, 8, 8, 8, 8, 8, 8, 8, 8, 8, 8, 8, 8, 8, 8, 8, 8, 8, 8, 8, 8, 8, 8, 8, 8, 8, 8, 8, 8, 8, 8, 8, 8, 8, 8, 8, 8, 8, 8, 8, 8, 8, 8, 8, 8, 8, 8, 8, 8, 8, 8, 8, 8, 8, 8, 8, 8, 8, 8, 8, 8, 8, 8, 8, 8, 8, 8, 8, 8, 8, 8, 8, 8, 8, 8, 8, 8, 8, 8, 8, 8, 8, 8, 8, 8, 8, 8, 8, 8, 8, 8, 8, 8, 8, 8, 8, 8, 8, 8, 8, 8, 8, 8, 8, 8, 8, 8, 8, 8, 8, 8, 8, 8, 8, 8, 8, 8, 8, 8]⟩ : ByteArray)[x]?) = o at h ⊢
  cases o with
  | none => simp at h
  | some b =>
    simp only [Option.map_some, Option.some.injEq] at h ⊢
    rw [h]
theorem plain_str' (v : Value) (b : ByteArray) (h : v = .string b) : plainV v = true := by subst h; rfl
@[simp] theorem plain_str (b : ByteArray) : plainV (.string b) = true := plain_str' _ b (by simp)
theorem cv32_8 (x : Nat) (h : x < 256) : convX Try.prog 113 5 (.int .u32 (x : Int)) = some (.int .u8 (x : Int)) := by
  have e : convX Try.prog 113 5 (.int .u32 (x : Int)) = some (.int .u8 (IntKind.u8.wrap (x : Int))) := by kernel_rfl
  rw [e]
  have : IntKind.u8.wrap (x : Int) = (x : Int) % 256 := by simp [IntKind.wrap, IntKind.bits, IntKind.signed]
  rw [this, show (x : Int) % 256 = (x : Int) by omega]
theorem cv8_i (x : Nat) (h : x < 256) : convX Try.prog 5 3 (.int .u8 (x : Int)) = some (.int .i64 (x : Int)) := by
  have e : convX Try.prog 5 3 (.int .u8 (x : Int)) = some (.int .i64 (IntKind.i64.wrap (x : Int))) := by kernel_rfl
  rw [e]
  have := wrap_add x 0 (by omega)
  simp at this
  rw [this]
theorem lenN_le (x : Nat) (h : x < 256) : lenN x ≤ 8 := by
  unfold lenN
  split
  · omega
  · rename_i h0
    have := (Nat.log2_lt h0 (k := 8)).2 (by omega)
    omega
theorem lenN_pos {x : Nat} (h : 0 < x) : 2 ^ (lenN x - 1) ≤ x ∧ x < 2 ^ lenN x := by
  unfold lenN
  rw [if_neg (by omega), Nat.add_sub_cancel]
  exact ⟨Nat.log2_self_le (by omega), Nat.lt_log2_self⟩
theorem lenN_uniq {x k : Nat} (h0 : 0 < x) (h1 : 2 ^ k ≤ x) (h2 : x < 2 ^ (k + 1)) : lenN x = k + 1 := by
  unfold lenN
  rw [if_neg (by omega)]
  have h3 : x.log2 < k + 1 := (Nat.log2_lt (by omega)).2 h2
  have h4 : k ≤ x.log2 := (Nat.le_log2 (by omega)).2 h1
  omega
theorem lenN_shift {x s : Nat} (h : 2 ^ s ≤ x) : lenN x = lenN (x / 2 ^ s) + s := by
  have hp := Nat.two_pow_pos s
  have h1 : 0 < x / 2 ^ s := Nat.div_pos h hp
  obtain ⟨h2, h3⟩ := lenN_pos h1
  have h5 : 0 < lenN (x / 2 ^ s) := by unfold lenN; rw [if_neg (by omega)]; omega
  have := lenN_uniq (x := x) (k := lenN (x / 2 ^ s) - 1 + s) (by omega) (by
    rw [Nat.pow_add]
    exact Nat.le_trans (Nat.mul_le_mul_right _ h2) (Nat.div_mul_le_self x (2 ^ s))) (by
    rw [show lenN (x / 2 ^ s) - 1 + s + 1 = lenN (x / 2 ^ s) + s by omega, Nat.pow_add]
    exact (Nat.div_lt_iff_lt_mul hp).1 h3)
  omega
section
set_option maxRecDepth 10000
theorem len32_ok (n : Nat) {m : Mem} {x : Nat} (hx : x < 4294967296) {Q : Value → Mem → Prop} (hQ : Q (.int .i64 ((lenN x : Nat) : Int)) m) :
    Gives (callN Try.prog kn1 (n + 1) 110 [.int .u32 (x : Int)]) m Q := by
  refine gives_fn (nt := 19) rfl Try.func110 rfl rfl rfl (Nat.le_of_ble_eq_true rfl) fun fr hn hd hargs => ?_
  have h0 : fr.at 0 = _ := hargs 0 _ rfl
  clear hargs
  have s16 : ∀ {P : Program} {t' : TypeId} {xo yo : Operand} {k' : IntKind} (x : Nat), binX P .shr t' xo yo (.int .u32 (x : Int)) (.int k' 16) = some (.int .u32 ((x / 65536 : Nat) : Int)) := fun {P t' xo yo k'} x => bin_shr (k := .u32) x 16
  have s8 : ∀ {P : Program} {t' : TypeId} {xo yo : Operand} {k' : IntKind} (x : Nat), binX P .shr t' xo yo (.int .u32 (x : Int)) (.int k' 8) = some (.int .u32 ((x / 256 : Nat) : Int)) := fun {P t' xo yo k'} x => bin_shr (k := .u32) x 8
  have wr : ∀ y z : Nat, y < 256 → z < 256 → IntKind.i64.wrap ((z : Int) + (y : Int)) = ((z + y : Nat) : Int) := fun y z h1 h2 => wrap_add z y (by omega)
  by_cases h1 : 65536 ≤ x
  · obtain ⟨y, hy⟩ : ∃ y, y = x / 65536 := ⟨_, rfl⟩
    have e1 : lenN x = lenN y + 16 := by rw [hy]; exact lenN_shift (s := 16) h1
    have z1 := s16 (P := Try.prog) (t' := 113) (xo := .tmp 5) (yo := .const (.int .u64 16)) (k' := .u64) x
    have h1' : (65536 : Int) ≤ (x : Int) := by omega
    by_cases h2 : 256 ≤ y
    · obtain ⟨z, hz⟩ : ∃ z, z = y / 256 := ⟨_, rfl⟩
      have e2 : lenN y = lenN z + 8 := by rw [hz]; exact lenN_shift (s := 8) h2
      have h2' : (256 : Int) ≤ (y : Int) := by omega
      have hz8 : z < 256 := by omega
      have hl := lenN_le z hz8
      have g1 : ∀ {P : Program} {t' : TypeId} {xo yo : Operand} {k' : IntKind}, binX P .shr t' xo yo (.int .u32 (x : Int)) (.int k' 16) = some (.int .u32 (y : Int)) := fun {P t' xo yo k'} => by rw [hy]; exact s16 x
      have g2 : ∀ {P : Program} {t' : TypeId} {xo yo : Operand} {k' : IntKind}, binX P .shr t' xo yo (.int .u32 (y : Int)) (.int k' 8) = some (.int .u32 (z : Int)) := fun {P t' xo yo k'} => by rw [hz]; exact s8 y
      have w1 : IntKind.i64.wrap 24 = 24 := rfl
      have w2 : IntKind.i64.wrap (24 + ((lenN z : Nat) : Int)) = ((lenN x : Nat) : Int) := by rw [e1, e2]; have := wr (lenN z) 24 (by omega) (by omega); rw [show lenN z + 8 + 16 = 24 + lenN z by omega]; exact this
      simp [h0, hn, hd, h1', h2', g1, g2, w1, cv32_8 z hz8, tab_at z hz8, cv8_i (lenN z) (by omega), w2]
      exact hQ
    · have h2' : ¬ (256 : Int) ≤ (y : Int) := by omega
      have hy8 : y < 256 := by omega
      have hl := lenN_le y hy8
      have g1 : ∀ {P : Program} {t' : TypeId} {xo yo : Operand} {k' : IntKind}, binX P .shr t' xo yo (.int .u32 (x : Int)) (.int k' 16) = some (.int .u32 (y : Int)) := fun {P t' xo yo k'} => by rw [hy]; exact s16 x
      have w2 : IntKind.i64.wrap (16 + ((lenN y : Nat) : Int)) = ((lenN x : Nat) : Int) := by rw [e1]; have := wr (lenN y) 16 (by omega) (by omega); rw [show lenN y + 16 = 16 + lenN y by omega]; exact this
      simp [h0, hn, hd, h1', h2', g1, cv32_8 y hy8, tab_at y hy8, cv8_i (lenN y) (by omega), w2]
      exact hQ
  · have h1' : ¬ (65536 : Int) ≤ (x : Int) := by omega
    by_cases h2 : 256 ≤ x
    · obtain ⟨z, hz⟩ : ∃ z, z = x / 256 := ⟨_, rfl⟩
      have e2 : lenN x = lenN z + 8 := by rw [hz]; exact lenN_shift (s := 8) h2
      have h2' : (256 : Int) ≤ (x : Int) := by omega
      have hz8 : z < 256 := by omega
      have hl := lenN_le z hz8
      have g2 : ∀ {P : Program} {t' : TypeId} {xo yo : Operand} {k' : IntKind}, binX P .shr t' xo yo (.int .u32 (x : Int)) (.int k' 8) = some (.int .u32 (z : Int)) := fun {P t' xo yo k'} => by rw [hz]; exact s8 x
      have w1 : IntKind.i64.wrap (0 + 8) = 8 := rfl
      have w1' : IntKind.i64.wrap 8 = 8 := rfl
      have w2 : IntKind.i64.wrap (8 + ((lenN z : Nat) : Int)) = ((lenN x : Nat) : Int) := by rw [e2]; have := wr (lenN z) 8 (by omega) (by omega); rw [show lenN z + 8 = 8 + lenN z by omega]; exact this
      simp [h0, hn, hd, h1', h2', g2, w1, w1', cv32_8 z hz8, tab_at z hz8, cv8_i (lenN z) (by omega), w2]
      exact hQ
    · have h2' : ¬ (256 : Int) ≤ (x : Int) := by omega
      have hx8 : x < 256 := by omega
      have hl := lenN_le x hx8
      have w2 : IntKind.i64.wrap (((lenN x : Nat) : Int)) = ((lenN x : Nat) : Int) := by have := wr (lenN x) 0 (by omega) (by omega); simpa using this
      simp [h0, hn, hd, h1', h2', cv32_8 x hx8, tab_at x hx8, cv8_i (lenN x) (by omega), w2]
      exact hQ
end
end Go.Proofs.Ytghhanifakllpaa

/- Words in the clean executor: how many bits, shifted down, first bits. -/
namespace Go.Proofs.Ytghhanifakllpaa
open Go.Clean

/-- How many bits a number has. -/
theorem lenN_wv {l : List Nat} (hd : Wd l) (ht : Tr l) (h0 : 0 < l.length) : lenN (wv l) = 32 * (l.length - 1) + lenN (wat l (l.length - 1)) := by
  have h1 := tr_last ht h0
  have h1' : 0 < wat l (l.length - 1) := Nat.pos_of_ne_zero h1
  have h2 := wv_next l (l.length - 1)
  rw [show l.length - 1 + 1 = l.length by omega, List.take_length] at h2
  have h3 := wv_lt (hd.take (l.length - 1))
  rw [List.length_take, Nat.min_eq_left (by omega)] at h3
  obtain ⟨h4, h5⟩ := lenN_pos h1'
  have h6 : 0 < lenN (wat l (l.length - 1)) := by unfold lenN; rw [if_neg (by omega)]; omega
  obtain ⟨t, ht'⟩ : ∃ t, t = wat l (l.length - 1) := ⟨_, rfl⟩
  rw [← ht'] at h2 h4 h5 h6 h1' ⊢
  rw [pw_two] at h2 h3
  have := lenN_uniq (x := wv l) (k := 32 * (l.length - 1) + (lenN t - 1)) (by
    have : 0 < 2 ^ (32 * (l.length - 1)) * t := Nat.mul_pos (Nat.two_pow_pos _) h1'
    omega) (by
    rw [Nat.pow_add]
    have : 2 ^ (32 * (l.length - 1)) * 2 ^ (lenN t - 1) ≤ 2 ^ (32 * (l.length - 1)) * t := Nat.mul_le_mul_left _ h4
    omega) (by
    rw [show 32 * (l.length - 1) + (lenN t - 1) + 1 = 32 * (l.length - 1) + lenN t by omega, Nat.pow_add]
    have : 2 ^ (32 * (l.length - 1)) * (t + 1) ≤ 2 ^ (32 * (l.length - 1)) * 2 ^ lenN t := Nat.mul_le_mul_left _ h5
    rw [Nat.mul_add, Nat.mul_one] at this
    omega)
  omega
section
set_option maxRecDepth 10000
theorem bitLen_ok (n : Nat) {m : Mem} {va : Value} {a : List Nat} (ha : WL m va a) (ta : Tr a) (hl : a.length < 1000000) {Q : Value → Mem → Prop} (hQ : ∀ m', Only m m' → Q (.int .i64 ((lenN (wv a) : Nat) : Int)) m') :
    Gives (callN Try.prog kn1 (n + 2) 100 [va]) m Q := by
  refine gives_fn (nt := 18) rfl Try.func100 rfl rfl rfl (Nat.le_of_ble_eq_true rfl) fun fr hn hd hargs => ?_
  have h0 : fr.at 0 = _ := hargs 0 _ rfl
  clear hargs
  by_cases h : a = []
  · subst h
    have lenA := ha.len
    simp [hn, hd, h0, lenA]
    exact hQ m (Only.refl m)
  · have hpos : 0 < a.length := by
      rcases Nat.eq_zero_or_pos a.length with h1 | h1
      · exact absurd (List.eq_nil_of_length_eq_zero h1) h
      · exact h1
    obtain ⟨b1, o1, k1, x1, hA⟩ := ha.rd hpos
    obtain ⟨i, hi⟩ : ∃ i, i = a.length - 1 := ⟨_, rfl⟩
    have y1 := hA.get i (by omega)
    have e1 := hA.at'
    have lenA := ha.len
    rw [hA.val] at h0 lenA
    have hai := wat_lt ha.wd i
    have hwi : IntKind.i64.wrap ((a.length : Int) - 1) = (i : Int) := by rw [hi]; exact wrap_prd _ hpos (by omega)
    obtain ⟨p, hp⟩ : ∃ p, p = 32 * i := ⟨_, rfl⟩
    have hwp : IntKind.i64.wrap (32 * (i : Int)) = (p : Int) := by
      rw [hp]
      have := wrap_add (32 * i) 0 (by omega)
      simpa using this
    have hlen : lenN (wat a i) ≤ 32 := by
      by_cases hz : wat a i = 0
      · rw [hz]; decide
      · have h2 := (lenN_pos (Nat.pos_of_ne_zero hz)).1
        have h3 : 2 ^ (lenN (wat a i) - 1) < 2 ^ 32 := Nat.lt_of_le_of_lt h2 hai
        have := (Nat.pow_lt_pow_iff_right (a := 2) (by decide)).1 h3
        omega
    simp [hn, hd, h0, h, lenA, hwi, hwp, idx_W _ _ _ _ _ _ (show i < a.length by omega), e1, y1]
    refine len32_ok n hai ?_
    have hws : IntKind.i64.wrap ((p : Int) + ((lenN (wat a i) : Nat) : Int)) = ((lenN (wv a) : Nat) : Int) := by
      rw [wrap_add _ _ (by omega), lenN_wv ha.wd ta hpos, ← hi, hp]
    simp [hn, hd, hws]
    exact hQ _ (Only.rd' _ _)
theorem lead_ok (n : Nat) {m : Mem} {x : Nat} (hx : x < 4294967296) {Q : Value → Mem → Prop} (hQ : Q (.int .i64 ((32 - lenN x : Nat) : Int)) m) (hl : lenN x ≤ 32) :
    Gives (callN Try.prog kn1 (n + 2) 105 [.int .u32 (x : Int)]) m Q := by
  refine gives_fn (nt := 6) rfl Try.func105 rfl rfl rfl (Nat.le_of_ble_eq_true rfl) fun fr hn hd hargs => ?_
  have h0 : fr.at 0 = _ := hargs 0 _ rfl
  clear hargs
  have hw : IntKind.i64.wrap (32 - ((lenN x : Nat) : Int)) = ((32 - lenN x : Nat) : Int) := by
    have := wrap_add (32 - lenN x) 0 (by omega)
    rw [show (32 - ((lenN x : Nat) : Int)) = ((32 - lenN x : Nat) : Int) + ((0 : Nat) : Int) by omega]
    exact this
  simp [hn, hd, h0]
  refine len32_ok n hx ?_
  simp [hn, hd, hw]
  exact hQ
end
/-- Words further on. -/
theorem wv_far (a : List Nat) (i : Nat) : wv (a.drop i) = wat a i + 4294967296 * wv (a.drop (i + 1)) := by
  by_cases h : i < a.length
  · exact wv_drop h
  · rw [wat_far (by omega), List.drop_eq_nil_of_le (show a.length ≤ i by omega), List.drop_eq_nil_of_le (show a.length ≤ i + 1 by omega)]
    simp [wv]
theorem wv_drop_div (a : List Nat) (hd : Wd a) (k : Nat) : wv (a.drop k) = wv a / pw k := by
  by_cases h : k ≤ a.length
  · have h1 := wv_cut a k h
    have h2 := wv_lt (hd.take k)
    rw [List.length_take, Nat.min_eq_left h] at h2
    rw [h1, Nat.add_comm, Nat.mul_add_div (pw_pos k), Nat.div_eq_of_lt h2, Nat.add_zero]
  · rw [List.drop_eq_nil_of_le (by omega)]
    have h2 := wv_lt hd
    have h3 := pw_mono (show a.length ≤ k by omega)
    rw [Nat.div_eq_of_lt (by omega)]; rfl
/-- A word of what is shifted down. -/
theorem down_word {x y r s : Nat} (hs : s ≤ 32) (hx : x < 4294967296) : (x + 4294967296 * (y + 4294967296 * r)) / 2 ^ s % 4294967296 = (x + 4294967296 * y) / 2 ^ s % 4294967296 := by
  have e : x + 4294967296 * (y + 4294967296 * r) = (x + 4294967296 * y) + 2 ^ s * (4294967296 * (2 ^ (32 - s) * r)) := by
    have : 2 ^ s * (4294967296 * (2 ^ (32 - s) * r)) = 4294967296 * (2 ^ s * 2 ^ (32 - s) * r) := by
      rw [Nat.mul_left_comm, Nat.mul_assoc (2 ^ s)]
    rw [this, ← Nat.pow_add, show s + (32 - s) = 32 by omega]
    omega
  rw [e, Nat.add_mul_div_left _ _ (Nat.two_pow_pos s), Nat.add_mul_mod_self_left]
section
set_option maxRecDepth 10000
def dnI (m : Mem) (va : Value) (a : List Nat) (bo N k s : Nat) (q : Nat) (fr : Fr) (m' : Mem) : Prop := ∃ i l, i + q = N ∧ fr.n = 64 ∧ fr.d = [] ∧ fr.at 0 = va ∧ fr.at 5 = .int .i64 (k : Nat) ∧ fr.at 6 = .int .u64 (s : Nat) ∧ fr.at 7 = .slice (some ⟨bo, 0, none⟩) N N ∧ fr.at 8 = .int .i64 (i : Nat) ∧ OWn m m' bo l ∧ l.length = N ∧ wv (l.take i) = wv (a.drop k) / 2 ^ s % pw i
set_option maxHeartbeats 2000000 in
theorem down_ok (n : Nat) {m : Mem} {va : Value} {a : List Nat} {c : Nat} (hw : WF m) (ha : WL m va a) (hl : a.length < 400000) (hc : c < 100000000) {Q : Value → Mem → Prop}
    (hQ : ∀ m' v l, Up m m' → WL m' v l → l.length ≤ a.length → Tr l → wv l = wv a / 2 ^ c → Q v m') :
    Gives (callN Try.prog kn1 (n + 2) 107 [va, .int .i64 (c : Int)]) m Q := by
  refine gives_fn (nt := 64) rfl Try.func107 rfl rfl rfl (Nat.le_of_ble_eq_true rfl) fun fr hn hd hargs => ?_
  have h0 : fr.at 0 = _ := hargs 0 _ rfl
  have h1 : fr.at 1 = _ := hargs 1 _ rfl
  clear hargs
  obtain ⟨k, hk⟩ : ∃ k, k = c / 32 := ⟨_, rfl⟩
  obtain ⟨s, hs⟩ : ∃ s, s = c % 32 := ⟨_, rfl⟩
  have hck : 2 ^ c = pw k * 2 ^ s := by rw [pw_two, ← Nat.pow_add, show 32 * k + s = c by omega]
  have hdv : wv a / 2 ^ c = wv (a.drop k) / 2 ^ s := by rw [hck, ← Nat.div_div_eq_div_mul, wv_drop_div a ha.wd]
  have q1 : ∀ {P : Program} {t : TypeId} {xo yo : Operand}, binX P .quo t xo yo (.int .i64 (c : Int)) (.int .i64 32) = some (.int .i64 (k : Int)) := fun {P t xo yo} => by rw [hk]; exact bin_quo32 c (by omega)
  have q2 : ∀ {P : Program} {t : TypeId} {xo yo : Operand}, binX P .rem t xo yo (.int .i64 (c : Int)) (.int .i64 32) = some (.int .i64 (s : Int)) := fun {P t xo yo} => by rw [hs]; exact bin_rem32 c
  have q3 := cvS s (by omega)
  have lenA := ha.len
  by_cases hkl : a.length ≤ k
  · have hge : ((a.length : Nat) : Int) ≤ (k : Int) := by omega
    simp [h0, h1, hn, hd, lenA, q1, q2, q3, hkl]
    refine hQ m _ [] (Up.refl m) (WL.nil m) (by simp) Tr.nil ?_
    rw [hdv, List.drop_eq_nil_of_le hkl]
    simp [wv]
  · obtain ⟨N, hN⟩ : ∃ N, N = a.length - k := ⟨_, rfl⟩
    have hwN : IntKind.i64.wrap ((a.length : Int) - (k : Int)) = (N : Int) := by
      have := wrap_add N 0 (by omega)
      rw [show ((a.length : Int) - (k : Int)) = (N : Int) + ((0 : Nat) : Int) by omega]
      exact this
    simp [h0, h1, hn, lenA, q1, q2, q3, hkl, hwN]
    refine gives_makeW (by omega) ?_
    simp [hn]
    refine code_loop (dnI m va a m.next N k s) N (by omega) ⟨0, _, by omega, by simp [hn], by simp [hd], by simp [h0], by simp, by simp, by simp, by simp, OWn.first m N, by simp, by simp [wv, pw_zero, Nat.mod_one]⟩ ?_
    clear hn hd h0 h1
    rintro q fr m' ⟨i, l, hiq, hn, hd, h0, h5, h6, h7, h8, hO, hll, hv⟩
    by_cases hi : i < N
    · obtain ⟨b1, o1, k1, x1, hA⟩ := (ha.up hw hO.up).rd (by omega)
      obtain ⟨p, hp⟩ : ∃ p, p = i + k := ⟨_, rfl⟩
      obtain ⟨p1, hp1⟩ : ∃ p1, p1 = p + 1 := ⟨_, rfl⟩
      have hwp : IntKind.i64.wrap ((i : Int) + (k : Int)) = (p : Int) := by rw [hp]; exact wrap_add _ _ (by omega)
      have hwp1 : IntKind.i64.wrap ((p : Int) + 1) = (p1 : Int) := by rw [hp1]; exact wrap_succ _ (by omega)
      have hwi := wrap_succ i (by omega)
      have y1 := hA.get p (by omega)
      have e1 := hA.at'
      rw [hA.val] at h0 lenA
      have hap := wat_lt ha.wd p
      have hap1 := wat_lt ha.wd p1
      have cv := cv32_64 _ hap
      have hs32 : s ≤ 32 := by omega
      obtain ⟨w, hwd⟩ : ∃ w, w = (wat a p + 4294967296 * wat a p1) / 2 ^ s := ⟨_, rfl⟩
      have c32 := cv64_32 w
      have hword : wv (a.drop k) / 2 ^ s / pw i % 4294967296 = w % 4294967296 := by
        rw [Nat.div_div_eq_div_mul, Nat.mul_comm, ← Nat.div_div_eq_div_mul]
        have e2 : wv (a.drop k) / pw i = wv (a.drop p) := by
          rw [← wv_drop_div _ (ha.wd.drop k), List.drop_drop]
          congr 2
          omega
        rw [e2, wv_far a p, wv_far a (p + 1), ← hp1, down_word hs32 hap, hwd]
      have hnew : wv (l.take i) + pw i * (w % 4294967296) = wv (a.drop k) / 2 ^ s % pw (i + 1) := by
        rw [hv, ← hword, pw_succ, Nat.mul_comm 4294967296, Nat.mod_mul]
      by_cases hi1 : p1 < a.length
      · have y2 := hA.get p1 hi1
        have cv1 := cv32_64 _ hap1
        obtain ⟨r1, hr1⟩ : ∃ x, x = wat a p1 * 4294967296 := ⟨_, rfl⟩
        have sh1 : ∀ {P : Program} {t' : TypeId} {xo yo : Operand} {k' : IntKind}, binX P .shl t' xo yo (.int .u64 ((wat a p1 : Nat) : Int)) (.int k' 32) = some (.int .u64 (r1 : Int)) := fun {P t' xo yo k'} => by rw [hr1]; exact bin_shl32 _ hap1
        obtain ⟨t, ht⟩ : ∃ t, t = wat a p + r1 := ⟨_, rfl⟩
        have hor : ∀ {P : Program} {t' : TypeId} {xo yo : Operand}, binX P .or t' xo yo (.int .u64 ((wat a p : Nat) : Int)) (.int .u64 (r1 : Int)) = some (.int .u64 (t : Int)) := fun {P t' xo yo} => by
          rw [bin_or64 _ _ (by omega) (by omega), ht, hr1]
          congr 3
          exact or_add' _ _ 32 hap
        have shr : ∀ {P : Program} {t' : TypeId} {xo yo : Operand}, binX P .shr t' xo yo (.int .u64 (t : Int)) (.int .u64 (s : Int)) = some (.int .u64 (w : Int)) := fun {P t' xo yo} => by
          rw [hwd, show wat a p + 4294967296 * wat a p1 = t by omega]
          exact bin_shrU t s (by omega)
        simp [hn, h0, h5, h6, h7, h8, hi, lenA, hwp, hwp1, hi1, idx_W _ _ _ _ _ _ (show p < a.length by omega), idx_W _ _ _ _ _ _ hi1, e1, y1, y2, cv, cv1, sh1, hor, shr, c32, idx_W _ _ _ _ _ _ hi]
        refine storeQ_one (cs := wc l) (sz := 1) (gr := false) (by simp [hO.at']) (by simp) (cells_int _ _) (by rw [wc_len]; omega) fun m4 n4 _ e4 => ?_
        simp only [Mem.next_rd, Mem.at_rd] at n4 e4
        have hO4 := hO.set hw (Nat.mod_lt w (by decide : 0 < 4294967296)) n4 e4
        simp [hn, h8, hwi]
        exact ⟨q - 1, by omega, i + 1, l.set i (w % 4294967296), by omega, by simp [hn], by simp [hd], by simp [h0, hA.val], by simp [h5], by simp [h6], by simp [h7], by simp, hO4, by simp [hll], by rw [take_set_next (by omega)]; exact hnew⟩
      · have hz : wat a p1 = 0 := wat_far (by omega)
        rw [hz] at hwd
        have shr : ∀ {P : Program} {t' : TypeId} {xo yo : Operand}, binX P .shr t' xo yo (.int .u64 ((wat a p : Nat) : Int)) (.int .u64 (s : Int)) = some (.int .u64 (w : Int)) := fun {P t' xo yo} => by
          rw [hwd]
          exact bin_shrU _ s (by omega)
        simp [hn, h0, h5, h6, h7, h8, hi, lenA, hwp, hwp1, hi1, idx_W _ _ _ _ _ _ (show p < a.length by omega), e1, y1, cv, shr, c32, idx_W _ _ _ _ _ _ hi]
        refine storeQ_one (cs := wc l) (sz := 1) (gr := false) (by simp [hO.at']) (by simp) (cells_int _ _) (by rw [wc_len]; omega) fun m4 n4 _ e4 => ?_
        simp only [Mem.next_rd, Mem.at_rd] at n4 e4
        have hO4 := hO.set hw (Nat.mod_lt w (by decide : 0 < 4294967296)) n4 e4
        simp [hn, h8, hwi]
        exact ⟨q - 1, by omega, i + 1, l.set i (w % 4294967296), by omega, by simp [hn], by simp [hd], by simp [h0, hA.val], by simp [h5], by simp [h6], by simp [h7], by simp, hO4, by simp [hll], by rw [take_set_next (by omega)]; exact hnew⟩
    · obtain rfl : i = N := by omega
      rw [wv_all (by omega)] at hv
      have hWL := hO.wl
      rw [hll] at hWL
      simp [hn, h7, h8]
      refine trim_ok n hWL (by omega) fun m5 v5 ho5 hw5 => ?_
      simp [hn, hd]
      refine hQ m5 v5 _ (hO.up.trans (Up.only ho5)) hw5 ?_ (tr_trim _) ?_
      · unfold trimL
        rw [List.length_take]
        omega
      · rw [wv_trim, hv, hdv]
        refine Nat.mod_eq_of_lt (Nat.lt_of_le_of_lt (Nat.div_le_self _ _) ?_)
        have := wv_lt (ha.wd.drop k)
        rw [List.length_drop, ← hN] at this
        exact this
end
end Go.Proofs.Ytghhanifakllpaa

/- The law's own: simple. -/
import Derived.Test.YtghhanifakllpaaVaY
import Derived.Test.YtghhanifakllpaaFlY
set_option linter.unusedSimpArgs false
set_option linter.unusedVariables false
namespace Go.Proofs.Ytghhanifakllpaa
open Go.Clean
/-- A system of up to 8 unknowns of plain floats. -/
structure SimF (rs : List (List F)) (bs : List F) : Prop where
  lo : 1 ≤ rs.length
  hi : rs.length ≤ 8
  lb : bs.length = rs.length
  row : ∀ i, i < rs.length → (rat' rs i).length = rs.length
  pb : ∀ i, i < rs.length → plainF (fat bs i) = true
  pa : ∀ i, i < rs.length → ∀ j, j < rs.length → plainF (fat (rat' rs i) j) = true
structure SiF (fr : Fr) (va vb : Value) : Prop where
  n : fr.n = 59
  d : fr.d = []
  f0 : fr.at 0 = va
  f1 : fr.at 1 = vb
def siI (m : Mem) (va vb : Value) (rs : List (List F)) (bs : List F) (k : Nat) (fr : Fr) (m' : Mem) : Prop := ∃ i, i + k = rs.length ∧ SiF fr va vb ∧ fr.at 5 = .int .i64 (i : Nat) ∧ Only m m' ∧ ∀ i', i' < i → (rat' rs i').length = rs.length ∧ plainF (fat bs i') = true ∧ ∀ j, j < rs.length → plainF (fat (rat' rs i') j) = true
def sjI (m : Mem) (va vb : Value) (rs : List (List F)) (i : Nat) (k : Nat) (fr : Fr) (m' : Mem) : Prop := ∃ j, j + k = rs.length ∧ SiF fr va vb ∧ fr.at 5 = .int .i64 (i : Nat) ∧ fr.at 6 = .int .i64 (j : Nat) ∧ Only m m' ∧ ∀ j', j' < j → plainF (fat (rat' rs i) j') = true
section
set_option maxRecDepth 10000
set_option maxHeartbeats 4000000 in
theorem simple_ok (e : Nat) {m : Mem} {va vb : Value} {rs : List (List F)} {bs : List F} (hv : FM m va rs) (hb : FL m vb bs) {Q : Value → Mem → Prop}
    (hQ : ∀ m' (s : Bool), Only m m' → (s = true → SimF rs bs) → Q (.bool s) m') :
    Gives (callN Try.prog kn1 (e + 3) 28 [va, vb]) m Q := by
  refine gives_fn (nt := 59) rfl Try.func28 rfl rfl rfl (Nat.le_of_ble_eq_true rfl) fun fr hn hd hargs => ?_
  have h0 : fr.at 0 = _ := hargs 0 _ rfl
  have h1 : fr.at 1 = _ := hargs 1 _ rfl
  clear hargs
  have hvl : lenX Try.prog 23 va = some (.int .i64 rs.length) := by obtain ⟨a, c, rfl, _⟩ := hv; simp
  have hbl : lenX Try.prog 24 vb = some (.int .i64 bs.length) := by obtain ⟨a, c, rfl, _⟩ := hb; simp
  by_cases hlo : rs.length < 1
  · have hlo' : ((rs.length : Nat) : Int) < 1 := by omega
    simp [hn, hd, h0, h1, hvl, hbl, hlo', yieldX, boolOf_bool, undef]
    exact hQ m false (Only.refl m) (by simp)
  have hlo' : ¬ ((rs.length : Nat) : Int) < 1 := by omega
  by_cases hhi : 8 < rs.length
  · have hhi' : (8 : Int) < ((rs.length : Nat) : Int) := by omega
    simp [hn, hd, h0, h1, hvl, hbl, hlo', hhi, hhi', yieldX, boolOf_bool, undef]
    exact hQ m false (Only.refl m) (by simp)
  have hhi' : ¬ (8 : Int) < ((rs.length : Nat) : Int) := by omega
  by_cases hlb2 : bs.length = rs.length
  · simp [hn, h0, h1, hvl, hbl, hlo', hhi, hhi', hlb2, yieldX, boolOf_bool, undef]
    refine code_loop (siI m va vb rs bs) rs.length (by omega) ⟨0, by omega, ⟨by simp [hn], by simp [hd], by simp [h0], by simp [h1]⟩, by simp, Only.refl m, fun i' h => by omega⟩ ?_
    clear hn hd h0 h1
    rintro k fr m1 ⟨i, hik, F, f5, o1, hdone⟩
    have hn := F.n
    have hd := F.d
    have h0 := F.f0
    have h1 := F.f1
    by_cases hi : i < rs.length
    · obtain ⟨b2, o2, x2, c2, ev, ea, ec⟩ := hv.get (by omega)
      obtain ⟨b3, o3, x3, c3, evb, eb, ecb⟩ := hb.get (by omega)
      obtain ⟨u, hu, hfl⟩ := ec i hi
      have hcb := ecb i (by omega)
      have hul : lenX Try.prog 24 u = some (.int .i64 (rat' rs i).length) := by obtain ⟨a, c, rfl, _⟩ := hfl; simp
      have ea1 : m1.at b2 = some x2 := (o1.2 b2).trans ea
      have eb1 : m1.at b3 = some x3 := (o1.2 b3).trans eb
      by_cases hrl : (rat' rs i).length = rs.length
      · have h0' := h0
        have h1' := h1
        rw [ev] at h0
        rw [evb] at h1
        have hvl' := hvl
        rw [ev] at hvl
        simp [hn, hd, h0, h1, f5, hvl, hi, idx23 _ _ _ _ _ _ hi, idx24 _ _ _ _ _ _ (show i < bs.length by omega), ea1, eb1, hcb, hu, hul, hrl, yieldX, boolOf_bool, undef]
        refine plain_ok e _ ?_
        cases hpb : plainF (fat bs i) with
        | false =>
          simp [hn, hd, yieldX, boolOf_bool, undef]
          exact hQ _ false (o1.trans ⟨by simp, fun c => by simp⟩) (by simp)
        | true =>
          simp [hn, hd, yieldX, boolOf_bool, undef]
          refine code_loop (sjI m va vb rs i) rs.length (by omega) ⟨0, by omega, ⟨by simp [hn], by simp [hd], by simp [h0, ev], by simp [h1, evb]⟩, by simp [f5], by simp, o1.trans ⟨by simp, fun c => by simp⟩, fun j' h => by omega⟩ ?_
          clear hn hd h0 h1 f5 F
          rintro k2 fr m2 ⟨j, hjk, F, f5, f6, o2', hj'⟩
          have hn := F.n
          have hd := F.d
          have h0 := F.f0
          by_cases hj : j < rs.length
          · obtain ⟨b4, o4, x4, c4, evu, eu, ecu⟩ := hfl.get (by omega)
            have ea2 : m2.at b2 = some x2 := (o2'.2 b2).trans ea
            have eu2 : m2.at b4 = some x4 := (o2'.2 b4).trans eu
            have hcu := ecu j (by omega)
            rw [ev] at h0
            have hjr : j < (rat' rs i).length := by omega
            simp [hn, hd, h0, f5, f6, hvl, hj, idx23 _ _ _ _ _ _ hi, ea2, hu, evu, idx24 _ _ _ _ _ _ hjr, eu2, hcu]
            refine plain_ok e _ ?_
            cases hpj : plainF (fat (rat' rs i) j) with
            | false =>
              simp [hn, hd]
              exact hQ _ false (o2'.trans ⟨by simp, fun c => by simp⟩) (by simp)
            | true =>
              have hwj := wrap_succ j (by omega)
              simp [hn, hd, f6, hwj]
              refine ⟨k2 - 1, by omega, j + 1, by omega, ⟨by simp [hn], by simp [hd], by simp [h0, ev], by simp [F.f1]⟩, by simp [f5], by simp, o2'.trans ⟨by simp, fun c => by simp⟩, fun j' h => ?_⟩
              by_cases hjj : j' = j
              · subst hjj; exact hpj
              · exact hj' j' (by omega)
          · obtain rfl : j = rs.length := by omega
            have hwi := wrap_succ i (by omega)
            simp [hn, hd, h0, f5, f6, hvl', hwi]
            refine ⟨k - 1, by omega, i + 1, by omega, ⟨by simp [hn], by simp [hd], by simp [h0], by simp [F.f1]⟩, by simp, o2'.trans ⟨by simp, fun c => by simp⟩, fun i' h => ?_⟩
            by_cases hii : i' = i
            · subst hii; exact ⟨hrl, hpb, fun j hj => hj' j hj⟩
            · exact hdone i' (by omega)
      · have hrl' : ¬ (((rat' rs i).length : Nat) : Int) = ((rs.length : Nat) : Int) := by omega
        rw [ev] at h0
        rw [evb] at h1
        rw [ev] at hvl
        simp [hn, hd, h0, h1, f5, hvl, hi, idx23 _ _ _ _ _ _ hi, ea1, hu, hul, hrl, hrl', yieldX, boolOf_bool, undef]
        exact hQ _ false (o1.trans ⟨by simp, fun c => by simp⟩) (by simp)
    · obtain rfl : i = rs.length := by omega
      simp [hn, hd, h0, f5, hvl]
      refine hQ m1 true o1 fun _ => ⟨by omega, by omega, hlb2, fun i h => (hdone i h).1, fun i h => (hdone i h).2.1, fun i h j hj => (hdone i h).2.2 j hj⟩
  · have hlb3 : ¬ ((bs.length : Nat) : Int) = ((rs.length : Nat) : Int) := by omega
    simp [hn, hd, h0, h1, hvl, hbl, hlo', hhi, hhi', hlb2, hlb3, yieldX, boolOf_bool, undef]
    exact hQ m false (Only.refl m) (by simp)
end
end Go.Proofs.Ytghhanifakllpaa

/- Small whole numbers as floats: usable forms. -/
namespace Go.Proofs.Ytghhanifakllpaa
open Go.Clean
theorem mem_small {k : Int} (h1 : -8 ≤ k) (h2 : k ≤ 8) : k ∈ smallI := by
  unfold smallI
  simp only [List.mem_cons, List.not_mem_nil, or_false]
  omega
theorem fi_no {k : Int} (h1 : -8 ≤ k) (h2 : k ≤ 8) : cOf (some (fi k)) = fi k := by
  have h := List.all_eq_true.1 fi_plain k (mem_small h1 h2)
  simp only [Bool.and_eq_true, Bool.not_eq_true'] at h
  exact canon_yes h.1.1
end Go.Proofs.Ytghhanifakllpaa

/- Plain: whole numbers in float64, exactly. No program in sight. -/
set_option linter.unusedVariables false
set_option linter.unusedSimpArgs false
namespace Go.Proofs.Ytghhanifakllpaa.Nu
open Ieee

/-- A datum that is a whole number. -/
def DW (d : Datum) (n : Int) : Prop := ∃ (s : Bool) (m k : Nat), d = .number s m (-(k : Int)) ∧ signed s m 0 = n * 2 ^ (k : Nat)
/-- A float that is a whole number. -/
def WF (x : F) (n : Int) : Prop := ∃ b, x = some b ∧ DW (double.read b) n

theorem lp : double.leastPlace = -1074 := by decide
theorem bn : double.binade = 4503599627370496 := by decide
theorem ir : double.infRung = 9218868437227405312 := by decide
theorem sw : double.signWeight = 9223372036854775808 := by decide
theorem fb : double.fractionBits = 52 := by decide
/-- The word of a sign and a rung of a number between 2^-52 and 2^53. -/
theorem read_word (neg : Bool) (last : Nat) (kept : Nat) (h1 : 1 ≤ last) (h2 : last < 2000) (h3 : 4503599627370496 ≤ kept) (h4 : kept < 9007199254740992) :
    double.read (double.word neg (last * 4503599627370496 + kept)) = .number neg kept (-1074 + (last : Int)) := by
  have e1 : double.word neg (last * 4503599627370496 + kept) % 9223372036854775808 = last * 4503599627370496 + kept := by
    unfold Format.word
    rw [sw]
    cases neg <;> simp <;> omega
  have e2 : (double.word neg (last * 4503599627370496 + kept) / 9223372036854775808 % 2 == 1) = neg := by
    unfold Format.word
    rw [sw]
    cases neg
    · simp; omega
    · simp; omega
  unfold Format.read
  simp only [lp, bn, ir, sw, e1, e2]
  rw [if_neg (by omega), if_pos (by omega)]
  congr 1
  · omega
  · omega
theorem cut_exact (neg : Bool) (q d : Nat) (hq : 0 < q) : Toward.even.cut neg (q * 2 ^ d) d = q := by
  have hlog : d ≤ (q * 2 ^ d).log2 + 2 := by
    have : 2 ^ d ≤ q * 2 ^ d := Nat.le_mul_of_pos_left _ hq
    have h2 : d ≤ (q * 2 ^ d).log2 := (Nat.le_log2 (Nat.ne_of_gt (Nat.mul_pos hq (Nat.two_pow_pos d)))).2 this
    omega
  unfold Toward.cut
  have e1 : min d ((q * 2 ^ d).log2 + 2) = d := Nat.min_eq_left hlog
  simp only [e1, Nat.one_shiftLeft]
  have hp : 0 < 2 ^ d := Nat.two_pow_pos d
  rw [Nat.mul_div_cancel _ hp, Nat.mul_mod_left]
  have : ¬ (2 ^ d < 2 * 0) := by omega
  have h3 : (2 ^ d == 2 * 0) = false := by simp
  simp [h3]

/-- What is a whole number below 2^53 is written as it is. -/
theorem nearest_whole (neg : Bool) (q k : Nat) (hq : 0 < q) (hq2 : q < 9007199254740992) (mag : Nat) (hm : mag = q * 2 ^ k) :
    ∃ j : Nat, double.read (double.nearest neg mag (-(k : Int))) = .number neg (q * 2 ^ j) (-(j : Int)) := by
  have hmag : mag ≠ 0 := by rw [hm]; exact Nat.ne_of_gt (Nat.mul_pos hq (Nat.two_pow_pos k))
  obtain ⟨e, he⟩ : ∃ e, e = q.log2 := ⟨_, rfl⟩
  have h1 : 2 ^ e ≤ q := by rw [he]; exact Nat.log2_self_le (by omega)
  have h2 : q < 2 ^ (e + 1) := by rw [he]; exact Nat.lt_log2_self
  have he52 : e ≤ 52 := by
    by_cases h : e ≤ 52
    · exact h
    · have : 2 ^ 53 ≤ 2 ^ e := Nat.pow_le_pow_right (by omega) (by omega)
      omega
  have hlog : mag.log2 = e + k := by
    rw [hm]
    refine (Nat.log2_eq_iff (Nat.ne_of_gt (Nat.mul_pos hq (Nat.two_pow_pos k)))).2 ⟨?_, ?_⟩
    · rw [Nat.pow_add]; exact Nat.mul_le_mul_right _ h1
    · rw [show e + k + 1 = (e + 1) + k by omega, Nat.pow_add]; exact Nat.mul_lt_mul_of_pos_right h2 (Nat.two_pow_pos k)
  have hlast : max (-(k : Int) + (mag.log2 : Int) - 52) (-1074) = -((52 - e : Nat) : Int) := by
    rw [hlog]; omega
  refine ⟨52 - e, ?_⟩
  unfold Format.nearest
  rw [if_neg hmag]
  simp only [lp, fb, bn, ir]
  have hl2 : (max (-(k : Int) + (mag.log2 : Int) - ((52 : Nat) : Int)) (-1074)) = -((52 - e : Nat) : Int) := hlast
  rw [hl2]
  have hkept : Toward.even.cut neg (mag <<< (-(k : Int) - -((52 - e : Nat) : Int)).toNat) (-((52 - e : Nat) : Int) - -(k : Int)).toNat = q * 2 ^ (52 - e) := by
    by_cases hc : k ≤ 52 - e
    · have e1 : (-(k : Int) - -((52 - e : Nat) : Int)).toNat = 52 - e - k := by omega
      have e2 : (-((52 - e : Nat) : Int) - -(k : Int)).toNat = 0 := by omega
      rw [e1, e2, Nat.shiftLeft_eq, hm, Nat.mul_assoc, ← Nat.pow_add, show k + (52 - e - k) = 52 - e by omega]
      have := cut_exact neg (q * 2 ^ (52 - e)) 0 (Nat.mul_pos hq (Nat.two_pow_pos _))
      simpa using this
    · have e1 : (-(k : Int) - -((52 - e : Nat) : Int)).toNat = 0 := by omega
      have e2 : (-((52 - e : Nat) : Int) - -(k : Int)).toNat = k - (52 - e) := by omega
      rw [e1, e2, Nat.shiftLeft_zero, hm]
      have e3 : q * 2 ^ k = q * 2 ^ (52 - e) * 2 ^ (k - (52 - e)) := by rw [Nat.mul_assoc, ← Nat.pow_add, show 52 - e + (k - (52 - e)) = k by omega]
      rw [e3]
      exact cut_exact neg (q * 2 ^ (52 - e)) (k - (52 - e)) (Nat.mul_pos hq (Nat.two_pow_pos _))
  rw [hkept]
  have b1 : 4503599627370496 ≤ q * 2 ^ (52 - e) := by
    have : 2 ^ e * 2 ^ (52 - e) ≤ q * 2 ^ (52 - e) := Nat.mul_le_mul_right _ h1
    rw [← Nat.pow_add, show e + (52 - e) = 52 by omega] at this
    exact this
  have b2 : q * 2 ^ (52 - e) < 9007199254740992 := by
    have : q * 2 ^ (52 - e) < 2 ^ (e + 1) * 2 ^ (52 - e) := Nat.mul_lt_mul_of_pos_right h2 (Nat.two_pow_pos _)
    rw [← Nat.pow_add, show e + 1 + (52 - e) = 53 by omega] at this
    exact this
  have e4 : (-((52 - e : Nat) : Int) - -1074).toNat = 1074 - (52 - e) := by omega
  rw [e4, Nat.min_eq_left (by omega)]
  rw [read_word neg (1074 - (52 - e)) (q * 2 ^ (52 - e)) (by omega) (by omega) b1 b2]
  congr 1
  omega
theorem read_zero (neg : Bool) (k : Int) : double.read (double.nearest neg 0 k) = .number neg 0 (-((1074 : Nat) : Int)) := by
  unfold Format.nearest
  rw [if_pos rfl]
  cases neg <;> decide
theorem signed_zero (s : Bool) (m : Nat) : signed s m 0 = if s then -(m : Int) else (m : Int) := by
  unfold signed
  cases s <;> simp
/-- A number that is whole is written as it is. -/
theorem write_whole {s : Bool} {m k : Nat} {n : Int} (h : signed s m 0 = n * 2 ^ k) (hn : n.natAbs < 9007199254740992) : DW (double.read (double.write (.number s m (-(k : Int))))) n := by
  show DW (double.read (double.nearest s m (-(k : Int)))) n
  by_cases hm : m = 0
  · subst hm
    rw [read_zero]
    have hn0 : n = 0 := by
      rw [signed_zero] at h
      have h2 : n * 2 ^ k = 0 := by rw [← h]; cases s <;> simp
      rcases Int.mul_eq_zero.1 h2 with h3 | h3
      · exact h3
      · exact absurd h3 (Int.ne_of_gt (Int.pow_pos (by omega)))
    refine ⟨s, 0, 1074, rfl, ?_⟩
    rw [hn0, signed_zero, Int.zero_mul]
    cases s <;> rfl
  · have hq : m = n.natAbs * 2 ^ k ∧ 0 < n.natAbs := by
      rw [signed_zero] at h
      have h2 : (n * 2 ^ k).natAbs = n.natAbs * 2 ^ k := by rw [Int.natAbs_mul, Int.natAbs_pow]; rfl
      have h3 : m = n.natAbs * 2 ^ k := by
        rw [← h2, ← h]
        cases s <;> simp
      refine ⟨h3, Nat.pos_of_ne_zero fun h0 => hm ?_⟩
      rw [h3, h0, Nat.zero_mul]
    obtain ⟨j, hj⟩ := nearest_whole s n.natAbs k hq.2 hn m hq.1
    rw [hj]
    refine ⟨s, _, j, rfl, ?_⟩
    rw [signed_zero] at h ⊢
    have hp : (0 : Int) < 2 ^ k := Int.pow_pos (by omega)
    have hs : n = if s then -(n.natAbs : Int) else (n.natAbs : Int) := by
      have hm' : (m : Int) = (n.natAbs : Int) * 2 ^ k := by rw [hq.1]; simp
      cases s
      · simp only [Bool.false_eq_true, if_false] at h ⊢
        rw [hm'] at h
        exact (Int.eq_of_mul_eq_mul_right (Int.ne_of_gt hp) h).symm
      · simp only [if_true] at h ⊢
        rw [hm', ← Int.neg_mul] at h
        exact (Int.eq_of_mul_eq_mul_right (Int.ne_of_gt hp) h).symm
    have e : ((n.natAbs * 2 ^ j : Nat) : Int) = (n.natAbs : Int) * 2 ^ j := by simp
    rw [e]
    cases s
    · simp only [Bool.false_eq_true, if_false] at hs ⊢
      rw [← hs]
    · simp only [if_true] at hs ⊢
      rw [← Int.neg_mul, ← hs]

/-! ### The operations -/
theorem signed_up (s : Bool) (m u : Nat) : signed s m u = signed s m 0 * 2 ^ u := by
  rw [signed_zero]
  unfold signed
  rw [Nat.shiftLeft_eq]
  cases s <;> simp [Int.neg_mul]
theorem sign_of (t : Int) (z : Bool) : signed (if t = 0 then z else decide (t < 0)) t.natAbs 0 = t := by
  rw [signed_zero]
  by_cases h : t = 0
  · subst h; cases z <;> rfl
  · rw [if_neg h]
    by_cases h2 : t < 0
    · simp [h2]; omega
    · simp [h2]; omega
theorem sum_whole {d e : Datum} {a b : Int} (hd : DW d a) (he : DW e b) (h : (a + b).natAbs < 9007199254740992) : ∃ r, d.sum e = some r ∧ DW (double.read (double.write r)) (a + b) := by
  obtain ⟨s, m, k, rfl, h1⟩ := hd
  obtain ⟨t, n, l, rfl, h2⟩ := he
  have hb : min (-(k : Int)) (-(l : Int)) = -((max k l : Nat) : Int) := by omega
  have e1 : (-(k : Int) - min (-(k : Int)) (-(l : Int))).toNat = max k l - k := by omega
  have e2 : (-(l : Int) - min (-(k : Int)) (-(l : Int))).toNat = max k l - l := by omega
  refine ⟨_, rfl, ?_⟩
  rw [e1, e2, hb]
  have ht : signed s m (max k l - k) + signed t n (max k l - l) = (a + b) * 2 ^ (max k l) := by
    rw [signed_up s, signed_up t, h1, h2, Int.mul_assoc, Int.mul_assoc, ← Int.pow_add, ← Int.pow_add, show k + (max k l - k) = max k l by omega, show l + (max k l - l) = max k l by omega, Int.add_mul]
  exact write_whole (by rw [sign_of]; exact ht) h
theorem opp_whole {d : Datum} {a : Int} (hd : DW d a) : DW d.opposite (-a) := by
  obtain ⟨s, m, k, rfl, h1⟩ := hd
  refine ⟨!s, m, k, rfl, ?_⟩
  rw [Int.neg_mul, ← h1, signed_zero, signed_zero]
  cases s <;> simp
theorem prod_whole {d e : Datum} {a b : Int} (hd : DW d a) (he : DW e b) (h : (a * b).natAbs < 9007199254740992) : ∃ r, d.product e = some r ∧ DW (double.read (double.write r)) (a * b) := by
  obtain ⟨s, m, k, rfl, h1⟩ := hd
  obtain ⟨t, n, l, rfl, h2⟩ := he
  refine ⟨_, rfl, ?_⟩
  rw [show -(k : Int) + -(l : Int) = -((k + l : Nat) : Int) by omega]
  refine write_whole ?_ h
  rw [signed_zero] at h1 h2 ⊢
  rw [Int.pow_add, show a * b * (2 ^ k * 2 ^ l) = (a * 2 ^ k) * (b * 2 ^ l) by grind, ← h1, ← h2]
  cases s <;> cases t <;> simp [Int.neg_mul, Int.mul_neg]
theorem WF.add {x y : F} {a b : Int} (hx : WF x a) (hy : WF y b) (h : (a + b).natAbs < 9007199254740992) : WF (fadd x y) (a + b) := by
  obtain ⟨u, rfl, h1⟩ := hx
  obtain ⟨v, rfl, h2⟩ := hy
  obtain ⟨r, e, hr⟩ := sum_whole h1 h2 h
  exact ⟨_, by show double.add u v = _; unfold Format.add; rw [e]; rfl, hr⟩
theorem WF.sub {x y : F} {a b : Int} (hx : WF x a) (hy : WF y b) (h : (a - b).natAbs < 9007199254740992) : WF (fsub x y) (a - b) := by
  obtain ⟨u, rfl, h1⟩ := hx
  obtain ⟨v, rfl, h2⟩ := hy
  obtain ⟨r, e, hr⟩ := sum_whole h1 (opp_whole h2) (by rw [← Int.sub_eq_add_neg]; exact h)
  exact ⟨_, by show double.sub u v = _; unfold Format.sub; rw [e]; rfl, by rw [Int.sub_eq_add_neg]; exact hr⟩
theorem WF.mul {x y : F} {a b : Int} (hx : WF x a) (hy : WF y b) (h : (a * b).natAbs < 9007199254740992) : WF (fmul x y) (a * b) := by
  obtain ⟨u, rfl, h1⟩ := hx
  obtain ⟨v, rfl, h2⟩ := hy
  obtain ⟨r, e, hr⟩ := prod_whole h1 h2 h
  exact ⟨_, by show double.mul u v = _; unfold Format.mul; rw [e]; rfl, hr⟩
theorem cmp_scale (a b : Int) (k : Nat) : compare (a * 2 ^ k) (b * 2 ^ k) = compare a b := by
  have hp : (0 : Int) < 2 ^ k := Int.pow_pos (by omega)
  show compareOfLessAndEq _ _ = compareOfLessAndEq _ _
  unfold compareOfLessAndEq
  by_cases h1 : a < b
  · rw [if_pos h1, if_pos (Int.mul_lt_mul_of_pos_right h1 hp)]
  · rw [if_neg h1, if_neg (fun h => h1 (Int.lt_of_mul_lt_mul_right h (Int.le_of_lt hp)))]
    by_cases h2 : a = b
    · rw [if_pos h2, if_pos (by rw [h2])]
    · rw [if_neg h2, if_neg (fun h => h2 (Int.eq_of_mul_eq_mul_right (Int.ne_of_gt hp) h))]
theorem WF.cmp {x y : F} {a b : Int} (hx : WF x a) (hy : WF y b) : fcmp x y = some (compare a b) := by
  obtain ⟨u, rfl, h1⟩ := hx
  obtain ⟨v, rfl, h2⟩ := hy
  show double.order u v = _
  unfold Format.order
  obtain ⟨s, m, k, e1, h1⟩ := h1
  obtain ⟨t, n, l, e2, h2⟩ := h2
  rw [e1, e2]
  have g1 : (-(k : Int) - min (-(k : Int)) (-(l : Int))).toNat = max k l - k := by omega
  have g2 : (-(l : Int) - min (-(k : Int)) (-(l : Int))).toNat = max k l - l := by omega
  show some (compare (signed s m (-(k : Int) - min (-(k : Int)) (-(l : Int))).toNat) (signed t n (-(l : Int) - min (-(k : Int)) (-(l : Int))).toNat)) = _
  rw [g1, g2, signed_up s, signed_up t, h1, h2, Int.mul_assoc, Int.mul_assoc, ← Int.pow_add, ← Int.pow_add, show k + (max k l - k) = max k l by omega, show l + (max k l - l) = max k l by omega, cmp_scale]
theorem WF.eq {x y : F} {a b : Int} (hx : WF x a) (hy : WF y b) : feq x y = decide (a = b) := by
  unfold feq
  rw [hx.cmp hy]
  show (some (compareOfLessAndEq a b) == some Ordering.eq) = _
  unfold compareOfLessAndEq
  by_cases h1 : a < b
  · rw [if_pos h1, decide_eq_false (by omega)]; rfl
  · rw [if_neg h1]
    by_cases h2 : a = b
    · rw [if_pos h2, decide_eq_true h2]; rfl
    · rw [if_neg h2, decide_eq_false h2]; rfl
/-- A whole number, by Go's own conversion. -/
theorem WF.int (n : Int) (hn : n.natAbs < 9007199254740992) : WF (some (double.write (.number (decide (n < 0)) n.natAbs 0))) n := by
  refine ⟨_, rfl, ?_⟩
  have := write_whole (s := decide (n < 0)) (m := n.natAbs) (k := 0) (n := n) (by
    rw [signed_zero, Int.pow_zero, Int.mul_one]
    by_cases h : n < 0
    · simp [h]; omega
    · simp [h]; omega) hn
  simpa using this
theorem WF.zero : WF (some 0) 0 := ⟨0, rfl, false, 0, 1074, by decide, by rw [signed_zero, Int.zero_mul]; rfl⟩
theorem WF.one : WF (some 4607182418800017408) 1 := ⟨_, rfl, false, 4503599627370496, 52, by decide, by rw [signed_zero]; decide⟩
theorem WF.neg {x : F} {a : Int} (hx : WF x a) : WF (fneg x) (-a) := by
  obtain ⟨u, rfl, s, m, k, e1, h1⟩ := hx
  refine ⟨u ^^^ 9223372036854775808, rfl, !s, m, k, ?_, ?_⟩
  · have hm : (u ^^^ 9223372036854775808) % 9223372036854775808 = u % 9223372036854775808 := xor_mod u
    have hs : ((u ^^^ 9223372036854775808) / 9223372036854775808 % 2 == 1) = !(u / 9223372036854775808 % 2 == 1) := by
      have h2 : (9223372036854775808 : Nat) = 2 ^ 63 := by decide
      have ht : ∀ z : Nat, (z / 9223372036854775808 % 2 == 1) = z.testBit 63 := fun z => by
        rw [h2, Nat.testBit_eq_decide_div_mod_eq]
        by_cases h : z / 2 ^ 63 % 2 = 1 <;> simp [h]
      rw [ht, ht, Nat.testBit_xor]
      have : Nat.testBit 9223372036854775808 63 = true := by decide
      rw [this]; simp
    unfold Format.read at e1 ⊢
    simp only [lp, bn, ir, sw] at e1 ⊢
    rw [hm, hs]
    split at e1
    · rename_i h
      rw [if_pos h]
      obtain ⟨q1, q2, q3⟩ := Datum.number.inj e1
      rw [q1, q2, q3]
    · rename_i h
      rw [if_neg h]
      split at e1
      · rename_i h
        rw [if_pos h]
        obtain ⟨q1, q2, q3⟩ := Datum.number.inj e1
        rw [q1, q2, q3]
      · split at e1 <;> exact absurd e1 (by simp)
  · rw [Int.neg_mul, ← h1, signed_zero, signed_zero]
    cases s <;> simp
end Go.Proofs.Ytghhanifakllpaa.Nu

/- Plain: rounding: a float's value as a fraction, how near a result is. No program in sight. -/
set_option linter.unusedVariables false
set_option linter.unusedSimpArgs false
namespace Go.Proofs.Ytghhanifakllpaa.Nu
open Ieee

/-! ### Powers of two -/
def p2 (k : Int) : Rat := (2 : Rat) ^ k
theorem p2_pos (k : Int) : 0 < p2 k := Rat.zpow_pos (by decide)
theorem p2_add (j k : Int) : p2 (j + k) = p2 j * p2 k := Rat.zpow_add (by decide) j k
theorem p2_zero : p2 0 = 1 := Rat.zpow_zero 2
theorem p2_one : p2 1 = 2 := Rat.zpow_one 2
theorem p2_nat (n : Nat) : p2 (n : Int) = ((2 ^ n : Nat) : Rat) := by
  unfold p2
  rw [Rat.zpow_natCast]
  simp
theorem p2_mono {j k : Int} (h : j ≤ k) : p2 j ≤ p2 k := by
  obtain ⟨n, rfl⟩ : ∃ n : Nat, k = j + n := ⟨(k - j).toNat, by omega⟩
  rw [p2_add, p2_nat]
  have h1 : (1 : Rat) ≤ ((2 ^ n : Nat) : Rat) := by
    have : ((1 : Nat) : Rat) ≤ ((2 ^ n : Nat) : Rat) := Rat.natCast_le_natCast.2 (Nat.one_le_two_pow)
    simpa using this
  have := Rat.mul_le_mul_of_nonneg_left h1 (Rat.le_of_lt (p2_pos j))
  rwa [Rat.mul_one] at this
theorem p2_lt {j k : Int} (h : p2 j ≤ p2 k) : j ≤ k := by
  by_cases hjk : j ≤ k
  · exact hjk
  · have h1 := p2_mono (show k + 1 ≤ j by omega)
    rw [p2_add, p2_one] at h1
    have := p2_pos k
    grind

/-! ### To cut -/
theorem cut_near (neg : Bool) (n D : Nat) : 2 * (Toward.even.cut neg n D * 2 ^ D) ≤ 2 * n + 2 ^ D ∧ 2 * n ≤ 2 * (Toward.even.cut neg n D * 2 ^ D) + 2 ^ D := by
  unfold Toward.cut
  simp only [Nat.one_shiftLeft]
  by_cases hD : D ≤ n.log2 + 2
  · rw [Nat.min_eq_left hD]
    have hp := Nat.two_pow_pos D
    generalize 2 ^ D = g at hp ⊢
    have h1 := Nat.div_add_mod n g
    have h2 := Nat.mod_lt n hp
    generalize n % g = r at h1 h2 ⊢
    generalize hq : n / g = q at h1 ⊢
    rw [Nat.mul_comm] at h1
    by_cases hm : g < 2 * r ∨ (g = 2 * r ∧ q % 2 = 1)
    · have e : (decide (g < 2 * r) || (g == 2 * r && q % 2 == 1)) = true := by simpa using hm
      rw [e]
      have e2 : (q + true.toNat) * g = q * g + g := by rw [Nat.add_mul]; simp
      rw [e2]
      omega
    · have e : (decide (g < 2 * r) || (g == 2 * r && q % 2 == 1)) = false := by
        rw [← Bool.not_eq_true]; simpa using hm
      rw [e]
      have e2 : (q + false.toNat) * g = q * g := by simp
      rw [e2]
      have : 2 * r ≤ g := by omega
      omega
  · rw [Nat.min_eq_right (by omega)]
    have h1 : n < 2 ^ (n.log2 + 1) := Nat.lt_log2_self
    have h2 : 2 ^ (n.log2 + 2) = 2 * 2 ^ (n.log2 + 1) := by rw [Nat.pow_succ 2 (n.log2 + 1)]; omega
    have h3 : 2 ^ (n.log2 + 2) ≤ 2 ^ D := Nat.pow_le_pow_right (by omega) (by omega)
    rw [Nat.div_eq_of_lt (by omega), Nat.mod_eq_of_lt (by omega)]
    have e : (decide (2 ^ (n.log2 + 2) < 2 * n) || (2 ^ (n.log2 + 2) == 2 * n && 0 % 2 == 1)) = false := by
      have : ¬ 2 ^ (n.log2 + 2) < 2 * n := by omega
      simp [this]
    rw [e]
    simp
    omega

/-! ### To read -/
theorem read_rung (neg : Bool) (L kept : Nat) (h : L = 0 ∨ 4503599627370496 ≤ kept) (h1 : kept ≤ 9007199254740992) (h2 : L ≤ 2040) :
    ∃ (m : Nat) (k : Int), double.read (double.word neg (L * 4503599627370496 + kept)) = .number neg m k ∧ (m : Rat) * p2 k = (kept : Rat) * p2 ((L : Int) - 1074) ∧ -1074 ≤ k := by
  have e1 : double.word neg (L * 4503599627370496 + kept) % 9223372036854775808 = L * 4503599627370496 + kept := by
    unfold Format.word
    rw [sw]
    cases neg <;> simp <;> omega
  have e2 : (double.word neg (L * 4503599627370496 + kept) / 9223372036854775808 % 2 == 1) = neg := by
    unfold Format.word
    rw [sw]
    cases neg
    · simp; omega
    · simp; omega
  unfold Format.read
  simp only [lp, bn, ir, sw, e1, e2]
  by_cases hk : kept < 4503599627370496
  · have hL : L = 0 := by omega
    subst hL
    rw [if_pos (by omega)]
    exact ⟨_, _, rfl, by simp, by omega⟩
  · rw [if_neg (by omega), if_pos (by omega)]
    by_cases hk2 : kept = 9007199254740992
    · subst hk2
      refine ⟨_, _, rfl, ?_, by omega⟩
      have a1 : 4503599627370496 + (L * 4503599627370496 + 9007199254740992) % 4503599627370496 = 4503599627370496 := by omega
      have a2 : (-1074 : Int) + (((L * 4503599627370496 + 9007199254740992) / 4503599627370496 - 1 : Nat) : Int) = 1 + ((L : Int) - 1074) := by omega
      rw [a1, a2, p2_add, p2_one]
      grind
    · refine ⟨_, _, rfl, ?_, by omega⟩
      have a1 : 4503599627370496 + (L * 4503599627370496 + kept) % 4503599627370496 = kept := by omega
      have a2 : (-1074 : Int) + (((L * 4503599627370496 + kept) / 4503599627370496 - 1 : Nat) : Int) = (L : Int) - 1074 := by omega
      rw [a1, a2]

/-! ### To round -/
theorem nat_p2 (n k : Nat) : ((n * 2 ^ k : Nat) : Rat) = (n : Rat) * p2 k := by
  rw [p2_nat]; exact Rat.natCast_mul n (2 ^ k)
theorem near_write (s : Bool) (mag : Nat) (place : Int) {B : Rat} (hB : (mag : Rat) * p2 place ≤ B) (hB2 : B ≤ p2 1000) :
    ∃ (m : Nat) (k : Int), double.read (double.nearest s mag place) = .number s m k ∧ -1074 ≤ k ∧ (m : Rat) * p2 k ≤ (mag : Rat) * p2 place + (B * p2 (-53) + p2 (-1075)) ∧ (mag : Rat) * p2 place ≤ (m : Rat) * p2 k + (B * p2 (-53) + p2 (-1075)) := by
  have hplace := p2_pos place
  have hB0 : 0 ≤ B := by
    have h1 : (0 : Rat) ≤ (mag : Rat) := by
      have : ((0 : Nat) : Rat) ≤ (mag : Rat) := Rat.natCast_le_natCast.2 (Nat.zero_le _)
      simpa using this
    have := Rat.mul_nonneg h1 (Rat.le_of_lt hplace)
    grind
  have hu := p2_pos (-53)
  have ht := p2_pos (-1075)
  have hBu := Rat.mul_nonneg hB0 (Rat.le_of_lt hu)
  by_cases hmag : mag = 0
  · subst hmag
    refine ⟨0, _, read_zero s place, by omega, ?_, ?_⟩ <;> simp <;> grind
  · obtain ⟨l, hl⟩ : ∃ l, l = mag.log2 := ⟨_, rfl⟩
    have h1 : 2 ^ l ≤ mag := by rw [hl]; exact Nat.log2_self_le hmag
    have h2 : mag < 2 ^ (l + 1) := by rw [hl]; exact Nat.lt_log2_self
    obtain ⟨last, hlast⟩ : ∃ last : Int, last = max (place + (l : Int) - 52) (-1074) := ⟨_, rfl⟩
    obtain ⟨U, hU⟩ : ∃ U, U = (place - last).toNat := ⟨_, rfl⟩
    obtain ⟨D, hD⟩ : ∃ D, D = (last - place).toNat := ⟨_, rfl⟩
    obtain ⟨c, hc⟩ : ∃ c, c = Toward.even.cut s (mag <<< U) D := ⟨_, rfl⟩
    obtain ⟨n1, n2⟩ := cut_near s (mag <<< U) D
    rw [← hc, Nat.shiftLeft_eq] at n1 n2
    have hpD := Nat.two_pow_pos D
    have hmU : mag * 2 ^ U < 2 ^ (53 + D) := by
      have : mag * 2 ^ U < 2 ^ (l + 1) * 2 ^ U := Nat.mul_lt_mul_of_pos_right h2 (Nat.two_pow_pos U)
      rw [← Nat.pow_add] at this
      exact Nat.lt_of_lt_of_le this (Nat.pow_le_pow_right (by omega) (by omega))
    have hc53 : c ≤ 9007199254740992 := by
      rw [Nat.pow_add] at hmU
      have : 2 * (c * 2 ^ D) < 2 * ((2 ^ 53 + 1) * 2 ^ D) := by
        have e : 2 * ((2 ^ 53 + 1) * 2 ^ D) = 2 * (2 ^ 53 * 2 ^ D) + 2 * 2 ^ D := by rw [Nat.add_mul]; omega
        omega
      have := Nat.lt_of_mul_lt_mul_right (Nat.lt_of_mul_lt_mul_left this)
      omega
    have hc52 : last = -1074 ∨ 4503599627370496 ≤ c := by
      by_cases hla : last = -1074
      · exact .inl hla
      · right
        have e : l + U = 52 + D := by omega
        have : 2 ^ l * 2 ^ U ≤ mag * 2 ^ U := Nat.mul_le_mul_right _ h1
        rw [← Nat.pow_add, e, Nat.pow_add] at this
        have h3 : (2 * 2 ^ 52 - 1) * 2 ^ D ≤ 2 * c * 2 ^ D := by
          rw [Nat.sub_mul, Nat.mul_assoc, Nat.mul_assoc]; omega
        have := Nat.le_of_mul_le_mul_right h3 hpD
        omega
    have hp2e : p2 (place + l) ≤ (mag : Rat) * p2 place := by
      rw [p2_add, p2_nat, Rat.mul_comm]
      exact Rat.mul_le_mul_of_nonneg_right (Rat.natCast_le_natCast.2 h1) (Rat.le_of_lt hplace)
    have he : place + l ≤ 1000 := p2_lt (Rat.le_trans hp2e (Rat.le_trans hB hB2))
    obtain ⟨L, hL⟩ : ∃ L, L = (last + 1074).toNat := ⟨_, rfl⟩
    have hLc : L = 0 ∨ 4503599627370496 ≤ c := by
      rcases hc52 with h | h
      · left; omega
      · exact .inr h
    obtain ⟨m, k, e1, e2, e3⟩ := read_rung s L c hLc hc53 (by omega)
    have hread : double.read (double.nearest s mag place) = .number s m k := by
      unfold Format.nearest
      rw [if_neg hmag]
      simp only [lp, fb, bn, ir]
      rw [← hl]
      have a1 : max (place + (l : Int) - ((52 : Nat) : Int)) (-1074) = last := hlast.symm
      rw [a1, ← hU, ← hD, ← hc]
      have a2 : (last - -1074).toNat = L := by rw [hL]; congr 1
      rw [a2, Nat.min_eq_left (by omega)]
      exact e1
    have hkl : (L : Int) - 1074 = last := by omega
    rw [hkl] at e2
    -- as fractions
    have q1 : (2 : Rat) * ((c : Rat) * p2 D) ≤ 2 * ((mag : Rat) * p2 U) + p2 D := by
      rw [← nat_p2, ← nat_p2, p2_nat]
      have : ((2 * (c * 2 ^ D) : Nat) : Rat) ≤ ((2 * (mag * 2 ^ U) + 2 ^ D : Nat) : Rat) := Rat.natCast_le_natCast.2 n1
      rw [Rat.natCast_add, Rat.natCast_mul, Rat.natCast_mul 2 (mag * 2 ^ U)] at this
      exact this
    have q2 : (2 : Rat) * ((mag : Rat) * p2 U) ≤ 2 * ((c : Rat) * p2 D) + p2 D := by
      rw [← nat_p2, ← nat_p2, p2_nat]
      have : ((2 * (mag * 2 ^ U) : Nat) : Rat) ≤ ((2 * (c * 2 ^ D) + 2 ^ D : Nat) : Rat) := Rat.natCast_le_natCast.2 n2
      rw [Rat.natCast_add, Rat.natCast_mul, Rat.natCast_mul 2 (c * 2 ^ D)] at this
      exact this
    have hP : ∀ x : Rat, x * p2 D * p2 (last - D) = x * p2 last := fun x => by
      rw [Rat.mul_assoc, ← p2_add, show (D : Int) + (last - D) = last by omega]
    have hQ : (mag : Rat) * p2 U * p2 (last - D) = (mag : Rat) * p2 place := by
      rw [Rat.mul_assoc, ← p2_add, show (U : Int) + (last - D) = place by omega]
    have hR : p2 D * p2 (last - D) = 2 * p2 (last - 1) := by
      rw [← p2_add, ← p2_one, ← p2_add, show (D : Int) + (last - D) = 1 + (last - 1) by omega]
    have hpos := Rat.le_of_lt (p2_pos (last - D))
    have r1 := Rat.mul_le_mul_of_nonneg_right q1 hpos
    have r2 := Rat.mul_le_mul_of_nonneg_right q2 hpos
    rw [Rat.add_mul, Rat.mul_assoc, Rat.mul_assoc 2, hP, hQ, hR] at r1
    rw [Rat.add_mul, Rat.mul_assoc, Rat.mul_assoc 2, hP, hQ, hR] at r2
    have herr : p2 (last - 1) ≤ B * p2 (-53) + p2 (-1075) := by
      by_cases hla : last = -1074
      · rw [hla]; show p2 (-1075) ≤ _; grind
      · have : last - 1 = (place + l) + (-53) := by omega
        rw [this, p2_add]
        have := Rat.mul_le_mul_of_nonneg_right (Rat.le_trans hp2e hB) (Rat.le_of_lt hu)
        grind
    refine ⟨m, k, hread, e3, ?_, ?_⟩
    · rw [e2]; grind
    · rw [e2]; grind
end Go.Proofs.Ytghhanifakllpaa.Nu

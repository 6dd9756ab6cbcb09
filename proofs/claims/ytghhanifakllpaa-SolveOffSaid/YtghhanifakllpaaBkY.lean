/- Words in the clean executor: first bits; two rows blended. -/
import Derived.Test.YtghhanifakllpaaBiY
import Derived.Test.YtghhanifakllpaaKXY
set_option linter.unusedSimpArgs false
set_option linter.unusedVariables false
namespace Go.Proofs.Ytghhanifakllpaa
open Go.Clean

theorem top_word {w0 w1 w2 r s : Nat} (hs : s ≤ 32) (h0 : w0 < 4294967296) (h1 : w1 < 4294967296) : (w0 + 4294967296 * (w1 + 4294967296 * (w2 + 4294967296 * r))) / 2 ^ s % 18446744073709551616 = w0 / 2 ^ s + w1 * 2 ^ (32 - s) + w2 * 2 ^ (64 - s) % 18446744073709551616 := by
  obtain ⟨P, hP⟩ : ∃ P, P = 2 ^ s := ⟨_, rfl⟩
  obtain ⟨R, hR⟩ : ∃ R, R = 2 ^ (32 - s) := ⟨_, rfl⟩
  have hp : 0 < P := by rw [hP]; exact Nat.two_pow_pos s
  have hr : 0 < R := by rw [hR]; exact Nat.two_pow_pos _
  have e32 : (4294967296 : Nat) = P * R := by rw [hP, hR, ← Nat.pow_add, show s + (32 - s) = 32 by omega]
  have e64 : 2 ^ (64 - s) = R * 4294967296 := by rw [hR, show 64 - s = (32 - s) + 32 by omega, Nat.pow_add]
  rw [← hP, ← hR, e64]
  have e1 : w0 + 4294967296 * (w1 + 4294967296 * (w2 + 4294967296 * r)) = w0 + P * (R * (w1 + 4294967296 * (w2 + 4294967296 * r))) := by rw [← Nat.mul_assoc P R, ← e32]
  rw [e1, Nat.add_mul_div_left _ _ hp]
  have e2 : w0 / P + R * (w1 + 4294967296 * (w2 + 4294967296 * r)) = (w0 / P + w1 * R) + w2 * (R * 4294967296) + 18446744073709551616 * (R * r) := by
    rw [Nat.mul_add R, Nat.mul_left_comm R 4294967296, Nat.mul_add R, Nat.mul_add 4294967296, Nat.mul_comm R w1, Nat.mul_left_comm R 4294967296]
    have : w2 * (R * 4294967296) = 4294967296 * (R * w2) := by rw [Nat.mul_comm w2, Nat.mul_comm R 4294967296, Nat.mul_assoc]
    omega
  rw [e2, Nat.add_mul_mod_self_left]
  have hA : w0 / P + w1 * R < R * 4294967296 := by
    have h2 : w0 / P < R := by
      refine Nat.div_lt_of_lt_mul ?_
      rw [← e32]; exact h0
    have h3 : (w1 + 1) * R ≤ 4294967296 * R := Nat.mul_le_mul_right _ h1
    rw [Nat.add_mul, Nat.one_mul, Nat.mul_comm 4294967296] at h3
    omega
  -- the third one's last bits are noughts
  have e3 : w2 * (R * 4294967296) % 18446744073709551616 = w2 % P * (R * 4294967296) := by
    have : (18446744073709551616 : Nat) = P * (R * 4294967296) := by rw [← Nat.mul_assoc, ← e32]
    rw [this, Nat.mul_mod_mul_right]
  have h4 : w2 % P < P := Nat.mod_lt _ hp
  have h5 : (w2 % P + 1) * (R * 4294967296) ≤ P * (R * 4294967296) := Nat.mul_le_mul_right _ h4
  rw [← Nat.mul_assoc P R, ← e32, Nat.add_mul, Nat.one_mul] at h5
  rw [Nat.add_mod, e3, Nat.mod_eq_of_lt (show w0 / P + w1 * R < 18446744073709551616 by omega)]
  exact Nat.mod_eq_of_lt (by omega)
section
set_option maxRecDepth 10000
structure ToF (fr : Fr) (va : Value) (k s : Nat) (i : Int) (x : Nat) : Prop where
  n : fr.n = 61
  d : fr.d = []
  f0 : fr.at 0 = va
  f5 : fr.at 5 = .int .i64 (k : Nat)
  f6 : fr.at 6 = .int .u64 (s : Nat)
  f7 : fr.at 7 = .int .u64 (x : Nat)
  f8 : fr.at 8 = .int .i64 i
def toI (m : Mem) (va : Value) (k s x2 x1 x0 : Nat) (q : Nat) (fr : Fr) (m' : Mem) : Prop := Only m m' ∧ ((q = 3 ∧ ToF fr va k s 2 0) ∨ (q = 2 ∧ ToF fr va k s 1 x2) ∨ (q = 1 ∧ ToF fr va k s 0 x1) ∨ (q = 0 ∧ ToF fr va k s (-1) x0))
set_option maxHeartbeats 4000000 in
theorem topBits_ok (n : Nat) {m : Mem} {va : Value} {a : List Nat} {c : Nat} (ha : WL m va a) (hl : a.length < 1000000) (hc : c < 100000000) {Q : Value → Mem → Prop}
    (hQ : ∀ m', Only m m' → Q (.int .u64 ((wv a / 2 ^ c % 18446744073709551616 : Nat) : Int)) m') :
    Gives (callN Try.prog kn1 (n + 1) 101 [va, .int .i64 (c : Int)]) m Q := by
  refine gives_fn (nt := 61) rfl Try.func101 rfl rfl rfl (Nat.le_of_ble_eq_true rfl) fun fr hn hd hargs => ?_
  have h0 : fr.at 0 = _ := hargs 0 _ rfl
  have h1 : fr.at 1 = _ := hargs 1 _ rfl
  clear hargs
  obtain ⟨k, hk⟩ : ∃ k, k = c / 32 := ⟨_, rfl⟩
  obtain ⟨s, hs⟩ : ∃ s, s = c % 32 := ⟨_, rfl⟩
  have hck : 2 ^ c = pw k * 2 ^ s := by rw [pw_two, ← Nat.pow_add, show 32 * k + s = c by omega]
  have hs32 : s ≤ 32 := by omega
  have hval : wv a / 2 ^ c % 18446744073709551616 = wat a k / 2 ^ s + wat a (k + 1) * 2 ^ (32 - s) + wat a (k + 2) * 2 ^ (64 - s) % 18446744073709551616 := by
    rw [hck, ← Nat.div_div_eq_div_mul, ← wv_drop_div a ha.wd, wv_far a k, wv_far a (k + 1), wv_far a (k + 1 + 1)]
    exact top_word hs32 (wat_lt ha.wd _) (wat_lt ha.wd _)
  rw [hval] at hQ
  have q1 : ∀ {P : Program} {t : TypeId} {xo yo : Operand}, binX P .quo t xo yo (.int .i64 (c : Int)) (.int .i64 32) = some (.int .i64 (k : Int)) := fun {P t xo yo} => by rw [hk]; exact bin_quo32 c (by omega)
  have q2 : ∀ {P : Program} {t : TypeId} {xo yo : Operand}, binX P .rem t xo yo (.int .i64 (c : Int)) (.int .i64 32) = some (.int .i64 (s : Int)) := fun {P t xo yo} => by rw [hs]; exact bin_rem32 c
  have q3 := cvS s (by omega)
  have b0 := wat_lt ha.wd k
  have b1 := wat_lt ha.wd (k + 1)
  have b2 := wat_lt ha.wd (k + 2)
  obtain ⟨w0, hw0⟩ : ∃ w, w = wat a k := ⟨_, rfl⟩
  obtain ⟨w1, hw1⟩ : ∃ w, w = wat a (k + 1) := ⟨_, rfl⟩
  obtain ⟨w2, hw2⟩ : ∃ w, w = wat a (k + 2) := ⟨_, rfl⟩
  rw [← hw0] at b0
  rw [← hw1] at b1
  rw [← hw2] at b2
  rw [← hw0, ← hw1, ← hw2] at hQ
  obtain ⟨x2, hx2⟩ : ∃ x, x = w2 * 2 ^ (64 - s) % 18446744073709551616 := ⟨_, rfl⟩
  obtain ⟨y1, hy1⟩ : ∃ x, x = w1 * 2 ^ (32 - s) := ⟨_, rfl⟩
  obtain ⟨y0, hy0⟩ : ∃ x, x = w0 / 2 ^ s := ⟨_, rfl⟩
  rw [← hx2, ← hy1, ← hy0] at hQ
  have hP := Nat.two_pow_pos s
  have e64 : 2 ^ (64 - s) = 2 ^ (32 - s) * 4294967296 := by rw [show 64 - s = (32 - s) + 32 by omega, Nat.pow_add]
  have e32 : 2 ^ (32 - s) * 2 ^ s = 4294967296 := by rw [← Nat.pow_add, show 32 - s + s = 32 by omega]
  have r32 : 2 ^ (32 - s) ≤ 4294967296 := Nat.pow_le_pow_right (n := 2) (by decide) (show 32 - s ≤ 32 by omega)
  have hy1b : y1 < 2 ^ (64 - s) := by
    rw [hy1, e64, Nat.mul_comm (2 ^ (32 - s))]
    exact Nat.mul_lt_mul_of_pos_right b1 (Nat.two_pow_pos _)
  have hy0b : y0 < 2 ^ (32 - s) := by
    rw [hy0]
    refine Nat.div_lt_of_lt_mul ?_
    rw [Nat.mul_comm, e32]; exact b0
  have hx2m : ∃ z, x2 = z * 2 ^ (64 - s) := by
    refine ⟨w2 % 2 ^ s, ?_⟩
    have : (18446744073709551616 : Nat) = 2 ^ s * 2 ^ (64 - s) := by rw [← Nat.pow_add, show s + (64 - s) = 64 by omega]
    rw [hx2, this, Nat.mul_mod_mul_right]
  have hx2b : x2 < 18446744073709551616 := by rw [hx2]; exact Nat.mod_lt _ (by decide)
  have hp64 : 2 ^ (64 - s) ≤ 18446744073709551616 := Nat.pow_le_pow_right (n := 2) (by decide) (show 64 - s ≤ 64 by omega)
  have hy164 : y1 < 18446744073709551616 := by omega
  have hy064 : y0 < 18446744073709551616 := by omega
  have or1 : x2 ||| y1 = x2 + y1 := by
    obtain ⟨z, hz⟩ := hx2m
    rw [hz]; exact or_add z y1 _ hy1b
  have hroom1 : x2 + y1 < 18446744073709551616 := by
    rw [← or1]
    exact Nat.or_lt_two_pow (n := 64) hx2b hy164
  have or0 : (x2 + y1) ||| y0 = x2 + y1 + y0 := by
    obtain ⟨z, hz⟩ := hx2m
    have : x2 + y1 = (z * 4294967296 + w1) * 2 ^ (32 - s) := by
      rw [hz, hy1, e64, Nat.add_mul, Nat.mul_assoc, Nat.mul_comm 4294967296]
    rw [this]; exact or_add _ y0 _ hy0b
  obtain ⟨x1, hx1⟩ : ∃ x, x = x2 + y1 := ⟨_, rfl⟩
  obtain ⟨x0, hx0⟩ : ∃ x, x = x1 + y0 := ⟨_, rfl⟩
  have B1 : ∀ {P : Program} {t' : TypeId} {xo yo : Operand}, binX P .or t' xo yo (.int .u64 (x2 : Int)) (.int .u64 (y1 : Int)) = some (.int .u64 (x1 : Int)) := fun {P t' xo yo} => by rw [bin_or64 _ _ hx2b hy164, or1, hx1]
  have B0 : ∀ {P : Program} {t' : TypeId} {xo yo : Operand}, binX P .or t' xo yo (.int .u64 (x1 : Int)) (.int .u64 (y0 : Int)) = some (.int .u64 (x0 : Int)) := fun {P t' xo yo} => by rw [bin_or64 _ _ (by omega) hy064, hx0, hx1, or0]
  have S0 : ∀ {P : Program} {t' : TypeId} {xo yo : Operand}, binX P .shr t' xo yo (.int .u64 (w0 : Int)) (.int .u64 (s : Int)) = some (.int .u64 (y0 : Int)) := fun {P t' xo yo} => by rw [hy0]; exact bin_shrU w0 s (by omega)
  obtain ⟨s1, hs1⟩ : ∃ x, x = 32 - s := ⟨_, rfl⟩
  obtain ⟨s2, hs2⟩ : ∃ x, x = 64 - s := ⟨_, rfl⟩
  have W1 : IntKind.u64.wrap (32 - (s : Int)) = (s1 : Int) := by rw [hs1, w64]; omega
  have W2 : IntKind.u64.wrap (64 - (s : Int)) = (s2 : Int) := by rw [hs2, w64]; omega
  have S1 : ∀ {P : Program} {t' : TypeId} {xo yo : Operand}, binX P .shl t' xo yo (.int .u64 (w1 : Int)) (.int .u64 (s1 : Int)) = some (.int .u64 (y1 : Int)) := fun {P t' xo yo} => by rw [hy1, ← hs1]; exact bin_shlU w1 s1 (by omega) (by rw [hs1, ← hy1]; exact hy164)
  have S2 : ∀ {P : Program} {t' : TypeId} {xo yo : Operand}, binX P .shl t' xo yo (.int .u64 (w2 : Int)) (.int .u64 (s2 : Int)) = some (.int .u64 (x2 : Int)) := fun {P t' xo yo} => by
    have e : ((w2 * 2 ^ s2 : Nat) : Int) % 18446744073709551616 = ((w2 * 2 ^ s2 % 18446744073709551616 : Nat) : Int) := rfl
    rw [bin_shl, show min s2 IntKind.u64.bits = s2 from Nat.min_eq_left (show s2 ≤ 64 by omega), w64, e, hx2, hs2]
  have x2z : s = 0 → x2 = 0 := fun h => by rw [hx2, h]; exact Nat.mul_mod_left w2 _
  have lenA := ha.len
  simp [h0, h1, hn, lenA, q1, q2, q3]
  refine code_loop (toI m va k s x2 x1 x0) 3 (by omega) ⟨Only.refl m, .inl ⟨rfl, by simp [hn], by simp [hd], by simp [h0], by simp, by simp, by simp, by simp⟩⟩ ?_
  clear hn hd h0 h1
  rintro q fr m' ⟨ho, ⟨rfl, F⟩ | ⟨rfl, F⟩ | ⟨rfl, F⟩ | ⟨rfl, F⟩⟩
  · have hn := F.n
    have f0 := F.f0
    obtain ⟨p, hp⟩ : ∃ p, p = k + 2 := ⟨_, rfl⟩
    have hwp : IntKind.i64.wrap ((k : Int) + 2) = (p : Int) := by rw [hp]; exact wrap_add k 2 (by omega)
    have hwp' : IntKind.i64.wrap (k : Int) = (k : Int) := by have := wrap_add k 0 (by omega); simpa using this
    have hwi : IntKind.i64.wrap ((2 : Int) - 1) = 2 - 1 := rfl
    have f8 := F.f8
    by_cases hpl : p < a.length
    · obtain ⟨b1', o1, k1, x1', hA⟩ := (ha.only ho).rd (by omega)
      have g1 := hA.get p hpl
      have g2 := hA.at'
      rw [hp, ← hw2] at g1
      rw [hA.val] at f0 lenA
      have cv := cv32_64 _ b2
      have hpl' : k + 2 < a.length := by omega
      have hx1'' := g1
      rw [← hp] at g1
      by_cases hs0 : 0 < s
      · simp [hn, f0, F.f5, F.f6, F.f7, f8, lenA, hwp, hpl, idx_W _ _ _ _ _ _ hpl, g2, g1, cv, hs0, yieldX, boolOf_bool, W2, S2]
        exact ⟨2, by omega, ho.trans (Only.rd' _ _), .inr (.inl ⟨rfl, by simp [hn], by simp [F.d], by simp [f0, hA.val], by simp [F.f5], by simp [F.f6], by simp, by simp; rfl⟩)⟩
      · obtain rfl : s = 0 := by omega
        simp [hn, f0, F.f5, F.f6, F.f7, f8, lenA, hwp, hpl, idx_W _ _ _ _ _ _ hpl, g2, g1, cv, yieldX, boolOf_bool]
        exact ⟨2, by omega, ho.trans (Only.rd' _ _), .inr (.inl ⟨rfl, by simp [hn], by simp [F.d], by simp [f0, hA.val], by simp [F.f5], by simp [F.f6], by simp [F.f7, x2z rfl], by simp; rfl⟩)⟩
    · have hz : w2 = 0 := by rw [hw2, ← hp]; exact wat_far (by omega)
      subst hz
      by_cases hs0 : 0 < s
      · have S2' := @S2
        simp only [Int.natCast_zero] at S2'
        simp [hn, f0, F.f5, F.f6, F.f7, f8, lenA, hwp, hpl, hs0, yieldX, boolOf_bool, W2, S2']
        exact ⟨2, by omega, ho, .inr (.inl ⟨rfl, by simp [hn], by simp [F.d], by simp [f0], by simp [F.f5], by simp [F.f6], by simp, by simp; rfl⟩)⟩
      · obtain rfl : s = 0 := by omega
        simp [hn, f0, F.f5, F.f6, F.f7, f8, lenA, hwp, hpl, yieldX, boolOf_bool]
        exact ⟨2, by omega, ho, .inr (.inl ⟨rfl, by simp [hn], by simp [F.d], by simp [f0], by simp [F.f5], by simp [F.f6], by simp [F.f7, x2z rfl], by simp; rfl⟩)⟩
  · have hn := F.n
    have f0 := F.f0
    obtain ⟨p, hp⟩ : ∃ p, p = k + 1 := ⟨_, rfl⟩
    have hwp : IntKind.i64.wrap ((k : Int) + 1) = (p : Int) := by rw [hp]; exact wrap_add k 1 (by omega)
    have hwp' : IntKind.i64.wrap (k : Int) = (k : Int) := by have := wrap_add k 0 (by omega); simpa using this
    have hwi : IntKind.i64.wrap ((1 : Int) - 1) = 1 - 1 := rfl
    have f8 := F.f8
    by_cases hpl : p < a.length
    · obtain ⟨b1', o1, k1, x1', hA⟩ := (ha.only ho).rd (by omega)
      have g1 := hA.get p hpl
      have g2 := hA.at'
      rw [hp, ← hw1] at g1
      rw [hA.val] at f0 lenA
      have cv := cv32_64 _ b1
      have hpl' : k + 1 < a.length := by omega
      rw [← hp] at g1
      simp [hn, f0, F.f5, F.f6, F.f7, f8, lenA, hwp, hpl, idx_W _ _ _ _ _ _ hpl, g2, g1, cv, yieldX, boolOf_bool, W1, S1, B1]
      exact ⟨1, by omega, ho.trans (Only.rd' _ _), .inr (.inr (.inl ⟨rfl, by simp [hn], by simp [F.d], by simp [f0, hA.val], by simp [F.f5], by simp [F.f6], by simp, by simp; rfl⟩))⟩
    · have hz : w1 = 0 := by rw [hw1]; exact wat_far (by omega)
      subst hz
      have hpk : ¬ p < a.length := by omega
      have Z1 := @S1
      simp only [Int.natCast_zero] at Z1
      simp [hn, f0, F.f5, F.f6, F.f7, f8, lenA, hwp, hpk, yieldX, boolOf_bool, W1, Z1, B1]
      exact ⟨1, by omega, ho, .inr (.inr (.inl ⟨rfl, by simp [hn], by simp [F.d], by simp [f0], by simp [F.f5], by simp [F.f6], by simp, by simp; rfl⟩))⟩
  · have hn := F.n
    have f0 := F.f0
    obtain ⟨p, hp⟩ : ∃ p, p = k + 0 := ⟨_, rfl⟩
    have hwp : IntKind.i64.wrap ((k : Int) + 0) = (p : Int) := by rw [hp]; exact wrap_add k 0 (by omega)
    have hwp' : IntKind.i64.wrap (k : Int) = (k : Int) := by have := wrap_add k 0 (by omega); simpa using this
    have hwi : IntKind.i64.wrap ((0 : Int) - 1) = 0 - 1 := rfl
    have f8 := F.f8
    by_cases hpl : p < a.length
    · obtain ⟨b1', o1, k1, x1', hA⟩ := (ha.only ho).rd (by omega)
      have g1 := hA.get p hpl
      have g2 := hA.at'
      rw [hp, show k + 0 = k from rfl, ← hw0] at g1
      rw [hA.val] at f0 lenA
      have cv := cv32_64 _ b0
      have hpl' : k + 0 < a.length := by omega
      have hpk : k < a.length := by omega
      simp [hn, f0, F.f5, F.f6, F.f7, f8, lenA, hwp', hpk, idx_W _ _ _ _ _ _ hpk, g2, g1, cv, yieldX, boolOf_bool, S0, B0]
      exact ⟨ho.trans (Only.rd' _ _), .inr (.inr (.inr ⟨rfl, by simp [hn], by simp [F.d], by simp [f0, hA.val], by simp [F.f5], by simp [F.f6], by simp, by simp; rfl⟩))⟩
    · have hz : w0 = 0 := by rw [hw0]; exact wat_far (by omega)
      subst hz
      have hpk : ¬ k < a.length := by omega
      have Z1 := @S0
      simp only [Int.natCast_zero] at Z1
      simp [hn, f0, F.f5, F.f6, F.f7, f8, lenA, hwp', hpk, yieldX, boolOf_bool, Z1, B0]
      exact ⟨ho, .inr (.inr (.inr ⟨rfl, by simp [hn], by simp [F.d], by simp [f0], by simp [F.f5], by simp [F.f6], by simp, by simp; rfl⟩))⟩
  · have hn := F.n
    simp [hn, F.f7, F.f8, F.d]
    have := hQ m' ho
    rw [show y0 + y1 + x2 = x0 by omega] at this
    exact this
end
end Go.Proofs.Ytghhanifakllpaa

/- Words in the clean executor: two rows blended. -/
namespace Go.Proofs.Ytghhanifakllpaa
open Go.Clean

theorem w63 (n : Int) (h1 : -9223372036854775808 ≤ n) (h2 : n < 9223372036854775808) : IntKind.i64.wrap n = n := by
  have e1 : (2 : Int) ^ 64 = 18446744073709551616 := by decide
  have e2 : (2 : Int) ^ 63 = 9223372036854775808 := by decide
  simp only [IntKind.wrap]
  simp [IntKind.bits, IntKind.signed, e1, e2]
  omega
section
theorem cv32_i (a : Nat) (h : a < 4294967296) : convX Try.prog 113 2 (.int .u32 (a : Int)) = some (.int .i64 (a : Int)) := by
  have e : convX Try.prog 113 2 (.int .u32 (a : Int)) = some (.int .i64 (IntKind.i64.wrap (a : Int))) := by kernel_rfl
  rw [e, w63 _ (by omega) (by omega)]
theorem cvi_32 (a : Int) : convX Try.prog 2 113 (.int .i64 a) = some (.int .u32 (((a % 4294967296).toNat : Nat) : Int)) := by
  have e : convX Try.prog 2 113 (.int .i64 a) = some (.int .u32 (IntKind.u32.wrap a)) := by kernel_rfl
  rw [e, w32]
  have : ((a % 4294967296).toNat : Int) = a % 4294967296 := Int.toNat_of_nonneg (Int.emod_nonneg _ (by decide))
  rw [this]
theorem cv64_i (a : Nat) (h : a < 9223372036854775808) : convX Try.prog 83 2 (.int .u64 (a : Int)) = some (.int .i64 (a : Int)) := by
  have e : convX Try.prog 83 2 (.int .u64 (a : Int)) = some (.int .i64 (IntKind.i64.wrap (a : Int))) := by kernel_rfl
  rw [e, w63 _ (by omega) (by omega)]
theorem un_negI {P : Program} (a : Int) (h1 : -9223372036854775808 < a) (h2 : a < 9223372036854775808) : unX P .neg (.int .i64 a) = some (.int .i64 (-a)) := by
  have e : unX P .neg (.int .i64 a) = some (.int .i64 (IntKind.i64.wrap (0 - a))) := rfl
  rw [e, w63 _ (by omega) (by omega)]
  congr 2
  omega
end
/-- A word times a number is not too great. -/
theorem term_room {p : Int} {x : Nat} (h1 : -1073741824 < p) (h2 : p < 1073741824) (hx : x < 4294967296) : -(1073741823 * 4294967295) ≤ p * (x : Int) ∧ p * (x : Int) ≤ 1073741823 * 4294967295 := by
  have hx0 : (0 : Int) ≤ (x : Int) := by omega
  have a1 : p * (x : Int) ≤ 1073741823 * (x : Int) := Int.mul_le_mul_of_nonneg_right (by omega) hx0
  have a2 : -1073741823 * (x : Int) ≤ p * (x : Int) := Int.mul_le_mul_of_nonneg_right (by omega) hx0
  omega
section
set_option maxRecDepth 10000
def blI (m : Mem) (va vb : Value) (a b : List Nat) (p q : Int) (bo : Nat) (k : Nat) (fr : Fr) (m' : Mem) : Prop := ∃ i c l, i + k = a.length ∧ fr.n = 60 ∧ fr.d = [] ∧ fr.at 0 = va ∧ fr.at 1 = vb ∧ fr.at 2 = .int .i64 p ∧ fr.at 3 = .int .i64 q ∧ fr.at 9 = .slice (some ⟨bo, 0, none⟩) (a.length + 1) (a.length + 1) ∧ fr.at 10 = .int .i64 c ∧ fr.at 11 = .int .i64 (i : Nat) ∧ OWn m m' bo l ∧ l.length = a.length + 1 ∧ -2147483648 ≤ c ∧ c ≤ 2147483648 ∧ (wv (l.take i) : Int) + (pw i : Int) * c = p * (wv (a.take i) : Int) + q * (wv (b.take i) : Int)
set_option maxHeartbeats 2000000 in
theorem blend_ok (n : Nat) {m : Mem} {va vb : Value} {a b : List Nat} {p q : Int} {R : Nat} (hw : WF m) (ha : WL m va a) (hb : WL m vb b) (hl : a.length < 900000) (hab : b.length ≤ a.length) (hp1 : -1073741824 < p) (hp2 : p < 1073741824) (hq1 : -1073741824 < q) (hq2 : q < 1073741824) (hR : (R : Int) = p * (wv a : Int) + q * (wv b : Int)) {Q : Value → Mem → Prop}
    (hQ : ∀ m' v l, Up m m' → WL m' v l → l.length ≤ a.length + 1 → Tr l → wv l = R → Q v m') :
    Gives (callN Try.prog kn1 (n + 2) 102 [va, vb, .int .i64 p, .int .i64 q]) m Q := by
  refine gives_fn (nt := 60) rfl Try.func102 rfl rfl rfl (Nat.le_of_ble_eq_true rfl) fun fr hn hd hargs => ?_
  have h0 : fr.at 0 = _ := hargs 0 _ rfl
  have h1 : fr.at 1 = _ := hargs 1 _ rfl
  have h2 : fr.at 2 = _ := hargs 2 _ rfl
  have h3 : fr.at 3 = _ := hargs 3 _ rfl
  clear hargs
  obtain ⟨n1, hn1⟩ : ∃ x, x = a.length + 1 := ⟨_, rfl⟩
  have hwl : IntKind.i64.wrap ((a.length : Int) + 1) = (n1 : Int) := by rw [hn1]; exact wrap_succ a.length (by omega)
  simp [hn, h0, ha.len, hwl]
  refine gives_makeW (by omega) ?_
  simp [hn]
  refine code_loop (blI m va vb a b p q m.next) a.length (by omega) ⟨0, 0, _, by omega, by simp [hn], by simp [hd], by simp [h0], by simp [h1], by simp [h2], by simp [h3], by simp [hn1], by simp, by simp, OWn.first m n1, by simp [hn1], by omega, by omega, by simp [wv]⟩ ?_
  clear hn hd h0 h1 h2 h3
  rintro k fr m' ⟨i, c, l, hik, hn, hd, h0, h1, h2, h3, h9, h10, h11, hO, hll, hc1, hc2, hv⟩
  have lenA := ha.len
  have lenB := hb.len
  by_cases hi : i < a.length
  · obtain ⟨b1, o1, k1, x1, hA⟩ := (ha.up hw hO.up).rd (by omega)
    have y1 := hA.get i hi
    have e1 := hA.at'
    rw [hA.val] at h0 lenA
    have hai := wat_lt ha.wd i
    have hbi := wat_lt hb.wd i
    have cv := cv32_i _ hai
    have hwi := wrap_succ i (by omega)
    obtain ⟨r1, r2⟩ := term_room hp1 hp2 hai
    obtain ⟨r3, r4⟩ := term_room hq1 hq2 hbi
    obtain ⟨t0, ht0⟩ : ∃ t, t = p * ((wat a i : Nat) : Int) := ⟨_, rfl⟩
    obtain ⟨u0, hu0⟩ : ∃ t, t = q * ((wat b i : Nat) : Int) := ⟨_, rfl⟩
    rw [← ht0] at r1 r2
    rw [← hu0] at r3 r4
    have hw0 : IntKind.i64.wrap (p * ((wat a i : Nat) : Int)) = t0 := by rw [ht0]; exact w63 _ (by omega) (by omega)
    obtain ⟨t1, ht1⟩ : ∃ t, t = t0 + c := ⟨_, rfl⟩
    have hw1 : IntKind.i64.wrap (t0 + c) = t1 := by rw [ht1]; exact w63 _ (by omega) (by omega)
    obtain ⟨t, ht⟩ : ∃ t, t = t1 + u0 := ⟨_, rfl⟩
    obtain ⟨x, hx⟩ : ∃ x : Nat, x = (t % 4294967296).toNat := ⟨_, rfl⟩
    have hxi : (x : Int) = t % 4294967296 := by rw [hx]; exact Int.toNat_of_nonneg (Int.emod_nonneg _ (by decide))
    have hx32 : x < 4294967296 := by omega
    have c32 := cvi_32 t
    rw [← hx] at c32
    obtain ⟨c', hc'⟩ : ∃ c', c' = t / 4294967296 := ⟨_, rfl⟩
    have s32 : ∀ {P : Program} {t' : TypeId} {xo yo : Operand} {k' : IntKind}, binX P .shr t' xo yo (.int .i64 t) (.int k' 32) = some (.int .i64 c') := fun {P t' xo yo k'} => by rw [hc']; exact bin_shr32I t
    have hnew : ((wv (l.take i) + pw i * x : Nat) : Int) + (pw (i + 1) : Int) * c' = p * (wv (a.take (i + 1)) : Int) + q * (wv (b.take (i + 1)) : Int) := by
      rw [wv_next a, wv_next b, pw_succ]
      have h5 : (x : Int) + 4294967296 * c' = t := by omega
      have h6 : (pw i : Int) * (x : Int) + 4294967296 * (pw i : Int) * c' = (pw i : Int) * t := by rw [← h5, Int.mul_add, Int.mul_comm 4294967296 (pw i : Int), Int.mul_assoc]
      have h7 : (pw i : Int) * t = (pw i : Int) * t0 + (pw i : Int) * c + (pw i : Int) * u0 := by rw [ht, ht1, Int.mul_add, Int.mul_add]
      have h8 : (pw i : Int) * t0 = p * ((pw i : Int) * ((wat a i : Nat) : Int)) := by rw [ht0, Int.mul_left_comm]
      have h9 : (pw i : Int) * u0 = q * ((pw i : Int) * ((wat b i : Nat) : Int)) := by rw [hu0, Int.mul_left_comm]
      rw [Int.natCast_add, Int.natCast_mul, Int.natCast_mul, Int.natCast_add, Int.natCast_mul, Int.natCast_add, Int.natCast_mul, Int.mul_add, Int.mul_add]
      show (wv (l.take i) : Int) + (pw i : Int) * (x : Int) + 4294967296 * (pw i : Int) * c' = _
      omega
    by_cases hib : i < b.length
    · obtain ⟨b2, o2, k2, x2, hB⟩ := (hb.up hw hO.up).rd (by omega)
      have y2 := hB.get i hib
      have e2 := hB.at'
      rw [hB.val] at h1 lenB
      have cvb := cv32_i _ hbi
      have hwu : IntKind.i64.wrap (q * ((wat b i : Nat) : Int)) = u0 := by rw [hu0]; exact w63 _ (by omega) (by omega)
      have hw2 : IntKind.i64.wrap (t1 + u0) = t := by rw [ht]; exact w63 _ (by omega) (by omega)
      simp [hn, h0, h1, h2, h3, h9, h10, h11, lenA, lenB, hi, hib, idx_W _ _ _ _ _ _ hi, idx_W _ _ _ _ _ _ hib, idx_W _ _ _ _ _ _ (show i < a.length + 1 by omega), e1, y1, e2, y2, cv, cvb, hw0, hw1, hwu, hw2, c32]
      refine storeQ_one (cs := wc l) (sz := 1) (gr := false) (by simp [hO.at']) (by simp) (cells_int _ _) (by rw [wc_len]; omega) fun m4 n4 _ e4 => ?_
      simp only [Mem.next_rd, Mem.at_rd] at n4 e4
      simp [hn, h11, s32, hwi]
      have hO4 := hO.set hw hx32 n4 e4
      exact ⟨k - 1, by omega, i + 1, c', l.set i x, by omega, by simp [hn], by simp [hd], by simp [h0, hA.val], by simp [h1, hB.val], by simp [h2], by simp [h3], by simp [h9], by simp, by simp, hO4, by simp [hll], by omega, by omega, by rw [take_set_next (by omega)]; exact hnew⟩
    · have hb0 : wat b i = 0 := wat_far (by omega)
      have hu00 : u0 = 0 := by rw [hu0, hb0]; simp
      obtain rfl : t = t1 := by omega
      simp [hn, h0, h1, h2, h3, h9, h10, h11, lenA, lenB, hi, hib, idx_W _ _ _ _ _ _ hi, idx_W _ _ _ _ _ _ (show i < a.length + 1 by omega), e1, y1, cv, hw0, hw1, c32]
      refine storeQ_one (cs := wc l) (sz := 1) (gr := false) (by simp [hO.at']) (by simp) (cells_int _ _) (by rw [wc_len]; omega) fun m4 n4 _ e4 => ?_
      simp only [Mem.next_rd, Mem.at_rd] at n4 e4
      simp [hn, h11, s32, hwi]
      have hO4 := hO.set hw hx32 n4 e4
      exact ⟨k - 1, by omega, i + 1, c', l.set i x, by omega, by simp [hn], by simp [hd], by simp [h0, hA.val], by simp [h1], by simp [h2], by simp [h3], by simp [h9], by simp, by simp, hO4, by simp [hll], by omega, by omega, by rw [take_set_next (by omega)]; exact hnew⟩
  · obtain rfl : i = a.length := by omega
    have e : wv (b.take a.length) = wv b := wv_all hab
    rw [e, List.take_length, ← hR] at hv
    have hlt := wv_lt (hO.wd.take a.length)
    rw [List.length_take, Nat.min_eq_left (by omega)] at hlt
    have hpp : (0 : Int) < (pw a.length : Int) := by have := pw_pos a.length; omega
    have hc0 : 0 ≤ c := by
      by_cases h : 0 ≤ c
      · exact h
      · exfalso
        have h5 : (pw a.length : Int) * c ≤ (pw a.length : Int) * (-1) := Int.mul_le_mul_of_nonneg_left (by omega) (by omega)
        omega
    obtain ⟨cn, rfl⟩ : ∃ cn : Nat, c = (cn : Int) := ⟨c.toNat, (Int.toNat_of_nonneg hc0).symm⟩
    have c32 := cvi_32 (cn : Int)
    have e3 : ((cn : Int) % 4294967296).toNat = cn := by omega
    rw [e3] at c32
    simp [hn, h0, h9, h10, h11, lenA, c32, idx_W _ _ _ _ _ _ (show a.length < a.length + 1 by omega)]
    refine storeQ_one (cs := wc l) (sz := 1) (gr := false) (by simp [hO.at']) (by simp) (cells_int _ _) (by rw [wc_len]; omega) fun m4 n4 _ e4 => ?_
    try simp only [Mem.next_rd, Mem.at_rd] at n4 e4
    have hO4 := hO.set hw (show cn < 4294967296 by omega) n4 e4
    have hWL := hO4.wl
    simp only [List.length_set, hll] at hWL
    simp [hn, h9]
    refine trim_ok n hWL (by simp; omega) fun m5 v5 ho5 hw5 => ?_
    simp [hn, hd]
    refine hQ m5 v5 _ (hO4.up.trans (Up.only ho5)) hw5 ?_ (tr_trim _) ?_
    · unfold trimL
      rw [List.length_take]
      simp; omega
    · have h6 := take_set_next (l := l) (i := a.length) (x := cn) (by omega)
      rw [wv_all (by simp; omega)] at h6
      rw [wv_trim, h6]
      have h7 : ((wv (l.take a.length) + pw a.length * cn : Nat) : Int) = (R : Int) := by
        rw [Int.natCast_add, Int.natCast_mul]; exact hv
      exact Int.ofNat.inj h7
end
end Go.Proofs.Ytghhanifakllpaa

/- Regions of free order that only read. -/
namespace Go.Clean
variable {P : Program} {call : Caller}
def readsL (log : List (Bool × Nat)) : Bool := log.all fun x => !x.1
def readsA (ls : List (Nat × List (Bool × Nat))) : Bool := ls.all fun x => readsL x.2
theorem apartL_rd {l l' : List (Bool × Nat)} (h : readsL l = true) (h' : readsL l' = true) : apartL l l' = true := by
  unfold apartL
  rw [List.all_eq_true]
  rintro ⟨x, b⟩ hx
  rw [List.all_eq_true]
  rintro ⟨y, c⟩ hy
  have h1 := List.all_eq_true.1 h _ hx
  have h2 := List.all_eq_true.1 h' _ hy
  simp only at h1 h2 ⊢
  rw [h1, h2]
  simp
theorem apartAll_rd {a : Nat} {l : List (Bool × Nat)} (h : readsL l = true) : ∀ {ls : List (Nat × List (Bool × Nat))}, readsA ls = true → apartAll a l ls = true
  | [], _ => rfl
  | (j, l') :: r, hr => by
    unfold readsA at hr
    rw [List.all_cons, Bool.and_eq_true] at hr
    show ((a.testBit j || apartL l l') && apartAll a l r) = true
    rw [apartL_rd h hr.1, apartAll_rd h (ls := r) hr.2]
    simp
def drawR (P : Program) (call : Caller) (ops : Array Oper) : List Oper → Fr → Mem → (Fr → Mem → Prop) → Prop
  | [], fr, m, Q => Q fr m
  | o :: l, fr, m, Q => Gives (stepDX P call ops fr o) (m.lg []) fun fr' m' => readsL m'.log = true ∧ drawR P call ops l fr' (m'.lg (m'.log ++ m.log)) Q
def drawRQ (P : Program) (call : Caller) (ops : Array Oper) (l : List Oper) (log : List (Bool × Nat)) (Q : Fr → Mem → Prop) (fr : Fr) (m : Mem) : Prop := readsL m.log = true ∧ drawR P call ops l fr (m.lg (m.log ++ log)) Q
theorem drawR_nil (ops : Array Oper) (fr : Fr) (m : Mem) (Q : Fr → Mem → Prop) : drawR P call ops [] fr m Q ↔ Q fr m := Iff.rfl
theorem drawR_cons (ops : Array Oper) (o : Oper) (l : List Oper) (fr : Fr) (m : Mem) (Q : Fr → Mem → Prop) : drawR P call ops (o :: l) fr m Q ↔ Gives (stepDX P call ops fr o) (m.lg []) (drawRQ P call ops l m.log Q) := Iff.rfl
def boolY (v : Value) : Option Bool := match v with
  | .bool b => some b
  | _ => none
@[simp] theorem boolY_bool (b : Bool) : boolY (.bool b) = some b := rfl
theorem yieldX_dst {ops : Array Oper} {j d : Nat} (h : (ops.toList[j]?).bind (·.dst) = some d) (fr : Fr) : yieldX ops fr j = boolY (fr.at d) := by
  unfold yieldX
  cases hj : ops.toList[j]? with
  | none => rw [hj] at h; cases h
  | some o =>
    rw [hj] at h
    have h' : o.dst = some d := h
    dsimp only
    rw [h']
    rfl
theorem drawR_draws {ops : Array Oper} {Q : Fr → Mem → Prop} : ∀ (l : List Oper) (ps : List Nat) (i : Nat) (ls : List (Nat × List (Bool × Nat))) (fr : Fr) (m : Mem), l.length = ps.length → (l.all fun o => !isDefer o) = true → readsA ls = true → drawR P call ops l fr m Q → Gives (drawX P call ops l ps i ls fr) m Q
  | [], ps, i, ls, fr, m, _, _, _, h => (draw_nil ops ps i ls fr m Q).2 h
  | o :: l, [], i, ls, fr, m, h, _, _, _ => by simp at h
  | o :: l, a :: ps, i, ls, fr, m, hl, hd, hr, h => by
    rw [List.all_cons, Bool.and_eq_true] at hd
    rw [draw_cons ops o (by simpa using hd.1)]
    refine Gives.mono h fun fr' m' q => ⟨apartAll_rd q.1 hr, drawR_draws l ps (i + 1) ((i, m'.log) :: ls) fr' _ (by simpa using hl) hd.2 (by unfold readsA; rw [List.all_cons, Bool.and_eq_true]; exact ⟨q.1, hr⟩) q.2⟩
theorem code_draw_reads {id : Nat} {ops : Array Oper} {plan : List Nat} (h : planX ops = some plan) (hl : ops.toList.length = plan.length) (hd : (ops.toList.all fun o => !isDefer o) = true) {fr : Fr} {m : Mem} {Q : CQ}
    (hg : ∀ ops' : Array Oper, (∀ j d, (ops.toList[j]?).bind (·.dst) = some d → ∀ fr, yieldX ops' fr j = boolY (fr.at d)) → drawR P call ops' ops.toList fr m (regQ Q)) : Gives (codeX P call (.region id ops true) fr) m Q :=
  code_draw_dyn h (drawR_draws _ _ _ _ _ _ hl hd rfl (hg ops fun _ _ h fr => yieldX_dst h fr))
@[simp] theorem readsL_nil : readsL [] = true := rfl
@[simp] theorem readsL_false (b : Nat) (l : List (Bool × Nat)) : readsL ((false, b) :: l) = readsL l := rfl
attribute [simp] drawR_nil drawR_cons
end Go.Clean

/- The law's own fractions: rat, near. -/
import Derived.Test.YtghhanifakllpaaVbZ
import Derived.Test.YtghhanifakllpaaFlZ
set_option linter.unusedSimpArgs false
set_option linter.unusedVariables false
namespace Go.Proofs.Ytghhanifakllpaa
open Go.Clean
theorem zero_R : zeroT Try.prog 56 = some (.agg ⟨[.bool false, .slice none 0 0, .slice none 0 0]⟩) := by kernel_rfl
theorem zero_I : zeroT Try.prog 54 = some (.agg ⟨[.bool false, .slice none 0 0]⟩) := by kernel_rfl
theorem RT.cells {m : Mem} {b : Nat} {N : Int} {D L : Nat} (h : RT m b N D L) : ∃ c0 c1 c2, m.at b = some ⟨[c0, c1, c2], 1, false, false⟩ ∧ nonI [c0, c1, c2] := by
  obtain ⟨be, vw, vd, w, d, h1, h2, h3, _⟩ := h.ex
  exact ⟨_, _, _, h1, nonI3 h2 h3⟩
theorem ipow_nat (n : Nat) : (2 : Int) ^ n = ((2 ^ n : Nat) : Int) := by simp
section
set_option maxRecDepth 10000
set_option maxHeartbeats 4000000 in
theorem near_ok (e : Nat) {m : Mem} {b : Nat} {num dn : Int} {p : Nat} (hw : WF m) (hno : Clean.isNaN b = false) (hb64 : b < 18446744073709551616) (hfin : exF b ≠ 2047) (h1n : -9223372036854775808 ≤ num) (h2n : num < 9223372036854775808) (h1d : -9223372036854775808 ≤ dn) (h2d : dn < 9223372036854775808) (hd0 : dn ≠ 0) (hp : p < 1000) {Q : Value → Mem → Prop}
    (hQ : ∀ m', Up m m' → Q (.bool (decide ((wth b * (dn.natAbs : Int) + -(if dn < 0 then -num else num) * 2 ^ 1074).natAbs * 2 ^ p ≤ 2 ^ 1074 * dn.natAbs))) m') :
    Gives (callN Try.prog kn1 (e + 10) 27 [.float .f64 b, .int .i64 num, .int .i64 dn, .int .i64 (p : Int)]) m Q := by
  refine gives_fn (nt := 31) rfl Try.func27 rfl rfl rfl (Nat.le_of_ble_eq_true rfl) fun fr hn hd hargs => ?_
  have h0 : fr.at 0 = _ := hargs 0 _ rfl
  have h1 : fr.at 1 = _ := hargs 1 _ rfl
  have h2 : fr.at 2 = _ := hargs 2 _ rfl
  have h3 : fr.at 3 = _ := hargs 3 _ rfl
  clear hargs
  simp [hn, h0, h1, h2, h3, zero_R, elem_R, cells_agg, one_bool, one_nilS]
  obtain ⟨bt, hbt⟩ : ∃ x, x = m.next + 1 := ⟨_, rfl⟩
  obtain ⟨bz, hbz⟩ : ∃ x, x = m.next := ⟨_, rfl⟩
  rw [← hbt, ← hbz]
  obtain ⟨m1, hm1⟩ : ∃ x, x = (m.nw ⟨[.bool false, .slice none 0 0, .slice none 0 0], 1, false, false⟩).nw ⟨[.bool false, .slice none 0 0, .slice none 0 0], 1, false, false⟩ := ⟨_, rfl⟩
  rw [← hm1]
  have u1 : Up m m1 := by rw [hm1]; exact (Up.nw _ _).trans (Up.nw _ _)
  have a1 : m1.at bz = some ⟨[.bool false, .slice none 0 0, .slice none 0 0], 1, false, false⟩ := by rw [hm1, hbz]; simp
  have b1 : m1.at bt = some ⟨[.bool false, .slice none 0 0, .slice none 0 0], 1, false, false⟩ := by rw [hm1, hbt]; simp
  have nI : nonI [.bool false, .slice none 0 0, .slice none 0 0] := nonI3 (WL.nil m) (WL.nil m)
  have hne : bz ≠ bt := by omega
  clear hm1
  have w1 := u1.wf hw
  refine ratFloat_ok (e + 2) w1 b1 nI hno hb64 hfin fun m2 u2 r2 => ?_
  obtain ⟨Z, hZ⟩ : ∃ Z : Nat, Z = 2 ^ 1074 := ⟨_, rfl⟩
  rw [← hZ] at r2
  have p2 : Up m m2 := UpZ.up u1 u2 (by omega)
  have w2 := p2.wf hw
  have a2 : m2.at bz = some ⟨[.bool false, .slice none 0 0, .slice none 0 0], 1, false, false⟩ := by rw [u2.old bz (w1 _ _ a1) hne]; exact a1
  simp [hn, h1, h2]
  refine newRat_ok e w2 h1n h2n h1d h2d hd0 fun m3 u3 r3 => ?_
  have w3 := u3.wf w2
  simp [hn]
  refine ratSub_ok (e + 1) (L := 60) w3 (u3.at a2 w2) nI (r2.up w2 u3) r3 (by omega) (by omega) fun m4 u4 r4 => ?_
  have p3 := p2.trans u3
  have p4 : Up m m4 := UpZ.up p3 u4 (by omega)
  have w4 := p4.wf hw
  obtain ⟨c0, c1, c2, z4, zI⟩ := r4.cells
  simp [hn]
  refine ratAbs_ok (e + 4) w4 z4 zI r4 (by omega) fun m5 u5 r5 => ?_
  have p5 : Up m m5 := UpZ.up p4 u5 (by omega)
  have w5 := p5.wf hw
  simp [hn, zero_R, elem_R, cells_agg, one_bool, one_nilS]
  obtain ⟨bq, hbq⟩ : ∃ x, x = m5.next := ⟨_, rfl⟩
  rw [← hbq]
  obtain ⟨m6, hm6⟩ : ∃ x, x = m5.nw ⟨[.bool false, .slice none 0 0, .slice none 0 0], 1, false, false⟩ := ⟨_, rfl⟩
  rw [← hm6]
  have u6 : Up m5 m6 := by rw [hm6]; exact Up.nw _ _
  have w6 := u6.wf w5
  have a6 : m6.at bq = some ⟨[.bool false, .slice none 0 0, .slice none 0 0], 1, false, false⟩ := by rw [hm6, hbq]; simp
  have n6 : m6.next = bq + 1 := by rw [hm6, hbq]; simp
  clear hm6
  refine newInt_ok (e + 5) w6 (by decide) (by decide) fun m7 u7 r7 => ?_
  have w7 := u7.wf w6
  obtain ⟨b1', hb1'⟩ : ∃ x, x = m6.next := ⟨_, rfl⟩
  rw [← hb1'] at r7
  simp [hn, zero_I, elem_I, cells_agg, one_bool, one_nilS]
  obtain ⟨bs, hbs⟩ : ∃ x, x = m7.next := ⟨_, rfl⟩
  rw [← hbs, ← hb1']
  obtain ⟨m8, hm8⟩ : ∃ x, x = m7.nw ⟨[.bool false, .slice none 0 0], 1, false, false⟩ := ⟨_, rfl⟩
  rw [← hm8]
  have u8 : Up m7 m8 := by rw [hm8]; exact Up.nw _ _
  have w8 := u8.wf w7
  have a8 : m8.at bs = some ⟨[.bool false, .slice none 0 0], 1, false, false⟩ := by rw [hm8, hbs]; simp
  have n8 : m8.next = bs + 1 := by rw [hm8, hbs]; simp
  clear hm8
  refine newInt_ok (e + 5) w8 (by decide) (by decide) fun m9 u9 r9 => ?_
  have w9 := u9.wf w8
  have cvp : convX Try.prog 3 96 (.int .i64 (p : Int)) = some (.int .u64 (p : Int)) := cvS p (by omega)
  simp [hn, h3, cvp]
  refine intLsh_ok (e + 5) (L := 2) (L' := 40) w9 (u9.at a8 w8) (nonI2 (WL.nil m)) r9 (by omega) (by omega) (by omega) fun m10 u10 r10 => ?_
  have hbs9 : bs < m9.next := by have := u9.next; omega
  have w10 := u10.wf w9
  have hx1 : b1' < m7.next := by
    obtain ⟨_, _, _, h9, _⟩ := r7.ex
    exact w7 _ _ h9
  have r1 : IT m10 b1' [] 1 40 := by
    have h9 := ((r7.up w7 u8).up w8 u9).upz w9 u10 (by omega)
    obtain ⟨q1, q2, q3, q4, q5, q6, q7, q8⟩ := h9.ex
    exact ⟨q1, q2, q3, q4, q5, q6, by omega, q8⟩
  have hbq9 : bq ≠ bs := by have := u7.next; omega
  have a10 : m10.at bq = some ⟨[.bool false, .slice none 0 0, .slice none 0 0], 1, false, false⟩ := by
    have h9 := u9.at (u8.at (u7.at a6 w6) w7) w8
    rw [u10.old bq (w9 _ _ h9) hbq9]; exact h9
  have hz5 : bz < m5.next := by
    obtain ⟨_, _, _, h9, _⟩ := r5.cells
    exact w5 _ _ h9
  have hzs : bz ≠ bs := by have := u6.next; have := u7.next; omega
  have r510 := ((((r5.up w5 u6).up w6 u7).up w7 u8).up w8 u9).upz w9 u10 hzs
  simp [hn]
  refine ratFrac_ok (e + 2) (L := 40) w10 a10 nI r1 r10 (by omega) (by omega) (by have := Int.pow_pos (n := 2) (m := p) (by decide); omega) fun m11 u11 r11 => ?_
  have hzq : bz ≠ bq := by omega
  have r511 := r510.upz w10 u11 hzq
  simp [hn]
  refine ratCmp_ok (e + 4) (u11.wf w10) r511 r11 (by omega) fun m12 u12 => ?_
  simp [hn, hd]
  have p9 : Up m m9 := (((p5.trans u6).trans u7).trans u8).trans u9
  have p10 : Up m m10 := UpZ.up p9 u10 (by have := p5.next; have := u6.next; have := u7.next; omega)
  have p11 : Up m m11 := UpZ.up p10 u11 (by have := p5.next; omega)
  have hq := hQ m12 (p11.trans u12)
  refine (congrArg (fun c => Q (.bool c) m12) (decide_eq_decide.2 ?_)).mpr hq
  have hpow : (2 : Int) ^ p = ((2 ^ p : Nat) : Int) := by simp
  have hpow2 : (2 : Int) ^ 1074 = ((Z : Nat) : Int) := by rw [hZ]; exact ipow_nat 1074
  have hpos : ¬ (2 : Int) ^ p < 0 := by rw [hpow]; exact Int.not_lt.2 (Int.natCast_nonneg _)
  rw [if_neg hpos]
  rw [hpow, hpow2, ← hZ]
  generalize (wth b * (dn.natAbs : Int) + -(if dn < 0 then -num else num) * (Z : Int)).natAbs = T
  clear hZ hq hpow2
  generalize (2 : Nat) ^ p = W
  rw [Int.one_mul, ← Int.natCast_mul, ← Int.natCast_mul]
  omega
end
end Go.Proofs.Ytghhanifakllpaa

/- Small whole numbers as floats: products, back to whole numbers (by running through them all). -/
namespace Go.Proofs.Ytghhanifakllpaa
open Go.Clean
def f64of (v : Option Value) : Option Nat := match v with
  | some (.float .f64 b) => some b
  | _ => none
def i64of (v : Option Value) : Option Int := match v with
  | some (.int .i64 b) => some b
  | _ => none
theorem f64of_eq {v : Option Value} {b : Nat} (h : f64of v = some b) : v = some (.float .f64 b) := by
  unfold f64of at h
  split at h
  · cases h; rfl
  · cases h
theorem i64of_eq {v : Option Value} {b : Int} (h : i64of v = some b) : v = some (.int .i64 b) := by
  unfold i64of at h
  split at h
  · cases h; rfl
  · cases h
/-- The bits of a small whole number. -/
noncomputable def fi (k : Int) : Nat := (f64of (convX Try.prog 3 25 (.int .i64 k))).getD 0
def smallI : List Int := [-8, -7, -6, -5, -4, -3, -2, -1, 0, 1, 2, 3, 4, 5, 6, 7, 8]
theorem fi_conv : (smallI.all fun k => (f64of (convX Try.prog 3 25 (.int .i64 k))) == some (fi k)) = true := by kernel_rfl
theorem fi_back : (smallI.all fun k => (i64of (convX Try.prog 25 3 (.float .f64 (fi k)))) == some k) = true := by kernel_rfl
theorem fi_worth : (smallI.all fun k => decide (wth (fi k) = k * 2 ^ 1074)) = true := by kernel_rfl
theorem fi_plain : (smallI.all fun k => !Clean.isNaN (fi k) && decide (fi k < 18446744073709551616) && decide (exF (fi k) ≠ 2047)) = true := by kernel_rfl
theorem fi_mul : (smallI.all fun a => smallI.all fun b => (((f64of (binX Try.prog .mul 25 (.tmp 0) (.tmp 0) (.float .f64 (fi a)) (.float .f64 (fi b)))).bind fun c => i64of (convX Try.prog 25 3 (.float .f64 c))) == some (a * b))) = true := by kernel_rfl
end Go.Proofs.Ytghhanifakllpaa

/- The law's own: plain. -/
namespace Go.Proofs.Ytghhanifakllpaa
open Go.Clean
def pLo : F := some 4427038433705197568
def pHi : F := some 4787326403894837248
/-- Nought, or from 2^-40 to 2^40, without its sign. -/
def plainF (x : F) : Bool := feq x fzero || ((fcmp (fabs x) pLo == some .gt || fcmp (fabs x) pLo == some .eq) && fle (fabs x) pHi)
section
set_option maxRecDepth 10000
end
end Go.Proofs.Ytghhanifakllpaa

/- The law's own: simple. -/
namespace Go.Proofs.Ytghhanifakllpaa
open Go.Clean
/-- A system of up to 8 unknowns of plain floats. -/
structure SimF (rs : List (List F)) (bs : List F) : Prop where
  lo : 1 ≤ rs.length
  hi : rs.length ≤ 8
  lb : bs.length = rs.length
  row : ∀ i, i < rs.length → (rat' rs i).length = rs.length
  pb : ∀ i, i < rs.length → plainF (fat bs i) = true
  pa : ∀ i, i < rs.length → ∀ j, j < rs.length → plainF (fat (rat' rs i) j) = true
structure SiF (fr : Fr) (va vb : Value) : Prop where
  n : fr.n = 59
  d : fr.d = []
  f0 : fr.at 0 = va
  f1 : fr.at 1 = vb
def siI (m : Mem) (va vb : Value) (rs : List (List F)) (bs : List F) (k : Nat) (fr : Fr) (m' : Mem) : Prop := ∃ i, i + k = rs.length ∧ SiF fr va vb ∧ fr.at 5 = .int .i64 (i : Nat) ∧ Only m m' ∧ ∀ i', i' < i → (rat' rs i').length = rs.length ∧ plainF (fat bs i') = true ∧ ∀ j, j < rs.length → plainF (fat (rat' rs i') j) = true
def sjI (m : Mem) (va vb : Value) (rs : List (List F)) (i : Nat) (k : Nat) (fr : Fr) (m' : Mem) : Prop := ∃ j, j + k = rs.length ∧ SiF fr va vb ∧ fr.at 5 = .int .i64 (i : Nat) ∧ fr.at 6 = .int .i64 (j : Nat) ∧ Only m m' ∧ ∀ j', j' < j → plainF (fat (rat' rs i) j') = true
section
set_option maxRecDepth 10000
end
end Go.Proofs.Ytghhanifakllpaa

/- Small whole numbers as floats: usable forms. -/
namespace Go.Proofs.Ytghhanifakllpaa
open Go.Clean
theorem mem_small {k : Int} (h1 : -8 ≤ k) (h2 : k ≤ 8) : k ∈ smallI := by
  unfold smallI
  simp only [List.mem_cons, List.not_mem_nil, or_false]
  omega
theorem fi_to {k : Int} (h1 : -8 ≤ k) (h2 : k ≤ 8) : convX Try.prog 3 25 (.int .i64 k) = some (.float .f64 (fi k)) :=
  f64of_eq (by simpa using List.all_eq_true.1 fi_conv k (mem_small h1 h2))
theorem fi_from {k : Int} (h1 : -8 ≤ k) (h2 : k ≤ 8) : convX Try.prog 25 3 (.float .f64 (fi k)) = some (.int .i64 k) :=
  i64of_eq (by simpa using List.all_eq_true.1 fi_back k (mem_small h1 h2))
theorem fi_no {k : Int} (h1 : -8 ≤ k) (h2 : k ≤ 8) : cOf (some (fi k)) = fi k := by
  have h := List.all_eq_true.1 fi_plain k (mem_small h1 h2)
  simp only [Bool.and_eq_true, Bool.not_eq_true'] at h
  exact canon_yes h.1.1
end Go.Proofs.Ytghhanifakllpaa

/- Plain: whole numbers in float64, exactly. No program in sight. -/
set_option linter.unusedVariables false
set_option linter.unusedSimpArgs false
namespace Go.Proofs.Ytghhanifakllpaa.Nu
open Ieee

/-- A datum that is a whole number. -/
def DW (d : Datum) (n : Int) : Prop := ∃ (s : Bool) (m k : Nat), d = .number s m (-(k : Int)) ∧ signed s m 0 = n * 2 ^ (k : Nat)
/-- A float that is a whole number. -/
def WF (x : F) (n : Int) : Prop := ∃ b, x = some b ∧ DW (double.read b) n

theorem lp : double.leastPlace = -1074 := by decide
theorem bn : double.binade = 4503599627370496 := by decide
theorem ir : double.infRung = 9218868437227405312 := by decide
theorem sw : double.signWeight = 9223372036854775808 := by decide
theorem fb : double.fractionBits = 52 := by decide
/-- The word of a sign and a rung of a number between 2^-52 and 2^53. -/
theorem read_word (neg : Bool) (last : Nat) (kept : Nat) (h1 : 1 ≤ last) (h2 : last < 2000) (h3 : 4503599627370496 ≤ kept) (h4 : kept < 9007199254740992) :
    double.read (double.word neg (last * 4503599627370496 + kept)) = .number neg kept (-1074 + (last : Int)) := by
  have e1 : double.word neg (last * 4503599627370496 + kept) % 9223372036854775808 = last * 4503599627370496 + kept := by
    unfold Format.word
    rw [sw]
    cases neg <;> simp <;> omega
  have e2 : (double.word neg (last * 4503599627370496 + kept) / 9223372036854775808 % 2 == 1) = neg := by
    unfold Format.word
    rw [sw]
    cases neg
    · simp; omega
    · simp; omega
  unfold Format.read
  simp only [lp, bn, ir, sw, e1, e2]
  rw [if_neg (by omega), if_pos (by omega)]
  congr 1
  · omega
  · omega
theorem cut_exact (neg : Bool) (q d : Nat) (hq : 0 < q) : Toward.even.cut neg (q * 2 ^ d) d = q := by
  have hlog : d ≤ (q * 2 ^ d).log2 + 2 := by
    have : 2 ^ d ≤ q * 2 ^ d := Nat.le_mul_of_pos_left _ hq
    have h2 : d ≤ (q * 2 ^ d).log2 := (Nat.le_log2 (Nat.ne_of_gt (Nat.mul_pos hq (Nat.two_pow_pos d)))).2 this
    omega
  unfold Toward.cut
  have e1 : min d ((q * 2 ^ d).log2 + 2) = d := Nat.min_eq_left hlog
  simp only [e1, Nat.one_shiftLeft]
  have hp : 0 < 2 ^ d := Nat.two_pow_pos d
  rw [Nat.mul_div_cancel _ hp, Nat.mul_mod_left]
  have : ¬ (2 ^ d < 2 * 0) := by omega
  have h3 : (2 ^ d == 2 * 0) = false := by simp
  simp [h3]

/-- What is a whole number below 2^53 is written as it is. -/
theorem nearest_whole (neg : Bool) (q k : Nat) (hq : 0 < q) (hq2 : q < 9007199254740992) (mag : Nat) (hm : mag = q * 2 ^ k) :
    ∃ j : Nat, double.read (double.nearest neg mag (-(k : Int))) = .number neg (q * 2 ^ j) (-(j : Int)) := by
  have hmag : mag ≠ 0 := by rw [hm]; exact Nat.ne_of_gt (Nat.mul_pos hq (Nat.two_pow_pos k))
  obtain ⟨e, he⟩ : ∃ e, e = q.log2 := ⟨_, rfl⟩
  have h1 : 2 ^ e ≤ q := by rw [he]; exact Nat.log2_self_le (by omega)
  have h2 : q < 2 ^ (e + 1) := by rw [he]; exact Nat.lt_log2_self
  have he52 : e ≤ 52 := by
    by_cases h : e ≤ 52
    · exact h
    · have : 2 ^ 53 ≤ 2 ^ e := Nat.pow_le_pow_right (by omega) (by omega)
      omega
  have hlog : mag.log2 = e + k := by
    rw [hm]
    refine (Nat.log2_eq_iff (Nat.ne_of_gt (Nat.mul_pos hq (Nat.two_pow_pos k)))).2 ⟨?_, ?_⟩
    · rw [Nat.pow_add]; exact Nat.mul_le_mul_right _ h1
    · rw [show e + k + 1 = (e + 1) + k by omega, Nat.pow_add]; exact Nat.mul_lt_mul_of_pos_right h2 (Nat.two_pow_pos k)
  have hlast : max (-(k : Int) + (mag.log2 : Int) - 52) (-1074) = -((52 - e : Nat) : Int) := by
    rw [hlog]; omega
  refine ⟨52 - e, ?_⟩
  unfold Format.nearest
  rw [if_neg hmag]
  simp only [lp, fb, bn, ir]
  have hl2 : (max (-(k : Int) + (mag.log2 : Int) - ((52 : Nat) : Int)) (-1074)) = -((52 - e : Nat) : Int) := hlast
  rw [hl2]
  have hkept : Toward.even.cut neg (mag <<< (-(k : Int) - -((52 - e : Nat) : Int)).toNat) (-((52 - e : Nat) : Int) - -(k : Int)).toNat = q * 2 ^ (52 - e) := by
    by_cases hc : k ≤ 52 - e
    · have e1 : (-(k : Int) - -((52 - e : Nat) : Int)).toNat = 52 - e - k := by omega
      have e2 : (-((52 - e : Nat) : Int) - -(k : Int)).toNat = 0 := by omega
      rw [e1, e2, Nat.shiftLeft_eq, hm, Nat.mul_assoc, ← Nat.pow_add, show k + (52 - e - k) = 52 - e by omega]
      have := cut_exact neg (q * 2 ^ (52 - e)) 0 (Nat.mul_pos hq (Nat.two_pow_pos _))
      simpa using this
    · have e1 : (-(k : Int) - -((52 - e : Nat) : Int)).toNat = 0 := by omega
      have e2 : (-((52 - e : Nat) : Int) - -(k : Int)).toNat = k - (52 - e) := by omega
      rw [e1, e2, Nat.shiftLeft_zero, hm]
      have e3 : q * 2 ^ k = q * 2 ^ (52 - e) * 2 ^ (k - (52 - e)) := by rw [Nat.mul_assoc, ← Nat.pow_add, show 52 - e + (k - (52 - e)) = k by omega]
      rw [e3]
      exact cut_exact neg (q * 2 ^ (52 - e)) (k - (52 - e)) (Nat.mul_pos hq (Nat.two_pow_pos _))
  rw [hkept]
  have b1 : 4503599627370496 ≤ q * 2 ^ (52 - e) := by
    have : 2 ^ e * 2 ^ (52 - e) ≤ q * 2 ^ (52 - e) := Nat.mul_le_mul_right _ h1
    rw [← Nat.pow_add, show e + (52 - e) = 52 by omega] at this
    exact this
  have b2 : q * 2 ^ (52 - e) < 9007199254740992 := by
    have : q * 2 ^ (52 - e) < 2 ^ (e + 1) * 2 ^ (52 - e) := Nat.mul_lt_mul_of_pos_right h2 (Nat.two_pow_pos _)
    rw [← Nat.pow_add, show e + 1 + (52 - e) = 53 by omega] at this
    exact this
  have e4 : (-((52 - e : Nat) : Int) - -1074).toNat = 1074 - (52 - e) := by omega
  rw [e4, Nat.min_eq_left (by omega)]
  rw [read_word neg (1074 - (52 - e)) (q * 2 ^ (52 - e)) (by omega) (by omega) b1 b2]
  congr 1
  omega
theorem read_zero (neg : Bool) (k : Int) : double.read (double.nearest neg 0 k) = .number neg 0 (-((1074 : Nat) : Int)) := by
  unfold Format.nearest
  rw [if_pos rfl]
  cases neg <;> decide
theorem signed_zero (s : Bool) (m : Nat) : signed s m 0 = if s then -(m : Int) else (m : Int) := by
  unfold signed
  cases s <;> simp
/-- A number that is whole is written as it is. -/
theorem write_whole {s : Bool} {m k : Nat} {n : Int} (h : signed s m 0 = n * 2 ^ k) (hn : n.natAbs < 9007199254740992) : DW (double.read (double.write (.number s m (-(k : Int))))) n := by
  show DW (double.read (double.nearest s m (-(k : Int)))) n
  by_cases hm : m = 0
  · subst hm
    rw [read_zero]
    have hn0 : n = 0 := by
      rw [signed_zero] at h
      have h2 : n * 2 ^ k = 0 := by rw [← h]; cases s <;> simp
      rcases Int.mul_eq_zero.1 h2 with h3 | h3
      · exact h3
      · exact absurd h3 (Int.ne_of_gt (Int.pow_pos (by omega)))
    refine ⟨s, 0, 1074, rfl, ?_⟩
    rw [hn0, signed_zero, Int.zero_mul]
    cases s <;> rfl
  · have hq : m = n.natAbs * 2 ^ k ∧ 0 < n.natAbs := by
      rw [signed_zero] at h
      have h2 : (n * 2 ^ k).natAbs = n.natAbs * 2 ^ k := by rw [Int.natAbs_mul, Int.natAbs_pow]; rfl
      have h3 : m = n.natAbs * 2 ^ k := by
        rw [← h2, ← h]
        cases s <;> simp
      refine ⟨h3, Nat.pos_of_ne_zero fun h0 => hm ?_⟩
      rw [h3, h0, Nat.zero_mul]
    obtain ⟨j, hj⟩ := nearest_whole s n.natAbs k hq.2 hn m hq.1
    rw [hj]
    refine ⟨s, _, j, rfl, ?_⟩
    rw [signed_zero] at h ⊢
    have hp : (0 : Int) < 2 ^ k := Int.pow_pos (by omega)
    have hs : n = if s then -(n.natAbs : Int) else (n.natAbs : Int) := by
      have hm' : (m : Int) = (n.natAbs : Int) * 2 ^ k := by rw [hq.1]; simp
      cases s
      · simp only [Bool.false_eq_true, if_false] at h ⊢
        rw [hm'] at h
        exact (Int.eq_of_mul_eq_mul_right (Int.ne_of_gt hp) h).symm
      · simp only [if_true] at h ⊢
        rw [hm', ← Int.neg_mul] at h
        exact (Int.eq_of_mul_eq_mul_right (Int.ne_of_gt hp) h).symm
    have e : ((n.natAbs * 2 ^ j : Nat) : Int) = (n.natAbs : Int) * 2 ^ j := by simp
    rw [e]
    cases s
    · simp only [Bool.false_eq_true, if_false] at hs ⊢
      rw [← hs]
    · simp only [if_true] at hs ⊢
      rw [← Int.neg_mul, ← hs]

/-! ### The operations -/
theorem signed_up (s : Bool) (m u : Nat) : signed s m u = signed s m 0 * 2 ^ u := by
  rw [signed_zero]
  unfold signed
  rw [Nat.shiftLeft_eq]
  cases s <;> simp [Int.neg_mul]
theorem sign_of (t : Int) (z : Bool) : signed (if t = 0 then z else decide (t < 0)) t.natAbs 0 = t := by
  rw [signed_zero]
  by_cases h : t = 0
  · subst h; cases z <;> rfl
  · rw [if_neg h]
    by_cases h2 : t < 0
    · simp [h2]; omega
    · simp [h2]; omega
theorem sum_whole {d e : Datum} {a b : Int} (hd : DW d a) (he : DW e b) (h : (a + b).natAbs < 9007199254740992) : ∃ r, d.sum e = some r ∧ DW (double.read (double.write r)) (a + b) := by
  obtain ⟨s, m, k, rfl, h1⟩ := hd
  obtain ⟨t, n, l, rfl, h2⟩ := he
  have hb : min (-(k : Int)) (-(l : Int)) = -((max k l : Nat) : Int) := by omega
  have e1 : (-(k : Int) - min (-(k : Int)) (-(l : Int))).toNat = max k l - k := by omega
  have e2 : (-(l : Int) - min (-(k : Int)) (-(l : Int))).toNat = max k l - l := by omega
  refine ⟨_, rfl, ?_⟩
  rw [e1, e2, hb]
  have ht : signed s m (max k l - k) + signed t n (max k l - l) = (a + b) * 2 ^ (max k l) := by
    rw [signed_up s, signed_up t, h1, h2, Int.mul_assoc, Int.mul_assoc, ← Int.pow_add, ← Int.pow_add, show k + (max k l - k) = max k l by omega, show l + (max k l - l) = max k l by omega, Int.add_mul]
  exact write_whole (by rw [sign_of]; exact ht) h
theorem opp_whole {d : Datum} {a : Int} (hd : DW d a) : DW d.opposite (-a) := by
  obtain ⟨s, m, k, rfl, h1⟩ := hd
  refine ⟨!s, m, k, rfl, ?_⟩
  rw [Int.neg_mul, ← h1, signed_zero, signed_zero]
  cases s <;> simp
theorem prod_whole {d e : Datum} {a b : Int} (hd : DW d a) (he : DW e b) (h : (a * b).natAbs < 9007199254740992) : ∃ r, d.product e = some r ∧ DW (double.read (double.write r)) (a * b) := by
  obtain ⟨s, m, k, rfl, h1⟩ := hd
  obtain ⟨t, n, l, rfl, h2⟩ := he
  refine ⟨_, rfl, ?_⟩
  rw [show -(k : Int) + -(l : Int) = -((k + l : Nat) : Int) by omega]
  refine write_whole ?_ h
  rw [signed_zero] at h1 h2 ⊢
  rw [Int.pow_add, show a * b * (2 ^ k * 2 ^ l) = (a * 2 ^ k) * (b * 2 ^ l) by grind, ← h1, ← h2]
  cases s <;> cases t <;> simp [Int.neg_mul, Int.mul_neg]
theorem WF.add {x y : F} {a b : Int} (hx : WF x a) (hy : WF y b) (h : (a + b).natAbs < 9007199254740992) : WF (fadd x y) (a + b) := by
  obtain ⟨u, rfl, h1⟩ := hx
  obtain ⟨v, rfl, h2⟩ := hy
  obtain ⟨r, e, hr⟩ := sum_whole h1 h2 h
  exact ⟨_, by show double.add u v = _; unfold Format.add; rw [e]; rfl, hr⟩
theorem WF.sub {x y : F} {a b : Int} (hx : WF x a) (hy : WF y b) (h : (a - b).natAbs < 9007199254740992) : WF (fsub x y) (a - b) := by
  obtain ⟨u, rfl, h1⟩ := hx
  obtain ⟨v, rfl, h2⟩ := hy
  obtain ⟨r, e, hr⟩ := sum_whole h1 (opp_whole h2) (by rw [← Int.sub_eq_add_neg]; exact h)
  exact ⟨_, by show double.sub u v = _; unfold Format.sub; rw [e]; rfl, by rw [Int.sub_eq_add_neg]; exact hr⟩
theorem WF.mul {x y : F} {a b : Int} (hx : WF x a) (hy : WF y b) (h : (a * b).natAbs < 9007199254740992) : WF (fmul x y) (a * b) := by
  obtain ⟨u, rfl, h1⟩ := hx
  obtain ⟨v, rfl, h2⟩ := hy
  obtain ⟨r, e, hr⟩ := prod_whole h1 h2 h
  exact ⟨_, by show double.mul u v = _; unfold Format.mul; rw [e]; rfl, hr⟩
theorem cmp_scale (a b : Int) (k : Nat) : compare (a * 2 ^ k) (b * 2 ^ k) = compare a b := by
  have hp : (0 : Int) < 2 ^ k := Int.pow_pos (by omega)
  show compareOfLessAndEq _ _ = compareOfLessAndEq _ _
  unfold compareOfLessAndEq
  by_cases h1 : a < b
  · rw [if_pos h1, if_pos (Int.mul_lt_mul_of_pos_right h1 hp)]
  · rw [if_neg h1, if_neg (fun h => h1 (Int.lt_of_mul_lt_mul_right h (Int.le_of_lt hp)))]
    by_cases h2 : a = b
    · rw [if_pos h2, if_pos (by rw [h2])]
    · rw [if_neg h2, if_neg (fun h => h2 (Int.eq_of_mul_eq_mul_right (Int.ne_of_gt hp) h))]
theorem WF.cmp {x y : F} {a b : Int} (hx : WF x a) (hy : WF y b) : fcmp x y = some (compare a b) := by
  obtain ⟨u, rfl, h1⟩ := hx
  obtain ⟨v, rfl, h2⟩ := hy
  show double.order u v = _
  unfold Format.order
  obtain ⟨s, m, k, e1, h1⟩ := h1
  obtain ⟨t, n, l, e2, h2⟩ := h2
  rw [e1, e2]
  have g1 : (-(k : Int) - min (-(k : Int)) (-(l : Int))).toNat = max k l - k := by omega
  have g2 : (-(l : Int) - min (-(k : Int)) (-(l : Int))).toNat = max k l - l := by omega
  show some (compare (signed s m (-(k : Int) - min (-(k : Int)) (-(l : Int))).toNat) (signed t n (-(l : Int) - min (-(k : Int)) (-(l : Int))).toNat)) = _
  rw [g1, g2, signed_up s, signed_up t, h1, h2, Int.mul_assoc, Int.mul_assoc, ← Int.pow_add, ← Int.pow_add, show k + (max k l - k) = max k l by omega, show l + (max k l - l) = max k l by omega, cmp_scale]
theorem WF.eq {x y : F} {a b : Int} (hx : WF x a) (hy : WF y b) : feq x y = decide (a = b) := by
  unfold feq
  rw [hx.cmp hy]
  show (some (compareOfLessAndEq a b) == some Ordering.eq) = _
  unfold compareOfLessAndEq
  by_cases h1 : a < b
  · rw [if_pos h1, decide_eq_false (by omega)]; rfl
  · rw [if_neg h1]
    by_cases h2 : a = b
    · rw [if_pos h2, decide_eq_true h2]; rfl
    · rw [if_neg h2, decide_eq_false h2]; rfl
/-- A whole number, by Go's own conversion. -/
theorem WF.int (n : Int) (hn : n.natAbs < 9007199254740992) : WF (some (double.write (.number (decide (n < 0)) n.natAbs 0))) n := by
  refine ⟨_, rfl, ?_⟩
  have := write_whole (s := decide (n < 0)) (m := n.natAbs) (k := 0) (n := n) (by
    rw [signed_zero, Int.pow_zero, Int.mul_one]
    by_cases h : n < 0
    · simp [h]; omega
    · simp [h]; omega) hn
  simpa using this
theorem WF.zero : WF (some 0) 0 := ⟨0, rfl, false, 0, 1074, by decide, by rw [signed_zero, Int.zero_mul]; rfl⟩
theorem WF.one : WF (some 4607182418800017408) 1 := ⟨_, rfl, false, 4503599627370496, 52, by decide, by rw [signed_zero]; decide⟩
theorem WF.neg {x : F} {a : Int} (hx : WF x a) : WF (fneg x) (-a) := by
  obtain ⟨u, rfl, s, m, k, e1, h1⟩ := hx
  refine ⟨u ^^^ 9223372036854775808, rfl, !s, m, k, ?_, ?_⟩
  · have hm : (u ^^^ 9223372036854775808) % 9223372036854775808 = u % 9223372036854775808 := xor_mod u
    have hs : ((u ^^^ 9223372036854775808) / 9223372036854775808 % 2 == 1) = !(u / 9223372036854775808 % 2 == 1) := by
      have h2 : (9223372036854775808 : Nat) = 2 ^ 63 := by decide
      have ht : ∀ z : Nat, (z / 9223372036854775808 % 2 == 1) = z.testBit 63 := fun z => by
        rw [h2, Nat.testBit_eq_decide_div_mod_eq]
        by_cases h : z / 2 ^ 63 % 2 = 1 <;> simp [h]
      rw [ht, ht, Nat.testBit_xor]
      have : Nat.testBit 9223372036854775808 63 = true := by decide
      rw [this]; simp
    unfold Format.read at e1 ⊢
    simp only [lp, bn, ir, sw] at e1 ⊢
    rw [hm, hs]
    split at e1
    · rename_i h
      rw [if_pos h]
      obtain ⟨q1, q2, q3⟩ := Datum.number.inj e1
      rw [q1, q2, q3]
    · rename_i h
      rw [if_neg h]
      split at e1
      · rename_i h
        rw [if_pos h]
        obtain ⟨q1, q2, q3⟩ := Datum.number.inj e1
        rw [q1, q2, q3]
      · split at e1 <;> exact absurd e1 (by simp)
  · rw [Int.neg_mul, ← h1, signed_zero, signed_zero]
    cases s <;> simp
end Go.Proofs.Ytghhanifakllpaa.Nu

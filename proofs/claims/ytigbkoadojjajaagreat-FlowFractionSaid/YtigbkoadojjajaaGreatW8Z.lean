/- Flows in the clean executor: lists of elements, flow.Check. -/
import Derived.Test.YtigbkoadojjajaaGreatW4Z
import Derived.Test.YtigbkoadojjajaaGreatFlZ
import Derived.Test.YtigbkoadojjajaaGreatPoZ
set_option linter.unusedSimpArgs false
set_option linter.unusedVariables false
namespace Go.Proofs.YtigbkoadojjajaaGreat
open Go.Clean
structure El where
  k : Int
  a : C
  s : C
  p : Nat
  n : Nat
def El.cells (e : El) : List Value := elL e.k e.a e.s e.p
def El.val (e : El) : Value := elV e.k e.a e.s e.p
def flat : List El → List Value
  | [] => []
  | e :: l => .int .u8 e.k :: cx e.a :: cx e.s :: .float .f64 e.p :: flat l
/-- An element as the law makes it. -/
structure El.OK (e : El) : Prop where
  kp : KP e.k e.p e.n
  ha : cwithin e.a lim = true
  hs : cwithin e.s lim = true
  h1 : e.k = 1 → cnought e.a = true
/-- A list of elements in memory, grown one by one. -/
def EL (m : Mem) (v : Value) (es : List El) : Prop := (es = [] ∧ v = nilL) ∨ (es ≠ [] ∧ ∃ b, v = .slice (some ⟨b, 0, none⟩) es.length es.length ∧ m.at b = some ⟨flat es, 4, true, false⟩)
theorem EL.up {m m' : Mem} {v : Value} {es : List El} (h : EL m v es) (hw : MW m) (u : Up m m') : EL m' v es := by
  rcases h with h | ⟨h, b, h1, h2⟩
  · exact .inl h
  · exact .inr ⟨h, b, h1, u.at h2 hw⟩
theorem len_Els (a : Option Addr) (n c : Nat) : lenX Tryz.prog 27 (.slice a n c) = some (.int .i64 n) := len_slice (e := 31) (by kernel_rfl) a n c
theorem EL.len {m : Mem} {v : Value} {es : List El} (h : EL m v es) : lenX Tryz.prog 27 v = some (.int .i64 es.length) := by
  rcases h with ⟨rfl, rfl⟩ | ⟨h, b, rfl, h2⟩ <;> exact len_Els _ _ _
theorem EL.cells {m : Mem} {v : Value} {es : List El} (h : EL m v es) : cellsV v = [v] := by
  rcases h with ⟨rfl, rfl⟩ | ⟨h, b, rfl, h2⟩ <;> simp
theorem EL.one {m : Mem} {v : Value} {es : List El} (h : EL m v es) : oneV v = true := by
  rcases h with ⟨rfl, rfl⟩ | ⟨h, b, rfl, h2⟩ <;> simp
theorem takeN_flat : ∀ (es : List El) (i : Nat) (h : i < es.length), takeN (flat es) (i * 4) 4 = some (es[i]'h).cells
  | e :: l, 0, _ => by cases l <;> rfl
  | e :: l, i + 1, h => by
    rw [show (i + 1) * 4 = i * 4 + 1 + 1 + 1 + 1 by omega]
    exact takeN_flat l i (by simpa using h)
@[simp] theorem elt_Els : elemT Tryz.prog 27 = 1 := by kernel_rfl
theorem idx_El (b len cap i : Nat) (h : i < len) : indexAddrX Tryz.prog 27 (.slice (some ⟨b, 0, none⟩) len cap) (.int .i64 (i : Int)) = some (.pointer (some ⟨b, i * 4, none⟩)) := by
  have e : indexAddrX Tryz.prog 27 (.slice (some ⟨b, 0, none⟩) len cap) (.int .i64 (i : Int)) = bif decide (0 ≤ (i : Int) ∧ (i : Int) < (len : Int)) then some (.pointer (some ⟨b, 0 + (i : Int).toNat * 4, none⟩)) else none := by kernel_rfl
  rw [e, show decide (0 ≤ (i : Int) ∧ (i : Int) < (len : Int)) = true by simp; omega]
  simp
@[simp] theorem agg_Fw : Clean.isAgg Tryz.prog 29 = some true := by kernel_rfl
@[simp] theorem size_Fw : sizeT Tryz.prog 29 = some 1 := by kernel_rfl
@[simp] theorem elt_Fw : elemT Tryz.prog 29 = 1 := by kernel_rfl
@[simp] theorem ld_Fw (x : Value) : ldX Tryz.prog 29 [x] 0 = some (.agg ⟨[x]⟩) := (ld_agg agg_Fw size_Fw [x] 0).trans rfl
@[simp] theorem fa_Fw0 (s o : Nat) : fieldAddrX Tryz.prog 29 (.pointer (some ⟨s, o, none⟩)) 0 = some (.pointer (some ⟨s, o, none⟩)) := (by kernel_rfl : fieldAddrX Tryz.prog 29 (.pointer (some ⟨s, o, none⟩)) 0 = some (.pointer (some ⟨s, o, none⟩))).trans rfl
@[simp] theorem agg_Els : Clean.isAgg Tryz.prog 27 = some false := by kernel_rfl
@[simp] theorem size_Els : sizeT Tryz.prog 27 = some 1 := by kernel_rfl
@[simp] theorem ld_Els (cs : List Value) (o : Nat) : ldX Tryz.prog 27 cs o = cs[o]? := ld_one agg_Els cs o
theorem ld_El' {es : List El} {i : Nat} (h : i < es.length) : ldX Tryz.prog 31 (flat es) (i * 4) = some (es[i]'h).val := by
  rw [ld_agg agg_El size_El, takeN_flat es i h]; rfl
theorem sto_El (v : Value) : storeOK Tryz.prog 31 v = (4 == (cellsV v).length && (cellsV v).all oneV) := by unfold storeOK; rw [size_El]; rfl
def fcI (m0 : Mem) (v : Value) (es : List El) (k : Nat) (fr : Fr) (m' : Mem) : Prop := ∃ i, i + k = es.length ∧ fr.n = 23 ∧ fr.d = [] ∧ fr.at 11 = v ∧ fr.at 12 = .int .i64 es.length ∧ fr.at 13 = .int .i64 i ∧ MW m' ∧ EL m' v es ∧ Up m0 m'
def fcR (m0 : Mem) : CQ := fun r m' => r.1 = .exit 0 ∧ r.2.n = 23 ∧ r.2.d = [] ∧ Up m0 m'
section
set_option maxRecDepth 10000
set_option maxHeartbeats 2000000 in
theorem fcheck_ok (d : Nat) {m : Mem} {v : Value} {es : List El} (hw : MW m) (hv : EL m v es) (hl : es.length ≤ 3) (hes : ∀ e ∈ es, e.OK) {Q : Value → Mem → Prop} (hQ : ∀ m', Up m m' → Q (.int .i64 0) m') :
    Gives (callN Tryz.prog known (d + 6) 17 [.agg ⟨[v]⟩]) m Q := by
  refine gives_fn (nt := 23) rfl Tryz.func17 rfl rfl rfl (Nat.le_of_ble_eq_true rfl) fun fr hn hd hargs => ?_
  have h0 : fr.at 0 = _ := hargs 0 _ rfl
  clear hargs
  obtain ⟨m1, hm1⟩ : ∃ m1, m1 = m.nw ⟨[v], 1, false, false⟩ := ⟨_, rfl⟩
  have u1 : Up m m1 := by rw [hm1]; exact Up.nw _ _
  have e1 : m1.at m.next = some ⟨[v], 1, false, false⟩ := by rw [hm1]; simp
  have hlt : ¬ (256 : Int) < (es.length : Int) := by omega
  refine (code_seq _ _ _ _ _).2 ?_
  simp [h0, hn, hv.one, -code_seq]
  rw [← hm1]
  simp [hn, e1, hv.len, hlt]
  have u2 : ∀ M : Mem, M.next = m1.next → (∀ c, M.at c = m1.at c) → Up m M := fun M h1 h2 => u1.trans (Up.same h1 h2)
  refine code_loop_post (fcR m) (fcI m v es) es.length (by omega) ⟨0, by simp, by simp [hn], by simp [hd], by simp, by simp, by simp, (u2 _ (by simp) fun c => by simp).wf hw, hv.up hw (u2 _ (by simp) fun c => by simp), u2 _ (by simp) fun c => by simp⟩ ?_ ?_
  · rintro k f m2 ⟨i, hik, f1, f2, f3, f4, f5, w2, v2, u3⟩
    by_cases hi : i < es.length
    · rcases v2 with ⟨rfl, -⟩ | ⟨hne, b, hv2, hb2⟩
      · simp at hi
      · have hok := hes _ (List.getElem_mem hi)
        simp [f1, f2, f3, f4, f5, hi, hv2, idx_El _ _ _ _ hi, hb2, ld_El' hi, zero_El]
        refine ⟨rfl, storeQ_rule (y := ⟨[.int .u8 0, .complex .f64 0 0, .complex .f64 0 0, .float .f64 0], 1, false, false⟩) (by simp) rfl (by rw [sto_El]; rfl) (l := (es[i]'hi).cells) rfl fun m4 n4 l4 e4 => ?_⟩
        simp only [Mem.next_rd, Mem.next_nw, Mem.at_rd, Mem.at_nw] at n4 e4
        have u4 : Up m2 m4 := Up.wr (m1 := (m2.rd b).nw ⟨[.int .u8 0, .complex .f64 0 0, .complex .f64 0 0, .float .f64 0], 1, false, false⟩) (Up.trans (Up.rd _ _) (Up.nw _ _)) (Nat.le_refl _) (by simp) (by simpa using n4) (fun c => by simpa using e4 c)
        have e5 : m4.at m2.next = some ⟨elL es[i].k es[i].a es[i].s es[i].p, 1, false, false⟩ := by rw [e4, if_pos rfl]; rfl
        simp [f1, e5]
        refine echeck_ok d hok.kp hok.ha hok.hs hok.h1 fun m6 u6 => ?_
        have u6' : Up m2 m6 := Up.trans u4 (Up.trans (Up.rd _ _) u6)
        simp [f1, f2, f5, wrap_succ i (by omega)]
        exact ⟨es.length - (i + 1), by omega, i + 1, by omega, by simp [f1], by simp [f2], by simp [f3, hv2], by simp [f4], by simp, u6'.wf w2, EL.up (.inr ⟨hne, b, rfl, hb2⟩) w2 u6', u3.trans u6'⟩
    · simp [f1, f2, f4, f5, hi]
      exact ⟨rfl, by simp [f1], by simp [f2], u3⟩
  · rintro ⟨e, f⟩ m2 ⟨he, f1, f2, u3⟩
    obtain rfl : e = .exit 0 := he
    simp only at f1 f2
    simp [f1, f2]
    exact hQ _ u3
end
end Go.Proofs.YtigbkoadojjajaaGreat

/- Plain: rounding: a float's value as a fraction, how near a result is. No program in sight. -/
set_option linter.unusedVariables false
set_option linter.unusedSimpArgs false
namespace Go.Proofs.YtigbkoadojjajaaGreat
open Ieee

/-! ### Powers of two -/
def p2 (k : Int) : Rat := (2 : Rat) ^ k
theorem p2_pos (k : Int) : 0 < p2 k := Rat.zpow_pos (by decide)
theorem p2_add (j k : Int) : p2 (j + k) = p2 j * p2 k := Rat.zpow_add (by decide) j k
theorem p2_zero : p2 0 = 1 := Rat.zpow_zero 2
theorem p2_one : p2 1 = 2 := Rat.zpow_one 2
theorem p2_nat (n : Nat) : p2 (n : Int) = ((2 ^ n : Nat) : Rat) := by
  unfold p2
  rw [Rat.zpow_natCast]
  simp
theorem p2_mono {j k : Int} (h : j ≤ k) : p2 j ≤ p2 k := by
  obtain ⟨n, rfl⟩ : ∃ n : Nat, k = j + n := ⟨(k - j).toNat, by omega⟩
  rw [p2_add, p2_nat]
  have h1 : (1 : Rat) ≤ ((2 ^ n : Nat) : Rat) := by
    have : ((1 : Nat) : Rat) ≤ ((2 ^ n : Nat) : Rat) := Rat.natCast_le_natCast.2 (Nat.one_le_two_pow)
    simpa using this
  have := Rat.mul_le_mul_of_nonneg_left h1 (Rat.le_of_lt (p2_pos j))
  rwa [Rat.mul_one] at this
theorem p2_lt {j k : Int} (h : p2 j ≤ p2 k) : j ≤ k := by
  by_cases hjk : j ≤ k
  · exact hjk
  · have h1 := p2_mono (show k + 1 ≤ j by omega)
    rw [p2_add, p2_one] at h1
    have := p2_pos k
    grind

/-! ### To cut -/
theorem cut_near (neg : Bool) (n D : Nat) : 2 * (Toward.even.cut neg n D * 2 ^ D) ≤ 2 * n + 2 ^ D ∧ 2 * n ≤ 2 * (Toward.even.cut neg n D * 2 ^ D) + 2 ^ D := by
  unfold Toward.cut
  simp only [Nat.one_shiftLeft]
  by_cases hD : D ≤ n.log2 + 2
  · rw [Nat.min_eq_left hD]
    have hp := Nat.two_pow_pos D
    generalize 2 ^ D = g at hp ⊢
    have h1 := Nat.div_add_mod n g
    have h2 := Nat.mod_lt n hp
    generalize n % g = r at h1 h2 ⊢
    generalize hq : n / g = q at h1 ⊢
    rw [Nat.mul_comm] at h1
    by_cases hm : g < 2 * r ∨ (g = 2 * r ∧ q % 2 = 1)
    · have e : (decide (g < 2 * r) || (g == 2 * r && q % 2 == 1)) = true := by simpa using hm
      rw [e]
      have e2 : (q + true.toNat) * g = q * g + g := by rw [Nat.add_mul]; simp
      rw [e2]
      omega
    · have e : (decide (g < 2 * r) || (g == 2 * r && q % 2 == 1)) = false := by
        rw [← Bool.not_eq_true]; simpa using hm
      rw [e]
      have e2 : (q + false.toNat) * g = q * g := by simp
      rw [e2]
      have : 2 * r ≤ g := by omega
      omega
  · rw [Nat.min_eq_right (by omega)]
    have h1 : n < 2 ^ (n.log2 + 1) := Nat.lt_log2_self
    have h2 : 2 ^ (n.log2 + 2) = 2 * 2 ^ (n.log2 + 1) := by rw [Nat.pow_succ 2 (n.log2 + 1)]; omega
    have h3 : 2 ^ (n.log2 + 2) ≤ 2 ^ D := Nat.pow_le_pow_right (by omega) (by omega)
    rw [Nat.div_eq_of_lt (by omega), Nat.mod_eq_of_lt (by omega)]
    have e : (decide (2 ^ (n.log2 + 2) < 2 * n) || (2 ^ (n.log2 + 2) == 2 * n && 0 % 2 == 1)) = false := by
      have : ¬ 2 ^ (n.log2 + 2) < 2 * n := by omega
      simp [this]
    rw [e]
    simp
    omega

/-! ### To read -/
theorem read_rung (neg : Bool) (L kept : Nat) (h : L = 0 ∨ 4503599627370496 ≤ kept) (h1 : kept ≤ 9007199254740992) (h2 : L ≤ 2040) :
    ∃ (m : Nat) (k : Int), double.read (double.word neg (L * 4503599627370496 + kept)) = .number neg m k ∧ (m : Rat) * p2 k = (kept : Rat) * p2 ((L : Int) - 1074) ∧ -1074 ≤ k := by
  have e1 : double.word neg (L * 4503599627370496 + kept) % 9223372036854775808 = L * 4503599627370496 + kept := by
    unfold Format.word
    rw [sw]
    cases neg <;> simp <;> omega
  have e2 : (double.word neg (L * 4503599627370496 + kept) / 9223372036854775808 % 2 == 1) = neg := by
    unfold Format.word
    rw [sw]
    cases neg
    · simp; omega
    · simp; omega
  unfold Format.read
  simp only [lp, bn, ir, sw, e1, e2]
  by_cases hk : kept < 4503599627370496
  · have hL : L = 0 := by omega
    subst hL
    rw [if_pos (by omega)]
    exact ⟨_, _, rfl, by simp, by omega⟩
  · rw [if_neg (by omega), if_pos (by omega)]
    by_cases hk2 : kept = 9007199254740992
    · subst hk2
      refine ⟨_, _, rfl, ?_, by omega⟩
      have a1 : 4503599627370496 + (L * 4503599627370496 + 9007199254740992) % 4503599627370496 = 4503599627370496 := by omega
      have a2 : (-1074 : Int) + (((L * 4503599627370496 + 9007199254740992) / 4503599627370496 - 1 : Nat) : Int) = 1 + ((L : Int) - 1074) := by omega
      rw [a1, a2, p2_add, p2_one]
      grind
    · refine ⟨_, _, rfl, ?_, by omega⟩
      have a1 : 4503599627370496 + (L * 4503599627370496 + kept) % 4503599627370496 = kept := by omega
      have a2 : (-1074 : Int) + (((L * 4503599627370496 + kept) / 4503599627370496 - 1 : Nat) : Int) = (L : Int) - 1074 := by omega
      rw [a1, a2]

/-! ### To round -/
theorem nat_p2 (n k : Nat) : ((n * 2 ^ k : Nat) : Rat) = (n : Rat) * p2 k := by
  rw [p2_nat]; exact Rat.natCast_mul n (2 ^ k)
theorem near_write (s : Bool) (mag : Nat) (place : Int) {B : Rat} (hB : (mag : Rat) * p2 place ≤ B) (hB2 : B ≤ p2 1000) :
    ∃ (m : Nat) (k : Int), double.read (double.nearest s mag place) = .number s m k ∧ -1074 ≤ k ∧ (m : Rat) * p2 k ≤ (mag : Rat) * p2 place + (B * p2 (-53) + p2 (-1075)) ∧ (mag : Rat) * p2 place ≤ (m : Rat) * p2 k + (B * p2 (-53) + p2 (-1075)) := by
  have hplace := p2_pos place
  have hB0 : 0 ≤ B := by
    have h1 : (0 : Rat) ≤ (mag : Rat) := by
      have : ((0 : Nat) : Rat) ≤ (mag : Rat) := Rat.natCast_le_natCast.2 (Nat.zero_le _)
      simpa using this
    have := Rat.mul_nonneg h1 (Rat.le_of_lt hplace)
    grind
  have hu := p2_pos (-53)
  have ht := p2_pos (-1075)
  have hBu := Rat.mul_nonneg hB0 (Rat.le_of_lt hu)
  by_cases hmag : mag = 0
  · subst hmag
    refine ⟨0, _, read_zero s place, by omega, ?_, ?_⟩ <;> simp <;> grind
  · obtain ⟨l, hl⟩ : ∃ l, l = mag.log2 := ⟨_, rfl⟩
    have h1 : 2 ^ l ≤ mag := by rw [hl]; exact Nat.log2_self_le hmag
    have h2 : mag < 2 ^ (l + 1) := by rw [hl]; exact Nat.lt_log2_self
    obtain ⟨last, hlast⟩ : ∃ last : Int, last = max (place + (l : Int) - 52) (-1074) := ⟨_, rfl⟩
    obtain ⟨U, hU⟩ : ∃ U, U = (place - last).toNat := ⟨_, rfl⟩
    obtain ⟨D, hD⟩ : ∃ D, D = (last - place).toNat := ⟨_, rfl⟩
    obtain ⟨c, hc⟩ : ∃ c, c = Toward.even.cut s (mag <<< U) D := ⟨_, rfl⟩
    obtain ⟨n1, n2⟩ := cut_near s (mag <<< U) D
    rw [← hc, Nat.shiftLeft_eq] at n1 n2
    have hpD := Nat.two_pow_pos D
    have hmU : mag * 2 ^ U < 2 ^ (53 + D) := by
      have : mag * 2 ^ U < 2 ^ (l + 1) * 2 ^ U := Nat.mul_lt_mul_of_pos_right h2 (Nat.two_pow_pos U)
      rw [← Nat.pow_add] at this
      exact Nat.lt_of_lt_of_le this (Nat.pow_le_pow_right (by omega) (by omega))
    have hc53 : c ≤ 9007199254740992 := by
      rw [Nat.pow_add] at hmU
      have : 2 * (c * 2 ^ D) < 2 * ((2 ^ 53 + 1) * 2 ^ D) := by
        have e : 2 * ((2 ^ 53 + 1) * 2 ^ D) = 2 * (2 ^ 53 * 2 ^ D) + 2 * 2 ^ D := by rw [Nat.add_mul]; omega
        omega
      have := Nat.lt_of_mul_lt_mul_right (Nat.lt_of_mul_lt_mul_left this)
      omega
    have hc52 : last = -1074 ∨ 4503599627370496 ≤ c := by
      by_cases hla : last = -1074
      · exact .inl hla
      · right
        have e : l + U = 52 + D := by omega
        have : 2 ^ l * 2 ^ U ≤ mag * 2 ^ U := Nat.mul_le_mul_right _ h1
        rw [← Nat.pow_add, e, Nat.pow_add] at this
        have h3 : (2 * 2 ^ 52 - 1) * 2 ^ D ≤ 2 * c * 2 ^ D := by
          rw [Nat.sub_mul, Nat.mul_assoc, Nat.mul_assoc]; omega
        have := Nat.le_of_mul_le_mul_right h3 hpD
        omega
    have hp2e : p2 (place + l) ≤ (mag : Rat) * p2 place := by
      rw [p2_add, p2_nat, Rat.mul_comm]
      exact Rat.mul_le_mul_of_nonneg_right (Rat.natCast_le_natCast.2 h1) (Rat.le_of_lt hplace)
    have he : place + l ≤ 1000 := p2_lt (Rat.le_trans hp2e (Rat.le_trans hB hB2))
    obtain ⟨L, hL⟩ : ∃ L, L = (last + 1074).toNat := ⟨_, rfl⟩
    have hLc : L = 0 ∨ 4503599627370496 ≤ c := by
      rcases hc52 with h | h
      · left; omega
      · exact .inr h
    obtain ⟨m, k, e1, e2, e3⟩ := read_rung s L c hLc hc53 (by omega)
    have hread : double.read (double.nearest s mag place) = .number s m k := by
      unfold Format.nearest
      rw [if_neg hmag]
      simp only [lp, fb, bn, ir]
      rw [← hl]
      have a1 : max (place + (l : Int) - ((52 : Nat) : Int)) (-1074) = last := hlast.symm
      rw [a1, ← hU, ← hD, ← hc]
      have a2 : (last - -1074).toNat = L := by rw [hL]; congr 1
      rw [a2, Nat.min_eq_left (by omega)]
      exact e1
    have hkl : (L : Int) - 1074 = last := by omega
    rw [hkl] at e2
    -- as fractions
    have q1 : (2 : Rat) * ((c : Rat) * p2 D) ≤ 2 * ((mag : Rat) * p2 U) + p2 D := by
      rw [← nat_p2, ← nat_p2, p2_nat]
      have : ((2 * (c * 2 ^ D) : Nat) : Rat) ≤ ((2 * (mag * 2 ^ U) + 2 ^ D : Nat) : Rat) := Rat.natCast_le_natCast.2 n1
      rw [Rat.natCast_add, Rat.natCast_mul, Rat.natCast_mul 2 (mag * 2 ^ U)] at this
      exact this
    have q2 : (2 : Rat) * ((mag : Rat) * p2 U) ≤ 2 * ((c : Rat) * p2 D) + p2 D := by
      rw [← nat_p2, ← nat_p2, p2_nat]
      have : ((2 * (mag * 2 ^ U) : Nat) : Rat) ≤ ((2 * (c * 2 ^ D) + 2 ^ D : Nat) : Rat) := Rat.natCast_le_natCast.2 n2
      rw [Rat.natCast_add, Rat.natCast_mul, Rat.natCast_mul 2 (c * 2 ^ D)] at this
      exact this
    have hP : ∀ x : Rat, x * p2 D * p2 (last - D) = x * p2 last := fun x => by
      rw [Rat.mul_assoc, ← p2_add, show (D : Int) + (last - D) = last by omega]
    have hQ : (mag : Rat) * p2 U * p2 (last - D) = (mag : Rat) * p2 place := by
      rw [Rat.mul_assoc, ← p2_add, show (U : Int) + (last - D) = place by omega]
    have hR : p2 D * p2 (last - D) = 2 * p2 (last - 1) := by
      rw [← p2_add, ← p2_one, ← p2_add, show (D : Int) + (last - D) = 1 + (last - 1) by omega]
    have hpos := Rat.le_of_lt (p2_pos (last - D))
    have r1 := Rat.mul_le_mul_of_nonneg_right q1 hpos
    have r2 := Rat.mul_le_mul_of_nonneg_right q2 hpos
    rw [Rat.add_mul, Rat.mul_assoc, Rat.mul_assoc 2, hP, hQ, hR] at r1
    rw [Rat.add_mul, Rat.mul_assoc, Rat.mul_assoc 2, hP, hQ, hR] at r2
    have herr : p2 (last - 1) ≤ B * p2 (-53) + p2 (-1075) := by
      by_cases hla : last = -1074
      · rw [hla]; show p2 (-1075) ≤ _; grind
      · have : last - 1 = (place + l) + (-53) := by omega
        rw [this, p2_add]
        have := Rat.mul_le_mul_of_nonneg_right (Rat.le_trans hp2e hB) (Rat.le_of_lt hu)
        grind
    refine ⟨m, k, hread, e3, ?_, ?_⟩
    · rw [e2]; grind
    · rw [e2]; grind
end Go.Proofs.YtigbkoadojjajaaGreat

/- Plain: floats as fractions: sums, products, quotients, order; a complex quotient is finite. No program in sight. -/
set_option linter.unusedVariables false
set_option linter.unusedSimpArgs false
namespace Go.Proofs.YtigbkoadojjajaaGreat
open Ieee

def sg (s : Bool) : Rat := if s then -1 else 1
def nv (s : Bool) (m : Nat) (k : Int) : Rat := sg s * ((m : Rat) * p2 k)
/-- A float that is this fraction. -/
def RV (x : F) (q : Rat) : Prop := ∃ b s m k, x = some b ∧ double.read b = .number s m k ∧ q = nv s m k
/-- No further than e from one another. -/
def Nr (r q e : Rat) : Prop := r ≤ q + e ∧ q ≤ r + e
/-- No greater than B. -/
def Ab (q B : Rat) : Prop := q ≤ B ∧ -B ≤ q
theorem cast_nn (m : Nat) : (0 : Rat) ≤ (m : Rat) := by
  have : ((0 : Nat) : Rat) ≤ (m : Rat) := Rat.natCast_le_natCast.2 (Nat.zero_le _)
  simpa using this
theorem mag_nn (m : Nat) (k : Int) : 0 ≤ (m : Rat) * p2 k := Rat.mul_nonneg (cast_nn m) (Rat.le_of_lt (p2_pos k))
theorem nv_abs {s : Bool} {m : Nat} {k : Int} {B : Rat} (h : Ab (nv s m k) B) : (m : Rat) * p2 k ≤ B := by
  unfold Ab nv sg at h
  cases s
  · simp at h; exact h.1
  · simp at h; have := h.2; grind
theorem abs_nv {s : Bool} {m : Nat} {k : Int} {B : Rat} (h : (m : Rat) * p2 k ≤ B) : Ab (nv s m k) B := by
  have := mag_nn m k
  unfold Ab nv sg
  cases s
  · simp; grind
  · simp; grind
theorem nr_nv {s : Bool} {m m' : Nat} {k k' : Int} {e : Rat} (h1 : (m : Rat) * p2 k ≤ (m' : Rat) * p2 k' + e) (h2 : (m' : Rat) * p2 k' ≤ (m : Rat) * p2 k + e) : Nr (nv s m k) (nv s m' k') e := by
  unfold Nr nv sg
  cases s
  · simp; exact ⟨h1, h2⟩
  · simp; grind
def e53 (B : Rat) : Rat := B * p2 (-53) + p2 (-1075)
/-- What is written is near. -/
theorem RV.write (s : Bool) (m : Nat) (k : Int) {B : Rat} (hB : Ab (nv s m k) B) (hB2 : B ≤ p2 1000) : ∃ r, RV (some (double.write (.number s m k))) r ∧ Nr r (nv s m k) (e53 B) := by
  obtain ⟨m', k', h1, _, h3, h4⟩ := near_write s m k (nv_abs hB) hB2
  exact ⟨nv s m' k', ⟨_, s, m', k', rfl, h1, rfl⟩, nr_nv h3 h4⟩

/-! ### Whole numbers times powers -/
theorem int_cast_mul (a : Int) (n : Nat) : ((a * (2 ^ n : Nat) : Int) : Rat) = (a : Rat) * p2 n := by
  rw [p2_nat, Rat.intCast_mul]; rfl
theorem signed_up' (s : Bool) (m u : Nat) : ((signed s m u : Int) : Rat) = sg s * ((m : Rat) * p2 u) := by
  unfold signed sg
  rw [Nat.shiftLeft_eq]
  cases s
  · simp only [Bool.false_eq_true, if_false]
    rw [Rat.one_mul, ← nat_p2]; rfl
  · simp only [if_true]
    rw [← nat_p2, Rat.intCast_neg]
    have : (((m * 2 ^ u : Nat) : Int) : Rat) = ((m * 2 ^ u : Nat) : Rat) := rfl
    rw [this]; grind
/-- A datum's number at a lower place. -/
theorem nv_at (s : Bool) (m : Nat) {k base : Int} (h : base ≤ k) : nv s m k = ((signed s m (k - base).toNat : Int) : Rat) * p2 base := by
  rw [signed_up']
  unfold nv
  rw [Rat.mul_assoc, Rat.mul_assoc, ← p2_add]
  rw [show ((k - base).toNat : Int) + base = k by omega]
theorem nv_int (t : Int) (z : Bool) (base : Int) : nv (if t = 0 then z else decide (t < 0)) t.natAbs base = (t : Rat) * p2 base := by
  unfold nv sg
  by_cases h : t = 0
  · subst h; simp
  · rw [if_neg h]
    by_cases h2 : t < 0
    · rw [decide_eq_true h2]
      obtain ⟨n, rfl⟩ : ∃ n : Nat, t = -(n : Int) := ⟨t.natAbs, by omega⟩
      have e : (-(n : Int)).natAbs = n := by omega
      rw [e, Rat.intCast_neg]
      have : (((n : Nat) : Int) : Rat) = (n : Rat) := rfl
      rw [this]; simp; grind
    · rw [decide_eq_false h2]
      obtain ⟨n, rfl⟩ : ∃ n : Nat, t = (n : Int) := ⟨t.natAbs, by omega⟩
      have e : ((n : Int)).natAbs = n := by omega
      rw [e]
      have : (((n : Nat) : Int) : Rat) = (n : Rat) := rfl
      rw [this]; simp
theorem sum_nv (s t : Bool) (m n : Nat) (i j : Int) : ∃ d, Datum.sum (.number s m i) (.number t n j) = some d ∧ ∃ s' m' k', d = .number s' m' k' ∧ nv s' m' k' = nv s m i + nv t n j := by
  refine ⟨_, rfl, _, _, _, rfl, ?_⟩
  rw [nv_int, Rat.intCast_add, Rat.add_mul, ← nv_at s m (Int.min_le_left i j), ← nv_at t n (Int.min_le_right i j)]

variable {x y : F} {p q B : Rat}
theorem RV.add (hx : RV x p) (hy : RV y q) (hB : Ab (p + q) B) (hB2 : B ≤ p2 1000) : ∃ r, RV (fadd x y) r ∧ Nr r (p + q) (e53 B) := by
  obtain ⟨a, s, m, i, rfl, h1, rfl⟩ := hx
  obtain ⟨b, t, n, j, rfl, h2, rfl⟩ := hy
  obtain ⟨d, h3, s', m', k', rfl, h4⟩ := sum_nv s t m n i j
  rw [← h4] at hB ⊢
  obtain ⟨r, h5, h6⟩ := RV.write s' m' k' hB hB2
  refine ⟨r, ?_, h6⟩
  have : fadd (some a) (some b) = some (double.write (.number s' m' k')) := by
    show ((double.read a).sum (double.read b)).map double.write = _
    rw [h1, h2, h3]; rfl
  rw [this]; exact h5
theorem opp_nv (s : Bool) (m : Nat) (k : Int) : nv (!s) m k = -nv s m k := by
  unfold nv sg
  cases s <;> simp <;> grind
theorem RV.sub (hx : RV x p) (hy : RV y q) (hB : Ab (p - q) B) (hB2 : B ≤ p2 1000) : ∃ r, RV (fsub x y) r ∧ Nr r (p - q) (e53 B) := by
  obtain ⟨a, s, m, i, rfl, h1, rfl⟩ := hx
  obtain ⟨b, t, n, j, rfl, h2, rfl⟩ := hy
  obtain ⟨d, h3, s', m', k', rfl, h4⟩ := sum_nv s (!t) m n i j
  rw [opp_nv, ← Rat.sub_eq_add_neg] at h4
  rw [← h4] at hB ⊢
  obtain ⟨r, h5, h6⟩ := RV.write s' m' k' hB hB2
  refine ⟨r, ?_, h6⟩
  have : fsub (some a) (some b) = some (double.write (.number s' m' k')) := by
    show ((double.read a).sum (double.read b).opposite).map double.write = _
    rw [h1, h2]
    show ((Datum.number s m i).sum (.number (!t) n j)).map double.write = _
    rw [h3]; rfl
  rw [this]; exact h5
theorem sg_xor (s t : Bool) : sg (s ^^ t) = sg s * sg t := by
  unfold sg; cases s <;> cases t <;> simp <;> grind
theorem RV.mul (hx : RV x p) (hy : RV y q) (hB : Ab (p * q) B) (hB2 : B ≤ p2 1000) : ∃ r, RV (fmul x y) r ∧ Nr r (p * q) (e53 B) := by
  obtain ⟨a, s, m, i, rfl, h1, rfl⟩ := hx
  obtain ⟨b, t, n, j, rfl, h2, rfl⟩ := hy
  have h4 : nv (s ^^ t) (m * n) (i + j) = nv s m i * nv t n j := by
    unfold nv
    rw [sg_xor, p2_add, Rat.natCast_mul]; grind
  rw [← h4] at hB ⊢
  obtain ⟨r, h5, h6⟩ := RV.write _ _ _ hB hB2
  refine ⟨r, ?_, h6⟩
  have : fmul (some a) (some b) = some (double.write (.number (s ^^ t) (m * n) (i + j))) := by
    show ((double.read a).product (double.read b)).map double.write = _
    rw [h1, h2]; rfl
  rw [this]; exact h5
theorem RV.neg (hx : RV x p) : RV (fneg x) (-p) := by
  obtain ⟨u, s, m, k, rfl, e1, rfl⟩ := hx
  refine ⟨u ^^^ 9223372036854775808, !s, m, k, rfl, ?_, (opp_nv s m k).symm⟩
  have hm : (u ^^^ 9223372036854775808) % 9223372036854775808 = u % 9223372036854775808 := xor_mod u
  have hs : ((u ^^^ 9223372036854775808) / 9223372036854775808 % 2 == 1) = !(u / 9223372036854775808 % 2 == 1) := by
    have h2 : (9223372036854775808 : Nat) = 2 ^ 63 := by decide
    have ht : ∀ z : Nat, (z / 9223372036854775808 % 2 == 1) = z.testBit 63 := fun z => by
      rw [h2, Nat.testBit_eq_decide_div_mod_eq]
      by_cases h : z / 2 ^ 63 % 2 = 1 <;> simp [h]
    rw [ht, ht, Nat.testBit_xor]
    have : Nat.testBit 9223372036854775808 63 = true := by decide
    rw [this]; simp
  unfold Format.read at e1 ⊢
  simp only [lp, bn, ir, sw] at e1 ⊢
  rw [hm, hs]
  split at e1
  · rename_i h
    rw [if_pos h]
    obtain ⟨q1, q2, q3⟩ := Datum.number.inj e1
    rw [q1, q2, q3]
  · rename_i h
    rw [if_neg h]
    split at e1
    · rename_i h
      rw [if_pos h]
      obtain ⟨q1, q2, q3⟩ := Datum.number.inj e1
      rw [q1, q2, q3]
    · split at e1 <;> exact absurd e1 (by simp)
def rabs (q : Rat) : Rat := if 0 ≤ q then q else -q
theorem RV.abs (hx : RV x p) : RV (fabs x) (rabs p) := by
  obtain ⟨u, s, m, k, rfl, e1, rfl⟩ := hx
  refine ⟨u % 9223372036854775808, false, m, k, rfl, read_mod u e1, ?_⟩
  have h := mag_nn m k
  unfold rabs nv sg
  cases s
  · simp only [Bool.false_eq_true, if_false, Rat.one_mul]
    rw [if_pos h]
  · simp only [if_true, Bool.false_eq_true, if_false, Rat.one_mul]
    by_cases h0 : (m : Rat) * p2 k = 0
    · rw [h0]; simp
    · rw [if_neg (by grind)]; grind

/-! ### Order -/
theorem RV.cmp (hx : RV x p) (hy : RV y q) : ∃ a b : Int, ∃ e : Int, fcmp x y = some (compare a b) ∧ p = (a : Rat) * p2 e ∧ q = (b : Rat) * p2 e := by
  obtain ⟨u, s, m, i, rfl, h1, rfl⟩ := hx
  obtain ⟨v, t, n, j, rfl, h2, rfl⟩ := hy
  refine ⟨_, _, min i j, ?_, nv_at s m (Int.min_le_left i j), nv_at t n (Int.min_le_right i j)⟩
  show (double.read u).order (double.read v) = _
  rw [h1, h2]; rfl
theorem p2_le (a b : Int) (e : Int) : (a : Rat) * p2 e ≤ (b : Rat) * p2 e ↔ a ≤ b := by
  constructor
  · intro h
    by_cases hab : a ≤ b
    · exact hab
    · have h1 : ((b + 1 : Int) : Rat) ≤ (a : Rat) := Rat.intCast_le_intCast.2 (by omega)
      have h2 := Rat.mul_le_mul_of_nonneg_right h1 (Rat.le_of_lt (p2_pos e))
      have h3 := p2_pos e
      rw [Rat.intCast_add, Rat.add_mul] at h2
      have h4 : ((1 : Int) : Rat) = 1 := rfl
      rw [h4, Rat.one_mul] at h2
      grind
  · intro h
    exact Rat.mul_le_mul_of_nonneg_right (Rat.intCast_le_intCast.2 h) (Rat.le_of_lt (p2_pos e))
theorem RV.le (hx : RV x p) (hy : RV y q) : fle x y = decide (p ≤ q) := by
  obtain ⟨a, b, e, h1, rfl, rfl⟩ := hx.cmp hy
  unfold fle
  rw [h1]
  have : decide ((a : Rat) * p2 e ≤ (b : Rat) * p2 e) = decide (a ≤ b) := by
    by_cases h : a ≤ b
    · rw [decide_eq_true h, decide_eq_true ((p2_le a b e).2 h)]
    · rw [decide_eq_false h, decide_eq_false fun h2 => h ((p2_le a b e).1 h2)]
  rw [this]
  show ((some (compareOfLessAndEq a b) == some Ordering.lt) || (some (compareOfLessAndEq a b) == some Ordering.eq)) = _
  unfold compareOfLessAndEq
  by_cases h1 : a < b
  · rw [if_pos h1, decide_eq_true (by omega)]; rfl
  · rw [if_neg h1]
    by_cases h2 : a = b
    · rw [if_pos h2, decide_eq_true (by omega)]; rfl
    · rw [if_neg h2, decide_eq_false (by omega)]; rfl
theorem RV.ge (hx : RV x p) (hy : RV y q) : fge x y = decide (q ≤ p) := by
  obtain ⟨a, b, e, h1, rfl, rfl⟩ := hx.cmp hy
  unfold fge
  rw [h1]
  have : decide ((b : Rat) * p2 e ≤ (a : Rat) * p2 e) = decide (b ≤ a) := by
    by_cases h : b ≤ a
    · rw [decide_eq_true h, decide_eq_true ((p2_le b a e).2 h)]
    · rw [decide_eq_false h, decide_eq_false fun h2 => h ((p2_le b a e).1 h2)]
  rw [this]
  show ((some (compareOfLessAndEq a b) == some Ordering.gt) || (some (compareOfLessAndEq a b) == some Ordering.eq)) = _
  unfold compareOfLessAndEq
  by_cases h1 : a < b
  · rw [if_pos h1, decide_eq_false (by omega)]; rfl
  · rw [if_neg h1]
    by_cases h2 : a = b
    · rw [if_pos h2, decide_eq_true (by omega)]; rfl
    · rw [if_neg h2, decide_eq_true (by omega)]; rfl
theorem RV.big : RV fbig (nv false 9007199254740991 971) := ⟨9218868437227405311, false, 9007199254740991, 971, rfl, by decide, rfl⟩
theorem RV.fin (hx : RV x p) (h : Ab p (p2 1001)) : ffin x = true := by
  unfold ffin
  rw [hx.abs.le RV.big, decide_eq_true_iff]
  have h1 : rabs p ≤ p2 1001 := by
    unfold rabs
    split
    · exact h.1
    · have := h.2; grind
  refine Rat.le_trans h1 ?_
  unfold nv sg
  simp only [Bool.false_eq_true, if_false, Rat.one_mul]
  rw [show (1001 : Int) = 30 + 971 by decide, p2_add]
  refine Rat.mul_le_mul_of_nonneg_right ?_ (Rat.le_of_lt (p2_pos 971))
  have : p2 30 = ((2 ^ 30 : Nat) : Rat) := p2_nat 30
  rw [this]
  exact Rat.natCast_le_natCast.2 (by decide)
theorem WF.rv {x : F} {n : Int} (h : WF x n) : RV x (n : Rat) := by
  obtain ⟨b, rfl, s, m, k, h1, h2⟩ := h
  refine ⟨b, s, m, _, rfl, h1, ?_⟩
  have h3 := nv_at s m (show -(k : Int) ≤ -(k : Int) from Int.le_refl _)
  rw [show (-(k : Int) - -(k : Int)).toNat = 0 by omega, h2] at h3
  rw [h3]
  have e : ((n * 2 ^ k : Int) : Rat) = (n : Rat) * p2 k := by
    rw [← int_cast_mul]; simp
  rw [e, Rat.mul_assoc, ← p2_add, show (k : Int) + -(k : Int) = 0 by omega, p2_zero, Rat.mul_one]
end Go.Proofs.YtigbkoadojjajaaGreat

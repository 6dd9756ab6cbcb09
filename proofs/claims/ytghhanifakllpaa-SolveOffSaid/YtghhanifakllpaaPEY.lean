/- The program's steps, in the clean executor: the pivot's row; the main loop. -/
import Derived.Test.YtghhanifakllpaaPAY
set_option linter.unusedSimpArgs false
set_option linter.unusedVariables false
namespace Go.Proofs.Ytghhanifakllpaa
open Go.Clean

def chooseI (m : Mem) (kb r6 s8 N k : Nat) (S : Sys) (q : Nat) (fr : Fr) (m' : Mem) : Prop :=
  ∃ i, i + q = N ∧ k < i ∧ FP fr kb r6 s8 N k ∧ fr.at 15 = .int .i64 (i : Nat) ∧ fr.at 14 = .int .i64 (pickI S.M k i : Nat) ∧ Only m m'
set_option maxRecDepth 10000 in
theorem choose_loop {known : Known} (K : KP known) (n : Nat) {fr : Fr} {m : Mem} {base kb r6 s8 N k : Nat} {S : Sys} {kd : Nat → Nat} {v : Nat → Value} {l : Nat → List Value} {ρ : Nat → Nat} {rw : Nat → List Value} (hkN : k < N) (hN : N ≤ 128) (hF : FP fr kb r6 s8 N k) (h15 : fr.at 15 = .int .i64 ((k + 1 : Nat) : Int)) (h14 : fr.at 14 = .int .i64 (k : Nat))
    (hkb : m.at kb = some ⟨kL, 1, false, false⟩) (hL : Lap m kd base s8 v l N ρ rw) (hC : Conp l ρ rw N S) {Q : CQ} (hQ : ∀ fr' m', FP fr' kb r6 s8 N k → fr'.at 14 = .int .i64 (pick N S.M k : Nat) → Only m m' → Q (.exit 4, fr') m') :
    Gives (codeX Try.prog (callN Try.prog known (n + 1)) (qPiv (bodyOf Try.f42)) fr) m Q := by
  refine via (X := .loop _) rfl ?_
  refine code_loop (chooseI m kb r6 s8 N k S) (N - (k + 1)) (by omega) ⟨k + 1, by omega, by omega, hF, h15, by rw [pickI_start]; exact h14, .refl _⟩ ?_
  rintro q fr' m' ⟨i, hiq, hki, ⟨f1, f2, f3, f4, f5, f6, f7, f8, f9⟩, g15, g14, ho⟩
  by_cases hi : i < N
  · simp [f1, f6, g15, hi]
    refine code_draw_dyn (plan := [0, 1, 0, 4, 0, 28, 60, 0, 252, 508, 1023, 0, 2048, 0, 8192, 0, 57344, 122880, 0, 516096, 1040384, 2097151, 4194303]) (by kernel_rfl) ?_
    have hL := hL.same (m' := m') (by rw [ho.1]; exact Nat.le_refl _) ho.2
    have hkb' : m'.at kb = some ⟨kL, 1, false, false⟩ := by rw [ho.2]; exact hkb
    have hcell := hL.cell
    obtain ⟨bA, hv1, _, _, hbA⟩ := hL.blk (k := 1) (by omega) (by omega) (by rw [hC.hd.1]; omega)
    rw [hC.hd.1] at hv1
    have hpl := pickI_lt S.M hki
    obtain ⟨p, hp⟩ : ∃ p, p = pickI S.M k i := ⟨_, rfl⟩
    rw [← hp] at hpl g14
    have hpN : p < N := by omega
    obtain ⟨_, _, hri⟩ := hL.row i hi
    obtain ⟨_, _, hrp⟩ := hL.row p hpN
    have hdi := hC.hd.2 i hi
    have hdp := hC.hd.2 p hpN
    have eik := (hC.row i hi).2 k (by omega)
    have epk := (hC.row p hpN).2 k (by omega)
    have hw := wrap_succ i (by omega)
    have hstep := pickI_succ S.M hki
    rw [← hp] at hstep
    cases hg : fgt (fabs (S.M i k)) (fabs (S.M p k)) with
    | true =>
      rw [hg, if_pos rfl] at hstep
      simp [f1, f3, f5, f7, g15, g14, hcell, hkb', kL, rec4, hv1, lst, hbA, hdi, hdp, hri, hrp, eik, epk, hw, idx23 _ _ _ _ _ _ hi, idx23 _ _ _ _ _ _ hpN, idx24 _ _ _ _ _ _ (show k < N + 1 by omega), gives_abs K, hg, drawQ, apartAll, apartL]
      refine ⟨q - 1, by omega, i + 1, by omega, by omega, ⟨by simp [f1], by simp [f2], by simp [f3], by simp [f4], by simp [f5], by simp [f6], by simp [f7], by simp [f8], by simp [f9]⟩, by simp, by simp [hstep], ho.trans ⟨rfl, fun _ => rfl⟩⟩
    | false =>
      rw [hg, if_neg (by simp)] at hstep
      simp [f1, f3, f5, f7, g15, g14, hcell, hkb', kL, rec4, hv1, lst, hbA, hdi, hdp, hri, hrp, eik, epk, hw, idx23 _ _ _ _ _ _ hi, idx23 _ _ _ _ _ _ hpN, idx24 _ _ _ _ _ _ (show k < N + 1 by omega), gives_abs K, hg, drawQ, apartAll, apartL]
      refine ⟨q - 1, by omega, i + 1, by omega, by omega, ⟨by simp [f1], by simp [f2], by simp [f3], by simp [f4], by simp [f5], by simp [f6], by simp [f7], by simp [f8], by simp [f9]⟩, by simp, by simp [hstep, g14], ho.trans ⟨rfl, fun _ => rfl⟩⟩
  · have : i = N := by omega
    subst this
    rw [pickI_end] at g14
    simp [f1, f6, g15]
    exact hQ _ m' ⟨by simp [f1], by simp [f2], by simp [f3], by simp [f4], by simp [f5], by simp [f6], by simp [f7], by simp [f8], by simp [f9]⟩ (by simp [g14]) ho

/-! ### The main loop -/
theorem Conp.swapped {N : Nat} {S : Sys} {l : Nat → List Value} {ρ : Nat → Nat} {rw : Nat → List Value} (h : Conp l ρ rw N S) {k p : Nat} (hk : k < N) (hp : p < N) {l' : Nat → List Value}
    (e1 : l' 1 = ((l 1).set k (.slice (some ⟨ρ p, 0, none⟩) (N + 1) (N + 1))).set p (.slice (some ⟨ρ k, 0, none⟩) (N + 1) (N + 1))) (e2 : l' 2 = ((l 2).set k (.int .i64 (S.first p : Nat))).set p (.int .i64 (S.first k : Nat))) (e3 : l' 3 = l 3) (e4 : l' 4 = l 4) :
    Conp l' (fun i => ρ (sw k p i)) (fun i => rw (sw k p i)) N { S with M := swapM S.M k p, first := swapM S.first k p } := by
  refine ⟨⟨by rw [e1]; simp [h.hd.1], fun i hi => ?_⟩, fun i hi => h.row _ (sw_lt hk hp hi), ⟨by rw [e2]; simp [h.ord.1], fun i hi => ?_⟩, by rw [e3]; exact h.piv, by rw [e4]; exact h.odd⟩
  · rw [e1]; exact swap_get (g := fun i => .slice (some ⟨ρ i, 0, none⟩) (N + 1) (N + 1)) h.hd.1 h.hd.2 hk hp hi
  · rw [e2]; exact swap_get (g := fun i => .int .i64 (S.first i : Nat)) h.ord.1 h.ord.2 hk hp hi
theorem oneV_p {m : Mem} {kd : Nat → Nat} {base s5 : Nat} {v : Nat → Value} {l : Nat → List Value} {n : Nat} {ρ : Nat → Nat} {rw : Nat → List Value} (h : Lap m kd base s5 v l n ρ rw) : oneV (v 1) = true ∧ oneV (v 2) = true ∧ oneV (v 3) = true ∧ oneV (v 4) = true := by
  have key : ∀ k, 1 ≤ k → k ≤ 4 → oneV (v k) = true := fun k h1 h5 => by
    rcases (h.gl k h1 h5).2 with ⟨_, hg⟩ | ⟨_, b, hg, _⟩ <;> rw [hg] <;> rfl
  exact ⟨key 1 (by omega) (by omega), key 2 (by omega) (by omega), key 3 (by omega) (by omega), key 4 (by omega) (by omega)⟩
def SysAp (m : Mem) (base s8 N : Nat) (S : Sys) : Prop := ∃ kd v l ρ rw, Lap m kd base s8 v l N ρ rw ∧ Conp l ρ rw N S
structure FW (fr : Fr) (kb r6 s8 N k : Nat) : Prop where
  n : fr.n = 209
  d : fr.d = []
  a3 : fr.at 3 = .pointer (some ⟨kb, 0, none⟩)
  a6 : fr.at 6 = .pointer (some ⟨r6, 0, none⟩)
  a8 : fr.at 8 = .pointer (some ⟨s8, 0, none⟩)
  a9 : fr.at 9 = .int .i64 N
  a58 : fr.at 58 = .int .i64 N
  a59 : fr.at 59 = .int .i64 (k : Nat)
theorem gives_tail {m : Mem} {b N lo : Nat} {cells : List Value} (hb : m.at b = some ⟨cells, 1, true, false⟩) (hlo : lo ≤ N) (h0 : 0 < lo) {Q : Value → Mem → Prop} (q1 : lo < N → ∀ m', Only m m' → Q (.slice (some ⟨b, lo, none⟩) (N - lo) (N - lo)) m')
    (q2 : lo = N → ∀ m' b', Up m m' → Q (.slice (some ⟨b', 0, none⟩) 0 0) m') : Gives (sliceX Try.prog 23 (.slice (some ⟨b, 0, none⟩) N N) (some (.int .i64 (lo : Nat))) none none) m Q := by
  unfold sliceX
  simp only [under23, size24]
  rw [gives_bind, gives_getB, hb, optQ_some, gives_bind, gives_guard]
  refine ⟨rfl, ?_⟩
  have e1 : boundX none N N = some N := rfl
  have e2 : boundX (some (.int .i64 (lo : Nat))) 0 N = some lo := by
    unfold boundX
    have : decide (0 ≤ (lo : Int) ∧ (lo : Int) ≤ (N : Int)) = true := by simp; omega
    simp only [this, cond_true, Int.toNat_natCast]
  simp only [e1, e2]
  have h00 : (lo == 0) = false := by simp; omega
  by_cases h : N = lo
  · subst h
    simp only [beq_self_eq_true, Bool.not_true, h00, Bool.false_or, cond_false, Nat.sub_self]
    rw [gives_bind, gives_newB, gives_ret]
    exact q2 rfl _ _ ((Up.rd _ _).trans (Up.nw _ _))
  · have h1 : (N == lo) = false := by simpa using h
    simp only [h1, Bool.not_false, Bool.true_or, cond_true, cond_false, Nat.zero_add, Nat.mul_one]
    rw [gives_ret]
    exact q1 (by omega) _ ⟨rfl, fun _ => rfl⟩
theorem Lap.up {m m' : Mem} {kd : Nat → Nat} {base s5 : Nat} {v : Nat → Value} {l : Nat → List Value} {n : Nat} {ρ : Nat → Nat} {rw : Nat → List Value} (h : Lap m kd base s5 v l n ρ rw) (u : Up m m') : Lap m' kd base s5 v l n ρ rw := h.above (u.wf h.wf) u.old
def apart1 (w : Bool) (b : Nat) : List (Bool × Nat) → Bool
  | [] => true
  | (z, c) :: y => (!(b == c) || (!w && !z)) && apart1 w b y
theorem apart1_n (w : Bool) (b : Nat) : apart1 w b [] = true := by simp [apart1]
theorem apart1_c (w : Bool) (b : Nat) (z : Bool) (c : Nat) (y : List (Bool × Nat)) : apart1 w b ((z, c) :: y) = ((!(b == c) || (!w && !z)) && apart1 w b y) := by simp [apart1]
theorem apart1_all (w : Bool) (b : Nat) : ∀ y, apart1 w b y = y.all fun (z, c) => !(b == c) || (!w && !z)
  | [] => rfl
  | (z, c) :: y => by rw [apart1, apart1_all w b y]; rfl
theorem apart1_of {w : Bool} {b : Nat} {y : List (Bool × Nat)} (h : ∀ p ∈ y, b ≠ p.2) : apart1 w b y = true := by
  rw [apart1_all, List.all_eq_true]
  rintro ⟨z, c⟩ hp
  have := h _ hp
  simp only [Bool.or_eq_true]
  left
  simpa using this
theorem apartL_n (y : List (Bool × Nat)) : apartL [] y = true := by simp [apartL]
theorem apartL_c (w : Bool) (b : Nat) (x y : List (Bool × Nat)) : apartL ((w, b) :: x) y = (apart1 w b y && apartL x y) := by
  rw [apart1_all]; rfl
def driveI (m : Mem) (base kb r6 s8 N : Nat) (R : Sys × Bool) (q : Nat) (fr : Fr) (m' : Mem) : Prop :=
  ∃ k S, k + q = N ∧ FW fr kb r6 s8 N k ∧ Old base m m' ∧ SysAp m' base s8 N S ∧ goS N q k S = R ∧ S.piv.length = k ∧ S.odd.length = k
set_option maxHeartbeats 1000000 in
set_option maxRecDepth 10000 in
theorem drive_loop {known : Known} (K : KP known) (n : Nat) {fr : Fr} {m : Mem} {base kb r6 s8 N : Nat} {S : Sys} (hN : N ≤ 128) (hF : FW fr kb r6 s8 N 0) (hkb : m.at kb = some ⟨kL, 1, false, false⟩) (hkbb : kb < base) (hr6 : ∃ y, m.at r6 = some ⟨y, 1, false, false⟩ ∧ y.length = 4) (hr6b : r6 < base)
    (hS : SysAp m base s8 N S) (hS0 : S.piv.length = 0 ∧ S.odd.length = 0) {Q : CQ} (hQ1 : ∀ fr' m' k, FW fr' kb r6 s8 N k → Old base m m' → SysAp m' base s8 N (goS N N 0 S).1 → (goS N N 0 S).2 = true → Q (.exit 2, fr') m')
    (hQ2 : ∀ fr' m' k kd v l ρ rw, FW fr' kb r6 s8 N k → (∀ c, c < base → c ≠ r6 → m'.at c = m.at c) → Lap m' kd base s8 v l N ρ rw → Conp l ρ rw N (goS N N 0 S).1 → m'.at r6 = some (rec4 v) → fr'.at 7 = .bool false → (goS N N 0 S).2 = false → Q (.ret, fr') m') :
    Gives (codeX Try.prog (callN Try.prog known (n + 1)) (qMain (bodyOf Try.f42)) fr) m Q := by
  refine via (X := .loop _) rfl ?_
  obtain ⟨R, hR⟩ : ∃ R, R = goS N N 0 S := ⟨_, rfl⟩
  rw [← hR] at hQ1 hQ2
  refine code_loop (driveI m base kb r6 s8 N R) N (by omega) ⟨0, S, by omega, hF, .refl _ _, hS, hR.symm, hS0.1, hS0.2⟩ ?_
  clear hF hS0 hS hR S
  clear fr
  rintro q fr' m' ⟨k, S, hkq, ⟨f1, f2, f3, f4, f5, f6, f8, f9⟩, ho, hSys, hgo, hlp, hlo⟩
  by_cases hk : k < N
  · have hwk := wrap_succ k (by omega)
    obtain ⟨kd, v, l, ρ, rw, hL, hC⟩ := id hSys
    have hkb1 : m'.at kb = some ⟨kL, 1, false, false⟩ := by rw [ho kb hkbb]; exact hkb
    simp [f1, f8, f9, hk, hwk]
    refine via (X := qPiv (bodyOf Try.f42)) (by kernel_rfl) (choose_loop K n (base := base) (kb := kb) (r6 := r6) (s8 := s8) (N := N) (k := k) (S := S) hk hN ⟨by simp [f1], by simp [f2], by simp [f3], by simp [f4], by simp [f5], by simp [f6], by simp, by simp [f8], by simp [f9]⟩ ?_ ?_ hkb1 hL hC fun fr2 m2 hF2 g14 ho2 => ?_)
    · simp
    · simp
    clear f1 f2 f3 f4 f5 f6 f8 f9
    obtain ⟨f1, f2, f3, f4, f5, f6, f7, f8, f9⟩ := hF2
    obtain ⟨p, hp⟩ : ∃ p, p = pick N S.M k := ⟨_, rfl⟩
    have hpl := pick_lt S.M hk
    rw [← hp] at g14 hpl
    have hpN : p < N := hpl.2
    have hL := hL.same (m' := m2) (by rw [ho2.1]; exact Nat.le_refl _) ho2.2
    have hcell := hL.cell
    obtain ⟨bA, hv1, _, _, hbA⟩ := hL.blk (k := 1) (by omega) (by omega) (by rw [hC.hd.1]; omega)
    rw [hC.hd.1] at hv1
    obtain ⟨_, _, hrp⟩ := hL.row p hpN
    have hdp := hC.hd.2 p hpN
    have epk := (hC.row p hpN).2 k (by omega)
    simp [f1, f5, f7, g14, hcell, rec4, hv1, lst, hbA, hdp, hrp, epk, idx23 _ _ _ _ _ _ hpN, idx24 _ _ _ _ _ _ (show k < N + 1 by omega)]
    refine code_draw_dyn (plan := [0, 1, 0, 4, 15, 0, 32, 0, 0, 384, 896, 2047, 127, 8191, 16383, 32767]) (by kernel_rfl) ?_
    simp [f1, f5, hcell, rec4, drawQ, apartAll, apartL]
    refine gives_build1 bs24 rfl rfl ?_
    have hs5 := hL.wf _ _ hcell
    have hbs := hL.own.2
    simp [f1, drawQ, apartAll, apartL_n, apartL_c, apart1_n, apart1_c, Nat.testBit]
    refine ⟨by omega, ?_⟩
    refine hL.append (k := 3) (by omega) (by omega) (by omega) app24 (x := fv (S.M p k)) rfl (by rw [hC.piv]; simp; omega) ?_ ?_ ?_ fun m3 n3 s3 o3 lg3 mk3 => ?_
    · simp
    · simp [fv]
    · intro c hc _; simp [hc]
    simp only [Mem.log_lg, List.not_mem_nil, false_or] at lg3
    have hA1 : ∀ w, apart1 w s8 m3.log = true := fun w => apart1_of fun p hp hh => by
      rcases lg3 p hp with h | h | ⟨h, h2⟩
      · omega
      · omega
      · rw [← hh, hL.own.1] at h2; omega
    have hA2 : ∀ w, apart1 w (m2.next + 2) m3.log = true := fun w => apart1_of fun p hp hh => by
      rcases lg3 p hp with h | h | ⟨h, h2⟩ <;> omega
    have hs8 : m3.at s8 = some (rec4 v) := by rw [s3]; simp [hcell]; intro h; omega
    simp [f1, f5, f7, g14, hs8, rec4, lst, drawQ, apartAll, apartL_n, apartL_c, apart1_n, apart1_c, Nat.testBit, hA1]
    refine ⟨by omega, ?_⟩
    refine gives_build1 bs77 rfl rfl ?_
    simp [f1, n3, hA2, drawQ, apartAll, apartL_n, apartL_c, apart1_n, apart1_c, Nat.testBit]
    have hbne : (!decide ((p : Int) = (k : Int))) = (p != k) := by
      by_cases h : p = k
      · simp [h]
      · have : ¬ (p : Int) = (k : Int) := by omega
        simp [h, this, bne]
    obtain ⟨w3, hw3⟩ : ∃ w3, w3 = fun j => if j = 3 then lst (m2.next + 1) ((l 3).length + 1) else v j := ⟨_, rfl⟩
    have hL3 := mk3 (m3.wr s8 (some (rec4 w3))) w3 (by simp) hw3 (fun c => by simp)
    obtain ⟨l3, hl3⟩ : ∃ l3, l3 = fun j => if j = 3 then l 3 ++ [fv (S.M p k)] else l j := ⟨_, rfl⟩
    rw [← hl3] at hL3
    obtain ⟨kd3, hkd3⟩ : ∃ kd3, kd3 = fun c => if c = m2.next + 1 then 3 else kd c := ⟨_, rfl⟩
    rw [← hkd3] at hL3
    refine ⟨by omega, ?_⟩
    have hv4 : w3 4 = v 4 := by rw [hw3]; rfl
    rw [← hv4]
    have hnx : (m3.wr s8 (some (rec4 w3))).next = m2.next + 2 := by simp [n3]
    rw [← hnx]
    refine hL3.append (k := 4) (by omega) (by omega) (by omega) app77 (x := .bool (p != k)) rfl (by rw [hl3]; simp [hC.odd]; omega) ?_ ?_ ?_ fun m4 n4 s4 o4 lg4 mk4 => ?_
    · simp
    · rw [hbne]; simp
    · intro c hc hcs; simp at hc ⊢; simp [hc, hcs]
    clear mk3
    simp only [hnx] at n4 mk4 ⊢
    have hs4 : m4.at s8 = some (rec4 v) := by rw [s4]; simp [n3, hs8]; intro h; omega
    simp [f1, f5, lst, hs4, rec4, drawQ, apartAll, apartL_n, apartL_c, apart1_n, apart1_c, Nat.testBit]
    refine storeQ_one (cs := [v 1, v 2, v 3, v 4]) (sz := 1) (gr := false) (by simpa [rec4] using hs4) (by simp [cellsV, oneV]) rfl (by simp) fun m5 n5 _ e5 => ?_
    simp only [Mem.next_lg, Mem.at_lg, Mem.log_lg] at n5 e5
    have hs5' : m5.at s8 = some ⟨[v 1, v 2, lst (m2.next + 1) ((l 3).length + 1), v 4], 1, false, false⟩ := by rw [e5]; simp [lst]
    simp [f1, f5, lst, hs5', drawQ, apartAll, apartL_n, apartL_c, apart1_n, apart1_c, Nat.testBit]
    refine storeQ_one (cs := [v 1, v 2, lst (m2.next + 1) ((l 3).length + 1), v 4]) (sz := 1) (gr := false) (by simpa using hs5') (by simp [cellsV, oneV]) rfl (by simp) fun m6 n6 _ e6 => ?_
    simp only [Mem.next_lg, Mem.at_lg, Mem.log_lg] at n6 e6
    obtain ⟨w6, hw6⟩ : ∃ w6, w6 = fun j => if j = 4 then lst (m2.next + 3) ((l3 4).length + 1) else w3 j := ⟨_, rfl⟩
    have hl34 : l3 4 = l 4 := by rw [hl3]; rfl
    have hL6 := mk4 m6 w6 (by rw [n6, n5]) (by rw [hw6]) (fun c => by rw [e6]; by_cases h : c = s8 <;> simp [h, e5, rec4, hw6, hw3, lst, hl34])
    have ho6 : Old base m m6 := ho.trans fun c hc => by
      rw [e6, if_neg (by omega), e5, if_neg (by omega), o4 c hc, Mem.at_wr, if_neg (by omega), o3 c hc, ho2.2 c]
    obtain ⟨l6, hl6⟩ : ∃ l6, l6 = fun j => if j = 4 then l3 4 ++ [.bool (p != k)] else l3 j := ⟨_, rfl⟩
    rw [← hl6] at hL6
    obtain ⟨kd6, hkd6⟩ : ∃ kd6, kd6 = fun c => if c = m2.next + 2 + 1 then 4 else kd3 c := ⟨_, rfl⟩
    rw [← hkd6] at hL6
    have hC6 : Conp l6 ρ rw N (noteS N k S) := by
      refine ⟨by rw [hl6, hl3]; simpa using hC.hd, hC.row, by rw [hl6, hl3]; simpa [noteS] using hC.ord, ?_, ?_⟩
      · rw [hl6, hl3]; simp [noteS, hC.piv, hp]
      · rw [hl6, hl3]; simp [noteS, hC.odd, hp]
    have hnm6 : m2.next < m6.next := by omega
    clear e6 e5 mk4 o4 s4 hs4 hs5' s3 o3 hs8 hA1 hA2 lg3 lg4 hcell hbA hv1 hrp hdp epk hL3 hkd6 hw6 hw3 hkd3 hv4 hnx n6 n5 n4 n3 hl34
    simp [drawQ, apartAll, apartL_n, apartL_c, apart1_n, apart1_c, Nat.testBit]
    have hc6 := hL6.cell
    have hkb6 : m6.at kb = some ⟨kL, 1, false, false⟩ := by rw [ho6 kb hkbb]; exact hkb
    have hbad : bad (S.M (pick N S.M k) k) = (feq (S.M p k) fzero || !ffin (S.M p k)) := by rw [← hp]; rfl
    cases hq : feq (S.M p k) fzero with
    | true =>
      have hgoR : R = (noteS N k S, false) := by
        rw [← hgo, show q = (q - 1) + 1 by omega, goS, if_pos (by rw [hbad, hq]; rfl)]
      obtain ⟨y4, hy4, hy4l⟩ := hr6
      simp [f1, f3, f5, hkb6, kL, gives_fin2 K, yieldX, hq, hc6, rec4, ld79, takeN, f4]
      refine storeQ_rule (y := ⟨y4, 1, false, false⟩) (by simp [ho6 r6 hr6b, hy4]) rfl ?_ (lay_all _ _ (by rw [hy4l]; rfl)) fun m8 n8 _ e8 => ?_
      · simp [oneV_p hL6]
      simp only [Mem.next_lg, Mem.at_lg, Mem.next_rd, Mem.at_rd] at n8 e8
      simp [f1]
      have hw8 : WF m8 := fun c x hc => by
        rw [n8]
        rw [e8] at hc
        split at hc
        · have := hL6.wf s8 _ hc6; omega
        · exact hL6.wf c x hc
      refine hQ2 _ m8 k _ _ _ _ _ ⟨by simp [f1], by simp [f2], by simp [f3], by simp [f4], by simp [f5], by simp [f6], by simp [f8], by simp [f9]⟩ (fun c hc hc4 => by rw [e8, if_neg hc4]; exact ho6 c hc) (hL6.frame hw8 fun c hc => by rw [e8, if_neg (by omega)]) (by rw [hgoR]; exact hC6) (by rw [e8, if_pos rfl]; rfl) (by simp) (by rw [hgoR])
    | false =>
      cases hf : ffin (S.M p k) with
      | false =>
        have hgoR : R = (noteS N k S, false) := by
          rw [← hgo, show q = (q - 1) + 1 by omega, goS, if_pos (by rw [hbad, hq, hf]; rfl)]
        obtain ⟨y4, hy4, hy4l⟩ := hr6
        simp [f1, f3, f5, hkb6, kL, gives_fin2 K, yieldX, hq, hf, hc6, rec4, ld79, takeN, f4]
        refine storeQ_rule (y := ⟨y4, 1, false, false⟩) (by simp [ho6 r6 hr6b, hy4]) rfl ?_ (lay_all _ _ (by rw [hy4l]; rfl)) fun m8 n8 _ e8 => ?_
        · simp [oneV_p hL6]
        simp only [Mem.next_lg, Mem.at_lg, Mem.next_rd, Mem.at_rd] at n8 e8
        simp [f1]
        have hw8 : WF m8 := fun c x hc => by
          rw [n8]
          rw [e8] at hc
          split at hc
          · have := hL6.wf s8 _ hc6; omega
          · exact hL6.wf c x hc
        refine hQ2 _ m8 k _ _ _ _ _ ⟨by simp [f1], by simp [f2], by simp [f3], by simp [f4], by simp [f5], by simp [f6], by simp [f8], by simp [f9]⟩ (fun c hc hc4 => by rw [e8, if_neg hc4]; exact ho6 c hc) (hL6.frame hw8 fun c hc => by rw [e8, if_neg (by omega)]) (by rw [hgoR]; exact hC6) (by rw [e8, if_pos rfl]; rfl) (by simp) (by rw [hgoR])
      | true =>
        have hgoR : R = goS N (q - 1) (k + 1) (stepS N k S) := by
          rw [← hgo, show q = (q - 1) + 1 by omega, goS, if_neg (by rw [hbad, hq, hf]; simp)]
          rfl
        simp [f1, f3, hkb6, kL, gives_fin2 K, yieldX, hq, hf]
        -- the rows change places
        refine code_draw_dyn (plan := [0, 1, 0, 0, 8, 0, 0, 64, 0, 448, 960, 0, 2048, 0, 14336, 30720, 65479, 131015, 262143, 524287]) (by kernel_rfl) ?_
        obtain ⟨bA, hv1, hkA, _, hbA⟩ := hL6.blk (k := 1) (by omega) (by omega) (by rw [hC6.hd.1]; omega)
        rw [hC6.hd.1] at hv1
        have hdp := hC6.hd.2 p hpN
        have hdk := hC6.hd.2 k hk
        have hne : ¬ bA = s8 := fun h => by have := hL6.own.1; rw [h] at hkA; omega
        have hne' : ¬ s8 = bA := fun h => hne h.symm
        simp [f1, f5, f7, g14, hc6, rec4, hv1, lst, hbA, hdp, hdk, idx23 _ _ _ _ _ _ hpN, idx23 _ _ _ _ _ _ hk, drawQ, apartAll, apartL]
        refine storeQ_one (cs := l6 1) (sz := 1) (gr := true) (by simpa using hbA) (by simp [cellsV, oneV]) rfl (by rw [hC6.hd.1]; exact hk) fun m7 n7 g7 e7 => ?_
        simp only [Mem.next_rd, Mem.at_rd, Mem.next_lg, Mem.at_lg, Mem.log_lg] at n7 e7 g7
        simp [f1, f5, f7, g14, g7, hne, hne', idx23 _ _ _ _ _ _ hpN, drawQ, apartAll, apartL, Nat.testBit]
        refine storeQ_one (cs := (l6 1).set k (.slice (some ⟨ρ p, 0, none⟩) (N + 1) (N + 1))) (sz := 1) (gr := true) (by simp [e7]) (by simp [cellsV, oneV]) rfl (by rw [List.length_set, hC6.hd.1]; exact hpN) fun m8 n8 _ e8 => ?_
        simp only [Mem.next_rd, Mem.at_rd, Mem.next_lg, Mem.at_lg, Mem.log_lg] at n8 e8
        obtain ⟨l8, hl8⟩ : ∃ l8 : Nat → List Value, l8 = fun q => if q = 1 then ((l6 1).set k (.slice (some ⟨ρ p, 0, none⟩) (N + 1) (N + 1))).set p (.slice (some ⟨ρ k, 0, none⟩) (N + 1) (N + 1)) else l6 q := ⟨_, rfl⟩
        have hL8 := hL6.putL (m' := m8) (k := 1) (by omega) (by omega) (b := bA) (by rw [hC6.hd.1]; exact hv1) (by rw [hC6.hd.1]; omega) (set2_one (hL6.gl 1 (by omega) (by omega)).1 (x := .slice (some ⟨ρ p, 0, none⟩) (N + 1) (N + 1)) (y := .slice (some ⟨ρ k, 0, none⟩) (N + 1) (N + 1)) rfl rfl k p) (by simp) (by rw [n8, n7]) (fun c => by rw [e8, e7]; by_cases h : c = bA <;> simp [h])
        rw [← hl8] at hL8
        have hbAb : base ≤ bA := by
          obtain ⟨bA', hv1', _, h3, _⟩ := hL6.blk (k := 1) (by omega) (by omega) (by rw [hC6.hd.1]; omega)
          rw [hC6.hd.1] at hv1'
          obtain rfl : bA = bA' := by rw [hv1] at hv1'; unfold lst at hv1'; simpa using hv1'
          exact h3
        have ho8 : Old base m m8 := ho6.trans fun c hc => by rw [e8, e7, if_neg (by omega), if_neg (by omega)]
        have hc8 := hL8.cell
        have hn8 : m8.next = m6.next := by rw [n8, n7]
        have hbA8 : m8.at bA = some ⟨l8 1, 1, true, false⟩ := by rw [e8, if_pos rfl, hl8]; rfl
        clear e7 e8 hbA g7
        simp [drawQ, apartAll, apartL, Nat.testBit]
        -- the rows' numbers change places
        refine code_draw_dyn (plan := [0, 1, 0, 0, 8, 0, 0, 64, 0, 448, 960, 0, 2048, 0, 14336, 30720, 65479, 131015, 262143, 524287]) (by kernel_rfl) ?_
        have e82 : l8 2 = l6 2 := by rw [hl8]; rfl
        obtain ⟨bR, hv3, hkR, hbR0, hbR⟩ := hL8.blk (k := 2) (by omega) (by omega) (by rw [e82, hC6.ord.1]; omega)
        rw [e82, hC6.ord.1] at hv3
        rw [e82] at hbR
        have hdp3 : (l6 2)[p]? = some (.int .i64 (S.first p : Nat)) := hC6.ord.2 p hpN
        have hdk3 : (l6 2)[k]? = some (.int .i64 (S.first k : Nat)) := hC6.ord.2 k hk
        have hneR : ¬ bR = s8 := fun h => by have := hL8.own.1; rw [h] at hkR; omega
        have hneR' : ¬ s8 = bR := fun h => hneR h.symm
        have hneA : bA ≠ bR := fun h => by rw [h] at hkA; omega
        simp [f1, f5, f7, g14, hc8, rec4, hv3, lst, hbR, hdp3, hdk3, idx29 _ _ _ _ _ _ hpN, idx29 _ _ _ _ _ _ hk, drawQ, apartAll, apartL]
        refine storeQ_one (cs := l6 2) (sz := 1) (gr := true) (by simpa using hbR) (by simp [cellsV, oneV]) rfl (by rw [hC6.ord.1]; exact hk) fun m11 n11 g11 e11 => ?_
        simp only [Mem.next_rd, Mem.at_rd, Mem.next_lg, Mem.at_lg, Mem.log_lg] at n11 e11 g11
        simp [f1, f5, f7, g14, g11, hneR, hneR', idx29 _ _ _ _ _ _ hpN, drawQ, apartAll, apartL, Nat.testBit]
        refine storeQ_one (cs := (l6 2).set k (.int .i64 (S.first p : Nat))) (sz := 1) (gr := true) (by simp [e11]) (by simp [cellsV, oneV]) rfl (by rw [List.length_set, hC6.ord.1]; exact hpN) fun m12 n12 _ e12 => ?_
        simp only [Mem.next_rd, Mem.at_rd, Mem.next_lg, Mem.at_lg, Mem.log_lg] at n12 e12
        obtain ⟨l12, hl12⟩ : ∃ l12 : Nat → List Value, l12 = fun q => if q = 2 then ((l6 2).set k (.int .i64 (S.first p : Nat))).set p (.int .i64 (S.first k : Nat)) else l8 q := ⟨_, rfl⟩
        have hL12 := hL8.putL (m' := m12) (k := 2) (by omega) (by omega) (b := bR) (by rw [e82, hC6.ord.1]; exact hv3) (by rw [e82, hC6.ord.1]; omega) (set2_one (hL6.gl 2 (by omega) (by omega)).1 (x := .int .i64 (S.first p : Nat)) (y := .int .i64 (S.first k : Nat)) rfl rfl k p) (by simp [e82]) (by rw [n12, n11]) (fun c => by rw [e12, e11]; by_cases h : c = bR <;> simp [h])
        rw [← hl12] at hL12
        have ho12 : Old base m m12 := ho8.trans fun c hc => by rw [e12, e11, if_neg (by omega), if_neg (by omega)]
        have hbA12 : m12.at bA = some ⟨l8 1, 1, true, false⟩ := by rw [e12, if_neg hneA, e11, if_neg hneA]; exact hbA8
        clear e11 e12 hbR g11
        simp [drawQ, apartAll, apartL, Nat.testBit]
        have hCs : Conp l12 (fun i => ρ (sw k p i)) (fun i => rw (sw k p i)) N { noteS N k S with M := swapM S.M k p, first := swapM S.first k p } := by
          refine hC6.swapped hk hpN ?_ ?_ ?_ ?_
          · rw [hl12, hl8]; rfl
          · rw [hl12]; rfl
          · rw [hl12, hl8]; rfl
          · rw [hl12, hl8]; rfl
        have hLs := hL12.swap hk hpN
        obtain ⟨S', hS'⟩ : ∃ S' : Sys, S' = { noteS N k S with M := swapM S.M k p, first := swapM S.first k p } := ⟨_, rfl⟩
        rw [← hS'] at hCs
        have hc12 := hL12.cell
        have hkb12 : m12.at kb = some ⟨kL, 1, false, false⟩ := by rw [ho12 kb hkbb]; exact hkb
        have hSkk : S'.M k k = S.M p k := by rw [hS']; show swapM S.M k p k k = _; unfold swapM; rw [sw_left]
        simp [f1, f5, f7, hc12, rec4, hv1, lst, hwk]
        rw [show ((k : Int) + 1) = ((k + 1 : Nat) : Int) by simp]
        have go : ∀ (sv : Value) (fr9 : Fr) (m9 : Mem), Up m12 m9 → FP fr9 kb r6 s8 N k → fr9.at 166 = sv → fr9.at 167 = .int .i64 ((N - (k + 1) : Nat) : Int) → fr9.at 168 = .int .i64 0 → fr9.at 16 = .float .f64 (cOf (S.M p k)) → (k + 1 < N → sv = .slice (some ⟨bA, k + 1, none⟩) (N - (k + 1)) (N - (k + 1))) →
            ∀ {Q9 : CQ}, (∀ fr' m', FP fr' kb r6 s8 N k → Old base m12 m' → SysAp m' base s8 N (stepS N k S) → Q9 (.exit 6, fr') m') → Gives (codeX Try.prog (callN Try.prog known (n + 1)) (qElim (bodyOf Try.f42)) fr9) m9 Q9 := by
          intro sv fr9 m9 hu hF9 g1 g2 g3 g4 hsv Q9 hQ9
          refine lose_loop K n (base := base) (kb := kb) (r6 := r6) (s8 := s8) (N := N) (k := k) (sv := sv) (S := S') hk hN hF9 g1 g2 g3 (by rw [hSkk]; exact g4) (fun h => ⟨bA, hv1, hsv h⟩) (by rw [hu.old _ (hLs.wf _ _ hkb12)]; exact hkb12) hkbb (hLs.up hu) hCs fun fr' m' rw' hF' ho' hL' hC' => ?_
          refine hQ9 fr' m' hF' (fun c hc => ?_) ⟨_, _, _, _, _, hL', ?_⟩
          · rw [ho' c hc, hu.old c (by have := hLs.own.2; have := hLs.wf _ _ hc12; omega)]
          · rw [hS'] at hC'
            unfold stepS
            rw [← hp]
            exact hC'
        have fin : ∀ (fr' : Fr) (m' : Mem), FP fr' kb r6 s8 N k → Old base m12 m' → SysAp m' base s8 N (stepS N k S) → loopQ (driveI m base kb r6 s8 N R) q Q (.normal, (fr'.upd 207 (.int .i64 ((k + 1 : Nat) : Int))).upd 59 (.int .i64 ((k + 1 : Nat) : Int))) m' := by
          rintro fr' m' ⟨f1, f2, f3, f4, f5, f6, f7, f8, f9⟩ ho' hS'
          refine ⟨q - 1, by omega, k + 1, stepS N k S, by omega, ⟨by simp [f1], by simp [f2], by simp [f3], by simp [f4], by simp [f5], by simp [f6], by simp [f8], by simp⟩, ho12.trans ho', hS', hgoR.symm, ?_, ?_⟩
          · simp [stepS, noteS, hlp]
          · simp [stepS, noteS, hlo]
        refine gives_tail (N := N) (lo := k + 1) (cells := l8 1) (by simpa using hbA12) (by omega) (by omega) (fun hlt m13 ho13 => ?_) (fun heq m13 b' hu13 => ?_)
        · simp [f1]
          refine via (X := qElim (bodyOf Try.f42)) (by kernel_rfl) (go (.slice (some ⟨bA, k + 1, none⟩) (N - (k + 1)) (N - (k + 1))) _ _ (Up.only (.trans ⟨rfl, fun _ => rfl⟩ ho13)) ⟨by simp [f1], by simp [f2], by simp [f3], by simp [f4], by simp [f5], by simp [f6], by simp [f7], by simp [f8], by simp [f9]⟩ ?_ ?_ ?_ ?_ (fun _ => rfl) fun fr' m' hF' ho' hS' => ?_)
          · simp
          · simp
          · simp
          · simp
          have hwk' := hwk
          have hfin := fin fr' m' hF' ho' hS'
          obtain ⟨f1, f2, f3, f4, f5, f6, f7, f8, f9⟩ := hF'
          simp [f1, f9, hwk]
          simpa using hfin
        · simp [f1]
          refine via (X := qElim (bodyOf Try.f42)) (by kernel_rfl) (go (.slice (some ⟨b', 0, none⟩) 0 0) _ _ ⟨hu13.next, fun c hc => hu13.old c hc, fun w => hu13.wf w⟩ ⟨by simp [f1], by simp [f2], by simp [f3], by simp [f4], by simp [f5], by simp [f6], by simp [f7], by simp [f8], by simp [f9]⟩ ?_ ?_ ?_ ?_ (fun h => absurd h (by omega)) fun fr' m' hF' ho' hS' => ?_)
          · simp
          · simp; omega
          · simp
          · simp
          have hfin := fin fr' m' hF' ho' hS'
          obtain ⟨f1, f2, f3, f4, f5, f6, f7, f8, f9⟩ := hF'
          simp [f1, f9, hwk]
          simpa using hfin
  · have hk' : k = N := by omega
    have hq0 : q = 0 := by omega
    subst hq0
    have hgoR : R = (S, true) := by rw [← hgo]; rfl
    simp [f1, f8, f9, hk]
    refine hQ1 _ m' k ⟨by simp [f1], by simp [f2], by simp [f3], by simp [f4], by simp [f5], by simp [f6], by simp [f8], by simp [f9]⟩ ho ?_ ?_
    · rw [hgoR]; exact hSys
    · rw [hgoR]
end Go.Proofs.Ytghhanifakllpaa

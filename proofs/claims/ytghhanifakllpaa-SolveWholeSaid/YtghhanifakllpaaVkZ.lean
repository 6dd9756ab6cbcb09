/- The law's own: det. -/
import Derived.Test.YtghhanifakllpaaVfZ
import Derived.Test.YtghhanifakllpaaBuZ
import Derived.Test.YtghhanifakllpaaNiZ
set_option linter.unusedSimpArgs false
set_option linter.unusedVariables false
namespace Go.Proofs.Ytghhanifakllpaa
open Go.Clean
/-- A list of rows is so many rows of small whole numbers. -/
structure IntM (n : Nat) (K : Nat → Nat → Int) (rs : List (List F)) : Prop where
  len : rs.length = n
  row : ∀ i, i < n → (rat' rs i).length = n
  el : ∀ i j, i < n → j < n → fat (rat' rs i) j = some (fi (K i j))
  lo : ∀ i j, i < n → j < n → -8 ≤ K i j
  hi : ∀ i j, i < n → j < n → K i j ≤ 8
theorem fi_prod {a b : Int} (a1 : -8 ≤ a) (a2 : a ≤ 8) (b1 : -8 ≤ b) (b2 : b ≤ 8) :
    ∃ c, (∀ xo yo, binX Try.prog .mul 25 xo yo (.float .f64 (fi a)) (.float .f64 (fi b)) = some (.float .f64 c)) ∧ convX Try.prog 25 3 (.float .f64 c) = some (.int .i64 (a * b)) := by
  have h := List.all_eq_true.1 (List.all_eq_true.1 fi_mul a (mem_small a1 a2)) b (mem_small b1 b2)
  cases hv : f64of (binX Try.prog .mul 25 (.tmp 0) (.tmp 0) (.float .f64 (fi a)) (.float .f64 (fi b))) with
  | none => rw [hv] at h; exact absurd h (by simp)
  | some c =>
    rw [hv] at h
    exact ⟨c, fun xo yo => f64of_eq hv, i64of_eq (by simpa using h)⟩
theorem i23_0 {n : Nat} (h : 0 < n) (b o c : Nat) (q : IntKind) : indexAddrX Try.prog 23 (.slice (some ⟨b, o, none⟩) n c) (.int q 0) = some (.pointer (some ⟨b, o, none⟩)) := idx23 b o n c 0 q h
theorem i23_1 {n : Nat} (h : 1 < n) (b o c : Nat) (q : IntKind) : indexAddrX Try.prog 23 (.slice (some ⟨b, o, none⟩) n c) (.int q 1) = some (.pointer (some ⟨b, o + 1, none⟩)) := idx23 b o n c 1 q h
theorem i23_2 {n : Nat} (h : 2 < n) (b o c : Nat) (q : IntKind) : indexAddrX Try.prog 23 (.slice (some ⟨b, o, none⟩) n c) (.int q 2) = some (.pointer (some ⟨b, o + 2, none⟩)) := idx23 b o n c 2 q h
theorem i24_0 {n : Nat} (h : 0 < n) (b o c : Nat) (q : IntKind) : indexAddrX Try.prog 24 (.slice (some ⟨b, o, none⟩) n c) (.int q 0) = some (.pointer (some ⟨b, o, none⟩)) := idx24 b o n c 0 q h
theorem i24_1 {n : Nat} (h : 1 < n) (b o c : Nat) (q : IntKind) : indexAddrX Try.prog 24 (.slice (some ⟨b, o, none⟩) n c) (.int q 1) = some (.pointer (some ⟨b, o + 1, none⟩)) := idx24 b o n c 1 q h
theorem i24_2 {n : Nat} (h : 2 < n) (b o c : Nat) (q : IntKind) : indexAddrX Try.prog 24 (.slice (some ⟨b, o, none⟩) n c) (.int q 2) = some (.pointer (some ⟨b, o + 2, none⟩)) := idx24 b o n c 2 q h
theorem wr1 : IntKind.i64.wrap 1 = 1 := by decide
theorem wr2 : IntKind.i64.wrap 2 = 2 := by decide
theorem wr3 : IntKind.i64.wrap 3 = 3 := by decide
theorem tm1 : (IntKind.i64.wrap 1).tmod 3 = 1 := by decide
theorem tm2 : (IntKind.i64.wrap 2).tmod 3 = 2 := by decide
theorem tm3 : (IntKind.i64.wrap 3).tmod 3 = 0 := by decide
theorem tm4 : (IntKind.i64.wrap 4).tmod 3 = 1 := by decide
theorem mulB {a b A B : Int} (hA : 0 ≤ A) (hB : 0 ≤ B) (a1 : -A ≤ a) (a2 : a ≤ A) (b1 : -B ≤ b) (b2 : b ≤ B) : -(A * B) ≤ a * b ∧ a * b ≤ A * B := by
  have h1 := Int.mul_nonneg (show 0 ≤ A - a by omega) (show 0 ≤ B - b by omega)
  have h2 := Int.mul_nonneg (show 0 ≤ A + a by omega) (show 0 ≤ B - b by omega)
  have h3 := Int.mul_nonneg (show 0 ≤ A - a by omega) (show 0 ≤ B + b by omega)
  have h4 := Int.mul_nonneg (show 0 ≤ A + a by omega) (show 0 ≤ B + b by omega)
  rw [Int.sub_mul, Int.mul_sub, Int.mul_sub] at h1
  rw [Int.add_mul, Int.mul_sub, Int.mul_sub] at h2
  rw [Int.sub_mul, Int.mul_add, Int.mul_add] at h3
  rw [Int.add_mul, Int.mul_add, Int.mul_add] at h4
  omega
theorem mul8 {a b : Int} (a1 : -8 ≤ a) (a2 : a ≤ 8) (b1 : -8 ≤ b) (b2 : b ≤ 8) : -64 ≤ a * b ∧ a * b ≤ 64 := mulB (by decide) (by decide) a1 a2 b1 b2
theorem mul128 {a b : Int} (a1 : -8 ≤ a) (a2 : a ≤ 8) (b1 : -128 ≤ b) (b2 : b ≤ 128) : -1024 ≤ a * b ∧ a * b ≤ 1024 := mulB (by decide) (by decide) a1 a2 b1 b2
/-- The sum of three, its first j. -/
def pd (K : Nat → Nat → Int) (j : Nat) : Int := match j with
  | 0 => 0
  | 1 => 0 + K 0 0 * (K 1 1 * K 2 2 - K 1 2 * K 2 1)
  | 2 => 0 + K 0 0 * (K 1 1 * K 2 2 - K 1 2 * K 2 1) + K 0 1 * (K 1 2 * K 2 0 - K 1 0 * K 2 2)
  | _ => 0 + K 0 0 * (K 1 1 * K 2 2 - K 1 2 * K 2 1) + K 0 1 * (K 1 2 * K 2 0 - K 1 0 * K 2 2) + K 0 2 * (K 1 0 * K 2 1 - K 1 1 * K 2 0)
theorem pd_di (K : Nat → Nat → Int) : pd K 3 = Nu.di 3 K := by
  show 0 + K 0 0 * (K 1 1 * K 2 2 - K 1 2 * K 2 1) + K 0 1 * (K 1 2 * K 2 0 - K 1 0 * K 2 2) + K 0 2 * (K 1 0 * K 2 1 - K 1 1 * K 2 0) = K 0 0 * (K 1 1 * K 2 2 - K 1 2 * K 2 1) + K 0 1 * (K 1 2 * K 2 0 - K 1 0 * K 2 2) + K 0 2 * (K 1 0 * K 2 1 - K 1 1 * K 2 0)
  omega
theorem pd_le {K : Nat → Nat → Int} (B : ∀ i j, i < 3 → j < 3 → -8 ≤ K i j ∧ K i j ≤ 8) (j : Nat) (hj : j ≤ 2) : -2048 ≤ pd K j ∧ pd K j ≤ 2048 := by
  have hM : ∀ i j k l, i < 3 → j < 3 → k < 3 → l < 3 → -64 ≤ K i j * K k l ∧ K i j * K k l ≤ 64 := fun i j k l hi hj hk hl => mul8 (B i j hi hj).1 (B i j hi hj).2 (B k l hk hl).1 (B k l hk hl).2
  have t1 := hM 1 1 2 2 (by omega) (by omega) (by omega) (by omega)
  have t2 := hM 1 2 2 1 (by omega) (by omega) (by omega) (by omega)
  have t3 := hM 1 2 2 0 (by omega) (by omega) (by omega) (by omega)
  have t4 := hM 1 0 2 2 (by omega) (by omega) (by omega) (by omega)
  have s1 := mul128 (B 0 0 (by omega) (by omega)).1 (B 0 0 (by omega) (by omega)).2 (show -128 ≤ K 1 1 * K 2 2 - K 1 2 * K 2 1 by omega) (by omega)
  have s2 := mul128 (B 0 1 (by omega) (by omega)).1 (B 0 1 (by omega) (by omega)).2 (show -128 ≤ K 1 2 * K 2 0 - K 1 0 * K 2 2 by omega) (by omega)
  have hc : j = 0 ∨ j = 1 ∨ j = 2 := by omega
  rcases hc with rfl | rfl | rfl
  · show -2048 ≤ (0 : Int) ∧ (0 : Int) ≤ 2048
    omega
  · show -2048 ≤ 0 + K 0 0 * (K 1 1 * K 2 2 - K 1 2 * K 2 1) ∧ 0 + K 0 0 * (K 1 1 * K 2 2 - K 1 2 * K 2 1) ≤ 2048
    omega
  · show -2048 ≤ 0 + K 0 0 * (K 1 1 * K 2 2 - K 1 2 * K 2 1) + K 0 1 * (K 1 2 * K 2 0 - K 1 0 * K 2 2) ∧ 0 + K 0 0 * (K 1 1 * K 2 2 - K 1 2 * K 2 1) + K 0 1 * (K 1 2 * K 2 0 - K 1 0 * K 2 2) ≤ 2048
    omega
def ldetI (m : Mem) (va : Value) (K : Nat → Nat → Int) (k : Nat) (fr : Fr) (m' : Mem) : Prop := ∃ j, j + k = 3 ∧ fr.n = 95 ∧ fr.d = [] ∧ fr.at 0 = va ∧ fr.at 4 = .int .i64 (pd K j) ∧ fr.at 5 = .int .i64 (j : Nat) ∧ Only m m' ∧ (readsL m.log = true → readsL m'.log = true)
section
set_option maxRecDepth 10000
set_option maxHeartbeats 4000000 in
theorem lawDet_ok (e : Nat) {m : Mem} {va : Value} {n : Nat} {K : Nat → Nat → Int} {rs : List (List F)} (hk : IntM n K rs) (h1 : 1 ≤ n) (h3 : n ≤ 3) (hv : FM m va rs) {Q : Value → Mem → Prop}
    (hQ : ∀ m', Only m m' → (readsL m.log = true → readsL m'.log = true) → Q (.int .i64 (Nu.di n K)) m') :
    Gives (callN Try.prog kn1 (e + 2) 26 [va]) m Q := by
  refine gives_fn (nt := 95) rfl Try.func26 rfl rfl rfl (Nat.le_of_ble_eq_true rfl) fun fr hn hd hargs => ?_
  have h0 : fr.at 0 = _ := hargs 0 _ rfl
  clear hargs
  obtain ⟨rl, rrow, rel, rlo, rhi⟩ := hk
  have hvl : lenX Try.prog 23 va = some (.int .i64 n) := by obtain ⟨a, c, rfl, _⟩ := hv; simp [rl]
  obtain ⟨b2, o2, x2, c2, ev, ea, ec⟩ := hv.get (by omega)
  rw [rl] at ev ec
  have hcell : ∀ i, i < n → ∃ u bu ou xu cu, x2.cells[o2 + i]? = some u ∧ u = .slice (some ⟨bu, ou, none⟩) n cu ∧ m.at bu = some xu ∧ ∀ j, j < n → xu.cells[ou + j]? = some (.float .f64 (fi (K i j))) := by
    intro i hi
    obtain ⟨u, hu, hfl⟩ := ec i hi
    have hlr := rrow i hi
    obtain ⟨b4, o4, x4, c4, evu, eu, ecu⟩ := hfl.get (by omega)
    rw [hlr] at evu ecu
    refine ⟨u, b4, o4, x4, c4, hu, evu, eu, fun j hj => ?_⟩
    rw [ecu j hj, rel i j hi hj, fi_no (rlo i j hi hj) (rhi i j hi hj)]
  have hc : n = 1 ∨ n = 2 ∨ n = 3 := by omega
  rcases hc with rfl | rfl | rfl
  · obtain ⟨u0, bu0, ou0, xu0, cu0, hu0, rfl, eu0, ec0⟩ := hcell 0 (by omega)
    have c00 := ec0 0 (by omega)
    have f00 := fi_from (rlo 0 0 (by omega) (by omega)) (rhi 0 0 (by omega) (by omega))
    simp only [Nat.add_zero] at hu0 c00
    rw [ev] at h0 hvl
    simp [hn, hd, h0, hvl, i23_0 (show 0 < 1 by omega), i24_0 (show 0 < 1 by omega), ea, hu0, eu0, c00, f00, Nu.di, yieldX]
    exact hQ _ ⟨by simp, fun c => by simp⟩ (by simp)
  · obtain ⟨u0, bu0, ou0, xu0, cu0, hu0, rfl, eu0, ec0⟩ := hcell 0 (by omega)
    obtain ⟨u1, bu1, ou1, xu1, cu1, hu1, rfl, eu1, ec1⟩ := hcell 1 (by omega)
    have c00 := ec0 0 (by omega)
    have c01 := ec0 1 (by omega)
    have c10 := ec1 0 (by omega)
    have c11 := ec1 1 (by omega)
    simp only [Nat.add_zero] at hu0 c00 c10
    obtain ⟨p1, q1, r1⟩ := fi_prod (rlo 0 0 (by omega) (by omega)) (rhi 0 0 (by omega) (by omega)) (rlo 1 1 (by omega) (by omega)) (rhi 1 1 (by omega) (by omega))
    obtain ⟨p2, q2, r2⟩ := fi_prod (rlo 0 1 (by omega) (by omega)) (rhi 0 1 (by omega) (by omega)) (rlo 1 0 (by omega) (by omega)) (rhi 1 0 (by omega) (by omega))
    rw [ev] at h0 hvl
    simp [hn, h0, hvl]
    refine code_draw (sil := silF) (kn1_KN.silent _) (kn1_KN.parC _) (by kernel_rfl) ?_
    simp [hn, hd, h0, hvl, i23_0 (show 0 < 2 by omega), i24_0 (show 0 < 2 by omega), i23_1 (show 1 < 2 by omega), i24_1 (show 1 < 2 by omega), ea, hu0, eu0, hu1, eu1, c00, c01, c10, c11, q1, q2, r1, r2, Nu.di, yieldX]
    rw [w63 _ (by have := mul8 (rlo 0 0 (by omega) (by omega)) (rhi 0 0 (by omega) (by omega)) (rlo 1 1 (by omega) (by omega)) (rhi 1 1 (by omega) (by omega)); have := mul8 (rlo 0 1 (by omega) (by omega)) (rhi 0 1 (by omega) (by omega)) (rlo 1 0 (by omega) (by omega)) (rhi 1 0 (by omega) (by omega)); omega) (by have := mul8 (rlo 0 0 (by omega) (by omega)) (rhi 0 0 (by omega) (by omega)) (rlo 1 1 (by omega) (by omega)) (rhi 1 1 (by omega) (by omega)); have := mul8 (rlo 0 1 (by omega) (by omega)) (rhi 0 1 (by omega) (by omega)) (rlo 1 0 (by omega) (by omega)) (rhi 1 0 (by omega) (by omega)); omega)]
    exact hQ _ ⟨by simp, fun c => by simp⟩ (by simp)
  · obtain ⟨u0, bu0, ou0, xu0, cu0, hu0, rfl, eu0, ec0⟩ := hcell 0 (by omega)
    obtain ⟨u1, bu1, ou1, xu1, cu1, hu1, rfl, eu1, ec1⟩ := hcell 1 (by omega)
    obtain ⟨u2, bu2, ou2, xu2, cu2, hu2, rfl, eu2, ec2⟩ := hcell 2 (by omega)
    have c00 := ec0 0 (by omega)
    have c01 := ec0 1 (by omega)
    have c02 := ec0 2 (by omega)
    have c10 := ec1 0 (by omega)
    have c11 := ec1 1 (by omega)
    have c12 := ec1 2 (by omega)
    have c20 := ec2 0 (by omega)
    have c21 := ec2 1 (by omega)
    have c22 := ec2 2 (by omega)
    simp only [Nat.add_zero] at hu0 c00 c10 c20
    have B : ∀ i j, i < 3 → j < 3 → -8 ≤ K i j ∧ K i j ≤ 8 := fun i j hi hj => ⟨rlo i j hi hj, rhi i j hi hj⟩
    have hprod : ∀ i j k l, i < 3 → j < 3 → k < 3 → l < 3 → ∃ c, (∀ xo yo, binX Try.prog .mul 25 xo yo (.float .f64 (fi (K i j))) (.float .f64 (fi (K k l))) = some (.float .f64 c)) ∧ convX Try.prog 25 3 (.float .f64 c) = some (.int .i64 (K i j * K k l)) :=
      fun i j k l hi hj hk hl => fi_prod (B i j hi hj).1 (B i j hi hj).2 (B k l hk hl).1 (B k l hk hl).2
    have hM : ∀ i j k l, i < 3 → j < 3 → k < 3 → l < 3 → -64 ≤ K i j * K k l ∧ K i j * K k l ≤ 64 := fun i j k l hi hj hk hl => mul8 (B i j hi hj).1 (B i j hi hj).2 (B k l hk hl).1 (B k l hk hl).2
    have h0' := h0
    rw [ev] at h0 hvl
    simp [hn, h0, hvl]
    refine code_loop (ldetI m va K) 3 (by omega) ⟨0, by omega, by simp [hn], by simp [hd], by simp [h0'], by simp [pd], by simp, ⟨by simp, fun c => by simp⟩, by simp⟩ ?_
    clear hn hd h0 h0'
    rintro k fr m1 ⟨j, hjk, hn, hd, h0, h4, h5, o1, l1⟩
    rw [ev] at h0
    have ea1 : m1.at b2 = some x2 := (o1.2 b2).trans ea
    have eu01 : m1.at bu0 = some xu0 := (o1.2 bu0).trans eu0
    have eu11 : m1.at bu1 = some xu1 := (o1.2 bu1).trans eu1
    have eu21 : m1.at bu2 = some xu2 := (o1.2 bu2).trans eu2
    have hj4 : j = 0 ∨ j = 1 ∨ j = 2 ∨ j = 3 := by omega
    rcases hj4 with rfl | rfl | rfl | rfl
    · have f0 := fi_from (B 0 0 (by omega) (by omega)).1 (B 0 0 (by omega) (by omega)).2
      obtain ⟨p1, q1, r1⟩ := hprod 1 1 2 2 (by omega) (by omega) (by omega) (by omega)
      obtain ⟨p2, q2, r2⟩ := hprod 1 2 2 1 (by omega) (by omega) (by omega) (by omega)
      obtain ⟨D, hD⟩ : ∃ D, D = K 1 1 * K 2 2 - K 1 2 * K 2 1 := ⟨_, rfl⟩
      have D1 : IntKind.i64.wrap (K 1 1 * K 2 2 - K 1 2 * K 2 1) = D := by
        have := hM 1 1 2 2 (by omega) (by omega) (by omega) (by omega)
        have := hM 1 2 2 1 (by omega) (by omega) (by omega) (by omega)
        rw [w63 _ (by omega) (by omega), hD]
      have D2 : -128 ≤ D ∧ D ≤ 128 := by
        have := hM 1 1 2 2 (by omega) (by omega) (by omega) (by omega)
        have := hM 1 2 2 1 (by omega) (by omega) (by omega) (by omega)
        omega
      have D3 := mul128 (B 0 0 (by omega) (by omega)).1 (B 0 0 (by omega) (by omega)).2 D2.1 D2.2
      have D4 : IntKind.i64.wrap (K 0 0 * D) = K 0 0 * D := w63 _ (by omega) (by omega)
      obtain ⟨E, hE⟩ : ∃ E, E = pd K 0 := ⟨_, rfl⟩
      have E1 : -2048 ≤ E ∧ E ≤ 2048 := by rw [hE]; exact pd_le B 0 (by omega)
      have e2 : pd K 1 = E + K 0 0 * D := by rw [hD, hE]; rfl
      have D5 : IntKind.i64.wrap (E + K 0 0 * D) = E + K 0 0 * D := w63 _ (by omega) (by omega)
      rw [← hE] at h4
      simp [hn, h0, h4, h5, tm1, tm2, tm3, tm4]
      refine code_draw (sil := silF) (kn1_KN.silent _) (kn1_KN.parC _) (by kernel_rfl) ?_
      simp [hn, hd, h0, h4, h5, i23_0 (show 0 < 3 by omega), i24_0 (show 0 < 3 by omega), i23_1 (show 1 < 3 by omega), i24_1 (show 1 < 3 by omega), i23_2 (show 2 < 3 by omega), i24_2 (show 2 < 3 by omega), ea1, hu0, eu01, hu1, eu11, hu2, eu21, c00, c01, c02, c10, c11, c12, c20, c21, c22, q1, q2, r1, r2, f0, D1, D4, D5, yieldX, tm1, tm2, tm3, tm4]
      refine ⟨2, by omega, 1, by omega, by simp [hn], by simp [hd], by simp [h0, ev], by simp [e2], by simp [wr1, wr2, wr3], o1.trans ⟨by simp, fun c => by simp⟩, fun h => by simp [l1 h]⟩
    · have f0 := fi_from (B 0 1 (by omega) (by omega)).1 (B 0 1 (by omega) (by omega)).2
      obtain ⟨p1, q1, r1⟩ := hprod 1 2 2 0 (by omega) (by omega) (by omega) (by omega)
      obtain ⟨p2, q2, r2⟩ := hprod 1 0 2 2 (by omega) (by omega) (by omega) (by omega)
      obtain ⟨D, hD⟩ : ∃ D, D = K 1 2 * K 2 0 - K 1 0 * K 2 2 := ⟨_, rfl⟩
      have D1 : IntKind.i64.wrap (K 1 2 * K 2 0 - K 1 0 * K 2 2) = D := by
        have := hM 1 2 2 0 (by omega) (by omega) (by omega) (by omega)
        have := hM 1 0 2 2 (by omega) (by omega) (by omega) (by omega)
        rw [w63 _ (by omega) (by omega), hD]
      have D2 : -128 ≤ D ∧ D ≤ 128 := by
        have := hM 1 2 2 0 (by omega) (by omega) (by omega) (by omega)
        have := hM 1 0 2 2 (by omega) (by omega) (by omega) (by omega)
        omega
      have D3 := mul128 (B 0 1 (by omega) (by omega)).1 (B 0 1 (by omega) (by omega)).2 D2.1 D2.2
      have D4 : IntKind.i64.wrap (K 0 1 * D) = K 0 1 * D := w63 _ (by omega) (by omega)
      obtain ⟨E, hE⟩ : ∃ E, E = pd K 1 := ⟨_, rfl⟩
      have E1 : -2048 ≤ E ∧ E ≤ 2048 := by rw [hE]; exact pd_le B 1 (by omega)
      have e2 : pd K 2 = E + K 0 1 * D := by rw [hD, hE]; rfl
      have D5 : IntKind.i64.wrap (E + K 0 1 * D) = E + K 0 1 * D := w63 _ (by omega) (by omega)
      rw [← hE] at h4
      simp [hn, h0, h4, h5, tm1, tm2, tm3, tm4]
      refine code_draw (sil := silF) (kn1_KN.silent _) (kn1_KN.parC _) (by kernel_rfl) ?_
      simp [hn, hd, h0, h4, h5, i23_0 (show 0 < 3 by omega), i24_0 (show 0 < 3 by omega), i23_1 (show 1 < 3 by omega), i24_1 (show 1 < 3 by omega), i23_2 (show 2 < 3 by omega), i24_2 (show 2 < 3 by omega), ea1, hu0, eu01, hu1, eu11, hu2, eu21, c00, c01, c02, c10, c11, c12, c20, c21, c22, q1, q2, r1, r2, f0, D1, D4, D5, yieldX, tm1, tm2, tm3, tm4]
      refine ⟨1, by omega, 2, by omega, by simp [hn], by simp [hd], by simp [h0, ev], by simp [e2], by simp [wr1, wr2, wr3], o1.trans ⟨by simp, fun c => by simp⟩, fun h => by simp [l1 h]⟩
    · have f0 := fi_from (B 0 2 (by omega) (by omega)).1 (B 0 2 (by omega) (by omega)).2
      obtain ⟨p1, q1, r1⟩ := hprod 1 0 2 1 (by omega) (by omega) (by omega) (by omega)
      obtain ⟨p2, q2, r2⟩ := hprod 1 1 2 0 (by omega) (by omega) (by omega) (by omega)
      obtain ⟨D, hD⟩ : ∃ D, D = K 1 0 * K 2 1 - K 1 1 * K 2 0 := ⟨_, rfl⟩
      have D1 : IntKind.i64.wrap (K 1 0 * K 2 1 - K 1 1 * K 2 0) = D := by
        have := hM 1 0 2 1 (by omega) (by omega) (by omega) (by omega)
        have := hM 1 1 2 0 (by omega) (by omega) (by omega) (by omega)
        rw [w63 _ (by omega) (by omega), hD]
      have D2 : -128 ≤ D ∧ D ≤ 128 := by
        have := hM 1 0 2 1 (by omega) (by omega) (by omega) (by omega)
        have := hM 1 1 2 0 (by omega) (by omega) (by omega) (by omega)
        omega
      have D3 := mul128 (B 0 2 (by omega) (by omega)).1 (B 0 2 (by omega) (by omega)).2 D2.1 D2.2
      have D4 : IntKind.i64.wrap (K 0 2 * D) = K 0 2 * D := w63 _ (by omega) (by omega)
      obtain ⟨E, hE⟩ : ∃ E, E = pd K 2 := ⟨_, rfl⟩
      have E1 : -2048 ≤ E ∧ E ≤ 2048 := by rw [hE]; exact pd_le B 2 (by omega)
      have e2 : pd K 3 = E + K 0 2 * D := by rw [hD, hE]; rfl
      have D5 : IntKind.i64.wrap (E + K 0 2 * D) = E + K 0 2 * D := w63 _ (by omega) (by omega)
      rw [← hE] at h4
      simp [hn, h0, h4, h5, tm1, tm2, tm3, tm4]
      refine code_draw (sil := silF) (kn1_KN.silent _) (kn1_KN.parC _) (by kernel_rfl) ?_
      simp [hn, hd, h0, h4, h5, i23_0 (show 0 < 3 by omega), i24_0 (show 0 < 3 by omega), i23_1 (show 1 < 3 by omega), i24_1 (show 1 < 3 by omega), i23_2 (show 2 < 3 by omega), i24_2 (show 2 < 3 by omega), ea1, hu0, eu01, hu1, eu11, hu2, eu21, c00, c01, c02, c10, c11, c12, c20, c21, c22, q1, q2, r1, r2, f0, D1, D4, D5, yieldX, tm1, tm2, tm3, tm4]
      refine ⟨0, by omega, 3, by omega, by simp [hn], by simp [hd], by simp [h0, ev], by simp [e2], by simp [wr1, wr2, wr3], o1.trans ⟨by simp, fun c => by simp⟩, fun h => by simp [l1 h]⟩
    · simp [hn, hd, h0, h4, h5]
      rw [pd_di]
      exact hQ _ o1 l1
end
end Go.Proofs.Ytghhanifakllpaa

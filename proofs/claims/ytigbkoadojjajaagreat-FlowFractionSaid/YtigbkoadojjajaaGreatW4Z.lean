/- Flows in the clean executor: whole powers, speeds of elements. -/
import Derived.Test.YtigbkoadojjajaaGreatQIZ
import Derived.Test.YtigbkoadojjajaaGreatQAZ
set_option linter.unusedSimpArgs false
set_option linter.unusedVariables false
namespace Go.Proofs.YtigbkoadojjajaaGreat
open Go.Clean
def cone : C := (some 4607182418800017408, some 0)
/-- Whole powers as parts.Whole forms them. -/
def cwh (z : C) : Nat → C
  | 0 => cone
  | 1 => z
  | 2 => cmul z z
  | _ => cmul (cmul z z) z
theorem cx_cone : Value.complex .f64 4607182418800017408 0 = cx cone := by kernel_rfl
theorem gk {v : Value} {f : FuncId} {args : List Value} (n : Nat) (h : known f args = some (M.ret v)) (m : Mem) (Q : Value → Mem → Prop) : Gives (callN Tryz.prog known (n + 1) f args) m Q ↔ Q v m := by
  rw [gives_known h, gives_ret]
@[simp] theorem len1 (n : Nat) (m : Mem) (Q : Value → Mem → Prop) : Gives (callN Tryz.prog known (n + 1) 123 [.int .u64 1]) m Q ↔ Q (.int .i64 1) m := gk n (by rfl) m Q
@[simp] theorem len2 (n : Nat) (m : Mem) (Q : Value → Mem → Prop) : Gives (callN Tryz.prog known (n + 1) 123 [.int .u64 2]) m Q ↔ Q (.int .i64 2) m := gk n (by rfl) m Q
@[simp] theorem len3 (n : Nat) (m : Mem) (Q : Value → Mem → Prop) : Gives (callN Tryz.prog known (n + 1) 123 [.int .u64 3]) m Q ↔ Q (.int .i64 2) m := gk n (by rfl) m Q
theorem cvu1 : convX Tryz.prog 3 49 (.int .i64 1) = some (.int .u64 1) := (by kernel_rfl : convX Tryz.prog 3 49 (.int .i64 1) = some (.int .u64 1)).trans rfl
theorem cvu2 : convX Tryz.prog 3 49 (.int .i64 2) = some (.int .u64 2) := (by kernel_rfl : convX Tryz.prog 3 49 (.int .i64 2) = some (.int .u64 2)).trans rfl
theorem cvu3 : convX Tryz.prog 3 49 (.int .i64 3) = some (.int .u64 3) := (by kernel_rfl : convX Tryz.prog 3 49 (.int .i64 3) = some (.int .u64 3)).trans rfl
theorem wr0 : IntKind.i64.wrap 0 = 0 := by kernel_rfl
theorem wr1 : IntKind.i64.wrap 1 = 1 := by kernel_rfl
theorem shr2 (x y : Operand) : binX Tryz.prog .shr 49 x y (.int .u64 2) (.int .i64 0) = some (.int .u64 2) := (by kernel_rfl : binX Tryz.prog .shr 49 x y (.int .u64 2) (.int .i64 0) = some (.int .u64 2)).trans rfl
theorem shr3 (x y : Operand) : binX Tryz.prog .shr 49 x y (.int .u64 3) (.int .i64 0) = some (.int .u64 3) := (by kernel_rfl : binX Tryz.prog .shr 49 x y (.int .u64 3) (.int .i64 0) = some (.int .u64 3)).trans rfl
theorem and2 (x y : Operand) : binX Tryz.prog .and 49 x y (.int .u64 2) (.int .u64 1) = some (.int .u64 0) := (by kernel_rfl : binX Tryz.prog .and 49 x y (.int .u64 2) (.int .u64 1) = some (.int .u64 0)).trans rfl
theorem and3 (x y : Operand) : binX Tryz.prog .and 49 x y (.int .u64 3) (.int .u64 1) = some (.int .u64 1) := (by kernel_rfl : binX Tryz.prog .and 49 x y (.int .u64 3) (.int .u64 1) = some (.int .u64 1)).trans rfl
theorem eq01 (x y : Operand) : binX Tryz.prog .eql 49 x y (.int .u64 0) (.int .u64 1) = some (.bool false) := (by kernel_rfl : binX Tryz.prog .eql 49 x y (.int .u64 0) (.int .u64 1) = some (.bool false)).trans rfl
theorem eq11 (x y : Operand) : binX Tryz.prog .eql 49 x y (.int .u64 1) (.int .u64 1) = some (.bool true) := (by kernel_rfl : binX Tryz.prog .eql 49 x y (.int .u64 1) (.int .u64 1) = some (.bool true)).trans rfl
/-- The squarings still to do: `k`. -/
def wI (x : C) (n B : Nat) (m : Mem) (k : Nat) (fr : Fr) (m' : Mem) : Prop := (k = 0 ∨ k = 1) ∧ k ≤ B ∧ B ≤ 1 ∧ fr.n = 44 ∧ fr.d = [] ∧ fr.at 0 = cx x ∧ fr.at 1 = .int .i64 n ∧ fr.at 5 = .int .u64 n ∧ fr.at 19 = .int .i64 B ∧ fr.at 20 = .int .i64 ((B - k : Nat) : Int) ∧ fr.at 6 = cx (if k = B ∧ B = 1 then x else cwh x n) ∧ m' = m
def wR (x : C) (n : Nat) (m : Mem) : CQ := fun r m' => r.1 = .exit 0 ∧ r.2.n = 44 ∧ r.2.d = [] ∧ r.2.at 1 = .int .i64 n ∧ r.2.at 6 = cx (cwh x n) ∧ m' = m
section
set_option maxRecDepth 10000
theorem run_w0 (n : Nat) (x : C) (m : Mem) (Q : Value → Mem → Prop) : Gives (callN Tryz.prog known (n + 2) 119 [cx x, .int .i64 0]) m Q ↔ Q (cx (cwh x 0)) m := by
  refine gives_pure (fun m => ?_) m Q
  refine gives_fn (nt := 44) rfl Tryz.func119 rfl rfl rfl (Nat.le_of_ble_eq_true rfl) fun fr hn hd hargs => ?_
  have h0 : fr.at 0 = _ := hargs 0 _ rfl
  have h1 : fr.at 1 = _ := hargs 1 _ rfl
  clear hargs
  simp [h0, h1, hn, hd, cx_cone, cwh]
theorem run_w1 (n : Nat) (x : C) (m : Mem) (Q : Value → Mem → Prop) : Gives (callN Tryz.prog known (n + 2) 119 [cx x, .int .i64 1]) m Q ↔ Q (cx (cwh x 1)) m := by
  refine gives_pure (fun m => ?_) m Q
  refine gives_fn (nt := 44) rfl Tryz.func119 rfl rfl rfl (Nat.le_of_ble_eq_true rfl) fun fr hn hd hargs => ?_
  have h0 : fr.at 0 = _ := hargs 0 _ rfl
  have h1 : fr.at 1 = _ := hargs 1 _ rfl
  clear hargs
  simp [h0, h1, hn, hd, cvu1]
  refine code_loop_post (wR x 1 m) (wI x 1 0 m) 0 (by decide) (by simp [wI, hn, hd, h0, h1, cwh, wr0, wr1]) ?_ ?_
  · rintro k fr1 m1 ⟨h, hB, -, f1, f2, f3, f4, f5, f6, f7, f8, rfl⟩
    obtain rfl : k = 0 := by omega
    simp [f1, f2, f3, f4, f5, f6, f7, f8, wR, cwh]
  · rintro ⟨e, fr1⟩ m1 ⟨he, f1, f2, f3, f4, rfl⟩
    obtain rfl : e = .exit 0 := he
    simp only at f1 f2 f3 f4
    simp [f1, f2, f3, f4]
theorem run_w2 (n : Nat) (x : C) (m : Mem) (Q : Value → Mem → Prop) : Gives (callN Tryz.prog known (n + 2) 119 [cx x, .int .i64 2]) m Q ↔ Q (cx (cwh x 2)) m := by
  refine gives_pure (fun m => ?_) m Q
  refine gives_fn (nt := 44) rfl Tryz.func119 rfl rfl rfl (Nat.le_of_ble_eq_true rfl) fun fr hn hd hargs => ?_
  have h0 : fr.at 0 = _ := hargs 0 _ rfl
  have h1 : fr.at 1 = _ := hargs 1 _ rfl
  clear hargs
  simp [h0, h1, hn, hd, cvu2]
  refine code_loop_post (wR x 2 m) (wI x 2 1 m) 1 (by decide) (by simp [wI, hn, hd, h0, h1, cwh, wr0, wr1]) ?_ ?_
  · rintro k fr1 m1 ⟨h, hB, -, f1, f2, f3, f4, f5, f6, f7, f8, rfl⟩
    rcases h with rfl | rfl
    · simp [f1, f2, f3, f4, f5, f6, f7, f8, wR, cwh]
    · simp [f1, f2, f3, f4, f5, f6, f7, f8, run_mul, wr0, wr1, shr2, shr3, and2, and3, eq01, eq11]
      simp [wI, f1, f2, f3, f4, f5, f6, f7, f8, cwh]
  · rintro ⟨e, fr1⟩ m1 ⟨he, f1, f2, f3, f4, rfl⟩
    obtain rfl : e = .exit 0 := he
    simp only at f1 f2 f3 f4
    simp [f1, f2, f3, f4]
theorem run_w3 (n : Nat) (x : C) (m : Mem) (Q : Value → Mem → Prop) : Gives (callN Tryz.prog known (n + 2) 119 [cx x, .int .i64 3]) m Q ↔ Q (cx (cwh x 3)) m := by
  refine gives_pure (fun m => ?_) m Q
  refine gives_fn (nt := 44) rfl Tryz.func119 rfl rfl rfl (Nat.le_of_ble_eq_true rfl) fun fr hn hd hargs => ?_
  have h0 : fr.at 0 = _ := hargs 0 _ rfl
  have h1 : fr.at 1 = _ := hargs 1 _ rfl
  clear hargs
  simp [h0, h1, hn, hd, cvu3]
  refine code_loop_post (wR x 3 m) (wI x 3 1 m) 1 (by decide) (by simp [wI, hn, hd, h0, h1, cwh, wr0, wr1]) ?_ ?_
  · rintro k fr1 m1 ⟨h, hB, -, f1, f2, f3, f4, f5, f6, f7, f8, rfl⟩
    rcases h with rfl | rfl
    · simp [f1, f2, f3, f4, f5, f6, f7, f8, wR, cwh]
    · simp [f1, f2, f3, f4, f5, f6, f7, f8, run_mul, wr0, wr1, shr2, shr3, and2, and3, eq01, eq11]
      simp [wI, f1, f2, f3, f4, f5, f6, f7, f8, cwh]
  · rintro ⟨e, fr1⟩ m1 ⟨he, f1, f2, f3, f4, rfl⟩
    obtain rfl : e = .exit 0 := he
    simp only at f1 f2 f3 f4
    simp [f1, f2, f3, f4]
end
end Go.Proofs.YtigbkoadojjajaaGreat

/- Flows in the clean executor: speeds of elements. -/
namespace Go.Proofs.YtigbkoadojjajaaGreat
open Go.Clean
def cscale (x : C) (f : F) : C := (fmul x.1 f, fmul x.2 f)
/-- A small whole number as a float. -/
def iF (k : Int) : F := some (Ieee.double.write (.number (decide (k < 0)) k.natAbs 0))
section
set_option maxRecDepth 10000
theorem run_scale (n : Nat) (x : C) (f : F) (m : Mem) (Q : Value → Mem → Prop) : Gives (callN Tryz.prog known (n + 1) 45 [cx x, fv f]) m Q ↔ Q (cx (cscale x f)) m := by
  refine gives_pure (fun m => ?_) m Q
  refine gives_fn (nt := 14) rfl Tryz.func45 rfl rfl rfl (Nat.le_of_ble_eq_true rfl) fun fr hn hd hargs => ?_
  have h0 : fr.at 0 = _ := hargs 0 _ rfl
  have h1 : fr.at 1 = _ := hargs 1 _ rfl
  clear hargs
  simp [h0, h1, hn, hd, fv, cx, cscale]
end
@[simp] theorem me_S : methodX Tryz.prog 116 "eddy/element.speed" = some 114 := by kernel_rfl
@[simp] theorem me_D : methodX Tryz.prog 120 "eddy/element.speed" = some 149 := by kernel_rfl
@[simp] theorem me_C : methodX Tryz.prog 121 "eddy/element.speed" = some 153 := by kernel_rfl
theorem cvf1 : convX Tryz.prog 3 25 (.int .i64 (1)) = some (fv (iF (1))) := by kernel_rfl
theorem cvf2 : convX Tryz.prog 3 25 (.int .i64 (2)) = some (fv (iF (2))) := by kernel_rfl
theorem cvf3 : convX Tryz.prog 3 25 (.int .i64 (3)) = some (fv (iF (3))) := by kernel_rfl
theorem cvfm1 : convX Tryz.prog 3 25 (.int .i64 (-1)) = some (fv (iF (-1))) := by kernel_rfl
theorem cvfm2 : convX Tryz.prog 3 25 (.int .i64 (-2)) = some (fv (iF (-2))) := by kernel_rfl
@[simp] theorem cells_st (s : C) : cellsV (stV s) = [cx s] := rfl
@[simp] theorem cells_sn (s : C) (n : Nat) : cellsV (sn s n) = snL s n := rfl
@[simp] theorem one_snL (s : C) (n : Nat) : (snL s n).all oneV = true := rfl
@[simp] theorem sn_0 (s : C) (n : Nat) : (snL s n)[0]? = some (cx s) := rfl
@[simp] theorem sn_1 (s : C) (n : Nat) : (snL s n)[1]? = some (.int .i64 n) := rfl
@[simp] theorem elt_S : elemT Tryz.prog 116 = 1 := by kernel_rfl
@[simp] theorem elt_D : elemT Tryz.prog 120 = 1 := by kernel_rfl
@[simp] theorem elt_Co : elemT Tryz.prog 121 = 1 := by kernel_rfl
@[simp] theorem agg_D : Clean.isAgg Tryz.prog 120 = some true := by kernel_rfl
@[simp] theorem size_D : sizeT Tryz.prog 120 = some 2 := by kernel_rfl
@[simp] theorem ld_D (s : C) (n : Nat) : ldX Tryz.prog 120 (snL s n) 0 = some (sn s n) := (ld_agg agg_D size_D (snL s n) 0).trans rfl
@[simp] theorem fa_S0 (s : Nat) : fieldAddrX Tryz.prog 116 (.pointer (some ⟨s, 0, none⟩)) 0 = some (.pointer (some ⟨s, 0, none⟩)) := (by kernel_rfl : fieldAddrX Tryz.prog 116 (.pointer (some ⟨s, 0, none⟩)) 0 = some (.pointer (some ⟨s, 0, none⟩))).trans rfl
@[simp] theorem fa_D0 (s : Nat) : fieldAddrX Tryz.prog 120 (.pointer (some ⟨s, 0, none⟩)) 0 = some (.pointer (some ⟨s, 0, none⟩)) := (by kernel_rfl : fieldAddrX Tryz.prog 120 (.pointer (some ⟨s, 0, none⟩)) 0 = some (.pointer (some ⟨s, 0, none⟩))).trans rfl
@[simp] theorem fa_D1 (s : Nat) : fieldAddrX Tryz.prog 120 (.pointer (some ⟨s, 0, none⟩)) 1 = some (.pointer (some ⟨s, 1, none⟩)) := (by kernel_rfl : fieldAddrX Tryz.prog 120 (.pointer (some ⟨s, 0, none⟩)) 1 = some (.pointer (some ⟨s, 1, none⟩))).trans rfl
@[simp] theorem fa_Co0 (s : Nat) : fieldAddrX Tryz.prog 121 (.pointer (some ⟨s, 0, none⟩)) 0 = some (.pointer (some ⟨s, 0, none⟩)) := (by kernel_rfl : fieldAddrX Tryz.prog 121 (.pointer (some ⟨s, 0, none⟩)) 0 = some (.pointer (some ⟨s, 0, none⟩))).trans rfl
@[simp] theorem fa_Co1 (s : Nat) : fieldAddrX Tryz.prog 121 (.pointer (some ⟨s, 0, none⟩)) 1 = some (.pointer (some ⟨s, 1, none⟩)) := (by kernel_rfl : fieldAddrX Tryz.prog 121 (.pointer (some ⟨s, 0, none⟩)) 1 = some (.pointer (some ⟨s, 1, none⟩))).trans rfl
theorem wr2 : IntKind.i64.wrap 2 = 2 := by kernel_rfl
/-- An element's speed at the place less its own. -/
def spd (k : Int) (s d : C) (n : Nat) : C := if k = 1 then s else if k = 3 then cdiv (cscale s (iF (-(n : Int)))) (cwh d (n + 1)) else cmul (cscale s (iF n)) (cwh d (n - 1))
section
set_option maxRecDepth 10000
theorem sspeed_ok (d : Nat) {m : Mem} {s z : C} {Q : Value → Mem → Prop} (hQ : ∀ m', Up m m' → Q (cx s) m') :
    Gives (callN Tryz.prog known (d + 1) 114 [stV s, cx z]) m Q := by
  refine gives_fn (nt := 7) rfl Tryz.func114 rfl rfl rfl (Nat.le_of_ble_eq_true rfl) fun fr hn hd hargs => ?_
  have h0 : fr.at 0 = _ := hargs 0 _ rfl
  clear hargs
  obtain ⟨m1, hm1⟩ : ∃ m1, m1 = m.nw ⟨[cx s], 1, false, false⟩ := ⟨_, rfl⟩
  have u1 : Up m m1 := by rw [hm1]; exact Up.nw _ _
  have e1 : m1.at m.next = some ⟨[cx s], 1, false, false⟩ := by rw [hm1]; simp
  refine (code_seq _ _ _ _ _).2 ?_
  simp [h0, hn, -code_seq]
  rw [← hm1]
  simp [hn, hd, e1]
  exact hQ _ (u1.trans (Up.same (by simp) fun c => by simp))
theorem under_ok (d : Nat) {m : Mem} {s z : C} {n : Nat} (h : n = 1 ∨ n = 2) {Q : Value → Mem → Prop} (hQ : ∀ m', Up m m' → Q (cx (cdiv (cscale s (iF (-(n : Int)))) (cwh z (n + 1)))) m') :
    Gives (callN Tryz.prog known (d + 3) 150 [sn s n, cx z, .int .i64 (-(n : Int)), .int .i64 ((n : Int) + 1)]) m Q := by
  refine gives_fn (nt := 29) rfl Tryz.func150 rfl rfl rfl (Nat.le_of_ble_eq_true rfl) fun fr hn hd hargs => ?_
  have h0 : fr.at 0 = _ := hargs 0 _ rfl
  have h1 : fr.at 1 = _ := hargs 1 _ rfl
  have h2 : fr.at 2 = _ := hargs 2 _ rfl
  have h3 : fr.at 3 = _ := hargs 3 _ rfl
  clear hargs
  obtain ⟨m1, hm1⟩ : ∃ m1, m1 = m.nw ⟨snL s n, 1, false, false⟩ := ⟨_, rfl⟩
  have u1 : Up m m1 := by rw [hm1]; exact Up.nw _ _
  have e1 : m1.at m.next = some ⟨snL s n, 1, false, false⟩ := by rw [hm1]; simp
  refine (code_seq _ _ _ _ _).2 ?_
  simp [h0, hn, -code_seq]
  rw [← hm1]
  rcases h with rfl | rfl
  · simp [h1, h2, h3, hn, hd, e1, yieldX, boolOf_bool, cvfm1, run_scale, run_w2, run_div]
    exact hQ _ (u1.trans (Up.same (by simp) fun c => by simp))
  · simp [h1, h2, h3, hn, hd, e1, yieldX, boolOf_bool, cvfm2, run_scale, run_w3, run_div]
    exact hQ _ (u1.trans (Up.same (by simp) fun c => by simp))
theorem dspeed_ok (d : Nat) {m : Mem} {s z : C} {n : Nat} (h : n = 1 ∨ n = 2) {Q : Value → Mem → Prop} (hQ : ∀ m', Up m m' → Q (cx (cdiv (cscale s (iF (-(n : Int)))) (cwh z (n + 1)))) m') :
    Gives (callN Tryz.prog known (d + 4) 149 [sn s n, cx z]) m Q := by
  refine gives_fn (nt := 14) rfl Tryz.func149 rfl rfl rfl (Nat.le_of_ble_eq_true rfl) fun fr hn hd hargs => ?_
  have h0 : fr.at 0 = _ := hargs 0 _ rfl
  have h1 : fr.at 1 = _ := hargs 1 _ rfl
  clear hargs
  obtain ⟨m1, hm1⟩ : ∃ m1, m1 = m.nw ⟨snL s n, 1, false, false⟩ := ⟨_, rfl⟩
  have u1 : Up m m1 := by rw [hm1]; exact Up.nw _ _
  have e1 : m1.at m.next = some ⟨snL s n, 1, false, false⟩ := by rw [hm1]; simp
  refine (code_seq _ _ _ _ _).2 ?_
  simp [h0, hn, -code_seq]
  rw [← hm1]
  rcases h with rfl | rfl
  · simp [h1, hn, hd, e1]
    refine under_ok d (n := 1) (Or.inl rfl) fun m2 u2 => ?_
    simp [hn, hd]
    exact hQ _ ((u1.trans (Up.same (by simp) fun c => by simp)).trans u2)
  · simp [h1, hn, hd, e1]
    refine under_ok d (n := 2) (Or.inr rfl) fun m2 u2 => ?_
    simp [hn, hd]
    exact hQ _ ((u1.trans (Up.same (by simp) fun c => by simp)).trans u2)
theorem cspeed_ok (d : Nat) {m : Mem} {s z : C} {n : Nat} (h : n = 1 ∨ n = 2 ∨ n = 3) {Q : Value → Mem → Prop} (hQ : ∀ m', Up m m' → Q (cx (cmul (cscale s (iF n)) (cwh z (n - 1)))) m') :
    Gives (callN Tryz.prog known (d + 3) 153 [sn s n, cx z]) m Q := by
  refine gives_fn (nt := 17) rfl Tryz.func153 rfl rfl rfl (Nat.le_of_ble_eq_true rfl) fun fr hn hd hargs => ?_
  have h0 : fr.at 0 = _ := hargs 0 _ rfl
  have h1 : fr.at 1 = _ := hargs 1 _ rfl
  clear hargs
  obtain ⟨m1, hm1⟩ : ∃ m1, m1 = m.nw ⟨snL s n, 1, false, false⟩ := ⟨_, rfl⟩
  have u1 : Up m m1 := by rw [hm1]; exact Up.nw _ _
  have e1 : m1.at m.next = some ⟨snL s n, 1, false, false⟩ := by rw [hm1]; simp
  refine (code_seq _ _ _ _ _).2 ?_
  simp [h0, hn, -code_seq]
  rw [← hm1]
  refine (code_seq _ _ _ _ _).2 ?_
  refine code_draw_dyn (plan := [0, 1, 0, 4, 12, 31, 0, 0, 128, 384, 1023, 2047, 4095]) (by kernel_rfl) ?_
  rcases h with rfl | rfl | rfl
  · simp [drawQ, apartAll, apartL, Nat.testBit, h1, hn, hd, e1, cvf1, run_scale, run_w0, run_mul, wr0, wr1]
    exact hQ _ (u1.trans (Up.same (by simp) fun c => by simp))
  · simp [drawQ, apartAll, apartL, Nat.testBit, h1, hn, hd, e1, cvf2, run_scale, run_w1, run_mul, wr0, wr1]
    exact hQ _ (u1.trans (Up.same (by simp) fun c => by simp))
  · simp [drawQ, apartAll, apartL, Nat.testBit, h1, hn, hd, e1, cvf3, run_scale, run_w2, run_mul, wr0, wr1, wr2]
    exact hQ _ (u1.trans (Up.same (by simp) fun c => by simp))
end
end Go.Proofs.YtigbkoadojjajaaGreat

/- Flows in the clean executor: element.value, element.Speed. -/
namespace Go.Proofs.YtigbkoadojjajaaGreat
open Go.Clean
@[simp] theorem as_stream_source (v : Value) : assertX Tryz.prog (.iface 116 v) 118 true = some (.tuple ⟨[.agg ⟨[.complex .f64 0 0]⟩, .bool false]⟩) := (by kernel_rfl : assertX Tryz.prog (.iface 116 v) 118 true = some (.tuple ⟨[.agg ⟨[.complex .f64 0 0]⟩, .bool false]⟩)).trans rfl
@[simp] theorem as_stream_doublet (v : Value) : assertX Tryz.prog (.iface 116 v) 120 true = some (.tuple ⟨[.agg ⟨[.complex .f64 0 0, .int .i64 0]⟩, .bool false]⟩) := (by kernel_rfl : assertX Tryz.prog (.iface 116 v) 120 true = some (.tuple ⟨[.agg ⟨[.complex .f64 0 0, .int .i64 0]⟩, .bool false]⟩)).trans rfl
@[simp] theorem as_stream_bend (v : Value) : assertX Tryz.prog (.iface 116 v) 123 true = some (.tuple ⟨[.agg ⟨[.complex .f64 0 0, .float .f64 0]⟩, .bool false]⟩) := (by kernel_rfl : assertX Tryz.prog (.iface 116 v) 123 true = some (.tuple ⟨[.agg ⟨[.complex .f64 0 0, .float .f64 0]⟩, .bool false]⟩)).trans rfl
@[simp] theorem as_corner_source (v : Value) : assertX Tryz.prog (.iface 121 v) 118 true = some (.tuple ⟨[.agg ⟨[.complex .f64 0 0]⟩, .bool false]⟩) := (by kernel_rfl : assertX Tryz.prog (.iface 121 v) 118 true = some (.tuple ⟨[.agg ⟨[.complex .f64 0 0]⟩, .bool false]⟩)).trans rfl
@[simp] theorem as_corner_doublet (v : Value) : assertX Tryz.prog (.iface 121 v) 120 true = some (.tuple ⟨[.agg ⟨[.complex .f64 0 0, .int .i64 0]⟩, .bool false]⟩) := (by kernel_rfl : assertX Tryz.prog (.iface 121 v) 120 true = some (.tuple ⟨[.agg ⟨[.complex .f64 0 0, .int .i64 0]⟩, .bool false]⟩)).trans rfl
@[simp] theorem as_corner_bend (v : Value) : assertX Tryz.prog (.iface 121 v) 123 true = some (.tuple ⟨[.agg ⟨[.complex .f64 0 0, .float .f64 0]⟩, .bool false]⟩) := (by kernel_rfl : assertX Tryz.prog (.iface 121 v) 123 true = some (.tuple ⟨[.agg ⟨[.complex .f64 0 0, .float .f64 0]⟩, .bool false]⟩)).trans rfl
@[simp] theorem ex2_0 (a b : Value) : extractX (.tuple ⟨[a, b]⟩) 0 = some a := (Eq.refl (some a)).trans rfl
@[simp] theorem ex2_1 (a b : Value) : extractX (.tuple ⟨[a, b]⟩) 1 = some b := (Eq.refl (some b)).trans rfl
section
set_option maxRecDepth 10000
theorem middle_ok (d : Nat) {m : Mem} {k : Int} {p n : Nat} {s : C} (hk : KP k p n) (h3 : k ≠ 3) {Q : Value → Mem → Prop} (hQ : ∀ m', Up m m' → Q (.tuple ⟨[.int .i64 0, .bool false]⟩) m') :
    Gives (callN Tryz.prog known (d + 1) 60 [ifc k s n, .int .i64 1]) m Q := by
  refine gives_fn (nt := 24) rfl Tryz.func60 rfl rfl rfl (Nat.le_of_ble_eq_true rfl) fun fr hn hd hargs => ?_
  have h0 : fr.at 0 = _ := hargs 0 _ rfl
  have h1 : fr.at 1 = _ := hargs 1 _ rfl
  clear hargs
  cases hk with
  | s =>
    simp [h0, h1, hn, hd, ifc, yieldX, boolOf_bool]
    exact hQ _ (Up.same (by simp) fun c => by simp)
  | d1 => exact absurd rfl h3
  | d2 => exact absurd rfl h3
  | c1 =>
    simp [h0, h1, hn, hd, ifc, yieldX, boolOf_bool]
    exact hQ _ (Up.same (by simp) fun c => by simp)
  | c2 =>
    simp [h0, h1, hn, hd, ifc, yieldX, boolOf_bool]
    exact hQ _ (Up.same (by simp) fun c => by simp)
  | c3 =>
    simp [h0, h1, hn, hd, ifc, yieldX, boolOf_bool]
    exact hQ _ (Up.same (by simp) fun c => by simp)
end
end Go.Proofs.YtigbkoadojjajaaGreat

/- Regions of free order, each operation of a kind: quiet, reads of what was there, one new block, a call that touches what is newer, whatever it be. -/
namespace Go.Clean
variable {P : Program} {call : Caller}
def okL (k c : Nat) (log : List (Bool × Nat)) : Prop := match c with
  | 0 => log = []
  | 1 => ∀ x ∈ log, x.1 = false ∧ x.2 < k
  | 2 => ∀ x ∈ log, x.2 = k
  | 3 => ∀ x ∈ log, k < x.2
  | _ => True
def compatC (c d : Nat) : Bool := c == 0 || d == 0 || (c == 1 && d == 1) || (c == 1 && d == 2) || (c == 2 && d == 1) || (c == 1 && d == 3) || (c == 3 && d == 1) || (c == 2 && d == 3) || (c == 3 && d == 2)
theorem apart_of {l l' : List (Bool × Nat)} (h : ∀ x ∈ l, ∀ y ∈ l', x.2 ≠ y.2 ∨ (x.1 = false ∧ y.1 = false)) : apartL l l' = true := by
  unfold apartL
  rw [List.all_eq_true]
  rintro ⟨x, b⟩ hx
  rw [List.all_eq_true]
  rintro ⟨y, c⟩ hy
  rcases h _ hx _ hy with h1 | ⟨h1, h2⟩
  · simp at h1 ⊢
    exact .inl h1
  · simp at h1 h2 ⊢
    subst h1 h2
    simp
theorem apart_cls {k c d : Nat} {l l' : List (Bool × Nat)} (h : okL k c l) (h' : okL k d l') (hc : compatC c d = true) : apartL l l' = true := by
  refine apart_of fun x hx y hy => ?_
  unfold compatC at hc
  simp only [Bool.or_eq_true, Bool.and_eq_true, beq_iff_eq] at hc
  rcases hc with (((((((h1 | h1) | h1) | h1) | h1) | h1) | h1) | h1) | h1
  · subst h1
    have : l = [] := h
    subst this; cases hx
  · subst h1
    have : l' = [] := h'
    subst this; cases hy
  all_goals
    obtain ⟨rfl, rfl⟩ := h1
    have e1 := h x hx
    have e2 := h' y hy
    first
      | exact .inr ⟨e1.1, e2.1⟩
      | exact .inl (by omega)
/-- The masks and kinds fit: what an operation does not wait for, it does not disturb. -/
def chkC : Nat → List Nat → List Nat → List Nat → Bool
  | _, _, [], [] => true
  | i, prev, a :: ms, c :: cs => ((List.range i).all fun j => a.testBit j || compatC c (prev.getD (i - 1 - j) 4)) && chkC (i + 1) (c :: prev) ms cs
  | _, _, _, _ => false
def drawK (P : Program) (call : Caller) (ops : Array Oper) (k : Nat) : List Oper → List Nat → Fr → Mem → (Fr → Mem → Prop) → Prop
  | [], _, fr, m, Q => Q fr m
  | _ :: _, [], _, _, _ => False
  | o :: l, c :: cs, fr, m, Q => Gives (stepDX P call ops fr o) (m.lg []) fun fr' m' => okL k c m'.log ∧ drawK P call ops k l cs fr' (m'.lg (m'.log ++ m.log)) Q
def drawKQ (P : Program) (call : Caller) (ops : Array Oper) (k c : Nat) (l : List Oper) (cs : List Nat) (log : List (Bool × Nat)) (Q : Fr → Mem → Prop) (fr : Fr) (m : Mem) : Prop := okL k c m.log ∧ drawK P call ops k l cs fr (m.lg (m.log ++ log)) Q
theorem drawK_nil (ops : Array Oper) (k : Nat) (cs : List Nat) (fr : Fr) (m : Mem) (Q : Fr → Mem → Prop) : drawK P call ops k [] cs fr m Q ↔ Q fr m := by cases cs <;> exact Iff.rfl
theorem drawK_cons (ops : Array Oper) (k : Nat) (o : Oper) (l : List Oper) (c : Nat) (cs : List Nat) (fr : Fr) (m : Mem) (Q : Fr → Mem → Prop) : drawK P call ops k (o :: l) (c :: cs) fr m Q ↔ Gives (stepDX P call ops fr o) (m.lg []) (drawKQ P call ops k c l cs m.log Q) := Iff.rfl
theorem drawK_draws {ops : Array Oper} {k : Nat} {Q : Fr → Mem → Prop} : ∀ (l : List Oper) (ms cs prev : List Nat) (i : Nat) (ls : List (Nat × List (Bool × Nat))) (fr : Fr) (m : Mem), l.length = ms.length → (l.all fun o => !isDefer o) = true → chkC i prev ms cs = true → prev.length = i → (∀ p ∈ ls, p.1 < i ∧ okL k (prev.getD (i - 1 - p.1) 4) p.2) → drawK P call ops k l cs fr m Q → Gives (drawX P call ops l ms i ls fr) m Q
  | [], ms, cs, prev, i, ls, fr, m, _, _, _, _, _, h => (draw_nil ops ms i ls fr m Q).2 ((drawK_nil ops k cs fr m Q).1 h)
  | o :: l, [], cs, prev, i, ls, fr, m, h, _, _, _, _, _ => by simp at h
  | o :: l, a :: ms, [], prev, i, ls, fr, m, _, _, h, _, _, _ => by simp [chkC] at h
  | o :: l, a :: ms, c :: cs, prev, i, ls, fr, m, hl, hd, hch, hp, hls, h => by
    rw [List.all_cons, Bool.and_eq_true] at hd
    unfold chkC at hch
    rw [Bool.and_eq_true] at hch
    rw [draw_cons ops o (by simpa using hd.1)]
    refine Gives.mono h fun fr' m' q => ⟨?_, drawK_draws l ms cs (c :: prev) (i + 1) ((i, m'.log) :: ls) fr' _ (by simpa using hl) hd.2 hch.2 (by simp [hp]) (fun p hpm => ?_) q.2⟩
    · have : ∀ ls' : List (Nat × List (Bool × Nat)), (∀ p ∈ ls', p.1 < i ∧ okL k (prev.getD (i - 1 - p.1) 4) p.2) → apartAll a m'.log ls' = true := by
        intro ls'
        induction ls' with
        | nil => intro _; rfl
        | cons x r ih =>
          intro hx
          obtain ⟨j, l'⟩ := x
          show ((a.testBit j || apartL m'.log l') && apartAll a m'.log r) = true
          rw [ih fun p hp => hx p (List.mem_cons_of_mem _ hp)]
          obtain ⟨h1, h2⟩ := hx (j, l') (List.mem_cons_self ..)
          have h3 := List.all_eq_true.1 hch.1 j (List.mem_range.2 h1)
          simp only [Bool.or_eq_true] at h3
          rcases h3 with h3 | h3
          · rw [h3]; simp
          · rw [apart_cls q.1 h2 h3]; simp
      exact this ls hls
    · rcases List.mem_cons.1 hpm with rfl | hpm
      · refine ⟨Nat.lt_succ_self _, ?_⟩
        rw [show i + 1 - 1 - i = 0 by omega]
        exact q.1
      · obtain ⟨h1, h2⟩ := hls p hpm
        refine ⟨by omega, ?_⟩
        rw [show i + 1 - 1 - p.1 = (i - 1 - p.1) + 1 by omega]
        exact h2
theorem code_draw_cls {id : Nat} {ops : Array Oper} {ms : List Nat} (cs : List Nat) (k : Nat) (h : planX ops = some ms) (hl : ops.toList.length = ms.length) (hd : (ops.toList.all fun o => !isDefer o) = true) (hc : chkC 0 [] ms cs = true) {fr : Fr} {m : Mem} {Q : CQ}
    (hg : ∀ ops' : Array Oper, drawK P call ops' k ops.toList cs fr m (regQ Q)) : Gives (codeX P call (.region id ops true) fr) m Q :=
  code_draw_dyn h (drawK_draws _ _ cs [] 0 [] _ _ hl hd hc rfl (fun p hp => by cases hp) (hg ops))
theorem okL_nil (k c : Nat) : okL k c [] := by
  unfold okL
  split
  · rfl
  all_goals first | exact fun x hx => by cases hx | trivial
theorem okL_nil' (k c : Nat) : okL k c [] ↔ True := ⟨fun _ => trivial, fun _ => okL_nil k c⟩
theorem okL_read (k b : Nat) (l : List (Bool × Nat)) : okL k 1 ((false, b) :: l) ↔ b < k ∧ okL k 1 l :=
  ⟨fun h => ⟨(h _ (List.mem_cons_self ..)).2, fun x hx => h x (List.mem_cons_of_mem _ hx)⟩, fun h x hx => by
    rcases List.mem_cons.1 hx with rfl | hx
    · exact ⟨rfl, h.1⟩
    · exact h.2 x hx⟩
theorem okL_new (k b : Nat) : okL k 2 [(true, b)] ↔ b = k := ⟨fun h => h _ (List.mem_cons_self ..), fun h x hx => by simp at hx; subst hx; exact h⟩
theorem okL_any (k : Nat) (l : List (Bool × Nat)) : okL k 4 l ↔ True := ⟨fun _ => trivial, fun _ => trivial⟩
attribute [simp] drawK_nil drawK_cons okL_nil' okL_read okL_new okL_any
end Go.Clean

/- Flows in the clean executor: element.value, element.Speed. -/
namespace Go.Proofs.YtigbkoadojjajaaGreat
open Go.Clean
theorem KP.n1 {p n : Nat} (h : KP 3 p n) : n = 1 ∨ n = 2 := by
  cases h
  · exact .inl rfl
  · exact .inr rfl
theorem KP.n4 {p n : Nat} (h : KP 4 p n) : n = 1 ∨ n = 2 ∨ n = 3 := by
  cases h
  · exact .inl rfl
  · exact .inr (.inl rfl)
  · exact .inr (.inr rfl)
theorem KP.kind {k : Int} {p n : Nat} (h : KP k p n) : k = 1 ∨ k = 3 ∨ k = 4 := by cases h <;> decide
theorem Up.lg (m : Mem) (l : List (Bool × Nat)) : Up m (m.lg l) := Up.same (by simp) fun c => by simp
section
set_option maxRecDepth 10000
set_option maxHeartbeats 2000000 in
theorem evalue_ok (d : Nat) {m : Mem} {k : Int} {p n : Nat} {a s z : C} (hw : MW m) (hk : KP k p n) (ha : cwithin a lim = true) (hs : cwithin s lim = true) (hz : cwithin z lim = true) (h1 : k = 1 → cnought a = true) (h3 : k = 3 → cnought (csub z a) = false)
    (hf : cfin (spd k s (csub z a) n) = true) {Q : Value → Mem → Prop} (hQ : ∀ m', Up m m' → Q (.tuple ⟨[cx (spd k s (csub z a) n), .int .i64 0]⟩) m') :
    Gives (callN Tryz.prog known (d + 6) 27 [elV k a s p, cx z, .int .i64 1]) m Q := by
  refine gives_fn (nt := 57) rfl Tryz.func27 rfl rfl rfl (Nat.le_of_ble_eq_true rfl) fun fr hn hd hargs => ?_
  have h0 : fr.at 0 = _ := hargs 0 _ rfl
  have hz0 : fr.at 1 = _ := hargs 1 _ rfl
  have hg0 : fr.at 2 = _ := hargs 2 _ rfl
  clear hargs
  obtain ⟨m1, hm1⟩ : ∃ m1, m1 = m.nw ⟨elL k a s p, 1, false, false⟩ := ⟨_, rfl⟩
  have u1 : Up m m1 := by rw [hm1]; exact Up.nw _ _
  have e1 : m1.at m.next = some ⟨elL k a s p, 1, false, false⟩ := by rw [hm1]; simp
  obtain ⟨b, hb⟩ : ∃ b, b = m.next := ⟨_, rfl⟩
  have n1 : m1.next = b + 1 := by rw [hm1, hb]; simp
  refine (code_seq _ _ _ _ _).2 ?_
  simp [h0, hn, -code_seq]
  rw [← hm1, ← hb]
  rw [← hb] at e1
  clear hm1 hb
  refine (code_seq _ _ _ _ _).2 ((code_seq _ _ _ _ _).2 ?_)
  simp [hn, e1, -code_seq]
  refine echeck_ok d hk ha hs h1 fun m2 u2 => ?_
  have u2' := (u1.trans (Up.rd m1 b)).trans u2
  have w2 := u2'.wf hw
  have e2 : m2.at b = some ⟨elL k a s p, 1, false, false⟩ := u2.at (by simpa using e1) ((u1.trans (Up.rd m1 b)).wf hw)
  have n2 : b < m2.next := w2 b _ e2
  clear u2
  simp [hn, -code_seq]
  refine (code_seq _ _ _ _ _).2 ?_
  simp [hn, -code_seq]
  refine (code_seq _ _ _ _ _).2 ((code_seq _ _ _ _ _).2 ?_)
  simp [hn, hz0, run_ereals, hz, -code_seq]
  refine (code_seq _ _ _ _ _).2 ?_
  obtain ⟨kk, hkk⟩ : ∃ kk, kk = m2.next := ⟨_, rfl⟩
  refine code_draw_cls [1, 2, 0, 0, 1, 0, 0, 0] kk (ms := [0, 1, 0, 0, 8, 31, 63, 127]) (by kernel_rfl) rfl (by kernel_rfl) (by kernel_rfl) fun ops => ?_
  simp [drawKQ, hn, hz0, e2, show b < kk by omega, -code_seq]
  refine eof_ok _ hk fun m3 u3 l3 => ?_
  have u3' : Up m2 m3 := Up.trans (Up.same (by simp) fun c => by simp) u3
  have e3 : m3.at b = some ⟨elL k a s p, 1, false, false⟩ := u3'.at e2 w2
  have l3' : okL kk 2 m3.log := fun x hx => by rw [l3 rfl x hx, hkk]; simp
  simp [drawKQ, hn, hz0, e3, run_sub, l3', show b < kk by omega, -code_seq]
  obtain ⟨m4, hm4⟩ : ∃ m4, m4 = m3.lg m3.log := ⟨_, rfl⟩
  obtain ⟨l4, hl4⟩ : ∃ l4, l4 = m2.log := ⟨_, rfl⟩
  refine (code_seq _ _ _ _ _).2 (Gives.mono (Q := fun r m' => ∃ f, r = (.normal, f) ∧ f.n = 57 ∧ f.d = [] ∧ f.at 1 = cx z ∧ f.at 2 = .int .i64 1 ∧ f.at 9 = ifc k s n ∧ f.at 10 = cx (csub z a) ∧ Up m3 m') ?_ ?_)
  · cases hd0 : cnought (csub z a) with
    | false =>
      simp [hn, hd, hz0, hg0, run_enought, hd0]
      exact Up.lg _ _
    | true =>
      simp [hn, hd, hz0, hg0, run_enought, hd0]
      refine middle_ok _ hk (fun h => by rw [h3 h] at hd0; cases hd0) fun m5 u5 => ?_
      simp [hn, hd, hz0, hg0]
      exact Up.trans (Up.lg _ _) u5
  · rintro _ m5 ⟨f, rfl, f1, f2, f3, f4, f5, f6, u5⟩
    have u5' : Up m m5 := u2'.trans (u3'.trans u5)
    clear u3' u5 u3 l3 l3'
    rcases hk.kind with rfl | rfl | rfl
    · have es : spd 1 s (csub z a) n = s := by simp [spd]
      rw [es] at hf hQ
      simp [f1, f2, f3, f4, f5, f6, ifc]
      refine sspeed_ok _ fun m6 u6 => ?_
      simp [f1, f2, f3, f4, f5, f6, run_finite, hf]
      exact hQ _ (u5'.trans u6)
    · have es : spd 3 s (csub z a) n = cdiv (cscale s (iF (-(n : Int)))) (cwh (csub z a) (n + 1)) := by simp [spd]
      rw [es] at hf hQ
      simp [f1, f2, f3, f4, f5, f6, ifc]
      refine dspeed_ok _ hk.n1 fun m6 u6 => ?_
      simp [f1, f2, f3, f4, f5, f6, run_finite, hf]
      exact hQ _ (u5'.trans u6)
    · have es : spd 4 s (csub z a) n = cmul (cscale s (iF n)) (cwh (csub z a) (n - 1)) := by simp [spd]
      rw [es] at hf hQ
      simp [f1, f2, f3, f4, f5, f6, ifc]
      refine cspeed_ok _ hk.n4 fun m6 u6 => ?_
      simp [f1, f2, f3, f4, f5, f6, run_finite, hf]
      exact hQ _ (u5'.trans u6)
theorem espeed_ok (d : Nat) {m : Mem} {k : Int} {p n : Nat} {a s z : C} (hw : MW m) (hk : KP k p n) (ha : cwithin a lim = true) (hs : cwithin s lim = true) (hz : cwithin z lim = true) (h1 : k = 1 → cnought a = true) (h3 : k = 3 → cnought (csub z a) = false)
    (hf : cfin (spd k s (csub z a) n) = true) {Q : Value → Mem → Prop} (hQ : ∀ m', Up m m' → Q (.tuple ⟨[cx (spd k s (csub z a) n), .int .i64 0]⟩) m') :
    Gives (callN Tryz.prog known (d + 7) 10 [elV k a s p, cx z]) m Q := by
  refine gives_fn (nt := 11) rfl Tryz.func10 rfl rfl rfl (Nat.le_of_ble_eq_true rfl) fun fr hn hd hargs => ?_
  have h0 : fr.at 0 = _ := hargs 0 _ rfl
  have hz0 : fr.at 1 = _ := hargs 1 _ rfl
  clear hargs
  obtain ⟨m1, hm1⟩ : ∃ m1, m1 = m.nw ⟨elL k a s p, 1, false, false⟩ := ⟨_, rfl⟩
  have u1 : Up m m1 := by rw [hm1]; exact Up.nw _ _
  have e1 : m1.at m.next = some ⟨elL k a s p, 1, false, false⟩ := by rw [hm1]; simp
  refine (code_seq _ _ _ _ _).2 ?_
  simp [h0, hn, -code_seq]
  rw [← hm1]
  simp [hn, hd, hz0, e1]
  refine evalue_ok _ ((u1.trans (Up.rd _ _)).wf hw) hk ha hs hz h1 h3 hf fun m2 u2 => ?_
  simp [hn, hd]
  exact hQ _ ((u1.trans (Up.rd _ _)).trans u2)
end
end Go.Proofs.YtigbkoadojjajaaGreat

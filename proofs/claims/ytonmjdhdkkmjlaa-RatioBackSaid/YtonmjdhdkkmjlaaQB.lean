/- Polynomials in the clean executor: what touches no memory. -/
import Derived.Test.YtonmjdhdkkmjlaaQA
namespace Go.Proofs.Ytonmjdhdkkmjlaa
open Go.Clean

theorem fv_def (x : F) : fv x = .float .f64 (cOf x) := rfl
theorem fv_lim : Value.float .f64 4787326403894837248 = fv lim := by unfold fv; rw [cOf_lim]
theorem fv_zero : Value.float .f64 0 = fv (some 0) := by unfold fv; rw [cOf_zero]
theorem fv_big : Value.float .f64 9218868437227405311 = fv fbig := by unfold fv; rw [cOf_big]
@[simp] theorem real_cx (z : C) : realX (cx z) = some (fv z.1) := by cases z; rfl
@[simp] theorem imag_cx (z : C) : imagX (cx z) = some (fv z.2) := by cases z; rfl
@[simp] theorem comp_fv (x y : F) : compX (fv x) (fv y) = some (cx (x, y)) := by cases x <;> rfl
@[simp] theorem plain_fv (x : F) : plainV (fv x) = true := by cases x <;> rfl
@[simp] theorem plain_cx (x : C) : plainV (cx x) = true := by cases x; rfl
@[simp] theorem one_cx (x : C) : oneV (cx x) = true := by cases x; rfl
@[simp] theorem cells_cx (x : C) : cellsV (cx x) = [cx x] := by cases x; rfl
theorem bin_z {P : Program} {t : TypeId} {xo yo : Operand} (x : F) : binX P .eql t xo yo (.float .f64 (cOf x)) (.float .f64 0) = some (.bool (feq x (some 0))) := by
  have := bin_feq (P := P) (t := t) (xo := xo) (yo := yo) x (some 0)
  rwa [cOf_zero] at this
theorem bin_big {P : Program} {t : TypeId} {xo yo : Operand} (x : F) : binX P .leq t xo yo (.float .f64 (cOf x)) (.float .f64 9218868437227405311) = some (.bool (fle x fbig)) := by
  have := bin_fle (P := P) (t := t) (xo := xo) (yo := yo) x fbig
  rwa [cOf_big] at this
set_option maxRecDepth 10000 in
theorem run_add (n : Nat) (x y : C) (m : Mem) (Q : Value → Mem → Prop) : Gives (callN Try.prog known (n + 1) 15 [cx x, cx y]) m Q ↔ Q (cx (cadd x y)) m := by
  refine gives_pure (fun m => ?_) m Q
  refine gives_fn (nt := 16) rfl Try.func15 rfl rfl rfl (Nat.le_of_ble_eq_true rfl) fun fr hn hd hargs => ?_
  have h0 : fr.at 0 = _ := hargs 0 _ rfl
  have h1 : fr.at 1 = _ := hargs 1 _ rfl
  clear hargs
  simp [h0, h1, hn, hd, cx, cadd]
set_option maxRecDepth 10000 in
theorem run_mul (n : Nat) (x y : C) (m : Mem) (Q : Value → Mem → Prop) : Gives (callN Try.prog known (n + 1) 16 [cx x, cx y]) m Q ↔ Q (cx (cmul x y)) m := by
  refine gives_pure (fun m => ?_) m Q
  refine gives_fn (nt := 32) rfl Try.func16 rfl rfl rfl (Nat.le_of_ble_eq_true rfl) fun fr hn hd hargs => ?_
  have h0 : fr.at 0 = _ := hargs 0 _ rfl
  have h1 : fr.at 1 = _ := hargs 1 _ rfl
  clear hargs
  simp [h0, h1, hn, hd, cx, cmul]
set_option maxRecDepth 10000 in
theorem run_sub (n : Nat) (x y : C) (m : Mem) (Q : Value → Mem → Prop) : Gives (callN Try.prog known (n + 1) 51 [cx x, cx y]) m Q ↔ Q (cx (csub x y)) m := by
  refine gives_pure (fun m => ?_) m Q
  refine gives_fn (nt := 16) rfl Try.func51 rfl rfl rfl (Nat.le_of_ble_eq_true rfl) fun fr hn hd hargs => ?_
  have h0 : fr.at 0 = _ := hargs 0 _ rfl
  have h1 : fr.at 1 = _ := hargs 1 _ rfl
  clear hargs
  simp [h0, h1, hn, hd, cx, csub]
set_option maxRecDepth 10000 in
theorem run_neg (n : Nat) (x : C) (m : Mem) (Q : Value → Mem → Prop) : Gives (callN Try.prog known (n + 1) 53 [cx x]) m Q ↔ Q (cx (cneg x)) m := by
  refine gives_pure (fun m => ?_) m Q
  refine gives_fn (nt := 10) rfl Try.func53 rfl rfl rfl (Nat.le_of_ble_eq_true rfl) fun fr hn hd hargs => ?_
  have h0 : fr.at 0 = _ := hargs 0 _ rfl
  clear hargs
  simp [h0, hn, hd, cx, cneg]
set_option maxRecDepth 10000 in
theorem run_div (n : Nat) (x y : C) (m : Mem) (Q : Value → Mem → Prop) : Gives (callN Try.prog known (n + 2) 33 [cx x, cx y]) m Q ↔ Q (cx (cdiv x y)) m := by
  refine gives_pure (fun m => ?_) m Q
  refine gives_fn (nt := 72) rfl Try.func33 rfl rfl rfl (Nat.le_of_ble_eq_true rfl) fun fr hn hd hargs => ?_
  have h0 : fr.at 0 = _ := hargs 0 _ rfl
  have h1 : fr.at 1 = _ := hargs 1 _ rfl
  clear hargs
  cases hg : fge (fabs y.1) (fabs y.2) <;>
  simp [h0, h1, hn, hd, cx, cdiv, run_abs, hg]
set_option maxRecDepth 10000 in
theorem run_fwithin (n : Nat) (x y : F) (m : Mem) (Q : Value → Mem → Prop) : Gives (callN Try.prog known (n + 2) 91 [fv x, fv y]) m Q ↔ Q (.bool (fle (fabs x) y)) m := by
  refine gives_pure (fun m => ?_) m Q
  refine gives_fn (nt := 9) rfl Try.func91 rfl rfl rfl (Nat.le_of_ble_eq_true rfl) fun fr hn hd hargs => ?_
  have h0 : fr.at 0 = _ := hargs 0 _ rfl
  have h1 : fr.at 1 = _ := hargs 1 _ rfl
  clear hargs
  simp [h0, h1, hn, hd, fv, run_abs]
set_option maxRecDepth 10000 in
theorem run_within (n : Nat) (x : C) (y : F) (m : Mem) (Q : Value → Mem → Prop) : Gives (callN Try.prog known (n + 3) 81 [cx x, fv y]) m Q ↔ Q (.bool (cwithin x y)) m := by
  refine gives_pure (fun m => ?_) m Q
  refine gives_fn (nt := 15) rfl Try.func81 rfl rfl rfl (Nat.le_of_ble_eq_true rfl) fun fr hn hd hargs => ?_
  have h0 : fr.at 0 = _ := hargs 0 _ rfl
  have h1 : fr.at 1 = _ := hargs 1 _ rfl
  clear hargs
  cases hg : fle (fabs x.1) y <;>
  simp [h0, h1, hn, hd, cwithin, hg, yieldX, ← fv_def, run_fwithin]
set_option maxRecDepth 10000 in
theorem run_place (n : Nat) (x : C) (m : Mem) (Q : Value → Mem → Prop) : Gives (callN Try.prog known (n + 4) 52 [cx x]) m Q ↔ Q (.bool (cwithin x lim)) m := by
  refine gives_pure (fun m => ?_) m Q
  refine gives_fn (nt := 5) rfl Try.func52 rfl rfl rfl (Nat.le_of_ble_eq_true rfl) fun fr hn hd hargs => ?_
  have h0 : fr.at 0 = _ := hargs 0 _ rfl
  clear hargs
  simp [h0, hn, hd, fv_lim, run_within]
set_option maxRecDepth 10000 in
theorem run_nought (n : Nat) (x : C) (m : Mem) (Q : Value → Mem → Prop) : Gives (callN Try.prog known (n + 1) 74 [cx x]) m Q ↔ Q (.bool (cnought x)) m := by
  refine gives_pure (fun m => ?_) m Q
  refine gives_fn (nt := 11) rfl Try.func74 rfl rfl rfl (Nat.le_of_ble_eq_true rfl) fun fr hn hd hargs => ?_
  have h0 : fr.at 0 = _ := hargs 0 _ rfl
  clear hargs
  cases hg : feq x.1 (some 0) <;>
  simp [h0, hn, hd, cx, cnought, hg, yieldX, bin_z]
set_option maxRecDepth 10000 in
theorem run_ffinite (n : Nat) (x : F) (m : Mem) (Q : Value → Mem → Prop) : Gives (callN Try.prog known (n + 2) 76 [fv x]) m Q ↔ Q (.bool (ffin x)) m := by
  refine gives_pure (fun m => ?_) m Q
  refine gives_fn (nt := 6) rfl Try.func76 rfl rfl rfl (Nat.le_of_ble_eq_true rfl) fun fr hn hd hargs => ?_
  have h0 : fr.at 0 = _ := hargs 0 _ rfl
  clear hargs
  simp [h0, hn, hd, fv, run_abs, bin_big, ffin]
set_option maxRecDepth 10000 in
theorem run_finite (n : Nat) (x : C) (m : Mem) (Q : Value → Mem → Prop) : Gives (callN Try.prog known (n + 3) 73 [cx x]) m Q ↔ Q (.bool (cfin x)) m := by
  refine gives_pure (fun m => ?_) m Q
  refine gives_fn (nt := 11) rfl Try.func73 rfl rfl rfl (Nat.le_of_ble_eq_true rfl) fun fr hn hd hargs => ?_
  have h0 : fr.at 0 = _ := hargs 0 _ rfl
  clear hargs
  cases hg : ffin x.1 <;>
  simp [h0, hn, hd, cfin, hg, yieldX, ← fv_def, run_ffinite]
set_option maxRecDepth 10000 in
theorem run_of2 (n : Nat) (x y : F) (m : Mem) (Q : Value → Mem → Prop) : Gives (callN Try.prog known (n + 1) 43 [fv x, fv y]) m Q ↔ Q (cx (x, y)) m := by
  refine gives_pure (fun m => ?_) m Q
  refine gives_fn (nt := 8) rfl Try.func43 rfl rfl rfl (Nat.le_of_ble_eq_true rfl) fun fr hn hd hargs => ?_
  have h0 : fr.at 0 = _ := hargs 0 _ rfl
  have h1 : fr.at 1 = _ := hargs 1 _ rfl
  clear hargs
  simp [h0, h1, hn, hd, fv, cx]
set_option maxRecDepth 10000 in
theorem run_of8 (n : Nat) (x y : F) (m : Mem) (Q : Value → Mem → Prop) : Gives (callN Try.prog known (n + 2) 8 [fv x, fv y]) m Q ↔ Q (cx (x, y)) m := by
  refine gives_pure (fun m => ?_) m Q
  refine gives_fn (nt := 8) rfl Try.func8 rfl rfl rfl (Nat.le_of_ble_eq_true rfl) fun fr hn hd hargs => ?_
  have h0 : fr.at 0 = _ := hargs 0 _ rfl
  have h1 : fr.at 1 = _ := hargs 1 _ rfl
  clear hargs
  simp [h0, h1, hn, hd, run_of2]
end Go.Proofs.Ytonmjdhdkkmjlaa

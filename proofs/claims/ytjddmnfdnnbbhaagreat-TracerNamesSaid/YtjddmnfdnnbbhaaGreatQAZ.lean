/- Polynomials in the clean executor: types, floats without a NaN's bits, complex numbers, lists in memory. -/
import Derived.Test.YtjddmnfdnnbbhaaGreatDiZ
import Derived.Test.YtjddmnfdnnbbhaaGreatKXZ
import Derived.Test.YtjddmnfdnnbbhaaGreatPKZ
set_option linter.unusedSimpArgs false
set_option linter.unusedVariables false
namespace Go.Proofs.YtjddmnfdnnbbhaaGreat
open Go.Clean

/-! ### Simp goes no deeper than it must -/
section
variable {P : Program} {call : Caller} {m : Mem}
@[congr] theorem optQ_congr {α : Type} {o o' : Option α} {k : α → Prop} (h : o = o') : optQ o k = optQ o' k := by rw [h]
@[congr] theorem pickQ_congr {o o' a a' b b' : Option Value} {k : Value → Prop} (h : o = o') (ha : a = a') (hb : b = b') : pickQ o a b k = pickQ o' a' b' k := by rw [h, ha, hb]
@[congr] theorem gives_congr {α : Type} {f : M α} {Q : α → Mem → Prop} : Gives f m Q = Gives f m Q := rfl
@[congr] theorem condQ_congr {o o' : Option Value} {a b : Code} {fr : Fr} {Q : CQ} (h : o = o') : condQ P call o a b fr m Q = condQ P call o' a b fr m Q := by rw [h]
end
def sL : Code → Code
  | .seq a _ => a
  | c => c
def sR : Code → Code
  | .seq _ b => b
  | c => c
def inB : Code → Code
  | .block _ c => c
  | .loop c => c
  | c => c
def bodyOf (fn : Func) : Code := fn.body.getD .skip
theorem via {P : Program} {call : Caller} {L X : Code} (h : L = X) {fr : Fr} {m : Mem} {Q : CQ} (g : Gives (codeX P call X fr) m Q) : Gives (codeX P call L fr) m Q := h ▸ g
/-- A loop, with what holds behind it. -/
theorem code_loop_post {P : Program} {call : Caller} {c : Code} {fr : Fr} {m : Mem} {Q : CQ} (R : CQ) (I : Nat → Fr → Mem → Prop) (k : Nat) (hk : k < 4000000) (h0 : I k fr m) (hstep : ∀ k fr m, I k fr m → Gives (codeX P call c fr) m (loopQ I k R)) (hR : ∀ r m', R r m' → Q r m') : Gives (codeX P call (.loop c) fr) m Q :=
  (code_loop I k hk h0 hstep).mono hR
/-! ### Types -/
section
@[simp] theorem agg_i : Clean.isAgg Tryz.prog 3 = some false := by kernel_rfl
@[simp] theorem size_i : sizeT Tryz.prog 3 = some 1 := by kernel_rfl
@[simp] theorem ld_i (cs : List Value) (o : Nat) : ldX Tryz.prog 3 cs o = cs[o]? := ld_one agg_i cs o
@[simp] theorem sto_i (v : Value) : storeOK Tryz.prog 3 v = (1 == (cellsV v).length && (cellsV v).all oneV) := by unfold storeOK; rw [size_i]; rfl
@[simp] theorem elt_i : elemT Tryz.prog 3 = 1 := by kernel_rfl
@[simp] theorem agg_b : Clean.isAgg Tryz.prog 4 = some false := by kernel_rfl
@[simp] theorem size_b : sizeT Tryz.prog 4 = some 1 := by kernel_rfl
@[simp] theorem ld_b (cs : List Value) (o : Nat) : ldX Tryz.prog 4 cs o = cs[o]? := ld_one agg_b cs o
@[simp] theorem sto_b (v : Value) : storeOK Tryz.prog 4 v = (1 == (cellsV v).length && (cellsV v).all oneV) := by unfold storeOK; rw [size_b]; rfl
@[simp] theorem elt_b : elemT Tryz.prog 4 = 1 := by kernel_rfl
@[simp] theorem agg_f : Clean.isAgg Tryz.prog 26 = some false := by kernel_rfl
@[simp] theorem size_f : sizeT Tryz.prog 26 = some 1 := by kernel_rfl
@[simp] theorem ld_f (cs : List Value) (o : Nat) : ldX Tryz.prog 26 cs o = cs[o]? := ld_one agg_f cs o
@[simp] theorem sto_f (v : Value) : storeOK Tryz.prog 26 v = (1 == (cellsV v).length && (cellsV v).all oneV) := by unfold storeOK; rw [size_f]; rfl
@[simp] theorem elt_f : elemT Tryz.prog 26 = 1 := by kernel_rfl
@[simp] theorem agg_c : Clean.isAgg Tryz.prog 27 = some false := by kernel_rfl
@[simp] theorem size_c : sizeT Tryz.prog 27 = some 1 := by kernel_rfl
@[simp] theorem ld_c (cs : List Value) (o : Nat) : ldX Tryz.prog 27 cs o = cs[o]? := ld_one agg_c cs o
@[simp] theorem sto_c (v : Value) : storeOK Tryz.prog 27 v = (1 == (cellsV v).length && (cellsV v).all oneV) := by unfold storeOK; rw [size_c]; rfl
@[simp] theorem elt_c : elemT Tryz.prog 27 = 1 := by kernel_rfl
@[simp] theorem agg_L : Clean.isAgg Tryz.prog 97 = some false := by kernel_rfl
@[simp] theorem size_L : sizeT Tryz.prog 97 = some 1 := by kernel_rfl
@[simp] theorem ld_L (cs : List Value) (o : Nat) : ldX Tryz.prog 97 cs o = cs[o]? := ld_one agg_L cs o
@[simp] theorem sto_L (v : Value) : storeOK Tryz.prog 97 v = (1 == (cellsV v).length && (cellsV v).all oneV) := by unfold storeOK; rw [size_L]; rfl
@[simp] theorem elt_L : elemT Tryz.prog 97 = 1 := by kernel_rfl
@[simp] theorem agg_U : Clean.isAgg Tryz.prog 54 = some false := by kernel_rfl
@[simp] theorem size_U : sizeT Tryz.prog 54 = some 1 := by kernel_rfl
@[simp] theorem ld_U (cs : List Value) (o : Nat) : ldX Tryz.prog 54 cs o = cs[o]? := ld_one agg_U cs o
@[simp] theorem sto_U (v : Value) : storeOK Tryz.prog 54 v = (1 == (cellsV v).length && (cellsV v).all oneV) := by unfold storeOK; rw [size_U]; rfl
@[simp] theorem elt_U : elemT Tryz.prog 54 = 1 := by kernel_rfl
@[simp] theorem zero_c : zeroT Tryz.prog 27 = some (.complex .f64 0 0) := (by kernel_rfl : zeroT Tryz.prog 27 = some (.complex .f64 0 0)).trans rfl
@[simp] theorem zero_L : zeroT Tryz.prog 97 = some (.slice none 0 0) := (by kernel_rfl : zeroT Tryz.prog 97 = some (.slice none 0 0)).trans rfl
@[simp] theorem zero_i : zeroT Tryz.prog 3 = some (.int .i64 0) := (by kernel_rfl : zeroT Tryz.prog 3 = some (.int .i64 0)).trans rfl
@[simp] theorem zero_b : zeroT Tryz.prog 4 = some (.bool false) := (by kernel_rfl : zeroT Tryz.prog 4 = some (.bool false)).trans rfl
theorem under_L : Tryz.prog.underlying 97 = some (.slice 27) := by kernel_rfl
theorem len_slice {P : Program} {t e : TypeId} (h : P.underlying t = some (.slice e)) (a : Option Addr) (n c : Nat) : lenX P t (.slice a n c) = some (.int .i64 n) := by unfold lenX; rw [h]
@[simp] theorem len_L (a : Option Addr) (n c : Nat) : lenX Tryz.prog 97 (.slice a n c) = some (.int .i64 n) := len_slice under_L a n c
theorem index_slice {P : Program} {t e : TypeId} (h : P.underlying t = some (.slice e)) (hs : sizeT P e = some 1) (b o n c k : Nat) (q : IntKind) (hk : k < n) : indexAddrX P t (.slice (some ⟨b, o, none⟩) n c) (.int q (k : Int)) = some (.pointer (some ⟨b, o + k, none⟩)) := by
  unfold indexAddrX
  simp only [h, hs]
  have : decide (0 ≤ (k : Int) ∧ (k : Int) < (n : Int)) = true := by simp; omega
  rw [this]
  simp
theorem idx_L (b o n c k : Nat) (q : IntKind) (hk : k < n) : indexAddrX Tryz.prog 97 (.slice (some ⟨b, o, none⟩) n c) (.int q (k : Int)) = some (.pointer (some ⟨b, o + k, none⟩)) := index_slice under_L size_c b o n c k q hk
end

/-! ### Whole numbers, truth -/
section
variable {P : Program} {t : TypeId} {x y : Operand} {q : IntKind} {a b : Int}
@[simp] theorem bin_lss : binX P .lss t x y (.int q a) (.int q b) = some (.bool (decide (a < b))) := by simp [binX, intX]
@[simp] theorem bin_leq : binX P .leq t x y (.int q a) (.int q b) = some (.bool (decide (a ≤ b))) := by simp [binX, intX]
@[simp] theorem bin_gtr : binX P .gtr t x y (.int q a) (.int q b) = some (.bool (decide (a > b))) := by simp [binX, intX]
@[simp] theorem bin_geq : binX P .geq t x y (.int q a) (.int q b) = some (.bool (decide (a ≥ b))) := by simp [binX, intX]
@[simp] theorem bin_eql : binX P .eql t x y (.int q a) (.int q b) = some (.bool (decide (a = b))) := by simp [binX, intX]
@[simp] theorem bin_neq : binX P .neq t x y (.int q a) (.int q b) = some (.bool (!decide (a = b))) := by simp [binX, intX]
@[simp] theorem bin_add : binX P .add t x y (.int q a) (.int q b) = some (.int q (q.wrap (a + b))) := by simp [binX, intX]
@[simp] theorem bin_sub : binX P .sub t x y (.int q a) (.int q b) = some (.int q (q.wrap (a - b))) := by simp [binX, intX]
@[simp] theorem un_not (p : Bool) : unX P .not (.bool p) = some (.bool !p) := by cases p <;> rfl
theorem wrap_add (k j : Nat) (h : k + j < 4611686018427387904) : IntKind.i64.wrap ((k : Int) + (j : Int)) = ((k + j : Nat) : Int) := by
  have e1 : (2 : Int) ^ 64 = 18446744073709551616 := by decide
  have e2 : (2 : Int) ^ 63 = 9223372036854775808 := by decide
  simp only [IntKind.wrap]
  simp [IntKind.bits, IntKind.signed, e1, e2]
  omega
theorem wrap_succ (k : Nat) (h : k < 4611686018427387903) : IntKind.i64.wrap ((k : Int) + 1) = ((k + 1 : Nat) : Int) := wrap_add k 1 (by omega)
@[simp] theorem plain_int (k : IntKind) (n : Int) : plainV (.int k n) = true := by cases n <;> rfl
@[simp] theorem plain_bool (p : Bool) : plainV (.bool p) = true := by cases p <;> rfl
@[simp] theorem plain_float (k : FloatKind) (n : Nat) : plainV (.float k n) = true := by cases k <;> rfl
theorem plain_nf' (v : Value) (h : v = .nilFunc) : plainV v = true := by subst h; rfl
@[simp] theorem plain_nf : plainV .nilFunc = true := plain_nf' _ (by simp)
theorem plain_slice (n : Nat) (h : n = 0) : plainV (.slice none n n) = true := by subst h; rfl
@[simp] theorem plain_nil : plainV (.slice none 0 0) = true := plain_slice 0 (by decide)
end

/-! ### Floats -/
def cOf : F → Nat
  | none => noNum
  | some b => canon b
theorem canon_no {b : Nat} (h : isNo b = true) : canon b = noNum := by unfold canon; rw [show Clean.isNaN b = true from h]; rfl
theorem canon_yes {b : Nat} (h : isNo b = false) : canon b = b := by unfold canon; rw [show Clean.isNaN b = false from h]; rfl
theorem fl_noNum : fl noNum = none := by decide
theorem fl_canon (b : Nat) : fl (canon b) = fl b := by
  cases h : isNo b
  · rw [canon_yes h]
  · rw [canon_no h, fl_noNum, fl_no h]
/-- A float by what it stands for. -/
theorem cOf_fl (b : Nat) : cOf (fl b) = canon b := by
  cases h : isNo b
  · rw [fl_yes h]; rfl
  · rw [fl_no h, canon_no h]; rfl
def clr (x : F) : F := fl (cOf x)
theorem clr_some (b : Nat) : clr (some b) = fl b := fl_canon b
theorem clr_none : clr none = none := fl_noNum
theorem f2_clr {op : Nat → Nat → Option Nat} (hl : ∀ a b, isNo a = true → op a b = none) (hr : ∀ a b, isNo b = true → op a b = none) (x y : F) : f2 op (clr x) (clr y) = f2 op x y := by
  cases x with
  | none => rw [clr_none]; rfl
  | some a =>
    cases y with
    | none => rw [clr_none]; unfold f2; cases clr (some a) <;> rfl
    | some b =>
      rw [clr_some, clr_some]
      cases ha : isNo a
      · cases hb : isNo b
        · rw [fl_yes ha, fl_yes hb]
        · rw [fl_yes ha, fl_no hb]; exact (hr a b hb).symm
      · rw [fl_no ha]; exact (hl a b ha).symm
theorem bits2 (op : BinOp) (x y : F) (hop : op = .add ∨ op = .sub ∨ op = .mul ∨ op = .quo) : (match floatX op (cOf x) (cOf y) with
    | some r => r
    | none => noNum) = cOf (fop op x y) := by
  have h := fop_bits op (cOf x) (cOf y) hop
  have e : fop op (clr x) (clr y) = fop op x y := by
    rcases hop with rfl | rfl | rfl | rfl
    · exact f2_clr (fun a b h => by simp [Ieee.Format.add, sum_nan_left (show (Ieee.double.read a).isNaN = true from h)]) (fun a b h => by simp [Ieee.Format.add, sum_nan_right (show (Ieee.double.read b).isNaN = true from h)]) x y
    · exact f2_clr (fun a b h => by simp [Ieee.Format.sub, sum_nan_left (show (Ieee.double.read a).isNaN = true from h)]) (fun a b h => by simp [Ieee.Format.sub, sum_nan_right (show (Ieee.double.read b).opposite.isNaN = true from opposite_nan.trans h)]) x y
    · exact f2_clr (fun a b h => by simp [Ieee.Format.mul, product_nan_left (show (Ieee.double.read a).isNaN = true from h)]) (fun a b h => by simp [Ieee.Format.mul, product_nan_right (show (Ieee.double.read b).isNaN = true from h)]) x y
    · exact f2_clr (fun a b h => by simp [Ieee.Format.div, quotient_nan_left (show (Ieee.double.read a).isNaN = true from h)]) (fun a b h => by simp [Ieee.Format.div, quotient_nan_right (show (Ieee.double.read b).isNaN = true from h)]) x y
  have e2 : floatX op (cOf x) (cOf y) = fop op x y := by
    rw [← e]
    refine Eq.trans ?_ h.1.symm
    rcases hop with rfl | rfl | rfl | rfl <;> rfl
  rw [e2]
  cases hr : fop op x y with
  | none => rfl
  | some r =>
    have h2 := h.2 r (by rw [← h.1]; show fop op (clr x) (clr y) = _; rw [e, hr])
    show r = canon r
    rw [← cOf_fl, h2]
    show r = canon r
    have : isNo r = false := by
      unfold fl at h2
      split at h2
      · cases h2
      · simpa using ‹¬ isNo r = true›
    exact (canon_yes this).symm
section
variable {P : Program} {t : TypeId} {xo yo : Operand} (x y : F)
theorem bin_f (op : BinOp) (ha : isArith op = true) (hop : op = .add ∨ op = .sub ∨ op = .mul ∨ op = .quo) : binX P op t xo yo (.float .f64 (cOf x)) (.float .f64 (cOf y)) = some (.float .f64 (cOf (fop op x y))) := by
  rw [← bits2 op x y hop]
  unfold binX
  simp only [ha, cond_true]
  cases floatX op (cOf x) (cOf y) <;> rfl
@[simp] theorem bin_fadd : binX P .add t xo yo (.float .f64 (cOf x)) (.float .f64 (cOf y)) = some (.float .f64 (cOf (fadd x y))) := bin_f x y .add rfl (.inl rfl)
@[simp] theorem bin_fsub : binX P .sub t xo yo (.float .f64 (cOf x)) (.float .f64 (cOf y)) = some (.float .f64 (cOf (fsub x y))) := bin_f x y .sub rfl (.inr (.inl rfl))
@[simp] theorem bin_fmul : binX P .mul t xo yo (.float .f64 (cOf x)) (.float .f64 (cOf y)) = some (.float .f64 (cOf (fmul x y))) := bin_f x y .mul rfl (.inr (.inr (.inl rfl)))
@[simp] theorem bin_fdiv : binX P .quo t xo yo (.float .f64 (cOf x)) (.float .f64 (cOf y)) = some (.float .f64 (cOf (fdiv x y))) := bin_f x y .quo rfl (.inr (.inr (.inr rfl)))
theorem fcmp_clr : fcmp (clr x) (clr y) = fcmp x y := by
  cases x with
  | none => rw [clr_none]; rfl
  | some a =>
    cases y with
    | none => rw [clr_none]; unfold fcmp; cases clr (some a) <;> rfl
    | some b => rw [clr_some, clr_some]; exact fcmp_bits a b
theorem order_c : Ieee.double.order (cOf x) (cOf y) = fcmp x y := by rw [← fcmp_bits]; exact fcmp_clr x y
theorem bin_fcmp (op : BinOp) (ha : isArith op = false) : binX P op t xo yo (.float .f64 (cOf x)) (.float .f64 (cOf y)) = (cmpX op (fcmp x y)).map .bool := by
  unfold binX
  simp only [ha, cond_false, order_c]
@[simp] theorem bin_fge : binX P .geq t xo yo (.float .f64 (cOf x)) (.float .f64 (cOf y)) = some (.bool (fge x y)) := bin_fcmp x y .geq rfl
@[simp] theorem bin_feq : binX P .eql t xo yo (.float .f64 (cOf x)) (.float .f64 (cOf y)) = some (.bool (feq x y)) := bin_fcmp x y .eql rfl
@[simp] theorem bin_fle : binX P .leq t xo yo (.float .f64 (cOf x)) (.float .f64 (cOf y)) = some (.bool (fle x y)) := bin_fcmp x y .leq rfl
end

theorem cOf_zero : cOf (some 0) = 0 := by decide
theorem cOf_lim : cOf lim = 4787326403894837248 := by decide
theorem cOf_big : cOf fbig = 9218868437227405311 := by decide
theorem canon_abs (x : F) : canon (absB (cOf x)) = cOf (fabs x) := by
  cases x with
  | none =>
    show canon (absB noNum) = noNum
    decide
  | some b =>
    show canon (absB (canon b)) = canon (b % 9223372036854775808)
    cases hb : isNo b
    · rw [canon_yes hb]; rfl
    · rw [canon_no hb]
      have : isNo (b % 9223372036854775808) = true := by
        have := isNaN_abs b
        unfold isNo
        exact this.trans hb
      rw [canon_no this]
      decide
theorem canon_neg (x : F) : canon (cOf x ^^^ 9223372036854775808) = cOf (fneg x) := by
  cases x with
  | none =>
    show canon (noNum ^^^ 9223372036854775808) = noNum
    decide
  | some b =>
    show canon (canon b ^^^ 9223372036854775808) = canon (b ^^^ 9223372036854775808)
    cases hb : isNo b
    · rw [canon_yes hb]
    · have hx : isNo (b ^^^ 9223372036854775808) = true := by
        have h1 : (b ^^^ 9223372036854775808) % 9223372036854775808 = b % 9223372036854775808 := xor_mod b
        have h2 := isNaN_abs b
        have h3 := isNaN_abs (b ^^^ 9223372036854775808)
        unfold absB at h2 h3
        rw [h1, h2] at h3
        unfold isNo
        exact h3.symm.trans hb
      rw [canon_no hb, canon_no hx]
      decide

/-! ### Complex numbers -/
def cx (z : C) : Value := .complex .f64 (cOf z.1) (cOf z.2)
def fv (x : F) : Value := .float .f64 (cOf x)
def realX : Value → Option Value
  | .complex k re _ => some (.float k re)
  | _ => none
def imagX : Value → Option Value
  | .complex k _ im => some (.float k im)
  | _ => none
def compX : Value → Value → Option Value
  | .float .f64 re, .float .f64 im => some (.complex .f64 re im)
  | _, _ => none
@[simp] theorem realX_c (k : FloatKind) (a b : Nat) : realX (.complex k a b) = some (.float k a) := by cases k <;> rfl
@[simp] theorem imagX_c (k : FloatKind) (a b : Nat) : imagX (.complex k a b) = some (.float k b) := by cases k <;> rfl
@[simp] theorem compX_c (a b : Nat) : compX (.float .f64 a) (.float .f64 b) = some (.complex .f64 a b) := by cases a <;> rfl
@[simp] theorem plain_complex (k : FloatKind) (a b : Nat) : plainV (.complex k a b) = true := by cases k <;> rfl
@[simp] theorem one_complex (k : FloatKind) (a b : Nat) : oneV (.complex k a b) = true := rfl
@[simp] theorem cells_bool (p : Bool) : cellsV (.bool p) = [.bool p] := by cases p <;> rfl
@[simp] theorem one_bool (p : Bool) : oneV (.bool p) = true := by cases p <;> rfl
@[simp] theorem cells_complex (k : FloatKind) (a b : Nat) : cellsV (.complex k a b) = [.complex k a b] := rfl
@[simp] theorem un_neg (P : Program) (x : F) : unX P .neg (.float .f64 (cOf x)) = some (.float .f64 (cOf (fneg x))) := by
  show some (Value.float .f64 (canon (cOf x ^^^ 9223372036854775808))) = _
  rw [canon_neg]
section
variable {P : Program} {call : Caller} {ops : Array Oper} {fr : Fr} {m : Mem} {Q : Fr → Mem → Prop} {ty t u : TypeId} {pos : String} {af : Array Edge} {d : Option Tmp}
@[simp] theorem step_real (x : Operand) : Gives (stepDX P call ops fr ⟨d, .call ⟨.builtin .real, #[x], #[t]⟩, ty, pos, af, none⟩) m Q ↔ optQ (ev fr x) fun v => optQ (realX v) fun r => putQ fr d Q r m := by
  rw [step_any rfl rfl]
  unfold opX callX
  simp only [evs_cons, evs_nil]
  cases ev fr x with
  | none => exact gives_fail _ _
  | some v => cases v <;> first | exact gives_fail _ _ | exact gives_ret _ _ _
@[simp] theorem step_imag (x : Operand) : Gives (stepDX P call ops fr ⟨d, .call ⟨.builtin .imag, #[x], #[t]⟩, ty, pos, af, none⟩) m Q ↔ optQ (ev fr x) fun v => optQ (imagX v) fun r => putQ fr d Q r m := by
  rw [step_any rfl rfl]
  unfold opX callX
  simp only [evs_cons, evs_nil]
  cases ev fr x with
  | none => exact gives_fail _ _
  | some v => cases v <;> first | exact gives_fail _ _ | exact gives_ret _ _ _
@[simp] theorem step_comp (x y : Operand) : Gives (stepDX P call ops fr ⟨d, .call ⟨.builtin .complex, #[x, y], #[t, u]⟩, ty, pos, af, none⟩) m Q ↔ optQ (ev fr x) fun v => optQ (ev fr y) fun w => optQ (compX v w) fun r => putQ fr d Q r m := by
  rw [step_any rfl rfl]
  unfold opX callX
  simp only [evs_cons, evs_nil]
  cases ev fr x with
  | none => exact gives_fail _ _
  | some v =>
    cases ev fr y with
    | none => exact gives_fail _ _
    | some w =>
      cases v with
      | float k a =>
        cases k with
        | f64 =>
          cases w with
          | float k b => cases k <;> first | exact gives_fail _ _ | exact gives_ret _ _ _
          | _ => exact gives_fail _ _
        | f32 => exact gives_fail _ _
      | _ => exact gives_fail _ _
end
/-- A call that touches no memory. -/
theorem gives_pure {f : M Value} {u : Value} (h : ∀ m, Gives f m fun v m' => v = u ∧ m' = m) (m : Mem) (Q : Value → Mem → Prop) : Gives f m Q ↔ Q u m := by
  obtain ⟨v, m', e, rfl, rfl⟩ := h m
  constructor
  · rintro ⟨v', m'', e', q⟩
    rw [e] at e'
    cases e'
    exact q
  · exact fun q => ⟨_, _, e, q⟩
theorem run_abs (x : F) (n : Nat) (m : Mem) (Q : Value → Mem → Prop) : Gives (callN Tryz.prog known (n + 1) 49 [.float .f64 (cOf x)]) m Q ↔ Q (.float .f64 (cOf (fabs x))) m := by
  rw [gives_known (g := absX [.float .f64 (cOf x)]) rfl]
  unfold absX
  rw [gives_ret, canon_abs]
end Go.Proofs.YtjddmnfdnnbbhaaGreat

/- Polynomials in the clean executor: what touches no memory. -/
namespace Go.Proofs.YtjddmnfdnnbbhaaGreat
open Go.Clean

theorem fv_def (x : F) : fv x = .float .f64 (cOf x) := rfl
theorem fv_lim : Value.float .f64 4787326403894837248 = fv lim := by unfold fv; rw [cOf_lim]
@[simp] theorem real_cx (z : C) : realX (cx z) = some (fv z.1) := by cases z; rfl
@[simp] theorem imag_cx (z : C) : imagX (cx z) = some (fv z.2) := by cases z; rfl
@[simp] theorem comp_fv (x y : F) : compX (fv x) (fv y) = some (cx (x, y)) := by cases x <;> rfl
@[simp] theorem plain_fv (x : F) : plainV (fv x) = true := by cases x <;> rfl
@[simp] theorem plain_cx (x : C) : plainV (cx x) = true := by cases x; rfl
@[simp] theorem one_cx (x : C) : oneV (cx x) = true := by cases x; rfl
@[simp] theorem cells_cx (x : C) : cellsV (cx x) = [cx x] := by cases x; rfl
theorem bin_z {P : Program} {t : TypeId} {xo yo : Operand} (x : F) : binX P .eql t xo yo (.float .f64 (cOf x)) (.float .f64 0) = some (.bool (feq x (some 0))) := by
  have := bin_feq (P := P) (t := t) (xo := xo) (yo := yo) x (some 0)
  rwa [cOf_zero] at this
theorem bin_big {P : Program} {t : TypeId} {xo yo : Operand} (x : F) : binX P .leq t xo yo (.float .f64 (cOf x)) (.float .f64 9218868437227405311) = some (.bool (fle x fbig)) := by
  have := bin_fle (P := P) (t := t) (xo := xo) (yo := yo) x fbig
  rwa [cOf_big] at this
set_option maxRecDepth 10000 in
theorem run_add (n : Nat) (x y : C) (m : Mem) (Q : Value → Mem → Prop) : Gives (callN Tryz.prog known (n + 1) 43 [cx x, cx y]) m Q ↔ Q (cx (cadd x y)) m := by
  refine gives_pure (fun m => ?_) m Q
  refine gives_fn (nt := 16) rfl Tryz.func43 rfl rfl rfl (Nat.le_of_ble_eq_true rfl) fun fr hn hd hargs => ?_
  have h0 : fr.at 0 = _ := hargs 0 _ rfl
  have h1 : fr.at 1 = _ := hargs 1 _ rfl
  clear hargs
  simp [h0, h1, hn, hd, cx, cadd]
set_option maxRecDepth 10000 in
theorem run_sub (n : Nat) (x y : C) (m : Mem) (Q : Value → Mem → Prop) : Gives (callN Tryz.prog known (n + 1) 82 [cx x, cx y]) m Q ↔ Q (cx (csub x y)) m := by
  refine gives_pure (fun m => ?_) m Q
  refine gives_fn (nt := 16) rfl Tryz.func82 rfl rfl rfl (Nat.le_of_ble_eq_true rfl) fun fr hn hd hargs => ?_
  have h0 : fr.at 0 = _ := hargs 0 _ rfl
  have h1 : fr.at 1 = _ := hargs 1 _ rfl
  clear hargs
  simp [h0, h1, hn, hd, cx, csub]
set_option maxRecDepth 10000 in
theorem run_fwithin (n : Nat) (x y : F) (m : Mem) (Q : Value → Mem → Prop) : Gives (callN Tryz.prog known (n + 2) 37 [fv x, fv y]) m Q ↔ Q (.bool (fle (fabs x) y)) m := by
  refine gives_pure (fun m => ?_) m Q
  refine gives_fn (nt := 9) rfl Tryz.func37 rfl rfl rfl (Nat.le_of_ble_eq_true rfl) fun fr hn hd hargs => ?_
  have h0 : fr.at 0 = _ := hargs 0 _ rfl
  have h1 : fr.at 1 = _ := hargs 1 _ rfl
  clear hargs
  simp [h0, h1, hn, hd, fv, run_abs]
set_option maxRecDepth 10000 in
theorem run_within (n : Nat) (x : C) (y : F) (m : Mem) (Q : Value → Mem → Prop) : Gives (callN Tryz.prog known (n + 3) 32 [cx x, fv y]) m Q ↔ Q (.bool (cwithin x y)) m := by
  refine gives_pure (fun m => ?_) m Q
  refine gives_fn (nt := 15) rfl Tryz.func32 rfl rfl rfl (Nat.le_of_ble_eq_true rfl) fun fr hn hd hargs => ?_
  have h0 : fr.at 0 = _ := hargs 0 _ rfl
  have h1 : fr.at 1 = _ := hargs 1 _ rfl
  clear hargs
  cases hg : fle (fabs x.1) y <;>
  simp [h0, h1, hn, hd, cwithin, hg, yieldX, ← fv_def, run_fwithin]
set_option maxRecDepth 10000 in
theorem run_ffinite (n : Nat) (x : F) (m : Mem) (Q : Value → Mem → Prop) : Gives (callN Tryz.prog known (n + 2) 45 [fv x]) m Q ↔ Q (.bool (ffin x)) m := by
  refine gives_pure (fun m => ?_) m Q
  refine gives_fn (nt := 6) rfl Tryz.func45 rfl rfl rfl (Nat.le_of_ble_eq_true rfl) fun fr hn hd hargs => ?_
  have h0 : fr.at 0 = _ := hargs 0 _ rfl
  clear hargs
  simp [h0, hn, hd, fv, run_abs, bin_big, ffin]
set_option maxRecDepth 10000 in
theorem run_finite (n : Nat) (x : C) (m : Mem) (Q : Value → Mem → Prop) : Gives (callN Tryz.prog known (n + 3) 34 [cx x]) m Q ↔ Q (.bool (cfin x)) m := by
  refine gives_pure (fun m => ?_) m Q
  refine gives_fn (nt := 11) rfl Tryz.func34 rfl rfl rfl (Nat.le_of_ble_eq_true rfl) fun fr hn hd hargs => ?_
  have h0 : fr.at 0 = _ := hargs 0 _ rfl
  clear hargs
  cases hg : ffin x.1 <;>
  simp [h0, hn, hd, cfin, hg, yieldX, ← fv_def, run_ffinite]
end Go.Proofs.YtjddmnfdnnbbhaaGreat

/- Polynomials in the clean executor: lists of whole complex numbers in memory; rules for rows. -/
namespace Go.Proofs.YtjddmnfdnnbbhaaGreat
open Go.Clean

/-! ### Memory that only grows -/
/-- No block lies beyond the next name. -/
def MW (m : Mem) : Prop := ∀ b x, m.at b = some x → b < m.next
structure Up (m m' : Mem) : Prop where
  next : m.next ≤ m'.next
  old : ∀ c, c < m.next → m'.at c = m.at c
  wf : MW m → MW m'
theorem Up.refl (m : Mem) : Up m m := ⟨Nat.le_refl _, fun _ _ => rfl, fun h => h⟩
theorem Up.trans {m m1 m2 : Mem} (h : Up m m1) (k : Up m1 m2) : Up m m2 := ⟨Nat.le_trans h.next k.next, fun c hc => (k.old c (Nat.lt_of_lt_of_le hc h.next)).trans (h.old c hc), fun w => k.wf (h.wf w)⟩
theorem Up.nw (m : Mem) (x : Blk) : Up m (m.nw x) := ⟨by simp, fun c hc => by simp only [Mem.at_nw]; rw [if_neg (by omega)], fun w c y hc => by
  simp only [Mem.at_nw, Mem.next_nw] at hc ⊢
  split at hc
  · omega
  · have := w c y hc; omega⟩
theorem Up.rd (m : Mem) (b : Nat) : Up m (m.rd b) := ⟨by simp, fun c _ => by simp, fun w c y hc => by simp at hc ⊢; exact w c y hc⟩
theorem Up.at {m m' : Mem} (h : Up m m') {b : Nat} {x : Blk} (hb : m.at b = some x) (hw : MW m) : m'.at b = some x := by rw [h.old b (hw b x hb)]; exact hb
theorem Up.same {m m' : Mem} (hn : m'.next = m.next) (e : ∀ c, m'.at c = m.at c) : Up m m' := ⟨by omega, fun c _ => e c, fun w c y hc => by rw [hn]; rw [e] at hc; exact w c y hc⟩
/-- A write to a block of one's own. -/
theorem Up.wr {m m1 m' : Mem} (h : Up m m1) {b : Nat} {x : Blk} (hb : m.next ≤ b) (hb2 : b < m1.next) (hn : m'.next = m1.next) (e : ∀ c, m'.at c = if c = b then some x else m1.at c) : Up m m' :=
  ⟨by rw [hn]; exact h.next, fun c hc => by rw [e, if_neg (by omega)]; exact h.old c hc, fun w c y hc => by
    rw [hn]
    rw [e] at hc
    split at hc
    · omega
    · exact h.wf w c y hc⟩
end Go.Proofs.YtjddmnfdnnbbhaaGreat

/- Polynomials in the clean executor: which ones may be. -/
namespace Go.Proofs.YtjddmnfdnnbbhaaGreat
open Go.Clean

def boolOf : Value → Option Bool
  | .bool b => some b
  | _ => none
theorem boolOf_bool (b : Bool) : boolOf (.bool b) = some b := by simp [boolOf]
theorem region_hid {P : Program} {call : Caller} {id : Nat} {ops : Array Oper} {fr : Fr} {m : Mem} {Q : CQ} (h : ∀ ops' : Array Oper, ops' = ops → Gives (stepsX P call ops' ops.toList fr) m (regQ Q)) : Gives (codeX P call (.region id ops false) fr) m Q := (code_region id ops fr m Q).2 (h ops rfl)
/-- Nothing has turned. -/
def Sm (m m' : Mem) : Prop := m'.next = m.next ∧ ∀ b, m'.at b = m.at b
theorem Sm.refl (m : Mem) : Sm m m := ⟨rfl, fun _ => rfl⟩
theorem Sm.trans {m m1 m2 : Mem} (h : Sm m m1) (k : Sm m1 m2) : Sm m m2 := ⟨k.1.trans h.1, fun b => (k.2 b).trans (h.2 b)⟩
theorem Sm.up {m m' : Mem} (h : Sm m m') : Up m m' := Up.same h.1 h.2
theorem Sm.rd (m : Mem) (b : Nat) : Sm m (m.rd b) := ⟨by simp, fun c => by simp⟩
theorem Sm.mw {m m' : Mem} (h : Sm m m') (w : MW m) : MW m' := h.up.wf w
end Go.Proofs.YtjddmnfdnnbbhaaGreat

/- Polynomials in the clean executor: products. -/
namespace Go.Proofs.YtjddmnfdnnbbhaaGreat
open Go.Clean

/-! ### make -/
def mkOK (P : Program) (t : TypeId) (v : Value) : Bool := match P.underlying t with
  | some (.slice e) => match P.info? e, zeroT P e with
    | some i, some z => i.size == 1 && (cellsV z).length == 1 && Nat.ble i.bytes 1024 && oneV v && (match cellsV z, v with
      | [.complex .f64 0 0], .complex .f64 0 0 => true
      | [.bool false], .bool false => true
      | _, _ => false)
    | _, _ => false
  | _ => false
theorem cx_zero : Value.complex .f64 0 0 = cx (some 0, some 0) := by unfold cx; rw [cOf_zero]
end Go.Proofs.YtjddmnfdnnbbhaaGreat

/- Plain: a sum of complex numbers, from the left. -/
namespace Go.Proofs.YtjddmnfdnnbbhaaGreat
/-- The sum of the first k numbers, from the left. -/
def sumW (w : Nat → C) : Nat → C
  | 0 => (some 0, some 0)
  | 1 => w 0
  | k + 2 => (fadd (sumW w (k + 1)).1 (w (k + 1)).1, fadd (sumW w (k + 1)).2 (w (k + 1)).2)
end Go.Proofs.YtjddmnfdnnbbhaaGreat

/- Flows in the clean executor: types, elements. -/
namespace Go.Proofs.YtjddmnfdnnbbhaaGreat
open Go.Clean

/-! ### Types -/
def nilL : Value := .slice none 0 0
section
@[simp] theorem one_slice (a : Option Addr) (n k : Nat) : oneV (.slice a n k) = true := by cases a <;> rfl
@[simp] theorem cells_slice (a : Option Addr) (n k : Nat) : cellsV (.slice a n k) = [.slice a n k] := by cases a <;> rfl
@[simp] theorem cells_int (q : IntKind) (n : Int) : cellsV (.int q n) = [.int q n] := by cases q <;> rfl
@[simp] theorem one_int (q : IntKind) (n : Int) : oneV (.int q n) = true := by cases q <;> rfl
@[simp] theorem cells_nilL : cellsV nilL = [nilL] := by unfold nilL; simp
@[simp] theorem one_nilL : oneV nilL = true := by unfold nilL; simp
@[simp] theorem agg_E : Clean.isAgg Tryz.prog 35 = some false := by kernel_rfl
@[simp] theorem size_E : sizeT Tryz.prog 35 = some 1 := by kernel_rfl
@[simp] theorem elt_E : elemT Tryz.prog 35 = 1 := by kernel_rfl
@[simp] theorem zero_E : zeroT Tryz.prog 35 = some (.int .i64 0) := (by kernel_rfl : zeroT Tryz.prog 35 = some (.int .i64 0)).trans rfl
@[simp] theorem ld_E (cs : List Value) (o : Nat) : ldX Tryz.prog 35 cs o = cs[o]? := ld_one agg_E cs o
@[simp] theorem sto_E (v : Value) : storeOK Tryz.prog 35 v = (1 == (cellsV v).length && (cellsV v).all oneV) := by unfold storeOK; rw [size_E]; rfl
@[simp] theorem cells_agg (l : List Value) : cellsV (.agg ⟨l⟩) = l := by cases l <;> rfl
end
/-! ### Elements -/
def elV (k : Int) (a s : C) (p : Nat) : Value := .agg ⟨[.int .u8 k, cx a, cx s, .float .f64 p]⟩
def elL (k : Int) (a s : C) (p : Nat) : List Value := [.int .u8 k, cx a, cx s, .float .f64 p]
section
@[simp] theorem cells_elV (k : Int) (a s : C) (p : Nat) : cellsV (elV k a s p) = elL k a s p := rfl
@[simp] theorem one_elL (k : Int) (a s : C) (p : Nat) : (elL k a s p).all oneV = true := rfl
@[simp] theorem agg_El : Clean.isAgg Tryz.prog 51 = some true := by kernel_rfl
@[simp] theorem size_El : sizeT Tryz.prog 51 = some 4 := by kernel_rfl
@[simp] theorem elt_El : elemT Tryz.prog 51 = 1 := by kernel_rfl
theorem zero_El : zeroT Tryz.prog 51 = some (.agg ⟨[.int .u8 0, .complex .f64 0 0, .complex .f64 0 0, .float .f64 0]⟩) := by kernel_rfl
@[simp] theorem ld_El (k : Int) (a s : C) (p : Nat) : ldX Tryz.prog 51 (elL k a s p) 0 = some (elV k a s p) := (ld_agg agg_El size_El (elL k a s p) 0).trans rfl
@[simp] theorem agg_u8 : Clean.isAgg Tryz.prog 5 = some false := by kernel_rfl
@[simp] theorem size_u8 : sizeT Tryz.prog 5 = some 1 := by kernel_rfl
@[simp] theorem ld_u8 (cs : List Value) (o : Nat) : ldX Tryz.prog 5 cs o = cs[o]? := ld_one agg_u8 cs o
@[simp] theorem el_0 (k : Int) (a s : C) (p : Nat) : (elL k a s p)[0]? = some (.int .u8 k) := rfl
@[simp] theorem el_1 (k : Int) (a s : C) (p : Nat) : (elL k a s p)[1]? = some (cx a) := rfl
@[simp] theorem el_2 (k : Int) (a s : C) (p : Nat) : (elL k a s p)[2]? = some (cx s) := rfl
@[simp] theorem el_3 (k : Int) (a s : C) (p : Nat) : (elL k a s p)[3]? = some (.float .f64 p) := rfl
@[simp] theorem fa_El0 (s : Nat) : fieldAddrX Tryz.prog 51 (.pointer (some ⟨s, 0, none⟩)) 0 = some (.pointer (some ⟨s, 0, none⟩)) := (by kernel_rfl : fieldAddrX Tryz.prog 51 (.pointer (some ⟨s, 0, none⟩)) 0 = some (.pointer (some ⟨s, 0, none⟩))).trans rfl
@[simp] theorem fa_El1 (s : Nat) : fieldAddrX Tryz.prog 51 (.pointer (some ⟨s, 0, none⟩)) 1 = some (.pointer (some ⟨s, 1, none⟩)) := (by kernel_rfl : fieldAddrX Tryz.prog 51 (.pointer (some ⟨s, 0, none⟩)) 1 = some (.pointer (some ⟨s, 1, none⟩))).trans rfl
@[simp] theorem fa_El2 (s : Nat) : fieldAddrX Tryz.prog 51 (.pointer (some ⟨s, 0, none⟩)) 2 = some (.pointer (some ⟨s, 2, none⟩)) := (by kernel_rfl : fieldAddrX Tryz.prog 51 (.pointer (some ⟨s, 0, none⟩)) 2 = some (.pointer (some ⟨s, 2, none⟩))).trans rfl
@[simp] theorem fa_El3 (s : Nat) : fieldAddrX Tryz.prog 51 (.pointer (some ⟨s, 0, none⟩)) 3 = some (.pointer (some ⟨s, 3, none⟩)) := (by kernel_rfl : fieldAddrX Tryz.prog 51 (.pointer (some ⟨s, 0, none⟩)) 3 = some (.pointer (some ⟨s, 3, none⟩))).trans rfl
end
end Go.Proofs.YtjddmnfdnnbbhaaGreat

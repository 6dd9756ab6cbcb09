/- Polynomials in the clean executor: types, floats without a NaN's bits, complex numbers, lists in memory. -/
import Derived.Test.YtigbkoadojjajaaGreatPoZ
import Derived.Test.YtigbkoadojjajaaGreatKXZ
import Derived.Test.YtigbkoadojjajaaGreatBZ
set_option linter.unusedSimpArgs false
set_option linter.unusedVariables false
namespace Go.Proofs.YtigbkoadojjajaaGreat
open Go.Clean

/-! ### Simp goes no deeper than it must -/
section
variable {P : Program} {call : Caller} {m : Mem}
@[congr] theorem optQ_congr {α : Type} {o o' : Option α} {k : α → Prop} (h : o = o') : optQ o k = optQ o' k := by rw [h]
@[congr] theorem pickQ_congr {o o' a a' b b' : Option Value} {k : Value → Prop} (h : o = o') (ha : a = a') (hb : b = b') : pickQ o a b k = pickQ o' a' b' k := by rw [h, ha, hb]
@[congr] theorem gives_congr {α : Type} {f : M α} {Q : α → Mem → Prop} : Gives f m Q = Gives f m Q := rfl
@[congr] theorem condQ_congr {o o' : Option Value} {a b : Code} {fr : Fr} {Q : CQ} (h : o = o') : condQ P call o a b fr m Q = condQ P call o' a b fr m Q := by rw [h]
end
def sL : Code → Code
  | .seq a _ => a
  | c => c
def sR : Code → Code
  | .seq _ b => b
  | c => c
def inB : Code → Code
  | .block _ c => c
  | .loop c => c
  | c => c
def bodyOf (fn : Func) : Code := fn.body.getD .skip
theorem via {P : Program} {call : Caller} {L X : Code} (h : L = X) {fr : Fr} {m : Mem} {Q : CQ} (g : Gives (codeX P call X fr) m Q) : Gives (codeX P call L fr) m Q := h ▸ g
/-- A loop, with what holds behind it. -/
theorem code_loop_post {P : Program} {call : Caller} {c : Code} {fr : Fr} {m : Mem} {Q : CQ} (R : CQ) (I : Nat → Fr → Mem → Prop) (k : Nat) (hk : k < 4000000) (h0 : I k fr m) (hstep : ∀ k fr m, I k fr m → Gives (codeX P call c fr) m (loopQ I k R)) (hR : ∀ r m', R r m' → Q r m') : Gives (codeX P call (.loop c) fr) m Q :=
  (code_loop I k hk h0 hstep).mono hR
/-! ### Types -/
section
@[simp] theorem agg_i : Clean.isAgg Tryz.prog 3 = some false := by kernel_rfl
@[simp] theorem size_i : sizeT Tryz.prog 3 = some 1 := by kernel_rfl
@[simp] theorem ld_i (cs : List Value) (o : Nat) : ldX Tryz.prog 3 cs o = cs[o]? := ld_one agg_i cs o
@[simp] theorem sto_i (v : Value) : storeOK Tryz.prog 3 v = (1 == (cellsV v).length && (cellsV v).all oneV) := by unfold storeOK; rw [size_i]; rfl
@[simp] theorem elt_i : elemT Tryz.prog 3 = 1 := by kernel_rfl
@[simp] theorem agg_b : Clean.isAgg Tryz.prog 4 = some false := by kernel_rfl
@[simp] theorem size_b : sizeT Tryz.prog 4 = some 1 := by kernel_rfl
@[simp] theorem ld_b (cs : List Value) (o : Nat) : ldX Tryz.prog 4 cs o = cs[o]? := ld_one agg_b cs o
@[simp] theorem sto_b (v : Value) : storeOK Tryz.prog 4 v = (1 == (cellsV v).length && (cellsV v).all oneV) := by unfold storeOK; rw [size_b]; rfl
@[simp] theorem elt_b : elemT Tryz.prog 4 = 1 := by kernel_rfl
@[simp] theorem agg_f : Clean.isAgg Tryz.prog 25 = some false := by kernel_rfl
@[simp] theorem size_f : sizeT Tryz.prog 25 = some 1 := by kernel_rfl
@[simp] theorem ld_f (cs : List Value) (o : Nat) : ldX Tryz.prog 25 cs o = cs[o]? := ld_one agg_f cs o
@[simp] theorem sto_f (v : Value) : storeOK Tryz.prog 25 v = (1 == (cellsV v).length && (cellsV v).all oneV) := by unfold storeOK; rw [size_f]; rfl
@[simp] theorem elt_f : elemT Tryz.prog 25 = 1 := by kernel_rfl
@[simp] theorem agg_c : Clean.isAgg Tryz.prog 24 = some false := by kernel_rfl
@[simp] theorem size_c : sizeT Tryz.prog 24 = some 1 := by kernel_rfl
@[simp] theorem ld_c (cs : List Value) (o : Nat) : ldX Tryz.prog 24 cs o = cs[o]? := ld_one agg_c cs o
@[simp] theorem sto_c (v : Value) : storeOK Tryz.prog 24 v = (1 == (cellsV v).length && (cellsV v).all oneV) := by unfold storeOK; rw [size_c]; rfl
@[simp] theorem elt_c : elemT Tryz.prog 24 = 1 := by kernel_rfl
@[simp] theorem agg_L : Clean.isAgg Tryz.prog 33 = some false := by kernel_rfl
@[simp] theorem size_L : sizeT Tryz.prog 33 = some 1 := by kernel_rfl
@[simp] theorem ld_L (cs : List Value) (o : Nat) : ldX Tryz.prog 33 cs o = cs[o]? := ld_one agg_L cs o
@[simp] theorem sto_L (v : Value) : storeOK Tryz.prog 33 v = (1 == (cellsV v).length && (cellsV v).all oneV) := by unfold storeOK; rw [size_L]; rfl
@[simp] theorem elt_L : elemT Tryz.prog 33 = 1 := by kernel_rfl
@[simp] theorem agg_I : Clean.isAgg Tryz.prog 22 = some false := by kernel_rfl
@[simp] theorem size_I : sizeT Tryz.prog 22 = some 1 := by kernel_rfl
@[simp] theorem ld_I (cs : List Value) (o : Nat) : ldX Tryz.prog 22 cs o = cs[o]? := ld_one agg_I cs o
@[simp] theorem sto_I (v : Value) : storeOK Tryz.prog 22 v = (1 == (cellsV v).length && (cellsV v).all oneV) := by unfold storeOK; rw [size_I]; rfl
@[simp] theorem elt_I : elemT Tryz.prog 22 = 1 := by kernel_rfl
@[simp] theorem agg_B : Clean.isAgg Tryz.prog 110 = some false := by kernel_rfl
@[simp] theorem size_B : sizeT Tryz.prog 110 = some 1 := by kernel_rfl
@[simp] theorem ld_B (cs : List Value) (o : Nat) : ldX Tryz.prog 110 cs o = cs[o]? := ld_one agg_B cs o
@[simp] theorem sto_B (v : Value) : storeOK Tryz.prog 110 v = (1 == (cellsV v).length && (cellsV v).all oneV) := by unfold storeOK; rw [size_B]; rfl
@[simp] theorem elt_B : elemT Tryz.prog 110 = 1 := by kernel_rfl
@[simp] theorem agg_U : Clean.isAgg Tryz.prog 77 = some false := by kernel_rfl
@[simp] theorem size_U : sizeT Tryz.prog 77 = some 1 := by kernel_rfl
@[simp] theorem ld_U (cs : List Value) (o : Nat) : ldX Tryz.prog 77 cs o = cs[o]? := ld_one agg_U cs o
@[simp] theorem sto_U (v : Value) : storeOK Tryz.prog 77 v = (1 == (cellsV v).length && (cellsV v).all oneV) := by unfold storeOK; rw [size_U]; rfl
@[simp] theorem elt_U : elemT Tryz.prog 77 = 1 := by kernel_rfl
@[simp] theorem zero_c : zeroT Tryz.prog 24 = some (.complex .f64 0 0) := (by kernel_rfl : zeroT Tryz.prog 24 = some (.complex .f64 0 0)).trans rfl
@[simp] theorem zero_L : zeroT Tryz.prog 33 = some (.slice none 0 0) := (by kernel_rfl : zeroT Tryz.prog 33 = some (.slice none 0 0)).trans rfl
@[simp] theorem zero_i : zeroT Tryz.prog 3 = some (.int .i64 0) := (by kernel_rfl : zeroT Tryz.prog 3 = some (.int .i64 0)).trans rfl
@[simp] theorem zero_b : zeroT Tryz.prog 4 = some (.bool false) := (by kernel_rfl : zeroT Tryz.prog 4 = some (.bool false)).trans rfl
theorem under_L : Tryz.prog.underlying 33 = some (.slice 24) := by kernel_rfl
theorem under_I : Tryz.prog.underlying 22 = some (.slice 3) := by kernel_rfl
theorem under_B : Tryz.prog.underlying 110 = some (.slice 4) := by kernel_rfl
theorem len_slice {P : Program} {t e : TypeId} (h : P.underlying t = some (.slice e)) (a : Option Addr) (n c : Nat) : lenX P t (.slice a n c) = some (.int .i64 n) := by unfold lenX; rw [h]
@[simp] theorem len_L (a : Option Addr) (n c : Nat) : lenX Tryz.prog 33 (.slice a n c) = some (.int .i64 n) := len_slice under_L a n c
@[simp] theorem len_I (a : Option Addr) (n c : Nat) : lenX Tryz.prog 22 (.slice a n c) = some (.int .i64 n) := len_slice under_I a n c
theorem index_slice {P : Program} {t e : TypeId} (h : P.underlying t = some (.slice e)) (hs : sizeT P e = some 1) (b o n c k : Nat) (q : IntKind) (hk : k < n) : indexAddrX P t (.slice (some ⟨b, o, none⟩) n c) (.int q (k : Int)) = some (.pointer (some ⟨b, o + k, none⟩)) := by
  unfold indexAddrX
  simp only [h, hs]
  have : decide (0 ≤ (k : Int) ∧ (k : Int) < (n : Int)) = true := by simp; omega
  rw [this]
  simp
theorem idx_L (b o n c k : Nat) (q : IntKind) (hk : k < n) : indexAddrX Tryz.prog 33 (.slice (some ⟨b, o, none⟩) n c) (.int q (k : Int)) = some (.pointer (some ⟨b, o + k, none⟩)) := index_slice under_L size_c b o n c k q hk
theorem idx_I (b o n c k : Nat) (q : IntKind) (hk : k < n) : indexAddrX Tryz.prog 22 (.slice (some ⟨b, o, none⟩) n c) (.int q (k : Int)) = some (.pointer (some ⟨b, o + k, none⟩)) := index_slice under_I size_i b o n c k q hk
theorem idx_B (b o n c k : Nat) (q : IntKind) (hk : k < n) : indexAddrX Tryz.prog 110 (.slice (some ⟨b, o, none⟩) n c) (.int q (k : Int)) = some (.pointer (some ⟨b, o + k, none⟩)) := index_slice under_B size_b b o n c k q hk
theorem app_L : appOK Tryz.prog 33 33 1 = true := by kernel_rfl
theorem bs_L : bsOK Tryz.prog 33 = true := by kernel_rfl
end

/-! ### Whole numbers, truth -/
section
variable {P : Program} {t : TypeId} {x y : Operand} {q : IntKind} {a b : Int}
@[simp] theorem bin_lss : binX P .lss t x y (.int q a) (.int q b) = some (.bool (decide (a < b))) := by simp [binX, intX]
@[simp] theorem bin_leq : binX P .leq t x y (.int q a) (.int q b) = some (.bool (decide (a ≤ b))) := by simp [binX, intX]
@[simp] theorem bin_gtr : binX P .gtr t x y (.int q a) (.int q b) = some (.bool (decide (a > b))) := by simp [binX, intX]
@[simp] theorem bin_geq : binX P .geq t x y (.int q a) (.int q b) = some (.bool (decide (a ≥ b))) := by simp [binX, intX]
@[simp] theorem bin_eql : binX P .eql t x y (.int q a) (.int q b) = some (.bool (decide (a = b))) := by simp [binX, intX]
@[simp] theorem bin_neq : binX P .neq t x y (.int q a) (.int q b) = some (.bool (!decide (a = b))) := by simp [binX, intX]
@[simp] theorem bin_add : binX P .add t x y (.int q a) (.int q b) = some (.int q (q.wrap (a + b))) := by simp [binX, intX]
@[simp] theorem bin_sub : binX P .sub t x y (.int q a) (.int q b) = some (.int q (q.wrap (a - b))) := by simp [binX, intX]
@[simp] theorem un_not (p : Bool) : unX P .not (.bool p) = some (.bool !p) := by cases p <;> rfl
theorem wrap_add (k j : Nat) (h : k + j < 4611686018427387904) : IntKind.i64.wrap ((k : Int) + (j : Int)) = ((k + j : Nat) : Int) := by
  have e1 : (2 : Int) ^ 64 = 18446744073709551616 := by decide
  have e2 : (2 : Int) ^ 63 = 9223372036854775808 := by decide
  simp only [IntKind.wrap]
  simp [IntKind.bits, IntKind.signed, e1, e2]
  omega
theorem wrap_succ (k : Nat) (h : k < 4611686018427387903) : IntKind.i64.wrap ((k : Int) + 1) = ((k + 1 : Nat) : Int) := wrap_add k 1 (by omega)
@[simp] theorem plain_int (k : IntKind) (n : Int) : plainV (.int k n) = true := by cases n <;> rfl
@[simp] theorem plain_bool (p : Bool) : plainV (.bool p) = true := by cases p <;> rfl
@[simp] theorem plain_float (k : FloatKind) (n : Nat) : plainV (.float k n) = true := by cases k <;> rfl
theorem plain_nf' (v : Value) (h : v = .nilFunc) : plainV v = true := by subst h; rfl
@[simp] theorem plain_nf : plainV .nilFunc = true := plain_nf' _ (by simp)
theorem plain_slice (n : Nat) (h : n = 0) : plainV (.slice none n n) = true := by subst h; rfl
@[simp] theorem plain_nil : plainV (.slice none 0 0) = true := plain_slice 0 (by decide)
end

/-! ### Floats -/
def cOf : F → Nat
  | none => noNum
  | some b => canon b
theorem canon_no {b : Nat} (h : isNo b = true) : canon b = noNum := by unfold canon; rw [show Clean.isNaN b = true from h]; rfl
theorem canon_yes {b : Nat} (h : isNo b = false) : canon b = b := by unfold canon; rw [show Clean.isNaN b = false from h]; rfl
theorem fl_noNum : fl noNum = none := by decide
theorem fl_canon (b : Nat) : fl (canon b) = fl b := by
  cases h : isNo b
  · rw [canon_yes h]
  · rw [canon_no h, fl_noNum, fl_no h]
/-- A float by what it stands for. -/
theorem cOf_fl (b : Nat) : cOf (fl b) = canon b := by
  cases h : isNo b
  · rw [fl_yes h]; rfl
  · rw [fl_no h, canon_no h]; rfl
def clr (x : F) : F := fl (cOf x)
theorem clr_some (b : Nat) : clr (some b) = fl b := fl_canon b
theorem clr_none : clr none = none := fl_noNum
theorem f2_clr {op : Nat → Nat → Option Nat} (hl : ∀ a b, isNo a = true → op a b = none) (hr : ∀ a b, isNo b = true → op a b = none) (x y : F) : f2 op (clr x) (clr y) = f2 op x y := by
  cases x with
  | none => rw [clr_none]; rfl
  | some a =>
    cases y with
    | none => rw [clr_none]; unfold f2; cases clr (some a) <;> rfl
    | some b =>
      rw [clr_some, clr_some]
      cases ha : isNo a
      · cases hb : isNo b
        · rw [fl_yes ha, fl_yes hb]
        · rw [fl_yes ha, fl_no hb]; exact (hr a b hb).symm
      · rw [fl_no ha]; exact (hl a b ha).symm
theorem bits2 (op : BinOp) (x y : F) (hop : op = .add ∨ op = .sub ∨ op = .mul ∨ op = .quo) : (match floatX op (cOf x) (cOf y) with
    | some r => r
    | none => noNum) = cOf (fop op x y) := by
  have h := fop_bits op (cOf x) (cOf y) hop
  have e : fop op (clr x) (clr y) = fop op x y := by
    rcases hop with rfl | rfl | rfl | rfl
    · exact f2_clr (fun a b h => by simp [Ieee.Format.add, sum_nan_left (show (Ieee.double.read a).isNaN = true from h)]) (fun a b h => by simp [Ieee.Format.add, sum_nan_right (show (Ieee.double.read b).isNaN = true from h)]) x y
    · exact f2_clr (fun a b h => by simp [Ieee.Format.sub, sum_nan_left (show (Ieee.double.read a).isNaN = true from h)]) (fun a b h => by simp [Ieee.Format.sub, sum_nan_right (show (Ieee.double.read b).opposite.isNaN = true from opposite_nan.trans h)]) x y
    · exact f2_clr (fun a b h => by simp [Ieee.Format.mul, product_nan_left (show (Ieee.double.read a).isNaN = true from h)]) (fun a b h => by simp [Ieee.Format.mul, product_nan_right (show (Ieee.double.read b).isNaN = true from h)]) x y
    · exact f2_clr (fun a b h => by simp [Ieee.Format.div, quotient_nan_left (show (Ieee.double.read a).isNaN = true from h)]) (fun a b h => by simp [Ieee.Format.div, quotient_nan_right (show (Ieee.double.read b).isNaN = true from h)]) x y
  have e2 : floatX op (cOf x) (cOf y) = fop op x y := by
    rw [← e]
    refine Eq.trans ?_ h.1.symm
    rcases hop with rfl | rfl | rfl | rfl <;> rfl
  rw [e2]
  cases hr : fop op x y with
  | none => rfl
  | some r =>
    have h2 := h.2 r (by rw [← h.1]; show fop op (clr x) (clr y) = _; rw [e, hr])
    show r = canon r
    rw [← cOf_fl, h2]
    show r = canon r
    have : isNo r = false := by
      unfold fl at h2
      split at h2
      · cases h2
      · simpa using ‹¬ isNo r = true›
    exact (canon_yes this).symm
section
variable {P : Program} {t : TypeId} {xo yo : Operand} (x y : F)
theorem bin_f (op : BinOp) (ha : isArith op = true) (hop : op = .add ∨ op = .sub ∨ op = .mul ∨ op = .quo) : binX P op t xo yo (.float .f64 (cOf x)) (.float .f64 (cOf y)) = some (.float .f64 (cOf (fop op x y))) := by
  rw [← bits2 op x y hop]
  unfold binX
  simp only [ha, cond_true]
  cases floatX op (cOf x) (cOf y) <;> rfl
@[simp] theorem bin_fadd : binX P .add t xo yo (.float .f64 (cOf x)) (.float .f64 (cOf y)) = some (.float .f64 (cOf (fadd x y))) := bin_f x y .add rfl (.inl rfl)
@[simp] theorem bin_fsub : binX P .sub t xo yo (.float .f64 (cOf x)) (.float .f64 (cOf y)) = some (.float .f64 (cOf (fsub x y))) := bin_f x y .sub rfl (.inr (.inl rfl))
@[simp] theorem bin_fmul : binX P .mul t xo yo (.float .f64 (cOf x)) (.float .f64 (cOf y)) = some (.float .f64 (cOf (fmul x y))) := bin_f x y .mul rfl (.inr (.inr (.inl rfl)))
@[simp] theorem bin_fdiv : binX P .quo t xo yo (.float .f64 (cOf x)) (.float .f64 (cOf y)) = some (.float .f64 (cOf (fdiv x y))) := bin_f x y .quo rfl (.inr (.inr (.inr rfl)))
theorem fcmp_clr : fcmp (clr x) (clr y) = fcmp x y := by
  cases x with
  | none => rw [clr_none]; rfl
  | some a =>
    cases y with
    | none => rw [clr_none]; unfold fcmp; cases clr (some a) <;> rfl
    | some b => rw [clr_some, clr_some]; exact fcmp_bits a b
theorem order_c : Ieee.double.order (cOf x) (cOf y) = fcmp x y := by rw [← fcmp_bits]; exact fcmp_clr x y
theorem bin_fcmp (op : BinOp) (ha : isArith op = false) : binX P op t xo yo (.float .f64 (cOf x)) (.float .f64 (cOf y)) = (cmpX op (fcmp x y)).map .bool := by
  unfold binX
  simp only [ha, cond_false, order_c]
@[simp] theorem bin_fge : binX P .geq t xo yo (.float .f64 (cOf x)) (.float .f64 (cOf y)) = some (.bool (fge x y)) := bin_fcmp x y .geq rfl
@[simp] theorem bin_feq : binX P .eql t xo yo (.float .f64 (cOf x)) (.float .f64 (cOf y)) = some (.bool (feq x y)) := bin_fcmp x y .eql rfl
@[simp] theorem bin_fle : binX P .leq t xo yo (.float .f64 (cOf x)) (.float .f64 (cOf y)) = some (.bool (fle x y)) := bin_fcmp x y .leq rfl
end

theorem cOf_zero : cOf (some 0) = 0 := by decide
theorem cOf_one : cOf (some 4607182418800017408) = 4607182418800017408 := by decide
theorem cOf_lim : cOf lim = 4787326403894837248 := by decide
theorem cOf_big : cOf fbig = 9218868437227405311 := by decide
theorem canon_abs (x : F) : canon (absB (cOf x)) = cOf (fabs x) := by
  cases x with
  | none =>
    show canon (absB noNum) = noNum
    decide
  | some b =>
    show canon (absB (canon b)) = canon (b % 9223372036854775808)
    cases hb : isNo b
    · rw [canon_yes hb]; rfl
    · rw [canon_no hb]
      have : isNo (b % 9223372036854775808) = true := by
        have := isNaN_abs b
        unfold isNo
        exact this.trans hb
      rw [canon_no this]
      decide
theorem canon_neg (x : F) : canon (cOf x ^^^ 9223372036854775808) = cOf (fneg x) := by
  cases x with
  | none =>
    show canon (noNum ^^^ 9223372036854775808) = noNum
    decide
  | some b =>
    show canon (canon b ^^^ 9223372036854775808) = canon (b ^^^ 9223372036854775808)
    cases hb : isNo b
    · rw [canon_yes hb]
    · have hx : isNo (b ^^^ 9223372036854775808) = true := by
        have h1 : (b ^^^ 9223372036854775808) % 9223372036854775808 = b % 9223372036854775808 := xor_mod b
        have h2 := isNaN_abs b
        have h3 := isNaN_abs (b ^^^ 9223372036854775808)
        unfold absB at h2 h3
        rw [h1, h2] at h3
        unfold isNo
        exact h3.symm.trans hb
      rw [canon_no hb, canon_no hx]
      decide

/-! ### Complex numbers -/
def cx (z : C) : Value := .complex .f64 (cOf z.1) (cOf z.2)
def fv (x : F) : Value := .float .f64 (cOf x)
def realX : Value → Option Value
  | .complex k re _ => some (.float k re)
  | _ => none
def imagX : Value → Option Value
  | .complex k _ im => some (.float k im)
  | _ => none
def compX : Value → Value → Option Value
  | .float .f64 re, .float .f64 im => some (.complex .f64 re im)
  | _, _ => none
@[simp] theorem realX_c (k : FloatKind) (a b : Nat) : realX (.complex k a b) = some (.float k a) := by cases k <;> rfl
@[simp] theorem imagX_c (k : FloatKind) (a b : Nat) : imagX (.complex k a b) = some (.float k b) := by cases k <;> rfl
@[simp] theorem compX_c (a b : Nat) : compX (.float .f64 a) (.float .f64 b) = some (.complex .f64 a b) := by cases a <;> rfl
@[simp] theorem plain_complex (k : FloatKind) (a b : Nat) : plainV (.complex k a b) = true := by cases k <;> rfl
@[simp] theorem one_complex (k : FloatKind) (a b : Nat) : oneV (.complex k a b) = true := rfl
@[simp] theorem cells_bool (p : Bool) : cellsV (.bool p) = [.bool p] := by cases p <;> rfl
@[simp] theorem one_bool (p : Bool) : oneV (.bool p) = true := by cases p <;> rfl
@[simp] theorem cells_complex (k : FloatKind) (a b : Nat) : cellsV (.complex k a b) = [.complex k a b] := rfl
@[simp] theorem un_neg (P : Program) (x : F) : unX P .neg (.float .f64 (cOf x)) = some (.float .f64 (cOf (fneg x))) := by
  show some (Value.float .f64 (canon (cOf x ^^^ 9223372036854775808))) = _
  rw [canon_neg]
section
variable {P : Program} {call : Caller} {ops : Array Oper} {fr : Fr} {m : Mem} {Q : Fr → Mem → Prop} {ty t u : TypeId} {pos : String} {af : Array Edge} {d : Option Tmp}
@[simp] theorem step_real (x : Operand) : Gives (stepDX P call ops fr ⟨d, .call ⟨.builtin .real, #[x], #[t]⟩, ty, pos, af, none⟩) m Q ↔ optQ (ev fr x) fun v => optQ (realX v) fun r => putQ fr d Q r m := by
  rw [step_any rfl rfl]
  unfold opX callX
  simp only [evs_cons, evs_nil]
  cases ev fr x with
  | none => exact gives_fail _ _
  | some v => cases v <;> first | exact gives_fail _ _ | exact gives_ret _ _ _
@[simp] theorem step_imag (x : Operand) : Gives (stepDX P call ops fr ⟨d, .call ⟨.builtin .imag, #[x], #[t]⟩, ty, pos, af, none⟩) m Q ↔ optQ (ev fr x) fun v => optQ (imagX v) fun r => putQ fr d Q r m := by
  rw [step_any rfl rfl]
  unfold opX callX
  simp only [evs_cons, evs_nil]
  cases ev fr x with
  | none => exact gives_fail _ _
  | some v => cases v <;> first | exact gives_fail _ _ | exact gives_ret _ _ _
@[simp] theorem step_comp (x y : Operand) : Gives (stepDX P call ops fr ⟨d, .call ⟨.builtin .complex, #[x, y], #[t, u]⟩, ty, pos, af, none⟩) m Q ↔ optQ (ev fr x) fun v => optQ (ev fr y) fun w => optQ (compX v w) fun r => putQ fr d Q r m := by
  rw [step_any rfl rfl]
  unfold opX callX
  simp only [evs_cons, evs_nil]
  cases ev fr x with
  | none => exact gives_fail _ _
  | some v =>
    cases ev fr y with
    | none => exact gives_fail _ _
    | some w =>
      cases v with
      | float k a =>
        cases k with
        | f64 =>
          cases w with
          | float k b => cases k <;> first | exact gives_fail _ _ | exact gives_ret _ _ _
          | _ => exact gives_fail _ _
        | f32 => exact gives_fail _ _
      | _ => exact gives_fail _ _
end
/-- A call that touches no memory. -/
theorem gives_pure {f : M Value} {u : Value} (h : ∀ m, Gives f m fun v m' => v = u ∧ m' = m) (m : Mem) (Q : Value → Mem → Prop) : Gives f m Q ↔ Q u m := by
  obtain ⟨v, m', e, rfl, rfl⟩ := h m
  constructor
  · rintro ⟨v', m'', e', q⟩
    rw [e] at e'
    cases e'
    exact q
  · exact fun q => ⟨_, _, e, q⟩
theorem run_abs (x : F) (n : Nat) (m : Mem) (Q : Value → Mem → Prop) : Gives (callN Tryz.prog known (n + 1) 6 [.float .f64 (cOf x)]) m Q ↔ Q (.float .f64 (cOf (fabs x))) m := by
  rw [gives_known (g := absX [.float .f64 (cOf x)]) rfl]
  unfold absX
  rw [gives_ret, canon_abs]
end Go.Proofs.YtigbkoadojjajaaGreat

/- Polynomials in the clean executor: what touches no memory. -/
namespace Go.Proofs.YtigbkoadojjajaaGreat
open Go.Clean

theorem fv_def (x : F) : fv x = .float .f64 (cOf x) := rfl
theorem fv_lim : Value.float .f64 4787326403894837248 = fv lim := by unfold fv; rw [cOf_lim]
@[simp] theorem real_cx (z : C) : realX (cx z) = some (fv z.1) := by cases z; rfl
@[simp] theorem imag_cx (z : C) : imagX (cx z) = some (fv z.2) := by cases z; rfl
@[simp] theorem comp_fv (x y : F) : compX (fv x) (fv y) = some (cx (x, y)) := by cases x <;> rfl
@[simp] theorem plain_fv (x : F) : plainV (fv x) = true := by cases x <;> rfl
@[simp] theorem plain_cx (x : C) : plainV (cx x) = true := by cases x; rfl
@[simp] theorem one_cx (x : C) : oneV (cx x) = true := by cases x; rfl
@[simp] theorem cells_cx (x : C) : cellsV (cx x) = [cx x] := by cases x; rfl
theorem bin_z {P : Program} {t : TypeId} {xo yo : Operand} (x : F) : binX P .eql t xo yo (.float .f64 (cOf x)) (.float .f64 0) = some (.bool (feq x (some 0))) := by
  have := bin_feq (P := P) (t := t) (xo := xo) (yo := yo) x (some 0)
  rwa [cOf_zero] at this
theorem bin_big {P : Program} {t : TypeId} {xo yo : Operand} (x : F) : binX P .leq t xo yo (.float .f64 (cOf x)) (.float .f64 9218868437227405311) = some (.bool (fle x fbig)) := by
  have := bin_fle (P := P) (t := t) (xo := xo) (yo := yo) x fbig
  rwa [cOf_big] at this
set_option maxRecDepth 10000 in
theorem run_add (n : Nat) (x y : C) (m : Mem) (Q : Value → Mem → Prop) : Gives (callN Tryz.prog known (n + 1) 49 [cx x, cx y]) m Q ↔ Q (cx (cadd x y)) m := by
  refine gives_pure (fun m => ?_) m Q
  refine gives_fn (nt := 16) rfl Tryz.func49 rfl rfl rfl (Nat.le_of_ble_eq_true rfl) fun fr hn hd hargs => ?_
  have h0 : fr.at 0 = _ := hargs 0 _ rfl
  have h1 : fr.at 1 = _ := hargs 1 _ rfl
  clear hargs
  simp [h0, h1, hn, hd, cx, cadd]
set_option maxRecDepth 10000 in
theorem run_mul (n : Nat) (x y : C) (m : Mem) (Q : Value → Mem → Prop) : Gives (callN Tryz.prog known (n + 1) 39 [cx x, cx y]) m Q ↔ Q (cx (cmul x y)) m := by
  refine gives_pure (fun m => ?_) m Q
  refine gives_fn (nt := 32) rfl Tryz.func39 rfl rfl rfl (Nat.le_of_ble_eq_true rfl) fun fr hn hd hargs => ?_
  have h0 : fr.at 0 = _ := hargs 0 _ rfl
  have h1 : fr.at 1 = _ := hargs 1 _ rfl
  clear hargs
  simp [h0, h1, hn, hd, cx, cmul]
set_option maxRecDepth 10000 in
theorem run_sub (n : Nat) (x y : C) (m : Mem) (Q : Value → Mem → Prop) : Gives (callN Tryz.prog known (n + 1) 38 [cx x, cx y]) m Q ↔ Q (cx (csub x y)) m := by
  refine gives_pure (fun m => ?_) m Q
  refine gives_fn (nt := 16) rfl Tryz.func38 rfl rfl rfl (Nat.le_of_ble_eq_true rfl) fun fr hn hd hargs => ?_
  have h0 : fr.at 0 = _ := hargs 0 _ rfl
  have h1 : fr.at 1 = _ := hargs 1 _ rfl
  clear hargs
  simp [h0, h1, hn, hd, cx, csub]
set_option maxRecDepth 10000 in
theorem run_neg (n : Nat) (x : C) (m : Mem) (Q : Value → Mem → Prop) : Gives (callN Tryz.prog known (n + 1) 40 [cx x]) m Q ↔ Q (cx (cneg x)) m := by
  refine gives_pure (fun m => ?_) m Q
  refine gives_fn (nt := 10) rfl Tryz.func40 rfl rfl rfl (Nat.le_of_ble_eq_true rfl) fun fr hn hd hargs => ?_
  have h0 : fr.at 0 = _ := hargs 0 _ rfl
  clear hargs
  simp [h0, hn, hd, cx, cneg]
set_option maxRecDepth 10000 in
theorem run_div (n : Nat) (x y : C) (m : Mem) (Q : Value → Mem → Prop) : Gives (callN Tryz.prog known (n + 2) 79 [cx x, cx y]) m Q ↔ Q (cx (cdiv x y)) m := by
  refine gives_pure (fun m => ?_) m Q
  refine gives_fn (nt := 72) rfl Tryz.func79 rfl rfl rfl (Nat.le_of_ble_eq_true rfl) fun fr hn hd hargs => ?_
  have h0 : fr.at 0 = _ := hargs 0 _ rfl
  have h1 : fr.at 1 = _ := hargs 1 _ rfl
  clear hargs
  cases hg : fge (fabs y.1) (fabs y.2) <;>
  simp [h0, h1, hn, hd, cx, cdiv, run_abs, hg]
set_option maxRecDepth 10000 in
theorem run_fwithin (n : Nat) (x y : F) (m : Mem) (Q : Value → Mem → Prop) : Gives (callN Tryz.prog known (n + 2) 66 [fv x, fv y]) m Q ↔ Q (.bool (fle (fabs x) y)) m := by
  refine gives_pure (fun m => ?_) m Q
  refine gives_fn (nt := 9) rfl Tryz.func66 rfl rfl rfl (Nat.le_of_ble_eq_true rfl) fun fr hn hd hargs => ?_
  have h0 : fr.at 0 = _ := hargs 0 _ rfl
  have h1 : fr.at 1 = _ := hargs 1 _ rfl
  clear hargs
  simp [h0, h1, hn, hd, fv, run_abs]
set_option maxRecDepth 10000 in
theorem run_within (n : Nat) (x : C) (y : F) (m : Mem) (Q : Value → Mem → Prop) : Gives (callN Tryz.prog known (n + 3) 70 [cx x, fv y]) m Q ↔ Q (.bool (cwithin x y)) m := by
  refine gives_pure (fun m => ?_) m Q
  refine gives_fn (nt := 15) rfl Tryz.func70 rfl rfl rfl (Nat.le_of_ble_eq_true rfl) fun fr hn hd hargs => ?_
  have h0 : fr.at 0 = _ := hargs 0 _ rfl
  have h1 : fr.at 1 = _ := hargs 1 _ rfl
  clear hargs
  cases hg : fle (fabs x.1) y <;>
  simp [h0, h1, hn, hd, cwithin, hg, yieldX, ← fv_def, run_fwithin]
set_option maxRecDepth 10000 in
theorem run_place (n : Nat) (x : C) (m : Mem) (Q : Value → Mem → Prop) : Gives (callN Tryz.prog known (n + 4) 37 [cx x]) m Q ↔ Q (.bool (cwithin x lim)) m := by
  refine gives_pure (fun m => ?_) m Q
  refine gives_fn (nt := 5) rfl Tryz.func37 rfl rfl rfl (Nat.le_of_ble_eq_true rfl) fun fr hn hd hargs => ?_
  have h0 : fr.at 0 = _ := hargs 0 _ rfl
  clear hargs
  simp [h0, hn, hd, fv_lim, run_within]
set_option maxRecDepth 10000 in
theorem run_nought (n : Nat) (x : C) (m : Mem) (Q : Value → Mem → Prop) : Gives (callN Tryz.prog known (n + 1) 71 [cx x]) m Q ↔ Q (.bool (cnought x)) m := by
  refine gives_pure (fun m => ?_) m Q
  refine gives_fn (nt := 11) rfl Tryz.func71 rfl rfl rfl (Nat.le_of_ble_eq_true rfl) fun fr hn hd hargs => ?_
  have h0 : fr.at 0 = _ := hargs 0 _ rfl
  clear hargs
  cases hg : feq x.1 (some 0) <;>
  simp [h0, hn, hd, cx, cnought, hg, yieldX, bin_z]
set_option maxRecDepth 10000 in
theorem run_ffinite (n : Nat) (x : F) (m : Mem) (Q : Value → Mem → Prop) : Gives (callN Tryz.prog known (n + 2) 74 [fv x]) m Q ↔ Q (.bool (ffin x)) m := by
  refine gives_pure (fun m => ?_) m Q
  refine gives_fn (nt := 6) rfl Tryz.func74 rfl rfl rfl (Nat.le_of_ble_eq_true rfl) fun fr hn hd hargs => ?_
  have h0 : fr.at 0 = _ := hargs 0 _ rfl
  clear hargs
  simp [h0, hn, hd, fv, run_abs, bin_big, ffin]
set_option maxRecDepth 10000 in
theorem run_finite (n : Nat) (x : C) (m : Mem) (Q : Value → Mem → Prop) : Gives (callN Tryz.prog known (n + 3) 52 [cx x]) m Q ↔ Q (.bool (cfin x)) m := by
  refine gives_pure (fun m => ?_) m Q
  refine gives_fn (nt := 11) rfl Tryz.func52 rfl rfl rfl (Nat.le_of_ble_eq_true rfl) fun fr hn hd hargs => ?_
  have h0 : fr.at 0 = _ := hargs 0 _ rfl
  clear hargs
  cases hg : ffin x.1 <;>
  simp [h0, hn, hd, cfin, hg, yieldX, ← fv_def, run_ffinite]
end Go.Proofs.YtigbkoadojjajaaGreat

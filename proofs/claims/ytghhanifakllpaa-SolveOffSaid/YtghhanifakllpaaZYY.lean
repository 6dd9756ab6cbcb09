/- package solve in the clean executor: types, floats without a NaN's bits, lists in memory. -/
import Derived.Test.YtghhanifakllpaaFlY
import Derived.Test.YtghhanifakllpaaKXY
import Derived.Test.YtghhanifakllpaaProg
import Derived.KernelRfl
import Derived.WalkKit
import Derived.WalkSpells
import Derived.WalkLawsBesides
import Derived.Lib.Hide
import Derived.Deep.Draws
import Derived.Laws.EntriesVeiled
set_option linter.unusedSimpArgs false
set_option linter.unusedVariables false
namespace Go.Proofs.Ytghhanifakllpaa
open Go.Clean

/-! ### Types -/
section
@[simp] theorem agg3 : Clean.isAgg Try.prog 3 = some false := by kernel_rfl
@[simp] theorem agg4 : Clean.isAgg Try.prog 4 = some false := by kernel_rfl
@[simp] theorem agg23 : Clean.isAgg Try.prog 23 = some false := by kernel_rfl
@[simp] theorem agg24 : Clean.isAgg Try.prog 24 = some false := by kernel_rfl
@[simp] theorem agg25 : Clean.isAgg Try.prog 25 = some false := by kernel_rfl
@[simp] theorem agg29 : Clean.isAgg Try.prog 29 = some false := by kernel_rfl
@[simp] theorem agg77 : Clean.isAgg Try.prog 77 = some false := by kernel_rfl
@[simp] theorem size3 : sizeT Try.prog 3 = some 1 := by kernel_rfl
@[simp] theorem size4 : sizeT Try.prog 4 = some 1 := by kernel_rfl
@[simp] theorem size23 : sizeT Try.prog 23 = some 1 := by kernel_rfl
@[simp] theorem size24 : sizeT Try.prog 24 = some 1 := by kernel_rfl
@[simp] theorem size25 : sizeT Try.prog 25 = some 1 := by kernel_rfl
@[simp] theorem size29 : sizeT Try.prog 29 = some 1 := by kernel_rfl
@[simp] theorem size77 : sizeT Try.prog 77 = some 1 := by kernel_rfl
@[simp] theorem ld3 (cs : List Value) (o : Nat) : ldX Try.prog 3 cs o = cs[o]? := ld_one agg3 cs o
@[simp] theorem sto3 (v : Value) : storeOK Try.prog 3 v = (1 == (cellsV v).length && (cellsV v).all oneV) := by unfold storeOK; rw [size3]; rfl
@[simp] theorem ld4 (cs : List Value) (o : Nat) : ldX Try.prog 4 cs o = cs[o]? := ld_one agg4 cs o
@[simp] theorem sto4 (v : Value) : storeOK Try.prog 4 v = (1 == (cellsV v).length && (cellsV v).all oneV) := by unfold storeOK; rw [size4]; rfl
@[simp] theorem ld23 (cs : List Value) (o : Nat) : ldX Try.prog 23 cs o = cs[o]? := ld_one agg23 cs o
@[simp] theorem sto23 (v : Value) : storeOK Try.prog 23 v = (1 == (cellsV v).length && (cellsV v).all oneV) := by unfold storeOK; rw [size23]; rfl
@[simp] theorem ld24 (cs : List Value) (o : Nat) : ldX Try.prog 24 cs o = cs[o]? := ld_one agg24 cs o
@[simp] theorem sto24 (v : Value) : storeOK Try.prog 24 v = (1 == (cellsV v).length && (cellsV v).all oneV) := by unfold storeOK; rw [size24]; rfl
@[simp] theorem ld25 (cs : List Value) (o : Nat) : ldX Try.prog 25 cs o = cs[o]? := ld_one agg25 cs o
@[simp] theorem sto25 (v : Value) : storeOK Try.prog 25 v = (1 == (cellsV v).length && (cellsV v).all oneV) := by unfold storeOK; rw [size25]; rfl
@[simp] theorem ld29 (cs : List Value) (o : Nat) : ldX Try.prog 29 cs o = cs[o]? := ld_one agg29 cs o
@[simp] theorem sto29 (v : Value) : storeOK Try.prog 29 v = (1 == (cellsV v).length && (cellsV v).all oneV) := by unfold storeOK; rw [size29]; rfl
@[simp] theorem ld77 (cs : List Value) (o : Nat) : ldX Try.prog 77 cs o = cs[o]? := ld_one agg77 cs o
@[simp] theorem sto77 (v : Value) : storeOK Try.prog 77 v = (1 == (cellsV v).length && (cellsV v).all oneV) := by unfold storeOK; rw [size77]; rfl
theorem under23 : Try.prog.underlying 23 = some (.slice 24) := by kernel_rfl
theorem under24 : Try.prog.underlying 24 = some (.slice 25) := by kernel_rfl
theorem under29 : Try.prog.underlying 29 = some (.slice 3) := by kernel_rfl
theorem len_slice {P : Program} {t e : TypeId} (h : P.underlying t = some (.slice e)) (a : Option Addr) (n c : Nat) : lenX P t (.slice a n c) = some (.int .i64 n) := by unfold lenX; rw [h]
@[simp] theorem len23 (a : Option Addr) (n c : Nat) : lenX Try.prog 23 (.slice a n c) = some (.int .i64 n) := len_slice under23 a n c
@[simp] theorem len24 (a : Option Addr) (n c : Nat) : lenX Try.prog 24 (.slice a n c) = some (.int .i64 n) := len_slice under24 a n c
@[simp] theorem len29 (a : Option Addr) (n c : Nat) : lenX Try.prog 29 (.slice a n c) = some (.int .i64 n) := len_slice under29 a n c
theorem index_slice {P : Program} {t e : TypeId} (h : P.underlying t = some (.slice e)) (hs : sizeT P e = some 1) (b o n c k : Nat) (q : IntKind) (hk : k < n) : indexAddrX P t (.slice (some ⟨b, o, none⟩) n c) (.int q (k : Int)) = some (.pointer (some ⟨b, o + k, none⟩)) := by
  unfold indexAddrX
  simp only [h, hs]
  have : decide (0 ≤ (k : Int) ∧ (k : Int) < (n : Int)) = true := by simp; omega
  rw [this]
  simp
theorem idx23 (b o n c k : Nat) (q : IntKind) (hk : k < n) : indexAddrX Try.prog 23 (.slice (some ⟨b, o, none⟩) n c) (.int q (k : Int)) = some (.pointer (some ⟨b, o + k, none⟩)) := index_slice under23 size24 b o n c k q hk
theorem idx24 (b o n c k : Nat) (q : IntKind) (hk : k < n) : indexAddrX Try.prog 24 (.slice (some ⟨b, o, none⟩) n c) (.int q (k : Int)) = some (.pointer (some ⟨b, o + k, none⟩)) := index_slice under24 size25 b o n c k q hk
theorem idx29 (b o n c k : Nat) (q : IntKind) (hk : k < n) : indexAddrX Try.prog 29 (.slice (some ⟨b, o, none⟩) n c) (.int q (k : Int)) = some (.pointer (some ⟨b, o + k, none⟩)) := index_slice under29 size3 b o n c k q hk
theorem app23 : appOK Try.prog 23 23 1 = true := by kernel_rfl
theorem app24 : appOK Try.prog 24 24 1 = true := by kernel_rfl
theorem app29 : appOK Try.prog 29 29 1 = true := by kernel_rfl
theorem app77 : appOK Try.prog 77 77 1 = true := by kernel_rfl
theorem bs23 : bsOK Try.prog 23 = true := by kernel_rfl
theorem bs24 : bsOK Try.prog 24 = true := by kernel_rfl
theorem bs29 : bsOK Try.prog 29 = true := by kernel_rfl
theorem bs77 : bsOK Try.prog 77 = true := by kernel_rfl
end

/-! ### Whole numbers, truth -/
section
variable {P : Program} {t : TypeId} {x y : Operand} {q : IntKind} {a b : Int}
@[simp] theorem bin_lss : binX P .lss t x y (.int q a) (.int q b) = some (.bool (decide (a < b))) := by simp [binX, intX]
@[simp] theorem bin_leq : binX P .leq t x y (.int q a) (.int q b) = some (.bool (decide (a ≤ b))) := by simp [binX, intX]
@[simp] theorem bin_gtr : binX P .gtr t x y (.int q a) (.int q b) = some (.bool (decide (a > b))) := by simp [binX, intX]
@[simp] theorem bin_geq : binX P .geq t x y (.int q a) (.int q b) = some (.bool (decide (a ≥ b))) := by simp [binX, intX]
@[simp] theorem bin_eql : binX P .eql t x y (.int q a) (.int q b) = some (.bool (decide (a = b))) := by simp [binX, intX]
@[simp] theorem bin_neq : binX P .neq t x y (.int q a) (.int q b) = some (.bool (!decide (a = b))) := by simp [binX, intX]
@[simp] theorem bin_add : binX P .add t x y (.int q a) (.int q b) = some (.int q (q.wrap (a + b))) := by simp [binX, intX]
@[simp] theorem bin_sub : binX P .sub t x y (.int q a) (.int q b) = some (.int q (q.wrap (a - b))) := by simp [binX, intX]
@[simp] theorem un_not (p : Bool) : unX P .not (.bool p) = some (.bool !p) := by cases p <;> rfl
theorem wrap_add (k j : Nat) (h : k + j < 4611686018427387904) : IntKind.i64.wrap ((k : Int) + (j : Int)) = ((k + j : Nat) : Int) := by
  have e1 : (2 : Int) ^ 64 = 18446744073709551616 := by decide
  have e2 : (2 : Int) ^ 63 = 9223372036854775808 := by decide
  simp only [IntKind.wrap]
  simp [IntKind.bits, IntKind.signed, e1, e2]
  omega
theorem wrap_succ (k : Nat) (h : k < 4611686018427387903) : IntKind.i64.wrap ((k : Int) + 1) = ((k + 1 : Nat) : Int) := wrap_add k 1 (by omega)
@[simp] theorem plain_int (k : IntKind) (n : Int) : plainV (.int k n) = true := by cases n <;> rfl
@[simp] theorem plain_bool (p : Bool) : plainV (.bool p) = true := by cases p <;> rfl
@[simp] theorem plain_float (k : FloatKind) (n : Nat) : plainV (.float k n) = true := by cases k <;> rfl
theorem plain_nf' (v : Value) (h : v = .nilFunc) : plainV v = true := by subst h; rfl
@[simp] theorem plain_nf : plainV .nilFunc = true := plain_nf' _ (by simp)
theorem plain_slice (n : Nat) (h : n = 0) : plainV (.slice none n n) = true := by subst h; rfl
@[simp] theorem plain_nil : plainV (.slice none 0 0) = true := plain_slice 0 (by decide)
theorem plain_ptr' (v : Value) (h : v = .pointer none) : plainV v = true := by subst h; rfl
@[simp] theorem plain_ptr : plainV (.pointer none) = true := plain_ptr' _ (by simp)
end

/-! ### Floats -/
def cOf : F → Nat
  | none => noNum
  | some b => canon b
theorem canon_no {b : Nat} (h : isNo b = true) : canon b = noNum := by unfold canon; rw [show Clean.isNaN b = true from h]; rfl
theorem canon_yes {b : Nat} (h : isNo b = false) : canon b = b := by unfold canon; rw [show Clean.isNaN b = false from h]; rfl
theorem fl_noNum : fl noNum = none := by decide
theorem fl_canon (b : Nat) : fl (canon b) = fl b := by
  cases h : isNo b
  · rw [canon_yes h]
  · rw [canon_no h, fl_noNum, fl_no h]
/-- A float by what it stands for. -/
theorem cOf_fl (b : Nat) : cOf (fl b) = canon b := by
  cases h : isNo b
  · rw [fl_yes h]; rfl
  · rw [fl_no h, canon_no h]; rfl
def clr (x : F) : F := fl (cOf x)
theorem clr_some (b : Nat) : clr (some b) = fl b := fl_canon b
theorem clr_none : clr none = none := fl_noNum
theorem cOf_clr (x : F) : cOf (clr x) = cOf x := by
  cases x with
  | none => rw [clr_none]
  | some b => rw [clr_some, cOf_fl]; rfl
theorem f2_clr {op : Nat → Nat → Option Nat} (hl : ∀ a b, isNo a = true → op a b = none) (hr : ∀ a b, isNo b = true → op a b = none) (x y : F) : f2 op (clr x) (clr y) = f2 op x y := by
  cases x with
  | none => rw [clr_none]; rfl
  | some a =>
    cases y with
    | none => rw [clr_none]; unfold f2; cases clr (some a) <;> rfl
    | some b =>
      rw [clr_some, clr_some]
      cases ha : isNo a
      · cases hb : isNo b
        · rw [fl_yes ha, fl_yes hb]
        · rw [fl_yes ha, fl_no hb]; exact (hr a b hb).symm
      · rw [fl_no ha]; exact (hl a b ha).symm
theorem bits2 (op : BinOp) (x y : F) (hop : op = .add ∨ op = .sub ∨ op = .mul ∨ op = .quo) : (match floatX op (cOf x) (cOf y) with
    | some r => r
    | none => noNum) = cOf (fop op x y) := by
  have h := fop_bits op (cOf x) (cOf y) hop
  have e : fop op (clr x) (clr y) = fop op x y := by
    rcases hop with rfl | rfl | rfl | rfl
    · exact f2_clr (fun a b h => by simp [Ieee.Format.add, sum_nan_left (show (Ieee.double.read a).isNaN = true from h)]) (fun a b h => by simp [Ieee.Format.add, sum_nan_right (show (Ieee.double.read b).isNaN = true from h)]) x y
    · exact f2_clr (fun a b h => by simp [Ieee.Format.sub, sum_nan_left (show (Ieee.double.read a).isNaN = true from h)]) (fun a b h => by simp [Ieee.Format.sub, sum_nan_right (show (Ieee.double.read b).opposite.isNaN = true from opposite_nan.trans h)]) x y
    · exact f2_clr (fun a b h => by simp [Ieee.Format.mul, product_nan_left (show (Ieee.double.read a).isNaN = true from h)]) (fun a b h => by simp [Ieee.Format.mul, product_nan_right (show (Ieee.double.read b).isNaN = true from h)]) x y
    · exact f2_clr (fun a b h => by simp [Ieee.Format.div, quotient_nan_left (show (Ieee.double.read a).isNaN = true from h)]) (fun a b h => by simp [Ieee.Format.div, quotient_nan_right (show (Ieee.double.read b).isNaN = true from h)]) x y
  have e2 : floatX op (cOf x) (cOf y) = fop op x y := by
    rw [← e]
    refine Eq.trans ?_ h.1.symm
    rcases hop with rfl | rfl | rfl | rfl <;> rfl
  rw [e2]
  cases hr : fop op x y with
  | none => rfl
  | some r =>
    have h2 := h.2 r (by rw [← h.1]; show fop op (clr x) (clr y) = _; rw [e, hr])
    show r = canon r
    rw [← cOf_fl, h2]
    show r = canon r
    have : isNo r = false := by
      unfold fl at h2
      split at h2
      · cases h2
      · simpa using ‹¬ isNo r = true›
    exact (canon_yes this).symm
section
variable {P : Program} {t : TypeId} {xo yo : Operand} (x y : F)
theorem bin_f (op : BinOp) (ha : isArith op = true) (hop : op = .add ∨ op = .sub ∨ op = .mul ∨ op = .quo) : binX P op t xo yo (.float .f64 (cOf x)) (.float .f64 (cOf y)) = some (.float .f64 (cOf (fop op x y))) := by
  rw [← bits2 op x y hop]
  unfold binX
  simp only [ha, cond_true]
  cases floatX op (cOf x) (cOf y) <;> rfl
@[simp] theorem bin_fadd : binX P .add t xo yo (.float .f64 (cOf x)) (.float .f64 (cOf y)) = some (.float .f64 (cOf (fadd x y))) := bin_f x y .add rfl (.inl rfl)
@[simp] theorem bin_fsub : binX P .sub t xo yo (.float .f64 (cOf x)) (.float .f64 (cOf y)) = some (.float .f64 (cOf (fsub x y))) := bin_f x y .sub rfl (.inr (.inl rfl))
@[simp] theorem bin_fmul : binX P .mul t xo yo (.float .f64 (cOf x)) (.float .f64 (cOf y)) = some (.float .f64 (cOf (fmul x y))) := bin_f x y .mul rfl (.inr (.inr (.inl rfl)))
@[simp] theorem bin_fdiv : binX P .quo t xo yo (.float .f64 (cOf x)) (.float .f64 (cOf y)) = some (.float .f64 (cOf (fdiv x y))) := bin_f x y .quo rfl (.inr (.inr (.inr rfl)))
theorem fcmp_clr : fcmp (clr x) (clr y) = fcmp x y := by
  cases x with
  | none => rw [clr_none]; rfl
  | some a =>
    cases y with
    | none => rw [clr_none]; unfold fcmp; cases clr (some a) <;> rfl
    | some b => rw [clr_some, clr_some]; exact fcmp_bits a b
theorem order_c : Ieee.double.order (cOf x) (cOf y) = fcmp x y := by rw [← fcmp_bits]; exact fcmp_clr x y
theorem bin_fcmp (op : BinOp) (ha : isArith op = false) : binX P op t xo yo (.float .f64 (cOf x)) (.float .f64 (cOf y)) = (cmpX op (fcmp x y)).map .bool := by
  unfold binX
  simp only [ha, cond_false, order_c]
@[simp] theorem bin_fgt : binX P .gtr t xo yo (.float .f64 (cOf x)) (.float .f64 (cOf y)) = some (.bool (fgt x y)) := bin_fcmp x y .gtr rfl
@[simp] theorem bin_feq : binX P .eql t xo yo (.float .f64 (cOf x)) (.float .f64 (cOf y)) = some (.bool (feq x y)) := bin_fcmp x y .eql rfl
@[simp] theorem bin_fle : binX P .leq t xo yo (.float .f64 (cOf x)) (.float .f64 (cOf y)) = some (.bool (fle x y)) := bin_fcmp x y .leq rfl
end
theorem cOf_zero : cOf fzero = 0 := by decide
/-! ### Lists of floats -/
def fat (xs : List F) (i : Nat) : F := xs.getD i none
/-- Nothing, or an address of no cells. -/
def Loose (a : Option Addr) : Prop := ∀ w, a = some w → w.spot ≠ none
theorem Loose.nil : Loose none := fun _ h => by cases h
/-- A slice whose elements are these floats. -/
def FL (m : Mem) (v : Value) (xs : List F) : Prop :=
  ∃ a c, v = .slice a xs.length c ∧ ((Loose a ∧ xs.length = 0 ∧ c = 0) ∨ ∃ b o x, a = some ⟨b, o, none⟩ ∧ m.at b = some x ∧ ∀ (i : Nat), i < xs.length → x.cells[o + i]? = some (.float .f64 (cOf (fat xs i))))
theorem FL.same {m m' : Mem} {v : Value} {xs : List F} (h : FL m v xs) (e : ∀ b, m'.at b = m.at b) : FL m' v xs := by
  obtain ⟨a, c, h1, h2⟩ := h
  refine ⟨a, c, h1, ?_⟩
  rcases h2 with h2 | ⟨b, o, x, e1, e2, e3⟩
  · exact .inl h2
  · exact .inr ⟨b, o, x, e1, by rw [e b]; exact e2, e3⟩
/-- No block lies beyond the next name. -/
def WF (m : Mem) : Prop := ∀ b x, m.at b = some x → b < m.next
theorem FL.old {m m' : Mem} {v : Value} {xs : List F} (h : FL m v xs) (hw : WF m) (e : ∀ b, b < m.next → m'.at b = m.at b) : FL m' v xs := by
  obtain ⟨a, c, h1, h2⟩ := h
  refine ⟨a, c, h1, ?_⟩
  rcases h2 with h2 | ⟨b, o, x, e1, e2, e3⟩
  · exact .inl h2
  · exact .inr ⟨b, o, x, e1, by rw [e b (hw b x e2)]; exact e2, e3⟩
theorem WF.grow {m m' : Mem} (h : WF m) (hn : m.next ≤ m'.next) (e : ∀ b x, m'.at b = some x → (∃ y, m.at b = some y) ∨ b < m'.next) : WF m' := by
  intro b x hb
  rcases e b x hb with ⟨y, hy⟩ | h2
  · exact Nat.lt_of_lt_of_le (h b y hy) hn
  · exact h2
def fv (x : F) : Value := .float .f64 (cOf x)
theorem fat_map (xs : List F) {i : Nat} (h : i < xs.length) : (xs.map fv)[i]? = some (.float .f64 (cOf (fat xs i))) := by
  simp [fat, List.getD, h, fv]
theorem fv_one (xs : List F) : (xs.map fv).all oneV = true := by
  rw [List.all_eq_true]
  intro v hv
  obtain ⟨x, _, rfl⟩ := List.mem_map.1 hv
  rfl
theorem FL.take {m : Mem} {xs : List F} {b o : Nat} {x : Blk} (h : ∀ (i : Nat), i < xs.length → x.cells[o + i]? = some (.float .f64 (cOf (fat xs i)))) : takeN x.cells o xs.length = some (xs.map fv) := by
  refine takeN_get _ _ _ _ (by simp) (fun i hi => by rw [h i hi, fat_map xs hi]) ?_
  by_cases hz : xs.length = 0
  · exact .inl hz
  · have := h (xs.length - 1) (by omega)
    have := (List.getElem?_eq_some_iff.1 this).1
    exact .inr (by omega)
/-- Nothing has turned. -/
def Only (m m' : Mem) : Prop := m'.next = m.next ∧ ∀ b, m'.at b = m.at b
theorem Only.wf {m m' : Mem} (h : Only m m') (hw : WF m) : WF m' := fun b x hb => by rw [h.1]; exact hw b x (by rw [← h.2]; exact hb)
theorem Only.refl (m : Mem) : Only m m := ⟨rfl, fun _ => rfl⟩
theorem Only.trans {m m1 m2 : Mem} (h : Only m m1) (k : Only m1 m2) : Only m m2 := ⟨k.1.trans h.1, fun b => (k.2 b).trans (h.2 b)⟩
end Go.Proofs.Ytghhanifakllpaa

/- The leaves of package solve over float64: what each call gives, said of floats without the bits of what is no number. -/
namespace Go.Proofs.Ytghhanifakllpaa
open Go.RowKit

def absB (b : Nat) : Nat := b % 9223372036854775808
def W64 (b : Nat) : Prop := b < 18446744073709551616
@[go_sem] theorem f64bits_run (a : Nat) (w : World) : (callFunc 52 #[.float .f64 a]).run Try.prog w = .ok (.value (.int .u64 a)) w := by kernel_rfl
@[go_sem] theorem f64from_run (a : Int) (w : World) : (callFunc 44 #[.int .u64 a]).run Try.prog w = .ok (.value (.float .f64 a.toNat)) w := by kernel_rfl

@[go_sem] theorem run_store_float {P : Program} {w : World} {a : Addr} {m : Mode} (k : FloatKind) (b : Nat) : (store a (.float k b) m).run P w = stored P w a (.float k b) m := run_store P w a _ m rfl
@[go_sem] theorem run_store_complex {P : Program} {w : World} {a : Addr} {m : Mode} (k : FloatKind) (x y : Nat) : (store a (.complex k x y) m).run P w = stored P w a (.complex k x y) m := run_store P w a _ m rfl

def finB (b : Nat) : Bool := Ieee.double.order (absB b) 9218868437227405311 == some Ordering.lt || Ieee.double.order (absB b) 9218868437227405311 == some Ordering.eq
/-- The field of floats, as floats() makes it. -/
def kF : Array Value := #[.func (.func 31) #[] #[], .func (.func 69) #[] #[], .func (.func 70) #[] #[], .func (.func 43) #[] #[]]

end Go.Proofs.Ytghhanifakllpaa

/- package solve over float64: what is wrong with lists and systems. -/
namespace Go.Proofs.Ytghhanifakllpaa
open Go.RowKit

/-- A call that gives v, and touches nothing that was there. -/
def RB (w : World) (v : Value) (e : Ending) (w' : World) : Prop := e = .returned v ∧ Below w.heap.size w w'

/-- A slice of floats in memory, read whole: 'bits' are the floats' bits. -/
def FSl (w : World) (v : Value) (bits : List Nat) : Prop :=
  ∃ a n c, v = .slice a n c ∧ bits.length = n ∧ (∀ x ∈ bits, W64 x) ∧
    (n = 0 ∨ ∃ b off, a = some ⟨b, off, none⟩ ∧ ∀ i, i < n → w.cell? ⟨b, off + i, none⟩ = some (.float .f64 (bits.getD i 0)))

theorem FSl.below {w w' : World} {v : Value} {bits : List Nat} (h : FSl w v bits) (hb : Below w.heap.size w w') : FSl w' v bits := by
  obtain ⟨a, n, c, h1, h2, h3, h4⟩ := h
  refine ⟨a, n, c, h1, h2, h3, ?_⟩
  rcases h4 with h4 | ⟨b, off, ha, hc⟩
  · exact .inl h4
  · refine .inr ⟨b, off, ha, fun i hi => ?_⟩
    have h := hc i hi
    rw [hb.cell (p := ⟨b, off + i, none⟩) (World.block_lt_of_cell? w _ h)]
    exact h

/-- What is wrong with a list beside so many rows. -/
def besideF (xs : List F) (n : Nat) : Int := if xs.length = n then (if xs.all ffin then 0 else 5) else 140
end Go.Proofs.Ytghhanifakllpaa

/- package solve over float64: check. -/
namespace Go.Proofs.Ytghhanifakllpaa
open Go.RowKit

/-- Rows of floats in memory. -/
def Mat (w : World) (v : Value) (rows : List (List Nat)) : Prop :=
  ∃ a n c, v = .slice a n c ∧ rows.length = n ∧
    (n = 0 ∨ ∃ b off, a = some ⟨b, off, none⟩ ∧ ∀ i, i < n → ∃ rv, w.cell? ⟨b, off + i, none⟩ = some rv ∧ FSl w rv (rows.getD i []))
theorem Mat.below {w w' : World} {v : Value} {rows : List (List Nat)} (h : Mat w v rows) (hb : Below w.heap.size w w') : Mat w' v rows := by
  obtain ⟨a, n, c, h1, h2, h4⟩ := h
  refine ⟨a, n, c, h1, h2, ?_⟩
  rcases h4 with h4 | ⟨b, off, ha, hc⟩
  · exact .inl h4
  · refine .inr ⟨b, off, ha, fun i hi => ?_⟩
    obtain ⟨rv, h, hf⟩ := hc i hi
    refine ⟨rv, ?_, hf.below hb⟩
    rw [hb.cell (p := ⟨b, off + i, none⟩) (World.block_lt_of_cell? w _ h)]
    exact h

/-- What is wrong with a system. -/
def checkF (rows : List (List F)) : Int :=
  if rows.length = 0 ∨ 128 < rows.length then 4
  else if rows.all (fun r => r.length == rows.length) then (if rows.all (·.all ffin) then 0 else 5) else 140

def bitsF (rows : List (List Nat)) : List (List F) := rows.map (·.map fl)

/-- The box in which a call keeps the field of floats. -/
def BoxF (w : World) (B : Nat) : Prop := w.heap[B]? = some (.cells kF 74 (0, 0))
theorem BoxF.below {w w' : World} {B B0 : Nat} (h : BoxF w B) (hb : Below B0 w w') (hB : B < B0) : BoxF w' B := by
  unfold BoxF; rw [hb.block B hB]; exact h
theorem BoxF.lt {w : World} {B : Nat} (h : BoxF w B) : B < w.heap.size := lt_of_block h
theorem BoxF.cells {w : World} {B : Nat} (h : BoxF w B) : w.cell? ⟨B, 0, none⟩ = some (.func (.func 31) #[] #[]) ∧ w.cell? ⟨B, 1, none⟩ = some (.func (.func 69) #[] #[]) ∧ w.cell? ⟨B, 2, none⟩ = some (.func (.func 70) #[] #[]) ∧ w.cell? ⟨B, 3, none⟩ = some (.func (.func 43) #[] #[]) := by
  unfold BoxF at h
  refine ⟨?_, ?_, ?_, ?_⟩ <;> (simp [World.cell?, h]; rfl)
theorem BoxF.made (w : World) : BoxF (w.alloc (.cells kF 74)) w.heap.size := heap_alloc_new w _

end Go.Proofs.Ytghhanifakllpaa

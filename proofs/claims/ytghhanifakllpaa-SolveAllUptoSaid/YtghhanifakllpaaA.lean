/- The leaves of package solve over float64: what each call gives, said of floats without the bits of what is no number. -/
import Derived.Test.YtghhanifakllpaaProg
import Derived.Test.YtghhanifakllpaaS
import Derived.WalkKit
import Derived.WalkSpells
import Derived.WalkLawsBesides
import Derived.KernelRfl
import Derived.Lib.Hide
import Derived.Deep.Draws
import Derived.Laws.EntriesVeiled
namespace Go.Proofs.Ytghhanifakllpaa
open Go.RowKit

def absB (b : Nat) : Nat := b % 9223372036854775808
def W64 (b : Nat) : Prop := b < 18446744073709551616
theorem absB_W (b : Nat) : W64 (absB b) := by unfold W64 absB; omega
theorem fl_absB (b : Nat) : fl (absB b) = fabs (fl b) := fabs_bits b

@[go_sem] theorem f64bits_run (a : Nat) (w : World) : (callFunc 52 #[.float .f64 a]).run Try.prog w = .ok (.value (.int .u64 a)) w := by kernel_rfl
@[go_sem] theorem f64from_run (a : Int) (w : World) : (callFunc 44 #[.int .u64 a]).run Try.prog w = .ok (.value (.float .f64 a.toNat)) w := by kernel_rfl

@[go_sem] theorem run_store_float {P : Program} {w : World} {a : Addr} {m : Mode} (k : FloatKind) (b : Nat) : (store a (.float k b) m).run P w = stored P w a (.float k b) m := run_store P w a _ m rfl
@[go_sem] theorem run_store_complex {P : Program} {w : World} {a : Addr} {m : Mode} (k : FloatKind) (x y : Nat) : (store a (.complex k x y) m).run P w = stored P w a (.complex k x y) m := run_store P w a _ m rfl

theorem and_abs (a : Nat) (ha : W64 a) : (bits .andNot .u64 (a : Int) 9223372036854775808).toNat = absB a := by
  have h := u64_andNot_nat a 9223372036854775808 ha (by decide)
  have e : (((9223372036854775808 : Nat)) : Int) = 9223372036854775808 := rfl
  rw [e] at h
  rw [h, Int.toNat_natCast, show 18446744073709551615 - 9223372036854775808 = 2 ^ 63 - 1 from by decide, Nat.and_two_pow_sub_one_eq_mod]
  rfl

set_option maxHeartbeats 400000 in
theorem abs_any (a : Nat) (w : World) (ha : W64 a) :
    Calls Try.prog 31 #[.float .f64 a] w fun e w' => e = .returned (.float .f64 (absB a)) ∧ w = w' := by
  have h2 := and_abs a ha
  clear ha
  go_enter Try.func31, Try.ntmps31
  go_wp2_with fail
  go_ret
  exact ⟨rfl, rfl⟩

def finB (b : Nat) : Bool := Ieee.double.order (absB b) 9218868437227405311 == some Ordering.lt || Ieee.double.order (absB b) 9218868437227405311 == some Ordering.eq
theorem finB_eq (b : Nat) : finB b = ffin (fl b) := by
  unfold finB ffin fle fbig
  rw [← fl_absB, show (some 9218868437227405311 : F) = fl 9218868437227405311 from by decide, fcmp_bits]

set_option maxHeartbeats 400000 in
theorem finite_any (a : Nat) (w : World) (ha : W64 a) :
    Calls Try.prog 43 #[.float .f64 a] w fun e w' => e = .returned (.bool (finB a)) ∧ w = w' := by
  go_enter Try.func43, Try.ntmps43
  go_wp2_with (go_at_call 31; refine (abs_any _ _ ha).mono ?_; rintro e w' ⟨rfl, rfl⟩)
  go_ret
  exact ⟨rfl, rfl⟩

/-- The field of floats, as floats() makes it. -/
def kF : Array Value := #[.func (.func 31) #[] #[], .func (.func 69) #[] #[], .func (.func 70) #[] #[], .func (.func 43) #[] #[]]

set_option maxHeartbeats 400000 in
theorem floats_any (w : World) :
    Calls Try.prog 40 #[] w fun e w' => e = .returned (.agg kF) ∧ Below w.heap.size w w' := by
  go_enter Try.func40, Try.ntmps40
  go_wp2_with fail
  exact bodyPost_ret (v := .agg kF) (by simp [results, Try.results40, go_sem, kF]) rfl ⟨rfl, (Below.refl _ _).alloc (Nat.le_refl _) _⟩

/-- A float operation in a walk: whatever bits come of it, they stand for what the operation over floats without bits gives; the world may have been asked once. -/
theorem farith_run (op : BinOp) (hop : op = .add ∨ op = .sub ∨ op = .mul ∨ op = .quo) (x y : Nat) (w : World) :
    ∃ r n, (Op.floatArith op .f64 x y).run Try.prog w = .ok (.float .f64 r) (w.drewN n) ∧ W64 r ∧ fl r = fop op (fl x) (fl y) := by
  have hb := fop_bits op x y hop
  cases h : floatBits op .f64 x y with
  | some r =>
    refine ⟨r, 0, run_floatArith w h, ?_, ?_⟩
    · have := floatBits_wf h
      have h3 : r < 18446744073709551616 := by simpa [Lit.wf] using this
      exact h3
    · rw [hb.2 r h, hb.1, h]
  | none =>
    refine ⟨Question.cut (.nanBits .f64 x y) (w.tape w.drawn (.nanBits .f64 x y)), 1, ?_, (cut_no x y _).2, ?_⟩
    · rcases hop with rfl | rfl | rfl | rfl <;> (simp only [floatBits] at h; simp [Op.floatArith, h, choose, Sem.run, Question.forced, World.drewN])
    · rw [fl_no (cut_no x y _).1, hb.1, h]
theorem farith (op : BinOp) (hop : op = .add ∨ op = .sub ∨ op = .mul ∨ op = .quo) (t : TypeId) (x y : Nat) (w : World) :
    ∃ r n, (binOp op t (.float .f64 x) (.float .f64 y)).run Try.prog w = .ok (.float .f64 r) (w.drewN n) ∧ W64 r ∧ fl r = fop op (fl x) (fl y) := by
  obtain ⟨r, n, h⟩ := farith_run op hop x y w
  refine ⟨r, n, ?_, h.2⟩
  rw [← h.1]
  rcases hop with rfl | rfl | rfl | rfl <;> simp [binOp]

set_option maxHeartbeats 400000 in
theorem over_any (a b : Nat) (w : World) :
    Calls Try.prog 69 #[.float .f64 a, .float .f64 b] w fun e w' => ∃ r n, e = .returned (.float .f64 r) ∧ w' = w.drewN n ∧ W64 r ∧ fl r = fdiv (fl a) (fl b) := by
  obtain ⟨r, n, h1, h2, h3⟩ := farith .quo (by simp) 25 a b w
  have H2 := Lib.hid h2; have H3 := Lib.hid h3; clear h2 h3
  go_enter Try.func69, Try.ntmps69
  go_wp2_with fail
  go_ret
  exact ⟨r, n, rfl, rfl, H2.out, H3.out⟩

set_option maxHeartbeats 400000 in
theorem less_any (a f b : Nat) (w : World) :
    Calls Try.prog 70 #[.float .f64 a, .float .f64 f, .float .f64 b] w fun e w' => ∃ r n, e = .returned (.float .f64 r) ∧ w' = w.drewN n ∧ W64 r ∧ fl r = fless (fl a) (fl f) (fl b) := by
  obtain ⟨r, n, h1, h2, h3⟩ := farith .mul (by simp) 25 f b w
  obtain ⟨q, m, g1, g2, g3⟩ := farith .sub (by simp) 25 a r (w.drewN n)
  have H2 := Lib.hid g2
  have H3 : Hid (fl q = fless (fl a) (fl f) (fl b)) := by
    show fl q = fsub (fl a) (fmul (fl f) (fl b))
    rw [g3, h3]; rfl
  clear h2 h3 g2 g3
  go_enter Try.func70, Try.ntmps70
  go_wp2_with fail
  go_ret
  exact ⟨q, n + m, rfl, by simp, H2.out, H3.out⟩

end Go.Proofs.Ytghhanifakllpaa

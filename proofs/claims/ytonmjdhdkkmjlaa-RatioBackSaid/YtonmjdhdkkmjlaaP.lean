/- The clean executor at this program: Go's own functions without a body; what it takes for known. -/
import Derived.Test.YtonmjdhdkkmjlaaB
import Derived.WalkSpells
import Derived.WalkLawsBesides
import Derived.Laws.FloatArith
import Derived.Laws.BitsAllLaws
namespace Go.Proofs.Ytonmjdhdkkmjlaa
open Go.RowKit Go.Clean

/-! ### Functions without a body -/
theorem f64bits_run (a : Nat) (w : World) : (callFunc 71 #[.float .f64 a]).run Try.prog w = .ok (.value (.int .u64 a)) w := by kernel_rfl
theorem f64from_run (a : Int) (w : World) : (callFunc 70 #[.int .u64 a]).run Try.prog w = .ok (.value (.float .f64 a.toNat)) w := by kernel_rfl



def bitsX : List Value → M Value
  | [.float .f64 a] => do
    M.guard (!Clean.isNaN a)
    M.ret (.int .u64 a)
  | _ => .fail
def fromX : List Value → M Value
  | [.int .u64 a] => M.ret (.float .f64 a.toNat)
  | _ => .fail

section
variable {N : Nat} {ρ : Env} {m m' : Mem} {w : World}
set_option maxRecDepth 100000 in
theorem bits_ok (args : List Value) : Local (bitsX args) ∧ ∀ m v m', bitsX args m = some (v, m') → ∀ N ρ w cargs, Rel N ρ m.t.get w → VRs ρ args cargs → Fresh ρ m m' → Does Try.prog N ρ m m' w v (callFunc 71 ⟨cargs⟩) := by
  unfold bitsX
  split
  · rename_i a
    refine ⟨Local.bind (Local.guard _) fun _ => Local.ret _, fun m v m' h N ρ w cargs hr ha hf => ?_⟩
    obtain ⟨u, m1, h1, h2⟩ := Clean.bind_some h
    obtain ⟨hg, rfl⟩ := guard_some h1
    obtain ⟨rfl, rfl⟩ := ret_some h2
    obtain ⟨v', r, rfl, hv, hn⟩ := ha.inv
    obtain rfl := hn.inv0
    obtain ⟨a', rfl, hA⟩ := hv.flt
    obtain rfl := hA.eq (by simpa using hg)
    rw [show (⟨[.float .f64 a']⟩ : Array Value) = #[.float .f64 a'] from rfl]
    exact Does.value (f64bits_run a' w) (.same hr rfl (VR.leaf (v := .int .u64 a') rfl))
  · exact ⟨Local.fail, fun m v m' h => (fail_some h).elim⟩
set_option maxRecDepth 100000 in
theorem from_ok (args : List Value) : Local (fromX args) ∧ ∀ m v m', fromX args m = some (v, m') → ∀ N ρ w cargs, Rel N ρ m.t.get w → VRs ρ args cargs → Fresh ρ m m' → Does Try.prog N ρ m m' w v (callFunc 70 ⟨cargs⟩) := by
  unfold fromX
  split
  · rename_i a
    refine ⟨Local.ret _, fun m v m' h N ρ w cargs hr ha hf => ?_⟩
    obtain ⟨rfl, rfl⟩ := ret_some h
    obtain ⟨v', r, rfl, hv, hn⟩ := ha.inv
    obtain rfl := hn.inv0
    obtain rfl := hv.int
    rw [show (⟨[.int .u64 a]⟩ : Array Value) = #[.int .u64 a] from rfl]
    exact Does.value (f64from_run a w) (.same hr rfl (VR.leaf (v := .float .f64 a.toNat) rfl))
  · exact ⟨Local.fail, fun m v m' h => (fail_some h).elim⟩

/-! ### math.Abs -/
def absB (b : Nat) : Nat := b % 9223372036854775808
theorem and_abs (a : Nat) : (bits .andNot .u64 (a : Int) 9223372036854775808).toNat = absB a := by
  have e0 : bits .andNot .u64 (a : Int) 9223372036854775808 = bits .andNot .u64 ((a % 18446744073709551616 : Nat) : Int) 9223372036854775808 := by
    show IntKind.u64.wrap ((BitVec.ofInt 64 (a : Int) &&& ~~~BitVec.ofInt 64 9223372036854775808).toNat : Int) = IntKind.u64.wrap ((BitVec.ofInt 64 ((a % 18446744073709551616 : Nat) : Int) &&& ~~~BitVec.ofInt 64 9223372036854775808).toNat : Int)
    have : BitVec.ofInt 64 (a : Int) = BitVec.ofInt 64 ((a % 18446744073709551616 : Nat) : Int) := by
      rw [BitVec.ofInt_natCast, BitVec.ofInt_natCast]
      apply BitVec.eq_of_toNat_eq
      simp [BitVec.toNat_ofNat]
    rw [this]
  have h := u64_andNot_nat (a % 18446744073709551616) 9223372036854775808 (Nat.mod_lt _ (by decide)) (by decide)
  have e : (((9223372036854775808 : Nat)) : Int) = 9223372036854775808 := rfl
  rw [e] at h
  rw [e0, h, Int.toNat_natCast, show 18446744073709551615 - 9223372036854775808 = 2 ^ 63 - 1 from by decide, Nat.and_two_pow_sub_one_eq_mod]
  unfold absB
  omega
theorem isNaN_abs (b : Nat) : Clean.isNaN (absB b) = Clean.isNaN b := by
  unfold Clean.isNaN absB Ieee.Format.read
  have hs : Ieee.double.signWeight = 9223372036854775808 := by decide
  simp only [hs, Nat.mod_mod]
  split
  · rfl
  · split
    · rfl
    · split <;> rfl

attribute [local go_sem] f64bits_run f64from_run
set_option maxHeartbeats 400000 in
theorem abs_any (a : Nat) (w : World) :
    Calls Try.prog 36 #[.float .f64 a] w fun e w' => e = .returned (.float .f64 (absB a)) ∧ w = w' := by
  have h2 := and_abs a
  go_enter Try.func36, Try.ntmps36
  go_wp2_with fail
  go_ret
  exact ⟨rfl, rfl⟩

def absX : List Value → M Value
  | [.float .f64 a] => M.ret (.float .f64 (canon (absB a)))
  | _ => .fail
theorem abs_fn (args : Array Value) (W : World) : (callFunc 36 args).run Try.prog W = .ok (.enter 36 args) W := by kernel_rfl
theorem FR_abs {x y : Nat} (h : FR x y) : FR (canon (absB x)) (absB y) := by
  have hn : Clean.isNaN noNum = true := by decide
  rcases h with rfl | ⟨h1, h2⟩
  · unfold canon
    cases hx : Clean.isNaN (absB x) with
    | true => exact .inr ⟨hn, hx⟩
    | false => exact .inl rfl
  · refine .inr ⟨?_, by rw [isNaN_abs]; exact h2⟩
    unfold canon
    rw [isNaN_abs, h1]
    exact hn
set_option maxRecDepth 100000 in
theorem abs_ok (args : List Value) : Local (absX args) ∧ ∀ m v m', absX args m = some (v, m') → ∀ N ρ w cargs, Rel N ρ m.t.get w → VRs ρ args cargs → Fresh ρ m m' → Does Try.prog N ρ m m' w v (callFunc 36 ⟨cargs⟩) := by
  unfold absX
  split
  · rename_i a
    refine ⟨Local.ret _, fun m v m' h N ρ w cargs hr ha hf => ?_⟩
    obtain ⟨rfl, rfl⟩ := ret_some h
    obtain ⟨v', r, rfl, hv, hn⟩ := ha.inv
    obtain rfl := hn.inv0
    obtain ⟨a', rfl, hA⟩ := hv.flt
    rw [show (⟨[.float .f64 a']⟩ : Array Value) = #[.float .f64 a'] from rfl]
    intro r o a K Q hK
    rw [abs_fn]
    refine ⟨fun h => by simp [Fence.wide] at h, CallsIn.mono (callsIn_wide.2 (abs_any a' w)) ?_⟩
    rintro e w' ⟨rfl, rfl⟩
    exact hK _ _ ρ (.same hr rfl ⟨_, rfl, FR_abs hA⟩)
  · exact ⟨Local.fail, fun m v m' h => (fail_some h).elim⟩
end

def known0 : Known := fun f args =>
  bif f == 70 then some (fromX args)
  else bif f == 71 then some (bitsX args)
  else bif f == 36 then some (absX args)
  else none
theorem known0_ok : KnownOK Try.prog known0 := by
  intro f args g h
  unfold known0 at h
  cases h1 : f == 70 with
  | true => simp only [h1, cond_true, Option.some.injEq] at h; subst h; obtain rfl := eq_of_beq h1; exact from_ok args
  | false =>
  cases h2 : f == 71 with
  | true => simp only [h1, h2, cond_true, cond_false, Option.some.injEq] at h; subst h; obtain rfl := eq_of_beq h2; exact bits_ok args
  | false =>
  cases h3 : f == 36 with
  | true => simp only [h1, h2, h3, cond_true, cond_false, Option.some.injEq] at h; subst h; obtain rfl := eq_of_beq h3; exact abs_ok args
  | false => simp only [h1, h2, h3, cond_false] at h; cases h
theorem mix : Try.prog.follows .mixedOrders = true := by kernel_rfl
theorem noC : noCount Try.prog = true := by kernel_rfl
end Go.Proofs.Ytonmjdhdkkmjlaa

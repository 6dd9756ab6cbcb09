/- slices.Backward's closure: the elements of a row, from the last to the first, for every loop body. -/
import Derived.Test.YtigbkoadojjajaaGreatKOZ
import Derived.Test.YtigbkoadojjajaaGreatProg
import Derived.RangeFuncBox
import Derived.Shelf.Abstract
import Derived.WalkKit
import Derived.OwnWalkIn
import Derived.TacticsInMore
import Derived.LoopNIn
import Derived.LoopIn
import Derived.KernelRfl
import Derived.WalkSpells
import Derived.WalkLawsBesides
import Derived.Laws.FloatArith
import Derived.Laws.BitsAllLaws
import Derived.Test.YtigbkoadojjajaaGreatKXZ
set_option linter.unusedSimpArgs false
set_option linter.unusedVariables false
namespace Go.Proofs.YtigbkoadojjajaaGreat
open Go.RowKit Go.Shelf Go.Clean

attribute [local go_sem] Oper.semAt_some

set_option maxRecDepth 100000 in
set_option maxHeartbeats 2000000 in
theorem back_in (l : Nat) (bx : Addr) (n : Nat) (w : World) (R : Ending → World → Prop) (I : Nat → World → Prop) (S : World → Prop) (h0 : I n w) (hn : n ≤ 1048576) (hc : ∃ ad c, w.cell? bx = some (.slice ad n c))
    (hround : ∀ i W, i < n → I (i + 1) W → ∃ ad c x, W.cell? bx = some (.slice (some ad) n c) ∧ ad.spot = none ∧ W.cell? ⟨ad.block, ad.off + i, none⟩ = some x ∧
      ∃ f tmps assign body, (Instr.yield l #[.int .i64 i, x]).run Tryz.prog W = .ok (.round l f tmps assign body) W ∧
        RoundIn (wideR none) 0 Tryz.prog l f tmps assign body W (fun e W' => (e = .returned (.bool true) ∧ I i W') ∨ (e = .returned (.bool false) ∧ S W')))
    (hdone : ∀ W, I 0 W → R (.returned (.tuple #[])) W) (hstop : ∀ W, S W → R (.returned (.tuple #[])) W) :
    CallsIn (wideR none) 0 Tryz.prog 88 #[.func (.yield l) #[] #[], .pointer (some bx)] w R := by
  refine callsIn_of_wp Tryz.func88 rfl trivial ?_ rfl
  obtain ⟨ad, c, hc⟩ := hc
  simp only [Tryz.ntmps88, List.size_toArray, List.length_cons, List.length_nil, Nat.reduceAdd, Nat.reduceSub, Array.replicate_succ, Array.replicate_zero, List.push_toArray, List.append_toArray, List.nil_append, List.cons_append]
  gi_wp2
  gi_loopw [3] (fun i wr => ∃ k : Nat, k ≤ n ∧ i = .int .i64 ((k : Int) - 1) ∧ I k wr)
    (fun i _ => (intOf i + 1).toNat)
  case atStart => exact ⟨n, Nat.le_refl _, by simp, h0⟩
  case round =>
    obtain ⟨k, hk, rfl, hI⟩ := hrel
    cases k with
    | zero =>
      gi_wp2
      go_end0
      exact hdone _ hI
    | succ i =>
      obtain ⟨ad, c, x, hbx, hsp, hx, fn, tmps, assign, body, hy, hR⟩ := hround i wr (by omega) hI
      have hi : (((i + 1 : Nat) : Int) - 1) = (i : Int) := by omega
      rw [hi]
      obtain ⟨ab, ao, asp⟩ := ad
      simp only at hsp hx
      subst hsp
      gi_wp2
      refine ⟨rfl, hR.mono ?_⟩
      rintro e W3 (⟨rfl, hJ3⟩ | ⟨rfl, hS3⟩)
      · gi_wp2
        go_roundw
        case rel => exact ⟨i, by omega, by simp, hJ3⟩
        case measure => simp [intOf]
      · gi_wp2
        exact bodyPost_ret (results_none rfl _ _ _) rfl (hstop _ hS3)

set_option maxRecDepth 100000 in
theorem back_one : (Tryz.prog.funcs.toList.zipIdx.all fun (fn, i) => !isBack fn.name || i == 88) = true := by kernel_rfl
theorem back_fn (args : Array Value) (W : World) : (callFunc 88 args).run Tryz.prog W = .ok (.enter 88 args) W := by kernel_rfl

theorem back_ok : BackOK Tryz.prog := by
  intro it fn hfn hname l bx n w R I S h0 hn hc hround hdone hstop
  have hit : it = 88 := by
    have := List.all_eq_true.1 back_one (fn, it) (by
      rw [List.mem_zipIdx_iff_getElem?]
      simpa using hfn)
    simpa [hname] using this
  subst hit
  exact ⟨fun args W => back_fn args W, back_in l bx n w R I S h0 hn hc hround hdone hstop⟩
end Go.Proofs.YtigbkoadojjajaaGreat

/- The clean executor at this program: Go's own functions without a body; what it takes for known. -/
namespace Go.Proofs.YtigbkoadojjajaaGreat
open Go.RowKit Go.Clean

/-! ### Functions without a body -/
theorem f64bits_run (a : Nat) (w : World) : (callFunc 16 #[.float .f64 a]).run Tryz.prog w = .ok (.value (.int .u64 a)) w := by kernel_rfl
theorem f64from_run (a : Int) (w : World) : (callFunc 15 #[.int .u64 a]).run Tryz.prog w = .ok (.value (.float .f64 a.toNat)) w := by kernel_rfl



def bitsX : List Value → M Value
  | [.float .f64 a] => do
    M.guard (!Clean.isNaN a)
    M.ret (.int .u64 a)
  | _ => .fail
def fromX : List Value → M Value
  | [.int .u64 a] => M.ret (.float .f64 a.toNat)
  | _ => .fail

section
variable {N : Nat} {ρ : Env} {m m' : Mem} {w : World}
set_option maxRecDepth 100000 in
theorem bits_ok (args : List Value) : Local (bitsX args) ∧ ∀ m v m', bitsX args m = some (v, m') → ∀ N ρ w cargs, Rel N ρ m.t.get w → VRs ρ args cargs → Fresh ρ m m' → Does Tryz.prog N ρ m m' w v (callFunc 16 ⟨cargs⟩) := by
  unfold bitsX
  split
  · rename_i a
    refine ⟨Local.bind (Local.guard _) fun _ => Local.ret _, fun m v m' h N ρ w cargs hr ha hf => ?_⟩
    obtain ⟨u, m1, h1, h2⟩ := Clean.bind_some h
    obtain ⟨hg, rfl⟩ := guard_some h1
    obtain ⟨rfl, rfl⟩ := ret_some h2
    obtain ⟨v', r, rfl, hv, hn⟩ := ha.inv
    obtain rfl := hn.inv0
    obtain ⟨a', rfl, hA⟩ := hv.flt
    obtain rfl := hA.eq (by simpa using hg)
    rw [show (⟨[.float .f64 a']⟩ : Array Value) = #[.float .f64 a'] from rfl]
    exact Does.value (f64bits_run a' w) (.same hr rfl (VR.leaf (v := .int .u64 a') rfl))
  · exact ⟨Local.fail, fun m v m' h => (fail_some h).elim⟩
set_option maxRecDepth 100000 in
theorem from_ok (args : List Value) : Local (fromX args) ∧ ∀ m v m', fromX args m = some (v, m') → ∀ N ρ w cargs, Rel N ρ m.t.get w → VRs ρ args cargs → Fresh ρ m m' → Does Tryz.prog N ρ m m' w v (callFunc 15 ⟨cargs⟩) := by
  unfold fromX
  split
  · rename_i a
    refine ⟨Local.ret _, fun m v m' h N ρ w cargs hr ha hf => ?_⟩
    obtain ⟨rfl, rfl⟩ := ret_some h
    obtain ⟨v', r, rfl, hv, hn⟩ := ha.inv
    obtain rfl := hn.inv0
    obtain rfl := hv.int
    rw [show (⟨[.int .u64 a]⟩ : Array Value) = #[.int .u64 a] from rfl]
    exact Does.value (f64from_run a w) (.same hr rfl (VR.leaf (v := .float .f64 a.toNat) rfl))
  · exact ⟨Local.fail, fun m v m' h => (fail_some h).elim⟩

/-! ### math.Abs -/
def absB (b : Nat) : Nat := b % 9223372036854775808
theorem and_abs (a : Nat) : (bits .andNot .u64 (a : Int) 9223372036854775808).toNat = absB a := by
  have e0 : bits .andNot .u64 (a : Int) 9223372036854775808 = bits .andNot .u64 ((a % 18446744073709551616 : Nat) : Int) 9223372036854775808 := by
    show IntKind.u64.wrap ((BitVec.ofInt 64 (a : Int) &&& ~~~BitVec.ofInt 64 9223372036854775808).toNat : Int) = IntKind.u64.wrap ((BitVec.ofInt 64 ((a % 18446744073709551616 : Nat) : Int) &&& ~~~BitVec.ofInt 64 9223372036854775808).toNat : Int)
    have : BitVec.ofInt 64 (a : Int) = BitVec.ofInt 64 ((a % 18446744073709551616 : Nat) : Int) := by
      rw [BitVec.ofInt_natCast, BitVec.ofInt_natCast]
      apply BitVec.eq_of_toNat_eq
      simp [BitVec.toNat_ofNat]
    rw [this]
  have h := u64_andNot_nat (a % 18446744073709551616) 9223372036854775808 (Nat.mod_lt _ (by decide)) (by decide)
  have e : (((9223372036854775808 : Nat)) : Int) = 9223372036854775808 := rfl
  rw [e] at h
  rw [e0, h, Int.toNat_natCast, show 18446744073709551615 - 9223372036854775808 = 2 ^ 63 - 1 from by decide, Nat.and_two_pow_sub_one_eq_mod]
  unfold absB
  omega
theorem isNaN_abs (b : Nat) : Clean.isNaN (absB b) = Clean.isNaN b := by
  unfold Clean.isNaN absB Ieee.Format.read
  have hs : Ieee.double.signWeight = 9223372036854775808 := by decide
  simp only [hs, Nat.mod_mod]
  split
  · rfl
  · split
    · rfl
    · split <;> rfl

attribute [local go_sem] f64bits_run f64from_run
set_option maxHeartbeats 400000 in
theorem abs_any (a : Nat) (w : World) :
    Calls Tryz.prog 6 #[.float .f64 a] w fun e w' => e = .returned (.float .f64 (absB a)) ∧ w = w' := by
  have h2 := and_abs a
  go_enter Tryz.func6, Tryz.ntmps6
  go_wp2_with fail
  go_ret
  exact ⟨rfl, rfl⟩

def absX : List Value → M Value
  | [.float .f64 a] => M.ret (.float .f64 (canon (absB a)))
  | _ => .fail
theorem abs_fn (args : Array Value) (W : World) : (callFunc 6 args).run Tryz.prog W = .ok (.enter 6 args) W := by kernel_rfl
theorem FR_abs {x y : Nat} (h : FR x y) : FR (canon (absB x)) (absB y) := by
  have hn : Clean.isNaN noNum = true := by decide
  rcases h with rfl | ⟨h1, h2⟩
  · unfold canon
    cases hx : Clean.isNaN (absB x) with
    | true => exact .inr ⟨hn, hx⟩
    | false => exact .inl rfl
  · refine .inr ⟨?_, by rw [isNaN_abs]; exact h2⟩
    unfold canon
    rw [isNaN_abs, h1]
    exact hn
set_option maxRecDepth 100000 in
theorem abs_ok (args : List Value) : Local (absX args) ∧ ∀ m v m', absX args m = some (v, m') → ∀ N ρ w cargs, Rel N ρ m.t.get w → VRs ρ args cargs → Fresh ρ m m' → Does Tryz.prog N ρ m m' w v (callFunc 6 ⟨cargs⟩) := by
  unfold absX
  split
  · rename_i a
    refine ⟨Local.ret _, fun m v m' h N ρ w cargs hr ha hf => ?_⟩
    obtain ⟨rfl, rfl⟩ := ret_some h
    obtain ⟨v', r, rfl, hv, hn⟩ := ha.inv
    obtain rfl := hn.inv0
    obtain ⟨a', rfl, hA⟩ := hv.flt
    rw [show (⟨[.float .f64 a']⟩ : Array Value) = #[.float .f64 a'] from rfl]
    intro r o a K Q hK
    rw [abs_fn]
    refine ⟨fun h => by simp [Fence.wide] at h, CallsIn.mono (callsIn_wide.2 (abs_any a' w)) ?_⟩
    rintro e w' ⟨rfl, rfl⟩
    exact hK _ _ ρ (.same hr rfl ⟨_, rfl, FR_abs hA⟩)
  · exact ⟨Local.fail, fun m v m' h => (fail_some h).elim⟩

theorem whole_run {P : Program} (name : String) (way : Ieee.Toward) (x : Nat) (w : World) (h : (FloatKind.f64.decode x).isNaN = false) :
    (Extern.MathFloor.toIntegral name way #[.float .f64 x]).run P w = .ok (.float .f64 (FloatKind.f64.encode ((FloatKind.f64.decode x).integral way))) w := by
  have key : ∀ (d : Ieee.Datum) (_ : d.isNaN = false) (A : Bool → Nat → Sem Value) (B : Ieee.Datum → Sem Value),
      (Extern.MathFloor.toIntegral.match_1 (fun _ => Sem Value) d A B).run P w = (B d).run P w := by
    intro d hd A B
    cases d <;> first | rfl | cases hd
  exact key (FloatKind.f64.decode x) h _ _
theorem sqrt_run0 {P : Program} (x q : Nat) (w : World) (h : FloatKind.f64.format.sqrt x = some q) :
    (Extern.MathSqrt.sqrt #[.float .f64 x]).run P w = .ok (.float .f64 q) w := by
  have key : ∀ (o : Option Nat) (_ : o = some q) (A : Nat → Sem Value) (B : Unit → Sem Value),
      (Extern.MathSqrt.sqrt.match_1 (fun _ => Sem Value) o A B).run P w = (A q).run P w := by
    rintro o rfl A B
    rfl
  exact key (FloatKind.f64.format.sqrt x) h _ _

theorem trunc_run (x : Nat) (w : World) : (callFunc 91 #[.float .f64 x]).run Tryz.prog w = (do let v ← Extern.MathFloor.toIntegral "math.archTrunc" .zero #[.float .f64 x]; pure (Next.value v) : Sem Next).run Tryz.prog w := by kernel_rfl
def truncX : List Value → M Value
  | [.float .f64 x] => do
    M.guard (!Clean.isNaN x)
    M.ret (.float .f64 (FloatKind.f64.encode ((FloatKind.f64.decode x).integral .zero)))
  | _ => .fail
set_option maxRecDepth 100000 in
theorem trunc_ok (args : List Value) : Local (truncX args) ∧ ∀ m v m', truncX args m = some (v, m') → ∀ N ρ w cargs, Rel N ρ m.t.get w → VRs ρ args cargs → Fresh ρ m m' → Does Tryz.prog N ρ m m' w v (callFunc 91 ⟨cargs⟩) := by
  unfold truncX
  split
  · rename_i x
    refine ⟨Local.bind (Local.guard _) fun _ => Local.ret _, fun m v m' h N ρ w cargs hr ha hf => ?_⟩
    obtain ⟨u, m1, h1, h2⟩ := Clean.bind_some h
    obtain ⟨hg, rfl⟩ := guard_some h1
    obtain ⟨rfl, rfl⟩ := ret_some h2
    obtain ⟨v', r, rfl, hv, hn⟩ := ha.inv
    obtain rfl := hn.inv0
    obtain ⟨x', rfl, hA⟩ := hv.flt
    obtain rfl := hA.eq (by simpa using hg)
    rw [show (⟨[.float .f64 x']⟩ : Array Value) = #[.float .f64 x'] from rfl]
    have hno0 : Clean.isNaN x' = false := by simpa using hg
    have hno : (FloatKind.f64.decode x').isNaN = false := hno0
    refine Does.value (v' := .float .f64 (FloatKind.f64.encode ((FloatKind.f64.decode x').integral .zero))) (w' := w) ?_ (.same hr rfl (VR.leaf (v := .float .f64 _) rfl))
    rw [trunc_run, Sem.run_bind, whole_run _ .zero x' w hno]
    rfl
  · exact ⟨Local.fail, fun m v m' h => (fail_some h).elim⟩

theorem even_run (x : Nat) (w : World) : (callFunc 165 #[.float .f64 x]).run Tryz.prog w = (do let v ← Extern.MathFloor.toIntegral "math.RoundToEven" .even #[.float .f64 x]; pure (Next.value v) : Sem Next).run Tryz.prog w := by kernel_rfl
def evenX : List Value → M Value
  | [.float .f64 x] => do
    M.guard (!Clean.isNaN x)
    M.ret (.float .f64 (FloatKind.f64.encode ((FloatKind.f64.decode x).integral .even)))
  | _ => .fail
set_option maxRecDepth 100000 in
theorem even_ok (args : List Value) : Local (evenX args) ∧ ∀ m v m', evenX args m = some (v, m') → ∀ N ρ w cargs, Rel N ρ m.t.get w → VRs ρ args cargs → Fresh ρ m m' → Does Tryz.prog N ρ m m' w v (callFunc 165 ⟨cargs⟩) := by
  unfold evenX
  split
  · rename_i x
    refine ⟨Local.bind (Local.guard _) fun _ => Local.ret _, fun m v m' h N ρ w cargs hr ha hf => ?_⟩
    obtain ⟨u, m1, h1, h2⟩ := Clean.bind_some h
    obtain ⟨hg, rfl⟩ := guard_some h1
    obtain ⟨rfl, rfl⟩ := ret_some h2
    obtain ⟨v', r, rfl, hv, hn⟩ := ha.inv
    obtain rfl := hn.inv0
    obtain ⟨x', rfl, hA⟩ := hv.flt
    obtain rfl := hA.eq (by simpa using hg)
    rw [show (⟨[.float .f64 x']⟩ : Array Value) = #[.float .f64 x'] from rfl]
    have hno0 : Clean.isNaN x' = false := by simpa using hg
    have hno : (FloatKind.f64.decode x').isNaN = false := hno0
    refine Does.value (v' := .float .f64 (FloatKind.f64.encode ((FloatKind.f64.decode x').integral .even))) (w' := w) ?_ (.same hr rfl (VR.leaf (v := .float .f64 _) rfl))
    rw [even_run, Sem.run_bind, whole_run _ .even x' w hno]
    rfl
  · exact ⟨Local.fail, fun m v m' h => (fail_some h).elim⟩

theorem sqrt_run (x : Nat) (w : World) : (callFunc 140 #[.float .f64 x]).run Tryz.prog w = (do let v ← Extern.MathSqrt.sqrt #[.float .f64 x]; pure (Next.value v) : Sem Next).run Tryz.prog w := by kernel_rfl
def sqrtX : List Value → M Value
  | [.float .f64 x] => do
    M.guard (!Clean.isNaN x)
    match FloatKind.f64.format.sqrt x with
    | some r => M.ret (.float .f64 r)
    | none => .fail
  | _ => .fail
set_option maxRecDepth 100000 in
theorem sqrt_ok (args : List Value) : Local (sqrtX args) ∧ ∀ m v m', sqrtX args m = some (v, m') → ∀ N ρ w cargs, Rel N ρ m.t.get w → VRs ρ args cargs → Fresh ρ m m' → Does Tryz.prog N ρ m m' w v (callFunc 140 ⟨cargs⟩) := by
  unfold sqrtX
  split
  · rename_i x
    refine ⟨Local.bind (Local.guard _) fun _ => by cases FloatKind.f64.format.sqrt x <;> first | exact Local.ret _ | exact Local.fail, fun m v m' h N ρ w cargs hr ha hf => ?_⟩
    obtain ⟨u, m1, h1, h2⟩ := Clean.bind_some h
    obtain ⟨hg, rfl⟩ := guard_some h1
    cases hs : FloatKind.f64.format.sqrt x with
    | none => simp only [hs] at h2; exact (fail_some h2).elim
    | some q =>
    simp only [hs] at h2
    obtain ⟨rfl, rfl⟩ := ret_some h2
    obtain ⟨v', r, rfl, hv, hn⟩ := ha.inv
    obtain rfl := hn.inv0
    obtain ⟨x', rfl, hA⟩ := hv.flt
    obtain rfl := hA.eq (by simpa using hg)
    rw [show (⟨[.float .f64 x']⟩ : Array Value) = #[.float .f64 x'] from rfl]
    refine Does.value (v' := .float .f64 q) (w' := w) ?_ (.same hr rfl (VR.leaf (v := .float .f64 _) rfl))
    rw [sqrt_run, Sem.run_bind, sqrt_run0 x' q w hs]
    rfl
  · exact ⟨Local.fail, fun m v m' h => (fail_some h).elim⟩
end

def known0 : Known := fun f args =>
  bif f == 15 then some (fromX args)
  else bif f == 16 then some (bitsX args)
  else bif f == 6 then some (absX args)
  else bif f == 91 then some (truncX args)
  else bif f == 165 then some (evenX args)
  else bif f == 140 then some (sqrtX args)
  else none
theorem known0_ok : KnownOK Tryz.prog known0 := by
  intro f args g h
  unfold known0 at h
  cases h0 : f == 15 with
  | true => simp only [h0, cond_true, cond_false, Option.some.injEq] at h; subst h; obtain rfl := eq_of_beq h0; exact from_ok args
  | false =>
  cases h1 : f == 16 with
  | true => simp only [h0, h1, cond_true, cond_false, Option.some.injEq] at h; subst h; obtain rfl := eq_of_beq h1; exact bits_ok args
  | false =>
  cases h2 : f == 6 with
  | true => simp only [h0, h1, h2, cond_true, cond_false, Option.some.injEq] at h; subst h; obtain rfl := eq_of_beq h2; exact abs_ok args
  | false =>
  cases h3 : f == 91 with
  | true => simp only [h0, h1, h2, h3, cond_true, cond_false, Option.some.injEq] at h; subst h; obtain rfl := eq_of_beq h3; exact trunc_ok args
  | false =>
  cases h4 : f == 165 with
  | true => simp only [h0, h1, h2, h3, h4, cond_true, cond_false, Option.some.injEq] at h; subst h; obtain rfl := eq_of_beq h4; exact even_ok args
  | false =>
  cases h5 : f == 140 with
  | true => simp only [h0, h1, h2, h3, h4, h5, cond_true, cond_false, Option.some.injEq] at h; subst h; obtain rfl := eq_of_beq h5; exact sqrt_ok args
  | false =>
  simp only [h0, h1, h2, h3, h4, h5, cond_false] at h; cases h
theorem mix : Tryz.prog.follows .mixedOrders = true := by kernel_rfl
theorem noC : noCount Tryz.prog = true := by kernel_rfl
end Go.Proofs.YtigbkoadojjajaaGreat

/- The clean executor at chapter 16: all that it takes for known. -/
namespace Go.Proofs.YtigbkoadojjajaaGreat
open Go.RowKit Go.Clean
set_option maxRecDepth 100000

theorem call0_ok (n : Nat) : CallOK Tryz.prog (callN Tryz.prog known0 n) := callN_ok known0_ok mix back_ok noC n
/-- Closed calls that come to what they come to, wherever. -/
def memoT : List (FuncId × List Value × Value) := [
  (4, [], .bool true),
  (123, [.int .u64 1], .int .i64 1),
  (123, [.int .u64 2], .int .i64 2),
  (123, [.int .u64 3], .int .i64 2),
  (67, [.float .f64 4607182418800017408], .bool true),
  (67, [.float .f64 4611686018427387904], .bool true),
  (67, [.float .f64 4613937818241073152], .bool true)]
def lookT (f : FuncId) (args : List Value) : List (FuncId × List Value × Value) → Option Value
  | [] => none
  | (g, l, v) :: r => bif f == g then (bif eqVs args l then some v else lookT f args r) else lookT f args r
def Good (f : FuncId) (args : List Value) (v : Value) : Prop := Local (M.ret v) ∧
    ∀ m v1 m1, M.ret v m = some (v1, m1) → ∀ N ρ w cargs, Rel N ρ m.t.get w → VRs ρ args cargs → Fresh ρ m m1 → Does Tryz.prog N ρ m m1 w v1 (callFunc f ⟨cargs⟩)
theorem memoT_good : ∀ e ∈ memoT, Good e.1 e.2.1 e.2.2 := by
  intro e he
  simp only [memoT, List.mem_cons, List.not_mem_nil, or_false] at he
  rcases he with rfl | rfl | rfl | rfl | rfl | rfl | rfl
  all_goals exact memo_ok (call0_ok 60) (by kernel_rfl) rfl rfl
theorem lookT_good {f : FuncId} {args : List Value} {v : Value} : ∀ {l : List (FuncId × List Value × Value)}, (∀ e ∈ l, Good e.1 e.2.1 e.2.2) → lookT f args l = some v → Good f args v
  | [], _, h => by cases h
  | (g, a, u) :: r, hg, h => by
    unfold lookT at h
    have hr := fun h' => lookT_good (f := f) (args := args) (v := v) (l := r) (fun e he => hg e (List.mem_cons_of_mem _ he)) h'
    cases h1 : f == g with
    | false => rw [h1] at h; exact hr h
    | true =>
      rw [h1] at h
      cases h2 : eqVs args a with
      | false => rw [h2] at h; exact hr h
      | true =>
        rw [h2] at h
        obtain rfl := eq_of_beq h1
        obtain rfl := eqVs_eq h2
        cases h
        exact hg _ (List.mem_cons_self ..)
def known : Known := fun f args => match lookT f args memoT with
  | some v => some (M.ret v)
  | none => known0 f args
theorem known_ok : KnownOK Tryz.prog known := by
  intro f args g h
  unfold known at h
  cases hl : lookT f args memoT with
  | some v =>
    rw [hl] at h
    cases h
    exact lookT_good memoT_good hl
  | none =>
    rw [hl] at h
    exact known0_ok f args g h
end Go.Proofs.YtigbkoadojjajaaGreat

/- slices.Backward's closure: the elements of a row, from the last to the first, for every loop body. -/
import Derived.Test.YtonmjdhdkkmjlaaKO
import Derived.Test.YtonmjdhdkkmjlaaProg
import Derived.RangeFuncBox
import Derived.Shelf.Abstract
import Derived.WalkKit
import Derived.OwnWalkIn
import Derived.TacticsInMore
import Derived.LoopNIn
import Derived.LoopIn
import Derived.KernelRfl
namespace Go.Proofs.Ytonmjdhdkkmjlaa
open Go.RowKit Go.Shelf Go.Clean

attribute [local go_sem] Oper.semAt_some

set_option maxRecDepth 100000 in
set_option maxHeartbeats 2000000 in
theorem back_in (l : Nat) (bx : Addr) (n : Nat) (w : World) (R : Ending → World → Prop) (I : Nat → World → Prop) (S : World → Prop) (h0 : I n w) (hn : n ≤ 1048576) (hc : ∃ ad c, w.cell? bx = some (.slice ad n c))
    (hround : ∀ i W, i < n → I (i + 1) W → ∃ ad c x, W.cell? bx = some (.slice (some ad) n c) ∧ ad.spot = none ∧ W.cell? ⟨ad.block, ad.off + i, none⟩ = some x ∧
      ∃ f tmps assign body, (Instr.yield l #[.int .i64 i, x]).run Try.prog W = .ok (.round l f tmps assign body) W ∧
        RoundIn (wideR none) 0 Try.prog l f tmps assign body W (fun e W' => (e = .returned (.bool true) ∧ I i W') ∨ (e = .returned (.bool false) ∧ S W')))
    (hdone : ∀ W, I 0 W → R (.returned (.tuple #[])) W) (hstop : ∀ W, S W → R (.returned (.tuple #[])) W) :
    CallsIn (wideR none) 0 Try.prog 85 #[.func (.yield l) #[] #[], .pointer (some bx)] w R := by
  refine callsIn_of_wp Try.func85 rfl trivial ?_ rfl
  obtain ⟨ad, c, hc⟩ := hc
  simp only [Try.ntmps85, List.size_toArray, List.length_cons, List.length_nil, Nat.reduceAdd, Nat.reduceSub, Array.replicate_succ, Array.replicate_zero, List.push_toArray, List.append_toArray, List.nil_append, List.cons_append]
  gi_wp2
  gi_loopw [3] (fun i wr => ∃ k : Nat, k ≤ n ∧ i = .int .i64 ((k : Int) - 1) ∧ I k wr)
    (fun i _ => (intOf i + 1).toNat)
  case atStart => exact ⟨n, Nat.le_refl _, by simp, h0⟩
  case round =>
    obtain ⟨k, hk, rfl, hI⟩ := hrel
    cases k with
    | zero =>
      gi_wp2
      go_end0
      exact hdone _ hI
    | succ i =>
      obtain ⟨ad, c, x, hbx, hsp, hx, fn, tmps, assign, body, hy, hR⟩ := hround i wr (by omega) hI
      have hi : (((i + 1 : Nat) : Int) - 1) = (i : Int) := by omega
      rw [hi]
      obtain ⟨ab, ao, asp⟩ := ad
      simp only at hsp hx
      subst hsp
      gi_wp2
      refine ⟨rfl, hR.mono ?_⟩
      rintro e W3 (⟨rfl, hJ3⟩ | ⟨rfl, hS3⟩)
      · gi_wp2
        go_roundw
        case rel => exact ⟨i, by omega, by simp, hJ3⟩
        case measure => simp [intOf]
      · gi_wp2
        exact bodyPost_ret (results_none rfl _ _ _) rfl (hstop _ hS3)

set_option maxRecDepth 100000 in
theorem back_one : (Try.prog.funcs.toList.zipIdx.all fun (fn, i) => !isBack fn.name || i == 85) = true := by kernel_rfl
theorem back_fn (args : Array Value) (W : World) : (callFunc 85 args).run Try.prog W = .ok (.enter 85 args) W := by kernel_rfl

theorem back_ok : BackOK Try.prog := by
  intro it fn hfn hname l bx n w R I S h0 hn hc hround hdone hstop
  have hit : it = 85 := by
    have := List.all_eq_true.1 back_one (fn, it) (by
      rw [List.mem_zipIdx_iff_getElem?]
      simpa using hfn)
    simpa [hname] using this
  subst hit
  exact ⟨fun args W => back_fn args W, back_in l bx n w R I S h0 hn hc hround hdone hstop⟩
end Go.Proofs.Ytonmjdhdkkmjlaa

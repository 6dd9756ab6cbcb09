/- The clean executor at chapters 8 and 10: all that it takes for known. -/
import Derived.Test.YtonmjdhdkkmjlaaVB
import Derived.Test.YtonmjdhdkkmjlaaKX
namespace Go.Proofs.Ytonmjdhdkkmjlaa
open Go.RowKit Go.Clean
set_option maxRecDepth 100000

theorem call0_ok (n : Nat) : CallOK Try.prog (callN Try.prog known0 n) := callN_ok known0_ok mix back_ok noC n
/-- What a closed walk of plain arguments comes to, it always comes to. -/
theorem memo_gives {P : Program} {call : Caller} (hcall : CallOK P call) {f : FuncId} {lits : List Value} {v : Value} (hg : Gives (call f lits) .empty fun u _ => u = v) (hl : lits.all plainV = true) (hv : plainV v = true) : Local (M.ret v) ∧
    ∀ m v1 m1, M.ret v m = some (v1, m1) → ∀ N ρ w cargs, Rel N ρ m.t.get w → VRs ρ lits cargs → Fresh ρ m m1 → Does P N ρ m m1 w v1 (callFunc f ⟨cargs⟩) := by
  refine ⟨Local.ret _, fun m v1 m1 h N ρ w cargs hr ha hf => ?_⟩
  obtain ⟨rfl, rfl⟩ := ret_some h
  obtain ⟨u, m', hc, rfl⟩ := hg
  intro r o a K Q hK
  refine hcall f lits .empty u m' hc w.heap.size (fun _ => Option.none) w cargs (Rel.none w) (VRs.move hl ha) (fun _ _ _ => rfl) r o a K Q fun v' w' ρ' hA => ?_
  exact hK v' w' ρ ⟨.refl ρ, fun b h h' => absurd h h', hr.later hA.below.below, VR.move hv hA.val, Keeps.of_below hr.base hA.below.below, fun b p h h' => absurd (h.symm.trans h') (by simp)⟩
theorem gives_of_true {f : M Value} {m : Mem} (h : isTrue (f m) = true) : Gives f m fun u _ => u = .bool true := by
  unfold Gives
  unfold isTrue at h
  split at h
  · rename_i m' e
    exact ⟨_, _, e, rfl⟩
  · cases h
def aliveX : List Value → Option (M Value)
  | [] => some (M.ret (.bool true))
  | _ => none
def known : Known := fun f args =>
  bif f == 6 then aliveX args
  else bif f == 20 then aliveX args
  else known0 f args
theorem known_ok : KnownOK Try.prog known := by
  intro f args g h
  unfold known at h
  cases h0 : f == 6 with
  | true =>
    simp only [h0, cond_true] at h
    obtain rfl := eq_of_beq h0
    unfold aliveX at h
    split at h
    · cases h
      exact memo_gives (call0_ok 60) (gives_of_true alive8_run) rfl rfl
    · cases h
  | false =>
  cases h1 : f == 20 with
  | true =>
    simp only [h0, h1, cond_true, cond_false] at h
    obtain rfl := eq_of_beq h1
    unfold aliveX at h
    split at h
    · cases h
      exact memo_gives (call0_ok 60) (gives_of_true alive10_run) rfl rfl
    · cases h
  | false =>
  simp only [h0, h1, cond_false] at h
  exact known0_ok f args g h
end Go.Proofs.Ytonmjdhdkkmjlaa

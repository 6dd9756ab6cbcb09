/- TracerNames: the numbers of chapter 26. No condition. -/
import Derived.Test.YtjddmnfdnnbbhaaGreatRows
import Derived.Test.YtjddmnfdnnbbhaaGreatUjZ
import Derived.ProofKit
import Derived.OpenShut
set_option linter.unusedSimpArgs false
set_option linter.unusedVariables false
namespace Go.Proofs.YtjddmnfdnnbbhaaGreat
open Go.ChangeShapes Go.WideShapes Go.ChangeAt Go.RowKit

theorem own : ownKnob Tryz.prog.godebug = none := by kernel_rfl

theorem names_walk (w : World) : Calls Tryz.prog 3 #[] w fun e w' => e = .returned (.bool true) ∧ Below w.heap.size w w' := by
  have hr : Clean.Rel w.heap.size (fun _ => none) (Clean.Mem.empty.t.get) w := ⟨Nat.le_refl _, fun b x hb => by simp [Clean.Mem.empty, Clean.Trie.get] at hb, fun b b' x x' p p' _ hb => by simp [Clean.Mem.empty, Clean.Trie.get] at hb, fun b x p hb => by simp [Clean.Mem.empty, Clean.Trie.get] at hb⟩
  have hw : MW Clean.Mem.empty := fun b x hb => by
    have : (Clean.Mem.empty.t.get b) = some x := hb
    simp [Clean.Mem.empty, Clean.Trie.get] at this
  obtain ⟨_, hcall⟩ := names_ok hw (Q := fun v _ => v = .bool true) (fun _ _ => rfl) w.heap.size (fun _ => none) w [] hr .nil (fun _ _ => rfl)
  refine Calls.mono (callsIn_wide.1 hcall) ?_
  rintro e w' ⟨v, v', m', ρ', rfl, rfl, _, hA⟩
  have hv : v' = .bool true := hA.val.bool
  exact ⟨by rw [hv], hA.below.below⟩

set_option maxRecDepth 100000 in
theorem names_lifted (os : Os) (started : os.Started) (H : Type) (enc : TypeId × Value → H) :
    ReturnsInHanded {} Tryz.checked os 3 .any (Rows.tracerNamesSpec.pre6 enc Tryz.prog Tryz.f3 Rows.tracerNamesRow.domain false) (Rows.tracerNamesSpec.post enc Tryz.prog Tryz.f3 false true false false) := by
  refine returnsInHanded_of_change (C := Tryz.checked) own started (by kernel_rfl) Tryz.func3
    (ChangeSpec.witness6 (enc := enc) (C := Tryz.checked) false ⟨#[], #[], []⟩ 8 (by kernel_rfl) (by kernel_rfl) (by kernel_rfl) (by kernel_rfl)) ?_
  intro W base args ds gs before hval0 hW hcnd _
  have hval : ∀ (j : Nat) t v, Tryz.f3.params[j]? = some t → args[j]? = some v → Value.okWide Tryz.prog W .any base t v := hval0
  have hW' := hW
  obtain ⟨p, q, hA0, hV, rfl, hfz, hnd⟩ := hW
  have hA : DataW.TrodAll enc Tryz.prog W 0 (fun _ => true) true Tryz.f3.params.toList args.toList ds p := hA0
  rw [Tryz.params3] at hA hval
  obtain ⟨rfl, rfl, rfl⟩ := trodAll_none hA
  obtain ⟨rfl, rfl⟩ := trodVars_none hV
  clear hA0 hval0
  simp only [List.append_nil] at hW'
  refine (names_walk W).mono fun e W' ⟨he, hg⟩ => ?_
  subst he
  exact ⟨_, rfl, [], [], [], [], [], [], hW', trodAll_cons_mk (shut_bool Tryz.underlying4 _) trodAll_mk0, trodAll_mk0, rfl, hg.frame _, fun h => by cases h⟩

theorem names_over : Rows.tracerNamesRow.holds Tryz.pinned (OpenSpec.ofChange Rows.tracerNamesSpec) :=
  OpenClaim.holds_of_wide 3 Tryz.f3 rfl rfl rfl rfl rfl rfl rfl ⟨rfl, rfl, rfl, rfl, rfl⟩ rfl rfl rfl rfl rfl (by kernel_rfl) Tryz.func3 (by kernel_rfl)
    (of_decide_eq_true (by kernel_rfl)) (by unfold Func.isWrapper; first | (rw [if_pos (by decide +kernel)]; kernel_rfl) | (rw [if_neg (by decide +kernel)]; exact ⟨rfl, rfl⟩))
    (fun os started H enc _ => names_lifted os started H enc)

theorem tracerNames_holds : Rows.TracerNamesSaid := names_over
end Go.Proofs.YtjddmnfdnnbbhaaGreat

/- RatioBack: of every list of whole numbers: at most three poles with residues, out of it, put together, have these poles and residues. No condition. -/
import Derived.Test.YtonmjdhdkkmjlaaQQ
import Derived.Test.YtonmjdhdkkmjlaaSE
namespace Go.Proofs.Ytonmjdhdkkmjlaa
open Go.RowKit Go.Clean Go.ChangeShapes Go.WideShapes Go.ChangeAt
set_option maxRecDepth 100000

section
variable {H : Type} {enc : TypeId × Value → H} {W : World}
theorem ratioBack_walk {v0 : Value} {y0 : List Int} (h0 : RowI W v0 y0) :
    Calls Try.prog 5 #[v0] W fun e W' => e = .returned (.bool true) ∧ Below W.heap.size W W' := by
  obtain ⟨V, hV⟩ : ∃ V : Nat → Value, V = fun _ => v0 := ⟨_, rfl⟩
  obtain ⟨X, hX⟩ : ∃ X : Nat → List Int, X = fun _ => y0 := ⟨_, rfl⟩
  have e0 : V 0 = v0 := by rw [hV]
  have hR : ∀ b, b < 1 → RowI W (V b) (X b) := fun b hb => by
    rw [hV, hX]
    exact h0
  obtain ⟨r, m', hrun, rfl⟩ := ratioBack_ok 0 (memOf_wf (argL 1 X)) (arg_IL hR (b := 0) (by omega)) (Q := fun r _ => r = .bool true) fun _ _ => rfl
  have a0 := arg_VR (V := V) hR (b := 0) (by omega)
  rw [e0] at a0
  rw [e0] at hrun
  refine (calls_of known_ok mix back_ok noC (n := 13) rfl hrun (arg_rel hR) (.cons a0 .nil) arg_fresh).mono fun e W' he => ?_
  obtain ⟨v', ρ', rfl, hA⟩ := he
  exact ⟨by rw [hA.val.bool], hA.below.below⟩
end
theorem ratioBack_lifted (os : Os) (started : os.Started) (H : Type) (enc : TypeId × Value → H) :
    ReturnsInHanded {} Try.checked os 5 .any (Rows.ratioBackSpec.pre6 enc Try.prog Try.f5 Rows.ratioBackRow.domain false) (Rows.ratioBackSpec.post enc Try.prog Try.f5 false true false false) := by
  refine returnsInHanded_of_change (C := Try.checked) knob started (by kernel_rfl) Try.func5
    (ChangeSpec.witness6 (enc := enc) (C := Try.checked) false ⟨#[], #[.slice none 0 0], []⟩ 8 (by kernel_rfl) (by kernel_rfl) (by kernel_rfl) (by kernel_rfl)) ?_
  intro W base args ds gs before hval0 hW hcnd _
  have hval : ∀ (j : Nat) t v, Try.f5.params[j]? = some t → args[j]? = some v → Value.okWide Try.prog W .any base t v := hval0
  have hW' := hW
  obtain ⟨p, q, hA0, hV, rfl, hfz, hnd⟩ := hW
  have hA : DataW.TrodAll enc Try.prog W 0 (fun _ => true) true Try.f5.params.toList args.toList ds p := hA0
  rw [Try.params5] at hA hval
  obtain ⟨v0, vs0, d0, ds0, p0, q0, hargs, rfl, rfl, h0, r0⟩ := trodAll_cons hA
  obtain ⟨rfl, rfl, rfl⟩ := trodAll_nil r0
  obtain rfl : args = #[v0] := by cases args; simp_all
  obtain ⟨rfl, rfl⟩ := trodVars_none hV
  obtain ⟨y0, R0⟩ := row_of (hval 0 22 v0 rfl rfl) h0
  clear hA0
  simp only [List.append_nil] at hW'
  refine (ratioBack_walk R0).mono fun e W' ⟨he, hg⟩ => ?_
  subst he
  have hlt : ∀ x ∈ p0 ++ [], x.block < W.heap.size := fun x hx => by simpa using hW'.lt x (by simpa using hx)
  have l0 : ∀ x ∈ p0, x.block < W.heap.size := fun x hx => hlt x (List.mem_append_left _ hx)
  exact ⟨_, rfl, [d0], [], _, [], _, [], hW', trodAll_cons_mk (shut_bool Try.underlying4 _) trodAll_mk0,
    trodAll_cons_mk (Below.trod laid (by kernel_rfl) (of_decide_eq_true (by kernel_rfl)) h0 hg l0) trodAll_mk0, rfl, hg.frame _, fun h => by cases h⟩

theorem ratioBack_over : Rows.ratioBackRow.holds Try.pinned (OpenSpec.ofChange Rows.ratioBackSpec) :=
  OpenClaim.holds_of_wide 5 Try.f5 rfl rfl rfl rfl rfl rfl rfl ⟨rfl, rfl, rfl, rfl, rfl⟩ rfl rfl rfl rfl rfl (by kernel_rfl) Try.func5 (by kernel_rfl)
    (of_decide_eq_true (by kernel_rfl)) (by unfold Func.isWrapper; first | (rw [if_pos (by decide +kernel)]; kernel_rfl) | (rw [if_neg (by decide +kernel)]; exact ⟨rfl, rfl⟩))
    (fun os started H enc _ => ratioBack_lifted os started H enc)

theorem ratioBack_holds : Rows.RatioBackSaid := ratioBack_over
end Go.Proofs.Ytonmjdhdkkmjlaa

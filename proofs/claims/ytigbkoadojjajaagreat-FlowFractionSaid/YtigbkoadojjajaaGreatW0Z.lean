/- FlowFraction: of every list of whole numbers and two numbers: the fraction of a flow of up to three elements of small whole numbers is the speed, but for rounding. No condition. -/
import Derived.Test.YtigbkoadojjajaaGreatWzZ
set_option linter.unusedSimpArgs false
set_option linter.unusedVariables false
namespace Go.Proofs.YtigbkoadojjajaaGreat
open Go.RowKit Go.Clean Go.ChangeShapes Go.WideShapes Go.ChangeAt
set_option maxRecDepth 100000

section
variable {H : Type} {enc : TypeId × Value → H} {W : World}
theorem flowFraction_walk {v0 : Value} {y0 : List Int} (h0 : RowI W v0 y0) (x y : Int) :
    Calls Tryz.prog 3 #[v0, .int .i64 x, .int .i64 y] W fun e W' => e = .returned (.bool true) ∧ Below W.heap.size W W' := by
  have hR : ∀ b, b < 1 → RowI W ((fun _ : Nat => v0) b) ((fun _ : Nat => y0) b) := fun b _ => h0
  obtain ⟨r, m', hrun, rfl⟩ := ffrac_ok 0 (memOf_wf (argL 1 fun _ => y0)) (arg_IL (V := fun _ => v0) hR (b := 0) (by omega)) x y (Q := fun r _ => r = .bool true) fun _ _ => rfl
  have a0 := arg_VR (V := fun _ => v0) hR (b := 0) (by omega)
  refine (calls_of known_ok mix back_ok noC (n := 19) rfl hrun (arg_rel hR) (.cons a0 (.cons (VR.leaf (v := .int .i64 x) rfl) (.cons (VR.leaf (v := .int .i64 y) rfl) .nil))) arg_fresh).mono fun e W' he => ?_
  obtain ⟨v', ρ', rfl, hA⟩ := he
  exact ⟨by rw [hA.val.bool], hA.below.below⟩
end
theorem flowFraction_lifted (os : Os) (started : os.Started) (H : Type) (enc : TypeId × Value → H) :
    ReturnsInHanded {} Tryz.checked os 3 .any (Rows.flowFractionSpec.pre6 enc Tryz.prog Tryz.f3 Rows.flowFractionRow.domain false) (Rows.flowFractionSpec.post enc Tryz.prog Tryz.f3 false true false false) := by
  refine returnsInHanded_of_change (C := Tryz.checked) knob started (by kernel_rfl) Tryz.func3
    (ChangeSpec.witness6 (enc := enc) (C := Tryz.checked) false ⟨#[], #[.slice none 0 0, .int .i64 0, .int .i64 0], []⟩ 8 (by kernel_rfl) (by kernel_rfl) (by kernel_rfl) (by kernel_rfl)) ?_
  intro W base args ds gs before hval0 hW hcnd _
  have hval : ∀ (j : Nat) t v, Tryz.f3.params[j]? = some t → args[j]? = some v → Value.okWide Tryz.prog W .any base t v := hval0
  have hW' := hW
  obtain ⟨p, q, hA0, hV, rfl, hfz, hnd⟩ := hW
  have hA : DataW.TrodAll enc Tryz.prog W 0 (fun _ => true) true Tryz.f3.params.toList args.toList ds p := hA0
  rw [Tryz.params3] at hA hval
  obtain ⟨v0, vs0, d0, ds0, p0, q0, hargs, rfl, rfl, h0, r0⟩ := trodAll_cons hA
  obtain ⟨v4, vs4, d4, ds4, p4, q4, rfl, rfl, rfl, h4, r4⟩ := trodAll_cons r0
  obtain ⟨v5, vs5, d5, ds5, p5, q5, rfl, rfl, rfl, h5, r5⟩ := trodAll_cons r4
  obtain ⟨rfl, rfl, rfl⟩ := trodAll_nil r5
  obtain rfl : args = #[v0, v4, v5] := by cases args; simp_all
  obtain ⟨rfl, rfl⟩ := trodVars_none hV
  obtain ⟨x, rfl, rfl, rfl, w4⟩ := open_int und_i (hval 1 3 v4 rfl rfl) h4
  obtain ⟨y, rfl, rfl, rfl, w5⟩ := open_int und_i (hval 2 3 v5 rfl rfl) h5
  obtain ⟨y0, R0⟩ := row_of (hval 0 22 v0 rfl rfl) h0
  clear hA0
  simp only [List.append_nil] at hW'
  refine (flowFraction_walk R0 x y).mono fun e W' ⟨he, hg⟩ => ?_
  subst he
  have l0 : ∀ x ∈ p0, x.block < W.heap.size := fun x hx => hW'.lt x (by simpa using hx)
  exact ⟨_, rfl, [d0, _, _], [], _, [], _, [], hW', trodAll_cons_mk (shut_bool Tryz.underlying4 _) trodAll_mk0,
    trodAll_cons_mk (Below.trod laid (by kernel_rfl) (of_decide_eq_true (by kernel_rfl)) h0 hg l0) (trodAll_cons_mk (shut_int und_i w4) (trodAll_cons_mk (shut_int und_i w5) trodAll_mk0)), rfl, hg.frame _, fun h => by cases h⟩

theorem flowFraction_over : Rows.flowFractionRow.holds Tryz.pinned (OpenSpec.ofChange Rows.flowFractionSpec) :=
  OpenClaim.holds_of_wide 3 Tryz.f3 rfl rfl rfl rfl rfl rfl rfl ⟨rfl, rfl, rfl, rfl, rfl⟩ rfl rfl rfl rfl rfl (by kernel_rfl) Tryz.func3 (by kernel_rfl)
    (of_decide_eq_true (by kernel_rfl)) (by unfold Func.isWrapper; first | (rw [if_pos (by decide +kernel)]; kernel_rfl) | (rw [if_neg (by decide +kernel)]; exact ⟨rfl, rfl⟩))
    (fun os started H enc _ => flowFraction_lifted os started H enc)

theorem flowFraction_holds : Rows.FlowFractionSaid := flowFraction_over
end Go.Proofs.YtigbkoadojjajaaGreat

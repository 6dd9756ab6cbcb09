/- SolveWhole: of every number and list of whole numbers: of up to three unknowns of small whole numbers Solve is near Cramer's answers, Det near the true determinant. No condition. -/
import Derived.Test.YtghhanifakllpaaVpZ
set_option linter.unusedSimpArgs false
set_option linter.unusedVariables false
namespace Go.Proofs.Ytghhanifakllpaa
open Go.RowKit Go.Clean Go.ChangeShapes Go.WideShapes Go.ChangeAt
set_option maxRecDepth 100000

section
variable {H : Type} {enc : TypeId × Value → H} {W : World}
theorem solveWhole_walk {v1 : Value} {y1 : List Int} (h1 : RowI W v1 y1) (x : Int) :
    Calls Try.prog 5 #[.int .i64 x, v1] W fun e W' => e = .returned (.bool true) ∧ Below W.heap.size W W' := by
  have hR : ∀ b, b < 1 → RowI W ((fun _ => v1) b) ((fun _ => y1) b) := fun b _ => h1
  obtain ⟨r, m', hrun, rfl⟩ := whole_walk 0 (nn := x) (memOf_wf (argL 1 fun _ => y1)) (arg_IL hR (b := 0) (by omega)) (Q := fun r _ => r = .bool true) fun _ _ => rfl
  have a0 := arg_VR (V := fun _ => v1) hR (b := 0) (by omega)
  refine (calls_of kn1_ok mix back_ok noC (n := 10) rfl hrun (arg_rel hR) (.cons (VR.leaf (v := .int .i64 x) rfl) (.cons a0 .nil)) arg_fresh).mono fun e W' he => ?_
  obtain ⟨v', ρ', rfl, hA⟩ := he
  exact ⟨by rw [hA.val.bool], hA.below.below⟩
end
theorem solveWhole_lifted (os : Os) (started : os.Started) (H : Type) (enc : TypeId × Value → H) :
    ReturnsInHanded {} Try.checked os 5 .any (Rows.solveWholeSpec.pre6 enc Try.prog Try.f5 Rows.solveWholeRow.domain false) (Rows.solveWholeSpec.post enc Try.prog Try.f5 false true false false) := by
  refine returnsInHanded_of_change (C := Try.checked) knob started (by kernel_rfl) Try.func5
    (ChangeSpec.witness6 (enc := enc) (C := Try.checked) false ⟨#[], #[.int .i64 0, .slice none 0 0], []⟩ 8 (by kernel_rfl) (by kernel_rfl) (by kernel_rfl) (by kernel_rfl)) ?_
  intro W base args ds gs before hval0 hW hcnd _
  have hval : ∀ (j : Nat) t v, Try.f5.params[j]? = some t → args[j]? = some v → Value.okWide Try.prog W .any base t v := hval0
  have hW' := hW
  obtain ⟨p, q, hA0, hV, rfl, hfz, hnd⟩ := hW
  have hA : DataW.TrodAll enc Try.prog W 0 (fun _ => true) true Try.f5.params.toList args.toList ds p := hA0
  rw [Try.params5] at hA hval
  obtain ⟨v0, vs0, d0, ds0, p0, q0, hargs, rfl, rfl, h0, r0⟩ := trodAll_cons hA
  obtain ⟨v1, vs1, d1, ds1, p1, q1, rfl, rfl, rfl, h1, r1⟩ := trodAll_cons r0
  obtain ⟨rfl, rfl, rfl⟩ := trodAll_nil r1
  obtain rfl : args = #[v0, v1] := by cases args; simp_all
  obtain ⟨rfl, rfl⟩ := trodVars_none hV
  obtain ⟨x, rfl, rfl, rfl, w0⟩ := open_int und_i (hval 0 3 v0 rfl rfl) h0
  obtain ⟨y1, R1⟩ := row_of (hval 1 29 v1 rfl rfl) h1
  clear hA0
  simp only [List.append_nil] at hW'
  refine (solveWhole_walk R1 x).mono fun e W' ⟨he, hg⟩ => ?_
  subst he
  have hlt : ∀ x ∈ ([] ++ (p1 ++ [])), x.block < W.heap.size := fun x hx => by simpa using hW'.lt x (by simpa using hx)
  have l1 : ∀ x ∈ p1, x.block < W.heap.size := fun x hx => hlt x (List.mem_append_right _ (List.mem_append_left _ hx))
  exact ⟨_, rfl, [_, d1], [], _, [], _, [], hW', trodAll_cons_mk (shut_bool Try.underlying4 _) trodAll_mk0,
    trodAll_cons_mk (shut_int und_i w0) (trodAll_cons_mk (Below.trod laid (by kernel_rfl) (of_decide_eq_true (by kernel_rfl)) h1 hg l1) trodAll_mk0), rfl, hg.frame _, fun h => by cases h⟩

theorem solveWhole_over : Rows.solveWholeRow.holds Try.pinned (OpenSpec.ofChange Rows.solveWholeSpec) :=
  OpenClaim.holds_of_wide 5 Try.f5 rfl rfl rfl rfl rfl rfl rfl ⟨rfl, rfl, rfl, rfl, rfl⟩ rfl rfl rfl rfl rfl (by kernel_rfl) Try.func5 (by kernel_rfl)
    (of_decide_eq_true (by kernel_rfl)) (by unfold Func.isWrapper; first | (rw [if_pos (by decide +kernel)]; kernel_rfl) | (rw [if_neg (by decide +kernel)]; exact ⟨rfl, rfl⟩))
    (fun os started H enc _ => solveWhole_lifted os started H enc)

theorem solveWhole_holds : Rows.SolveWholeSaid := solveWhole_over
end Go.Proofs.Ytghhanifakllpaa

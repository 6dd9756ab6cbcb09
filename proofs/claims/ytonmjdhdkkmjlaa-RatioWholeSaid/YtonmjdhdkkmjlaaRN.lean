/- RatioWhole: of every four lists of whole numbers and two numbers: sums, products, slopes of fractions of small whole polynomials are those of the values, exactly; turned twice is the same; the value is the quotient. No condition. -/
import Derived.Test.YtonmjdhdkkmjlaaQQ
import Derived.Test.YtonmjdhdkkmjlaaRM
namespace Go.Proofs.Ytonmjdhdkkmjlaa
open Go.RowKit Go.Clean Go.ChangeShapes Go.WideShapes Go.ChangeAt
set_option maxRecDepth 100000

section
variable {H : Type} {enc : TypeId × Value → H} {W : World}
theorem ratioWhole_walk {v0 v1 v2 v3 : Value} {y0 y1 y2 y3 : List Int} (h0 : RowI W v0 y0) (h1 : RowI W v1 y1) (h2 : RowI W v2 y2) (h3 : RowI W v3 y3) (x y : Int) :
    Calls Try.prog 4 #[v0, v1, v2, v3, .int .i64 x, .int .i64 y] W fun e W' => e = .returned (.bool true) ∧ Below W.heap.size W W' := by
  obtain ⟨V, hV⟩ : ∃ V : Nat → Value, V = fun b => if b = 0 then v0 else if b = 1 then v1 else if b = 2 then v2 else v3 := ⟨_, rfl⟩
  obtain ⟨X, hX⟩ : ∃ X : Nat → List Int, X = fun b => if b = 0 then y0 else if b = 1 then y1 else if b = 2 then y2 else y3 := ⟨_, rfl⟩
  have e0 : V 0 = v0 := by rw [hV]; rfl
  have e1 : V 1 = v1 := by rw [hV]; rfl
  have e2 : V 2 = v2 := by rw [hV]; rfl
  have e3 : V 3 = v3 := by rw [hV]; rfl
  have hR : ∀ b, b < 4 → RowI W (V b) (X b) := fun b hb => by
    rw [hV, hX]
    have : b = 0 ∨ b = 1 ∨ b = 2 ∨ b = 3 := by omega
    rcases this with rfl | rfl | rfl | rfl
    · exact h0
    · exact h1
    · exact h2
    · exact h3
  obtain ⟨r, m', hrun, rfl⟩ := ratioWhole_ok 0 (memOf_wf (argL 4 X)) (arg_IL hR (b := 0) (by omega)) (arg_IL hR (b := 1) (by omega)) (arg_IL hR (b := 2) (by omega)) (arg_IL hR (b := 3) (by omega)) x y (Q := fun r _ => r = .bool true) fun _ _ => rfl
  have a0 := arg_VR (V := V) hR (b := 0) (by omega)
  have a1 := arg_VR (V := V) hR (b := 1) (by omega)
  have a2 := arg_VR (V := V) hR (b := 2) (by omega)
  have a3 := arg_VR (V := V) hR (b := 3) (by omega)
  rw [e0] at a0
  rw [e1] at a1
  rw [e2] at a2
  rw [e3] at a3
  rw [e0, e1, e2, e3] at hrun
  refine (calls_of known_ok mix back_ok noC (n := 13) rfl hrun (arg_rel hR) (.cons a0 (.cons a1 (.cons a2 (.cons a3 (.cons (VR.leaf (v := .int .i64 x) rfl) (.cons (VR.leaf (v := .int .i64 y) rfl) .nil)))))) arg_fresh).mono fun e W' he => ?_
  obtain ⟨v', ρ', rfl, hA⟩ := he
  exact ⟨by rw [hA.val.bool], hA.below.below⟩
end
theorem ratioWhole_lifted (os : Os) (started : os.Started) (H : Type) (enc : TypeId × Value → H) :
    ReturnsInHanded {} Try.checked os 4 .any (Rows.ratioWholeSpec.pre6 enc Try.prog Try.f4 Rows.ratioWholeRow.domain false) (Rows.ratioWholeSpec.post enc Try.prog Try.f4 false true false false) := by
  refine returnsInHanded_of_change (C := Try.checked) knob started (by kernel_rfl) Try.func4
    (ChangeSpec.witness6 (enc := enc) (C := Try.checked) false ⟨#[], #[.slice none 0 0, .slice none 0 0, .slice none 0 0, .slice none 0 0, .int .i64 0, .int .i64 0], []⟩ 8 (by kernel_rfl) (by kernel_rfl) (by kernel_rfl) (by kernel_rfl)) ?_
  intro W base args ds gs before hval0 hW hcnd _
  have hval : ∀ (j : Nat) t v, Try.f4.params[j]? = some t → args[j]? = some v → Value.okWide Try.prog W .any base t v := hval0
  have hW' := hW
  obtain ⟨p, q, hA0, hV, rfl, hfz, hnd⟩ := hW
  have hA : DataW.TrodAll enc Try.prog W 0 (fun _ => true) true Try.f4.params.toList args.toList ds p := hA0
  rw [Try.params4] at hA hval
  obtain ⟨v0, vs0, d0, ds0, p0, q0, hargs, rfl, rfl, h0, r0⟩ := trodAll_cons hA
  obtain ⟨v1, vs1, d1, ds1, p1, q1, rfl, rfl, rfl, h1, r1⟩ := trodAll_cons r0
  obtain ⟨v2, vs2, d2, ds2, p2, q2, rfl, rfl, rfl, h2, r2⟩ := trodAll_cons r1
  obtain ⟨v3, vs3, d3, ds3, p3, q3, rfl, rfl, rfl, h3, r3⟩ := trodAll_cons r2
  obtain ⟨v4, vs4, d4, ds4, p4, q4, rfl, rfl, rfl, h4, r4⟩ := trodAll_cons r3
  obtain ⟨v5, vs5, d5, ds5, p5, q5, rfl, rfl, rfl, h5, r5⟩ := trodAll_cons r4
  obtain ⟨rfl, rfl, rfl⟩ := trodAll_nil r5
  obtain rfl : args = #[v0, v1, v2, v3, v4, v5] := by cases args; simp_all
  obtain ⟨rfl, rfl⟩ := trodVars_none hV
  obtain ⟨x, rfl, rfl, rfl, w4⟩ := open_int und_i (hval 4 3 v4 rfl rfl) h4
  obtain ⟨y, rfl, rfl, rfl, w5⟩ := open_int und_i (hval 5 3 v5 rfl rfl) h5
  obtain ⟨y0, R0⟩ := row_of (hval 0 22 v0 rfl rfl) h0
  obtain ⟨y1, R1⟩ := row_of (hval 1 22 v1 rfl rfl) h1
  obtain ⟨y2, R2⟩ := row_of (hval 2 22 v2 rfl rfl) h2
  obtain ⟨y3, R3⟩ := row_of (hval 3 22 v3 rfl rfl) h3
  clear hA0
  simp only [List.append_nil] at hW'
  refine (ratioWhole_walk R0 R1 R2 R3 x y).mono fun e W' ⟨he, hg⟩ => ?_
  subst he
  have hlt : ∀ x ∈ p0 ++ (p1 ++ (p2 ++ (p3 ++ ([] ++ ([] ++ []))))), x.block < W.heap.size := fun x hx => by simpa using hW'.lt x (by simpa using hx)
  have l0 : ∀ x ∈ p0, x.block < W.heap.size := fun x hx => hlt x (List.mem_append_left _ hx)
  have l1 : ∀ x ∈ p1, x.block < W.heap.size := fun x hx => hlt x (List.mem_append_right _ (List.mem_append_left _ hx))
  have l2 : ∀ x ∈ p2, x.block < W.heap.size := fun x hx => hlt x (List.mem_append_right _ (List.mem_append_right _ (List.mem_append_left _ hx)))
  have l3 : ∀ x ∈ p3, x.block < W.heap.size := fun x hx => hlt x (List.mem_append_right _ (List.mem_append_right _ (List.mem_append_right _ (List.mem_append_left _ hx))))
  exact ⟨_, rfl, [d0, d1, d2, d3, _, _], [], _, [], _, [], hW', trodAll_cons_mk (shut_bool Try.underlying4 _) trodAll_mk0,
    trodAll_cons_mk (Below.trod laid (by kernel_rfl) (of_decide_eq_true (by kernel_rfl)) h0 hg l0) (trodAll_cons_mk (Below.trod laid (by kernel_rfl) (of_decide_eq_true (by kernel_rfl)) h1 hg l1)
      (trodAll_cons_mk (Below.trod laid (by kernel_rfl) (of_decide_eq_true (by kernel_rfl)) h2 hg l2) (trodAll_cons_mk (Below.trod laid (by kernel_rfl) (of_decide_eq_true (by kernel_rfl)) h3 hg l3)
        (trodAll_cons_mk (shut_int und_i w4) (trodAll_cons_mk (shut_int und_i w5) trodAll_mk0))))), rfl, hg.frame _, fun h => by cases h⟩

theorem ratioWhole_over : Rows.ratioWholeRow.holds Try.pinned (OpenSpec.ofChange Rows.ratioWholeSpec) :=
  OpenClaim.holds_of_wide 4 Try.f4 rfl rfl rfl rfl rfl rfl rfl ⟨rfl, rfl, rfl, rfl, rfl⟩ rfl rfl rfl rfl rfl (by kernel_rfl) Try.func4 (by kernel_rfl)
    (of_decide_eq_true (by kernel_rfl)) (by unfold Func.isWrapper; first | (rw [if_pos (by decide +kernel)]; kernel_rfl) | (rw [if_neg (by decide +kernel)]; exact ⟨rfl, rfl⟩))
    (fun os started H enc _ => ratioWhole_lifted os started H enc)

theorem ratioWhole_holds : Rows.RatioWholeSaid := ratioWhole_over
end Go.Proofs.Ytonmjdhdkkmjlaa

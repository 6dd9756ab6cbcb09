/- SolveOff: of every rows and list: of up to eight unknowns, of plain floats, what Solve answers fits its rows, as near as the document tells. No condition. -/
import Derived.Test.YtghhanifakllpaaVwY
set_option linter.unusedSimpArgs false
set_option linter.unusedVariables false
namespace Go.Proofs.Ytghhanifakllpaa
open Go.RowKit Go.Clean Go.ChangeShapes Go.WideShapes Go.ChangeAt
set_option maxRecDepth 100000

theorem knob : ownKnob Try.prog.godebug = none := by kernel_rfl
theorem laid : laidOutB Try.prog = true := by kernel_rfl
section
variable {H : Type} {enc : TypeId × Value → H} {W : World}
theorem slice_of {b : Nat} {t e : TypeId} {v : Value} (ht : Try.prog.underlying t = some (.slice e)) (h : Value.okWide Try.prog W .any b t v) : v = .slice none 0 0 ∨ ∃ a n c, v = .slice (some a) n c ∧ a.spot = none := by
  obtain ⟨a, n, c, rfl⟩ := okWide_slice ht h
  unfold Value.okWide at h
  rw [ht] at h
  simp only [Cell.okWide, Cell.ok, ht] at h
  cases a with
  | none =>
    left
    cases n with
    | zero => cases c with
      | zero => rfl
      | succ c => simp at h
    | succ n => simp at h
  | some a => exact .inr ⟨a, n, c, rfl, h.2.2.2.1⟩
end
theorem solveOff_lifted (os : Os) (started : os.Started) (H : Type) (enc : TypeId × Value → H) :
    ReturnsInHanded {} Try.checked os 6 .any (Rows.solveOffSpec.pre6 enc Try.prog Try.f6 Rows.solveOffRow.domain false) (Rows.solveOffSpec.post enc Try.prog Try.f6 false true false false) := by
  refine returnsInHanded_of_change (C := Try.checked) knob started (by kernel_rfl) Try.func6
    (ChangeSpec.witness6 (enc := enc) (C := Try.checked) false ⟨#[], #[.slice none 0 0, .slice none 0 0], []⟩ 8 (by kernel_rfl) (by kernel_rfl) (by kernel_rfl) (by kernel_rfl)) ?_
  intro W base args ds gs before hval0 hW hcnd _
  have hval : ∀ (j : Nat) t v, Try.f6.params[j]? = some t → args[j]? = some v → Value.okWide Try.prog W .any base t v := hval0
  have hW' := hW
  obtain ⟨p, q, hA0, hV, rfl, hfz, hnd⟩ := hW
  have hA : DataW.TrodAll enc Try.prog W 0 (fun _ => true) true Try.f6.params.toList args.toList ds p := hA0
  rw [Try.params6] at hA hval
  obtain ⟨v0, vs0, d0, ds0, p0, q0, hargs, rfl, rfl, h0, r0⟩ := trodAll_cons hA
  obtain ⟨v1, vs1, d1, ds1, p1, q1, rfl, rfl, rfl, h1, r1⟩ := trodAll_cons r0
  obtain ⟨rfl, rfl, rfl⟩ := trodAll_nil r1
  obtain rfl : args = #[v0, v1] := by cases args; simp_all
  obtain ⟨rfl, rfl⟩ := trodVars_none hV
  have s0 := slice_of under23 (hval 0 23 v0 rfl rfl)
  have s1 := slice_of under24 (hval 1 24 v1 rfl rfl)
  have c0 : v0.cells.toList = [v0] := by rcases s0 with rfl | ⟨a, n, c, rfl, _⟩ <;> rfl
  have c1 : v1.cells.toList = [v1] := by rcases s1 with rfl | ⟨a, n, c, rfl, _⟩ <;> rfl
  obtain ⟨k0, t0⟩ := id h0
  obtain ⟨k1, t1⟩ := id h1
  rw [c0] at t0
  rw [c1] at t1
  obtain ⟨u0, rv, yss, e0, hM, hl0⟩ := matC_of t0 (fun a n c h => by
    rcases s0 with rfl | ⟨a', n', c', rfl, hs⟩
    · cases h
    · cases h; exact hs)
  obtain ⟨u1, bs, e1, hB, hl1⟩ := rowC_of t1
  cases e0; cases e1
  clear hA0
  simp only [List.append_nil] at hW'
  refine (law_walk hM hB hl0 hl1).mono fun e W' ⟨he, hg⟩ => ?_
  subst he
  have hlt : ∀ x ∈ p0 ++ (p1 ++ []), x.block < W.heap.size := fun x hx => by simpa using hW'.lt x (by simpa using hx)
  have l0 : ∀ x ∈ p0, x.block < W.heap.size := fun x hx => hlt x (List.mem_append_left _ hx)
  have l1 : ∀ x ∈ p1, x.block < W.heap.size := fun x hx => hlt x (List.mem_append_right _ (List.mem_append_left _ hx))
  exact ⟨_, rfl, [d0, d1], [], _, [], _, [], hW', trodAll_cons_mk (shut_bool Try.underlying4 _) trodAll_mk0,
    trodAll_cons_mk (Below.trod laid (by kernel_rfl) (of_decide_eq_true (by kernel_rfl)) h0 hg l0) (trodAll_cons_mk (Below.trod laid (by kernel_rfl) (of_decide_eq_true (by kernel_rfl)) h1 hg l1) trodAll_mk0), rfl, hg.frame _, fun h => by cases h⟩

theorem solveOff_over : Rows.solveOffRow.holds Try.pinned (OpenSpec.ofChange Rows.solveOffSpec) :=
  OpenClaim.holds_of_wide 6 Try.f6 rfl rfl rfl rfl rfl rfl rfl ⟨rfl, rfl, rfl, rfl, rfl⟩ rfl rfl rfl rfl rfl (by kernel_rfl) Try.func6 (by kernel_rfl)
    (of_decide_eq_true (by kernel_rfl)) (by unfold Func.isWrapper; first | (rw [if_pos (by decide +kernel)]; kernel_rfl) | (rw [if_neg (by decide +kernel)]; exact ⟨rfl, rfl⟩))
    (fun os started H enc _ => solveOff_lifted os started H enc)

theorem solveOff_holds : Rows.SolveOffSaid := solveOff_over
end Go.Proofs.Ytghhanifakllpaa

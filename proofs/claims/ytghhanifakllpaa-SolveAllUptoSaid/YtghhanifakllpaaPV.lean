/- SolveAll, WHERE WHAT IT READS IS OF BULK AT MOST 1048576: of every rows and two lists the unknowns, pivots, determinant and how far off, as the document's answer has them, bit by bit; they stay; two answers are apart. No other condition. -/
import Derived.Test.YtghhanifakllpaaPY
namespace Go.Proofs.Ytghhanifakllpaa
open Go.RowKit Go.Clean Go.ChangeShapes Go.WideShapes Go.ChangeAt
set_option maxRecDepth 100000

theorem knob : ownKnob Try.prog.godebug = none := by kernel_rfl
theorem laid : laidOutB Try.prog = true := by kernel_rfl
section
variable {H : Type} {enc : TypeId × Value → H} {W : World}
theorem slice_of {b : Nat} {t e : TypeId} {v : Value} (ht : Try.prog.underlying t = some (.slice e)) (h : Value.okWide Try.prog W .any b t v) : v = .slice none 0 0 ∨ ∃ a n c, v = .slice (some a) n c ∧ a.spot = none := by
  obtain ⟨a, n, c, rfl⟩ := okWide_slice ht h
  unfold Value.okWide at h
  rw [ht] at h
  simp only [Cell.okWide, Cell.ok, ht] at h
  cases a with
  | none =>
    left
    cases n with
    | zero => cases c with
      | zero => rfl
      | succ c => simp at h
    | succ n => simp at h
  | some a => exact .inr ⟨a, n, c, rfl, h.2.2.2.1⟩
theorem law_contract (W : World) (base : Nat) (args : Array Value) (ds gs : List (DataW H)) (before : List MemPlace)
    (hval : ∀ (j : Nat) t v, Try.f4.params[j]? = some t → args[j]? = some v → Value.okWide Try.prog W .any base t v)
    (hW : DataW.Whole enc Try.prog Try.f4.params.toList Rows.solveAllSpec.vars false W args.toList ds gs before) (hk : Rows.uptoSmall H (ds ++ gs) = true) :
    Calls Try.prog 4 args W fun e W' => ∃ v, e = .returned v ∧ Rows.solveAllSpec.post enc Try.prog Try.f4 false true false false W args v W' := by
  have hW' := hW
  obtain ⟨p, q, hA0, hV, rfl, hfz, hnd⟩ := hW
  have hA : DataW.TrodAll enc Try.prog W 0 (fun _ => true) true Try.f4.params.toList args.toList ds p := hA0
  rw [Try.params4] at hA hval
  obtain ⟨v0, vs0, d0, ds0, p0, q0, hargs, rfl, rfl, h0, r0⟩ := trodAll_cons hA
  obtain ⟨v1, vs1, d1, ds1, p1, q1, rfl, rfl, rfl, h1, r1⟩ := trodAll_cons r0
  obtain ⟨v2, vs2, d2, ds2, p2, q2, rfl, rfl, rfl, h2, r2⟩ := trodAll_cons r1
  obtain ⟨rfl, rfl, rfl⟩ := trodAll_nil r2
  obtain rfl : args = #[v0, v1, v2] := by cases args; simp_all
  obtain ⟨rfl, rfl⟩ := trodVars_none hV
  have s0 := slice_of under23 (hval 0 23 v0 rfl rfl)
  have s1 := slice_of under24 (hval 1 24 v1 rfl rfl)
  have s2 := slice_of under24 (hval 2 24 v2 rfl rfl)
  have c0 : v0.cells.toList = [v0] := by rcases s0 with rfl | ⟨a, n, c, rfl, _⟩ <;> rfl
  have c1 : v1.cells.toList = [v1] := by rcases s1 with rfl | ⟨a, n, c, rfl, _⟩ <;> rfl
  have c2 : v2.cells.toList = [v2] := by rcases s2 with rfl | ⟨a, n, c, rfl, _⟩ <;> rfl
  obtain ⟨k0, t0⟩ := id h0
  obtain ⟨k1, t1⟩ := id h1
  obtain ⟨k2, t2⟩ := id h2
  rw [c0] at t0
  rw [c1] at t1
  rw [c2] at t2
  obtain ⟨u0, rv, yss, e0, hM, hb0⟩ := matC_of t0 (fun a n c h => by
    rcases s0 with rfl | ⟨a', n', c', rfl, hs⟩
    · cases h
    · cases h; exact hs)
  obtain ⟨u1, xs, e1, hX, hb1⟩ := rowC_of t1
  obtain ⟨u2, bs, e2, hB, hb2⟩ := rowC_of t2
  cases e0; cases e1; cases e2
  have hbulk : Rows.uptoBulkAll [d0, d1, d2] ≤ 1048576 := by
    simp only [List.append_nil] at hk
    exact of_decide_eq_true hk
  simp only [Rows.uptoBulkAll] at hbulk
  simp only at hb0 hb1 hb2
  clear hA0
  simp only [List.append_nil] at hW' hk
  refine (law_walk hM hX hB (by omega)).mono fun e W' ⟨he, hg⟩ => ?_
  subst he
  have hlt : ∀ x ∈ p0 ++ (p1 ++ (p2 ++ [])), x.block < W.heap.size := fun x hx => by simpa using hW'.lt x (by simpa using hx)
  have l0 : ∀ x ∈ p0, x.block < W.heap.size := fun x hx => hlt x (List.mem_append_left _ hx)
  have l1 : ∀ x ∈ p1, x.block < W.heap.size := fun x hx => hlt x (List.mem_append_right _ (List.mem_append_left _ hx))
  have l2 : ∀ x ∈ p2, x.block < W.heap.size := fun x hx => hlt x (List.mem_append_right _ (List.mem_append_right _ (List.mem_append_left _ hx)))
  refine ⟨_, rfl, [d0, d1, d2], [], _, [], _, [], hW', trodAll_cons_mk (shut_bool Try.underlying4 _) trodAll_mk0,
    trodAll_cons_mk (Below.trod laid (by kernel_rfl) (of_decide_eq_true (by kernel_rfl)) h0 hg l0) (trodAll_cons_mk (Below.trod laid (by kernel_rfl) (of_decide_eq_true (by kernel_rfl)) h1 hg l1) (trodAll_cons_mk (Below.trod laid (by kernel_rfl) (of_decide_eq_true (by kernel_rfl)) h2 hg l2) trodAll_mk0)), rfl, hg.frame _, fun h => by cases h⟩
end
theorem law_lifted (os : Os) (started : os.Started) (H : Type) (enc : TypeId × Value → H) (F : Stop.Interp) :
    ReturnsInHanded {} Try.checked os 4 .any ((Rows.OpenSpec.upto Rows.solveAllSpec).pre6 enc Try.prog Try.f4 Rows.solveAllUptoRow.domain false) (((Rows.OpenSpec.upto Rows.solveAllSpec).at F).post enc Try.prog Try.f4 false true false false) := by
  refine returnsInHanded_of_cond (C := Try.checked) (s := Rows.OpenSpec.upto Rows.solveAllSpec) (k := Rows.uptoSmall) rfl knob started (by kernel_rfl) Try.func4
    (OpenSpec.witness (enc := enc) (C := Try.checked) (s := Rows.OpenSpec.upto Rows.solveAllSpec) (k := Rows.uptoSmall) rfl false ⟨#[], #[.slice none 0 0, .slice none 0 0, .slice none 0 0], []⟩ 8 (by kernel_rfl) (by kernel_rfl) (by kernel_rfl)
      (x := ([.nil, .nil, .nil], [], [])) (by kernel_rfl) rfl (by kernel_rfl)) ?_
  intro W base args ds gs before hval hW _ hk _
  exact law_contract W base args ds gs before hval hW hk

theorem solveAll_holds : Rows.SolveAllUptoSaid :=
  OpenClaim.holds_of_cond 4 Try.f4 rfl rfl rfl rfl rfl rfl rfl ⟨rfl, rfl, rfl, rfl, rfl⟩ rfl rfl rfl rfl rfl (by kernel_rfl) Try.func4 (by kernel_rfl)
    (of_decide_eq_true (by kernel_rfl)) (by unfold Func.isWrapper; first | (rw [if_pos (by decide +kernel)]; kernel_rfl) | (rw [if_neg (by decide +kernel)]; exact ⟨rfl, rfl⟩))
    (fun os started H enc _ F => law_lifted os started H enc F)
end Go.Proofs.Ytghhanifakllpaa

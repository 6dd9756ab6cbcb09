/- PolyWhole: of every two lists of whole numbers and four numbers: of small whole numbers all is exact: the value of a sum, a product, a shift; zeros; a product divided. No condition. -/
import Derived.Test.YtonmjdhdkkmjlaaQQ
namespace Go.Proofs.Ytonmjdhdkkmjlaa
open Go.RowKit Go.Clean Go.ChangeShapes Go.WideShapes Go.ChangeAt
set_option maxRecDepth 100000

theorem knob : ownKnob Try.prog.godebug = none := by kernel_rfl
theorem laid : laidOutB Try.prog = true := by kernel_rfl
section
variable {H : Type} {enc : TypeId × Value → H} {W : World}
theorem slice_of {b : Nat} {t e : TypeId} {v : Value} (ht : Try.prog.underlying t = some (.slice e)) (h : Value.okWide Try.prog W .any b t v) : v = .slice none 0 0 ∨ ∃ a n c, v = .slice (some a) n c ∧ a.spot = none := by
  obtain ⟨a, n, c, rfl⟩ := okWide_slice ht h
  unfold Value.okWide at h
  rw [ht] at h
  simp only [Cell.okWide, Cell.ok, ht] at h
  cases a with
  | none =>
    left
    cases n with
    | zero => cases c with
      | zero => rfl
      | succ c => simp at h
    | succ n => simp at h
  | some a => exact .inr ⟨a, n, c, rfl, h.2.2.2.1⟩
theorem row_of {b : Nat} {v : Value} {d : DataW H} {p : List MemPlace} (hv : Value.okWide Try.prog W .any b 22 v) (h : DataW.Trod enc Try.prog W 0 (fun _ => true) true 22 v d p) : ∃ ys, RowI W v ys := by
  have s0 := slice_of under_I hv
  have c0 : v.cells.toList = [v] := by rcases s0 with rfl | ⟨a, n, c, rfl, _⟩ <;> rfl
  obtain ⟨k0, t0⟩ := h
  rw [c0] at t0
  obtain ⟨u, ys, e, hR⟩ := rowI_of t0
  cases e
  exact ⟨ys, hR⟩
theorem polyWhole_walk {v0 v1 : Value} {y0 y1 : List Int} (h0 : RowI W v0 y0) (h1 : RowI W v1 y1) (x y u v : Int) :
    Calls Try.prog 3 #[v0, v1, .int .i64 x, .int .i64 y, .int .i64 u, .int .i64 v] W fun e W' => e = .returned (.bool true) ∧ Below W.heap.size W W' := by
  obtain ⟨V, hV⟩ : ∃ V : Nat → Value, V = fun b => if b = 0 then v0 else v1 := ⟨_, rfl⟩
  obtain ⟨X, hX⟩ : ∃ X : Nat → List Int, X = fun b => if b = 0 then y0 else y1 := ⟨_, rfl⟩
  have e0 : V 0 = v0 := by rw [hV]; rfl
  have e1 : V 1 = v1 := by rw [hV]; rfl
  have hR : ∀ b, b < 2 → RowI W (V b) (X b) := fun b _ => by
    rw [hV, hX]
    by_cases hb : b = 0
    · simp only [hb, if_true]; exact h0
    · simp only [if_neg hb]; exact h1
  obtain ⟨r, m', hrun, rfl⟩ := polyWhole_ok 0 (memOf_wf (argL 2 X)) (arg_IL hR (b := 0) (by omega)) (arg_IL hR (b := 1) (by omega)) x y u v (Q := fun r _ => r = .bool true) fun _ _ => rfl
  have a0 := arg_VR (V := V) hR (b := 0) (by omega)
  have a1 := arg_VR (V := V) hR (b := 1) (by omega)
  rw [e0] at a0
  rw [e1] at a1
  rw [e0, e1] at hrun
  refine (calls_of known_ok mix back_ok noC (n := 12) rfl hrun (arg_rel hR) (.cons a0 (.cons a1 (.cons (VR.leaf (v := .int .i64 x) rfl) (.cons (VR.leaf (v := .int .i64 y) rfl) (.cons (VR.leaf (v := .int .i64 u) rfl) (.cons (VR.leaf (v := .int .i64 v) rfl) .nil)))))) arg_fresh).mono fun e W' he => ?_
  obtain ⟨v', ρ', rfl, hA⟩ := he
  exact ⟨by rw [hA.val.bool], hA.below.below⟩
end
theorem polyWhole_lifted (os : Os) (started : os.Started) (H : Type) (enc : TypeId × Value → H) :
    ReturnsInHanded {} Try.checked os 3 .any (Rows.polyWholeSpec.pre6 enc Try.prog Try.f3 Rows.polyWholeRow.domain false) (Rows.polyWholeSpec.post enc Try.prog Try.f3 false true false false) := by
  refine returnsInHanded_of_change (C := Try.checked) knob started (by kernel_rfl) Try.func3
    (ChangeSpec.witness6 (enc := enc) (C := Try.checked) false ⟨#[], #[.slice none 0 0, .slice none 0 0, .int .i64 0, .int .i64 0, .int .i64 0, .int .i64 0], []⟩ 8 (by kernel_rfl) (by kernel_rfl) (by kernel_rfl) (by kernel_rfl)) ?_
  intro W base args ds gs before hval0 hW hcnd _
  have hval : ∀ (j : Nat) t v, Try.f3.params[j]? = some t → args[j]? = some v → Value.okWide Try.prog W .any base t v := hval0
  have hW' := hW
  obtain ⟨p, q, hA0, hV, rfl, hfz, hnd⟩ := hW
  have hA : DataW.TrodAll enc Try.prog W 0 (fun _ => true) true Try.f3.params.toList args.toList ds p := hA0
  rw [Try.params3] at hA hval
  obtain ⟨v0, vs0, d0, ds0, p0, q0, hargs, rfl, rfl, h0, r0⟩ := trodAll_cons hA
  obtain ⟨v1, vs1, d1, ds1, p1, q1, rfl, rfl, rfl, h1, r1⟩ := trodAll_cons r0
  obtain ⟨v2, vs2, d2, ds2, p2, q2, rfl, rfl, rfl, h2, r2⟩ := trodAll_cons r1
  obtain ⟨v3, vs3, d3, ds3, p3, q3, rfl, rfl, rfl, h3, r3⟩ := trodAll_cons r2
  obtain ⟨v4, vs4, d4, ds4, p4, q4, rfl, rfl, rfl, h4, r4⟩ := trodAll_cons r3
  obtain ⟨v5, vs5, d5, ds5, p5, q5, rfl, rfl, rfl, h5, r5⟩ := trodAll_cons r4
  obtain ⟨rfl, rfl, rfl⟩ := trodAll_nil r5
  obtain rfl : args = #[v0, v1, v2, v3, v4, v5] := by cases args; simp_all
  obtain ⟨rfl, rfl⟩ := trodVars_none hV
  obtain ⟨x, rfl, rfl, rfl, w2⟩ := open_int und_i (hval 2 3 v2 rfl rfl) h2
  obtain ⟨y, rfl, rfl, rfl, w3⟩ := open_int und_i (hval 3 3 v3 rfl rfl) h3
  obtain ⟨u, rfl, rfl, rfl, w4⟩ := open_int und_i (hval 4 3 v4 rfl rfl) h4
  obtain ⟨v, rfl, rfl, rfl, w5⟩ := open_int und_i (hval 5 3 v5 rfl rfl) h5
  obtain ⟨y0, R0⟩ := row_of (hval 0 22 v0 rfl rfl) h0
  obtain ⟨y1, R1⟩ := row_of (hval 1 22 v1 rfl rfl) h1
  clear hA0
  simp only [List.append_nil] at hW'
  refine (polyWhole_walk R0 R1 x y u v).mono fun e W' ⟨he, hg⟩ => ?_
  subst he
  have hlt : ∀ x ∈ p0 ++ (p1 ++ ([] ++ ([] ++ ([] ++ ([] ++ []))))), x.block < W.heap.size := fun x hx => by simpa using hW'.lt x (by simpa using hx)
  have l0 : ∀ x ∈ p0, x.block < W.heap.size := fun x hx => hlt x (List.mem_append_left _ hx)
  have l1 : ∀ x ∈ p1, x.block < W.heap.size := fun x hx => hlt x (List.mem_append_right _ (List.mem_append_left _ hx))
  exact ⟨_, rfl, [d0, d1, _, _, _, _], [], _, [], _, [], hW', trodAll_cons_mk (shut_bool Try.underlying4 _) trodAll_mk0,
    trodAll_cons_mk (Below.trod laid (by kernel_rfl) (of_decide_eq_true (by kernel_rfl)) h0 hg l0) (trodAll_cons_mk (Below.trod laid (by kernel_rfl) (of_decide_eq_true (by kernel_rfl)) h1 hg l1)
      (trodAll_cons_mk (shut_int und_i w2) (trodAll_cons_mk (shut_int und_i w3) (trodAll_cons_mk (shut_int und_i w4) (trodAll_cons_mk (shut_int und_i w5) trodAll_mk0))))), rfl, hg.frame _, fun h => by cases h⟩

theorem polyWhole_over : Rows.polyWholeRow.holds Try.pinned (OpenSpec.ofChange Rows.polyWholeSpec) :=
  OpenClaim.holds_of_wide 3 Try.f3 rfl rfl rfl rfl rfl rfl rfl ⟨rfl, rfl, rfl, rfl, rfl⟩ rfl rfl rfl rfl rfl (by kernel_rfl) Try.func3 (by kernel_rfl)
    (of_decide_eq_true (by kernel_rfl)) (by unfold Func.isWrapper; first | (rw [if_pos (by decide +kernel)]; kernel_rfl) | (rw [if_neg (by decide +kernel)]; exact ⟨rfl, rfl⟩))
    (fun os started H enc _ => polyWhole_lifted os started H enc)

theorem polyWhole_holds : Rows.PolyWholeSaid := polyWhole_over
end Go.Proofs.Ytonmjdhdkkmjlaa

/- The clean executor at package solve: all that it takes for known. -/
import Derived.Test.YtghhanifakllpaaPU
namespace Go.Proofs.Ytghhanifakllpaa
open Go.RowKit Go.Clean
set_option maxRecDepth 100000

def finX : List Value → M Value
  | [.float .f64 a] => bif canon a == a then M.ret (.bool (ffin (fl a))) else M.fail
  | _ => M.fail
def overX : List Value → M Value
  | [.float .f64 a, .float .f64 b] => bif canon a == a && canon b == b then M.ret (.float .f64 (cOf (fdiv (fl a) (fl b)))) else M.fail
  | _ => M.fail
def lessX : List Value → M Value
  | [.float .f64 a, .float .f64 b, .float .f64 c] => bif canon a == a && (canon b == b && canon c == c) then M.ret (.float .f64 (cOf (fless (fl a) (fl b) (fl c)))) else M.fail
  | _ => M.fail
def kn1 : Known := fun f args =>
  bif f == 46 then some (maxY args)
  else bif f == 50 then some (finX args)
  else bif f == 43 then some (finX args)
  else bif f == 69 then some (overX args)
  else bif f == 70 then some (lessX args)
  else bif f == 7 then match args with
    | [] => some (M.ret (.bool true))
    | _ => none
  else kn0 f args
abbrev GoodK (f : FuncId) (args : List Value) (g : M Value) : Prop := Local g ∧ ∀ m v m', g m = some (v, m') → ∀ N ρ w cargs, Rel N ρ m.t.get w → VRs ρ args cargs → Fresh ρ m m' → Does Try.prog N ρ m m' w v (callFunc f ⟨cargs⟩)
theorem good_fail (f : FuncId) (args : List Value) : GoodK f args M.fail := ⟨Local.fail, fun m v m' h => (fail_some h).elim⟩
theorem good_max (args : List Value) : GoodK 46 args (maxY args) := by
  unfold maxY
  split
  · exact memo_gives (call0_ok 4) (max_run _ _) rfl rfl
  · exact good_fail _ _
theorem good_fin {f : FuncId} (h : ∀ x, Gives (callN Try.prog kn0 4 f [.float .f64 (cOf x)]) .empty fun u _ => u = .bool (ffin x)) (args : List Value) : GoodK f args (finX args) := by
  unfold finX
  split
  · rename_i a
    cases ha : canon a == a with
    | true =>
      have e : cOf (fl a) = a := by rw [cOf_fl]; simpa using ha
      have := memo_gives (call0_ok 4) (h (fl a)) rfl rfl
      rw [e] at this
      exact this
    | false => exact good_fail _ _
  · exact good_fail _ _
theorem good_over (args : List Value) : GoodK 69 args (overX args) := by
  unfold overX
  split
  · rename_i a b
    cases ha : canon a == a && canon b == b with
    | true =>
      simp only [Bool.and_eq_true, beq_iff_eq] at ha
      have e1 : cOf (fl a) = a := by rw [cOf_fl]; exact ha.1
      have e2 : cOf (fl b) = b := by rw [cOf_fl]; exact ha.2
      have := memo_gives (call0_ok 4) (over_run (fl a) (fl b)) rfl rfl
      rw [e1, e2] at this
      exact this
    | false => exact good_fail _ _
  · exact good_fail _ _
theorem good_less (args : List Value) : GoodK 70 args (lessX args) := by
  unfold lessX
  split
  · rename_i a b c
    cases ha : canon a == a && (canon b == b && canon c == c) with
    | true =>
      simp only [Bool.and_eq_true, beq_iff_eq] at ha
      have e1 : cOf (fl a) = a := by rw [cOf_fl]; exact ha.1
      have e2 : cOf (fl b) = b := by rw [cOf_fl]; exact ha.2.1
      have e3 : cOf (fl c) = c := by rw [cOf_fl]; exact ha.2.2
      have := memo_gives (call0_ok 4) (less_run (fl a) (fl b) (fl c)) rfl rfl
      rw [e1, e2, e3] at this
      exact this
    | false => exact good_fail _ _
  · exact good_fail _ _
theorem good_alive : GoodK 7 [] (M.ret (.bool true)) := memo_gives (call0_ok 60) alive_gives rfl rfl
theorem kn1_ok : KnownOK Try.prog kn1 := by
  intro f args g h
  unfold kn1 at h
  cases h0 : f == 46 with
  | true => simp only [h0, cond_true, Option.some.injEq] at h; subst h; obtain rfl := eq_of_beq h0; exact good_max args
  | false =>
  cases h1 : f == 50 with
  | true => simp only [h0, h1, cond_true, cond_false, Option.some.injEq] at h; subst h; obtain rfl := eq_of_beq h1; exact good_fin fin_run args
  | false =>
  cases h2 : f == 43 with
  | true => simp only [h0, h1, h2, cond_true, cond_false, Option.some.injEq] at h; subst h; obtain rfl := eq_of_beq h2; exact good_fin fin2_run args
  | false =>
  cases h3 : f == 69 with
  | true => simp only [h0, h1, h2, h3, cond_true, cond_false, Option.some.injEq] at h; subst h; obtain rfl := eq_of_beq h3; exact good_over args
  | false =>
  cases h4 : f == 70 with
  | true => simp only [h0, h1, h2, h3, h4, cond_true, cond_false, Option.some.injEq] at h; subst h; obtain rfl := eq_of_beq h4; exact good_less args
  | false =>
  cases h5 : f == 7 with
  | true =>
    simp only [h0, h1, h2, h3, h4, h5, cond_true, cond_false] at h
    split at h
    · simp only [Option.some.injEq] at h; subst h; obtain rfl := eq_of_beq h5; exact good_alive
    · cases h
  | false =>
  simp only [h0, h1, h2, h3, h4, h5, cond_false] at h; exact kn0_ok f args g h
theorem Par.condX {b : Bool} {f g : M Value} (hf : Par f) (hg : Par g) : Par (bif b then f else g) := by cases b <;> assumption
theorem Nl.condX {b : Bool} {f g : M Value} (hf : Nl f) (hg : Nl g) : Nl (bif b then f else g) := by cases b <;> assumption
theorem par_max (args : List Value) : Par (maxY args) := by unfold maxY; split <;> first | exact Par.ret _ | exact Par.fail
theorem par_abs (args : List Value) : Par (absX args) := by unfold absX; split <;> first | exact Par.ret _ | exact Par.fail
theorem par_from (args : List Value) : Par (fromX args) := by unfold fromX; split <;> first | exact Par.ret _ | exact Par.fail
theorem par_bits (args : List Value) : Par (bitsX args) := by unfold bitsX; split <;> first | exact Par.fail | exact Par.bind (Par.guard _) fun _ => Par.ret _
theorem par_fin (args : List Value) : Par (finX args) := by unfold finX; split <;> first | exact Par.fail | exact Par.condX (Par.ret _) Par.fail
theorem par_over (args : List Value) : Par (overX args) := by unfold overX; split <;> first | exact Par.fail | exact Par.condX (Par.ret _) Par.fail
theorem par_less (args : List Value) : Par (lessX args) := by unfold lessX; split <;> first | exact Par.fail | exact Par.condX (Par.ret _) Par.fail
theorem nl_max (args : List Value) : Nl (maxY args) := by unfold maxY; split <;> first | exact Nl.ret _ | exact Nl.fail
theorem nl_abs (args : List Value) : Nl (absX args) := by unfold absX; split <;> first | exact Nl.ret _ | exact Nl.fail
theorem nl_fin (args : List Value) : Nl (finX args) := by unfold finX; split <;> first | exact Nl.fail | exact Nl.condX (Nl.ret _) Nl.fail
theorem kn0_par (f : FuncId) (args : List Value) (g : M Value) (h : kn0 f args = some g) : Par g := by
  unfold kn0 at h
  cases h0 : f == 44 with
  | true => simp only [h0, cond_true, cond_false, Option.some.injEq] at h; subst h; exact par_from args
  | false =>
  cases h1 : f == 52 with
  | true => simp only [h0, h1, cond_true, cond_false, Option.some.injEq] at h; subst h; exact par_bits args
  | false =>
  cases h2 : f == 31 with
  | true => simp only [h0, h1, h2, cond_true, cond_false, Option.some.injEq] at h; subst h; exact par_abs args
  | false =>
  cases h3 : f == 71 with
  | true => simp only [h0, h1, h2, h3, cond_true, cond_false, Option.some.injEq] at h; subst h; exact par_max args
  | false =>
  simp only [h0, h1, h2, h3, cond_false] at h; cases h
theorem kn1_par (f : FuncId) (args : List Value) (g : M Value) (h : kn1 f args = some g) : Par g := by
  unfold kn1 at h
  cases h0 : f == 46 with
  | true => simp only [h0, cond_true, Option.some.injEq] at h; subst h; exact par_max args
  | false =>
  cases h1 : f == 50 with
  | true => simp only [h0, h1, cond_true, cond_false, Option.some.injEq] at h; subst h; exact par_fin args
  | false =>
  cases h2 : f == 43 with
  | true => simp only [h0, h1, h2, cond_true, cond_false, Option.some.injEq] at h; subst h; exact par_fin args
  | false =>
  cases h3 : f == 69 with
  | true => simp only [h0, h1, h2, h3, cond_true, cond_false, Option.some.injEq] at h; subst h; exact par_over args
  | false =>
  cases h4 : f == 70 with
  | true => simp only [h0, h1, h2, h3, h4, cond_true, cond_false, Option.some.injEq] at h; subst h; exact par_less args
  | false =>
  cases h5 : f == 7 with
  | true =>
    simp only [h0, h1, h2, h3, h4, h5, cond_true, cond_false] at h
    split at h
    · simp only [Option.some.injEq] at h; subst h; exact Par.ret _
    · cases h
  | false =>
  simp only [h0, h1, h2, h3, h4, h5, cond_false] at h; exact kn0_par f args g h
theorem finX_at (x : F) : finX [.float .f64 (cOf x)] = M.ret (.bool (ffin x)) := by
  unfold finX
  have e : (canon (cOf x) == cOf x) = true := by rw [canon_cOf]; simp
  dsimp only
  rw [e, cond_true, show fl (cOf x) = clr x from rfl, ffin_clr]
theorem kn1_KN : KN kn1 := by
  refine ⟨fun x => ?_, fun x => ?_, fun x y => ?_, fun _ => rfl, fun _ => rfl, fun _ => rfl, fun _ => rfl, kn1_par, fun f hf args => ?_⟩
  · show some (finX _) = _
    rw [finX_at]
  · show some (absX [.float .f64 (cOf x)]) = _
    unfold absX
    dsimp only
    rw [canon_abs]
  · show some (maxY [.float .f64 (cOf x), .float .f64 (cOf y)]) = _
    unfold maxY fmax
    dsimp only
    rw [cOf_fl]
  · rcases hf with rfl | rfl | rfl
    · exact ⟨_, rfl, nl_fin args⟩
    · exact ⟨_, rfl, nl_abs args⟩
    · exact ⟨_, rfl, nl_max args⟩
theorem kn1_KP : KP kn1 := by
  refine ⟨kn1_KN, fun x => ?_, fun x y => ?_, fun a f b => ?_, fun f hf args => ?_⟩
  · show some (finX _) = _
    rw [finX_at]
  · show some (overX [.float .f64 (cOf x), .float .f64 (cOf y)]) = _
    unfold overX
    have e1 : (canon (cOf x) == cOf x) = true := by rw [canon_cOf]; simp
    have e2 : (canon (cOf y) == cOf y) = true := by rw [canon_cOf]; simp
    dsimp only
    rw [e1, e2]
    show some (M.ret (Value.float .f64 (cOf (fdiv (clr x) (clr y))))) = _
    rw [fdiv_clr]
  · show some (lessX [.float .f64 (cOf a), .float .f64 (cOf f), .float .f64 (cOf b)]) = _
    unfold lessX
    have e1 : (canon (cOf a) == cOf a) = true := by rw [canon_cOf]; simp
    have e2 : (canon (cOf f) == cOf f) = true := by rw [canon_cOf]; simp
    have e3 : (canon (cOf b) == cOf b) = true := by rw [canon_cOf]; simp
    dsimp only
    rw [e1, e2, e3]
    show some (M.ret (Value.float .f64 (cOf (fless (clr a) (clr f) (clr b))))) = _
    rw [fless_clr]
  · unfold ownF at hf
    simp only [Bool.or_eq_true, beq_iff_eq] at hf
    repeat' rcases hf with hf | hf
    all_goals first
      | rfl
      | (subst hf; rfl)
theorem kn1_KQ : KQ kn1 := ⟨kn1_KP, rfl, fun b => rfl⟩
end Go.Proofs.Ytghhanifakllpaa

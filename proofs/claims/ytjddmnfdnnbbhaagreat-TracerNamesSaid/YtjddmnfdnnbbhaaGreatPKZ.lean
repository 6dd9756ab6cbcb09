/- The clean executor at chapter 26: all that it takes for known. -/
import Derived.Test.YtjddmnfdnnbbhaaGreatBZ
import Derived.Test.YtjddmnfdnnbbhaaGreatKXZ
import Derived.Test.YtjddmnfdnnbbhaaGreatTaZ
set_option linter.unusedSimpArgs false
set_option linter.unusedVariables false
namespace Go.Proofs.YtjddmnfdnnbbhaaGreat
open Go.RowKit Go.Clean
set_option maxRecDepth 100000

theorem call0_ok (n : Nat) : CallOK Tryz.prog (callN Tryz.prog known0 n) := callN_ok known0_ok mix back_ok noC n
def boxV : Value := .agg ⟨[.complex .f64 13839561654909534208 13839561654909534208, .complex .f64 4616189618054758400 4616189618054758400]⟩
def ruV : Value := .agg ⟨[.float .f64 4602678819172646912, .int .i64 3, .float .f64 4598175219545276416, .complex .f64 13839561654909534208 13839561654909534208, .complex .f64 4616189618054758400 4616189618054758400]⟩
/-- Closed calls that come to what they come to, wherever. -/
def memoT : List (FuncId × List Value × Value) := [
  (40, [boxV, .complex .f64 0 0], .bool true),
  (40, [boxV, .complex .f64 4602678819172646912 4607182418800017408], .bool true),
  (40, [boxV, .complex .f64 4607182418800017408 4611686018427387904], .bool true),
  (40, [boxV, .complex .f64 4609434218613702656 4613937818241073152], .bool true),
  (40, [boxV, .complex .f64 4611686018427387904 4616189618054758400], .bool true),
  (40, [boxV, .complex .f64 4612811918334230528 4617315517961601024], .bool false),
  (40, [boxV, .complex .f64 0 4615063718147915776], .bool true),
  (40, [boxV, .complex .f64 4602678819172646912 4616752568008179712], .bool false),
  (42, [.complex .f64 4607182418800017408 4611686018427387904], .float .f64 4612217596255138984),
  (42, [.complex .f64 0 9223372036854775808], .float .f64 0),
  (29, [ruV], .int .i64 0),
  (18, [boxV], .int .i64 0),
  (18, [.agg ⟨[.complex .f64 0 0, .complex .f64 4611686018427387904 4607182418800017408]⟩], .int .i64 0),
  (23, [.agg ⟨[.complex .f64 0 0, .float .f64 0, .int .u8 0]⟩, .agg ⟨[.complex .f64 0 0, .float .f64 0, .int .u8 0]⟩], .bool true),
  (23, [.agg ⟨[.complex .f64 4607182418800017408 4611686018427387904, .float .f64 0, .int .u8 0]⟩, .agg ⟨[.complex .f64 4607182418800017408 4611686018427387904, .float .f64 0, .int .u8 0]⟩], .bool true),
  (23, [.agg ⟨[.complex .f64 4611686018427387904 4616189618054758400, .float .f64 0, .int .u8 0]⟩, .agg ⟨[.complex .f64 4611686018427387904 4616189618054758400, .float .f64 0, .int .u8 0]⟩], .bool true),
  (23, [.agg ⟨[.complex .f64 0 0, .float .f64 0, .int .u8 2]⟩, .agg ⟨[.complex .f64 0 0, .float .f64 4607182418800017408, .int .u8 2]⟩], .bool false)]
def lookT (f : FuncId) (args : List Value) : List (FuncId × List Value × Value) → Option Value
  | [] => none
  | (g, l, v) :: r => bif f == g then (bif eqVs args l then some v else lookT f args r) else lookT f args r
def Good (f : FuncId) (args : List Value) (v : Value) : Prop := Local (M.ret v) ∧
    ∀ m v1 m1, M.ret v m = some (v1, m1) → ∀ N ρ w cargs, Rel N ρ m.t.get w → VRs ρ args cargs → Fresh ρ m m1 → Does Tryz.prog N ρ m m1 w v1 (callFunc f ⟨cargs⟩)
theorem memoT_good : ∀ e ∈ memoT, Good e.1 e.2.1 e.2.2 := by
  intro e he
  simp only [memoT, List.mem_cons, List.not_mem_nil, or_false] at he
  rcases he with rfl | rfl | rfl | rfl | rfl | rfl | rfl | rfl | rfl | rfl | rfl | rfl | rfl | rfl | rfl | rfl | rfl
  all_goals exact memo_ok (call0_ok 60) (by kernel_rfl) rfl rfl
theorem lookT_good {f : FuncId} {args : List Value} {v : Value} : ∀ {l : List (FuncId × List Value × Value)}, (∀ e ∈ l, Good e.1 e.2.1 e.2.2) → lookT f args l = some v → Good f args v
  | [], _, h => by cases h
  | (g, a, u) :: r, hg, h => by
    unfold lookT at h
    have hr := fun h' => lookT_good (f := f) (args := args) (v := v) (l := r) (fun e he => hg e (List.mem_cons_of_mem _ he)) h'
    cases h1 : f == g with
    | false => rw [h1] at h; exact hr h
    | true =>
      rw [h1] at h
      cases h2 : eqVs args a with
      | false => rw [h2] at h; exact hr h
      | true =>
        rw [h2] at h
        obtain rfl := eq_of_beq h1
        obtain rfl := eqVs_eq h2
        cases h
        exact hg _ (List.mem_cons_self ..)
def known : Known := fun f args => match lookT f args memoT with
  | some v => some (M.ret v)
  | none => known0 f args
theorem known_ok : KnownOK Tryz.prog known := by
  intro f args g h
  unfold known at h
  cases hl : lookT f args memoT with
  | some v =>
    rw [hl] at h
    cases h
    exact lookT_good memoT_good hl
  | none =>
    rw [hl] at h
    exact known0_ok f args g h
theorem exec_ok (n : Nat) : Exec Tryz.prog (callN Tryz.prog known n) := ⟨callN_ok known_ok mix back_ok noC n, callN_local known_ok n, mix, back_ok, noC⟩
end Go.Proofs.YtjddmnfdnnbbhaaGreat

/- FlowNames: two closed calls that come again and again are known. No condition. -/
import Derived.Test.YtgeiffhmgchbmaaGreatP
import Derived.Test.YtgeiffhmgchbmaaGreatB
import Derived.Test.YtgeiffhmgchbmaaGreatKT
namespace Go.Proofs.YtgeiffhmgchbmaaGreat
open Go Go.Clean

def elem1 : Value := .agg ⟨[(.int .u8 1), (.complex .f64 0 0), (.complex .f64 4607182418800017408 0), (.float .f64 0)]⟩
def knownM : Known := fun f args =>
  bif f == 47 && eqVs args [elem1] then some (M.ret (.int .i64 0))
  else bif f == 13 && eqVs args [.complex .f64 4607182418800017408 0] then some (M.ret elem1)
  else known f args
set_option maxRecDepth 100000 in
theorem call_ok : CallOK Tryz.prog (callN Tryz.prog known 30) := callN_ok known_ok mix back_ok noC 30
set_option maxRecDepth 100000 in
theorem knownM_ok : KnownOK Tryz.prog knownM := by
  intro f args g h
  unfold knownM at h
  cases h0 : (f == 47 && eqVs args [elem1]) with
  | true =>
    simp only [h0, cond_true, Option.some.injEq] at h
    subst h
    simp only [Bool.and_eq_true] at h0
    obtain ⟨h1, h2⟩ := h0
    obtain rfl := eq_of_beq h1
    obtain rfl := eqVs_eq h2
    exact memo_ok call_ok (by kernel_rfl) (by kernel_rfl) (by kernel_rfl)
  | false =>
    cases h1 : (f == 13 && eqVs args [.complex .f64 4607182418800017408 0]) with
    | true =>
      simp only [h0, h1, cond_true, cond_false, Option.some.injEq] at h
      subst h
      simp only [Bool.and_eq_true] at h1
      obtain ⟨h2, h3⟩ := h1
      obtain rfl := eq_of_beq h2
      obtain rfl := eqVs_eq h3
      exact memo_ok call_ok (by kernel_rfl) (by kernel_rfl) (by kernel_rfl)
    | false =>
      simp only [h0, h1, cond_false] at h
      exact known_ok f args g h
end Go.Proofs.YtgeiffhmgchbmaaGreat

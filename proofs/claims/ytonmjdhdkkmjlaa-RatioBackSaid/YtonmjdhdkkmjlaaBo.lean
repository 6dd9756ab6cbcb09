/- Plain: how great small polynomials' sums, products, shifts come to be. No program in sight. -/
import Derived.Test.YtonmjdhdkkmjlaaDi
set_option linter.unusedVariables false
set_option linter.unusedSimpArgs false
namespace Go.Proofs.Ytonmjdhdkkmjlaa

def A12 : PG := fun k => if k < 7 then (12, 0) else g0
def Z12 : G := (12, 0)
def Z24 : G := (24, 0)
set_option maxRecDepth 100000
theorem t1 : ∀ n, n ≤ 7 → (hs n A12 Z12).1 ≤ top := by decide +kernel
theorem t2 : ∀ n, n ≤ 7 → (hs n A12 Z24).1 ≤ top := by decide +kernel
theorem t3 : ∀ n, n ≤ 7 → (hs n (fun k => gadd (A12 k) (A12 k)) Z12).1 ≤ top := by decide +kernel
theorem t4 : ∀ i, i ≤ 7 → ∀ n, n ≤ 13 → (hs n (cv A12 A12 i) Z12).1 ≤ top := by decide +kernel
theorem t5 : ∀ i, i ≤ 7 → ∀ t, t ≤ 13 → (cv A12 A12 i t).1 ≤ 1099511627776 := by decide +kernel
theorem t6 : ∀ n, n ≤ 7 → ∀ j, j ≤ n → ∀ i, i ≤ 7 → (sh (n - 1) Z12 A12 j i).1 ≤ 1099511627776 := by decide +kernel
theorem t8 : ∀ n, n ≤ 7 → ∀ k, k ≤ n → (hs k (sh (n - 1) Z12 A12 (n - 1)) Z12).1 ≤ top := by decide +kernel
theorem t9 : ∀ i, i ≤ 6 → ∀ t, t ≤ 7 → (ofB Z12 i t).1 ≤ 1099511627776 := by decide +kernel
theorem t10 : ∀ i, i ≤ 6 → ∀ n, n ≤ 7 → (hs n (ofB Z12 i) Z12).1 ≤ top := by decide +kernel
theorem t11 : ∀ n, n ≤ 7 → ∀ k, k ≤ 7 → (gmul (hs n A12 Z12) (hs k A12 Z12)).1 ≤ top := by decide +kernel
end Go.Proofs.Ytonmjdhdkkmjlaa

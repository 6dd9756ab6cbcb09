/- package solve over float64: Solve. -/
import Derived.Test.YtghhanifakllpaaK
namespace Go.Proofs.Ytghhanifakllpaa
open Go.RowKit

set_option maxHeartbeats 2000000 in
theorem solve_any (v bv : Value) (rows : List (List Nat)) (rb : List Nat) (w : World) (hv : Mat w v rows) (hbv : FSl w bv rb) (hn : rows.length ≤ 1000000) (hm : ∀ r ∈ rows, r.length ≤ 1000000) (hrb : rb.length ≤ 1000000) :
    Calls Try.prog 8 #[v, bv] w (SolvePost rows rb w) := by
  have HV := Lib.hid hv
  have HBV := Lib.hid hbv
  have HN := Lib.hid hn
  have HM := Lib.hid hm
  have HRB := Lib.hid hrb
  obtain ⟨a, m, ac, rfl, _⟩ := hv
  obtain ⟨a', m', ac', rfl, _⟩ := hbv
  clear hn hm hrb
  go_enter Try.func8, Try.ntmps8
  go_wp2_with fail
  refine (floats_any _).mono ?_
  rintro e w1 ⟨rfl, hb1⟩
  go_wp2_with fail
  refine (solved_any _ _ rows rb _ (HV.out.below hb1) (HBV.out.below hb1) HN.out HM.out HRB.out).mono ?_
  rintro e w2 ⟨v, xs, rfl, hb2, ho, hw, hx⟩
  have HB : Hid (Below w.heap.size w w2) := hb1.trans (hb2.mono hb1.size)
  have HO := Lib.hid (owns_mono ho hb1.size)
  have HW := Lib.hid hw
  have HX := Lib.hid hx
  clear ho hw hx hb2
  go_wp2_with fail
  go_ret2
  exact ⟨_, xs, rfl, HB.out, HO.out, HW.out, HX.out⟩
end Go.Proofs.Ytghhanifakllpaa

/-
  No cell of these rows narrows 'for every input' (looked for: loops, veiled, ifaces, maps, wideKeys, modest, calm, conditions, laid).
  DERIVED. THE GIVEN ROWS OF THIS SEAT. 4 by the template 'for every input the law returns true; each argument reads behind the call as it read before'; 0 by the template 'total and deterministic' (their statements: YtghhanifakllpaaTotals.lean).
  GIVEN WITH THE SEED: the statements are not yours to turn. If you find one false, say at which input.
  Laid BY PROGRAM, IN A SANDBOX (cutbox-rows.mjs): the forced cells as the released guide's own fill.sh prints them over the translation cb920a93915da89f… (all of the seat's roots in one cut). By AI agents, Wed Nov 11 2026. No macro, syntax, notation, axiom, sorry.
-/
import Derived.Test.YtghhanifakllpaaChecked
import GoSem.Claim
import GoSem.ClaimJoined
import GoSem.ClaimMapViews
import Derived.JoinedTies
import Derived.KernelRfl
namespace Go.Proofs.Ytghhanifakllpaa
/- THE CELL 'sum', in the pinned program and in every row, IS THE sha256 OF THE DUMP (.gsa) THAT YtghhanifakllpaaProg.lean LOADS. Nothing in Lean hashes anything: it is a label: what it is worth is what the hold of that sum in a sandbox is worth. -/
noncomputable def Try.pinned : Pinned := { name := "ytghhanifakllpaa", sum := "cb920a93915da89f2f32e480391e3997e2ed4e55c0431f16a115597c260354a7", checked := Try.checked }
namespace Rows
def none {H : Type} : Left H := { results := [], args := [] }

/-- 'eddylaw14.SolveNames': WHATEVER THE INPUT: true; the input reads as it did. -/
def solveNamesSpec : ChangeSpec := { name := "solveNames", fn := fun _ => fun
  | [] => { results := [.lit (.bool true)], args := [] }
  | _ => none }
def solveNamesRow : OpenClaim := { program := "ytghhanifakllpaa", sum := "cb920a93915da89f2f32e480391e3997e2ed4e55c0431f16a115597c260354a7", func := "eddy/eddylaw14.SolveNames", spec := "solveNames", inPlace := ["math.Float64bits", "math.Float64frombits", "math.archMax"], unfollowed := true, recurses := true, apart := false }
def SolveNamesSaid : Prop := solveNamesRow.holds Try.pinned (OpenSpec.ofChange solveNamesSpec)

/-- ITS FALSE NEIGHBOUR: 'it returns false'. Refute it at one input. -/
def solveNamesWrong : ChangeSpec := { name := "solveNames", fn := fun _ => fun
  | [] => { results := [.lit (.bool false)], args := [] }
  | _ => none }
def SolveNamesWrongFalsely : Prop := solveNamesRow.holds Try.pinned (OpenSpec.ofChange solveNamesWrong)

/-- 'eddylaw14.SolveAll': WHATEVER THE INPUT: true; the input reads as it did. -/
def solveAllSpec : ChangeSpec := { name := "solveAll", fn := fun _ => fun
  | [d1, d2, d3] => { results := [.lit (.bool true)], args := [d1, d2, d3] }
  | _ => none }
def solveAllRow : OpenClaim := { program := "ytghhanifakllpaa", sum := "cb920a93915da89f2f32e480391e3997e2ed4e55c0431f16a115597c260354a7", func := "eddy/eddylaw14.SolveAll", spec := "solveAll", inPlace := ["math.Float64bits", "math.Float64frombits", "math.archMax"], unfollowed := true, recurses := true, apart := false }
def SolveAllSaid : Prop := solveAllRow.holds Try.pinned (OpenSpec.ofChange solveAllSpec)

/-- ITS FALSE NEIGHBOUR: 'it returns false'. Refute it at one input. -/
def solveAllWrong : ChangeSpec := { name := "solveAll", fn := fun _ => fun
  | [d1, d2, d3] => { results := [.lit (.bool false)], args := [d1, d2, d3] }
  | _ => none }
def SolveAllWrongFalsely : Prop := solveAllRow.holds Try.pinned (OpenSpec.ofChange solveAllWrong)

/-- 'eddylaw14.SolveWhole': WHATEVER THE INPUT: true; the input reads as it did. -/
def solveWholeSpec : ChangeSpec := { name := "solveWhole", fn := fun _ => fun
  | [d1, d2] => { results := [.lit (.bool true)], args := [d1, d2] }
  | _ => none }
def solveWholeRow : OpenClaim := { program := "ytghhanifakllpaa", sum := "cb920a93915da89f2f32e480391e3997e2ed4e55c0431f16a115597c260354a7", func := "eddy/eddylaw14.SolveWhole", spec := "solveWhole", inPlace := ["math.Float64bits", "math.Float64frombits", "math.archMax"], unfollowed := true, recurses := true, apart := false }
def SolveWholeSaid : Prop := solveWholeRow.holds Try.pinned (OpenSpec.ofChange solveWholeSpec)

/-- ITS FALSE NEIGHBOUR: 'it returns false'. Refute it at one input. -/
def solveWholeWrong : ChangeSpec := { name := "solveWhole", fn := fun _ => fun
  | [d1, d2] => { results := [.lit (.bool false)], args := [d1, d2] }
  | _ => none }
def SolveWholeWrongFalsely : Prop := solveWholeRow.holds Try.pinned (OpenSpec.ofChange solveWholeWrong)

/-- 'eddylaw14.SolveOff': WHATEVER THE INPUT: true; the input reads as it did. -/
def solveOffSpec : ChangeSpec := { name := "solveOff", fn := fun _ => fun
  | [d1, d2] => { results := [.lit (.bool true)], args := [d1, d2] }
  | _ => none }
def solveOffRow : OpenClaim := { program := "ytghhanifakllpaa", sum := "cb920a93915da89f2f32e480391e3997e2ed4e55c0431f16a115597c260354a7", func := "eddy/eddylaw14.SolveOff", spec := "solveOff", inPlace := ["math.Float64bits", "math.Float64frombits", "math.archMax"], unfollowed := true, recurses := true, apart := false }
def SolveOffSaid : Prop := solveOffRow.holds Try.pinned (OpenSpec.ofChange solveOffSpec)

/-- ITS FALSE NEIGHBOUR: 'it returns false'. Refute it at one input. -/
def solveOffWrong : ChangeSpec := { name := "solveOff", fn := fun _ => fun
  | [d1, d2] => { results := [.lit (.bool false)], args := [d1, d2] }
  | _ => none }
def SolveOffWrongFalsely : Prop := solveOffRow.holds Try.pinned (OpenSpec.ofChange solveOffWrong)

/- THE SECOND FORM. 'bulk': how many values and letters a reading holds, each counted each time it is reached (what is shared counts as often as it is met; a slice's spare places count too). A statement '..UptoSaid' is the law's where the arguments, and the package variables that the reading takes, are together of bulk at most 1048576: NARROWER than '..Said'. Prove '..Said' where nothing that the law and all that it calls make is longer than what came in: it says more and counts as full. Else prove '..UptoSaid'. A law counts once. -/
mutual
def uptoBulk {H : Type} : DataW H → Nat
  | .lit (.string bytes) => bytes.length + 1
  | .lit _ => 1
  | .nil => 1
  | .ptr d => uptoBulk d + 1
  | .slice elems spare => uptoBulkAll elems + uptoBulkAll spare + 1
  | .agg parts => uptoBulkAll parts + 1
  | .iface _ d => uptoBulk d + 1
  | .map entries => uptoBulkEntries entries + 1
  | .held _ => 1
def uptoBulkAll {H : Type} : List (DataW H) → Nat
  | [] => 0
  | d :: r => uptoBulk d + uptoBulkAll r
def uptoBulkEntries {H : Type} : List (Lit × DataW H) → Nat
  | [] => 0
  | x :: r => uptoBulkEntry x + uptoBulkEntries r
def uptoBulkEntry {H : Type} : Lit × DataW H → Nat
  | (.string bytes, d) => bytes.length + uptoBulk d + 1
  | (_, d) => uptoBulk d + 1
 end
def uptoSmall : (H : Type) → List (DataW H) → Bool := fun _ ds => decide (uptoBulkAll ds ≤ 1048576)
def OpenSpec.upto (s : _root_.Go.ChangeSpec) : _root_.Go.OpenSpec := { _root_.Go.OpenSpec.ofChange s with cond := some uptoSmall }

/-- 'eddylaw14.SolveNames', WHERE WHAT IT READS IS OF BULK AT MOST 1048576: true; the input reads as it did. -/
def solveNamesUptoRow : OpenClaim := { program := "ytghhanifakllpaa", sum := "cb920a93915da89f2f32e480391e3997e2ed4e55c0431f16a115597c260354a7", func := "eddy/eddylaw14.SolveNames", spec := "solveNames", inPlace := ["math.Float64bits", "math.Float64frombits", "math.archMax"], unfollowed := true, recurses := true, apart := false, narrowed := true }
def SolveNamesUptoSaid : Prop := solveNamesUptoRow.holds Try.pinned (OpenSpec.upto solveNamesSpec)

/-- 'eddylaw14.SolveAll', WHERE WHAT IT READS IS OF BULK AT MOST 1048576: true; the input reads as it did. -/
def solveAllUptoRow : OpenClaim := { program := "ytghhanifakllpaa", sum := "cb920a93915da89f2f32e480391e3997e2ed4e55c0431f16a115597c260354a7", func := "eddy/eddylaw14.SolveAll", spec := "solveAll", inPlace := ["math.Float64bits", "math.Float64frombits", "math.archMax"], unfollowed := true, recurses := true, apart := false, narrowed := true }
def SolveAllUptoSaid : Prop := solveAllUptoRow.holds Try.pinned (OpenSpec.upto solveAllSpec)

/-- 'eddylaw14.SolveWhole', WHERE WHAT IT READS IS OF BULK AT MOST 1048576: true; the input reads as it did. -/
def solveWholeUptoRow : OpenClaim := { program := "ytghhanifakllpaa", sum := "cb920a93915da89f2f32e480391e3997e2ed4e55c0431f16a115597c260354a7", func := "eddy/eddylaw14.SolveWhole", spec := "solveWhole", inPlace := ["math.Float64bits", "math.Float64frombits", "math.archMax"], unfollowed := true, recurses := true, apart := false, narrowed := true }
def SolveWholeUptoSaid : Prop := solveWholeUptoRow.holds Try.pinned (OpenSpec.upto solveWholeSpec)

/-- 'eddylaw14.SolveOff', WHERE WHAT IT READS IS OF BULK AT MOST 1048576: true; the input reads as it did. -/
def solveOffUptoRow : OpenClaim := { program := "ytghhanifakllpaa", sum := "cb920a93915da89f2f32e480391e3997e2ed4e55c0431f16a115597c260354a7", func := "eddy/eddylaw14.SolveOff", spec := "solveOff", inPlace := ["math.Float64bits", "math.Float64frombits", "math.archMax"], unfollowed := true, recurses := true, apart := false, narrowed := true }
def SolveOffUptoSaid : Prop := solveOffUptoRow.holds Try.pinned (OpenSpec.upto solveOffSpec)

end Rows
end Go.Proofs.Ytghhanifakllpaa

/- SolveNames: the numbers of chapter 14; as many unknowns as may be, and one more. No condition. -/
import Derived.Test.YtghhanifakllpaaR
namespace Go.Proofs.Ytghhanifakllpaa
open Go.Clean

set_option maxRecDepth 1000000 in
theorem names_says : saysTrue Try.prog known 60 3 = true := by kernel_rfl
end Go.Proofs.Ytghhanifakllpaa

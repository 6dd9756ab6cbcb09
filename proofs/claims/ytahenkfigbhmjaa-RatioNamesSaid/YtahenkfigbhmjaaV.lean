/- RatioNames: the numbers of chapter 10, fractions by name. No condition. -/
import Derived.Test.YtahenkfigbhmjaaP
namespace Go.Proofs.Ytahenkfigbhmjaa
open Go.Clean

set_option maxRecDepth 1000000 in
theorem names_says : saysTrue Try.prog known 60 5 = true := by kernel_rfl
end Go.Proofs.Ytahenkfigbhmjaa

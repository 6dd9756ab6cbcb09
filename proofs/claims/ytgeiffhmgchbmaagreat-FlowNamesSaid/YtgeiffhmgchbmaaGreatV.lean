/- FlowNames: the numbers of chapter 16. No condition. -/
import Derived.Test.YtgeiffhmgchbmaaGreatPM
namespace Go.Proofs.YtgeiffhmgchbmaaGreat
open Go.Clean

set_option maxRecDepth 1000000 in
theorem names_says : saysTrue Tryz.prog knownM 60 4 = true := by kernel_rfl
end Go.Proofs.YtgeiffhmgchbmaaGreat

/- The example values of chapter 10, run by the kernel. No condition. -/
import Derived.Test.YtonmjdhdkkmjlaaVA
namespace Go.Proofs.Ytonmjdhdkkmjlaa
open Go.Clean

set_option maxRecDepth 1000000 in
theorem alive10_run : isTrue (callN Try.prog known0 60 20 [] .empty) = true := by kernel_rfl
end Go.Proofs.Ytonmjdhdkkmjlaa

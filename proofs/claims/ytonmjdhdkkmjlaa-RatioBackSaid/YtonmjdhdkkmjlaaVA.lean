/- The example values of chapter 8, run by the kernel. No condition. -/
import Derived.Test.YtonmjdhdkkmjlaaP
namespace Go.Proofs.Ytonmjdhdkkmjlaa
open Go.Clean

def isTrue (o : Option (Value × Mem)) : Bool := match o with
  | some (.bool true, _) => true
  | _ => false
set_option maxRecDepth 1000000 in
theorem alive8_run : isTrue (callN Try.prog known0 60 6 [] .empty) = true := by kernel_rfl
end Go.Proofs.Ytonmjdhdkkmjlaa

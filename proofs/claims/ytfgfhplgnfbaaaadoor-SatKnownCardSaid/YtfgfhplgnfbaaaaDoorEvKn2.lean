/- One piece of a long body. -/
import Derived.Test.YtfgfhplgnfbaaaaDoorEvKnD
import Derived.KernelRfl
namespace Go.Proofs.YtfgfhplgnfbaaaaDoor
open Go Go.Ev
theorem p2 : piece Tryd.prog (evCall Tryd.prog 1000 100) 1000 601 3 ids3 c2 v2 = some (601, v3) := by kernel_rfl
end Go.Proofs.YtfgfhplgnfbaaaaDoor

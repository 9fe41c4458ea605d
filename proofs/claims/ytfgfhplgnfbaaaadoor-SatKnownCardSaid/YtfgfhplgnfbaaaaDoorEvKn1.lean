/- One piece of a long body. -/
import Derived.Test.YtfgfhplgnfbaaaaDoorEvKnD
import Derived.KernelRfl
namespace Go.Proofs.YtfgfhplgnfbaaaaDoor
open Go Go.Ev
theorem p1 : piece Tryd.prog (evCall Tryd.prog 1000 100) 1000 601 15 ids2 c1 v1 = some (601, v2) := by kernel_rfl
end Go.Proofs.YtfgfhplgnfbaaaaDoor

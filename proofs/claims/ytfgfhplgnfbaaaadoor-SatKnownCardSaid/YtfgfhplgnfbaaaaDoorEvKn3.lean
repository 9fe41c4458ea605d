/- One piece of a long body. -/
import Derived.Test.YtfgfhplgnfbaaaaDoorEvKnD
import Derived.KernelRfl
namespace Go.Proofs.YtfgfhplgnfbaaaaDoor
open Go Go.Ev
theorem p3 : piece Tryd.prog (evCall Tryd.prog 1000 100) 1000 601 8 ids4 c3 v3 = some (601, v4) := by kernel_rfl
end Go.Proofs.YtfgfhplgnfbaaaaDoor

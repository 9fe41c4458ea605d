/- One piece of a long body. -/
import Derived.Test.YtfgfhplgnfbaaaaDoorEvKnD
import Derived.KernelRfl
namespace Go.Proofs.YtfgfhplgnfbaaaaDoor
open Go Go.Ev
theorem p4 : piece Tryd.prog (evCall Tryd.prog 1000 100) 1000 601 2 ids5 c4 v4 = some (601, v5) := by kernel_rfl
end Go.Proofs.YtfgfhplgnfbaaaaDoor

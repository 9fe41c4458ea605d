/- Part of the proof. -/
import Derived.Test.YtngcjpkccnfjiaaDoorYC
namespace Go.Proofs.YtngcjpkccnfjiaaDoor
open Go.Ev
theorem works_ev : saysTrue (evCall Tryd.prog 1000 100 24 [] h0) = true := by kernel_rfl
end Go.Proofs.YtngcjpkccnfjiaaDoor

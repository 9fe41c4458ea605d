/- Part of the proof. -/
import Derived.Test.YtfgfhplgnfbaaaaDoorProg
import Derived.Test.YtfgfhplgnfbaaaaDoorEvB
import Derived.KernelRfl
namespace Go.Proofs.YtfgfhplgnfbaaaaDoor
open Go.Ev
def tab : List Value := [0,1,28,2,29,14,24,3,30,22,20,15,25,17,4,8,31,27,13,23,21,19,16,7,26,12,18,6,11,5,10,9].map fun x => .int .u8 x
noncomputable def h0 : Hp := { t := Tr.set (Tr.full none 64) 0 (some (.cells tab 0 .ro)), nx := 1, gd := [] }
def saysTrue (r : Option (Value × Hp)) : Bool := match r with | some (.bool b, _) => b | _ => false
theorem gsz : Tryd.prog.globals.size = 1 := by kernel_rfl
theorem mixed : Tryd.prog.follows .mixedOrders = true := by kernel_rfl
theorem noNumB : (Tryd.prog.funcs.toList.all fun fn => !(fn.name == "runtime.NumGoroutine")) = true := by kernel_rfl
theorem noNum : NoNum Tryd.prog := fun f fn hf => by
  have := List.all_eq_true.1 noNumB fn (by rw [← Array.getElem?_toList] at hf; exact List.mem_of_getElem? hf)
  simpa using this
end Go.Proofs.YtfgfhplgnfbaaaaDoor

/- The examples of layer 15: the evaluator's word. -/
import Derived.Test.YtngcjpkccnfjiaaDoorYE
namespace Go.Proofs.YtngcjpkccnfjiaaDoor
open Go Go.Ev
theorem known_ev : saysTrue (evW Tryd.prog Ow 1000 1000 3 [] h0) = true := by kernel_rfl
theorem known_EvC : ∃ h', EvC Tryd.prog Ow 3 [] h0 (.bool true) h' := by
  have hev := known_ev
  cases hr : evW Tryd.prog Ow 1000 1000 3 [] h0 with
  | none => rw [hr] at hev; cases hev
  | some r =>
    obtain ⟨v, h1⟩ := r
    rw [hr] at hev
    obtain rfl : v = .bool true := by
      cases v with
      | bool b => have : b = true := hev; rw [this]
      | _ => cases hev
    exact ⟨h1, 1000, hr⟩
end Go.Proofs.YtngcjpkccnfjiaaDoor

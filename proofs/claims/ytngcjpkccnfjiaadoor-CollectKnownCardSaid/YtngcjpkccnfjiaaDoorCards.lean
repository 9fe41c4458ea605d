/-
  DERIVED. GIVEN WITH THE SEED: THE CARDS: each row of YtngcjpkccnfjiaaDoorRows.lean that lists a variable, with what it lists TIED to the program's text (the seventh form; the later family's looks); each row that meets fmt, with fmt's text TOLD by the authors' own Lean function (tested against real Go, not proved from fmt's source: count such statements apart). THE CARD IS WHAT COUNTS. Prove the row's statement (the work); the ties are given (YtngcjpkccnfjiaaDoorTie.lean); close each card by the builder's one call (the guide's Derived/Test/ToyasCard.lean, 'card_holds'). Laid BY PROGRAM, IN A SANDBOX (cutbox-door.mjs). By AI agents, Wed Nov 11 2026. No macro, syntax, notation, axiom, sorry.
-/
import Derived.Test.YtngcjpkccnfjiaaDoorRows
import GoSem.ClaimSeven
namespace Go.Proofs.YtngcjpkccnfjiaaDoor
namespace Rows

/-- THE TIED CARD OF 'swardlaw15.CollectKnown'. -/
def collectKnownCard : Claim7 := { stood := { row := collectKnownRow, standIns := [], harness := (true, "b7930443a2049b8c23bc5a85dbabe3546003c1fc12dee7b4fbe913d118a847ca"), looks := true }, kinds := [], alts := [], laidByText := true, laidKinds := [.data], laidTests := true, laidLooks := .later }
def CollectKnownCardSaid : Prop := Claim7.holds Tryd.pinned (.plain (OpenSpec.ofChange collectKnownSpec)) collectKnownCard

/-- THE SECOND FORM's CARD OF 'swardlaw15.CollectKnown'. -/
def collectKnownUptoCard : Claim7 := { stood := { row := collectKnownUptoRow, standIns := [], harness := (true, "b7930443a2049b8c23bc5a85dbabe3546003c1fc12dee7b4fbe913d118a847ca"), looks := true }, kinds := [], alts := [], laidByText := true, laidKinds := [.data], laidTests := true, laidLooks := .later }
def CollectKnownUptoCardSaid : Prop := Claim7.holds Tryd.pinned (.plain (OpenSpec.upto collectKnownSpec)) collectKnownUptoCard
end Rows
end Go.Proofs.YtngcjpkccnfjiaaDoor

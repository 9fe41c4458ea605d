/-
  DERIVED. GIVEN WITH THE SEED: THE CARDS: each row of YtngcjpkccnfjiaaGreatDoorRows.lean that lists a variable, with what it lists TIED to the program's text (the seventh form; the later family's looks); each row that meets fmt, with fmt's text TOLD by the authors' own Lean function (tested against real Go, not proved from fmt's source: count such statements apart). THE CARD IS WHAT COUNTS. Prove the row's statement (the work); the ties are given (YtngcjpkccnfjiaaGreatDoorTie.lean); close each card by the builder's one call (the guide's Derived/Test/ToyasCard.lean, 'card_holds'). Laid BY PROGRAM, IN A SANDBOX (cutbox-door.mjs). By AI agents, Wed Nov 11 2026. No macro, syntax, notation, axiom, sorry.
-/
import Derived.Test.YtngcjpkccnfjiaaGreatDoorRows
import GoSem.ClaimSeven
namespace Go.Proofs.YtngcjpkccnfjiaaGreatDoor
namespace Rows

/-- THE TIED CARD OF 'swardlaw15.CollectMoves'. -/
def collectMovesCard : Claim7 := { stood := { row := collectMovesRow, standIns := [], harness := (true, "9aa8db10c728cf6d652eab52f4496e1f317340764df7c30ddd7cadb51ba54ef0"), looks := true }, kinds := [], alts := [], laidByText := true, laidKinds := [.data], laidTests := true, laidLooks := .later }
def CollectMovesCardSaid : Prop := Claim7.holds Tryz.pinned (.plain (OpenSpec.ofChange collectMovesSpec)) collectMovesCard

/-- THE TIED CARD OF 'swardlaw15.CollectMakes'. -/
def collectMakesCard : Claim7 := { stood := { row := collectMakesRow, standIns := [], harness := (true, "9aa8db10c728cf6d652eab52f4496e1f317340764df7c30ddd7cadb51ba54ef0"), looks := true }, kinds := [], alts := [], laidByText := true, laidKinds := [.data], laidTests := true, laidLooks := .later }
def CollectMakesCardSaid : Prop := Claim7.holds Tryz.pinned (.plain (OpenSpec.ofChange collectMakesSpec)) collectMakesCard

/-- THE TIED CARD OF 'swardlaw15.CollectValues'. -/
def collectValuesCard : Claim7 := { stood := { row := collectValuesRow, standIns := [], harness := (true, "9aa8db10c728cf6d652eab52f4496e1f317340764df7c30ddd7cadb51ba54ef0"), looks := true }, kinds := [], alts := [], laidByText := true, laidKinds := [.data], laidTests := true, laidLooks := .later }
def CollectValuesCardSaid : Prop := Claim7.holds Tryz.pinned (.plain (OpenSpec.ofChange collectValuesSpec)) collectValuesCard

/-- THE TIED CARD OF 'swardlaw15.CollectForms'. -/
def collectFormsCard : Claim7 := { stood := { row := collectFormsRow, standIns := [], harness := (true, "9aa8db10c728cf6d652eab52f4496e1f317340764df7c30ddd7cadb51ba54ef0"), looks := true }, kinds := [], alts := [], laidByText := true, laidKinds := [.data], laidTests := true, laidLooks := .later }
def CollectFormsCardSaid : Prop := Claim7.holds Tryz.pinned (.plain (OpenSpec.ofChange collectFormsSpec)) collectFormsCard

/-- THE TIED CARD OF 'swardlaw15.CollectBuilt'. -/
def collectBuiltCard : Claim7 := { stood := { row := collectBuiltRow, standIns := [], harness := (true, "9aa8db10c728cf6d652eab52f4496e1f317340764df7c30ddd7cadb51ba54ef0"), looks := true }, kinds := [], alts := [], laidByText := true, laidKinds := [.data], laidTests := true, laidLooks := .later }
def CollectBuiltCardSaid : Prop := Claim7.holds Tryz.pinned (.plain (OpenSpec.ofChange collectBuiltSpec)) collectBuiltCard

/-- THE TIED CARD OF 'swardlaw15.CollectWritten'. -/
def collectWrittenCard : Claim7 := { stood := { row := collectWrittenRow, standIns := [], harness := (true, "9aa8db10c728cf6d652eab52f4496e1f317340764df7c30ddd7cadb51ba54ef0"), looks := true }, kinds := [], alts := [], laidByText := true, laidKinds := [.data], laidTests := true, laidLooks := .later }
def CollectWrittenCardSaid : Prop := Claim7.holds Tryz.pinned (.plain (OpenSpec.ofChange collectWrittenSpec)) collectWrittenCard

/-- THE TIED CARD OF 'swardlaw15.CollectYoung'. -/
def collectYoungCard : Claim7 := { stood := { row := collectYoungRow, standIns := [], harness := (true, "9aa8db10c728cf6d652eab52f4496e1f317340764df7c30ddd7cadb51ba54ef0"), looks := true }, kinds := [], alts := [], laidByText := true, laidKinds := [.data], laidTests := true, laidLooks := .later }
def CollectYoungCardSaid : Prop := Claim7.holds Tryz.pinned (.plain (OpenSpec.ofChange collectYoungSpec)) collectYoungCard

/-- THE TIED CARD OF 'swardlaw15.CollectRoom'. -/
def collectRoomCard : Claim7 := { stood := { row := collectRoomRow, standIns := [], harness := (true, "9aa8db10c728cf6d652eab52f4496e1f317340764df7c30ddd7cadb51ba54ef0"), looks := true }, kinds := [], alts := [], laidByText := true, laidKinds := [.data], laidTests := true, laidLooks := .later }
def CollectRoomCardSaid : Prop := Claim7.holds Tryz.pinned (.plain (OpenSpec.ofChange collectRoomSpec)) collectRoomCard

/-- THE TIED CARD OF 'swardlaw15.CollectKept'. -/
def collectKeptCard : Claim7 := { stood := { row := collectKeptRow, standIns := [], harness := (true, "9aa8db10c728cf6d652eab52f4496e1f317340764df7c30ddd7cadb51ba54ef0"), looks := true }, kinds := [], alts := [], laidByText := true, laidKinds := [.data], laidTests := true, laidLooks := .later }
def CollectKeptCardSaid : Prop := Claim7.holds Tryz.pinned (.plain (OpenSpec.ofChange collectKeptSpec)) collectKeptCard

/-- THE TIED CARD OF 'swardlaw15.CollectSame'. -/
def collectSameCard : Claim7 := { stood := { row := collectSameRow, standIns := [], harness := (true, "9aa8db10c728cf6d652eab52f4496e1f317340764df7c30ddd7cadb51ba54ef0"), looks := true }, kinds := [], alts := [], laidByText := true, laidKinds := [.data], laidTests := true, laidLooks := .later }
def CollectSameCardSaid : Prop := Claim7.holds Tryz.pinned (.plain (OpenSpec.ofChange collectSameSpec)) collectSameCard

/-- THE SECOND FORM's CARD OF 'swardlaw15.CollectMoves'. -/
def collectMovesUptoCard : Claim7 := { stood := { row := collectMovesUptoRow, standIns := [], harness := (true, "9aa8db10c728cf6d652eab52f4496e1f317340764df7c30ddd7cadb51ba54ef0"), looks := true }, kinds := [], alts := [], laidByText := true, laidKinds := [.data], laidTests := true, laidLooks := .later }
def CollectMovesUptoCardSaid : Prop := Claim7.holds Tryz.pinned (.plain (OpenSpec.upto collectMovesSpec)) collectMovesUptoCard

/-- THE SECOND FORM's CARD OF 'swardlaw15.CollectMakes'. -/
def collectMakesUptoCard : Claim7 := { stood := { row := collectMakesUptoRow, standIns := [], harness := (true, "9aa8db10c728cf6d652eab52f4496e1f317340764df7c30ddd7cadb51ba54ef0"), looks := true }, kinds := [], alts := [], laidByText := true, laidKinds := [.data], laidTests := true, laidLooks := .later }
def CollectMakesUptoCardSaid : Prop := Claim7.holds Tryz.pinned (.plain (OpenSpec.upto collectMakesSpec)) collectMakesUptoCard

/-- THE SECOND FORM's CARD OF 'swardlaw15.CollectValues'. -/
def collectValuesUptoCard : Claim7 := { stood := { row := collectValuesUptoRow, standIns := [], harness := (true, "9aa8db10c728cf6d652eab52f4496e1f317340764df7c30ddd7cadb51ba54ef0"), looks := true }, kinds := [], alts := [], laidByText := true, laidKinds := [.data], laidTests := true, laidLooks := .later }
def CollectValuesUptoCardSaid : Prop := Claim7.holds Tryz.pinned (.plain (OpenSpec.upto collectValuesSpec)) collectValuesUptoCard

/-- THE SECOND FORM's CARD OF 'swardlaw15.CollectForms'. -/
def collectFormsUptoCard : Claim7 := { stood := { row := collectFormsUptoRow, standIns := [], harness := (true, "9aa8db10c728cf6d652eab52f4496e1f317340764df7c30ddd7cadb51ba54ef0"), looks := true }, kinds := [], alts := [], laidByText := true, laidKinds := [.data], laidTests := true, laidLooks := .later }
def CollectFormsUptoCardSaid : Prop := Claim7.holds Tryz.pinned (.plain (OpenSpec.upto collectFormsSpec)) collectFormsUptoCard

/-- THE SECOND FORM's CARD OF 'swardlaw15.CollectBuilt'. -/
def collectBuiltUptoCard : Claim7 := { stood := { row := collectBuiltUptoRow, standIns := [], harness := (true, "9aa8db10c728cf6d652eab52f4496e1f317340764df7c30ddd7cadb51ba54ef0"), looks := true }, kinds := [], alts := [], laidByText := true, laidKinds := [.data], laidTests := true, laidLooks := .later }
def CollectBuiltUptoCardSaid : Prop := Claim7.holds Tryz.pinned (.plain (OpenSpec.upto collectBuiltSpec)) collectBuiltUptoCard

/-- THE SECOND FORM's CARD OF 'swardlaw15.CollectWritten'. -/
def collectWrittenUptoCard : Claim7 := { stood := { row := collectWrittenUptoRow, standIns := [], harness := (true, "9aa8db10c728cf6d652eab52f4496e1f317340764df7c30ddd7cadb51ba54ef0"), looks := true }, kinds := [], alts := [], laidByText := true, laidKinds := [.data], laidTests := true, laidLooks := .later }
def CollectWrittenUptoCardSaid : Prop := Claim7.holds Tryz.pinned (.plain (OpenSpec.upto collectWrittenSpec)) collectWrittenUptoCard

/-- THE SECOND FORM's CARD OF 'swardlaw15.CollectYoung'. -/
def collectYoungUptoCard : Claim7 := { stood := { row := collectYoungUptoRow, standIns := [], harness := (true, "9aa8db10c728cf6d652eab52f4496e1f317340764df7c30ddd7cadb51ba54ef0"), looks := true }, kinds := [], alts := [], laidByText := true, laidKinds := [.data], laidTests := true, laidLooks := .later }
def CollectYoungUptoCardSaid : Prop := Claim7.holds Tryz.pinned (.plain (OpenSpec.upto collectYoungSpec)) collectYoungUptoCard

/-- THE SECOND FORM's CARD OF 'swardlaw15.CollectRoom'. -/
def collectRoomUptoCard : Claim7 := { stood := { row := collectRoomUptoRow, standIns := [], harness := (true, "9aa8db10c728cf6d652eab52f4496e1f317340764df7c30ddd7cadb51ba54ef0"), looks := true }, kinds := [], alts := [], laidByText := true, laidKinds := [.data], laidTests := true, laidLooks := .later }
def CollectRoomUptoCardSaid : Prop := Claim7.holds Tryz.pinned (.plain (OpenSpec.upto collectRoomSpec)) collectRoomUptoCard

/-- THE SECOND FORM's CARD OF 'swardlaw15.CollectKept'. -/
def collectKeptUptoCard : Claim7 := { stood := { row := collectKeptUptoRow, standIns := [], harness := (true, "9aa8db10c728cf6d652eab52f4496e1f317340764df7c30ddd7cadb51ba54ef0"), looks := true }, kinds := [], alts := [], laidByText := true, laidKinds := [.data], laidTests := true, laidLooks := .later }
def CollectKeptUptoCardSaid : Prop := Claim7.holds Tryz.pinned (.plain (OpenSpec.upto collectKeptSpec)) collectKeptUptoCard

/-- THE SECOND FORM's CARD OF 'swardlaw15.CollectSame'. -/
def collectSameUptoCard : Claim7 := { stood := { row := collectSameUptoRow, standIns := [], harness := (true, "9aa8db10c728cf6d652eab52f4496e1f317340764df7c30ddd7cadb51ba54ef0"), looks := true }, kinds := [], alts := [], laidByText := true, laidKinds := [.data], laidTests := true, laidLooks := .later }
def CollectSameUptoCardSaid : Prop := Claim7.holds Tryz.pinned (.plain (OpenSpec.upto collectSameSpec)) collectSameUptoCard
end Rows
end Go.Proofs.YtngcjpkccnfjiaaGreatDoor

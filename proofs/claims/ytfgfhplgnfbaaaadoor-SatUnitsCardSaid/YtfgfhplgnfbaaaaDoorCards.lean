/-
  DERIVED. GIVEN WITH THE SEED: THE CARDS: each row of YtfgfhplgnfbaaaaDoorRows.lean that lists a variable, with what it lists TIED to the program's text (the seventh form; the later family's looks); each row that meets fmt, with fmt's text TOLD by the authors' own Lean function (tested against real Go, not proved from fmt's source: count such statements apart). THE CARD IS WHAT COUNTS. Prove the row's statement (the work); the ties are given (YtfgfhplgnfbaaaaDoorTie.lean); close each card by the builder's one call (the guide's Derived/Test/ToyasCard.lean, 'card_holds'). Laid BY PROGRAM, IN A SANDBOX (cutbox-door.mjs). By AI agents, Wed Nov 11 2026. No macro, syntax, notation, axiom, sorry.
-/
import Derived.Test.YtfgfhplgnfbaaaaDoorRows
import GoSem.ClaimSeven
namespace Go.Proofs.YtfgfhplgnfbaaaaDoor
namespace Rows

/-- THE TIED CARD OF 'swardlaw20.SatNames'. -/
def satNamesCard : Claim7 := { stood := { row := satNamesRow, standIns := [], harness := (true, "1a80220e2f2330487d55824a2c9615c52a8825abb9c56762a350ae83cb0026d7"), looks := false }, kinds := [], alts := [], laidByText := true, laidKinds := [.data], laidTests := true, laidLooks := .later }
def SatNamesCardSaid : Prop := Claim7.holds Tryd.pinned (.plain (OpenSpec.ofChange satNamesSpec)) satNamesCard

/-- THE TIED CARD OF 'swardlaw20.SatForms'. -/
def satFormsCard : Claim7 := { stood := { row := satFormsRow, standIns := [], harness := (true, "1a80220e2f2330487d55824a2c9615c52a8825abb9c56762a350ae83cb0026d7"), looks := false }, kinds := [], alts := [], laidByText := true, laidKinds := [.data], laidTests := true, laidLooks := .later }
def SatFormsCardSaid : Prop := Claim7.holds Tryd.pinned (.plain (OpenSpec.ofChange satFormsSpec)) satFormsCard

/-- THE TIED CARD OF 'swardlaw20.SatUnits'. -/
def satUnitsCard : Claim7 := { stood := { row := satUnitsRow, standIns := [], harness := (true, "1a80220e2f2330487d55824a2c9615c52a8825abb9c56762a350ae83cb0026d7"), looks := false }, kinds := [], alts := [], laidByText := true, laidKinds := [.data], laidTests := true, laidLooks := .later }
def SatUnitsCardSaid : Prop := Claim7.holds Tryd.pinned (.plain (OpenSpec.ofChange satUnitsSpec)) satUnitsCard

/-- THE TIED CARD OF 'swardlaw20.SatResolves'. -/
def satResolvesCard : Claim7 := { stood := { row := satResolvesRow, standIns := [], harness := (true, "1a80220e2f2330487d55824a2c9615c52a8825abb9c56762a350ae83cb0026d7"), looks := false }, kinds := [], alts := [], laidByText := true, laidKinds := [.data], laidTests := true, laidLooks := .later }
def SatResolvesCardSaid : Prop := Claim7.holds Tryd.pinned (.plain (OpenSpec.ofChange satResolvesSpec)) satResolvesCard

/-- THE TIED CARD OF 'swardlaw20.SatProves'. -/
def satProvesCard : Claim7 := { stood := { row := satProvesRow, standIns := [], harness := (true, "1a80220e2f2330487d55824a2c9615c52a8825abb9c56762a350ae83cb0026d7"), looks := false }, kinds := [], alts := [], laidByText := true, laidKinds := [.data], laidTests := true, laidLooks := .later }
def SatProvesCardSaid : Prop := Claim7.holds Tryd.pinned (.plain (OpenSpec.ofChange satProvesSpec)) satProvesCard

/-- THE TIED CARD OF 'swardlaw20.SatAccepts'. -/
def satAcceptsCard : Claim7 := { stood := { row := satAcceptsRow, standIns := [], harness := (true, "1a80220e2f2330487d55824a2c9615c52a8825abb9c56762a350ae83cb0026d7"), looks := false }, kinds := [], alts := [], laidByText := true, laidKinds := [.data], laidTests := true, laidLooks := .later }
def SatAcceptsCardSaid : Prop := Claim7.holds Tryd.pinned (.plain (OpenSpec.ofChange satAcceptsSpec)) satAcceptsCard

/-- THE TIED CARD OF 'swardlaw20.SatKnown'. -/
def satKnownCard : Claim7 := { stood := { row := satKnownRow, standIns := [], harness := (true, "1a80220e2f2330487d55824a2c9615c52a8825abb9c56762a350ae83cb0026d7"), looks := false }, kinds := [], alts := [], laidByText := true, laidKinds := [.data], laidTests := true, laidLooks := .later }
def SatKnownCardSaid : Prop := Claim7.holds Tryd.pinned (.plain (OpenSpec.ofChange satKnownSpec)) satKnownCard

/-- THE TIED CARD OF 'swardlaw20.SatProofs'. -/
def satProofsCard : Claim7 := { stood := { row := satProofsRow, standIns := [], harness := (true, "1a80220e2f2330487d55824a2c9615c52a8825abb9c56762a350ae83cb0026d7"), looks := false }, kinds := [], alts := [], laidByText := true, laidKinds := [.data], laidTests := true, laidLooks := .later }
def SatProofsCardSaid : Prop := Claim7.holds Tryd.pinned (.plain (OpenSpec.ofChange satProofsSpec)) satProofsCard

/-- THE TIED CARD OF 'swardlaw20.SatSound'. -/
def satSoundCard : Claim7 := { stood := { row := satSoundRow, standIns := [], harness := (true, "1a80220e2f2330487d55824a2c9615c52a8825abb9c56762a350ae83cb0026d7"), looks := false }, kinds := [], alts := [], laidByText := true, laidKinds := [.data], laidTests := true, laidLooks := .later }
def SatSoundCardSaid : Prop := Claim7.holds Tryd.pinned (.plain (OpenSpec.ofChange satSoundSpec)) satSoundCard

/-- THE TIED CARD OF 'swardlaw20.SatMinimal'. -/
def satMinimalCard : Claim7 := { stood := { row := satMinimalRow, standIns := [], harness := (true, "1a80220e2f2330487d55824a2c9615c52a8825abb9c56762a350ae83cb0026d7"), looks := false }, kinds := [], alts := [], laidByText := true, laidKinds := [.data], laidTests := true, laidLooks := .later }
def SatMinimalCardSaid : Prop := Claim7.holds Tryd.pinned (.plain (OpenSpec.ofChange satMinimalSpec)) satMinimalCard

/-- THE TIED CARD OF 'swardlaw20.SatLearned'. -/
def satLearnedCard : Claim7 := { stood := { row := satLearnedRow, standIns := [], harness := (true, "1a80220e2f2330487d55824a2c9615c52a8825abb9c56762a350ae83cb0026d7"), looks := false }, kinds := [], alts := [], laidByText := true, laidKinds := [.data], laidTests := true, laidLooks := .later }
def SatLearnedCardSaid : Prop := Claim7.holds Tryd.pinned (.plain (OpenSpec.ofChange satLearnedSpec)) satLearnedCard

/-- THE TIED CARD OF 'swardlaw20.SatForced'. -/
def satForcedCard : Claim7 := { stood := { row := satForcedRow, standIns := [], harness := (true, "1a80220e2f2330487d55824a2c9615c52a8825abb9c56762a350ae83cb0026d7"), looks := false }, kinds := [], alts := [], laidByText := true, laidKinds := [.data], laidTests := true, laidLooks := .later }
def SatForcedCardSaid : Prop := Claim7.holds Tryd.pinned (.plain (OpenSpec.ofChange satForcedSpec)) satForcedCard

/-- THE TIED CARD OF 'swardlaw20.SatResolved'. -/
def satResolvedCard : Claim7 := { stood := { row := satResolvedRow, standIns := [], harness := (true, "1a80220e2f2330487d55824a2c9615c52a8825abb9c56762a350ae83cb0026d7"), looks := false }, kinds := [], alts := [], laidByText := true, laidKinds := [.data], laidTests := true, laidLooks := .later }
def SatResolvedCardSaid : Prop := Claim7.holds Tryd.pinned (.plain (OpenSpec.ofChange satResolvedSpec)) satResolvedCard

/-- THE SECOND FORM's CARD OF 'swardlaw20.SatNames'. -/
def satNamesUptoCard : Claim7 := { stood := { row := satNamesUptoRow, standIns := [], harness := (true, "1a80220e2f2330487d55824a2c9615c52a8825abb9c56762a350ae83cb0026d7"), looks := false }, kinds := [], alts := [], laidByText := true, laidKinds := [.data], laidTests := true, laidLooks := .later }
def SatNamesUptoCardSaid : Prop := Claim7.holds Tryd.pinned (.plain (OpenSpec.upto satNamesSpec)) satNamesUptoCard

/-- THE SECOND FORM's CARD OF 'swardlaw20.SatForms'. -/
def satFormsUptoCard : Claim7 := { stood := { row := satFormsUptoRow, standIns := [], harness := (true, "1a80220e2f2330487d55824a2c9615c52a8825abb9c56762a350ae83cb0026d7"), looks := false }, kinds := [], alts := [], laidByText := true, laidKinds := [.data], laidTests := true, laidLooks := .later }
def SatFormsUptoCardSaid : Prop := Claim7.holds Tryd.pinned (.plain (OpenSpec.upto satFormsSpec)) satFormsUptoCard

/-- THE SECOND FORM's CARD OF 'swardlaw20.SatUnits'. -/
def satUnitsUptoCard : Claim7 := { stood := { row := satUnitsUptoRow, standIns := [], harness := (true, "1a80220e2f2330487d55824a2c9615c52a8825abb9c56762a350ae83cb0026d7"), looks := false }, kinds := [], alts := [], laidByText := true, laidKinds := [.data], laidTests := true, laidLooks := .later }
def SatUnitsUptoCardSaid : Prop := Claim7.holds Tryd.pinned (.plain (OpenSpec.upto satUnitsSpec)) satUnitsUptoCard

/-- THE SECOND FORM's CARD OF 'swardlaw20.SatResolves'. -/
def satResolvesUptoCard : Claim7 := { stood := { row := satResolvesUptoRow, standIns := [], harness := (true, "1a80220e2f2330487d55824a2c9615c52a8825abb9c56762a350ae83cb0026d7"), looks := false }, kinds := [], alts := [], laidByText := true, laidKinds := [.data], laidTests := true, laidLooks := .later }
def SatResolvesUptoCardSaid : Prop := Claim7.holds Tryd.pinned (.plain (OpenSpec.upto satResolvesSpec)) satResolvesUptoCard

/-- THE SECOND FORM's CARD OF 'swardlaw20.SatProves'. -/
def satProvesUptoCard : Claim7 := { stood := { row := satProvesUptoRow, standIns := [], harness := (true, "1a80220e2f2330487d55824a2c9615c52a8825abb9c56762a350ae83cb0026d7"), looks := false }, kinds := [], alts := [], laidByText := true, laidKinds := [.data], laidTests := true, laidLooks := .later }
def SatProvesUptoCardSaid : Prop := Claim7.holds Tryd.pinned (.plain (OpenSpec.upto satProvesSpec)) satProvesUptoCard

/-- THE SECOND FORM's CARD OF 'swardlaw20.SatAccepts'. -/
def satAcceptsUptoCard : Claim7 := { stood := { row := satAcceptsUptoRow, standIns := [], harness := (true, "1a80220e2f2330487d55824a2c9615c52a8825abb9c56762a350ae83cb0026d7"), looks := false }, kinds := [], alts := [], laidByText := true, laidKinds := [.data], laidTests := true, laidLooks := .later }
def SatAcceptsUptoCardSaid : Prop := Claim7.holds Tryd.pinned (.plain (OpenSpec.upto satAcceptsSpec)) satAcceptsUptoCard

/-- THE SECOND FORM's CARD OF 'swardlaw20.SatKnown'. -/
def satKnownUptoCard : Claim7 := { stood := { row := satKnownUptoRow, standIns := [], harness := (true, "1a80220e2f2330487d55824a2c9615c52a8825abb9c56762a350ae83cb0026d7"), looks := false }, kinds := [], alts := [], laidByText := true, laidKinds := [.data], laidTests := true, laidLooks := .later }
def SatKnownUptoCardSaid : Prop := Claim7.holds Tryd.pinned (.plain (OpenSpec.upto satKnownSpec)) satKnownUptoCard

/-- THE SECOND FORM's CARD OF 'swardlaw20.SatProofs'. -/
def satProofsUptoCard : Claim7 := { stood := { row := satProofsUptoRow, standIns := [], harness := (true, "1a80220e2f2330487d55824a2c9615c52a8825abb9c56762a350ae83cb0026d7"), looks := false }, kinds := [], alts := [], laidByText := true, laidKinds := [.data], laidTests := true, laidLooks := .later }
def SatProofsUptoCardSaid : Prop := Claim7.holds Tryd.pinned (.plain (OpenSpec.upto satProofsSpec)) satProofsUptoCard

/-- THE SECOND FORM's CARD OF 'swardlaw20.SatSound'. -/
def satSoundUptoCard : Claim7 := { stood := { row := satSoundUptoRow, standIns := [], harness := (true, "1a80220e2f2330487d55824a2c9615c52a8825abb9c56762a350ae83cb0026d7"), looks := false }, kinds := [], alts := [], laidByText := true, laidKinds := [.data], laidTests := true, laidLooks := .later }
def SatSoundUptoCardSaid : Prop := Claim7.holds Tryd.pinned (.plain (OpenSpec.upto satSoundSpec)) satSoundUptoCard

/-- THE SECOND FORM's CARD OF 'swardlaw20.SatMinimal'. -/
def satMinimalUptoCard : Claim7 := { stood := { row := satMinimalUptoRow, standIns := [], harness := (true, "1a80220e2f2330487d55824a2c9615c52a8825abb9c56762a350ae83cb0026d7"), looks := false }, kinds := [], alts := [], laidByText := true, laidKinds := [.data], laidTests := true, laidLooks := .later }
def SatMinimalUptoCardSaid : Prop := Claim7.holds Tryd.pinned (.plain (OpenSpec.upto satMinimalSpec)) satMinimalUptoCard

/-- THE SECOND FORM's CARD OF 'swardlaw20.SatLearned'. -/
def satLearnedUptoCard : Claim7 := { stood := { row := satLearnedUptoRow, standIns := [], harness := (true, "1a80220e2f2330487d55824a2c9615c52a8825abb9c56762a350ae83cb0026d7"), looks := false }, kinds := [], alts := [], laidByText := true, laidKinds := [.data], laidTests := true, laidLooks := .later }
def SatLearnedUptoCardSaid : Prop := Claim7.holds Tryd.pinned (.plain (OpenSpec.upto satLearnedSpec)) satLearnedUptoCard

/-- THE SECOND FORM's CARD OF 'swardlaw20.SatForced'. -/
def satForcedUptoCard : Claim7 := { stood := { row := satForcedUptoRow, standIns := [], harness := (true, "1a80220e2f2330487d55824a2c9615c52a8825abb9c56762a350ae83cb0026d7"), looks := false }, kinds := [], alts := [], laidByText := true, laidKinds := [.data], laidTests := true, laidLooks := .later }
def SatForcedUptoCardSaid : Prop := Claim7.holds Tryd.pinned (.plain (OpenSpec.upto satForcedSpec)) satForcedUptoCard

/-- THE SECOND FORM's CARD OF 'swardlaw20.SatResolved'. -/
def satResolvedUptoCard : Claim7 := { stood := { row := satResolvedUptoRow, standIns := [], harness := (true, "1a80220e2f2330487d55824a2c9615c52a8825abb9c56762a350ae83cb0026d7"), looks := false }, kinds := [], alts := [], laidByText := true, laidKinds := [.data], laidTests := true, laidLooks := .later }
def SatResolvedUptoCardSaid : Prop := Claim7.holds Tryd.pinned (.plain (OpenSpec.upto satResolvedSpec)) satResolvedUptoCard
end Rows
end Go.Proofs.YtfgfhplgnfbaaaaDoor

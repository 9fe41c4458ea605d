/-
  NARROWER THAN 'FOR EVERY INPUT', by the rows' own cells (each row's printed sentence says how): SatNames: laid · SatForms: laid · SatUnits: laid · SatResolves: laid · SatProves: laid · SatAccepts: laid · SatKnown: laid · SatProofs: laid · SatSound: laid · SatMinimal: laid · SatLearned: laid · SatForced: laid · SatResolved: laid.
  DERIVED. THE GIVEN ROWS OF THIS SEAT. 13 by the template 'for every input the law returns true; each argument reads behind the call as it read before'; 0 by the template 'total and deterministic' (their statements: YtfgfhplgnfbaaaaDoorTotals.lean).
  GIVEN WITH THE SEED: the statements are not yours to turn. If you find one false, say at which input.
  Laid BY PROGRAM, IN A SANDBOX (cutbox-rows.mjs): the forced cells as the released guide's own fill.sh prints them over the translation 2f2b9ca54841c190… (all of the seat's roots in one cut). By AI agents, Wed Nov 11 2026. No macro, syntax, notation, axiom, sorry.
-/
import Derived.Test.YtfgfhplgnfbaaaaDoorChecked
import GoSem.Claim
import GoSem.ClaimJoined
import GoSem.ClaimMapViews
import Derived.JoinedTies
import Derived.KernelRfl
namespace Go.Proofs.YtfgfhplgnfbaaaaDoor
/- THE CELL 'sum', in the pinned program and in every row, IS THE sha256 OF THE DUMP (.gsa) THAT YtfgfhplgnfbaaaaDoorProg.lean LOADS. Nothing in Lean hashes anything: it is a label: what it is worth is what the hold of that sum in a sandbox is worth. -/
noncomputable def Tryd.pinned : Pinned := { name := "ytfgfhplgnfbaaaadoor", sum := "2f2b9ca54841c1908fa0801aee3eebd6c2c485705946cf7e8cd21d11a8675aa2", checked := Tryd.checked }
namespace Rows
def none {H : Type} : Left H := { results := [], args := [] }

/- WHAT THE LISTED PACKAGE-LEVEL VARIABLES READ AS WHEN THE CALL BEGINS. Each datum BY PROGRAM (the guide's laid-datum.mjs) off the statement by which the dump's own 'gosem.cut.vars' lays the variable. In a bare row this is a premise. The card (YtfgfhplgnfbaaaaDoorCards.lean) ties it to the program's text. -/
def laid_math_bits_deBruijn32tab {H : Type} : DataW H := .agg [.lit (.int .u8 0), .lit (.int .u8 1), .lit (.int .u8 28), .lit (.int .u8 2), .lit (.int .u8 29), .lit (.int .u8 14), .lit (.int .u8 24), .lit (.int .u8 3), .lit (.int .u8 30), .lit (.int .u8 22), .lit (.int .u8 20), .lit (.int .u8 15), .lit (.int .u8 25), .lit (.int .u8 17), .lit (.int .u8 4), .lit (.int .u8 8), .lit (.int .u8 31), .lit (.int .u8 27), .lit (.int .u8 13), .lit (.int .u8 23), .lit (.int .u8 21), .lit (.int .u8 19), .lit (.int .u8 16), .lit (.int .u8 7), .lit (.int .u8 26), .lit (.int .u8 12), .lit (.int .u8 18), .lit (.int .u8 6), .lit (.int .u8 11), .lit (.int .u8 5), .lit (.int .u8 10), .lit (.int .u8 9)]

/-- 'swardlaw20.SatNames': WHATEVER THE INPUT: true; the input reads as it did. -/
def satNamesSpec : ChangeSpec := { name := "satNames", fn := fun _ => fun
  | [d1, d2, d3, d4] => { results := [.lit (.bool true)], args := [d1, d2, d3, d4] }
  | _ => none }
def satNamesRow : OpenClaim := { program := "ytfgfhplgnfbaaaadoor", sum := "2f2b9ca54841c1908fa0801aee3eebd6c2c485705946cf7e8cd21d11a8675aa2", func := "sward/swardlaw20.SatNames", spec := "satNames", inPlace := ["slices.overlaps[int]"], unfollowed := true, recurses := true, named := ["math/bits.deBruijn32tab"], apart := false, laid := [("math/bits.deBruijn32tab", laid_math_bits_deBruijn32tab)] }
def SatNamesSaid : Prop := satNamesRow.holds Tryd.pinned (OpenSpec.ofChange satNamesSpec)

/-- ITS FALSE NEIGHBOUR: 'it returns false'. Refute it at one input. -/
def satNamesWrong : ChangeSpec := { name := "satNames", fn := fun _ => fun
  | [d1, d2, d3, d4] => { results := [.lit (.bool false)], args := [d1, d2, d3, d4] }
  | _ => none }
def SatNamesWrongFalsely : Prop := satNamesRow.holds Tryd.pinned (OpenSpec.ofChange satNamesWrong)

/-- 'swardlaw20.SatForms': WHATEVER THE INPUT: true; the input reads as it did. -/
def satFormsSpec : ChangeSpec := { name := "satForms", fn := fun _ => fun
  | [d1, d2] => { results := [.lit (.bool true)], args := [d1, d2] }
  | _ => none }
def satFormsRow : OpenClaim := { program := "ytfgfhplgnfbaaaadoor", sum := "2f2b9ca54841c1908fa0801aee3eebd6c2c485705946cf7e8cd21d11a8675aa2", func := "sward/swardlaw20.SatForms", spec := "satForms", unfollowed := true, recurses := true, named := ["math/bits.deBruijn32tab"], apart := false, laid := [("math/bits.deBruijn32tab", laid_math_bits_deBruijn32tab)] }
def SatFormsSaid : Prop := satFormsRow.holds Tryd.pinned (OpenSpec.ofChange satFormsSpec)

/-- ITS FALSE NEIGHBOUR: 'it returns false'. Refute it at one input. -/
def satFormsWrong : ChangeSpec := { name := "satForms", fn := fun _ => fun
  | [d1, d2] => { results := [.lit (.bool false)], args := [d1, d2] }
  | _ => none }
def SatFormsWrongFalsely : Prop := satFormsRow.holds Tryd.pinned (OpenSpec.ofChange satFormsWrong)

/-- 'swardlaw20.SatUnits': WHATEVER THE INPUT: true; the input reads as it did. -/
def satUnitsSpec : ChangeSpec := { name := "satUnits", fn := fun _ => fun
  | [d1, d2, d3] => { results := [.lit (.bool true)], args := [d1, d2, d3] }
  | _ => none }
def satUnitsRow : OpenClaim := { program := "ytfgfhplgnfbaaaadoor", sum := "2f2b9ca54841c1908fa0801aee3eebd6c2c485705946cf7e8cd21d11a8675aa2", func := "sward/swardlaw20.SatUnits", spec := "satUnits", unfollowed := true, recurses := true, named := ["math/bits.deBruijn32tab"], apart := false, laid := [("math/bits.deBruijn32tab", laid_math_bits_deBruijn32tab)] }
def SatUnitsSaid : Prop := satUnitsRow.holds Tryd.pinned (OpenSpec.ofChange satUnitsSpec)

/-- ITS FALSE NEIGHBOUR: 'it returns false'. Refute it at one input. -/
def satUnitsWrong : ChangeSpec := { name := "satUnits", fn := fun _ => fun
  | [d1, d2, d3] => { results := [.lit (.bool false)], args := [d1, d2, d3] }
  | _ => none }
def SatUnitsWrongFalsely : Prop := satUnitsRow.holds Tryd.pinned (OpenSpec.ofChange satUnitsWrong)

/-- 'swardlaw20.SatResolves': WHATEVER THE INPUT: true; the input reads as it did. -/
def satResolvesSpec : ChangeSpec := { name := "satResolves", fn := fun _ => fun
  | [d1, d2, d3] => { results := [.lit (.bool true)], args := [d1, d2, d3] }
  | _ => none }
def satResolvesRow : OpenClaim := { program := "ytfgfhplgnfbaaaadoor", sum := "2f2b9ca54841c1908fa0801aee3eebd6c2c485705946cf7e8cd21d11a8675aa2", func := "sward/swardlaw20.SatResolves", spec := "satResolves", unfollowed := true, recurses := true, named := ["math/bits.deBruijn32tab"], apart := false, laid := [("math/bits.deBruijn32tab", laid_math_bits_deBruijn32tab)] }
def SatResolvesSaid : Prop := satResolvesRow.holds Tryd.pinned (OpenSpec.ofChange satResolvesSpec)

/-- ITS FALSE NEIGHBOUR: 'it returns false'. Refute it at one input. -/
def satResolvesWrong : ChangeSpec := { name := "satResolves", fn := fun _ => fun
  | [d1, d2, d3] => { results := [.lit (.bool false)], args := [d1, d2, d3] }
  | _ => none }
def SatResolvesWrongFalsely : Prop := satResolvesRow.holds Tryd.pinned (OpenSpec.ofChange satResolvesWrong)

/-- 'swardlaw20.SatProves': WHATEVER THE INPUT: true; the input reads as it did. -/
def satProvesSpec : ChangeSpec := { name := "satProves", fn := fun _ => fun
  | [d1, d2] => { results := [.lit (.bool true)], args := [d1, d2] }
  | _ => none }
def satProvesRow : OpenClaim := { program := "ytfgfhplgnfbaaaadoor", sum := "2f2b9ca54841c1908fa0801aee3eebd6c2c485705946cf7e8cd21d11a8675aa2", func := "sward/swardlaw20.SatProves", spec := "satProves", unfollowed := true, recurses := true, named := ["math/bits.deBruijn32tab"], apart := false, laid := [("math/bits.deBruijn32tab", laid_math_bits_deBruijn32tab)] }
def SatProvesSaid : Prop := satProvesRow.holds Tryd.pinned (OpenSpec.ofChange satProvesSpec)

/-- ITS FALSE NEIGHBOUR: 'it returns false'. Refute it at one input. -/
def satProvesWrong : ChangeSpec := { name := "satProves", fn := fun _ => fun
  | [d1, d2] => { results := [.lit (.bool false)], args := [d1, d2] }
  | _ => none }
def SatProvesWrongFalsely : Prop := satProvesRow.holds Tryd.pinned (OpenSpec.ofChange satProvesWrong)

/-- 'swardlaw20.SatAccepts': WHATEVER THE INPUT: true; the input reads as it did. -/
def satAcceptsSpec : ChangeSpec := { name := "satAccepts", fn := fun _ => fun
  | [d1, d2, d3] => { results := [.lit (.bool true)], args := [d1, d2, d3] }
  | _ => none }
def satAcceptsRow : OpenClaim := { program := "ytfgfhplgnfbaaaadoor", sum := "2f2b9ca54841c1908fa0801aee3eebd6c2c485705946cf7e8cd21d11a8675aa2", func := "sward/swardlaw20.SatAccepts", spec := "satAccepts", unfollowed := true, recurses := true, named := ["math/bits.deBruijn32tab"], apart := false, laid := [("math/bits.deBruijn32tab", laid_math_bits_deBruijn32tab)] }
def SatAcceptsSaid : Prop := satAcceptsRow.holds Tryd.pinned (OpenSpec.ofChange satAcceptsSpec)

/-- ITS FALSE NEIGHBOUR: 'it returns false'. Refute it at one input. -/
def satAcceptsWrong : ChangeSpec := { name := "satAccepts", fn := fun _ => fun
  | [d1, d2, d3] => { results := [.lit (.bool false)], args := [d1, d2, d3] }
  | _ => none }
def SatAcceptsWrongFalsely : Prop := satAcceptsRow.holds Tryd.pinned (OpenSpec.ofChange satAcceptsWrong)

/-- 'swardlaw20.SatKnown': WHATEVER THE INPUT: true; the input reads as it did. -/
def satKnownSpec : ChangeSpec := { name := "satKnown", fn := fun _ => fun
  | [] => { results := [.lit (.bool true)], args := [] }
  | _ => none }
def satKnownRow : OpenClaim := { program := "ytfgfhplgnfbaaaadoor", sum := "2f2b9ca54841c1908fa0801aee3eebd6c2c485705946cf7e8cd21d11a8675aa2", func := "sward/swardlaw20.SatKnown", spec := "satKnown", unfollowed := true, recurses := true, named := ["math/bits.deBruijn32tab"], apart := false, laid := [("math/bits.deBruijn32tab", laid_math_bits_deBruijn32tab)] }
def SatKnownSaid : Prop := satKnownRow.holds Tryd.pinned (OpenSpec.ofChange satKnownSpec)

/-- ITS FALSE NEIGHBOUR: 'it returns false'. Refute it at one input. -/
def satKnownWrong : ChangeSpec := { name := "satKnown", fn := fun _ => fun
  | [] => { results := [.lit (.bool false)], args := [] }
  | _ => none }
def SatKnownWrongFalsely : Prop := satKnownRow.holds Tryd.pinned (OpenSpec.ofChange satKnownWrong)

/-- 'swardlaw20.SatProofs': WHATEVER THE INPUT: true; the input reads as it did. -/
def satProofsSpec : ChangeSpec := { name := "satProofs", fn := fun _ => fun
  | [d1, d2, d3] => { results := [.lit (.bool true)], args := [d1, d2, d3] }
  | _ => none }
def satProofsRow : OpenClaim := { program := "ytfgfhplgnfbaaaadoor", sum := "2f2b9ca54841c1908fa0801aee3eebd6c2c485705946cf7e8cd21d11a8675aa2", func := "sward/swardlaw20.SatProofs", spec := "satProofs", unfollowed := true, recurses := true, named := ["math/bits.deBruijn32tab"], apart := false, laid := [("math/bits.deBruijn32tab", laid_math_bits_deBruijn32tab)] }
def SatProofsSaid : Prop := satProofsRow.holds Tryd.pinned (OpenSpec.ofChange satProofsSpec)

/-- ITS FALSE NEIGHBOUR: 'it returns false'. Refute it at one input. -/
def satProofsWrong : ChangeSpec := { name := "satProofs", fn := fun _ => fun
  | [d1, d2, d3] => { results := [.lit (.bool false)], args := [d1, d2, d3] }
  | _ => none }
def SatProofsWrongFalsely : Prop := satProofsRow.holds Tryd.pinned (OpenSpec.ofChange satProofsWrong)

/-- 'swardlaw20.SatSound': WHATEVER THE INPUT: true; the input reads as it did. -/
def satSoundSpec : ChangeSpec := { name := "satSound", fn := fun _ => fun
  | [d1, d2, d3, d4] => { results := [.lit (.bool true)], args := [d1, d2, d3, d4] }
  | _ => none }
def satSoundRow : OpenClaim := { program := "ytfgfhplgnfbaaaadoor", sum := "2f2b9ca54841c1908fa0801aee3eebd6c2c485705946cf7e8cd21d11a8675aa2", func := "sward/swardlaw20.SatSound", spec := "satSound", unfollowed := true, recurses := true, named := ["math/bits.deBruijn32tab"], apart := false, laid := [("math/bits.deBruijn32tab", laid_math_bits_deBruijn32tab)] }
def SatSoundSaid : Prop := satSoundRow.holds Tryd.pinned (OpenSpec.ofChange satSoundSpec)

/-- ITS FALSE NEIGHBOUR: 'it returns false'. Refute it at one input. -/
def satSoundWrong : ChangeSpec := { name := "satSound", fn := fun _ => fun
  | [d1, d2, d3, d4] => { results := [.lit (.bool false)], args := [d1, d2, d3, d4] }
  | _ => none }
def SatSoundWrongFalsely : Prop := satSoundRow.holds Tryd.pinned (OpenSpec.ofChange satSoundWrong)

/-- 'swardlaw20.SatMinimal': WHATEVER THE INPUT: true; the input reads as it did. -/
def satMinimalSpec : ChangeSpec := { name := "satMinimal", fn := fun _ => fun
  | [d1, d2] => { results := [.lit (.bool true)], args := [d1, d2] }
  | _ => none }
def satMinimalRow : OpenClaim := { program := "ytfgfhplgnfbaaaadoor", sum := "2f2b9ca54841c1908fa0801aee3eebd6c2c485705946cf7e8cd21d11a8675aa2", func := "sward/swardlaw20.SatMinimal", spec := "satMinimal", unfollowed := true, recurses := true, named := ["math/bits.deBruijn32tab"], apart := false, laid := [("math/bits.deBruijn32tab", laid_math_bits_deBruijn32tab)] }
def SatMinimalSaid : Prop := satMinimalRow.holds Tryd.pinned (OpenSpec.ofChange satMinimalSpec)

/-- ITS FALSE NEIGHBOUR: 'it returns false'. Refute it at one input. -/
def satMinimalWrong : ChangeSpec := { name := "satMinimal", fn := fun _ => fun
  | [d1, d2] => { results := [.lit (.bool false)], args := [d1, d2] }
  | _ => none }
def SatMinimalWrongFalsely : Prop := satMinimalRow.holds Tryd.pinned (OpenSpec.ofChange satMinimalWrong)

/-- 'swardlaw20.SatLearned': WHATEVER THE INPUT: true; the input reads as it did. -/
def satLearnedSpec : ChangeSpec := { name := "satLearned", fn := fun _ => fun
  | [d1, d2] => { results := [.lit (.bool true)], args := [d1, d2] }
  | _ => none }
def satLearnedRow : OpenClaim := { program := "ytfgfhplgnfbaaaadoor", sum := "2f2b9ca54841c1908fa0801aee3eebd6c2c485705946cf7e8cd21d11a8675aa2", func := "sward/swardlaw20.SatLearned", spec := "satLearned", unfollowed := true, recurses := true, named := ["math/bits.deBruijn32tab"], apart := false, laid := [("math/bits.deBruijn32tab", laid_math_bits_deBruijn32tab)] }
def SatLearnedSaid : Prop := satLearnedRow.holds Tryd.pinned (OpenSpec.ofChange satLearnedSpec)

/-- ITS FALSE NEIGHBOUR: 'it returns false'. Refute it at one input. -/
def satLearnedWrong : ChangeSpec := { name := "satLearned", fn := fun _ => fun
  | [d1, d2] => { results := [.lit (.bool false)], args := [d1, d2] }
  | _ => none }
def SatLearnedWrongFalsely : Prop := satLearnedRow.holds Tryd.pinned (OpenSpec.ofChange satLearnedWrong)

/-- 'swardlaw20.SatForced': WHATEVER THE INPUT: true; the input reads as it did. -/
def satForcedSpec : ChangeSpec := { name := "satForced", fn := fun _ => fun
  | [d1, d2, d3] => { results := [.lit (.bool true)], args := [d1, d2, d3] }
  | _ => none }
def satForcedRow : OpenClaim := { program := "ytfgfhplgnfbaaaadoor", sum := "2f2b9ca54841c1908fa0801aee3eebd6c2c485705946cf7e8cd21d11a8675aa2", func := "sward/swardlaw20.SatForced", spec := "satForced", unfollowed := true, recurses := true, named := ["math/bits.deBruijn32tab"], apart := false, laid := [("math/bits.deBruijn32tab", laid_math_bits_deBruijn32tab)] }
def SatForcedSaid : Prop := satForcedRow.holds Tryd.pinned (OpenSpec.ofChange satForcedSpec)

/-- ITS FALSE NEIGHBOUR: 'it returns false'. Refute it at one input. -/
def satForcedWrong : ChangeSpec := { name := "satForced", fn := fun _ => fun
  | [d1, d2, d3] => { results := [.lit (.bool false)], args := [d1, d2, d3] }
  | _ => none }
def SatForcedWrongFalsely : Prop := satForcedRow.holds Tryd.pinned (OpenSpec.ofChange satForcedWrong)

/-- 'swardlaw20.SatResolved': WHATEVER THE INPUT: true; the input reads as it did. -/
def satResolvedSpec : ChangeSpec := { name := "satResolved", fn := fun _ => fun
  | [d1, d2, d3] => { results := [.lit (.bool true)], args := [d1, d2, d3] }
  | _ => none }
def satResolvedRow : OpenClaim := { program := "ytfgfhplgnfbaaaadoor", sum := "2f2b9ca54841c1908fa0801aee3eebd6c2c485705946cf7e8cd21d11a8675aa2", func := "sward/swardlaw20.SatResolved", spec := "satResolved", unfollowed := true, recurses := true, named := ["math/bits.deBruijn32tab"], apart := false, laid := [("math/bits.deBruijn32tab", laid_math_bits_deBruijn32tab)] }
def SatResolvedSaid : Prop := satResolvedRow.holds Tryd.pinned (OpenSpec.ofChange satResolvedSpec)

/-- ITS FALSE NEIGHBOUR: 'it returns false'. Refute it at one input. -/
def satResolvedWrong : ChangeSpec := { name := "satResolved", fn := fun _ => fun
  | [d1, d2, d3] => { results := [.lit (.bool false)], args := [d1, d2, d3] }
  | _ => none }
def SatResolvedWrongFalsely : Prop := satResolvedRow.holds Tryd.pinned (OpenSpec.ofChange satResolvedWrong)

/- THE SECOND FORM. 'bulk': how many values and letters a reading holds, each counted each time it is reached (what is shared counts as often as it is met; a slice's spare places count too). A statement '..UptoSaid' is the law's where the arguments, and the package variables that the reading takes, are together of bulk at most 1048576: NARROWER than '..Said'. Prove '..Said' where nothing that the law and all that it calls make is longer than what came in: it says more and counts as full. Else prove '..UptoSaid'. A law counts once. -/
mutual
def uptoBulk {H : Type} : DataW H → Nat
  | .lit (.string bytes) => bytes.length + 1
  | .lit _ => 1
  | .nil => 1
  | .ptr d => uptoBulk d + 1
  | .slice elems spare => uptoBulkAll elems + uptoBulkAll spare + 1
  | .agg parts => uptoBulkAll parts + 1
  | .iface _ d => uptoBulk d + 1
  | .map entries => uptoBulkEntries entries + 1
  | .held _ => 1
def uptoBulkAll {H : Type} : List (DataW H) → Nat
  | [] => 0
  | d :: r => uptoBulk d + uptoBulkAll r
def uptoBulkEntries {H : Type} : List (Lit × DataW H) → Nat
  | [] => 0
  | x :: r => uptoBulkEntry x + uptoBulkEntries r
def uptoBulkEntry {H : Type} : Lit × DataW H → Nat
  | (.string bytes, d) => bytes.length + uptoBulk d + 1
  | (_, d) => uptoBulk d + 1
 end
def uptoSmall : (H : Type) → List (DataW H) → Bool := fun _ ds => decide (uptoBulkAll ds ≤ 1048576)
def OpenSpec.upto (s : _root_.Go.ChangeSpec) : _root_.Go.OpenSpec := { _root_.Go.OpenSpec.ofChange s with cond := some uptoSmall }

/-- 'swardlaw20.SatNames', WHERE WHAT IT READS IS OF BULK AT MOST 1048576: true; the input reads as it did. -/
def satNamesUptoRow : OpenClaim := { program := "ytfgfhplgnfbaaaadoor", sum := "2f2b9ca54841c1908fa0801aee3eebd6c2c485705946cf7e8cd21d11a8675aa2", func := "sward/swardlaw20.SatNames", spec := "satNames", inPlace := ["slices.overlaps[int]"], unfollowed := true, recurses := true, named := ["math/bits.deBruijn32tab"], apart := false, laid := [("math/bits.deBruijn32tab", laid_math_bits_deBruijn32tab)], narrowed := true }
def SatNamesUptoSaid : Prop := satNamesUptoRow.holds Tryd.pinned (OpenSpec.upto satNamesSpec)

/-- 'swardlaw20.SatForms', WHERE WHAT IT READS IS OF BULK AT MOST 1048576: true; the input reads as it did. -/
def satFormsUptoRow : OpenClaim := { program := "ytfgfhplgnfbaaaadoor", sum := "2f2b9ca54841c1908fa0801aee3eebd6c2c485705946cf7e8cd21d11a8675aa2", func := "sward/swardlaw20.SatForms", spec := "satForms", unfollowed := true, recurses := true, named := ["math/bits.deBruijn32tab"], apart := false, laid := [("math/bits.deBruijn32tab", laid_math_bits_deBruijn32tab)], narrowed := true }
def SatFormsUptoSaid : Prop := satFormsUptoRow.holds Tryd.pinned (OpenSpec.upto satFormsSpec)

/-- 'swardlaw20.SatUnits', WHERE WHAT IT READS IS OF BULK AT MOST 1048576: true; the input reads as it did. -/
def satUnitsUptoRow : OpenClaim := { program := "ytfgfhplgnfbaaaadoor", sum := "2f2b9ca54841c1908fa0801aee3eebd6c2c485705946cf7e8cd21d11a8675aa2", func := "sward/swardlaw20.SatUnits", spec := "satUnits", unfollowed := true, recurses := true, named := ["math/bits.deBruijn32tab"], apart := false, laid := [("math/bits.deBruijn32tab", laid_math_bits_deBruijn32tab)], narrowed := true }
def SatUnitsUptoSaid : Prop := satUnitsUptoRow.holds Tryd.pinned (OpenSpec.upto satUnitsSpec)

/-- 'swardlaw20.SatResolves', WHERE WHAT IT READS IS OF BULK AT MOST 1048576: true; the input reads as it did. -/
def satResolvesUptoRow : OpenClaim := { program := "ytfgfhplgnfbaaaadoor", sum := "2f2b9ca54841c1908fa0801aee3eebd6c2c485705946cf7e8cd21d11a8675aa2", func := "sward/swardlaw20.SatResolves", spec := "satResolves", unfollowed := true, recurses := true, named := ["math/bits.deBruijn32tab"], apart := false, laid := [("math/bits.deBruijn32tab", laid_math_bits_deBruijn32tab)], narrowed := true }
def SatResolvesUptoSaid : Prop := satResolvesUptoRow.holds Tryd.pinned (OpenSpec.upto satResolvesSpec)

/-- 'swardlaw20.SatProves', WHERE WHAT IT READS IS OF BULK AT MOST 1048576: true; the input reads as it did. -/
def satProvesUptoRow : OpenClaim := { program := "ytfgfhplgnfbaaaadoor", sum := "2f2b9ca54841c1908fa0801aee3eebd6c2c485705946cf7e8cd21d11a8675aa2", func := "sward/swardlaw20.SatProves", spec := "satProves", unfollowed := true, recurses := true, named := ["math/bits.deBruijn32tab"], apart := false, laid := [("math/bits.deBruijn32tab", laid_math_bits_deBruijn32tab)], narrowed := true }
def SatProvesUptoSaid : Prop := satProvesUptoRow.holds Tryd.pinned (OpenSpec.upto satProvesSpec)

/-- 'swardlaw20.SatAccepts', WHERE WHAT IT READS IS OF BULK AT MOST 1048576: true; the input reads as it did. -/
def satAcceptsUptoRow : OpenClaim := { program := "ytfgfhplgnfbaaaadoor", sum := "2f2b9ca54841c1908fa0801aee3eebd6c2c485705946cf7e8cd21d11a8675aa2", func := "sward/swardlaw20.SatAccepts", spec := "satAccepts", unfollowed := true, recurses := true, named := ["math/bits.deBruijn32tab"], apart := false, laid := [("math/bits.deBruijn32tab", laid_math_bits_deBruijn32tab)], narrowed := true }
def SatAcceptsUptoSaid : Prop := satAcceptsUptoRow.holds Tryd.pinned (OpenSpec.upto satAcceptsSpec)

/-- 'swardlaw20.SatKnown', WHERE WHAT IT READS IS OF BULK AT MOST 1048576: true; the input reads as it did. -/
def satKnownUptoRow : OpenClaim := { program := "ytfgfhplgnfbaaaadoor", sum := "2f2b9ca54841c1908fa0801aee3eebd6c2c485705946cf7e8cd21d11a8675aa2", func := "sward/swardlaw20.SatKnown", spec := "satKnown", unfollowed := true, recurses := true, named := ["math/bits.deBruijn32tab"], apart := false, laid := [("math/bits.deBruijn32tab", laid_math_bits_deBruijn32tab)], narrowed := true }
def SatKnownUptoSaid : Prop := satKnownUptoRow.holds Tryd.pinned (OpenSpec.upto satKnownSpec)

/-- 'swardlaw20.SatProofs', WHERE WHAT IT READS IS OF BULK AT MOST 1048576: true; the input reads as it did. -/
def satProofsUptoRow : OpenClaim := { program := "ytfgfhplgnfbaaaadoor", sum := "2f2b9ca54841c1908fa0801aee3eebd6c2c485705946cf7e8cd21d11a8675aa2", func := "sward/swardlaw20.SatProofs", spec := "satProofs", unfollowed := true, recurses := true, named := ["math/bits.deBruijn32tab"], apart := false, laid := [("math/bits.deBruijn32tab", laid_math_bits_deBruijn32tab)], narrowed := true }
def SatProofsUptoSaid : Prop := satProofsUptoRow.holds Tryd.pinned (OpenSpec.upto satProofsSpec)

/-- 'swardlaw20.SatSound', WHERE WHAT IT READS IS OF BULK AT MOST 1048576: true; the input reads as it did. -/
def satSoundUptoRow : OpenClaim := { program := "ytfgfhplgnfbaaaadoor", sum := "2f2b9ca54841c1908fa0801aee3eebd6c2c485705946cf7e8cd21d11a8675aa2", func := "sward/swardlaw20.SatSound", spec := "satSound", unfollowed := true, recurses := true, named := ["math/bits.deBruijn32tab"], apart := false, laid := [("math/bits.deBruijn32tab", laid_math_bits_deBruijn32tab)], narrowed := true }
def SatSoundUptoSaid : Prop := satSoundUptoRow.holds Tryd.pinned (OpenSpec.upto satSoundSpec)

/-- 'swardlaw20.SatMinimal', WHERE WHAT IT READS IS OF BULK AT MOST 1048576: true; the input reads as it did. -/
def satMinimalUptoRow : OpenClaim := { program := "ytfgfhplgnfbaaaadoor", sum := "2f2b9ca54841c1908fa0801aee3eebd6c2c485705946cf7e8cd21d11a8675aa2", func := "sward/swardlaw20.SatMinimal", spec := "satMinimal", unfollowed := true, recurses := true, named := ["math/bits.deBruijn32tab"], apart := false, laid := [("math/bits.deBruijn32tab", laid_math_bits_deBruijn32tab)], narrowed := true }
def SatMinimalUptoSaid : Prop := satMinimalUptoRow.holds Tryd.pinned (OpenSpec.upto satMinimalSpec)

/-- 'swardlaw20.SatLearned', WHERE WHAT IT READS IS OF BULK AT MOST 1048576: true; the input reads as it did. -/
def satLearnedUptoRow : OpenClaim := { program := "ytfgfhplgnfbaaaadoor", sum := "2f2b9ca54841c1908fa0801aee3eebd6c2c485705946cf7e8cd21d11a8675aa2", func := "sward/swardlaw20.SatLearned", spec := "satLearned", unfollowed := true, recurses := true, named := ["math/bits.deBruijn32tab"], apart := false, laid := [("math/bits.deBruijn32tab", laid_math_bits_deBruijn32tab)], narrowed := true }
def SatLearnedUptoSaid : Prop := satLearnedUptoRow.holds Tryd.pinned (OpenSpec.upto satLearnedSpec)

/-- 'swardlaw20.SatForced', WHERE WHAT IT READS IS OF BULK AT MOST 1048576: true; the input reads as it did. -/
def satForcedUptoRow : OpenClaim := { program := "ytfgfhplgnfbaaaadoor", sum := "2f2b9ca54841c1908fa0801aee3eebd6c2c485705946cf7e8cd21d11a8675aa2", func := "sward/swardlaw20.SatForced", spec := "satForced", unfollowed := true, recurses := true, named := ["math/bits.deBruijn32tab"], apart := false, laid := [("math/bits.deBruijn32tab", laid_math_bits_deBruijn32tab)], narrowed := true }
def SatForcedUptoSaid : Prop := satForcedUptoRow.holds Tryd.pinned (OpenSpec.upto satForcedSpec)

/-- 'swardlaw20.SatResolved', WHERE WHAT IT READS IS OF BULK AT MOST 1048576: true; the input reads as it did. -/
def satResolvedUptoRow : OpenClaim := { program := "ytfgfhplgnfbaaaadoor", sum := "2f2b9ca54841c1908fa0801aee3eebd6c2c485705946cf7e8cd21d11a8675aa2", func := "sward/swardlaw20.SatResolved", spec := "satResolved", unfollowed := true, recurses := true, named := ["math/bits.deBruijn32tab"], apart := false, laid := [("math/bits.deBruijn32tab", laid_math_bits_deBruijn32tab)], narrowed := true }
def SatResolvedUptoSaid : Prop := satResolvedUptoRow.holds Tryd.pinned (OpenSpec.upto satResolvedSpec)

end Rows
end Go.Proofs.YtfgfhplgnfbaaaaDoor

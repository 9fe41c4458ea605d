/-
  NARROWER THAN 'FOR EVERY INPUT', by the rows' own cells (each row's printed sentence says how): CollectMoves: laid · CollectMakes: laid · CollectValues: loops, laid · CollectForms: laid · CollectBuilt: loops, laid · CollectWritten: laid · CollectYoung: laid · CollectRoom: laid · CollectKept: laid · CollectSame: laid.
  DERIVED. THE GIVEN ROWS OF THIS SEAT. 10 by the template 'for every input the law returns true; each argument reads behind the call as it read before'; 0 by the template 'total and deterministic' (their statements: YtngcjpkccnfjiaaGreatDoorTotals.lean).
  GIVEN WITH THE SEED: the statements are not yours to turn. If you find one false, say at which input.
  Laid BY PROGRAM, IN A SANDBOX (cutbox-rows.mjs): the forced cells as the released guide's own fill.sh prints them over the translation e2439c07b0fade05… (all of the seat's roots in one cut). By AI agents, Wed Nov 11 2026. No macro, syntax, notation, axiom, sorry.
-/
import Derived.Test.YtngcjpkccnfjiaaGreatDoorChecked
import GoSem.Claim
import GoSem.ClaimJoined
import GoSem.ClaimMapViews
import Derived.JoinedTies
import Derived.KernelRfl
namespace Go.Proofs.YtngcjpkccnfjiaaGreatDoor
/- THE CELL 'sum', in the pinned program and in every row, IS THE sha256 OF THE DUMP (.gsa) THAT YtngcjpkccnfjiaaGreatDoorProg.lean LOADS. Nothing in Lean hashes anything: it is a label: what it is worth is what the hold of that sum in a sandbox is worth. -/
noncomputable def Tryz.pinned : Pinned := { name := "ytngcjpkccnfjiaagreatdoor", sum := "e2439c07b0fade05f68075f81b0befbae831baf5dd4b3e3efbf7380a62a15f0c", checked := Tryz.checked }
namespace Rows
def none {H : Type} : Left H := { results := [], args := [] }

/- WHAT THE LISTED PACKAGE-LEVEL VARIABLES READ AS WHEN THE CALL BEGINS. Each datum BY PROGRAM (the guide's laid-datum.mjs) off the statement by which the dump's own 'gosem.cut.vars' lays the variable. In a bare row this is a premise. The card (YtngcjpkccnfjiaaGreatDoorCards.lean) ties it to the program's text. -/
def laid_sward_collect_truth {H : Type} : DataW H := .agg [.lit (.int .i64 1), .lit (.int .i64 4)]

/-- 'swardlaw15.CollectMoves': WHATEVER THE INPUT: true; the input reads as it did. -/
def collectMovesSpec : ChangeSpec := { name := "collectMoves", fn := fun _ => fun
  | [d1, d2, d3] => { results := [.lit (.bool true)], args := [d1, d2, d3] }
  | _ => none }
def collectMovesRow : OpenClaim := { program := "ytngcjpkccnfjiaagreatdoor", sum := "e2439c07b0fade05f68075f81b0befbae831baf5dd4b3e3efbf7380a62a15f0c", func := "sward/swardlaw15.CollectMoves", spec := "collectMoves", inPlace := ["internal/bytealg.abigen_runtime_cmpstring"], unfollowed := true, recurses := true, named := ["sward/collect.truth"], apart := false, laid := [("sward/collect.truth", laid_sward_collect_truth)] }
def CollectMovesSaid : Prop := collectMovesRow.holds Tryz.pinned (OpenSpec.ofChange collectMovesSpec)

/-- ITS FALSE NEIGHBOUR: 'it returns false'. Refute it at one input. -/
def collectMovesWrong : ChangeSpec := { name := "collectMoves", fn := fun _ => fun
  | [d1, d2, d3] => { results := [.lit (.bool false)], args := [d1, d2, d3] }
  | _ => none }
def CollectMovesWrongFalsely : Prop := collectMovesRow.holds Tryz.pinned (OpenSpec.ofChange collectMovesWrong)

/-- 'swardlaw15.CollectMakes': WHATEVER THE INPUT: true; the input reads as it did. -/
def collectMakesSpec : ChangeSpec := { name := "collectMakes", fn := fun _ => fun
  | [d1, d2, d3, d4, d5, d6] => { results := [.lit (.bool true)], args := [d1, d2, d3, d4, d5, d6] }
  | _ => none }
def collectMakesRow : OpenClaim := { program := "ytngcjpkccnfjiaagreatdoor", sum := "e2439c07b0fade05f68075f81b0befbae831baf5dd4b3e3efbf7380a62a15f0c", func := "sward/swardlaw15.CollectMakes", spec := "collectMakes", inPlace := ["internal/bytealg.abigen_runtime_cmpstring"], unfollowed := true, recurses := true, named := ["sward/collect.truth"], apart := false, laid := [("sward/collect.truth", laid_sward_collect_truth)] }
def CollectMakesSaid : Prop := collectMakesRow.holds Tryz.pinned (OpenSpec.ofChange collectMakesSpec)

/-- ITS FALSE NEIGHBOUR: 'it returns false'. Refute it at one input. -/
def collectMakesWrong : ChangeSpec := { name := "collectMakes", fn := fun _ => fun
  | [d1, d2, d3, d4, d5, d6] => { results := [.lit (.bool false)], args := [d1, d2, d3, d4, d5, d6] }
  | _ => none }
def CollectMakesWrongFalsely : Prop := collectMakesRow.holds Tryz.pinned (OpenSpec.ofChange collectMakesWrong)

/-- 'swardlaw15.CollectValues': WHATEVER THE INPUT: true; the input reads as it did. -/
def collectValuesSpec : ChangeSpec := { name := "collectValues", fn := fun _ => fun
  | [d1, d2, d3] => { results := [.lit (.bool true)], args := [d1, d2, d3] }
  | _ => none }
def collectValuesRow : OpenClaim := { program := "ytngcjpkccnfjiaagreatdoor", sum := "e2439c07b0fade05f68075f81b0befbae831baf5dd4b3e3efbf7380a62a15f0c", func := "sward/swardlaw15.CollectValues", spec := "collectValues", inPlace := ["internal/bytealg.abigen_runtime_cmpstring"], unfollowed := true, recurses := true, named := ["sward/collect.truth"], loops := true, apart := false, laid := [("sward/collect.truth", laid_sward_collect_truth)] }
def CollectValuesSaid : Prop := collectValuesRow.holds Tryz.pinned (OpenSpec.ofChange collectValuesSpec)

/-- ITS FALSE NEIGHBOUR: 'it returns false'. Refute it at one input. -/
def collectValuesWrong : ChangeSpec := { name := "collectValues", fn := fun _ => fun
  | [d1, d2, d3] => { results := [.lit (.bool false)], args := [d1, d2, d3] }
  | _ => none }
def CollectValuesWrongFalsely : Prop := collectValuesRow.holds Tryz.pinned (OpenSpec.ofChange collectValuesWrong)

/-- 'swardlaw15.CollectForms': WHATEVER THE INPUT: true; the input reads as it did. -/
def collectFormsSpec : ChangeSpec := { name := "collectForms", fn := fun _ => fun
  | [d] => { results := [.lit (.bool true)], args := [d] }
  | _ => none }
def collectFormsRow : OpenClaim := { program := "ytngcjpkccnfjiaagreatdoor", sum := "e2439c07b0fade05f68075f81b0befbae831baf5dd4b3e3efbf7380a62a15f0c", func := "sward/swardlaw15.CollectForms", spec := "collectForms", inPlace := ["internal/bytealg.abigen_runtime_cmpstring"], unfollowed := true, recurses := true, named := ["sward/collect.truth"], apart := false, laid := [("sward/collect.truth", laid_sward_collect_truth)] }
def CollectFormsSaid : Prop := collectFormsRow.holds Tryz.pinned (OpenSpec.ofChange collectFormsSpec)

/-- ITS FALSE NEIGHBOUR: 'it returns false'. Refute it at one input. -/
def collectFormsWrong : ChangeSpec := { name := "collectForms", fn := fun _ => fun
  | [d] => { results := [.lit (.bool false)], args := [d] }
  | _ => none }
def CollectFormsWrongFalsely : Prop := collectFormsRow.holds Tryz.pinned (OpenSpec.ofChange collectFormsWrong)

/-- 'swardlaw15.CollectBuilt': WHATEVER THE INPUT: true; the input reads as it did. -/
def collectBuiltSpec : ChangeSpec := { name := "collectBuilt", fn := fun _ => fun
  | [d1, d2] => { results := [.lit (.bool true)], args := [d1, d2] }
  | _ => none }
def collectBuiltRow : OpenClaim := { program := "ytngcjpkccnfjiaagreatdoor", sum := "e2439c07b0fade05f68075f81b0befbae831baf5dd4b3e3efbf7380a62a15f0c", func := "sward/swardlaw15.CollectBuilt", spec := "collectBuilt", inPlace := ["internal/bytealg.abigen_runtime_cmpstring"], unfollowed := true, recurses := true, named := ["sward/collect.truth"], loops := true, apart := false, laid := [("sward/collect.truth", laid_sward_collect_truth)] }
def CollectBuiltSaid : Prop := collectBuiltRow.holds Tryz.pinned (OpenSpec.ofChange collectBuiltSpec)

/-- ITS FALSE NEIGHBOUR: 'it returns false'. Refute it at one input. -/
def collectBuiltWrong : ChangeSpec := { name := "collectBuilt", fn := fun _ => fun
  | [d1, d2] => { results := [.lit (.bool false)], args := [d1, d2] }
  | _ => none }
def CollectBuiltWrongFalsely : Prop := collectBuiltRow.holds Tryz.pinned (OpenSpec.ofChange collectBuiltWrong)

/-- 'swardlaw15.CollectWritten': WHATEVER THE INPUT: true; the input reads as it did. -/
def collectWrittenSpec : ChangeSpec := { name := "collectWritten", fn := fun _ => fun
  | [d1, d2, d3, d4] => { results := [.lit (.bool true)], args := [d1, d2, d3, d4] }
  | _ => none }
def collectWrittenRow : OpenClaim := { program := "ytngcjpkccnfjiaagreatdoor", sum := "e2439c07b0fade05f68075f81b0befbae831baf5dd4b3e3efbf7380a62a15f0c", func := "sward/swardlaw15.CollectWritten", spec := "collectWritten", inPlace := ["internal/bytealg.abigen_runtime_cmpstring"], unfollowed := true, recurses := true, named := ["sward/collect.truth"], apart := false, laid := [("sward/collect.truth", laid_sward_collect_truth)] }
def CollectWrittenSaid : Prop := collectWrittenRow.holds Tryz.pinned (OpenSpec.ofChange collectWrittenSpec)

/-- ITS FALSE NEIGHBOUR: 'it returns false'. Refute it at one input. -/
def collectWrittenWrong : ChangeSpec := { name := "collectWritten", fn := fun _ => fun
  | [d1, d2, d3, d4] => { results := [.lit (.bool false)], args := [d1, d2, d3, d4] }
  | _ => none }
def CollectWrittenWrongFalsely : Prop := collectWrittenRow.holds Tryz.pinned (OpenSpec.ofChange collectWrittenWrong)

/-- 'swardlaw15.CollectYoung': WHATEVER THE INPUT: true; the input reads as it did. -/
def collectYoungSpec : ChangeSpec := { name := "collectYoung", fn := fun _ => fun
  | [d1, d2] => { results := [.lit (.bool true)], args := [d1, d2] }
  | _ => none }
def collectYoungRow : OpenClaim := { program := "ytngcjpkccnfjiaagreatdoor", sum := "e2439c07b0fade05f68075f81b0befbae831baf5dd4b3e3efbf7380a62a15f0c", func := "sward/swardlaw15.CollectYoung", spec := "collectYoung", inPlace := ["internal/bytealg.abigen_runtime_cmpstring"], unfollowed := true, recurses := true, named := ["sward/collect.truth"], apart := false, laid := [("sward/collect.truth", laid_sward_collect_truth)] }
def CollectYoungSaid : Prop := collectYoungRow.holds Tryz.pinned (OpenSpec.ofChange collectYoungSpec)

/-- ITS FALSE NEIGHBOUR: 'it returns false'. Refute it at one input. -/
def collectYoungWrong : ChangeSpec := { name := "collectYoung", fn := fun _ => fun
  | [d1, d2] => { results := [.lit (.bool false)], args := [d1, d2] }
  | _ => none }
def CollectYoungWrongFalsely : Prop := collectYoungRow.holds Tryz.pinned (OpenSpec.ofChange collectYoungWrong)

/-- 'swardlaw15.CollectRoom': WHATEVER THE INPUT: true; the input reads as it did. -/
def collectRoomSpec : ChangeSpec := { name := "collectRoom", fn := fun _ => fun
  | [d1, d2, d3] => { results := [.lit (.bool true)], args := [d1, d2, d3] }
  | _ => none }
def collectRoomRow : OpenClaim := { program := "ytngcjpkccnfjiaagreatdoor", sum := "e2439c07b0fade05f68075f81b0befbae831baf5dd4b3e3efbf7380a62a15f0c", func := "sward/swardlaw15.CollectRoom", spec := "collectRoom", inPlace := ["internal/bytealg.abigen_runtime_cmpstring"], unfollowed := true, recurses := true, named := ["sward/collect.truth"], apart := false, laid := [("sward/collect.truth", laid_sward_collect_truth)] }
def CollectRoomSaid : Prop := collectRoomRow.holds Tryz.pinned (OpenSpec.ofChange collectRoomSpec)

/-- ITS FALSE NEIGHBOUR: 'it returns false'. Refute it at one input. -/
def collectRoomWrong : ChangeSpec := { name := "collectRoom", fn := fun _ => fun
  | [d1, d2, d3] => { results := [.lit (.bool false)], args := [d1, d2, d3] }
  | _ => none }
def CollectRoomWrongFalsely : Prop := collectRoomRow.holds Tryz.pinned (OpenSpec.ofChange collectRoomWrong)

/-- 'swardlaw15.CollectKept': WHATEVER THE INPUT: true; the input reads as it did. -/
def collectKeptSpec : ChangeSpec := { name := "collectKept", fn := fun _ => fun
  | [d] => { results := [.lit (.bool true)], args := [d] }
  | _ => none }
def collectKeptRow : OpenClaim := { program := "ytngcjpkccnfjiaagreatdoor", sum := "e2439c07b0fade05f68075f81b0befbae831baf5dd4b3e3efbf7380a62a15f0c", func := "sward/swardlaw15.CollectKept", spec := "collectKept", inPlace := ["internal/bytealg.abigen_runtime_cmpstring"], unfollowed := true, recurses := true, named := ["sward/collect.truth"], apart := false, laid := [("sward/collect.truth", laid_sward_collect_truth)] }
def CollectKeptSaid : Prop := collectKeptRow.holds Tryz.pinned (OpenSpec.ofChange collectKeptSpec)

/-- ITS FALSE NEIGHBOUR: 'it returns false'. Refute it at one input. -/
def collectKeptWrong : ChangeSpec := { name := "collectKept", fn := fun _ => fun
  | [d] => { results := [.lit (.bool false)], args := [d] }
  | _ => none }
def CollectKeptWrongFalsely : Prop := collectKeptRow.holds Tryz.pinned (OpenSpec.ofChange collectKeptWrong)

/-- 'swardlaw15.CollectSame': WHATEVER THE INPUT: true; the input reads as it did. -/
def collectSameSpec : ChangeSpec := { name := "collectSame", fn := fun _ => fun
  | [d1, d2, d3] => { results := [.lit (.bool true)], args := [d1, d2, d3] }
  | _ => none }
def collectSameRow : OpenClaim := { program := "ytngcjpkccnfjiaagreatdoor", sum := "e2439c07b0fade05f68075f81b0befbae831baf5dd4b3e3efbf7380a62a15f0c", func := "sward/swardlaw15.CollectSame", spec := "collectSame", inPlace := ["slices.overlaps[int]", "internal/bytealg.abigen_runtime_cmpstring"], unfollowed := true, recurses := true, named := ["sward/collect.truth"], apart := false, laid := [("sward/collect.truth", laid_sward_collect_truth)] }
def CollectSameSaid : Prop := collectSameRow.holds Tryz.pinned (OpenSpec.ofChange collectSameSpec)

/-- ITS FALSE NEIGHBOUR: 'it returns false'. Refute it at one input. -/
def collectSameWrong : ChangeSpec := { name := "collectSame", fn := fun _ => fun
  | [d1, d2, d3] => { results := [.lit (.bool false)], args := [d1, d2, d3] }
  | _ => none }
def CollectSameWrongFalsely : Prop := collectSameRow.holds Tryz.pinned (OpenSpec.ofChange collectSameWrong)

/- THE SECOND FORM. 'bulk': how many values and letters a reading holds, each counted each time it is reached (what is shared counts as often as it is met; a slice's spare places count too). A statement '..UptoSaid' is the law's where the arguments, and the package variables that the reading takes, are together of bulk at most 1048576: NARROWER than '..Said'. Prove '..Said' where nothing that the law and all that it calls make is longer than what came in: it says more and counts as full. Else prove '..UptoSaid'. A law counts once. -/
mutual
def uptoBulk {H : Type} : DataW H → Nat
  | .lit (.string bytes) => bytes.length + 1
  | .lit _ => 1
  | .nil => 1
  | .ptr d => uptoBulk d + 1
  | .slice elems spare => uptoBulkAll elems + uptoBulkAll spare + 1
  | .agg parts => uptoBulkAll parts + 1
  | .iface _ d => uptoBulk d + 1
  | .map entries => uptoBulkEntries entries + 1
  | .held _ => 1
def uptoBulkAll {H : Type} : List (DataW H) → Nat
  | [] => 0
  | d :: r => uptoBulk d + uptoBulkAll r
def uptoBulkEntries {H : Type} : List (Lit × DataW H) → Nat
  | [] => 0
  | x :: r => uptoBulkEntry x + uptoBulkEntries r
def uptoBulkEntry {H : Type} : Lit × DataW H → Nat
  | (.string bytes, d) => bytes.length + uptoBulk d + 1
  | (_, d) => uptoBulk d + 1
 end
def uptoSmall : (H : Type) → List (DataW H) → Bool := fun _ ds => decide (uptoBulkAll ds ≤ 1048576)
def OpenSpec.upto (s : _root_.Go.ChangeSpec) : _root_.Go.OpenSpec := { _root_.Go.OpenSpec.ofChange s with cond := some uptoSmall }

/-- 'swardlaw15.CollectMoves', WHERE WHAT IT READS IS OF BULK AT MOST 1048576: true; the input reads as it did. -/
def collectMovesUptoRow : OpenClaim := { program := "ytngcjpkccnfjiaagreatdoor", sum := "e2439c07b0fade05f68075f81b0befbae831baf5dd4b3e3efbf7380a62a15f0c", func := "sward/swardlaw15.CollectMoves", spec := "collectMoves", inPlace := ["internal/bytealg.abigen_runtime_cmpstring"], unfollowed := true, recurses := true, named := ["sward/collect.truth"], apart := false, laid := [("sward/collect.truth", laid_sward_collect_truth)], narrowed := true }
def CollectMovesUptoSaid : Prop := collectMovesUptoRow.holds Tryz.pinned (OpenSpec.upto collectMovesSpec)

/-- 'swardlaw15.CollectMakes', WHERE WHAT IT READS IS OF BULK AT MOST 1048576: true; the input reads as it did. -/
def collectMakesUptoRow : OpenClaim := { program := "ytngcjpkccnfjiaagreatdoor", sum := "e2439c07b0fade05f68075f81b0befbae831baf5dd4b3e3efbf7380a62a15f0c", func := "sward/swardlaw15.CollectMakes", spec := "collectMakes", inPlace := ["internal/bytealg.abigen_runtime_cmpstring"], unfollowed := true, recurses := true, named := ["sward/collect.truth"], apart := false, laid := [("sward/collect.truth", laid_sward_collect_truth)], narrowed := true }
def CollectMakesUptoSaid : Prop := collectMakesUptoRow.holds Tryz.pinned (OpenSpec.upto collectMakesSpec)

/-- 'swardlaw15.CollectValues', WHERE WHAT IT READS IS OF BULK AT MOST 1048576: true; the input reads as it did. -/
def collectValuesUptoRow : OpenClaim := { program := "ytngcjpkccnfjiaagreatdoor", sum := "e2439c07b0fade05f68075f81b0befbae831baf5dd4b3e3efbf7380a62a15f0c", func := "sward/swardlaw15.CollectValues", spec := "collectValues", inPlace := ["internal/bytealg.abigen_runtime_cmpstring"], unfollowed := true, recurses := true, named := ["sward/collect.truth"], loops := true, apart := false, laid := [("sward/collect.truth", laid_sward_collect_truth)], narrowed := true }
def CollectValuesUptoSaid : Prop := collectValuesUptoRow.holds Tryz.pinned (OpenSpec.upto collectValuesSpec)

/-- 'swardlaw15.CollectForms', WHERE WHAT IT READS IS OF BULK AT MOST 1048576: true; the input reads as it did. -/
def collectFormsUptoRow : OpenClaim := { program := "ytngcjpkccnfjiaagreatdoor", sum := "e2439c07b0fade05f68075f81b0befbae831baf5dd4b3e3efbf7380a62a15f0c", func := "sward/swardlaw15.CollectForms", spec := "collectForms", inPlace := ["internal/bytealg.abigen_runtime_cmpstring"], unfollowed := true, recurses := true, named := ["sward/collect.truth"], apart := false, laid := [("sward/collect.truth", laid_sward_collect_truth)], narrowed := true }
def CollectFormsUptoSaid : Prop := collectFormsUptoRow.holds Tryz.pinned (OpenSpec.upto collectFormsSpec)

/-- 'swardlaw15.CollectBuilt', WHERE WHAT IT READS IS OF BULK AT MOST 1048576: true; the input reads as it did. -/
def collectBuiltUptoRow : OpenClaim := { program := "ytngcjpkccnfjiaagreatdoor", sum := "e2439c07b0fade05f68075f81b0befbae831baf5dd4b3e3efbf7380a62a15f0c", func := "sward/swardlaw15.CollectBuilt", spec := "collectBuilt", inPlace := ["internal/bytealg.abigen_runtime_cmpstring"], unfollowed := true, recurses := true, named := ["sward/collect.truth"], loops := true, apart := false, laid := [("sward/collect.truth", laid_sward_collect_truth)], narrowed := true }
def CollectBuiltUptoSaid : Prop := collectBuiltUptoRow.holds Tryz.pinned (OpenSpec.upto collectBuiltSpec)

/-- 'swardlaw15.CollectWritten', WHERE WHAT IT READS IS OF BULK AT MOST 1048576: true; the input reads as it did. -/
def collectWrittenUptoRow : OpenClaim := { program := "ytngcjpkccnfjiaagreatdoor", sum := "e2439c07b0fade05f68075f81b0befbae831baf5dd4b3e3efbf7380a62a15f0c", func := "sward/swardlaw15.CollectWritten", spec := "collectWritten", inPlace := ["internal/bytealg.abigen_runtime_cmpstring"], unfollowed := true, recurses := true, named := ["sward/collect.truth"], apart := false, laid := [("sward/collect.truth", laid_sward_collect_truth)], narrowed := true }
def CollectWrittenUptoSaid : Prop := collectWrittenUptoRow.holds Tryz.pinned (OpenSpec.upto collectWrittenSpec)

/-- 'swardlaw15.CollectYoung', WHERE WHAT IT READS IS OF BULK AT MOST 1048576: true; the input reads as it did. -/
def collectYoungUptoRow : OpenClaim := { program := "ytngcjpkccnfjiaagreatdoor", sum := "e2439c07b0fade05f68075f81b0befbae831baf5dd4b3e3efbf7380a62a15f0c", func := "sward/swardlaw15.CollectYoung", spec := "collectYoung", inPlace := ["internal/bytealg.abigen_runtime_cmpstring"], unfollowed := true, recurses := true, named := ["sward/collect.truth"], apart := false, laid := [("sward/collect.truth", laid_sward_collect_truth)], narrowed := true }
def CollectYoungUptoSaid : Prop := collectYoungUptoRow.holds Tryz.pinned (OpenSpec.upto collectYoungSpec)

/-- 'swardlaw15.CollectRoom', WHERE WHAT IT READS IS OF BULK AT MOST 1048576: true; the input reads as it did. -/
def collectRoomUptoRow : OpenClaim := { program := "ytngcjpkccnfjiaagreatdoor", sum := "e2439c07b0fade05f68075f81b0befbae831baf5dd4b3e3efbf7380a62a15f0c", func := "sward/swardlaw15.CollectRoom", spec := "collectRoom", inPlace := ["internal/bytealg.abigen_runtime_cmpstring"], unfollowed := true, recurses := true, named := ["sward/collect.truth"], apart := false, laid := [("sward/collect.truth", laid_sward_collect_truth)], narrowed := true }
def CollectRoomUptoSaid : Prop := collectRoomUptoRow.holds Tryz.pinned (OpenSpec.upto collectRoomSpec)

/-- 'swardlaw15.CollectKept', WHERE WHAT IT READS IS OF BULK AT MOST 1048576: true; the input reads as it did. -/
def collectKeptUptoRow : OpenClaim := { program := "ytngcjpkccnfjiaagreatdoor", sum := "e2439c07b0fade05f68075f81b0befbae831baf5dd4b3e3efbf7380a62a15f0c", func := "sward/swardlaw15.CollectKept", spec := "collectKept", inPlace := ["internal/bytealg.abigen_runtime_cmpstring"], unfollowed := true, recurses := true, named := ["sward/collect.truth"], apart := false, laid := [("sward/collect.truth", laid_sward_collect_truth)], narrowed := true }
def CollectKeptUptoSaid : Prop := collectKeptUptoRow.holds Tryz.pinned (OpenSpec.upto collectKeptSpec)

/-- 'swardlaw15.CollectSame', WHERE WHAT IT READS IS OF BULK AT MOST 1048576: true; the input reads as it did. -/
def collectSameUptoRow : OpenClaim := { program := "ytngcjpkccnfjiaagreatdoor", sum := "e2439c07b0fade05f68075f81b0befbae831baf5dd4b3e3efbf7380a62a15f0c", func := "sward/swardlaw15.CollectSame", spec := "collectSame", inPlace := ["slices.overlaps[int]", "internal/bytealg.abigen_runtime_cmpstring"], unfollowed := true, recurses := true, named := ["sward/collect.truth"], apart := false, laid := [("sward/collect.truth", laid_sward_collect_truth)], narrowed := true }
def CollectSameUptoSaid : Prop := collectSameUptoRow.holds Tryz.pinned (OpenSpec.upto collectSameSpec)

end Rows
end Go.Proofs.YtngcjpkccnfjiaaGreatDoor

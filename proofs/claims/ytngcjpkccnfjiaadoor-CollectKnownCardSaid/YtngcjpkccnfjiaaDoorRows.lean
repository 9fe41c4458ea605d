/-
  NARROWER THAN 'FOR EVERY INPUT', by the rows' own cells (each row's printed sentence says how): CollectKnown: laid.
  DERIVED. THE GIVEN ROWS OF THIS SEAT. 1 by the template 'for every input the law returns true; each argument reads behind the call as it read before'; 0 by the template 'total and deterministic' (their statements: YtngcjpkccnfjiaaDoorTotals.lean).
  GIVEN WITH THE SEED: the statements are not yours to turn. If you find one false, say at which input.
  Laid BY PROGRAM, IN A SANDBOX (cutbox-rows.mjs): the forced cells as the released guide's own fill.sh prints them over the translation 7f954c622c23c8cc… (all of the seat's roots in one cut). By AI agents, Wed Nov 11 2026. No macro, syntax, notation, axiom, sorry.
-/
import Derived.Test.YtngcjpkccnfjiaaDoorChecked
import GoSem.Claim
import GoSem.ClaimJoined
import GoSem.ClaimMapViews
import Derived.JoinedTies
import Derived.KernelRfl
namespace Go.Proofs.YtngcjpkccnfjiaaDoor
/- THE CELL 'sum', in the pinned program and in every row, IS THE sha256 OF THE DUMP (.gsa) THAT YtngcjpkccnfjiaaDoorProg.lean LOADS. Nothing in Lean hashes anything: it is a label: what it is worth is what the hold of that sum in a sandbox is worth. -/
noncomputable def Tryd.pinned : Pinned := { name := "ytngcjpkccnfjiaadoor", sum := "7f954c622c23c8cc4c7568fba0f805b915ec6e4c0c99bd9e6fdb2b2b960047f2", checked := Tryd.checked }
namespace Rows
def none {H : Type} : Left H := { results := [], args := [] }

/- WHAT THE LISTED PACKAGE-LEVEL VARIABLES READ AS WHEN THE CALL BEGINS. Each datum BY PROGRAM (the guide's laid-datum.mjs) off the statement by which the dump's own 'gosem.cut.vars' lays the variable. In a bare row this is a premise. The card (YtngcjpkccnfjiaaDoorCards.lean) ties it to the program's text. -/
def laid_sward_collect_truth {H : Type} : DataW H := .agg [.lit (.int .i64 1), .lit (.int .i64 4)]

/-- 'swardlaw15.CollectKnown': WHATEVER THE INPUT: true; the input reads as it did. -/
def collectKnownSpec : ChangeSpec := { name := "collectKnown", fn := fun _ => fun
  | [] => { results := [.lit (.bool true)], args := [] }
  | _ => none }
def collectKnownRow : OpenClaim := { program := "ytngcjpkccnfjiaadoor", sum := "7f954c622c23c8cc4c7568fba0f805b915ec6e4c0c99bd9e6fdb2b2b960047f2", func := "sward/swardlaw15.CollectKnown", spec := "collectKnown", inPlace := ["internal/bytealg.abigen_runtime_cmpstring"], unfollowed := true, recurses := true, named := ["sward/collect.truth"], apart := false, laid := [("sward/collect.truth", laid_sward_collect_truth)] }
def CollectKnownSaid : Prop := collectKnownRow.holds Tryd.pinned (OpenSpec.ofChange collectKnownSpec)

/-- ITS FALSE NEIGHBOUR: 'it returns false'. Refute it at one input. -/
def collectKnownWrong : ChangeSpec := { name := "collectKnown", fn := fun _ => fun
  | [] => { results := [.lit (.bool false)], args := [] }
  | _ => none }
def CollectKnownWrongFalsely : Prop := collectKnownRow.holds Tryd.pinned (OpenSpec.ofChange collectKnownWrong)

/- THE SECOND FORM. 'bulk': how many values and letters a reading holds, each counted each time it is reached (what is shared counts as often as it is met; a slice's spare places count too). A statement '..UptoSaid' is the law's where the arguments, and the package variables that the reading takes, are together of bulk at most 1048576: NARROWER than '..Said'. Prove '..Said' where nothing that the law and all that it calls make is longer than what came in: it says more and counts as full. Else prove '..UptoSaid'. A law counts once. -/
mutual
def uptoBulk {H : Type} : DataW H → Nat
  | .lit (.string bytes) => bytes.length + 1
  | .lit _ => 1
  | .nil => 1
  | .ptr d => uptoBulk d + 1
  | .slice elems spare => uptoBulkAll elems + uptoBulkAll spare + 1
  | .agg parts => uptoBulkAll parts + 1
  | .iface _ d => uptoBulk d + 1
  | .map entries => uptoBulkEntries entries + 1
  | .held _ => 1
def uptoBulkAll {H : Type} : List (DataW H) → Nat
  | [] => 0
  | d :: r => uptoBulk d + uptoBulkAll r
def uptoBulkEntries {H : Type} : List (Lit × DataW H) → Nat
  | [] => 0
  | x :: r => uptoBulkEntry x + uptoBulkEntries r
def uptoBulkEntry {H : Type} : Lit × DataW H → Nat
  | (.string bytes, d) => bytes.length + uptoBulk d + 1
  | (_, d) => uptoBulk d + 1
 end
def uptoSmall : (H : Type) → List (DataW H) → Bool := fun _ ds => decide (uptoBulkAll ds ≤ 1048576)
def OpenSpec.upto (s : _root_.Go.ChangeSpec) : _root_.Go.OpenSpec := { _root_.Go.OpenSpec.ofChange s with cond := some uptoSmall }

/-- 'swardlaw15.CollectKnown', WHERE WHAT IT READS IS OF BULK AT MOST 1048576: true; the input reads as it did. -/
def collectKnownUptoRow : OpenClaim := { program := "ytngcjpkccnfjiaadoor", sum := "7f954c622c23c8cc4c7568fba0f805b915ec6e4c0c99bd9e6fdb2b2b960047f2", func := "sward/swardlaw15.CollectKnown", spec := "collectKnown", inPlace := ["internal/bytealg.abigen_runtime_cmpstring"], unfollowed := true, recurses := true, named := ["sward/collect.truth"], apart := false, laid := [("sward/collect.truth", laid_sward_collect_truth)], narrowed := true }
def CollectKnownUptoSaid : Prop := collectKnownUptoRow.holds Tryd.pinned (OpenSpec.upto collectKnownSpec)

end Rows
end Go.Proofs.YtngcjpkccnfjiaaDoor

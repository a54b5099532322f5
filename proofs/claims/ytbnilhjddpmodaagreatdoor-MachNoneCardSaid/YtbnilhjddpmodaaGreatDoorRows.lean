/-
  NARROWER THAN 'FOR EVERY INPUT', by the rows' own cells (each row's printed sentence says how): CalcTraces: loops, laid · CalcSteps: loops, laid · MachNone: loops, laid · CalcMach: loops, laid.
  DERIVED. THE GIVEN ROWS OF THIS SEAT. 4 by the template 'for every input the law returns true; each argument reads behind the call as it read before'; 0 by the template 'total and deterministic' (their statements: YtbnilhjddpmodaaGreatDoorTotals.lean).
  GIVEN WITH THE SEED: the statements are not yours to turn. If you find one false, say at which input.
  Laid BY PROGRAM, IN A SANDBOX (cutbox-rows.mjs): the forced cells as the released guide's own fill.sh prints them over the translation 9dfcf01f7561d1e4… (all of the seat's roots in one cut). By AI agents, Wed Nov 11 2026. No macro, syntax, notation, axiom, sorry.
-/
import Derived.Test.YtbnilhjddpmodaaGreatDoorChecked
import GoSem.Claim
import GoSem.ClaimJoined
import GoSem.ClaimMapViews
import Derived.JoinedTies
import Derived.KernelRfl
namespace Go.Proofs.YtbnilhjddpmodaaGreatDoor
/- THE CELL 'sum', in the pinned program and in every row, IS THE sha256 OF THE DUMP (.gsa) THAT YtbnilhjddpmodaaGreatDoorProg.lean LOADS. Nothing in Lean hashes anything: it is a label: what it is worth is what the hold of that sum in a sandbox is worth. -/
noncomputable def Tryz.pinned : Pinned := { name := "ytbnilhjddpmodaagreatdoor", sum := "9dfcf01f7561d1e4cd87a8f991a08ad308a1f7e352498dd3f714b4ac6a15516c", checked := Tryz.checked }
namespace Rows
def none {H : Type} : Left H := { results := [], args := [] }

/- WHAT THE LISTED PACKAGE-LEVEL VARIABLES READ AS WHEN THE CALL BEGINS. Each datum BY PROGRAM (the guide's laid-datum.mjs) off the statement by which the dump's own 'gosem.cut.vars' lays the variable. In a bare row this is a premise. The card (YtbnilhjddpmodaaGreatDoorCards.lean) ties it to the program's text. -/
def laid_limbeck_prim_takes {H : Type} : DataW H := .agg [.lit (.int .i64 0), .lit (.int .i64 1), .lit (.int .i64 1), .lit (.int .i64 1), .lit (.int .i64 1), .lit (.int .i64 3), .lit (.int .i64 1), .lit (.int .i64 1)]
def laid_limbeck_obs_seen {H : Type} : DataW H := .agg [.lit (.int .i64 0), .lit (.int .i64 1), .lit (.int .i64 2), .lit (.int .i64 3), .lit (.int .i64 5), .lit (.int .i64 4), .lit (.int .i64 4), .lit (.int .i64 4), .lit (.int .i64 0)]

/-- 'limbecklaw36.CalcTraces': WHATEVER THE INPUT: true; the input reads as it did. -/
def calcTracesSpec : ChangeSpec := { name := "calcTraces", fn := fun _ => fun
  | [d1, d2, d3] => { results := [.lit (.bool true)], args := [d1, d2, d3] }
  | _ => none }
def calcTracesRow : OpenClaim := { program := "ytbnilhjddpmodaagreatdoor", sum := "9dfcf01f7561d1e4cd87a8f991a08ad308a1f7e352498dd3f714b4ac6a15516c", func := "limbeck/limbecklaw36.CalcTraces", spec := "calcTraces", unfollowed := true, recurses := true, named := ["limbeck/prim.takes", "limbeck/obs.seen"], loops := true, apart := false, laid := [("limbeck/prim.takes", laid_limbeck_prim_takes), ("limbeck/obs.seen", laid_limbeck_obs_seen)] }
def CalcTracesSaid : Prop := calcTracesRow.holds Tryz.pinned (OpenSpec.ofChange calcTracesSpec)

/-- ITS FALSE NEIGHBOUR: 'it returns false'. Refute it at one input. -/
def calcTracesWrong : ChangeSpec := { name := "calcTraces", fn := fun _ => fun
  | [d1, d2, d3] => { results := [.lit (.bool false)], args := [d1, d2, d3] }
  | _ => none }
def CalcTracesWrongFalsely : Prop := calcTracesRow.holds Tryz.pinned (OpenSpec.ofChange calcTracesWrong)

/-- 'limbecklaw36.CalcSteps': WHATEVER THE INPUT: true; the input reads as it did. -/
def calcStepsSpec : ChangeSpec := { name := "calcSteps", fn := fun _ => fun
  | [d1, d2, d3] => { results := [.lit (.bool true)], args := [d1, d2, d3] }
  | _ => none }
def calcStepsRow : OpenClaim := { program := "ytbnilhjddpmodaagreatdoor", sum := "9dfcf01f7561d1e4cd87a8f991a08ad308a1f7e352498dd3f714b4ac6a15516c", func := "limbeck/limbecklaw36.CalcSteps", spec := "calcSteps", unfollowed := true, recurses := true, named := ["limbeck/prim.takes", "limbeck/obs.seen"], loops := true, apart := false, laid := [("limbeck/prim.takes", laid_limbeck_prim_takes), ("limbeck/obs.seen", laid_limbeck_obs_seen)] }
def CalcStepsSaid : Prop := calcStepsRow.holds Tryz.pinned (OpenSpec.ofChange calcStepsSpec)

/-- ITS FALSE NEIGHBOUR: 'it returns false'. Refute it at one input. -/
def calcStepsWrong : ChangeSpec := { name := "calcSteps", fn := fun _ => fun
  | [d1, d2, d3] => { results := [.lit (.bool false)], args := [d1, d2, d3] }
  | _ => none }
def CalcStepsWrongFalsely : Prop := calcStepsRow.holds Tryz.pinned (OpenSpec.ofChange calcStepsWrong)

/-- 'limbecklaw35.MachNone': WHATEVER THE INPUT: true; the input reads as it did. -/
def machNoneSpec : ChangeSpec := { name := "machNone", fn := fun _ => fun
  | [d1, d2, d3, d4] => { results := [.lit (.bool true)], args := [d1, d2, d3, d4] }
  | _ => none }
def machNoneRow : OpenClaim := { program := "ytbnilhjddpmodaagreatdoor", sum := "9dfcf01f7561d1e4cd87a8f991a08ad308a1f7e352498dd3f714b4ac6a15516c", func := "limbeck/limbecklaw35.MachNone", spec := "machNone", unfollowed := true, recurses := true, named := ["limbeck/prim.takes", "limbeck/obs.seen"], loops := true, apart := false, laid := [("limbeck/prim.takes", laid_limbeck_prim_takes), ("limbeck/obs.seen", laid_limbeck_obs_seen)] }
def MachNoneSaid : Prop := machNoneRow.holds Tryz.pinned (OpenSpec.ofChange machNoneSpec)

/-- ITS FALSE NEIGHBOUR: 'it returns false'. Refute it at one input. -/
def machNoneWrong : ChangeSpec := { name := "machNone", fn := fun _ => fun
  | [d1, d2, d3, d4] => { results := [.lit (.bool false)], args := [d1, d2, d3, d4] }
  | _ => none }
def MachNoneWrongFalsely : Prop := machNoneRow.holds Tryz.pinned (OpenSpec.ofChange machNoneWrong)

/-- 'limbecklaw36.CalcMach': WHATEVER THE INPUT: true; the input reads as it did. -/
def calcMachSpec : ChangeSpec := { name := "calcMach", fn := fun _ => fun
  | [d1, d2, d3, d4, d5] => { results := [.lit (.bool true)], args := [d1, d2, d3, d4, d5] }
  | _ => none }
def calcMachRow : OpenClaim := { program := "ytbnilhjddpmodaagreatdoor", sum := "9dfcf01f7561d1e4cd87a8f991a08ad308a1f7e352498dd3f714b4ac6a15516c", func := "limbeck/limbecklaw36.CalcMach", spec := "calcMach", unfollowed := true, recurses := true, named := ["limbeck/prim.takes", "limbeck/obs.seen"], loops := true, apart := false, laid := [("limbeck/prim.takes", laid_limbeck_prim_takes), ("limbeck/obs.seen", laid_limbeck_obs_seen)] }
def CalcMachSaid : Prop := calcMachRow.holds Tryz.pinned (OpenSpec.ofChange calcMachSpec)

/-- ITS FALSE NEIGHBOUR: 'it returns false'. Refute it at one input. -/
def calcMachWrong : ChangeSpec := { name := "calcMach", fn := fun _ => fun
  | [d1, d2, d3, d4, d5] => { results := [.lit (.bool false)], args := [d1, d2, d3, d4, d5] }
  | _ => none }
def CalcMachWrongFalsely : Prop := calcMachRow.holds Tryz.pinned (OpenSpec.ofChange calcMachWrong)

/- THE SECOND FORM. 'bulk': how many values and letters a reading holds, each counted each time it is reached (what is shared counts as often as it is met; a slice's spare places count too). A statement '..UptoSaid' is the law's where the arguments, and the package variables that the reading takes, are together of bulk at most 1048576: NARROWER than '..Said'. Prove '..Said' where nothing that the law and all that it calls make is longer than what came in: it says more and counts as full. Else prove '..UptoSaid'. A law counts once. -/
mutual
def uptoBulk {H : Type} : DataW H → Nat
  | .lit (.string bytes) => bytes.length + 1
  | .lit _ => 1
  | .nil => 1
  | .ptr d => uptoBulk d + 1
  | .slice elems spare => uptoBulkAll elems + uptoBulkAll spare + 1
  | .agg parts => uptoBulkAll parts + 1
  | .iface _ d => uptoBulk d + 1
  | .map entries => uptoBulkEntries entries + 1
  | .held _ => 1
def uptoBulkAll {H : Type} : List (DataW H) → Nat
  | [] => 0
  | d :: r => uptoBulk d + uptoBulkAll r
def uptoBulkEntries {H : Type} : List (Lit × DataW H) → Nat
  | [] => 0
  | x :: r => uptoBulkEntry x + uptoBulkEntries r
def uptoBulkEntry {H : Type} : Lit × DataW H → Nat
  | (.string bytes, d) => bytes.length + uptoBulk d + 1
  | (_, d) => uptoBulk d + 1
 end
def uptoSmall : (H : Type) → List (DataW H) → Bool := fun _ ds => decide (uptoBulkAll ds ≤ 1048576)
def OpenSpec.upto (s : _root_.Go.ChangeSpec) : _root_.Go.OpenSpec := { _root_.Go.OpenSpec.ofChange s with cond := some uptoSmall }

/-- 'limbecklaw36.CalcTraces', WHERE WHAT IT READS IS OF BULK AT MOST 1048576: true; the input reads as it did. -/
def calcTracesUptoRow : OpenClaim := { program := "ytbnilhjddpmodaagreatdoor", sum := "9dfcf01f7561d1e4cd87a8f991a08ad308a1f7e352498dd3f714b4ac6a15516c", func := "limbeck/limbecklaw36.CalcTraces", spec := "calcTraces", unfollowed := true, recurses := true, named := ["limbeck/prim.takes", "limbeck/obs.seen"], loops := true, apart := false, laid := [("limbeck/prim.takes", laid_limbeck_prim_takes), ("limbeck/obs.seen", laid_limbeck_obs_seen)], narrowed := true }
def CalcTracesUptoSaid : Prop := calcTracesUptoRow.holds Tryz.pinned (OpenSpec.upto calcTracesSpec)

/-- 'limbecklaw36.CalcSteps', WHERE WHAT IT READS IS OF BULK AT MOST 1048576: true; the input reads as it did. -/
def calcStepsUptoRow : OpenClaim := { program := "ytbnilhjddpmodaagreatdoor", sum := "9dfcf01f7561d1e4cd87a8f991a08ad308a1f7e352498dd3f714b4ac6a15516c", func := "limbeck/limbecklaw36.CalcSteps", spec := "calcSteps", unfollowed := true, recurses := true, named := ["limbeck/prim.takes", "limbeck/obs.seen"], loops := true, apart := false, laid := [("limbeck/prim.takes", laid_limbeck_prim_takes), ("limbeck/obs.seen", laid_limbeck_obs_seen)], narrowed := true }
def CalcStepsUptoSaid : Prop := calcStepsUptoRow.holds Tryz.pinned (OpenSpec.upto calcStepsSpec)

/-- 'limbecklaw35.MachNone', WHERE WHAT IT READS IS OF BULK AT MOST 1048576: true; the input reads as it did. -/
def machNoneUptoRow : OpenClaim := { program := "ytbnilhjddpmodaagreatdoor", sum := "9dfcf01f7561d1e4cd87a8f991a08ad308a1f7e352498dd3f714b4ac6a15516c", func := "limbeck/limbecklaw35.MachNone", spec := "machNone", unfollowed := true, recurses := true, named := ["limbeck/prim.takes", "limbeck/obs.seen"], loops := true, apart := false, laid := [("limbeck/prim.takes", laid_limbeck_prim_takes), ("limbeck/obs.seen", laid_limbeck_obs_seen)], narrowed := true }
def MachNoneUptoSaid : Prop := machNoneUptoRow.holds Tryz.pinned (OpenSpec.upto machNoneSpec)

/-- 'limbecklaw36.CalcMach', WHERE WHAT IT READS IS OF BULK AT MOST 1048576: true; the input reads as it did. -/
def calcMachUptoRow : OpenClaim := { program := "ytbnilhjddpmodaagreatdoor", sum := "9dfcf01f7561d1e4cd87a8f991a08ad308a1f7e352498dd3f714b4ac6a15516c", func := "limbeck/limbecklaw36.CalcMach", spec := "calcMach", unfollowed := true, recurses := true, named := ["limbeck/prim.takes", "limbeck/obs.seen"], loops := true, apart := false, laid := [("limbeck/prim.takes", laid_limbeck_prim_takes), ("limbeck/obs.seen", laid_limbeck_obs_seen)], narrowed := true }
def CalcMachUptoSaid : Prop := calcMachUptoRow.holds Tryz.pinned (OpenSpec.upto calcMachSpec)

end Rows
end Go.Proofs.YtbnilhjddpmodaaGreatDoor

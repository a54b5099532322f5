/-
  NARROWER THAN 'FOR EVERY INPUT', by the rows' own cells (each row's printed sentence says how): GenTells: loops · GenNone: loops · GenFits: loops.
  DERIVED. THE GIVEN ROWS OF THIS SEAT. 3 by the template 'for every input the law returns true; each argument reads behind the call as it read before'; 0 by the template 'total and deterministic' (their statements: YtgcjkhmeideaoaaTotals.lean).
  GIVEN WITH THE SEED: the statements are not yours to turn. If you find one false, say at which input.
  Laid BY PROGRAM, IN A SANDBOX (cutbox-rows.mjs): the forced cells as the released guide's own fill.sh prints them over the translation 36b8b5561f2e1c95… (all of the seat's roots in one cut). By AI agents, Wed Nov 11 2026. No macro, syntax, notation, axiom, sorry.
-/
import Derived.Test.YtgcjkhmeideaoaaChecked
import GoSem.Claim
import GoSem.ClaimJoined
import GoSem.ClaimMapViews
import Derived.JoinedTies
import Derived.KernelRfl
namespace Go.Proofs.Ytgcjkhmeideaoaa
/- THE CELL 'sum', in the pinned program and in every row, IS THE sha256 OF THE DUMP (.gsa) THAT YtgcjkhmeideaoaaProg.lean LOADS. Nothing in Lean hashes anything: it is a label: what it is worth is what the hold of that sum in a sandbox is worth. -/
noncomputable def Try.pinned : Pinned := { name := "ytgcjkhmeideaoaa", sum := "36b8b5561f2e1c95636a4f88652a59f5e7f99321f55d2fd468ffb246a513a236", checked := Try.checked }
namespace Rows
def none {H : Type} : Left H := { results := [], args := [] }

/-- 'limbecklaw22.GenTells': WHATEVER THE INPUT: true; the input reads as it did. -/
def genTellsSpec : ChangeSpec := { name := "genTells", fn := fun _ => fun
  | [d1, d2, d3, d4, d5, d6] => { results := [.lit (.bool true)], args := [d1, d2, d3, d4, d5, d6] }
  | _ => none }
def genTellsRow : OpenClaim := { program := "ytgcjkhmeideaoaa", sum := "36b8b5561f2e1c95636a4f88652a59f5e7f99321f55d2fd468ffb246a513a236", func := "limbeck/limbecklaw22.GenTells", spec := "genTells", inPlace := ["internal/bytealg.abigen_runtime_cmpstring"], unfollowed := true, recurses := true, loops := true, apart := false }
def GenTellsSaid : Prop := genTellsRow.holds Try.pinned (OpenSpec.ofChange genTellsSpec)

/-- ITS FALSE NEIGHBOUR: 'it returns false'. Refute it at one input. -/
def genTellsWrong : ChangeSpec := { name := "genTells", fn := fun _ => fun
  | [d1, d2, d3, d4, d5, d6] => { results := [.lit (.bool false)], args := [d1, d2, d3, d4, d5, d6] }
  | _ => none }
def GenTellsWrongFalsely : Prop := genTellsRow.holds Try.pinned (OpenSpec.ofChange genTellsWrong)

/-- 'limbecklaw22.GenNone': WHATEVER THE INPUT: true; the input reads as it did. -/
def genNoneSpec : ChangeSpec := { name := "genNone", fn := fun _ => fun
  | [d1, d2, d3, d4] => { results := [.lit (.bool true)], args := [d1, d2, d3, d4] }
  | _ => none }
def genNoneRow : OpenClaim := { program := "ytgcjkhmeideaoaa", sum := "36b8b5561f2e1c95636a4f88652a59f5e7f99321f55d2fd468ffb246a513a236", func := "limbeck/limbecklaw22.GenNone", spec := "genNone", inPlace := ["internal/bytealg.abigen_runtime_cmpstring"], unfollowed := true, recurses := true, loops := true, apart := false }
def GenNoneSaid : Prop := genNoneRow.holds Try.pinned (OpenSpec.ofChange genNoneSpec)

/-- ITS FALSE NEIGHBOUR: 'it returns false'. Refute it at one input. -/
def genNoneWrong : ChangeSpec := { name := "genNone", fn := fun _ => fun
  | [d1, d2, d3, d4] => { results := [.lit (.bool false)], args := [d1, d2, d3, d4] }
  | _ => none }
def GenNoneWrongFalsely : Prop := genNoneRow.holds Try.pinned (OpenSpec.ofChange genNoneWrong)

/-- 'limbecklaw22.GenFits': WHATEVER THE INPUT: true; the input reads as it did. -/
def genFitsSpec : ChangeSpec := { name := "genFits", fn := fun _ => fun
  | [d1, d2, d3, d4] => { results := [.lit (.bool true)], args := [d1, d2, d3, d4] }
  | _ => none }
def genFitsRow : OpenClaim := { program := "ytgcjkhmeideaoaa", sum := "36b8b5561f2e1c95636a4f88652a59f5e7f99321f55d2fd468ffb246a513a236", func := "limbeck/limbecklaw22.GenFits", spec := "genFits", inPlace := ["internal/bytealg.abigen_runtime_cmpstring"], unfollowed := true, recurses := true, loops := true, apart := false }
def GenFitsSaid : Prop := genFitsRow.holds Try.pinned (OpenSpec.ofChange genFitsSpec)

/-- ITS FALSE NEIGHBOUR: 'it returns false'. Refute it at one input. -/
def genFitsWrong : ChangeSpec := { name := "genFits", fn := fun _ => fun
  | [d1, d2, d3, d4] => { results := [.lit (.bool false)], args := [d1, d2, d3, d4] }
  | _ => none }
def GenFitsWrongFalsely : Prop := genFitsRow.holds Try.pinned (OpenSpec.ofChange genFitsWrong)

/- THE SECOND FORM. 'bulk': how many values and letters a reading holds, each counted each time it is reached (what is shared counts as often as it is met; a slice's spare places count too). A statement '..UptoSaid' is the law's where the arguments, and the package variables that the reading takes, are together of bulk at most 1048576: NARROWER than '..Said'. Prove '..Said' where nothing that the law and all that it calls make is longer than what came in: it says more and counts as full. Else prove '..UptoSaid'. A law counts once. -/
mutual
def uptoBulk {H : Type} : DataW H → Nat
  | .lit (.string bytes) => bytes.length + 1
  | .lit _ => 1
  | .nil => 1
  | .ptr d => uptoBulk d + 1
  | .slice elems spare => uptoBulkAll elems + uptoBulkAll spare + 1
  | .agg parts => uptoBulkAll parts + 1
  | .iface _ d => uptoBulk d + 1
  | .map entries => uptoBulkEntries entries + 1
  | .held _ => 1
def uptoBulkAll {H : Type} : List (DataW H) → Nat
  | [] => 0
  | d :: r => uptoBulk d + uptoBulkAll r
def uptoBulkEntries {H : Type} : List (Lit × DataW H) → Nat
  | [] => 0
  | x :: r => uptoBulkEntry x + uptoBulkEntries r
def uptoBulkEntry {H : Type} : Lit × DataW H → Nat
  | (.string bytes, d) => bytes.length + uptoBulk d + 1
  | (_, d) => uptoBulk d + 1
 end
def uptoSmall : (H : Type) → List (DataW H) → Bool := fun _ ds => decide (uptoBulkAll ds ≤ 1048576)
def OpenSpec.upto (s : _root_.Go.ChangeSpec) : _root_.Go.OpenSpec := { _root_.Go.OpenSpec.ofChange s with cond := some uptoSmall }

/-- 'limbecklaw22.GenTells', WHERE WHAT IT READS IS OF BULK AT MOST 1048576: true; the input reads as it did. -/
def genTellsUptoRow : OpenClaim := { program := "ytgcjkhmeideaoaa", sum := "36b8b5561f2e1c95636a4f88652a59f5e7f99321f55d2fd468ffb246a513a236", func := "limbeck/limbecklaw22.GenTells", spec := "genTells", inPlace := ["internal/bytealg.abigen_runtime_cmpstring"], unfollowed := true, recurses := true, loops := true, apart := false, narrowed := true }
def GenTellsUptoSaid : Prop := genTellsUptoRow.holds Try.pinned (OpenSpec.upto genTellsSpec)

/-- 'limbecklaw22.GenNone', WHERE WHAT IT READS IS OF BULK AT MOST 1048576: true; the input reads as it did. -/
def genNoneUptoRow : OpenClaim := { program := "ytgcjkhmeideaoaa", sum := "36b8b5561f2e1c95636a4f88652a59f5e7f99321f55d2fd468ffb246a513a236", func := "limbeck/limbecklaw22.GenNone", spec := "genNone", inPlace := ["internal/bytealg.abigen_runtime_cmpstring"], unfollowed := true, recurses := true, loops := true, apart := false, narrowed := true }
def GenNoneUptoSaid : Prop := genNoneUptoRow.holds Try.pinned (OpenSpec.upto genNoneSpec)

/-- 'limbecklaw22.GenFits', WHERE WHAT IT READS IS OF BULK AT MOST 1048576: true; the input reads as it did. -/
def genFitsUptoRow : OpenClaim := { program := "ytgcjkhmeideaoaa", sum := "36b8b5561f2e1c95636a4f88652a59f5e7f99321f55d2fd468ffb246a513a236", func := "limbeck/limbecklaw22.GenFits", spec := "genFits", inPlace := ["internal/bytealg.abigen_runtime_cmpstring"], unfollowed := true, recurses := true, loops := true, apart := false, narrowed := true }
def GenFitsUptoSaid : Prop := genFitsUptoRow.holds Try.pinned (OpenSpec.upto genFitsSpec)

end Rows
end Go.Proofs.Ytgcjkhmeideaoaa

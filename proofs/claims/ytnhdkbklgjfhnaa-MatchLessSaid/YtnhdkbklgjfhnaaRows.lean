/-
  NARROWER THAN 'FOR EVERY INPUT', by the rows' own cells (each row's printed sentence says how): MatchServes: loops · MatchLess: loops · GenTells: loops · GenNone: loops · GenFits: loops · BoundsTell: loops · BoundsClosed: loops · TyRight: loops · TySame: loops · TyMakes: loops · TyTurned: loops.
  DERIVED. THE GIVEN ROWS OF THIS SEAT. 11 by the template 'for every input the law returns true; each argument reads behind the call as it read before'; 0 by the template 'total and deterministic' (their statements: YtnhdkbklgjfhnaaTotals.lean).
  GIVEN WITH THE SEED: the statements are not yours to turn. If you find one false, say at which input.
  Laid BY PROGRAM, IN A SANDBOX (cutbox-rows.mjs): the forced cells as the released guide's own fill.sh prints them over the translation 2414d27667b489c4… (all of the seat's roots in one cut). By AI agents, Wed Nov 11 2026. No macro, syntax, notation, axiom, sorry.
-/
import Derived.Test.YtnhdkbklgjfhnaaChecked
import GoSem.Claim
import GoSem.ClaimJoined
import GoSem.ClaimMapViews
import Derived.JoinedTies
import Derived.KernelRfl
namespace Go.Proofs.Ytnhdkbklgjfhnaa
/- THE CELL 'sum', in the pinned program and in every row, IS THE sha256 OF THE DUMP (.gsa) THAT YtnhdkbklgjfhnaaProg.lean LOADS. Nothing in Lean hashes anything: it is a label: what it is worth is what the hold of that sum in a sandbox is worth. -/
noncomputable def Try.pinned : Pinned := { name := "ytnhdkbklgjfhnaa", sum := "2414d27667b489c496d68f2830c5d80dfb1e5b612eb4dba6e0b3518350b25ebf", checked := Try.checked }
namespace Rows
def none {H : Type} : Left H := { results := [], args := [] }

/-- 'limbecklaw21.MatchServes': WHATEVER THE INPUT: true; the input reads as it did. -/
def matchServesSpec : ChangeSpec := { name := "matchServes", fn := fun _ => fun
  | [d1, d2, d3] => { results := [.lit (.bool true)], args := [d1, d2, d3] }
  | _ => none }
def matchServesRow : OpenClaim := { program := "ytnhdkbklgjfhnaa", sum := "2414d27667b489c496d68f2830c5d80dfb1e5b612eb4dba6e0b3518350b25ebf", func := "limbeck/limbecklaw21.MatchServes", spec := "matchServes", inPlace := ["internal/bytealg.abigen_runtime_cmpstring"], unfollowed := true, recurses := true, loops := true, apart := false }
def MatchServesSaid : Prop := matchServesRow.holds Try.pinned (OpenSpec.ofChange matchServesSpec)

/-- ITS FALSE NEIGHBOUR: 'it returns false'. Refute it at one input. -/
def matchServesWrong : ChangeSpec := { name := "matchServes", fn := fun _ => fun
  | [d1, d2, d3] => { results := [.lit (.bool false)], args := [d1, d2, d3] }
  | _ => none }
def MatchServesWrongFalsely : Prop := matchServesRow.holds Try.pinned (OpenSpec.ofChange matchServesWrong)

/-- 'limbecklaw21.MatchLess': WHATEVER THE INPUT: true; the input reads as it did. -/
def matchLessSpec : ChangeSpec := { name := "matchLess", fn := fun _ => fun
  | [d1, d2, d3, d4, d5] => { results := [.lit (.bool true)], args := [d1, d2, d3, d4, d5] }
  | _ => none }
def matchLessRow : OpenClaim := { program := "ytnhdkbklgjfhnaa", sum := "2414d27667b489c496d68f2830c5d80dfb1e5b612eb4dba6e0b3518350b25ebf", func := "limbeck/limbecklaw21.MatchLess", spec := "matchLess", inPlace := ["internal/bytealg.abigen_runtime_cmpstring"], unfollowed := true, recurses := true, loops := true, apart := false }
def MatchLessSaid : Prop := matchLessRow.holds Try.pinned (OpenSpec.ofChange matchLessSpec)

/-- ITS FALSE NEIGHBOUR: 'it returns false'. Refute it at one input. -/
def matchLessWrong : ChangeSpec := { name := "matchLess", fn := fun _ => fun
  | [d1, d2, d3, d4, d5] => { results := [.lit (.bool false)], args := [d1, d2, d3, d4, d5] }
  | _ => none }
def MatchLessWrongFalsely : Prop := matchLessRow.holds Try.pinned (OpenSpec.ofChange matchLessWrong)

/-- 'limbecklaw22.GenTells': WHATEVER THE INPUT: true; the input reads as it did. -/
def genTellsSpec : ChangeSpec := { name := "genTells", fn := fun _ => fun
  | [d1, d2, d3, d4, d5, d6] => { results := [.lit (.bool true)], args := [d1, d2, d3, d4, d5, d6] }
  | _ => none }
def genTellsRow : OpenClaim := { program := "ytnhdkbklgjfhnaa", sum := "2414d27667b489c496d68f2830c5d80dfb1e5b612eb4dba6e0b3518350b25ebf", func := "limbeck/limbecklaw22.GenTells", spec := "genTells", inPlace := ["internal/bytealg.abigen_runtime_cmpstring"], unfollowed := true, recurses := true, loops := true, apart := false }
def GenTellsSaid : Prop := genTellsRow.holds Try.pinned (OpenSpec.ofChange genTellsSpec)

/-- ITS FALSE NEIGHBOUR: 'it returns false'. Refute it at one input. -/
def genTellsWrong : ChangeSpec := { name := "genTells", fn := fun _ => fun
  | [d1, d2, d3, d4, d5, d6] => { results := [.lit (.bool false)], args := [d1, d2, d3, d4, d5, d6] }
  | _ => none }
def GenTellsWrongFalsely : Prop := genTellsRow.holds Try.pinned (OpenSpec.ofChange genTellsWrong)

/-- 'limbecklaw22.GenNone': WHATEVER THE INPUT: true; the input reads as it did. -/
def genNoneSpec : ChangeSpec := { name := "genNone", fn := fun _ => fun
  | [d1, d2, d3, d4] => { results := [.lit (.bool true)], args := [d1, d2, d3, d4] }
  | _ => none }
def genNoneRow : OpenClaim := { program := "ytnhdkbklgjfhnaa", sum := "2414d27667b489c496d68f2830c5d80dfb1e5b612eb4dba6e0b3518350b25ebf", func := "limbeck/limbecklaw22.GenNone", spec := "genNone", inPlace := ["internal/bytealg.abigen_runtime_cmpstring"], unfollowed := true, recurses := true, loops := true, apart := false }
def GenNoneSaid : Prop := genNoneRow.holds Try.pinned (OpenSpec.ofChange genNoneSpec)

/-- ITS FALSE NEIGHBOUR: 'it returns false'. Refute it at one input. -/
def genNoneWrong : ChangeSpec := { name := "genNone", fn := fun _ => fun
  | [d1, d2, d3, d4] => { results := [.lit (.bool false)], args := [d1, d2, d3, d4] }
  | _ => none }
def GenNoneWrongFalsely : Prop := genNoneRow.holds Try.pinned (OpenSpec.ofChange genNoneWrong)

/-- 'limbecklaw22.GenFits': WHATEVER THE INPUT: true; the input reads as it did. -/
def genFitsSpec : ChangeSpec := { name := "genFits", fn := fun _ => fun
  | [d1, d2, d3, d4] => { results := [.lit (.bool true)], args := [d1, d2, d3, d4] }
  | _ => none }
def genFitsRow : OpenClaim := { program := "ytnhdkbklgjfhnaa", sum := "2414d27667b489c496d68f2830c5d80dfb1e5b612eb4dba6e0b3518350b25ebf", func := "limbeck/limbecklaw22.GenFits", spec := "genFits", inPlace := ["internal/bytealg.abigen_runtime_cmpstring"], unfollowed := true, recurses := true, loops := true, apart := false }
def GenFitsSaid : Prop := genFitsRow.holds Try.pinned (OpenSpec.ofChange genFitsSpec)

/-- ITS FALSE NEIGHBOUR: 'it returns false'. Refute it at one input. -/
def genFitsWrong : ChangeSpec := { name := "genFits", fn := fun _ => fun
  | [d1, d2, d3, d4] => { results := [.lit (.bool false)], args := [d1, d2, d3, d4] }
  | _ => none }
def GenFitsWrongFalsely : Prop := genFitsRow.holds Try.pinned (OpenSpec.ofChange genFitsWrong)

/-- 'limbecklaw09.BoundsTell': WHATEVER THE INPUT: true; the input reads as it did. -/
def boundsTellSpec : ChangeSpec := { name := "boundsTell", fn := fun _ => fun
  | [d1, d2, d3] => { results := [.lit (.bool true)], args := [d1, d2, d3] }
  | _ => none }
def boundsTellRow : OpenClaim := { program := "ytnhdkbklgjfhnaa", sum := "2414d27667b489c496d68f2830c5d80dfb1e5b612eb4dba6e0b3518350b25ebf", func := "limbeck/limbecklaw09.BoundsTell", spec := "boundsTell", unfollowed := true, recurses := true, loops := true, apart := false }
def BoundsTellSaid : Prop := boundsTellRow.holds Try.pinned (OpenSpec.ofChange boundsTellSpec)

/-- ITS FALSE NEIGHBOUR: 'it returns false'. Refute it at one input. -/
def boundsTellWrong : ChangeSpec := { name := "boundsTell", fn := fun _ => fun
  | [d1, d2, d3] => { results := [.lit (.bool false)], args := [d1, d2, d3] }
  | _ => none }
def BoundsTellWrongFalsely : Prop := boundsTellRow.holds Try.pinned (OpenSpec.ofChange boundsTellWrong)

/-- 'limbecklaw09.BoundsClosed': WHATEVER THE INPUT: true; the input reads as it did. -/
def boundsClosedSpec : ChangeSpec := { name := "boundsClosed", fn := fun _ => fun
  | [d1, d2] => { results := [.lit (.bool true)], args := [d1, d2] }
  | _ => none }
def boundsClosedRow : OpenClaim := { program := "ytnhdkbklgjfhnaa", sum := "2414d27667b489c496d68f2830c5d80dfb1e5b612eb4dba6e0b3518350b25ebf", func := "limbeck/limbecklaw09.BoundsClosed", spec := "boundsClosed", unfollowed := true, recurses := true, loops := true, apart := false }
def BoundsClosedSaid : Prop := boundsClosedRow.holds Try.pinned (OpenSpec.ofChange boundsClosedSpec)

/-- ITS FALSE NEIGHBOUR: 'it returns false'. Refute it at one input. -/
def boundsClosedWrong : ChangeSpec := { name := "boundsClosed", fn := fun _ => fun
  | [d1, d2] => { results := [.lit (.bool false)], args := [d1, d2] }
  | _ => none }
def BoundsClosedWrongFalsely : Prop := boundsClosedRow.holds Try.pinned (OpenSpec.ofChange boundsClosedWrong)

/-- 'limbecklaw04.TyRight': WHATEVER THE INPUT: true; the input reads as it did. -/
def tyRightSpec : ChangeSpec := { name := "tyRight", fn := fun _ => fun
  | [d1, d2] => { results := [.lit (.bool true)], args := [d1, d2] }
  | _ => none }
def tyRightRow : OpenClaim := { program := "ytnhdkbklgjfhnaa", sum := "2414d27667b489c496d68f2830c5d80dfb1e5b612eb4dba6e0b3518350b25ebf", func := "limbeck/limbecklaw04.TyRight", spec := "tyRight", inPlace := ["internal/bytealg.abigen_runtime_cmpstring"], unfollowed := true, recurses := true, loops := true, apart := false }
def TyRightSaid : Prop := tyRightRow.holds Try.pinned (OpenSpec.ofChange tyRightSpec)

/-- ITS FALSE NEIGHBOUR: 'it returns false'. Refute it at one input. -/
def tyRightWrong : ChangeSpec := { name := "tyRight", fn := fun _ => fun
  | [d1, d2] => { results := [.lit (.bool false)], args := [d1, d2] }
  | _ => none }
def TyRightWrongFalsely : Prop := tyRightRow.holds Try.pinned (OpenSpec.ofChange tyRightWrong)

/-- 'limbecklaw04.TySame': WHATEVER THE INPUT: true; the input reads as it did. -/
def tySameSpec : ChangeSpec := { name := "tySame", fn := fun _ => fun
  | [d1, d2] => { results := [.lit (.bool true)], args := [d1, d2] }
  | _ => none }
def tySameRow : OpenClaim := { program := "ytnhdkbklgjfhnaa", sum := "2414d27667b489c496d68f2830c5d80dfb1e5b612eb4dba6e0b3518350b25ebf", func := "limbeck/limbecklaw04.TySame", spec := "tySame", inPlace := ["internal/bytealg.abigen_runtime_cmpstring"], unfollowed := true, recurses := true, loops := true, apart := false }
def TySameSaid : Prop := tySameRow.holds Try.pinned (OpenSpec.ofChange tySameSpec)

/-- ITS FALSE NEIGHBOUR: 'it returns false'. Refute it at one input. -/
def tySameWrong : ChangeSpec := { name := "tySame", fn := fun _ => fun
  | [d1, d2] => { results := [.lit (.bool false)], args := [d1, d2] }
  | _ => none }
def TySameWrongFalsely : Prop := tySameRow.holds Try.pinned (OpenSpec.ofChange tySameWrong)

/-- 'limbecklaw04.TyMakes': WHATEVER THE INPUT: true; the input reads as it did. -/
def tyMakesSpec : ChangeSpec := { name := "tyMakes", fn := fun _ => fun
  | [d1, d2, d3, d4] => { results := [.lit (.bool true)], args := [d1, d2, d3, d4] }
  | _ => none }
def tyMakesRow : OpenClaim := { program := "ytnhdkbklgjfhnaa", sum := "2414d27667b489c496d68f2830c5d80dfb1e5b612eb4dba6e0b3518350b25ebf", func := "limbeck/limbecklaw04.TyMakes", spec := "tyMakes", inPlace := ["internal/bytealg.abigen_runtime_cmpstring"], unfollowed := true, recurses := true, loops := true, apart := false }
def TyMakesSaid : Prop := tyMakesRow.holds Try.pinned (OpenSpec.ofChange tyMakesSpec)

/-- ITS FALSE NEIGHBOUR: 'it returns false'. Refute it at one input. -/
def tyMakesWrong : ChangeSpec := { name := "tyMakes", fn := fun _ => fun
  | [d1, d2, d3, d4] => { results := [.lit (.bool false)], args := [d1, d2, d3, d4] }
  | _ => none }
def TyMakesWrongFalsely : Prop := tyMakesRow.holds Try.pinned (OpenSpec.ofChange tyMakesWrong)

/-- 'limbecklaw04.TyTurned': WHATEVER THE INPUT: true; the input reads as it did. -/
def tyTurnedSpec : ChangeSpec := { name := "tyTurned", fn := fun _ => fun
  | [d1, d2, d3] => { results := [.lit (.bool true)], args := [d1, d2, d3] }
  | _ => none }
def tyTurnedRow : OpenClaim := { program := "ytnhdkbklgjfhnaa", sum := "2414d27667b489c496d68f2830c5d80dfb1e5b612eb4dba6e0b3518350b25ebf", func := "limbeck/limbecklaw04.TyTurned", spec := "tyTurned", inPlace := ["internal/bytealg.abigen_runtime_cmpstring"], unfollowed := true, recurses := true, loops := true, apart := false }
def TyTurnedSaid : Prop := tyTurnedRow.holds Try.pinned (OpenSpec.ofChange tyTurnedSpec)

/-- ITS FALSE NEIGHBOUR: 'it returns false'. Refute it at one input. -/
def tyTurnedWrong : ChangeSpec := { name := "tyTurned", fn := fun _ => fun
  | [d1, d2, d3] => { results := [.lit (.bool false)], args := [d1, d2, d3] }
  | _ => none }
def TyTurnedWrongFalsely : Prop := tyTurnedRow.holds Try.pinned (OpenSpec.ofChange tyTurnedWrong)

/- THE SECOND FORM. 'bulk': how many values and letters a reading holds, each counted each time it is reached (what is shared counts as often as it is met; a slice's spare places count too). A statement '..UptoSaid' is the law's where the arguments, and the package variables that the reading takes, are together of bulk at most 1048576: NARROWER than '..Said'. Prove '..Said' where nothing that the law and all that it calls make is longer than what came in: it says more and counts as full. Else prove '..UptoSaid'. A law counts once. -/
mutual
def uptoBulk {H : Type} : DataW H → Nat
  | .lit (.string bytes) => bytes.length + 1
  | .lit _ => 1
  | .nil => 1
  | .ptr d => uptoBulk d + 1
  | .slice elems spare => uptoBulkAll elems + uptoBulkAll spare + 1
  | .agg parts => uptoBulkAll parts + 1
  | .iface _ d => uptoBulk d + 1
  | .map entries => uptoBulkEntries entries + 1
  | .held _ => 1
def uptoBulkAll {H : Type} : List (DataW H) → Nat
  | [] => 0
  | d :: r => uptoBulk d + uptoBulkAll r
def uptoBulkEntries {H : Type} : List (Lit × DataW H) → Nat
  | [] => 0
  | x :: r => uptoBulkEntry x + uptoBulkEntries r
def uptoBulkEntry {H : Type} : Lit × DataW H → Nat
  | (.string bytes, d) => bytes.length + uptoBulk d + 1
  | (_, d) => uptoBulk d + 1
 end
def uptoSmall : (H : Type) → List (DataW H) → Bool := fun _ ds => decide (uptoBulkAll ds ≤ 1048576)
def OpenSpec.upto (s : _root_.Go.ChangeSpec) : _root_.Go.OpenSpec := { _root_.Go.OpenSpec.ofChange s with cond := some uptoSmall }

/-- 'limbecklaw21.MatchServes', WHERE WHAT IT READS IS OF BULK AT MOST 1048576: true; the input reads as it did. -/
def matchServesUptoRow : OpenClaim := { program := "ytnhdkbklgjfhnaa", sum := "2414d27667b489c496d68f2830c5d80dfb1e5b612eb4dba6e0b3518350b25ebf", func := "limbeck/limbecklaw21.MatchServes", spec := "matchServes", inPlace := ["internal/bytealg.abigen_runtime_cmpstring"], unfollowed := true, recurses := true, loops := true, apart := false, narrowed := true }
def MatchServesUptoSaid : Prop := matchServesUptoRow.holds Try.pinned (OpenSpec.upto matchServesSpec)

/-- 'limbecklaw21.MatchLess', WHERE WHAT IT READS IS OF BULK AT MOST 1048576: true; the input reads as it did. -/
def matchLessUptoRow : OpenClaim := { program := "ytnhdkbklgjfhnaa", sum := "2414d27667b489c496d68f2830c5d80dfb1e5b612eb4dba6e0b3518350b25ebf", func := "limbeck/limbecklaw21.MatchLess", spec := "matchLess", inPlace := ["internal/bytealg.abigen_runtime_cmpstring"], unfollowed := true, recurses := true, loops := true, apart := false, narrowed := true }
def MatchLessUptoSaid : Prop := matchLessUptoRow.holds Try.pinned (OpenSpec.upto matchLessSpec)

/-- 'limbecklaw22.GenTells', WHERE WHAT IT READS IS OF BULK AT MOST 1048576: true; the input reads as it did. -/
def genTellsUptoRow : OpenClaim := { program := "ytnhdkbklgjfhnaa", sum := "2414d27667b489c496d68f2830c5d80dfb1e5b612eb4dba6e0b3518350b25ebf", func := "limbeck/limbecklaw22.GenTells", spec := "genTells", inPlace := ["internal/bytealg.abigen_runtime_cmpstring"], unfollowed := true, recurses := true, loops := true, apart := false, narrowed := true }
def GenTellsUptoSaid : Prop := genTellsUptoRow.holds Try.pinned (OpenSpec.upto genTellsSpec)

/-- 'limbecklaw22.GenNone', WHERE WHAT IT READS IS OF BULK AT MOST 1048576: true; the input reads as it did. -/
def genNoneUptoRow : OpenClaim := { program := "ytnhdkbklgjfhnaa", sum := "2414d27667b489c496d68f2830c5d80dfb1e5b612eb4dba6e0b3518350b25ebf", func := "limbeck/limbecklaw22.GenNone", spec := "genNone", inPlace := ["internal/bytealg.abigen_runtime_cmpstring"], unfollowed := true, recurses := true, loops := true, apart := false, narrowed := true }
def GenNoneUptoSaid : Prop := genNoneUptoRow.holds Try.pinned (OpenSpec.upto genNoneSpec)

/-- 'limbecklaw22.GenFits', WHERE WHAT IT READS IS OF BULK AT MOST 1048576: true; the input reads as it did. -/
def genFitsUptoRow : OpenClaim := { program := "ytnhdkbklgjfhnaa", sum := "2414d27667b489c496d68f2830c5d80dfb1e5b612eb4dba6e0b3518350b25ebf", func := "limbeck/limbecklaw22.GenFits", spec := "genFits", inPlace := ["internal/bytealg.abigen_runtime_cmpstring"], unfollowed := true, recurses := true, loops := true, apart := false, narrowed := true }
def GenFitsUptoSaid : Prop := genFitsUptoRow.holds Try.pinned (OpenSpec.upto genFitsSpec)

/-- 'limbecklaw09.BoundsTell', WHERE WHAT IT READS IS OF BULK AT MOST 1048576: true; the input reads as it did. -/
def boundsTellUptoRow : OpenClaim := { program := "ytnhdkbklgjfhnaa", sum := "2414d27667b489c496d68f2830c5d80dfb1e5b612eb4dba6e0b3518350b25ebf", func := "limbeck/limbecklaw09.BoundsTell", spec := "boundsTell", unfollowed := true, recurses := true, loops := true, apart := false, narrowed := true }
def BoundsTellUptoSaid : Prop := boundsTellUptoRow.holds Try.pinned (OpenSpec.upto boundsTellSpec)

/-- 'limbecklaw09.BoundsClosed', WHERE WHAT IT READS IS OF BULK AT MOST 1048576: true; the input reads as it did. -/
def boundsClosedUptoRow : OpenClaim := { program := "ytnhdkbklgjfhnaa", sum := "2414d27667b489c496d68f2830c5d80dfb1e5b612eb4dba6e0b3518350b25ebf", func := "limbeck/limbecklaw09.BoundsClosed", spec := "boundsClosed", unfollowed := true, recurses := true, loops := true, apart := false, narrowed := true }
def BoundsClosedUptoSaid : Prop := boundsClosedUptoRow.holds Try.pinned (OpenSpec.upto boundsClosedSpec)

/-- 'limbecklaw04.TyRight', WHERE WHAT IT READS IS OF BULK AT MOST 1048576: true; the input reads as it did. -/
def tyRightUptoRow : OpenClaim := { program := "ytnhdkbklgjfhnaa", sum := "2414d27667b489c496d68f2830c5d80dfb1e5b612eb4dba6e0b3518350b25ebf", func := "limbeck/limbecklaw04.TyRight", spec := "tyRight", inPlace := ["internal/bytealg.abigen_runtime_cmpstring"], unfollowed := true, recurses := true, loops := true, apart := false, narrowed := true }
def TyRightUptoSaid : Prop := tyRightUptoRow.holds Try.pinned (OpenSpec.upto tyRightSpec)

/-- 'limbecklaw04.TySame', WHERE WHAT IT READS IS OF BULK AT MOST 1048576: true; the input reads as it did. -/
def tySameUptoRow : OpenClaim := { program := "ytnhdkbklgjfhnaa", sum := "2414d27667b489c496d68f2830c5d80dfb1e5b612eb4dba6e0b3518350b25ebf", func := "limbeck/limbecklaw04.TySame", spec := "tySame", inPlace := ["internal/bytealg.abigen_runtime_cmpstring"], unfollowed := true, recurses := true, loops := true, apart := false, narrowed := true }
def TySameUptoSaid : Prop := tySameUptoRow.holds Try.pinned (OpenSpec.upto tySameSpec)

/-- 'limbecklaw04.TyMakes', WHERE WHAT IT READS IS OF BULK AT MOST 1048576: true; the input reads as it did. -/
def tyMakesUptoRow : OpenClaim := { program := "ytnhdkbklgjfhnaa", sum := "2414d27667b489c496d68f2830c5d80dfb1e5b612eb4dba6e0b3518350b25ebf", func := "limbeck/limbecklaw04.TyMakes", spec := "tyMakes", inPlace := ["internal/bytealg.abigen_runtime_cmpstring"], unfollowed := true, recurses := true, loops := true, apart := false, narrowed := true }
def TyMakesUptoSaid : Prop := tyMakesUptoRow.holds Try.pinned (OpenSpec.upto tyMakesSpec)

/-- 'limbecklaw04.TyTurned', WHERE WHAT IT READS IS OF BULK AT MOST 1048576: true; the input reads as it did. -/
def tyTurnedUptoRow : OpenClaim := { program := "ytnhdkbklgjfhnaa", sum := "2414d27667b489c496d68f2830c5d80dfb1e5b612eb4dba6e0b3518350b25ebf", func := "limbeck/limbecklaw04.TyTurned", spec := "tyTurned", inPlace := ["internal/bytealg.abigen_runtime_cmpstring"], unfollowed := true, recurses := true, loops := true, apart := false, narrowed := true }
def TyTurnedUptoSaid : Prop := tyTurnedUptoRow.holds Try.pinned (OpenSpec.upto tyTurnedSpec)

end Rows
end Go.Proofs.Ytnhdkbklgjfhnaa

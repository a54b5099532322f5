/-
  NARROWER THAN 'FOR EVERY INPUT', by the rows' own cells (each row's printed sentence says how): TyRight: loops · TySame: loops · TyMakes: loops · TyTurned: loops.
  DERIVED. THE GIVEN ROWS OF THIS SEAT. 4 by the template 'for every input the law returns true; each argument reads behind the call as it read before'; 0 by the template 'total and deterministic' (their statements: YtbmgmgeliokalaaTotals.lean).
  GIVEN WITH THE SEED: the statements are not yours to turn. If you find one false, say at which input.
  Laid BY PROGRAM, IN A SANDBOX (cutbox-rows.mjs): the forced cells as the released guide's own fill.sh prints them over the translation 11b3b96413ffc002… (all of the seat's roots in one cut). By AI agents, Wed Nov 11 2026. No macro, syntax, notation, axiom, sorry.
-/
import Derived.Test.YtbmgmgeliokalaaChecked
import GoSem.Claim
import GoSem.ClaimJoined
import GoSem.ClaimMapViews
import Derived.JoinedTies
import Derived.KernelRfl
namespace Go.Proofs.Ytbmgmgeliokalaa
/- THE CELL 'sum', in the pinned program and in every row, IS THE sha256 OF THE DUMP (.gsa) THAT YtbmgmgeliokalaaProg.lean LOADS. Nothing in Lean hashes anything: it is a label: what it is worth is what the hold of that sum in a sandbox is worth. -/
noncomputable def Try.pinned : Pinned := { name := "ytbmgmgeliokalaa", sum := "11b3b96413ffc0027e1701c257bed8eb905c38568396f3f7b04828e968aa4f88", checked := Try.checked }
namespace Rows
def none {H : Type} : Left H := { results := [], args := [] }

/-- 'limbecklaw04.TyRight': WHATEVER THE INPUT: true; the input reads as it did. -/
def tyRightSpec : ChangeSpec := { name := "tyRight", fn := fun _ => fun
  | [d1, d2] => { results := [.lit (.bool true)], args := [d1, d2] }
  | _ => none }
def tyRightRow : OpenClaim := { program := "ytbmgmgeliokalaa", sum := "11b3b96413ffc0027e1701c257bed8eb905c38568396f3f7b04828e968aa4f88", func := "limbeck/limbecklaw04.TyRight", spec := "tyRight", inPlace := ["internal/bytealg.abigen_runtime_cmpstring"], unfollowed := true, recurses := true, loops := true, apart := false }
def TyRightSaid : Prop := tyRightRow.holds Try.pinned (OpenSpec.ofChange tyRightSpec)

/-- ITS FALSE NEIGHBOUR: 'it returns false'. Refute it at one input. -/
def tyRightWrong : ChangeSpec := { name := "tyRight", fn := fun _ => fun
  | [d1, d2] => { results := [.lit (.bool false)], args := [d1, d2] }
  | _ => none }
def TyRightWrongFalsely : Prop := tyRightRow.holds Try.pinned (OpenSpec.ofChange tyRightWrong)

/-- 'limbecklaw04.TySame': WHATEVER THE INPUT: true; the input reads as it did. -/
def tySameSpec : ChangeSpec := { name := "tySame", fn := fun _ => fun
  | [d1, d2] => { results := [.lit (.bool true)], args := [d1, d2] }
  | _ => none }
def tySameRow : OpenClaim := { program := "ytbmgmgeliokalaa", sum := "11b3b96413ffc0027e1701c257bed8eb905c38568396f3f7b04828e968aa4f88", func := "limbeck/limbecklaw04.TySame", spec := "tySame", inPlace := ["internal/bytealg.abigen_runtime_cmpstring"], unfollowed := true, recurses := true, loops := true, apart := false }
def TySameSaid : Prop := tySameRow.holds Try.pinned (OpenSpec.ofChange tySameSpec)

/-- ITS FALSE NEIGHBOUR: 'it returns false'. Refute it at one input. -/
def tySameWrong : ChangeSpec := { name := "tySame", fn := fun _ => fun
  | [d1, d2] => { results := [.lit (.bool false)], args := [d1, d2] }
  | _ => none }
def TySameWrongFalsely : Prop := tySameRow.holds Try.pinned (OpenSpec.ofChange tySameWrong)

/-- 'limbecklaw04.TyMakes': WHATEVER THE INPUT: true; the input reads as it did. -/
def tyMakesSpec : ChangeSpec := { name := "tyMakes", fn := fun _ => fun
  | [d1, d2, d3, d4] => { results := [.lit (.bool true)], args := [d1, d2, d3, d4] }
  | _ => none }
def tyMakesRow : OpenClaim := { program := "ytbmgmgeliokalaa", sum := "11b3b96413ffc0027e1701c257bed8eb905c38568396f3f7b04828e968aa4f88", func := "limbeck/limbecklaw04.TyMakes", spec := "tyMakes", inPlace := ["internal/bytealg.abigen_runtime_cmpstring"], unfollowed := true, recurses := true, loops := true, apart := false }
def TyMakesSaid : Prop := tyMakesRow.holds Try.pinned (OpenSpec.ofChange tyMakesSpec)

/-- ITS FALSE NEIGHBOUR: 'it returns false'. Refute it at one input. -/
def tyMakesWrong : ChangeSpec := { name := "tyMakes", fn := fun _ => fun
  | [d1, d2, d3, d4] => { results := [.lit (.bool false)], args := [d1, d2, d3, d4] }
  | _ => none }
def TyMakesWrongFalsely : Prop := tyMakesRow.holds Try.pinned (OpenSpec.ofChange tyMakesWrong)

/-- 'limbecklaw04.TyTurned': WHATEVER THE INPUT: true; the input reads as it did. -/
def tyTurnedSpec : ChangeSpec := { name := "tyTurned", fn := fun _ => fun
  | [d1, d2, d3] => { results := [.lit (.bool true)], args := [d1, d2, d3] }
  | _ => none }
def tyTurnedRow : OpenClaim := { program := "ytbmgmgeliokalaa", sum := "11b3b96413ffc0027e1701c257bed8eb905c38568396f3f7b04828e968aa4f88", func := "limbeck/limbecklaw04.TyTurned", spec := "tyTurned", inPlace := ["internal/bytealg.abigen_runtime_cmpstring"], unfollowed := true, recurses := true, loops := true, apart := false }
def TyTurnedSaid : Prop := tyTurnedRow.holds Try.pinned (OpenSpec.ofChange tyTurnedSpec)

/-- ITS FALSE NEIGHBOUR: 'it returns false'. Refute it at one input. -/
def tyTurnedWrong : ChangeSpec := { name := "tyTurned", fn := fun _ => fun
  | [d1, d2, d3] => { results := [.lit (.bool false)], args := [d1, d2, d3] }
  | _ => none }
def TyTurnedWrongFalsely : Prop := tyTurnedRow.holds Try.pinned (OpenSpec.ofChange tyTurnedWrong)

/- THE SECOND FORM. 'bulk': how many values and letters a reading holds, each counted each time it is reached (what is shared counts as often as it is met; a slice's spare places count too). A statement '..UptoSaid' is the law's where the arguments, and the package variables that the reading takes, are together of bulk at most 1048576: NARROWER than '..Said'. Prove '..Said' where nothing that the law and all that it calls make is longer than what came in: it says more and counts as full. Else prove '..UptoSaid'. A law counts once. -/
mutual
def uptoBulk {H : Type} : DataW H → Nat
  | .lit (.string bytes) => bytes.length + 1
  | .lit _ => 1
  | .nil => 1
  | .ptr d => uptoBulk d + 1
  | .slice elems spare => uptoBulkAll elems + uptoBulkAll spare + 1
  | .agg parts => uptoBulkAll parts + 1
  | .iface _ d => uptoBulk d + 1
  | .map entries => uptoBulkEntries entries + 1
  | .held _ => 1
def uptoBulkAll {H : Type} : List (DataW H) → Nat
  | [] => 0
  | d :: r => uptoBulk d + uptoBulkAll r
def uptoBulkEntries {H : Type} : List (Lit × DataW H) → Nat
  | [] => 0
  | x :: r => uptoBulkEntry x + uptoBulkEntries r
def uptoBulkEntry {H : Type} : Lit × DataW H → Nat
  | (.string bytes, d) => bytes.length + uptoBulk d + 1
  | (_, d) => uptoBulk d + 1
 end
def uptoSmall : (H : Type) → List (DataW H) → Bool := fun _ ds => decide (uptoBulkAll ds ≤ 1048576)
def OpenSpec.upto (s : _root_.Go.ChangeSpec) : _root_.Go.OpenSpec := { _root_.Go.OpenSpec.ofChange s with cond := some uptoSmall }

/-- 'limbecklaw04.TyRight', WHERE WHAT IT READS IS OF BULK AT MOST 1048576: true; the input reads as it did. -/
def tyRightUptoRow : OpenClaim := { program := "ytbmgmgeliokalaa", sum := "11b3b96413ffc0027e1701c257bed8eb905c38568396f3f7b04828e968aa4f88", func := "limbeck/limbecklaw04.TyRight", spec := "tyRight", inPlace := ["internal/bytealg.abigen_runtime_cmpstring"], unfollowed := true, recurses := true, loops := true, apart := false, narrowed := true }
def TyRightUptoSaid : Prop := tyRightUptoRow.holds Try.pinned (OpenSpec.upto tyRightSpec)

/-- 'limbecklaw04.TySame', WHERE WHAT IT READS IS OF BULK AT MOST 1048576: true; the input reads as it did. -/
def tySameUptoRow : OpenClaim := { program := "ytbmgmgeliokalaa", sum := "11b3b96413ffc0027e1701c257bed8eb905c38568396f3f7b04828e968aa4f88", func := "limbeck/limbecklaw04.TySame", spec := "tySame", inPlace := ["internal/bytealg.abigen_runtime_cmpstring"], unfollowed := true, recurses := true, loops := true, apart := false, narrowed := true }
def TySameUptoSaid : Prop := tySameUptoRow.holds Try.pinned (OpenSpec.upto tySameSpec)

/-- 'limbecklaw04.TyMakes', WHERE WHAT IT READS IS OF BULK AT MOST 1048576: true; the input reads as it did. -/
def tyMakesUptoRow : OpenClaim := { program := "ytbmgmgeliokalaa", sum := "11b3b96413ffc0027e1701c257bed8eb905c38568396f3f7b04828e968aa4f88", func := "limbeck/limbecklaw04.TyMakes", spec := "tyMakes", inPlace := ["internal/bytealg.abigen_runtime_cmpstring"], unfollowed := true, recurses := true, loops := true, apart := false, narrowed := true }
def TyMakesUptoSaid : Prop := tyMakesUptoRow.holds Try.pinned (OpenSpec.upto tyMakesSpec)

/-- 'limbecklaw04.TyTurned', WHERE WHAT IT READS IS OF BULK AT MOST 1048576: true; the input reads as it did. -/
def tyTurnedUptoRow : OpenClaim := { program := "ytbmgmgeliokalaa", sum := "11b3b96413ffc0027e1701c257bed8eb905c38568396f3f7b04828e968aa4f88", func := "limbeck/limbecklaw04.TyTurned", spec := "tyTurned", inPlace := ["internal/bytealg.abigen_runtime_cmpstring"], unfollowed := true, recurses := true, loops := true, apart := false, narrowed := true }
def TyTurnedUptoSaid : Prop := tyTurnedUptoRow.holds Try.pinned (OpenSpec.upto tyTurnedSpec)

end Rows
end Go.Proofs.Ytbmgmgeliokalaa

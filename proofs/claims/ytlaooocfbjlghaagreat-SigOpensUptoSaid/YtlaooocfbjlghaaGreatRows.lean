/-
  NARROWER THAN 'FOR EVERY INPUT', by the rows' own cells (each row's printed sentence says how): SigTells: loops · SigOpens: loops.
  DERIVED. THE GIVEN ROWS OF THIS SEAT. 2 by the template 'for every input the law returns true; each argument reads behind the call as it read before'; 0 by the template 'total and deterministic' (their statements: YtlaooocfbjlghaaGreatTotals.lean).
  GIVEN WITH THE SEED: the statements are not yours to turn. If you find one false, say at which input.
  Laid BY PROGRAM, IN A SANDBOX (cutbox-rows.mjs): the forced cells as the released guide's own fill.sh prints them over the translation c3bd6ada552093b3… (all of the seat's roots in one cut). By AI agents, Wed Nov 11 2026. No macro, syntax, notation, axiom, sorry.
-/
import Derived.Test.YtlaooocfbjlghaaGreatChecked
import GoSem.Claim
import GoSem.ClaimJoined
import GoSem.ClaimMapViews
import Derived.JoinedTies
import Derived.KernelRfl
namespace Go.Proofs.YtlaooocfbjlghaaGreat
/- THE CELL 'sum', in the pinned program and in every row, IS THE sha256 OF THE DUMP (.gsa) THAT YtlaooocfbjlghaaGreatProg.lean LOADS. Nothing in Lean hashes anything: it is a label: what it is worth is what the hold of that sum in a sandbox is worth. -/
noncomputable def Tryz.pinned : Pinned := { name := "ytlaooocfbjlghaagreat", sum := "c3bd6ada552093b3cd8a88ce003d0bf613dab28eaf1571d26d277d511d154247", checked := Tryz.checked }
namespace Rows
def none {H : Type} : Left H := { results := [], args := [] }

/-- 'limbecklaw19.SigTells': WHATEVER THE INPUT: true; the input reads as it did. -/
def sigTellsSpec : ChangeSpec := { name := "sigTells", fn := fun _ => fun
  | [d1, d2, d3] => { results := [.lit (.bool true)], args := [d1, d2, d3] }
  | _ => none }
def sigTellsRow : OpenClaim := { program := "ytlaooocfbjlghaagreat", sum := "c3bd6ada552093b3cd8a88ce003d0bf613dab28eaf1571d26d277d511d154247", func := "limbeck/limbecklaw19.SigTells", spec := "sigTells", unfollowed := true, recurses := true, loops := true, apart := false }
def SigTellsSaid : Prop := sigTellsRow.holds Tryz.pinned (OpenSpec.ofChange sigTellsSpec)

/-- ITS FALSE NEIGHBOUR: 'it returns false'. Refute it at one input. -/
def sigTellsWrong : ChangeSpec := { name := "sigTells", fn := fun _ => fun
  | [d1, d2, d3] => { results := [.lit (.bool false)], args := [d1, d2, d3] }
  | _ => none }
def SigTellsWrongFalsely : Prop := sigTellsRow.holds Tryz.pinned (OpenSpec.ofChange sigTellsWrong)

/-- 'limbecklaw19.SigOpens': WHATEVER THE INPUT: true; the input reads as it did. -/
def sigOpensSpec : ChangeSpec := { name := "sigOpens", fn := fun _ => fun
  | [d1, d2] => { results := [.lit (.bool true)], args := [d1, d2] }
  | _ => none }
def sigOpensRow : OpenClaim := { program := "ytlaooocfbjlghaagreat", sum := "c3bd6ada552093b3cd8a88ce003d0bf613dab28eaf1571d26d277d511d154247", func := "limbeck/limbecklaw19.SigOpens", spec := "sigOpens", unfollowed := true, recurses := true, loops := true, apart := false }
def SigOpensSaid : Prop := sigOpensRow.holds Tryz.pinned (OpenSpec.ofChange sigOpensSpec)

/-- ITS FALSE NEIGHBOUR: 'it returns false'. Refute it at one input. -/
def sigOpensWrong : ChangeSpec := { name := "sigOpens", fn := fun _ => fun
  | [d1, d2] => { results := [.lit (.bool false)], args := [d1, d2] }
  | _ => none }
def SigOpensWrongFalsely : Prop := sigOpensRow.holds Tryz.pinned (OpenSpec.ofChange sigOpensWrong)

/- THE SECOND FORM. 'bulk': how many values and letters a reading holds, each counted each time it is reached (what is shared counts as often as it is met; a slice's spare places count too). A statement '..UptoSaid' is the law's where the arguments, and the package variables that the reading takes, are together of bulk at most 1048576: NARROWER than '..Said'. Prove '..Said' where nothing that the law and all that it calls make is longer than what came in: it says more and counts as full. Else prove '..UptoSaid'. A law counts once. -/
mutual
def uptoBulk {H : Type} : DataW H → Nat
  | .lit (.string bytes) => bytes.length + 1
  | .lit _ => 1
  | .nil => 1
  | .ptr d => uptoBulk d + 1
  | .slice elems spare => uptoBulkAll elems + uptoBulkAll spare + 1
  | .agg parts => uptoBulkAll parts + 1
  | .iface _ d => uptoBulk d + 1
  | .map entries => uptoBulkEntries entries + 1
  | .held _ => 1
def uptoBulkAll {H : Type} : List (DataW H) → Nat
  | [] => 0
  | d :: r => uptoBulk d + uptoBulkAll r
def uptoBulkEntries {H : Type} : List (Lit × DataW H) → Nat
  | [] => 0
  | x :: r => uptoBulkEntry x + uptoBulkEntries r
def uptoBulkEntry {H : Type} : Lit × DataW H → Nat
  | (.string bytes, d) => bytes.length + uptoBulk d + 1
  | (_, d) => uptoBulk d + 1
 end
def uptoSmall : (H : Type) → List (DataW H) → Bool := fun _ ds => decide (uptoBulkAll ds ≤ 1048576)
def OpenSpec.upto (s : _root_.Go.ChangeSpec) : _root_.Go.OpenSpec := { _root_.Go.OpenSpec.ofChange s with cond := some uptoSmall }

/-- 'limbecklaw19.SigTells', WHERE WHAT IT READS IS OF BULK AT MOST 1048576: true; the input reads as it did. -/
def sigTellsUptoRow : OpenClaim := { program := "ytlaooocfbjlghaagreat", sum := "c3bd6ada552093b3cd8a88ce003d0bf613dab28eaf1571d26d277d511d154247", func := "limbeck/limbecklaw19.SigTells", spec := "sigTells", unfollowed := true, recurses := true, loops := true, apart := false, narrowed := true }
def SigTellsUptoSaid : Prop := sigTellsUptoRow.holds Tryz.pinned (OpenSpec.upto sigTellsSpec)

/-- 'limbecklaw19.SigOpens', WHERE WHAT IT READS IS OF BULK AT MOST 1048576: true; the input reads as it did. -/
def sigOpensUptoRow : OpenClaim := { program := "ytlaooocfbjlghaagreat", sum := "c3bd6ada552093b3cd8a88ce003d0bf613dab28eaf1571d26d277d511d154247", func := "limbeck/limbecklaw19.SigOpens", spec := "sigOpens", unfollowed := true, recurses := true, loops := true, apart := false, narrowed := true }
def SigOpensUptoSaid : Prop := sigOpensUptoRow.holds Tryz.pinned (OpenSpec.upto sigOpensSpec)

end Rows
end Go.Proofs.YtlaooocfbjlghaaGreat

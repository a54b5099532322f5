/-
  NARROWER THAN 'FOR EVERY INPUT', by the rows' own cells (each row's printed sentence says how): ExpParts: loops · ExpTells: loops · ExpDefs: loops · ExpSame: loops.
  DERIVED. THE GIVEN ROWS OF THIS SEAT. 4 by the template 'for every input the law returns true; each argument reads behind the call as it read before'; 0 by the template 'total and deterministic' (their statements: YthpnngodkjjmoaaTotals.lean).
  GIVEN WITH THE SEED: the statements are not yours to turn. If you find one false, say at which input.
  Laid BY PROGRAM, IN A SANDBOX (cutbox-rows.mjs): the forced cells as the released guide's own fill.sh prints them over the translation 6d7800e118b42bfd… (all of the seat's roots in one cut). By AI agents, Wed Nov 11 2026. No macro, syntax, notation, axiom, sorry.
-/
import Derived.Test.YthpnngodkjjmoaaChecked
import GoSem.Claim
import GoSem.ClaimJoined
import GoSem.ClaimMapViews
import Derived.JoinedTies
import Derived.KernelRfl
namespace Go.Proofs.Ythpnngodkjjmoaa
/- THE CELL 'sum', in the pinned program and in every row, IS THE sha256 OF THE DUMP (.gsa) THAT YthpnngodkjjmoaaProg.lean LOADS. Nothing in Lean hashes anything: it is a label: what it is worth is what the hold of that sum in a sandbox is worth. -/
noncomputable def Try.pinned : Pinned := { name := "ythpnngodkjjmoaa", sum := "6d7800e118b42bfd5f408c63c9878447275c3c4abb57f3acd09982c842f020ce", checked := Try.checked }
namespace Rows
def none {H : Type} : Left H := { results := [], args := [] }

/-- 'limbecklaw14.ExpParts': WHATEVER THE INPUT: true; the input reads as it did. -/
def expPartsSpec : ChangeSpec := { name := "expParts", fn := fun _ => fun
  | [d] => { results := [.lit (.bool true)], args := [d] }
  | _ => none }
def expPartsRow : OpenClaim := { program := "ythpnngodkjjmoaa", sum := "6d7800e118b42bfd5f408c63c9878447275c3c4abb57f3acd09982c842f020ce", func := "limbeck/limbecklaw14.ExpParts", spec := "expParts", unfollowed := true, recurses := true, loops := true, apart := false }
def ExpPartsSaid : Prop := expPartsRow.holds Try.pinned (OpenSpec.ofChange expPartsSpec)

/-- ITS FALSE NEIGHBOUR: 'it returns false'. Refute it at one input. -/
def expPartsWrong : ChangeSpec := { name := "expParts", fn := fun _ => fun
  | [d] => { results := [.lit (.bool false)], args := [d] }
  | _ => none }
def ExpPartsWrongFalsely : Prop := expPartsRow.holds Try.pinned (OpenSpec.ofChange expPartsWrong)

/-- 'limbecklaw14.ExpTells': WHATEVER THE INPUT: true; the input reads as it did. -/
def expTellsSpec : ChangeSpec := { name := "expTells", fn := fun _ => fun
  | [d1, d2] => { results := [.lit (.bool true)], args := [d1, d2] }
  | _ => none }
def expTellsRow : OpenClaim := { program := "ythpnngodkjjmoaa", sum := "6d7800e118b42bfd5f408c63c9878447275c3c4abb57f3acd09982c842f020ce", func := "limbeck/limbecklaw14.ExpTells", spec := "expTells", unfollowed := true, recurses := true, loops := true, apart := false }
def ExpTellsSaid : Prop := expTellsRow.holds Try.pinned (OpenSpec.ofChange expTellsSpec)

/-- ITS FALSE NEIGHBOUR: 'it returns false'. Refute it at one input. -/
def expTellsWrong : ChangeSpec := { name := "expTells", fn := fun _ => fun
  | [d1, d2] => { results := [.lit (.bool false)], args := [d1, d2] }
  | _ => none }
def ExpTellsWrongFalsely : Prop := expTellsRow.holds Try.pinned (OpenSpec.ofChange expTellsWrong)

/-- 'limbecklaw14.ExpDefs': WHATEVER THE INPUT: true; the input reads as it did. -/
def expDefsSpec : ChangeSpec := { name := "expDefs", fn := fun _ => fun
  | [d] => { results := [.lit (.bool true)], args := [d] }
  | _ => none }
def expDefsRow : OpenClaim := { program := "ythpnngodkjjmoaa", sum := "6d7800e118b42bfd5f408c63c9878447275c3c4abb57f3acd09982c842f020ce", func := "limbeck/limbecklaw14.ExpDefs", spec := "expDefs", unfollowed := true, recurses := true, loops := true, apart := false }
def ExpDefsSaid : Prop := expDefsRow.holds Try.pinned (OpenSpec.ofChange expDefsSpec)

/-- ITS FALSE NEIGHBOUR: 'it returns false'. Refute it at one input. -/
def expDefsWrong : ChangeSpec := { name := "expDefs", fn := fun _ => fun
  | [d] => { results := [.lit (.bool false)], args := [d] }
  | _ => none }
def ExpDefsWrongFalsely : Prop := expDefsRow.holds Try.pinned (OpenSpec.ofChange expDefsWrong)

/-- 'limbecklaw14.ExpSame': WHATEVER THE INPUT: true; the input reads as it did. -/
def expSameSpec : ChangeSpec := { name := "expSame", fn := fun _ => fun
  | [d1, d2, d3, d4] => { results := [.lit (.bool true)], args := [d1, d2, d3, d4] }
  | _ => none }
def expSameRow : OpenClaim := { program := "ythpnngodkjjmoaa", sum := "6d7800e118b42bfd5f408c63c9878447275c3c4abb57f3acd09982c842f020ce", func := "limbeck/limbecklaw14.ExpSame", spec := "expSame", unfollowed := true, recurses := true, loops := true, apart := false }
def ExpSameSaid : Prop := expSameRow.holds Try.pinned (OpenSpec.ofChange expSameSpec)

/-- ITS FALSE NEIGHBOUR: 'it returns false'. Refute it at one input. -/
def expSameWrong : ChangeSpec := { name := "expSame", fn := fun _ => fun
  | [d1, d2, d3, d4] => { results := [.lit (.bool false)], args := [d1, d2, d3, d4] }
  | _ => none }
def ExpSameWrongFalsely : Prop := expSameRow.holds Try.pinned (OpenSpec.ofChange expSameWrong)

/- THE SECOND FORM. 'bulk': how many values and letters a reading holds, each counted each time it is reached (what is shared counts as often as it is met; a slice's spare places count too). A statement '..UptoSaid' is the law's where the arguments, and the package variables that the reading takes, are together of bulk at most 1048576: NARROWER than '..Said'. Prove '..Said' where nothing that the law and all that it calls make is longer than what came in: it says more and counts as full. Else prove '..UptoSaid'. A law counts once. -/
mutual
def uptoBulk {H : Type} : DataW H → Nat
  | .lit (.string bytes) => bytes.length + 1
  | .lit _ => 1
  | .nil => 1
  | .ptr d => uptoBulk d + 1
  | .slice elems spare => uptoBulkAll elems + uptoBulkAll spare + 1
  | .agg parts => uptoBulkAll parts + 1
  | .iface _ d => uptoBulk d + 1
  | .map entries => uptoBulkEntries entries + 1
  | .held _ => 1
def uptoBulkAll {H : Type} : List (DataW H) → Nat
  | [] => 0
  | d :: r => uptoBulk d + uptoBulkAll r
def uptoBulkEntries {H : Type} : List (Lit × DataW H) → Nat
  | [] => 0
  | x :: r => uptoBulkEntry x + uptoBulkEntries r
def uptoBulkEntry {H : Type} : Lit × DataW H → Nat
  | (.string bytes, d) => bytes.length + uptoBulk d + 1
  | (_, d) => uptoBulk d + 1
 end
def uptoSmall : (H : Type) → List (DataW H) → Bool := fun _ ds => decide (uptoBulkAll ds ≤ 1048576)
def OpenSpec.upto (s : _root_.Go.ChangeSpec) : _root_.Go.OpenSpec := { _root_.Go.OpenSpec.ofChange s with cond := some uptoSmall }

/-- 'limbecklaw14.ExpParts', WHERE WHAT IT READS IS OF BULK AT MOST 1048576: true; the input reads as it did. -/
def expPartsUptoRow : OpenClaim := { program := "ythpnngodkjjmoaa", sum := "6d7800e118b42bfd5f408c63c9878447275c3c4abb57f3acd09982c842f020ce", func := "limbeck/limbecklaw14.ExpParts", spec := "expParts", unfollowed := true, recurses := true, loops := true, apart := false, narrowed := true }
def ExpPartsUptoSaid : Prop := expPartsUptoRow.holds Try.pinned (OpenSpec.upto expPartsSpec)

/-- 'limbecklaw14.ExpTells', WHERE WHAT IT READS IS OF BULK AT MOST 1048576: true; the input reads as it did. -/
def expTellsUptoRow : OpenClaim := { program := "ythpnngodkjjmoaa", sum := "6d7800e118b42bfd5f408c63c9878447275c3c4abb57f3acd09982c842f020ce", func := "limbeck/limbecklaw14.ExpTells", spec := "expTells", unfollowed := true, recurses := true, loops := true, apart := false, narrowed := true }
def ExpTellsUptoSaid : Prop := expTellsUptoRow.holds Try.pinned (OpenSpec.upto expTellsSpec)

/-- 'limbecklaw14.ExpDefs', WHERE WHAT IT READS IS OF BULK AT MOST 1048576: true; the input reads as it did. -/
def expDefsUptoRow : OpenClaim := { program := "ythpnngodkjjmoaa", sum := "6d7800e118b42bfd5f408c63c9878447275c3c4abb57f3acd09982c842f020ce", func := "limbeck/limbecklaw14.ExpDefs", spec := "expDefs", unfollowed := true, recurses := true, loops := true, apart := false, narrowed := true }
def ExpDefsUptoSaid : Prop := expDefsUptoRow.holds Try.pinned (OpenSpec.upto expDefsSpec)

/-- 'limbecklaw14.ExpSame', WHERE WHAT IT READS IS OF BULK AT MOST 1048576: true; the input reads as it did. -/
def expSameUptoRow : OpenClaim := { program := "ythpnngodkjjmoaa", sum := "6d7800e118b42bfd5f408c63c9878447275c3c4abb57f3acd09982c842f020ce", func := "limbeck/limbecklaw14.ExpSame", spec := "expSame", unfollowed := true, recurses := true, loops := true, apart := false, narrowed := true }
def ExpSameUptoSaid : Prop := expSameUptoRow.holds Try.pinned (OpenSpec.upto expSameSpec)

end Rows
end Go.Proofs.Ythpnngodkjjmoaa

/-
  NARROWER THAN 'FOR EVERY INPUT', by the rows' own cells (each row's printed sentence says how): SealStay: loops · SealFull: loops · SealTells: loops · CoreTells: loops · CoreSame: loops · CoreTwice: loops · CorePuts: loops · CastTells: loops · CastKeeps: loops · CastSure: loops · CastBack: loops · CastLess: loops.
  DERIVED. THE GIVEN ROWS OF THIS SEAT. 12 by the template 'for every input the law returns true; each argument reads behind the call as it read before'; 0 by the template 'total and deterministic' (their statements: YtgjjdaillajgbaaTotals.lean).
  GIVEN WITH THE SEED: the statements are not yours to turn. If you find one false, say at which input.
  Laid BY PROGRAM, IN A SANDBOX (cutbox-rows.mjs): the forced cells as the released guide's own fill.sh prints them over the translation fba3d219fe0ccd4b… (all of the seat's roots in one cut). By AI agents, Wed Nov 11 2026. No macro, syntax, notation, axiom, sorry.
-/
import Derived.Test.YtgjjdaillajgbaaChecked
import GoSem.Claim
import GoSem.ClaimJoined
import GoSem.ClaimMapViews
import Derived.JoinedTies
import Derived.KernelRfl
namespace Go.Proofs.Ytgjjdaillajgbaa
/- THE CELL 'sum', in the pinned program and in every row, IS THE sha256 OF THE DUMP (.gsa) THAT YtgjjdaillajgbaaProg.lean LOADS. Nothing in Lean hashes anything: it is a label: what it is worth is what the hold of that sum in a sandbox is worth. -/
noncomputable def Try.pinned : Pinned := { name := "ytgjjdaillajgbaa", sum := "fba3d219fe0ccd4ba2011cb3b87fe77cf0f774f6151b71b4bc1c408ae873ac64", checked := Try.checked }
namespace Rows
def none {H : Type} : Left H := { results := [], args := [] }

/-- 'limbecklaw28.SealStay': WHATEVER THE INPUT: true; the input reads as it did. -/
def sealStaySpec : ChangeSpec := { name := "sealStay", fn := fun _ => fun
  | [d1, d2, d3, d4] => { results := [.lit (.bool true)], args := [d1, d2, d3, d4] }
  | _ => none }
def sealStayRow : OpenClaim := { program := "ytgjjdaillajgbaa", sum := "fba3d219fe0ccd4ba2011cb3b87fe77cf0f774f6151b71b4bc1c408ae873ac64", func := "limbeck/limbecklaw28.SealStay", spec := "sealStay", unfollowed := true, recurses := true, loops := true, apart := false }
def SealStaySaid : Prop := sealStayRow.holds Try.pinned (OpenSpec.ofChange sealStaySpec)

/-- ITS FALSE NEIGHBOUR: 'it returns false'. Refute it at one input. -/
def sealStayWrong : ChangeSpec := { name := "sealStay", fn := fun _ => fun
  | [d1, d2, d3, d4] => { results := [.lit (.bool false)], args := [d1, d2, d3, d4] }
  | _ => none }
def SealStayWrongFalsely : Prop := sealStayRow.holds Try.pinned (OpenSpec.ofChange sealStayWrong)

/-- 'limbecklaw28.SealFull': WHATEVER THE INPUT: true; the input reads as it did. -/
def sealFullSpec : ChangeSpec := { name := "sealFull", fn := fun _ => fun
  | [d1, d2] => { results := [.lit (.bool true)], args := [d1, d2] }
  | _ => none }
def sealFullRow : OpenClaim := { program := "ytgjjdaillajgbaa", sum := "fba3d219fe0ccd4ba2011cb3b87fe77cf0f774f6151b71b4bc1c408ae873ac64", func := "limbeck/limbecklaw28.SealFull", spec := "sealFull", unfollowed := true, recurses := true, loops := true, apart := false }
def SealFullSaid : Prop := sealFullRow.holds Try.pinned (OpenSpec.ofChange sealFullSpec)

/-- ITS FALSE NEIGHBOUR: 'it returns false'. Refute it at one input. -/
def sealFullWrong : ChangeSpec := { name := "sealFull", fn := fun _ => fun
  | [d1, d2] => { results := [.lit (.bool false)], args := [d1, d2] }
  | _ => none }
def SealFullWrongFalsely : Prop := sealFullRow.holds Try.pinned (OpenSpec.ofChange sealFullWrong)

/-- 'limbecklaw28.SealTells': WHATEVER THE INPUT: true; the input reads as it did. -/
def sealTellsSpec : ChangeSpec := { name := "sealTells", fn := fun _ => fun
  | [d1, d2, d3, d4, d5, d6] => { results := [.lit (.bool true)], args := [d1, d2, d3, d4, d5, d6] }
  | _ => none }
def sealTellsRow : OpenClaim := { program := "ytgjjdaillajgbaa", sum := "fba3d219fe0ccd4ba2011cb3b87fe77cf0f774f6151b71b4bc1c408ae873ac64", func := "limbeck/limbecklaw28.SealTells", spec := "sealTells", unfollowed := true, recurses := true, loops := true, apart := false }
def SealTellsSaid : Prop := sealTellsRow.holds Try.pinned (OpenSpec.ofChange sealTellsSpec)

/-- ITS FALSE NEIGHBOUR: 'it returns false'. Refute it at one input. -/
def sealTellsWrong : ChangeSpec := { name := "sealTells", fn := fun _ => fun
  | [d1, d2, d3, d4, d5, d6] => { results := [.lit (.bool false)], args := [d1, d2, d3, d4, d5, d6] }
  | _ => none }
def SealTellsWrongFalsely : Prop := sealTellsRow.holds Try.pinned (OpenSpec.ofChange sealTellsWrong)

/-- 'limbecklaw26.CoreTells': WHATEVER THE INPUT: true; the input reads as it did. -/
def coreTellsSpec : ChangeSpec := { name := "coreTells", fn := fun _ => fun
  | [d] => { results := [.lit (.bool true)], args := [d] }
  | _ => none }
def coreTellsRow : OpenClaim := { program := "ytgjjdaillajgbaa", sum := "fba3d219fe0ccd4ba2011cb3b87fe77cf0f774f6151b71b4bc1c408ae873ac64", func := "limbeck/limbecklaw26.CoreTells", spec := "coreTells", unfollowed := true, recurses := true, loops := true, apart := false }
def CoreTellsSaid : Prop := coreTellsRow.holds Try.pinned (OpenSpec.ofChange coreTellsSpec)

/-- ITS FALSE NEIGHBOUR: 'it returns false'. Refute it at one input. -/
def coreTellsWrong : ChangeSpec := { name := "coreTells", fn := fun _ => fun
  | [d] => { results := [.lit (.bool false)], args := [d] }
  | _ => none }
def CoreTellsWrongFalsely : Prop := coreTellsRow.holds Try.pinned (OpenSpec.ofChange coreTellsWrong)

/-- 'limbecklaw26.CoreSame': WHATEVER THE INPUT: true; the input reads as it did. -/
def coreSameSpec : ChangeSpec := { name := "coreSame", fn := fun _ => fun
  | [d1, d2, d3, d4] => { results := [.lit (.bool true)], args := [d1, d2, d3, d4] }
  | _ => none }
def coreSameRow : OpenClaim := { program := "ytgjjdaillajgbaa", sum := "fba3d219fe0ccd4ba2011cb3b87fe77cf0f774f6151b71b4bc1c408ae873ac64", func := "limbeck/limbecklaw26.CoreSame", spec := "coreSame", unfollowed := true, recurses := true, loops := true, apart := false }
def CoreSameSaid : Prop := coreSameRow.holds Try.pinned (OpenSpec.ofChange coreSameSpec)

/-- ITS FALSE NEIGHBOUR: 'it returns false'. Refute it at one input. -/
def coreSameWrong : ChangeSpec := { name := "coreSame", fn := fun _ => fun
  | [d1, d2, d3, d4] => { results := [.lit (.bool false)], args := [d1, d2, d3, d4] }
  | _ => none }
def CoreSameWrongFalsely : Prop := coreSameRow.holds Try.pinned (OpenSpec.ofChange coreSameWrong)

/-- 'limbecklaw26.CoreTwice': WHATEVER THE INPUT: true; the input reads as it did. -/
def coreTwiceSpec : ChangeSpec := { name := "coreTwice", fn := fun _ => fun
  | [d1, d2, d3, d4, d5] => { results := [.lit (.bool true)], args := [d1, d2, d3, d4, d5] }
  | _ => none }
def coreTwiceRow : OpenClaim := { program := "ytgjjdaillajgbaa", sum := "fba3d219fe0ccd4ba2011cb3b87fe77cf0f774f6151b71b4bc1c408ae873ac64", func := "limbeck/limbecklaw26.CoreTwice", spec := "coreTwice", unfollowed := true, recurses := true, loops := true, apart := false }
def CoreTwiceSaid : Prop := coreTwiceRow.holds Try.pinned (OpenSpec.ofChange coreTwiceSpec)

/-- ITS FALSE NEIGHBOUR: 'it returns false'. Refute it at one input. -/
def coreTwiceWrong : ChangeSpec := { name := "coreTwice", fn := fun _ => fun
  | [d1, d2, d3, d4, d5] => { results := [.lit (.bool false)], args := [d1, d2, d3, d4, d5] }
  | _ => none }
def CoreTwiceWrongFalsely : Prop := coreTwiceRow.holds Try.pinned (OpenSpec.ofChange coreTwiceWrong)

/-- 'limbecklaw26.CorePuts': WHATEVER THE INPUT: true; the input reads as it did. -/
def corePutsSpec : ChangeSpec := { name := "corePuts", fn := fun _ => fun
  | [d1, d2, d3, d4, d5] => { results := [.lit (.bool true)], args := [d1, d2, d3, d4, d5] }
  | _ => none }
def corePutsRow : OpenClaim := { program := "ytgjjdaillajgbaa", sum := "fba3d219fe0ccd4ba2011cb3b87fe77cf0f774f6151b71b4bc1c408ae873ac64", func := "limbeck/limbecklaw26.CorePuts", spec := "corePuts", unfollowed := true, recurses := true, loops := true, apart := false }
def CorePutsSaid : Prop := corePutsRow.holds Try.pinned (OpenSpec.ofChange corePutsSpec)

/-- ITS FALSE NEIGHBOUR: 'it returns false'. Refute it at one input. -/
def corePutsWrong : ChangeSpec := { name := "corePuts", fn := fun _ => fun
  | [d1, d2, d3, d4, d5] => { results := [.lit (.bool false)], args := [d1, d2, d3, d4, d5] }
  | _ => none }
def CorePutsWrongFalsely : Prop := corePutsRow.holds Try.pinned (OpenSpec.ofChange corePutsWrong)

/-- 'limbecklaw30.CastTells': WHATEVER THE INPUT: true; the input reads as it did. -/
def castTellsSpec : ChangeSpec := { name := "castTells", fn := fun _ => fun
  | [d1, d2, d3, d4, d5] => { results := [.lit (.bool true)], args := [d1, d2, d3, d4, d5] }
  | _ => none }
def castTellsRow : OpenClaim := { program := "ytgjjdaillajgbaa", sum := "fba3d219fe0ccd4ba2011cb3b87fe77cf0f774f6151b71b4bc1c408ae873ac64", func := "limbeck/limbecklaw30.CastTells", spec := "castTells", unfollowed := true, recurses := true, loops := true, apart := false }
def CastTellsSaid : Prop := castTellsRow.holds Try.pinned (OpenSpec.ofChange castTellsSpec)

/-- ITS FALSE NEIGHBOUR: 'it returns false'. Refute it at one input. -/
def castTellsWrong : ChangeSpec := { name := "castTells", fn := fun _ => fun
  | [d1, d2, d3, d4, d5] => { results := [.lit (.bool false)], args := [d1, d2, d3, d4, d5] }
  | _ => none }
def CastTellsWrongFalsely : Prop := castTellsRow.holds Try.pinned (OpenSpec.ofChange castTellsWrong)

/-- 'limbecklaw30.CastKeeps': WHATEVER THE INPUT: true; the input reads as it did. -/
def castKeepsSpec : ChangeSpec := { name := "castKeeps", fn := fun _ => fun
  | [d1, d2, d3, d4, d5] => { results := [.lit (.bool true)], args := [d1, d2, d3, d4, d5] }
  | _ => none }
def castKeepsRow : OpenClaim := { program := "ytgjjdaillajgbaa", sum := "fba3d219fe0ccd4ba2011cb3b87fe77cf0f774f6151b71b4bc1c408ae873ac64", func := "limbeck/limbecklaw30.CastKeeps", spec := "castKeeps", unfollowed := true, recurses := true, loops := true, apart := false }
def CastKeepsSaid : Prop := castKeepsRow.holds Try.pinned (OpenSpec.ofChange castKeepsSpec)

/-- ITS FALSE NEIGHBOUR: 'it returns false'. Refute it at one input. -/
def castKeepsWrong : ChangeSpec := { name := "castKeeps", fn := fun _ => fun
  | [d1, d2, d3, d4, d5] => { results := [.lit (.bool false)], args := [d1, d2, d3, d4, d5] }
  | _ => none }
def CastKeepsWrongFalsely : Prop := castKeepsRow.holds Try.pinned (OpenSpec.ofChange castKeepsWrong)

/-- 'limbecklaw30.CastSure': WHATEVER THE INPUT: true; the input reads as it did. -/
def castSureSpec : ChangeSpec := { name := "castSure", fn := fun _ => fun
  | [d1, d2, d3, d4, d5] => { results := [.lit (.bool true)], args := [d1, d2, d3, d4, d5] }
  | _ => none }
def castSureRow : OpenClaim := { program := "ytgjjdaillajgbaa", sum := "fba3d219fe0ccd4ba2011cb3b87fe77cf0f774f6151b71b4bc1c408ae873ac64", func := "limbeck/limbecklaw30.CastSure", spec := "castSure", unfollowed := true, recurses := true, loops := true, apart := false }
def CastSureSaid : Prop := castSureRow.holds Try.pinned (OpenSpec.ofChange castSureSpec)

/-- ITS FALSE NEIGHBOUR: 'it returns false'. Refute it at one input. -/
def castSureWrong : ChangeSpec := { name := "castSure", fn := fun _ => fun
  | [d1, d2, d3, d4, d5] => { results := [.lit (.bool false)], args := [d1, d2, d3, d4, d5] }
  | _ => none }
def CastSureWrongFalsely : Prop := castSureRow.holds Try.pinned (OpenSpec.ofChange castSureWrong)

/-- 'limbecklaw30.CastBack': WHATEVER THE INPUT: true; the input reads as it did. -/
def castBackSpec : ChangeSpec := { name := "castBack", fn := fun _ => fun
  | [d1, d2, d3, d4, d5] => { results := [.lit (.bool true)], args := [d1, d2, d3, d4, d5] }
  | _ => none }
def castBackRow : OpenClaim := { program := "ytgjjdaillajgbaa", sum := "fba3d219fe0ccd4ba2011cb3b87fe77cf0f774f6151b71b4bc1c408ae873ac64", func := "limbeck/limbecklaw30.CastBack", spec := "castBack", unfollowed := true, recurses := true, loops := true, apart := false }
def CastBackSaid : Prop := castBackRow.holds Try.pinned (OpenSpec.ofChange castBackSpec)

/-- ITS FALSE NEIGHBOUR: 'it returns false'. Refute it at one input. -/
def castBackWrong : ChangeSpec := { name := "castBack", fn := fun _ => fun
  | [d1, d2, d3, d4, d5] => { results := [.lit (.bool false)], args := [d1, d2, d3, d4, d5] }
  | _ => none }
def CastBackWrongFalsely : Prop := castBackRow.holds Try.pinned (OpenSpec.ofChange castBackWrong)

/-- 'limbecklaw30.CastLess': WHATEVER THE INPUT: true; the input reads as it did. -/
def castLessSpec : ChangeSpec := { name := "castLess", fn := fun _ => fun
  | [d1, d2, d3, d4, d5, d6] => { results := [.lit (.bool true)], args := [d1, d2, d3, d4, d5, d6] }
  | _ => none }
def castLessRow : OpenClaim := { program := "ytgjjdaillajgbaa", sum := "fba3d219fe0ccd4ba2011cb3b87fe77cf0f774f6151b71b4bc1c408ae873ac64", func := "limbeck/limbecklaw30.CastLess", spec := "castLess", unfollowed := true, recurses := true, loops := true, apart := false }
def CastLessSaid : Prop := castLessRow.holds Try.pinned (OpenSpec.ofChange castLessSpec)

/-- ITS FALSE NEIGHBOUR: 'it returns false'. Refute it at one input. -/
def castLessWrong : ChangeSpec := { name := "castLess", fn := fun _ => fun
  | [d1, d2, d3, d4, d5, d6] => { results := [.lit (.bool false)], args := [d1, d2, d3, d4, d5, d6] }
  | _ => none }
def CastLessWrongFalsely : Prop := castLessRow.holds Try.pinned (OpenSpec.ofChange castLessWrong)

/- THE SECOND FORM. 'bulk': how many values and letters a reading holds, each counted each time it is reached (what is shared counts as often as it is met; a slice's spare places count too). A statement '..UptoSaid' is the law's where the arguments, and the package variables that the reading takes, are together of bulk at most 1048576: NARROWER than '..Said'. Prove '..Said' where nothing that the law and all that it calls make is longer than what came in: it says more and counts as full. Else prove '..UptoSaid'. A law counts once. -/
mutual
def uptoBulk {H : Type} : DataW H → Nat
  | .lit (.string bytes) => bytes.length + 1
  | .lit _ => 1
  | .nil => 1
  | .ptr d => uptoBulk d + 1
  | .slice elems spare => uptoBulkAll elems + uptoBulkAll spare + 1
  | .agg parts => uptoBulkAll parts + 1
  | .iface _ d => uptoBulk d + 1
  | .map entries => uptoBulkEntries entries + 1
  | .held _ => 1
def uptoBulkAll {H : Type} : List (DataW H) → Nat
  | [] => 0
  | d :: r => uptoBulk d + uptoBulkAll r
def uptoBulkEntries {H : Type} : List (Lit × DataW H) → Nat
  | [] => 0
  | x :: r => uptoBulkEntry x + uptoBulkEntries r
def uptoBulkEntry {H : Type} : Lit × DataW H → Nat
  | (.string bytes, d) => bytes.length + uptoBulk d + 1
  | (_, d) => uptoBulk d + 1
 end
def uptoSmall : (H : Type) → List (DataW H) → Bool := fun _ ds => decide (uptoBulkAll ds ≤ 1048576)
def OpenSpec.upto (s : _root_.Go.ChangeSpec) : _root_.Go.OpenSpec := { _root_.Go.OpenSpec.ofChange s with cond := some uptoSmall }

/-- 'limbecklaw28.SealStay', WHERE WHAT IT READS IS OF BULK AT MOST 1048576: true; the input reads as it did. -/
def sealStayUptoRow : OpenClaim := { program := "ytgjjdaillajgbaa", sum := "fba3d219fe0ccd4ba2011cb3b87fe77cf0f774f6151b71b4bc1c408ae873ac64", func := "limbeck/limbecklaw28.SealStay", spec := "sealStay", unfollowed := true, recurses := true, loops := true, apart := false, narrowed := true }
def SealStayUptoSaid : Prop := sealStayUptoRow.holds Try.pinned (OpenSpec.upto sealStaySpec)

/-- 'limbecklaw28.SealFull', WHERE WHAT IT READS IS OF BULK AT MOST 1048576: true; the input reads as it did. -/
def sealFullUptoRow : OpenClaim := { program := "ytgjjdaillajgbaa", sum := "fba3d219fe0ccd4ba2011cb3b87fe77cf0f774f6151b71b4bc1c408ae873ac64", func := "limbeck/limbecklaw28.SealFull", spec := "sealFull", unfollowed := true, recurses := true, loops := true, apart := false, narrowed := true }
def SealFullUptoSaid : Prop := sealFullUptoRow.holds Try.pinned (OpenSpec.upto sealFullSpec)

/-- 'limbecklaw28.SealTells', WHERE WHAT IT READS IS OF BULK AT MOST 1048576: true; the input reads as it did. -/
def sealTellsUptoRow : OpenClaim := { program := "ytgjjdaillajgbaa", sum := "fba3d219fe0ccd4ba2011cb3b87fe77cf0f774f6151b71b4bc1c408ae873ac64", func := "limbeck/limbecklaw28.SealTells", spec := "sealTells", unfollowed := true, recurses := true, loops := true, apart := false, narrowed := true }
def SealTellsUptoSaid : Prop := sealTellsUptoRow.holds Try.pinned (OpenSpec.upto sealTellsSpec)

/-- 'limbecklaw26.CoreTells', WHERE WHAT IT READS IS OF BULK AT MOST 1048576: true; the input reads as it did. -/
def coreTellsUptoRow : OpenClaim := { program := "ytgjjdaillajgbaa", sum := "fba3d219fe0ccd4ba2011cb3b87fe77cf0f774f6151b71b4bc1c408ae873ac64", func := "limbeck/limbecklaw26.CoreTells", spec := "coreTells", unfollowed := true, recurses := true, loops := true, apart := false, narrowed := true }
def CoreTellsUptoSaid : Prop := coreTellsUptoRow.holds Try.pinned (OpenSpec.upto coreTellsSpec)

/-- 'limbecklaw26.CoreSame', WHERE WHAT IT READS IS OF BULK AT MOST 1048576: true; the input reads as it did. -/
def coreSameUptoRow : OpenClaim := { program := "ytgjjdaillajgbaa", sum := "fba3d219fe0ccd4ba2011cb3b87fe77cf0f774f6151b71b4bc1c408ae873ac64", func := "limbeck/limbecklaw26.CoreSame", spec := "coreSame", unfollowed := true, recurses := true, loops := true, apart := false, narrowed := true }
def CoreSameUptoSaid : Prop := coreSameUptoRow.holds Try.pinned (OpenSpec.upto coreSameSpec)

/-- 'limbecklaw26.CoreTwice', WHERE WHAT IT READS IS OF BULK AT MOST 1048576: true; the input reads as it did. -/
def coreTwiceUptoRow : OpenClaim := { program := "ytgjjdaillajgbaa", sum := "fba3d219fe0ccd4ba2011cb3b87fe77cf0f774f6151b71b4bc1c408ae873ac64", func := "limbeck/limbecklaw26.CoreTwice", spec := "coreTwice", unfollowed := true, recurses := true, loops := true, apart := false, narrowed := true }
def CoreTwiceUptoSaid : Prop := coreTwiceUptoRow.holds Try.pinned (OpenSpec.upto coreTwiceSpec)

/-- 'limbecklaw26.CorePuts', WHERE WHAT IT READS IS OF BULK AT MOST 1048576: true; the input reads as it did. -/
def corePutsUptoRow : OpenClaim := { program := "ytgjjdaillajgbaa", sum := "fba3d219fe0ccd4ba2011cb3b87fe77cf0f774f6151b71b4bc1c408ae873ac64", func := "limbeck/limbecklaw26.CorePuts", spec := "corePuts", unfollowed := true, recurses := true, loops := true, apart := false, narrowed := true }
def CorePutsUptoSaid : Prop := corePutsUptoRow.holds Try.pinned (OpenSpec.upto corePutsSpec)

/-- 'limbecklaw30.CastTells', WHERE WHAT IT READS IS OF BULK AT MOST 1048576: true; the input reads as it did. -/
def castTellsUptoRow : OpenClaim := { program := "ytgjjdaillajgbaa", sum := "fba3d219fe0ccd4ba2011cb3b87fe77cf0f774f6151b71b4bc1c408ae873ac64", func := "limbeck/limbecklaw30.CastTells", spec := "castTells", unfollowed := true, recurses := true, loops := true, apart := false, narrowed := true }
def CastTellsUptoSaid : Prop := castTellsUptoRow.holds Try.pinned (OpenSpec.upto castTellsSpec)

/-- 'limbecklaw30.CastKeeps', WHERE WHAT IT READS IS OF BULK AT MOST 1048576: true; the input reads as it did. -/
def castKeepsUptoRow : OpenClaim := { program := "ytgjjdaillajgbaa", sum := "fba3d219fe0ccd4ba2011cb3b87fe77cf0f774f6151b71b4bc1c408ae873ac64", func := "limbeck/limbecklaw30.CastKeeps", spec := "castKeeps", unfollowed := true, recurses := true, loops := true, apart := false, narrowed := true }
def CastKeepsUptoSaid : Prop := castKeepsUptoRow.holds Try.pinned (OpenSpec.upto castKeepsSpec)

/-- 'limbecklaw30.CastSure', WHERE WHAT IT READS IS OF BULK AT MOST 1048576: true; the input reads as it did. -/
def castSureUptoRow : OpenClaim := { program := "ytgjjdaillajgbaa", sum := "fba3d219fe0ccd4ba2011cb3b87fe77cf0f774f6151b71b4bc1c408ae873ac64", func := "limbeck/limbecklaw30.CastSure", spec := "castSure", unfollowed := true, recurses := true, loops := true, apart := false, narrowed := true }
def CastSureUptoSaid : Prop := castSureUptoRow.holds Try.pinned (OpenSpec.upto castSureSpec)

/-- 'limbecklaw30.CastBack', WHERE WHAT IT READS IS OF BULK AT MOST 1048576: true; the input reads as it did. -/
def castBackUptoRow : OpenClaim := { program := "ytgjjdaillajgbaa", sum := "fba3d219fe0ccd4ba2011cb3b87fe77cf0f774f6151b71b4bc1c408ae873ac64", func := "limbeck/limbecklaw30.CastBack", spec := "castBack", unfollowed := true, recurses := true, loops := true, apart := false, narrowed := true }
def CastBackUptoSaid : Prop := castBackUptoRow.holds Try.pinned (OpenSpec.upto castBackSpec)

/-- 'limbecklaw30.CastLess', WHERE WHAT IT READS IS OF BULK AT MOST 1048576: true; the input reads as it did. -/
def castLessUptoRow : OpenClaim := { program := "ytgjjdaillajgbaa", sum := "fba3d219fe0ccd4ba2011cb3b87fe77cf0f774f6151b71b4bc1c408ae873ac64", func := "limbeck/limbecklaw30.CastLess", spec := "castLess", unfollowed := true, recurses := true, loops := true, apart := false, narrowed := true }
def CastLessUptoSaid : Prop := castLessUptoRow.holds Try.pinned (OpenSpec.upto castLessSpec)

end Rows
end Go.Proofs.Ytgjjdaillajgbaa

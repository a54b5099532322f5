/-
  DERIVED. GIVEN WITH THE SEED: THE CARDS: each row of YtbnilhjddpmodaaGreatDoorRows.lean that lists a variable, with what it lists TIED to the program's text (the seventh form; the later family's looks); each row that meets fmt, with fmt's text TOLD by the authors' own Lean function (tested against real Go, not proved from fmt's source: count such statements apart). THE CARD IS WHAT COUNTS. Prove the row's statement (the work); the ties are given (YtbnilhjddpmodaaGreatDoorTie.lean); close each card by the builder's one call (the guide's Derived/Test/ToyasCard.lean, 'card_holds'). Laid BY PROGRAM, IN A SANDBOX (cutbox-door.mjs). By AI agents, Wed Nov 11 2026. No macro, syntax, notation, axiom, sorry.
-/
import Derived.Test.YtbnilhjddpmodaaGreatDoorRows
import GoSem.ClaimSeven
namespace Go.Proofs.YtbnilhjddpmodaaGreatDoor
namespace Rows

/-- THE TIED CARD OF 'limbecklaw36.CalcTraces'. -/
def calcTracesCard : Claim7 := { stood := { row := calcTracesRow, standIns := [], harness := (true, "9ceb13fae317cc3f58c8d7782ec6c240cfb3613e754ad3956715a715bba87bb7"), looks := true }, kinds := [], alts := [], laidByText := true, laidKinds := [.data, .data], laidTests := true, laidLooks := .later }
def CalcTracesCardSaid : Prop := Claim7.holds Tryz.pinned (.plain (OpenSpec.ofChange calcTracesSpec)) calcTracesCard

/-- THE TIED CARD OF 'limbecklaw36.CalcSteps'. -/
def calcStepsCard : Claim7 := { stood := { row := calcStepsRow, standIns := [], harness := (true, "9ceb13fae317cc3f58c8d7782ec6c240cfb3613e754ad3956715a715bba87bb7"), looks := true }, kinds := [], alts := [], laidByText := true, laidKinds := [.data, .data], laidTests := true, laidLooks := .later }
def CalcStepsCardSaid : Prop := Claim7.holds Tryz.pinned (.plain (OpenSpec.ofChange calcStepsSpec)) calcStepsCard

/-- THE TIED CARD OF 'limbecklaw35.MachNone'. -/
def machNoneCard : Claim7 := { stood := { row := machNoneRow, standIns := [], harness := (true, "9ceb13fae317cc3f58c8d7782ec6c240cfb3613e754ad3956715a715bba87bb7"), looks := true }, kinds := [], alts := [], laidByText := true, laidKinds := [.data, .data], laidTests := true, laidLooks := .later }
def MachNoneCardSaid : Prop := Claim7.holds Tryz.pinned (.plain (OpenSpec.ofChange machNoneSpec)) machNoneCard

/-- THE TIED CARD OF 'limbecklaw36.CalcMach'. -/
def calcMachCard : Claim7 := { stood := { row := calcMachRow, standIns := [], harness := (true, "9ceb13fae317cc3f58c8d7782ec6c240cfb3613e754ad3956715a715bba87bb7"), looks := true }, kinds := [], alts := [], laidByText := true, laidKinds := [.data, .data], laidTests := true, laidLooks := .later }
def CalcMachCardSaid : Prop := Claim7.holds Tryz.pinned (.plain (OpenSpec.ofChange calcMachSpec)) calcMachCard

/-- THE SECOND FORM's CARD OF 'limbecklaw36.CalcTraces'. -/
def calcTracesUptoCard : Claim7 := { stood := { row := calcTracesUptoRow, standIns := [], harness := (true, "9ceb13fae317cc3f58c8d7782ec6c240cfb3613e754ad3956715a715bba87bb7"), looks := true }, kinds := [], alts := [], laidByText := true, laidKinds := [.data, .data], laidTests := true, laidLooks := .later }
def CalcTracesUptoCardSaid : Prop := Claim7.holds Tryz.pinned (.plain (OpenSpec.upto calcTracesSpec)) calcTracesUptoCard

/-- THE SECOND FORM's CARD OF 'limbecklaw36.CalcSteps'. -/
def calcStepsUptoCard : Claim7 := { stood := { row := calcStepsUptoRow, standIns := [], harness := (true, "9ceb13fae317cc3f58c8d7782ec6c240cfb3613e754ad3956715a715bba87bb7"), looks := true }, kinds := [], alts := [], laidByText := true, laidKinds := [.data, .data], laidTests := true, laidLooks := .later }
def CalcStepsUptoCardSaid : Prop := Claim7.holds Tryz.pinned (.plain (OpenSpec.upto calcStepsSpec)) calcStepsUptoCard

/-- THE SECOND FORM's CARD OF 'limbecklaw35.MachNone'. -/
def machNoneUptoCard : Claim7 := { stood := { row := machNoneUptoRow, standIns := [], harness := (true, "9ceb13fae317cc3f58c8d7782ec6c240cfb3613e754ad3956715a715bba87bb7"), looks := true }, kinds := [], alts := [], laidByText := true, laidKinds := [.data, .data], laidTests := true, laidLooks := .later }
def MachNoneUptoCardSaid : Prop := Claim7.holds Tryz.pinned (.plain (OpenSpec.upto machNoneSpec)) machNoneUptoCard

/-- THE SECOND FORM's CARD OF 'limbecklaw36.CalcMach'. -/
def calcMachUptoCard : Claim7 := { stood := { row := calcMachUptoRow, standIns := [], harness := (true, "9ceb13fae317cc3f58c8d7782ec6c240cfb3613e754ad3956715a715bba87bb7"), looks := true }, kinds := [], alts := [], laidByText := true, laidKinds := [.data, .data], laidTests := true, laidLooks := .later }
def CalcMachUptoCardSaid : Prop := Claim7.holds Tryz.pinned (.plain (OpenSpec.upto calcMachSpec)) calcMachUptoCard
end Rows
end Go.Proofs.YtbnilhjddpmodaaGreatDoor

/-
  DERIVED. GIVEN WITH THE SEED: THE CARDS: each row of YtnohaiobpmmomaaGreatDoorRows.lean that lists a variable, with what it lists TIED to the program's text (the seventh form; the later family's looks); each row that meets fmt, with fmt's text TOLD by the authors' own Lean function (tested against real Go, not proved from fmt's source: count such statements apart). THE CARD IS WHAT COUNTS. Prove the row's statement (the work); the ties are given (YtnohaiobpmmomaaGreatDoorTie.lean); close each card by the builder's one call (the guide's Derived/Test/ToyasCard.lean, 'card_holds'). Laid BY PROGRAM, IN A SANDBOX (cutbox-door.mjs). By AI agents, Wed Nov 11 2026. No macro, syntax, notation, axiom, sorry.
-/
import Derived.Test.YtnohaiobpmmomaaGreatDoorRows
import GoSem.ClaimSeven
namespace Go.Proofs.YtnohaiobpmmomaaGreatDoor
namespace Rows

/-- THE TIED CARD OF 'pentroughlaw21.SchedFair'. -/
def schedFairCard : Claim7 := { stood := { row := schedFairRow, standIns := [], harness := (true, "068eabffc2eb74e4b33c04797ec8eb469a261a43229456563fd220cfe52371a7"), looks := true }, kinds := [], alts := [], laidByText := true, laidKinds := [.data, .data, .data, .data, .sentinel, .sentinel, .pinned, .pinned], laidTests := true, laidLooks := .later }
def SchedFairCardSaid : Prop := Claim7.holds Tryz.pinned (.plain (OpenSpec.ofChange schedFairSpec)) schedFairCard

/-- THE TIED CARD OF 'pentroughlaw21.SchedMore'. -/
def schedMoreCard : Claim7 := { stood := { row := schedMoreRow, standIns := [], harness := (true, "068eabffc2eb74e4b33c04797ec8eb469a261a43229456563fd220cfe52371a7"), looks := true }, kinds := [], alts := [], laidByText := true, laidKinds := [.data, .data, .data, .data, .sentinel, .sentinel, .pinned, .pinned], laidTests := true, laidLooks := .later }
def SchedMoreCardSaid : Prop := Claim7.holds Tryz.pinned (.plain (OpenSpec.ofChange schedMoreSpec)) schedMoreCard

/-- THE SECOND FORM's CARD OF 'pentroughlaw21.SchedFair'. -/
def schedFairUptoCard : Claim7 := { stood := { row := schedFairUptoRow, standIns := [], harness := (true, "068eabffc2eb74e4b33c04797ec8eb469a261a43229456563fd220cfe52371a7"), looks := true }, kinds := [], alts := [], laidByText := true, laidKinds := [.data, .data, .data, .data, .sentinel, .sentinel, .pinned, .pinned], laidTests := true, laidLooks := .later }
def SchedFairUptoCardSaid : Prop := Claim7.holds Tryz.pinned (.plain (OpenSpec.upto schedFairSpec)) schedFairUptoCard

/-- THE SECOND FORM's CARD OF 'pentroughlaw21.SchedMore'. -/
def schedMoreUptoCard : Claim7 := { stood := { row := schedMoreUptoRow, standIns := [], harness := (true, "068eabffc2eb74e4b33c04797ec8eb469a261a43229456563fd220cfe52371a7"), looks := true }, kinds := [], alts := [], laidByText := true, laidKinds := [.data, .data, .data, .data, .sentinel, .sentinel, .pinned, .pinned], laidTests := true, laidLooks := .later }
def SchedMoreUptoCardSaid : Prop := Claim7.holds Tryz.pinned (.plain (OpenSpec.upto schedMoreSpec)) schedMoreUptoCard
end Rows
end Go.Proofs.YtnohaiobpmmomaaGreatDoor

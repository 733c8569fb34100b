/-
  DERIVED. GIVEN WITH THE SEED: THE CARDS: each row of YtlmnhdpahmaccaaDoorRows.lean that lists a variable, with what it lists TIED to the program's text (the seventh form; the later family's looks); each row that meets fmt, with fmt's text TOLD by the authors' own Lean function (tested against real Go, not proved from fmt's source: count such statements apart). THE CARD IS WHAT COUNTS. Prove the row's statement (the work); the ties are given (YtlmnhdpahmaccaaDoorTie.lean); close each card by the builder's one call (the guide's Derived/Test/ToyasCard.lean, 'card_holds'). Laid BY PROGRAM, IN A SANDBOX (cutbox-door.mjs). By AI agents, Wed Nov 11 2026. No macro, syntax, notation, axiom, sorry.
-/
import Derived.Test.YtlmnhdpahmaccaaDoorRows
import GoSem.ClaimSeven
namespace Go.Proofs.YtlmnhdpahmaccaaDoor
namespace Rows

/-- THE TIED CARD OF 'mullionlaw23.OptionsNames'. -/
def optionsNamesCard : Claim7 := { stood := { row := optionsNamesRow, standIns := [], harness := (true, "c6b6eb63c43f0f8d6e0f48d04062193cb1db88f7138e5de595c50a29d603cf1c"), looks := true }, kinds := [], alts := [], laidByText := true, laidKinds := [.data, .data, .data, .data, .sentinel, .sentinel, .listed, .data, .data, .pinned], laidTests := true, laidLooks := .later }
def OptionsNamesCardSaid : Prop := Claim7.holds Tryd.pinned (.plain (OpenSpec.ofChange optionsNamesSpec)) optionsNamesCard

/-- THE TIED CARD OF 'mullionlaw23.OptionsKinds'. -/
def optionsKindsCard : Claim7 := { stood := { row := optionsKindsRow, standIns := [], harness := (true, "c6b6eb63c43f0f8d6e0f48d04062193cb1db88f7138e5de595c50a29d603cf1c"), looks := true }, kinds := [], alts := [], laidByText := true, laidKinds := [.data, .data, .data, .data, .sentinel, .sentinel, .listed, .data, .data, .pinned], laidTests := true, laidLooks := .later }
def OptionsKindsCardSaid : Prop := Claim7.holds Tryd.pinned (.plain (OpenSpec.ofChange optionsKindsSpec)) optionsKindsCard

/-- THE SECOND FORM's CARD OF 'mullionlaw23.OptionsNames'. -/
def optionsNamesUptoCard : Claim7 := { stood := { row := optionsNamesUptoRow, standIns := [], harness := (true, "c6b6eb63c43f0f8d6e0f48d04062193cb1db88f7138e5de595c50a29d603cf1c"), looks := true }, kinds := [], alts := [], laidByText := true, laidKinds := [.data, .data, .data, .data, .sentinel, .sentinel, .listed, .data, .data, .pinned], laidTests := true, laidLooks := .later }
def OptionsNamesUptoCardSaid : Prop := Claim7.holds Tryd.pinned (.plain (OpenSpec.upto optionsNamesSpec)) optionsNamesUptoCard

/-- THE SECOND FORM's CARD OF 'mullionlaw23.OptionsKinds'. -/
def optionsKindsUptoCard : Claim7 := { stood := { row := optionsKindsUptoRow, standIns := [], harness := (true, "c6b6eb63c43f0f8d6e0f48d04062193cb1db88f7138e5de595c50a29d603cf1c"), looks := true }, kinds := [], alts := [], laidByText := true, laidKinds := [.data, .data, .data, .data, .sentinel, .sentinel, .listed, .data, .data, .pinned], laidTests := true, laidLooks := .later }
def OptionsKindsUptoCardSaid : Prop := Claim7.holds Tryd.pinned (.plain (OpenSpec.upto optionsKindsSpec)) optionsKindsUptoCard
end Rows
end Go.Proofs.YtlmnhdpahmaccaaDoor

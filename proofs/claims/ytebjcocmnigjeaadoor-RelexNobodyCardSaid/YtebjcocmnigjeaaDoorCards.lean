/-
  DERIVED. GIVEN WITH THE SEED: THE CARDS: each row of YtebjcocmnigjeaaDoorRows.lean that lists a variable, with what it lists TIED to the program's text (the seventh form; the later family's looks); each row that meets fmt, with fmt's text TOLD by the authors' own Lean function (tested against real Go, not proved from fmt's source: count such statements apart). THE CARD IS WHAT COUNTS. Prove the row's statement (the work); the ties are given (YtebjcocmnigjeaaDoorTie.lean); close each card by the builder's one call (the guide's Derived/Test/ToyasCard.lean, 'card_holds'). Laid BY PROGRAM, IN A SANDBOX (cutbox-door.mjs). By AI agents, Wed Nov 11 2026. No macro, syntax, notation, axiom, sorry.
-/
import Derived.Test.YtebjcocmnigjeaaDoorRows
import GoSem.ClaimSeven
namespace Go.Proofs.YtebjcocmnigjeaaDoor
namespace Rows

/-- THE TIED CARD OF 'variorumlaw24.RelexPlays'. -/
def relexPlaysCard : Claim7 := { stood := { row := relexPlaysRow, standIns := [], harness := (true, "66fe5308ec24dfea7734cdc89b9f6ae837ce55157274e063c644e5f54755e44e"), looks := false }, kinds := [], alts := [], laidByText := true, laidKinds := [.data, .pinned], laidTests := true, laidLooks := .later }
def RelexPlaysCardSaid : Prop := Claim7.holds Tryd.pinned (.plain (OpenSpec.ofChange relexPlaysSpec)) relexPlaysCard

/-- THE TIED CARD OF 'variorumlaw24.RelexNobody'. -/
def relexNobodyCard : Claim7 := { stood := { row := relexNobodyRow, standIns := [], harness := (true, "66fe5308ec24dfea7734cdc89b9f6ae837ce55157274e063c644e5f54755e44e"), looks := false }, kinds := [], alts := [], laidByText := true, laidKinds := [.data, .pinned], laidTests := true, laidLooks := .later }
def RelexNobodyCardSaid : Prop := Claim7.holds Tryd.pinned (.plain (OpenSpec.ofChange relexNobodySpec)) relexNobodyCard

/-- THE TIED CARD OF 'variorumlaw24.RelexLittle'. -/
def relexLittleCard : Claim7 := { stood := { row := relexLittleRow, standIns := [], harness := (true, "66fe5308ec24dfea7734cdc89b9f6ae837ce55157274e063c644e5f54755e44e"), looks := false }, kinds := [], alts := [], laidByText := true, laidKinds := [.data, .pinned], laidTests := true, laidLooks := .later }
def RelexLittleCardSaid : Prop := Claim7.holds Tryd.pinned (.plain (OpenSpec.ofChange relexLittleSpec)) relexLittleCard

/-- THE SECOND FORM's CARD OF 'variorumlaw24.RelexPlays'. -/
def relexPlaysUptoCard : Claim7 := { stood := { row := relexPlaysUptoRow, standIns := [], harness := (true, "66fe5308ec24dfea7734cdc89b9f6ae837ce55157274e063c644e5f54755e44e"), looks := false }, kinds := [], alts := [], laidByText := true, laidKinds := [.data, .pinned], laidTests := true, laidLooks := .later }
def RelexPlaysUptoCardSaid : Prop := Claim7.holds Tryd.pinned (.plain (OpenSpec.upto relexPlaysSpec)) relexPlaysUptoCard

/-- THE SECOND FORM's CARD OF 'variorumlaw24.RelexNobody'. -/
def relexNobodyUptoCard : Claim7 := { stood := { row := relexNobodyUptoRow, standIns := [], harness := (true, "66fe5308ec24dfea7734cdc89b9f6ae837ce55157274e063c644e5f54755e44e"), looks := false }, kinds := [], alts := [], laidByText := true, laidKinds := [.data, .pinned], laidTests := true, laidLooks := .later }
def RelexNobodyUptoCardSaid : Prop := Claim7.holds Tryd.pinned (.plain (OpenSpec.upto relexNobodySpec)) relexNobodyUptoCard

/-- THE SECOND FORM's CARD OF 'variorumlaw24.RelexLittle'. -/
def relexLittleUptoCard : Claim7 := { stood := { row := relexLittleUptoRow, standIns := [], harness := (true, "66fe5308ec24dfea7734cdc89b9f6ae837ce55157274e063c644e5f54755e44e"), looks := false }, kinds := [], alts := [], laidByText := true, laidKinds := [.data, .pinned], laidTests := true, laidLooks := .later }
def RelexLittleUptoCardSaid : Prop := Claim7.holds Tryd.pinned (.plain (OpenSpec.upto relexLittleSpec)) relexLittleUptoCard
end Rows
end Go.Proofs.YtebjcocmnigjeaaDoor

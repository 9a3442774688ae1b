/-
  DERIVED. GIVEN WITH THE SEED: THE CARDS: each row of YtalikcnnbfjeiaaGreatDoorRows.lean that lists a variable, with what it lists TIED to the program's text (the seventh form; the later family's looks); each row that meets fmt, with fmt's text TOLD by the authors' own Lean function (tested against real Go, not proved from fmt's source: count such statements apart). THE CARD IS WHAT COUNTS. Prove the row's statement (the work); the ties are given (YtalikcnnbfjeiaaGreatDoorTie.lean); close each card by the builder's one call (the guide's Derived/Test/ToyasCard.lean, 'card_holds'). Laid BY PROGRAM, IN A SANDBOX (cutbox-door.mjs). By AI agents, Wed Nov 11 2026. No macro, syntax, notation, axiom, sorry.
-/
import Derived.Test.YtalikcnnbfjeiaaGreatDoorRows
import GoSem.ClaimSeven
namespace Go.Proofs.YtalikcnnbfjeiaaGreatDoor
namespace Rows

/-- THE TIED CARD OF 'winnowerlaw11.FieldsNone'. -/
def fieldsNoneCard : Claim7 := { stood := { row := fieldsNoneRow, standIns := [], harness := (true, "fc9d16f7b63a5f347fd23a72336e5481757a8242779152bcf4695abf407e00ba"), looks := true }, kinds := [], alts := [], laidByText := true, laidKinds := [.data, .data, .widerDeep, .widerDeep, .data, .data, .data, .data, .data, .data, .sentinel, .sentinel, .pinned, .pinned, .pinned], laidTests := true, laidLooks := .later }
def FieldsNoneCardSaid : Prop := Claim7.holds Tryz.pinned (.plain (OpenSpec.ofChange fieldsNoneSpec)) fieldsNoneCard

/-- THE SECOND FORM's CARD OF 'winnowerlaw11.FieldsNone'. -/
def fieldsNoneUptoCard : Claim7 := { stood := { row := fieldsNoneUptoRow, standIns := [], harness := (true, "fc9d16f7b63a5f347fd23a72336e5481757a8242779152bcf4695abf407e00ba"), looks := true }, kinds := [], alts := [], laidByText := true, laidKinds := [.data, .data, .widerDeep, .widerDeep, .data, .data, .data, .data, .data, .data, .sentinel, .sentinel, .pinned, .pinned, .pinned], laidTests := true, laidLooks := .later }
def FieldsNoneUptoCardSaid : Prop := Claim7.holds Tryz.pinned (.plain (OpenSpec.upto fieldsNoneSpec)) fieldsNoneUptoCard
end Rows
end Go.Proofs.YtalikcnnbfjeiaaGreatDoor

/-
  DERIVED. GIVEN WITH THE SEED: THE CARDS: each row of YtmkofejijkabnaaGreatDoorRows.lean that lists a variable, with what it lists TIED to the program's text (the seventh form; the later family's looks); each row that meets fmt, with fmt's text TOLD by the authors' own Lean function (tested against real Go, not proved from fmt's source: count such statements apart). THE CARD IS WHAT COUNTS. Prove the row's statement (the work); the ties are given (YtmkofejijkabnaaGreatDoorTie.lean); close each card by the builder's one call (the guide's Derived/Test/ToyasCard.lean, 'card_holds'). Laid BY PROGRAM, IN A SANDBOX (cutbox-door.mjs). By AI agents, Wed Nov 11 2026. No macro, syntax, notation, axiom, sorry.
-/
import Derived.Test.YtmkofejijkabnaaGreatDoorRows
import GoSem.ClaimSeven
namespace Go.Proofs.YtmkofejijkabnaaGreatDoor
namespace Rows

/-- THE TIED CARD OF 'portolanlaw26.TagsParts'. -/
def tagsPartsCard : Claim7 := { stood := { row := tagsPartsRow, standIns := [], harness := (true, "c5e4da19b2c095f83c6befd148d78ea23c2783d06efa48f2110dcc2f3591746e"), looks := true }, kinds := [], alts := [], laidByText := true, laidKinds := [.data], laidTests := true, laidLooks := .later }
def TagsPartsCardSaid : Prop := Claim7.holds Tryz.pinned (.plain (OpenSpec.ofChange tagsPartsSpec)) tagsPartsCard

/-- THE TIED CARD OF 'portolanlaw26.TagsFlip'. -/
def tagsFlipCard : Claim7 := { stood := { row := tagsFlipRow, standIns := [], harness := (true, "c5e4da19b2c095f83c6befd148d78ea23c2783d06efa48f2110dcc2f3591746e"), looks := true }, kinds := [], alts := [], laidByText := true, laidKinds := [.data], laidTests := true, laidLooks := .later }
def TagsFlipCardSaid : Prop := Claim7.holds Tryz.pinned (.plain (OpenSpec.ofChange tagsFlipSpec)) tagsFlipCard

/-- THE TIED CARD OF 'portolanlaw26.TagsKnown'. -/
def tagsKnownCard : Claim7 := { stood := { row := tagsKnownRow, standIns := [], harness := (true, "c5e4da19b2c095f83c6befd148d78ea23c2783d06efa48f2110dcc2f3591746e"), looks := true }, kinds := [], alts := [], laidByText := true, laidKinds := [.data], laidTests := true, laidLooks := .later }
def TagsKnownCardSaid : Prop := Claim7.holds Tryz.pinned (.plain (OpenSpec.ofChange tagsKnownSpec)) tagsKnownCard

/-- THE TIED CARD OF 'portolanlaw26.TagsTells'. -/
def tagsTellsCard : Claim7 := { stood := { row := tagsTellsRow, standIns := [], harness := (true, "c5e4da19b2c095f83c6befd148d78ea23c2783d06efa48f2110dcc2f3591746e"), looks := true }, kinds := [], alts := [], laidByText := true, laidKinds := [.data], laidTests := true, laidLooks := .later }
def TagsTellsCardSaid : Prop := Claim7.holds Tryz.pinned (.plain (OpenSpec.ofChange tagsTellsSpec)) tagsTellsCard

/-- THE TIED CARD OF 'portolanlaw26.TagsCrash'. -/
def tagsCrashCard : Claim7 := { stood := { row := tagsCrashRow, standIns := [], harness := (true, "c5e4da19b2c095f83c6befd148d78ea23c2783d06efa48f2110dcc2f3591746e"), looks := true }, kinds := [], alts := [], laidByText := true, laidKinds := [.data], laidTests := true, laidLooks := .later }
def TagsCrashCardSaid : Prop := Claim7.holds Tryz.pinned (.plain (OpenSpec.ofChange tagsCrashSpec)) tagsCrashCard

/-- THE SECOND FORM's CARD OF 'portolanlaw26.TagsParts'. -/
def tagsPartsUptoCard : Claim7 := { stood := { row := tagsPartsUptoRow, standIns := [], harness := (true, "c5e4da19b2c095f83c6befd148d78ea23c2783d06efa48f2110dcc2f3591746e"), looks := true }, kinds := [], alts := [], laidByText := true, laidKinds := [.data], laidTests := true, laidLooks := .later }
def TagsPartsUptoCardSaid : Prop := Claim7.holds Tryz.pinned (.plain (OpenSpec.upto tagsPartsSpec)) tagsPartsUptoCard

/-- THE SECOND FORM's CARD OF 'portolanlaw26.TagsFlip'. -/
def tagsFlipUptoCard : Claim7 := { stood := { row := tagsFlipUptoRow, standIns := [], harness := (true, "c5e4da19b2c095f83c6befd148d78ea23c2783d06efa48f2110dcc2f3591746e"), looks := true }, kinds := [], alts := [], laidByText := true, laidKinds := [.data], laidTests := true, laidLooks := .later }
def TagsFlipUptoCardSaid : Prop := Claim7.holds Tryz.pinned (.plain (OpenSpec.upto tagsFlipSpec)) tagsFlipUptoCard

/-- THE SECOND FORM's CARD OF 'portolanlaw26.TagsKnown'. -/
def tagsKnownUptoCard : Claim7 := { stood := { row := tagsKnownUptoRow, standIns := [], harness := (true, "c5e4da19b2c095f83c6befd148d78ea23c2783d06efa48f2110dcc2f3591746e"), looks := true }, kinds := [], alts := [], laidByText := true, laidKinds := [.data], laidTests := true, laidLooks := .later }
def TagsKnownUptoCardSaid : Prop := Claim7.holds Tryz.pinned (.plain (OpenSpec.upto tagsKnownSpec)) tagsKnownUptoCard

/-- THE SECOND FORM's CARD OF 'portolanlaw26.TagsTells'. -/
def tagsTellsUptoCard : Claim7 := { stood := { row := tagsTellsUptoRow, standIns := [], harness := (true, "c5e4da19b2c095f83c6befd148d78ea23c2783d06efa48f2110dcc2f3591746e"), looks := true }, kinds := [], alts := [], laidByText := true, laidKinds := [.data], laidTests := true, laidLooks := .later }
def TagsTellsUptoCardSaid : Prop := Claim7.holds Tryz.pinned (.plain (OpenSpec.upto tagsTellsSpec)) tagsTellsUptoCard

/-- THE SECOND FORM's CARD OF 'portolanlaw26.TagsCrash'. -/
def tagsCrashUptoCard : Claim7 := { stood := { row := tagsCrashUptoRow, standIns := [], harness := (true, "c5e4da19b2c095f83c6befd148d78ea23c2783d06efa48f2110dcc2f3591746e"), looks := true }, kinds := [], alts := [], laidByText := true, laidKinds := [.data], laidTests := true, laidLooks := .later }
def TagsCrashUptoCardSaid : Prop := Claim7.holds Tryz.pinned (.plain (OpenSpec.upto tagsCrashSpec)) tagsCrashUptoCard
end Rows
end Go.Proofs.YtmkofejijkabnaaGreatDoor

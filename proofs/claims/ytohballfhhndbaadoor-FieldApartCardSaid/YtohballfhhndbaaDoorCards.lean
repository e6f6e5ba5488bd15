/-
  DERIVED. GIVEN WITH THE SEED: THE CARDS: each row of YtohballfhhndbaaDoorRows.lean that lists a variable, with what it lists TIED to the program's text (the seventh form; the later family's looks); each row that meets fmt, with fmt's text TOLD by the authors' own Lean function (tested against real Go, not proved from fmt's source: count such statements apart). THE CARD IS WHAT COUNTS. Prove the row's statement (the work); the ties are given (YtohballfhhndbaaDoorTie.lean); close each card by the builder's one call (the guide's Derived/Test/ToyasCard.lean, 'card_holds'). Laid BY PROGRAM, IN A SANDBOX (cutbox-door.mjs). By AI agents, Wed Nov 11 2026. No macro, syntax, notation, axiom, sorry.
-/
import Derived.Test.YtohballfhhndbaaDoorRows
import GoSem.ClaimSeven
namespace Go.Proofs.YtohballfhhndbaaDoor
namespace Rows

/-- THE TIED CARD OF 'portolanlaw09.FieldNumbers'. -/
def fieldNumbersCard : Claim7 := { stood := { row := fieldNumbersRow, standIns := [], harness := (true, "5ea3679fb065993bbcb5d9413f09045d63b902b7d8b39be38b376707c7b0db63"), looks := false }, kinds := [], alts := [], laidByText := true, laidKinds := [.data, .data, .data, .data, .pinned], laidTests := true, laidLooks := .later }
def FieldNumbersCardSaid : Prop := Claim7.holds Tryd.pinned (.plain (OpenSpec.ofChange fieldNumbersSpec)) fieldNumbersCard

/-- THE TIED CARD OF 'portolanlaw09.FieldApart'. -/
def fieldApartCard : Claim7 := { stood := { row := fieldApartRow, standIns := [], harness := (true, "5ea3679fb065993bbcb5d9413f09045d63b902b7d8b39be38b376707c7b0db63"), looks := false }, kinds := [], alts := [], laidByText := true, laidKinds := [.data, .data, .data, .data, .mapped, .pinned], laidTests := true, laidLooks := .later }
def FieldApartCardSaid : Prop := Claim7.holds Tryd.pinned (.plain (OpenSpec.ofChange fieldApartSpec)) fieldApartCard

/-- THE TIED CARD OF 'portolanlaw09.FieldSealed'. -/
def fieldSealedCard : Claim7 := { stood := { row := fieldSealedRow, standIns := [], harness := (true, "5ea3679fb065993bbcb5d9413f09045d63b902b7d8b39be38b376707c7b0db63"), looks := false }, kinds := [], alts := [], laidByText := true, laidKinds := [.data, .data, .data, .data, .mapped, .pinned], laidTests := true, laidLooks := .later }
def FieldSealedCardSaid : Prop := Claim7.holds Tryd.pinned (.plain (OpenSpec.ofChange fieldSealedSpec)) fieldSealedCard

/-- THE TIED CARD OF 'portolanlaw09.FieldBlocks'. -/
def fieldBlocksCard : Claim7 := { stood := { row := fieldBlocksRow, standIns := [], harness := (true, "5ea3679fb065993bbcb5d9413f09045d63b902b7d8b39be38b376707c7b0db63"), looks := false }, kinds := [], alts := [], laidByText := true, laidKinds := [.data, .data, .data, .data, .mapped, .pinned], laidTests := true, laidLooks := .later }
def FieldBlocksCardSaid : Prop := Claim7.holds Tryd.pinned (.plain (OpenSpec.ofChange fieldBlocksSpec)) fieldBlocksCard

/-- THE TIED CARD OF 'portolanlaw09.FieldTexts'. -/
def fieldTextsCard : Claim7 := { stood := { row := fieldTextsRow, standIns := [], harness := (true, "5ea3679fb065993bbcb5d9413f09045d63b902b7d8b39be38b376707c7b0db63"), looks := false }, kinds := [], alts := [], laidByText := true, laidKinds := [.data, .data, .data, .data, .pinned], laidTests := true, laidLooks := .later }
def FieldTextsCardSaid : Prop := Claim7.holds Tryd.pinned (.plain (OpenSpec.ofChange fieldTextsSpec)) fieldTextsCard

/-- THE TIED CARD OF 'portolanlaw09.FieldBack'. -/
def fieldBackCard : Claim7 := { stood := { row := fieldBackRow, standIns := [], harness := (true, "5ea3679fb065993bbcb5d9413f09045d63b902b7d8b39be38b376707c7b0db63"), looks := false }, kinds := [], alts := [], laidByText := true, laidKinds := [.data, .data, .data, .data, .pinned], laidTests := true, laidLooks := .later }
def FieldBackCardSaid : Prop := Claim7.holds Tryd.pinned (.plain (OpenSpec.ofChange fieldBackSpec)) fieldBackCard

/-- THE TIED CARD OF 'portolanlaw09.FieldKnown'. -/
def fieldKnownCard : Claim7 := { stood := { row := fieldKnownRow, standIns := [], harness := (true, "5ea3679fb065993bbcb5d9413f09045d63b902b7d8b39be38b376707c7b0db63"), looks := false }, kinds := [], alts := [], laidByText := true, laidKinds := [.data, .data, .data, .data, .mapped, .pinned], laidTests := true, laidLooks := .later }
def FieldKnownCardSaid : Prop := Claim7.holds Tryd.pinned (.plain (OpenSpec.ofChange fieldKnownSpec)) fieldKnownCard

/-- THE SECOND FORM's CARD OF 'portolanlaw09.FieldNumbers'. -/
def fieldNumbersUptoCard : Claim7 := { stood := { row := fieldNumbersUptoRow, standIns := [], harness := (true, "5ea3679fb065993bbcb5d9413f09045d63b902b7d8b39be38b376707c7b0db63"), looks := false }, kinds := [], alts := [], laidByText := true, laidKinds := [.data, .data, .data, .data, .pinned], laidTests := true, laidLooks := .later }
def FieldNumbersUptoCardSaid : Prop := Claim7.holds Tryd.pinned (.plain (OpenSpec.upto fieldNumbersSpec)) fieldNumbersUptoCard

/-- THE SECOND FORM's CARD OF 'portolanlaw09.FieldApart'. -/
def fieldApartUptoCard : Claim7 := { stood := { row := fieldApartUptoRow, standIns := [], harness := (true, "5ea3679fb065993bbcb5d9413f09045d63b902b7d8b39be38b376707c7b0db63"), looks := false }, kinds := [], alts := [], laidByText := true, laidKinds := [.data, .data, .data, .data, .mapped, .pinned], laidTests := true, laidLooks := .later }
def FieldApartUptoCardSaid : Prop := Claim7.holds Tryd.pinned (.plain (OpenSpec.upto fieldApartSpec)) fieldApartUptoCard

/-- THE SECOND FORM's CARD OF 'portolanlaw09.FieldSealed'. -/
def fieldSealedUptoCard : Claim7 := { stood := { row := fieldSealedUptoRow, standIns := [], harness := (true, "5ea3679fb065993bbcb5d9413f09045d63b902b7d8b39be38b376707c7b0db63"), looks := false }, kinds := [], alts := [], laidByText := true, laidKinds := [.data, .data, .data, .data, .mapped, .pinned], laidTests := true, laidLooks := .later }
def FieldSealedUptoCardSaid : Prop := Claim7.holds Tryd.pinned (.plain (OpenSpec.upto fieldSealedSpec)) fieldSealedUptoCard

/-- THE SECOND FORM's CARD OF 'portolanlaw09.FieldBlocks'. -/
def fieldBlocksUptoCard : Claim7 := { stood := { row := fieldBlocksUptoRow, standIns := [], harness := (true, "5ea3679fb065993bbcb5d9413f09045d63b902b7d8b39be38b376707c7b0db63"), looks := false }, kinds := [], alts := [], laidByText := true, laidKinds := [.data, .data, .data, .data, .mapped, .pinned], laidTests := true, laidLooks := .later }
def FieldBlocksUptoCardSaid : Prop := Claim7.holds Tryd.pinned (.plain (OpenSpec.upto fieldBlocksSpec)) fieldBlocksUptoCard

/-- THE SECOND FORM's CARD OF 'portolanlaw09.FieldTexts'. -/
def fieldTextsUptoCard : Claim7 := { stood := { row := fieldTextsUptoRow, standIns := [], harness := (true, "5ea3679fb065993bbcb5d9413f09045d63b902b7d8b39be38b376707c7b0db63"), looks := false }, kinds := [], alts := [], laidByText := true, laidKinds := [.data, .data, .data, .data, .pinned], laidTests := true, laidLooks := .later }
def FieldTextsUptoCardSaid : Prop := Claim7.holds Tryd.pinned (.plain (OpenSpec.upto fieldTextsSpec)) fieldTextsUptoCard

/-- THE SECOND FORM's CARD OF 'portolanlaw09.FieldBack'. -/
def fieldBackUptoCard : Claim7 := { stood := { row := fieldBackUptoRow, standIns := [], harness := (true, "5ea3679fb065993bbcb5d9413f09045d63b902b7d8b39be38b376707c7b0db63"), looks := false }, kinds := [], alts := [], laidByText := true, laidKinds := [.data, .data, .data, .data, .pinned], laidTests := true, laidLooks := .later }
def FieldBackUptoCardSaid : Prop := Claim7.holds Tryd.pinned (.plain (OpenSpec.upto fieldBackSpec)) fieldBackUptoCard

/-- THE SECOND FORM's CARD OF 'portolanlaw09.FieldKnown'. -/
def fieldKnownUptoCard : Claim7 := { stood := { row := fieldKnownUptoRow, standIns := [], harness := (true, "5ea3679fb065993bbcb5d9413f09045d63b902b7d8b39be38b376707c7b0db63"), looks := false }, kinds := [], alts := [], laidByText := true, laidKinds := [.data, .data, .data, .data, .mapped, .pinned], laidTests := true, laidLooks := .later }
def FieldKnownUptoCardSaid : Prop := Claim7.holds Tryd.pinned (.plain (OpenSpec.upto fieldKnownSpec)) fieldKnownUptoCard
end Rows
end Go.Proofs.YtohballfhhndbaaDoor

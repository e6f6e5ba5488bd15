/-
  DERIVED. GIVEN WITH THE SEED: THE CARDS: each row of YtlhjehcfpnjbmaaDoorRows.lean that lists a variable, with what it lists TIED to the program's text (the seventh form; the later family's looks); each row that meets fmt, with fmt's text TOLD by the authors' own Lean function (tested against real Go, not proved from fmt's source: count such statements apart). THE CARD IS WHAT COUNTS. Prove the row's statement (the work); the ties are given (YtlhjehcfpnjbmaaDoorTie.lean); close each card by the builder's one call (the guide's Derived/Test/ToyasCard.lean, 'card_holds'). Laid BY PROGRAM, IN A SANDBOX (cutbox-door.mjs). By AI agents, Wed Nov 11 2026. No macro, syntax, notation, axiom, sorry.
-/
import Derived.Test.YtlhjehcfpnjbmaaDoorRows
import GoSem.ClaimSeven
namespace Go.Proofs.YtlhjehcfpnjbmaaDoor
namespace Rows

/-- THE TIED CARD OF 'portolanlaw10.PaxForm'. -/
def paxFormCard : Claim7 := { stood := { row := paxFormRow, standIns := [], harness := (true, "77ae0c4ce2e1b6b3c12487a560204639b31ac4b5553fba96d4960b822a179926"), looks := true }, kinds := [], alts := [], laidByText := true, laidKinds := [.data, .data, .data], laidTests := true, laidLooks := .later }
def PaxFormCardSaid : Prop := Claim7.holds Tryd.pinned (.plain (OpenSpec.ofChange paxFormSpec)) paxFormCard

/-- THE TIED CARD OF 'portolanlaw10.PaxSelf'. -/
def paxSelfCard : Claim7 := { stood := { row := paxSelfRow, standIns := [], harness := (true, "77ae0c4ce2e1b6b3c12487a560204639b31ac4b5553fba96d4960b822a179926"), looks := true }, kinds := [], alts := [], laidByText := true, laidKinds := [.data, .data, .data], laidTests := true, laidLooks := .later }
def PaxSelfCardSaid : Prop := Claim7.holds Tryd.pinned (.plain (OpenSpec.ofChange paxSelfSpec)) paxSelfCard

/-- THE TIED CARD OF 'portolanlaw10.PaxPuts'. -/
def paxPutsCard : Claim7 := { stood := { row := paxPutsRow, standIns := [], harness := (true, "77ae0c4ce2e1b6b3c12487a560204639b31ac4b5553fba96d4960b822a179926"), looks := true }, kinds := [], alts := [], laidByText := true, laidKinds := [.data, .data, .data], laidTests := true, laidLooks := .later }
def PaxPutsCardSaid : Prop := Claim7.holds Tryd.pinned (.plain (OpenSpec.ofChange paxPutsSpec)) paxPutsCard

/-- THE TIED CARD OF 'portolanlaw10.PaxNumbers'. -/
def paxNumbersCard : Claim7 := { stood := { row := paxNumbersRow, standIns := [], harness := (true, "77ae0c4ce2e1b6b3c12487a560204639b31ac4b5553fba96d4960b822a179926"), looks := true }, kinds := [], alts := [], laidByText := true, laidKinds := [.data, .data, .data, .sentinel, .sentinel], laidTests := true, laidLooks := .later }
def PaxNumbersCardSaid : Prop := Claim7.holds Tryd.pinned (.plain (OpenSpec.ofChange paxNumbersSpec)) paxNumbersCard

/-- THE TIED CARD OF 'portolanlaw10.PaxTexts'. -/
def paxTextsCard : Claim7 := { stood := { row := paxTextsRow, standIns := [], harness := (true, "77ae0c4ce2e1b6b3c12487a560204639b31ac4b5553fba96d4960b822a179926"), looks := true }, kinds := [], alts := [], laidByText := true, laidKinds := [.data, .data, .data, .sentinel, .sentinel], laidTests := true, laidLooks := .later }
def PaxTextsCardSaid : Prop := Claim7.holds Tryd.pinned (.plain (OpenSpec.ofChange paxTextsSpec)) paxTextsCard

/-- THE SECOND FORM's CARD OF 'portolanlaw10.PaxForm'. -/
def paxFormUptoCard : Claim7 := { stood := { row := paxFormUptoRow, standIns := [], harness := (true, "77ae0c4ce2e1b6b3c12487a560204639b31ac4b5553fba96d4960b822a179926"), looks := true }, kinds := [], alts := [], laidByText := true, laidKinds := [.data, .data, .data], laidTests := true, laidLooks := .later }
def PaxFormUptoCardSaid : Prop := Claim7.holds Tryd.pinned (.plain (OpenSpec.upto paxFormSpec)) paxFormUptoCard

/-- THE SECOND FORM's CARD OF 'portolanlaw10.PaxSelf'. -/
def paxSelfUptoCard : Claim7 := { stood := { row := paxSelfUptoRow, standIns := [], harness := (true, "77ae0c4ce2e1b6b3c12487a560204639b31ac4b5553fba96d4960b822a179926"), looks := true }, kinds := [], alts := [], laidByText := true, laidKinds := [.data, .data, .data], laidTests := true, laidLooks := .later }
def PaxSelfUptoCardSaid : Prop := Claim7.holds Tryd.pinned (.plain (OpenSpec.upto paxSelfSpec)) paxSelfUptoCard

/-- THE SECOND FORM's CARD OF 'portolanlaw10.PaxPuts'. -/
def paxPutsUptoCard : Claim7 := { stood := { row := paxPutsUptoRow, standIns := [], harness := (true, "77ae0c4ce2e1b6b3c12487a560204639b31ac4b5553fba96d4960b822a179926"), looks := true }, kinds := [], alts := [], laidByText := true, laidKinds := [.data, .data, .data], laidTests := true, laidLooks := .later }
def PaxPutsUptoCardSaid : Prop := Claim7.holds Tryd.pinned (.plain (OpenSpec.upto paxPutsSpec)) paxPutsUptoCard

/-- THE SECOND FORM's CARD OF 'portolanlaw10.PaxNumbers'. -/
def paxNumbersUptoCard : Claim7 := { stood := { row := paxNumbersUptoRow, standIns := [], harness := (true, "77ae0c4ce2e1b6b3c12487a560204639b31ac4b5553fba96d4960b822a179926"), looks := true }, kinds := [], alts := [], laidByText := true, laidKinds := [.data, .data, .data, .sentinel, .sentinel], laidTests := true, laidLooks := .later }
def PaxNumbersUptoCardSaid : Prop := Claim7.holds Tryd.pinned (.plain (OpenSpec.upto paxNumbersSpec)) paxNumbersUptoCard

/-- THE SECOND FORM's CARD OF 'portolanlaw10.PaxTexts'. -/
def paxTextsUptoCard : Claim7 := { stood := { row := paxTextsUptoRow, standIns := [], harness := (true, "77ae0c4ce2e1b6b3c12487a560204639b31ac4b5553fba96d4960b822a179926"), looks := true }, kinds := [], alts := [], laidByText := true, laidKinds := [.data, .data, .data, .sentinel, .sentinel], laidTests := true, laidLooks := .later }
def PaxTextsUptoCardSaid : Prop := Claim7.holds Tryd.pinned (.plain (OpenSpec.upto paxTextsSpec)) paxTextsUptoCard
end Rows
end Go.Proofs.YtlhjehcfpnjbmaaDoor

/-
  DERIVED. GIVEN WITH THE SEED: THE CARDS: each row of YtkijhaibcnhedaaDoorRows.lean that lists a variable, with what it lists TIED to the program's text (the seventh form; the later family's looks); each row that meets fmt, with fmt's text TOLD by the authors' own Lean function (tested against real Go, not proved from fmt's source: count such statements apart). THE CARD IS WHAT COUNTS. Prove the row's statement (the work); the ties are given (YtkijhaibcnhedaaDoorTie.lean); close each card by the builder's one call (the guide's Derived/Test/ToyasCard.lean, 'card_holds'). Laid BY PROGRAM, IN A SANDBOX (cutbox-door.mjs). By AI agents, Wed Nov 11 2026. No macro, syntax, notation, axiom, sorry.
-/
import Derived.Test.YtkijhaibcnhedaaDoorRows
import GoSem.ClaimSeven
namespace Go.Proofs.YtkijhaibcnhedaaDoor
namespace Rows

/-- THE TIED CARD OF 'portolanlaw11.PathParts'. -/
def pathPartsCard : Claim7 := { stood := { row := pathPartsRow, standIns := [], harness := (true, "0691e2296ad4c80801dc988fa1d923394e5a86db668084e37bae8aef27531ffe"), looks := false }, kinds := [], alts := [], laidByText := true, laidKinds := [.data, .funcs, .pinned], laidTests := true, laidLooks := .later }
def PathPartsCardSaid : Prop := Claim7.holds Tryd.pinned (.plain (OpenSpec.ofChange pathPartsSpec)) pathPartsCard

/-- THE TIED CARD OF 'portolanlaw11.PathWhite'. -/
def pathWhiteCard : Claim7 := { stood := { row := pathWhiteRow, standIns := [], harness := (true, "0691e2296ad4c80801dc988fa1d923394e5a86db668084e37bae8aef27531ffe"), looks := false }, kinds := [], alts := [], laidByText := true, laidKinds := [.data, .funcs, .pinned], laidTests := true, laidLooks := .later }
def PathWhiteCardSaid : Prop := Claim7.holds Tryd.pinned (.plain (OpenSpec.ofChange pathWhiteSpec)) pathWhiteCard

/-- THE TIED CARD OF 'portolanlaw11.PathCalls'. -/
def pathCallsCard : Claim7 := { stood := { row := pathCallsRow, standIns := [], harness := (true, "0691e2296ad4c80801dc988fa1d923394e5a86db668084e37bae8aef27531ffe"), looks := false }, kinds := [], alts := [], laidByText := true, laidKinds := [.data, .funcs, .pinned], laidTests := true, laidLooks := .later }
def PathCallsCardSaid : Prop := Claim7.holds Tryd.pinned (.plain (OpenSpec.ofChange pathCallsSpec)) pathCallsCard

/-- THE TIED CARD OF 'portolanlaw11.PathClean'. -/
def pathCleanCard : Claim7 := { stood := { row := pathCleanRow, standIns := [], harness := (true, "0691e2296ad4c80801dc988fa1d923394e5a86db668084e37bae8aef27531ffe"), looks := false }, kinds := [], alts := [], laidByText := true, laidKinds := [.data, .funcs, .pinned], laidTests := true, laidLooks := .later }
def PathCleanCardSaid : Prop := Claim7.holds Tryd.pinned (.plain (OpenSpec.ofChange pathCleanSpec)) pathCleanCard

/-- THE TIED CARD OF 'portolanlaw11.PathKnown'. -/
def pathKnownCard : Claim7 := { stood := { row := pathKnownRow, standIns := [], harness := (true, "0691e2296ad4c80801dc988fa1d923394e5a86db668084e37bae8aef27531ffe"), looks := false }, kinds := [], alts := [], laidByText := true, laidKinds := [.data, .funcs, .pinned], laidTests := true, laidLooks := .later }
def PathKnownCardSaid : Prop := Claim7.holds Tryd.pinned (.plain (OpenSpec.ofChange pathKnownSpec)) pathKnownCard

/-- THE SECOND FORM's CARD OF 'portolanlaw11.PathParts'. -/
def pathPartsUptoCard : Claim7 := { stood := { row := pathPartsUptoRow, standIns := [], harness := (true, "0691e2296ad4c80801dc988fa1d923394e5a86db668084e37bae8aef27531ffe"), looks := false }, kinds := [], alts := [], laidByText := true, laidKinds := [.data, .funcs, .pinned], laidTests := true, laidLooks := .later }
def PathPartsUptoCardSaid : Prop := Claim7.holds Tryd.pinned (.plain (OpenSpec.upto pathPartsSpec)) pathPartsUptoCard

/-- THE SECOND FORM's CARD OF 'portolanlaw11.PathWhite'. -/
def pathWhiteUptoCard : Claim7 := { stood := { row := pathWhiteUptoRow, standIns := [], harness := (true, "0691e2296ad4c80801dc988fa1d923394e5a86db668084e37bae8aef27531ffe"), looks := false }, kinds := [], alts := [], laidByText := true, laidKinds := [.data, .funcs, .pinned], laidTests := true, laidLooks := .later }
def PathWhiteUptoCardSaid : Prop := Claim7.holds Tryd.pinned (.plain (OpenSpec.upto pathWhiteSpec)) pathWhiteUptoCard

/-- THE SECOND FORM's CARD OF 'portolanlaw11.PathCalls'. -/
def pathCallsUptoCard : Claim7 := { stood := { row := pathCallsUptoRow, standIns := [], harness := (true, "0691e2296ad4c80801dc988fa1d923394e5a86db668084e37bae8aef27531ffe"), looks := false }, kinds := [], alts := [], laidByText := true, laidKinds := [.data, .funcs, .pinned], laidTests := true, laidLooks := .later }
def PathCallsUptoCardSaid : Prop := Claim7.holds Tryd.pinned (.plain (OpenSpec.upto pathCallsSpec)) pathCallsUptoCard

/-- THE SECOND FORM's CARD OF 'portolanlaw11.PathClean'. -/
def pathCleanUptoCard : Claim7 := { stood := { row := pathCleanUptoRow, standIns := [], harness := (true, "0691e2296ad4c80801dc988fa1d923394e5a86db668084e37bae8aef27531ffe"), looks := false }, kinds := [], alts := [], laidByText := true, laidKinds := [.data, .funcs, .pinned], laidTests := true, laidLooks := .later }
def PathCleanUptoCardSaid : Prop := Claim7.holds Tryd.pinned (.plain (OpenSpec.upto pathCleanSpec)) pathCleanUptoCard

/-- THE SECOND FORM's CARD OF 'portolanlaw11.PathKnown'. -/
def pathKnownUptoCard : Claim7 := { stood := { row := pathKnownUptoRow, standIns := [], harness := (true, "0691e2296ad4c80801dc988fa1d923394e5a86db668084e37bae8aef27531ffe"), looks := false }, kinds := [], alts := [], laidByText := true, laidKinds := [.data, .funcs, .pinned], laidTests := true, laidLooks := .later }
def PathKnownUptoCardSaid : Prop := Claim7.holds Tryd.pinned (.plain (OpenSpec.upto pathKnownSpec)) pathKnownUptoCard
end Rows
end Go.Proofs.YtkijhaibcnhedaaDoor

/-
  DERIVED. GIVEN WITH THE SEED: THE CARDS: each row of YtplafpokgpolkaaGreatDoorRows.lean that lists a variable, with what it lists TIED to the program's text (the seventh form; the later family's looks); each row that meets fmt, with fmt's text TOLD by the authors' own Lean function (tested against real Go, not proved from fmt's source: count such statements apart). THE CARD IS WHAT COUNTS. Prove the row's statement (the work); the ties are given (YtplafpokgpolkaaGreatDoorTie.lean); close each card by the builder's one call (the guide's Derived/Test/ToyasCard.lean, 'card_holds'). Laid BY PROGRAM, IN A SANDBOX (cutbox-door.mjs). By AI agents, Wed Nov 11 2026. No macro, syntax, notation, axiom, sorry.
-/
import Derived.Test.YtplafpokgpolkaaGreatDoorRows
import GoSem.ClaimSeven
namespace Go.Proofs.YtplafpokgpolkaaGreatDoor
namespace Rows

/-- THE TIED CARD OF 'portolanlaw19.ChangeKnown'. -/
def changeKnownCard : Claim7 := { stood := { row := changeKnownRow, standIns := [], harness := (true, "6e57d623f5d489d5a9b58fe31fc0b4221d4e70ba151eda59a509df5597f5a2d6"), looks := false }, kinds := [], alts := [], laidByText := true, laidKinds := [.data, .funcs, .mapped, .pinned], laidTests := true, laidLooks := .later }
def ChangeKnownCardSaid : Prop := Claim7.holds Tryz.pinned (.plain (OpenSpec.ofChange changeKnownSpec)) changeKnownCard

/-- THE TIED CARD OF 'portolanlaw19.ChangeSorts'. -/
def changeSortsCard : Claim7 := { stood := { row := changeSortsRow, standIns := [], harness := (true, "6e57d623f5d489d5a9b58fe31fc0b4221d4e70ba151eda59a509df5597f5a2d6"), looks := false }, kinds := [], alts := [], laidByText := true, laidKinds := [.data, .funcs, .mapped, .pinned], laidTests := true, laidLooks := .later }
def ChangeSortsCardSaid : Prop := Claim7.holds Tryz.pinned (.plain (OpenSpec.ofChange changeSortsSpec)) changeSortsCard

/-- THE TIED CARD OF 'portolanlaw19.ChangeApplies'. -/
def changeAppliesCard : Claim7 := { stood := { row := changeAppliesRow, standIns := [], harness := (true, "6e57d623f5d489d5a9b58fe31fc0b4221d4e70ba151eda59a509df5597f5a2d6"), looks := false }, kinds := [], alts := [], laidByText := true, laidKinds := [.data, .funcs, .mapped, .pinned], laidTests := true, laidLooks := .later }
def ChangeAppliesCardSaid : Prop := Claim7.holds Tryz.pinned (.plain (OpenSpec.ofChange changeAppliesSpec)) changeAppliesCard

/-- THE TIED CARD OF 'portolanlaw19.ChangeMay'. -/
def changeMayCard : Claim7 := { stood := { row := changeMayRow, standIns := [], harness := (true, "6e57d623f5d489d5a9b58fe31fc0b4221d4e70ba151eda59a509df5597f5a2d6"), looks := false }, kinds := [], alts := [], laidByText := true, laidKinds := [.data, .funcs, .mapped, .pinned], laidTests := true, laidLooks := .later }
def ChangeMayCardSaid : Prop := Claim7.holds Tryz.pinned (.plain (OpenSpec.ofChange changeMaySpec)) changeMayCard

/-- THE TIED CARD OF 'portolanlaw19.ChangeLocal'. -/
def changeLocalCard : Claim7 := { stood := { row := changeLocalRow, standIns := [], harness := (true, "6e57d623f5d489d5a9b58fe31fc0b4221d4e70ba151eda59a509df5597f5a2d6"), looks := false }, kinds := [], alts := [], laidByText := true, laidKinds := [.data, .funcs, .mapped, .pinned], laidTests := true, laidLooks := .later }
def ChangeLocalCardSaid : Prop := Claim7.holds Tryz.pinned (.plain (OpenSpec.ofChange changeLocalSpec)) changeLocalCard

/-- THE SECOND FORM's CARD OF 'portolanlaw19.ChangeKnown'. -/
def changeKnownUptoCard : Claim7 := { stood := { row := changeKnownUptoRow, standIns := [], harness := (true, "6e57d623f5d489d5a9b58fe31fc0b4221d4e70ba151eda59a509df5597f5a2d6"), looks := false }, kinds := [], alts := [], laidByText := true, laidKinds := [.data, .funcs, .mapped, .pinned], laidTests := true, laidLooks := .later }
def ChangeKnownUptoCardSaid : Prop := Claim7.holds Tryz.pinned (.plain (OpenSpec.upto changeKnownSpec)) changeKnownUptoCard

/-- THE SECOND FORM's CARD OF 'portolanlaw19.ChangeSorts'. -/
def changeSortsUptoCard : Claim7 := { stood := { row := changeSortsUptoRow, standIns := [], harness := (true, "6e57d623f5d489d5a9b58fe31fc0b4221d4e70ba151eda59a509df5597f5a2d6"), looks := false }, kinds := [], alts := [], laidByText := true, laidKinds := [.data, .funcs, .mapped, .pinned], laidTests := true, laidLooks := .later }
def ChangeSortsUptoCardSaid : Prop := Claim7.holds Tryz.pinned (.plain (OpenSpec.upto changeSortsSpec)) changeSortsUptoCard

/-- THE SECOND FORM's CARD OF 'portolanlaw19.ChangeApplies'. -/
def changeAppliesUptoCard : Claim7 := { stood := { row := changeAppliesUptoRow, standIns := [], harness := (true, "6e57d623f5d489d5a9b58fe31fc0b4221d4e70ba151eda59a509df5597f5a2d6"), looks := false }, kinds := [], alts := [], laidByText := true, laidKinds := [.data, .funcs, .mapped, .pinned], laidTests := true, laidLooks := .later }
def ChangeAppliesUptoCardSaid : Prop := Claim7.holds Tryz.pinned (.plain (OpenSpec.upto changeAppliesSpec)) changeAppliesUptoCard

/-- THE SECOND FORM's CARD OF 'portolanlaw19.ChangeMay'. -/
def changeMayUptoCard : Claim7 := { stood := { row := changeMayUptoRow, standIns := [], harness := (true, "6e57d623f5d489d5a9b58fe31fc0b4221d4e70ba151eda59a509df5597f5a2d6"), looks := false }, kinds := [], alts := [], laidByText := true, laidKinds := [.data, .funcs, .mapped, .pinned], laidTests := true, laidLooks := .later }
def ChangeMayUptoCardSaid : Prop := Claim7.holds Tryz.pinned (.plain (OpenSpec.upto changeMaySpec)) changeMayUptoCard

/-- THE SECOND FORM's CARD OF 'portolanlaw19.ChangeLocal'. -/
def changeLocalUptoCard : Claim7 := { stood := { row := changeLocalUptoRow, standIns := [], harness := (true, "6e57d623f5d489d5a9b58fe31fc0b4221d4e70ba151eda59a509df5597f5a2d6"), looks := false }, kinds := [], alts := [], laidByText := true, laidKinds := [.data, .funcs, .mapped, .pinned], laidTests := true, laidLooks := .later }
def ChangeLocalUptoCardSaid : Prop := Claim7.holds Tryz.pinned (.plain (OpenSpec.upto changeLocalSpec)) changeLocalUptoCard
end Rows
end Go.Proofs.YtplafpokgpolkaaGreatDoor

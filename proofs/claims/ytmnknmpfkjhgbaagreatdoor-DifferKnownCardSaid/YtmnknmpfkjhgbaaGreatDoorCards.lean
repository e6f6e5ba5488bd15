/-
  DERIVED. GIVEN WITH THE SEED: THE CARDS: each row of YtmnknmpfkjhgbaaGreatDoorRows.lean that lists a variable, with what it lists TIED to the program's text (the seventh form; the later family's looks); each row that meets fmt, with fmt's text TOLD by the authors' own Lean function (tested against real Go, not proved from fmt's source: count such statements apart). THE CARD IS WHAT COUNTS. Prove the row's statement (the work); the ties are given (YtmnknmpfkjhgbaaGreatDoorTie.lean); close each card by the builder's one call (the guide's Derived/Test/ToyasCard.lean, 'card_holds'). Laid BY PROGRAM, IN A SANDBOX (cutbox-door.mjs). By AI agents, Wed Nov 11 2026. No macro, syntax, notation, axiom, sorry.
-/
import Derived.Test.YtmnknmpfkjhgbaaGreatDoorRows
import GoSem.ClaimSeven
namespace Go.Proofs.YtmnknmpfkjhgbaaGreatDoor
namespace Rows

/-- THE TIED CARD OF 'portolanlaw20.DifferLeads'. -/
def differLeadsCard : Claim7 := { stood := { row := differLeadsRow, standIns := [], harness := (true, "679de0eacbb395016ef4e8574b9e12b58e0483e9da5e443226846d0e77cf2a54"), looks := false }, kinds := [], alts := [], laidByText := true, laidKinds := [.data, .funcs, .mapped, .pinned], laidTests := true, laidLooks := .later }
def DifferLeadsCardSaid : Prop := Claim7.holds Tryz.pinned (.plain (OpenSpec.ofChange differLeadsSpec)) differLeadsCard

/-- THE TIED CARD OF 'portolanlaw20.DifferChain'. -/
def differChainCard : Claim7 := { stood := { row := differChainRow, standIns := [], harness := (true, "679de0eacbb395016ef4e8574b9e12b58e0483e9da5e443226846d0e77cf2a54"), looks := false }, kinds := [], alts := [], laidByText := true, laidKinds := [.data, .funcs, .mapped, .pinned], laidTests := true, laidLooks := .later }
def DifferChainCardSaid : Prop := Claim7.holds Tryz.pinned (.plain (OpenSpec.ofChange differChainSpec)) differChainCard

/-- THE TIED CARD OF 'portolanlaw20.DifferKnown'. -/
def differKnownCard : Claim7 := { stood := { row := differKnownRow, standIns := [], harness := (true, "679de0eacbb395016ef4e8574b9e12b58e0483e9da5e443226846d0e77cf2a54"), looks := false }, kinds := [], alts := [], laidByText := true, laidKinds := [.data, .funcs, .mapped, .pinned], laidTests := true, laidLooks := .later }
def DifferKnownCardSaid : Prop := Claim7.holds Tryz.pinned (.plain (OpenSpec.ofChange differKnownSpec)) differKnownCard

/-- THE TIED CARD OF 'portolanlaw20.DifferTells'. -/
def differTellsCard : Claim7 := { stood := { row := differTellsRow, standIns := [], harness := (true, "679de0eacbb395016ef4e8574b9e12b58e0483e9da5e443226846d0e77cf2a54"), looks := false }, kinds := [], alts := [], laidByText := true, laidKinds := [.data, .funcs, .mapped, .pinned], laidTests := true, laidLooks := .later }
def DifferTellsCardSaid : Prop := Claim7.holds Tryz.pinned (.plain (OpenSpec.ofChange differTellsSpec)) differTellsCard

/-- THE TIED CARD OF 'portolanlaw20.DifferEdges'. -/
def differEdgesCard : Claim7 := { stood := { row := differEdgesRow, standIns := [], harness := (true, "679de0eacbb395016ef4e8574b9e12b58e0483e9da5e443226846d0e77cf2a54"), looks := false }, kinds := [], alts := [], laidByText := true, laidKinds := [.data, .funcs, .mapped, .pinned], laidTests := true, laidLooks := .later }
def DifferEdgesCardSaid : Prop := Claim7.holds Tryz.pinned (.plain (OpenSpec.ofChange differEdgesSpec)) differEdgesCard

/-- THE SECOND FORM's CARD OF 'portolanlaw20.DifferLeads'. -/
def differLeadsUptoCard : Claim7 := { stood := { row := differLeadsUptoRow, standIns := [], harness := (true, "679de0eacbb395016ef4e8574b9e12b58e0483e9da5e443226846d0e77cf2a54"), looks := false }, kinds := [], alts := [], laidByText := true, laidKinds := [.data, .funcs, .mapped, .pinned], laidTests := true, laidLooks := .later }
def DifferLeadsUptoCardSaid : Prop := Claim7.holds Tryz.pinned (.plain (OpenSpec.upto differLeadsSpec)) differLeadsUptoCard

/-- THE SECOND FORM's CARD OF 'portolanlaw20.DifferChain'. -/
def differChainUptoCard : Claim7 := { stood := { row := differChainUptoRow, standIns := [], harness := (true, "679de0eacbb395016ef4e8574b9e12b58e0483e9da5e443226846d0e77cf2a54"), looks := false }, kinds := [], alts := [], laidByText := true, laidKinds := [.data, .funcs, .mapped, .pinned], laidTests := true, laidLooks := .later }
def DifferChainUptoCardSaid : Prop := Claim7.holds Tryz.pinned (.plain (OpenSpec.upto differChainSpec)) differChainUptoCard

/-- THE SECOND FORM's CARD OF 'portolanlaw20.DifferKnown'. -/
def differKnownUptoCard : Claim7 := { stood := { row := differKnownUptoRow, standIns := [], harness := (true, "679de0eacbb395016ef4e8574b9e12b58e0483e9da5e443226846d0e77cf2a54"), looks := false }, kinds := [], alts := [], laidByText := true, laidKinds := [.data, .funcs, .mapped, .pinned], laidTests := true, laidLooks := .later }
def DifferKnownUptoCardSaid : Prop := Claim7.holds Tryz.pinned (.plain (OpenSpec.upto differKnownSpec)) differKnownUptoCard

/-- THE SECOND FORM's CARD OF 'portolanlaw20.DifferTells'. -/
def differTellsUptoCard : Claim7 := { stood := { row := differTellsUptoRow, standIns := [], harness := (true, "679de0eacbb395016ef4e8574b9e12b58e0483e9da5e443226846d0e77cf2a54"), looks := false }, kinds := [], alts := [], laidByText := true, laidKinds := [.data, .funcs, .mapped, .pinned], laidTests := true, laidLooks := .later }
def DifferTellsUptoCardSaid : Prop := Claim7.holds Tryz.pinned (.plain (OpenSpec.upto differTellsSpec)) differTellsUptoCard

/-- THE SECOND FORM's CARD OF 'portolanlaw20.DifferEdges'. -/
def differEdgesUptoCard : Claim7 := { stood := { row := differEdgesUptoRow, standIns := [], harness := (true, "679de0eacbb395016ef4e8574b9e12b58e0483e9da5e443226846d0e77cf2a54"), looks := false }, kinds := [], alts := [], laidByText := true, laidKinds := [.data, .funcs, .mapped, .pinned], laidTests := true, laidLooks := .later }
def DifferEdgesUptoCardSaid : Prop := Claim7.holds Tryz.pinned (.plain (OpenSpec.upto differEdgesSpec)) differEdgesUptoCard
end Rows
end Go.Proofs.YtmnknmpfkjhgbaaGreatDoor

/-
  DERIVED. GIVEN WITH THE SEED: THE CARDS: each row of YtphgmkhbhboklaaGreatDoorRows.lean that lists a variable, with what it lists TIED to the program's text (the seventh form; the later family's looks); each row that meets fmt, with fmt's text TOLD by the authors' own Lean function (tested against real Go, not proved from fmt's source: count such statements apart). THE CARD IS WHAT COUNTS. Prove the row's statement (the work); the ties are given (YtphgmkhbhboklaaGreatDoorTie.lean); close each card by the builder's one call (the guide's Derived/Test/ToyasCard.lean, 'card_holds'). Laid BY PROGRAM, IN A SANDBOX (cutbox-door.mjs). By AI agents, Wed Nov 11 2026. No macro, syntax, notation, axiom, sorry.
-/
import Derived.Test.YtphgmkhbhboklaaGreatDoorRows
import GoSem.ClaimSeven
namespace Go.Proofs.YtphgmkhbhboklaaGreatDoor
namespace Rows

/-- THE TIED CARD OF 'portolanlaw18.TreeWell'. -/
def treeWellCard : Claim7 := { stood := { row := treeWellRow, standIns := [], harness := (true, "9911d8bd128230917082bce4e5679001fddde08e4275bc2d1283c70a409bc68d"), looks := false }, kinds := [], alts := [], laidByText := true, laidKinds := [.data, .funcs, .mapped, .pinned], laidTests := true, laidLooks := .later }
def TreeWellCardSaid : Prop := Claim7.holds Tryz.pinned (.plain (OpenSpec.ofChange treeWellSpec)) treeWellCard

/-- THE TIED CARD OF 'portolanlaw18.TreeTells'. -/
def treeTellsCard : Claim7 := { stood := { row := treeTellsRow, standIns := [], harness := (true, "9911d8bd128230917082bce4e5679001fddde08e4275bc2d1283c70a409bc68d"), looks := false }, kinds := [], alts := [], laidByText := true, laidKinds := [.data, .funcs, .mapped, .pinned], laidTests := true, laidLooks := .later }
def TreeTellsCardSaid : Prop := Claim7.holds Tryz.pinned (.plain (OpenSpec.ofChange treeTellsSpec)) treeTellsCard

/-- THE TIED CARD OF 'portolanlaw18.TreeKnown'. -/
def treeKnownCard : Claim7 := { stood := { row := treeKnownRow, standIns := [], harness := (true, "9911d8bd128230917082bce4e5679001fddde08e4275bc2d1283c70a409bc68d"), looks := false }, kinds := [], alts := [], laidByText := true, laidKinds := [.data, .funcs, .mapped, .pinned], laidTests := true, laidLooks := .later }
def TreeKnownCardSaid : Prop := Claim7.holds Tryz.pinned (.plain (OpenSpec.ofChange treeKnownSpec)) treeKnownCard

/-- THE SECOND FORM's CARD OF 'portolanlaw18.TreeWell'. -/
def treeWellUptoCard : Claim7 := { stood := { row := treeWellUptoRow, standIns := [], harness := (true, "9911d8bd128230917082bce4e5679001fddde08e4275bc2d1283c70a409bc68d"), looks := false }, kinds := [], alts := [], laidByText := true, laidKinds := [.data, .funcs, .mapped, .pinned], laidTests := true, laidLooks := .later }
def TreeWellUptoCardSaid : Prop := Claim7.holds Tryz.pinned (.plain (OpenSpec.upto treeWellSpec)) treeWellUptoCard

/-- THE SECOND FORM's CARD OF 'portolanlaw18.TreeTells'. -/
def treeTellsUptoCard : Claim7 := { stood := { row := treeTellsUptoRow, standIns := [], harness := (true, "9911d8bd128230917082bce4e5679001fddde08e4275bc2d1283c70a409bc68d"), looks := false }, kinds := [], alts := [], laidByText := true, laidKinds := [.data, .funcs, .mapped, .pinned], laidTests := true, laidLooks := .later }
def TreeTellsUptoCardSaid : Prop := Claim7.holds Tryz.pinned (.plain (OpenSpec.upto treeTellsSpec)) treeTellsUptoCard

/-- THE SECOND FORM's CARD OF 'portolanlaw18.TreeKnown'. -/
def treeKnownUptoCard : Claim7 := { stood := { row := treeKnownUptoRow, standIns := [], harness := (true, "9911d8bd128230917082bce4e5679001fddde08e4275bc2d1283c70a409bc68d"), looks := false }, kinds := [], alts := [], laidByText := true, laidKinds := [.data, .funcs, .mapped, .pinned], laidTests := true, laidLooks := .later }
def TreeKnownUptoCardSaid : Prop := Claim7.holds Tryz.pinned (.plain (OpenSpec.upto treeKnownSpec)) treeKnownUptoCard
end Rows
end Go.Proofs.YtphgmkhbhboklaaGreatDoor

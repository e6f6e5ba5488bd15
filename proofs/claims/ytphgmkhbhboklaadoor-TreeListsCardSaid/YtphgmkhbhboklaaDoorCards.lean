/-
  DERIVED. GIVEN WITH THE SEED: THE CARDS: each row of YtphgmkhbhboklaaDoorRows.lean that lists a variable, with what it lists TIED to the program's text (the seventh form; the later family's looks); each row that meets fmt, with fmt's text TOLD by the authors' own Lean function (tested against real Go, not proved from fmt's source: count such statements apart). THE CARD IS WHAT COUNTS. Prove the row's statement (the work); the ties are given (YtphgmkhbhboklaaDoorTie.lean); close each card by the builder's one call (the guide's Derived/Test/ToyasCard.lean, 'card_holds'). Laid BY PROGRAM, IN A SANDBOX (cutbox-door.mjs). By AI agents, Wed Nov 11 2026. No macro, syntax, notation, axiom, sorry.
-/
import Derived.Test.YtphgmkhbhboklaaDoorRows
import GoSem.ClaimSeven
namespace Go.Proofs.YtphgmkhbhboklaaDoor
namespace Rows

/-- THE TIED CARD OF 'portolanlaw18.TreeLists'. -/
def treeListsCard : Claim7 := { stood := { row := treeListsRow, standIns := [], harness := (true, "897c299b6ca13b1e3b8edc4b539449a90bf2034c09f04102d4f26748a7230306"), looks := false }, kinds := [], alts := [], laidByText := true, laidKinds := [.data, .funcs, .mapped, .pinned], laidTests := true, laidLooks := .later }
def TreeListsCardSaid : Prop := Claim7.holds Tryd.pinned (.plain (OpenSpec.ofChange treeListsSpec)) treeListsCard

/-- THE SECOND FORM's CARD OF 'portolanlaw18.TreeLists'. -/
def treeListsUptoCard : Claim7 := { stood := { row := treeListsUptoRow, standIns := [], harness := (true, "897c299b6ca13b1e3b8edc4b539449a90bf2034c09f04102d4f26748a7230306"), looks := false }, kinds := [], alts := [], laidByText := true, laidKinds := [.data, .funcs, .mapped, .pinned], laidTests := true, laidLooks := .later }
def TreeListsUptoCardSaid : Prop := Claim7.holds Tryd.pinned (.plain (OpenSpec.upto treeListsSpec)) treeListsUptoCard
end Rows
end Go.Proofs.YtphgmkhbhboklaaDoor

/-
  NARROWER THAN 'FOR EVERY INPUT', by the rows' own cells (each row's printed sentence says how): TreeWell: laid · TreeTells: laid · TreeKnown: laid.
  DERIVED. THE GIVEN ROWS OF THIS SEAT. 3 by the template 'for every input the law returns true; each argument reads behind the call as it read before'; 0 by the template 'total and deterministic' (their statements: YtphgmkhbhboklaaGreatDoorTotals.lean).
  GIVEN WITH THE SEED: the statements are not yours to turn. If you find one false, say at which input.
  Laid BY PROGRAM, IN A SANDBOX (cutbox-rows.mjs): the forced cells as the released guide's own fill.sh prints them over the translation bdc79d74e227592e… (all of the seat's roots in one cut). By AI agents, Wed Nov 11 2026. No macro, syntax, notation, axiom, sorry.
-/
import Derived.Test.YtphgmkhbhboklaaGreatDoorChecked
import GoSem.PinnedTables
import GoSem.Claim
import GoSem.ClaimJoined
import GoSem.ClaimMapViews
import Derived.JoinedTies
import Derived.KernelRfl
namespace Go.Proofs.YtphgmkhbhboklaaGreatDoor
/- THE CELL 'sum', in the pinned program and in every row, IS THE sha256 OF THE DUMP (.gsa) THAT YtphgmkhbhboklaaGreatDoorProg.lean LOADS. Nothing in Lean hashes anything: it is a label: what it is worth is what the hold of that sum in a sandbox is worth. -/
noncomputable def Tryz.pinned : Pinned := { name := "ytphgmkhbhboklaagreatdoor", sum := "bdc79d74e227592e169f07b70f5ce9dee8b123aba6496502b5feffa2e4dd3ae3", checked := Tryz.checked }
namespace Rows
def none {H : Type} : Left H := { results := [], args := [] }

/- WHAT THE LISTED PACKAGE-LEVEL VARIABLES READ AS WHEN THE CALL BEGINS. Each datum BY PROGRAM (the guide's laid-datum.mjs) off the statement by which the dump's own 'gosem.cut.vars' lays the variable. In a bare row this is a premise. The card (YtphgmkhbhboklaaGreatDoorCards.lean) ties it to the program's text. -/
def laid_unicode_utf8_acceptRanges {H : Type} : DataW H := .agg [.agg [.lit (.int .u8 128), .lit (.int .u8 191)], .agg [.lit (.int .u8 160), .lit (.int .u8 191)], .agg [.lit (.int .u8 128), .lit (.int .u8 159)], .agg [.lit (.int .u8 144), .lit (.int .u8 191)], .agg [.lit (.int .u8 128), .lit (.int .u8 143)], .agg [.lit (.int .u8 0), .lit (.int .u8 0)], .agg [.lit (.int .u8 0), .lit (.int .u8 0)], .agg [.lit (.int .u8 0), .lit (.int .u8 0)], .agg [.lit (.int .u8 0), .lit (.int .u8 0)], .agg [.lit (.int .u8 0), .lit (.int .u8 0)], .agg [.lit (.int .u8 0), .lit (.int .u8 0)], .agg [.lit (.int .u8 0), .lit (.int .u8 0)], .agg [.lit (.int .u8 0), .lit (.int .u8 0)], .agg [.lit (.int .u8 0), .lit (.int .u8 0)], .agg [.lit (.int .u8 0), .lit (.int .u8 0)], .agg [.lit (.int .u8 0), .lit (.int .u8 0)]]
def laid_portolan_path_classes {H : Type} : DataW H := .iface "func table" (.map [(.int .i64 1, .iface "func" (.lit (.string [112, 111, 114, 116, 111, 108, 97, 110, 47, 112, 97, 116, 104, 46, 99, 108, 97, 115, 115, 101, 115, 36, 49]))), (.int .i64 2, .iface "func" (.lit (.string [112, 111, 114, 116, 111, 108, 97, 110, 47, 112, 97, 116, 104, 46, 99, 108, 97, 115, 115, 101, 115, 36, 50]))), (.int .i64 3, .iface "func" (.lit (.string [112, 111, 114, 116, 111, 108, 97, 110, 47, 112, 97, 116, 104, 46, 99, 108, 97, 115, 115, 101, 115, 36, 51])))])
def laid_portolan_tar_types {H : Type} : DataW H := .map [(.int .i64 1, .lit (.int .u8 53)), (.int .i64 2, .lit (.int .u8 48)), (.int .i64 3, .lit (.int .u8 50)), (.int .i64 4, .lit (.int .u8 54))]
/-- One of Go's own tables, pinned by name: the form's constant. -/
def laid_unicode_utf8_first : DataW Unit := Go.Pinned.utf8First

/-- 'portolanlaw18.TreeWell': WHATEVER THE INPUT: true; the input reads as it did. -/
def treeWellSpec : ChangeSpec := { name := "treeWell", fn := fun _ => fun
  | [d1, d2, d3] => { results := [.lit (.bool true)], args := [d1, d2, d3] }
  | _ => none }
def treeWellRow : OpenClaim := { program := "ytphgmkhbhboklaagreatdoor", sum := "bdc79d74e227592e169f07b70f5ce9dee8b123aba6496502b5feffa2e4dd3ae3", func := "portolan/portolanlaw18.TreeWell", spec := "treeWell", inPlace := ["internal/bytealg.CountString", "internal/bytealg.IndexByteString", "internal/bytealg.IndexString"], unfollowed := true, recurses := true, named := ["portolan/path.classes", "unicode/utf8.first", "unicode/utf8.acceptRanges", "internal/bytealg.MaxLen", "portolan/tar.types"], apart := false, laid := [("unicode/utf8.acceptRanges", laid_unicode_utf8_acceptRanges), ("portolan/path.classes", laid_portolan_path_classes), ("portolan/tar.types", laid_portolan_tar_types), ("unicode/utf8.first", laid_unicode_utf8_first)] }
def TreeWellSaid : Prop := treeWellRow.holds Tryz.pinned (OpenSpec.ofChange treeWellSpec)

/-- ITS FALSE NEIGHBOUR: 'it returns false'. Refute it at one input. -/
def treeWellWrong : ChangeSpec := { name := "treeWell", fn := fun _ => fun
  | [d1, d2, d3] => { results := [.lit (.bool false)], args := [d1, d2, d3] }
  | _ => none }
def TreeWellWrongFalsely : Prop := treeWellRow.holds Tryz.pinned (OpenSpec.ofChange treeWellWrong)

/-- 'portolanlaw18.TreeTells': WHATEVER THE INPUT: true; the input reads as it did. -/
def treeTellsSpec : ChangeSpec := { name := "treeTells", fn := fun _ => fun
  | [d1, d2, d3] => { results := [.lit (.bool true)], args := [d1, d2, d3] }
  | _ => none }
def treeTellsRow : OpenClaim := { program := "ytphgmkhbhboklaagreatdoor", sum := "bdc79d74e227592e169f07b70f5ce9dee8b123aba6496502b5feffa2e4dd3ae3", func := "portolan/portolanlaw18.TreeTells", spec := "treeTells", inPlace := ["internal/bytealg.CountString", "internal/bytealg.IndexByteString", "internal/bytealg.IndexString"], unfollowed := true, recurses := true, named := ["portolan/path.classes", "unicode/utf8.first", "unicode/utf8.acceptRanges", "internal/bytealg.MaxLen", "portolan/tar.types"], apart := false, laid := [("unicode/utf8.acceptRanges", laid_unicode_utf8_acceptRanges), ("portolan/path.classes", laid_portolan_path_classes), ("portolan/tar.types", laid_portolan_tar_types), ("unicode/utf8.first", laid_unicode_utf8_first)] }
def TreeTellsSaid : Prop := treeTellsRow.holds Tryz.pinned (OpenSpec.ofChange treeTellsSpec)

/-- ITS FALSE NEIGHBOUR: 'it returns false'. Refute it at one input. -/
def treeTellsWrong : ChangeSpec := { name := "treeTells", fn := fun _ => fun
  | [d1, d2, d3] => { results := [.lit (.bool false)], args := [d1, d2, d3] }
  | _ => none }
def TreeTellsWrongFalsely : Prop := treeTellsRow.holds Tryz.pinned (OpenSpec.ofChange treeTellsWrong)

/-- 'portolanlaw18.TreeKnown': WHATEVER THE INPUT: true; the input reads as it did. -/
def treeKnownSpec : ChangeSpec := { name := "treeKnown", fn := fun _ => fun
  | [] => { results := [.lit (.bool true)], args := [] }
  | _ => none }
def treeKnownRow : OpenClaim := { program := "ytphgmkhbhboklaagreatdoor", sum := "bdc79d74e227592e169f07b70f5ce9dee8b123aba6496502b5feffa2e4dd3ae3", func := "portolan/portolanlaw18.TreeKnown", spec := "treeKnown", inPlace := ["internal/bytealg.CountString", "internal/bytealg.IndexByteString", "internal/bytealg.IndexString"], unfollowed := true, recurses := true, named := ["portolan/path.classes", "unicode/utf8.first", "unicode/utf8.acceptRanges", "internal/bytealg.MaxLen", "portolan/tar.types"], apart := false, laid := [("unicode/utf8.acceptRanges", laid_unicode_utf8_acceptRanges), ("portolan/path.classes", laid_portolan_path_classes), ("portolan/tar.types", laid_portolan_tar_types), ("unicode/utf8.first", laid_unicode_utf8_first)] }
def TreeKnownSaid : Prop := treeKnownRow.holds Tryz.pinned (OpenSpec.ofChange treeKnownSpec)

/-- ITS FALSE NEIGHBOUR: 'it returns false'. Refute it at one input. -/
def treeKnownWrong : ChangeSpec := { name := "treeKnown", fn := fun _ => fun
  | [] => { results := [.lit (.bool false)], args := [] }
  | _ => none }
def TreeKnownWrongFalsely : Prop := treeKnownRow.holds Tryz.pinned (OpenSpec.ofChange treeKnownWrong)

/- THE SECOND FORM. 'bulk': how many values and letters a reading holds, each counted each time it is reached (what is shared counts as often as it is met; a slice's spare places count too). A statement '..UptoSaid' is the law's where the arguments, and the package variables that the reading takes, are together of bulk at most 1048576: NARROWER than '..Said'. Prove '..Said' where nothing that the law and all that it calls make is longer than what came in: it says more and counts as full. Else prove '..UptoSaid'. A law counts once. -/
mutual
def uptoBulk {H : Type} : DataW H → Nat
  | .lit (.string bytes) => bytes.length + 1
  | .lit _ => 1
  | .nil => 1
  | .ptr d => uptoBulk d + 1
  | .slice elems spare => uptoBulkAll elems + uptoBulkAll spare + 1
  | .agg parts => uptoBulkAll parts + 1
  | .iface _ d => uptoBulk d + 1
  | .map entries => uptoBulkEntries entries + 1
  | .held _ => 1
def uptoBulkAll {H : Type} : List (DataW H) → Nat
  | [] => 0
  | d :: r => uptoBulk d + uptoBulkAll r
def uptoBulkEntries {H : Type} : List (Lit × DataW H) → Nat
  | [] => 0
  | x :: r => uptoBulkEntry x + uptoBulkEntries r
def uptoBulkEntry {H : Type} : Lit × DataW H → Nat
  | (.string bytes, d) => bytes.length + uptoBulk d + 1
  | (_, d) => uptoBulk d + 1
 end
def uptoSmall : (H : Type) → List (DataW H) → Bool := fun _ ds => decide (uptoBulkAll ds ≤ 1048576)
def OpenSpec.upto (s : _root_.Go.ChangeSpec) : _root_.Go.OpenSpec := { _root_.Go.OpenSpec.ofChange s with cond := some uptoSmall }

/-- 'portolanlaw18.TreeWell', WHERE WHAT IT READS IS OF BULK AT MOST 1048576: true; the input reads as it did. -/
def treeWellUptoRow : OpenClaim := { program := "ytphgmkhbhboklaagreatdoor", sum := "bdc79d74e227592e169f07b70f5ce9dee8b123aba6496502b5feffa2e4dd3ae3", func := "portolan/portolanlaw18.TreeWell", spec := "treeWell", inPlace := ["internal/bytealg.CountString", "internal/bytealg.IndexByteString", "internal/bytealg.IndexString"], unfollowed := true, recurses := true, named := ["portolan/path.classes", "unicode/utf8.first", "unicode/utf8.acceptRanges", "internal/bytealg.MaxLen", "portolan/tar.types"], apart := false, laid := [("unicode/utf8.acceptRanges", laid_unicode_utf8_acceptRanges), ("portolan/path.classes", laid_portolan_path_classes), ("portolan/tar.types", laid_portolan_tar_types), ("unicode/utf8.first", laid_unicode_utf8_first)], narrowed := true }
def TreeWellUptoSaid : Prop := treeWellUptoRow.holds Tryz.pinned (OpenSpec.upto treeWellSpec)

/-- 'portolanlaw18.TreeTells', WHERE WHAT IT READS IS OF BULK AT MOST 1048576: true; the input reads as it did. -/
def treeTellsUptoRow : OpenClaim := { program := "ytphgmkhbhboklaagreatdoor", sum := "bdc79d74e227592e169f07b70f5ce9dee8b123aba6496502b5feffa2e4dd3ae3", func := "portolan/portolanlaw18.TreeTells", spec := "treeTells", inPlace := ["internal/bytealg.CountString", "internal/bytealg.IndexByteString", "internal/bytealg.IndexString"], unfollowed := true, recurses := true, named := ["portolan/path.classes", "unicode/utf8.first", "unicode/utf8.acceptRanges", "internal/bytealg.MaxLen", "portolan/tar.types"], apart := false, laid := [("unicode/utf8.acceptRanges", laid_unicode_utf8_acceptRanges), ("portolan/path.classes", laid_portolan_path_classes), ("portolan/tar.types", laid_portolan_tar_types), ("unicode/utf8.first", laid_unicode_utf8_first)], narrowed := true }
def TreeTellsUptoSaid : Prop := treeTellsUptoRow.holds Tryz.pinned (OpenSpec.upto treeTellsSpec)

/-- 'portolanlaw18.TreeKnown', WHERE WHAT IT READS IS OF BULK AT MOST 1048576: true; the input reads as it did. -/
def treeKnownUptoRow : OpenClaim := { program := "ytphgmkhbhboklaagreatdoor", sum := "bdc79d74e227592e169f07b70f5ce9dee8b123aba6496502b5feffa2e4dd3ae3", func := "portolan/portolanlaw18.TreeKnown", spec := "treeKnown", inPlace := ["internal/bytealg.CountString", "internal/bytealg.IndexByteString", "internal/bytealg.IndexString"], unfollowed := true, recurses := true, named := ["portolan/path.classes", "unicode/utf8.first", "unicode/utf8.acceptRanges", "internal/bytealg.MaxLen", "portolan/tar.types"], apart := false, laid := [("unicode/utf8.acceptRanges", laid_unicode_utf8_acceptRanges), ("portolan/path.classes", laid_portolan_path_classes), ("portolan/tar.types", laid_portolan_tar_types), ("unicode/utf8.first", laid_unicode_utf8_first)], narrowed := true }
def TreeKnownUptoSaid : Prop := treeKnownUptoRow.holds Tryz.pinned (OpenSpec.upto treeKnownSpec)

end Rows
end Go.Proofs.YtphgmkhbhboklaaGreatDoor

/-
  NARROWER THAN 'FOR EVERY INPUT', by the rows' own cells (each row's printed sentence says how): DifferLeads: laid · DifferChain: laid · DifferKnown: laid · DifferTells: laid · DifferEdges: laid.
  DERIVED. THE GIVEN ROWS OF THIS SEAT. 5 by the template 'for every input the law returns true; each argument reads behind the call as it read before'; 0 by the template 'total and deterministic' (their statements: YtmnknmpfkjhgbaaGreatDoorTotals.lean).
  GIVEN WITH THE SEED: the statements are not yours to turn. If you find one false, say at which input.
  Laid BY PROGRAM, IN A SANDBOX (cutbox-rows.mjs): the forced cells as the released guide's own fill.sh prints them over the translation aaa4668295b79768… (all of the seat's roots in one cut). By AI agents, Wed Nov 11 2026. No macro, syntax, notation, axiom, sorry.
-/
import Derived.Test.YtmnknmpfkjhgbaaGreatDoorChecked
import GoSem.PinnedTables
import GoSem.Claim
import GoSem.ClaimJoined
import GoSem.ClaimMapViews
import Derived.JoinedTies
import Derived.KernelRfl
namespace Go.Proofs.YtmnknmpfkjhgbaaGreatDoor
/- THE CELL 'sum', in the pinned program and in every row, IS THE sha256 OF THE DUMP (.gsa) THAT YtmnknmpfkjhgbaaGreatDoorProg.lean LOADS. Nothing in Lean hashes anything: it is a label: what it is worth is what the hold of that sum in a sandbox is worth. -/
noncomputable def Tryz.pinned : Pinned := { name := "ytmnknmpfkjhgbaagreatdoor", sum := "aaa4668295b797682220ad5f87d43681b113beafc0e8ff66d76711e398158e5b", checked := Tryz.checked }
namespace Rows
def none {H : Type} : Left H := { results := [], args := [] }

/- WHAT THE LISTED PACKAGE-LEVEL VARIABLES READ AS WHEN THE CALL BEGINS. Each datum BY PROGRAM (the guide's laid-datum.mjs) off the statement by which the dump's own 'gosem.cut.vars' lays the variable. In a bare row this is a premise. The card (YtmnknmpfkjhgbaaGreatDoorCards.lean) ties it to the program's text. -/
def laid_unicode_utf8_acceptRanges {H : Type} : DataW H := .agg [.agg [.lit (.int .u8 128), .lit (.int .u8 191)], .agg [.lit (.int .u8 160), .lit (.int .u8 191)], .agg [.lit (.int .u8 128), .lit (.int .u8 159)], .agg [.lit (.int .u8 144), .lit (.int .u8 191)], .agg [.lit (.int .u8 128), .lit (.int .u8 143)], .agg [.lit (.int .u8 0), .lit (.int .u8 0)], .agg [.lit (.int .u8 0), .lit (.int .u8 0)], .agg [.lit (.int .u8 0), .lit (.int .u8 0)], .agg [.lit (.int .u8 0), .lit (.int .u8 0)], .agg [.lit (.int .u8 0), .lit (.int .u8 0)], .agg [.lit (.int .u8 0), .lit (.int .u8 0)], .agg [.lit (.int .u8 0), .lit (.int .u8 0)], .agg [.lit (.int .u8 0), .lit (.int .u8 0)], .agg [.lit (.int .u8 0), .lit (.int .u8 0)], .agg [.lit (.int .u8 0), .lit (.int .u8 0)], .agg [.lit (.int .u8 0), .lit (.int .u8 0)]]
def laid_portolan_path_classes {H : Type} : DataW H := .iface "func table" (.map [(.int .i64 1, .iface "func" (.lit (.string [112, 111, 114, 116, 111, 108, 97, 110, 47, 112, 97, 116, 104, 46, 99, 108, 97, 115, 115, 101, 115, 36, 49]))), (.int .i64 2, .iface "func" (.lit (.string [112, 111, 114, 116, 111, 108, 97, 110, 47, 112, 97, 116, 104, 46, 99, 108, 97, 115, 115, 101, 115, 36, 50]))), (.int .i64 3, .iface "func" (.lit (.string [112, 111, 114, 116, 111, 108, 97, 110, 47, 112, 97, 116, 104, 46, 99, 108, 97, 115, 115, 101, 115, 36, 51])))])
def laid_portolan_tar_types {H : Type} : DataW H := .map [(.int .i64 1, .lit (.int .u8 53)), (.int .i64 2, .lit (.int .u8 48)), (.int .i64 3, .lit (.int .u8 50)), (.int .i64 4, .lit (.int .u8 54))]
/-- One of Go's own tables, pinned by name: the form's constant. -/
def laid_unicode_utf8_first : DataW Unit := Go.Pinned.utf8First

/-- 'portolanlaw20.DifferLeads': WHATEVER THE INPUT: true; the input reads as it did. -/
def differLeadsSpec : ChangeSpec := { name := "differLeads", fn := fun _ => fun
  | [d1, d2, d3, d4, d5] => { results := [.lit (.bool true)], args := [d1, d2, d3, d4, d5] }
  | _ => none }
def differLeadsRow : OpenClaim := { program := "ytmnknmpfkjhgbaagreatdoor", sum := "aaa4668295b797682220ad5f87d43681b113beafc0e8ff66d76711e398158e5b", func := "portolan/portolanlaw20.DifferLeads", spec := "differLeads", inPlace := ["internal/bytealg.CountString", "internal/bytealg.IndexByteString", "internal/bytealg.IndexString", "internal/abi.NoEscape", "internal/bytealg.MakeNoZero"], unfollowed := true, recurses := true, named := ["portolan/path.classes", "unicode/utf8.first", "unicode/utf8.acceptRanges", "internal/bytealg.MaxLen", "portolan/tar.types"], apart := false, laid := [("unicode/utf8.acceptRanges", laid_unicode_utf8_acceptRanges), ("portolan/path.classes", laid_portolan_path_classes), ("portolan/tar.types", laid_portolan_tar_types), ("unicode/utf8.first", laid_unicode_utf8_first)] }
def DifferLeadsSaid : Prop := differLeadsRow.holds Tryz.pinned (OpenSpec.ofChange differLeadsSpec)

/-- ITS FALSE NEIGHBOUR: 'it returns false'. Refute it at one input. -/
def differLeadsWrong : ChangeSpec := { name := "differLeads", fn := fun _ => fun
  | [d1, d2, d3, d4, d5] => { results := [.lit (.bool false)], args := [d1, d2, d3, d4, d5] }
  | _ => none }
def DifferLeadsWrongFalsely : Prop := differLeadsRow.holds Tryz.pinned (OpenSpec.ofChange differLeadsWrong)

/-- 'portolanlaw20.DifferChain': WHATEVER THE INPUT: true; the input reads as it did. -/
def differChainSpec : ChangeSpec := { name := "differChain", fn := fun _ => fun
  | [d1, d2, d3] => { results := [.lit (.bool true)], args := [d1, d2, d3] }
  | _ => none }
def differChainRow : OpenClaim := { program := "ytmnknmpfkjhgbaagreatdoor", sum := "aaa4668295b797682220ad5f87d43681b113beafc0e8ff66d76711e398158e5b", func := "portolan/portolanlaw20.DifferChain", spec := "differChain", inPlace := ["internal/bytealg.CountString", "internal/bytealg.IndexByteString", "internal/bytealg.IndexString", "internal/abi.NoEscape", "internal/bytealg.MakeNoZero"], unfollowed := true, recurses := true, named := ["portolan/path.classes", "unicode/utf8.first", "unicode/utf8.acceptRanges", "internal/bytealg.MaxLen", "portolan/tar.types"], apart := false, laid := [("unicode/utf8.acceptRanges", laid_unicode_utf8_acceptRanges), ("portolan/path.classes", laid_portolan_path_classes), ("portolan/tar.types", laid_portolan_tar_types), ("unicode/utf8.first", laid_unicode_utf8_first)] }
def DifferChainSaid : Prop := differChainRow.holds Tryz.pinned (OpenSpec.ofChange differChainSpec)

/-- ITS FALSE NEIGHBOUR: 'it returns false'. Refute it at one input. -/
def differChainWrong : ChangeSpec := { name := "differChain", fn := fun _ => fun
  | [d1, d2, d3] => { results := [.lit (.bool false)], args := [d1, d2, d3] }
  | _ => none }
def DifferChainWrongFalsely : Prop := differChainRow.holds Tryz.pinned (OpenSpec.ofChange differChainWrong)

/-- 'portolanlaw20.DifferKnown': WHATEVER THE INPUT: true; the input reads as it did. -/
def differKnownSpec : ChangeSpec := { name := "differKnown", fn := fun _ => fun
  | [] => { results := [.lit (.bool true)], args := [] }
  | _ => none }
def differKnownRow : OpenClaim := { program := "ytmnknmpfkjhgbaagreatdoor", sum := "aaa4668295b797682220ad5f87d43681b113beafc0e8ff66d76711e398158e5b", func := "portolan/portolanlaw20.DifferKnown", spec := "differKnown", inPlace := ["internal/bytealg.CountString", "internal/bytealg.IndexByteString", "internal/bytealg.IndexString", "internal/abi.NoEscape", "internal/bytealg.MakeNoZero"], unfollowed := true, recurses := true, named := ["portolan/path.classes", "unicode/utf8.first", "unicode/utf8.acceptRanges", "internal/bytealg.MaxLen", "portolan/tar.types"], apart := false, laid := [("unicode/utf8.acceptRanges", laid_unicode_utf8_acceptRanges), ("portolan/path.classes", laid_portolan_path_classes), ("portolan/tar.types", laid_portolan_tar_types), ("unicode/utf8.first", laid_unicode_utf8_first)] }
def DifferKnownSaid : Prop := differKnownRow.holds Tryz.pinned (OpenSpec.ofChange differKnownSpec)

/-- ITS FALSE NEIGHBOUR: 'it returns false'. Refute it at one input. -/
def differKnownWrong : ChangeSpec := { name := "differKnown", fn := fun _ => fun
  | [] => { results := [.lit (.bool false)], args := [] }
  | _ => none }
def DifferKnownWrongFalsely : Prop := differKnownRow.holds Tryz.pinned (OpenSpec.ofChange differKnownWrong)

/-- 'portolanlaw20.DifferTells': WHATEVER THE INPUT: true; the input reads as it did. -/
def differTellsSpec : ChangeSpec := { name := "differTells", fn := fun _ => fun
  | [d1, d2, d3] => { results := [.lit (.bool true)], args := [d1, d2, d3] }
  | _ => none }
def differTellsRow : OpenClaim := { program := "ytmnknmpfkjhgbaagreatdoor", sum := "aaa4668295b797682220ad5f87d43681b113beafc0e8ff66d76711e398158e5b", func := "portolan/portolanlaw20.DifferTells", spec := "differTells", inPlace := ["internal/bytealg.CountString", "internal/bytealg.IndexByteString", "internal/bytealg.IndexString", "internal/abi.NoEscape", "internal/bytealg.MakeNoZero"], unfollowed := true, recurses := true, named := ["portolan/path.classes", "unicode/utf8.first", "unicode/utf8.acceptRanges", "internal/bytealg.MaxLen", "portolan/tar.types"], apart := false, laid := [("unicode/utf8.acceptRanges", laid_unicode_utf8_acceptRanges), ("portolan/path.classes", laid_portolan_path_classes), ("portolan/tar.types", laid_portolan_tar_types), ("unicode/utf8.first", laid_unicode_utf8_first)] }
def DifferTellsSaid : Prop := differTellsRow.holds Tryz.pinned (OpenSpec.ofChange differTellsSpec)

/-- ITS FALSE NEIGHBOUR: 'it returns false'. Refute it at one input. -/
def differTellsWrong : ChangeSpec := { name := "differTells", fn := fun _ => fun
  | [d1, d2, d3] => { results := [.lit (.bool false)], args := [d1, d2, d3] }
  | _ => none }
def DifferTellsWrongFalsely : Prop := differTellsRow.holds Tryz.pinned (OpenSpec.ofChange differTellsWrong)

/-- 'portolanlaw20.DifferEdges': WHATEVER THE INPUT: true; the input reads as it did. -/
def differEdgesSpec : ChangeSpec := { name := "differEdges", fn := fun _ => fun
  | [d1, d2] => { results := [.lit (.bool true)], args := [d1, d2] }
  | _ => none }
def differEdgesRow : OpenClaim := { program := "ytmnknmpfkjhgbaagreatdoor", sum := "aaa4668295b797682220ad5f87d43681b113beafc0e8ff66d76711e398158e5b", func := "portolan/portolanlaw20.DifferEdges", spec := "differEdges", inPlace := ["internal/bytealg.CountString", "internal/bytealg.IndexByteString", "internal/bytealg.IndexString", "internal/abi.NoEscape", "internal/bytealg.MakeNoZero"], unfollowed := true, recurses := true, named := ["portolan/path.classes", "unicode/utf8.first", "unicode/utf8.acceptRanges", "internal/bytealg.MaxLen", "portolan/tar.types"], apart := false, laid := [("unicode/utf8.acceptRanges", laid_unicode_utf8_acceptRanges), ("portolan/path.classes", laid_portolan_path_classes), ("portolan/tar.types", laid_portolan_tar_types), ("unicode/utf8.first", laid_unicode_utf8_first)] }
def DifferEdgesSaid : Prop := differEdgesRow.holds Tryz.pinned (OpenSpec.ofChange differEdgesSpec)

/-- ITS FALSE NEIGHBOUR: 'it returns false'. Refute it at one input. -/
def differEdgesWrong : ChangeSpec := { name := "differEdges", fn := fun _ => fun
  | [d1, d2] => { results := [.lit (.bool false)], args := [d1, d2] }
  | _ => none }
def DifferEdgesWrongFalsely : Prop := differEdgesRow.holds Tryz.pinned (OpenSpec.ofChange differEdgesWrong)

/- THE SECOND FORM. 'bulk': how many values and letters a reading holds, each counted each time it is reached (what is shared counts as often as it is met; a slice's spare places count too). A statement '..UptoSaid' is the law's where the arguments, and the package variables that the reading takes, are together of bulk at most 1048576: NARROWER than '..Said'. Prove '..Said' where nothing that the law and all that it calls make is longer than what came in: it says more and counts as full. Else prove '..UptoSaid'. A law counts once. -/
mutual
def uptoBulk {H : Type} : DataW H → Nat
  | .lit (.string bytes) => bytes.length + 1
  | .lit _ => 1
  | .nil => 1
  | .ptr d => uptoBulk d + 1
  | .slice elems spare => uptoBulkAll elems + uptoBulkAll spare + 1
  | .agg parts => uptoBulkAll parts + 1
  | .iface _ d => uptoBulk d + 1
  | .map entries => uptoBulkEntries entries + 1
  | .held _ => 1
def uptoBulkAll {H : Type} : List (DataW H) → Nat
  | [] => 0
  | d :: r => uptoBulk d + uptoBulkAll r
def uptoBulkEntries {H : Type} : List (Lit × DataW H) → Nat
  | [] => 0
  | x :: r => uptoBulkEntry x + uptoBulkEntries r
def uptoBulkEntry {H : Type} : Lit × DataW H → Nat
  | (.string bytes, d) => bytes.length + uptoBulk d + 1
  | (_, d) => uptoBulk d + 1
 end
def uptoSmall : (H : Type) → List (DataW H) → Bool := fun _ ds => decide (uptoBulkAll ds ≤ 1048576)
def OpenSpec.upto (s : _root_.Go.ChangeSpec) : _root_.Go.OpenSpec := { _root_.Go.OpenSpec.ofChange s with cond := some uptoSmall }

/-- 'portolanlaw20.DifferLeads', WHERE WHAT IT READS IS OF BULK AT MOST 1048576: true; the input reads as it did. -/
def differLeadsUptoRow : OpenClaim := { program := "ytmnknmpfkjhgbaagreatdoor", sum := "aaa4668295b797682220ad5f87d43681b113beafc0e8ff66d76711e398158e5b", func := "portolan/portolanlaw20.DifferLeads", spec := "differLeads", inPlace := ["internal/bytealg.CountString", "internal/bytealg.IndexByteString", "internal/bytealg.IndexString", "internal/abi.NoEscape", "internal/bytealg.MakeNoZero"], unfollowed := true, recurses := true, named := ["portolan/path.classes", "unicode/utf8.first", "unicode/utf8.acceptRanges", "internal/bytealg.MaxLen", "portolan/tar.types"], apart := false, laid := [("unicode/utf8.acceptRanges", laid_unicode_utf8_acceptRanges), ("portolan/path.classes", laid_portolan_path_classes), ("portolan/tar.types", laid_portolan_tar_types), ("unicode/utf8.first", laid_unicode_utf8_first)], narrowed := true }
def DifferLeadsUptoSaid : Prop := differLeadsUptoRow.holds Tryz.pinned (OpenSpec.upto differLeadsSpec)

/-- 'portolanlaw20.DifferChain', WHERE WHAT IT READS IS OF BULK AT MOST 1048576: true; the input reads as it did. -/
def differChainUptoRow : OpenClaim := { program := "ytmnknmpfkjhgbaagreatdoor", sum := "aaa4668295b797682220ad5f87d43681b113beafc0e8ff66d76711e398158e5b", func := "portolan/portolanlaw20.DifferChain", spec := "differChain", inPlace := ["internal/bytealg.CountString", "internal/bytealg.IndexByteString", "internal/bytealg.IndexString", "internal/abi.NoEscape", "internal/bytealg.MakeNoZero"], unfollowed := true, recurses := true, named := ["portolan/path.classes", "unicode/utf8.first", "unicode/utf8.acceptRanges", "internal/bytealg.MaxLen", "portolan/tar.types"], apart := false, laid := [("unicode/utf8.acceptRanges", laid_unicode_utf8_acceptRanges), ("portolan/path.classes", laid_portolan_path_classes), ("portolan/tar.types", laid_portolan_tar_types), ("unicode/utf8.first", laid_unicode_utf8_first)], narrowed := true }
def DifferChainUptoSaid : Prop := differChainUptoRow.holds Tryz.pinned (OpenSpec.upto differChainSpec)

/-- 'portolanlaw20.DifferKnown', WHERE WHAT IT READS IS OF BULK AT MOST 1048576: true; the input reads as it did. -/
def differKnownUptoRow : OpenClaim := { program := "ytmnknmpfkjhgbaagreatdoor", sum := "aaa4668295b797682220ad5f87d43681b113beafc0e8ff66d76711e398158e5b", func := "portolan/portolanlaw20.DifferKnown", spec := "differKnown", inPlace := ["internal/bytealg.CountString", "internal/bytealg.IndexByteString", "internal/bytealg.IndexString", "internal/abi.NoEscape", "internal/bytealg.MakeNoZero"], unfollowed := true, recurses := true, named := ["portolan/path.classes", "unicode/utf8.first", "unicode/utf8.acceptRanges", "internal/bytealg.MaxLen", "portolan/tar.types"], apart := false, laid := [("unicode/utf8.acceptRanges", laid_unicode_utf8_acceptRanges), ("portolan/path.classes", laid_portolan_path_classes), ("portolan/tar.types", laid_portolan_tar_types), ("unicode/utf8.first", laid_unicode_utf8_first)], narrowed := true }
def DifferKnownUptoSaid : Prop := differKnownUptoRow.holds Tryz.pinned (OpenSpec.upto differKnownSpec)

/-- 'portolanlaw20.DifferTells', WHERE WHAT IT READS IS OF BULK AT MOST 1048576: true; the input reads as it did. -/
def differTellsUptoRow : OpenClaim := { program := "ytmnknmpfkjhgbaagreatdoor", sum := "aaa4668295b797682220ad5f87d43681b113beafc0e8ff66d76711e398158e5b", func := "portolan/portolanlaw20.DifferTells", spec := "differTells", inPlace := ["internal/bytealg.CountString", "internal/bytealg.IndexByteString", "internal/bytealg.IndexString", "internal/abi.NoEscape", "internal/bytealg.MakeNoZero"], unfollowed := true, recurses := true, named := ["portolan/path.classes", "unicode/utf8.first", "unicode/utf8.acceptRanges", "internal/bytealg.MaxLen", "portolan/tar.types"], apart := false, laid := [("unicode/utf8.acceptRanges", laid_unicode_utf8_acceptRanges), ("portolan/path.classes", laid_portolan_path_classes), ("portolan/tar.types", laid_portolan_tar_types), ("unicode/utf8.first", laid_unicode_utf8_first)], narrowed := true }
def DifferTellsUptoSaid : Prop := differTellsUptoRow.holds Tryz.pinned (OpenSpec.upto differTellsSpec)

/-- 'portolanlaw20.DifferEdges', WHERE WHAT IT READS IS OF BULK AT MOST 1048576: true; the input reads as it did. -/
def differEdgesUptoRow : OpenClaim := { program := "ytmnknmpfkjhgbaagreatdoor", sum := "aaa4668295b797682220ad5f87d43681b113beafc0e8ff66d76711e398158e5b", func := "portolan/portolanlaw20.DifferEdges", spec := "differEdges", inPlace := ["internal/bytealg.CountString", "internal/bytealg.IndexByteString", "internal/bytealg.IndexString", "internal/abi.NoEscape", "internal/bytealg.MakeNoZero"], unfollowed := true, recurses := true, named := ["portolan/path.classes", "unicode/utf8.first", "unicode/utf8.acceptRanges", "internal/bytealg.MaxLen", "portolan/tar.types"], apart := false, laid := [("unicode/utf8.acceptRanges", laid_unicode_utf8_acceptRanges), ("portolan/path.classes", laid_portolan_path_classes), ("portolan/tar.types", laid_portolan_tar_types), ("unicode/utf8.first", laid_unicode_utf8_first)], narrowed := true }
def DifferEdgesUptoSaid : Prop := differEdgesUptoRow.holds Tryz.pinned (OpenSpec.upto differEdgesSpec)

end Rows
end Go.Proofs.YtmnknmpfkjhgbaaGreatDoor

/-
  NARROWER THAN 'FOR EVERY INPUT', by the rows' own cells (each row's printed sentence says how): PathParts: laid · PathWhite: laid · PathCalls: laid · PathClean: laid · PathKnown: laid.
  DERIVED. THE GIVEN ROWS OF THIS SEAT. 5 by the template 'for every input the law returns true; each argument reads behind the call as it read before'; 0 by the template 'total and deterministic' (their statements: YtkijhaibcnhedaaDoorTotals.lean).
  GIVEN WITH THE SEED: the statements are not yours to turn. If you find one false, say at which input.
  Laid BY PROGRAM, IN A SANDBOX (cutbox-rows.mjs): the forced cells as the released guide's own fill.sh prints them over the translation c108ddf1d8c4a5e6… (all of the seat's roots in one cut). By AI agents, Wed Nov 11 2026. No macro, syntax, notation, axiom, sorry.
-/
import Derived.Test.YtkijhaibcnhedaaDoorChecked
import GoSem.PinnedTables
import GoSem.Claim
import GoSem.ClaimJoined
import GoSem.ClaimMapViews
import Derived.JoinedTies
import Derived.KernelRfl
namespace Go.Proofs.YtkijhaibcnhedaaDoor
/- THE CELL 'sum', in the pinned program and in every row, IS THE sha256 OF THE DUMP (.gsa) THAT YtkijhaibcnhedaaDoorProg.lean LOADS. Nothing in Lean hashes anything: it is a label: what it is worth is what the hold of that sum in a sandbox is worth. -/
noncomputable def Tryd.pinned : Pinned := { name := "ytkijhaibcnhedaadoor", sum := "c108ddf1d8c4a5e6450b3a895a0dcc141541129b18e9c2532adf7b7bd97e335e", checked := Tryd.checked }
namespace Rows
def none {H : Type} : Left H := { results := [], args := [] }

/- WHAT THE LISTED PACKAGE-LEVEL VARIABLES READ AS WHEN THE CALL BEGINS. Each datum BY PROGRAM (the guide's laid-datum.mjs) off the statement by which the dump's own 'gosem.cut.vars' lays the variable. In a bare row this is a premise. The card (YtkijhaibcnhedaaDoorCards.lean) ties it to the program's text. -/
def laid_unicode_utf8_acceptRanges {H : Type} : DataW H := .agg [.agg [.lit (.int .u8 128), .lit (.int .u8 191)], .agg [.lit (.int .u8 160), .lit (.int .u8 191)], .agg [.lit (.int .u8 128), .lit (.int .u8 159)], .agg [.lit (.int .u8 144), .lit (.int .u8 191)], .agg [.lit (.int .u8 128), .lit (.int .u8 143)], .agg [.lit (.int .u8 0), .lit (.int .u8 0)], .agg [.lit (.int .u8 0), .lit (.int .u8 0)], .agg [.lit (.int .u8 0), .lit (.int .u8 0)], .agg [.lit (.int .u8 0), .lit (.int .u8 0)], .agg [.lit (.int .u8 0), .lit (.int .u8 0)], .agg [.lit (.int .u8 0), .lit (.int .u8 0)], .agg [.lit (.int .u8 0), .lit (.int .u8 0)], .agg [.lit (.int .u8 0), .lit (.int .u8 0)], .agg [.lit (.int .u8 0), .lit (.int .u8 0)], .agg [.lit (.int .u8 0), .lit (.int .u8 0)], .agg [.lit (.int .u8 0), .lit (.int .u8 0)]]
def laid_portolan_path_classes {H : Type} : DataW H := .iface "func table" (.map [(.int .i64 1, .iface "func" (.lit (.string [112, 111, 114, 116, 111, 108, 97, 110, 47, 112, 97, 116, 104, 46, 99, 108, 97, 115, 115, 101, 115, 36, 49]))), (.int .i64 2, .iface "func" (.lit (.string [112, 111, 114, 116, 111, 108, 97, 110, 47, 112, 97, 116, 104, 46, 99, 108, 97, 115, 115, 101, 115, 36, 50]))), (.int .i64 3, .iface "func" (.lit (.string [112, 111, 114, 116, 111, 108, 97, 110, 47, 112, 97, 116, 104, 46, 99, 108, 97, 115, 115, 101, 115, 36, 51])))])
/-- One of Go's own tables, pinned by name: the form's constant. -/
def laid_unicode_utf8_first : DataW Unit := Go.Pinned.utf8First

/-- 'portolanlaw11.PathParts': WHATEVER THE INPUT: true; the input reads as it did. -/
def pathPartsSpec : ChangeSpec := { name := "pathParts", fn := fun _ => fun
  | [d] => { results := [.lit (.bool true)], args := [d] }
  | _ => none }
def pathPartsRow : OpenClaim := { program := "ytkijhaibcnhedaadoor", sum := "c108ddf1d8c4a5e6450b3a895a0dcc141541129b18e9c2532adf7b7bd97e335e", func := "portolan/portolanlaw11.PathParts", spec := "pathParts", inPlace := ["internal/bytealg.IndexByteString", "internal/bytealg.IndexString", "internal/abi.NoEscape", "internal/bytealg.MakeNoZero", "internal/bytealg.CountString"], unfollowed := true, recurses := true, named := ["unicode/utf8.first", "unicode/utf8.acceptRanges", "internal/bytealg.MaxLen", "portolan/path.classes"], apart := false, laid := [("unicode/utf8.acceptRanges", laid_unicode_utf8_acceptRanges), ("portolan/path.classes", laid_portolan_path_classes), ("unicode/utf8.first", laid_unicode_utf8_first)] }
def PathPartsSaid : Prop := pathPartsRow.holds Tryd.pinned (OpenSpec.ofChange pathPartsSpec)

/-- ITS FALSE NEIGHBOUR: 'it returns false'. Refute it at one input. -/
def pathPartsWrong : ChangeSpec := { name := "pathParts", fn := fun _ => fun
  | [d] => { results := [.lit (.bool false)], args := [d] }
  | _ => none }
def PathPartsWrongFalsely : Prop := pathPartsRow.holds Tryd.pinned (OpenSpec.ofChange pathPartsWrong)

/-- 'portolanlaw11.PathWhite': WHATEVER THE INPUT: true; the input reads as it did. -/
def pathWhiteSpec : ChangeSpec := { name := "pathWhite", fn := fun _ => fun
  | [d] => { results := [.lit (.bool true)], args := [d] }
  | _ => none }
def pathWhiteRow : OpenClaim := { program := "ytkijhaibcnhedaadoor", sum := "c108ddf1d8c4a5e6450b3a895a0dcc141541129b18e9c2532adf7b7bd97e335e", func := "portolan/portolanlaw11.PathWhite", spec := "pathWhite", inPlace := ["internal/bytealg.CountString", "internal/bytealg.IndexByteString", "internal/bytealg.IndexString", "internal/abi.NoEscape", "internal/bytealg.MakeNoZero"], unfollowed := true, recurses := true, named := ["unicode/utf8.first", "unicode/utf8.acceptRanges", "internal/bytealg.MaxLen", "portolan/path.classes"], apart := false, laid := [("unicode/utf8.acceptRanges", laid_unicode_utf8_acceptRanges), ("portolan/path.classes", laid_portolan_path_classes), ("unicode/utf8.first", laid_unicode_utf8_first)] }
def PathWhiteSaid : Prop := pathWhiteRow.holds Tryd.pinned (OpenSpec.ofChange pathWhiteSpec)

/-- ITS FALSE NEIGHBOUR: 'it returns false'. Refute it at one input. -/
def pathWhiteWrong : ChangeSpec := { name := "pathWhite", fn := fun _ => fun
  | [d] => { results := [.lit (.bool false)], args := [d] }
  | _ => none }
def PathWhiteWrongFalsely : Prop := pathWhiteRow.holds Tryd.pinned (OpenSpec.ofChange pathWhiteWrong)

/-- 'portolanlaw11.PathCalls': WHATEVER THE INPUT: true; the input reads as it did. -/
def pathCallsSpec : ChangeSpec := { name := "pathCalls", fn := fun _ => fun
  | [d1, d2] => { results := [.lit (.bool true)], args := [d1, d2] }
  | _ => none }
def pathCallsRow : OpenClaim := { program := "ytkijhaibcnhedaadoor", sum := "c108ddf1d8c4a5e6450b3a895a0dcc141541129b18e9c2532adf7b7bd97e335e", func := "portolan/portolanlaw11.PathCalls", spec := "pathCalls", inPlace := ["internal/bytealg.CountString", "internal/bytealg.IndexByteString", "internal/bytealg.IndexString", "internal/abi.NoEscape", "internal/bytealg.MakeNoZero"], unfollowed := true, recurses := true, named := ["unicode/utf8.first", "unicode/utf8.acceptRanges", "internal/bytealg.MaxLen", "portolan/path.classes"], apart := false, laid := [("unicode/utf8.acceptRanges", laid_unicode_utf8_acceptRanges), ("portolan/path.classes", laid_portolan_path_classes), ("unicode/utf8.first", laid_unicode_utf8_first)] }
def PathCallsSaid : Prop := pathCallsRow.holds Tryd.pinned (OpenSpec.ofChange pathCallsSpec)

/-- ITS FALSE NEIGHBOUR: 'it returns false'. Refute it at one input. -/
def pathCallsWrong : ChangeSpec := { name := "pathCalls", fn := fun _ => fun
  | [d1, d2] => { results := [.lit (.bool false)], args := [d1, d2] }
  | _ => none }
def PathCallsWrongFalsely : Prop := pathCallsRow.holds Tryd.pinned (OpenSpec.ofChange pathCallsWrong)

/-- 'portolanlaw11.PathClean': WHATEVER THE INPUT: true; the input reads as it did. -/
def pathCleanSpec : ChangeSpec := { name := "pathClean", fn := fun _ => fun
  | [d] => { results := [.lit (.bool true)], args := [d] }
  | _ => none }
def pathCleanRow : OpenClaim := { program := "ytkijhaibcnhedaadoor", sum := "c108ddf1d8c4a5e6450b3a895a0dcc141541129b18e9c2532adf7b7bd97e335e", func := "portolan/portolanlaw11.PathClean", spec := "pathClean", inPlace := ["internal/bytealg.CountString", "internal/bytealg.IndexByteString", "internal/bytealg.IndexString", "internal/abi.NoEscape", "internal/bytealg.MakeNoZero"], unfollowed := true, recurses := true, named := ["unicode/utf8.first", "unicode/utf8.acceptRanges", "internal/bytealg.MaxLen", "portolan/path.classes"], apart := false, laid := [("unicode/utf8.acceptRanges", laid_unicode_utf8_acceptRanges), ("portolan/path.classes", laid_portolan_path_classes), ("unicode/utf8.first", laid_unicode_utf8_first)] }
def PathCleanSaid : Prop := pathCleanRow.holds Tryd.pinned (OpenSpec.ofChange pathCleanSpec)

/-- ITS FALSE NEIGHBOUR: 'it returns false'. Refute it at one input. -/
def pathCleanWrong : ChangeSpec := { name := "pathClean", fn := fun _ => fun
  | [d] => { results := [.lit (.bool false)], args := [d] }
  | _ => none }
def PathCleanWrongFalsely : Prop := pathCleanRow.holds Tryd.pinned (OpenSpec.ofChange pathCleanWrong)

/-- 'portolanlaw11.PathKnown': WHATEVER THE INPUT: true; the input reads as it did. -/
def pathKnownSpec : ChangeSpec := { name := "pathKnown", fn := fun _ => fun
  | [] => { results := [.lit (.bool true)], args := [] }
  | _ => none }
def pathKnownRow : OpenClaim := { program := "ytkijhaibcnhedaadoor", sum := "c108ddf1d8c4a5e6450b3a895a0dcc141541129b18e9c2532adf7b7bd97e335e", func := "portolan/portolanlaw11.PathKnown", spec := "pathKnown", inPlace := ["internal/abi.NoEscape", "internal/bytealg.MakeNoZero", "internal/bytealg.IndexByteString", "internal/bytealg.IndexString", "internal/bytealg.CountString"], unfollowed := true, recurses := true, named := ["portolan/path.classes", "unicode/utf8.first", "unicode/utf8.acceptRanges", "internal/bytealg.MaxLen"], apart := false, laid := [("unicode/utf8.acceptRanges", laid_unicode_utf8_acceptRanges), ("portolan/path.classes", laid_portolan_path_classes), ("unicode/utf8.first", laid_unicode_utf8_first)] }
def PathKnownSaid : Prop := pathKnownRow.holds Tryd.pinned (OpenSpec.ofChange pathKnownSpec)

/-- ITS FALSE NEIGHBOUR: 'it returns false'. Refute it at one input. -/
def pathKnownWrong : ChangeSpec := { name := "pathKnown", fn := fun _ => fun
  | [] => { results := [.lit (.bool false)], args := [] }
  | _ => none }
def PathKnownWrongFalsely : Prop := pathKnownRow.holds Tryd.pinned (OpenSpec.ofChange pathKnownWrong)

/- THE SECOND FORM. 'bulk': how many values and letters a reading holds, each counted each time it is reached (what is shared counts as often as it is met; a slice's spare places count too). A statement '..UptoSaid' is the law's where the arguments, and the package variables that the reading takes, are together of bulk at most 1048576: NARROWER than '..Said'. Prove '..Said' where nothing that the law and all that it calls make is longer than what came in: it says more and counts as full. Else prove '..UptoSaid'. A law counts once. -/
mutual
def uptoBulk {H : Type} : DataW H → Nat
  | .lit (.string bytes) => bytes.length + 1
  | .lit _ => 1
  | .nil => 1
  | .ptr d => uptoBulk d + 1
  | .slice elems spare => uptoBulkAll elems + uptoBulkAll spare + 1
  | .agg parts => uptoBulkAll parts + 1
  | .iface _ d => uptoBulk d + 1
  | .map entries => uptoBulkEntries entries + 1
  | .held _ => 1
def uptoBulkAll {H : Type} : List (DataW H) → Nat
  | [] => 0
  | d :: r => uptoBulk d + uptoBulkAll r
def uptoBulkEntries {H : Type} : List (Lit × DataW H) → Nat
  | [] => 0
  | x :: r => uptoBulkEntry x + uptoBulkEntries r
def uptoBulkEntry {H : Type} : Lit × DataW H → Nat
  | (.string bytes, d) => bytes.length + uptoBulk d + 1
  | (_, d) => uptoBulk d + 1
 end
def uptoSmall : (H : Type) → List (DataW H) → Bool := fun _ ds => decide (uptoBulkAll ds ≤ 1048576)
def OpenSpec.upto (s : _root_.Go.ChangeSpec) : _root_.Go.OpenSpec := { _root_.Go.OpenSpec.ofChange s with cond := some uptoSmall }

/-- 'portolanlaw11.PathParts', WHERE WHAT IT READS IS OF BULK AT MOST 1048576: true; the input reads as it did. -/
def pathPartsUptoRow : OpenClaim := { program := "ytkijhaibcnhedaadoor", sum := "c108ddf1d8c4a5e6450b3a895a0dcc141541129b18e9c2532adf7b7bd97e335e", func := "portolan/portolanlaw11.PathParts", spec := "pathParts", inPlace := ["internal/bytealg.IndexByteString", "internal/bytealg.IndexString", "internal/abi.NoEscape", "internal/bytealg.MakeNoZero", "internal/bytealg.CountString"], unfollowed := true, recurses := true, named := ["unicode/utf8.first", "unicode/utf8.acceptRanges", "internal/bytealg.MaxLen", "portolan/path.classes"], apart := false, laid := [("unicode/utf8.acceptRanges", laid_unicode_utf8_acceptRanges), ("portolan/path.classes", laid_portolan_path_classes), ("unicode/utf8.first", laid_unicode_utf8_first)], narrowed := true }
def PathPartsUptoSaid : Prop := pathPartsUptoRow.holds Tryd.pinned (OpenSpec.upto pathPartsSpec)

/-- 'portolanlaw11.PathWhite', WHERE WHAT IT READS IS OF BULK AT MOST 1048576: true; the input reads as it did. -/
def pathWhiteUptoRow : OpenClaim := { program := "ytkijhaibcnhedaadoor", sum := "c108ddf1d8c4a5e6450b3a895a0dcc141541129b18e9c2532adf7b7bd97e335e", func := "portolan/portolanlaw11.PathWhite", spec := "pathWhite", inPlace := ["internal/bytealg.CountString", "internal/bytealg.IndexByteString", "internal/bytealg.IndexString", "internal/abi.NoEscape", "internal/bytealg.MakeNoZero"], unfollowed := true, recurses := true, named := ["unicode/utf8.first", "unicode/utf8.acceptRanges", "internal/bytealg.MaxLen", "portolan/path.classes"], apart := false, laid := [("unicode/utf8.acceptRanges", laid_unicode_utf8_acceptRanges), ("portolan/path.classes", laid_portolan_path_classes), ("unicode/utf8.first", laid_unicode_utf8_first)], narrowed := true }
def PathWhiteUptoSaid : Prop := pathWhiteUptoRow.holds Tryd.pinned (OpenSpec.upto pathWhiteSpec)

/-- 'portolanlaw11.PathCalls', WHERE WHAT IT READS IS OF BULK AT MOST 1048576: true; the input reads as it did. -/
def pathCallsUptoRow : OpenClaim := { program := "ytkijhaibcnhedaadoor", sum := "c108ddf1d8c4a5e6450b3a895a0dcc141541129b18e9c2532adf7b7bd97e335e", func := "portolan/portolanlaw11.PathCalls", spec := "pathCalls", inPlace := ["internal/bytealg.CountString", "internal/bytealg.IndexByteString", "internal/bytealg.IndexString", "internal/abi.NoEscape", "internal/bytealg.MakeNoZero"], unfollowed := true, recurses := true, named := ["unicode/utf8.first", "unicode/utf8.acceptRanges", "internal/bytealg.MaxLen", "portolan/path.classes"], apart := false, laid := [("unicode/utf8.acceptRanges", laid_unicode_utf8_acceptRanges), ("portolan/path.classes", laid_portolan_path_classes), ("unicode/utf8.first", laid_unicode_utf8_first)], narrowed := true }
def PathCallsUptoSaid : Prop := pathCallsUptoRow.holds Tryd.pinned (OpenSpec.upto pathCallsSpec)

/-- 'portolanlaw11.PathClean', WHERE WHAT IT READS IS OF BULK AT MOST 1048576: true; the input reads as it did. -/
def pathCleanUptoRow : OpenClaim := { program := "ytkijhaibcnhedaadoor", sum := "c108ddf1d8c4a5e6450b3a895a0dcc141541129b18e9c2532adf7b7bd97e335e", func := "portolan/portolanlaw11.PathClean", spec := "pathClean", inPlace := ["internal/bytealg.CountString", "internal/bytealg.IndexByteString", "internal/bytealg.IndexString", "internal/abi.NoEscape", "internal/bytealg.MakeNoZero"], unfollowed := true, recurses := true, named := ["unicode/utf8.first", "unicode/utf8.acceptRanges", "internal/bytealg.MaxLen", "portolan/path.classes"], apart := false, laid := [("unicode/utf8.acceptRanges", laid_unicode_utf8_acceptRanges), ("portolan/path.classes", laid_portolan_path_classes), ("unicode/utf8.first", laid_unicode_utf8_first)], narrowed := true }
def PathCleanUptoSaid : Prop := pathCleanUptoRow.holds Tryd.pinned (OpenSpec.upto pathCleanSpec)

/-- 'portolanlaw11.PathKnown', WHERE WHAT IT READS IS OF BULK AT MOST 1048576: true; the input reads as it did. -/
def pathKnownUptoRow : OpenClaim := { program := "ytkijhaibcnhedaadoor", sum := "c108ddf1d8c4a5e6450b3a895a0dcc141541129b18e9c2532adf7b7bd97e335e", func := "portolan/portolanlaw11.PathKnown", spec := "pathKnown", inPlace := ["internal/abi.NoEscape", "internal/bytealg.MakeNoZero", "internal/bytealg.IndexByteString", "internal/bytealg.IndexString", "internal/bytealg.CountString"], unfollowed := true, recurses := true, named := ["portolan/path.classes", "unicode/utf8.first", "unicode/utf8.acceptRanges", "internal/bytealg.MaxLen"], apart := false, laid := [("unicode/utf8.acceptRanges", laid_unicode_utf8_acceptRanges), ("portolan/path.classes", laid_portolan_path_classes), ("unicode/utf8.first", laid_unicode_utf8_first)], narrowed := true }
def PathKnownUptoSaid : Prop := pathKnownUptoRow.holds Tryd.pinned (OpenSpec.upto pathKnownSpec)

end Rows
end Go.Proofs.YtkijhaibcnhedaaDoor

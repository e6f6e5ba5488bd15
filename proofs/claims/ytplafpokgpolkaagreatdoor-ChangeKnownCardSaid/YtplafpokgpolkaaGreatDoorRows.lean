/-
  NARROWER THAN 'FOR EVERY INPUT', by the rows' own cells (each row's printed sentence says how): ChangeKnown: laid · ChangeSorts: laid · ChangeApplies: laid · ChangeMay: laid · ChangeLocal: laid.
  DERIVED. THE GIVEN ROWS OF THIS SEAT. 5 by the template 'for every input the law returns true; each argument reads behind the call as it read before'; 0 by the template 'total and deterministic' (their statements: YtplafpokgpolkaaGreatDoorTotals.lean).
  GIVEN WITH THE SEED: the statements are not yours to turn. If you find one false, say at which input.
  Laid BY PROGRAM, IN A SANDBOX (cutbox-rows.mjs): the forced cells as the released guide's own fill.sh prints them over the translation d007d921208d20f4… (all of the seat's roots in one cut). By AI agents, Wed Nov 11 2026. No macro, syntax, notation, axiom, sorry.
-/
import Derived.Test.YtplafpokgpolkaaGreatDoorChecked
import GoSem.PinnedTables
import GoSem.Claim
import GoSem.ClaimJoined
import GoSem.ClaimMapViews
import Derived.JoinedTies
import Derived.KernelRfl
namespace Go.Proofs.YtplafpokgpolkaaGreatDoor
/- THE CELL 'sum', in the pinned program and in every row, IS THE sha256 OF THE DUMP (.gsa) THAT YtplafpokgpolkaaGreatDoorProg.lean LOADS. Nothing in Lean hashes anything: it is a label: what it is worth is what the hold of that sum in a sandbox is worth. -/
noncomputable def Tryz.pinned : Pinned := { name := "ytplafpokgpolkaagreatdoor", sum := "d007d921208d20f4388aebba9e8016586caee14ace5153c6114de55707737fc2", checked := Tryz.checked }
namespace Rows
def none {H : Type} : Left H := { results := [], args := [] }

/- WHAT THE LISTED PACKAGE-LEVEL VARIABLES READ AS WHEN THE CALL BEGINS. Each datum BY PROGRAM (the guide's laid-datum.mjs) off the statement by which the dump's own 'gosem.cut.vars' lays the variable. In a bare row this is a premise. The card (YtplafpokgpolkaaGreatDoorCards.lean) ties it to the program's text. -/
def laid_unicode_utf8_acceptRanges {H : Type} : DataW H := .agg [.agg [.lit (.int .u8 128), .lit (.int .u8 191)], .agg [.lit (.int .u8 160), .lit (.int .u8 191)], .agg [.lit (.int .u8 128), .lit (.int .u8 159)], .agg [.lit (.int .u8 144), .lit (.int .u8 191)], .agg [.lit (.int .u8 128), .lit (.int .u8 143)], .agg [.lit (.int .u8 0), .lit (.int .u8 0)], .agg [.lit (.int .u8 0), .lit (.int .u8 0)], .agg [.lit (.int .u8 0), .lit (.int .u8 0)], .agg [.lit (.int .u8 0), .lit (.int .u8 0)], .agg [.lit (.int .u8 0), .lit (.int .u8 0)], .agg [.lit (.int .u8 0), .lit (.int .u8 0)], .agg [.lit (.int .u8 0), .lit (.int .u8 0)], .agg [.lit (.int .u8 0), .lit (.int .u8 0)], .agg [.lit (.int .u8 0), .lit (.int .u8 0)], .agg [.lit (.int .u8 0), .lit (.int .u8 0)], .agg [.lit (.int .u8 0), .lit (.int .u8 0)]]
def laid_portolan_path_classes {H : Type} : DataW H := .iface "func table" (.map [(.int .i64 1, .iface "func" (.lit (.string [112, 111, 114, 116, 111, 108, 97, 110, 47, 112, 97, 116, 104, 46, 99, 108, 97, 115, 115, 101, 115, 36, 49]))), (.int .i64 2, .iface "func" (.lit (.string [112, 111, 114, 116, 111, 108, 97, 110, 47, 112, 97, 116, 104, 46, 99, 108, 97, 115, 115, 101, 115, 36, 50]))), (.int .i64 3, .iface "func" (.lit (.string [112, 111, 114, 116, 111, 108, 97, 110, 47, 112, 97, 116, 104, 46, 99, 108, 97, 115, 115, 101, 115, 36, 51])))])
def laid_portolan_tar_types {H : Type} : DataW H := .map [(.int .i64 1, .lit (.int .u8 53)), (.int .i64 2, .lit (.int .u8 48)), (.int .i64 3, .lit (.int .u8 50)), (.int .i64 4, .lit (.int .u8 54))]
/-- One of Go's own tables, pinned by name: the form's constant. -/
def laid_unicode_utf8_first : DataW Unit := Go.Pinned.utf8First

/-- 'portolanlaw19.ChangeKnown': WHATEVER THE INPUT: true; the input reads as it did. -/
def changeKnownSpec : ChangeSpec := { name := "changeKnown", fn := fun _ => fun
  | [] => { results := [.lit (.bool true)], args := [] }
  | _ => none }
def changeKnownRow : OpenClaim := { program := "ytplafpokgpolkaagreatdoor", sum := "d007d921208d20f4388aebba9e8016586caee14ace5153c6114de55707737fc2", func := "portolan/portolanlaw19.ChangeKnown", spec := "changeKnown", inPlace := ["internal/bytealg.CountString", "internal/bytealg.IndexByteString", "internal/bytealg.IndexString"], unfollowed := true, recurses := true, named := ["portolan/path.classes", "unicode/utf8.first", "unicode/utf8.acceptRanges", "internal/bytealg.MaxLen", "portolan/tar.types"], apart := false, laid := [("unicode/utf8.acceptRanges", laid_unicode_utf8_acceptRanges), ("portolan/path.classes", laid_portolan_path_classes), ("portolan/tar.types", laid_portolan_tar_types), ("unicode/utf8.first", laid_unicode_utf8_first)] }
def ChangeKnownSaid : Prop := changeKnownRow.holds Tryz.pinned (OpenSpec.ofChange changeKnownSpec)

/-- ITS FALSE NEIGHBOUR: 'it returns false'. Refute it at one input. -/
def changeKnownWrong : ChangeSpec := { name := "changeKnown", fn := fun _ => fun
  | [] => { results := [.lit (.bool false)], args := [] }
  | _ => none }
def ChangeKnownWrongFalsely : Prop := changeKnownRow.holds Tryz.pinned (OpenSpec.ofChange changeKnownWrong)

/-- 'portolanlaw19.ChangeSorts': WHATEVER THE INPUT: true; the input reads as it did. -/
def changeSortsSpec : ChangeSpec := { name := "changeSorts", fn := fun _ => fun
  | [d] => { results := [.lit (.bool true)], args := [d] }
  | _ => none }
def changeSortsRow : OpenClaim := { program := "ytplafpokgpolkaagreatdoor", sum := "d007d921208d20f4388aebba9e8016586caee14ace5153c6114de55707737fc2", func := "portolan/portolanlaw19.ChangeSorts", spec := "changeSorts", inPlace := ["internal/bytealg.abigen_runtime_cmpstring", "internal/bytealg.CountString", "internal/bytealg.IndexByteString", "internal/bytealg.IndexString"], unfollowed := true, recurses := true, named := ["portolan/path.classes", "unicode/utf8.first", "unicode/utf8.acceptRanges", "internal/bytealg.MaxLen", "portolan/tar.types"], apart := false, laid := [("unicode/utf8.acceptRanges", laid_unicode_utf8_acceptRanges), ("portolan/path.classes", laid_portolan_path_classes), ("portolan/tar.types", laid_portolan_tar_types), ("unicode/utf8.first", laid_unicode_utf8_first)] }
def ChangeSortsSaid : Prop := changeSortsRow.holds Tryz.pinned (OpenSpec.ofChange changeSortsSpec)

/-- ITS FALSE NEIGHBOUR: 'it returns false'. Refute it at one input. -/
def changeSortsWrong : ChangeSpec := { name := "changeSorts", fn := fun _ => fun
  | [d] => { results := [.lit (.bool false)], args := [d] }
  | _ => none }
def ChangeSortsWrongFalsely : Prop := changeSortsRow.holds Tryz.pinned (OpenSpec.ofChange changeSortsWrong)

/-- 'portolanlaw19.ChangeApplies': WHATEVER THE INPUT: true; the input reads as it did. -/
def changeAppliesSpec : ChangeSpec := { name := "changeApplies", fn := fun _ => fun
  | [d1, d2, d3] => { results := [.lit (.bool true)], args := [d1, d2, d3] }
  | _ => none }
def changeAppliesRow : OpenClaim := { program := "ytplafpokgpolkaagreatdoor", sum := "d007d921208d20f4388aebba9e8016586caee14ace5153c6114de55707737fc2", func := "portolan/portolanlaw19.ChangeApplies", spec := "changeApplies", inPlace := ["internal/bytealg.CountString", "internal/bytealg.IndexByteString", "internal/bytealg.IndexString", "internal/bytealg.abigen_runtime_cmpstring"], unfollowed := true, recurses := true, named := ["portolan/path.classes", "unicode/utf8.first", "unicode/utf8.acceptRanges", "internal/bytealg.MaxLen", "portolan/tar.types"], apart := false, laid := [("unicode/utf8.acceptRanges", laid_unicode_utf8_acceptRanges), ("portolan/path.classes", laid_portolan_path_classes), ("portolan/tar.types", laid_portolan_tar_types), ("unicode/utf8.first", laid_unicode_utf8_first)] }
def ChangeAppliesSaid : Prop := changeAppliesRow.holds Tryz.pinned (OpenSpec.ofChange changeAppliesSpec)

/-- ITS FALSE NEIGHBOUR: 'it returns false'. Refute it at one input. -/
def changeAppliesWrong : ChangeSpec := { name := "changeApplies", fn := fun _ => fun
  | [d1, d2, d3] => { results := [.lit (.bool false)], args := [d1, d2, d3] }
  | _ => none }
def ChangeAppliesWrongFalsely : Prop := changeAppliesRow.holds Tryz.pinned (OpenSpec.ofChange changeAppliesWrong)

/-- 'portolanlaw19.ChangeMay': WHATEVER THE INPUT: true; the input reads as it did. -/
def changeMaySpec : ChangeSpec := { name := "changeMay", fn := fun _ => fun
  | [d1, d2] => { results := [.lit (.bool true)], args := [d1, d2] }
  | _ => none }
def changeMayRow : OpenClaim := { program := "ytplafpokgpolkaagreatdoor", sum := "d007d921208d20f4388aebba9e8016586caee14ace5153c6114de55707737fc2", func := "portolan/portolanlaw19.ChangeMay", spec := "changeMay", inPlace := ["internal/bytealg.abigen_runtime_cmpstring", "internal/bytealg.CountString", "internal/bytealg.IndexByteString", "internal/bytealg.IndexString", "slices.overlaps[portolan/api.Member]"], unfollowed := true, recurses := true, named := ["portolan/path.classes", "unicode/utf8.first", "unicode/utf8.acceptRanges", "internal/bytealg.MaxLen", "portolan/tar.types"], apart := false, laid := [("unicode/utf8.acceptRanges", laid_unicode_utf8_acceptRanges), ("portolan/path.classes", laid_portolan_path_classes), ("portolan/tar.types", laid_portolan_tar_types), ("unicode/utf8.first", laid_unicode_utf8_first)] }
def ChangeMaySaid : Prop := changeMayRow.holds Tryz.pinned (OpenSpec.ofChange changeMaySpec)

/-- ITS FALSE NEIGHBOUR: 'it returns false'. Refute it at one input. -/
def changeMayWrong : ChangeSpec := { name := "changeMay", fn := fun _ => fun
  | [d1, d2] => { results := [.lit (.bool false)], args := [d1, d2] }
  | _ => none }
def ChangeMayWrongFalsely : Prop := changeMayRow.holds Tryz.pinned (OpenSpec.ofChange changeMayWrong)

/-- 'portolanlaw19.ChangeLocal': WHATEVER THE INPUT: true; the input reads as it did. -/
def changeLocalSpec : ChangeSpec := { name := "changeLocal", fn := fun _ => fun
  | [d1, d2, d3] => { results := [.lit (.bool true)], args := [d1, d2, d3] }
  | _ => none }
def changeLocalRow : OpenClaim := { program := "ytplafpokgpolkaagreatdoor", sum := "d007d921208d20f4388aebba9e8016586caee14ace5153c6114de55707737fc2", func := "portolan/portolanlaw19.ChangeLocal", spec := "changeLocal", inPlace := ["internal/bytealg.CountString", "internal/bytealg.IndexByteString", "internal/bytealg.IndexString", "internal/bytealg.abigen_runtime_cmpstring", "internal/abi.NoEscape", "internal/bytealg.MakeNoZero"], unfollowed := true, recurses := true, named := ["portolan/path.classes", "unicode/utf8.first", "unicode/utf8.acceptRanges", "internal/bytealg.MaxLen", "portolan/tar.types"], apart := false, laid := [("unicode/utf8.acceptRanges", laid_unicode_utf8_acceptRanges), ("portolan/path.classes", laid_portolan_path_classes), ("portolan/tar.types", laid_portolan_tar_types), ("unicode/utf8.first", laid_unicode_utf8_first)] }
def ChangeLocalSaid : Prop := changeLocalRow.holds Tryz.pinned (OpenSpec.ofChange changeLocalSpec)

/-- ITS FALSE NEIGHBOUR: 'it returns false'. Refute it at one input. -/
def changeLocalWrong : ChangeSpec := { name := "changeLocal", fn := fun _ => fun
  | [d1, d2, d3] => { results := [.lit (.bool false)], args := [d1, d2, d3] }
  | _ => none }
def ChangeLocalWrongFalsely : Prop := changeLocalRow.holds Tryz.pinned (OpenSpec.ofChange changeLocalWrong)

/- THE SECOND FORM. 'bulk': how many values and letters a reading holds, each counted each time it is reached (what is shared counts as often as it is met; a slice's spare places count too). A statement '..UptoSaid' is the law's where the arguments, and the package variables that the reading takes, are together of bulk at most 1048576: NARROWER than '..Said'. Prove '..Said' where nothing that the law and all that it calls make is longer than what came in: it says more and counts as full. Else prove '..UptoSaid'. A law counts once. -/
mutual
def uptoBulk {H : Type} : DataW H → Nat
  | .lit (.string bytes) => bytes.length + 1
  | .lit _ => 1
  | .nil => 1
  | .ptr d => uptoBulk d + 1
  | .slice elems spare => uptoBulkAll elems + uptoBulkAll spare + 1
  | .agg parts => uptoBulkAll parts + 1
  | .iface _ d => uptoBulk d + 1
  | .map entries => uptoBulkEntries entries + 1
  | .held _ => 1
def uptoBulkAll {H : Type} : List (DataW H) → Nat
  | [] => 0
  | d :: r => uptoBulk d + uptoBulkAll r
def uptoBulkEntries {H : Type} : List (Lit × DataW H) → Nat
  | [] => 0
  | x :: r => uptoBulkEntry x + uptoBulkEntries r
def uptoBulkEntry {H : Type} : Lit × DataW H → Nat
  | (.string bytes, d) => bytes.length + uptoBulk d + 1
  | (_, d) => uptoBulk d + 1
 end
def uptoSmall : (H : Type) → List (DataW H) → Bool := fun _ ds => decide (uptoBulkAll ds ≤ 1048576)
def OpenSpec.upto (s : _root_.Go.ChangeSpec) : _root_.Go.OpenSpec := { _root_.Go.OpenSpec.ofChange s with cond := some uptoSmall }

/-- 'portolanlaw19.ChangeKnown', WHERE WHAT IT READS IS OF BULK AT MOST 1048576: true; the input reads as it did. -/
def changeKnownUptoRow : OpenClaim := { program := "ytplafpokgpolkaagreatdoor", sum := "d007d921208d20f4388aebba9e8016586caee14ace5153c6114de55707737fc2", func := "portolan/portolanlaw19.ChangeKnown", spec := "changeKnown", inPlace := ["internal/bytealg.CountString", "internal/bytealg.IndexByteString", "internal/bytealg.IndexString"], unfollowed := true, recurses := true, named := ["portolan/path.classes", "unicode/utf8.first", "unicode/utf8.acceptRanges", "internal/bytealg.MaxLen", "portolan/tar.types"], apart := false, laid := [("unicode/utf8.acceptRanges", laid_unicode_utf8_acceptRanges), ("portolan/path.classes", laid_portolan_path_classes), ("portolan/tar.types", laid_portolan_tar_types), ("unicode/utf8.first", laid_unicode_utf8_first)], narrowed := true }
def ChangeKnownUptoSaid : Prop := changeKnownUptoRow.holds Tryz.pinned (OpenSpec.upto changeKnownSpec)

/-- 'portolanlaw19.ChangeSorts', WHERE WHAT IT READS IS OF BULK AT MOST 1048576: true; the input reads as it did. -/
def changeSortsUptoRow : OpenClaim := { program := "ytplafpokgpolkaagreatdoor", sum := "d007d921208d20f4388aebba9e8016586caee14ace5153c6114de55707737fc2", func := "portolan/portolanlaw19.ChangeSorts", spec := "changeSorts", inPlace := ["internal/bytealg.abigen_runtime_cmpstring", "internal/bytealg.CountString", "internal/bytealg.IndexByteString", "internal/bytealg.IndexString"], unfollowed := true, recurses := true, named := ["portolan/path.classes", "unicode/utf8.first", "unicode/utf8.acceptRanges", "internal/bytealg.MaxLen", "portolan/tar.types"], apart := false, laid := [("unicode/utf8.acceptRanges", laid_unicode_utf8_acceptRanges), ("portolan/path.classes", laid_portolan_path_classes), ("portolan/tar.types", laid_portolan_tar_types), ("unicode/utf8.first", laid_unicode_utf8_first)], narrowed := true }
def ChangeSortsUptoSaid : Prop := changeSortsUptoRow.holds Tryz.pinned (OpenSpec.upto changeSortsSpec)

/-- 'portolanlaw19.ChangeApplies', WHERE WHAT IT READS IS OF BULK AT MOST 1048576: true; the input reads as it did. -/
def changeAppliesUptoRow : OpenClaim := { program := "ytplafpokgpolkaagreatdoor", sum := "d007d921208d20f4388aebba9e8016586caee14ace5153c6114de55707737fc2", func := "portolan/portolanlaw19.ChangeApplies", spec := "changeApplies", inPlace := ["internal/bytealg.CountString", "internal/bytealg.IndexByteString", "internal/bytealg.IndexString", "internal/bytealg.abigen_runtime_cmpstring"], unfollowed := true, recurses := true, named := ["portolan/path.classes", "unicode/utf8.first", "unicode/utf8.acceptRanges", "internal/bytealg.MaxLen", "portolan/tar.types"], apart := false, laid := [("unicode/utf8.acceptRanges", laid_unicode_utf8_acceptRanges), ("portolan/path.classes", laid_portolan_path_classes), ("portolan/tar.types", laid_portolan_tar_types), ("unicode/utf8.first", laid_unicode_utf8_first)], narrowed := true }
def ChangeAppliesUptoSaid : Prop := changeAppliesUptoRow.holds Tryz.pinned (OpenSpec.upto changeAppliesSpec)

/-- 'portolanlaw19.ChangeMay', WHERE WHAT IT READS IS OF BULK AT MOST 1048576: true; the input reads as it did. -/
def changeMayUptoRow : OpenClaim := { program := "ytplafpokgpolkaagreatdoor", sum := "d007d921208d20f4388aebba9e8016586caee14ace5153c6114de55707737fc2", func := "portolan/portolanlaw19.ChangeMay", spec := "changeMay", inPlace := ["internal/bytealg.abigen_runtime_cmpstring", "internal/bytealg.CountString", "internal/bytealg.IndexByteString", "internal/bytealg.IndexString", "slices.overlaps[portolan/api.Member]"], unfollowed := true, recurses := true, named := ["portolan/path.classes", "unicode/utf8.first", "unicode/utf8.acceptRanges", "internal/bytealg.MaxLen", "portolan/tar.types"], apart := false, laid := [("unicode/utf8.acceptRanges", laid_unicode_utf8_acceptRanges), ("portolan/path.classes", laid_portolan_path_classes), ("portolan/tar.types", laid_portolan_tar_types), ("unicode/utf8.first", laid_unicode_utf8_first)], narrowed := true }
def ChangeMayUptoSaid : Prop := changeMayUptoRow.holds Tryz.pinned (OpenSpec.upto changeMaySpec)

/-- 'portolanlaw19.ChangeLocal', WHERE WHAT IT READS IS OF BULK AT MOST 1048576: true; the input reads as it did. -/
def changeLocalUptoRow : OpenClaim := { program := "ytplafpokgpolkaagreatdoor", sum := "d007d921208d20f4388aebba9e8016586caee14ace5153c6114de55707737fc2", func := "portolan/portolanlaw19.ChangeLocal", spec := "changeLocal", inPlace := ["internal/bytealg.CountString", "internal/bytealg.IndexByteString", "internal/bytealg.IndexString", "internal/bytealg.abigen_runtime_cmpstring", "internal/abi.NoEscape", "internal/bytealg.MakeNoZero"], unfollowed := true, recurses := true, named := ["portolan/path.classes", "unicode/utf8.first", "unicode/utf8.acceptRanges", "internal/bytealg.MaxLen", "portolan/tar.types"], apart := false, laid := [("unicode/utf8.acceptRanges", laid_unicode_utf8_acceptRanges), ("portolan/path.classes", laid_portolan_path_classes), ("portolan/tar.types", laid_portolan_tar_types), ("unicode/utf8.first", laid_unicode_utf8_first)], narrowed := true }
def ChangeLocalUptoSaid : Prop := changeLocalUptoRow.holds Tryz.pinned (OpenSpec.upto changeLocalSpec)

end Rows
end Go.Proofs.YtplafpokgpolkaaGreatDoor

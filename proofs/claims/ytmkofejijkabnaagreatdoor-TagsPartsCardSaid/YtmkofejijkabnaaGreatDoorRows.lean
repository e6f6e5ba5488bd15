/-
  NARROWER THAN 'FOR EVERY INPUT', by the rows' own cells (each row's printed sentence says how): TagsParts: laid · TagsFlip: laid · TagsKnown: laid · TagsTells: laid · TagsCrash: laid.
  DERIVED. THE GIVEN ROWS OF THIS SEAT. 5 by the template 'for every input the law returns true; each argument reads behind the call as it read before'; 0 by the template 'total and deterministic' (their statements: YtmkofejijkabnaaGreatDoorTotals.lean).
  GIVEN WITH THE SEED: the statements are not yours to turn. If you find one false, say at which input.
  Laid BY PROGRAM, IN A SANDBOX (cutbox-rows.mjs): the forced cells as the released guide's own fill.sh prints them over the translation 817327998aca02eb… (all of the seat's roots in one cut). By AI agents, Wed Nov 11 2026. No macro, syntax, notation, axiom, sorry.
-/
import Derived.Test.YtmkofejijkabnaaGreatDoorChecked
import GoSem.Claim
import GoSem.ClaimJoined
import GoSem.ClaimMapViews
import Derived.JoinedTies
import Derived.KernelRfl
namespace Go.Proofs.YtmkofejijkabnaaGreatDoor
/- THE CELL 'sum', in the pinned program and in every row, IS THE sha256 OF THE DUMP (.gsa) THAT YtmkofejijkabnaaGreatDoorProg.lean LOADS. Nothing in Lean hashes anything: it is a label: what it is worth is what the hold of that sum in a sandbox is worth. -/
noncomputable def Tryz.pinned : Pinned := { name := "ytmkofejijkabnaagreatdoor", sum := "817327998aca02eb59f659b2340decc027f6f86ee5fe1a1fe890cb828e69e07e", checked := Tryz.checked }
namespace Rows
def none {H : Type} : Left H := { results := [], args := [] }

/- WHAT THE LISTED PACKAGE-LEVEL VARIABLES READ AS WHEN THE CALL BEGINS. Each datum BY PROGRAM (the guide's laid-datum.mjs) off the statement by which the dump's own 'gosem.cut.vars' lays the variable. In a bare row this is a premise. The card (YtmkofejijkabnaaGreatDoorCards.lean) ties it to the program's text. -/
def laid_portolan_crc_table {H : Type} : DataW H := .agg [.lit (.int .u32 0), .lit (.int .u32 498536548), .lit (.int .u32 997073096), .lit (.int .u32 651767980), .lit (.int .u32 1994146192), .lit (.int .u32 1802195444), .lit (.int .u32 1303535960), .lit (.int .u32 1342533948), .lit (.int .u32 3988292384), .lit (.int .u32 4027552580), .lit (.int .u32 3604390888), .lit (.int .u32 3412177804), .lit (.int .u32 2607071920), .lit (.int .u32 2262029012), .lit (.int .u32 2685067896), .lit (.int .u32 3183342108)]

/-- 'portolanlaw26.TagsParts': WHATEVER THE INPUT: true; the input reads as it did. -/
def tagsPartsSpec : ChangeSpec := { name := "tagsParts", fn := fun _ => fun
  | [d1, d2] => { results := [.lit (.bool true)], args := [d1, d2] }
  | _ => none }
def tagsPartsRow : OpenClaim := { program := "ytmkofejijkabnaagreatdoor", sum := "817327998aca02eb59f659b2340decc027f6f86ee5fe1a1fe890cb828e69e07e", func := "portolan/portolanlaw26.TagsParts", spec := "tagsParts", inPlace := ["internal/bytealg.IndexByteString", "internal/bytealg.IndexString", "maps.clone"], unfollowed := true, recurses := true, named := ["portolan/crc.table", "internal/bytealg.MaxLen"], apart := false, laid := [("portolan/crc.table", laid_portolan_crc_table)] }
def TagsPartsSaid : Prop := tagsPartsRow.holds Tryz.pinned (OpenSpec.ofChange tagsPartsSpec)

/-- ITS FALSE NEIGHBOUR: 'it returns false'. Refute it at one input. -/
def tagsPartsWrong : ChangeSpec := { name := "tagsParts", fn := fun _ => fun
  | [d1, d2] => { results := [.lit (.bool false)], args := [d1, d2] }
  | _ => none }
def TagsPartsWrongFalsely : Prop := tagsPartsRow.holds Tryz.pinned (OpenSpec.ofChange tagsPartsWrong)

/-- 'portolanlaw26.TagsFlip': WHATEVER THE INPUT: true; the input reads as it did. -/
def tagsFlipSpec : ChangeSpec := { name := "tagsFlip", fn := fun _ => fun
  | [d1, d2, d3] => { results := [.lit (.bool true)], args := [d1, d2, d3] }
  | _ => none }
def tagsFlipRow : OpenClaim := { program := "ytmkofejijkabnaagreatdoor", sum := "817327998aca02eb59f659b2340decc027f6f86ee5fe1a1fe890cb828e69e07e", func := "portolan/portolanlaw26.TagsFlip", spec := "tagsFlip", inPlace := ["internal/bytealg.IndexByteString", "internal/bytealg.IndexString", "maps.clone"], unfollowed := true, recurses := true, named := ["portolan/crc.table", "internal/bytealg.MaxLen"], apart := false, laid := [("portolan/crc.table", laid_portolan_crc_table)] }
def TagsFlipSaid : Prop := tagsFlipRow.holds Tryz.pinned (OpenSpec.ofChange tagsFlipSpec)

/-- ITS FALSE NEIGHBOUR: 'it returns false'. Refute it at one input. -/
def tagsFlipWrong : ChangeSpec := { name := "tagsFlip", fn := fun _ => fun
  | [d1, d2, d3] => { results := [.lit (.bool false)], args := [d1, d2, d3] }
  | _ => none }
def TagsFlipWrongFalsely : Prop := tagsFlipRow.holds Tryz.pinned (OpenSpec.ofChange tagsFlipWrong)

/-- 'portolanlaw26.TagsKnown': WHATEVER THE INPUT: true; the input reads as it did. -/
def tagsKnownSpec : ChangeSpec := { name := "tagsKnown", fn := fun _ => fun
  | [] => { results := [.lit (.bool true)], args := [] }
  | _ => none }
def tagsKnownRow : OpenClaim := { program := "ytmkofejijkabnaagreatdoor", sum := "817327998aca02eb59f659b2340decc027f6f86ee5fe1a1fe890cb828e69e07e", func := "portolan/portolanlaw26.TagsKnown", spec := "tagsKnown", inPlace := ["internal/bytealg.IndexByteString", "internal/bytealg.IndexString", "maps.clone"], unfollowed := true, recurses := true, named := ["portolan/crc.table", "internal/bytealg.MaxLen"], apart := false, laid := [("portolan/crc.table", laid_portolan_crc_table)] }
def TagsKnownSaid : Prop := tagsKnownRow.holds Tryz.pinned (OpenSpec.ofChange tagsKnownSpec)

/-- ITS FALSE NEIGHBOUR: 'it returns false'. Refute it at one input. -/
def tagsKnownWrong : ChangeSpec := { name := "tagsKnown", fn := fun _ => fun
  | [] => { results := [.lit (.bool false)], args := [] }
  | _ => none }
def TagsKnownWrongFalsely : Prop := tagsKnownRow.holds Tryz.pinned (OpenSpec.ofChange tagsKnownWrong)

/-- 'portolanlaw26.TagsTells': WHATEVER THE INPUT: true; the input reads as it did. -/
def tagsTellsSpec : ChangeSpec := { name := "tagsTells", fn := fun _ => fun
  | [d] => { results := [.lit (.bool true)], args := [d] }
  | _ => none }
def tagsTellsRow : OpenClaim := { program := "ytmkofejijkabnaagreatdoor", sum := "817327998aca02eb59f659b2340decc027f6f86ee5fe1a1fe890cb828e69e07e", func := "portolan/portolanlaw26.TagsTells", spec := "tagsTells", inPlace := ["internal/bytealg.IndexByteString", "internal/bytealg.IndexString", "maps.clone"], unfollowed := true, recurses := true, named := ["portolan/crc.table", "internal/bytealg.MaxLen"], apart := false, laid := [("portolan/crc.table", laid_portolan_crc_table)] }
def TagsTellsSaid : Prop := tagsTellsRow.holds Tryz.pinned (OpenSpec.ofChange tagsTellsSpec)

/-- ITS FALSE NEIGHBOUR: 'it returns false'. Refute it at one input. -/
def tagsTellsWrong : ChangeSpec := { name := "tagsTells", fn := fun _ => fun
  | [d] => { results := [.lit (.bool false)], args := [d] }
  | _ => none }
def TagsTellsWrongFalsely : Prop := tagsTellsRow.holds Tryz.pinned (OpenSpec.ofChange tagsTellsWrong)

/-- 'portolanlaw26.TagsCrash': WHATEVER THE INPUT: true; the input reads as it did. -/
def tagsCrashSpec : ChangeSpec := { name := "tagsCrash", fn := fun _ => fun
  | [d1, d2, d3, d4, d5] => { results := [.lit (.bool true)], args := [d1, d2, d3, d4, d5] }
  | _ => none }
def tagsCrashRow : OpenClaim := { program := "ytmkofejijkabnaagreatdoor", sum := "817327998aca02eb59f659b2340decc027f6f86ee5fe1a1fe890cb828e69e07e", func := "portolan/portolanlaw26.TagsCrash", spec := "tagsCrash", inPlace := ["internal/bytealg.IndexByteString", "internal/bytealg.IndexString", "maps.clone"], unfollowed := true, recurses := true, named := ["portolan/crc.table", "internal/bytealg.MaxLen"], apart := false, laid := [("portolan/crc.table", laid_portolan_crc_table)] }
def TagsCrashSaid : Prop := tagsCrashRow.holds Tryz.pinned (OpenSpec.ofChange tagsCrashSpec)

/-- ITS FALSE NEIGHBOUR: 'it returns false'. Refute it at one input. -/
def tagsCrashWrong : ChangeSpec := { name := "tagsCrash", fn := fun _ => fun
  | [d1, d2, d3, d4, d5] => { results := [.lit (.bool false)], args := [d1, d2, d3, d4, d5] }
  | _ => none }
def TagsCrashWrongFalsely : Prop := tagsCrashRow.holds Tryz.pinned (OpenSpec.ofChange tagsCrashWrong)

/- THE SECOND FORM. 'bulk': how many values and letters a reading holds, each counted each time it is reached (what is shared counts as often as it is met; a slice's spare places count too). A statement '..UptoSaid' is the law's where the arguments, and the package variables that the reading takes, are together of bulk at most 1048576: NARROWER than '..Said'. Prove '..Said' where nothing that the law and all that it calls make is longer than what came in: it says more and counts as full. Else prove '..UptoSaid'. A law counts once. -/
mutual
def uptoBulk {H : Type} : DataW H → Nat
  | .lit (.string bytes) => bytes.length + 1
  | .lit _ => 1
  | .nil => 1
  | .ptr d => uptoBulk d + 1
  | .slice elems spare => uptoBulkAll elems + uptoBulkAll spare + 1
  | .agg parts => uptoBulkAll parts + 1
  | .iface _ d => uptoBulk d + 1
  | .map entries => uptoBulkEntries entries + 1
  | .held _ => 1
def uptoBulkAll {H : Type} : List (DataW H) → Nat
  | [] => 0
  | d :: r => uptoBulk d + uptoBulkAll r
def uptoBulkEntries {H : Type} : List (Lit × DataW H) → Nat
  | [] => 0
  | x :: r => uptoBulkEntry x + uptoBulkEntries r
def uptoBulkEntry {H : Type} : Lit × DataW H → Nat
  | (.string bytes, d) => bytes.length + uptoBulk d + 1
  | (_, d) => uptoBulk d + 1
 end
def uptoSmall : (H : Type) → List (DataW H) → Bool := fun _ ds => decide (uptoBulkAll ds ≤ 1048576)
def OpenSpec.upto (s : _root_.Go.ChangeSpec) : _root_.Go.OpenSpec := { _root_.Go.OpenSpec.ofChange s with cond := some uptoSmall }

/-- 'portolanlaw26.TagsParts', WHERE WHAT IT READS IS OF BULK AT MOST 1048576: true; the input reads as it did. -/
def tagsPartsUptoRow : OpenClaim := { program := "ytmkofejijkabnaagreatdoor", sum := "817327998aca02eb59f659b2340decc027f6f86ee5fe1a1fe890cb828e69e07e", func := "portolan/portolanlaw26.TagsParts", spec := "tagsParts", inPlace := ["internal/bytealg.IndexByteString", "internal/bytealg.IndexString", "maps.clone"], unfollowed := true, recurses := true, named := ["portolan/crc.table", "internal/bytealg.MaxLen"], apart := false, laid := [("portolan/crc.table", laid_portolan_crc_table)], narrowed := true }
def TagsPartsUptoSaid : Prop := tagsPartsUptoRow.holds Tryz.pinned (OpenSpec.upto tagsPartsSpec)

/-- 'portolanlaw26.TagsFlip', WHERE WHAT IT READS IS OF BULK AT MOST 1048576: true; the input reads as it did. -/
def tagsFlipUptoRow : OpenClaim := { program := "ytmkofejijkabnaagreatdoor", sum := "817327998aca02eb59f659b2340decc027f6f86ee5fe1a1fe890cb828e69e07e", func := "portolan/portolanlaw26.TagsFlip", spec := "tagsFlip", inPlace := ["internal/bytealg.IndexByteString", "internal/bytealg.IndexString", "maps.clone"], unfollowed := true, recurses := true, named := ["portolan/crc.table", "internal/bytealg.MaxLen"], apart := false, laid := [("portolan/crc.table", laid_portolan_crc_table)], narrowed := true }
def TagsFlipUptoSaid : Prop := tagsFlipUptoRow.holds Tryz.pinned (OpenSpec.upto tagsFlipSpec)

/-- 'portolanlaw26.TagsKnown', WHERE WHAT IT READS IS OF BULK AT MOST 1048576: true; the input reads as it did. -/
def tagsKnownUptoRow : OpenClaim := { program := "ytmkofejijkabnaagreatdoor", sum := "817327998aca02eb59f659b2340decc027f6f86ee5fe1a1fe890cb828e69e07e", func := "portolan/portolanlaw26.TagsKnown", spec := "tagsKnown", inPlace := ["internal/bytealg.IndexByteString", "internal/bytealg.IndexString", "maps.clone"], unfollowed := true, recurses := true, named := ["portolan/crc.table", "internal/bytealg.MaxLen"], apart := false, laid := [("portolan/crc.table", laid_portolan_crc_table)], narrowed := true }
def TagsKnownUptoSaid : Prop := tagsKnownUptoRow.holds Tryz.pinned (OpenSpec.upto tagsKnownSpec)

/-- 'portolanlaw26.TagsTells', WHERE WHAT IT READS IS OF BULK AT MOST 1048576: true; the input reads as it did. -/
def tagsTellsUptoRow : OpenClaim := { program := "ytmkofejijkabnaagreatdoor", sum := "817327998aca02eb59f659b2340decc027f6f86ee5fe1a1fe890cb828e69e07e", func := "portolan/portolanlaw26.TagsTells", spec := "tagsTells", inPlace := ["internal/bytealg.IndexByteString", "internal/bytealg.IndexString", "maps.clone"], unfollowed := true, recurses := true, named := ["portolan/crc.table", "internal/bytealg.MaxLen"], apart := false, laid := [("portolan/crc.table", laid_portolan_crc_table)], narrowed := true }
def TagsTellsUptoSaid : Prop := tagsTellsUptoRow.holds Tryz.pinned (OpenSpec.upto tagsTellsSpec)

/-- 'portolanlaw26.TagsCrash', WHERE WHAT IT READS IS OF BULK AT MOST 1048576: true; the input reads as it did. -/
def tagsCrashUptoRow : OpenClaim := { program := "ytmkofejijkabnaagreatdoor", sum := "817327998aca02eb59f659b2340decc027f6f86ee5fe1a1fe890cb828e69e07e", func := "portolan/portolanlaw26.TagsCrash", spec := "tagsCrash", inPlace := ["internal/bytealg.IndexByteString", "internal/bytealg.IndexString", "maps.clone"], unfollowed := true, recurses := true, named := ["portolan/crc.table", "internal/bytealg.MaxLen"], apart := false, laid := [("portolan/crc.table", laid_portolan_crc_table)], narrowed := true }
def TagsCrashUptoSaid : Prop := tagsCrashUptoRow.holds Tryz.pinned (OpenSpec.upto tagsCrashSpec)

end Rows
end Go.Proofs.YtmkofejijkabnaaGreatDoor

/- PARTS OF ONE PROOF, set in one file: CrcO, Dec, Shelf, CAny, PMap, SMap, MapArm. Each part tells its own conditions. -/
import Derived.Deep.Cut
import Derived.Shelf.Small.Utf8
import Derived.Shelf.Small.Bits
import Derived.Shelf.Small.Strs
import Derived.Shelf.Small.Wraps
import Derived.Shelf.Strconv.Itoa0
import Derived.Shelf.Strings.Search1
import Derived.Shelf.Sort.Plain
import Derived.Shelf.GgClosure.StringsIndexFunc
import Derived.Ground.GgwProg
import Derived.Shelf.GgClosure.StringsIndexFuncTop
import Derived.Shelf.GgClosure.StringsRunes
import Derived.Shelf.Strings.Prefix
import Derived.Shelf.Strings.Runes
import Derived.Shelf.Strings.FuncGrows
import Derived.Shelf.Slices.Turned
import Derived.Shelf.Slices.In.SortNone
import Derived.Test.YtmkofejijkabnaaGreatDoorProg
import Derived.WalkMore
import Derived.Deep.DeepBigQuietO
import Derived.MapKept
import Derived.LaidEql
import Derived.Maps.RangeRun
import Derived.Maps.OwnSet
import Derived.Maps.Range
import Derived.Sort.KeysCollected
import Derived.Test.YtmkofejijkabnaaGreatDoorP1
import Derived.Test.YtmkofejijkabnaaGreatDoorP2
/- crc.Of; tags.frame. -/
namespace Go.Proofs.YtmkofejijkabnaaGreatDoor
open Go.RowKit
set_option maxHeartbeats 1000000 in
set_option maxRecDepth 100000 in
theorem of_any (b0 : Nat) (bv : Value) (l : List UInt8) (w : World) (hT : CrcT w) (h0 : Row w b0 28 #[bv]) (hr : Reads w (· < w.heap.size) bv l) (hl : l.length ≤ 1000000000) :
    Calls Tryz.prog 83 #[.slice (some ⟨b0, 0, none⟩) 1 1] w fun e w' => e = .returned (.int .u32 (crcN l : Int)) ∧ Below w.heap.size w w' := by
  have HAD : Keep (∀ wq R, Below w.heap.size w wq → Row wq R 182 #[.int .u32 0, .int .i64 0] → Calls Tryz.prog 130 #[.pointer (some ⟨R, 0, none⟩), .slice (some ⟨b0, 0, none⟩) 1 1] wq fun e w' => e = .returned (.tuple #[]) ∧ Row w' R 182 #[.int .u32 (crcN l : Int), .int .i64 (l.length : Int)] ∧ Chg (fun j => j = R) wq.heap.size wq w') :=
    ⟨fun wq R hb hR => add_any R b0 bv l wq (hT.on hb) hR (h0.below hb h0.lt) ((hr.below hb (fun b hb => hb)).mono (fun b hb2 => Nat.lt_of_lt_of_le hb2 hb.size)) hl⟩
  generalize crcN l = cr at *
  generalize l.length = nl at *
  clear hT h0 hr hl
  go_enter Tryz.func83, Tryz.ntmps83
  go_wp2_with fail
  refine calls_at (R := fun wq => Below w.heap.size w wq ∧ Row wq w.heap.size 182 #[.int .u32 0, .int .i64 0]) ⟨(Below.refl _ _).alloc (Nat.le_refl _) _, Row.new w _ _⟩ ?_
  intro wq HQ
  refine (HAD.out wq _ HQ.out.1 HQ.out.2).mono ?_
  rintro e w2 ⟨rfl, hrow, hc⟩
  have c0 := hrow.cell (i := 0) rfl
  have HB : Keep (Below w.heap.size w w2) := ⟨HQ.out.1.trans ((hc.lower HQ.out.1.size).below (fun k hk e => by omega))⟩
  have HS : Keep (Calls Tryz.prog 131 #[.pointer (some ⟨w.heap.size, 0, none⟩)] w2 fun e w' => e = .returned (.int .u32 (cr : Int)) ∧ w' = w2) := ⟨by
    clear HAD HQ hrow hc HB
    go_enter Tryz.func131, Tryz.ntmps131
    go_wp2_with fail
    go_ret
    exact ⟨rfl, rfl⟩⟩
  clear hrow hc HQ HAD c0
  go_wp2_with fail
  refine HS.out.mono ?_
  rintro e w3 ⟨rfl, rfl⟩
  go_wp2_with fail
  go_ret
  exact ⟨rfl, HB.out⟩
set_option maxRecDepth 100000 in
theorem u8_compl (x : UInt8) : bits .xor .u8 IntKind.u8.max (x.toNat : Int) = ((~~~ x).toNat : Int) := by
  have hall : ∀ y : Nat, y < 256 → bits .xor .u8 255 (y : Int) = ((~~~ (UInt8.ofNat y)).toNat : Int) := by
    intro y hy
    have h := u8_xor_nat 255 y (by decide) hy
    rw [show ((255 : Nat) : Int) = 255 from rfl] at h
    rw [h, UInt8.toNat_not, UInt8.toNat_ofNat', Nat.mod_eq_of_lt hy]
    have hk : ∀ z : Nat, z < 256 → 255 ^^^ z = 255 - z := by decide
    rw [hk y hy]
    rfl
  have := hall x.toNat x.toNat_lt
  rw [UInt8.ofNat_toNat] at this
  exact this
set_option maxRecDepth 100000 in
theorem head_cells (l : List UInt8) (n cr : Nat) (hn : n = l.length) (hc : crcN l = cr) :
    #[Value.int .u8 ((n : Int) % 256), Value.int .u8 ((n : Int) / 256 % 256), Value.int .u8 (bits .xor .u8 (if IntKind.u8.signed = true then -1 else IntKind.u8.max) ((n : Int) % 256)), Value.int .u8 (bits .xor .u8 (if IntKind.u8.signed = true then -1 else IntKind.u8.max) ((n : Int) / 256 % 256)),
      Value.int .u8 ((cr : Int) % 256), Value.int .u8 ((cr : Int) / 256 % 256), Value.int .u8 ((cr : Int) / 65536 % 256), Value.int .u8 ((cr : Int) / 16777216)] = (bcells (headB l)).toArray := by
  have hlt := crc_lt l
  rw [hc] at hlt
  have b : ∀ m : Nat, ((byteN m).toNat : Int) = (m : Int) % 256 := fun m => by rw [byte_nat]; omega
  have e1 : ((byteN n).toNat : Int) = (n : Int) % 256 := b n
  have e2 : ((byteN (n / 256)).toNat : Int) = (n : Int) / 256 % 256 := by rw [b]; omega
  have e3 := u8_compl (byteN n)
  have e4 := u8_compl (byteN (n / 256))
  rw [e1] at e3
  rw [e2] at e4
  have e5 : ((byteN cr).toNat : Int) = (cr : Int) % 256 := b cr
  have e6 : ((byteN (cr / 256)).toNat : Int) = (cr : Int) / 256 % 256 := by rw [b]; omega
  have e7 : ((byteN (cr / 65536)).toNat : Int) = (cr : Int) / 65536 % 256 := by rw [b]; omega
  have e8 : ((byteN (cr / 16777216)).toNat : Int) = (cr : Int) / 16777216 := by rw [b]; omega
  have hs : (if IntKind.u8.signed = true then -1 else IntKind.u8.max) = IntKind.u8.max := rfl
  rw [hs, e3, e4]
  unfold bcells headB
  rw [hc, ← hn]
  simp only [List.map_cons, List.map_nil]
  rw [e1, e2, e5, e6, e7, e8]
set_option maxHeartbeats 2000000 in
set_option maxRecDepth 100000 in
theorem frame_any (bv : Value) (l : List UInt8) (w : World) (hT : CrcT w) (hr : Reads w (· < w.heap.size) bv l) (hl : l.length ≤ 1000000000) :
    Calls Tryz.prog 42 #[bv] w fun e w' => ∃ v, e = .returned v ∧ Owns w' w.heap.size 5 v (frameB l) ∧ Below w.heap.size w w' := by
  obtain ⟨a, n, cap, hv, hn⟩ : ∃ a n cap, bv = .slice a n cap ∧ n = l.length := by
    obtain ⟨a8, c8, hv8, q1, q2, q3⟩ := hr.shape
    exact ⟨a8, _, c8, hv8, rfl⟩
  have HOF : Keep (∀ wq b0, Below w.heap.size w wq → Row wq b0 28 #[bv] → Calls Tryz.prog 83 #[.slice (some ⟨b0, 0, none⟩) 1 1] wq fun e w' => e = .returned (.int .u32 (crcN l : Int)) ∧ Below wq.heap.size wq w') :=
    ⟨fun wq b0 hb h0 => of_any b0 bv l wq (hT.on hb) h0 ((hr.below hb (fun b hb => hb)).mono (fun b hb2 => Nat.lt_of_lt_of_le hb2 hb.size)) hl⟩
  have HR := Keep.keep hr
  have HN := Keep.keep hn
  have hn9 : (n : Int) ≤ 1000000000 := by omega
  have hc9 : (crcN l : Int) < 4294967296 := by have := crc_lt l; omega
  generalize hcr : crcN l = cr at *
  have HCR := Keep.keep hcr
  clear hT hr hn hcr
  subst hv
  go_enter Tryz.func42, Tryz.ntmps42
  go_wp2_with fail
  refine calls_at (R := fun wq => Below w.heap.size w wq ∧ Row wq w.heap.size 28 #[.slice a n cap]) ⟨(Below.refl _ _).alloc (Nat.le_refl _) _, Row.new w _ _⟩ ?_
  intro wq HQ
  refine (HOF.out wq _ HQ.out.1 HQ.out.2).mono ?_
  rintro e w2 ⟨rfl, hb⟩
  have HB := Keep.keep (HQ.out.1.trans (hb.mono HQ.out.1.size))
  clear hb HQ HOF
  go_upto_region 3 with fail
  rw [head_cells l n cr HN.out HCR.out]
  refine wp_world (R := fun wx => Below w2.heap.size w2 wx ∧ Owns wx w2.heap.size 5 (.slice (some ⟨w2.heap.size, 0, none⟩) 8 8) (headB l)) ⟨(Below.refl _ _).alloc (Nat.le_refl _) _, ownsV_new 5 (bcells (headB l)) 1 8 w2.heap.size w2.heap.size rfl (Nat.le_refl _) rfl (by decide)⟩ ?_
  intro w3 H3
  have HB3 := Keep.keep (HB.out.trans (H3.out.1.mono HB.out.size))
  generalize (if IntKind.u8.signed = true then (-1 : Int) else IntKind.u8.max) = mx at *
  go_wp2_with (with_reducible refine arm_stop ?_)
  refine Stopped.out ?_
  refine arm_append slBy H3.out.2 (HR.out.below HB3.out (fun b hb => hb)) (by rw [headB_len]; omega) H3.out.1.size rfl rfl ?_
  intro v8 w8 ho8 hg8 hov8
  have HO8 : Keep (Owns w8 w.heap.size 5 v8 (frameB l)) := ⟨ho8.mono HB.out.size⟩
  have HB8 : Keep (Below w.heap.size w w8) := ⟨HB3.out.trans ((Chg.grown (M := NoM) (.refl _ _ _) hg8 HB3.out.size (fun k e => .inl (by have := (World.ownsRow.lt H3.out.2 k e).1; have := HB.out.size; omega))).below (fun _ _ h => h))⟩
  obtain ⟨a8, n8, c8, hv8⟩ : ∃ a8 n8 c8, v8 = .slice a8 n8 c8 := by
    obtain ⟨a8, c8, hv8, -⟩ := (ownsV_reads ho8).shape
    exact ⟨a8, _, c8, hv8⟩
  clear ho8 hg8 hov8 H3
  subst hv8
  simp only [Act.put, List.setIfInBounds_toArray, List.set_cons_succ, List.set_cons_zero]
  go_wp2_with fail
  go_ret
  exact ⟨_, rfl, HO8.out, HB8.out⟩
end Go.Proofs.YtmkofejijkabnaaGreatDoor
/- RUNES BEYOND ASCII: decoding takes only bytes beyond ASCII; encoding ends with one. Plain facts. -/
namespace Go.Proofs.YtmkofejijkabnaaGreatDoor
open Go.RowKit
theorem decode_high (s : ByteArray) (i : Nat) (hi : i < s.size) (h0 : 128 ≤ (s.get! i).toNat) :
    128 ≤ (Utf8.decode s i).1 ∧ (Utf8.decode s i).1 ≤ 2097151 ∧ 1 ≤ (Utf8.decode s i).2 ∧ i + (Utf8.decode s i).2 ≤ s.size ∧ ∀ k, 0 < k → k < (Utf8.decode s i).2 → 128 ≤ (s.get! (i + k)).toNat := by
  have hre : Utf8.runeError = 65533 := rfl
  unfold Utf8.decode
  simp only [Nat.add_zero, hre]
  rw [if_neg (by omega)]
  have hb : ∀ k, (s.get! (i + k)).toNat < 256 := fun k => (s.get! (i + k)).toNat_lt
  have hb0 : (s.get! i).toNat < 256 := (s.get! i).toNat_lt
  have b1 := hb 1; have b2 := hb 2; have b3 := hb 3
  split
  · rename_i hc
    simp only [Bool.and_eq_true, beq_iff_eq, decide_eq_true_eq] at hc
    split
    · refine ⟨by simp only; omega, by simp only; omega, by simp only; omega, by simp only; omega, fun k hk hk2 => ?_⟩
      obtain rfl : k = 1 := by simp only at hk2; omega
      omega
    · exact ⟨by simp, by simp, by simp, by simp only; omega, fun k hk hk2 => by simp only at hk2; omega⟩
  · split
    · rename_i hc
      simp only [Bool.and_eq_true, beq_iff_eq, decide_eq_true_eq] at hc
      split
      · rename_i hv
        simp only [ge_iff_le, Bool.and_eq_true, decide_eq_true_eq] at hv
        refine ⟨by simp only; omega, by simp only; omega, by simp only; omega, by simp only; omega, fun k hk hk2 => ?_⟩
        simp only at hk2
        rcases (by omega : k = 1 ∨ k = 2) with rfl | rfl <;> omega
      · exact ⟨by simp, by simp, by simp, by simp only; omega, fun k hk hk2 => by simp only at hk2; omega⟩
    · split
      · rename_i hc
        simp only [Bool.and_eq_true, beq_iff_eq, decide_eq_true_eq] at hc
        split
        · rename_i hv
          simp only [ge_iff_le, Bool.and_eq_true, decide_eq_true_eq] at hv
          refine ⟨by simp only; omega, by simp only; omega, by simp only; omega, by simp only; omega, fun k hk hk2 => ?_⟩
          simp only at hk2
          rcases (by omega : k = 1 ∨ k = 2 ∨ k = 3) with rfl | rfl | rfl <;> omega
        · exact ⟨by simp, by simp, by simp, by simp only; omega, fun k hk hk2 => by simp only at hk2; omega⟩
      · exact ⟨by simp, by simp, by simp, by simp only; omega, fun k hk hk2 => by simp only at hk2; omega⟩
theorem encode_high (r : Nat) (h : 128 ≤ r) : ∃ (l : List UInt8) (z : UInt8), Utf8.encode (r : Int) = ⟨(l ++ [z]).toArray⟩ ∧ 1 ≤ l.length ∧ l.length ≤ 3 ∧ 128 ≤ z.toNat := by
  have hre : Utf8.runeError = 65533 := rfl
  have hz : ∀ c : Nat, 128 ≤ (UInt8.ofNat (128 + c % 64)).toNat := fun c => by
    rw [UInt8.toNat_ofNat']; omega
  unfold Utf8.encode
  simp only [hre, Int.toNat_natCast]
  split
  · rw [if_neg (by omega)]
    split
    · exact ⟨[_], _, rfl, by simp, by simp, hz _⟩
    · split
      · exact ⟨[_, _], _, rfl, by simp, by simp, hz _⟩
      · exact ⟨[_, _, _], _, rfl, by simp, by simp, hz _⟩
  · rw [if_neg (by omega), if_neg (by omega), if_pos (by omega)]
    exact ⟨[_, _], _, rfl, by simp, by simp, hz _⟩
end Go.Proofs.YtmkofejijkabnaaGreatDoor
/- THE LIBRARY CONTRACTS of the shelf, laid at this translation by the shelf's own program (lay-plain). -/
namespace Go.Proofs
open Go.Shelf
def Tryz.lays119_ren : Go.Shelf.Ren := ⟨fun | 119 => 182 | n => n, fun | 21 => 21 | 4 => 4 | n => n, fun | n => n⟩
theorem Tryz.lays119 : Go.Proofs.Lays.n119 Tryz.prog Tryz.lays119_ren := {
  mixed := by kernel_rfl
  f119 := Tryz.func182.trans (congrArg some (by kernel_rfl))
  t4 := Tryz.underlying4
  a4 := Tryz.isAgg4
  z4 := Tryz.sizeOf4
  v4 := Tryz.zeroValue4
  t21 := Tryz.underlying21
  a21 := Tryz.isAgg21
  z21 := Tryz.sizeOf21
  v21 := Tryz.zeroValue21 }
theorem Tryz.utf8_ValidRune (r : Int) (w : World) :
    Calls Tryz.prog 182 #[.int .i32 r] w fun e w' => e = .returned (.bool (Lib.validRune r)) ∧ w' = w := Any.utf8_ValidRune Tryz.lays119 r w
def Tryz.lays128_ren : Go.Shelf.Ren := ⟨fun | 128 => 171 | n => n, fun | 51 => 148 | 3 => 3 | 4 => 4 | 46 => 34 | 5 => 5 | 9 => 9 | n => n, fun | n => n⟩
theorem Tryz.lays128 : Go.Proofs.Lays.n128 Tryz.prog Tryz.lays128_ren := {
  mixed := by kernel_rfl
  f128 := Tryz.func171.trans (congrArg some (by kernel_rfl))
  t3 := Tryz.underlying3
  a3 := Tryz.isAgg3
  z3 := Tryz.sizeOf3
  v3 := Tryz.zeroValue3
  t4 := Tryz.underlying4
  a4 := Tryz.isAgg4
  z4 := Tryz.sizeOf4
  v4 := Tryz.zeroValue4
  t5 := Tryz.underlying5
  a5 := Tryz.isAgg5
  z5 := Tryz.sizeOf5
  v5 := Tryz.zeroValue5
  t9 := Tryz.underlying9
  a9 := Tryz.isAgg9
  z9 := Tryz.sizeOf9
  v9 := Tryz.zeroValue9
  t46 := Tryz.underlying34
  a46 := Tryz.isAgg34
  z46 := Tryz.sizeOf34
  v46 := Tryz.zeroValue34
  t51 := Tryz.underlying148
  a51 := Tryz.isAgg148
  z51 := Tryz.sizeOf148
  v51 := Tryz.zeroValue148 }
theorem Tryz.bits_Len32 (x : Int) (w : World) (h0 : 0 ≤ x) (h1 : x ≤ 4294967295) :
    Calls Tryz.prog 171 #[.int .u32 x] w fun e w' => e = .returned (.int .i64 (Lib.bitLen x.toNat)) ∧ w' = w := Any.bits_Len32 Tryz.lays128 x w h0 h1
def Tryz.lays125_ren : Go.Shelf.Ren := ⟨fun | 125 => 142 | 128 => 171 | 129 => 172 | n => n, fun | 46 => 34 | 3 => 3 | 51 => 148 | 53 => 218 | 4 => 4 | 5 => 5 | 9 => 9 | n => n, fun | n => n⟩
theorem Tryz.lays125 : Go.Proofs.Lays.n125 Tryz.prog Tryz.lays125_ren := {
  mixed := by kernel_rfl
  f125 := Tryz.func142.trans (congrArg some (by kernel_rfl))
  f128 := Tryz.func171.trans (congrArg some (by kernel_rfl))
  f129 := Tryz.func172.trans (congrArg some (by kernel_rfl))
  t3 := Tryz.underlying3
  a3 := Tryz.isAgg3
  z3 := Tryz.sizeOf3
  v3 := Tryz.zeroValue3
  t4 := Tryz.underlying4
  a4 := Tryz.isAgg4
  z4 := Tryz.sizeOf4
  v4 := Tryz.zeroValue4
  t5 := Tryz.underlying5
  a5 := Tryz.isAgg5
  z5 := Tryz.sizeOf5
  v5 := Tryz.zeroValue5
  t9 := Tryz.underlying9
  a9 := Tryz.isAgg9
  z9 := Tryz.sizeOf9
  v9 := Tryz.zeroValue9
  t46 := Tryz.underlying34
  a46 := Tryz.isAgg34
  z46 := Tryz.sizeOf34
  v46 := Tryz.zeroValue34
  t51 := Tryz.underlying148
  a51 := Tryz.isAgg148
  z51 := Tryz.sizeOf148
  v51 := Tryz.zeroValue148
  t53 := Tryz.underlying218
  a53 := Tryz.isAgg218
  z53 := Tryz.sizeOf218
  v53 := Tryz.zeroValue218 }
theorem Tryz.bits_Len (x : Int) (w : World) (h0 : 0 ≤ x) (h1 : x ≤ 18446744073709551615) :
    Calls Tryz.prog 142 #[.int .u64 x] w fun e w' => e = .returned (.int .i64 (Lib.bitLen x.toNat)) ∧ w' = w := Any.bits_Len Tryz.lays125 x w h0 h1
def Tryz.lays137_ren : Go.Shelf.Ren := ⟨fun | 137 => 181 | 217 => 200 | 266 => 206 | n => n, fun | 9 => 9 | 5 => 5 | 3 => 3 | n => n, fun | n => n⟩
theorem Tryz.lays137 : Go.Proofs.Lays.n137 Tryz.prog Tryz.lays137_ren := {
  mixed := by kernel_rfl
  f137 := Tryz.func181.trans (congrArg some (by kernel_rfl))
  f217 := Tryz.func200.trans (congrArg some (by kernel_rfl))
  f266 := Tryz.func206.trans (congrArg some (by kernel_rfl))
  t3 := Tryz.underlying3
  a3 := Tryz.isAgg3
  z3 := Tryz.sizeOf3
  v3 := Tryz.zeroValue3
  t5 := Tryz.underlying5
  a5 := Tryz.isAgg5
  z5 := Tryz.sizeOf5
  v5 := Tryz.zeroValue5
  t9 := Tryz.underlying9
  a9 := Tryz.isAgg9
  z9 := Tryz.sizeOf9
  v9 := Tryz.zeroValue9 }
open Go.RowKit in
theorem Tryz.strings_IndexByte (s : ByteArray) (c : Int) (w : World) :
    Calls Tryz.prog 181 #[.string s, .int .u8 c] w fun e w' => e = .returned (.int .i64 (Lib.indexByte s.data.toList c.toNat.toUInt8)) ∧ w' = w := Any.strings_IndexByte Tryz.lays137 s c w
def Tryz.lays210_ren : Go.Shelf.Ren := ⟨fun | 210 => 82 | 206 => 81 | n => n, fun | 9 => 9 | 4 => 4 | 3 => 3 | n => n, fun | n => n⟩
theorem Tryz.lays210 : Go.Proofs.Lays.n210 Tryz.prog Tryz.lays210_ren := {
  mixed := by kernel_rfl
  f206 := Tryz.func81.trans (congrArg some (by kernel_rfl))
  f210 := Tryz.func82.trans (congrArg some (by kernel_rfl))
  t3 := Tryz.underlying3
  a3 := Tryz.isAgg3
  z3 := Tryz.sizeOf3
  v3 := Tryz.zeroValue3
  t4 := Tryz.underlying4
  a4 := Tryz.isAgg4
  z4 := Tryz.sizeOf4
  v4 := Tryz.zeroValue4
  t9 := Tryz.underlying9
  a9 := Tryz.isAgg9
  z9 := Tryz.sizeOf9
  v9 := Tryz.zeroValue9 }
open Go.RowKit in
theorem Tryz.stringslite_CutPrefix (s p : ByteArray) (w : World) :
    Calls Tryz.prog 82 #[.string s, .string p] w fun e w' => e = .returned (.tuple #[.string ⟨(Lib.trimPrefix s.data.toList p.data.toList).toArray⟩, .bool (Lib.hasPrefix s.data.toList p.data.toList)]) ∧ w' = w := Any.stringslite_CutPrefix Tryz.lays210 s p w
def Tryz.lays103_ren : Go.Shelf.Ren := ⟨fun | 103 => 41 | 210 => 82 | 206 => 81 | n => n, fun | 9 => 9 | 4 => 4 | 24 => 89 | 3 => 3 | n => n, fun | n => n⟩
theorem Tryz.lays103 : Go.Proofs.Lays.n103 Tryz.prog Tryz.lays103_ren := {
  mixed := by kernel_rfl
  f103 := Tryz.func41.trans (congrArg some (by kernel_rfl))
  f206 := Tryz.func81.trans (congrArg some (by kernel_rfl))
  f210 := Tryz.func82.trans (congrArg some (by kernel_rfl))
  t3 := Tryz.underlying3
  a3 := Tryz.isAgg3
  z3 := Tryz.sizeOf3
  v3 := Tryz.zeroValue3
  t4 := Tryz.underlying4
  a4 := Tryz.isAgg4
  z4 := Tryz.sizeOf4
  v4 := Tryz.zeroValue4
  t9 := Tryz.underlying9
  a9 := Tryz.isAgg9
  z9 := Tryz.sizeOf9
  v9 := Tryz.zeroValue9
  t24 := Tryz.underlying89
  a24 := Tryz.isAgg89
  z24 := Tryz.sizeOf89
  v24 := Tryz.zeroValue89 }
open Go.RowKit in
theorem Tryz.strings_CutPrefix (s p : ByteArray) (w : World) :
    Calls Tryz.prog 41 #[.string s, .string p] w fun e w' => e = .returned (.tuple #[.string ⟨(Lib.trimPrefix s.data.toList p.data.toList).toArray⟩, .bool (Lib.hasPrefix s.data.toList p.data.toList)]) ∧ w' = w := Any.strings_CutPrefix Tryz.lays103 s p w
def Tryz.lays129_ren : Go.Shelf.Ren := ⟨fun | 129 => 172 | n => n, fun | 53 => 218 | 3 => 3 | 4 => 4 | 46 => 34 | 5 => 5 | 9 => 9 | n => n, fun | n => n⟩
theorem Tryz.lays129 : Go.Proofs.Lays.n129 Tryz.prog Tryz.lays129_ren := {
  mixed := by kernel_rfl
  f129 := Tryz.func172.trans (congrArg some (by kernel_rfl))
  t3 := Tryz.underlying3
  a3 := Tryz.isAgg3
  z3 := Tryz.sizeOf3
  v3 := Tryz.zeroValue3
  t4 := Tryz.underlying4
  a4 := Tryz.isAgg4
  z4 := Tryz.sizeOf4
  v4 := Tryz.zeroValue4
  t5 := Tryz.underlying5
  a5 := Tryz.isAgg5
  z5 := Tryz.sizeOf5
  v5 := Tryz.zeroValue5
  t9 := Tryz.underlying9
  a9 := Tryz.isAgg9
  z9 := Tryz.sizeOf9
  v9 := Tryz.zeroValue9
  t46 := Tryz.underlying34
  a46 := Tryz.isAgg34
  z46 := Tryz.sizeOf34
  v46 := Tryz.zeroValue34
  t53 := Tryz.underlying218
  a53 := Tryz.isAgg218
  z53 := Tryz.sizeOf218
  v53 := Tryz.zeroValue218 }
theorem Tryz.bits_Len64 (x : Int) (w : World) (h0 : 0 ≤ x) (h1 : x ≤ 18446744073709551615) :
    Calls Tryz.prog 172 #[.int .u64 x] w fun e w' => e = .returned (.int .i64 (Lib.bitLen x.toNat)) ∧ w' = w := Any.bits_Len64 Tryz.lays129 x w h0 h1
def Tryz.lays217_ren : Go.Shelf.Ren := ⟨fun | 217 => 200 | 266 => 206 | n => n, fun | 9 => 9 | 5 => 5 | 3 => 3 | n => n, fun | n => n⟩
theorem Tryz.lays217 : Go.Proofs.Lays.n217 Tryz.prog Tryz.lays217_ren := {
  mixed := by kernel_rfl
  f217 := Tryz.func200.trans (congrArg some (by kernel_rfl))
  f266 := Tryz.func206.trans (congrArg some (by kernel_rfl))
  t3 := Tryz.underlying3
  a3 := Tryz.isAgg3
  z3 := Tryz.sizeOf3
  v3 := Tryz.zeroValue3
  t5 := Tryz.underlying5
  a5 := Tryz.isAgg5
  z5 := Tryz.sizeOf5
  v5 := Tryz.zeroValue5
  t9 := Tryz.underlying9
  a9 := Tryz.isAgg9
  z9 := Tryz.sizeOf9
  v9 := Tryz.zeroValue9 }
open Go.RowKit Go.Lib in
theorem Tryz.stringslite_IndexByte (s : ByteArray) (c : Int) (w : World) :
    Calls Tryz.prog 200 #[.string s, .int .u8 c] w fun e w' => e = .returned (.int .i64 (Lib.indexByte s.data.toList c.toNat.toUInt8)) ∧ w' = w := Any.stringslite_IndexByte Tryz.lays217 s c w
def Tryz.lays224_ren : Go.Shelf.Ren := ⟨fun | 224 => 183 | n => n, fun | 3 => 3 | n => n, fun | n => n⟩
theorem Tryz.lays224 : Go.Proofs.Lays.n224 Tryz.prog Tryz.lays224_ren := {
  mixed := by kernel_rfl
  f224 := Tryz.func183.trans (congrArg some (by kernel_rfl))
  t3 := Tryz.underlying3
  a3 := Tryz.isAgg3
  z3 := Tryz.sizeOf3
  v3 := Tryz.zeroValue3 }
open Go.RowKit Go.Lib in
theorem Tryz.bytealg_Cutover (n : Int) (h0 : 0 ≤ n) (h1 : n < 4611686018427387904) (w : World) :
    Calls Tryz.prog 183 #[.int .i64 n] w fun e w' => e = .returned (.int .i64 ((n + 16) / 8)) ∧ w' = w := Any.bytealg_Cutover Tryz.lays224 n h0 h1 w
def Tryz.lays190_ren : Go.Shelf.Ren := ⟨fun | 190 => 100 | 125 => 142 | 258 => 141 | 128 => 171 | 129 => 172 | 302 => 162 | 303 => 163 | 304 => 164 | 305 => 165 | 306 => 166 | 307 => 167 | 308 => 168 | 309 => 169 | 310 => 170 | 333 => 185 | 329 => 186 | 330 => 187 | 334 => 188 | 335 => 189 | 336 => 190 | 344 => 201 | n => n, fun | 31 => 53 | 9 => 9 | 3 => 3 | 46 => 34 | 0 => 0 | 51 => 148 | 53 => 218 | 4 => 4 | 183 => 211 | 182 => 210 | 131 => 169 | 5 => 5 | 218 => 227 | 222 => 231 | 228 => 240 | 229 => 94 | n => n, fun | n => n⟩
theorem Tryz.lays190 : Go.Proofs.Lays.n190 Tryz.prog Tryz.lays190_ren := {
  mixed := by kernel_rfl
  f125 := Tryz.func142.trans (congrArg some (by kernel_rfl))
  f128 := Tryz.func171.trans (congrArg some (by kernel_rfl))
  f129 := Tryz.func172.trans (congrArg some (by kernel_rfl))
  f190 := Tryz.func100.trans (congrArg some (by kernel_rfl))
  f258 := Tryz.func141.trans (congrArg some (by kernel_rfl))
  f302 := Tryz.func162.trans (congrArg some (by kernel_rfl))
  f303 := Tryz.func163.trans (congrArg some (by kernel_rfl))
  f304 := Tryz.func164.trans (congrArg some (by kernel_rfl))
  f305 := Tryz.func165.trans (congrArg some (by kernel_rfl))
  f306 := Tryz.func166.trans (congrArg some (by kernel_rfl))
  f307 := Tryz.func167.trans (congrArg some (by kernel_rfl))
  f308 := Tryz.func168.trans (congrArg some (by kernel_rfl))
  f309 := Tryz.func169.trans (congrArg some (by kernel_rfl))
  f310 := Tryz.func170.trans (congrArg some (by kernel_rfl))
  f329 := Tryz.func186.trans (congrArg some (by kernel_rfl))
  f330 := Tryz.func187.trans (congrArg some (by kernel_rfl))
  f333 := Tryz.func185.trans (congrArg some (by kernel_rfl))
  f334 := Tryz.func188.trans (congrArg some (by kernel_rfl))
  f335 := Tryz.func189.trans (congrArg some (by kernel_rfl))
  f336 := Tryz.func190.trans (congrArg some (by kernel_rfl))
  f344 := Tryz.func201.trans (congrArg some (by kernel_rfl))
  t0 := Tryz.underlying0
  a0 := Tryz.isAgg0
  z0 := Tryz.sizeOf0
  v0 := Tryz.zeroValue0
  t3 := Tryz.underlying3
  a3 := Tryz.isAgg3
  z3 := Tryz.sizeOf3
  v3 := Tryz.zeroValue3
  t4 := Tryz.underlying4
  a4 := Tryz.isAgg4
  z4 := Tryz.sizeOf4
  v4 := Tryz.zeroValue4
  t5 := Tryz.underlying5
  a5 := Tryz.isAgg5
  z5 := Tryz.sizeOf5
  v5 := Tryz.zeroValue5
  t9 := Tryz.underlying9
  a9 := Tryz.isAgg9
  z9 := Tryz.sizeOf9
  v9 := Tryz.zeroValue9
  t31 := Tryz.underlying53
  a31 := Tryz.isAgg53
  z31 := Tryz.sizeOf53
  v31 := Tryz.zeroValue53
  t46 := Tryz.underlying34
  a46 := Tryz.isAgg34
  z46 := Tryz.sizeOf34
  v46 := Tryz.zeroValue34
  t51 := Tryz.underlying148
  a51 := Tryz.isAgg148
  z51 := Tryz.sizeOf148
  v51 := Tryz.zeroValue148
  t53 := Tryz.underlying218
  a53 := Tryz.isAgg218
  z53 := Tryz.sizeOf218
  v53 := Tryz.zeroValue218
  t131 := Tryz.underlying169
  a131 := Tryz.isAgg169
  z131 := Tryz.sizeOf169
  v131 := Tryz.zeroValue169
  t182 := Tryz.underlying210
  a182 := Tryz.isAgg210
  z182 := Tryz.sizeOf210
  v182 := Tryz.zeroValue210
  t183 := Tryz.underlying211
  a183 := Tryz.isAgg211
  z183 := Tryz.sizeOf211
  v183 := Tryz.zeroValue211
  t218 := Tryz.underlying227
  a218 := Tryz.isAgg227
  z218 := Tryz.sizeOf227
  v218 := Tryz.zeroValue227
  t222 := Tryz.underlying231
  a222 := Tryz.isAgg231
  z222 := Tryz.sizeOf231
  v222 := Tryz.zeroValue231
  t228 := Tryz.underlying240
  a228 := Tryz.isAgg240
  z228 := Tryz.sizeOf240
  v228 := Tryz.zeroValue240
  t229 := Tryz.underlying94
  a229 := Tryz.isAgg94
  z229 := Tryz.sizeOf94
  v229 := Tryz.zeroValue94 }
open Go.Sort Go.RowKit in
theorem Tryz.slices_Sort_string (blk off cap : Nat) (ss : List (List UInt8)) (w : World) (hH : Holds encStr w blk off ss.toArray) (hblk : blk < w.heap.size) (hsz : ss.length < 4611686018427387904) :
    Calls Tryz.prog 100 #[.slice (some ⟨blk, off, none⟩) ss.length cap] w fun e w' =>
      e = .returned (.tuple #[]) ∧ ∃ n os, w' = grow (putRow encStr (Sort.ahead w n) blk off (ss.mergeSort fun x y => decide (x ≤ y)).toArray) os := Any.slices_Sort_string Tryz.lays190 blk off cap ss w hH hblk hsz
def Tryz.lays315_ren : Go.Shelf.Ren := ⟨fun | 315 => 161 | n => n, fun | 9 => 9 | 40 => 188 | 4 => 4 | 3 => 3 | 0 => 0 | 21 => 21 | n => n, fun | n => n⟩
theorem Tryz.lays315 : Go.Proofs.Lays.n315 Tryz.prog Tryz.lays315_ren := {
  mixed := by kernel_rfl
  f315 := Tryz.func161.trans (congrArg some (by kernel_rfl))
  t0 := Tryz.underlying0
  a0 := Tryz.isAgg0
  z0 := Tryz.sizeOf0
  v0 := Tryz.zeroValue0
  t3 := Tryz.underlying3
  a3 := Tryz.isAgg3
  z3 := Tryz.sizeOf3
  v3 := Tryz.zeroValue3
  t4 := Tryz.underlying4
  a4 := Tryz.isAgg4
  z4 := Tryz.sizeOf4
  v4 := Tryz.zeroValue4
  t9 := Tryz.underlying9
  a9 := Tryz.isAgg9
  z9 := Tryz.sizeOf9
  v9 := Tryz.zeroValue9
  t21 := Tryz.underlying21
  a21 := Tryz.isAgg21
  z21 := Tryz.sizeOf21
  v21 := Tryz.zeroValue21
  t40 := Tryz.underlying188
  a40 := Tryz.isAgg188
  z40 := Tryz.sizeOf188
  v40 := Tryz.zeroValue188 }
open Go.RowKit Go.Lib in
theorem Tryz.strings_indexFunc (g : Nat) (lb : Array Value) (eg : ∀ args w, (callFunc g args).run Tryz.prog w = .ok (.enter g args) w) (p : Nat → Bool) (truth : Bool) (s : ByteArray) (w : World) (hp : PredAt Tryz.prog g lb encR p w) :
    Calls Tryz.prog 161 #[.string s, .func (.func g) #[] lb, .bool truth] w fun e w' => e = .returned (.int .i64 (Lib.idxFunc p truth s)) ∧ Below w.heap.size w w' := Any.strings_indexFunc Tryz.lays315 g lb eg p truth s w hp
def Tryz.laysGw15_ren : Go.Shelf.Ren := ⟨fun | 15 => 138 | 20 => 161 | n => n, fun | 9 => 9 | 23 => 188 | 3 => 3 | 4 => 4 | 0 => 0 | 21 => 21 | n => n, fun | n => n⟩
theorem Tryz.laysGw15 : Go.Proofs.LaysGw.n15 Tryz.prog Tryz.laysGw15_ren := {
  mixed := by kernel_rfl
  f15 := Tryz.func138.trans (congrArg some (by kernel_rfl))
  f20 := Tryz.func161.trans (congrArg some (by kernel_rfl))
  t0 := Tryz.underlying0
  a0 := Tryz.isAgg0
  z0 := Tryz.sizeOf0
  v0 := Tryz.zeroValue0
  i0 := by kernel_rfl
  t3 := Tryz.underlying3
  a3 := Tryz.isAgg3
  z3 := Tryz.sizeOf3
  v3 := Tryz.zeroValue3
  i3 := by kernel_rfl
  t4 := Tryz.underlying4
  a4 := Tryz.isAgg4
  z4 := Tryz.sizeOf4
  v4 := Tryz.zeroValue4
  i4 := by kernel_rfl
  t9 := Tryz.underlying9
  a9 := Tryz.isAgg9
  z9 := Tryz.sizeOf9
  v9 := Tryz.zeroValue9
  i9 := by kernel_rfl
  t21 := Tryz.underlying21
  a21 := Tryz.isAgg21
  z21 := Tryz.sizeOf21
  v21 := Tryz.zeroValue21
  i21 := by kernel_rfl
  t23 := Tryz.underlying188
  a23 := Tryz.isAgg188
  z23 := Tryz.sizeOf188
  v23 := Tryz.zeroValue188
  i23 := by kernel_rfl }
open Go.RowKit Go.Lib in
theorem Tryz.strings_IndexFunc (g : Nat) (lb : Array Value) (eg : ∀ args w, (callFunc g args).run Tryz.prog w = .ok (.enter g args) w) (p : Nat → Bool) (s : ByteArray) (w : World) (hp : PredAt Tryz.prog g lb encR p w) :
    Calls Tryz.prog 138 #[.string s, .func (.func g) #[] lb] w fun e w' => e = .returned (.int .i64 (Lib.idxFunc p true s)) ∧ Below w.heap.size w w' := Any.strings_IndexFunc Tryz.laysGw15 g lb eg p s w hp
open Go.RowKit Go.Lib in
theorem Tryz.strings_indexFunc_runes (g : Nat) (lb : Array Value) (eg : ∀ args w, (callFunc g args).run Tryz.prog w = .ok (.enter g args) w) (p : Nat → Bool) (truth : Bool) (s : ByteArray) (w : World) (hp : PredAtRunes Tryz.prog g lb p w) :
    Calls Tryz.prog 161 #[.string s, .func (.func g) #[] lb, .bool truth] w fun e w' => e = .returned (.int .i64 (Lib.idxFunc p truth s)) ∧ Below w.heap.size w w' := Any.strings_indexFunc_runes Tryz.lays315 g lb eg p truth s w hp
open Go.RowKit Go.Lib in
theorem Tryz.strings_IndexFunc_runes (g : Nat) (lb : Array Value) (eg : ∀ args w, (callFunc g args).run Tryz.prog w = .ok (.enter g args) w) (p : Nat → Bool) (s : ByteArray) (w : World) (hp : PredAtRunes Tryz.prog g lb p w) :
    Calls Tryz.prog 138 #[.string s, .func (.func g) #[] lb] w fun e w' => e = .returned (.int .i64 (Lib.idxFunc p true s)) ∧ Below w.heap.size w w' := Any.strings_IndexFunc_runes Tryz.laysGw15 g lb eg p s w hp
def Tryz.lays206_ren : Go.Shelf.Ren := ⟨fun | 206 => 81 | n => n, fun | 9 => 9 | 4 => 4 | 3 => 3 | n => n, fun | n => n⟩
theorem Tryz.lays206 : Go.Proofs.Lays.n206 Tryz.prog Tryz.lays206_ren := {
  mixed := by kernel_rfl
  f206 := Tryz.func81.trans (congrArg some (by kernel_rfl))
  t3 := Tryz.underlying3
  a3 := Tryz.isAgg3
  z3 := Tryz.sizeOf3
  v3 := Tryz.zeroValue3
  t4 := Tryz.underlying4
  a4 := Tryz.isAgg4
  z4 := Tryz.sizeOf4
  v4 := Tryz.zeroValue4
  t9 := Tryz.underlying9
  a9 := Tryz.isAgg9
  z9 := Tryz.sizeOf9
  v9 := Tryz.zeroValue9 }
open Go.RowKit Go.Lib in
theorem Tryz.stringslite_HasPrefix (s p : ByteArray) (w : World) :
    Calls Tryz.prog 81 #[.string s, .string p] w fun e w' => e = .returned (.bool (Lib.hasPrefix s.data.toList p.data.toList)) ∧ w' = w := Any.stringslite_HasPrefix Tryz.lays206 s p w
def Tryz.lays99_ren : Go.Shelf.Ren := ⟨fun | 99 => 40 | 206 => 81 | n => n, fun | 9 => 9 | 4 => 4 | 3 => 3 | n => n, fun | n => n⟩
theorem Tryz.lays99 : Go.Proofs.Lays.n99 Tryz.prog Tryz.lays99_ren := {
  mixed := by kernel_rfl
  f99 := Tryz.func40.trans (congrArg some (by kernel_rfl))
  f206 := Tryz.func81.trans (congrArg some (by kernel_rfl))
  t3 := Tryz.underlying3
  a3 := Tryz.isAgg3
  z3 := Tryz.sizeOf3
  v3 := Tryz.zeroValue3
  t4 := Tryz.underlying4
  a4 := Tryz.isAgg4
  z4 := Tryz.sizeOf4
  v4 := Tryz.zeroValue4
  t9 := Tryz.underlying9
  a9 := Tryz.isAgg9
  z9 := Tryz.sizeOf9
  v9 := Tryz.zeroValue9 }
open Go.RowKit Go.Lib in
theorem Tryz.strings_HasPrefix (s p : ByteArray) (w : World) :
    Calls Tryz.prog 40 #[.string s, .string p] w fun e w' => e = .returned (.bool (Lib.hasPrefix s.data.toList p.data.toList)) ∧ w' = w := Any.strings_HasPrefix Tryz.lays99 s p w
def Tryz.lays152_ren : Go.Shelf.Ren := ⟨fun | 152 => 160 | 137 => 181 | 119 => 182 | 224 => 183 | 225 => 184 | 217 => 200 | 266 => 206 | n => n, fun | 9 => 9 | 21 => 21 | 3 => 3 | 4 => 4 | 5 => 5 | 0 => 0 | 46 => 34 | n => n, fun | n => n⟩
theorem Tryz.lays152 : Go.Proofs.Lays.n152 Tryz.prog Tryz.lays152_ren := {
  mixed := by kernel_rfl
  f119 := Tryz.func182.trans (congrArg some (by kernel_rfl))
  f137 := Tryz.func181.trans (congrArg some (by kernel_rfl))
  f152 := Tryz.func160.trans (congrArg some (by kernel_rfl))
  f217 := Tryz.func200.trans (congrArg some (by kernel_rfl))
  f224 := Tryz.func183.trans (congrArg some (by kernel_rfl))
  f225 := Tryz.func184.trans (congrArg some (by kernel_rfl))
  f266 := Tryz.func206.trans (congrArg some (by kernel_rfl))
  t0 := Tryz.underlying0
  a0 := Tryz.isAgg0
  z0 := Tryz.sizeOf0
  v0 := Tryz.zeroValue0
  t3 := Tryz.underlying3
  a3 := Tryz.isAgg3
  z3 := Tryz.sizeOf3
  v3 := Tryz.zeroValue3
  t4 := Tryz.underlying4
  a4 := Tryz.isAgg4
  z4 := Tryz.sizeOf4
  v4 := Tryz.zeroValue4
  t5 := Tryz.underlying5
  a5 := Tryz.isAgg5
  z5 := Tryz.sizeOf5
  v5 := Tryz.zeroValue5
  t9 := Tryz.underlying9
  a9 := Tryz.isAgg9
  z9 := Tryz.sizeOf9
  v9 := Tryz.zeroValue9
  t21 := Tryz.underlying21
  a21 := Tryz.isAgg21
  z21 := Tryz.sizeOf21
  v21 := Tryz.zeroValue21
  t46 := Tryz.underlying34
  a46 := Tryz.isAgg34
  z46 := Tryz.sizeOf34
  v46 := Tryz.zeroValue34 }
open Go.RowKit Go.Lib in
theorem Tryz.strings_IndexRune_ascii (s : ByteArray) (r : Int) (w : World) (h0 : 0 ≤ r) (h1 : r < 128) :
    Calls Tryz.prog 160 #[.string s, .int .i32 r] w fun e w' => e = .returned (.int .i64 (Lib.indexByte s.data.toList r.toNat.toUInt8)) ∧ w' = w := Any.strings_IndexRune_ascii Tryz.lays152 s r w h0 h1
def Tryz.lays151_ren : Go.Shelf.Ren := ⟨fun | 151 => 137 | 152 => 160 | 137 => 181 | 119 => 182 | 224 => 183 | 225 => 184 | 217 => 200 | 266 => 206 | n => n, fun | 9 => 9 | 21 => 21 | 4 => 4 | 3 => 3 | 5 => 5 | 0 => 0 | 46 => 34 | n => n, fun | n => n⟩
theorem Tryz.lays151 : Go.Proofs.Lays.n151 Tryz.prog Tryz.lays151_ren := {
  mixed := by kernel_rfl
  f119 := Tryz.func182.trans (congrArg some (by kernel_rfl))
  f137 := Tryz.func181.trans (congrArg some (by kernel_rfl))
  f151 := Tryz.func137.trans (congrArg some (by kernel_rfl))
  f152 := Tryz.func160.trans (congrArg some (by kernel_rfl))
  f217 := Tryz.func200.trans (congrArg some (by kernel_rfl))
  f224 := Tryz.func183.trans (congrArg some (by kernel_rfl))
  f225 := Tryz.func184.trans (congrArg some (by kernel_rfl))
  f266 := Tryz.func206.trans (congrArg some (by kernel_rfl))
  t0 := Tryz.underlying0
  a0 := Tryz.isAgg0
  z0 := Tryz.sizeOf0
  v0 := Tryz.zeroValue0
  t3 := Tryz.underlying3
  a3 := Tryz.isAgg3
  z3 := Tryz.sizeOf3
  v3 := Tryz.zeroValue3
  t4 := Tryz.underlying4
  a4 := Tryz.isAgg4
  z4 := Tryz.sizeOf4
  v4 := Tryz.zeroValue4
  t5 := Tryz.underlying5
  a5 := Tryz.isAgg5
  z5 := Tryz.sizeOf5
  v5 := Tryz.zeroValue5
  t9 := Tryz.underlying9
  a9 := Tryz.isAgg9
  z9 := Tryz.sizeOf9
  v9 := Tryz.zeroValue9
  t21 := Tryz.underlying21
  a21 := Tryz.isAgg21
  z21 := Tryz.sizeOf21
  v21 := Tryz.zeroValue21
  t46 := Tryz.underlying34
  a46 := Tryz.isAgg34
  z46 := Tryz.sizeOf34
  v46 := Tryz.zeroValue34 }
open Go.RowKit Go.Lib in
theorem Tryz.strings_ContainsRune_ascii (s : ByteArray) (r : Int) (w : World) (h0 : 0 ≤ r) (h1 : r < 128) :
    Calls Tryz.prog 137 #[.string s, .int .i32 r] w fun e w' => e = .returned (.bool (decide (0 ≤ Lib.indexByte s.data.toList r.toNat.toUInt8))) ∧ w' = w := Any.strings_ContainsRune_ascii Tryz.lays151 s r w h0 h1
open Go.RowKit Go.Lib in
theorem Tryz.strings_indexFunc_grows (g : Nat) (lb : Array Value) (eg : ∀ args w, (callFunc g args).run Tryz.prog w = .ok (.enter g args) w) (p : Nat → Bool) (truth : Bool) (s : ByteArray) (w : World) (hp : PredGrows Tryz.prog g lb p w) :
    Calls Tryz.prog 161 #[.string s, .func (.func g) #[] lb, .bool truth] w fun e w' => e = .returned (.int .i64 (Lib.idxFunc p truth s)) ∧ Below w.heap.size w w' := Any.strings_indexFunc_grows Tryz.lays315 g lb eg p truth s w hp
open Go.RowKit Go.Lib in
theorem Tryz.strings_IndexFunc_grows (g : Nat) (lb : Array Value) (eg : ∀ args w, (callFunc g args).run Tryz.prog w = .ok (.enter g args) w) (p : Nat → Bool) (s : ByteArray) (w : World) (hp : PredGrows Tryz.prog g lb p w) :
    Calls Tryz.prog 138 #[.string s, .func (.func g) #[] lb] w fun e w' => e = .returned (.int .i64 (Lib.idxFunc p true s)) ∧ Below w.heap.size w w' := Any.strings_IndexFunc_grows Tryz.laysGw15 g lb eg p s w hp
def Tryz.lays109_ren : Go.Shelf.Ren := ⟨fun | 109 => 159 | n => n, fun | 31 => 53 | 9 => 9 | 3 => 3 | 0 => 0 | 4 => 4 | n => n, fun | n => n⟩
theorem Tryz.lays109 : Go.Proofs.Lays.n109 Tryz.prog Tryz.lays109_ren := {
  mixed := by kernel_rfl
  f109 := Tryz.func159.trans (congrArg some (by kernel_rfl))
  t0 := Tryz.underlying0
  a0 := Tryz.isAgg0
  z0 := Tryz.sizeOf0
  v0 := Tryz.zeroValue0
  t3 := Tryz.underlying3
  a3 := Tryz.isAgg3
  z3 := Tryz.sizeOf3
  v3 := Tryz.zeroValue3
  t4 := Tryz.underlying4
  a4 := Tryz.isAgg4
  z4 := Tryz.sizeOf4
  v4 := Tryz.zeroValue4
  t9 := Tryz.underlying9
  a9 := Tryz.isAgg9
  z9 := Tryz.sizeOf9
  v9 := Tryz.zeroValue9
  t31 := Tryz.underlying53
  a31 := Tryz.isAgg53
  z31 := Tryz.sizeOf53
  v31 := Tryz.zeroValue53 }
open Go.Lib in
theorem Tryz.slices_Index_string (b off n c : Nat) (zs : List ByteArray) (x : ByteArray) (w : World) (hz : n ≤ zs.length) (hbig : n ≤ 9223372036854775807) (hc : ∀ j, j < zs.length → w.cell? ⟨b, off + j, none⟩ = some (.string (zs.getD j ByteArray.empty))) :
    Calls Tryz.prog 159 #[.slice (some ⟨b, off, none⟩) n c, .string x] w fun e w' => e = .returned (.int .i64 (Lib.idxOfS (zs.take n) x)) ∧ w' = w := Any.slices_Index_string Tryz.lays109 b off n c zs x w hz hbig hc
open Go.Lib in
theorem Tryz.slices_Index_string_empty (a : Option Addr) (c : Nat) (x : ByteArray) (w : World) :
    Calls Tryz.prog 159 #[.slice a 0 c, .string x] w fun e w' => e = .returned (.int .i64 (Lib.idxOfS [] x)) ∧ w' = w := Any.slices_Index_string_empty Tryz.lays109 a c x w
def Tryz.lays110_ren : Go.Shelf.Ren := ⟨fun | 110 => 135 | 109 => 159 | n => n, fun | 31 => 53 | 9 => 9 | 4 => 4 | 3 => 3 | 0 => 0 | n => n, fun | n => n⟩
theorem Tryz.lays110 : Go.Proofs.Lays.n110 Tryz.prog Tryz.lays110_ren := {
  mixed := by kernel_rfl
  f109 := Tryz.func159.trans (congrArg some (by kernel_rfl))
  f110 := Tryz.func135.trans (congrArg some (by kernel_rfl))
  t0 := Tryz.underlying0
  a0 := Tryz.isAgg0
  z0 := Tryz.sizeOf0
  v0 := Tryz.zeroValue0
  t3 := Tryz.underlying3
  a3 := Tryz.isAgg3
  z3 := Tryz.sizeOf3
  v3 := Tryz.zeroValue3
  t4 := Tryz.underlying4
  a4 := Tryz.isAgg4
  z4 := Tryz.sizeOf4
  v4 := Tryz.zeroValue4
  t9 := Tryz.underlying9
  a9 := Tryz.isAgg9
  z9 := Tryz.sizeOf9
  v9 := Tryz.zeroValue9
  t31 := Tryz.underlying53
  a31 := Tryz.isAgg53
  z31 := Tryz.sizeOf53
  v31 := Tryz.zeroValue53 }
open Go.Lib in
theorem Tryz.slices_Contains_string (b off n c : Nat) (zs : List ByteArray) (x : ByteArray) (w : World) (hz : n ≤ zs.length) (hbig : n ≤ 9223372036854775807) (hc : ∀ j, j < zs.length → w.cell? ⟨b, off + j, none⟩ = some (.string (zs.getD j ByteArray.empty))) :
    Calls Tryz.prog 135 #[.slice (some ⟨b, off, none⟩) n c, .string x] w fun e w' => e = .returned (.bool (Lib.containsS (zs.take n) x)) ∧ w' = w := Any.slices_Contains_string Tryz.lays110 b off n c zs x w hz hbig hc
open Go.Lib in
theorem Tryz.slices_Contains_string_empty (a : Option Addr) (c : Nat) (x : ByteArray) (w : World) :
    Calls Tryz.prog 135 #[.slice a 0 c, .string x] w fun e w' => e = .returned (.bool false) ∧ w' = w := Any.slices_Contains_string_empty Tryz.lays110 a c x w
open Go.RowKit Go.Sort in
theorem Tryz.slices_Sort_string_none (p : Option Addr) (cap : Nat) (w : World) :
    Calls Tryz.prog 100 #[.slice p 0 cap] w fun e w' => e = .returned (.tuple #[]) ∧ w' = w := Any.slices_Sort_string_none Tryz.lays190 p cap w
end Go.Proofs
/- strings.IndexRune OF A RUNE BEYOND ASCII IN AN ASCII TEXT: -1. -/
namespace Go.Proofs.YtmkofejijkabnaaGreatDoor
open Go.RowKit
theorem indexByte_no (l : List UInt8) (c : UInt8) (h : ∀ x ∈ l, x ≠ c) : Lib.indexByte l c = -1 := by
  have h1 := Lib.indexByte_ge l c
  rcases (by omega : Lib.indexByte l c < 0 ∨ 0 ≤ Lib.indexByte l c) with h2 | h2
  · omega
  · obtain ⟨o, ho⟩ : ∃ o : Nat, Lib.indexByte l c = o := ⟨(Lib.indexByte l c).toNat, by omega⟩
    have := (Lib.indexByte_some ho).1
    exact (h c (List.mem_of_getElem? this) rfl).elim
theorem run_slice_from {P : Program} {T : TypeId} (hu : P.underlying T = some .string) (l : List UInt8) (k1 : IntKind) (i : Nat) (h1 : i ≤ l.length) (w : World) :
    (Instr.slice T (.string ⟨l.toArray⟩) (some (.int k1 (i : Int))) none none).run P w = .ok (.string ⟨(l.drop i).toArray⟩) w := by
  have hsz : ByteArray.size ⟨l.toArray⟩ = l.length := rfl
  simp [Instr.slice, Instr.sliceBounds, Instr.sliceBound, asIntOf, run_underlying hu, hsz, h1, ByteArray.extract_mk]
  rw [List.take_of_length_le (by rw [List.length_drop]; exact Nat.le_refl _)]
set_option maxHeartbeats 1000000 in
set_option maxRecDepth 100000 in
theorem irune_high (l : List UInt8) (hl : ∀ c ∈ l, c.toNat < 128) (_hlen : l.length ≤ 1000) (r : Nat) (hr : 128 ≤ r) (hr2 : r ≤ 2097151) (w : World) :
    Calls Tryz.prog 160 #[.string ⟨l.toArray⟩, .int .i32 (r : Int)] w fun e w' => e = .returned (.int .i64 (-1)) ∧ Below w.heap.size w w' := by
  have HL := Keep.keep hl
  clear hl
  by_cases h65 : r = 65533
  · subst h65
    go_enter Tryz.func160, Tryz.ntmps160
    go_wp2_with fail
    go_loopg [] l.length (fun g wx => ∃ i : Nat, i + g = l.length ∧ wx = w.iter ⟨l.toArray⟩ i)
    case atStart => exact ⟨0, by omega, rfl⟩
    case round =>
      obtain ⟨i, hig, rfl⟩ := hrel
      cases gk with
      | zero =>
        obtain rfl : i = l.length := by omega
        have hnx := run_next_end (P := Tryz.prog) w ⟨l.toArray⟩ l.length
        go_wp2_with fail
        go_ret
        exact ⟨rfl, (Below.refl _ _).alloc (Nat.le_refl _) _⟩
      | succ g =>
        have hi : i < l.length := by omega
        have hnx := fun ty => run_next_ascii (P := Tryz.prog) w ⟨l.toArray⟩ i ty hi (HL.out _ (List.getElem_mem hi))
        have hc1 := HL.out _ (List.getElem_mem hi)
        obtain ⟨x, hx⟩ : ∃ x : UInt8, (⟨l.toArray⟩ : ByteArray)[i]'hi = x := ⟨_, rfl⟩
        have hx1 : x.toNat < 128 := by rw [← hx]; exact hc1
        rw [hx] at hnx
        have hcz : ((x.toNat : Int) == 65533) = false := beq_eq_false_iff_ne.2 (by omega)
        clear hc1 hx
        go_wp2_with fail
        go_roundg g
        case measure => omega
        case rel => exact ⟨i + 1, by omega, rfl⟩
  · have hne : ((r : Int) = 65533) = False := by simp; omega
    obtain ⟨t, z, he, ht1, ht3, hz⟩ := encode_high r hr
    have hv := Tryz.utf8_ValidRune (r : Int) w
    generalize Lib.validRune (r : Int) = vb at hv
    have HV := Keep.keep hv; clear hv
    have hcv : (convert 21 9 (.int .i32 (r : Int))).run Tryz.prog w = .ok (.string ⟨(t ++ [z]).toArray⟩) w := by rw [← he]; rfl
    clear he
    cases vb
    · go_enter Tryz.func160, Tryz.ntmps160
      go_wp2_with (go_at_call 182; ((with_reducible refine HV.out.mono ?_); rintro e w1 ⟨rfl, rfl⟩))
      go_ret
      exact ⟨rfl, Below.refl _ _⟩
    · go_enter Tryz.func160, Tryz.ntmps160
      go_wp2_with (go_at_call 182; ((with_reducible refine HV.out.mono ?_); rintro e w1 ⟨rfl, rfl⟩))
      have hsz : (⟨(t ++ [z]).toArray⟩ : ByteArray).size = t.length + 1 := by simp [ByteArray.size]
      have hsl : (⟨l.toArray⟩ : ByteArray).size = l.length := by simp [ByteArray.size]
      go_step3
      go_wp2_with fail
      have HB := Keep.keep hsl
      go_loopw [9] (fun v wr => v = .int .i64 (t.length : Int) ∧ wr = w1) (fun _ _ => 0)
      case atStart => exact ⟨congrArg (Value.int .i64) (by omega), rfl⟩
      case round =>
        obtain ⟨rfl, rfl⟩ := hrel
        by_cases hlt : t.length < l.length
        · go_wp2_with fail
          have HLo := HL.out
          obtain ⟨c, hc⟩ : ∃ c, l[t.length]? = some c := ⟨l[t.length], List.getElem?_eq_getElem hlt⟩
          have hc1 := HLo c (List.mem_of_getElem? hc)
          have k1 := run_index_str (P := Tryz.prog) Tryz.underlying9 ⟨l.toArray⟩ .i64 t.length c (by simpa using hc)
          have k2 := run_index_str (P := Tryz.prog) Tryz.underlying9 ⟨(t ++ [z]).toArray⟩ .i64 t.length z (by simp)
          have k3 := run_slice_from (P := Tryz.prog) Tryz.underlying9 l .i64 (t.length + 1) (by omega)
          rw [show ((t.length + 1 : Nat) : Int) = (t.length : Int) + 1 by omega] at k3
          have hwr := IntWalk.i64_in ((t.length : Int) + 1) (by omega)
          have h3 := indexByte_no (l.drop (t.length + 1)) z (fun x hx e => by have := HLo x (List.mem_of_mem_drop hx); subst e; omega)
          have hib : ∀ wx, Calls Tryz.prog 181 #[.string ⟨(l.drop (t.length + 1)).toArray⟩, .int .u8 (z.toNat : Int)] wx fun e w' => e = .returned (.int .i64 (-1)) ∧ w' = wx := by
            intro wx
            have := Tryz.strings_IndexByte ⟨(l.drop (t.length + 1)).toArray⟩ (z.toNat : Int) wx
            rw [show ((z.toNat : Int).toNat.toUInt8) = z by simp] at this
            rw [show (⟨(l.drop (t.length + 1)).toArray⟩ : ByteArray).data.toList = l.drop (t.length + 1) from rfl, h3] at this
            exact this
          have HIB := Keep.keep hib
          clear hib h3 HLo hc
          generalize l.drop (t.length + 1) = ld at *
          have hcz : ((c.toNat : Int) != (z.toNat : Int)) = true := by rw [bne_iff_ne]; omega
          generalize (c.toNat : Int) = ci at *
          generalize (z.toNat : Int) = zi at *
          go_step3
          go_wp2_with (go_quiet (fail))
          go_quiet ((go_at_call 181; exact quiet_after_same (HIB.out _)))
          go_wp2_with fail
          simp (zetaDelta := true) only [Exit.noGoto_ret, Exit.inBlock, Exit.then]
          go_ret
          exact ⟨rfl, below_drewN' (Below.refl _ _) _⟩
        · go_wp2_with fail
          rw [Exit.noGoto_ret]
          go_ret
          exact ⟨rfl, Below.refl _ _⟩
end Go.Proofs.YtmkofejijkabnaaGreatDoor
/- A MAP KEYED BY POINTERS TO VARIABLES OF THE HEAP: what it holds, a look, a store. -/
namespace Go.Proofs.YtmkofejijkabnaaGreatDoor
open Go.RowKit
/-- an entry: the block that the key points to, the value, when it was born -/
structure PEnt where
  k : Nat
  v : Value
  born : Nat
def entP (x : PEnt) : MapEntry := ⟨.pointer (some ⟨x.k, 0, none⟩), x.v, x.born⟩
/-- the map at b holds these -/
def PMap (w : World) (b : Nat) (L : List PEnt) (c : Nat) : Prop := w.heap[b]? = some (.map (L.map entP).toArray c)
theorem PMap.lt {w : World} {b c : Nat} {L : List PEnt} (h : PMap w b L c) : b < w.heap.size := (Array.getElem?_eq_some_iff.1 h).1
theorem PMap.loc {w w' : World} {b c : Nat} {L : List PEnt} (h : PMap w b L c) (hb : w'.heap[b]? = w.heap[b]?) : PMap w' b L c := by unfold PMap; rw [hb]; exact h
theorem PMap.below {w w' : World} {b c : Nat} {L : List PEnt} (h : PMap w b L c) (hb : Below w.heap.size w w') : PMap w' b L c := h.loc (hb.block b h.lt)
/-- the keys' variables stand in the heap -/
def Stand (w : World) (b : Nat) : Prop := ∃ e c, Row w b e c
theorem Stand.below {w w' : World} {b : Nat} (h : Stand w b) (hb : Below w.heap.size w w') : Stand w' b := by
  obtain ⟨e, c, h⟩ := h
  exact ⟨e, c, h.below hb h.lt⟩
section
variable {P : Program} {K e T V : TypeId} {w : World} {n : Nat}
theorem run_eqPtr (hK : P.underlying K = some (.pointer e)) (hs : (P.info? e).map (·.size) = some (n + 1)) {a c : Nat} (ha : Stand w a) (hc : Stand w c) :
    (Op.equal K (.pointer (some ⟨a, 0, none⟩)) (.pointer (some ⟨c, 0, none⟩))).run P w = .ok (decide (a = c)) w := by
  obtain ⟨e1, c1, h1⟩ := ha
  obtain ⟨e2, c2, h2⟩ := hc
  have hz : (sizeOf e).run P w = .ok (n + 1) w := by
    cases hi : P.info? e with
    | none => simp [hi] at hs
    | some i => simp [hi] at hs; simp [sizeOf, typeInfo, hi, hs]
  have key : (sameAddr ⟨a, 0, none⟩ ⟨c, 0, none⟩).run P w = .ok (decide (a = c)) w := by
    by_cases h : a = c
    · subst h
      simpa using run_sameAddr_same w ⟨a, 0, none⟩
    · rw [run_sameAddr_other w (a := ⟨a, 0, none⟩) (b := ⟨c, 0, none⟩) (fun e => h (by injection e)) h1 h2]
      simp [h]
  have hd : Op.maxDepth = 9999 + 1 := rfl
  unfold Op.equal
  rw [hd]
  unfold Op.equalIn
  simp only [Sem.run_bind, run_underlying hK, Result.andThen, hz]
  simp [key]
/-- where a key stands -/
def findI (k : Nat) : List PEnt → Nat → Option (Nat × Value)
  | [], _ => none
  | x :: r, i => if k = x.k then some (i, x.v) else findI k r (i + 1)
theorem run_findAsk (hK : P.underlying K = some (.pointer e)) (hs : (P.info? e).map (·.size) = some (n + 1)) {k : Nat} (hk : Stand w k) : ∀ (L : List PEnt) (i : Nat), (∀ x ∈ L, Stand w x.k) →
    (Instr.findAsking K (.pointer (some ⟨k, 0, none⟩)) (L.map entP) i).run P w = .ok (findI k L i) w
  | [], i, _ => by simp [Instr.findAsking, findI]
  | x :: r, i, h => by
    have ih := run_findAsk hK hs hk r (i + 1) (fun y hy => h y (by simp [hy]))
    have h1 := run_eqPtr hK hs hk (h x (by simp))
    rw [List.map_cons]
    unfold Instr.findAsking findI
    simp only [entP, Sem.run_bind, h1, Result.andThen]
    by_cases e : k = x.k
    · simp [e]
    · simp only [e, decide_false, if_false]
      simpa using ih
theorem run_findP (hK : P.underlying K = some (.pointer e)) (hs : (P.info? e).map (·.size) = some (n + 1)) {k : Nat} (hk : Stand w k) (L : List PEnt) (h : ∀ x ∈ L, Stand w x.k) :
    (Instr.findKey K (.pointer (some ⟨k, 0, none⟩)) (L.map entP)).run P w = .ok (findI k L 0) w := by
  unfold Instr.findKey
  simp only [Sem.run_bind, run_underlying hK, Result.andThen]
  cases L with
  | nil => simp [Instr.findNow, findI]
  | cons x r =>
    have : Instr.findNow (.pointer e) (.pointer (some ⟨k, 0, none⟩)) ((x :: r).map entP) 0 = none := rfl
    rw [this]
    exact run_findAsk hK hs hk (x :: r) 0 h
theorem run_checkP (hK : P.underlying K = some (.pointer e)) (b : Bool) (a : Option Addr) : (Instr.checkKey b 10000 K (.pointer a)).run P w = .ok () w := by
  have hd : (10000 : Nat) = 9999 + 1 := rfl
  rw [hd]
  unfold Instr.checkKey
  simp [Sem.run_bind, run_underlying hK, Result.andThen]
theorem run_getP {b c : Nat} {L : List PEnt} (hm : PMap w b L c) : (getObj b).run P w = .ok (.map (L.map entP).toArray c) w := by
  unfold PMap at hm
  simp [getObj, Sem.run, hm]
theorem run_lookP (hT : P.underlying T = some (.map K V)) (hK : P.underlying K = some (.pointer e)) (hs : (P.info? e).map (·.size) = some (n + 1)) {z : Value} (hz : (zeroValue V).run P w = .ok z w) {b c k : Nat} {L : List PEnt} (hm : PMap w b L c) (hk : Stand w k) (h : ∀ x ∈ L, Stand w x.k) :
    (Instr.lookup T (.map (some b)) (.pointer (some ⟨k, 0, none⟩)) false).run P w = .ok (((findI k L 0).map (·.2)).getD z) w := by
  have hf := run_findP hK hs hk L h
  unfold Instr.lookup
  simp only [Sem.run_bind, run_underlying hT, Result.andThen, run_getP hm, run_checkP hK, hf, Sem.run_pure]
  cases hfi : findI k L 0 with
  | none => simp [hz]
  | some x => obtain ⟨i, v⟩ := x; simp
/-- the world after the map at b was laid anew -/
def putM (w : World) (b : Nat) (L : List PEnt) (c : Nat) : World := { w with heap := w.heap.setIfInBounds b (.map (L.map entP).toArray c) }
theorem putM_in {b c c' : Nat} {L L' : List PEnt} (hm : PMap w b L c) : PMap (putM w b L' c') b L' c' := by
  unfold PMap putM
  have := hm.lt
  simp [this]
theorem putM_chg {b c : Nat} {L : List PEnt} : Chg (fun k => k = b) w.heap.size w (putM w b L c) := by
  refine ⟨rfl, rfl, rfl, by simp [putM], fun k _ hk => ?_⟩
  unfold putM
  simp only
  rw [Array.getElem?_setIfInBounds_ne (Ne.symm hk)]
theorem findI_at (k : Nat) : ∀ (L : List PEnt) (i j : Nat) (v : Value), findI k L i = some (j, v) → i ≤ j ∧ ∃ h : j - i < L.length, (L[j - i]).k = k ∧ (L[j - i]).v = v
  | [], i, j, v, h => by cases h
  | x :: r, i, j, v, h => by
    unfold findI at h
    by_cases e : k = x.k
    · rw [if_pos e] at h
      injection h with h
      injection h with h1 h2
      subst h1 h2
      refine ⟨Nat.le_refl _, by simp, ?_⟩
      simp [e]
    · rw [if_neg e] at h
      obtain ⟨h1, h2, h3, h4⟩ := findI_at k r (i + 1) j v h
      have hj : j - i = (j - (i + 1)) + 1 := by omega
      refine ⟨by omega, by rw [hj, List.length_cons]; omega, ?_⟩
      simp only [hj, List.getElem_cons_succ]
      exact ⟨h3, h4⟩
/-- what a store does to the entries -/
def putE (L : List PEnt) (c k : Nat) (v : Value) : List PEnt := match findI k L 0 with
  | some (i, _) => L.modify i (fun x => { x with v := v })
  | none => L ++ [⟨k, v, c⟩]
def putC (L : List PEnt) (c k : Nat) : Nat := match findI k L 0 with | some _ => c | none => c + 1
theorem run_stay (k : Nat) (a b : Value) (ha : a = .pointer (some ⟨k, 0, none⟩)) (hb : b = .pointer (some ⟨k, 0, none⟩)) : (Instr.keyThatStays a b).run P w = .ok b w := by
  subst ha hb
  have h1 : Instr.sameBits 10000 (.pointer (some ⟨k, 0, none⟩)) (.pointer (some ⟨k, 0, none⟩)) = true := by
    rw [show (10000 : Nat) = 9999 + 1 from rfl]
    unfold Instr.sameBits
    simp
  unfold Instr.keyThatStays
  rw [h1]
  simp
theorem run_putP (hT : P.underlying T = some (.map K V)) (hK : P.underlying K = some (.pointer e)) (hs : (P.info? e).map (·.size) = some (n + 1)) {b c k : Nat} {v : Value} {L : List PEnt} (hm : PMap w b L c) (hk : Stand w k) (h : ∀ x ∈ L, Stand w x.k) :
    (Instr.mapUpdate T (.map (some b)) (.pointer (some ⟨k, 0, none⟩)) v).run P w = .ok () (putM w b (putE L c k v) (putC L c k)) := by
  have hf := run_findP hK hs hk L h
  have hset : ∀ o, (setObj b o).run P w = .ok () { w with heap := w.heap.setIfInBounds b o } := fun o => by
    have := hm
    unfold PMap at this
    simp [setObj, Sem.run, this]
  unfold Instr.mapUpdate
  simp only [Sem.run_bind, run_underlying hT, Result.andThen, run_getP hm, run_checkP hK, hf]
  unfold putE putC putM
  cases hfi : findI k L 0 with
  | none =>
    simp only [hset]
    congr 1
    congr 2
    simp [entP]
  | some x =>
    obtain ⟨i, v0⟩ := x
    obtain ⟨-, h2, h3, -⟩ := findI_at k L 0 i v0 hfi
    rw [Nat.sub_zero] at h2
    simp only [Nat.sub_zero] at h3
    have hst : (Instr.keyThatStays ((((L.map entP).toArray[i]?).map (·.key)).getD (.pointer (some ⟨k, 0, none⟩))) (.pointer (some ⟨k, 0, none⟩))).run P w = .ok (.pointer (some ⟨k, 0, none⟩)) w := by
      refine run_stay k _ _ ?_ rfl
      simp [h2, entP, h3]
    simp only [Sem.run_bind, hst, Result.andThen, hset]
    congr 1
    congr 2
    refine Obj.map.injEq .. |>.mpr ⟨?_, rfl⟩
    refine Array.ext' ?_
    simp only [List.modify_toArray]
    refine List.ext_getElem? fun j => ?_
    simp only [List.getElem?_modify, List.getElem?_map]
    by_cases e : i = j
    · subst e
      simp [h2, entP, h3]
    · simp [e]
end
/-- when entries were born -/
structure PWell (L : List PEnt) (c : Nat) : Prop where
  o : ∀ x ∈ L, x.born < c
  n : (L.map (·.born)).Nodup
theorem PWell.nil (c : Nat) : PWell [] c := ⟨fun x hx => by simp at hx, by simp⟩
theorem modify_born (L : List PEnt) (i : Nat) (v : Value) : (L.modify i (fun x => { x with v := v })).map (·.born) = L.map (·.born) := by
  refine List.ext_getElem? fun j => ?_
  simp only [List.getElem?_map, List.getElem?_modify]
  cases hj : L[j]? with
  | none => simp
  | some y => by_cases e : i = j <;> simp [e]
theorem PWell.put {L : List PEnt} {c : Nat} (h : PWell L c) (k : Nat) (v : Value) : PWell (putE L c k v) (putC L c k) := by
  unfold putE putC
  cases hf : findI k L 0 with
  | some y =>
    obtain ⟨i, u⟩ := y
    simp only
    have hb := modify_born L i v
    refine ⟨fun x hx => ?_, by rw [hb]; exact h.n⟩
    have : x.born ∈ L.map (·.born) := by rw [← hb]; exact List.mem_map.2 ⟨x, hx, rfl⟩
    obtain ⟨y, hy, e⟩ := List.mem_map.1 this
    rw [← e]; exact h.o y hy
  | none =>
    simp only
    refine ⟨fun x hx => ?_, ?_⟩
    · rcases List.mem_append.1 hx with hx | hx
      · exact Nat.lt_succ_of_lt (h.o x hx)
      · obtain rfl : x = ⟨k, v, c⟩ := by simpa using hx
        exact Nat.lt_succ_self _
    · rw [List.map_append, List.nodup_append]
      refine ⟨h.n, by simp, fun a ha b hb e => ?_⟩
      obtain ⟨x, hx, rfl⟩ := List.mem_map.1 ha
      obtain rfl : b = c := by simpa using hb
      have := h.o x hx
      omega
/-- a loop over the map: what is left of it -/
structure RgP (w : World) (b r : Nat) (L : List PEnt) (c : Nat) (left : List PEnt) : Prop where
  m : PMap w b L c
  q : PWell L c
  i : ∃ seen c0, w.heap[r]? = some (.mapIter (some b) c seen c0) ∧ c ≤ c0 ∧ left = L.filter (fun x => !seen.contains x.born)
theorem RgP.loc {w w' : World} {b r c : Nat} {L left : List PEnt} (h : RgP w b r L c left) (hb : w'.heap[b]? = w.heap[b]?) (hr : w'.heap[r]? = w.heap[r]?) : RgP w' b r L c left := by
  obtain ⟨seen, c0, h1, h2⟩ := h.i
  exact ⟨h.m.loc hb, h.q, seen, c0, by rw [hr]; exact h1, h2⟩
theorem RgP.lt {w : World} {b r c : Nat} {L left : List PEnt} (h : RgP w b r L c left) : b < w.heap.size ∧ r < w.heap.size ∧ r ≠ b := by
  obtain ⟨seen, c0, h1, h2⟩ := h.i
  refine ⟨h.m.lt, (Array.getElem?_eq_some_iff.1 h1).1, fun e => ?_⟩
  have := h.m
  unfold PMap at this
  rw [← e, h1] at this
  cases this
theorem run_rangeP {P : Program} {K V T : TypeId} (hT : P.underlying T = some (.map K V)) {w : World} {b c : Nat} {L : List PEnt} (hm : PMap w b L c) (hw : PWell L c) :
    (Instr.range T (.map (some b))).run P w = .ok (.pointer (some ⟨w.heap.size, 0, none⟩)) (w.alloc (.mapIter (some b) c #[] c)) ∧ RgP (w.alloc (.mapIter (some b) c #[] c)) b w.heap.size L c L := by
  have hal : Below w.heap.size w (w.alloc (.mapIter (some b) c #[] c)) := (Below.refl _ _).alloc (Nat.le_refl _) _
  refine ⟨?_, hm.below hal, hw, #[], c, heap_alloc_new w _, Nat.le_refl _, (List.filter_eq_self.2 (fun x _ => by simp)).symm⟩
  unfold Instr.range
  simp only [Sem.run_bind, run_underlying hT, Result.andThen, run_getP hm]
  rfl
theorem left_map (L : List PEnt) (seen : Array Nat) : (leftOf (L.map entP).toArray seen).toList = (L.filter (fun x => !seen.contains x.born)).map entP := by
  unfold leftOf
  simp only [List.filter_toArray, List.filter_map]
  rfl
theorem RgP.next {P : Program} {w : World} {b r c : Nat} {L left : List PEnt} (h : RgP w b r L c left) (ty : TypeId) :
    (left = [] ∧ (Instr.next (.pointer (some ⟨r, 0, none⟩)) false ty).run P w = .ok (.tuple #[.bool false]) w) ∨
    ∃ x ∈ left, ∃ w', (Instr.next (.pointer (some ⟨r, 0, none⟩)) false ty).run P w = .ok (.tuple #[.bool true, .pointer (some ⟨x.k, 0, none⟩), x.v]) w' ∧
      RgP w' b r L c (left.filter (fun y => y.born != x.born)) ∧ Chg (fun j => j = r) w.heap.size w w' ∧ w'.heap.size = w.heap.size ∧ (Instr.entry (.pointer (some ⟨r, 0, none⟩))).run P w' = .ok (.tuple #[.pointer (some ⟨x.k, 0, none⟩), x.v]) w' := by
  have hlt := h.lt
  obtain ⟨seen, c0, h1, h2, h3⟩ := h.i
  have hm := h.m
  unfold PMap at hm
  rcases run_next_at (P := P) w ty r b c c0 seen _ c h1 hm (fun x hx => by
    simp only [List.mem_map] at hx
    obtain ⟨y, hy, rfl⟩ := hx
    exact h.q.o y hy) h2 with ⟨h4, h5⟩ | ⟨e, he, w1, hw1, hr⟩
  · refine .inl ⟨?_, h5⟩
    have := left_map L seen
    rw [← h3] at this
    have h6 : (leftOf (L.map entP).toArray seen).toList.length = 0 := by simpa using h4
    rw [this, List.length_map] at h6
    exact List.eq_nil_of_length_eq_zero h6
  · rw [left_map, ← h3] at he
    obtain ⟨x, hx, rfl⟩ := List.mem_map.1 he
    have hxL : x ∈ L := by rw [h3] at hx; exact (List.mem_filter.1 hx).1
    have hb1 : ∀ j : Nat, w1.heap[j]? = w.heap[j]? := fun j => by rcases hw1 with rfl | rfl <;> rfl
    have hs1 : w1.heap.size = w.heap.size := by rcases hw1 with rfl | rfl <;> rfl
    have hset : ∀ j : Nat, j ≠ r → (Go.ChangeMaps.setBlock w1 r (.mapIter (some b) c (seen.push x.born) c)).heap[j]? = w.heap[j]? := fun j hj => by
      unfold Go.ChangeMaps.setBlock
      simp only
      rw [Array.getElem?_setIfInBounds_ne (Ne.symm hj), hb1]
    have hsr : (Go.ChangeMaps.setBlock w1 r (.mapIter (some b) c (seen.push x.born) c)).heap[r]? = some (.mapIter (some b) c (seen.push x.born) c) := by
      unfold Go.ChangeMaps.setBlock
      simp only
      rw [Array.getElem?_setIfInBounds_self_of_lt (by rw [hs1]; exact hlt.2.1)]
    refine .inr ⟨x, hx, _, hr, ⟨?_, h.q, seen.push x.born, c, hsr, Nat.le_refl _, ?_⟩, ⟨?_, ?_, ?_, ?_, fun k _ hk => hset k hk⟩, ?_, ?_⟩
    · exact h.m.loc (hset b (Ne.symm hlt.2.2))
    · rw [h3, List.filter_filter]
      refine List.filter_congr fun y _ => ?_
      rw [Array.contains_push, Bool.not_or, Bool.and_comm]
      rfl
    · rcases hw1 with rfl | rfl <;> rfl
    · rcases hw1 with rfl | rfl <;> rfl
    · rcases hw1 with rfl | rfl <;> rfl
    · unfold Go.ChangeMaps.setBlock; simp [hs1]
    · unfold Go.ChangeMaps.setBlock; simp [hs1]
    · refine run_entry_at _ r b c seen (L.map entP).toArray c (entP x) hsr ?_ ?_ ?_
      · exact (hset b (Ne.symm hlt.2.2)).trans hm
      · simp only [List.mem_map]; exact ⟨x, hxL, rfl⟩
      · have : (L.map entP).toArray.toList.map (·.born) = L.map (·.born) := by simp [entP, Function.comp_def]
        rw [this]; exact h.q.n
end Go.Proofs.YtmkofejijkabnaaGreatDoor
/- A MAP KEYED BY TEXTS, its values whatever they are: a sorted list of keys and values stands for it. -/
namespace Go.Proofs.YtmkofejijkabnaaGreatDoor
open Go.RowKit Go.Maps Go.WideMaps
def rawE (v : Value) : Option (DataW Value × List MemPlace) := some (.held v, [])
def dSe (x : Tx × Value) : Lit × DataW Value := (.string x.1, .held x.2)
def dS (M : List (Tx × Value)) : DataW Value := .map (M.map dSe)
theorem before_lt : ∀ a b : Tx, bytesBefore a b = decide (a < b)
  | [], [] => by simp [bytesBefore]
  | [], _ :: _ => by simp [bytesBefore]
  | _ :: _, [] => by simp [bytesBefore]
  | x :: a, y :: b => by
    unfold bytesBefore
    rw [before_lt a b, Bool.eq_iff_iff]
    simp [List.cons_lt_cons_iff]
theorem insert_dS {L : List (Tx × Value)} (h : SM.Srt L) (p : Tx) (v : Value) (hn : ∀ x ∈ L, x.1 ≠ p) : DataW.insert (Lit.string p, DataW.held v) (L.map dSe) = (SM.lo L p).map dSe ++ dSe (p, v) :: (SM.hi L p).map dSe := by
  induction L with
  | nil => rfl
  | cons y r ih =>
    obtain ⟨h1, h2⟩ := List.pairwise_cons.1 h
    rw [List.map_cons]
    unfold DataW.insert
    have hb : (Lit.string p).before (dSe y).1 = decide (p < y.1) := before_lt p y.1
    rw [hb]
    by_cases e : p < y.1
    · rw [if_pos (by simpa using e)]
      have hl : SM.lo (y :: r) p = [] := by
        unfold SM.lo
        rw [List.filter_eq_nil_iff]
        intro z hz
        rcases List.mem_cons.1 hz with rfl | hz
        · simpa using tx_asymm e
        · simpa using tx_asymm (tx_trans e (h1 z hz))
      have hh : SM.hi (y :: r) p = y :: r := by
        unfold SM.hi
        rw [List.filter_eq_self]
        intro z hz
        rcases List.mem_cons.1 hz with rfl | hz
        · simpa using e
        · simpa using tx_trans e (h1 z hz)
      rw [hl, hh]; rfl
    · have e' : y.1 < p := by
        rcases tx_tri y.1 p with h | h | h
        · exact h
        · exact (hn y (by simp) h).elim
        · exact (e h).elim
      rw [if_neg (by simpa using e), ih h2 (fun x hx => hn x (by simp [hx]))]
      have hl : SM.lo (y :: r) p = y :: SM.lo r p := by unfold SM.lo; rw [List.filter_cons_of_pos (by simpa using e')]
      have hh : SM.hi (y :: r) p = SM.hi r p := by unfold SM.hi; rw [List.filter_cons_of_neg (by simpa using e)]
      rw [hl, hh]; rfl
theorem filter_dS (M : List (Tx × Value)) (p : Tx) : (M.map dSe).filter (fun x => !x.1.sameKey (.string p)) = (M.filter (fun x => x.1 != p)).map dSe := by
  rw [List.filter_map]
  rfl
theorem dS_put {M : List (Tx × Value)} (h : SM.Srt M) (p : Tx) (v : Value) : (dS M).put (.string p) (.held v) = dS (SM.put M (p, v)) := by
  unfold dS DataW.put
  simp only
  rw [filter_dS, insert_dS (h.filter _) p v (fun x hx => by simpa using (List.mem_filter.1 hx).2)]
  have h1 : SM.lo (M.filter (fun x => x.1 != p)) p = SM.lo M p := by
    unfold SM.lo
    rw [List.filter_filter]
    refine List.filter_congr (fun x _ => ?_)
    by_cases e : x.1 < p
    · have : x.1 ≠ p := fun e' => tx_irrefl _ (e' ▸ e)
      simp [e, this]
    · simp [e]
  have h2 : SM.hi (M.filter (fun x => x.1 != p)) p = SM.hi M p := by
    unfold SM.hi
    rw [List.filter_filter]
    refine List.filter_congr (fun x _ => ?_)
    by_cases e : p < x.1
    · have : x.1 ≠ p := fun e' => tx_irrefl _ (e' ▸ e)
      simp [e, this]
    · simp [e]
  rw [h1, h2]
  unfold SM.put
  rw [List.map_append, List.map_cons]
theorem dS_del (M : List (Tx × Value)) (p : Tx) : (dS M).del (.string p) = dS (M.filter (fun x => x.1 != p)) := by
  unfold dS DataW.del
  simp only
  rw [filter_dS]
theorem has_dS (M : List (Tx × Value)) (p : Tx) : Maps.has (dS M) (.string p) = (SM.look M p).isSome := by
  unfold dS
  rw [Maps.has_eq, List.any_map]
  unfold SM.look
  rw [Option.isSome_map, Bool.eq_iff_iff, List.any_eq_true, List.find?_isSome]
  rfl
theorem atKey_dS (M : List (Tx × Value)) (p : Tx) (z : DataW Value) : (dS M).atKey (.string p) z = (match SM.look M p with | some v => .held v | none => z) := by
  unfold dS DataW.atKey SM.look
  simp only
  rw [List.find?_map]
  have : ((fun q : Lit × DataW Value => q.1.sameKey (.string p)) ∘ dSe) = fun x => x.1 == p := rfl
  rw [this]
  cases M.find? (fun x => x.1 == p) <;> rfl
theorem size_dS (M : List (Tx × Value)) : Maps.size (dS M) = M.length := by simp [dS, Maps.size]
/-- block b is a map that holds M -/
structure MapS (w : World) (k : TypeId) (b : Nat) (M : List (Tx × Value)) : Prop where
  s : SM.Srt M
  l : ∀ x ∈ M, x.1.length ≤ maxLen
  o : w.ownsMap Tryz.prog k rawE b M.length (dS M)
theorem owns_tight {w : World} {k : TypeId} {b n : Nat} {M : List (Tx × Value)} (h : w.ownsMap Tryz.prog k rawE b n (dS M)) : w.ownsMap Tryz.prog k rawE b M.length (dS M) := by
  obtain ⟨es, clock, hb, F, hs, hD⟩ := h
  refine ⟨es, clock, hb, F, ?_, hD⟩
  unfold dS at hD
  injection hD with hD
  have := congrArg List.length hD
  rw [List.length_map, Go.length_sorted, List.length_map, Array.length_toList] at this
  exact Nat.le_of_eq this.symm
theorem MapS.lt {w : World} {k : TypeId} {b : Nat} {M : List (Tx × Value)} (h : MapS w k b M) : b < w.heap.size := h.o.lt
theorem MapS.loc {w w' : World} {k : TypeId} {b : Nat} {M : List (Tx × Value)} (h : MapS w k b M) (hb : w'.heap[b]? = w.heap[b]?) : MapS w' k b M := by
  obtain ⟨es, clock, h1, rest⟩ := h.o
  exact ⟨h.s, h.l, es, clock, hb.trans h1, rest⟩
section
variable {k : TypeId} (hk : Tryz.prog.underlying k = some .string)
include hk in
theorem keyS {p : Tx} (hp : p.length ≤ maxLen) : keyOf Tryz.prog k (.string ⟨p.toArray⟩) = some (.string p) := by
  have := keyOf_string_mk hk (s := ⟨p.toArray⟩) hp
  simpa using this
omit hk in
theorem MapS.made (w : World) : MapS (w.alloc (.map #[] 0)) k w.heap.size [] := ⟨SM.Srt.nil, fun _ h => (List.not_mem_nil h).elim, World.ownsMap_made _ _ _ _⟩
variable {t e : TypeId} (ht : Tryz.prog.underlying t = some (.map k e))
include hk ht
set_option maxRecDepth 100000 in
theorem MapS.lookOk {w : World} {b : Nat} {M : List (Tx × Value)} (h : MapS w k b M) {z : Value} (hz : (zeroValue e).run Tryz.prog w = .ok z w) {p : Tx} (hp : p.length ≤ maxLen) :
    (Instr.lookup t (.map (some b)) (.string ⟨p.toArray⟩) true).run Tryz.prog w = .ok (.tuple #[(SM.look M p).getD z, .bool (SM.look M p).isSome]) w := by
  obtain ⟨v, ps, hr, hv⟩ := h.o.look_ok (string_keyed hk) ht hz (zd := .held z) (zp := []) rfl (keyS hk hp)
  rw [has_dS] at hr
  rw [hr, atKey_dS] at *
  unfold rawE at hv
  injection hv with hv
  injection hv with hv _
  cases hl : SM.look M p with
  | none => rw [hl] at hv; injection hv with hv; rw [hv]; rfl
  | some u => rw [hl] at hv; injection hv with hv; rw [hv]; rfl
set_option maxRecDepth 100000 in
theorem MapS.look1 {w : World} {b : Nat} {M : List (Tx × Value)} (h : MapS w k b M) {z : Value} (hz : (zeroValue e).run Tryz.prog w = .ok z w) {p : Tx} (hp : p.length ≤ maxLen) :
    (Instr.lookup t (.map (some b)) (.string ⟨p.toArray⟩) false).run Tryz.prog w = .ok ((SM.look M p).getD z) w := by
  obtain ⟨v, ps, hr, hv⟩ := h.o.lookup (string_keyed hk) ht hz (zd := .held z) (zp := []) rfl (keyS hk hp)
  rw [hr, atKey_dS] at *
  unfold rawE at hv
  injection hv with hv
  injection hv with hv _
  cases hl : SM.look M p with
  | none => rw [hl] at hv; injection hv with hv; rw [hv]; rfl
  | some u => rw [hl] at hv; injection hv with hv; rw [hv]; rfl
omit hk in
theorem MapS.len {w : World} {b : Nat} {M : List (Tx × Value)} (h : MapS w k b M) (ty : TypeId) : (Builtin.len_ #[t] ty #[.map (some b)]).run Tryz.prog w = .ok (.int .i64 (M.length : Int)) w := by
  rw [h.o.len ht ty, size_dS]
set_option maxRecDepth 100000 in
theorem MapS.put {w : World} {b : Nat} {M : List (Tx × Value)} (h : MapS w k b M) {p : Tx} (hp : p.length ≤ maxLen) (hn : M.length < maxLen) (v : Value) :
    ∃ w', (Instr.mapUpdate t (.map (some b)) (.string ⟨p.toArray⟩) v).run Tryz.prog w = .ok () w' ∧ MapS w' k b (SM.put M (p, v)) ∧ Chg (fun j => j = b) w.heap.size w w' := by
  obtain ⟨w', hr, ho, hg⟩ := h.o.update (string_keyed hk) ht hn (keyS hk hp) (val := v) (d := .held v) (ps := []) rfl
  rw [dS_put h.s] at ho
  refine ⟨w', hr, ⟨h.s.put _, fun x hx => ?_, owns_tight ho⟩, ⟨hg.os, hg.tape, hg.output, hg.size, fun j hj hm => hg.block j hj (fun e => hm (by injection e))⟩⟩
  rcases SM.mem_put.1 hx with rfl | ⟨hx, _⟩
  · exact hp
  · exact h.l x hx
set_option maxRecDepth 100000 in
theorem MapS.del {w : World} {b : Nat} {M : List (Tx × Value)} (h : MapS w k b M) {p : Tx} (hp : p.length ≤ maxLen) (ty : TypeId) :
    ∃ w', (Builtin.delete_ #[t, k] ty #[.map (some b), .string ⟨p.toArray⟩]).run Tryz.prog w = .ok (.tuple #[]) w' ∧ MapS w' k b (M.filter (fun x => x.1 != p)) ∧ Chg (fun j => j = b) w.heap.size w w' := by
  obtain ⟨w', hr, ho, hm⟩ := h.o.drop (string_keyed hk) ht (keyS hk hp) ty
  rw [dS_del] at ho
  have hg := hm.grown
  exact ⟨w', hr, ⟨h.s.filter _, fun x hx => h.l x (List.mem_filter.1 hx).1, owns_tight ho⟩, ⟨hg.os, hg.tape, hg.output, hg.size, fun j hj hm => hg.block j hj (fun e => hm (by injection e))⟩⟩
end
/-- a range over such a map is under way: block r is its iterator; todo: is the key still to come? -/
structure RgS (w : World) (k : TypeId) (b r : Nat) (M : List (Tx × Value)) (todo : Tx → Bool) (cnt : Nat) : Prop where
  s : SM.Srt M
  l : ∀ x ∈ M, x.1.length ≤ maxLen
  o : ∃ n left, w.ranges Tryz.prog k rawE b r n (dS M) left cnt ∧ ∀ p : Tx, left (.string p) = todo p
theorem RgS.map {w : World} {k : TypeId} {b r : Nat} {M : List (Tx × Value)} {todo : Tx → Bool} {cnt : Nat} (h : RgS w k b r M todo cnt) : MapS w k b M := by
  obtain ⟨n, left, ho, _⟩ := h.o
  exact ⟨h.s, h.l, owns_tight ho.owns⟩
theorem RgS.loc {w w' : World} {k : TypeId} {b r : Nat} {M : List (Tx × Value)} {todo : Tx → Bool} {cnt : Nat} (h : RgS w k b r M todo cnt) (hb : w'.heap[b]? = w.heap[b]?) (hr : w'.heap[r]? = w.heap[r]?) : RgS w' k b r M todo cnt := by
  obtain ⟨n, left, ⟨es, clock, since, seen, c0, h1, h2, h3, h4, h5, h6⟩, ht⟩ := h.o
  exact ⟨h.s, h.l, n, left, ⟨es, clock, since, seen, c0, hb.trans h1, h2, h3, h4, hr.trans h5, h6⟩, ht⟩
theorem RgS.lt {w : World} {k : TypeId} {b r : Nat} {M : List (Tx × Value)} {todo : Tx → Bool} {cnt : Nat} (h : RgS w k b r M todo cnt) : b < w.heap.size ∧ r < w.heap.size ∧ r ≠ b := by
  have := h.map.lt
  obtain ⟨n, left, ho, _⟩ := h.o
  exact ⟨this, ho.lt, ho.ne⟩
section
variable {k : TypeId} (hk : Tryz.prog.underlying k = some .string)
include hk
theorem MapS.range {t e : TypeId} (ht : Tryz.prog.underlying t = some (.map k e)) {w : World} {b : Nat} {M : List (Tx × Value)} (h : MapS w k b M) :
    ∃ w', (Instr.range t (.map (some b))).run Tryz.prog w = .ok (.pointer (some ⟨w.heap.size, 0, none⟩)) w' ∧ RgS w' k b w.heap.size M (fun p => (SM.look M p).isSome) M.length ∧ Below w.heap.size w w' ∧ w'.heap.size = w.heap.size + 1 := by
  obtain ⟨w', hr, ho, hg, hs⟩ := h.o.range (string_keyed hk) ht
  refine ⟨w', hr, ⟨h.s, h.l, _, _, by rw [size_dS] at ho; exact ho, fun p => has_dS M p⟩, ⟨hg.os, hg.tape, hg.output, hg.size, fun j hj => hg.block j hj (by simp)⟩, hs⟩
set_option maxRecDepth 100000 in
theorem RgS.next {w : World} {b r : Nat} {M : List (Tx × Value)} {todo : Tx → Bool} {cnt : Nat} (h : RgS w k b r M todo cnt) (ty : TypeId) :
    (cnt = 0 ∧ (∀ p, todo p = false) ∧ (Instr.next (.pointer (some ⟨r, 0, none⟩)) false ty).run Tryz.prog w = .ok (.tuple #[.bool false]) w) ∨
    ∃ p v w' cnt', todo p = true ∧ SM.look M p = some v ∧ (Instr.next (.pointer (some ⟨r, 0, none⟩)) false ty).run Tryz.prog w = .ok (.tuple #[.bool true, .string ⟨p.toArray⟩, v]) w' ∧
      RgS w' k b r M (fun q => todo q && q != p) cnt' ∧ cnt' < cnt ∧ Chg (fun j => j = r) w.heap.size w w' ∧ w'.heap.size = w.heap.size ∧ (Instr.entry (.pointer (some ⟨r, 0, none⟩))).run Tryz.prog w' = .ok (.tuple #[.string ⟨p.toArray⟩, v]) w' := by
  obtain ⟨n, left, ho, htd⟩ := h.o
  rcases ho.next (string_keyed hk) ty with ⟨h0, hl, hr⟩ | ⟨key, v, kl, y, w', cnt', hkey, hlk, hv, hat, hr, hrg, hlt, hg, hsz, hen⟩
  · exact .inl ⟨h0, fun p => by rw [← htd, hl], hr⟩
  · obtain ⟨p, rfl, rfl, hp⟩ := Maps.keyOf_str hk hkey
    unfold rawE at hv
    injection hv with hv
    refine .inr ⟨p, v, w', cnt', by rw [← htd]; exact hlk, ?_, hr, ⟨h.s, h.l, n, _, hrg, fun q => ?_⟩, hlt, ⟨hg.os, hg.tape, hg.output, hg.size, fun j hj hm => hg.block j hj (fun e => hm (by injection e))⟩, hsz, hen⟩
    · have h1 := hat .nil
      rw [atKey_dS, ← hv] at h1
      cases hl : SM.look M p with
      | none => rw [hl] at h1; cases h1
      | some u => rw [hl] at h1; injection h1 with h1; rw [h1]
    · simp only [htd]
      rfl
theorem RgS.del {t e : TypeId} (ht : Tryz.prog.underlying t = some (.map k e)) {w : World} {b r : Nat} {M : List (Tx × Value)} {todo : Tx → Bool} {cnt : Nat} (h : RgS w k b r M todo cnt) {p : Tx} (hp : p.length ≤ maxLen) (ty : TypeId) :
    ∃ w' cnt', (Builtin.delete_ #[t, k] ty #[.map (some b), .string ⟨p.toArray⟩]).run Tryz.prog w = .ok (.tuple #[]) w' ∧ RgS w' k b r (M.filter (fun x => x.1 != p)) (fun q => todo q && q != p) cnt' ∧ cnt' ≤ cnt ∧ Chg (fun j => j = b) w.heap.size w w' := by
  obtain ⟨n, left, ho, htd⟩ := h.o
  obtain ⟨w', cnt', hr, hrg, hle, hm⟩ := ho.drop (string_keyed hk) ht (keyS hk hp) ty
  rw [dS_del] at hrg
  have hg := hm.grown
  exact ⟨w', cnt', hr, ⟨h.s.filter _, fun x hx => h.l x (List.mem_filter.1 hx).1, n, _, hrg, fun q => by simp only [htd]; rfl⟩, hle, ⟨hg.os, hg.tape, hg.output, hg.size, fun j hj hm => hg.block j hj (fun e => hm (by injection e))⟩⟩
end
/-- what has come, when one more comes -/
theorem came_step {α : Type} {M : List (Tx × α)} (h : SM.Srt M) {todo : Tx → Bool} {p : Tx} {v : α} (hp : todo p = true) (hl : SM.look M p = some v) :
    (M.filter (fun x => !(todo x.1 && x.1 != p))).Perm (M.filter (fun x => !todo x.1) ++ [(p, v)]) := by
  refine (List.perm_ext_iff_of_nodup ?_ ?_).2 (fun x => ?_)
  · exact List.Pairwise.imp (R := fun a b : Tx × α => a.1 < b.1) (fun {a b} hab (e : a = b) => tx_irrefl a.1 (by rw [← e] at hab; exact hab)) (h.filter _)
  · have hs : SM.Srt (M.filter (fun x => !todo x.1)) := h.filter _
    have hnd := List.Pairwise.imp (R := fun a b : Tx × α => a.1 < b.1) (fun {a b} hab (e : a = b) => tx_irrefl a.1 (by rw [← e] at hab; exact hab)) hs
    refine List.nodup_append.2 ⟨hnd, by simp, fun a ha b hb e => ?_⟩
    obtain rfl : b = (p, v) := by simpa using hb
    subst e
    have := (List.mem_filter.1 ha).2
    simp [hp] at this
  · simp only [List.mem_filter, List.mem_append, List.mem_singleton]
    constructor
    · rintro ⟨hm, hx⟩
      by_cases e : x.1 = p
      · refine .inr ?_
        obtain ⟨q, u⟩ := x
        simp only at e
        subst e
        rw [h.one hm (SM.look_mem hl)]
      · refine .inl ⟨hm, ?_⟩
        simpa [e] using hx
    · rintro (⟨hm, hx⟩ | rfl)
      · refine ⟨hm, ?_⟩
        have : todo x.1 = false := by simpa using hx
        simp [this]
      · exact ⟨SM.look_mem hl, by simp⟩
theorem came_start {α : Type} (M : List (Tx × α)) : M.filter (fun x => !(SM.look M x.1).isSome) = [] := by
  rw [List.filter_eq_nil_iff]
  intro x hx
  cases hl : SM.look M x.1 with
  | none => exact absurd rfl (SM.look_none.1 hl x hx)
  | some v => simp
theorem came_all {α : Type} (M : List (Tx × α)) {todo : Tx → Bool} (h : ∀ p, todo p = false) : M.filter (fun x => !todo x.1) = M := by
  rw [List.filter_eq_self]
  intro x _
  simp [h]
/-- as assertions -/
def msA (k : TypeId) (b : Nat) (M : List (Tx × Value)) : As := ⟨fun j => j = b, fun w => MapS w k b M, fun _ _ h hp => hp.loc (h b rfl)⟩
def rgA (k : TypeId) (b r : Nat) (M : List (Tx × Value)) (todo : Tx → Bool) (cnt : Nat) : As := ⟨fun j => j = b ∨ j = r, fun w => RgS w k b r M todo cnt, fun _ _ h hp => hp.loc (h b (.inl rfl)) (h r (.inr rfl))⟩
theorem Hp.newMap {M : Nat → Prop} {w wr : World} {ls : List As} (h : Hp M w wr ls) (k : TypeId) : Hp M w (wr.alloc (.map #[] 0)) (ls ++ [msA k wr.heap.size []]) :=
  h.push _ (.of_below ((Below.refl _ _).alloc (Nat.le_refl _) _)) (MapS.made wr) (fun b hb => by have hb : b = _ := hb; subst hb; simp)
end Go.Proofs.YtmkofejijkabnaaGreatDoor
/- THE WALK AT A MAP KEYED BY TEXTS: it stops at range, next, delete and stores; what each does. -/
namespace Go.Proofs.YtmkofejijkabnaaGreatDoor
open Go.RowKit Go.Maps
/-- the walk stops here -/
inductive StM (P : Program) (ops : Array Oper) (rest : List Oper) (a : Act) (w : World) (Q : Exit → Act → World → Prop) (o : Oper) : Prop
  | mk (h : wpList P ops Q (o :: rest) a w)
section
variable {P : Program} {ops : Array Oper} {rest : List Oper} {a : Act} {w : World} {Q : Exit → Act → World → Prop} {tp t kt : TypeId} {dst : Option Tmp} {m x v : Operand} {b : Bool} {pos : String} {after : Array Edge}
theorem StM.out {o : Oper} (h : wpList P ops Q (o :: rest) a w) : StM P ops rest a w Q o := .mk h
theorem arm_sRange (h : StM P ops rest a w Q ⟨dst, .range t m, tp, pos, after, none⟩) : wpList P ops Q (⟨dst, .range t m, tp, pos, after, none⟩ :: rest) a w := by cases h; assumption
theorem arm_sNext (h : StM P ops rest a w Q ⟨dst, .next m b, tp, pos, after, none⟩) : wpList P ops Q (⟨dst, .next m b, tp, pos, after, none⟩ :: rest) a w := by cases h; assumption
theorem arm_sDel (h : StM P ops rest a w Q ⟨dst, .call ⟨.builtin .delete, #[m, x], #[t, kt]⟩, tp, pos, after, none⟩) : wpList P ops Q (⟨dst, .call ⟨.builtin .delete, #[m, x], #[t, kt]⟩, tp, pos, after, none⟩ :: rest) a w := by cases h; assumption
theorem arm_sPut (h : StM P ops rest a w Q ⟨dst, .mapUpdate t m x v, tp, pos, after, none⟩) : wpList P ops Q (⟨dst, .mapUpdate t m x v, tp, pos, after, none⟩ :: rest) a w := by cases h; assumption
theorem arm_sIns (h : StM P ops rest a w Q ⟨dst, .insert t m x v, tp, pos, after, none⟩) : wpList P ops Q (⟨dst, .insert t m x v, tp, pos, after, none⟩ :: rest) a w := by cases h; assumption
theorem wpList_run {o : Oper} {u : Value} {w' : World} (hg : o.guard = none) (hr : (execOp a.eval o).run P w = .ok (.value u) w') (h : wpList P ops Q rest (a.put o.dst u) w') : wpList P ops Q (o :: rest) a w := by
  refine wpList_plain hg fun K hK => ?_
  unfold Oper.wp
  rw [hr]
  exact hK _ _ h
/-- ARM: a load that is known -/
theorem arm_loadM {ty : TypeId} {y : Operand} {ad : Addr} {u : Value} (hr : (Instr.loadAt ty (.pointer (some ad))).run P w = .ok u w) (hx : a.eval y = .pointer (some ad)) (h : wpList P ops Q rest (a.put dst u) w) : wpList P ops Q (⟨dst, .load ty y, tp, pos, after, none⟩ :: rest) a w := by
  refine wpList_run rfl (w' := w) (u := u) ?_ h
  unfold execOp
  simp only [hx, Sem.run_bind, Sem.run_pure, Result.andThen_ok, hr]
theorem wpList_skip {o : Oper} {w' : World} (hg : o.guard = none) (hr : (execOp a.eval o).run P w = .ok .skip w') (h : wpList P ops Q rest (a.put o.dst undef) w') : wpList P ops Q (o :: rest) a w := by
  refine wpList_plain hg fun K hK => ?_
  unfold Oper.wp
  rw [hr]
  exact hK _ _ h
end
section
variable {ops : Array Oper} {rest : List Oper} {a : Act} {w : World} {Q : Exit → Act → World → Prop} {tp t k e : TypeId} {dst : Option Tmp} {m x v it : Operand} {pos : String} {after : Array Edge}
theorem arm_rangeS (hk : Tryz.prog.underlying k = some .string) (ht : Tryz.prog.underlying t = some (.map k e)) {b : Nat} {M : List (Tx × Value)} (h : MapS w k b M) (hm : a.eval m = .map (some b))
    (K : ∀ w', RgS w' k b w.heap.size M (fun p => (SM.look M p).isSome) M.length → Below w.heap.size w w' → w'.heap.size = w.heap.size + 1 → wpList Tryz.prog ops Q rest (a.put dst (.pointer (some ⟨w.heap.size, 0, none⟩))) w') :
    wpList Tryz.prog ops Q (⟨dst, .range t m, tp, pos, after, none⟩ :: rest) a w := by
  obtain ⟨w', hr, h1, h2, h3⟩ := h.range hk ht
  refine wpList_run rfl (w' := w') (u := .pointer (some ⟨w.heap.size, 0, none⟩)) ?_ (K w' h1 h2 h3)
  simp [execOp, hm, hr, Result.andThen]
theorem arm_nextS (hk : Tryz.prog.underlying k = some .string) {b r cnt : Nat} {M : List (Tx × Value)} {todo : Tx → Bool} (h : RgS w k b r M todo cnt) (hit : a.eval it = .pointer (some ⟨r, 0, none⟩))
    (hD : cnt = 0 → (∀ p, todo p = false) → wpList Tryz.prog ops Q rest (a.put dst (.tuple #[.bool false])) w)
    (hM : ∀ p v w' cnt', todo p = true → SM.look M p = some v → RgS w' k b r M (fun q => todo q && q != p) cnt' → cnt' < cnt → Chg (fun j => j = r) w.heap.size w w' → w'.heap.size = w.heap.size →
      (Instr.entry (.pointer (some ⟨r, 0, none⟩))).run Tryz.prog w' = .ok (.tuple #[.string ⟨p.toArray⟩, v]) w' → wpList Tryz.prog ops Q rest (a.put dst (.tuple #[.bool true, .string ⟨p.toArray⟩, v])) w') :
    wpList Tryz.prog ops Q (⟨dst, .next it false, tp, pos, after, none⟩ :: rest) a w := by
  rcases h.next hk tp with ⟨h0, h1, hr⟩ | ⟨p, v, w', cnt', h1, h2, hr, h3, h4, h5, h6, h7⟩
  · refine wpList_run rfl (w' := w) (u := .tuple #[.bool false]) ?_ (hD h0 h1)
    simp [execOp, hit, hr, Result.andThen]
  · refine wpList_run rfl (w' := w') (u := .tuple #[.bool true, .string ⟨p.toArray⟩, v]) ?_ (hM p v w' cnt' h1 h2 h3 h4 h5 h6 h7)
    simp [execOp, hit, hr, Result.andThen]
theorem arm_delS (hk : Tryz.prog.underlying k = some .string) (ht : Tryz.prog.underlying t = some (.map k e)) {b : Nat} {M : List (Tx × Value)} (h : MapS w k b M) {p : Tx} (hp : p.length ≤ maxLen) (hm : a.eval m = .map (some b)) (hx : a.eval x = .string ⟨p.toArray⟩)
    (K : ∀ w', MapS w' k b (M.filter (fun x => x.1 != p)) → Chg (fun j => j = b) w.heap.size w w' → wpList Tryz.prog ops Q rest (a.put dst (.tuple #[])) w') :
    wpList Tryz.prog ops Q (⟨dst, .call ⟨.builtin .delete, #[m, x], #[t, k]⟩, tp, pos, after, none⟩ :: rest) a w := by
  obtain ⟨w', hr, h1, h2⟩ := h.del hk ht hp tp
  refine wpList_run rfl (w' := w') (u := .tuple #[]) ?_ (K w' h1 h2)
  simp [execOp, resolve, invoke, builtin, hm, hx, hr, Result.andThen]
theorem arm_delR (hk : Tryz.prog.underlying k = some .string) (ht : Tryz.prog.underlying t = some (.map k e)) {b r cnt : Nat} {M : List (Tx × Value)} {todo : Tx → Bool} (h : RgS w k b r M todo cnt) {p : Tx} (hp : p.length ≤ maxLen) (hm : a.eval m = .map (some b)) (hx : a.eval x = .string ⟨p.toArray⟩)
    (K : ∀ w' cnt', RgS w' k b r (M.filter (fun x => x.1 != p)) (fun q => todo q && q != p) cnt' → cnt' ≤ cnt → Chg (fun j => j = b) w.heap.size w w' → wpList Tryz.prog ops Q rest (a.put dst (.tuple #[])) w') :
    wpList Tryz.prog ops Q (⟨dst, .call ⟨.builtin .delete, #[m, x], #[t, k]⟩, tp, pos, after, none⟩ :: rest) a w := by
  obtain ⟨w', cnt', hr, h1, h2, h3⟩ := h.del hk ht hp tp
  refine wpList_run rfl (w' := w') (u := .tuple #[]) ?_ (K w' cnt' h1 h2 h3)
  simp [execOp, resolve, invoke, builtin, hm, hx, hr, Result.andThen]
theorem arm_putS (hk : Tryz.prog.underlying k = some .string) (ht : Tryz.prog.underlying t = some (.map k e)) {b : Nat} {M : List (Tx × Value)} (h : MapS w k b M) {p : Tx} (hp : p.length ≤ maxLen) (hn : M.length < maxLen) {u : Value} (hm : a.eval m = .map (some b)) (hx : a.eval x = .string ⟨p.toArray⟩) (hv : a.eval v = u)
    (K : ∀ w', MapS w' k b (SM.put M (p, u)) → Chg (fun j => j = b) w.heap.size w w' → wpList Tryz.prog ops Q rest (a.put dst undef) w') :
    wpList Tryz.prog ops Q (⟨dst, .mapUpdate t m x v, tp, pos, after, none⟩ :: rest) a w := by
  obtain ⟨w', hr, h1, h2⟩ := h.put hk ht hp hn u
  refine wpList_skip rfl (w' := w') ?_ (K w' h1 h2)
  simp [execOp, hm, hx, hv, hr, Result.andThen]
theorem arm_insS (hk : Tryz.prog.underlying k = some .string) (ht : Tryz.prog.underlying t = some (.map k e)) {b : Nat} {M : List (Tx × Value)} (h : MapS w k b M) {p : Tx} (hp : p.length ≤ maxLen) (hn : M.length < maxLen) {u : Value} (hm : a.eval m = .map (some b)) (hx : a.eval x = .string ⟨p.toArray⟩) (hv : a.eval v = u)
    (K : ∀ w', MapS w' k b (SM.put M (p, u)) → Chg (fun j => j = b) w.heap.size w w' → wpList Tryz.prog ops Q rest (a.put dst undef) w') :
    wpList Tryz.prog ops Q (⟨dst, .insert t m x v, tp, pos, after, none⟩ :: rest) a w := by
  obtain ⟨w', hr, h1, h2⟩ := h.put hk ht hp hn u
  refine wpList_skip rfl (w' := w') ?_ (K w' h1 h2)
  simp [execOp, hm, hx, hv, hr, Result.andThen]
end
end Go.Proofs.YtmkofejijkabnaaGreatDoor

/- PARTS OF ONE PROOF, set in one file: StSy, SfI, StSt, StNil, SrtMb, ClM, SrtS, SwkP, RSrt1, RSrt2, FewA, FewB, FewC, Acts, Grown, TreeAll, TreeSort, TreeList. Each part tells its own conditions. -/
import Derived.Shelf.SlSortCmp.WholeK
import Derived.Ground.SlsfProg
import Derived.Test.YtplafpokgpolkaaGreatDoorProg
import Derived.Shelf.SlSortCmp.KitK
import Derived.Sort.OwnSorted
import Derived.Test.YtplafpokgpolkaaGreatDoorP2
import Derived.Test.YtplafpokgpolkaaGreatDoorP4
import Derived.Test.YtplafpokgpolkaaGreatDoorP5
import Derived.Test.YtplafpokgpolkaaGreatDoorP6
import Derived.Test.YtplafpokgpolkaaGreatDoorP7
import Derived.Test.YtplafpokgpolkaaGreatDoorP8
import Derived.Test.YtplafpokgpolkaaGreatDoorP9
/- slices.symMergeCmpFunc over Members. -/
namespace Go.Proofs.YtplafpokgpolkaaGreatDoor
open Go.Shelf Go.RowKit Go.Lib Go.Sort
theorem sym_any {α : Type} [Inhabited α] (k : Nat) (zE : ∀ w, (Go.sizeOf 32).run Tryz.prog w = .ok k w) (enc : α → List Value) (g : Nat) (cb : Array Value) (blk off cap : Nat) (cf : α → α → Int) (lx : α → α → Bool) (t : α → Nat) (O : Ord (ltOf cf) lx t) (d0 : Array α) (w0 : World) (R : RowK enc k w0 blk off d0) (hcmp : CmpLays Tryz.prog g cb enc k cf blk off d0.size w0) (eg : ∀ args w, (callFunc g args).run Tryz.prog w = .ok (.enter g args) w) (hsz : d0.size < 1000000000000) :
    ∀ (N a m b : Nat) (d : Array α) (w : World), b - a < N → d0.size = d.size → SWK enc k w0 blk off d w → SymP lx t d a m b →
      Calls Tryz.prog 136 #[.slice (some ⟨blk, off, none⟩) d.size cap, .int .i64 a, .int .i64 m, .int .i64 b, .func (.func g) #[] cb] w fun e w' => e = .returned (.tuple #[]) ∧ ∃ d', SWK enc k w0 blk off d' w' ∧ Merged lx d d' a b
  | 0, _, _, _, _, _, h, _, _, _ => by omega
  | N + 1, a, m, b, d, w, hN, hs, S, P => by
    by_cases h1 : m - a = 1
    · exact sym1_any k zE enc g cb blk off cap cf lx t O d0 w0 R hcmp eg hsz a m b d w hs S P h1
    · by_cases h2 : b - m = 1
      · exact sym2_any k zE enc g cb blk off cap cf lx t O d0 w0 R hcmp eg hsz a m b d w hs S P h1 h2
      · exact sym3_any k zE enc g cb blk off cap cf lx t O d0 w0 R hcmp eg hsz a m b d w hs S P h1 h2 ⟨fun a' m' b' d' w' h3 h4 h5 h6 => sym_any k zE enc g cb blk off cap cf lx t O d0 w0 R hcmp eg hsz N a' m' b' d' w' (by omega) h4 h5 h6⟩
end Go.Proofs.YtplafpokgpolkaaGreatDoor
/- THE LIBRARY's FORM of slices.SortFunc at structs, laid at this translation by the shelf's own program (lay-plain). -/
namespace Go.Proofs
open Go.Shelf
def Tryz.insMb_ren : Go.Shelf.Ren := ⟨fun | 20 => 135 | n => n, fun | 24 => 32 | 22 => 35 | 3 => 3 | 25 => 100 | 4 => 4 | 0 => 0 | n => n, fun | n => n⟩
theorem Tryz.insMb : Go.Proofs.SlLaysF0.n20 Tryz.prog Tryz.insMb_ren := {
  mixed := by kernel_rfl
  f20 := ⟨Tryz.f135.name, by decide, Tryz.func135.trans (congrArg some (by kernel_rfl))⟩
  t0 := Tryz.underlying0
  a0 := Tryz.isAgg0
  z0 := Tryz.sizeOf0
  v0 := Tryz.zeroValue0
  t3 := Tryz.underlying3
  a3 := Tryz.isAgg3
  z3 := Tryz.sizeOf3
  v3 := Tryz.zeroValue3
  t4 := Tryz.underlying4
  a4 := Tryz.isAgg4
  z4 := Tryz.sizeOf4
  v4 := Tryz.zeroValue4
  t22 := Tryz.underlying35
  a22 := Tryz.isAgg35
  z22 := Tryz.sizeOf35
  v22 := Tryz.zeroValue35
  t25 := Tryz.underlying100
  a25 := Tryz.isAgg100
  z25 := Tryz.sizeOf100
  v25 := Tryz.zeroValue100 }
end Go.Proofs
/- slices.stableCmpFunc over Members: blocks sorted by insertion, then merged. -/
namespace Go.Proofs.YtplafpokgpolkaaGreatDoor
open Go.Shelf Go.RowKit Go.Lib Go.Sort
set_option maxHeartbeats 4000000 in
set_option maxRecDepth 1000000 in
theorem stab_any {α : Type} [Inhabited α] (k : Nat) (zE : ∀ w, (Go.sizeOf 32).run Tryz.prog w = .ok k w) (enc : α → List Value) (g : Nat) (cb : Array Value) (blk off cap : Nat) (cf : α → α → Int) (lx : α → α → Bool) (t : α → Nat) (O : Ord (ltOf cf) lx t) (hO : SWO (ltOf cf)) (d0 : Array α) (w0 : World) (R : RowK enc k w0 blk off d0) (hcmp : CmpLays Tryz.prog g cb enc k cf blk off d0.size w0) (eg : ∀ args w, (callFunc g args).run Tryz.prog w = .ok (.enter g args) w) (hsz : d0.size < 1000000000000)
    (hT : ∀ i, i < d0.size → t (at' d0 i) = i) (hN : NdT t d0) (w : World) (S : SWK enc k w0 blk off d0 w) :
    Calls Tryz.prog 105 #[.slice (some ⟨blk, off, none⟩) d0.size cap, .int .i64 d0.size, .func (.func g) #[] cb] w fun e w' => e = .returned (.tuple #[]) ∧ ∃ d' s, SWK enc k w0 blk off d' w' ∧ StgD lx t s d0 d' ∧ d'.size ≤ s := by
  have aE : ∀ w, (isAgg 32).run Tryz.prog w = .ok true w := fun w => by kernel_rfl
  have HINS : Keep (∀ (a b : Nat) (d : Array α) (w : World), d.size = d0.size → SWK enc k w0 blk off d w → a ≤ b → b ≤ d0.size →
      Calls Tryz.prog 135 #[.slice (some ⟨blk, off, none⟩) d0.size cap, .int .i64 a, .int .i64 b, .func (.func g) #[] cb] w fun e w' => e = .returned (.tuple #[]) ∧ SWK enc k w0 blk off (Sort.insertionSort (ltOf cf) d a b) w') := ⟨fun a b d w hs S1 hab hb => by
    have h := AnyQ.insertionSortCmpFunc_w Tryz.insMb k aE zE enc cf g cb blk off cap a b d0 d w0 w eg hcmp R hs.symm S1 hO hab (by omega) (by omega)
    rw [hs] at h
    exact h⟩
  have HSYM : Keep (∀ (a m b : Nat) (d : Array α) (w : World), d.size = d0.size → SWK enc k w0 blk off d w → SymP lx t d a m b →
      Calls Tryz.prog 136 #[.slice (some ⟨blk, off, none⟩) d0.size cap, .int .i64 a, .int .i64 m, .int .i64 b, .func (.func g) #[] cb] w fun e w' => e = .returned (.tuple #[]) ∧ ∃ d', SWK enc k w0 blk off d' w' ∧ Merged lx d d' a b) := ⟨fun a m b d w hs S1 P => by
    have h := sym_any k zE enc g cb blk off cap cf lx t O d0 w0 R hcmp eg hsz (b - a + 1) a m b d w (by omega) hs.symm S1 P
    rw [hs] at h
    exact h⟩
  have HI : Keep (∀ (a b : Nat) (d : Array α), StgI lx t 20 a d0 d → a ≤ b → b ≤ a + 20 → b ≤ d0.size → let d' := Sort.insertionSort (ltOf cf) d a b; d'.toList.Perm d0.toList ∧ d'.size = d0.size ∧ Sd lx 20 0 b d' ∧ BlkT t 20 0 d' ∧ (∀ i, b ≤ i → i < d'.size → t (at' d' i) = i)) := ⟨fun a b d h h1 h2 h3 => h.op O.swo O.agree O.total (by omega) hN h1 h2 (by rw [h.size]; exact h3)⟩
  have S0 : Aside (SWK enc k w0 blk off d0 w) := S
  have I0 : Aside (StgI lx t 20 0 d0 d0) := StgI.zero hT
  clear S hT hN O hO hcmp R
  obtain ⟨n, hn⟩ : ∃ x, x = d0.size := ⟨_, rfl⟩
  rw [← hn] at hsz HINS HSYM HI ⊢
  have HN : Keep (d0.size = n) := ⟨hn.symm⟩
  clear hn
  go_enter Tryz.func105, Tryz.ntmps105
  go_wp2
  go_loopg [7, 8] n (fun kx s7 s8 wr => ∃ (a b : Nat) (dk : Array α), s7 = .int .i64 a ∧ s8 = .int .i64 b ∧ a + 20 ≤ b ∧ b ≤ a + 20 ∧ a ≤ n ∧ n - a ≤ kx ∧ Aside (SWK enc k w0 blk off dk wr) ∧ Aside (StgI lx t 20 a d0 dk))
  case atStart => exact ⟨0, 20, d0, by go_num, by go_num, by omega, by omega, by omega, by omega, S0, I0⟩
  case round =>
    clear S0 I0
    obtain ⟨a, b, dk, rfl, rfl, hab, hba, han, hkx, S1, I1⟩ := hrel
    by_cases hbn : b ≤ n
    · have hz : (b : Int) ≤ (n : Int) := by omega
      have hc := Keep.keep (HINS.out a b dk wr (I1.out.size.trans HN.out) S1.out (by omega) hbn)
      go_wp2_with fail
      refine (hc.out).mono ?_
      rintro e w1 ⟨rfl, S2'⟩
      obtain ⟨e1, e2, e3, e4, e5⟩ := HI.out a b dk I1.out (by omega) (by omega) hbn
      obtain ⟨d1, hd1⟩ : ∃ x, x = Sort.insertionSort (ltOf cf) dk a b := ⟨_, rfl⟩
      have S2 : Aside (SWK enc k w0 blk off d1 w1) := by rw [hd1]; exact S2'
      have I2 : Aside (StgI lx t 20 b d0 d1) := by
        rw [hd1]
        refine ⟨e1, e2.trans HN.out.symm, e3, e4, e5, ?_⟩
        obtain ⟨c, hc⟩ := I1.out.dvd
        exact ⟨c + 1, by omega⟩
      clear S2' e1 e2 e3 e4 e5 hd1 S1 I1 hc
      obtain ⟨b2, hb2⟩ : ∃ x, x = b + 20 := ⟨_, rfl⟩
      have rb2 : (b : Int) + 20 = (b2 : Int) := by omega
      have rb2w : IntKind.i64.wrap (b2 : Int) = (b2 : Int) := by rw [IntKind.wrap_i64]; omega
      have fb2 : b + 20 ≤ b2 ∧ b2 ≤ b + 20 := by omega
      clear hb2
      go_wp2
      go_roundg (n - b)
      case measure => omega
      case rel => exact ⟨b, b2, d1, rfl, rfl, fb2.1, fb2.2, hbn, Nat.le_refl _, S2, I2⟩
    · have hz : ¬ (b : Int) ≤ (n : Int) := by omega
      have hc := Keep.keep (HINS.out a n dk wr (I1.out.size.trans HN.out) S1.out (by omega) (Nat.le_refl _))
      go_wp2_with fail
      refine (hc.out).mono ?_
      rintro e w1 ⟨rfl, S2'⟩
      obtain ⟨e1, e2, e3, e4, e5⟩ := HI.out a n dk I1.out han (by omega) (Nat.le_refl _)
      obtain ⟨d1, hd1⟩ : ∃ x, x = Sort.insertionSort (ltOf cf) dk a n := ⟨_, rfl⟩
      have S2 : Aside (SWK enc k w0 blk off d1 w1) := by rw [hd1]; exact S2'
      have D2 : Aside (StgD lx t 20 d0 d1) := by
        rw [hd1]
        exact ⟨e1, e2.trans HN.out.symm, by rw [e2]; exact e3, e4⟩
      clear S2' e1 e2 e3 e4 e5 hd1 S1 I1 hc
      go_wp2
      go_loopg [6, 7, 8, 9] n (fun kx s6 s7 s8 s9 wr => ∃ (s : Nat) (dk : Array α) (v7 v8 v9 : Value), s6 = .int .i64 s ∧ s7 = v7 ∧ s8 = v8 ∧ s9 = v9 ∧ 0 < s ∧ s ≤ 20 + 2 * n ∧ n - s ≤ kx ∧ Aside (SWK enc k w0 blk off dk wr) ∧ Aside (StgD lx t s d0 dk))
      case atStart => exact ⟨20, d1, _, _, _, by go_num, rfl, rfl, rfl, by omega, by omega, by omega, S2, D2⟩
      case round =>
        clear S2 D2
        obtain ⟨s, dk, v7, v8, v9, rfl, rfl, rfl, rfl, hs0, hsn, hkx2, S1, D1⟩ := hrel
        by_cases hlt : s < n
        · have hltz : (s : Int) < (n : Int) := by omega
          obtain ⟨s2, hs2⟩ : ∃ x, x = 2 * s := ⟨_, rfl⟩
          have rs2 : 2 * (s : Int) = (s2 : Int) := by omega
          have rs3 : (s : Int) * 2 = (s2 : Int) := by omega
          have rs2w : IntKind.i64.wrap (s2 : Int) = (s2 : Int) := by rw [IntKind.wrap_i64]; omega
          have fs2 : 2 * s ≤ s2 ∧ s2 ≤ 2 * s := by omega
          have M1 : Aside (StgM lx t s 0 d0 dk) := D1.out.start
          have HS2 : Keep (s2 = 2 * s) := ⟨hs2⟩
          have S9 := S1
          clear hs2 D1 S1
          go_wp2
          go_loopg [7, 8] n (fun kx3 s7 s8 wr => ∃ (a b : Nat) (dk : Array α), s7 = .int .i64 a ∧ s8 = .int .i64 b ∧ a + s2 ≤ b ∧ b ≤ a + s2 ∧ a ≤ n ∧ n - a ≤ kx3 ∧ Aside (SWK enc k w0 blk off dk wr) ∧ Aside (StgM lx t s a d0 dk))
          case atStart => exact ⟨0, s2, dk, by go_num, by go_num, by omega, by omega, by omega, by omega, S9, M1⟩
          case round =>
            clear S9 M1
            obtain ⟨a, b, dk, rfl, rfl, hab, hba, han, hkx3, S1, M1⟩ := hrel
            have hdn : dk.size = n := M1.out.size.trans HN.out
            obtain ⟨m, hm⟩ : ∃ x, x = a + s := ⟨_, rfl⟩
            have rm : (a : Int) + (s : Int) = (m : Int) := by omega
            have rmw : IntKind.i64.wrap (m : Int) = (m : Int) := by rw [IntKind.wrap_i64]; omega
            by_cases hbn : b ≤ n
            · have hz : (b : Int) ≤ (n : Int) := by omega
              have P1 : SymP lx t dk a m b := by
                obtain ⟨h1, h2, h3⟩ := M1.out.halves hs0 (b := b) (by omega) (by omega) (by omega)
                rw [hm]
                exact ⟨by omega, by omega, by omega, h1, h2, h3⟩
              have hc := Keep.keep (HSYM.out a m b dk wr hdn S1.out P1)
              obtain ⟨b2, hb2⟩ : ∃ x, x = b + s2 := ⟨_, rfl⟩
              have rb2 : (b : Int) + (s2 : Int) = (b2 : Int) := by omega
              have rb2w : IntKind.i64.wrap (b2 : Int) = (b2 : Int) := by rw [IntKind.wrap_i64]; omega
              have fb2 : b + s2 ≤ b2 ∧ b2 ≤ b + s2 := by omega
              have HB : Keep (b = a + 2 * s) := ⟨by omega⟩
              clear P1 hm hb2
              go_wp2_with fail
              refine (hc.out).mono ?_
              rintro e w1 ⟨rfl, d1, S2', G2⟩
              have S2 : Aside (SWK enc k w0 blk off d1 w1) := S2'
              have M2 : Aside (StgM lx t s b d0 d1) := by
                have hb := HB.out
                rw [hb] at G2 ⊢
                exact M1.out.next hs0 (by omega) G2
              clear S2' G2 S1 M1 hc
              go_wp2
              go_roundg (n - b)
              case measure => omega
              case rel => exact ⟨b, b2, d1, rfl, rfl, fb2.1, fb2.2, hbn, Nat.le_refl _, S2, M2⟩
            · have hz : ¬ (b : Int) ≤ (n : Int) := by omega
              by_cases hmn : m < n
              · have hmz : (m : Int) < (n : Int) := by omega
                have P1 : SymP lx t dk a m n := by
                  obtain ⟨h1, h2, h3⟩ := M1.out.halves hs0 (b := n) (by omega) (by omega) (by omega)
                  rw [hm]
                  exact ⟨by omega, by omega, by omega, h1, h2, h3⟩
                have hc := Keep.keep (HSYM.out a m n dk wr hdn S1.out P1)
                clear P1 hm
                go_wp2_with fail
                refine (hc.out).mono ?_
                rintro e w1 ⟨rfl, d1, S2', G2⟩
                have S2 : Aside (SWK enc k w0 blk off d1 w1) := S2'
                have D2 : Aside (StgD lx t s2 d0 d1) := by
                  rw [HS2.out]
                  rw [← hdn] at G2
                  exact M1.out.last hs0 (by have := HS2.out; omega) G2 (by omega)
                clear S2' G2 S1 M1 hc
                go_wp2
                go_roundg (n - s2)
                case measure => omega
                case rel => exact ⟨s2, d1, _, _, _, rfl, rfl, rfl, rfl, by omega, by omega, Nat.le_refl _, S2, D2⟩
              · have hmz : ¬ (m : Int) < (n : Int) := by omega
                have D2 : Aside (StgD lx t s2 d0 dk) := by
                  rw [HS2.out]
                  exact M1.out.stop hs0 (by omega)
                clear hm M1
                go_wp2
                go_roundg (n - s2)
                case measure => omega
                case rel => exact ⟨s2, dk, _, _, _, rfl, rfl, rfl, rfl, by omega, by omega, Nat.le_refl _, S1, D2⟩
        · have hltz : ¬ (s : Int) < (n : Int) := by omega
          go_wp2
          go_end0
          exact ⟨rfl, dk, S1.out, s, D1.out, by have := D1.out.size.trans HN.out; omega⟩
end Go.Proofs.YtplafpokgpolkaaGreatDoor
/- slices.stableCmpFunc over nothing. -/
namespace Go.Proofs.YtplafpokgpolkaaGreatDoor
open Go.Shelf Go.RowKit Go.Lib Go.Sort
set_option maxHeartbeats 1000000 in
theorem ins_nil (g : Nat) (cb : Array Value) (w : World) : Calls Tryz.prog 135 #[.slice none 0 0, .int .i64 0, .int .i64 0, .func (.func g) #[] cb] w fun e w' => e = .returned (.tuple #[]) ∧ w = w' := by
  go_enter Tryz.func135, Tryz.ntmps135
  go_wp2
  go_loopg [8] 0 (fun kx s8 wr => s8 = .int .i64 1 ∧ w = wr)
  case atStart => exact ⟨rfl, rfl⟩
  case round =>
    obtain ⟨rfl, rfl⟩ := hrel
    go_wp2
    go_end0
    exact ⟨rfl, rfl⟩
set_option maxHeartbeats 1000000 in
theorem stab_nil (g : Nat) (cb : Array Value) (w : World) : Calls Tryz.prog 105 #[.slice none 0 0, .int .i64 0, .func (.func g) #[] cb] w fun e w' => e = .returned (.tuple #[]) ∧ w = w' := by
  have hc := Keep.keep (fun w => ins_nil g cb w)
  go_enter Tryz.func105, Tryz.ntmps105
  go_wp2
  go_loopg [7, 8] 0 (fun kx s7 s8 wr => s7 = .int .i64 0 ∧ s8 = .int .i64 20 ∧ w = wr)
  case atStart => exact ⟨rfl, rfl, rfl⟩
  case round =>
    obtain ⟨rfl, rfl, rfl⟩ := hrel
    go_wp2_with fail
    refine (hc.out _).mono ?_
    rintro e w1 ⟨rfl, rfl⟩
    go_wp2
    go_loopg [6] 0 (fun kx s6 wr => s6 = .int .i64 20 ∧ w = wr)
    case atStart => exact ⟨rfl, rfl⟩
    case round =>
      obtain ⟨rfl, rfl⟩ := hrel
      go_wp2
      go_end0
      exact ⟨rfl, rfl⟩
set_option maxHeartbeats 1000000 in
theorem ssf_nil (g : Nat) (cb : Array Value) (w : World) : Calls Tryz.prog 68 #[.slice none 0 0, .func (.func g) #[] cb] w fun e w' => e = .returned (.tuple #[]) ∧ w = w' := by
  have hc := Keep.keep (fun w => stab_nil g cb w)
  go_enter Tryz.func68, Tryz.ntmps68
  go_wp2_with fail
  refine (hc.out _).mono ?_
  rintro e w1 ⟨rfl, rfl⟩
  go_wp2
  go_end0
  exact ⟨rfl, rfl⟩
end Go.Proofs.YtplafpokgpolkaaGreatDoor
/- change.Sorted: Members of one's own, by their paths, those of one path as they stood. -/
namespace Go.Proofs.YtplafpokgpolkaaGreatDoor
open Go.RowKit Go.Sort Go.Shelf
theorem scmp_any (x y : Tx) (w : World) : Calls Tryz.prog 70 #[.string ⟨x.toArray⟩, .string ⟨y.toArray⟩] w fun e w' => e = .returned (.int .i64 (cmpS x y)) ∧ w' = w := by
  refine (Tryz.strings_Compare ⟨x.toArray⟩ ⟨y.toArray⟩ w).mono ?_
  rintro e w' ⟨rfl, rfl⟩
  refine ⟨?_, rfl⟩
  rw [← compare_is]
set_option maxHeartbeats 1000000 in
set_option maxRecDepth 100000 in
theorem srt1_any (x y : MvS) (W : World) : Calls Tryz.prog 69 #[.agg (encS x).toArray, .agg (encS y).toArray] W fun e w' => e = .returned (.int .i64 (cfS x y)) ∧ ∃ q os', w' = grow (W.drewN q) os' := by
  obtain ⟨⟨⟨xp, ⟨kind, mode, uid, gid, time, attrs, data, link⟩⟩, av, dv⟩, ⟨aa, la, ca, ad, ld, cd, e1, e2⟩⟩ := x
  obtain ⟨⟨⟨yp, ⟨kind', mode', uid', gid', time', attrs', data', link'⟩⟩, bv, ev⟩, ⟨ba, lb, cb, bd, ldb, cdb, f1, f2⟩⟩ := y
  dsimp only at e1 e2 f1 f2
  subst e1 e2 f1 f2
  have HC := Keep.keep (fun w => scmp_any xp yp w)
  have hx : (encS ⟨((xp, ⟨kind, mode, uid, gid, time, attrs, data, link⟩), .slice aa la ca, .slice ad ld cd), ⟨aa, la, ca, ad, ld, cd, rfl, rfl⟩⟩).toArray = #[.string ⟨xp.toArray⟩, .int .i64 kind, .int .u32 mode, .int .u32 uid, .int .u32 gid, .int .i64 time, .slice aa la ca, .slice ad ld cd, .string ⟨link.toArray⟩] := rfl
  have hy : (encS ⟨((yp, ⟨kind', mode', uid', gid', time', attrs', data', link'⟩), .slice ba lb cb, .slice bd ldb cdb), ⟨ba, lb, cb, bd, ldb, cdb, rfl, rfl⟩⟩).toArray = #[.string ⟨yp.toArray⟩, .int .i64 kind', .int .u32 mode', .int .u32 uid', .int .u32 gid', .int .i64 time', .slice ba lb cb, .slice bd ldb cdb, .string ⟨link'.toArray⟩] := rfl
  rw [hx, hy]
  have hcf : cfS ⟨((xp, ⟨kind, mode, uid, gid, time, attrs, data, link⟩), .slice aa la ca, .slice ad ld cd), ⟨aa, la, ca, ad, ld, cd, rfl, rfl⟩⟩ ⟨((yp, ⟨kind', mode', uid', gid', time', attrs', data', link'⟩), .slice ba lb cb, .slice bd ldb cdb), ⟨ba, lb, cb, bd, ldb, cdb, rfl, rfl⟩⟩ = cmpS xp yp := rfl
  rw [hcf]
  clear hx hy hcf
  generalize cmpS xp yp = r at *
  go_enter Tryz.func69, Tryz.ntmps69
  go_wp2_with fail
  refine (HC.out _).mono ?_
  rintro e w' ⟨rfl, rfl⟩
  go_wp2_with fail
  go_ret
  exact ⟨rfl, 0, _, by rw [alloc_eq_grow, alloc_eq_grow, grow_grow]; rfl⟩
theorem ent_srt1 : ∀ args w, (callFunc 69 args).run Tryz.prog w = .ok (.enter 69 args) w := enters_of Tryz.func69 (by kernel_rfl) rfl
theorem grownBy_swk {w w' : World} {g : Nat} {d' : Array (MvS × Nat)} (h : SWK encT 9 w g 0 d' w') : w.grownBy w' (some g) ∧ ∃ n os, w' = grow (putRow id (Sort.ahead w n) g 0 (flatK encT 9 d')) os := by
  obtain ⟨n, os, rfl⟩ := h
  exact ⟨grownBy_sortedK (w := w) (g := g) (n := n) (os := os) (flatK encT 9 d'), n, os, rfl⟩
set_option maxHeartbeats 1000000 in
set_option maxRecDepth 100000 in
theorem stable_mb (base : Nat) (K : Nat → Prop) (v : Value) (l : List Mv) (w : World) (hB : base ≤ w.heap.size) (h : RowM base K w v l) (hl : l.length < 1000000000) :
    Calls Tryz.prog 68 #[v, .func (.func 69) #[] #[]] w fun e w' => e = .returned (.tuple #[]) ∧ RowM base K w' v (l.mergeSort (leK (fun x => x.1.1))) ∧ Below base w w' := by
  have h0 := h
  rcases h.own.2 with ⟨rfl, hz⟩ | ⟨g, cap, cur, rfl, hb, hh, hn, hm, hs, ht⟩
  · obtain rfl : l = [] := List.eq_nil_of_length_eq_zero hz
    refine (ssf_nil 69 #[] w).mono ?_
    rintro e w' ⟨rfl, rfl⟩
    exact ⟨rfl, by rw [List.mergeSort_nil]; exact h0, Below.refl _ _⟩
  · obtain ⟨ls, rfl⟩ := list_sub l (fun x hx => (h.nd x hx).shape)
    have hlt : g < w.heap.size := (Array.getElem?_eq_some_iff.1 hh).1
    obtain ⟨d0, hd0⟩ : ∃ d, d = ls.zipIdx.toArray := ⟨_, rfl⟩
    have hd0l : d0.toList = ls.zipIdx := by rw [hd0]
    have hsz : d0.size = (ls.map (·.1)).length := by rw [hd0]; simp
    have hmap : d0.map (·.1) = ls.toArray := by
      apply Array.toList_inj.1
      rw [Array.toList_map, hd0l]
      simp
    have hH : HoldsK encT 9 w g 0 d0 := by
      intro j hj
      rw [size_flatK, hsz] at hj
      have h1 := flat_get ls.toArray j (by simpa using hj)
      rw [Nat.zero_add, h.own.cellAt j hj, h.own.frozenAt j, flatT, hmap]
      exact ⟨h1, rfl⟩
    have R : RowK encT 9 w g 0 d0 := ⟨fun x => mcell_len x.1.1, fun x v hv => by
      have := mcells_one (l := [x.1.1]) (fun y hy => by rw [List.mem_singleton.1 hy]; exact x.1.2) v (by rw [mcells_cons]; exact List.mem_append_left _ hv)
      exact this, hH, hlt⟩
    have hcon := stab_any 9 (fun w => by kernel_rfl) encT 69 #[] g 0 cap cfT (lxB pathS) (·.2) ordT swoT d0 w R (fun m os dk _ x y => srt1_any x.1 y.1 _) ent_srt1 (by rw [hsz]; omega) (tag_zip hd0l) (nd_zip hd0l) w ⟨0, #[], (sortWorldK_start encT 9 w g 0 d0 hH).symm⟩
    rw [hsz] at hcon
    have hcon' := Keep.keep hcon
    obtain ⟨len, hlen⟩ : ∃ n, n = (ls.map (·.1)).length := ⟨_, rfl⟩
    rw [← hlen] at hcon' ⊢
    have HF1 : Keep (len = (ls.map (·.1)).length ∧ d0.size = (ls.map (·.1)).length ∧ d0.toList = ls.zipIdx) := ⟨hlen, hsz, hd0l⟩
    clear hcon hlen hsz hd0l hd0 hmap h0 hH R
    go_enter Tryz.func68, Tryz.ntmps68
    go_wp2_with fail
    refine (hcon'.out).mono ?_
    rintro e w' ⟨rfl, d', s, S1, D1, hds⟩
    go_wp2
    go_end0
    obtain ⟨hlen, hsz, hd0l⟩ := HF1.out
    have hL := stable_done hd0l D1 hds
    have hM : (d'.toList.map (·.1)).map (·.1) = (ls.map (·.1)).mergeSort (leK (fun x => x.1.1)) := by
      rw [hL]
      exact List.map_mergeSort (fun a _ b _ => rfl)
    have hd' : d'.size = (ls.map (·.1)).length := D1.size.trans hsz
    obtain ⟨hgr, n, os, rfl⟩ := grownBy_swk S1
    have hF : (flatK encT 9 d').size = (ls.map (·.1)).length * 9 := by rw [size_flatK, hd']
    refine ⟨rfl, ⟨?_, fun x hx => ?_⟩, ?_⟩
    · rw [List.length_mergeSort, hlen]
      refine ⟨by rw [mcells_length, List.length_mergeSort], .inr ⟨g, cap, _, rfl, hb, heap_sortedK _ hh, hn, hm, by simp [putCells, hs], ?_⟩⟩
      rw [← hF, take_putCellsK _ _ (by rw [hF, hs]; exact Nat.mul_le_mul_right 9 hn), flatT, flat_list, Array.toList_map, hM]
    · have hx2 : x ∈ ls.map (·.1) := List.mem_mergeSort.1 hx
      refine ((h.nd x hx2).loc (fun b e => hgr.block b e.2.1 (fun e2 => e.2.2 (by injection e2 with e2; rw [e2]; rfl)))).mono (fun b e => ⟨e.1, Nat.lt_of_lt_of_le e.2.1 hgr.size, ?_⟩)
      rw [hlen]; exact e.2.2
    · exact (Chg.grown (M := NoM) (.refl _ _ _) hgr hB (fun k e => .inl (by injection e with e; omega))).below (fun _ _ h => h)
end Go.Proofs.YtplafpokgpolkaaGreatDoor
/- slices.Clone of Members. -/
namespace Go.Proofs.YtplafpokgpolkaaGreatDoor
open Go.RowKit
theorem nilMb (p : Addr) (n cap : Nat) (w : World) : (binOp .eql 35 (.slice (some p) n cap) (.slice none 0 0)).run Tryz.prog w = .ok (.bool false) w := by kernel_rfl
theorem nilMb' (w : World) : (binOp .eql 35 (.slice none 0 0) (.slice none 0 0)).run Tryz.prog w = .ok (.bool true) w := by kernel_rfl
set_option maxHeartbeats 1000000 in
set_option maxRecDepth 100000 in
theorem clM_own (v : Value) (l : List Mv) (w : World) (K : Nat → Prop) (hK : ∀ b, K b → b < w.heap.size) (hr : Mbs w (· < w.heap.size) K v l) (hl : l.length ≤ 1000000) :
    Calls Tryz.prog 22 #[v] w fun e w' => ∃ v', e = .returned v' ∧ RowM w.heap.size K w' v' l ∧ Below w.heap.size w w' := by
  obtain ⟨a, cap, hv, h1, h2, h3⟩ := hr.rd.shape
  have HR := Keep.keep hr
  have HK := Keep.keep hK
  clear hr hK
  unfold maxLen at h2
  subst hv
  obtain ⟨n, hn⟩ : ∃ n, l.length = n := ⟨_, rfl⟩
  have HN := Keep.keep hn
  rw [hn] at hl h1 HR ⊢
  clear hn
  cases a with
  | none =>
    obtain ⟨rfl, rfl⟩ : n = 0 ∧ cap = 0 := by
      rcases h3 with h3 | ⟨b, off, h3, _⟩
      · omega
      · cases h3
    have hnil := nilMb'
    clear h3
    go_enter Tryz.func22, Tryz.ntmps22
    go_wp2_with fail
    go_ret
    have hl0 : l = [] := List.eq_nil_of_length_eq_zero HN.out
    refine ⟨_, rfl, ?_, Below.refl _ _⟩
    rw [hl0]
    exact RowM.nil _ _ _
  | some p =>
    have hnil := nilMb p n cap
    clear h3
    go_enter Tryz.func22, Tryz.ntmps22
    go_wp2_with (with_reducible refine arm_stop ?_)
    refine Stopped.out ?_
    have HB : Below w.heap.size w (w.alloc (.cells [].toArray 32)) := (Below.refl _ _).alloc (Nat.le_refl _) _
    refine arm_appM (B := w.heap.size) (K := K) (l := []) (l2 := l) (N := (· < w.heap.size)) (N' := K) (⟨ownsV_new (base := w.heap.size) 32 [] 9 0 w.heap.size rfl (Nat.le_refl _) rfl (by unfold maxLen; omega), fun x hx => (List.not_mem_nil hx).elim⟩ : RowM w.heap.size K (w.alloc (.cells [].toArray 32)) (.slice (some ⟨w.heap.size, 0, none⟩) 0 0) [])
      (by simp) (HR.out.below HB (fun b hb => hb) HK.out) (fun b hb => ⟨.inl hb, by have := HK.out b hb; simp; omega, fun e => by have := HK.out b hb; simp only [Value.ownBlock, Option.some.injEq] at e; omega⟩) (by have := HN.out; simp; omega) rfl rfl ?_
    intro v1 w1 ho hg hb hsv
    rw [List.nil_append] at ho
    have HO := Keep.keep ho
    have HG : Keep (Below w.heap.size w w1) := ⟨HB.grown hg (by simp) (fun j hj => by
      simp only [Value.ownBlock, Option.some.injEq] at hj; omega)⟩
    clear ho hg hb HB
    obtain ⟨a1, c1, hv1⟩ := hsv
    subst hv1
    simp only [Act.put, List.setIfInBounds_toArray, List.set_cons_succ, List.set_cons_zero]
    go_wp2_with fail
    go_ret
    exact ⟨_, rfl, HO.out, HG.out⟩
end Go.Proofs.YtplafpokgpolkaaGreatDoor
/- change.Sorted. -/
namespace Go.Proofs.YtplafpokgpolkaaGreatDoor
open Go.RowKit
set_option maxHeartbeats 1000000 in
set_option maxRecDepth 100000 in
theorem sorted_any (v : Value) (l : List Mv) (w : World) (K : Nat → Prop) (hK : ∀ b, K b → b < w.heap.size) (hr : Mbs w (· < w.heap.size) K v l) (hl : l.length ≤ 1000000) :
    Calls Tryz.prog 24 #[v] w fun e w' => ∃ v', e = .returned v' ∧ RowM w.heap.size K w' v' (l.mergeSort (leK (fun x => x.1.1))) ∧ Below w.heap.size w w' := by
  obtain ⟨a, cap, hv, -, -, -⟩ := hr.rd.shape
  subst hv
  have hc := Keep.keep (clM_own _ l w K hK hr hl)
  have HL := Keep.keep hl
  obtain ⟨n, hn⟩ : ∃ n, n = l.length := ⟨_, rfl⟩
  rw [← hn] at hc ⊢
  clear hK hr hl hn
  go_enter Tryz.func24, Tryz.ntmps24
  go_wp2_with fail
  refine (hc.out).mono ?_
  rintro e w1 ⟨v1, rfl, hr1, hb1⟩
  obtain ⟨a1, c1, hv1, -⟩ := (ownsV_reads hr1.own).shape
  subst hv1
  have hs := Keep.keep (stable_mb w.heap.size K _ l w1 hb1.size hr1 (by have := HL.out; omega))
  have HB1 := Keep.keep hb1
  obtain ⟨n2, hn2⟩ : ∃ n, n = l.length := ⟨_, rfl⟩
  rw [← hn2] at hs ⊢
  clear hr1 hb1 hn2 hc
  go_wp2_with fail
  refine (hs.out).mono ?_
  rintro e w2 ⟨rfl, hr2, hb2⟩
  have HR2 := Keep.keep hr2
  have HB2 := Keep.keep hb2
  clear hr2 hb2 hs
  go_wp2
  go_ret
  exact ⟨_, rfl, HR2.out, HB1.out.trans HB2.out⟩
end Go.Proofs.YtplafpokgpolkaaGreatDoor
/- One thing laid into a row of a sort's world. -/
namespace Go.Proofs.YtplafpokgpolkaaGreatDoor
open Go.Shelf Go.RowKit Go.Lib Go.Sort
variable {α : Type} [Inhabited α] {enc : α → List Value} {k : Nat} {w0 W : World} {blk off : Nat} {dk : Array α}
theorem setMany_put (hk : ∀ x, (enc x).length = k) (d : Array α) (i : Nat) (x : α) (hi : i < d.size) : setMany (flatK enc k d) (i * k) (enc x) = flatK enc k (d.setIfInBounds i x) := by
  refine ext_get! (by simp) fun t ht => ?_
  rw [size_setMany, size_flatK] at ht
  have hk0 : 0 < k := by
    rcases Nat.eq_zero_or_pos k with e | e
    · rw [e, Nat.mul_zero] at ht; omega
    · exact e
  rw [get_setMany _ _ _ _ (by rw [size_flatK]; exact ht), hk, get_flatK _ _ _ _ ht, get_flatK _ _ _ _ (by simpa using ht)]
  have hdiv : t / k < d.size := Nat.div_lt_of_lt_mul (by rw [Nat.mul_comm]; exact ht)
  by_cases h : i * k ≤ t ∧ t < i * k + k
  · rw [if_pos h]
    have e := (blk_iff k i t hk0).1 h
    have e2 : t - i * k = t % k := by
      have := Nat.div_add_mod t k
      rw [e, Nat.mul_comm] at this
      omega
    rw [e, e2]
    simp [getElem!_def, hi]
  · rw [if_neg h]
    have e : ¬ t / k = i := fun e => h ((blk_iff k i t hk0).2 e)
    simp [getElem!_def, Array.getElem?_setIfInBounds_ne (Ne.symm e)]
theorem Swk.put (h : SWK enc k w0 blk off dk W) {d0 : Array α} (R : RowK enc k w0 blk off d0) (i : Nat) (x : α) (hi : i < dk.size) : SWK enc k w0 blk off (dk.setIfInBounds i x) (W.setCells blk (off + i * k) (enc x)) := by
  obtain ⟨m, os, rfl⟩ := h
  refine ⟨m, os, ?_⟩
  unfold sortWorldK
  rw [setCells_grow os blk _ _ _ (by rw [size_putRowK]; exact R.hblk)]
  congr 1
  unfold putRowK
  have hb : i * k + (enc x).length ≤ (flatK enc k dk).size := by rw [R.hk, size_flatK]; exact rowK_bnd dk k i hi
  rw [setCells_putRow _ _ _ _ _ _ hb, setMany_put R.hk dk i x hi]
end Go.Proofs.YtplafpokgpolkaaGreatDoor
/- A row of Members of one's own as a world of a sort, and back; the reference's insertion as a sort of an array. -/
namespace Go.Proofs.YtplafpokgpolkaaGreatDoor
open Go.RowKit Go.Sort Go.Shelf
section
variable {α : Type} [Inhabited α] {lt : α → α → Bool}
theorem get_app (xs ys : Array α) {i : Nat} (h : i < xs.size) : (xs ++ ys)[i]! = xs[i]! := by
  rw [getElem!_pos (xs ++ ys) i (by rw [Array.size_append]; omega), getElem!_pos xs i h, Array.getElem_append_left h]
theorem swp_app (xs ys : Array α) {i j : Nat} (hi : i < xs.size) (hj : j < xs.size) : swp (xs ++ ys) i j = swp xs i j ++ ys := by
  unfold swp
  rw [get_app xs ys hi, get_app xs ys hj, Array.setIfInBounds_append_left hi, Array.setIfInBounds_append_left (by simpa using hj)]
theorem inner_app (ys : Array α) : ∀ (j : Nat) (xs : Array α), j < xs.size → insInner lt 0 j (xs ++ ys) = insInner lt 0 j xs ++ ys
  | 0, xs, _ => by unfold insInner; rfl
  | j + 1, xs, h => by
    unfold insInner
    rw [get_app xs ys h, get_app xs ys (by omega : j < xs.size)]
    split
    · rw [swp_app xs ys h (by omega), inner_app ys j _ (by rw [swp_size]; omega)]
    · rfl
/-- what the reference's Sorted has behind i rounds -/
def rsA (lt : α → α → Bool) (l : List α) : Nat → Array α
  | 0 => #[]
  | i + 1 => insInner lt 0 i ((rsA lt l i).push l[i]!)
theorem rsA_size (l : List α) : ∀ i, (rsA lt l i).size = i
  | 0 => rfl
  | i + 1 => by unfold rsA; rw [inner_size, Array.size_push, rsA_size l i]
theorem rsA_out (l : List α) : ∀ (m i : Nat), l.length - i = m → 1 ≤ i → i ≤ l.length → insOuter lt 0 l.length i (rsA lt l i ++ (l.drop i).toArray) = rsA lt l l.length
  | 0, i, hm, h1, hi => by
    obtain rfl : i = l.length := by omega
    rw [insOuter, if_neg (by omega), List.drop_length]
    simp
  | m + 1, i, hm, h1, hi => by
    have hlt : i < l.length := by omega
    rw [insOuter, if_pos hlt, ← rsA_out l m (i + 1) (by omega) (by omega) (by omega)]
    congr 1
    have e : rsA lt l i ++ (l.drop i).toArray = (rsA lt l i).push l[i]! ++ (l.drop (i + 1)).toArray := by
      apply Array.toList_inj.1
      rw [List.drop_eq_getElem_cons hlt]
      simp [getElem!_pos l i hlt]
    rw [e, inner_app _ i _ (by rw [Array.size_push, rsA_size]; omega)]
    rfl
theorem rsA_is (l : List α) : rsA lt l l.length = insertionSort lt l.toArray 0 l.length := by
  unfold insertionSort
  rcases Nat.eq_zero_or_pos l.length with h | h
  · have e : l = [] := List.eq_nil_of_length_eq_zero h
    subst e
    rw [insOuter, if_neg (by simp)]
    rfl
  · rw [← rsA_out l _ 1 rfl (Nat.le_refl _) h]
    congr 1
    cases l with
    | nil => simp at h
    | cons x r =>
      apply Array.toList_inj.1
      simp [rsA, insInner]
theorem perm_inner : ∀ (j : Nat) (d : Array α), j < d.size → (insInner lt 0 j d).toList.Perm d.toList
  | 0, d, _ => by unfold insInner; exact List.Perm.refl _
  | j + 1, d, h => by
    unfold insInner
    split
    · refine (perm_inner j _ (by rw [swp_size]; omega)).trans ?_
      have hp := (swp_permIn d 0 d.size (j + 1) j (by omega) h (by omega) (by omega) (Nat.le_refl _))
      have h1 := hp.2.2
      have h2 : (swp d (j + 1) j).extract 0 d.size = swp d (j + 1) j := by
        have := hp.1
        rw [← this]; simp
      rw [h2] at h1
      simpa using h1
    · exact List.Perm.refl _
end
/-- the reference's insertion is the stable sort -/
theorem rsS_merge (l : List MvS) : ((rsA (fun x y => decide (pathS x < pathS y)) l l.length).toList.map (·.1)) = (l.map (·.1)).mergeSort (leK (fun x => x.1.1)) := by
  rw [rsA_is, ins_merge]
  exact List.map_mergeSort (fun a _ b _ => rfl)
section
variable {base g cap n : Nat} {K : Nat → Prop} {w w' : World} {l : List Mv}
/-- a row of one's own as a sort's world -/
theorem RowM.swk (h : RowM base K w (.slice (some ⟨g, 0, none⟩) n cap) l) : ∃ d0 : Array MvS, d0.toList.map (·.1) = l ∧ d0.size = l.length ∧ RowK encS 9 w g 0 d0 ∧ SWK encS 9 w g 0 d0 w := by
  rcases h.own.2 with ⟨h1, -⟩ | ⟨g', cap', cur, h1, hb, hh, hn, hm, hs, ht⟩
  · cases h1
  injection h1 with e1 e2 e3; injection e1 with e1; injection e1 with e1 _ _; subst e1 e2
  obtain ⟨ls, rfl⟩ := list_sub l (fun x hx => (h.nd x hx).shape)
  have hH : HoldsK encS 9 w g 0 ls.toArray := by
    intro j hj
    rw [size_flatK] at hj
    have h1 := flat_get ls.toArray j hj
    rw [Nat.zero_add, h.own.cellAt j (by simpa using hj), h.own.frozenAt j]
    exact ⟨h1, rfl⟩
  have R : RowK encS 9 w g 0 ls.toArray := ⟨fun x => mcell_len x.1, fun x v hv => mcells_one (l := [x.1]) (fun y hy => by rw [List.mem_singleton.1 hy]; exact x.2) v (by rw [mcells_cons]; exact List.mem_append_left _ hv), hH, (Array.getElem?_eq_some_iff.1 hh).1⟩
  exact ⟨ls.toArray, rfl, by simp, R, ⟨0, #[], (sortWorldK_start encS 9 w g 0 ls.toArray hH).symm⟩⟩
theorem grownBy_swkS {d' : Array MvS} (h : SWK encS 9 w g 0 d' w') : w.grownBy w' (some g) ∧ ∃ n os, w' = grow (putRow id (Sort.ahead w n) g 0 (flatK encS 9 d')) os := by
  obtain ⟨n, os, rfl⟩ := h
  exact ⟨grownBy_sortedK (w := w) (g := g) (n := n) (os := os) (flatK encS 9 d'), n, os, rfl⟩
theorem len_any (h : RowM base K w (.slice (some ⟨g, 0, none⟩) n cap) l) : n = l.length := by
  rcases h.own.2 with ⟨h1, -⟩ | ⟨g', cap', cur, h1, -⟩
  · cases h1
  · injection h1
/-- .. and back -/
theorem RowM.ofSwk (h : RowM base K w (.slice (some ⟨g, 0, none⟩) n cap) l) (hB : base ≤ w.heap.size) {d' : Array MvS} (S : SWK encS 9 w g 0 d' w') (hd : d'.size = l.length) (hsub : ∀ x ∈ d'.toList.map (·.1), x ∈ l) : RowM base K w' (.slice (some ⟨g, 0, none⟩) n cap) (d'.toList.map (·.1)) ∧ Below base w w' := by
  rcases h.own.2 with ⟨h1, -⟩ | ⟨g', cap', cur, h1, hb, hh, hn, hm, hs, ht⟩
  · cases h1
  injection h1 with e1 e2 e3; injection e1 with e1; injection e1 with e1 _ _; subst e1 e2 e3
  obtain ⟨hgr, m, os, rfl⟩ := grownBy_swkS S
  have hF : (flatK encS 9 d').size = l.length * 9 := by rw [size_flatK, hd]
  refine ⟨⟨?_, fun x hx => ?_⟩, ?_⟩
  · have hl : (d'.toList.map (·.1)).length = l.length := by simp [hd]
    rw [hl]
    refine ⟨by rw [mcells_length, hl], .inr ⟨g, cap, _, rfl, hb, heap_sortedK _ hh, hn, hm, by simp [putCells, hs], ?_⟩⟩
    rw [← hF, take_putCellsK _ _ (by rw [hF, hs]; exact Nat.mul_le_mul_right 9 hn), flat_list]
  · refine ((h.nd x (hsub x hx)).loc (fun b e => hgr.block b e.2.1 (fun e2 => e.2.2 (by injection e2 with e2; rw [e2]; rfl)))).mono (fun b e => ⟨e.1, Nat.lt_of_lt_of_le e.2.1 hgr.size, e.2.2⟩)
  · exact (Chg.grown (M := NoM) (.refl _ _ _) hgr hB (fun k e => .inl (by injection e with e; omega))).below (fun _ _ h => h)
end
/-- a path in a sort's world -/
theorem swk_path {k g off : Nat} {w0 W : World} {d0 dk : Array MvS} (S : SWK encS k w0 g off dk W) (R : RowK encS k w0 g off d0) (hs : dk.size = d0.size) (hk : k = 9) {i : Nat} (hi : i < dk.size) : W.cell? ⟨g, off + i * k, none⟩ = some (.string ⟨(pathS dk[i]!).toArray⟩) := by
  subst hk
  have hH := S.holds R.hblk R.hH hs
  have h9 : i * 9 < dk.size * 9 := by omega
  have h := (hH (i * 9) (by rw [size_flatK]; exact h9)).1
  rw [h, get_flatK _ _ _ _ h9, show i * 9 / 9 = i by omega, show i * 9 % 9 = 0 by omega]
  rfl
end Go.Proofs.YtplafpokgpolkaaGreatDoor
/- portolanref19.Sorted. -/
namespace Go.Proofs.YtplafpokgpolkaaGreatDoor
open Go.RowKit Go.Sort Go.Shelf
theorem map_val_inj : ∀ {l m : List MvS}, l.map (·.1) = m.map (·.1) → l = m
  | [], [], _ => rfl
  | [], _ :: _, h => by simp at h
  | _ :: _, [], h => by simp at h
  | x :: l, y :: m, h => by
    injection h with h1 h2
    rw [Subtype.ext h1, map_val_inj h2]
def ltP (x y : MvS) : Bool := decide (pathS x < pathS y)
theorem rsA_succ (lt : MvS → MvS → Bool) (l : List MvS) (i : Nat) : rsA lt l (i + 1) = insInner lt 0 i ((rsA lt l i).push l[i]!) := rfl
theorem rsA_mem (lt : MvS → MvS → Bool) (l : List MvS) : ∀ i, i ≤ l.length → ∀ x ∈ (rsA lt l i).toList, x ∈ l
  | 0, _, x, hx => by simp [rsA] at hx
  | i + 1, hi, x, hx => by
    rw [rsA_succ] at hx
    have hx := (perm_inner i _ (by rw [Array.size_push, rsA_size]; omega)).mem_iff.1 hx
    rw [Array.toList_push, List.mem_append] at hx
    rcases hx with hx | hx
    · exact rsA_mem lt l i (by omega) x hx
    · rw [List.mem_singleton.1 hx, getElem!_pos l i hi]; exact List.getElem_mem _
set_option maxHeartbeats 4000000 in
set_option maxRecDepth 1000000 in
theorem rsorted_any (v : Value) (l : List Mv) (w : World) (K : Nat → Prop) (hK : ∀ b, K b → b < w.heap.size) (hr : Mbs w (· < w.heap.size) K v l) (hl : l.length ≤ 1000000) :
    Calls Tryz.prog 25 #[v] w fun e w' => ∃ v', e = .returned v' ∧ RowM w.heap.size K w' v' (l.mergeSort (leK (fun x => x.1.1))) ∧ Below w.heap.size w w' := by
  obtain ⟨a, cap, hv, hcap, hmx, h3⟩ := hr.rd.shape
  obtain ⟨ls, rfl⟩ := list_sub l (fun x hx => (hr.nd x hx).shape)
  have HR := Keep.keep hr; have H3 := Keep.keep h3; have HKK := Keep.keep hK
  unfold maxLen at hmx
  clear hr h3 hK
  subst hv
  have aE : ∀ w, (isAgg 32).run Tryz.prog w = .ok true w := fun w => by kernel_rfl
  have mixed : Tryz.prog.follows Departure.mixedOrders = true := by first | rfl | kernel_rfl
  obtain ⟨n, hn⟩ : ∃ n, n = (ls.map (·.1)).length := ⟨_, rfl⟩
  have HN : Keep ((ls.map (·.1)).length = n ∧ ls.length = n) := ⟨hn.symm, by rw [hn]; simp⟩
  rw [← hn] at hl hcap HR ⊢
  clear hn
  rw [← rsS_merge]
  obtain ⟨res, hres⟩ : ∃ r, r = (rsA (fun x y => decide (pathS x < pathS y)) ls ls.length).toList.map (·.1) := ⟨_, rfl⟩
  have HRES : Keep (res = (rsA ltP ls n).toList.map (·.1)) := ⟨by rw [hres, HN.out.2]; rfl⟩
  rw [← hres]
  clear hres
  go_enter Tryz.func25, Tryz.ntmps25
  go_wp2_with fail
  go_loopg [3, 4] n (fun g u3 u4 wx => ∃ (i : Nat), i + g = n ∧ u4 = .int .i64 (i : Int) ∧ RowM w.heap.size K wx u3 ((rsA ltP ls i).toList.map (·.1)) ∧ Below w.heap.size w wx)
  case atStart => exact ⟨0, by omega, rfl, RowM.nil _ _ _, Below.refl _ _⟩
  case round =>
    obtain ⟨i, hig, rfl, hrow, hb⟩ := hrel
    have HRW := Keep.keep hrow; have HB := Keep.keep hb
    obtain ⟨a3, c3, hv3, -⟩ := (ownsV_reads hrow.own).shape
    have hli : ((rsA ltP ls i).toList.map (·.1)).length = i := by simp [rsA_size]
    rw [hli] at hv3
    have HLI := Keep.keep hli
    clear hrow hb hli
    subst hv3
    cases gk with
    | zero =>
      obtain rfl : i = n := by omega
      go_wp2_with fail
      go_ret
      exact ⟨_, rfl, by rw [HRES.out]; exact HRW.out, HB.out⟩
    | succ g =>
      have hk : i < n := by omega
      have hd : decide ((i : Int) < (n : Int)) = true := decide_eq_true (by omega)
      obtain ⟨b, off0, rfl, hbl⟩ : ∃ b off, a = some ⟨b, off, none⟩ ∧ b < w.heap.size := by
        rcases H3.out with h | ⟨b, off, h, hb⟩
        · omega
        · exact ⟨b, off, h, hb⟩
      have hkl : i < (ls.map (·.1)).length := by have := HN.out.1; omega
      have hrx := HR.out.below HB.out (fun b hb => hb) HKK.out
      have hld := hrx.load hkl
      have HND := Keep.keep (HR.out.nd _ (List.getElem_mem hkl))
      have hel : (ls.map (·.1))[i] = ls[i]!.1 := by
        rw [List.getElem_map, getElem!_pos ls i (by have := HN.out.2; omega)]
      rw [hel] at hld HND
      have HIN : Keep (ls[i]! ∈ ls) := ⟨by rw [getElem!_pos ls i (by have := HN.out.2; omega)]; exact List.getElem_mem _⟩
      have HST : Keep (rsA ltP ls (i + 1) = insInner ltP 0 i ((rsA ltP ls i).push ls[i]!)) := ⟨rsA_succ _ _ _⟩
      clear hrx hel hkl
      obtain ⟨y, hy⟩ : ∃ y, y = ls[i]! := ⟨_, rfl⟩
      rw [← hy] at hld HND HST HIN
      have HYE : Keep (y = ls[i]!) := ⟨hy⟩
      clear hy
      obtain ⟨⟨⟨⟨xp, ⟨kind, mode, uid, gid, time, attrs, data, link⟩⟩, av, dv⟩, hys⟩, hyy⟩ : ∃ z : MvS, z = y := ⟨y, rfl⟩
      obtain ⟨aa, la, ca, ad, ld, cd, e1, e2⟩ := hys
      dsimp only at e1 e2
      subst e1 e2
      have HYY : Keep (y.1 = ((xp, ⟨kind, mode, uid, gid, time, attrs, data, link⟩), .slice aa la ca, .slice ad ld cd)) := ⟨by rw [← hyy]⟩
      clear hyy
      rw [HYY.out] at hld HND
      have HMC : Keep (mcell ((xp, ⟨kind, mode, uid, gid, time, attrs, data, link⟩), .slice aa la ca, .slice ad ld cd) = #[.string ⟨xp.toArray⟩, .int .i64 kind, .int .u32 mode, .int .u32 uid, .int .u32 gid, .int .i64 time, .slice aa la ca, .slice ad ld cd, .string ⟨link.toArray⟩]) := ⟨rfl⟩
      rw [HMC.out] at hld
      go_wp2_with (first | ((with_reducible refine arm_loadM hld ?_ ?_); (focus rfl); simp only [Act.put, List.setIfInBounds_toArray, List.set_cons_succ, List.set_cons_zero]) | (with_reducible refine arm_stop ?_))
      refine Stopped.out ?_
      have hal : Below wr.heap.size wr (wr.alloc (.cells #[.string ⟨xp.toArray⟩, .int .i64 kind, .int .u32 mode, .int .u32 uid, .int .u32 gid, .int .i64 time, .slice aa la ca, .slice ad ld cd, .string ⟨link.toArray⟩] 32)) := (Below.refl _ _).alloc (Nat.le_refl _) _
      have hrA := HRW.out.below hal
      have hsw := HB.out.size
      have hm : Mbs (wr.alloc (.cells #[.string ⟨xp.toArray⟩, .int .i64 kind, .int .u32 mode, .int .u32 uid, .int .u32 gid, .int .i64 time, .slice aa la ca, .slice ad ld cd, .string ⟨link.toArray⟩] 32)) (fun _ => True) K (.slice (some ⟨wr.heap.size, 0, none⟩) 1 1) [((xp, ⟨kind, mode, uid, gid, time, attrs, data, link⟩), .slice aa la ca, .slice ad ld cd)] :=
        ⟨RdV.new (N := fun _ => True) 32 [.string ⟨xp.toArray⟩, .int .i64 kind, .int .u32 mode, .int .u32 uid, .int .u32 gid, .int .i64 time, .slice aa la ca, .slice ad ld cd, .string ⟨link.toArray⟩] 9 1 _ rfl rfl (by unfold maxLen; omega) trivial, fun z hz => by
          obtain rfl : z = ((xp, ⟨kind, mode, uid, gid, time, attrs, data, link⟩), .slice aa la ca, .slice ad ld cd) := by simpa using hz
          exact ((HND.out.below HB.out HKK.out).below (hal.mono hsw) HKK.out)⟩
      refine arm_appM (B := w.heap.size) hrA (Nat.le_trans hsw hal.size) hm (fun b hb => ⟨.inl hb, by have := HKK.out b hb; have := hal.size; omega, fun e => by have := (hrA.lt e).1; have := HKK.out b hb; omega⟩) (by rw [HLI.out]; simp; omega) rfl rfl ?_
      intro v4 w4 hr4 hg4 hov4 hsh4
      obtain ⟨a4, c4, hv4⟩ := hsh4
      rw [HLI.out] at hv4
      replace hv4 : v4 = .slice a4 (i + 1) c4 := hv4
      have HB4 : Keep (Below w.heap.size w w4) := ⟨(HB.out.trans (hal.mono hsw)).trans (hrA.chg (Nat.le_trans hsw hal.size) hg4)⟩
      have hl4 : (rsA ltP ls i).toList.map (·.1) ++ [((xp, ⟨kind, mode, uid, gid, time, attrs, data, link⟩), .slice aa la ca, .slice ad ld cd)] = ((rsA ltP ls i).push y).toList.map (·.1) := by
        rw [Array.toList_push, List.map_append, ← HYY.out]; rfl
      rw [hl4] at hr4
      obtain ⟨g4, rfl⟩ : ∃ g4, a4 = some ⟨g4, 0, none⟩ := by
        rcases hr4.own.2 with ⟨h1, h2⟩ | ⟨g', cap', cur, h1, -⟩
        · simp at h2
        · rw [hv4] at h1; injection h1 with h1; exact ⟨g', h1⟩
      rw [hv4] at hr4
      have HR4 := Keep.keep hr4
      obtain ⟨d0, hd0, hsz, R, S⟩ := hr4.swk
      have hd0' : d0 = (rsA ltP ls i).push y := by
        apply Array.toList_inj.1
        exact map_val_inj hd0
      have hd0s : d0.size = i + 1 := by rw [hd0', Array.size_push, rsA_size]
      obtain ⟨k9, hk9⟩ : ∃ k, k = 9 := ⟨_, rfl⟩
      obtain ⟨off, hoff⟩ : ∃ o, o = 0 := ⟨_, rfl⟩
      have HK9 := Keep.keep hk9; have HOFF := Keep.keep hoff
      have zE : ∀ w, (Go.sizeOf 32).run Tryz.prog w = .ok k9 w := fun w => by rw [hk9]; kernel_rfl
      rw [← hk9, ← hoff] at R S
      have hv5 : v4 = .slice (some ⟨g4, off, none⟩) (i + 1) c4 := by rw [hoff]; exact hv4
      have S0 : Aside (SWK encS k9 w4 g4 off d0 w4) := S
      have HE0 : Keep (insInner ltP 0 i d0 = rsA ltP ls (i + 1) ∧ d0.size = i + 1) := ⟨by rw [HST.out, hd0'], hd0s⟩
      have hw4 : w.heap.size ≤ w4.heap.size := HB4.out.size
      have HFIN : Keep (∀ (wy : World) (dk : Array MvS), SWK encS k9 w4 g4 off dk wy → dk = rsA ltP ls (i + 1) → RowM w.heap.size K wy (.slice (some ⟨g4, off, none⟩) (i + 1) c4) ((rsA ltP ls (i + 1)).toList.map (·.1)) ∧ Below w.heap.size w wy) := ⟨fun wy dk S1 e1 => by
        rw [hk9, hoff] at S1
        rw [hoff]
        have h1 := hr4.ofSwk (by omega) S1 (by rw [e1, rsA_size, List.length_map, Array.length_toList, Array.size_push, rsA_size]) (fun x hx => by
          obtain ⟨z, hz, rfl⟩ := List.mem_map.1 hx
          refine List.mem_map.2 ⟨z, ?_, rfl⟩
          rw [e1, rsA_succ] at hz
          rw [← HYE.out] at hz
          exact (perm_inner i _ (by rw [Array.size_push, rsA_size]; omega)).mem_iff.1 hz)
        rw [← e1]
        exact ⟨h1.1, HB4.out.trans h1.2⟩⟩
      clear hk9 hoff S hr4 hg4 hov4 hm hrA hal hl4 hd0 hd0' hsz hld hv4
      subst hv5
      obtain ⟨m, hm⟩ : ∃ m, m = i + 1 := ⟨_, rfl⟩
      have HM := Keep.keep hm
      have rm : (m : Int) - 1 = (i : Int) := by omega
      have riw : IntKind.i64.wrap (i : Int) = (i : Int) := by rw [IntKind.wrap_i64]; omega
      have hmi : i < m ∧ m ≤ i + 1 ∧ m ≤ 1000000 := by omega
      rw [← hm] at HE0 HR4 hd0s HFIN ⊢
      clear hm
      simp only [Act.put, List.setIfInBounds_toArray, List.set_cons_succ, List.set_cons_zero]
      go_wp2
      go_loopg [5] m (fun kx s5 wy => ∃ (j : Nat) (dk : Array MvS), s5 = .int .i64 (j : Int) ∧ j < m ∧ j ≤ kx ∧ dk.size = m ∧ Aside (SWK encS k9 w4 g4 off dk wy) ∧ Aside (insInner ltP 0 j dk = rsA ltP ls m))
      case atStart => exact ⟨i, d0, by go_num, hmi.1, by omega, hd0s, S0, HE0.out.1⟩
      case round =>
        clear S0 rm riw
        obtain ⟨j, dk, rfl, hjm, hjk, hdm, S1, E1⟩ := hrel
        have HDD : Keep (dk.size = d0.size) := ⟨by rw [hdm, HE0.out.2]⟩
        have hcj := swk_path S1.out R HDD.out HK9.out (i := j) (by omega)
        rcases Nat.eq_zero_or_pos j with hj0 | hj0
        · subst hj0
          have HX := Keep.keep (HFIN.out _ dk S1.out E1.out)
          clear hcj
          go_upto_region 7 with fail
          (refine wp_region_quiet_lit (by kernel_rfl) (by kernel_rfl) ?_); (repeat (first | (fail) | go_big_quiet_step (fail))); (refine wpQuiet_nil ?_); (intro _ hwq); (obtain ⟨nq, hwq⟩ := hwq); (subst hwq)
          go_wp2_with fail
          go_roundg g
          case measure => omega
          case rel => exact ⟨m, by have := HM.out; omega, by go_num, (HX.out.1.below (below_drewN' (Below.refl _ _) _)), below_drewN' HX.out.2 _⟩
        · have hjz : decide ((0 : Int) < (j : Int)) = true := decide_eq_true (by omega)
          obtain ⟨p, hp⟩ : ∃ p, p = j - 1 := ⟨_, rfl⟩
          have rp : (j : Int) - 1 = (p : Int) := by omega
          have rpw : IntKind.i64.wrap (p : Int) = (p : Int) := by rw [IntKind.wrap_i64]; omega
          have hjp : j = p + 1 := by omega
          have HJP := Keep.keep hjp
          have hcp := swk_path S1.out R HDD.out HK9.out (i := p) (by omega)
          have bj : ((j : Nat) : Int) < (m : Int) := by omega
          have bp : ((p : Nat) : Int) < (m : Int) := by omega
          have hpm : p < m := by omega
          clear hp hjp
          cases hlt : ltP dk[j]! dk[p]! with
          | false =>
            have hbl : Op.bytesLess (pathS dk[j]!) (pathS dk[p]!) = false := by rw [less_lt]; exact hlt
            have hD : dk = rsA ltP ls m := by
              have := E1.out
              rw [HJP.out] at this hlt
              unfold insInner at this
              rw [if_neg (by simp [hlt])] at this
              exact this
            have HX := Keep.keep (HFIN.out _ dk S1.out hD)
            clear hD hlt
            generalize pathS dk[j]! = qj at *
            generalize pathS dk[p]! = qp at *
            go_upto_region 7 with fail
            (refine wp_region_quiet_lit (by kernel_rfl) (by kernel_rfl) ?_); (repeat (first | (fail) | go_big_quiet_step (fail))); (refine wpQuiet_nil ?_); (intro _ hwq); (obtain ⟨nq, hwq⟩ := hwq); (subst hwq)
            go_wp2_with fail
            go_roundg g
            case measure => omega
            case rel => exact ⟨m, by have := HM.out; omega, by go_num, (HX.out.1.below (below_drewN' (Below.refl _ _) _)), below_drewN' HX.out.2 _⟩
          | true =>
            have hbl : Op.bytesLess (pathS dk[j]!) (pathS dk[p]!) = true := by rw [less_lt]; exact hlt
            have E2 : Aside (insInner ltP 0 p (swp dk j p) = rsA ltP ls m) := by
              have h := E1.out
              rw [HJP.out] at h hlt ⊢
              unfold insInner at h
              rw [if_pos (by simp [hlt])] at h
              exact h
            clear hlt
            obtain ⟨qj, hqj⟩ : ∃ q, pathS dk[j]! = q := ⟨_, rfl⟩
            obtain ⟨qp, hqp⟩ : ∃ q, pathS dk[p]! = q := ⟨_, rfl⟩
            rw [hqj] at hcj hbl
            rw [hqp] at hcp hbl
            clear hqj hqp
            go_upto_region 7 with fail
            (refine wp_region_quiet_lit (by kernel_rfl) (by kernel_rfl) ?_); (repeat (first | (fail) | go_big_quiet_step (fail))); (refine wpQuiet_nil ?_); (intro _ hwq); (obtain ⟨nq, hwq⟩ := hwq); (subst hwq)
            clear hcj hcp hbl
            have S2 := S1.out.drewN nq
            generalize wr.drewN nq = w2 at S2 ⊢
            go_upto_region 9 with fail
            have S3 : Aside (SWK encS k9 w4 g4 off (swp dk (j) (p)) ((w2.drew.setCells g4 (off + (j) * k9) (encS dk[p]!)).setCells g4 (off + (p) * k9) (encS dk[j]!))) := S2.swapped R (j) (p) (by omega) (by omega)
            have la1 := S2.ld1 R HDD.out Tryz.prog (j) (by omega)
            have lb1 := S2.ld1 R HDD.out Tryz.prog (p) (by omega)
            have sa1 := S2.st1 R HDD.out Tryz.prog (j) (by omega) dk[p]!
            have sb1 := S2.st2 R HDD.out Tryz.prog (j) (p) (by omega) (by omega) dk[p]! dk[j]!
            have na1 : (encS dk[j]!).length = k9 := R.hk _
            have nb1 : (encS dk[p]!).length = k9 := R.hk _
            generalize encS dk[j]! = cI1 at S3 la1 sb1 na1
            generalize encS dk[p]! = cJ1 at S3 lb1 sa1 sb1 nb1
            clear S2 S1 E1
            go_big_region_o
            clear la1 lb1 sa1 sb1
            generalize (w2.drew.setCells g4 (off + (j) * k9) cJ1).setCells g4 (off + (p) * k9) cI1 = w3 at S3 ⊢
            go_wp2
            go_roundg p
            case measure => have := HJP.out; omega
            case rel => exact ⟨p, swp dk j p, by go_num, hpm, Nat.le_refl _, by rw [swp_size]; exact hdm, S3, E2⟩
end Go.Proofs.YtplafpokgpolkaaGreatDoor
/- portolanlaw12.Few: what it cuts; single operations on texts. -/
namespace Go.Proofs.YtplafpokgpolkaaGreatDoor
open Go.RowKit
def cutA (x : R2) : R2 := (x.1.take 250, x.2.take 700)
def cutN (n : Nd) : Nd := { n with link := n.link.take 4100, data := n.data.take 1500, attrs := (n.attrs.take 20).map cutA }
def cutM (m : Mb) : Mb := (m.1.take 4100, cutN m.2)
def few12 (l : List Mb) : List Mb := (l.take 12).map cutM
section
variable {ρ : Operand → Value} {d : Option Tmp} {x y : Operand} {t : TypeId} {pos : String} {af : Array Edge} {g : Option (Nat × Bool)} {w : World}
theorem run_lenS {l : Tx} (hx : ρ x = .string ⟨l.toArray⟩) : (execOp ρ (⟨d, .call ⟨.builtin .len, #[x], #[9]⟩, t, pos, af, g⟩ : Oper)).run Tryz.prog w = .ok (.value (.int .i64 (l.length : Int))) w := by
  simp [execOp, resolve, invoke, builtin, Builtin.len_, hx, run_underlying Tryz.underlying9]
  rfl
theorem run_minC {n c : Int} (hx : ρ x = .int .i64 n) (hc : ρ y = .int .i64 c) : (execOp ρ (⟨d, .call ⟨.builtin .min, #[x, y], #[3, 3]⟩, 3, pos, af, g⟩ : Oper)).run Tryz.prog w = .ok (.value (.int .i64 (min n c))) w := by
  have h2 : (Builtin.min2 (.int .i64 n) (.int .i64 c)).run Tryz.prog w = .ok (.int .i64 (min n c)) w := by
    unfold Builtin.min2
    simp only [Int.min_def]
    split <;> split <;> first | rfl | omega
  simp [go_sem, Builtin.min_, hx, hc, h2]
theorem run_sliceS {l : Tx} {k : Nat} (hk : k ≤ l.length) (hx : ρ x = .string ⟨l.toArray⟩) (hy : ρ y = .int .i64 (k : Int)) : (execOp ρ (⟨d, .slice 9 x none (some y) none, t, pos, af, g⟩ : Oper)).run Tryz.prog w = .ok (.value (.string ⟨(l.take k).toArray⟩)) w := by
  simp [go_sem, execOp, hx, hy, Instr.sliceAt]
  rw [if_pos hk]
  have : ByteArray.extract ⟨l.toArray⟩ 0 k = ⟨(l.take k).toArray⟩ := by
    apply ByteArray.ext
    simp [ByteArray.data_extract]
  rw [this]
theorem run_storeS {s : Tx} {b off : Nat} (hc : ∃ v, w.cell? ⟨b, off, none⟩ = some v) (hf : w.frozen? ⟨b, off, none⟩ = false) (hx : ρ x = .pointer (some ⟨b, off, none⟩)) (hy : ρ y = .string ⟨s.toArray⟩) :
    (execOp ρ (⟨d, .store 9 x y, t, pos, af, g⟩ : Oper)).run Tryz.prog w = .ok .skip (w.setCell ⟨b, off, none⟩ (.string ⟨s.toArray⟩)) := by
  obtain ⟨v, hc⟩ := hc
  have hz : (sizeOf 9).run Tryz.prog w = .ok 1 w := by kernel_rfl
  simp [go_sem, execOp, hx, hy, hz, hc, hf, Instr.storeAt, storeCells]
end
end Go.Proofs.YtplafpokgpolkaaGreatDoor
/- portolanlaw12.Few. -/
namespace Go.Proofs.YtplafpokgpolkaaGreatDoor
open Go.RowKit
/-- region 6: the row of t5 while it is under way -/
def fwR (kind mode uid gid time : Int) (av dv : Value) (q k : Tx) : Array Value := #[.string ⟨q.toArray⟩, .int .i64 kind, .int .u32 mode, .int .u32 uid, .int .u32 gid, .int .i64 time, av, dv, .string ⟨k.toArray⟩]
def Was (s q : Tx) : Prop := q = s ∨ q = s.take 4100
theorem Was.take {s q : Tx} (h : Was s q) : q.take 4100 = s.take 4100 := by rcases h with rfl | rfl <;> simp [List.take_take]
theorem Was.mn {s q : Tx} (h : Was s q) : min (q.length : Int) 4100 = min (s.length : Int) 4100 := by
  rcases h with rfl | rfl
  · rfl
  · rw [List.length_take]; omega
theorem Was.le {s q : Tx} (h : Was s q) : min s.length 4100 ≤ q.length := by
  rcases h with rfl | rfl
  · omega
  · rw [List.length_take]; omega
theorem Was.cut {s q : Tx} (h : Was s q) : q.take (min s.length 4100) = s.take 4100 := by
  rcases h with rfl | rfl
  · rw [List.take_eq_take_iff]; omega
  · rw [List.take_take, List.take_eq_take_iff]; omega
def fwT (B : Nat) (p k : Tx) : Nat → Value → World → Prop
  | 1, v, _ => ∃ q, v = .string ⟨q.toArray⟩ ∧ Was p q
  | 3, v, _ => ∃ q, v = .string ⟨q.toArray⟩ ∧ Was p q
  | 4, v, _ => ∃ q, v = .int .i64 (q.length : Int) ∧ Was p q
  | 5, v, _ => v = .int .i64 ((min p.length 4100 : Nat) : Int)
  | 6, v, _ => v = .string ⟨(p.take 4100).toArray⟩
  | 9, v, _ => ∃ q, v = .string ⟨q.toArray⟩ ∧ Was k q
  | 12, v, _ => ∃ q, v = .string ⟨q.toArray⟩ ∧ Was k q
  | 13, v, _ => ∃ q, v = .int .i64 (q.length : Int) ∧ Was k q
  | 14, v, _ => v = .int .i64 ((min k.length 4100 : Nat) : Int)
  | 15, v, _ => v = .string ⟨(k.take 4100).toArray⟩
  | 17, _, w => w.cell? ⟨B, 0, none⟩ = some (.string ⟨(p.take 4100).toArray⟩)
  | 20, _, w => w.cell? ⟨B, 8, none⟩ = some (.string ⟨(k.take 4100).toArray⟩)
  | 0, v, _ => v = .pointer (some ⟨B, 0, none⟩)
  | 2, v, _ => v = .pointer (some ⟨B, 0, none⟩)
  | 16, v, _ => v = .pointer (some ⟨B, 0, none⟩)
  | 7, v, _ => v = .pointer (some ⟨B, 1, none⟩)
  | 10, v, _ => v = .pointer (some ⟨B, 1, none⟩)
  | 18, v, _ => v = .pointer (some ⟨B, 1, none⟩)
  | _, v, _ => v = .pointer (some ⟨B, 8, none⟩)
def fwS (B : Nat) (p k : Tx) (w w' : World) : Prop := (w.cell? ⟨B, 0, none⟩ = some (.string ⟨(p.take 4100).toArray⟩) → w'.cell? ⟨B, 0, none⟩ = some (.string ⟨(p.take 4100).toArray⟩)) ∧ (w.cell? ⟨B, 8, none⟩ = some (.string ⟨(k.take 4100).toArray⟩) → w'.cell? ⟨B, 8, none⟩ = some (.string ⟨(k.take 4100).toArray⟩))
theorem fwS.refl (B : Nat) (p k : Tx) (w : World) : fwS B p k w w := ⟨fun h => h, fun h => h⟩
theorem fwT_stays {B : Nat} {p k : Tx} (i : Nat) (v : Value) (w w' : World) (h : fwT B p k i v w) (hs : fwS B p k w w') : fwT B p k i v w' := by
  by_cases e : i = 17
  · subst e; exact hs.1 h
  · by_cases e2 : i = 20
    · subst e2; exact hs.2 h
    · unfold fwT at h ⊢
      split at h <;> first | exact h | omega
/-- the class of worlds of region 6 -/
def fwC (W : World) (B : Nat) (kind mode uid gid time : Int) (av dv : Value) (p k : Tx) (w : World) : Prop :=
  Chg (fun b => b = B) W.heap.size W w ∧ ∃ q j, Was p q ∧ Was k j ∧ Row w B 32 (fwR kind mode uid gid time av dv q j)
theorem slAt2 : SlK Tryz.prog 27 97 (.agg #[.string ⟨#[]⟩, .string ⟨#[]⟩]) 2 32 := SlK.mk' Tryz.underlying27 (by kernel_rfl) rfl (by decide)
theorem buildA (p q : Tx) (w : World) : (Instr.build 97 #[(0, .string ⟨p.toArray⟩), (1, .string ⟨q.toArray⟩)]).run Tryz.prog w = .ok (.agg #[.string ⟨p.toArray⟩, .string ⟨q.toArray⟩]) w := by kernel_rfl
theorem run_buildA {ρ : Operand → Value} {d : Option Tmp} {x y : Operand} {t : TypeId} {pos : String} {af : Array Edge} {g : Option (Nat × Bool)} {w : World} {p q : Tx} (h1 : ρ x = .string ⟨p.toArray⟩) (h2 : ρ y = .string ⟨q.toArray⟩) :
    (execOp ρ (⟨d, .build 97 #[(0, x), (1, y)], t, pos, af, g⟩ : Oper)).run Tryz.prog w = .ok (.value (.agg #[.string ⟨p.toArray⟩, .string ⟨q.toArray⟩])) w := by
  simp [execOp, h1, h2, buildA]
/-- region 13 -/
def afT (Br : Nat) (u : Value) (p q : Tx) : Nat → Value → World → Prop
  | 0, v, _ => v = u
  | 1, v, _ => v = .pointer (some ⟨Br, 0, none⟩)
  | 2, v, _ => v = .string ⟨p.toArray⟩
  | 3, v, _ => v = .pointer (some ⟨Br, 0, none⟩)
  | 4, v, _ => v = .string ⟨p.toArray⟩
  | 5, v, _ => v = .int .i64 (p.length : Int)
  | 6, v, _ => v = .int .i64 ((min p.length 250 : Nat) : Int)
  | 7, v, _ => v = .string ⟨(p.take 250).toArray⟩
  | 8, v, _ => v = .pointer (some ⟨Br, 1, none⟩)
  | 9, v, _ => v = .string ⟨q.toArray⟩
  | 10, v, _ => v = .pointer (some ⟨Br, 1, none⟩)
  | 11, v, _ => v = .string ⟨q.toArray⟩
  | 12, v, _ => v = .int .i64 (q.length : Int)
  | 13, v, _ => v = .int .i64 ((min q.length 700 : Nat) : Int)
  | 14, v, _ => v = .string ⟨(q.take 700).toArray⟩
  | 15, v, _ => v = .agg #[.string ⟨(p.take 250).toArray⟩, .string ⟨(q.take 700).toArray⟩]
  | _, v, w => ∃ bl, v = .slice (some ⟨bl, 0, none⟩) 1 1 ∧ RdV w (fun b => b = bl) 2 v 1 [.string ⟨(p.take 250).toArray⟩, .string ⟨(q.take 700).toArray⟩] ∧ bl < w.heap.size
theorem afT_stays {Br : Nat} {u : Value} {p q : Tx} (i : Nat) (v : Value) (w w' : World) (h : afT Br u p q i v w) (hb : Below w.heap.size w w') : afT Br u p q i v w' := by
  unfold afT at h ⊢
  split at h <;> first | exact h | (obtain ⟨bl, e, h1, h2⟩ := h; exact ⟨bl, e, h1.below hb (fun b e => e ▸ h2), Nat.lt_of_lt_of_le h2 hb.size⟩)
theorem take_min (l : Tx) (k : Nat) : l.take (min l.length k) = l.take k := by rw [List.take_eq_take_iff]; omega
theorem Hp.init {M : Nat → Prop} {w wr : World} {ls : List As} {A : As} (h : Hp M w wr (ls ++ [A])) : Hp M w wr ls :=
  ⟨h.c, fun B hB => h.p B (List.mem_append_left _ hB), fun i j B C hi hj b h1 h2 => h.d i j B C (by rw [List.getElem?_append_left (List.getElem?_eq_some_iff.1 hi).1]; exact hi) (by rw [List.getElem?_append_left (List.getElem?_eq_some_iff.1 hj).1]; exact hj) b h1 h2⟩
/-- a slice of Members of the call's own -/
structure FewIs (w w' : World) (v : Value) (L : List Mb) : Prop where
  is : ∃ l : List Mv, l.map (·.1) = L ∧ w'.ownsRow w.heap.size 32 9 v l.length (mcells l) ∧ ∀ x ∈ l, NdR w' (fun b => Fresh w.heap.size w' b ∧ v.ownBlock ≠ some b) x.1.2 x.2.1 x.2.2
theorem slMbF : SlK Tryz.prog 35 32 (.agg (mbC ([], ⟨0, 0, 0, 0, 0, [], [], []⟩) (.slice none 0 0) (.slice none 0 0))) 9 112 := SlK.mk' Tryz.underlying35 (by kernel_rfl) rfl (by decide)
theorem Hp.first {M : Nat → Prop} {w wr : World} {ls : List As} {A : As} (h : Hp M w wr (A :: ls)) : Hp M w wr [A] :=
  ⟨h.c, fun B hB => h.p B (by have := List.mem_singleton.1 hB; subst this; exact List.mem_cons_self), fun i j B C hi hj b h1 h2 => by
    have e1 : i = 0 := by have := (List.getElem?_eq_some_iff.1 hi).1; simp at this; exact this
    have e2 : j = 0 := by have := (List.getElem?_eq_some_iff.1 hj).1; simp at this; exact this
    omega⟩
/-- one round of Few, done -/
theorem few_step {w w' : World} {B6 B8 B5 k i : Nat} {v13 v6 v7 : Value} {acc : List Mv} {c5 : Array Value} {xp link : Tx} {kind mode uid gid time : Int} {attrs : List R2} {data : Tx} {L : List Mb}
    (h : Hp NoM w w' [slA w.heap.size 32 9 v13 (k + 1) (mcells acc ++ [.string ⟨(xp.take 4100).toArray⟩, .int .i64 kind, .int .u32 mode, .int .u32 uid, .int .u32 gid, .int .i64 time, v6, v7, .string ⟨(link.take 4100).toArray⟩]), rowA B5 32 c5, byA B6 5 v7 (data.take 1500), slA B8 97 2 v6 i (rcells ((attrs.take i).map cutA))])
    (hm : acc.map (·.1) = ((L.take k).map cutM)) (ht : ((L.take (k + 1)).map cutM) = ((L.take k).map cutM) ++ [cutM (xp, ⟨kind, mode, uid, gid, time, attrs, data, link⟩)]) (hal : acc.length = k)
    (ha : (attrs.take i).map cutA = (attrs.take 20).map cutA) (hi : i ≤ attrs.length)
    (hn : ∀ x ∈ acc, NdR w' (fun b => Fresh w.heap.size w' b ∧ v13.ownBlock ≠ some b) x.1.2 x.2.1 x.2.2) :
    (acc ++ [(cutM (xp, ⟨kind, mode, uid, gid, time, attrs, data, link⟩), v6, v7)]).map (·.1) = ((L.take (k + 1)).map cutM) ∧ (acc ++ [(cutM (xp, ⟨kind, mode, uid, gid, time, attrs, data, link⟩), v6, v7)]).length = k + 1 ∧
    Hp NoM w w' [slA w.heap.size 32 9 v13 (k + 1) (mcells (acc ++ [(cutM (xp, ⟨kind, mode, uid, gid, time, attrs, data, link⟩), v6, v7)]))] ∧ ∀ x ∈ acc ++ [(cutM (xp, ⟨kind, mode, uid, gid, time, attrs, data, link⟩), v6, v7)], NdR w' (fun b => Fresh w.heap.size w' b ∧ v13.ownBlock ≠ some b) x.1.2 x.2.1 x.2.2 := by
  refine ⟨by rw [List.map_append, hm, ht]; rfl, by simp [hal], ?_, fun x hx => ?_⟩
  · rw [mcells_append, mcells_cons]
    exact h.first
  · rcases List.mem_append.1 hx with hx | hx
    · exact hn x hx
    · obtain rfl : x = (cutM (xp, ⟨kind, mode, uid, gid, time, attrs, data, link⟩), v6, v7) := by simpa using hx
      have hil : ((attrs.take i).map cutA).length = i := by rw [List.length_map, List.length_take]; omega
      have h3 := h.sl 3 rfl
      have h2 := h.bs 2 rfl
      refine ⟨?_, ?_⟩
      · have hr := ownsV_reads h3
        have e : i = ((attrs.take 20).map cutA).length := by rw [← ha, hil]
        rw [ha] at hr
        rw [e] at hr
        refine RdV.mono hr (fun b hb => ⟨?_, fun e2 => ?_⟩)
        · exact h.new 3 rfl (b := b) hb.2.2
        · have := h.d 0 3 _ _ rfl rfl b e2 hb.2.2
          omega
      · refine Reads.mono h2.reads (fun b hb => ⟨?_, fun e2 => ?_⟩)
        · exact h.new 2 rfl (b := b) hb.2.2
        · have := h.d 0 2 _ _ rfl rfl b e2 hb.2.2
          omega
end Go.Proofs.YtplafpokgpolkaaGreatDoor
/- l[i:i+1] OF A SLICE OF MEMBERS; portolanlaw18.Few. -/
namespace Go.Proofs.YtplafpokgpolkaaGreatDoor
open Go.RowKit
theorem slice_win (b off n cap i : Nat) (k1 k2 : IntKind) (hi : i < cap) (w : World) :
    (Instr.slice 35 (.slice (some ⟨b, off, none⟩) n cap) (some (.int k1 (i : Int))) (some (.int k2 ((i : Int) + 1))) none).run Tryz.prog w = .ok (.slice (some ⟨b, off + i * 9, none⟩) 1 (cap - i)) w := by
  have he : Tryz.prog.elem 35 = 32 := by simp [Program.elem, Tryz.underlying35]
  have hs : ∀ w, (sizeOf 32).run Tryz.prog w = .ok 9 w := fun w => by kernel_rfl
  rw [run_slice_lh w 35 (some ⟨b, off, none⟩) n cap (by rw [he]; exact Tryz.underlying35) k1 k2 (i : Int) ((i : Int) + 1) (by omega) (by omega) (by omega), he, hs]
  have e1 : ((i : Int) + 1).toNat - (i : Int).toNat = 1 := by omega
  simp [Result.andThen, sliced, Addr.add_mid]
  omega
theorem mcells_win (l : List Mv) (k : Nat) (hk : k < l.length) : mcells [l[k]] = ((mcells l).drop (k * 9)).take (1 * 9) := by
  apply List.ext_getElem?
  intro i
  by_cases h : i < 9
  · rw [List.getElem?_take, if_pos (by omega), List.getElem?_drop, mcells_get l k i hk h]
    have := mcells_get [l[k]] 0 i (by simp) h
    rw [Nat.zero_mul, Nat.zero_add] at this
    exact this
  · rw [List.getElem?_take, if_neg (by omega), List.getElem?_eq_none (by rw [mcells_length]; simp; omega)]
theorem Mbs.win {w : World} {N N' : Nat → Prop} {l : List Mv} {b off n cap : Nat} (h : Mbs w N N' (.slice (some ⟨b, off, none⟩) n cap) l) {k : Nat} (hk : k < l.length) (hc : k < cap) : Mbs w N N' (.slice (some ⟨b, off + k * 9, none⟩) 1 (cap - k)) [l[k]] :=
  ⟨h.rd.sub k 1 (cap - k) (off + k * 9) (mcells [l[k]]) (mcells_win l k hk) (by rw [mcells_length]; rfl) rfl (by omega) (by omega), fun x hx => by
    obtain rfl : x = l[k] := by simpa using hx
    exact h.nd _ (List.getElem_mem hk)⟩
theorem one_of_map {m : Mb} : ∀ {l : List Mv}, l.map (·.1) = [m] → ∃ y, l = [y] ∧ y.1 = m
  | [], h => by simp at h
  | [y], h => ⟨y, rfl, by simpa using h⟩
  | _ :: _ :: _, h => by simp at h
def few18 (l : List Mb) : List Mb := (l.take 40).map cutM
end Go.Proofs.YtplafpokgpolkaaGreatDoor
/- A SLICE OF ACTS in memory: a bool and a Member each. -/
namespace Go.Proofs.YtplafpokgpolkaaGreatDoor
open Go.RowKit
abbrev Av := Bool × Mv
def acell (x : Av) : List Value := .bool x.1 :: (mcell x.2).toList
def acells (l : List Av) : List Value := l.flatMap acell
theorem acells_cons (x : Av) (l : List Av) : acells (x :: l) = acell x ++ acells l := rfl
theorem acell_len (x : Av) : (acell x).length = 10 := rfl
theorem acells_length : ∀ l : List Av, (acells l).length = l.length * 10
  | [] => rfl
  | x :: l => by rw [acells_cons, List.length_append, acells_length l, acell_len, List.length_cons]; omega
theorem acells_get : ∀ (l : List Av) (k i : Nat) (hk : k < l.length), i < 10 → (acells l)[k * 10 + i]? = (acell l[k])[i]?
  | x :: l, 0, i, _, hi => by
    rw [acells_cons, Nat.zero_mul, Nat.zero_add, List.getElem?_append_left (by rw [acell_len]; exact hi)]
    rfl
  | x :: l, k + 1, i, h, hi => by
    have := acells_get l k i (by simpa using h) hi
    rw [acells_cons, List.getElem?_append_right (by rw [acell_len]; omega), acell_len]
    have e : (k + 1) * 10 + i - 10 = k * 10 + i := by omega
    rw [e, this]; rfl
/-- v, a []Act, reads as l -/
structure ActsR (w : World) (N N' : Nat → Prop) (v : Value) (l : List Av) : Prop where
  rd : RdV w N 10 v l.length (acells l)
  nd : ∀ x ∈ l, NdR w N' x.2.1.2 x.2.2.1 x.2.2.2
theorem ActsR.below {w w' : World} {B : Nat} {N N' : Nat → Prop} {v : Value} {l : List Av} (h : ActsR w N N' v l) (hb : Below B w w') (h1 : ∀ b, N b → b < B) (h2 : ∀ b, N' b → b < B) : ActsR w' N N' v l := ⟨h.rd.below hb h1, fun x hx => (h.nd x hx).below hb h2⟩
theorem ActsR.puts {w : World} {N N' : Nat → Prop} {l : List Av} {b off n cap : Nat} (h : ActsR w N N' (.slice (some ⟨b, off, none⟩) n cap) l) {k : Nat} (hk : k < l.length) : w.cell? ⟨b, off + k * 10, none⟩ = some (.bool l[k].1) :=
  h.rd.cell b off _ _ rfl _ _ (by have := acells_get l k 0 hk (by decide); rw [Nat.add_zero] at this; rw [this]; rfl)
/-- the Member of an act is read -/
theorem ActsR.load {w : World} {N N' : Nat → Prop} {l : List Av} {b off n cap : Nat} (h : ActsR w N N' (.slice (some ⟨b, off, none⟩) n cap) l) {k : Nat} (hk : k < l.length) : (Instr.loadAt 32 (.pointer (some ⟨b, off + k * 10 + 1, none⟩))).run Tryz.prog w = .ok (.agg (mcell l[k].2)) w := by
  have := run_loadAt_mid (P := Tryz.prog) w b (off + k * 10 + 1) 32 (mcell l[k].2).toList _ (fun j z hj => by
    have hlt := (List.getElem?_eq_some_iff.1 hj).1
    rw [mcell_len] at hlt
    have hg := acells_get l k (j + 1) hk (by omega)
    have e : (acell l[k])[j + 1]? = some z := by
      show (mcell l[k].2).toList[j]? = some z
      simpa using hj
    rw [e] at hg
    have hc := h.rd.cell b off _ _ rfl _ _ hg
    rw [show off + k * 10 + 1 + j = off + (k * 10 + (j + 1)) by omega]
    exact hc) Tryz.underlying32 rfl (by rw [mcell_len]; exact aggM.i)
  simpa using this
end Go.Proofs.YtplafpokgpolkaaGreatDoor
/- portolanlaw18.Grown: a tree under calls. -/
namespace Go.Proofs.YtplafpokgpolkaaGreatDoor
open Go.RowKit
def stepT (L : List Mb) (a : Bool × Mb) : List Mb := if a.1 then (putT L (cutM a.2)).2 else (removeT L (cutM a.2).1).2
def grownL (l : List (Bool × Mb)) : List Mb := (l.take 40).foldl stepT []
theorem newT_nil : newT [] = (0, some []) := rfl
theorem grownL_succ (l : List (Bool × Mb)) (k : Nat) (hk : k < l.length) : (l.take (k + 1)).foldl stepT [] = stepT ((l.take k).foldl stepT []) l[k] := by
  rw [List.take_succ_eq_append_getElem hk, List.foldl_append]; rfl
theorem put_len {L : List Mb} (h : SM.Srt L) (m : Mb) : (putT L m).2.length ≤ L.length + 1 := by
  unfold putT
  split
  · simp
  · split
    · simp
    · split
      · simp
      · have h2 : SM.Srt (if m.2.kind = 1 then L else clearT L m.1) := by split; exact h; exact h.filter _
        have h3 : (if m.2.kind = 1 then L else clearT L m.1).length ≤ L.length := by split; exact Nat.le_refl _; exact List.length_filter_le _ _
        have := fold_len [m] _ h2
        simp only [List.foldl_cons, List.foldl_nil, List.length_cons, List.length_nil] at this
        show (SM.put _ m).length ≤ _
        omega
theorem remove_len (L : List Mb) (p : Tx) : (removeT L p).2.length ≤ L.length := by
  unfold removeT
  split
  · simp
  · exact Nat.le_trans (List.length_filter_le _ _) (List.length_filter_le _ _)
/-- the kind is an int -/
def Kb (m : Mb) : Prop := -9223372036854775808 ≤ m.2.kind ∧ m.2.kind ≤ 9223372036854775807
theorem Kb.cut {m : Mb} (h : Kb m) : Sm (cutM m) := by
  refine ⟨?_, ?_, ?_, ?_, fun x hx => ?_, h⟩
  · exact Nat.le_trans (List.length_take_le _ _) (by omega)
  · exact Nat.le_trans (List.length_take_le _ _) (by omega)
  · exact Nat.le_trans (List.length_take_le _ _) (by omega)
  · show ((m.2.attrs.take 20).map cutA).length ≤ _
    rw [List.length_map]
    exact Nat.le_trans (List.length_take_le _ _) (by omega)
  · obtain ⟨y, hy, rfl⟩ := List.mem_map.1 (show x ∈ (m.2.attrs.take 20).map cutA from hx)
    exact ⟨Nat.le_trans (List.length_take_le _ _) (by omega), Nat.le_trans (List.length_take_le _ _) (by omega)⟩
end Go.Proofs.YtplafpokgpolkaaGreatDoor
/- tree.All. -/
namespace Go.Proofs.YtplafpokgpolkaaGreatDoor
open Go.RowKit
theorem classP_ne : underP [] = fun x => !x.isEmpty := by funext x; simp [underP]
theorem underL_all (L : List Mb) : underL [] L = L := by
  unfold underL
  refine List.filter_eq_self.2 (fun x _ => ?_)
  unfold hitU underP
  cases x.1 <;> simp
set_option maxHeartbeats 1000000 in
set_option maxRecDepth 100000 in
/-- tree.All, and the row is the call's own -/
theorem all_own (T mb : Nat) (Bk : Nat → Prop) (f : Tx → Value × Value) (L : List Mb) (w : World) (hL : L.length ≤ 100000) (hT : TreeIn w T mb Bk f L) (hlt : T < w.heap.size ∧ mb < w.heap.size ∧ ∀ b, Bk b → b < w.heap.size) :
    Calls Tryz.prog 38 #[.pointer (some ⟨T, 0, none⟩)] w fun e w' => ∃ v l, e = .returned v ∧ l.map (·.1) = L ∧ OwnMbs w.heap.size w' v l ∧ Below w.heap.size w w' := by
  have HU := Keep.keep (under_own T mb Bk f L [] w hL (by simp) hT hlt)
  rw [underL_all] at HU
  clear hT hlt
  go_enter Tryz.func38, Tryz.ntmps38
  go_wp2_with fail
  refine HU.out.mono ?_
  rintro e w1 ⟨v, l, rfl, hl, hm, hb⟩
  have HL := Keep.keep hl; have HM := Keep.keep hm; have HB := Keep.keep hb
  obtain ⟨a, cap, hv, -⟩ := hm.mbs.rd.shape
  clear hl hm hb
  subst hv
  go_wp2_with fail
  go_ret
  exact ⟨_, l, rfl, HL.out, HM.out, HB.out⟩
/-- tree.All -/
theorem all_tree (T mb : Nat) (Bk : Nat → Prop) (f : Tx → Value × Value) (L : List Mb) (w : World) (hL : L.length ≤ 100000) (hT : TreeIn w T mb Bk f L) (hlt : T < w.heap.size ∧ mb < w.heap.size ∧ ∀ b, Bk b → b < w.heap.size) :
    Calls Tryz.prog 38 #[.pointer (some ⟨T, 0, none⟩)] w fun e w' => ∃ v l, e = .returned v ∧ l.map (·.1) = L ∧ Mbs w' (Fresh w.heap.size w') (Fresh w.heap.size w') v l ∧ Below w.heap.size w w' :=
  (all_own T mb Bk f L w hL hT hlt).mono (fun _ _ ⟨v, l, he, hl, ho, hb⟩ => ⟨v, l, he, hl, ho.mbs, hb⟩)
end Go.Proofs.YtplafpokgpolkaaGreatDoor
/- slices.Sort of a row of texts of one's own. -/
namespace Go.Proofs.YtplafpokgpolkaaGreatDoor
open Go.RowKit Go.Shelf
theorem sort_own (base : Nat) (v : Value) (ss : List Tx) (w : World) (hl : ss.length ≤ 1000000) (h : w.ownsRow base 9 1 v ss.length (ss.map encStr)) :
    Calls Tryz.prog 97 #[v] w fun e w' => e = .returned (.tuple #[]) ∧ w'.ownsRow base 9 1 v ss.length ((ss.mergeSort fun x y => decide (x ≤ y)).map encStr) ∧ w.grownBy w' v.ownBlock := by
  have h0 := h
  rcases h.2 with ⟨rfl, hz⟩ | ⟨g, cap, cur, rfl, hb, hh, hn, hm, hs, ht⟩
  · have : ss = [] := List.eq_nil_of_length_eq_zero hz
    subst this
    refine (Tryz.slices_Sort_string_none none 0 w).mono ?_
    rintro e w' ⟨rfl, rfl⟩
    exact ⟨rfl, by rw [List.mergeSort_nil]; exact h0, ⟨rfl, rfl, rfl, Nat.le_refl _, fun _ _ _ => rfl⟩⟩
  · have hlt : g < w.heap.size := (Array.getElem?_eq_some_iff.1 hh).1
    rw [Nat.mul_one] at ht
    refine (Tryz.slices_Sort_string g 0 cap ss w (holds_of_block hh ht) hlt (by omega)).mono ?_
    rintro e w' ⟨rfl, n, os, rfl⟩
    refine ⟨rfl, ?_, grownBy_sorted _⟩
    exact ownsRow_sorted (by simp) hb hh hn hm hs
end Go.Proofs.YtplafpokgpolkaaGreatDoor
/- tree.List. -/
namespace Go.Proofs.YtplafpokgpolkaaGreatDoor
open Go.RowKit Go.Shelf
theorem slStr : SlK Tryz.prog 38 9 (.string ⟨#[]⟩) 1 16 := SlK.mk' Tryz.underlying38 (by kernel_rfl) rfl (by decide)
/-- the names of what stands in dir, in the order of the paths -/
def namesT (dir : Tx) (L : List Mb) : List Tx := (L.filter (fun x => parentP x.1 == dir)).map (fun x => baseP x.1)
def listT (L : List Mb) (dir : Tx) : List Tx × Int := if (getT L dir).2 = false then ([], 6) else if (getT L dir).1.kind ≠ 1 then ([], 31) else ((namesT dir L).mergeSort (fun x y => decide (x ≤ y)), 0)
def nmE (dir : Tx) (M : List (Tx × Value)) : List Tx := (M.filter (fun x => parentP x.1 == dir)).map (fun x => baseP x.1)
theorem nmE_entries (dir : Tx) (f : Tx → Value × Value) (L : List Mb) : nmE dir (entries f L) = namesT dir L := by
  unfold nmE namesT entries
  rw [List.filter_map, List.map_map]
  rfl
theorem nmE_step {M : List (Tx × Value)} (hs : SM.Srt M) {todo : Tx → Bool} {p : Tx} {v : Value} (hp : todo p = true) (hl : SM.look M p = some v) {dir : Tx} {acc : List Tx} (h : acc.Perm (nmE dir (M.filter (fun x => !todo x.1)))) :
    (acc ++ (if parentP p == dir then [baseP p] else [])).Perm (nmE dir (M.filter (fun x => !(todo x.1 && x.1 != p)))) := by
  have h1 := ((came_step hs hp hl).filter (fun x => parentP x.1 == dir)).map (fun x => baseP x.1)
  refine List.Perm.trans ?_ h1.symm
  rw [List.filter_append, List.map_append]
  refine List.Perm.append h ?_
  simp only [List.filter_cons, List.filter_nil]
  cases parentP p == dir <;> exact List.Perm.refl _
set_option maxHeartbeats 4000000 in
set_option maxRecDepth 100000 in
/-- tree.List -/
theorem list_tree (T mb : Nat) (Bk : Nat → Prop) (f : Tx → Value × Value) (L : List Mb) (w : World) (hT : TreeIn w T mb Bk f L) (hBk : ∀ b, Bk b → b < w.heap.size) (dir : Tx) (hd : dir.length ≤ 1000000) (hL : L.length ≤ 100000) :
    Calls Tryz.prog 54 #[.pointer (some ⟨T, 0, none⟩), .string ⟨dir.toArray⟩] w fun e w' => (∃ v, e = .returned (.tuple #[v, .int .i64 (listT L dir).2]) ∧ w'.ownsRow w.heap.size 9 1 v (listT L dir).1.length ((listT L dir).1.map encStr)) ∧ Below w.heap.size w w' := by
  have HG := Keep.keep (get_tree T mb Bk f L w hT hBk dir hd)
  have HLT : Keep (listT L dir = if (getT L dir).2 = false then ([], 6) else if (getT L dir).1.kind ≠ 1 then ([], 31) else ((nmE dir (entries f L)).mergeSort (fun x y => decide (x ≤ y)), 0)) := ⟨by rw [nmE_entries]; rfl⟩
  generalize listT L dir = res at *
  generalize getT L dir = gt at *
  obtain ⟨⟨kind, mode, uid, gid, time, attrs, data, link⟩, is⟩ := gt
  simp only at HG HLT
  have HTN : Keep (∀ wx, Below w.heap.size w wx → TreeIn wx T mb Bk f L) := ⟨fun wx hb => hT.loc (fun b hb' => hb.block b (by rcases hb' with rfl | rfl | h; exact hT.row.lt; exact hT.map.lt; exact hBk b h))⟩
  have HSM : Keep (∀ p v, SM.look (entries f L) p = some v → p.length ≤ 400000) := ⟨fun p v h => by
    rw [look_entries] at h
    cases hl : SM.look L p with
    | none => rw [hl] at h; cases h
    | some n => exact (hT.look hl).2.p⟩
  have HML : Keep ((entries f L).length = L.length) := ⟨by simp [entries]⟩
  have HSR : Keep (SM.Srt (entries f L)) := ⟨hT.map.s⟩
  have hTlt := hT.row.lt
  have hTlt2 := hT.map.lt
  clear hT
  go_enter Tryz.func54, Tryz.ntmps54
  go_upto_region 1 with fail
  go_wp2_with fail
  refine HG.out.mono ?_
  rintro e w1 ⟨av, dv, rfl, hnd, hb1⟩
  obtain ⟨aa, la, ca, ad, ld, cd, rfl, rfl⟩ := hnd.shape
  unfold ndC strV
  dsimp only
  have HB1 := Keep.keep hb1
  have hle : w.heap.size ≤ w1.heap.size := hb1.size
  clear hnd hb1 HG
  go_upto_region 2 with fail
  refine wp_world (R := fun w2 => Below w.heap.size w w2 ∧ Row w2 w1.heap.size 30 #[.int .i64 kind, .int .u32 mode, .int .u32 uid, .int .u32 gid, .int .i64 time, .slice aa la ca, .slice ad ld cd, .string ⟨link.toArray⟩]) ⟨HB1.out.alloc hle _, Row.new _ _ _⟩ ?_
  intro w2 H2
  obtain ⟨b6, hb6⟩ : ∃ b6, w1.heap.size = b6 := ⟨_, rfl⟩
  rw [hb6] at H2 ⊢
  clear hb6 hle
  have c0 := H2.out.2.cell (i := 0) rfl
  have HNO := Keep.keep (none_ok T mb w2 (HTN.out w2 H2.out.1).row)
  go_wp2_with fail
  refine HNO.out.mono ?_
  rintro e w3 ⟨rfl, rfl⟩
  clear HNO
  cases is with
  | false =>
    have HRE : Keep (res = ([], 6)) := ⟨HLT.out⟩
    go_wp2_with fail
    go_ret2
    rw [HRE.out]
    exact ⟨⟨_, rfl, World.ownsRow_nil _ _ _ _⟩, H2.out.1⟩
  | true =>
    by_cases hk : kind = 1
    · subst hk
      have HRE : Keep (res = ((nmE dir (entries f L)).mergeSort (fun x y => decide (x ≤ y)), 0)) := ⟨HLT.out⟩
      have cT := (HTN.out w2 H2.out.1).row.cell (i := 0) rfl
      have HM := Keep.keep (HTN.out w2 H2.out.1).map
      have HB2 := Keep.keep H2.out.1
      clear HLT H2
      go_wp2_with (first | (with_reducible refine arm_sRange ?_) | (with_reducible refine arm_sNext ?_) | (with_reducible refine arm_sDel ?_) | (with_reducible refine arm_sPut ?_) | (with_reducible refine arm_sIns ?_))
      refine StM.out ?_
      refine arm_rangeS Tryz.underlying9 Tryz.underlying84 HM.out rfl ?_
      intro w3 hrg hb3 hs3
      obtain ⟨r, hr⟩ : ∃ r, w2.heap.size = r := ⟨_, rfl⟩
      have HR : Keep (w.heap.size ≤ r ∧ w3.heap.size = r + 1 ∧ mb < w.heap.size) := ⟨by have := HB2.out.size; omega, by omega, hTlt2⟩
      have HB3 := Keep.keep (HB2.out.trans (hb3.mono HB2.out.size))
      rw [hr] at hrg ⊢
      have HRG := Keep.keep hrg
      clear hrg hb3 hs3 hr cT HM HB2 c0
      simp only [Act.put, List.setIfInBounds_toArray, List.set_cons_succ, List.set_cons_zero]
      go_wp2_with fail
      go_loopg [8, 9] L.length (fun g u8 _ wx => ∃ (todo : Tx → Bool) (acc : List Tx), RgS wx 9 mb r (entries f L) todo g ∧ acc.Perm (nmE dir ((entries f L).filter (fun x => !todo x.1))) ∧ wx.ownsRow (r + 1) 9 1 u8 acc.length (acc.map encStr) ∧ Below w.heap.size w wx)
      case atStart =>
        refine ⟨_, [], by rw [← HML.out]; exact HRG.out, ?_, World.ownsRow_nil _ _ _ _, HB3.out⟩
        rw [came_start]
        exact List.Perm.refl _
      case round =>
        obtain ⟨todo, acc, hrg, hpm, how, hb⟩ := hrel
        have hal : acc.length ≤ L.length := by
          have h1 := hpm.length_eq
          unfold nmE at h1
          rw [List.length_map] at h1
          have h2 := List.length_filter_le (fun x : Tx × Value => parentP x.1 == dir) ((entries f L).filter (fun x => !todo x.1))
          have h3 := List.length_filter_le (fun x : Tx × Value => !todo x.1) (entries f L)
          have := HML.out
          omega
        have hob := World.ownsRow.lt how
        obtain ⟨a8, c8, rfl, -⟩ := (ownsV_reads how).shape
        have HRG2 := Keep.keep hrg; have HPM := Keep.keep hpm; have HOW := Keep.keep how; have HB4 := Keep.keep hb
        have HOB := Keep.keep hob
        clear hrg hpm how hb HRG HB3 hob
        go_wp2_with (first | (with_reducible refine arm_sRange ?_) | (with_reducible refine arm_sNext ?_) | (with_reducible refine arm_sDel ?_) | (with_reducible refine arm_sPut ?_) | (with_reducible refine arm_sIns ?_))
        refine StM.out ?_
        refine arm_nextS Tryz.underlying9 HRG2.out rfl ?_ ?_
        · intro h0 hall
          have hpf : (acc.mergeSort fun x y => decide (x ≤ y)) = (nmE dir (entries f L)).mergeSort fun x y => decide (x ≤ y) := by
            have h := HPM.out
            rw [came_all _ hall] at h
            exact mergeSort_of_perm h
          have HPF := Keep.keep hpf
          clear h0 hall hpf
          simp only [Act.put, List.setIfInBounds_toArray, List.set_cons_succ, List.set_cons_zero]
          go_wp2_with fail
          refine (sort_own (r + 1) _ acc wr (by omega) HOW.out).mono ?_
          rintro e w5 ⟨rfl, ho5, hg5⟩
          have HO5 := Keep.keep ho5; have HG5 := Keep.keep hg5
          clear ho5 hg5
          go_wp2_with fail
          go_ret2
          rw [HRE.out]
          refine ⟨⟨_, rfl, ?_⟩, ?_⟩
          · have h := HO5.out
            rw [HPF.out] at h
            have hl : ((nmE dir (entries f L)).mergeSort fun x y => decide (x ≤ y)).length = acc.length := by rw [← HPF.out]; simp
            show w5.ownsRow _ _ _ _ ((nmE dir (entries f L)).mergeSort fun x y => decide (x ≤ y)).length _
            rw [hl]
            refine ⟨h.1, h.2.imp id ?_⟩
            rintro ⟨g, cap, cur, e1, h2, h3⟩
            exact ⟨g, cap, cur, e1, by have := HR.out.1; omega, h3⟩
          · exact HB4.out.trans ((Chg.grown (M := fun _ => False) (.refl _ _ _) HG5.out HB4.out.size (fun k e => .inl (by have := (HOB.out k e).1; have := HR.out.1; omega))).below (fun _ _ h => h))
        · intro p v w4 cnt' h1 h2 h3 h4 h5 h6 hen
          have hpl := HSM.out p v h2
          have HST := Keep.keep (nmE_step HSR.out h1 h2 HPM.out)
          have HRG4 := Keep.keep h3
          have HB5 : Keep (Below w.heap.size w w4) := ⟨HB4.out.trans ((h5.lower HB4.out.size).below (fun k hk e => by have := HR.out.1; omega))⟩
          have HOW4 : Keep (w4.ownsRow (r + 1) 9 1 (.slice a8 acc.length c8) acc.length (acc.map encStr)) := ⟨ownsRow_loc _ _ (fun b hb => h5.block b (HOB.out b hb).2 (fun e => by have := (HOB.out b hb).1; omega)) HOW.out⟩
          have hw4 : r + 1 ≤ w4.heap.size := by have := HRG4.out.lt.2.1; omega
          clear h1 h2 h3 h5 h6 HRG2 HPM HB4 HOW HOB
          simp only [Act.put, List.setIfInBounds_toArray, List.set_cons_succ, List.set_cons_zero]
          go_wp2_with fail
          refine (parent_any p (by omega) w4).mono ?_
          rintro e w5 ⟨rfl, rfl⟩
          cases hpd : (parentP p == dir) with
          | false =>
            rw [hpd] at HST
            go_wp2_with fail
            go_roundg cnt'
            case measure => omega
            case rel => exact ⟨_, acc, HRG4.out, by have h := HST.out; rw [if_neg (by decide), List.append_nil] at h; exact h, HOW4.out, HB5.out⟩
          | true =>
            rw [hpd] at HST
            go_wp2_with fail
            refine (base_any p (by omega) w4).mono ?_
            rintro e w5 ⟨rfl, rfl⟩
            go_wp2_with (with_reducible refine arm_stop ?_)
            refine Stopped.out ?_
            refine arm_appendV slStr (base := r + 1) (ownsRow_loc _ _ (fun b hb => Below.heap_alloc w4 _ b (World.ownsRow.lt HOW4.out b hb).2) HOW4.out) (RdV.new (N := fun _ => True) 9 [encStr (baseP p)] 1 1 _ rfl rfl (by unfold maxLen; omega) trivial) (by simp [encStr, Value.oneCell']) (by unfold maxLen; omega) (by omega) (by simp; omega) rfl rfl ?_
            intro v' w' ho hg hov _
            have HO : Keep (w'.ownsRow (r + 1) 9 1 v' (acc ++ [baseP p]).length ((acc ++ [baseP p]).map encStr)) := ⟨by rw [List.map_append, List.length_append]; exact ho⟩
            have hob := World.ownsRow.lt HOW4.out
            have HB6 : Keep (Below w.heap.size w w') := ⟨HB5.out.trans ((Chg.grown (M := fun _ => False) ((Chg.refl _ _ _).alloc HB5.out.size _) hg (by have := HB5.out.size; simp; omega) (fun k e => .inl (by have := (hob k e).1; have := HR.out.1; omega))).below (fun _ _ h => h))⟩
            have hne : ∀ b, b < w4.heap.size → b ≤ r → w'.heap[b]? = w4.heap[b]? := fun b h1 h2 => by
              rw [hg.block b (by simp; omega) (fun e => by have := (hob b e.symm).1; omega)]
              exact Below.heap_alloc w4 _ b h1
            have HRG6 : Keep (RgS w' 9 mb r (entries f L) (fun q => todo q && q != p) cnt') := ⟨HRG4.out.loc (hne mb HRG4.out.lt.1 (by have := HR.out; omega)) (hne r HRG4.out.lt.2.1 (Nat.le_refl _))⟩
            obtain ⟨a9, c9, rfl, -⟩ := (ownsV_reads ho).shape
            clear ho hg hov hob hne HRG4 HB5 HOW4
            simp only [Act.put, List.setIfInBounds_toArray, List.set_cons_succ, List.set_cons_zero]
            go_wp2_with fail
            go_roundg cnt'
            case measure => omega
            case rel => exact ⟨_, acc ++ [baseP p], HRG6.out, by have h := HST.out; rw [if_pos trivial] at h; exact h, HO.out, HB6.out⟩
    · have HRE : Keep (res = ([], 31)) := ⟨by rw [HLT.out]; simp [hk]⟩
      have hbne : (kind != 1) = true := by simpa using hk
      go_wp2_with fail
      go_ret2
      rw [HRE.out]
      exact ⟨⟨_, rfl, World.ownsRow_nil _ _ _ _⟩, H2.out.1⟩
end Go.Proofs.YtplafpokgpolkaaGreatDoor

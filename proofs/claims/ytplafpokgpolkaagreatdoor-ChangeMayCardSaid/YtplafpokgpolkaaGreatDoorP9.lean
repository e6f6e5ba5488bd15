/- PARTS OF ONE PROOF, set in one file: StRo, StS1, StS2, StS3. Each part tells its own conditions. -/
import Derived.Test.YtplafpokgpolkaaGreatDoorP8
/- slices.rotateCmpFunc over Members. -/
namespace Go.Proofs.YtplafpokgpolkaaGreatDoor
open Go.Shelf Go.RowKit Go.Lib Go.Sort
set_option maxHeartbeats 4000000 in
set_option maxRecDepth 1000000 in
theorem rot_any {α : Type} [Inhabited α] (k : Nat) (zE : ∀ w, (Go.sizeOf 32).run Tryz.prog w = .ok k w) (enc : α → List Value) (g : Nat) (cb : Array Value) (blk off cap : Nat) (a m b : Nat) (d0 d : Array α) (w0 w : World) (R : RowK enc k w0 blk off d0) (hs : d0.size = d.size) (S : SWK enc k w0 blk off d w) (ham : a < m) (hmb : m < b) (hb : b ≤ d.size) (hsz : d.size < 4611686018427387904) :
    Calls Tryz.prog 162 #[.slice (some ⟨blk, off, none⟩) d.size cap, .int .i64 a, .int .i64 m, .int .i64 b, .func (.func g) #[] cb] w fun e w' => e = .returned (.tuple #[]) ∧ ∃ d', SWK enc k w0 blk off d' w' ∧ RotOk d d' a m b := by
  have S0 : Aside (SWK enc k w0 blk off d w) := S
  clear S
  have r0 : IntKind.i64.wrap ((m : Int) - (a : Int)) = ((m - a : Nat) : Int) := by rw [IntKind.wrap_i64]; omega
  have r1 : IntKind.i64.wrap ((b : Int) - (m : Int)) = ((b - m : Nat) : Int) := by rw [IntKind.wrap_i64]; omega
  obtain ⟨i0, hi0⟩ : ∃ x, x = m - a := ⟨_, rfl⟩
  obtain ⟨j0, hj0⟩ : ∃ x, x = b - m := ⟨_, rfl⟩
  rw [← hi0] at r0
  rw [← hj0] at r1
  have G0 : Aside (RotG d d a m b i0 j0) := by
    show RotG _ _ _ _ _ _ _
    rw [hi0, hj0]
    exact RotG.start (by omega) (by omega) hb
  have hi1 : 0 < i0 ∧ a + i0 = m := by omega
  have hj1 : 0 < j0 ∧ m + j0 = b := by omega
  clear hi0 hj0
  go_enter Tryz.func162, Tryz.ntmps162
  go_wp2
  go_loopg [10, 11] (i0 + j0) (fun kx s10 s11 wr => ∃ (i j : Nat) (dk : Array α), s10 = .int .i64 i ∧ s11 = .int .i64 j ∧ 0 < i ∧ 0 < j ∧ a + i ≤ m ∧ m + j ≤ b ∧ i + j ≤ kx ∧ Aside (SWK enc k w0 blk off dk wr) ∧ Aside (RotG d dk a m b i j))
  case atStart => exact ⟨i0, j0, d, by go_num, by go_num, hi1.1, hj1.1, by omega, by omega, by omega, S0, G0⟩
  case round =>
    clear S0 G0 r0 r1
    obtain ⟨i, j, dk, rfl, rfl, hi, hj, hai, hmj, hkx, S1, G1⟩ := hrel
    have hds : dk.size = d.size := G1.out.size
    obtain ⟨x, hx⟩ : ∃ x, x = m - i := ⟨_, rfl⟩
    have rx : IntKind.i64.wrap ((m : Int) - (i : Int)) = (x : Int) := by rw [IntKind.wrap_i64]; omega
    rcases Nat.lt_trichotomy i j with hij | hij | hij
    · have e1 : ¬ (i : Int) = (j : Int) := by omega
      have e2 : ¬ (j : Int) < (i : Int) := by omega
      obtain ⟨y, hy⟩ : ∃ y, y = m + j - i := ⟨_, rfl⟩
      obtain ⟨j', hj'⟩ : ∃ y, y = j - i := ⟨_, rfl⟩
      have ry : IntKind.i64.wrap (IntKind.i64.wrap ((m : Int) + (j : Int)) - (i : Int)) = (y : Int) := by rw [show IntKind.i64.wrap ((m : Int) + (j : Int)) = (m : Int) + (j : Int) by rw [IntKind.wrap_i64]; omega, IntKind.wrap_i64]; omega
      have ry0 : IntKind.i64.wrap ((m : Int) + (j : Int) - (i : Int)) = (y : Int) := by rw [IntKind.wrap_i64]; omega
      have rj : IntKind.i64.wrap ((j : Int) - (i : Int)) = (j' : Int) := by rw [IntKind.wrap_i64]; omega
      have hc1 := Keep.keep (swr_any k zE enc g cb blk off cap x y i d0 dk w0 wr R (by omega) S1.out (by omega) (by omega) (by omega))
      rw [hds] at hc1
      have HG : Keep (∀ d', SwOk dk d' x y i → RotG d d' a m b i j') := ⟨fun d' h => by rw [hj']; exact G1.out.right hij (by rw [← hx, ← hy]; exact h)⟩
      have hj2 : j' + i = j := by omega
      clear hx hy hj' S1
      go_wp2_with fail
      refine (hc1.out).mono ?_
      rintro e w' ⟨rfl, d', S2', H2⟩
      have S2 : Aside (SWK enc k w0 blk off d' w') := S2'
      have G2 : Aside (RotG d d' a m b i j') := HG.out d' H2
      clear S2' H2
      go_wp2
      go_roundg (i + j')
      case measure => omega
      case rel => exact ⟨i, j', d', by go_num, by go_num, hi, by omega, hai, by omega, Nat.le_refl _, S2, G2⟩
    · subst hij
      have hc1 := Keep.keep (swr_any k zE enc g cb blk off cap x m i d0 dk w0 wr R (by omega) S1.out (by omega) (by omega) (by omega))
      rw [hds] at hc1
      have HG : Keep (∀ d', SwOk dk d' x m i → RotOk d d' a m b) := ⟨fun d' h => G1.out.done (by rw [← hx]; exact h)⟩
      clear hx S1
      go_wp2_with fail
      refine (hc1.out).mono ?_
      rintro e w' ⟨rfl, d', S2, H2⟩
      go_wp2
      go_end0
      exact ⟨rfl, d', S2, HG.out d' H2⟩
    · have e1 : ¬ (i : Int) = (j : Int) := by omega
      have e2 : (j : Int) < (i : Int) := by omega
      obtain ⟨i', hi'⟩ : ∃ y, y = i - j := ⟨_, rfl⟩
      have rj : IntKind.i64.wrap ((i : Int) - (j : Int)) = (i' : Int) := by rw [IntKind.wrap_i64]; omega
      have hc1 := Keep.keep (swr_any k zE enc g cb blk off cap x m j d0 dk w0 wr R (by omega) S1.out (by omega) (by omega) (by omega))
      rw [hds] at hc1
      have HG : Keep (∀ d', SwOk dk d' x m j → RotG d d' a m b i' j) := ⟨fun d' h => by rw [hi']; exact G1.out.left hij (by rw [← hx]; exact h)⟩
      have hi2 : i' + j = i := by omega
      clear hx hi' S1
      go_wp2_with fail
      refine (hc1.out).mono ?_
      rintro e w' ⟨rfl, d', S2', H2⟩
      have S2 : Aside (SWK enc k w0 blk off d' w') := S2'
      have G2 : Aside (RotG d d' a m b i' j) := HG.out d' H2
      clear S2' H2
      go_wp2
      go_roundg (i' + j)
      case measure => omega
      case rel => exact ⟨i', j, d', by go_num, by go_num, by omega, hj, by omega, hmj, Nat.le_refl _, S2, G2⟩
end Go.Proofs.YtplafpokgpolkaaGreatDoor
/- slices.symMergeCmpFunc over Members: one ahead. -/
namespace Go.Proofs.YtplafpokgpolkaaGreatDoor
open Go.Shelf Go.RowKit Go.Lib Go.Sort
set_option maxHeartbeats 4000000 in
set_option maxRecDepth 1000000 in
theorem sym1_any {α : Type} [Inhabited α] (k : Nat) (zE : ∀ w, (Go.sizeOf 32).run Tryz.prog w = .ok k w) (enc : α → List Value) (g : Nat) (cb : Array Value) (blk off cap : Nat) (cf : α → α → Int) (lx : α → α → Bool) (t : α → Nat) (O : Ord (ltOf cf) lx t) (d0 : Array α) (w0 : World) (R : RowK enc k w0 blk off d0) (hcmp : CmpLays Tryz.prog g cb enc k cf blk off d0.size w0) (eg : ∀ args w, (callFunc g args).run Tryz.prog w = .ok (.enter g args) w) (hsz : d0.size < 1000000000000) (a m b : Nat) (d : Array α) (w : World) (hs : d0.size = d.size) (S : SWK enc k w0 blk off d w) (P : SymP lx t d a m b) (h1 : m - a = 1) :
    Calls Tryz.prog 136 #[.slice (some ⟨blk, off, none⟩) d.size cap, .int .i64 a, .int .i64 m, .int .i64 b, .func (.func g) #[] cb] w fun e w' => e = .returned (.tuple #[]) ∧ ∃ d', SWK enc k w0 blk off d' w' ∧ Merged lx d d' a b := by
  have hds0 : d0.size = d.size := hs
  obtain ⟨am, mb, bs⟩ : a < m ∧ m < b ∧ b ≤ d.size := ⟨P.am, P.mb, P.bs⟩
  have HP : Aside (SymP lx t d a m b) := P
  have HC : Aside (CmpLays Tryz.prog g cb enc k cf blk off d0.size w0) := hcmp
  have HO : Aside (Ord (ltOf cf) lx t) := O
  have S0 : Aside (SWK enc k w0 blk off d w) := S
  clear S P hcmp O
  have aE : ∀ w, (isAgg 32).run Tryz.prog w = .ok true w := fun w => by kernel_rfl
  have mixed : Tryz.prog.follows Departure.mixedOrders = true := by first | rfl | kernel_rfl
  have rma : IntKind.i64.wrap ((m : Int) - (a : Int)) = ((m - a : Nat) : Int) := by rw [IntKind.wrap_i64]; omega
  have rbm : IntKind.i64.wrap ((b : Int) - (m : Int)) = ((b - m : Nat) : Int) := by rw [IntKind.wrap_i64]; omega
  obtain ⟨u0, hu0⟩ : ∃ x, x = m - a := ⟨_, rfl⟩
  obtain ⟨v0, hv0⟩ : ∃ x, x = b - m := ⟨_, rfl⟩
  rw [← hu0] at rma
  rw [← hv0] at rbm
  have h1z : (u0 : Int) = 1 := by omega
  have HMA : Keep (m = a + 1) := ⟨by omega⟩
  have ham1 : a + 1 ≤ m := by omega
  clear hu0 hv0
  go_enter Tryz.func136, Tryz.ntmps136
  go_wp2
  go_loopg [10, 11] (b - m) (fun kx s10 s11 wr => ∃ (i j : Nat), s10 = .int .i64 i ∧ s11 = .int .i64 j ∧ m ≤ i ∧ i ≤ j ∧ j ≤ b ∧ j - i ≤ kx ∧ Aside (SWK enc k w0 blk off d wr) ∧ Aside (SeaL lx d a b i j))
  case atStart => exact ⟨m, b, by go_num, by go_num, Nat.le_refl _, by omega, Nat.le_refl _, by omega, S0, by have hma := HMA.out; subst hma; exact SeaL.start (by omega)⟩
  case round =>
    clear S0
    obtain ⟨i, j, rfl, rfl, hmi, hij, hjb, hkx, S1, G1⟩ := hrel
    by_cases hlt : i < j
    · have hltz : (i : Int) < (j : Int) := by omega
      obtain ⟨h, hh0⟩ : ∃ x, x = (i + j) / 2 := ⟨_, rfl⟩
      have rdh : ((i : Int) + (j : Int)) / 2 = (h : Int) := by omega
      have hih : i ≤ h ∧ h < j := by omega
      obtain ⟨dk, hdk⟩ : ∃ x, x = d := ⟨_, rfl⟩
      have hdks : dk.size = d.size := by rw [hdk]
      rw [← hdk] at S1
      cases hL : ltOf cf dk[h]! dk[a]! with
      | true =>
        have G2 : Aside (SeaL lx d a b (h + 1) j) := by
          have hma := HMA.out
          subst hma hdk
          exact SeaL.yes HO.out HP.out G1.out hih.1 hih.2 hL
        clear hh0
        have bx1 : ((h : Nat) : Int) < (d.size : Int) := by omega
        have by1 : ((a : Nat) : Int) < (d.size : Int) := by omega
        have hv1 : decide (cf dk[h]! dk[a]! < 0) = true := hL
        obtain ⟨x1, hx1⟩ : ∃ x, x = dk[h]! := ⟨_, rfl⟩
        obtain ⟨y1, hy1⟩ : ∃ x, x = dk[a]! := ⟨_, rfl⟩
        have la1 := S1.out.ld R (by omega) Tryz.prog (h) (by omega)
        have lb1 := S1.out.ld R (by omega) Tryz.prog (a) (by omega)
        rw [← hx1] at la1 hv1
        rw [← hy1] at lb1 hv1
        have hc1 := S1.out.cmp HC.out (by omega) x1 y1
        have hw1 : cf x1 y1 < 0 := of_decide_eq_true hv1
        clear hx1 hy1
        go_wp2_with fail
        go_quiet_grown (first | (go_at_fn g; refine Calls.grown_of (hc1 _ _)))
        have S2 : Aside (SWK enc k w0 blk off dk (grow (wr.drewN nq) osq)) := S1.out.grown nq osq
        clear la1 lb1 hc1 S1
        generalize grow (wr.drewN nq) osq = w2 at S2 ⊢
        clear nq osq
        rw [hdk] at S2
        go_wp2
        go_roundg (j - (h + 1))
        case measure => omega
        case rel => exact ⟨h + 1, j, by go_num, rfl, by omega, by omega, hjb, Nat.le_refl _, S2, G2⟩
      | false =>
        have G2 : Aside (SeaL lx d a b i h) := by
          have hma := HMA.out
          subst hma hdk
          exact SeaL.no HO.out HP.out G1.out hih.1 hih.2 hL
        clear hh0
        have bx2 : ((h : Nat) : Int) < (d.size : Int) := by omega
        have by2 : ((a : Nat) : Int) < (d.size : Int) := by omega
        have hv2 : decide (cf dk[h]! dk[a]! < 0) = false := hL
        obtain ⟨x2, hx2⟩ : ∃ x, x = dk[h]! := ⟨_, rfl⟩
        obtain ⟨y2, hy2⟩ : ∃ x, x = dk[a]! := ⟨_, rfl⟩
        have la2 := S1.out.ld R (by omega) Tryz.prog (h) (by omega)
        have lb2 := S1.out.ld R (by omega) Tryz.prog (a) (by omega)
        rw [← hx2] at la2 hv2
        rw [← hy2] at lb2 hv2
        have hc2 := S1.out.cmp HC.out (by omega) x2 y2
        have hw2 : ¬ cf x2 y2 < 0 := of_decide_eq_false hv2
        clear hx2 hy2
        go_wp2_with fail
        go_quiet_grown (first | (go_at_fn g; refine Calls.grown_of (hc2 _ _)))
        have S2 : Aside (SWK enc k w0 blk off dk (grow (wr.drewN nq) osq)) := S1.out.grown nq osq
        clear la2 lb2 hc2 S1
        generalize grow (wr.drewN nq) osq = w2 at S2 ⊢
        clear nq osq
        rw [hdk] at S2
        go_wp2
        go_roundg (h - i)
        case measure => omega
        case rel => exact ⟨i, h, rfl, by go_num, hmi, by omega, by omega, Nat.le_refl _, S2, G2⟩
    · have hltz : ¬ (i : Int) < (j : Int) := by omega
      obtain rfl : i = j := by omega
      have S9 := S1
      clear S1
      obtain ⟨i1, hi1⟩ : ∃ x, x = i - 1 := ⟨_, rfl⟩
      have ri1 : (i : Int) - 1 = (i1 : Int) := by omega
      have HI1 : Keep (i = i1 + 1) := ⟨by omega⟩
      have hai1 : a ≤ i1 ∧ i1 + 1 ≤ b := by omega
      clear hi1
      go_wp2
      go_loopg [13] (i1 - a) (fun kx2 s13 wr => ∃ (q : Nat) (dk : Array α), s13 = .int .i64 q ∧ a ≤ q ∧ q ≤ i1 ∧ i1 - q ≤ kx2 ∧ Aside (SWK enc k w0 blk off dk wr) ∧ Aside (ShL d dk a b q))
      case atStart => exact ⟨a, d, by go_num, Nat.le_refl _, by omega, Nat.le_refl _, S9, ShL.start d a b⟩
      case round =>
        clear S9
        obtain ⟨q, dk, rfl, haq, hqi, hkx2, S1, H1⟩ := hrel
        have hds : dk.size = d.size := H1.out.size
        by_cases hq : q < i1
        · have hqz : (q : Int) < (i1 : Int) := by omega
          obtain ⟨y, hy⟩ : ∃ y, y = q + 1 := ⟨_, rfl⟩
          have ry : (q : Int) + 1 = (y : Int) := by omega
          have H2 : Aside (ShL d (swp dk q y) a b y) := by
            subst hy
            exact H1.out.step haq (by omega) bs
          have hyd : y < d.size := by omega
          have hyi : y ≤ i1 ∧ a ≤ y ∧ i1 - y < i1 - q := by omega
          clear hy
          go_wp2_with fail
          have bx5 : ((q : Nat) : Int) < (d.size : Int) := by omega
          have by5 : ((y : Nat) : Int) < (d.size : Int) := by omega
          have S2 : Aside (SWK enc k w0 blk off (swp dk (q) (y)) ((wr.drew.setCells blk (off + (q) * k) (enc dk[y]!)).setCells blk (off + (y) * k) (enc dk[q]!))) := S1.out.swapped R (q) (y) (by omega) (by omega)
          have la5 := S1.out.ld1 R (by omega) Tryz.prog (q) (by omega)
          have lb5 := S1.out.ld1 R (by omega) Tryz.prog (y) (by omega)
          have sa5 := S1.out.st1 R (by omega) Tryz.prog (q) (by omega) dk[y]!
          have sb5 := S1.out.st2 R (by omega) Tryz.prog (q) (y) (by omega) (by omega) dk[y]! dk[q]!
          have na5 : (enc dk[q]!).length = k := R.hk _
          have nb5 : (enc dk[y]!).length = k := R.hk _
          generalize enc dk[q]! = cI5 at S2 la5 sb5 na5
          generalize enc dk[y]! = cJ5 at S2 lb5 sa5 sb5 nb5
          clear S1
          go_big_region_o
          clear la5 lb5 sa5 sb5
          generalize (wr.drew.setCells blk (off + (q) * k) cJ5).setCells blk (off + (y) * k) cI5 = w2 at S2 ⊢
          go_wp2
          go_roundg (i1 - y)
          case measure => omega
          case rel => exact ⟨y, swp dk q y, by go_num, hyi.2.1, hyi.1, Nat.le_refl _, S2, H2⟩
        · obtain rfl : q = i1 := by omega
          have hqz : ¬ (q : Int) < (q : Int) := by omega
          go_wp2
          (try simp only [Exit.inBlock, Exit.then]); refine bodyPost_ret (results_none rfl _ _ _) rfl ?_
          have hma := HMA.out
          have hi1 := HI1.out
          subst hma
          subst hi1
          exact ⟨rfl, dk, S1.out, ShL.done HP.out G1.out H1.out⟩
end Go.Proofs.YtplafpokgpolkaaGreatDoor
/- slices.symMergeCmpFunc over Members: one behind. -/
namespace Go.Proofs.YtplafpokgpolkaaGreatDoor
open Go.Shelf Go.RowKit Go.Lib Go.Sort
set_option maxHeartbeats 4000000 in
set_option maxRecDepth 1000000 in
theorem sym2_any {α : Type} [Inhabited α] (k : Nat) (zE : ∀ w, (Go.sizeOf 32).run Tryz.prog w = .ok k w) (enc : α → List Value) (g : Nat) (cb : Array Value) (blk off cap : Nat) (cf : α → α → Int) (lx : α → α → Bool) (t : α → Nat) (O : Ord (ltOf cf) lx t) (d0 : Array α) (w0 : World) (R : RowK enc k w0 blk off d0) (hcmp : CmpLays Tryz.prog g cb enc k cf blk off d0.size w0) (eg : ∀ args w, (callFunc g args).run Tryz.prog w = .ok (.enter g args) w) (hsz : d0.size < 1000000000000) (a m b : Nat) (d : Array α) (w : World) (hs : d0.size = d.size) (S : SWK enc k w0 blk off d w) (P : SymP lx t d a m b) (h1 : ¬ m - a = 1) (h2 : b - m = 1) :
    Calls Tryz.prog 136 #[.slice (some ⟨blk, off, none⟩) d.size cap, .int .i64 a, .int .i64 m, .int .i64 b, .func (.func g) #[] cb] w fun e w' => e = .returned (.tuple #[]) ∧ ∃ d', SWK enc k w0 blk off d' w' ∧ Merged lx d d' a b := by
  have hds0 : d0.size = d.size := hs
  obtain ⟨am, mb, bs⟩ : a < m ∧ m < b ∧ b ≤ d.size := ⟨P.am, P.mb, P.bs⟩
  have HP : Aside (SymP lx t d a m b) := P
  have HC : Aside (CmpLays Tryz.prog g cb enc k cf blk off d0.size w0) := hcmp
  have HO : Aside (Ord (ltOf cf) lx t) := O
  have S0 : Aside (SWK enc k w0 blk off d w) := S
  clear S P hcmp O
  have aE : ∀ w, (isAgg 32).run Tryz.prog w = .ok true w := fun w => by kernel_rfl
  have mixed : Tryz.prog.follows Departure.mixedOrders = true := by first | rfl | kernel_rfl
  have rma : IntKind.i64.wrap ((m : Int) - (a : Int)) = ((m - a : Nat) : Int) := by rw [IntKind.wrap_i64]; omega
  have rbm : IntKind.i64.wrap ((b : Int) - (m : Int)) = ((b - m : Nat) : Int) := by rw [IntKind.wrap_i64]; omega
  obtain ⟨u0, hu0⟩ : ∃ x, x = m - a := ⟨_, rfl⟩
  obtain ⟨v0, hv0⟩ : ∃ x, x = b - m := ⟨_, rfl⟩
  rw [← hu0] at rma
  rw [← hv0] at rbm
  have h1z : ¬ (u0 : Int) = 1 := by omega
  have h1b : ((u0 : Int) == 1) = false := by rw [beq_eq_false_iff_ne]; omega
  have h2z : (v0 : Int) = 1 := by omega
  have h2b : ((v0 : Int) == 1) = true := by rw [beq_iff_eq]; omega
  have HBM : Keep (b = m + 1) := ⟨by omega⟩
  have hmb1 : m + 1 ≤ b := by omega
  clear hu0 hv0
  go_enter Tryz.func136, Tryz.ntmps136
  go_wp2
  go_loopg [14, 15] (m - a) (fun kx s14 s15 wr => ∃ (i j : Nat), s14 = .int .i64 i ∧ s15 = .int .i64 j ∧ a ≤ i ∧ i ≤ j ∧ j ≤ m ∧ j - i ≤ kx ∧ Aside (SWK enc k w0 blk off d wr) ∧ Aside (SeaR lx d a m i j))
  case atStart => exact ⟨a, m, by go_num, by go_num, Nat.le_refl _, by omega, Nat.le_refl _, by omega, S0, SeaR.start (by omega)⟩
  case round =>
    clear S0
    obtain ⟨i, j, rfl, rfl, hmi, hij, hjb, hkx, S1, G1⟩ := hrel
    by_cases hlt : i < j
    · have hltz : (i : Int) < (j : Int) := by omega
      obtain ⟨h, hh0⟩ : ∃ x, x = (i + j) / 2 := ⟨_, rfl⟩
      have rdh : ((i : Int) + (j : Int)) / 2 = (h : Int) := by omega
      have hih : i ≤ h ∧ h < j := by omega
      obtain ⟨dk, hdk⟩ : ∃ x, x = d := ⟨_, rfl⟩
      have hdks : dk.size = d.size := by rw [hdk]
      rw [← hdk] at S1
      cases hL : ltOf cf dk[m]! dk[h]! with
      | true =>
        have G2 : Aside (SeaR lx d a m i h) := by
          have hbm := HBM.out
          subst hbm hdk
          exact SeaR.yes HO.out HP.out G1.out hih.1 hih.2 hL
        clear hh0
        have bx3 : ((m : Nat) : Int) < (d.size : Int) := by omega
        have by3 : ((h : Nat) : Int) < (d.size : Int) := by omega
        have hv3 : decide (cf dk[m]! dk[h]! < 0) = true := hL
        obtain ⟨x3, hx3⟩ : ∃ x, x = dk[m]! := ⟨_, rfl⟩
        obtain ⟨y3, hy3⟩ : ∃ x, x = dk[h]! := ⟨_, rfl⟩
        have la3 := S1.out.ld R (by omega) Tryz.prog (m) (by omega)
        have lb3 := S1.out.ld R (by omega) Tryz.prog (h) (by omega)
        rw [← hx3] at la3 hv3
        rw [← hy3] at lb3 hv3
        have hc3 := S1.out.cmp HC.out (by omega) x3 y3
        have hw3 : cf x3 y3 < 0 := of_decide_eq_true hv3
        clear hx3 hy3
        go_wp2_with fail
        go_quiet_grown (first | (go_at_fn g; refine Calls.grown_of (hc3 _ _)))
        have S2 : Aside (SWK enc k w0 blk off dk (grow (wr.drewN nq) osq)) := S1.out.grown nq osq
        clear la3 lb3 hc3 S1
        generalize grow (wr.drewN nq) osq = w2 at S2 ⊢
        clear nq osq
        rw [hdk] at S2
        go_wp2
        go_roundg (h - i)
        case measure => omega
        case rel => exact ⟨i, h, rfl, by go_num, hmi, by omega, by omega, Nat.le_refl _, S2, G2⟩
      | false =>
        have G2 : Aside (SeaR lx d a m (h + 1) j) := by
          have hbm := HBM.out
          subst hbm hdk
          exact SeaR.no HO.out HP.out G1.out hih.1 hih.2 hL
        clear hh0
        have bx4 : ((m : Nat) : Int) < (d.size : Int) := by omega
        have by4 : ((h : Nat) : Int) < (d.size : Int) := by omega
        have hv4 : decide (cf dk[m]! dk[h]! < 0) = false := hL
        obtain ⟨x4, hx4⟩ : ∃ x, x = dk[m]! := ⟨_, rfl⟩
        obtain ⟨y4, hy4⟩ : ∃ x, x = dk[h]! := ⟨_, rfl⟩
        have la4 := S1.out.ld R (by omega) Tryz.prog (m) (by omega)
        have lb4 := S1.out.ld R (by omega) Tryz.prog (h) (by omega)
        rw [← hx4] at la4 hv4
        rw [← hy4] at lb4 hv4
        have hc4 := S1.out.cmp HC.out (by omega) x4 y4
        have hw4 : ¬ cf x4 y4 < 0 := of_decide_eq_false hv4
        clear hx4 hy4
        go_wp2_with fail
        go_quiet_grown (first | (go_at_fn g; refine Calls.grown_of (hc4 _ _)))
        have S2 : Aside (SWK enc k w0 blk off dk (grow (wr.drewN nq) osq)) := S1.out.grown nq osq
        clear la4 lb4 hc4 S1
        generalize grow (wr.drewN nq) osq = w2 at S2 ⊢
        clear nq osq
        rw [hdk] at S2
        go_wp2
        go_roundg (j - (h + 1))
        case measure => omega
        case rel => exact ⟨h + 1, j, by go_num, rfl, by omega, by omega, hjb, Nat.le_refl _, S2, G2⟩
    · have hltz : ¬ (i : Int) < (j : Int) := by omega
      obtain rfl : i = j := by omega
      have S9 := S1
      clear S1
      go_wp2
      go_loopg [17] (m - i) (fun kx2 s17 wr => ∃ (q : Nat) (dk : Array α), s17 = .int .i64 q ∧ i ≤ q ∧ q ≤ m ∧ q - i ≤ kx2 ∧ Aside (SWK enc k w0 blk off dk wr) ∧ Aside (ShR d dk a m q))
      case atStart => exact ⟨m, d, by go_num, hjb, Nat.le_refl _, Nat.le_refl _, S9, ShR.start d a m⟩
      case round =>
        clear S9
        obtain ⟨q, dk, rfl, hiq, hqm, hkx2, S1, H1⟩ := hrel
        have hds : dk.size = d.size := H1.out.size
        by_cases hq : i < q
        · have hqz : (i : Int) < (q : Int) := by omega
          obtain ⟨y, hy⟩ : ∃ y, y = q - 1 := ⟨_, rfl⟩
          have ry : (q : Int) - 1 = (y : Int) := by omega
          have H2 : Aside (ShR d (swp dk q y) a m y) := by
            obtain rfl : q = y + 1 := by omega
            exact H1.out.step (by omega) (by omega) (by omega)
          have hyd : y < d.size ∧ q < d.size := by omega
          have hyi : y ≤ m ∧ i ≤ y ∧ y - i < q - i := by omega
          clear hy
          go_wp2_with fail
          have bx6 : ((q : Nat) : Int) < (d.size : Int) := by omega
          have by6 : ((y : Nat) : Int) < (d.size : Int) := by omega
          have S2 : Aside (SWK enc k w0 blk off (swp dk (q) (y)) ((wr.drew.setCells blk (off + (q) * k) (enc dk[y]!)).setCells blk (off + (y) * k) (enc dk[q]!))) := S1.out.swapped R (q) (y) (by omega) (by omega)
          have la6 := S1.out.ld1 R (by omega) Tryz.prog (q) (by omega)
          have lb6 := S1.out.ld1 R (by omega) Tryz.prog (y) (by omega)
          have sa6 := S1.out.st1 R (by omega) Tryz.prog (q) (by omega) dk[y]!
          have sb6 := S1.out.st2 R (by omega) Tryz.prog (q) (y) (by omega) (by omega) dk[y]! dk[q]!
          have na6 : (enc dk[q]!).length = k := R.hk _
          have nb6 : (enc dk[y]!).length = k := R.hk _
          generalize enc dk[q]! = cI6 at S2 la6 sb6 na6
          generalize enc dk[y]! = cJ6 at S2 lb6 sa6 sb6 nb6
          clear S1
          go_big_region_o
          clear la6 lb6 sa6 sb6
          generalize (wr.drew.setCells blk (off + (q) * k) cJ6).setCells blk (off + (y) * k) cI6 = w2 at S2 ⊢
          go_wp2
          go_roundg (y - i)
          case measure => omega
          case rel => exact ⟨y, swp dk q y, by go_num, hyi.2.1, hyi.1, Nat.le_refl _, S2, H2⟩
        · obtain rfl : q = i := by omega
          have hqz : ¬ (q : Int) < (q : Int) := by omega
          go_wp2
          (try simp only [Exit.inBlock, Exit.then]); refine bodyPost_ret (results_none rfl _ _ _) rfl ?_
          have hbm := HBM.out
          subst hbm
          exact ⟨rfl, dk, S1.out, ShR.done HP.out G1.out H1.out⟩
end Go.Proofs.YtplafpokgpolkaaGreatDoor
/- slices.symMergeCmpFunc over Members: the cut. -/
namespace Go.Proofs.YtplafpokgpolkaaGreatDoor
open Go.Shelf Go.RowKit Go.Lib Go.Sort
set_option maxHeartbeats 40000000 in
set_option maxRecDepth 1000000 in
theorem sym3_any {α : Type} [Inhabited α] (k : Nat) (zE : ∀ w, (Go.sizeOf 32).run Tryz.prog w = .ok k w) (enc : α → List Value) (g : Nat) (cb : Array Value) (blk off cap : Nat) (cf : α → α → Int) (lx : α → α → Bool) (t : α → Nat) (O : Ord (ltOf cf) lx t) (d0 : Array α) (w0 : World) (R : RowK enc k w0 blk off d0) (hcmp : CmpLays Tryz.prog g cb enc k cf blk off d0.size w0) (eg : ∀ args w, (callFunc g args).run Tryz.prog w = .ok (.enter g args) w) (hsz : d0.size < 1000000000000) (a m b : Nat) (d : Array α) (w : World) (hs : d0.size = d.size) (S : SWK enc k w0 blk off d w) (P : SymP lx t d a m b) (h1 : ¬ m - a = 1) (h2 : ¬ b - m = 1) (HIH : Keep (∀ (a' m' b' : Nat) (d' : Array α) (w' : World), b' - a' < b - a → d0.size = d'.size → SWK enc k w0 blk off d' w' → SymP lx t d' a' m' b' → Calls Tryz.prog 136 #[.slice (some ⟨blk, off, none⟩) d'.size cap, .int .i64 a', .int .i64 m', .int .i64 b', .func (.func g) #[] cb] w' fun e w1 => e = .returned (.tuple #[]) ∧ ∃ d1, SWK enc k w0 blk off d1 w1 ∧ Merged lx d' d1 a' b')) :
    Calls Tryz.prog 136 #[.slice (some ⟨blk, off, none⟩) d.size cap, .int .i64 a, .int .i64 m, .int .i64 b, .func (.func g) #[] cb] w fun e w' => e = .returned (.tuple #[]) ∧ ∃ d', SWK enc k w0 blk off d' w' ∧ Merged lx d d' a b := by
  have hds0 : d0.size = d.size := hs
  obtain ⟨am, mb, bs⟩ : a < m ∧ m < b ∧ b ≤ d.size := ⟨P.am, P.mb, P.bs⟩
  have HP : Aside (SymP lx t d a m b) := P
  have HC : Aside (CmpLays Tryz.prog g cb enc k cf blk off d0.size w0) := hcmp
  have HO : Aside (Ord (ltOf cf) lx t) := O
  have S0 : Aside (SWK enc k w0 blk off d w) := S
  clear S P hcmp O
  have aE : ∀ w, (isAgg 32).run Tryz.prog w = .ok true w := fun w => by kernel_rfl
  have mixed : Tryz.prog.follows Departure.mixedOrders = true := by first | rfl | kernel_rfl
  have rma : IntKind.i64.wrap ((m : Int) - (a : Int)) = ((m - a : Nat) : Int) := by rw [IntKind.wrap_i64]; omega
  have rbm : IntKind.i64.wrap ((b : Int) - (m : Int)) = ((b - m : Nat) : Int) := by rw [IntKind.wrap_i64]; omega
  obtain ⟨u0, hu0⟩ : ∃ x, x = m - a := ⟨_, rfl⟩
  obtain ⟨v0, hv0⟩ : ∃ x, x = b - m := ⟨_, rfl⟩
  rw [← hu0] at rma
  rw [← hv0] at rbm
  have h1z : ¬ (u0 : Int) = 1 := by omega
  have h1b : ((u0 : Int) == 1) = false := by rw [beq_eq_false_iff_ne]; omega
  have h2z : ¬ (v0 : Int) = 1 := by omega
  have h2b : ((v0 : Int) == 1) = false := by rw [beq_eq_false_iff_ne]; omega
  clear hu0 hv0
  obtain ⟨mid, hmid0⟩ : ∃ x, x = (a + b) / 2 := ⟨_, rfl⟩
  have rdmid : ((a : Int) + (b : Int)) / 2 = (mid : Int) := by omega
  obtain ⟨nn, hnn⟩ : ∃ x, x = mid + m := ⟨_, rfl⟩
  have rnn : (mid : Int) + (m : Int) = (nn : Int) := by omega
  obtain ⟨p, hp⟩ : ∃ x, x = nn - 1 := ⟨_, rfl⟩
  have rp : (nn : Int) - 1 = (p : Int) := by omega
  by_cases hmm : mid < m
  · have hmz : (mid : Int) < (m : Int) := by omega
    obtain ⟨s0, hs0⟩ : ∃ x, x = nn - b := ⟨_, rfl⟩
    have rs0 : (nn : Int) - (b : Int) = (s0 : Int) := by omega
    have B : Aside (CutB a m b mid p s0 mid) := ⟨by omega, by omega, by rw [if_pos hmm]; omega, by rw [if_pos hmm]⟩
    have fs0 : s0 + b ≤ nn ∧ nn ≤ s0 + b := by omega
    have fmid : 2 * mid ≤ a + b ∧ a + b ≤ 2 * mid + 1 := by omega
    have fnn : nn ≤ mid + m ∧ mid + m ≤ nn := by omega
    have fp : p + 1 ≤ nn ∧ nn ≤ p + 1 := by omega
    clear hs0 hmid0 hnn hp
    go_enter Tryz.func136, Tryz.ntmps136
    go_wp2
    obtain ⟨b1, b2, b3, b4, b5, b6, b7⟩ := B.out.bnd am mb
    go_loopg [20, 21] (mid - s0) (fun kx s20 s21 wr => ∃ (i j : Nat), s20 = .int .i64 i ∧ s21 = .int .i64 j ∧ s0 ≤ i ∧ i ≤ j ∧ j ≤ mid ∧ j - i ≤ kx ∧ Aside (SWK enc k w0 blk off d wr) ∧ Aside (SeaC lx d p s0 mid i j))
    case atStart => exact ⟨s0, mid, by go_num, by go_num, Nat.le_refl _, b2, Nat.le_refl _, Nat.le_refl _, S0, SeaC.start b2⟩
    case round =>
      clear S0
      obtain ⟨i, j, rfl, rfl, hmi, hij, hjb, hkx, S1, G1⟩ := hrel
      by_cases hlt : i < j
      · have hltz : (i : Int) < (j : Int) := by omega
        obtain ⟨c, hc0⟩ : ∃ x, x = (i + j) / 2 := ⟨_, rfl⟩
        have rdc : ((i : Int) + (j : Int)) / 2 = (c : Int) := by omega
        have hih : i ≤ c ∧ c < j := by omega
        have hb4 := b4 c (by omega) (by omega)
        obtain ⟨q, hq⟩ : ∃ x, x = p - c := ⟨_, rfl⟩
        have rq : (p : Int) - (c : Int) = (q : Int) := by omega
        have rqw : IntKind.i64.wrap (q : Int) = (q : Int) := by rw [IntKind.wrap_i64]; omega
        have hqd : q < d.size := by omega
        have rqn : p - c = q := hq.symm
        have B4 := Keep.keep b4
        clear b4
        obtain ⟨dk, hdk⟩ : ∃ x, x = d := ⟨_, rfl⟩
        have hdks : dk.size = d.size := by rw [hdk]
        rw [← hdk] at S1
        cases hL : ltOf cf dk[q]! dk[c]! with
        | true =>
          have G2 : Aside (SeaC lx d p s0 mid i c) := by
            rw [hq] at hL
            subst hdk
            exact SeaC.yes HO.out HP.out B.out G1.out hih.1 hih.2 hL
          clear hc0 hq hb4
          have bx7 : ((q : Nat) : Int) < (d.size : Int) := by omega
          have by7 : ((c : Nat) : Int) < (d.size : Int) := by omega
          have hv7 : decide (cf dk[q]! dk[c]! < 0) = true := hL
          obtain ⟨x7, hx7⟩ : ∃ x, x = dk[q]! := ⟨_, rfl⟩
          obtain ⟨y7, hy7⟩ : ∃ x, x = dk[c]! := ⟨_, rfl⟩
          have la7 := S1.out.ld R (by omega) Tryz.prog (q) (by omega)
          have lb7 := S1.out.ld R (by omega) Tryz.prog (c) (by omega)
          rw [← hx7] at la7 hv7
          rw [← hy7] at lb7 hv7
          have hc7 := S1.out.cmp HC.out (by omega) x7 y7
          have hw7 : cf x7 y7 < 0 := of_decide_eq_true hv7
          clear hx7 hy7
          go_wp2_with fail
          go_quiet_grown (first | (go_at_fn g; refine Calls.grown_of (hc7 _ _)))
          have S2 : Aside (SWK enc k w0 blk off dk (grow (wr.drewN nq) osq)) := S1.out.grown nq osq
          clear la7 lb7 hc7 S1
          generalize grow (wr.drewN nq) osq = w2 at S2 ⊢
          clear nq osq
          rw [hdk] at S2
          go_wp2
          go_roundg (c - i)
          case measure => omega
          case rel => exact ⟨i, c, rfl, by go_num, hmi, by omega, by omega, Nat.le_refl _, S2, G2⟩
        | false =>
          have G2 : Aside (SeaC lx d p s0 mid (c + 1) j) := by
            rw [hq] at hL
            subst hdk
            exact SeaC.no HO.out HP.out B.out G1.out hih.1 hih.2 hL
          clear hc0 hq hb4
          have bx8 : ((q : Nat) : Int) < (d.size : Int) := by omega
          have by8 : ((c : Nat) : Int) < (d.size : Int) := by omega
          have hv8 : decide (cf dk[q]! dk[c]! < 0) = false := hL
          obtain ⟨x8, hx8⟩ : ∃ x, x = dk[q]! := ⟨_, rfl⟩
          obtain ⟨y8, hy8⟩ : ∃ x, x = dk[c]! := ⟨_, rfl⟩
          have la8 := S1.out.ld R (by omega) Tryz.prog (q) (by omega)
          have lb8 := S1.out.ld R (by omega) Tryz.prog (c) (by omega)
          rw [← hx8] at la8 hv8
          rw [← hy8] at lb8 hv8
          have hc8 := S1.out.cmp HC.out (by omega) x8 y8
          have hw8 : ¬ cf x8 y8 < 0 := of_decide_eq_false hv8
          clear hx8 hy8
          go_wp2_with fail
          go_quiet_grown (first | (go_at_fn g; refine Calls.grown_of (hc8 _ _)))
          have S2 : Aside (SWK enc k w0 blk off dk (grow (wr.drewN nq) osq)) := S1.out.grown nq osq
          clear la8 lb8 hc8 S1
          generalize grow (wr.drewN nq) osq = w2 at S2 ⊢
          clear nq osq
          rw [hdk] at S2
          go_wp2
          go_roundg (j - (c + 1))
          case measure => omega
          case rel => exact ⟨c + 1, j, by go_num, rfl, by omega, by omega, hjb, Nat.le_refl _, S2, G2⟩
      · have hltz : ¬ (i : Int) < (j : Int) := by omega
        obtain rfl : i = j := by omega
        obtain ⟨s, hse⟩ : ∃ x, x = i := ⟨_, rfl⟩
        rw [← hse] at hmi hjb G1 ⊢
        clear hse hltz hlt hij
        obtain ⟨e, he⟩ : ∃ x, x = mid + m - s := ⟨_, rfl⟩
        have re : (nn : Int) - (s : Int) = (e : Int) := by omega
        have rew : IntKind.i64.wrap (e : Int) = (e : Int) := by rw [IntKind.wrap_i64]; omega
        have hbe : a ≤ s ∧ s ≤ m ∧ m ≤ e ∧ e ≤ b ∧ s ≤ mid ∧ mid ≤ e := by omega
        have HE : Keep (e = mid + m - s) := ⟨he⟩
        have fe : e + s ≤ mid + m ∧ mid + m ≤ e + s := by omega
        clear he
        by_cases hA : s < m
        · have hM : (mid < e) := by omega
          have zA : ((s : Int) < (m : Int)) := by omega
          have zM : ((mid : Int) < (e : Int)) := by omega
          by_cases hB : s < mid
          · have hN1 : (m < e) := by omega
            have zB : ((s : Int) < (mid : Int)) := by omega
            have zN : ((m : Int) < (e : Int)) := by omega
            by_cases hC : a < s
            · have zC : ((a : Int) < (s : Int)) := by omega
              by_cases hE : e < b
              · have zE1 : ((e : Int) < (b : Int)) := by omega
                have HR : Keep (∀ d1, (∀ q, at' d1 q = at' d (rotX s m e q)) → PermIn a b d d1 → SymH lx t d d1 a mid b s e) := ⟨fun d1 hq hp => by rw [HE.out] at hq ⊢; exact SymH.of HO.out HP.out B.out G1.out hq hp⟩
                have hc1 := Keep.keep (rot_any k zE enc g cb blk off cap s m e d0 d w0 wr R hds0 S1.out hA (by omega) (by omega) (by omega))
                go_wp2_with fail
                refine (hc1.out).mono ?_
                rintro e1 w1 ⟨rfl, d1, S2', H1⟩
                have S2 : Aside (SWK enc k w0 blk off d1 w1) := S2'
                have HS : Keep (SymH lx t d d1 a mid b s e) := ⟨HR.out d1 H1.at_ (perm_in H1.perm (by omega) (by omega) bs)⟩
                have hd1 : d1.size = d.size := H1.size
                clear S2' H1 S1
                have hc2 := Keep.keep (HIH.out a s mid d1 w1 (by omega) (by omega) S2.out (HS.out.first hC hB))
                rw [hd1] at hc2
                go_wp2_with fail
                refine (hc2.out).mono ?_
                rintro e2 w2 ⟨rfl, d2, S3', M1'⟩
                have S3 : Aside (SWK enc k w0 blk off d2 w2) := S3'
                have M1 : Keep (Merged lx d1 d2 a mid) := ⟨M1'⟩
                have hd2 : d2.size = d.size := M1'.1.1.trans hd1
                clear S3' M1' S2
                have hc3 := Keep.keep (HIH.out mid e b d2 w2 (by omega) (by omega) S3.out (HS.out.second M1.out hM hE))
                rw [hd2] at hc3
                go_wp2_with fail
                refine (hc3.out).mono ?_
                rintro e3 w3 ⟨rfl, d3, S4, M2⟩
                go_wp2
                go_end0
                exact ⟨rfl, d3, S4, HS.out.done M1.out M2⟩
              · have zE1n : ¬ ((e : Int) < (b : Int)) := by omega
                have HR : Keep (∀ d1, (∀ q, at' d1 q = at' d (rotX s m e q)) → PermIn a b d d1 → SymH lx t d d1 a mid b s e) := ⟨fun d1 hq hp => by rw [HE.out] at hq ⊢; exact SymH.of HO.out HP.out B.out G1.out hq hp⟩
                have hc1 := Keep.keep (rot_any k zE enc g cb blk off cap s m e d0 d w0 wr R hds0 S1.out hA (by omega) (by omega) (by omega))
                go_wp2_with fail
                refine (hc1.out).mono ?_
                rintro e1 w1 ⟨rfl, d1, S2', H1⟩
                have S2 : Aside (SWK enc k w0 blk off d1 w1) := S2'
                have HS : Keep (SymH lx t d d1 a mid b s e) := ⟨HR.out d1 H1.at_ (perm_in H1.perm (by omega) (by omega) bs)⟩
                have hd1 : d1.size = d.size := H1.size
                clear S2' H1 S1
                have hc2 := Keep.keep (HIH.out a s mid d1 w1 (by omega) (by omega) S2.out (HS.out.first hC hB))
                rw [hd1] at hc2
                go_wp2_with fail
                refine (hc2.out).mono ?_
                rintro e2 w2 ⟨rfl, d2, S3', M1'⟩
                have S3 : Aside (SWK enc k w0 blk off d2 w2) := S3'
                have M1 : Keep (Merged lx d1 d2 a mid) := ⟨M1'⟩
                have hd2 : d2.size = d.size := M1'.1.1.trans hd1
                clear S3' M1' S2
                go_wp2
                go_end0
                exact ⟨rfl, d2, S3.out, HS.out.done M1.out (HS.out.nosecond M1.out (by omega))⟩
            · have zCn : ¬ ((a : Int) < (s : Int)) := by omega
              by_cases hE : e < b
              · have zE1 : ((e : Int) < (b : Int)) := by omega
                have HR : Keep (∀ d1, (∀ q, at' d1 q = at' d (rotX s m e q)) → PermIn a b d d1 → SymH lx t d d1 a mid b s e) := ⟨fun d1 hq hp => by rw [HE.out] at hq ⊢; exact SymH.of HO.out HP.out B.out G1.out hq hp⟩
                have hc1 := Keep.keep (rot_any k zE enc g cb blk off cap s m e d0 d w0 wr R hds0 S1.out hA (by omega) (by omega) (by omega))
                go_wp2_with fail
                refine (hc1.out).mono ?_
                rintro e1 w1 ⟨rfl, d1, S2', H1⟩
                have S2 : Aside (SWK enc k w0 blk off d1 w1) := S2'
                have HS : Keep (SymH lx t d d1 a mid b s e) := ⟨HR.out d1 H1.at_ (perm_in H1.perm (by omega) (by omega) bs)⟩
                have hd1 : d1.size = d.size := H1.size
                clear S2' H1 S1
                obtain ⟨d2, hd2e⟩ : ∃ x, x = d1 := ⟨_, rfl⟩
                have M1 : Keep (Merged lx d1 d2 a mid) := ⟨by rw [hd2e]; exact HS.out.nofirst (by omega)⟩
                have hd2 : d2.size = d.size := by rw [hd2e]; exact hd1
                have S3 : Aside (SWK enc k w0 blk off d2 w1) := by rw [hd2e]; exact S2
                clear S2 hd2e
                generalize hw2 : w1 = w2 at S3 ⊢
                clear hw2
                have hc3 := Keep.keep (HIH.out mid e b d2 w2 (by omega) (by omega) S3.out (HS.out.second M1.out hM hE))
                rw [hd2] at hc3
                go_wp2_with fail
                refine (hc3.out).mono ?_
                rintro e3 w3 ⟨rfl, d3, S4, M2⟩
                go_wp2
                go_end0
                exact ⟨rfl, d3, S4, HS.out.done M1.out M2⟩
              · have zE1n : ¬ ((e : Int) < (b : Int)) := by omega
                have HR : Keep (∀ d1, (∀ q, at' d1 q = at' d (rotX s m e q)) → PermIn a b d d1 → SymH lx t d d1 a mid b s e) := ⟨fun d1 hq hp => by rw [HE.out] at hq ⊢; exact SymH.of HO.out HP.out B.out G1.out hq hp⟩
                have hc1 := Keep.keep (rot_any k zE enc g cb blk off cap s m e d0 d w0 wr R hds0 S1.out hA (by omega) (by omega) (by omega))
                go_wp2_with fail
                refine (hc1.out).mono ?_
                rintro e1 w1 ⟨rfl, d1, S2', H1⟩
                have S2 : Aside (SWK enc k w0 blk off d1 w1) := S2'
                have HS : Keep (SymH lx t d d1 a mid b s e) := ⟨HR.out d1 H1.at_ (perm_in H1.perm (by omega) (by omega) bs)⟩
                have hd1 : d1.size = d.size := H1.size
                clear S2' H1 S1
                obtain ⟨d2, hd2e⟩ : ∃ x, x = d1 := ⟨_, rfl⟩
                have M1 : Keep (Merged lx d1 d2 a mid) := ⟨by rw [hd2e]; exact HS.out.nofirst (by omega)⟩
                have hd2 : d2.size = d.size := by rw [hd2e]; exact hd1
                have S3 : Aside (SWK enc k w0 blk off d2 w1) := by rw [hd2e]; exact S2
                clear S2 hd2e
                generalize hw2 : w1 = w2 at S3 ⊢
                clear hw2
                go_wp2
                go_end0
                exact ⟨rfl, d2, S3.out, HS.out.done M1.out (HS.out.nosecond M1.out (by omega))⟩
          · have hN1n : ¬ (m < e) := by omega
            have zBn : ¬ ((s : Int) < (mid : Int)) := by omega
            have zNn : ¬ ((m : Int) < (e : Int)) := by omega
            by_cases hC : a < s
            · have zC : ((a : Int) < (s : Int)) := by omega
              by_cases hE : e < b
              · have zE1 : ((e : Int) < (b : Int)) := by omega
                have HR : Keep (∀ d1, (∀ q, at' d1 q = at' d (rotX s m e q)) → PermIn a b d d1 → SymH lx t d d1 a mid b s e) := ⟨fun d1 hq hp => by rw [HE.out] at hq ⊢; exact SymH.of HO.out HP.out B.out G1.out hq hp⟩
                obtain ⟨d1, hd1e⟩ : ∃ x, x = d := ⟨_, rfl⟩
                have HS : Keep (SymH lx t d d1 a mid b s e) := ⟨HR.out d1 (fun q => by rw [hd1e, rotX_none (by omega) (by omega) (by omega)]) (by rw [hd1e]; exact permIn_refl _ _ _)⟩
                have hd1 : d1.size = d.size := by rw [hd1e]
                have S2 : Aside (SWK enc k w0 blk off d1 wr) := by rw [hd1e]; exact S1
                clear S1 hd1e
                generalize hw1 : wr = w1 at S2 ⊢
                clear hw1
                obtain ⟨d2, hd2e⟩ : ∃ x, x = d1 := ⟨_, rfl⟩
                have M1 : Keep (Merged lx d1 d2 a mid) := ⟨by rw [hd2e]; exact HS.out.nofirst (by omega)⟩
                have hd2 : d2.size = d.size := by rw [hd2e]; exact hd1
                have S3 : Aside (SWK enc k w0 blk off d2 w1) := by rw [hd2e]; exact S2
                clear S2 hd2e
                generalize hw2 : w1 = w2 at S3 ⊢
                clear hw2
                have hc3 := Keep.keep (HIH.out mid e b d2 w2 (by omega) (by omega) S3.out (HS.out.second M1.out hM hE))
                rw [hd2] at hc3
                go_wp2_with fail
                refine (hc3.out).mono ?_
                rintro e3 w3 ⟨rfl, d3, S4, M2⟩
                go_wp2
                go_end0
                exact ⟨rfl, d3, S4, HS.out.done M1.out M2⟩
              · have zE1n : ¬ ((e : Int) < (b : Int)) := by omega
                have HR : Keep (∀ d1, (∀ q, at' d1 q = at' d (rotX s m e q)) → PermIn a b d d1 → SymH lx t d d1 a mid b s e) := ⟨fun d1 hq hp => by rw [HE.out] at hq ⊢; exact SymH.of HO.out HP.out B.out G1.out hq hp⟩
                obtain ⟨d1, hd1e⟩ : ∃ x, x = d := ⟨_, rfl⟩
                have HS : Keep (SymH lx t d d1 a mid b s e) := ⟨HR.out d1 (fun q => by rw [hd1e, rotX_none (by omega) (by omega) (by omega)]) (by rw [hd1e]; exact permIn_refl _ _ _)⟩
                have hd1 : d1.size = d.size := by rw [hd1e]
                have S2 : Aside (SWK enc k w0 blk off d1 wr) := by rw [hd1e]; exact S1
                clear S1 hd1e
                generalize hw1 : wr = w1 at S2 ⊢
                clear hw1
                obtain ⟨d2, hd2e⟩ : ∃ x, x = d1 := ⟨_, rfl⟩
                have M1 : Keep (Merged lx d1 d2 a mid) := ⟨by rw [hd2e]; exact HS.out.nofirst (by omega)⟩
                have hd2 : d2.size = d.size := by rw [hd2e]; exact hd1
                have S3 : Aside (SWK enc k w0 blk off d2 w1) := by rw [hd2e]; exact S2
                clear S2 hd2e
                generalize hw2 : w1 = w2 at S3 ⊢
                clear hw2
                go_wp2
                go_end0
                exact ⟨rfl, d2, S3.out, HS.out.done M1.out (HS.out.nosecond M1.out (by omega))⟩
            · have zCn : ¬ ((a : Int) < (s : Int)) := by omega
              by_cases hE : e < b
              · have zE1 : ((e : Int) < (b : Int)) := by omega
                have HR : Keep (∀ d1, (∀ q, at' d1 q = at' d (rotX s m e q)) → PermIn a b d d1 → SymH lx t d d1 a mid b s e) := ⟨fun d1 hq hp => by rw [HE.out] at hq ⊢; exact SymH.of HO.out HP.out B.out G1.out hq hp⟩
                obtain ⟨d1, hd1e⟩ : ∃ x, x = d := ⟨_, rfl⟩
                have HS : Keep (SymH lx t d d1 a mid b s e) := ⟨HR.out d1 (fun q => by rw [hd1e, rotX_none (by omega) (by omega) (by omega)]) (by rw [hd1e]; exact permIn_refl _ _ _)⟩
                have hd1 : d1.size = d.size := by rw [hd1e]
                have S2 : Aside (SWK enc k w0 blk off d1 wr) := by rw [hd1e]; exact S1
                clear S1 hd1e
                generalize hw1 : wr = w1 at S2 ⊢
                clear hw1
                obtain ⟨d2, hd2e⟩ : ∃ x, x = d1 := ⟨_, rfl⟩
                have M1 : Keep (Merged lx d1 d2 a mid) := ⟨by rw [hd2e]; exact HS.out.nofirst (by omega)⟩
                have hd2 : d2.size = d.size := by rw [hd2e]; exact hd1
                have S3 : Aside (SWK enc k w0 blk off d2 w1) := by rw [hd2e]; exact S2
                clear S2 hd2e
                generalize hw2 : w1 = w2 at S3 ⊢
                clear hw2
                have hc3 := Keep.keep (HIH.out mid e b d2 w2 (by omega) (by omega) S3.out (HS.out.second M1.out hM hE))
                rw [hd2] at hc3
                go_wp2_with fail
                refine (hc3.out).mono ?_
                rintro e3 w3 ⟨rfl, d3, S4, M2⟩
                go_wp2
                go_end0
                exact ⟨rfl, d3, S4, HS.out.done M1.out M2⟩
              · have zE1n : ¬ ((e : Int) < (b : Int)) := by omega
                have HR : Keep (∀ d1, (∀ q, at' d1 q = at' d (rotX s m e q)) → PermIn a b d d1 → SymH lx t d d1 a mid b s e) := ⟨fun d1 hq hp => by rw [HE.out] at hq ⊢; exact SymH.of HO.out HP.out B.out G1.out hq hp⟩
                obtain ⟨d1, hd1e⟩ : ∃ x, x = d := ⟨_, rfl⟩
                have HS : Keep (SymH lx t d d1 a mid b s e) := ⟨HR.out d1 (fun q => by rw [hd1e, rotX_none (by omega) (by omega) (by omega)]) (by rw [hd1e]; exact permIn_refl _ _ _)⟩
                have hd1 : d1.size = d.size := by rw [hd1e]
                have S2 : Aside (SWK enc k w0 blk off d1 wr) := by rw [hd1e]; exact S1
                clear S1 hd1e
                generalize hw1 : wr = w1 at S2 ⊢
                clear hw1
                obtain ⟨d2, hd2e⟩ : ∃ x, x = d1 := ⟨_, rfl⟩
                have M1 : Keep (Merged lx d1 d2 a mid) := ⟨by rw [hd2e]; exact HS.out.nofirst (by omega)⟩
                have hd2 : d2.size = d.size := by rw [hd2e]; exact hd1
                have S3 : Aside (SWK enc k w0 blk off d2 w1) := by rw [hd2e]; exact S2
                clear S2 hd2e
                generalize hw2 : w1 = w2 at S3 ⊢
                clear hw2
                go_wp2
                go_end0
                exact ⟨rfl, d2, S3.out, HS.out.done M1.out (HS.out.nosecond M1.out (by omega))⟩
        · have hMn : ¬ (mid < e) := by omega
          have zAn : ¬ ((s : Int) < (m : Int)) := by omega
          have zMn : ¬ ((mid : Int) < (e : Int)) := by omega
          by_cases hB : s < mid
          · have hN1 : (m < e) := by omega
            have zB : ((s : Int) < (mid : Int)) := by omega
            have zN : ((m : Int) < (e : Int)) := by omega
            by_cases hC : a < s
            · have zC : ((a : Int) < (s : Int)) := by omega
              by_cases hE : e < b
              · have zE1 : ((e : Int) < (b : Int)) := by omega
                have HR : Keep (∀ d1, (∀ q, at' d1 q = at' d (rotX s m e q)) → PermIn a b d d1 → SymH lx t d d1 a mid b s e) := ⟨fun d1 hq hp => by rw [HE.out] at hq ⊢; exact SymH.of HO.out HP.out B.out G1.out hq hp⟩
                obtain ⟨d1, hd1e⟩ : ∃ x, x = d := ⟨_, rfl⟩
                have HS : Keep (SymH lx t d d1 a mid b s e) := ⟨HR.out d1 (fun q => by rw [hd1e, rotX_none (by omega) (by omega) (by omega)]) (by rw [hd1e]; exact permIn_refl _ _ _)⟩
                have hd1 : d1.size = d.size := by rw [hd1e]
                have S2 : Aside (SWK enc k w0 blk off d1 wr) := by rw [hd1e]; exact S1
                clear S1 hd1e
                generalize hw1 : wr = w1 at S2 ⊢
                clear hw1
                have hc2 := Keep.keep (HIH.out a s mid d1 w1 (by omega) (by omega) S2.out (HS.out.first hC hB))
                rw [hd1] at hc2
                go_wp2_with fail
                refine (hc2.out).mono ?_
                rintro e2 w2 ⟨rfl, d2, S3', M1'⟩
                have S3 : Aside (SWK enc k w0 blk off d2 w2) := S3'
                have M1 : Keep (Merged lx d1 d2 a mid) := ⟨M1'⟩
                have hd2 : d2.size = d.size := M1'.1.1.trans hd1
                clear S3' M1' S2
                go_wp2
                go_end0
                exact ⟨rfl, d2, S3.out, HS.out.done M1.out (HS.out.nosecond M1.out (by omega))⟩
              · have zE1n : ¬ ((e : Int) < (b : Int)) := by omega
                have HR : Keep (∀ d1, (∀ q, at' d1 q = at' d (rotX s m e q)) → PermIn a b d d1 → SymH lx t d d1 a mid b s e) := ⟨fun d1 hq hp => by rw [HE.out] at hq ⊢; exact SymH.of HO.out HP.out B.out G1.out hq hp⟩
                obtain ⟨d1, hd1e⟩ : ∃ x, x = d := ⟨_, rfl⟩
                have HS : Keep (SymH lx t d d1 a mid b s e) := ⟨HR.out d1 (fun q => by rw [hd1e, rotX_none (by omega) (by omega) (by omega)]) (by rw [hd1e]; exact permIn_refl _ _ _)⟩
                have hd1 : d1.size = d.size := by rw [hd1e]
                have S2 : Aside (SWK enc k w0 blk off d1 wr) := by rw [hd1e]; exact S1
                clear S1 hd1e
                generalize hw1 : wr = w1 at S2 ⊢
                clear hw1
                have hc2 := Keep.keep (HIH.out a s mid d1 w1 (by omega) (by omega) S2.out (HS.out.first hC hB))
                rw [hd1] at hc2
                go_wp2_with fail
                refine (hc2.out).mono ?_
                rintro e2 w2 ⟨rfl, d2, S3', M1'⟩
                have S3 : Aside (SWK enc k w0 blk off d2 w2) := S3'
                have M1 : Keep (Merged lx d1 d2 a mid) := ⟨M1'⟩
                have hd2 : d2.size = d.size := M1'.1.1.trans hd1
                clear S3' M1' S2
                go_wp2
                go_end0
                exact ⟨rfl, d2, S3.out, HS.out.done M1.out (HS.out.nosecond M1.out (by omega))⟩
            · have zCn : ¬ ((a : Int) < (s : Int)) := by omega
              by_cases hE : e < b
              · have zE1 : ((e : Int) < (b : Int)) := by omega
                have HR : Keep (∀ d1, (∀ q, at' d1 q = at' d (rotX s m e q)) → PermIn a b d d1 → SymH lx t d d1 a mid b s e) := ⟨fun d1 hq hp => by rw [HE.out] at hq ⊢; exact SymH.of HO.out HP.out B.out G1.out hq hp⟩
                obtain ⟨d1, hd1e⟩ : ∃ x, x = d := ⟨_, rfl⟩
                have HS : Keep (SymH lx t d d1 a mid b s e) := ⟨HR.out d1 (fun q => by rw [hd1e, rotX_none (by omega) (by omega) (by omega)]) (by rw [hd1e]; exact permIn_refl _ _ _)⟩
                have hd1 : d1.size = d.size := by rw [hd1e]
                have S2 : Aside (SWK enc k w0 blk off d1 wr) := by rw [hd1e]; exact S1
                clear S1 hd1e
                generalize hw1 : wr = w1 at S2 ⊢
                clear hw1
                obtain ⟨d2, hd2e⟩ : ∃ x, x = d1 := ⟨_, rfl⟩
                have M1 : Keep (Merged lx d1 d2 a mid) := ⟨by rw [hd2e]; exact HS.out.nofirst (by omega)⟩
                have hd2 : d2.size = d.size := by rw [hd2e]; exact hd1
                have S3 : Aside (SWK enc k w0 blk off d2 w1) := by rw [hd2e]; exact S2
                clear S2 hd2e
                generalize hw2 : w1 = w2 at S3 ⊢
                clear hw2
                go_wp2
                go_end0
                exact ⟨rfl, d2, S3.out, HS.out.done M1.out (HS.out.nosecond M1.out (by omega))⟩
              · have zE1n : ¬ ((e : Int) < (b : Int)) := by omega
                have HR : Keep (∀ d1, (∀ q, at' d1 q = at' d (rotX s m e q)) → PermIn a b d d1 → SymH lx t d d1 a mid b s e) := ⟨fun d1 hq hp => by rw [HE.out] at hq ⊢; exact SymH.of HO.out HP.out B.out G1.out hq hp⟩
                obtain ⟨d1, hd1e⟩ : ∃ x, x = d := ⟨_, rfl⟩
                have HS : Keep (SymH lx t d d1 a mid b s e) := ⟨HR.out d1 (fun q => by rw [hd1e, rotX_none (by omega) (by omega) (by omega)]) (by rw [hd1e]; exact permIn_refl _ _ _)⟩
                have hd1 : d1.size = d.size := by rw [hd1e]
                have S2 : Aside (SWK enc k w0 blk off d1 wr) := by rw [hd1e]; exact S1
                clear S1 hd1e
                generalize hw1 : wr = w1 at S2 ⊢
                clear hw1
                obtain ⟨d2, hd2e⟩ : ∃ x, x = d1 := ⟨_, rfl⟩
                have M1 : Keep (Merged lx d1 d2 a mid) := ⟨by rw [hd2e]; exact HS.out.nofirst (by omega)⟩
                have hd2 : d2.size = d.size := by rw [hd2e]; exact hd1
                have S3 : Aside (SWK enc k w0 blk off d2 w1) := by rw [hd2e]; exact S2
                clear S2 hd2e
                generalize hw2 : w1 = w2 at S3 ⊢
                clear hw2
                go_wp2
                go_end0
                exact ⟨rfl, d2, S3.out, HS.out.done M1.out (HS.out.nosecond M1.out (by omega))⟩
          · have hN1n : ¬ (m < e) := by omega
            have zBn : ¬ ((s : Int) < (mid : Int)) := by omega
            have zNn : ¬ ((m : Int) < (e : Int)) := by omega
            by_cases hC : a < s
            · have zC : ((a : Int) < (s : Int)) := by omega
              by_cases hE : e < b
              · have zE1 : ((e : Int) < (b : Int)) := by omega
                have HR : Keep (∀ d1, (∀ q, at' d1 q = at' d (rotX s m e q)) → PermIn a b d d1 → SymH lx t d d1 a mid b s e) := ⟨fun d1 hq hp => by rw [HE.out] at hq ⊢; exact SymH.of HO.out HP.out B.out G1.out hq hp⟩
                obtain ⟨d1, hd1e⟩ : ∃ x, x = d := ⟨_, rfl⟩
                have HS : Keep (SymH lx t d d1 a mid b s e) := ⟨HR.out d1 (fun q => by rw [hd1e, rotX_none (by omega) (by omega) (by omega)]) (by rw [hd1e]; exact permIn_refl _ _ _)⟩
                have hd1 : d1.size = d.size := by rw [hd1e]
                have S2 : Aside (SWK enc k w0 blk off d1 wr) := by rw [hd1e]; exact S1
                clear S1 hd1e
                generalize hw1 : wr = w1 at S2 ⊢
                clear hw1
                obtain ⟨d2, hd2e⟩ : ∃ x, x = d1 := ⟨_, rfl⟩
                have M1 : Keep (Merged lx d1 d2 a mid) := ⟨by rw [hd2e]; exact HS.out.nofirst (by omega)⟩
                have hd2 : d2.size = d.size := by rw [hd2e]; exact hd1
                have S3 : Aside (SWK enc k w0 blk off d2 w1) := by rw [hd2e]; exact S2
                clear S2 hd2e
                generalize hw2 : w1 = w2 at S3 ⊢
                clear hw2
                go_wp2
                go_end0
                exact ⟨rfl, d2, S3.out, HS.out.done M1.out (HS.out.nosecond M1.out (by omega))⟩
              · have zE1n : ¬ ((e : Int) < (b : Int)) := by omega
                have HR : Keep (∀ d1, (∀ q, at' d1 q = at' d (rotX s m e q)) → PermIn a b d d1 → SymH lx t d d1 a mid b s e) := ⟨fun d1 hq hp => by rw [HE.out] at hq ⊢; exact SymH.of HO.out HP.out B.out G1.out hq hp⟩
                obtain ⟨d1, hd1e⟩ : ∃ x, x = d := ⟨_, rfl⟩
                have HS : Keep (SymH lx t d d1 a mid b s e) := ⟨HR.out d1 (fun q => by rw [hd1e, rotX_none (by omega) (by omega) (by omega)]) (by rw [hd1e]; exact permIn_refl _ _ _)⟩
                have hd1 : d1.size = d.size := by rw [hd1e]
                have S2 : Aside (SWK enc k w0 blk off d1 wr) := by rw [hd1e]; exact S1
                clear S1 hd1e
                generalize hw1 : wr = w1 at S2 ⊢
                clear hw1
                obtain ⟨d2, hd2e⟩ : ∃ x, x = d1 := ⟨_, rfl⟩
                have M1 : Keep (Merged lx d1 d2 a mid) := ⟨by rw [hd2e]; exact HS.out.nofirst (by omega)⟩
                have hd2 : d2.size = d.size := by rw [hd2e]; exact hd1
                have S3 : Aside (SWK enc k w0 blk off d2 w1) := by rw [hd2e]; exact S2
                clear S2 hd2e
                generalize hw2 : w1 = w2 at S3 ⊢
                clear hw2
                go_wp2
                go_end0
                exact ⟨rfl, d2, S3.out, HS.out.done M1.out (HS.out.nosecond M1.out (by omega))⟩
            · have zCn : ¬ ((a : Int) < (s : Int)) := by omega
              by_cases hE : e < b
              · have zE1 : ((e : Int) < (b : Int)) := by omega
                have HR : Keep (∀ d1, (∀ q, at' d1 q = at' d (rotX s m e q)) → PermIn a b d d1 → SymH lx t d d1 a mid b s e) := ⟨fun d1 hq hp => by rw [HE.out] at hq ⊢; exact SymH.of HO.out HP.out B.out G1.out hq hp⟩
                obtain ⟨d1, hd1e⟩ : ∃ x, x = d := ⟨_, rfl⟩
                have HS : Keep (SymH lx t d d1 a mid b s e) := ⟨HR.out d1 (fun q => by rw [hd1e, rotX_none (by omega) (by omega) (by omega)]) (by rw [hd1e]; exact permIn_refl _ _ _)⟩
                have hd1 : d1.size = d.size := by rw [hd1e]
                have S2 : Aside (SWK enc k w0 blk off d1 wr) := by rw [hd1e]; exact S1
                clear S1 hd1e
                generalize hw1 : wr = w1 at S2 ⊢
                clear hw1
                obtain ⟨d2, hd2e⟩ : ∃ x, x = d1 := ⟨_, rfl⟩
                have M1 : Keep (Merged lx d1 d2 a mid) := ⟨by rw [hd2e]; exact HS.out.nofirst (by omega)⟩
                have hd2 : d2.size = d.size := by rw [hd2e]; exact hd1
                have S3 : Aside (SWK enc k w0 blk off d2 w1) := by rw [hd2e]; exact S2
                clear S2 hd2e
                generalize hw2 : w1 = w2 at S3 ⊢
                clear hw2
                go_wp2
                go_end0
                exact ⟨rfl, d2, S3.out, HS.out.done M1.out (HS.out.nosecond M1.out (by omega))⟩
              · have zE1n : ¬ ((e : Int) < (b : Int)) := by omega
                have HR : Keep (∀ d1, (∀ q, at' d1 q = at' d (rotX s m e q)) → PermIn a b d d1 → SymH lx t d d1 a mid b s e) := ⟨fun d1 hq hp => by rw [HE.out] at hq ⊢; exact SymH.of HO.out HP.out B.out G1.out hq hp⟩
                obtain ⟨d1, hd1e⟩ : ∃ x, x = d := ⟨_, rfl⟩
                have HS : Keep (SymH lx t d d1 a mid b s e) := ⟨HR.out d1 (fun q => by rw [hd1e, rotX_none (by omega) (by omega) (by omega)]) (by rw [hd1e]; exact permIn_refl _ _ _)⟩
                have hd1 : d1.size = d.size := by rw [hd1e]
                have S2 : Aside (SWK enc k w0 blk off d1 wr) := by rw [hd1e]; exact S1
                clear S1 hd1e
                generalize hw1 : wr = w1 at S2 ⊢
                clear hw1
                obtain ⟨d2, hd2e⟩ : ∃ x, x = d1 := ⟨_, rfl⟩
                have M1 : Keep (Merged lx d1 d2 a mid) := ⟨by rw [hd2e]; exact HS.out.nofirst (by omega)⟩
                have hd2 : d2.size = d.size := by rw [hd2e]; exact hd1
                have S3 : Aside (SWK enc k w0 blk off d2 w1) := by rw [hd2e]; exact S2
                clear S2 hd2e
                generalize hw2 : w1 = w2 at S3 ⊢
                clear hw2
                go_wp2
                go_end0
                exact ⟨rfl, d2, S3.out, HS.out.done M1.out (HS.out.nosecond M1.out (by omega))⟩
  · have hmz : ¬ (mid : Int) < (m : Int) := by omega
    have B : Aside (CutB a m b mid p a m) := ⟨by omega, by omega, by rw [if_neg hmm], by rw [if_neg hmm]⟩
    have fmid : 2 * mid ≤ a + b ∧ a + b ≤ 2 * mid + 1 := by omega
    have fnn : nn ≤ mid + m ∧ mid + m ≤ nn := by omega
    have fp : p + 1 ≤ nn ∧ nn ≤ p + 1 := by omega
    clear hmid0 hnn hp
    go_enter Tryz.func136, Tryz.ntmps136
    go_wp2
    obtain ⟨b1, b2, b3, b4, b5, b6, b7⟩ := B.out.bnd am mb
    go_loopg [20, 21] (m - a) (fun kx s20 s21 wr => ∃ (i j : Nat), s20 = .int .i64 i ∧ s21 = .int .i64 j ∧ a ≤ i ∧ i ≤ j ∧ j ≤ m ∧ j - i ≤ kx ∧ Aside (SWK enc k w0 blk off d wr) ∧ Aside (SeaC lx d p a m i j))
    case atStart => exact ⟨a, m, by go_num, by go_num, Nat.le_refl _, b2, Nat.le_refl _, Nat.le_refl _, S0, SeaC.start b2⟩
    case round =>
      clear S0
      obtain ⟨i, j, rfl, rfl, hmi, hij, hjb, hkx, S1, G1⟩ := hrel
      by_cases hlt : i < j
      · have hltz : (i : Int) < (j : Int) := by omega
        obtain ⟨c, hc0⟩ : ∃ x, x = (i + j) / 2 := ⟨_, rfl⟩
        have rdc : ((i : Int) + (j : Int)) / 2 = (c : Int) := by omega
        have hih : i ≤ c ∧ c < j := by omega
        have hb4 := b4 c (by omega) (by omega)
        obtain ⟨q, hq⟩ : ∃ x, x = p - c := ⟨_, rfl⟩
        have rq : (p : Int) - (c : Int) = (q : Int) := by omega
        have rqw : IntKind.i64.wrap (q : Int) = (q : Int) := by rw [IntKind.wrap_i64]; omega
        have hqd : q < d.size := by omega
        have rqn : p - c = q := hq.symm
        have B4 := Keep.keep b4
        clear b4
        obtain ⟨dk, hdk⟩ : ∃ x, x = d := ⟨_, rfl⟩
        have hdks : dk.size = d.size := by rw [hdk]
        rw [← hdk] at S1
        cases hL : ltOf cf dk[q]! dk[c]! with
        | true =>
          have G2 : Aside (SeaC lx d p a m i c) := by
            rw [hq] at hL
            subst hdk
            exact SeaC.yes HO.out HP.out B.out G1.out hih.1 hih.2 hL
          clear hc0 hq hb4
          have bx7 : ((q : Nat) : Int) < (d.size : Int) := by omega
          have by7 : ((c : Nat) : Int) < (d.size : Int) := by omega
          have hv7 : decide (cf dk[q]! dk[c]! < 0) = true := hL
          obtain ⟨x7, hx7⟩ : ∃ x, x = dk[q]! := ⟨_, rfl⟩
          obtain ⟨y7, hy7⟩ : ∃ x, x = dk[c]! := ⟨_, rfl⟩
          have la7 := S1.out.ld R (by omega) Tryz.prog (q) (by omega)
          have lb7 := S1.out.ld R (by omega) Tryz.prog (c) (by omega)
          rw [← hx7] at la7 hv7
          rw [← hy7] at lb7 hv7
          have hc7 := S1.out.cmp HC.out (by omega) x7 y7
          have hw7 : cf x7 y7 < 0 := of_decide_eq_true hv7
          clear hx7 hy7
          go_wp2_with fail
          go_quiet_grown (first | (go_at_fn g; refine Calls.grown_of (hc7 _ _)))
          have S2 : Aside (SWK enc k w0 blk off dk (grow (wr.drewN nq) osq)) := S1.out.grown nq osq
          clear la7 lb7 hc7 S1
          generalize grow (wr.drewN nq) osq = w2 at S2 ⊢
          clear nq osq
          rw [hdk] at S2
          go_wp2
          go_roundg (c - i)
          case measure => omega
          case rel => exact ⟨i, c, rfl, by go_num, hmi, by omega, by omega, Nat.le_refl _, S2, G2⟩
        | false =>
          have G2 : Aside (SeaC lx d p a m (c + 1) j) := by
            rw [hq] at hL
            subst hdk
            exact SeaC.no HO.out HP.out B.out G1.out hih.1 hih.2 hL
          clear hc0 hq hb4
          have bx8 : ((q : Nat) : Int) < (d.size : Int) := by omega
          have by8 : ((c : Nat) : Int) < (d.size : Int) := by omega
          have hv8 : decide (cf dk[q]! dk[c]! < 0) = false := hL
          obtain ⟨x8, hx8⟩ : ∃ x, x = dk[q]! := ⟨_, rfl⟩
          obtain ⟨y8, hy8⟩ : ∃ x, x = dk[c]! := ⟨_, rfl⟩
          have la8 := S1.out.ld R (by omega) Tryz.prog (q) (by omega)
          have lb8 := S1.out.ld R (by omega) Tryz.prog (c) (by omega)
          rw [← hx8] at la8 hv8
          rw [← hy8] at lb8 hv8
          have hc8 := S1.out.cmp HC.out (by omega) x8 y8
          have hw8 : ¬ cf x8 y8 < 0 := of_decide_eq_false hv8
          clear hx8 hy8
          go_wp2_with fail
          go_quiet_grown (first | (go_at_fn g; refine Calls.grown_of (hc8 _ _)))
          have S2 : Aside (SWK enc k w0 blk off dk (grow (wr.drewN nq) osq)) := S1.out.grown nq osq
          clear la8 lb8 hc8 S1
          generalize grow (wr.drewN nq) osq = w2 at S2 ⊢
          clear nq osq
          rw [hdk] at S2
          go_wp2
          go_roundg (j - (c + 1))
          case measure => omega
          case rel => exact ⟨c + 1, j, by go_num, rfl, by omega, by omega, hjb, Nat.le_refl _, S2, G2⟩
      · have hltz : ¬ (i : Int) < (j : Int) := by omega
        obtain rfl : i = j := by omega
        obtain ⟨s, hse⟩ : ∃ x, x = i := ⟨_, rfl⟩
        rw [← hse] at hmi hjb G1 ⊢
        clear hse hltz hlt hij
        obtain ⟨e, he⟩ : ∃ x, x = mid + m - s := ⟨_, rfl⟩
        have re : (nn : Int) - (s : Int) = (e : Int) := by omega
        have rew : IntKind.i64.wrap (e : Int) = (e : Int) := by rw [IntKind.wrap_i64]; omega
        have hbe : a ≤ s ∧ s ≤ m ∧ m ≤ e ∧ e ≤ b ∧ s ≤ mid ∧ mid ≤ e := by omega
        have HE : Keep (e = mid + m - s) := ⟨he⟩
        have fe : e + s ≤ mid + m ∧ mid + m ≤ e + s := by omega
        clear he
        by_cases hA : s < m
        · have hM : (mid < e) := by omega
          have zA : ((s : Int) < (m : Int)) := by omega
          have zM : ((mid : Int) < (e : Int)) := by omega
          by_cases hB : s < mid
          · have hN1 : (m < e) := by omega
            have zB : ((s : Int) < (mid : Int)) := by omega
            have zN : ((m : Int) < (e : Int)) := by omega
            by_cases hC : a < s
            · have zC : ((a : Int) < (s : Int)) := by omega
              by_cases hE : e < b
              · have zE1 : ((e : Int) < (b : Int)) := by omega
                have HR : Keep (∀ d1, (∀ q, at' d1 q = at' d (rotX s m e q)) → PermIn a b d d1 → SymH lx t d d1 a mid b s e) := ⟨fun d1 hq hp => by rw [HE.out] at hq ⊢; exact SymH.of HO.out HP.out B.out G1.out hq hp⟩
                have hc1 := Keep.keep (rot_any k zE enc g cb blk off cap s m e d0 d w0 wr R hds0 S1.out hA (by omega) (by omega) (by omega))
                go_wp2_with fail
                refine (hc1.out).mono ?_
                rintro e1 w1 ⟨rfl, d1, S2', H1⟩
                have S2 : Aside (SWK enc k w0 blk off d1 w1) := S2'
                have HS : Keep (SymH lx t d d1 a mid b s e) := ⟨HR.out d1 H1.at_ (perm_in H1.perm (by omega) (by omega) bs)⟩
                have hd1 : d1.size = d.size := H1.size
                clear S2' H1 S1
                have hc2 := Keep.keep (HIH.out a s mid d1 w1 (by omega) (by omega) S2.out (HS.out.first hC hB))
                rw [hd1] at hc2
                go_wp2_with fail
                refine (hc2.out).mono ?_
                rintro e2 w2 ⟨rfl, d2, S3', M1'⟩
                have S3 : Aside (SWK enc k w0 blk off d2 w2) := S3'
                have M1 : Keep (Merged lx d1 d2 a mid) := ⟨M1'⟩
                have hd2 : d2.size = d.size := M1'.1.1.trans hd1
                clear S3' M1' S2
                have hc3 := Keep.keep (HIH.out mid e b d2 w2 (by omega) (by omega) S3.out (HS.out.second M1.out hM hE))
                rw [hd2] at hc3
                go_wp2_with fail
                refine (hc3.out).mono ?_
                rintro e3 w3 ⟨rfl, d3, S4, M2⟩
                go_wp2
                go_end0
                exact ⟨rfl, d3, S4, HS.out.done M1.out M2⟩
              · have zE1n : ¬ ((e : Int) < (b : Int)) := by omega
                have HR : Keep (∀ d1, (∀ q, at' d1 q = at' d (rotX s m e q)) → PermIn a b d d1 → SymH lx t d d1 a mid b s e) := ⟨fun d1 hq hp => by rw [HE.out] at hq ⊢; exact SymH.of HO.out HP.out B.out G1.out hq hp⟩
                have hc1 := Keep.keep (rot_any k zE enc g cb blk off cap s m e d0 d w0 wr R hds0 S1.out hA (by omega) (by omega) (by omega))
                go_wp2_with fail
                refine (hc1.out).mono ?_
                rintro e1 w1 ⟨rfl, d1, S2', H1⟩
                have S2 : Aside (SWK enc k w0 blk off d1 w1) := S2'
                have HS : Keep (SymH lx t d d1 a mid b s e) := ⟨HR.out d1 H1.at_ (perm_in H1.perm (by omega) (by omega) bs)⟩
                have hd1 : d1.size = d.size := H1.size
                clear S2' H1 S1
                have hc2 := Keep.keep (HIH.out a s mid d1 w1 (by omega) (by omega) S2.out (HS.out.first hC hB))
                rw [hd1] at hc2
                go_wp2_with fail
                refine (hc2.out).mono ?_
                rintro e2 w2 ⟨rfl, d2, S3', M1'⟩
                have S3 : Aside (SWK enc k w0 blk off d2 w2) := S3'
                have M1 : Keep (Merged lx d1 d2 a mid) := ⟨M1'⟩
                have hd2 : d2.size = d.size := M1'.1.1.trans hd1
                clear S3' M1' S2
                go_wp2
                go_end0
                exact ⟨rfl, d2, S3.out, HS.out.done M1.out (HS.out.nosecond M1.out (by omega))⟩
            · have zCn : ¬ ((a : Int) < (s : Int)) := by omega
              by_cases hE : e < b
              · have zE1 : ((e : Int) < (b : Int)) := by omega
                have HR : Keep (∀ d1, (∀ q, at' d1 q = at' d (rotX s m e q)) → PermIn a b d d1 → SymH lx t d d1 a mid b s e) := ⟨fun d1 hq hp => by rw [HE.out] at hq ⊢; exact SymH.of HO.out HP.out B.out G1.out hq hp⟩
                have hc1 := Keep.keep (rot_any k zE enc g cb blk off cap s m e d0 d w0 wr R hds0 S1.out hA (by omega) (by omega) (by omega))
                go_wp2_with fail
                refine (hc1.out).mono ?_
                rintro e1 w1 ⟨rfl, d1, S2', H1⟩
                have S2 : Aside (SWK enc k w0 blk off d1 w1) := S2'
                have HS : Keep (SymH lx t d d1 a mid b s e) := ⟨HR.out d1 H1.at_ (perm_in H1.perm (by omega) (by omega) bs)⟩
                have hd1 : d1.size = d.size := H1.size
                clear S2' H1 S1
                obtain ⟨d2, hd2e⟩ : ∃ x, x = d1 := ⟨_, rfl⟩
                have M1 : Keep (Merged lx d1 d2 a mid) := ⟨by rw [hd2e]; exact HS.out.nofirst (by omega)⟩
                have hd2 : d2.size = d.size := by rw [hd2e]; exact hd1
                have S3 : Aside (SWK enc k w0 blk off d2 w1) := by rw [hd2e]; exact S2
                clear S2 hd2e
                generalize hw2 : w1 = w2 at S3 ⊢
                clear hw2
                have hc3 := Keep.keep (HIH.out mid e b d2 w2 (by omega) (by omega) S3.out (HS.out.second M1.out hM hE))
                rw [hd2] at hc3
                go_wp2_with fail
                refine (hc3.out).mono ?_
                rintro e3 w3 ⟨rfl, d3, S4, M2⟩
                go_wp2
                go_end0
                exact ⟨rfl, d3, S4, HS.out.done M1.out M2⟩
              · have zE1n : ¬ ((e : Int) < (b : Int)) := by omega
                have HR : Keep (∀ d1, (∀ q, at' d1 q = at' d (rotX s m e q)) → PermIn a b d d1 → SymH lx t d d1 a mid b s e) := ⟨fun d1 hq hp => by rw [HE.out] at hq ⊢; exact SymH.of HO.out HP.out B.out G1.out hq hp⟩
                have hc1 := Keep.keep (rot_any k zE enc g cb blk off cap s m e d0 d w0 wr R hds0 S1.out hA (by omega) (by omega) (by omega))
                go_wp2_with fail
                refine (hc1.out).mono ?_
                rintro e1 w1 ⟨rfl, d1, S2', H1⟩
                have S2 : Aside (SWK enc k w0 blk off d1 w1) := S2'
                have HS : Keep (SymH lx t d d1 a mid b s e) := ⟨HR.out d1 H1.at_ (perm_in H1.perm (by omega) (by omega) bs)⟩
                have hd1 : d1.size = d.size := H1.size
                clear S2' H1 S1
                obtain ⟨d2, hd2e⟩ : ∃ x, x = d1 := ⟨_, rfl⟩
                have M1 : Keep (Merged lx d1 d2 a mid) := ⟨by rw [hd2e]; exact HS.out.nofirst (by omega)⟩
                have hd2 : d2.size = d.size := by rw [hd2e]; exact hd1
                have S3 : Aside (SWK enc k w0 blk off d2 w1) := by rw [hd2e]; exact S2
                clear S2 hd2e
                generalize hw2 : w1 = w2 at S3 ⊢
                clear hw2
                go_wp2
                go_end0
                exact ⟨rfl, d2, S3.out, HS.out.done M1.out (HS.out.nosecond M1.out (by omega))⟩
          · have hN1n : ¬ (m < e) := by omega
            have zBn : ¬ ((s : Int) < (mid : Int)) := by omega
            have zNn : ¬ ((m : Int) < (e : Int)) := by omega
            by_cases hC : a < s
            · have zC : ((a : Int) < (s : Int)) := by omega
              by_cases hE : e < b
              · have zE1 : ((e : Int) < (b : Int)) := by omega
                have HR : Keep (∀ d1, (∀ q, at' d1 q = at' d (rotX s m e q)) → PermIn a b d d1 → SymH lx t d d1 a mid b s e) := ⟨fun d1 hq hp => by rw [HE.out] at hq ⊢; exact SymH.of HO.out HP.out B.out G1.out hq hp⟩
                obtain ⟨d1, hd1e⟩ : ∃ x, x = d := ⟨_, rfl⟩
                have HS : Keep (SymH lx t d d1 a mid b s e) := ⟨HR.out d1 (fun q => by rw [hd1e, rotX_none (by omega) (by omega) (by omega)]) (by rw [hd1e]; exact permIn_refl _ _ _)⟩
                have hd1 : d1.size = d.size := by rw [hd1e]
                have S2 : Aside (SWK enc k w0 blk off d1 wr) := by rw [hd1e]; exact S1
                clear S1 hd1e
                generalize hw1 : wr = w1 at S2 ⊢
                clear hw1
                obtain ⟨d2, hd2e⟩ : ∃ x, x = d1 := ⟨_, rfl⟩
                have M1 : Keep (Merged lx d1 d2 a mid) := ⟨by rw [hd2e]; exact HS.out.nofirst (by omega)⟩
                have hd2 : d2.size = d.size := by rw [hd2e]; exact hd1
                have S3 : Aside (SWK enc k w0 blk off d2 w1) := by rw [hd2e]; exact S2
                clear S2 hd2e
                generalize hw2 : w1 = w2 at S3 ⊢
                clear hw2
                have hc3 := Keep.keep (HIH.out mid e b d2 w2 (by omega) (by omega) S3.out (HS.out.second M1.out hM hE))
                rw [hd2] at hc3
                go_wp2_with fail
                refine (hc3.out).mono ?_
                rintro e3 w3 ⟨rfl, d3, S4, M2⟩
                go_wp2
                go_end0
                exact ⟨rfl, d3, S4, HS.out.done M1.out M2⟩
              · have zE1n : ¬ ((e : Int) < (b : Int)) := by omega
                have HR : Keep (∀ d1, (∀ q, at' d1 q = at' d (rotX s m e q)) → PermIn a b d d1 → SymH lx t d d1 a mid b s e) := ⟨fun d1 hq hp => by rw [HE.out] at hq ⊢; exact SymH.of HO.out HP.out B.out G1.out hq hp⟩
                obtain ⟨d1, hd1e⟩ : ∃ x, x = d := ⟨_, rfl⟩
                have HS : Keep (SymH lx t d d1 a mid b s e) := ⟨HR.out d1 (fun q => by rw [hd1e, rotX_none (by omega) (by omega) (by omega)]) (by rw [hd1e]; exact permIn_refl _ _ _)⟩
                have hd1 : d1.size = d.size := by rw [hd1e]
                have S2 : Aside (SWK enc k w0 blk off d1 wr) := by rw [hd1e]; exact S1
                clear S1 hd1e
                generalize hw1 : wr = w1 at S2 ⊢
                clear hw1
                obtain ⟨d2, hd2e⟩ : ∃ x, x = d1 := ⟨_, rfl⟩
                have M1 : Keep (Merged lx d1 d2 a mid) := ⟨by rw [hd2e]; exact HS.out.nofirst (by omega)⟩
                have hd2 : d2.size = d.size := by rw [hd2e]; exact hd1
                have S3 : Aside (SWK enc k w0 blk off d2 w1) := by rw [hd2e]; exact S2
                clear S2 hd2e
                generalize hw2 : w1 = w2 at S3 ⊢
                clear hw2
                go_wp2
                go_end0
                exact ⟨rfl, d2, S3.out, HS.out.done M1.out (HS.out.nosecond M1.out (by omega))⟩
            · have zCn : ¬ ((a : Int) < (s : Int)) := by omega
              by_cases hE : e < b
              · have zE1 : ((e : Int) < (b : Int)) := by omega
                have HR : Keep (∀ d1, (∀ q, at' d1 q = at' d (rotX s m e q)) → PermIn a b d d1 → SymH lx t d d1 a mid b s e) := ⟨fun d1 hq hp => by rw [HE.out] at hq ⊢; exact SymH.of HO.out HP.out B.out G1.out hq hp⟩
                obtain ⟨d1, hd1e⟩ : ∃ x, x = d := ⟨_, rfl⟩
                have HS : Keep (SymH lx t d d1 a mid b s e) := ⟨HR.out d1 (fun q => by rw [hd1e, rotX_none (by omega) (by omega) (by omega)]) (by rw [hd1e]; exact permIn_refl _ _ _)⟩
                have hd1 : d1.size = d.size := by rw [hd1e]
                have S2 : Aside (SWK enc k w0 blk off d1 wr) := by rw [hd1e]; exact S1
                clear S1 hd1e
                generalize hw1 : wr = w1 at S2 ⊢
                clear hw1
                obtain ⟨d2, hd2e⟩ : ∃ x, x = d1 := ⟨_, rfl⟩
                have M1 : Keep (Merged lx d1 d2 a mid) := ⟨by rw [hd2e]; exact HS.out.nofirst (by omega)⟩
                have hd2 : d2.size = d.size := by rw [hd2e]; exact hd1
                have S3 : Aside (SWK enc k w0 blk off d2 w1) := by rw [hd2e]; exact S2
                clear S2 hd2e
                generalize hw2 : w1 = w2 at S3 ⊢
                clear hw2
                have hc3 := Keep.keep (HIH.out mid e b d2 w2 (by omega) (by omega) S3.out (HS.out.second M1.out hM hE))
                rw [hd2] at hc3
                go_wp2_with fail
                refine (hc3.out).mono ?_
                rintro e3 w3 ⟨rfl, d3, S4, M2⟩
                go_wp2
                go_end0
                exact ⟨rfl, d3, S4, HS.out.done M1.out M2⟩
              · have zE1n : ¬ ((e : Int) < (b : Int)) := by omega
                have HR : Keep (∀ d1, (∀ q, at' d1 q = at' d (rotX s m e q)) → PermIn a b d d1 → SymH lx t d d1 a mid b s e) := ⟨fun d1 hq hp => by rw [HE.out] at hq ⊢; exact SymH.of HO.out HP.out B.out G1.out hq hp⟩
                obtain ⟨d1, hd1e⟩ : ∃ x, x = d := ⟨_, rfl⟩
                have HS : Keep (SymH lx t d d1 a mid b s e) := ⟨HR.out d1 (fun q => by rw [hd1e, rotX_none (by omega) (by omega) (by omega)]) (by rw [hd1e]; exact permIn_refl _ _ _)⟩
                have hd1 : d1.size = d.size := by rw [hd1e]
                have S2 : Aside (SWK enc k w0 blk off d1 wr) := by rw [hd1e]; exact S1
                clear S1 hd1e
                generalize hw1 : wr = w1 at S2 ⊢
                clear hw1
                obtain ⟨d2, hd2e⟩ : ∃ x, x = d1 := ⟨_, rfl⟩
                have M1 : Keep (Merged lx d1 d2 a mid) := ⟨by rw [hd2e]; exact HS.out.nofirst (by omega)⟩
                have hd2 : d2.size = d.size := by rw [hd2e]; exact hd1
                have S3 : Aside (SWK enc k w0 blk off d2 w1) := by rw [hd2e]; exact S2
                clear S2 hd2e
                generalize hw2 : w1 = w2 at S3 ⊢
                clear hw2
                go_wp2
                go_end0
                exact ⟨rfl, d2, S3.out, HS.out.done M1.out (HS.out.nosecond M1.out (by omega))⟩
        · have hMn : ¬ (mid < e) := by omega
          have zAn : ¬ ((s : Int) < (m : Int)) := by omega
          have zMn : ¬ ((mid : Int) < (e : Int)) := by omega
          by_cases hB : s < mid
          · have hN1 : (m < e) := by omega
            have zB : ((s : Int) < (mid : Int)) := by omega
            have zN : ((m : Int) < (e : Int)) := by omega
            by_cases hC : a < s
            · have zC : ((a : Int) < (s : Int)) := by omega
              by_cases hE : e < b
              · have zE1 : ((e : Int) < (b : Int)) := by omega
                have HR : Keep (∀ d1, (∀ q, at' d1 q = at' d (rotX s m e q)) → PermIn a b d d1 → SymH lx t d d1 a mid b s e) := ⟨fun d1 hq hp => by rw [HE.out] at hq ⊢; exact SymH.of HO.out HP.out B.out G1.out hq hp⟩
                obtain ⟨d1, hd1e⟩ : ∃ x, x = d := ⟨_, rfl⟩
                have HS : Keep (SymH lx t d d1 a mid b s e) := ⟨HR.out d1 (fun q => by rw [hd1e, rotX_none (by omega) (by omega) (by omega)]) (by rw [hd1e]; exact permIn_refl _ _ _)⟩
                have hd1 : d1.size = d.size := by rw [hd1e]
                have S2 : Aside (SWK enc k w0 blk off d1 wr) := by rw [hd1e]; exact S1
                clear S1 hd1e
                generalize hw1 : wr = w1 at S2 ⊢
                clear hw1
                have hc2 := Keep.keep (HIH.out a s mid d1 w1 (by omega) (by omega) S2.out (HS.out.first hC hB))
                rw [hd1] at hc2
                go_wp2_with fail
                refine (hc2.out).mono ?_
                rintro e2 w2 ⟨rfl, d2, S3', M1'⟩
                have S3 : Aside (SWK enc k w0 blk off d2 w2) := S3'
                have M1 : Keep (Merged lx d1 d2 a mid) := ⟨M1'⟩
                have hd2 : d2.size = d.size := M1'.1.1.trans hd1
                clear S3' M1' S2
                go_wp2
                go_end0
                exact ⟨rfl, d2, S3.out, HS.out.done M1.out (HS.out.nosecond M1.out (by omega))⟩
              · have zE1n : ¬ ((e : Int) < (b : Int)) := by omega
                have HR : Keep (∀ d1, (∀ q, at' d1 q = at' d (rotX s m e q)) → PermIn a b d d1 → SymH lx t d d1 a mid b s e) := ⟨fun d1 hq hp => by rw [HE.out] at hq ⊢; exact SymH.of HO.out HP.out B.out G1.out hq hp⟩
                obtain ⟨d1, hd1e⟩ : ∃ x, x = d := ⟨_, rfl⟩
                have HS : Keep (SymH lx t d d1 a mid b s e) := ⟨HR.out d1 (fun q => by rw [hd1e, rotX_none (by omega) (by omega) (by omega)]) (by rw [hd1e]; exact permIn_refl _ _ _)⟩
                have hd1 : d1.size = d.size := by rw [hd1e]
                have S2 : Aside (SWK enc k w0 blk off d1 wr) := by rw [hd1e]; exact S1
                clear S1 hd1e
                generalize hw1 : wr = w1 at S2 ⊢
                clear hw1
                have hc2 := Keep.keep (HIH.out a s mid d1 w1 (by omega) (by omega) S2.out (HS.out.first hC hB))
                rw [hd1] at hc2
                go_wp2_with fail
                refine (hc2.out).mono ?_
                rintro e2 w2 ⟨rfl, d2, S3', M1'⟩
                have S3 : Aside (SWK enc k w0 blk off d2 w2) := S3'
                have M1 : Keep (Merged lx d1 d2 a mid) := ⟨M1'⟩
                have hd2 : d2.size = d.size := M1'.1.1.trans hd1
                clear S3' M1' S2
                go_wp2
                go_end0
                exact ⟨rfl, d2, S3.out, HS.out.done M1.out (HS.out.nosecond M1.out (by omega))⟩
            · have zCn : ¬ ((a : Int) < (s : Int)) := by omega
              by_cases hE : e < b
              · have zE1 : ((e : Int) < (b : Int)) := by omega
                have HR : Keep (∀ d1, (∀ q, at' d1 q = at' d (rotX s m e q)) → PermIn a b d d1 → SymH lx t d d1 a mid b s e) := ⟨fun d1 hq hp => by rw [HE.out] at hq ⊢; exact SymH.of HO.out HP.out B.out G1.out hq hp⟩
                obtain ⟨d1, hd1e⟩ : ∃ x, x = d := ⟨_, rfl⟩
                have HS : Keep (SymH lx t d d1 a mid b s e) := ⟨HR.out d1 (fun q => by rw [hd1e, rotX_none (by omega) (by omega) (by omega)]) (by rw [hd1e]; exact permIn_refl _ _ _)⟩
                have hd1 : d1.size = d.size := by rw [hd1e]
                have S2 : Aside (SWK enc k w0 blk off d1 wr) := by rw [hd1e]; exact S1
                clear S1 hd1e
                generalize hw1 : wr = w1 at S2 ⊢
                clear hw1
                obtain ⟨d2, hd2e⟩ : ∃ x, x = d1 := ⟨_, rfl⟩
                have M1 : Keep (Merged lx d1 d2 a mid) := ⟨by rw [hd2e]; exact HS.out.nofirst (by omega)⟩
                have hd2 : d2.size = d.size := by rw [hd2e]; exact hd1
                have S3 : Aside (SWK enc k w0 blk off d2 w1) := by rw [hd2e]; exact S2
                clear S2 hd2e
                generalize hw2 : w1 = w2 at S3 ⊢
                clear hw2
                go_wp2
                go_end0
                exact ⟨rfl, d2, S3.out, HS.out.done M1.out (HS.out.nosecond M1.out (by omega))⟩
              · have zE1n : ¬ ((e : Int) < (b : Int)) := by omega
                have HR : Keep (∀ d1, (∀ q, at' d1 q = at' d (rotX s m e q)) → PermIn a b d d1 → SymH lx t d d1 a mid b s e) := ⟨fun d1 hq hp => by rw [HE.out] at hq ⊢; exact SymH.of HO.out HP.out B.out G1.out hq hp⟩
                obtain ⟨d1, hd1e⟩ : ∃ x, x = d := ⟨_, rfl⟩
                have HS : Keep (SymH lx t d d1 a mid b s e) := ⟨HR.out d1 (fun q => by rw [hd1e, rotX_none (by omega) (by omega) (by omega)]) (by rw [hd1e]; exact permIn_refl _ _ _)⟩
                have hd1 : d1.size = d.size := by rw [hd1e]
                have S2 : Aside (SWK enc k w0 blk off d1 wr) := by rw [hd1e]; exact S1
                clear S1 hd1e
                generalize hw1 : wr = w1 at S2 ⊢
                clear hw1
                obtain ⟨d2, hd2e⟩ : ∃ x, x = d1 := ⟨_, rfl⟩
                have M1 : Keep (Merged lx d1 d2 a mid) := ⟨by rw [hd2e]; exact HS.out.nofirst (by omega)⟩
                have hd2 : d2.size = d.size := by rw [hd2e]; exact hd1
                have S3 : Aside (SWK enc k w0 blk off d2 w1) := by rw [hd2e]; exact S2
                clear S2 hd2e
                generalize hw2 : w1 = w2 at S3 ⊢
                clear hw2
                go_wp2
                go_end0
                exact ⟨rfl, d2, S3.out, HS.out.done M1.out (HS.out.nosecond M1.out (by omega))⟩
          · have hN1n : ¬ (m < e) := by omega
            have zBn : ¬ ((s : Int) < (mid : Int)) := by omega
            have zNn : ¬ ((m : Int) < (e : Int)) := by omega
            by_cases hC : a < s
            · have zC : ((a : Int) < (s : Int)) := by omega
              by_cases hE : e < b
              · have zE1 : ((e : Int) < (b : Int)) := by omega
                have HR : Keep (∀ d1, (∀ q, at' d1 q = at' d (rotX s m e q)) → PermIn a b d d1 → SymH lx t d d1 a mid b s e) := ⟨fun d1 hq hp => by rw [HE.out] at hq ⊢; exact SymH.of HO.out HP.out B.out G1.out hq hp⟩
                obtain ⟨d1, hd1e⟩ : ∃ x, x = d := ⟨_, rfl⟩
                have HS : Keep (SymH lx t d d1 a mid b s e) := ⟨HR.out d1 (fun q => by rw [hd1e, rotX_none (by omega) (by omega) (by omega)]) (by rw [hd1e]; exact permIn_refl _ _ _)⟩
                have hd1 : d1.size = d.size := by rw [hd1e]
                have S2 : Aside (SWK enc k w0 blk off d1 wr) := by rw [hd1e]; exact S1
                clear S1 hd1e
                generalize hw1 : wr = w1 at S2 ⊢
                clear hw1
                obtain ⟨d2, hd2e⟩ : ∃ x, x = d1 := ⟨_, rfl⟩
                have M1 : Keep (Merged lx d1 d2 a mid) := ⟨by rw [hd2e]; exact HS.out.nofirst (by omega)⟩
                have hd2 : d2.size = d.size := by rw [hd2e]; exact hd1
                have S3 : Aside (SWK enc k w0 blk off d2 w1) := by rw [hd2e]; exact S2
                clear S2 hd2e
                generalize hw2 : w1 = w2 at S3 ⊢
                clear hw2
                go_wp2
                go_end0
                exact ⟨rfl, d2, S3.out, HS.out.done M1.out (HS.out.nosecond M1.out (by omega))⟩
              · have zE1n : ¬ ((e : Int) < (b : Int)) := by omega
                have HR : Keep (∀ d1, (∀ q, at' d1 q = at' d (rotX s m e q)) → PermIn a b d d1 → SymH lx t d d1 a mid b s e) := ⟨fun d1 hq hp => by rw [HE.out] at hq ⊢; exact SymH.of HO.out HP.out B.out G1.out hq hp⟩
                obtain ⟨d1, hd1e⟩ : ∃ x, x = d := ⟨_, rfl⟩
                have HS : Keep (SymH lx t d d1 a mid b s e) := ⟨HR.out d1 (fun q => by rw [hd1e, rotX_none (by omega) (by omega) (by omega)]) (by rw [hd1e]; exact permIn_refl _ _ _)⟩
                have hd1 : d1.size = d.size := by rw [hd1e]
                have S2 : Aside (SWK enc k w0 blk off d1 wr) := by rw [hd1e]; exact S1
                clear S1 hd1e
                generalize hw1 : wr = w1 at S2 ⊢
                clear hw1
                obtain ⟨d2, hd2e⟩ : ∃ x, x = d1 := ⟨_, rfl⟩
                have M1 : Keep (Merged lx d1 d2 a mid) := ⟨by rw [hd2e]; exact HS.out.nofirst (by omega)⟩
                have hd2 : d2.size = d.size := by rw [hd2e]; exact hd1
                have S3 : Aside (SWK enc k w0 blk off d2 w1) := by rw [hd2e]; exact S2
                clear S2 hd2e
                generalize hw2 : w1 = w2 at S3 ⊢
                clear hw2
                go_wp2
                go_end0
                exact ⟨rfl, d2, S3.out, HS.out.done M1.out (HS.out.nosecond M1.out (by omega))⟩
            · have zCn : ¬ ((a : Int) < (s : Int)) := by omega
              by_cases hE : e < b
              · have zE1 : ((e : Int) < (b : Int)) := by omega
                have HR : Keep (∀ d1, (∀ q, at' d1 q = at' d (rotX s m e q)) → PermIn a b d d1 → SymH lx t d d1 a mid b s e) := ⟨fun d1 hq hp => by rw [HE.out] at hq ⊢; exact SymH.of HO.out HP.out B.out G1.out hq hp⟩
                obtain ⟨d1, hd1e⟩ : ∃ x, x = d := ⟨_, rfl⟩
                have HS : Keep (SymH lx t d d1 a mid b s e) := ⟨HR.out d1 (fun q => by rw [hd1e, rotX_none (by omega) (by omega) (by omega)]) (by rw [hd1e]; exact permIn_refl _ _ _)⟩
                have hd1 : d1.size = d.size := by rw [hd1e]
                have S2 : Aside (SWK enc k w0 blk off d1 wr) := by rw [hd1e]; exact S1
                clear S1 hd1e
                generalize hw1 : wr = w1 at S2 ⊢
                clear hw1
                obtain ⟨d2, hd2e⟩ : ∃ x, x = d1 := ⟨_, rfl⟩
                have M1 : Keep (Merged lx d1 d2 a mid) := ⟨by rw [hd2e]; exact HS.out.nofirst (by omega)⟩
                have hd2 : d2.size = d.size := by rw [hd2e]; exact hd1
                have S3 : Aside (SWK enc k w0 blk off d2 w1) := by rw [hd2e]; exact S2
                clear S2 hd2e
                generalize hw2 : w1 = w2 at S3 ⊢
                clear hw2
                go_wp2
                go_end0
                exact ⟨rfl, d2, S3.out, HS.out.done M1.out (HS.out.nosecond M1.out (by omega))⟩
              · have zE1n : ¬ ((e : Int) < (b : Int)) := by omega
                have HR : Keep (∀ d1, (∀ q, at' d1 q = at' d (rotX s m e q)) → PermIn a b d d1 → SymH lx t d d1 a mid b s e) := ⟨fun d1 hq hp => by rw [HE.out] at hq ⊢; exact SymH.of HO.out HP.out B.out G1.out hq hp⟩
                obtain ⟨d1, hd1e⟩ : ∃ x, x = d := ⟨_, rfl⟩
                have HS : Keep (SymH lx t d d1 a mid b s e) := ⟨HR.out d1 (fun q => by rw [hd1e, rotX_none (by omega) (by omega) (by omega)]) (by rw [hd1e]; exact permIn_refl _ _ _)⟩
                have hd1 : d1.size = d.size := by rw [hd1e]
                have S2 : Aside (SWK enc k w0 blk off d1 wr) := by rw [hd1e]; exact S1
                clear S1 hd1e
                generalize hw1 : wr = w1 at S2 ⊢
                clear hw1
                obtain ⟨d2, hd2e⟩ : ∃ x, x = d1 := ⟨_, rfl⟩
                have M1 : Keep (Merged lx d1 d2 a mid) := ⟨by rw [hd2e]; exact HS.out.nofirst (by omega)⟩
                have hd2 : d2.size = d.size := by rw [hd2e]; exact hd1
                have S3 : Aside (SWK enc k w0 blk off d2 w1) := by rw [hd2e]; exact S2
                clear S2 hd2e
                generalize hw2 : w1 = w2 at S3 ⊢
                clear hw2
                go_wp2
                go_end0
                exact ⟨rfl, d2, S3.out, HS.out.done M1.out (HS.out.nosecond M1.out (by omega))⟩

end Go.Proofs.YtplafpokgpolkaaGreatDoor

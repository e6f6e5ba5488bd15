/- PARTS OF ONE PROOF, set in one file: StS3, StSy, SfI, StSt, StNil, SrtMb, EqP. Each part tells its own conditions. -/
import Derived.Shelf.SlSortCmp.WholeK
import Derived.Ground.SlsfProg
import Derived.Test.YtplafpokgpolkaaGreatDoorProg
import Derived.Test.YtplafpokgpolkaaGreatDoorW4
/- slices.symMergeCmpFunc over Members: the cut. -/
namespace Go.Proofs.YtplafpokgpolkaaGreatDoor
open Go.Shelf Go.RowKit Go.Lib Go.Sort
set_option maxHeartbeats 40000000 in
set_option maxRecDepth 1000000 in
theorem sym3_any {α : Type} [Inhabited α] (k : Nat) (zE : ∀ w, (Go.sizeOf 32).run Tryz.prog w = .ok k w) (enc : α → List Value) (g : Nat) (cb : Array Value) (blk off cap : Nat) (cf : α → α → Int) (lx : α → α → Bool) (t : α → Nat) (O : Ord (ltOf cf) lx t) (d0 : Array α) (w0 : World) (R : RowK enc k w0 blk off d0) (hcmp : CmpLays Tryz.prog g cb enc k cf blk off d0.size w0) (eg : ∀ args w, (callFunc g args).run Tryz.prog w = .ok (.enter g args) w) (hsz : d0.size < 1000000000000) (a m b : Nat) (d : Array α) (w : World) (hs : d0.size = d.size) (S : SWK enc k w0 blk off d w) (P : SymP lx t d a m b) (h1 : ¬ m - a = 1) (h2 : ¬ b - m = 1) (HIH : Keep (∀ (a' m' b' : Nat) (d' : Array α) (w' : World), b' - a' < b - a → d0.size = d'.size → SWK enc k w0 blk off d' w' → SymP lx t d' a' m' b' → Calls Tryz.prog 136 #[.slice (some ⟨blk, off, none⟩) d'.size cap, .int .i64 a', .int .i64 m', .int .i64 b', .func (.func g) #[] cb] w' fun e w1 => e = .returned (.tuple #[]) ∧ ∃ d1, SWK enc k w0 blk off d1 w1 ∧ Merged lx d' d1 a' b')) :
    Calls Tryz.prog 136 #[.slice (some ⟨blk, off, none⟩) d.size cap, .int .i64 a, .int .i64 m, .int .i64 b, .func (.func g) #[] cb] w fun e w' => e = .returned (.tuple #[]) ∧ ∃ d', SWK enc k w0 blk off d' w' ∧ Merged lx d d' a b := by
  have hds0 : d0.size = d.size := hs
  obtain ⟨am, mb, bs⟩ : a < m ∧ m < b ∧ b ≤ d.size := ⟨P.am, P.mb, P.bs⟩
  have HP : Aside (SymP lx t d a m b) := P
  have HC : Aside (CmpLays Tryz.prog g cb enc k cf blk off d0.size w0) := hcmp
  have HO : Aside (Ord (ltOf cf) lx t) := O
  have S0 : Aside (SWK enc k w0 blk off d w) := S
  clear S P hcmp O
  have aE : ∀ w, (isAgg 32).run Tryz.prog w = .ok true w := fun w => by kernel_rfl
  have mixed : Tryz.prog.follows Departure.mixedOrders = true := by first | rfl | kernel_rfl
  have rma : IntKind.i64.wrap ((m : Int) - (a : Int)) = ((m - a : Nat) : Int) := by rw [IntKind.wrap_i64]; omega
  have rbm : IntKind.i64.wrap ((b : Int) - (m : Int)) = ((b - m : Nat) : Int) := by rw [IntKind.wrap_i64]; omega
  obtain ⟨u0, hu0⟩ : ∃ x, x = m - a := ⟨_, rfl⟩
  obtain ⟨v0, hv0⟩ : ∃ x, x = b - m := ⟨_, rfl⟩
  rw [← hu0] at rma
  rw [← hv0] at rbm
  have h1z : ¬ (u0 : Int) = 1 := by omega
  have h1b : ((u0 : Int) == 1) = false := by rw [beq_eq_false_iff_ne]; omega
  have h2z : ¬ (v0 : Int) = 1 := by omega
  have h2b : ((v0 : Int) == 1) = false := by rw [beq_eq_false_iff_ne]; omega
  clear hu0 hv0
  obtain ⟨mid, hmid0⟩ : ∃ x, x = (a + b) / 2 := ⟨_, rfl⟩
  have rdmid : ((a : Int) + (b : Int)) / 2 = (mid : Int) := by omega
  obtain ⟨nn, hnn⟩ : ∃ x, x = mid + m := ⟨_, rfl⟩
  have rnn : (mid : Int) + (m : Int) = (nn : Int) := by omega
  obtain ⟨p, hp⟩ : ∃ x, x = nn - 1 := ⟨_, rfl⟩
  have rp : (nn : Int) - 1 = (p : Int) := by omega
  by_cases hmm : mid < m
  · have hmz : (mid : Int) < (m : Int) := by omega
    obtain ⟨s0, hs0⟩ : ∃ x, x = nn - b := ⟨_, rfl⟩
    have rs0 : (nn : Int) - (b : Int) = (s0 : Int) := by omega
    have B : Aside (CutB a m b mid p s0 mid) := ⟨by omega, by omega, by rw [if_pos hmm]; omega, by rw [if_pos hmm]⟩
    have fs0 : s0 + b ≤ nn ∧ nn ≤ s0 + b := by omega
    have fmid : 2 * mid ≤ a + b ∧ a + b ≤ 2 * mid + 1 := by omega
    have fnn : nn ≤ mid + m ∧ mid + m ≤ nn := by omega
    have fp : p + 1 ≤ nn ∧ nn ≤ p + 1 := by omega
    clear hs0 hmid0 hnn hp
    go_enter Tryz.func136, Tryz.ntmps136
    go_wp2
    obtain ⟨b1, b2, b3, b4, b5, b6, b7⟩ := B.out.bnd am mb
    go_loopg [20, 21] (mid - s0) (fun kx s20 s21 wr => ∃ (i j : Nat), s20 = .int .i64 i ∧ s21 = .int .i64 j ∧ s0 ≤ i ∧ i ≤ j ∧ j ≤ mid ∧ j - i ≤ kx ∧ Aside (SWK enc k w0 blk off d wr) ∧ Aside (SeaC lx d p s0 mid i j))
    case atStart => exact ⟨s0, mid, by go_num, by go_num, Nat.le_refl _, b2, Nat.le_refl _, Nat.le_refl _, S0, SeaC.start b2⟩
    case round =>
      clear S0
      obtain ⟨i, j, rfl, rfl, hmi, hij, hjb, hkx, S1, G1⟩ := hrel
      by_cases hlt : i < j
      · have hltz : (i : Int) < (j : Int) := by omega
        obtain ⟨c, hc0⟩ : ∃ x, x = (i + j) / 2 := ⟨_, rfl⟩
        have rdc : ((i : Int) + (j : Int)) / 2 = (c : Int) := by omega
        have hih : i ≤ c ∧ c < j := by omega
        have hb4 := b4 c (by omega) (by omega)
        obtain ⟨q, hq⟩ : ∃ x, x = p - c := ⟨_, rfl⟩
        have rq : (p : Int) - (c : Int) = (q : Int) := by omega
        have rqw : IntKind.i64.wrap (q : Int) = (q : Int) := by rw [IntKind.wrap_i64]; omega
        have hqd : q < d.size := by omega
        have rqn : p - c = q := hq.symm
        have B4 := Keep.keep b4
        clear b4
        obtain ⟨dk, hdk⟩ : ∃ x, x = d := ⟨_, rfl⟩
        have hdks : dk.size = d.size := by rw [hdk]
        rw [← hdk] at S1
        cases hL : ltOf cf dk[q]! dk[c]! with
        | true =>
          have G2 : Aside (SeaC lx d p s0 mid i c) := by
            rw [hq] at hL
            subst hdk
            exact SeaC.yes HO.out HP.out B.out G1.out hih.1 hih.2 hL
          clear hc0 hq hb4
          have bx7 : ((q : Nat) : Int) < (d.size : Int) := by omega
          have by7 : ((c : Nat) : Int) < (d.size : Int) := by omega
          have hv7 : decide (cf dk[q]! dk[c]! < 0) = true := hL
          obtain ⟨x7, hx7⟩ : ∃ x, x = dk[q]! := ⟨_, rfl⟩
          obtain ⟨y7, hy7⟩ : ∃ x, x = dk[c]! := ⟨_, rfl⟩
          have la7 := S1.out.ld R (by omega) Tryz.prog (q) (by omega)
          have lb7 := S1.out.ld R (by omega) Tryz.prog (c) (by omega)
          rw [← hx7] at la7 hv7
          rw [← hy7] at lb7 hv7
          have hc7 := S1.out.cmp HC.out (by omega) x7 y7
          have hw7 : cf x7 y7 < 0 := of_decide_eq_true hv7
          clear hx7 hy7
          go_wp2_with fail
          go_quiet_grown (first | (go_at_fn g; refine Calls.grown_of (hc7 _ _)))
          have S2 : Aside (SWK enc k w0 blk off dk (grow (wr.drewN nq) osq)) := S1.out.grown nq osq
          clear la7 lb7 hc7 S1
          generalize grow (wr.drewN nq) osq = w2 at S2 ⊢
          clear nq osq
          rw [hdk] at S2
          go_wp2
          go_roundg (c - i)
          case measure => omega
          case rel => exact ⟨i, c, rfl, by go_num, hmi, by omega, by omega, Nat.le_refl _, S2, G2⟩
        | false =>
          have G2 : Aside (SeaC lx d p s0 mid (c + 1) j) := by
            rw [hq] at hL
            subst hdk
            exact SeaC.no HO.out HP.out B.out G1.out hih.1 hih.2 hL
          clear hc0 hq hb4
          have bx8 : ((q : Nat) : Int) < (d.size : Int) := by omega
          have by8 : ((c : Nat) : Int) < (d.size : Int) := by omega
          have hv8 : decide (cf dk[q]! dk[c]! < 0) = false := hL
          obtain ⟨x8, hx8⟩ : ∃ x, x = dk[q]! := ⟨_, rfl⟩
          obtain ⟨y8, hy8⟩ : ∃ x, x = dk[c]! := ⟨_, rfl⟩
          have la8 := S1.out.ld R (by omega) Tryz.prog (q) (by omega)
          have lb8 := S1.out.ld R (by omega) Tryz.prog (c) (by omega)
          rw [← hx8] at la8 hv8
          rw [← hy8] at lb8 hv8
          have hc8 := S1.out.cmp HC.out (by omega) x8 y8
          have hw8 : ¬ cf x8 y8 < 0 := of_decide_eq_false hv8
          clear hx8 hy8
          go_wp2_with fail
          go_quiet_grown (first | (go_at_fn g; refine Calls.grown_of (hc8 _ _)))
          have S2 : Aside (SWK enc k w0 blk off dk (grow (wr.drewN nq) osq)) := S1.out.grown nq osq
          clear la8 lb8 hc8 S1
          generalize grow (wr.drewN nq) osq = w2 at S2 ⊢
          clear nq osq
          rw [hdk] at S2
          go_wp2
          go_roundg (j - (c + 1))
          case measure => omega
          case rel => exact ⟨c + 1, j, by go_num, rfl, by omega, by omega, hjb, Nat.le_refl _, S2, G2⟩
      · have hltz : ¬ (i : Int) < (j : Int) := by omega
        obtain rfl : i = j := by omega
        obtain ⟨s, hse⟩ : ∃ x, x = i := ⟨_, rfl⟩
        rw [← hse] at hmi hjb G1 ⊢
        clear hse hltz hlt hij
        obtain ⟨e, he⟩ : ∃ x, x = mid + m - s := ⟨_, rfl⟩
        have re : (nn : Int) - (s : Int) = (e : Int) := by omega
        have rew : IntKind.i64.wrap (e : Int) = (e : Int) := by rw [IntKind.wrap_i64]; omega
        have hbe : a ≤ s ∧ s ≤ m ∧ m ≤ e ∧ e ≤ b ∧ s ≤ mid ∧ mid ≤ e := by omega
        have HE : Keep (e = mid + m - s) := ⟨he⟩
        have fe : e + s ≤ mid + m ∧ mid + m ≤ e + s := by omega
        clear he
        by_cases hA : s < m
        · have hM : (mid < e) := by omega
          have zA : ((s : Int) < (m : Int)) := by omega
          have zM : ((mid : Int) < (e : Int)) := by omega
          by_cases hB : s < mid
          · have hN1 : (m < e) := by omega
            have zB : ((s : Int) < (mid : Int)) := by omega
            have zN : ((m : Int) < (e : Int)) := by omega
            by_cases hC : a < s
            · have zC : ((a : Int) < (s : Int)) := by omega
              by_cases hE : e < b
              · have zE1 : ((e : Int) < (b : Int)) := by omega
                have HR : Keep (∀ d1, (∀ q, at' d1 q = at' d (rotX s m e q)) → PermIn a b d d1 → SymH lx t d d1 a mid b s e) := ⟨fun d1 hq hp => by rw [HE.out] at hq ⊢; exact SymH.of HO.out HP.out B.out G1.out hq hp⟩
                have hc1 := Keep.keep (rot_any k zE enc g cb blk off cap s m e d0 d w0 wr R hds0 S1.out hA (by omega) (by omega) (by omega))
                go_wp2_with fail
                refine (hc1.out).mono ?_
                rintro e1 w1 ⟨rfl, d1, S2', H1⟩
                have S2 : Aside (SWK enc k w0 blk off d1 w1) := S2'
                have HS : Keep (SymH lx t d d1 a mid b s e) := ⟨HR.out d1 H1.at_ (perm_in H1.perm (by omega) (by omega) bs)⟩
                have hd1 : d1.size = d.size := H1.size
                clear S2' H1 S1
                have hc2 := Keep.keep (HIH.out a s mid d1 w1 (by omega) (by omega) S2.out (HS.out.first hC hB))
                rw [hd1] at hc2
                go_wp2_with fail
                refine (hc2.out).mono ?_
                rintro e2 w2 ⟨rfl, d2, S3', M1'⟩
                have S3 : Aside (SWK enc k w0 blk off d2 w2) := S3'
                have M1 : Keep (Merged lx d1 d2 a mid) := ⟨M1'⟩
                have hd2 : d2.size = d.size := M1'.1.1.trans hd1
                clear S3' M1' S2
                have hc3 := Keep.keep (HIH.out mid e b d2 w2 (by omega) (by omega) S3.out (HS.out.second M1.out hM hE))
                rw [hd2] at hc3
                go_wp2_with fail
                refine (hc3.out).mono ?_
                rintro e3 w3 ⟨rfl, d3, S4, M2⟩
                go_wp2
                go_end0
                exact ⟨rfl, d3, S4, HS.out.done M1.out M2⟩
              · have zE1n : ¬ ((e : Int) < (b : Int)) := by omega
                have HR : Keep (∀ d1, (∀ q, at' d1 q = at' d (rotX s m e q)) → PermIn a b d d1 → SymH lx t d d1 a mid b s e) := ⟨fun d1 hq hp => by rw [HE.out] at hq ⊢; exact SymH.of HO.out HP.out B.out G1.out hq hp⟩
                have hc1 := Keep.keep (rot_any k zE enc g cb blk off cap s m e d0 d w0 wr R hds0 S1.out hA (by omega) (by omega) (by omega))
                go_wp2_with fail
                refine (hc1.out).mono ?_
                rintro e1 w1 ⟨rfl, d1, S2', H1⟩
                have S2 : Aside (SWK enc k w0 blk off d1 w1) := S2'
                have HS : Keep (SymH lx t d d1 a mid b s e) := ⟨HR.out d1 H1.at_ (perm_in H1.perm (by omega) (by omega) bs)⟩
                have hd1 : d1.size = d.size := H1.size
                clear S2' H1 S1
                have hc2 := Keep.keep (HIH.out a s mid d1 w1 (by omega) (by omega) S2.out (HS.out.first hC hB))
                rw [hd1] at hc2
                go_wp2_with fail
                refine (hc2.out).mono ?_
                rintro e2 w2 ⟨rfl, d2, S3', M1'⟩
                have S3 : Aside (SWK enc k w0 blk off d2 w2) := S3'
                have M1 : Keep (Merged lx d1 d2 a mid) := ⟨M1'⟩
                have hd2 : d2.size = d.size := M1'.1.1.trans hd1
                clear S3' M1' S2
                go_wp2
                go_end0
                exact ⟨rfl, d2, S3.out, HS.out.done M1.out (HS.out.nosecond M1.out (by omega))⟩
            · have zCn : ¬ ((a : Int) < (s : Int)) := by omega
              by_cases hE : e < b
              · have zE1 : ((e : Int) < (b : Int)) := by omega
                have HR : Keep (∀ d1, (∀ q, at' d1 q = at' d (rotX s m e q)) → PermIn a b d d1 → SymH lx t d d1 a mid b s e) := ⟨fun d1 hq hp => by rw [HE.out] at hq ⊢; exact SymH.of HO.out HP.out B.out G1.out hq hp⟩
                have hc1 := Keep.keep (rot_any k zE enc g cb blk off cap s m e d0 d w0 wr R hds0 S1.out hA (by omega) (by omega) (by omega))
                go_wp2_with fail
                refine (hc1.out).mono ?_
                rintro e1 w1 ⟨rfl, d1, S2', H1⟩
                have S2 : Aside (SWK enc k w0 blk off d1 w1) := S2'
                have HS : Keep (SymH lx t d d1 a mid b s e) := ⟨HR.out d1 H1.at_ (perm_in H1.perm (by omega) (by omega) bs)⟩
                have hd1 : d1.size = d.size := H1.size
                clear S2' H1 S1
                obtain ⟨d2, hd2e⟩ : ∃ x, x = d1 := ⟨_, rfl⟩
                have M1 : Keep (Merged lx d1 d2 a mid) := ⟨by rw [hd2e]; exact HS.out.nofirst (by omega)⟩
                have hd2 : d2.size = d.size := by rw [hd2e]; exact hd1
                have S3 : Aside (SWK enc k w0 blk off d2 w1) := by rw [hd2e]; exact S2
                clear S2 hd2e
                generalize hw2 : w1 = w2 at S3 ⊢
                clear hw2
                have hc3 := Keep.keep (HIH.out mid e b d2 w2 (by omega) (by omega) S3.out (HS.out.second M1.out hM hE))
                rw [hd2] at hc3
                go_wp2_with fail
                refine (hc3.out).mono ?_
                rintro e3 w3 ⟨rfl, d3, S4, M2⟩
                go_wp2
                go_end0
                exact ⟨rfl, d3, S4, HS.out.done M1.out M2⟩
              · have zE1n : ¬ ((e : Int) < (b : Int)) := by omega
                have HR : Keep (∀ d1, (∀ q, at' d1 q = at' d (rotX s m e q)) → PermIn a b d d1 → SymH lx t d d1 a mid b s e) := ⟨fun d1 hq hp => by rw [HE.out] at hq ⊢; exact SymH.of HO.out HP.out B.out G1.out hq hp⟩
                have hc1 := Keep.keep (rot_any k zE enc g cb blk off cap s m e d0 d w0 wr R hds0 S1.out hA (by omega) (by omega) (by omega))
                go_wp2_with fail
                refine (hc1.out).mono ?_
                rintro e1 w1 ⟨rfl, d1, S2', H1⟩
                have S2 : Aside (SWK enc k w0 blk off d1 w1) := S2'
                have HS : Keep (SymH lx t d d1 a mid b s e) := ⟨HR.out d1 H1.at_ (perm_in H1.perm (by omega) (by omega) bs)⟩
                have hd1 : d1.size = d.size := H1.size
                clear S2' H1 S1
                obtain ⟨d2, hd2e⟩ : ∃ x, x = d1 := ⟨_, rfl⟩
                have M1 : Keep (Merged lx d1 d2 a mid) := ⟨by rw [hd2e]; exact HS.out.nofirst (by omega)⟩
                have hd2 : d2.size = d.size := by rw [hd2e]; exact hd1
                have S3 : Aside (SWK enc k w0 blk off d2 w1) := by rw [hd2e]; exact S2
                clear S2 hd2e
                generalize hw2 : w1 = w2 at S3 ⊢
                clear hw2
                go_wp2
                go_end0
                exact ⟨rfl, d2, S3.out, HS.out.done M1.out (HS.out.nosecond M1.out (by omega))⟩
          · have hN1n : ¬ (m < e) := by omega
            have zBn : ¬ ((s : Int) < (mid : Int)) := by omega
            have zNn : ¬ ((m : Int) < (e : Int)) := by omega
            by_cases hC : a < s
            · have zC : ((a : Int) < (s : Int)) := by omega
              by_cases hE : e < b
              · have zE1 : ((e : Int) < (b : Int)) := by omega
                have HR : Keep (∀ d1, (∀ q, at' d1 q = at' d (rotX s m e q)) → PermIn a b d d1 → SymH lx t d d1 a mid b s e) := ⟨fun d1 hq hp => by rw [HE.out] at hq ⊢; exact SymH.of HO.out HP.out B.out G1.out hq hp⟩
                obtain ⟨d1, hd1e⟩ : ∃ x, x = d := ⟨_, rfl⟩
                have HS : Keep (SymH lx t d d1 a mid b s e) := ⟨HR.out d1 (fun q => by rw [hd1e, rotX_none (by omega) (by omega) (by omega)]) (by rw [hd1e]; exact permIn_refl _ _ _)⟩
                have hd1 : d1.size = d.size := by rw [hd1e]
                have S2 : Aside (SWK enc k w0 blk off d1 wr) := by rw [hd1e]; exact S1
                clear S1 hd1e
                generalize hw1 : wr = w1 at S2 ⊢
                clear hw1
                obtain ⟨d2, hd2e⟩ : ∃ x, x = d1 := ⟨_, rfl⟩
                have M1 : Keep (Merged lx d1 d2 a mid) := ⟨by rw [hd2e]; exact HS.out.nofirst (by omega)⟩
                have hd2 : d2.size = d.size := by rw [hd2e]; exact hd1
                have S3 : Aside (SWK enc k w0 blk off d2 w1) := by rw [hd2e]; exact S2
                clear S2 hd2e
                generalize hw2 : w1 = w2 at S3 ⊢
                clear hw2
                have hc3 := Keep.keep (HIH.out mid e b d2 w2 (by omega) (by omega) S3.out (HS.out.second M1.out hM hE))
                rw [hd2] at hc3
                go_wp2_with fail
                refine (hc3.out).mono ?_
                rintro e3 w3 ⟨rfl, d3, S4, M2⟩
                go_wp2
                go_end0
                exact ⟨rfl, d3, S4, HS.out.done M1.out M2⟩
              · have zE1n : ¬ ((e : Int) < (b : Int)) := by omega
                have HR : Keep (∀ d1, (∀ q, at' d1 q = at' d (rotX s m e q)) → PermIn a b d d1 → SymH lx t d d1 a mid b s e) := ⟨fun d1 hq hp => by rw [HE.out] at hq ⊢; exact SymH.of HO.out HP.out B.out G1.out hq hp⟩
                obtain ⟨d1, hd1e⟩ : ∃ x, x = d := ⟨_, rfl⟩
                have HS : Keep (SymH lx t d d1 a mid b s e) := ⟨HR.out d1 (fun q => by rw [hd1e, rotX_none (by omega) (by omega) (by omega)]) (by rw [hd1e]; exact permIn_refl _ _ _)⟩
                have hd1 : d1.size = d.size := by rw [hd1e]
                have S2 : Aside (SWK enc k w0 blk off d1 wr) := by rw [hd1e]; exact S1
                clear S1 hd1e
                generalize hw1 : wr = w1 at S2 ⊢
                clear hw1
                obtain ⟨d2, hd2e⟩ : ∃ x, x = d1 := ⟨_, rfl⟩
                have M1 : Keep (Merged lx d1 d2 a mid) := ⟨by rw [hd2e]; exact HS.out.nofirst (by omega)⟩
                have hd2 : d2.size = d.size := by rw [hd2e]; exact hd1
                have S3 : Aside (SWK enc k w0 blk off d2 w1) := by rw [hd2e]; exact S2
                clear S2 hd2e
                generalize hw2 : w1 = w2 at S3 ⊢
                clear hw2
                go_wp2
                go_end0
                exact ⟨rfl, d2, S3.out, HS.out.done M1.out (HS.out.nosecond M1.out (by omega))⟩
            · have zCn : ¬ ((a : Int) < (s : Int)) := by omega
              by_cases hE : e < b
              · have zE1 : ((e : Int) < (b : Int)) := by omega
                have HR : Keep (∀ d1, (∀ q, at' d1 q = at' d (rotX s m e q)) → PermIn a b d d1 → SymH lx t d d1 a mid b s e) := ⟨fun d1 hq hp => by rw [HE.out] at hq ⊢; exact SymH.of HO.out HP.out B.out G1.out hq hp⟩
                obtain ⟨d1, hd1e⟩ : ∃ x, x = d := ⟨_, rfl⟩
                have HS : Keep (SymH lx t d d1 a mid b s e) := ⟨HR.out d1 (fun q => by rw [hd1e, rotX_none (by omega) (by omega) (by omega)]) (by rw [hd1e]; exact permIn_refl _ _ _)⟩
                have hd1 : d1.size = d.size := by rw [hd1e]
                have S2 : Aside (SWK enc k w0 blk off d1 wr) := by rw [hd1e]; exact S1
                clear S1 hd1e
                generalize hw1 : wr = w1 at S2 ⊢
                clear hw1
                obtain ⟨d2, hd2e⟩ : ∃ x, x = d1 := ⟨_, rfl⟩
                have M1 : Keep (Merged lx d1 d2 a mid) := ⟨by rw [hd2e]; exact HS.out.nofirst (by omega)⟩
                have hd2 : d2.size = d.size := by rw [hd2e]; exact hd1
                have S3 : Aside (SWK enc k w0 blk off d2 w1) := by rw [hd2e]; exact S2
                clear S2 hd2e
                generalize hw2 : w1 = w2 at S3 ⊢
                clear hw2
                have hc3 := Keep.keep (HIH.out mid e b d2 w2 (by omega) (by omega) S3.out (HS.out.second M1.out hM hE))
                rw [hd2] at hc3
                go_wp2_with fail
                refine (hc3.out).mono ?_
                rintro e3 w3 ⟨rfl, d3, S4, M2⟩
                go_wp2
                go_end0
                exact ⟨rfl, d3, S4, HS.out.done M1.out M2⟩
              · have zE1n : ¬ ((e : Int) < (b : Int)) := by omega
                have HR : Keep (∀ d1, (∀ q, at' d1 q = at' d (rotX s m e q)) → PermIn a b d d1 → SymH lx t d d1 a mid b s e) := ⟨fun d1 hq hp => by rw [HE.out] at hq ⊢; exact SymH.of HO.out HP.out B.out G1.out hq hp⟩
                obtain ⟨d1, hd1e⟩ : ∃ x, x = d := ⟨_, rfl⟩
                have HS : Keep (SymH lx t d d1 a mid b s e) := ⟨HR.out d1 (fun q => by rw [hd1e, rotX_none (by omega) (by omega) (by omega)]) (by rw [hd1e]; exact permIn_refl _ _ _)⟩
                have hd1 : d1.size = d.size := by rw [hd1e]
                have S2 : Aside (SWK enc k w0 blk off d1 wr) := by rw [hd1e]; exact S1
                clear S1 hd1e
                generalize hw1 : wr = w1 at S2 ⊢
                clear hw1
                obtain ⟨d2, hd2e⟩ : ∃ x, x = d1 := ⟨_, rfl⟩
                have M1 : Keep (Merged lx d1 d2 a mid) := ⟨by rw [hd2e]; exact HS.out.nofirst (by omega)⟩
                have hd2 : d2.size = d.size := by rw [hd2e]; exact hd1
                have S3 : Aside (SWK enc k w0 blk off d2 w1) := by rw [hd2e]; exact S2
                clear S2 hd2e
                generalize hw2 : w1 = w2 at S3 ⊢
                clear hw2
                go_wp2
                go_end0
                exact ⟨rfl, d2, S3.out, HS.out.done M1.out (HS.out.nosecond M1.out (by omega))⟩
        · have hMn : ¬ (mid < e) := by omega
          have zAn : ¬ ((s : Int) < (m : Int)) := by omega
          have zMn : ¬ ((mid : Int) < (e : Int)) := by omega
          by_cases hB : s < mid
          · have hN1 : (m < e) := by omega
            have zB : ((s : Int) < (mid : Int)) := by omega
            have zN : ((m : Int) < (e : Int)) := by omega
            by_cases hC : a < s
            · have zC : ((a : Int) < (s : Int)) := by omega
              by_cases hE : e < b
              · have zE1 : ((e : Int) < (b : Int)) := by omega
                have HR : Keep (∀ d1, (∀ q, at' d1 q = at' d (rotX s m e q)) → PermIn a b d d1 → SymH lx t d d1 a mid b s e) := ⟨fun d1 hq hp => by rw [HE.out] at hq ⊢; exact SymH.of HO.out HP.out B.out G1.out hq hp⟩
                obtain ⟨d1, hd1e⟩ : ∃ x, x = d := ⟨_, rfl⟩
                have HS : Keep (SymH lx t d d1 a mid b s e) := ⟨HR.out d1 (fun q => by rw [hd1e, rotX_none (by omega) (by omega) (by omega)]) (by rw [hd1e]; exact permIn_refl _ _ _)⟩
                have hd1 : d1.size = d.size := by rw [hd1e]
                have S2 : Aside (SWK enc k w0 blk off d1 wr) := by rw [hd1e]; exact S1
                clear S1 hd1e
                generalize hw1 : wr = w1 at S2 ⊢
                clear hw1
                have hc2 := Keep.keep (HIH.out a s mid d1 w1 (by omega) (by omega) S2.out (HS.out.first hC hB))
                rw [hd1] at hc2
                go_wp2_with fail
                refine (hc2.out).mono ?_
                rintro e2 w2 ⟨rfl, d2, S3', M1'⟩
                have S3 : Aside (SWK enc k w0 blk off d2 w2) := S3'
                have M1 : Keep (Merged lx d1 d2 a mid) := ⟨M1'⟩
                have hd2 : d2.size = d.size := M1'.1.1.trans hd1
                clear S3' M1' S2
                go_wp2
                go_end0
                exact ⟨rfl, d2, S3.out, HS.out.done M1.out (HS.out.nosecond M1.out (by omega))⟩
              · have zE1n : ¬ ((e : Int) < (b : Int)) := by omega
                have HR : Keep (∀ d1, (∀ q, at' d1 q = at' d (rotX s m e q)) → PermIn a b d d1 → SymH lx t d d1 a mid b s e) := ⟨fun d1 hq hp => by rw [HE.out] at hq ⊢; exact SymH.of HO.out HP.out B.out G1.out hq hp⟩
                obtain ⟨d1, hd1e⟩ : ∃ x, x = d := ⟨_, rfl⟩
                have HS : Keep (SymH lx t d d1 a mid b s e) := ⟨HR.out d1 (fun q => by rw [hd1e, rotX_none (by omega) (by omega) (by omega)]) (by rw [hd1e]; exact permIn_refl _ _ _)⟩
                have hd1 : d1.size = d.size := by rw [hd1e]
                have S2 : Aside (SWK enc k w0 blk off d1 wr) := by rw [hd1e]; exact S1
                clear S1 hd1e
                generalize hw1 : wr = w1 at S2 ⊢
                clear hw1
                have hc2 := Keep.keep (HIH.out a s mid d1 w1 (by omega) (by omega) S2.out (HS.out.first hC hB))
                rw [hd1] at hc2
                go_wp2_with fail
                refine (hc2.out).mono ?_
                rintro e2 w2 ⟨rfl, d2, S3', M1'⟩
                have S3 : Aside (SWK enc k w0 blk off d2 w2) := S3'
                have M1 : Keep (Merged lx d1 d2 a mid) := ⟨M1'⟩
                have hd2 : d2.size = d.size := M1'.1.1.trans hd1
                clear S3' M1' S2
                go_wp2
                go_end0
                exact ⟨rfl, d2, S3.out, HS.out.done M1.out (HS.out.nosecond M1.out (by omega))⟩
            · have zCn : ¬ ((a : Int) < (s : Int)) := by omega
              by_cases hE : e < b
              · have zE1 : ((e : Int) < (b : Int)) := by omega
                have HR : Keep (∀ d1, (∀ q, at' d1 q = at' d (rotX s m e q)) → PermIn a b d d1 → SymH lx t d d1 a mid b s e) := ⟨fun d1 hq hp => by rw [HE.out] at hq ⊢; exact SymH.of HO.out HP.out B.out G1.out hq hp⟩
                obtain ⟨d1, hd1e⟩ : ∃ x, x = d := ⟨_, rfl⟩
                have HS : Keep (SymH lx t d d1 a mid b s e) := ⟨HR.out d1 (fun q => by rw [hd1e, rotX_none (by omega) (by omega) (by omega)]) (by rw [hd1e]; exact permIn_refl _ _ _)⟩
                have hd1 : d1.size = d.size := by rw [hd1e]
                have S2 : Aside (SWK enc k w0 blk off d1 wr) := by rw [hd1e]; exact S1
                clear S1 hd1e
                generalize hw1 : wr = w1 at S2 ⊢
                clear hw1
                obtain ⟨d2, hd2e⟩ : ∃ x, x = d1 := ⟨_, rfl⟩
                have M1 : Keep (Merged lx d1 d2 a mid) := ⟨by rw [hd2e]; exact HS.out.nofirst (by omega)⟩
                have hd2 : d2.size = d.size := by rw [hd2e]; exact hd1
                have S3 : Aside (SWK enc k w0 blk off d2 w1) := by rw [hd2e]; exact S2
                clear S2 hd2e
                generalize hw2 : w1 = w2 at S3 ⊢
                clear hw2
                go_wp2
                go_end0
                exact ⟨rfl, d2, S3.out, HS.out.done M1.out (HS.out.nosecond M1.out (by omega))⟩
              · have zE1n : ¬ ((e : Int) < (b : Int)) := by omega
                have HR : Keep (∀ d1, (∀ q, at' d1 q = at' d (rotX s m e q)) → PermIn a b d d1 → SymH lx t d d1 a mid b s e) := ⟨fun d1 hq hp => by rw [HE.out] at hq ⊢; exact SymH.of HO.out HP.out B.out G1.out hq hp⟩
                obtain ⟨d1, hd1e⟩ : ∃ x, x = d := ⟨_, rfl⟩
                have HS : Keep (SymH lx t d d1 a mid b s e) := ⟨HR.out d1 (fun q => by rw [hd1e, rotX_none (by omega) (by omega) (by omega)]) (by rw [hd1e]; exact permIn_refl _ _ _)⟩
                have hd1 : d1.size = d.size := by rw [hd1e]
                have S2 : Aside (SWK enc k w0 blk off d1 wr) := by rw [hd1e]; exact S1
                clear S1 hd1e
                generalize hw1 : wr = w1 at S2 ⊢
                clear hw1
                obtain ⟨d2, hd2e⟩ : ∃ x, x = d1 := ⟨_, rfl⟩
                have M1 : Keep (Merged lx d1 d2 a mid) := ⟨by rw [hd2e]; exact HS.out.nofirst (by omega)⟩
                have hd2 : d2.size = d.size := by rw [hd2e]; exact hd1
                have S3 : Aside (SWK enc k w0 blk off d2 w1) := by rw [hd2e]; exact S2
                clear S2 hd2e
                generalize hw2 : w1 = w2 at S3 ⊢
                clear hw2
                go_wp2
                go_end0
                exact ⟨rfl, d2, S3.out, HS.out.done M1.out (HS.out.nosecond M1.out (by omega))⟩
          · have hN1n : ¬ (m < e) := by omega
            have zBn : ¬ ((s : Int) < (mid : Int)) := by omega
            have zNn : ¬ ((m : Int) < (e : Int)) := by omega
            by_cases hC : a < s
            · have zC : ((a : Int) < (s : Int)) := by omega
              by_cases hE : e < b
              · have zE1 : ((e : Int) < (b : Int)) := by omega
                have HR : Keep (∀ d1, (∀ q, at' d1 q = at' d (rotX s m e q)) → PermIn a b d d1 → SymH lx t d d1 a mid b s e) := ⟨fun d1 hq hp => by rw [HE.out] at hq ⊢; exact SymH.of HO.out HP.out B.out G1.out hq hp⟩
                obtain ⟨d1, hd1e⟩ : ∃ x, x = d := ⟨_, rfl⟩
                have HS : Keep (SymH lx t d d1 a mid b s e) := ⟨HR.out d1 (fun q => by rw [hd1e, rotX_none (by omega) (by omega) (by omega)]) (by rw [hd1e]; exact permIn_refl _ _ _)⟩
                have hd1 : d1.size = d.size := by rw [hd1e]
                have S2 : Aside (SWK enc k w0 blk off d1 wr) := by rw [hd1e]; exact S1
                clear S1 hd1e
                generalize hw1 : wr = w1 at S2 ⊢
                clear hw1
                obtain ⟨d2, hd2e⟩ : ∃ x, x = d1 := ⟨_, rfl⟩
                have M1 : Keep (Merged lx d1 d2 a mid) := ⟨by rw [hd2e]; exact HS.out.nofirst (by omega)⟩
                have hd2 : d2.size = d.size := by rw [hd2e]; exact hd1
                have S3 : Aside (SWK enc k w0 blk off d2 w1) := by rw [hd2e]; exact S2
                clear S2 hd2e
                generalize hw2 : w1 = w2 at S3 ⊢
                clear hw2
                go_wp2
                go_end0
                exact ⟨rfl, d2, S3.out, HS.out.done M1.out (HS.out.nosecond M1.out (by omega))⟩
              · have zE1n : ¬ ((e : Int) < (b : Int)) := by omega
                have HR : Keep (∀ d1, (∀ q, at' d1 q = at' d (rotX s m e q)) → PermIn a b d d1 → SymH lx t d d1 a mid b s e) := ⟨fun d1 hq hp => by rw [HE.out] at hq ⊢; exact SymH.of HO.out HP.out B.out G1.out hq hp⟩
                obtain ⟨d1, hd1e⟩ : ∃ x, x = d := ⟨_, rfl⟩
                have HS : Keep (SymH lx t d d1 a mid b s e) := ⟨HR.out d1 (fun q => by rw [hd1e, rotX_none (by omega) (by omega) (by omega)]) (by rw [hd1e]; exact permIn_refl _ _ _)⟩
                have hd1 : d1.size = d.size := by rw [hd1e]
                have S2 : Aside (SWK enc k w0 blk off d1 wr) := by rw [hd1e]; exact S1
                clear S1 hd1e
                generalize hw1 : wr = w1 at S2 ⊢
                clear hw1
                obtain ⟨d2, hd2e⟩ : ∃ x, x = d1 := ⟨_, rfl⟩
                have M1 : Keep (Merged lx d1 d2 a mid) := ⟨by rw [hd2e]; exact HS.out.nofirst (by omega)⟩
                have hd2 : d2.size = d.size := by rw [hd2e]; exact hd1
                have S3 : Aside (SWK enc k w0 blk off d2 w1) := by rw [hd2e]; exact S2
                clear S2 hd2e
                generalize hw2 : w1 = w2 at S3 ⊢
                clear hw2
                go_wp2
                go_end0
                exact ⟨rfl, d2, S3.out, HS.out.done M1.out (HS.out.nosecond M1.out (by omega))⟩
            · have zCn : ¬ ((a : Int) < (s : Int)) := by omega
              by_cases hE : e < b
              · have zE1 : ((e : Int) < (b : Int)) := by omega
                have HR : Keep (∀ d1, (∀ q, at' d1 q = at' d (rotX s m e q)) → PermIn a b d d1 → SymH lx t d d1 a mid b s e) := ⟨fun d1 hq hp => by rw [HE.out] at hq ⊢; exact SymH.of HO.out HP.out B.out G1.out hq hp⟩
                obtain ⟨d1, hd1e⟩ : ∃ x, x = d := ⟨_, rfl⟩
                have HS : Keep (SymH lx t d d1 a mid b s e) := ⟨HR.out d1 (fun q => by rw [hd1e, rotX_none (by omega) (by omega) (by omega)]) (by rw [hd1e]; exact permIn_refl _ _ _)⟩
                have hd1 : d1.size = d.size := by rw [hd1e]
                have S2 : Aside (SWK enc k w0 blk off d1 wr) := by rw [hd1e]; exact S1
                clear S1 hd1e
                generalize hw1 : wr = w1 at S2 ⊢
                clear hw1
                obtain ⟨d2, hd2e⟩ : ∃ x, x = d1 := ⟨_, rfl⟩
                have M1 : Keep (Merged lx d1 d2 a mid) := ⟨by rw [hd2e]; exact HS.out.nofirst (by omega)⟩
                have hd2 : d2.size = d.size := by rw [hd2e]; exact hd1
                have S3 : Aside (SWK enc k w0 blk off d2 w1) := by rw [hd2e]; exact S2
                clear S2 hd2e
                generalize hw2 : w1 = w2 at S3 ⊢
                clear hw2
                go_wp2
                go_end0
                exact ⟨rfl, d2, S3.out, HS.out.done M1.out (HS.out.nosecond M1.out (by omega))⟩
              · have zE1n : ¬ ((e : Int) < (b : Int)) := by omega
                have HR : Keep (∀ d1, (∀ q, at' d1 q = at' d (rotX s m e q)) → PermIn a b d d1 → SymH lx t d d1 a mid b s e) := ⟨fun d1 hq hp => by rw [HE.out] at hq ⊢; exact SymH.of HO.out HP.out B.out G1.out hq hp⟩
                obtain ⟨d1, hd1e⟩ : ∃ x, x = d := ⟨_, rfl⟩
                have HS : Keep (SymH lx t d d1 a mid b s e) := ⟨HR.out d1 (fun q => by rw [hd1e, rotX_none (by omega) (by omega) (by omega)]) (by rw [hd1e]; exact permIn_refl _ _ _)⟩
                have hd1 : d1.size = d.size := by rw [hd1e]
                have S2 : Aside (SWK enc k w0 blk off d1 wr) := by rw [hd1e]; exact S1
                clear S1 hd1e
                generalize hw1 : wr = w1 at S2 ⊢
                clear hw1
                obtain ⟨d2, hd2e⟩ : ∃ x, x = d1 := ⟨_, rfl⟩
                have M1 : Keep (Merged lx d1 d2 a mid) := ⟨by rw [hd2e]; exact HS.out.nofirst (by omega)⟩
                have hd2 : d2.size = d.size := by rw [hd2e]; exact hd1
                have S3 : Aside (SWK enc k w0 blk off d2 w1) := by rw [hd2e]; exact S2
                clear S2 hd2e
                generalize hw2 : w1 = w2 at S3 ⊢
                clear hw2
                go_wp2
                go_end0
                exact ⟨rfl, d2, S3.out, HS.out.done M1.out (HS.out.nosecond M1.out (by omega))⟩
  · have hmz : ¬ (mid : Int) < (m : Int) := by omega
    have B : Aside (CutB a m b mid p a m) := ⟨by omega, by omega, by rw [if_neg hmm], by rw [if_neg hmm]⟩
    have fmid : 2 * mid ≤ a + b ∧ a + b ≤ 2 * mid + 1 := by omega
    have fnn : nn ≤ mid + m ∧ mid + m ≤ nn := by omega
    have fp : p + 1 ≤ nn ∧ nn ≤ p + 1 := by omega
    clear hmid0 hnn hp
    go_enter Tryz.func136, Tryz.ntmps136
    go_wp2
    obtain ⟨b1, b2, b3, b4, b5, b6, b7⟩ := B.out.bnd am mb
    go_loopg [20, 21] (m - a) (fun kx s20 s21 wr => ∃ (i j : Nat), s20 = .int .i64 i ∧ s21 = .int .i64 j ∧ a ≤ i ∧ i ≤ j ∧ j ≤ m ∧ j - i ≤ kx ∧ Aside (SWK enc k w0 blk off d wr) ∧ Aside (SeaC lx d p a m i j))
    case atStart => exact ⟨a, m, by go_num, by go_num, Nat.le_refl _, b2, Nat.le_refl _, Nat.le_refl _, S0, SeaC.start b2⟩
    case round =>
      clear S0
      obtain ⟨i, j, rfl, rfl, hmi, hij, hjb, hkx, S1, G1⟩ := hrel
      by_cases hlt : i < j
      · have hltz : (i : Int) < (j : Int) := by omega
        obtain ⟨c, hc0⟩ : ∃ x, x = (i + j) / 2 := ⟨_, rfl⟩
        have rdc : ((i : Int) + (j : Int)) / 2 = (c : Int) := by omega
        have hih : i ≤ c ∧ c < j := by omega
        have hb4 := b4 c (by omega) (by omega)
        obtain ⟨q, hq⟩ : ∃ x, x = p - c := ⟨_, rfl⟩
        have rq : (p : Int) - (c : Int) = (q : Int) := by omega
        have rqw : IntKind.i64.wrap (q : Int) = (q : Int) := by rw [IntKind.wrap_i64]; omega
        have hqd : q < d.size := by omega
        have rqn : p - c = q := hq.symm
        have B4 := Keep.keep b4
        clear b4
        obtain ⟨dk, hdk⟩ : ∃ x, x = d := ⟨_, rfl⟩
        have hdks : dk.size = d.size := by rw [hdk]
        rw [← hdk] at S1
        cases hL : ltOf cf dk[q]! dk[c]! with
        | true =>
          have G2 : Aside (SeaC lx d p a m i c) := by
            rw [hq] at hL
            subst hdk
            exact SeaC.yes HO.out HP.out B.out G1.out hih.1 hih.2 hL
          clear hc0 hq hb4
          have bx7 : ((q : Nat) : Int) < (d.size : Int) := by omega
          have by7 : ((c : Nat) : Int) < (d.size : Int) := by omega
          have hv7 : decide (cf dk[q]! dk[c]! < 0) = true := hL
          obtain ⟨x7, hx7⟩ : ∃ x, x = dk[q]! := ⟨_, rfl⟩
          obtain ⟨y7, hy7⟩ : ∃ x, x = dk[c]! := ⟨_, rfl⟩
          have la7 := S1.out.ld R (by omega) Tryz.prog (q) (by omega)
          have lb7 := S1.out.ld R (by omega) Tryz.prog (c) (by omega)
          rw [← hx7] at la7 hv7
          rw [← hy7] at lb7 hv7
          have hc7 := S1.out.cmp HC.out (by omega) x7 y7
          have hw7 : cf x7 y7 < 0 := of_decide_eq_true hv7
          clear hx7 hy7
          go_wp2_with fail
          go_quiet_grown (first | (go_at_fn g; refine Calls.grown_of (hc7 _ _)))
          have S2 : Aside (SWK enc k w0 blk off dk (grow (wr.drewN nq) osq)) := S1.out.grown nq osq
          clear la7 lb7 hc7 S1
          generalize grow (wr.drewN nq) osq = w2 at S2 ⊢
          clear nq osq
          rw [hdk] at S2
          go_wp2
          go_roundg (c - i)
          case measure => omega
          case rel => exact ⟨i, c, rfl, by go_num, hmi, by omega, by omega, Nat.le_refl _, S2, G2⟩
        | false =>
          have G2 : Aside (SeaC lx d p a m (c + 1) j) := by
            rw [hq] at hL
            subst hdk
            exact SeaC.no HO.out HP.out B.out G1.out hih.1 hih.2 hL
          clear hc0 hq hb4
          have bx8 : ((q : Nat) : Int) < (d.size : Int) := by omega
          have by8 : ((c : Nat) : Int) < (d.size : Int) := by omega
          have hv8 : decide (cf dk[q]! dk[c]! < 0) = false := hL
          obtain ⟨x8, hx8⟩ : ∃ x, x = dk[q]! := ⟨_, rfl⟩
          obtain ⟨y8, hy8⟩ : ∃ x, x = dk[c]! := ⟨_, rfl⟩
          have la8 := S1.out.ld R (by omega) Tryz.prog (q) (by omega)
          have lb8 := S1.out.ld R (by omega) Tryz.prog (c) (by omega)
          rw [← hx8] at la8 hv8
          rw [← hy8] at lb8 hv8
          have hc8 := S1.out.cmp HC.out (by omega) x8 y8
          have hw8 : ¬ cf x8 y8 < 0 := of_decide_eq_false hv8
          clear hx8 hy8
          go_wp2_with fail
          go_quiet_grown (first | (go_at_fn g; refine Calls.grown_of (hc8 _ _)))
          have S2 : Aside (SWK enc k w0 blk off dk (grow (wr.drewN nq) osq)) := S1.out.grown nq osq
          clear la8 lb8 hc8 S1
          generalize grow (wr.drewN nq) osq = w2 at S2 ⊢
          clear nq osq
          rw [hdk] at S2
          go_wp2
          go_roundg (j - (c + 1))
          case measure => omega
          case rel => exact ⟨c + 1, j, by go_num, rfl, by omega, by omega, hjb, Nat.le_refl _, S2, G2⟩
      · have hltz : ¬ (i : Int) < (j : Int) := by omega
        obtain rfl : i = j := by omega
        obtain ⟨s, hse⟩ : ∃ x, x = i := ⟨_, rfl⟩
        rw [← hse] at hmi hjb G1 ⊢
        clear hse hltz hlt hij
        obtain ⟨e, he⟩ : ∃ x, x = mid + m - s := ⟨_, rfl⟩
        have re : (nn : Int) - (s : Int) = (e : Int) := by omega
        have rew : IntKind.i64.wrap (e : Int) = (e : Int) := by rw [IntKind.wrap_i64]; omega
        have hbe : a ≤ s ∧ s ≤ m ∧ m ≤ e ∧ e ≤ b ∧ s ≤ mid ∧ mid ≤ e := by omega
        have HE : Keep (e = mid + m - s) := ⟨he⟩
        have fe : e + s ≤ mid + m ∧ mid + m ≤ e + s := by omega
        clear he
        by_cases hA : s < m
        · have hM : (mid < e) := by omega
          have zA : ((s : Int) < (m : Int)) := by omega
          have zM : ((mid : Int) < (e : Int)) := by omega
          by_cases hB : s < mid
          · have hN1 : (m < e) := by omega
            have zB : ((s : Int) < (mid : Int)) := by omega
            have zN : ((m : Int) < (e : Int)) := by omega
            by_cases hC : a < s
            · have zC : ((a : Int) < (s : Int)) := by omega
              by_cases hE : e < b
              · have zE1 : ((e : Int) < (b : Int)) := by omega
                have HR : Keep (∀ d1, (∀ q, at' d1 q = at' d (rotX s m e q)) → PermIn a b d d1 → SymH lx t d d1 a mid b s e) := ⟨fun d1 hq hp => by rw [HE.out] at hq ⊢; exact SymH.of HO.out HP.out B.out G1.out hq hp⟩
                have hc1 := Keep.keep (rot_any k zE enc g cb blk off cap s m e d0 d w0 wr R hds0 S1.out hA (by omega) (by omega) (by omega))
                go_wp2_with fail
                refine (hc1.out).mono ?_
                rintro e1 w1 ⟨rfl, d1, S2', H1⟩
                have S2 : Aside (SWK enc k w0 blk off d1 w1) := S2'
                have HS : Keep (SymH lx t d d1 a mid b s e) := ⟨HR.out d1 H1.at_ (perm_in H1.perm (by omega) (by omega) bs)⟩
                have hd1 : d1.size = d.size := H1.size
                clear S2' H1 S1
                have hc2 := Keep.keep (HIH.out a s mid d1 w1 (by omega) (by omega) S2.out (HS.out.first hC hB))
                rw [hd1] at hc2
                go_wp2_with fail
                refine (hc2.out).mono ?_
                rintro e2 w2 ⟨rfl, d2, S3', M1'⟩
                have S3 : Aside (SWK enc k w0 blk off d2 w2) := S3'
                have M1 : Keep (Merged lx d1 d2 a mid) := ⟨M1'⟩
                have hd2 : d2.size = d.size := M1'.1.1.trans hd1
                clear S3' M1' S2
                have hc3 := Keep.keep (HIH.out mid e b d2 w2 (by omega) (by omega) S3.out (HS.out.second M1.out hM hE))
                rw [hd2] at hc3
                go_wp2_with fail
                refine (hc3.out).mono ?_
                rintro e3 w3 ⟨rfl, d3, S4, M2⟩
                go_wp2
                go_end0
                exact ⟨rfl, d3, S4, HS.out.done M1.out M2⟩
              · have zE1n : ¬ ((e : Int) < (b : Int)) := by omega
                have HR : Keep (∀ d1, (∀ q, at' d1 q = at' d (rotX s m e q)) → PermIn a b d d1 → SymH lx t d d1 a mid b s e) := ⟨fun d1 hq hp => by rw [HE.out] at hq ⊢; exact SymH.of HO.out HP.out B.out G1.out hq hp⟩
                have hc1 := Keep.keep (rot_any k zE enc g cb blk off cap s m e d0 d w0 wr R hds0 S1.out hA (by omega) (by omega) (by omega))
                go_wp2_with fail
                refine (hc1.out).mono ?_
                rintro e1 w1 ⟨rfl, d1, S2', H1⟩
                have S2 : Aside (SWK enc k w0 blk off d1 w1) := S2'
                have HS : Keep (SymH lx t d d1 a mid b s e) := ⟨HR.out d1 H1.at_ (perm_in H1.perm (by omega) (by omega) bs)⟩
                have hd1 : d1.size = d.size := H1.size
                clear S2' H1 S1
                have hc2 := Keep.keep (HIH.out a s mid d1 w1 (by omega) (by omega) S2.out (HS.out.first hC hB))
                rw [hd1] at hc2
                go_wp2_with fail
                refine (hc2.out).mono ?_
                rintro e2 w2 ⟨rfl, d2, S3', M1'⟩
                have S3 : Aside (SWK enc k w0 blk off d2 w2) := S3'
                have M1 : Keep (Merged lx d1 d2 a mid) := ⟨M1'⟩
                have hd2 : d2.size = d.size := M1'.1.1.trans hd1
                clear S3' M1' S2
                go_wp2
                go_end0
                exact ⟨rfl, d2, S3.out, HS.out.done M1.out (HS.out.nosecond M1.out (by omega))⟩
            · have zCn : ¬ ((a : Int) < (s : Int)) := by omega
              by_cases hE : e < b
              · have zE1 : ((e : Int) < (b : Int)) := by omega
                have HR : Keep (∀ d1, (∀ q, at' d1 q = at' d (rotX s m e q)) → PermIn a b d d1 → SymH lx t d d1 a mid b s e) := ⟨fun d1 hq hp => by rw [HE.out] at hq ⊢; exact SymH.of HO.out HP.out B.out G1.out hq hp⟩
                have hc1 := Keep.keep (rot_any k zE enc g cb blk off cap s m e d0 d w0 wr R hds0 S1.out hA (by omega) (by omega) (by omega))
                go_wp2_with fail
                refine (hc1.out).mono ?_
                rintro e1 w1 ⟨rfl, d1, S2', H1⟩
                have S2 : Aside (SWK enc k w0 blk off d1 w1) := S2'
                have HS : Keep (SymH lx t d d1 a mid b s e) := ⟨HR.out d1 H1.at_ (perm_in H1.perm (by omega) (by omega) bs)⟩
                have hd1 : d1.size = d.size := H1.size
                clear S2' H1 S1
                obtain ⟨d2, hd2e⟩ : ∃ x, x = d1 := ⟨_, rfl⟩
                have M1 : Keep (Merged lx d1 d2 a mid) := ⟨by rw [hd2e]; exact HS.out.nofirst (by omega)⟩
                have hd2 : d2.size = d.size := by rw [hd2e]; exact hd1
                have S3 : Aside (SWK enc k w0 blk off d2 w1) := by rw [hd2e]; exact S2
                clear S2 hd2e
                generalize hw2 : w1 = w2 at S3 ⊢
                clear hw2
                have hc3 := Keep.keep (HIH.out mid e b d2 w2 (by omega) (by omega) S3.out (HS.out.second M1.out hM hE))
                rw [hd2] at hc3
                go_wp2_with fail
                refine (hc3.out).mono ?_
                rintro e3 w3 ⟨rfl, d3, S4, M2⟩
                go_wp2
                go_end0
                exact ⟨rfl, d3, S4, HS.out.done M1.out M2⟩
              · have zE1n : ¬ ((e : Int) < (b : Int)) := by omega
                have HR : Keep (∀ d1, (∀ q, at' d1 q = at' d (rotX s m e q)) → PermIn a b d d1 → SymH lx t d d1 a mid b s e) := ⟨fun d1 hq hp => by rw [HE.out] at hq ⊢; exact SymH.of HO.out HP.out B.out G1.out hq hp⟩
                have hc1 := Keep.keep (rot_any k zE enc g cb blk off cap s m e d0 d w0 wr R hds0 S1.out hA (by omega) (by omega) (by omega))
                go_wp2_with fail
                refine (hc1.out).mono ?_
                rintro e1 w1 ⟨rfl, d1, S2', H1⟩
                have S2 : Aside (SWK enc k w0 blk off d1 w1) := S2'
                have HS : Keep (SymH lx t d d1 a mid b s e) := ⟨HR.out d1 H1.at_ (perm_in H1.perm (by omega) (by omega) bs)⟩
                have hd1 : d1.size = d.size := H1.size
                clear S2' H1 S1
                obtain ⟨d2, hd2e⟩ : ∃ x, x = d1 := ⟨_, rfl⟩
                have M1 : Keep (Merged lx d1 d2 a mid) := ⟨by rw [hd2e]; exact HS.out.nofirst (by omega)⟩
                have hd2 : d2.size = d.size := by rw [hd2e]; exact hd1
                have S3 : Aside (SWK enc k w0 blk off d2 w1) := by rw [hd2e]; exact S2
                clear S2 hd2e
                generalize hw2 : w1 = w2 at S3 ⊢
                clear hw2
                go_wp2
                go_end0
                exact ⟨rfl, d2, S3.out, HS.out.done M1.out (HS.out.nosecond M1.out (by omega))⟩
          · have hN1n : ¬ (m < e) := by omega
            have zBn : ¬ ((s : Int) < (mid : Int)) := by omega
            have zNn : ¬ ((m : Int) < (e : Int)) := by omega
            by_cases hC : a < s
            · have zC : ((a : Int) < (s : Int)) := by omega
              by_cases hE : e < b
              · have zE1 : ((e : Int) < (b : Int)) := by omega
                have HR : Keep (∀ d1, (∀ q, at' d1 q = at' d (rotX s m e q)) → PermIn a b d d1 → SymH lx t d d1 a mid b s e) := ⟨fun d1 hq hp => by rw [HE.out] at hq ⊢; exact SymH.of HO.out HP.out B.out G1.out hq hp⟩
                obtain ⟨d1, hd1e⟩ : ∃ x, x = d := ⟨_, rfl⟩
                have HS : Keep (SymH lx t d d1 a mid b s e) := ⟨HR.out d1 (fun q => by rw [hd1e, rotX_none (by omega) (by omega) (by omega)]) (by rw [hd1e]; exact permIn_refl _ _ _)⟩
                have hd1 : d1.size = d.size := by rw [hd1e]
                have S2 : Aside (SWK enc k w0 blk off d1 wr) := by rw [hd1e]; exact S1
                clear S1 hd1e
                generalize hw1 : wr = w1 at S2 ⊢
                clear hw1
                obtain ⟨d2, hd2e⟩ : ∃ x, x = d1 := ⟨_, rfl⟩
                have M1 : Keep (Merged lx d1 d2 a mid) := ⟨by rw [hd2e]; exact HS.out.nofirst (by omega)⟩
                have hd2 : d2.size = d.size := by rw [hd2e]; exact hd1
                have S3 : Aside (SWK enc k w0 blk off d2 w1) := by rw [hd2e]; exact S2
                clear S2 hd2e
                generalize hw2 : w1 = w2 at S3 ⊢
                clear hw2
                have hc3 := Keep.keep (HIH.out mid e b d2 w2 (by omega) (by omega) S3.out (HS.out.second M1.out hM hE))
                rw [hd2] at hc3
                go_wp2_with fail
                refine (hc3.out).mono ?_
                rintro e3 w3 ⟨rfl, d3, S4, M2⟩
                go_wp2
                go_end0
                exact ⟨rfl, d3, S4, HS.out.done M1.out M2⟩
              · have zE1n : ¬ ((e : Int) < (b : Int)) := by omega
                have HR : Keep (∀ d1, (∀ q, at' d1 q = at' d (rotX s m e q)) → PermIn a b d d1 → SymH lx t d d1 a mid b s e) := ⟨fun d1 hq hp => by rw [HE.out] at hq ⊢; exact SymH.of HO.out HP.out B.out G1.out hq hp⟩
                obtain ⟨d1, hd1e⟩ : ∃ x, x = d := ⟨_, rfl⟩
                have HS : Keep (SymH lx t d d1 a mid b s e) := ⟨HR.out d1 (fun q => by rw [hd1e, rotX_none (by omega) (by omega) (by omega)]) (by rw [hd1e]; exact permIn_refl _ _ _)⟩
                have hd1 : d1.size = d.size := by rw [hd1e]
                have S2 : Aside (SWK enc k w0 blk off d1 wr) := by rw [hd1e]; exact S1
                clear S1 hd1e
                generalize hw1 : wr = w1 at S2 ⊢
                clear hw1
                obtain ⟨d2, hd2e⟩ : ∃ x, x = d1 := ⟨_, rfl⟩
                have M1 : Keep (Merged lx d1 d2 a mid) := ⟨by rw [hd2e]; exact HS.out.nofirst (by omega)⟩
                have hd2 : d2.size = d.size := by rw [hd2e]; exact hd1
                have S3 : Aside (SWK enc k w0 blk off d2 w1) := by rw [hd2e]; exact S2
                clear S2 hd2e
                generalize hw2 : w1 = w2 at S3 ⊢
                clear hw2
                go_wp2
                go_end0
                exact ⟨rfl, d2, S3.out, HS.out.done M1.out (HS.out.nosecond M1.out (by omega))⟩
            · have zCn : ¬ ((a : Int) < (s : Int)) := by omega
              by_cases hE : e < b
              · have zE1 : ((e : Int) < (b : Int)) := by omega
                have HR : Keep (∀ d1, (∀ q, at' d1 q = at' d (rotX s m e q)) → PermIn a b d d1 → SymH lx t d d1 a mid b s e) := ⟨fun d1 hq hp => by rw [HE.out] at hq ⊢; exact SymH.of HO.out HP.out B.out G1.out hq hp⟩
                obtain ⟨d1, hd1e⟩ : ∃ x, x = d := ⟨_, rfl⟩
                have HS : Keep (SymH lx t d d1 a mid b s e) := ⟨HR.out d1 (fun q => by rw [hd1e, rotX_none (by omega) (by omega) (by omega)]) (by rw [hd1e]; exact permIn_refl _ _ _)⟩
                have hd1 : d1.size = d.size := by rw [hd1e]
                have S2 : Aside (SWK enc k w0 blk off d1 wr) := by rw [hd1e]; exact S1
                clear S1 hd1e
                generalize hw1 : wr = w1 at S2 ⊢
                clear hw1
                obtain ⟨d2, hd2e⟩ : ∃ x, x = d1 := ⟨_, rfl⟩
                have M1 : Keep (Merged lx d1 d2 a mid) := ⟨by rw [hd2e]; exact HS.out.nofirst (by omega)⟩
                have hd2 : d2.size = d.size := by rw [hd2e]; exact hd1
                have S3 : Aside (SWK enc k w0 blk off d2 w1) := by rw [hd2e]; exact S2
                clear S2 hd2e
                generalize hw2 : w1 = w2 at S3 ⊢
                clear hw2
                have hc3 := Keep.keep (HIH.out mid e b d2 w2 (by omega) (by omega) S3.out (HS.out.second M1.out hM hE))
                rw [hd2] at hc3
                go_wp2_with fail
                refine (hc3.out).mono ?_
                rintro e3 w3 ⟨rfl, d3, S4, M2⟩
                go_wp2
                go_end0
                exact ⟨rfl, d3, S4, HS.out.done M1.out M2⟩
              · have zE1n : ¬ ((e : Int) < (b : Int)) := by omega
                have HR : Keep (∀ d1, (∀ q, at' d1 q = at' d (rotX s m e q)) → PermIn a b d d1 → SymH lx t d d1 a mid b s e) := ⟨fun d1 hq hp => by rw [HE.out] at hq ⊢; exact SymH.of HO.out HP.out B.out G1.out hq hp⟩
                obtain ⟨d1, hd1e⟩ : ∃ x, x = d := ⟨_, rfl⟩
                have HS : Keep (SymH lx t d d1 a mid b s e) := ⟨HR.out d1 (fun q => by rw [hd1e, rotX_none (by omega) (by omega) (by omega)]) (by rw [hd1e]; exact permIn_refl _ _ _)⟩
                have hd1 : d1.size = d.size := by rw [hd1e]
                have S2 : Aside (SWK enc k w0 blk off d1 wr) := by rw [hd1e]; exact S1
                clear S1 hd1e
                generalize hw1 : wr = w1 at S2 ⊢
                clear hw1
                obtain ⟨d2, hd2e⟩ : ∃ x, x = d1 := ⟨_, rfl⟩
                have M1 : Keep (Merged lx d1 d2 a mid) := ⟨by rw [hd2e]; exact HS.out.nofirst (by omega)⟩
                have hd2 : d2.size = d.size := by rw [hd2e]; exact hd1
                have S3 : Aside (SWK enc k w0 blk off d2 w1) := by rw [hd2e]; exact S2
                clear S2 hd2e
                generalize hw2 : w1 = w2 at S3 ⊢
                clear hw2
                go_wp2
                go_end0
                exact ⟨rfl, d2, S3.out, HS.out.done M1.out (HS.out.nosecond M1.out (by omega))⟩
        · have hMn : ¬ (mid < e) := by omega
          have zAn : ¬ ((s : Int) < (m : Int)) := by omega
          have zMn : ¬ ((mid : Int) < (e : Int)) := by omega
          by_cases hB : s < mid
          · have hN1 : (m < e) := by omega
            have zB : ((s : Int) < (mid : Int)) := by omega
            have zN : ((m : Int) < (e : Int)) := by omega
            by_cases hC : a < s
            · have zC : ((a : Int) < (s : Int)) := by omega
              by_cases hE : e < b
              · have zE1 : ((e : Int) < (b : Int)) := by omega
                have HR : Keep (∀ d1, (∀ q, at' d1 q = at' d (rotX s m e q)) → PermIn a b d d1 → SymH lx t d d1 a mid b s e) := ⟨fun d1 hq hp => by rw [HE.out] at hq ⊢; exact SymH.of HO.out HP.out B.out G1.out hq hp⟩
                obtain ⟨d1, hd1e⟩ : ∃ x, x = d := ⟨_, rfl⟩
                have HS : Keep (SymH lx t d d1 a mid b s e) := ⟨HR.out d1 (fun q => by rw [hd1e, rotX_none (by omega) (by omega) (by omega)]) (by rw [hd1e]; exact permIn_refl _ _ _)⟩
                have hd1 : d1.size = d.size := by rw [hd1e]
                have S2 : Aside (SWK enc k w0 blk off d1 wr) := by rw [hd1e]; exact S1
                clear S1 hd1e
                generalize hw1 : wr = w1 at S2 ⊢
                clear hw1
                have hc2 := Keep.keep (HIH.out a s mid d1 w1 (by omega) (by omega) S2.out (HS.out.first hC hB))
                rw [hd1] at hc2
                go_wp2_with fail
                refine (hc2.out).mono ?_
                rintro e2 w2 ⟨rfl, d2, S3', M1'⟩
                have S3 : Aside (SWK enc k w0 blk off d2 w2) := S3'
                have M1 : Keep (Merged lx d1 d2 a mid) := ⟨M1'⟩
                have hd2 : d2.size = d.size := M1'.1.1.trans hd1
                clear S3' M1' S2
                go_wp2
                go_end0
                exact ⟨rfl, d2, S3.out, HS.out.done M1.out (HS.out.nosecond M1.out (by omega))⟩
              · have zE1n : ¬ ((e : Int) < (b : Int)) := by omega
                have HR : Keep (∀ d1, (∀ q, at' d1 q = at' d (rotX s m e q)) → PermIn a b d d1 → SymH lx t d d1 a mid b s e) := ⟨fun d1 hq hp => by rw [HE.out] at hq ⊢; exact SymH.of HO.out HP.out B.out G1.out hq hp⟩
                obtain ⟨d1, hd1e⟩ : ∃ x, x = d := ⟨_, rfl⟩
                have HS : Keep (SymH lx t d d1 a mid b s e) := ⟨HR.out d1 (fun q => by rw [hd1e, rotX_none (by omega) (by omega) (by omega)]) (by rw [hd1e]; exact permIn_refl _ _ _)⟩
                have hd1 : d1.size = d.size := by rw [hd1e]
                have S2 : Aside (SWK enc k w0 blk off d1 wr) := by rw [hd1e]; exact S1
                clear S1 hd1e
                generalize hw1 : wr = w1 at S2 ⊢
                clear hw1
                have hc2 := Keep.keep (HIH.out a s mid d1 w1 (by omega) (by omega) S2.out (HS.out.first hC hB))
                rw [hd1] at hc2
                go_wp2_with fail
                refine (hc2.out).mono ?_
                rintro e2 w2 ⟨rfl, d2, S3', M1'⟩
                have S3 : Aside (SWK enc k w0 blk off d2 w2) := S3'
                have M1 : Keep (Merged lx d1 d2 a mid) := ⟨M1'⟩
                have hd2 : d2.size = d.size := M1'.1.1.trans hd1
                clear S3' M1' S2
                go_wp2
                go_end0
                exact ⟨rfl, d2, S3.out, HS.out.done M1.out (HS.out.nosecond M1.out (by omega))⟩
            · have zCn : ¬ ((a : Int) < (s : Int)) := by omega
              by_cases hE : e < b
              · have zE1 : ((e : Int) < (b : Int)) := by omega
                have HR : Keep (∀ d1, (∀ q, at' d1 q = at' d (rotX s m e q)) → PermIn a b d d1 → SymH lx t d d1 a mid b s e) := ⟨fun d1 hq hp => by rw [HE.out] at hq ⊢; exact SymH.of HO.out HP.out B.out G1.out hq hp⟩
                obtain ⟨d1, hd1e⟩ : ∃ x, x = d := ⟨_, rfl⟩
                have HS : Keep (SymH lx t d d1 a mid b s e) := ⟨HR.out d1 (fun q => by rw [hd1e, rotX_none (by omega) (by omega) (by omega)]) (by rw [hd1e]; exact permIn_refl _ _ _)⟩
                have hd1 : d1.size = d.size := by rw [hd1e]
                have S2 : Aside (SWK enc k w0 blk off d1 wr) := by rw [hd1e]; exact S1
                clear S1 hd1e
                generalize hw1 : wr = w1 at S2 ⊢
                clear hw1
                obtain ⟨d2, hd2e⟩ : ∃ x, x = d1 := ⟨_, rfl⟩
                have M1 : Keep (Merged lx d1 d2 a mid) := ⟨by rw [hd2e]; exact HS.out.nofirst (by omega)⟩
                have hd2 : d2.size = d.size := by rw [hd2e]; exact hd1
                have S3 : Aside (SWK enc k w0 blk off d2 w1) := by rw [hd2e]; exact S2
                clear S2 hd2e
                generalize hw2 : w1 = w2 at S3 ⊢
                clear hw2
                go_wp2
                go_end0
                exact ⟨rfl, d2, S3.out, HS.out.done M1.out (HS.out.nosecond M1.out (by omega))⟩
              · have zE1n : ¬ ((e : Int) < (b : Int)) := by omega
                have HR : Keep (∀ d1, (∀ q, at' d1 q = at' d (rotX s m e q)) → PermIn a b d d1 → SymH lx t d d1 a mid b s e) := ⟨fun d1 hq hp => by rw [HE.out] at hq ⊢; exact SymH.of HO.out HP.out B.out G1.out hq hp⟩
                obtain ⟨d1, hd1e⟩ : ∃ x, x = d := ⟨_, rfl⟩
                have HS : Keep (SymH lx t d d1 a mid b s e) := ⟨HR.out d1 (fun q => by rw [hd1e, rotX_none (by omega) (by omega) (by omega)]) (by rw [hd1e]; exact permIn_refl _ _ _)⟩
                have hd1 : d1.size = d.size := by rw [hd1e]
                have S2 : Aside (SWK enc k w0 blk off d1 wr) := by rw [hd1e]; exact S1
                clear S1 hd1e
                generalize hw1 : wr = w1 at S2 ⊢
                clear hw1
                obtain ⟨d2, hd2e⟩ : ∃ x, x = d1 := ⟨_, rfl⟩
                have M1 : Keep (Merged lx d1 d2 a mid) := ⟨by rw [hd2e]; exact HS.out.nofirst (by omega)⟩
                have hd2 : d2.size = d.size := by rw [hd2e]; exact hd1
                have S3 : Aside (SWK enc k w0 blk off d2 w1) := by rw [hd2e]; exact S2
                clear S2 hd2e
                generalize hw2 : w1 = w2 at S3 ⊢
                clear hw2
                go_wp2
                go_end0
                exact ⟨rfl, d2, S3.out, HS.out.done M1.out (HS.out.nosecond M1.out (by omega))⟩
          · have hN1n : ¬ (m < e) := by omega
            have zBn : ¬ ((s : Int) < (mid : Int)) := by omega
            have zNn : ¬ ((m : Int) < (e : Int)) := by omega
            by_cases hC : a < s
            · have zC : ((a : Int) < (s : Int)) := by omega
              by_cases hE : e < b
              · have zE1 : ((e : Int) < (b : Int)) := by omega
                have HR : Keep (∀ d1, (∀ q, at' d1 q = at' d (rotX s m e q)) → PermIn a b d d1 → SymH lx t d d1 a mid b s e) := ⟨fun d1 hq hp => by rw [HE.out] at hq ⊢; exact SymH.of HO.out HP.out B.out G1.out hq hp⟩
                obtain ⟨d1, hd1e⟩ : ∃ x, x = d := ⟨_, rfl⟩
                have HS : Keep (SymH lx t d d1 a mid b s e) := ⟨HR.out d1 (fun q => by rw [hd1e, rotX_none (by omega) (by omega) (by omega)]) (by rw [hd1e]; exact permIn_refl _ _ _)⟩
                have hd1 : d1.size = d.size := by rw [hd1e]
                have S2 : Aside (SWK enc k w0 blk off d1 wr) := by rw [hd1e]; exact S1
                clear S1 hd1e
                generalize hw1 : wr = w1 at S2 ⊢
                clear hw1
                obtain ⟨d2, hd2e⟩ : ∃ x, x = d1 := ⟨_, rfl⟩
                have M1 : Keep (Merged lx d1 d2 a mid) := ⟨by rw [hd2e]; exact HS.out.nofirst (by omega)⟩
                have hd2 : d2.size = d.size := by rw [hd2e]; exact hd1
                have S3 : Aside (SWK enc k w0 blk off d2 w1) := by rw [hd2e]; exact S2
                clear S2 hd2e
                generalize hw2 : w1 = w2 at S3 ⊢
                clear hw2
                go_wp2
                go_end0
                exact ⟨rfl, d2, S3.out, HS.out.done M1.out (HS.out.nosecond M1.out (by omega))⟩
              · have zE1n : ¬ ((e : Int) < (b : Int)) := by omega
                have HR : Keep (∀ d1, (∀ q, at' d1 q = at' d (rotX s m e q)) → PermIn a b d d1 → SymH lx t d d1 a mid b s e) := ⟨fun d1 hq hp => by rw [HE.out] at hq ⊢; exact SymH.of HO.out HP.out B.out G1.out hq hp⟩
                obtain ⟨d1, hd1e⟩ : ∃ x, x = d := ⟨_, rfl⟩
                have HS : Keep (SymH lx t d d1 a mid b s e) := ⟨HR.out d1 (fun q => by rw [hd1e, rotX_none (by omega) (by omega) (by omega)]) (by rw [hd1e]; exact permIn_refl _ _ _)⟩
                have hd1 : d1.size = d.size := by rw [hd1e]
                have S2 : Aside (SWK enc k w0 blk off d1 wr) := by rw [hd1e]; exact S1
                clear S1 hd1e
                generalize hw1 : wr = w1 at S2 ⊢
                clear hw1
                obtain ⟨d2, hd2e⟩ : ∃ x, x = d1 := ⟨_, rfl⟩
                have M1 : Keep (Merged lx d1 d2 a mid) := ⟨by rw [hd2e]; exact HS.out.nofirst (by omega)⟩
                have hd2 : d2.size = d.size := by rw [hd2e]; exact hd1
                have S3 : Aside (SWK enc k w0 blk off d2 w1) := by rw [hd2e]; exact S2
                clear S2 hd2e
                generalize hw2 : w1 = w2 at S3 ⊢
                clear hw2
                go_wp2
                go_end0
                exact ⟨rfl, d2, S3.out, HS.out.done M1.out (HS.out.nosecond M1.out (by omega))⟩
            · have zCn : ¬ ((a : Int) < (s : Int)) := by omega
              by_cases hE : e < b
              · have zE1 : ((e : Int) < (b : Int)) := by omega
                have HR : Keep (∀ d1, (∀ q, at' d1 q = at' d (rotX s m e q)) → PermIn a b d d1 → SymH lx t d d1 a mid b s e) := ⟨fun d1 hq hp => by rw [HE.out] at hq ⊢; exact SymH.of HO.out HP.out B.out G1.out hq hp⟩
                obtain ⟨d1, hd1e⟩ : ∃ x, x = d := ⟨_, rfl⟩
                have HS : Keep (SymH lx t d d1 a mid b s e) := ⟨HR.out d1 (fun q => by rw [hd1e, rotX_none (by omega) (by omega) (by omega)]) (by rw [hd1e]; exact permIn_refl _ _ _)⟩
                have hd1 : d1.size = d.size := by rw [hd1e]
                have S2 : Aside (SWK enc k w0 blk off d1 wr) := by rw [hd1e]; exact S1
                clear S1 hd1e
                generalize hw1 : wr = w1 at S2 ⊢
                clear hw1
                obtain ⟨d2, hd2e⟩ : ∃ x, x = d1 := ⟨_, rfl⟩
                have M1 : Keep (Merged lx d1 d2 a mid) := ⟨by rw [hd2e]; exact HS.out.nofirst (by omega)⟩
                have hd2 : d2.size = d.size := by rw [hd2e]; exact hd1
                have S3 : Aside (SWK enc k w0 blk off d2 w1) := by rw [hd2e]; exact S2
                clear S2 hd2e
                generalize hw2 : w1 = w2 at S3 ⊢
                clear hw2
                go_wp2
                go_end0
                exact ⟨rfl, d2, S3.out, HS.out.done M1.out (HS.out.nosecond M1.out (by omega))⟩
              · have zE1n : ¬ ((e : Int) < (b : Int)) := by omega
                have HR : Keep (∀ d1, (∀ q, at' d1 q = at' d (rotX s m e q)) → PermIn a b d d1 → SymH lx t d d1 a mid b s e) := ⟨fun d1 hq hp => by rw [HE.out] at hq ⊢; exact SymH.of HO.out HP.out B.out G1.out hq hp⟩
                obtain ⟨d1, hd1e⟩ : ∃ x, x = d := ⟨_, rfl⟩
                have HS : Keep (SymH lx t d d1 a mid b s e) := ⟨HR.out d1 (fun q => by rw [hd1e, rotX_none (by omega) (by omega) (by omega)]) (by rw [hd1e]; exact permIn_refl _ _ _)⟩
                have hd1 : d1.size = d.size := by rw [hd1e]
                have S2 : Aside (SWK enc k w0 blk off d1 wr) := by rw [hd1e]; exact S1
                clear S1 hd1e
                generalize hw1 : wr = w1 at S2 ⊢
                clear hw1
                obtain ⟨d2, hd2e⟩ : ∃ x, x = d1 := ⟨_, rfl⟩
                have M1 : Keep (Merged lx d1 d2 a mid) := ⟨by rw [hd2e]; exact HS.out.nofirst (by omega)⟩
                have hd2 : d2.size = d.size := by rw [hd2e]; exact hd1
                have S3 : Aside (SWK enc k w0 blk off d2 w1) := by rw [hd2e]; exact S2
                clear S2 hd2e
                generalize hw2 : w1 = w2 at S3 ⊢
                clear hw2
                go_wp2
                go_end0
                exact ⟨rfl, d2, S3.out, HS.out.done M1.out (HS.out.nosecond M1.out (by omega))⟩

end Go.Proofs.YtplafpokgpolkaaGreatDoor
/- slices.symMergeCmpFunc over Members. -/
namespace Go.Proofs.YtplafpokgpolkaaGreatDoor
open Go.Shelf Go.RowKit Go.Lib Go.Sort
theorem sym_any {α : Type} [Inhabited α] (k : Nat) (zE : ∀ w, (Go.sizeOf 32).run Tryz.prog w = .ok k w) (enc : α → List Value) (g : Nat) (cb : Array Value) (blk off cap : Nat) (cf : α → α → Int) (lx : α → α → Bool) (t : α → Nat) (O : Ord (ltOf cf) lx t) (d0 : Array α) (w0 : World) (R : RowK enc k w0 blk off d0) (hcmp : CmpLays Tryz.prog g cb enc k cf blk off d0.size w0) (eg : ∀ args w, (callFunc g args).run Tryz.prog w = .ok (.enter g args) w) (hsz : d0.size < 1000000000000) :
    ∀ (N a m b : Nat) (d : Array α) (w : World), b - a < N → d0.size = d.size → SWK enc k w0 blk off d w → SymP lx t d a m b →
      Calls Tryz.prog 136 #[.slice (some ⟨blk, off, none⟩) d.size cap, .int .i64 a, .int .i64 m, .int .i64 b, .func (.func g) #[] cb] w fun e w' => e = .returned (.tuple #[]) ∧ ∃ d', SWK enc k w0 blk off d' w' ∧ Merged lx d d' a b
  | 0, _, _, _, _, _, h, _, _, _ => by omega
  | N + 1, a, m, b, d, w, hN, hs, S, P => by
    by_cases h1 : m - a = 1
    · exact sym1_any k zE enc g cb blk off cap cf lx t O d0 w0 R hcmp eg hsz a m b d w hs S P h1
    · by_cases h2 : b - m = 1
      · exact sym2_any k zE enc g cb blk off cap cf lx t O d0 w0 R hcmp eg hsz a m b d w hs S P h1 h2
      · exact sym3_any k zE enc g cb blk off cap cf lx t O d0 w0 R hcmp eg hsz a m b d w hs S P h1 h2 ⟨fun a' m' b' d' w' h3 h4 h5 h6 => sym_any k zE enc g cb blk off cap cf lx t O d0 w0 R hcmp eg hsz N a' m' b' d' w' (by omega) h4 h5 h6⟩
end Go.Proofs.YtplafpokgpolkaaGreatDoor
/- THE LIBRARY's FORM of slices.SortFunc at structs, laid at this translation by the shelf's own program (lay-plain). -/
namespace Go.Proofs
open Go.Shelf
def Tryz.insMb_ren : Go.Shelf.Ren := ⟨fun | 20 => 135 | n => n, fun | 24 => 32 | 22 => 35 | 3 => 3 | 25 => 100 | 4 => 4 | 0 => 0 | n => n, fun | n => n⟩
theorem Tryz.insMb : Go.Proofs.SlLaysF0.n20 Tryz.prog Tryz.insMb_ren := {
  mixed := by kernel_rfl
  f20 := ⟨Tryz.f135.name, by decide, Tryz.func135.trans (congrArg some (by kernel_rfl))⟩
  t0 := Tryz.underlying0
  a0 := Tryz.isAgg0
  z0 := Tryz.sizeOf0
  v0 := Tryz.zeroValue0
  t3 := Tryz.underlying3
  a3 := Tryz.isAgg3
  z3 := Tryz.sizeOf3
  v3 := Tryz.zeroValue3
  t4 := Tryz.underlying4
  a4 := Tryz.isAgg4
  z4 := Tryz.sizeOf4
  v4 := Tryz.zeroValue4
  t22 := Tryz.underlying35
  a22 := Tryz.isAgg35
  z22 := Tryz.sizeOf35
  v22 := Tryz.zeroValue35
  t25 := Tryz.underlying100
  a25 := Tryz.isAgg100
  z25 := Tryz.sizeOf100
  v25 := Tryz.zeroValue100 }
end Go.Proofs
/- slices.stableCmpFunc over Members: blocks sorted by insertion, then merged. -/
namespace Go.Proofs.YtplafpokgpolkaaGreatDoor
open Go.Shelf Go.RowKit Go.Lib Go.Sort
set_option maxHeartbeats 4000000 in
set_option maxRecDepth 1000000 in
theorem stab_any {α : Type} [Inhabited α] (k : Nat) (zE : ∀ w, (Go.sizeOf 32).run Tryz.prog w = .ok k w) (enc : α → List Value) (g : Nat) (cb : Array Value) (blk off cap : Nat) (cf : α → α → Int) (lx : α → α → Bool) (t : α → Nat) (O : Ord (ltOf cf) lx t) (hO : SWO (ltOf cf)) (d0 : Array α) (w0 : World) (R : RowK enc k w0 blk off d0) (hcmp : CmpLays Tryz.prog g cb enc k cf blk off d0.size w0) (eg : ∀ args w, (callFunc g args).run Tryz.prog w = .ok (.enter g args) w) (hsz : d0.size < 1000000000000)
    (hT : ∀ i, i < d0.size → t (at' d0 i) = i) (hN : NdT t d0) (w : World) (S : SWK enc k w0 blk off d0 w) :
    Calls Tryz.prog 105 #[.slice (some ⟨blk, off, none⟩) d0.size cap, .int .i64 d0.size, .func (.func g) #[] cb] w fun e w' => e = .returned (.tuple #[]) ∧ ∃ d' s, SWK enc k w0 blk off d' w' ∧ StgD lx t s d0 d' ∧ d'.size ≤ s := by
  have aE : ∀ w, (isAgg 32).run Tryz.prog w = .ok true w := fun w => by kernel_rfl
  have HINS : Keep (∀ (a b : Nat) (d : Array α) (w : World), d.size = d0.size → SWK enc k w0 blk off d w → a ≤ b → b ≤ d0.size →
      Calls Tryz.prog 135 #[.slice (some ⟨blk, off, none⟩) d0.size cap, .int .i64 a, .int .i64 b, .func (.func g) #[] cb] w fun e w' => e = .returned (.tuple #[]) ∧ SWK enc k w0 blk off (Sort.insertionSort (ltOf cf) d a b) w') := ⟨fun a b d w hs S1 hab hb => by
    have h := AnyQ.insertionSortCmpFunc_w Tryz.insMb k aE zE enc cf g cb blk off cap a b d0 d w0 w eg hcmp R hs.symm S1 hO hab (by omega) (by omega)
    rw [hs] at h
    exact h⟩
  have HSYM : Keep (∀ (a m b : Nat) (d : Array α) (w : World), d.size = d0.size → SWK enc k w0 blk off d w → SymP lx t d a m b →
      Calls Tryz.prog 136 #[.slice (some ⟨blk, off, none⟩) d0.size cap, .int .i64 a, .int .i64 m, .int .i64 b, .func (.func g) #[] cb] w fun e w' => e = .returned (.tuple #[]) ∧ ∃ d', SWK enc k w0 blk off d' w' ∧ Merged lx d d' a b) := ⟨fun a m b d w hs S1 P => by
    have h := sym_any k zE enc g cb blk off cap cf lx t O d0 w0 R hcmp eg hsz (b - a + 1) a m b d w (by omega) hs.symm S1 P
    rw [hs] at h
    exact h⟩
  have HI : Keep (∀ (a b : Nat) (d : Array α), StgI lx t 20 a d0 d → a ≤ b → b ≤ a + 20 → b ≤ d0.size → let d' := Sort.insertionSort (ltOf cf) d a b; d'.toList.Perm d0.toList ∧ d'.size = d0.size ∧ Sd lx 20 0 b d' ∧ BlkT t 20 0 d' ∧ (∀ i, b ≤ i → i < d'.size → t (at' d' i) = i)) := ⟨fun a b d h h1 h2 h3 => h.op O.swo O.agree O.total (by omega) hN h1 h2 (by rw [h.size]; exact h3)⟩
  have S0 : Aside (SWK enc k w0 blk off d0 w) := S
  have I0 : Aside (StgI lx t 20 0 d0 d0) := StgI.zero hT
  clear S hT hN O hO hcmp R
  obtain ⟨n, hn⟩ : ∃ x, x = d0.size := ⟨_, rfl⟩
  rw [← hn] at hsz HINS HSYM HI ⊢
  have HN : Keep (d0.size = n) := ⟨hn.symm⟩
  clear hn
  go_enter Tryz.func105, Tryz.ntmps105
  go_wp2
  go_loopg [7, 8] n (fun kx s7 s8 wr => ∃ (a b : Nat) (dk : Array α), s7 = .int .i64 a ∧ s8 = .int .i64 b ∧ a + 20 ≤ b ∧ b ≤ a + 20 ∧ a ≤ n ∧ n - a ≤ kx ∧ Aside (SWK enc k w0 blk off dk wr) ∧ Aside (StgI lx t 20 a d0 dk))
  case atStart => exact ⟨0, 20, d0, by go_num, by go_num, by omega, by omega, by omega, by omega, S0, I0⟩
  case round =>
    clear S0 I0
    obtain ⟨a, b, dk, rfl, rfl, hab, hba, han, hkx, S1, I1⟩ := hrel
    by_cases hbn : b ≤ n
    · have hz : (b : Int) ≤ (n : Int) := by omega
      have hc := Keep.keep (HINS.out a b dk wr (I1.out.size.trans HN.out) S1.out (by omega) hbn)
      go_wp2_with fail
      refine (hc.out).mono ?_
      rintro e w1 ⟨rfl, S2'⟩
      obtain ⟨e1, e2, e3, e4, e5⟩ := HI.out a b dk I1.out (by omega) (by omega) hbn
      obtain ⟨d1, hd1⟩ : ∃ x, x = Sort.insertionSort (ltOf cf) dk a b := ⟨_, rfl⟩
      have S2 : Aside (SWK enc k w0 blk off d1 w1) := by rw [hd1]; exact S2'
      have I2 : Aside (StgI lx t 20 b d0 d1) := by
        rw [hd1]
        refine ⟨e1, e2.trans HN.out.symm, e3, e4, e5, ?_⟩
        obtain ⟨c, hc⟩ := I1.out.dvd
        exact ⟨c + 1, by omega⟩
      clear S2' e1 e2 e3 e4 e5 hd1 S1 I1 hc
      obtain ⟨b2, hb2⟩ : ∃ x, x = b + 20 := ⟨_, rfl⟩
      have rb2 : (b : Int) + 20 = (b2 : Int) := by omega
      have rb2w : IntKind.i64.wrap (b2 : Int) = (b2 : Int) := by rw [IntKind.wrap_i64]; omega
      have fb2 : b + 20 ≤ b2 ∧ b2 ≤ b + 20 := by omega
      clear hb2
      go_wp2
      go_roundg (n - b)
      case measure => omega
      case rel => exact ⟨b, b2, d1, rfl, rfl, fb2.1, fb2.2, hbn, Nat.le_refl _, S2, I2⟩
    · have hz : ¬ (b : Int) ≤ (n : Int) := by omega
      have hc := Keep.keep (HINS.out a n dk wr (I1.out.size.trans HN.out) S1.out (by omega) (Nat.le_refl _))
      go_wp2_with fail
      refine (hc.out).mono ?_
      rintro e w1 ⟨rfl, S2'⟩
      obtain ⟨e1, e2, e3, e4, e5⟩ := HI.out a n dk I1.out han (by omega) (Nat.le_refl _)
      obtain ⟨d1, hd1⟩ : ∃ x, x = Sort.insertionSort (ltOf cf) dk a n := ⟨_, rfl⟩
      have S2 : Aside (SWK enc k w0 blk off d1 w1) := by rw [hd1]; exact S2'
      have D2 : Aside (StgD lx t 20 d0 d1) := by
        rw [hd1]
        exact ⟨e1, e2.trans HN.out.symm, by rw [e2]; exact e3, e4⟩
      clear S2' e1 e2 e3 e4 e5 hd1 S1 I1 hc
      go_wp2
      go_loopg [6, 7, 8, 9] n (fun kx s6 s7 s8 s9 wr => ∃ (s : Nat) (dk : Array α) (v7 v8 v9 : Value), s6 = .int .i64 s ∧ s7 = v7 ∧ s8 = v8 ∧ s9 = v9 ∧ 0 < s ∧ s ≤ 20 + 2 * n ∧ n - s ≤ kx ∧ Aside (SWK enc k w0 blk off dk wr) ∧ Aside (StgD lx t s d0 dk))
      case atStart => exact ⟨20, d1, _, _, _, by go_num, rfl, rfl, rfl, by omega, by omega, by omega, S2, D2⟩
      case round =>
        clear S2 D2
        obtain ⟨s, dk, v7, v8, v9, rfl, rfl, rfl, rfl, hs0, hsn, hkx2, S1, D1⟩ := hrel
        by_cases hlt : s < n
        · have hltz : (s : Int) < (n : Int) := by omega
          obtain ⟨s2, hs2⟩ : ∃ x, x = 2 * s := ⟨_, rfl⟩
          have rs2 : 2 * (s : Int) = (s2 : Int) := by omega
          have rs3 : (s : Int) * 2 = (s2 : Int) := by omega
          have rs2w : IntKind.i64.wrap (s2 : Int) = (s2 : Int) := by rw [IntKind.wrap_i64]; omega
          have fs2 : 2 * s ≤ s2 ∧ s2 ≤ 2 * s := by omega
          have M1 : Aside (StgM lx t s 0 d0 dk) := D1.out.start
          have HS2 : Keep (s2 = 2 * s) := ⟨hs2⟩
          have S9 := S1
          clear hs2 D1 S1
          go_wp2
          go_loopg [7, 8] n (fun kx3 s7 s8 wr => ∃ (a b : Nat) (dk : Array α), s7 = .int .i64 a ∧ s8 = .int .i64 b ∧ a + s2 ≤ b ∧ b ≤ a + s2 ∧ a ≤ n ∧ n - a ≤ kx3 ∧ Aside (SWK enc k w0 blk off dk wr) ∧ Aside (StgM lx t s a d0 dk))
          case atStart => exact ⟨0, s2, dk, by go_num, by go_num, by omega, by omega, by omega, by omega, S9, M1⟩
          case round =>
            clear S9 M1
            obtain ⟨a, b, dk, rfl, rfl, hab, hba, han, hkx3, S1, M1⟩ := hrel
            have hdn : dk.size = n := M1.out.size.trans HN.out
            obtain ⟨m, hm⟩ : ∃ x, x = a + s := ⟨_, rfl⟩
            have rm : (a : Int) + (s : Int) = (m : Int) := by omega
            have rmw : IntKind.i64.wrap (m : Int) = (m : Int) := by rw [IntKind.wrap_i64]; omega
            by_cases hbn : b ≤ n
            · have hz : (b : Int) ≤ (n : Int) := by omega
              have P1 : SymP lx t dk a m b := by
                obtain ⟨h1, h2, h3⟩ := M1.out.halves hs0 (b := b) (by omega) (by omega) (by omega)
                rw [hm]
                exact ⟨by omega, by omega, by omega, h1, h2, h3⟩
              have hc := Keep.keep (HSYM.out a m b dk wr hdn S1.out P1)
              obtain ⟨b2, hb2⟩ : ∃ x, x = b + s2 := ⟨_, rfl⟩
              have rb2 : (b : Int) + (s2 : Int) = (b2 : Int) := by omega
              have rb2w : IntKind.i64.wrap (b2 : Int) = (b2 : Int) := by rw [IntKind.wrap_i64]; omega
              have fb2 : b + s2 ≤ b2 ∧ b2 ≤ b + s2 := by omega
              have HB : Keep (b = a + 2 * s) := ⟨by omega⟩
              clear P1 hm hb2
              go_wp2_with fail
              refine (hc.out).mono ?_
              rintro e w1 ⟨rfl, d1, S2', G2⟩
              have S2 : Aside (SWK enc k w0 blk off d1 w1) := S2'
              have M2 : Aside (StgM lx t s b d0 d1) := by
                have hb := HB.out
                rw [hb] at G2 ⊢
                exact M1.out.next hs0 (by omega) G2
              clear S2' G2 S1 M1 hc
              go_wp2
              go_roundg (n - b)
              case measure => omega
              case rel => exact ⟨b, b2, d1, rfl, rfl, fb2.1, fb2.2, hbn, Nat.le_refl _, S2, M2⟩
            · have hz : ¬ (b : Int) ≤ (n : Int) := by omega
              by_cases hmn : m < n
              · have hmz : (m : Int) < (n : Int) := by omega
                have P1 : SymP lx t dk a m n := by
                  obtain ⟨h1, h2, h3⟩ := M1.out.halves hs0 (b := n) (by omega) (by omega) (by omega)
                  rw [hm]
                  exact ⟨by omega, by omega, by omega, h1, h2, h3⟩
                have hc := Keep.keep (HSYM.out a m n dk wr hdn S1.out P1)
                clear P1 hm
                go_wp2_with fail
                refine (hc.out).mono ?_
                rintro e w1 ⟨rfl, d1, S2', G2⟩
                have S2 : Aside (SWK enc k w0 blk off d1 w1) := S2'
                have D2 : Aside (StgD lx t s2 d0 d1) := by
                  rw [HS2.out]
                  rw [← hdn] at G2
                  exact M1.out.last hs0 (by have := HS2.out; omega) G2 (by omega)
                clear S2' G2 S1 M1 hc
                go_wp2
                go_roundg (n - s2)
                case measure => omega
                case rel => exact ⟨s2, d1, _, _, _, rfl, rfl, rfl, rfl, by omega, by omega, Nat.le_refl _, S2, D2⟩
              · have hmz : ¬ (m : Int) < (n : Int) := by omega
                have D2 : Aside (StgD lx t s2 d0 dk) := by
                  rw [HS2.out]
                  exact M1.out.stop hs0 (by omega)
                clear hm M1
                go_wp2
                go_roundg (n - s2)
                case measure => omega
                case rel => exact ⟨s2, dk, _, _, _, rfl, rfl, rfl, rfl, by omega, by omega, Nat.le_refl _, S1, D2⟩
        · have hltz : ¬ (s : Int) < (n : Int) := by omega
          go_wp2
          go_end0
          exact ⟨rfl, dk, S1.out, s, D1.out, by have := D1.out.size.trans HN.out; omega⟩
end Go.Proofs.YtplafpokgpolkaaGreatDoor
/- slices.stableCmpFunc over nothing. -/
namespace Go.Proofs.YtplafpokgpolkaaGreatDoor
open Go.Shelf Go.RowKit Go.Lib Go.Sort
set_option maxHeartbeats 1000000 in
theorem ins_nil (g : Nat) (cb : Array Value) (w : World) : Calls Tryz.prog 135 #[.slice none 0 0, .int .i64 0, .int .i64 0, .func (.func g) #[] cb] w fun e w' => e = .returned (.tuple #[]) ∧ w = w' := by
  go_enter Tryz.func135, Tryz.ntmps135
  go_wp2
  go_loopg [8] 0 (fun kx s8 wr => s8 = .int .i64 1 ∧ w = wr)
  case atStart => exact ⟨rfl, rfl⟩
  case round =>
    obtain ⟨rfl, rfl⟩ := hrel
    go_wp2
    go_end0
    exact ⟨rfl, rfl⟩
set_option maxHeartbeats 1000000 in
theorem stab_nil (g : Nat) (cb : Array Value) (w : World) : Calls Tryz.prog 105 #[.slice none 0 0, .int .i64 0, .func (.func g) #[] cb] w fun e w' => e = .returned (.tuple #[]) ∧ w = w' := by
  have hc := Keep.keep (fun w => ins_nil g cb w)
  go_enter Tryz.func105, Tryz.ntmps105
  go_wp2
  go_loopg [7, 8] 0 (fun kx s7 s8 wr => s7 = .int .i64 0 ∧ s8 = .int .i64 20 ∧ w = wr)
  case atStart => exact ⟨rfl, rfl, rfl⟩
  case round =>
    obtain ⟨rfl, rfl, rfl⟩ := hrel
    go_wp2_with fail
    refine (hc.out _).mono ?_
    rintro e w1 ⟨rfl, rfl⟩
    go_wp2
    go_loopg [6] 0 (fun kx s6 wr => s6 = .int .i64 20 ∧ w = wr)
    case atStart => exact ⟨rfl, rfl⟩
    case round =>
      obtain ⟨rfl, rfl⟩ := hrel
      go_wp2
      go_end0
      exact ⟨rfl, rfl⟩
set_option maxHeartbeats 1000000 in
theorem ssf_nil (g : Nat) (cb : Array Value) (w : World) : Calls Tryz.prog 68 #[.slice none 0 0, .func (.func g) #[] cb] w fun e w' => e = .returned (.tuple #[]) ∧ w = w' := by
  have hc := Keep.keep (fun w => stab_nil g cb w)
  go_enter Tryz.func68, Tryz.ntmps68
  go_wp2_with fail
  refine (hc.out _).mono ?_
  rintro e w1 ⟨rfl, rfl⟩
  go_wp2
  go_end0
  exact ⟨rfl, rfl⟩
end Go.Proofs.YtplafpokgpolkaaGreatDoor
/- change.Sorted: Members of one's own, by their paths, those of one path as they stood. -/
namespace Go.Proofs.YtplafpokgpolkaaGreatDoor
open Go.RowKit Go.Sort Go.Shelf
theorem scmp_any (x y : Tx) (w : World) : Calls Tryz.prog 70 #[.string ⟨x.toArray⟩, .string ⟨y.toArray⟩] w fun e w' => e = .returned (.int .i64 (cmpS x y)) ∧ w' = w := by
  refine (Tryz.strings_Compare ⟨x.toArray⟩ ⟨y.toArray⟩ w).mono ?_
  rintro e w' ⟨rfl, rfl⟩
  refine ⟨?_, rfl⟩
  rw [← compare_is]
set_option maxHeartbeats 1000000 in
set_option maxRecDepth 100000 in
theorem srt1_any (x y : MvS) (W : World) : Calls Tryz.prog 69 #[.agg (encS x).toArray, .agg (encS y).toArray] W fun e w' => e = .returned (.int .i64 (cfS x y)) ∧ ∃ q os', w' = grow (W.drewN q) os' := by
  obtain ⟨⟨⟨xp, ⟨kind, mode, uid, gid, time, attrs, data, link⟩⟩, av, dv⟩, ⟨aa, la, ca, ad, ld, cd, e1, e2⟩⟩ := x
  obtain ⟨⟨⟨yp, ⟨kind', mode', uid', gid', time', attrs', data', link'⟩⟩, bv, ev⟩, ⟨ba, lb, cb, bd, ldb, cdb, f1, f2⟩⟩ := y
  dsimp only at e1 e2 f1 f2
  subst e1 e2 f1 f2
  have HC := Keep.keep (fun w => scmp_any xp yp w)
  have hx : (encS ⟨((xp, ⟨kind, mode, uid, gid, time, attrs, data, link⟩), .slice aa la ca, .slice ad ld cd), ⟨aa, la, ca, ad, ld, cd, rfl, rfl⟩⟩).toArray = #[.string ⟨xp.toArray⟩, .int .i64 kind, .int .u32 mode, .int .u32 uid, .int .u32 gid, .int .i64 time, .slice aa la ca, .slice ad ld cd, .string ⟨link.toArray⟩] := rfl
  have hy : (encS ⟨((yp, ⟨kind', mode', uid', gid', time', attrs', data', link'⟩), .slice ba lb cb, .slice bd ldb cdb), ⟨ba, lb, cb, bd, ldb, cdb, rfl, rfl⟩⟩).toArray = #[.string ⟨yp.toArray⟩, .int .i64 kind', .int .u32 mode', .int .u32 uid', .int .u32 gid', .int .i64 time', .slice ba lb cb, .slice bd ldb cdb, .string ⟨link'.toArray⟩] := rfl
  rw [hx, hy]
  have hcf : cfS ⟨((xp, ⟨kind, mode, uid, gid, time, attrs, data, link⟩), .slice aa la ca, .slice ad ld cd), ⟨aa, la, ca, ad, ld, cd, rfl, rfl⟩⟩ ⟨((yp, ⟨kind', mode', uid', gid', time', attrs', data', link'⟩), .slice ba lb cb, .slice bd ldb cdb), ⟨ba, lb, cb, bd, ldb, cdb, rfl, rfl⟩⟩ = cmpS xp yp := rfl
  rw [hcf]
  clear hx hy hcf
  generalize cmpS xp yp = r at *
  go_enter Tryz.func69, Tryz.ntmps69
  go_wp2_with fail
  refine (HC.out _).mono ?_
  rintro e w' ⟨rfl, rfl⟩
  go_wp2_with fail
  go_ret
  exact ⟨rfl, 0, _, by rw [alloc_eq_grow, alloc_eq_grow, grow_grow]; rfl⟩
theorem ent_srt1 : ∀ args w, (callFunc 69 args).run Tryz.prog w = .ok (.enter 69 args) w := enters_of Tryz.func69 (by kernel_rfl) rfl
theorem grownBy_swk {w w' : World} {g : Nat} {d' : Array (MvS × Nat)} (h : SWK encT 9 w g 0 d' w') : w.grownBy w' (some g) ∧ ∃ n os, w' = grow (putRow id (Sort.ahead w n) g 0 (flatK encT 9 d')) os := by
  obtain ⟨n, os, rfl⟩ := h
  exact ⟨grownBy_sortedK (w := w) (g := g) (n := n) (os := os) (flatK encT 9 d'), n, os, rfl⟩
set_option maxHeartbeats 1000000 in
set_option maxRecDepth 100000 in
theorem stable_mb (base : Nat) (K : Nat → Prop) (v : Value) (l : List Mv) (w : World) (hB : base ≤ w.heap.size) (h : RowM base K w v l) (hl : l.length < 1000000000) :
    Calls Tryz.prog 68 #[v, .func (.func 69) #[] #[]] w fun e w' => e = .returned (.tuple #[]) ∧ RowM base K w' v (l.mergeSort (leK (fun x => x.1.1))) ∧ Below base w w' := by
  have h0 := h
  rcases h.own.2 with ⟨rfl, hz⟩ | ⟨g, cap, cur, rfl, hb, hh, hn, hm, hs, ht⟩
  · obtain rfl : l = [] := List.eq_nil_of_length_eq_zero hz
    refine (ssf_nil 69 #[] w).mono ?_
    rintro e w' ⟨rfl, rfl⟩
    exact ⟨rfl, by rw [List.mergeSort_nil]; exact h0, Below.refl _ _⟩
  · obtain ⟨ls, rfl⟩ := list_sub l (fun x hx => (h.nd x hx).shape)
    have hlt : g < w.heap.size := (Array.getElem?_eq_some_iff.1 hh).1
    obtain ⟨d0, hd0⟩ : ∃ d, d = ls.zipIdx.toArray := ⟨_, rfl⟩
    have hd0l : d0.toList = ls.zipIdx := by rw [hd0]
    have hsz : d0.size = (ls.map (·.1)).length := by rw [hd0]; simp
    have hmap : d0.map (·.1) = ls.toArray := by
      apply Array.toList_inj.1
      rw [Array.toList_map, hd0l]
      simp
    have hH : HoldsK encT 9 w g 0 d0 := by
      intro j hj
      rw [size_flatK, hsz] at hj
      have h1 := flat_get ls.toArray j (by simpa using hj)
      rw [Nat.zero_add, h.own.cellAt j hj, h.own.frozenAt j, flatT, hmap]
      exact ⟨h1, rfl⟩
    have R : RowK encT 9 w g 0 d0 := ⟨fun x => mcell_len x.1.1, fun x v hv => by
      have := mcells_one (l := [x.1.1]) (fun y hy => by rw [List.mem_singleton.1 hy]; exact x.1.2) v (by rw [mcells_cons]; exact List.mem_append_left _ hv)
      exact this, hH, hlt⟩
    have hcon := stab_any 9 (fun w => by kernel_rfl) encT 69 #[] g 0 cap cfT (lxB pathS) (·.2) ordT swoT d0 w R (fun m os dk _ x y => srt1_any x.1 y.1 _) ent_srt1 (by rw [hsz]; omega) (tag_zip hd0l) (nd_zip hd0l) w ⟨0, #[], (sortWorldK_start encT 9 w g 0 d0 hH).symm⟩
    rw [hsz] at hcon
    have hcon' := Keep.keep hcon
    obtain ⟨len, hlen⟩ : ∃ n, n = (ls.map (·.1)).length := ⟨_, rfl⟩
    rw [← hlen] at hcon' ⊢
    have HF1 : Keep (len = (ls.map (·.1)).length ∧ d0.size = (ls.map (·.1)).length ∧ d0.toList = ls.zipIdx) := ⟨hlen, hsz, hd0l⟩
    clear hcon hlen hsz hd0l hd0 hmap h0 hH R
    go_enter Tryz.func68, Tryz.ntmps68
    go_wp2_with fail
    refine (hcon'.out).mono ?_
    rintro e w' ⟨rfl, d', s, S1, D1, hds⟩
    go_wp2
    go_end0
    obtain ⟨hlen, hsz, hd0l⟩ := HF1.out
    have hL := stable_done hd0l D1 hds
    have hM : (d'.toList.map (·.1)).map (·.1) = (ls.map (·.1)).mergeSort (leK (fun x => x.1.1)) := by
      rw [hL]
      exact List.map_mergeSort (fun a _ b _ => rfl)
    have hd' : d'.size = (ls.map (·.1)).length := D1.size.trans hsz
    obtain ⟨hgr, n, os, rfl⟩ := grownBy_swk S1
    have hF : (flatK encT 9 d').size = (ls.map (·.1)).length * 9 := by rw [size_flatK, hd']
    refine ⟨rfl, ⟨?_, fun x hx => ?_⟩, ?_⟩
    · rw [List.length_mergeSort, hlen]
      refine ⟨by rw [mcells_length, List.length_mergeSort], .inr ⟨g, cap, _, rfl, hb, heap_sortedK _ hh, hn, hm, by simp [putCells, hs], ?_⟩⟩
      rw [← hF, take_putCellsK _ _ (by rw [hF, hs]; exact Nat.mul_le_mul_right 9 hn), flatT, flat_list, Array.toList_map, hM]
    · have hx2 : x ∈ ls.map (·.1) := List.mem_mergeSort.1 hx
      refine ((h.nd x hx2).loc (fun b e => hgr.block b e.2.1 (fun e2 => e.2.2 (by injection e2 with e2; rw [e2]; rfl)))).mono (fun b e => ⟨e.1, Nat.lt_of_lt_of_le e.2.1 hgr.size, ?_⟩)
      rw [hlen]; exact e.2.2
    · exact (Chg.grown (M := NoM) (.refl _ _ _) hgr hB (fun k e => .inl (by injection e with e; omega))).below (fun _ _ h => h)
end Go.Proofs.YtplafpokgpolkaaGreatDoor
/- portolanlaw19.Grown's question: of one path? -/
namespace Go.Proofs.YtplafpokgpolkaaGreatDoor
open Go.RowKit Go.Sort Go.Shelf
set_option maxHeartbeats 1000000 in
set_option maxRecDepth 100000 in
theorem eqp_any (x y : MvS) (W : World) : Calls Tryz.prog 84 #[.agg (encS x).toArray, .agg (encS y).toArray] W fun e w' => e = .returned (.bool (x.1.1.1 == y.1.1.1)) ∧ ∃ q os', w' = grow (W.drewN q) os' := by
  obtain ⟨⟨⟨xp, ⟨kind, mode, uid, gid, time, attrs, data, link⟩⟩, av, dv⟩, ⟨aa, la, ca, ad, ld, cd, e1, e2⟩⟩ := x
  obtain ⟨⟨⟨yp, ⟨kind', mode', uid', gid', time', attrs', data', link'⟩⟩, bv, ev⟩, ⟨ba, lb, cb, bd, ldb, cdb, f1, f2⟩⟩ := y
  dsimp only at e1 e2 f1 f2
  subst e1 e2 f1 f2
  have hx : (encS ⟨((xp, ⟨kind, mode, uid, gid, time, attrs, data, link⟩), .slice aa la ca, .slice ad ld cd), ⟨aa, la, ca, ad, ld, cd, rfl, rfl⟩⟩).toArray = #[.string ⟨xp.toArray⟩, .int .i64 kind, .int .u32 mode, .int .u32 uid, .int .u32 gid, .int .i64 time, .slice aa la ca, .slice ad ld cd, .string ⟨link.toArray⟩] := rfl
  have hy : (encS ⟨((yp, ⟨kind', mode', uid', gid', time', attrs', data', link'⟩), .slice ba lb cb, .slice bd ldb cdb), ⟨ba, lb, cb, bd, ldb, cdb, rfl, rfl⟩⟩).toArray = #[.string ⟨yp.toArray⟩, .int .i64 kind', .int .u32 mode', .int .u32 uid', .int .u32 gid', .int .i64 time', .slice ba lb cb, .slice bd ldb cdb, .string ⟨link'.toArray⟩] := rfl
  rw [hx, hy]
  clear hx hy
  show Calls _ _ _ _ fun e w' => e = .returned (.bool (xp == yp)) ∧ _
  obtain ⟨r, hr⟩ : ∃ r, (xp == yp) = r := ⟨_, rfl⟩
  rw [hr]
  go_enter Tryz.func84, Tryz.ntmps84
  go_wp2_with fail
  go_ret
  exact ⟨rfl, 0, _, by rw [alloc_eq_grow, alloc_eq_grow, grow_grow]; rfl⟩
theorem ent_eqp : ∀ args w, (callFunc 84 args).run Tryz.prog w = .ok (.enter 84 args) w := enters_of Tryz.func84 (by kernel_rfl) rfl
end Go.Proofs.YtplafpokgpolkaaGreatDoor

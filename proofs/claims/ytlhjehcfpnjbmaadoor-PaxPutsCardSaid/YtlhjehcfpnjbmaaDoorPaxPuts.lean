/- PaxPuts: any records. -/
import Derived.Test.YtlhjehcfpnjbmaaDoorPaxForm
import Derived.Test.YtlhjehcfpnjbmaaDoorPaxRPut
import Derived.Test.YtlhjehcfpnjbmaaDoorPaxLast
namespace Go.Proofs.YtlhjehcfpnjbmaaDoor
open Go.RowKit
set_option maxHeartbeats 4000000 in
set_option maxRecDepth 100000 in
theorem puts_any (sv : Value) (l : List R2) (key : List UInt8) (B : Nat) (w : World) (hB : B ≤ w.heap.size) (hT : Pow B w)
    (hl : l.length ≤ 9223372036854775807) (hr : RdV w (· < w.heap.size) 2 sv l.length (rcells l)) (hs : ∀ p ∈ l, p.1.length ≤ 9223372036854775807 ∧ p.2.length ≤ 9223372036854775807) :
    Calls Tryd.prog 5 #[sv, .string ⟨key.toArray⟩] w fun e w' => e = .returned (.bool true) ∧ Below w.heap.size w w' := by
  have HF := Keep.keep (few_any sv l w hl hr hs)
  have hal := fewL_len l
  have hav := fewL_val l
  have has := fewL_small l
  generalize fewL l = a at *
  have HAV := Keep.keep hav
  have hz15 : ∀ p ∈ a, sz p.1 p.2 ≤ 1500 := fun p hp => sz_le p (hav p hp).2 (hav p hp).1
  have hputb : mayL a = true → (putT a).length ≤ 16777216 := fun h => by
    rw [putT_sum a (has h)]
    have := sumZ_le a hz15
    omega
  have HPB := Keep.keep hputb
  have HT := Keep.keep hT; have HB := Keep.keep hB
  clear hr hs hT hB hav hz15 has hputb hl
  have HSZ := Keep.keep (fun (p : R2) (hp : p ∈ a) (wx : World) (h : Below w.heap.size w wx) => size_any p.1 p.2 (by have := (HAV.out p hp).2; omega) B wx (Nat.le_trans HB.out h.size) (HT.out.on (h.mono HB.out)))
  have HTL := Keep.keep (fun (wx : World) (h : Below w.heap.size w wx) => tells_any B wx (Nat.le_trans HB.out h.size) (HT.out.on (h.mono HB.out)))
  go_enter Tryd.func5, Tryd.ntmps5
  go_wp2_with fail
  refine HF.out.mono ?_
  rintro e w1 ⟨va, vb, rfl, hH1⟩
  have H1 := Keep.keep hH1
  clear HF hH1
  obtain ⟨aa, acap, rfl, hacap, hamx, -⟩ := (ownsV_reads (H1.out.sl 0 rfl)).shape
  obtain ⟨ab, bcap, rfl, hbcap, hbmx, -⟩ := (ownsV_reads (H1.out.sl 1 rfl)).shape
  have hRA : ∀ wx, Below w1.heap.size w1 wx → RdV wx (· < wx.heap.size) 2 (.slice aa a.length acap) a.length (rcells a) := fun wx h =>
    ((ownsV_reads (H1.out.sl 0 rfl)).below h (fun b hb => hb.2.1)).mono (fun b hb => Nat.lt_of_lt_of_le hb.2.1 h.size)
  have hRB : ∀ wx, Below w1.heap.size w1 wx → RdV wx (· < wx.heap.size) 2 (.slice ab a.length bcap) a.length (rcells a) := fun wx h =>
    ((ownsV_reads (H1.out.sl 1 rfl)).below h (fun b hb => hb.2.1)).mono (fun b hb => Nat.lt_of_lt_of_le hb.2.1 h.size)
  have HRA := Keep.keep hRA; have HRB := Keep.keep hRB
  have HB1 := Keep.keep H1.out.below
  clear hRA hRB H1
  obtain ⟨E, hE⟩ : ∃ E : Int, (if mayL a then (0 : Int) else 1) = E := ⟨_, rfl⟩
  obtain ⟨T, hTT⟩ : ∃ T : List UInt8, (if mayL a then putT a else []) = T := ⟨_, rfl⟩
  have hEE : E = 0 ∨ E = 1 := by rw [← hE]; cases mayL a <;> simp
  have HP := put_all _ a B w1 (by omega) (HRA.out w1 (Below.refl _ _)) (Nat.le_trans HB.out HB1.out.size) (HT.out.on (HB1.out.mono HB.out)) HPB.out (fun p hp => by have := (HAV.out p hp).2; omega)
  rw [hE, hTT] at HP
  have HRP := fun (w2 : World) (hb : Below w1.heap.size w1 w2) => rput_all _ a w2 (by omega) (HRB.out w2 hb) HPB.out (fun p hp => by have := (HAV.out p hp); omega)
  rw [hE, hTT] at HRP
  have HP := Keep.keep HP; have HRP := Keep.keep HRP
  clear hE hTT
  go_wp2_with fail
  refine HP.out.mono ?_
  rintro e w2 ⟨v2, rfl, ho2, hb2⟩
  have HO2 := Keep.keep ho2; have HB2 := Keep.keep hb2
  clear ho2 hb2 HP
  go_wp2_with fail
  refine (HRP.out w2 HB2.out).mono ?_
  rintro e w3 ⟨v3, rfl, ho3, hb3⟩
  have HB3 := Keep.keep (HB2.out.trans (hb3.mono HB2.out.size))
  have HO2' := Keep.keep ((HO2.out.reads.below hb3 (fun _ h => h.2.1)).mono (N' := (· < w3.heap.size)) (fun _ h => Nat.lt_of_lt_of_le h.2.1 hb3.size))
  have HO3 := Keep.keep (ho3.reads.mono (N' := (· < w3.heap.size)) (fun _ h => h.2.1))
  obtain ⟨⟨a2, c2, rfl, -, -, -⟩, -⟩ := HO2.out.reads
  obtain ⟨⟨a3, c3, rfl, -, -, -⟩, -⟩ := ho3.reads
  clear ho3 hb3 HO2 HRP
  obtain ⟨u, o, hLV⟩ : ∃ (u : List UInt8) (o : Bool), lastV (lastP a key) = .tuple #[.string ⟨u.toArray⟩, .bool o] := ⟨_, _, rfl⟩
  have HLV := Keep.keep hLV
  clear hLV
  go_wp2_with fail
  refine (last_any _ a key w3 (by omega) (HRA.out w3 HB3.out)).mono ?_
  rintro e w4 ⟨rfl, hb4⟩
  have HB4 := Keep.keep (HB3.out.trans (hb4.mono HB3.out.size))
  have HQ2 := Keep.keep ((HO2'.out.below hb4 (fun _ h => h)).mono (N' := (· < w4.heap.size)) (fun _ h => Nat.lt_of_lt_of_le h hb4.size))
  have HQ3 := Keep.keep ((HO3.out.below hb4 (fun _ h => h)).mono (N' := (· < w4.heap.size)) (fun _ h => Nat.lt_of_lt_of_le h hb4.size))
  clear hb4 HO2' HO3
  rw [HLV.out]
  go_wp2_with fail
  refine (rlast_any _ a key w4 (by omega) (HRB.out w4 HB4.out)).mono ?_
  rintro e w5 ⟨rfl, rfl⟩
  rw [HLV.out]
  go_wp2_with fail
  go_loopg [15] a.length (fun g u15 wx => ∃ i : Nat, i + g = a.length ∧ u15 = .int .i64 (i : Int) ∧ Below w4.heap.size w4 wx)
  case atStart => exact ⟨0, by omega, rfl, Below.refl _ _⟩
  case round =>
    obtain ⟨i, hig, rfl, hH⟩ := hrel
    have HH := Keep.keep hH
    clear hH
    by_cases hi : i < a.length
    · obtain ⟨g, rfl⟩ : ∃ g, gk = g + 1 := ⟨gk - 1, by omega⟩
      obtain ⟨p, hp⟩ : ∃ p, a[i]? = some p := ⟨a[i], List.getElem?_eq_getElem hi⟩
      have hdi : decide ((i : Int) < (a.length : Int)) = true := decide_eq_true (by omega)
      have hpm := List.mem_of_getElem? hp
      have HB1r := Keep.keep (HB4.out.trans (HH.out.mono HB4.out.size))
      have hrda := HRA.out wr HB1r.out
      have hrdb := HRB.out wr HB1r.out
      obtain ⟨ba0, oa0, hea, -⟩ : ∃ b off, aa = some ⟨b, off, none⟩ ∧ True := by
        obtain ⟨b, off, cap, he, _, _, _⟩ := hrda.has (by omega)
        injection he with he _ _
        exact ⟨b, off, he, trivial⟩
      obtain ⟨bb0, ob0, heb, -⟩ : ∃ b off, ab = some ⟨b, off, none⟩ ∧ True := by
        obtain ⟨b, off, cap, he, _, _, _⟩ := hrdb.has (by omega)
        injection he with he _ _
        exact ⟨b, off, he, trivial⟩
      subst hea heb
      have HCA := Keep.keep (fun (wx : World) (h : Below wr.heap.size wr wx) => (hrda.below h (fun _ h => h)).recAt hp)
      have HCB := Keep.keep (fun (wx : World) (h : Below wr.heap.size wr wx) => (hrdb.below h (fun _ h => h)).recAt hp)
      have hp2 := HAV.out p hpm
      have HS1 := Keep.keep (fun (wx : World) (h : Below wr.heap.size wr wx) => HSZ.out p hpm wx (HB1.out.trans ((HB1r.out.trans (h.mono HB1r.out.size)).mono HB1.out.size)))
      have HS2 := Keep.keep (fun (wx : World) (_ : Below wr.heap.size wr wx) => rsize_any p.1 p.2 (by omega) (by omega) wx)
      obtain ⟨k, v⟩ := p
      clear hp hpm hp2 hrda hrdb HSZ
      have hnn : ((((sz k v : Nat) : Int)) != ((sz k v : Nat) : Int)) = false := by simp
      generalize sz k v = n at *
      go_wp2_with fail
      refine wp_region_cls (fun w' => Below wr.heap.size wr w') (by kernel_rfl) (by kernel_rfl) (Below.refl _ _).drew ?_
      repeat (first
        | ((with_reducible refine cls_call (f := 10) ?_ (Go.Proofs.enters_of Tryd.func10 (by kernel_rfl) rfl) ?_ (fun w1 hw1 => (HS1.out w1 hw1).mono (fun e w2 he => ⟨he.1, hw1.trans (he.2.mono hw1.size)⟩)) ?_); (focus rfl); (focus (first | exact Array.map_empty | (simp only [List.map_toArray, List.map_cons, List.map_nil]; rfl))); simp only [Act.put, List.setIfInBounds_toArray, List.set_cons_succ, List.set_cons_zero])
        | ((with_reducible refine cls_call (f := 17) ?_ (Go.Proofs.enters_of Tryd.func17 (by kernel_rfl) rfl) ?_ (fun w1 hw1 => (HS2.out w1 hw1).mono (fun e w2 he => ⟨he.1, hw1.trans (he.2.mono hw1.size)⟩)) ?_); (focus rfl); (focus (first | exact Array.map_empty | (simp only [List.map_toArray, List.map_cons, List.map_nil]; rfl))); simp only [Act.put, List.setIfInBounds_toArray, List.set_cons_succ, List.set_cons_zero])
        | ((with_reducible refine cls_loadTwo ?_ HCA.out Tryd.underlying33 rfl (by kernel_rfl) ?_ ?_); (focus rfl); (focus rfl); simp only [Act.put, List.setIfInBounds_toArray, List.set_cons_succ, List.set_cons_zero])
        | ((with_reducible refine cls_loadTwo ?_ HCB.out Tryd.underlying48 rfl (by kernel_rfl) ?_ ?_); (focus rfl); (focus rfl); simp only [Act.put, List.setIfInBounds_toArray, List.set_cons_succ, List.set_cons_zero])
        | (first | go_big_quiet_step (fail) | (go_big_quiet_want; go_big_quiet_op; (refine ⟨_, fun _ _ => rfl, ?_⟩); go_big_quiet_on)))
      (refine wpQuiet_nil ?_); intro w6 hw6
      have HB6 := Keep.keep (HH.out.trans (hw6.mono HH.out.size))
      clear hw6
      go_wp2_with fail
      go_roundg g
      case measure => omega
      case rel => exact ⟨i + 1, by omega, by simp, HB6.out⟩
    · obtain rfl : i = a.length := by omega
      have hdi : decide ((a.length : Int) < (a.length : Int)) = false := decide_eq_false (by omega)
      have hcv1 := run_string_of (HQ2.out.below HH.out (fun _ h => h))
      have hcv2 := run_string_of (HQ3.out.below HH.out (fun _ h => h))
      have h1 : (T == T) = true := beq_self_eq_true T
      have h2 : (E == E) = true := beq_self_eq_true E
      have h3 : (u == u) = true := beq_self_eq_true u
      have h4 : (o == o) = true := beq_self_eq_true o
      have HB1r := Keep.keep (HB1.out.trans ((HB4.out.trans (HH.out.mono HB4.out.size)).mono HB1.out.size))
      have HTZ := Keep.keep (HTL.out wr HB1r.out)
      clear hEE
      go_wp2_with (go_at_call 12; ((with_reducible refine HTZ.out.mono ?_); rintro e z3 ⟨rfl, hbz3⟩))
      go_ret
      exact ⟨rfl, HB1r.out.trans (hbz3.mono HB1r.out.size)⟩
end Go.Proofs.YtlhjehcfpnjbmaaDoor

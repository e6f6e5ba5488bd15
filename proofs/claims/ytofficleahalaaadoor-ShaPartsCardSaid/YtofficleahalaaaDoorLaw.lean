/- WHAT IS ALIKE FROM LAW TO LAW: the post out of 'true, and nothing that was there has changed'; arguments opened; listed variables. -/
import Derived.Test.YtofficleahalaaaDoorCards
import Derived.Test.YtofficleahalaaaDoorTie
import Derived.Test.YtofficleahalaaaDoorHp
import Derived.ProofKit
import Derived.OpenShut
import Derived.Carry
import Derived.ChangeSame
import Derived.Deep.DeepHandedRow
import Derived.Lib.LaidTab
namespace Go.Proofs.YtofficleahalaaaDoor
open Go.ChangeShapes Go.WideShapes Go.ChangeAt Go.RowKit
theorem laidOut : laidOutB Tryd.prog = true := by kernel_rfl
theorem own : ownKnob Tryd.prog.godebug = none := by kernel_rfl
theorem trodAll_below {H : Type} {enc : TypeId × Value → H} {W W' : World} (hb : Below W.heap.size W W') : ∀ (ts : List TypeId) (vs : List Value) (ds : List (DataW H)) (ps : List MemPlace),
    (∀ t ∈ ts, Tryd.prog.readableRec t = true ∧ t < Tryd.prog.types.size) → (∀ x ∈ ps, x.block < W.heap.size) → DataW.TrodAll enc Tryd.prog W 0 (fun _ => true) true ts vs ds ps → DataW.TrodAll enc Tryd.prog W' 0 (fun b => decide (b < W.heap.size)) true ts vs ds ps := by
  intro ts
  induction ts with
  | nil =>
    intro vs ds ps _ _ h
    cases vs <;> cases ds <;> first | exact h | cases h
  | cons t ts ih =>
    intro vs ds ps ht hp h
    obtain ⟨v, vs1, d, ds1, a, b, rfl, rfl, rfl, h1, h2⟩ := trodAll_cons h
    have htt := ht t (by simp)
    exact ⟨a, b, Below.trod laidOut htt.1 htt.2 h1 hb (fun x hx => hp x (by simp [hx])), ih vs1 ds1 b (fun t' ht' => ht t' (by simp [ht'])) (fun x hx => hp x (by simp [hx])) h2, rfl⟩
/-- THE POST OF A LAW -/
theorem law_post {H : Type} {enc : TypeId × Value → H} {f : Func} {s : ChangeSpec} {W W' : World} {args : Array Value} {ds gs : List (DataW H)} {before : List MemPlace} {tb : TypeId}
    (hW : DataW.Whole enc Tryd.prog f.params.toList s.vars false W args.toList ds gs before) (hb : Below W.heap.size W W')
    (hread : ∀ t ∈ f.params.toList, Tryd.prog.readableRec t = true ∧ t < Tryd.prog.types.size) (hvars : s.vars = [])
    (hres : f.resultTypes = #[tb]) (htb : Tryd.prog.underlying tb = some .bool) (hfn : s.fn H (ds ++ gs) = { results := [.lit (.bool true)], args := ds }) :
    s.post enc Tryd.prog f false true false false W args (.bool true) W' := by
  have hlt : ∀ p ∈ before, p.block < W.heap.size := fun p hp => hW.lt p hp
  have hW0 := hW
  obtain ⟨p, q, hA, hV, rfl, hz, hn⟩ := hW
  rw [hvars] at hV
  obtain ⟨rfl, rfl⟩ := trodVars_none hV
  have hA' := trodAll_below hb _ _ _ _ hread (fun x hx => hlt x (by simpa using hx)) hA
  refine ⟨ds, [], p ++ [], [], p, [], hW0, ?_, ?_, ?_, World.keptBut_mono (fun x hx => ⟨hx, ?_⟩) (hb.frame (· ∈ p ++ [])), fun h => by cases h⟩
  · rw [hres, hfn]
    exact trodAll_cons_mk (shut_bool htb _) trodAll_mk0
  · rw [hfn]; exact hA'
  · rw [hfn, hvars]; exact rfl
  · exact .inr (.inl (by simpa using hx))
theorem okSlice {P : Program} {w : World} {r : Reach} {base : Nat} {t e : TypeId} {v : Value} (ht : P.underlying t = some (.slice e)) (h : Value.okWide P w r base t v) :
    v = .slice none 0 0 ∨ ∃ b off len cap, v = .slice (some ⟨b, off, none⟩) len cap ∧ len ≤ cap ∧ cap ≤ maxLen ∧ b < w.heap.size := by
  obtain ⟨a, len, cap, rfl⟩ := okWide_slice ht h
  simp only [Value.okWide, ht, Cell.okWide] at h
  cases a with
  | none =>
    left
    simp only [Cell.ok, ht] at h
    split at h <;> simp_all
  | some a =>
    right
    obtain ⟨b, off, spot⟩ := a
    simp only [Cell.ok, ht] at h
    obtain ⟨h1, h2, _, h3, row, cells, h4, _⟩ := h
    simp only at h3 h4
    subst h3
    refine ⟨b, off, len, cap, rfl, h1, ?_, ?_⟩
    · have : IntKind.i64.max = 9223372036854775807 := rfl
      unfold maxLen; omega
    · unfold World.shape? at h4
      rcases Nat.lt_or_ge b w.heap.size with h | h
      · exact h
      · simp [Array.getElem?_eq_none h] at h4
/-- AN ARGUMENT OF TYPE []byte, OPENED -/
theorem opened_reads {P : Program} {H : Type} {enc : TypeId × Value → H} {t e : TypeId} {r : Reach} {base : Nat} (ht : P.underlying t = some (.slice e)) (he : P.underlying e = some (.int .u8)) (hc : P.cellsOf e = 1) {W : World} {v : Value} {d : DataW H} {p : List MemPlace}
    (hok : Value.okWide P W r base t v) (h0 : DataW.Trod enc P W 0 (fun _ => true) true t v d p) : ∃ l, Reads W (fun b => b < W.heap.size) v l := by
  obtain ⟨fuel, hf⟩ := h0
  rcases okSlice ht hok with rfl | ⟨b, off, len, cap, rfl, h1, h2, h3⟩
  · exact ⟨[], Reads.ofNil⟩
  · rcases open_ints ht he hc hf with ⟨hcs, hx⟩ | ⟨a', len', cap', zs, hcs, _, hl, hm, hz, hx, hcell, hwz⟩
    · cases hcs
    · have hcs : [Value.slice (some ⟨b, off, none⟩) len cap] = [Value.slice (some a') len' cap'] := hcs
      injection hcs with hcs _
      injection hcs with hc1 hc2 hc3
      injection hc1 with hc1
      subst hc1 hc2 hc3
      simp only [if_true] at hz
      refine ⟨(zs.take len).map fun x => UInt8.ofNat x.toNat, ⟨_, cap, ?_, ?_, hm, .inr ⟨b, off, rfl, h3⟩⟩, fun b' off' n' c' he' j hj => ?_⟩
      · congr 1; simp; omega
      · simp; omega
      · injection he' with e1 _ _; injection e1 with e1; injection e1 with e1 e2 _; subst e1 e2
        have hj' : j < len := by simp at hj; omega
        have hjz : j < zs.length := by omega
        have hc := hcell j hjz
        rw [Addr.add_mid] at hc
        rw [hc]
        have hw := hwz _ (List.getElem_mem hjz)
        have hm1 : IntKind.u8.min = 0 := rfl
        have hm2 : IntKind.u8.max = 255 := rfl
        simp only [Lit.wf, Bool.and_eq_true, decide_eq_true_eq, hm1, hm2] at hw
        simp only [List.getElem_map, List.getElem_take, List.getD_eq_getElem?_getD, List.getElem?_eq_getElem hjz, Option.getD_some, UInt8.toNat_ofNat']
        congr 2
        omega
theorem laid_drop {P : Program} {W : World} {x : String × DataW Unit} {rest : List (String × DataW Unit)} (h : ∃ ps, DataW.LaidVars P W (x :: rest) ps) : ∃ ps, DataW.LaidVars P W rest ps := by
  obtain ⟨ps, ⟨g', t', cs, fuel, p, q, hg', ht', hvar, hd, h2, _⟩⟩ := h
  exact ⟨q, h2⟩
theorem tab_of_laid {P : Program} {W : World} {name : String} {k : IntKind} {zs : List Int} {rest : List (String × DataW Unit)} {g : Nat} {t e : TypeId} {n : Nat}
    (hg : P.globalNamed name = some g) (hty : (P.globals[g]?).map (·.type) = some t) (ht : P.underlying t = some (.array n e)) (he : P.underlying e = some (.int k)) (hce : P.cellsOf e = 1) (hct : P.cellsOf t = n)
    (h : ∃ ps, DataW.LaidVars P W ((name, Lib.tabData k zs) :: rest) ps) : Lib.TabIs P W name k zs := by
  obtain ⟨ps, ⟨g', t', cs, fuel, p, q, hg', ht', hvar, hd, _, _⟩⟩ := h
  obtain rfl := Option.some.inj (hg.symm.trans hg')
  obtain rfl := Option.some.inj (hty.symm.trans ht')
  unfold Lib.TabIs
  rw [hvar, ← Lib.cells_of_tab ht he hce hct hd]
/-- an argument that is a text -/
theorem okStr {P : Program} {w : World} {r : Reach} {base : Nat} {t : TypeId} {v : Value} (ht : P.underlying t = some .string) (h : Value.okWide P w r base t v) : ∃ l : List UInt8, v = .string ⟨l.toArray⟩ ∧ l.length ≤ 9223372036854775807 := by
  obtain ⟨s, rfl⟩ := okWide_string ht h
  obtain ⟨⟨l⟩⟩ := s
  refine ⟨l, rfl, ?_⟩
  simp only [Value.okWide, ht, Cell.okWide, Cell.ok] at h
  have hm : IntKind.i64.max = 9223372036854775807 := rfl
  rw [hm] at h
  have : (ByteArray.mk ⟨l⟩).size = l.length := rfl
  rw [this] at h
  omega
/-- an argument that is an array of bytes -/
theorem okBytes {P : Program} {w : World} {r : Reach} {base : Nat} {t e : TypeId} {n : Nat} {v : Value} (ht : P.underlying t = some (.array n e)) (he : P.underlying e = some (.int .u8)) (hc : P.cellsOf t = n) (hts : P.cellTypes P.depth t = some (List.replicate n e)) (h : Value.okWide P w r base t v) :
    ∃ l : List UInt8, l.length = n ∧ v = .agg (bcells l).toArray := by
  simp only [Value.okWide, ht] at h
  obtain ⟨cs, rfl, hsz, ts, hts', _, hcell⟩ := h
  obtain rfl := Option.some.inj (hts.symm.trans hts')
  rw [hc] at hsz
  have hm1 : IntKind.u8.min = 0 := rfl
  have hm2 : IntKind.u8.max = 255 := rfl
  have key : ∀ v ∈ cs.toList, ∃ c : UInt8, v = .int .u8 (c.toNat : Int) := by
    intro v hv
    obtain ⟨i, hi⟩ := List.getElem?_of_mem hv
    obtain ⟨u, hu, hok⟩ := hcell i v (by simpa using hi)
    obtain rfl : u = e := by
      have := List.mem_of_getElem? hu
      exact (List.mem_replicate.1 this).2
    simp only [Cell.okWide, he] at hok
    cases v <;> simp only [Cell.ok, he] at hok
    rename_i k x
    obtain ⟨rfl, h1, h2⟩ := hok
    rw [hm1] at h1; rw [hm2] at h2
    refine ⟨UInt8.ofNat x.toNat, ?_⟩
    congr 1
    rw [UInt8.toNat_ofNat']
    omega
  refine ⟨cs.toList.map fun v => match v with | .int _ x => UInt8.ofNat x.toNat | _ => 0, by simpa using hsz, ?_⟩
  congr 1
  apply Array.ext'
  simp only [bcells, List.map_map]
  rw [List.map_congr_left (g := id), List.map_id]
  intro v hv
  obtain ⟨c, rfl⟩ := key v hv
  simp
theorem laidVars_append {P : Program} {w : World} : ∀ (l1 l2 : List (String × DataW Unit)) (ps : List MemPlace), DataW.LaidVars P w (l1 ++ l2) ps ↔ ∃ p1 p2, DataW.LaidVars P w l1 p1 ∧ DataW.LaidVars P w l2 p2 ∧ ps = p1 ++ p2
  | [], l2, ps => by
    constructor
    · intro h; exact ⟨[], ps, rfl, h, rfl⟩
    · rintro ⟨p1, p2, h1, h2, rfl⟩
      obtain rfl : p1 = [] := h1
      exact h2
  | (n, d) :: l1, l2, ps => by
    constructor
    · rintro ⟨g, t, cs, fuel, p, q, h1, h2, h3, h4, h5, rfl⟩
      obtain ⟨q1, q2, k1, k2, rfl⟩ := (laidVars_append l1 l2 q).1 h5
      exact ⟨_, q2, ⟨g, t, cs, fuel, p, q1, h1, h2, h3, h4, k1, rfl⟩, k2, by simp⟩
    · rintro ⟨p1, p2, ⟨g, t, cs, fuel, p, q1, h1, h2, h3, h4, k1, rfl⟩, k2, rfl⟩
      exact ⟨g, t, cs, fuel, p, q1 ++ p2, h1, h2, h3, h4, (laidVars_append l1 l2 _).2 ⟨q1, p2, k1, k2, rfl⟩, by simp⟩
/-- the last two listed variables, the other way round -/
theorem laid_swap {P : Program} {w : World} (l l1 l2 : List (String × DataW Unit)) (h : laidMet P (l ++ (l1 ++ l2)) w) : laidMet P (l ++ (l2 ++ l1)) w := by
  obtain ⟨ps, hv, hn, hc⟩ := h
  obtain ⟨p, q, k1, k2, rfl⟩ := (laidVars_append l _ _).1 hv
  obtain ⟨q1, q2, m1, m2, rfl⟩ := (laidVars_append l1 l2 _).1 k2
  refine ⟨p ++ (q2 ++ q1), (laidVars_append l _ _).2 ⟨p, q2 ++ q1, k1, (laidVars_append l2 l1 _).2 ⟨q2, q1, m2, m1, rfl⟩, rfl⟩, ?_, fun b off hm => hc b off (by simp only [List.mem_append] at hm ⊢; rcases hm with h | h | h <;> simp [h])⟩
  exact (List.Perm.append_left p List.perm_append_comm).nodup_iff.1 hn
end Go.Proofs.YtofficleahalaaaDoor

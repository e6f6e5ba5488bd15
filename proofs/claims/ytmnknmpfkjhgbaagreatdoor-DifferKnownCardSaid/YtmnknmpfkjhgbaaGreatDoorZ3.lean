/- PARTS OF ONE PROOF, set in one file: DKnL, DifferKnown, TreeLaid. Each part tells its own conditions. -/
import Derived.Lib.LaidU8
import Derived.LaidHandle
import Derived.LaidSub
import Derived.PinnedBridge
import Derived.Deep.DeepWitnessRowRef
import Derived.Test.YtmnknmpfkjhgbaaGreatDoorZ2
/- DifferKnown: plain facts; trees of 4096 Files. -/
namespace Go.Proofs.YtmnknmpfkjhgbaaGreatDoor
/-- the k-th name of three letters -/
def nm3 (k : Nat) : Tx := [UInt8.ofNat (97 + k / 26 / 26), UInt8.ofNat (97 + k / 26 % 26), UInt8.ofNat (97 + k % 26)]
def mA (k : Nat) : Mb := (nm3 k, bareN)
def mB (k : Nat) : Mb := (nm3 k ++ [120], bareN)
def rowG (g : Nat → Mb) (n : Nat) : List Mb := (List.range n).map g
theorem three26 {P : Nat → Prop} (h : ∀ a, a < 7 → ∀ b, b < 26 → ∀ c, c < 26 → P (a * 676 + b * 26 + c)) : ∀ k, k < 4097 → P k := fun k hk => by
  have := h (k / 676) (by omega) (k / 26 % 26) (by omega) (k % 26) (by omega)
  rwa [show k / 676 * 676 + k / 26 % 26 * 26 + k % 26 = k by omega] at this
theorem mA_may : ∀ k, k < 4097 → mayM (mA k) = true := three26 (by decide +kernel)
theorem mB_may : ∀ k, k < 4097 → mayM (mB k) = true := three26 (by decide +kernel)
theorem mA_rise : ∀ k, k < 4097 → (mA k).1 < (mA (k + 1)).1 := three26 (P := fun k => (mA k).1 < (mA (k + 1)).1) (by decide +kernel)
theorem mB_rise : ∀ k, k < 4097 → (mB k).1 < (mB (k + 1)).1 := three26 (P := fun k => (mB k).1 < (mB (k + 1)).1) (by decide +kernel)
theorem mA_par : ∀ k, k < 4097 → parentP (mA k).1 = [] := three26 (by decide +kernel)
theorem mB_par : ∀ k, k < 4097 → parentP (mB k).1 = [] := three26 (by decide +kernel)
structure RowG (g : Nat → Mb) : Prop where
  may : ∀ k, k < 4097 → mayM (g k) = true
  rise : ∀ k, k < 4097 → (g k).1 < (g (k + 1)).1
  par : ∀ k, k < 4097 → parentP (g k).1 = []
  nd : ∀ k, (g k).2 = bareN
theorem rgFA : RowG mA := ⟨mA_may, mA_rise, mA_par, fun _ => rfl⟩
theorem rgFB : RowG mB := ⟨mB_may, mB_rise, mB_par, fun _ => rfl⟩
theorem RowG.lt {g : Nat → Mb} (h : RowG g) : ∀ n, n ≤ 4097 → ∀ k, k < n → (g k).1 < (g n).1 := by
  intro n
  induction n with
  | zero => intro _ k hk; omega
  | succ n ih =>
    intro hn k hk
    rcases Nat.lt_succ_iff_lt_or_eq.1 hk with h1 | rfl
    · exact tx_trans (ih (by omega) k h1) (h.rise n (by omega))
    · exact h.rise k (by omega)
theorem row_mem {g : Nat → Mb} {n : Nat} {x : Mb} : x ∈ rowG g n ↔ ∃ k, k < n ∧ g k = x := by
  unfold rowG
  rw [List.mem_map]
  constructor
  · rintro ⟨k, hk, e⟩; exact ⟨k, List.mem_range.1 hk, e⟩
  · rintro ⟨k, hk, e⟩; exact ⟨k, List.mem_range.2 hk, e⟩
theorem row_len (g : Nat → Mb) (n : Nat) : (rowG g n).length = n := by simp [rowG]
theorem row_succ (g : Nat → Mb) (n : Nat) : rowG g (n + 1) = rowG g n ++ [g n] := by unfold rowG; rw [List.range_succ, List.map_append]; rfl
theorem RowG.well {g : Nat → Mb} (h : RowG g) {n : Nat} (hn : n ≤ 4097) : WellL (rowG g n) := by
  refine ⟨?_, fun x hx => ?_, fun x hx => ?_⟩
  · unfold SM.Srt rowG
    rw [List.pairwise_map]
    refine List.Pairwise.imp_of_mem (fun {a b} ha hb hab => ?_) (List.pairwise_lt_range (n := n))
    exact h.lt b (by have := List.mem_range.1 hb; omega) a hab
  · obtain ⟨k, hk, rfl⟩ := row_mem.1 hx
    exact h.may k (by omega)
  · obtain ⟨k, hk, rfl⟩ := row_mem.1 hx
    rw [h.par k (by omega)]
    simp [dirT]
theorem RowG.new {g : Nat → Mb} (h : RowG g) {n : Nat} (hn : n ≤ 4096) : newT (rowG g n) = (0, some (rowG g n)) := newT_perm (h.well (by omega)) (List.Perm.refl _) (by rw [row_len]; exact hn)
/-- many names with something to tell each: the Dir is marked -/
theorem told_marked {A B : List Mb} (hA : WellL A) (hB : WellL B) (hp : ∀ x, x ∈ A ∨ x ∈ B → x.1.length < 500000) (names : List Tx) (hn : names.Nodup) (hs : ∀ c ∈ names, c ∈ ksT A B []) (h1 : ∀ c bl, c ∈ ksT A B [] → oneF A B bl c ≠ []) (hl : 1 + B.length < names.length) :
    toldL A B = B.filter (fun q => underP [] q.1) ++ [mkM []] := by
  have hk := ksT_kids hA hB
  unfold toldL
  rw [bel_step hA hB hk 500000 [] (fun x hx => by have := hp x hx; simpa using this)]
  unfold bodyF
  rw [if_neg]
  intro hle
  have h2 := nodup_le names _ hn hs
  have h3 : ∀ (l : List Tx) (F : Tx → List Mb), (∀ c ∈ l, oneF A B (F c) c ≠ []) → l.length ≤ (flatF A B l F).length := by
    intro l F
    induction l with
    | nil => intro _; exact Nat.zero_le _
    | cons c l ih =>
      intro hc
      have h4 := ih (fun x hx => hc x (List.mem_cons_of_mem _ hx))
      have h5 := hc c List.mem_cons_self
      have h6 : 0 < (oneF A B (F c) c).length := List.length_pos_iff.2 h5
      unfold flatF at h4 ⊢
      rw [List.flatMap_cons, List.length_append, List.length_cons]
      omega
  have h4 := h3 (ksT A B []) (belF A B (ksT A B) (500000 - 1)) (fun c hc => h1 c _ hc)
  have h5 := List.countP_le_length (p := fun q : Mb => underP [] q.1) (l := B)
  omega
theorem look_some_of {L : List Mb} (_hs : SM.Srt L) {x : Mb} (hx : x ∈ L) : (SM.look L x.1).isSome = true := by
  cases h : SM.look L x.1 with
  | some v => rfl
  | none => exact (SM.look_none.1 h x hx rfl).elim
theorem mA_len (k : Nat) : (mA k).1.length = 3 := rfl
theorem mB_len (k : Nat) : (mB k).1.length = 4 := rfl
theorem toldM_fromN (n : Nat) (h1 : 1 < n) (h2 : n ≤ 4096) : toldL (rowG mA n) [] = [mkM []] := by
  have hA := rgFA.well (n := n) (by omega)
  have hk := ksT_kids hA WellL.nil
  have h := told_marked hA WellL.nil (fun x hx => by
    obtain ⟨k, -, rfl⟩ := row_mem.1 (hx.resolve_right List.not_mem_nil)
    rw [mA_len]; omega) ((rowG mA n).map (·.1)) (srt_nodup hA.s) (fun c hc => by
    obtain ⟨x, hx, rfl⟩ := List.mem_map.1 hc
    obtain ⟨k, hk2, rfl⟩ := row_mem.1 hx
    exact (hk.mem [] _).2 ⟨mA_par k (by omega), .inl (look_some_of hA.s hx)⟩) (fun c bl _ => by
    unfold oneF
    rw [show SM.look [] c = none from rfl]
    simp) (by rw [List.length_map, row_len]; simpa using h1)
  rw [h]
  rfl
theorem toldM_lenN (n : Nat) (h1 : 1 < n) (h2 : n ≤ 4096) : (toldL (rowG mA n) (rowG mB n)).length = n + 1 := by
  have hA := rgFA.well (n := n) (by omega)
  have hB := rgFB.well (n := n) (by omega)
  have hk := ksT_kids hA hB
  have h := told_marked hA hB (fun x hx => by
    rcases hx with hx | hx
    · obtain ⟨k, -, rfl⟩ := row_mem.1 hx
      rw [mA_len]; omega
    · obtain ⟨k, -, rfl⟩ := row_mem.1 hx
      rw [mB_len]; omega) ((rowG mA n).map (·.1) ++ (rowG mB n).map (·.1)) (List.nodup_append.2 ⟨srt_nodup hA.s, srt_nodup hB.s, fun a ha b hb e => by
      obtain ⟨x, hx, rfl⟩ := List.mem_map.1 ha
      obtain ⟨y, hy, rfl⟩ := List.mem_map.1 hb
      obtain ⟨k, -, rfl⟩ := row_mem.1 hx
      obtain ⟨j, -, rfl⟩ := row_mem.1 hy
      have := congrArg List.length e
      rw [mA_len, mB_len] at this
      omega⟩) (fun c hc => by
    rcases List.mem_append.1 hc with hc | hc
    · obtain ⟨x, hx, rfl⟩ := List.mem_map.1 hc
      obtain ⟨k, hk2, rfl⟩ := row_mem.1 hx
      exact (hk.mem [] _).2 ⟨mA_par k (by omega), .inl (look_some_of hA.s hx)⟩
    · obtain ⟨x, hx, rfl⟩ := List.mem_map.1 hc
      obtain ⟨k, hk2, rfl⟩ := row_mem.1 hx
      exact (hk.mem [] _).2 ⟨mB_par k (by omega), .inr (look_some_of hB.s hx)⟩) (fun c bl hc => by
    unfold oneF
    cases hl : SM.look (rowG mB n) c with
    | none => simp
    | some y =>
      obtain ⟨j, -, hj⟩ := row_mem.1 (SM.look_mem hl)
      have hy : y = bareN := by rw [← rgFB.nd j, hj]
      have hcl : c.length = 4 := by rw [← mB_len j, hj]
      have hno : SM.look (rowG mA n) c = none := SM.look_none.2 (fun x hx e => by
        obtain ⟨k, -, rfl⟩ := row_mem.1 hx
        have := congrArg List.length e
        rw [mA_len, hcl] at this
        omega)
      subst hy
      simp only
      rw [if_neg (by rintro ⟨h1, -⟩; exact absurd h1 (by decide)), if_neg (by decide), hno, if_pos (by simp)]
      simp) (by rw [List.length_append, List.length_map, List.length_map, row_len, row_len]; omega)
  rw [h, List.length_append, List.filter_eq_self.2 (fun x hx => by
    rw [under_nil]
    simp [(hB.path hx).2]), row_len]
  rfl
theorem tpM : pathsS [mkM []] = [46, 119, 104, 46, 46, 119, 104, 46, 46, 111, 112, 113, 32] := by kernel_rfl
end Go.Proofs.YtmnknmpfkjhgbaaGreatDoor
/- portolanlaw20.DifferKnown: the law's walk (printed by gen_dkn.py). -/
namespace Go.Proofs.YtmnknmpfkjhgbaaGreatDoor
open Go.RowKit
def dirM (m : Int) : Nd := ⟨1, m, 0, 0, 0, [], [], []⟩
def kA : Nat → List Mb
  | 0 => [([97], dirM 0), ([97, 47, 98], dirM 0), ([97, 47, 98, 47, 99], bareN)]
  | 1 => [([97], dirM 0), ([97, 47, 98], bareN)]
  | 2 => [([97], dirM 0), ([97, 47, 98], bareN)]
  | 3 => [([97], dirM 0), ([97, 47, 98], bareN), ([97, 47, 99], bareN)]
  | 4 => [([97], dirM 0), ([97, 47, 98], bareN), ([97, 47, 99], bareN)]
  | 5 => [([97], bareN), ([98], bareN), ([99], bareN), ([100], bareN)]
  | _ => [([97], bareN), ([98], bareN), ([99], bareN)]
def kB : Nat → List Mb
  | 0 => [([97], dirM 0), ([97, 47, 98], dirM 0), ([97, 47, 98, 47, 100], bareN)]
  | 1 => [([97], dirM 1), ([97, 47, 98], bareN)]
  | 2 => [([97], dirM 0)]
  | 3 => [([97], dirM 0)]
  | 4 => [([97], bareN)]
  | 5 => [([100], bareN)]
  | _ => [([99], bareN)]
def kS : Nat → Tx
  | 0 => [97, 32, 97, 47, 98, 32, 97, 47, 98, 47, 46, 119, 104, 46, 99, 32, 97, 47, 98, 47, 100, 32]
  | 1 => [97, 32]
  | 2 => [97, 32, 97, 47, 46, 119, 104, 46, 98, 32]
  | 3 => [97, 32, 97, 47, 46, 119, 104, 46, 46, 119, 104, 46, 46, 111, 112, 113, 32]
  | 4 => [97, 32]
  | 5 => [46, 119, 104, 46, 46, 119, 104, 46, 46, 111, 112, 113, 32, 100, 32]
  | _ => [46, 119, 104, 46, 97, 32, 46, 119, 104, 46, 98, 32]
def kK : Nat → List Mb
  | 0 => [([97], dirM 0), ([97, 47, 98], dirM 0), ([97, 47, 98, 47, 46, 119, 104, 46, 99], bareN), ([97, 47, 98, 47, 100], bareN)]
  | 1 => [([97], dirM 1)]
  | 2 => [([97], dirM 0), ([97, 47, 46, 119, 104, 46, 98], bareN)]
  | 3 => [([97], dirM 0), ([97, 47, 46, 119, 104, 46, 46, 119, 104, 46, 46, 111, 112, 113], bareN)]
  | 4 => [([97], bareN)]
  | 5 => [([46, 119, 104, 46, 46, 119, 104, 46, 46, 111, 112, 113], bareN), ([100], bareN)]
  | _ => [([46, 119, 104, 46, 97], bareN), ([46, 119, 104, 46, 98], bareN)]
theorem seven {P : Nat → Prop} (h0 : P 0) (h1 : P 1) (h2 : P 2) (h3 : P 3) (h4 : P 4) (h5 : P 5) (h6 : P 6) : ∀ k, k < 7 → P k := fun k hk => by
  rcases (by omega : k = 0 ∨ k = 1 ∨ k = 2 ∨ k = 3 ∨ k = 4 ∨ k = 5 ∨ k = 6) with rfl | rfl | rfl | rfl | rfl | rfl | rfl <;> assumption
set_option maxRecDepth 100000 in
theorem kn_new : ∀ k, k < 7 → newT (kA k) = (0, some (kA k)) ∧ newT (kB k) = (0, some (kB k)) :=
  seven ⟨by kernel_rfl, by kernel_rfl⟩ ⟨by kernel_rfl, by kernel_rfl⟩ ⟨by kernel_rfl, by kernel_rfl⟩ ⟨by kernel_rfl, by kernel_rfl⟩ ⟨by kernel_rfl, by kernel_rfl⟩ ⟨by kernel_rfl, by kernel_rfl⟩ ⟨by kernel_rfl, by kernel_rfl⟩
set_option maxRecDepth 100000 in
theorem kn_perm : ∀ k, k < 7 → (belF (kA k) (kB k) (ksU (kA k) (kB k)) 500000 []).isPerm (kK k) = true :=
  seven (by kernel_rfl) (by kernel_rfl) (by kernel_rfl) (by kernel_rfl) (by kernel_rfl) (by kernel_rfl) (by kernel_rfl)
theorem kn_srt : ∀ k, k < 7 → SM.Srt (kK k) := fun k hk => by
  have h : ∀ k, k < 7 → (kK k).Pairwise (fun a b => a.1 < b.1) := seven (by decide) (by decide) (by decide) (by decide) (by decide) (by decide) (by decide)
  exact h k hk
set_option maxRecDepth 100000 in
theorem kn_str : ∀ k, k < 7 → pathsS (kK k) = kS k := seven (by kernel_rfl) (by kernel_rfl) (by kernel_rfl) (by kernel_rfl) (by kernel_rfl) (by kernel_rfl) (by kernel_rfl)
theorem kn_len : ∀ k, k < 7 → (kA k).length ≤ 4 ∧ (kB k).length ≤ 4 := seven (by decide) (by decide) (by decide) (by decide) (by decide) (by decide) (by decide)
theorem kn_lenK : ∀ k, k < 7 → (kK k).length ≤ 10 ∧ ∀ m ∈ kK k, m.1.length ≤ 400000 := seven (by decide) (by decide) (by decide) (by decide) (by decide) (by decide) (by decide)
theorem kn_bare : ∀ k, k < 7 → (∀ m ∈ kA k, m.2.attrs = [] ∧ m.2.data = [] ∧ m.1.length ≤ 10 ∧ m.2.link = [] ∧ (m.2.kind = 1 ∨ m.2.kind = 2)) ∧ (∀ m ∈ kB k, m.2.attrs = [] ∧ m.2.data = [] ∧ m.1.length ≤ 10 ∧ m.2.link = [] ∧ (m.2.kind = 1 ∨ m.2.kind = 2)) :=
  seven (by decide) (by decide) (by decide) (by decide) (by decide) (by decide) (by decide)
theorem kn_told {k : Nat} (hk : k < 7) {K : List Mb} (hp : K.Perm (toldL (kA k) (kB k))) (hs : SM.Srt K) : K = kK k :=
  told_is (newT_well (kn_new k hk).1) (newT_well (kn_new k hk).2) rfl (List.isPerm_iff.1 (kn_perm k hk)) (kn_srt k hk) hp hs
def mvs (L : List Mb) : List Mv := L.map fun m => (m, nilV, nilV)
theorem mvs_map (L : List Mb) : (mvs L).map (·.1) = L := by unfold mvs; rw [List.map_map]; exact List.map_id' _
/-- a row of Members without slices of their own -/
theorem row_mbs {w : World} {b : Nat} {c : Array Value} {L : List Mb} (h : Row w b 41 c) (hc : c.toList = mcells (mvs L)) (hl : L.length ≤ 100000) (hn : ∀ m ∈ L, m.2.attrs = [] ∧ m.2.data = []) : MbL w (.slice (some ⟨b, 0, none⟩) L.length L.length) (mvs L) := by
  have hlm : (mvs L).length = L.length := by unfold mvs; rw [List.length_map]
  refine ⟨?_, fun x hx => ?_⟩
  · refine ⟨by rw [mcells_length], ⟨some ⟨b, 0, none⟩, L.length, by rw [hlm], by omega, by unfold maxLen; omega, .inr ⟨b, 0, rfl, h.lt⟩⟩, fun b' off n c' he j u hj => ?_⟩
    injection he with e1 e2 e3
    injection e1 with e1
    injection e1 with e4 e5 e6
    subst e4 e5
    rw [Nat.zero_add]
    refine h.cell ?_
    rw [← hj, ← hc]
    simp
  · unfold mvs at hx
    obtain ⟨m, hm, rfl⟩ := List.mem_map.1 hx
    exact ndR_nil (hn m hm).1 (hn m hm).2
theorem sm_bare {m : Mb} (h : m.2.attrs = [] ∧ m.2.data = [] ∧ m.1.length ≤ 10 ∧ m.2.link = [] ∧ (m.2.kind = 1 ∨ m.2.kind = 2)) : Sm m := ⟨Nat.le_trans h.2.2.1 (by decide), by rw [h.2.2.2.1]; exact Nat.zero_le _, by rw [h.2.1]; exact Nat.zero_le _, by rw [h.1]; exact Nat.zero_le _, fun x hx => by (rw [h.1] at hx; exact (List.not_mem_nil hx).elim), by rcases h.2.2.2.2 with e | e <;> rw [e] <;> decide⟩
set_option maxHeartbeats 1000000 in
set_option maxRecDepth 100000 in
theorem kn1_any (p : Tx) (m : Int) (w : World) : Calls Tryz.prog 22 #[.string ⟨p.toArray⟩, .int .u32 m] w fun e w' => e = .returned (.agg #[.string ⟨p.toArray⟩, .int .i64 1, .int .u32 m, .int .u32 0, .int .u32 0, .int .i64 0, .slice none 0 0, .slice none 0 0, .string ⟨#[]⟩]) ∧ Below w.heap.size w w' := by
  have hb1 : ∀ w, (Instr.build 39 #[(0, .int .i64 1), (1, .int .u32 m)]).run Tryz.prog w = .ok (.agg #[.int .i64 1, .int .u32 m, .int .u32 0, .int .u32 0, .int .i64 0, .slice none 0 0, .slice none 0 0, .string ⟨#[]⟩]) w := fun w => by kernel_rfl
  have hb3 : ∀ w, (Instr.build 41 #[(0, .string ⟨p.toArray⟩), (1, .agg #[.int .i64 1, .int .u32 m, .int .u32 0, .int .u32 0, .int .i64 0, .slice none 0 0, .slice none 0 0, .string ⟨#[]⟩])]).run Tryz.prog w = .ok (.agg #[.string ⟨p.toArray⟩, .int .i64 1, .int .u32 m, .int .u32 0, .int .u32 0, .int .i64 0, .slice none 0 0, .slice none 0 0, .string ⟨#[]⟩]) w := fun w => buildM (p, dirM m) nilV nilV w
  have HZ : Keep ((#[.string ⟨#[]⟩, .int .i64 0, .int .u32 0, .int .u32 0, .int .u32 0, .int .i64 0, .slice none 0 0, .slice none 0 0, .string ⟨#[]⟩] : Array Value).size = 9) := ⟨rfl⟩
  have HSZ : Keep ((#[.string ⟨p.toArray⟩, .int .i64 1, .int .u32 m, .int .u32 0, .int .u32 0, .int .i64 0, .slice none 0 0, .slice none 0 0, .string ⟨#[]⟩] : Array Value).size = 9) := ⟨rfl⟩
  have HON : Keep ((#[.string ⟨p.toArray⟩, .int .i64 1, .int .u32 m, .int .u32 0, .int .u32 0, .int .i64 0, .slice none 0 0, .slice none 0 0, .string ⟨#[]⟩] : Array Value).all (·.oneCell') = true) := ⟨by simp [Value.oneCell']⟩
  go_enter Tryz.func22, Tryz.ntmps22
  go_upto_region 1 with fail
  refine wp_world (R := fun w1 => Hp NoM w w1 [rowA w.heap.size 41 #[.string ⟨#[]⟩, .int .i64 0, .int .u32 0, .int .u32 0, .int .u32 0, .int .i64 0, .slice none 0 0, .slice none 0 0, .string ⟨#[]⟩]]) ((Hp.begin NoM w).newRow _ _) ?_
  intro w1 H1
  have HRW := Keep.keep (H1.out.row 0 rfl)
  have HB := Keep.keep ((Chg.of_below (M := NoM) H1.out.below))
  go_wp2_with ((with_reducible refine arm_storeRow HRW.out aggM HZ.out HSZ.out HON.out ?_ ?_ ?_); (focus rfl); (focus rfl); simp only [Act.put])
  exact bodyPost_ret (results_row (p := 4) (ty := 41) rfl (HRW.out.setRow _) aggM HSZ.out rfl) rfl ⟨rfl, (HB.out.setRow (.inl (Nat.le_refl _)) _).below (fun _ _ h => h)⟩
set_option maxHeartbeats 1000000 in
set_option maxRecDepth 100000 in
theorem kn2_any (p : Tx) (w : World) : Calls Tryz.prog 23 #[.string ⟨p.toArray⟩] w fun e w' => e = .returned (.agg #[.string ⟨p.toArray⟩, .int .i64 2, .int .u32 0, .int .u32 0, .int .u32 0, .int .i64 0, .slice none 0 0, .slice none 0 0, .string ⟨#[]⟩]) ∧ Below w.heap.size w w' := by
  have hb1 : ∀ w, (Instr.build 39 #[(0, .int .i64 2)]).run Tryz.prog w = .ok (.agg #[.int .i64 2, .int .u32 0, .int .u32 0, .int .u32 0, .int .i64 0, .slice none 0 0, .slice none 0 0, .string ⟨#[]⟩]) w := fun w => by kernel_rfl
  have hb3 : ∀ w, (Instr.build 41 #[(0, .string ⟨p.toArray⟩), (1, .agg #[.int .i64 2, .int .u32 0, .int .u32 0, .int .u32 0, .int .i64 0, .slice none 0 0, .slice none 0 0, .string ⟨#[]⟩])]).run Tryz.prog w = .ok (.agg #[.string ⟨p.toArray⟩, .int .i64 2, .int .u32 0, .int .u32 0, .int .u32 0, .int .i64 0, .slice none 0 0, .slice none 0 0, .string ⟨#[]⟩]) w := fun w => buildM (p, bareN) nilV nilV w
  have HZ : Keep ((#[.string ⟨#[]⟩, .int .i64 0, .int .u32 0, .int .u32 0, .int .u32 0, .int .i64 0, .slice none 0 0, .slice none 0 0, .string ⟨#[]⟩] : Array Value).size = 9) := ⟨rfl⟩
  have HSZ : Keep ((#[.string ⟨p.toArray⟩, .int .i64 2, .int .u32 0, .int .u32 0, .int .u32 0, .int .i64 0, .slice none 0 0, .slice none 0 0, .string ⟨#[]⟩] : Array Value).size = 9) := ⟨rfl⟩
  have HON : Keep ((#[.string ⟨p.toArray⟩, .int .i64 2, .int .u32 0, .int .u32 0, .int .u32 0, .int .i64 0, .slice none 0 0, .slice none 0 0, .string ⟨#[]⟩] : Array Value).all (·.oneCell') = true) := ⟨by simp [Value.oneCell']⟩
  go_enter Tryz.func23, Tryz.ntmps23
  go_upto_region 1 with fail
  refine wp_world (R := fun w1 => Hp NoM w w1 [rowA w.heap.size 41 #[.string ⟨#[]⟩, .int .i64 0, .int .u32 0, .int .u32 0, .int .u32 0, .int .i64 0, .slice none 0 0, .slice none 0 0, .string ⟨#[]⟩]]) ((Hp.begin NoM w).newRow _ _) ?_
  intro w1 H1
  have HRW := Keep.keep (H1.out.row 0 rfl)
  have HB := Keep.keep ((Chg.of_below (M := NoM) H1.out.below))
  go_wp2_with ((with_reducible refine arm_storeRow HRW.out aggM HZ.out HSZ.out HON.out ?_ ?_ ?_); (focus rfl); (focus rfl); simp only [Act.put])
  exact bodyPost_ret (results_row (p := 2) (ty := 41) rfl (HRW.out.setRow _) aggM HSZ.out rfl) rfl ⟨rfl, (HB.out.setRow (.inl (Nat.le_refl _)) _).below (fun _ _ h => h)⟩
theorem kn1_lit (p : Array UInt8) (m : Int) (w : World) : Calls Tryz.prog 22 #[.string ⟨p⟩, .int .u32 m] w fun e w' => e = .returned (.agg #[.string ⟨p⟩, .int .i64 1, .int .u32 m, .int .u32 0, .int .u32 0, .int .i64 0, .slice none 0 0, .slice none 0 0, .string ⟨#[]⟩]) ∧ Below w.heap.size w w' := kn1_any p.toList m w
theorem kn2_lit (p : Array UInt8) (w : World) : Calls Tryz.prog 23 #[.string ⟨p⟩] w fun e w' => e = .returned (.agg #[.string ⟨p⟩, .int .i64 2, .int .u32 0, .int .u32 0, .int .u32 0, .int .i64 0, .slice none 0 0, .slice none 0 0, .string ⟨#[]⟩]) ∧ Below w.heap.size w w' := kn2_any p.toList w
def kr0 : Array Value := #[.string ⟨#[97]⟩, .int .i64 1, .int .u32 0, .int .u32 0, .int .u32 0, .int .i64 0, .slice none 0 0, .slice none 0 0, .string ⟨#[]⟩, .string ⟨#[97, 47, 98]⟩, .int .i64 1, .int .u32 0, .int .u32 0, .int .u32 0, .int .i64 0, .slice none 0 0, .slice none 0 0, .string ⟨#[]⟩, .string ⟨#[97, 47, 98, 47, 99]⟩, .int .i64 2, .int .u32 0, .int .u32 0, .int .u32 0, .int .i64 0, .slice none 0 0, .slice none 0 0, .string ⟨#[]⟩]
def kr1 : Array Value := #[.string ⟨#[97]⟩, .int .i64 1, .int .u32 0, .int .u32 0, .int .u32 0, .int .i64 0, .slice none 0 0, .slice none 0 0, .string ⟨#[]⟩, .string ⟨#[97, 47, 98]⟩, .int .i64 1, .int .u32 0, .int .u32 0, .int .u32 0, .int .i64 0, .slice none 0 0, .slice none 0 0, .string ⟨#[]⟩, .string ⟨#[97, 47, 98, 47, 100]⟩, .int .i64 2, .int .u32 0, .int .u32 0, .int .u32 0, .int .i64 0, .slice none 0 0, .slice none 0 0, .string ⟨#[]⟩]
def kr2 : Array Value := #[.string ⟨#[97]⟩, .int .i64 1, .int .u32 0, .int .u32 0, .int .u32 0, .int .i64 0, .slice none 0 0, .slice none 0 0, .string ⟨#[]⟩, .string ⟨#[97, 47, 98]⟩, .int .i64 2, .int .u32 0, .int .u32 0, .int .u32 0, .int .i64 0, .slice none 0 0, .slice none 0 0, .string ⟨#[]⟩]
def kr3 : Array Value := #[.string ⟨#[97]⟩, .int .i64 1, .int .u32 1, .int .u32 0, .int .u32 0, .int .i64 0, .slice none 0 0, .slice none 0 0, .string ⟨#[]⟩, .string ⟨#[97, 47, 98]⟩, .int .i64 2, .int .u32 0, .int .u32 0, .int .u32 0, .int .i64 0, .slice none 0 0, .slice none 0 0, .string ⟨#[]⟩]
def kr4 : Array Value := #[.string ⟨#[97]⟩, .int .i64 1, .int .u32 0, .int .u32 0, .int .u32 0, .int .i64 0, .slice none 0 0, .slice none 0 0, .string ⟨#[]⟩, .string ⟨#[97, 47, 98]⟩, .int .i64 2, .int .u32 0, .int .u32 0, .int .u32 0, .int .i64 0, .slice none 0 0, .slice none 0 0, .string ⟨#[]⟩]
def kr5 : Array Value := #[.string ⟨#[97]⟩, .int .i64 1, .int .u32 0, .int .u32 0, .int .u32 0, .int .i64 0, .slice none 0 0, .slice none 0 0, .string ⟨#[]⟩]
def kr6 : Array Value := #[.string ⟨#[97]⟩, .int .i64 1, .int .u32 0, .int .u32 0, .int .u32 0, .int .i64 0, .slice none 0 0, .slice none 0 0, .string ⟨#[]⟩, .string ⟨#[97, 47, 98]⟩, .int .i64 2, .int .u32 0, .int .u32 0, .int .u32 0, .int .i64 0, .slice none 0 0, .slice none 0 0, .string ⟨#[]⟩, .string ⟨#[97, 47, 99]⟩, .int .i64 2, .int .u32 0, .int .u32 0, .int .u32 0, .int .i64 0, .slice none 0 0, .slice none 0 0, .string ⟨#[]⟩]
def kr7 : Array Value := #[.string ⟨#[97]⟩, .int .i64 1, .int .u32 0, .int .u32 0, .int .u32 0, .int .i64 0, .slice none 0 0, .slice none 0 0, .string ⟨#[]⟩]
def kr8 : Array Value := #[.string ⟨#[97]⟩, .int .i64 1, .int .u32 0, .int .u32 0, .int .u32 0, .int .i64 0, .slice none 0 0, .slice none 0 0, .string ⟨#[]⟩, .string ⟨#[97, 47, 98]⟩, .int .i64 2, .int .u32 0, .int .u32 0, .int .u32 0, .int .i64 0, .slice none 0 0, .slice none 0 0, .string ⟨#[]⟩, .string ⟨#[97, 47, 99]⟩, .int .i64 2, .int .u32 0, .int .u32 0, .int .u32 0, .int .i64 0, .slice none 0 0, .slice none 0 0, .string ⟨#[]⟩]
def kr9 : Array Value := #[.string ⟨#[97]⟩, .int .i64 2, .int .u32 0, .int .u32 0, .int .u32 0, .int .i64 0, .slice none 0 0, .slice none 0 0, .string ⟨#[]⟩]
def kr10 : Array Value := #[.string ⟨#[97]⟩, .int .i64 2, .int .u32 0, .int .u32 0, .int .u32 0, .int .i64 0, .slice none 0 0, .slice none 0 0, .string ⟨#[]⟩, .string ⟨#[98]⟩, .int .i64 2, .int .u32 0, .int .u32 0, .int .u32 0, .int .i64 0, .slice none 0 0, .slice none 0 0, .string ⟨#[]⟩, .string ⟨#[99]⟩, .int .i64 2, .int .u32 0, .int .u32 0, .int .u32 0, .int .i64 0, .slice none 0 0, .slice none 0 0, .string ⟨#[]⟩, .string ⟨#[100]⟩, .int .i64 2, .int .u32 0, .int .u32 0, .int .u32 0, .int .i64 0, .slice none 0 0, .slice none 0 0, .string ⟨#[]⟩]
def kr11 : Array Value := #[.string ⟨#[100]⟩, .int .i64 2, .int .u32 0, .int .u32 0, .int .u32 0, .int .i64 0, .slice none 0 0, .slice none 0 0, .string ⟨#[]⟩]
def kr12 : Array Value := #[.string ⟨#[97]⟩, .int .i64 2, .int .u32 0, .int .u32 0, .int .u32 0, .int .i64 0, .slice none 0 0, .slice none 0 0, .string ⟨#[]⟩, .string ⟨#[98]⟩, .int .i64 2, .int .u32 0, .int .u32 0, .int .u32 0, .int .i64 0, .slice none 0 0, .slice none 0 0, .string ⟨#[]⟩, .string ⟨#[99]⟩, .int .i64 2, .int .u32 0, .int .u32 0, .int .u32 0, .int .i64 0, .slice none 0 0, .slice none 0 0, .string ⟨#[]⟩]
def kr13 : Array Value := #[.string ⟨#[99]⟩, .int .i64 2, .int .u32 0, .int .u32 0, .int .u32 0, .int .i64 0, .slice none 0 0, .slice none 0 0, .string ⟨#[]⟩]
/-- what the table rests upon: the rows of Members, and of it -/
def knRows (c0 c1 c2 c3 c4 c5 c6 c7 c8 c9 c10 c11 c12 c13 : Nat) : List As :=
  [rowA c0 41 kr0,
   rowA c1 41 kr1,
   rowA c2 41 kr2,
   rowA c3 41 kr3,
   rowA c4 41 kr4,
   rowA c5 41 kr5,
   rowA c6 41 kr6,
   rowA c7 41 kr7,
   rowA c8 41 kr8,
   rowA c9 41 kr9,
   rowA c10 41 kr10,
   rowA c11 41 kr11,
   rowA c12 41 kr12,
   rowA c13 41 kr13]
def knTab (c0 c1 c2 c3 c4 c5 c6 c7 c8 c9 c10 c11 c12 c13 : Nat) : Array Value := #[.slice (some ⟨c0, 0, none⟩) 3 3, .slice (some ⟨c1, 0, none⟩) 3 3, .string ⟨#[97, 32, 97, 47, 98, 32, 97, 47, 98, 47, 46, 119, 104, 46, 99, 32, 97, 47, 98, 47, 100, 32]⟩, .slice (some ⟨c2, 0, none⟩) 2 2, .slice (some ⟨c3, 0, none⟩) 2 2, .string ⟨#[97, 32]⟩, .slice (some ⟨c4, 0, none⟩) 2 2, .slice (some ⟨c5, 0, none⟩) 1 1, .string ⟨#[97, 32, 97, 47, 46, 119, 104, 46, 98, 32]⟩, .slice (some ⟨c6, 0, none⟩) 3 3, .slice (some ⟨c7, 0, none⟩) 1 1, .string ⟨#[97, 32, 97, 47, 46, 119, 104, 46, 46, 119, 104, 46, 46, 111, 112, 113, 32]⟩, .slice (some ⟨c8, 0, none⟩) 3 3, .slice (some ⟨c9, 0, none⟩) 1 1, .string ⟨#[97, 32]⟩, .slice (some ⟨c10, 0, none⟩) 4 4, .slice (some ⟨c11, 0, none⟩) 1 1, .string ⟨#[46, 119, 104, 46, 46, 119, 104, 46, 46, 111, 112, 113, 32, 100, 32]⟩, .slice (some ⟨c12, 0, none⟩) 3 3, .slice (some ⟨c13, 0, none⟩) 1 1, .string ⟨#[46, 119, 104, 46, 97, 32, 46, 119, 104, 46, 98, 32]⟩]
theorem aggS3 : AggTy Tryz.prog 52 3 := ⟨⟨_, Tryz.underlying52, rfl⟩, by kernel_rfl⟩
/-- one row of the table, at hand -/
structure KnRow (k : Nat) (wx : World) (a b : Addr) (na nb : Nat) : Prop where
  a : MbL wx (.slice (some a) na na) (mvs (kA k))
  b : MbL wx (.slice (some b) nb nb) (mvs (kB k))
set_option maxRecDepth 100000 in
theorem kn_row {w wx : World} {c0 c1 c2 c3 c4 c5 c6 c7 c8 c9 c10 c11 c12 c13 bT : Nat} (h : Hp NoM w wx (knRows c0 c1 c2 c3 c4 c5 c6 c7 c8 c9 c10 c11 c12 c13 ++ [rowA bT 52 (knTab c0 c1 c2 c3 c4 c5 c6 c7 c8 c9 c10 c11 c12 c13)])) : ∀ k, k < 7 → ∃ a b na nb, (Instr.loadAt 52 (.pointer (some ⟨bT, 0 + k * 3, none⟩))).run Tryz.prog wx = .ok (.agg #[.slice (some a) na na, .slice (some b) nb nb, .string ⟨(kS k).toArray⟩]) wx ∧ KnRow k wx a b na nb := by
  have hT : Row wx bT 52 (knTab c0 c1 c2 c3 c4 c5 c6 c7 c8 c9 c10 c11 c12 c13) := h.row 14 rfl
  have ld : ∀ (k : Nat) (cells : List Value), (∀ j u, cells[j]? = some u → (knTab c0 c1 c2 c3 c4 c5 c6 c7 c8 c9 c10 c11 c12 c13)[0 + k * 3 + j]? = some u) → cells.length = 3 → (Instr.loadAt 52 (.pointer (some ⟨bT, 0 + k * 3, none⟩))).run Tryz.prog wx = .ok (.agg cells.toArray) wx := fun k cells hc hl =>
    run_loadAt_mid (P := Tryz.prog) wx bT (0 + k * 3) 52 cells _ (fun j u hj => hT.cell (hc j u hj)) Tryz.underlying52 rfl (by rw [hl]; exact aggS3.i)
  refine seven ?_ ?_ ?_ ?_ ?_ ?_ ?_
  · refine ⟨⟨c0, 0, none⟩, ⟨c1, 0, none⟩, 3, 3, ld 0 [.slice (some ⟨c0, 0, none⟩) 3 3, .slice (some ⟨c1, 0, none⟩) 3 3, .string ⟨#[97, 32, 97, 47, 98, 32, 97, 47, 98, 47, 46, 119, 104, 46, 99, 32, 97, 47, 98, 47, 100, 32]⟩] (fun j u hj => ?_) rfl, ⟨row_mbs (L := kA 0) (h.row 0 rfl) rfl (by decide) (fun m hm => by have := (kn_bare _ (by decide : 0 < 7)).1 m hm; exact ⟨this.1, this.2.1⟩), row_mbs (L := kB 0) (h.row 1 rfl) rfl (by decide) (fun m hm => by have := (kn_bare _ (by decide : 0 < 7)).2 m hm; exact ⟨this.1, this.2.1⟩)⟩⟩
    rcases j with _ | _ | _ | j
    · exact hj
    · exact hj
    · exact hj
    · simp at hj
  · refine ⟨⟨c2, 0, none⟩, ⟨c3, 0, none⟩, 2, 2, ld 1 [.slice (some ⟨c2, 0, none⟩) 2 2, .slice (some ⟨c3, 0, none⟩) 2 2, .string ⟨#[97, 32]⟩] (fun j u hj => ?_) rfl, ⟨row_mbs (L := kA 1) (h.row 2 rfl) rfl (by decide) (fun m hm => by have := (kn_bare _ (by decide : 1 < 7)).1 m hm; exact ⟨this.1, this.2.1⟩), row_mbs (L := kB 1) (h.row 3 rfl) rfl (by decide) (fun m hm => by have := (kn_bare _ (by decide : 1 < 7)).2 m hm; exact ⟨this.1, this.2.1⟩)⟩⟩
    rcases j with _ | _ | _ | j
    · exact hj
    · exact hj
    · exact hj
    · simp at hj
  · refine ⟨⟨c4, 0, none⟩, ⟨c5, 0, none⟩, 2, 1, ld 2 [.slice (some ⟨c4, 0, none⟩) 2 2, .slice (some ⟨c5, 0, none⟩) 1 1, .string ⟨#[97, 32, 97, 47, 46, 119, 104, 46, 98, 32]⟩] (fun j u hj => ?_) rfl, ⟨row_mbs (L := kA 2) (h.row 4 rfl) rfl (by decide) (fun m hm => by have := (kn_bare _ (by decide : 2 < 7)).1 m hm; exact ⟨this.1, this.2.1⟩), row_mbs (L := kB 2) (h.row 5 rfl) rfl (by decide) (fun m hm => by have := (kn_bare _ (by decide : 2 < 7)).2 m hm; exact ⟨this.1, this.2.1⟩)⟩⟩
    rcases j with _ | _ | _ | j
    · exact hj
    · exact hj
    · exact hj
    · simp at hj
  · refine ⟨⟨c6, 0, none⟩, ⟨c7, 0, none⟩, 3, 1, ld 3 [.slice (some ⟨c6, 0, none⟩) 3 3, .slice (some ⟨c7, 0, none⟩) 1 1, .string ⟨#[97, 32, 97, 47, 46, 119, 104, 46, 46, 119, 104, 46, 46, 111, 112, 113, 32]⟩] (fun j u hj => ?_) rfl, ⟨row_mbs (L := kA 3) (h.row 6 rfl) rfl (by decide) (fun m hm => by have := (kn_bare _ (by decide : 3 < 7)).1 m hm; exact ⟨this.1, this.2.1⟩), row_mbs (L := kB 3) (h.row 7 rfl) rfl (by decide) (fun m hm => by have := (kn_bare _ (by decide : 3 < 7)).2 m hm; exact ⟨this.1, this.2.1⟩)⟩⟩
    rcases j with _ | _ | _ | j
    · exact hj
    · exact hj
    · exact hj
    · simp at hj
  · refine ⟨⟨c8, 0, none⟩, ⟨c9, 0, none⟩, 3, 1, ld 4 [.slice (some ⟨c8, 0, none⟩) 3 3, .slice (some ⟨c9, 0, none⟩) 1 1, .string ⟨#[97, 32]⟩] (fun j u hj => ?_) rfl, ⟨row_mbs (L := kA 4) (h.row 8 rfl) rfl (by decide) (fun m hm => by have := (kn_bare _ (by decide : 4 < 7)).1 m hm; exact ⟨this.1, this.2.1⟩), row_mbs (L := kB 4) (h.row 9 rfl) rfl (by decide) (fun m hm => by have := (kn_bare _ (by decide : 4 < 7)).2 m hm; exact ⟨this.1, this.2.1⟩)⟩⟩
    rcases j with _ | _ | _ | j
    · exact hj
    · exact hj
    · exact hj
    · simp at hj
  · refine ⟨⟨c10, 0, none⟩, ⟨c11, 0, none⟩, 4, 1, ld 5 [.slice (some ⟨c10, 0, none⟩) 4 4, .slice (some ⟨c11, 0, none⟩) 1 1, .string ⟨#[46, 119, 104, 46, 46, 119, 104, 46, 46, 111, 112, 113, 32, 100, 32]⟩] (fun j u hj => ?_) rfl, ⟨row_mbs (L := kA 5) (h.row 10 rfl) rfl (by decide) (fun m hm => by have := (kn_bare _ (by decide : 5 < 7)).1 m hm; exact ⟨this.1, this.2.1⟩), row_mbs (L := kB 5) (h.row 11 rfl) rfl (by decide) (fun m hm => by have := (kn_bare _ (by decide : 5 < 7)).2 m hm; exact ⟨this.1, this.2.1⟩)⟩⟩
    rcases j with _ | _ | _ | j
    · exact hj
    · exact hj
    · exact hj
    · simp at hj
  · refine ⟨⟨c12, 0, none⟩, ⟨c13, 0, none⟩, 3, 1, ld 6 [.slice (some ⟨c12, 0, none⟩) 3 3, .slice (some ⟨c13, 0, none⟩) 1 1, .string ⟨#[46, 119, 104, 46, 97, 32, 46, 119, 104, 46, 98, 32]⟩] (fun j u hj => ?_) rfl, ⟨row_mbs (L := kA 6) (h.row 12 rfl) rfl (by decide) (fun m hm => by have := (kn_bare _ (by decide : 6 < 7)).1 m hm; exact ⟨this.1, this.2.1⟩), row_mbs (L := kB 6) (h.row 13 rfl) rfl (by decide) (fun m hm => by have := (kn_bare _ (by decide : 6 < 7)).2 m hm; exact ⟨this.1, this.2.1⟩)⟩⟩
    rcases j with _ | _ | _ | j
    · exact hj
    · exact hj
    · exact hj
    · simp at hj
/-- what a changeset of the table is -/
def KnOf (k : Nat) (v : Value) (w : World) : Prop := ∃ l : List Mv, MbL w v l ∧ l.map (·.1) = kK k
theorem KnOf.on {k : Nat} {v : Value} {w w' : World} (h : KnOf k v w) (hb : Below w.heap.size w w') : KnOf k v w' := by
  obtain ⟨l, h1, h2⟩ := h
  exact ⟨l, h1.on hb, h2⟩
theorem mvs_len (L : List Mb) : (mvs L).length = L.length := List.length_map ..
theorem rowG_cells {g : Nat → Mb} (hg : RowG g) (k : Nat) : mcells (mvs (rowG g (k + 1))) = mcells (mvs (rowG g k)) ++ [.string ⟨(g k).1.toArray⟩, .int .i64 2, .int .u32 0, .int .u32 0, .int .u32 0, .int .i64 0, .slice none 0 0, .slice none 0 0, .string ⟨#[]⟩] := by
  rw [row_succ]
  unfold mvs
  rw [List.map_append, mcells_append]
  congr 1
  have h := hg.nd k
  generalize g k = m at *
  obtain ⟨p, n⟩ := m
  dsimp only at h
  subst h
  rfl
theorem mbl_own {g : Nat → Mb} (hg : RowG g) {w : World} {B k : Nat} {v : Value} (h : w.ownsRow B 41 9 v k (mcells (mvs (rowG g k)))) : MbL w v (mvs (rowG g k)) := by
  have hl : (mvs (rowG g k)).length = k := by rw [mvs_len, row_len]
  refine ⟨?_, fun x hx => ?_⟩
  · rw [hl]; exact (ownsV_reads h).mono (fun b hb => hb.2.1)
  · unfold mvs at hx
    obtain ⟨m, hm, rfl⟩ := List.mem_map.1 hx
    obtain ⟨j, -, rfl⟩ := row_mem.1 hm
    exact ndR_nil (by rw [hg.nd]; rfl) (by rw [hg.nd]; rfl)
theorem sm_row {g : Nat → Mb} (hg : RowG g) (hl : ∀ j, (g j).1.length ≤ 10) {k : Nat} {x : Mv} (hx : x ∈ mvs (rowG g k)) : Sm x.1 := by
  unfold mvs at hx
  obtain ⟨m, hm, rfl⟩ := List.mem_map.1 hx
  obtain ⟨j, -, rfl⟩ := row_mem.1 hm
  refine sm_bare ⟨?_, ?_, hl j, ?_, ?_⟩
  · show (g j).2.attrs = []; rw [hg.nd]; rfl
  · show (g j).2.data = []; rw [hg.nd]; rfl
  · show (g j).2.link = []; rw [hg.nd]; rfl
  · show (g j).2.kind = 1 ∨ (g j).2.kind = 2; rw [hg.nd]; exact .inr rfl
theorem Of_tr2 {w : World} {Ta Tb : Nat} {A B : List Mb} (T : Nat) (hT : Tabs T w) (hA : WellL A) (hB : WellL B) (hLA : A.length ≤ 100000) (hLB : B.length ≤ 4095) (h1 : TrL w Ta A) (h2 : TrL w Tb B) :
    Calls Tryz.prog 9 #[.pointer (some ⟨Ta, 0, none⟩), .pointer (some ⟨Tb, 0, none⟩)] w fun e w' => ∃ v l, e = .returned (.tuple #[v, .int .i64 0]) ∧ (l.map (·.1)).Perm (toldL A B) ∧ MbL w' v l ∧ Below w.heap.size w w' := by
  obtain ⟨ta, Ba, fa, ha, hBa⟩ := h1
  obtain ⟨tb, Bb, fb, hb, hBb⟩ := h2
  refine (Of_anyO Ta ta Ba fa A Tb tb Bb fb B T w hT hA hB hLA hLB ha hBa hb hBb).mono ?_
  rintro e w' ⟨v, l, he, hp, hs, hr, hbb⟩
  exact ⟨v, l, he, hp, MbL.ofRow hr.row, hbb⟩
def kn13 (b11 : Nat) (v12 : Value) (sk : Tx) : Nat → Value → World → Prop
  | 0, v, _ => v = .int .i64 0
  | 1, v, _ => v = .bool false
  | 2, v, _ => v = .bool false
  | 3, v, _ => v = v12
  | 4, v, _ => v = .string ⟨sk.toArray⟩
  | 5, v, _ => v = .pointer (some ⟨b11, 2, none⟩)
  | 6, v, _ => v = .string ⟨sk.toArray⟩
  | 7, v, _ => v = .bool false
  | 8, v, _ => v = .bool false
  | _, _, _ => True
theorem kn13_w {b11 : Nat} {v12 : Value} {sk : Tx} {i : Nat} {v : Value} {w w' : World} (h : kn13 b11 v12 sk i v w) : kn13 b11 v12 sk i v w' := by
  unfold kn13 at h ⊢
  split at h <;> exact h
section
variable {P : Program} {ρ : Operand → Value} {d : Option Tmp} {x y : Operand} {t : TypeId} {pos : String} {af : Array Edge} {g : Option (Nat × Bool)} {w : World}
theorem run_neI {T T1 : TypeId} {a b : Int} {c : Bool} (hx : ρ x = .int .i64 a) (hy : ρ y = .int .i64 b) (h : (a != b) = c) : (execOp ρ (⟨d, .binOp .neq T x y T1, t, pos, af, g⟩ : Oper)).run P w = .ok (.value (.bool c)) w := by
  rw [← h]
  simp [go_sem, execOp, eqGuard, hx, hy]
theorem run_neS {T T1 : TypeId} {s : Tx} (hx : ρ x = .string ⟨s.toArray⟩) (hy : ρ y = .string ⟨s.toArray⟩) : (execOp ρ (⟨d, .binOp .neq T x y T1, t, pos, af, g⟩ : Oper)).run P w = .ok (.value (.bool false)) w := by
  simp [go_sem, execOp, eqGuard, hx, hy]
theorem run_ext2 {i : Nat} {u v r : Value} (hx : ρ x = .tuple #[u, v]) (h : (#[u, v] : Array Value)[i]? = some r) : (execOp ρ (⟨d, .extract x i, t, pos, af, g⟩ : Oper)).run P w = .ok (.value r) w := by
  simp [go_sem, execOp, hx, Instr.extract, h]
end
def kn12 (k : Nat) (b11 : Nat) (va vb : Value) : Nat → Value → World → Prop
  | 0, v, _ => v = .pointer (some ⟨b11, 0, none⟩)
  | 1, v, _ => v = va
  | 2, v, w => ∃ T, v = .pointer (some ⟨T, 0, none⟩) ∧ TrL w T (kA k)
  | 3, v, _ => v = .pointer (some ⟨b11, 1, none⟩)
  | 4, v, _ => v = vb
  | 5, v, w => ∃ T, v = .pointer (some ⟨T, 0, none⟩) ∧ TrL w T (kB k)
  | 6, v, w => ∃ u, v = .tuple #[u, .int .i64 0] ∧ KnOf k u w
  | 7, v, w => ∃ u, v = .tuple #[u, .int .i64 0] ∧ KnOf k u w
  | 8, v, w => KnOf k v w
  | 9, v, _ => v = .int .i64 0
  | 10, v, w => KnOf k v w
  | 11, v, _ => v = .int .i64 0
  | _, _, _ => True
theorem kn12_stays {k b11 : Nat} {va vb : Value} (i : Nat) (v : Value) (w w' : World) (h : kn12 k b11 va vb i v w) (hb : Below w.heap.size w w') : kn12 k b11 va vb i v w' := by
  unfold kn12 at h ⊢
  split at h <;> first
    | exact h
    | (obtain ⟨T, e, h⟩ := h; exact ⟨T, e, h.on hb⟩)
    | exact KnOf.on h hb
theorem fldM0 (p : Array UInt8) (k : Int) (w : World) : (Instr.field 41 (.agg #[.string ⟨p⟩, .int .i64 k, .int .u32 0, .int .u32 0, .int .u32 0, .int .i64 0, .slice none 0 0, .slice none 0 0, .string ⟨#[]⟩]) 0).run Tryz.prog w = .ok (.string ⟨p⟩) w := by kernel_rfl
theorem fldM1 (p : Array UInt8) (k : Int) (w : World) : (Instr.field 41 (.agg #[.string ⟨p⟩, .int .i64 k, .int .u32 0, .int .u32 0, .int .u32 0, .int .i64 0, .slice none 0 0, .slice none 0 0, .string ⟨#[]⟩]) 1).run Tryz.prog w = .ok (.agg #[.int .i64 k, .int .u32 0, .int .u32 0, .int .u32 0, .int .i64 0, .slice none 0 0, .slice none 0 0, .string ⟨#[]⟩]) w := by kernel_rfl
theorem fldN0 (k : Int) (w : World) : (Instr.field 39 (.agg #[.int .i64 k, .int .u32 0, .int .u32 0, .int .u32 0, .int .i64 0, .slice none 0 0, .slice none 0 0, .string ⟨#[]⟩]) 0).run Tryz.prog w = .ok (.int .i64 k) w := by kernel_rfl
theorem bldS3 (a b : Addr) (n m : Nat) (s : Array UInt8) (w : World) : (Instr.build 52 #[(0, .slice (some a) n n), (1, .slice (some b) m m), (2, .string ⟨s⟩)]).run Tryz.prog w = .ok (.agg #[.slice (some a) n n, .slice (some b) m m, .string ⟨s⟩]) w := by kernel_rfl
theorem kw0 : mbC (whM []) nilV nilV = #[.string ⟨#[]⟩, .int .i64 0, .int .u32 0, .int .u32 0, .int .u32 0, .int .i64 0, .slice none 0 0, .slice none 0 0, .string ⟨#[]⟩] := by kernel_rfl
theorem km0 : mbC (mkM []) nilV nilV = #[.string ⟨#[46, 119, 104, 46, 46, 119, 104, 46, 46, 111, 112, 113]⟩, .int .i64 2, .int .u32 0, .int .u32 0, .int .u32 0, .int .i64 0, .slice none 0 0, .slice none 0 0, .string ⟨#[]⟩] := by kernel_rfl
theorem kw1 : mbC (whM [97, 47, 98]) nilV nilV = #[.string ⟨#[97, 47, 46, 119, 104, 46, 98]⟩, .int .i64 2, .int .u32 0, .int .u32 0, .int .u32 0, .int .i64 0, .slice none 0 0, .slice none 0 0, .string ⟨#[]⟩] := by kernel_rfl
theorem km1 : mbC (mkM [97]) nilV nilV = #[.string ⟨#[97, 47, 46, 119, 104, 46, 46, 119, 104, 46, 46, 111, 112, 113]⟩, .int .i64 2, .int .u32 0, .int .u32 0, .int .u32 0, .int .i64 0, .slice none 0 0, .slice none 0 0, .string ⟨#[]⟩] := by kernel_rfl
/-- the loop's own memory -/
def knMem (c0 c1 c2 c3 c4 c5 c6 c7 c8 c9 c10 c11 c12 c13 bT : Nat) : List As := knRows c0 c1 c2 c3 c4 c5 c6 c7 c8 c9 c10 c11 c12 c13 ++ [rowA bT 52 (knTab c0 c1 c2 c3 c4 c5 c6 c7 c8 c9 c10 c11 c12 c13)]
set_option maxHeartbeats 8000000 in
set_option maxRecDepth 100000 in
theorem dkn_any (B : Nat) (w : World) (hT : Tabs B w) : Calls Tryz.prog 5 #[] w fun e w' => e = .returned (.bool true) ∧ Below w.heap.size w w' := by
  have HT := Keep.keep hT
  have HT0 : Keep (∀ wx, Below w.heap.size w wx → Tabs B wx) := ⟨fun wx hb => hT.on (hb.mono hT.b)⟩
  have HSM0 : Keep (∀ wx, Below w.heap.size w wx → Calls Tryz.prog 20 #[.slice none 0 0] wx fun e w' => ∃ T, e = .returned (.pointer (some ⟨T, 0, none⟩)) ∧ TrL w' T [] ∧ Below wx.heap.size wx w') := ⟨fun wx hb => small_tr (v := .slice none 0 0) (l := []) B (hT.on (hb.mono hT.b)) ⟨RdV.ofNil, fun x hx => (List.not_mem_nil hx).elim⟩ (fun x hx => (List.not_mem_nil hx).elim) (by simp) newT_nil⟩
  have HWH : Keep (∀ (p : Tx) wx, p.length ≤ 1000 → Below w.heap.size w wx → Calls Tryz.prog 17 #[.string ⟨p.toArray⟩] wx fun e w' => e = .returned (.agg (mbC (whM p) nilV nilV)) ∧ Below wx.heap.size wx w') := ⟨fun p wx hp hb => dwhite_any p (by omega) B wx (Nat.le_trans hT.b hb.size) (hT.m.on (hb.mono hT.b))⟩
  have HMK : Keep (∀ (p : Tx) wx, p.length ≤ 1000 → Below w.heap.size w wx → Calls Tryz.prog 16 #[.string ⟨p.toArray⟩] wx fun e w' => e = .returned (.agg (mbC (mkM p) nilV nilV)) ∧ Below wx.heap.size wx w') := ⟨fun p wx hp hb => dmark_any p (by omega) B wx (Nat.le_trans hT.b hb.size) (hT.m.on (hb.mono hT.b))⟩
  have hent1 : ∀ args w, (callFunc 22 args).run Tryz.prog w = .ok (.enter 22 args) w := enters_of Tryz.func22 (by kernel_rfl) rfl
  have hent2 : ∀ args w, (callFunc 23 args).run Tryz.prog w = .ok (.enter 23 args) w := enters_of Tryz.func23 (by kernel_rfl) rfl
  have hf0 := fldM0
  have hf1 := fldM1
  have hf2 := fldN0
  clear hT
  go_enter Tryz.func5, Tryz.ntmps5
  go_wp2_with fail
  refine (HSM0.out w (Below.refl _ _)).mono ?_
  rintro e w1 ⟨T1, rfl, ht, hb⟩
  have HW1 := Keep.keep hb
  clear ht hb
  go_wp2_with fail
  refine (Of_err none (some ⟨T1, 0, none⟩) 2 (by decide) w1 (all_nil1 _ (.inr ⟨T1, rfl⟩) w1)).mono ?_
  rintro e w2 ⟨rfl, hb⟩
  have HW2 := Keep.keep (HW1.out.trans (hb.mono HW1.out.size))
  clear hb
  go_wp2_with fail
  refine (HSM0.out w2 HW2.out).mono ?_
  rintro e w3 ⟨T3, rfl, ht, hb⟩
  have HW3 := Keep.keep (HW2.out.trans (hb.mono HW2.out.size))
  have HOE := Keep.keep (Of_err (some ⟨T3, 0, none⟩) none 2 (by decide) w3 (all_nil2 ht))
  clear ht hb
  go_wp2_with fail
  refine HOE.out.mono ?_
  rintro e w4 ⟨rfl, hb⟩
  have HW4 := Keep.keep (HW3.out.trans (hb.mono HW3.out.size))
  clear hb HOE
  go_wp2_with fail
  refine (cost_err none none 2 w4 (all_nil1 _ (.inl rfl) w4)).mono ?_
  rintro e w5 ⟨rfl, hb⟩
  have HW5 := Keep.keep (HW4.out.trans (hb.mono HW4.out.size))
  clear hb
  go_wp2_with fail
  refine (HWH.out [] w5 (by decide) HW5.out).mono ?_
  rw [kw0]
  rintro e w6 ⟨rfl, hb⟩
  have HW6 := Keep.keep (HW5.out.trans (hb.mono HW5.out.size))
  clear hb
  go_wp2_with fail
  refine (HMK.out [] w6 (by decide) HW6.out).mono ?_
  rw [km0]
  rintro e w7 ⟨rfl, hb⟩
  have HW7 := Keep.keep (HW6.out.trans (hb.mono HW6.out.size))
  clear hb
  go_wp2_with fail
  refine (HWH.out [97, 47, 98] w7 (by decide) HW7.out).mono ?_
  rw [kw1]
  rintro e w8 ⟨rfl, hb⟩
  have HW8 := Keep.keep (HW7.out.trans (hb.mono HW7.out.size))
  clear hb
  go_wp2_with fail
  refine (HMK.out [97] w8 (by decide) HW8.out).mono ?_
  rw [km1]
  rintro e w9 ⟨rfl, hb⟩
  have HW9 := Keep.keep (HW8.out.trans (hb.mono HW8.out.size))
  clear hb
  go_wp2_with fail
  refine (HMK.out [97] w9 (by decide) HW9.out).mono ?_
  rw [km1]
  rintro e w10 ⟨rfl, hb⟩
  have HW10 := Keep.keep (HW9.out.trans (hb.mono HW9.out.size))
  clear hb
  go_upto_region 9 with fail
  simp only [List.append_eq, List.cons_append, List.nil_append]
  clear HWH HMK hf0 hf1 hf2
  have hbs := bldS3
  obtain ⟨ws, hws⟩ : ∃ x, w10 = x := ⟨_, rfl⟩
  rw [hws] at HW10 ⊢
  clear hws
  have H0 := Keep.keep (Hp.begin NoM ws)
  go_wp2_with fail
  refine (kn1_lit #[97] 0 _).mono ?_
  rintro e x1 ⟨rfl, hb⟩
  have H1 := Keep.keep (H0.out.call hb)
  clear hb H0
  go_wp2_with fail
  refine (kn1_lit #[97, 47, 98] 0 _).mono ?_
  rintro e x2 ⟨rfl, hb⟩
  have H2 := Keep.keep (H1.out.call hb)
  clear hb H1
  go_wp2_with fail
  refine (kn2_lit #[97, 47, 98, 47, 99] _).mono ?_
  rintro e x3 ⟨rfl, hb⟩
  have H3 := Keep.keep (H2.out.call hb)
  clear hb H2
  go_wp2_with fail
  refine calls_at (R := fun wq => Hp NoM ws wq ([] ++ [rowA x3.heap.size 41 kr0])) (H3.out.newRow _ _) ?_
  intro x4 Hq
  obtain ⟨c0, hc0⟩ : ∃ c, x3.heap.size = c := ⟨_, rfl⟩
  rw [hc0] at Hq ⊢
  clear hc0 H3
  have H4 : Keep (Hp NoM ws x4 [rowA c0 41 kr0]) := ⟨Hq.out⟩
  clear Hq
  refine (kn1_lit #[97] 0 _).mono ?_
  rintro e x5 ⟨rfl, hb⟩
  have H5 := Keep.keep (H4.out.call hb)
  clear hb H4
  go_wp2_with fail
  refine (kn1_lit #[97, 47, 98] 0 _).mono ?_
  rintro e x6 ⟨rfl, hb⟩
  have H6 := Keep.keep (H5.out.call hb)
  clear hb H5
  go_wp2_with fail
  refine (kn2_lit #[97, 47, 98, 47, 100] _).mono ?_
  rintro e x7 ⟨rfl, hb⟩
  have H7 := Keep.keep (H6.out.call hb)
  clear hb H6
  go_wp2_with fail
  refine calls_at (R := fun wq => Hp NoM ws wq ([rowA c0 41 kr0] ++ [rowA x7.heap.size 41 kr1])) (H7.out.newRow _ _) ?_
  intro x8 Hq
  obtain ⟨c1, hc1⟩ : ∃ c, x7.heap.size = c := ⟨_, rfl⟩
  rw [hc1] at Hq ⊢
  clear hc1 H7
  have H8 : Keep (Hp NoM ws x8 [rowA c0 41 kr0, rowA c1 41 kr1]) := ⟨Hq.out⟩
  clear Hq
  refine (kn1_lit #[97] 0 _).mono ?_
  rintro e x9 ⟨rfl, hb⟩
  have H9 := Keep.keep (H8.out.call hb)
  clear hb H8
  go_wp2_with fail
  refine (kn2_lit #[97, 47, 98] _).mono ?_
  rintro e x10 ⟨rfl, hb⟩
  have H10 := Keep.keep (H9.out.call hb)
  clear hb H9
  go_wp2_with fail
  refine calls_at (R := fun wq => Hp NoM ws wq ([rowA c0 41 kr0, rowA c1 41 kr1] ++ [rowA x10.heap.size 41 kr2])) (H10.out.newRow _ _) ?_
  intro x11 Hq
  obtain ⟨c2, hc2⟩ : ∃ c, x10.heap.size = c := ⟨_, rfl⟩
  rw [hc2] at Hq ⊢
  clear hc2 H10
  have H11 : Keep (Hp NoM ws x11 [rowA c0 41 kr0, rowA c1 41 kr1, rowA c2 41 kr2]) := ⟨Hq.out⟩
  clear Hq
  refine (kn1_lit #[97] 1 _).mono ?_
  rintro e x12 ⟨rfl, hb⟩
  have H12 := Keep.keep (H11.out.call hb)
  clear hb H11
  go_wp2_with fail
  refine (kn2_lit #[97, 47, 98] _).mono ?_
  rintro e x13 ⟨rfl, hb⟩
  have H13 := Keep.keep (H12.out.call hb)
  clear hb H12
  go_wp2_with fail
  refine calls_at (R := fun wq => Hp NoM ws wq ([rowA c0 41 kr0, rowA c1 41 kr1, rowA c2 41 kr2] ++ [rowA x13.heap.size 41 kr3])) (H13.out.newRow _ _) ?_
  intro x14 Hq
  obtain ⟨c3, hc3⟩ : ∃ c, x13.heap.size = c := ⟨_, rfl⟩
  rw [hc3] at Hq ⊢
  clear hc3 H13
  have H14 : Keep (Hp NoM ws x14 [rowA c0 41 kr0, rowA c1 41 kr1, rowA c2 41 kr2, rowA c3 41 kr3]) := ⟨Hq.out⟩
  clear Hq
  refine (kn1_lit #[97] 0 _).mono ?_
  rintro e x15 ⟨rfl, hb⟩
  have H15 := Keep.keep (H14.out.call hb)
  clear hb H14
  go_wp2_with fail
  refine (kn2_lit #[97, 47, 98] _).mono ?_
  rintro e x16 ⟨rfl, hb⟩
  have H16 := Keep.keep (H15.out.call hb)
  clear hb H15
  go_wp2_with fail
  refine calls_at (R := fun wq => Hp NoM ws wq ([rowA c0 41 kr0, rowA c1 41 kr1, rowA c2 41 kr2, rowA c3 41 kr3] ++ [rowA x16.heap.size 41 kr4])) (H16.out.newRow _ _) ?_
  intro x17 Hq
  obtain ⟨c4, hc4⟩ : ∃ c, x16.heap.size = c := ⟨_, rfl⟩
  rw [hc4] at Hq ⊢
  clear hc4 H16
  have H17 : Keep (Hp NoM ws x17 [rowA c0 41 kr0, rowA c1 41 kr1, rowA c2 41 kr2, rowA c3 41 kr3, rowA c4 41 kr4]) := ⟨Hq.out⟩
  clear Hq
  refine (kn1_lit #[97] 0 _).mono ?_
  rintro e x18 ⟨rfl, hb⟩
  have H18 := Keep.keep (H17.out.call hb)
  clear hb H17
  go_wp2_with fail
  refine calls_at (R := fun wq => Hp NoM ws wq ([rowA c0 41 kr0, rowA c1 41 kr1, rowA c2 41 kr2, rowA c3 41 kr3, rowA c4 41 kr4] ++ [rowA x18.heap.size 41 kr5])) (H18.out.newRow _ _) ?_
  intro x19 Hq
  obtain ⟨c5, hc5⟩ : ∃ c, x18.heap.size = c := ⟨_, rfl⟩
  rw [hc5] at Hq ⊢
  clear hc5 H18
  have H19 : Keep (Hp NoM ws x19 [rowA c0 41 kr0, rowA c1 41 kr1, rowA c2 41 kr2, rowA c3 41 kr3, rowA c4 41 kr4, rowA c5 41 kr5]) := ⟨Hq.out⟩
  clear Hq
  refine (kn1_lit #[97] 0 _).mono ?_
  rintro e x20 ⟨rfl, hb⟩
  have H20 := Keep.keep (H19.out.call hb)
  clear hb H19
  go_wp2_with fail
  refine (kn2_lit #[97, 47, 98] _).mono ?_
  rintro e x21 ⟨rfl, hb⟩
  have H21 := Keep.keep (H20.out.call hb)
  clear hb H20
  go_wp2_with fail
  refine (kn2_lit #[97, 47, 99] _).mono ?_
  rintro e x22 ⟨rfl, hb⟩
  have H22 := Keep.keep (H21.out.call hb)
  clear hb H21
  go_wp2_with fail
  refine calls_at (R := fun wq => Hp NoM ws wq ([rowA c0 41 kr0, rowA c1 41 kr1, rowA c2 41 kr2, rowA c3 41 kr3, rowA c4 41 kr4, rowA c5 41 kr5] ++ [rowA x22.heap.size 41 kr6])) (H22.out.newRow _ _) ?_
  intro x23 Hq
  obtain ⟨c6, hc6⟩ : ∃ c, x22.heap.size = c := ⟨_, rfl⟩
  rw [hc6] at Hq ⊢
  clear hc6 H22
  have H23 : Keep (Hp NoM ws x23 [rowA c0 41 kr0, rowA c1 41 kr1, rowA c2 41 kr2, rowA c3 41 kr3, rowA c4 41 kr4, rowA c5 41 kr5, rowA c6 41 kr6]) := ⟨Hq.out⟩
  clear Hq
  refine (kn1_lit #[97] 0 _).mono ?_
  rintro e x24 ⟨rfl, hb⟩
  have H24 := Keep.keep (H23.out.call hb)
  clear hb H23
  go_wp2_with fail
  refine calls_at (R := fun wq => Hp NoM ws wq ([rowA c0 41 kr0, rowA c1 41 kr1, rowA c2 41 kr2, rowA c3 41 kr3, rowA c4 41 kr4, rowA c5 41 kr5, rowA c6 41 kr6] ++ [rowA x24.heap.size 41 kr7])) (H24.out.newRow _ _) ?_
  intro x25 Hq
  obtain ⟨c7, hc7⟩ : ∃ c, x24.heap.size = c := ⟨_, rfl⟩
  rw [hc7] at Hq ⊢
  clear hc7 H24
  have H25 : Keep (Hp NoM ws x25 [rowA c0 41 kr0, rowA c1 41 kr1, rowA c2 41 kr2, rowA c3 41 kr3, rowA c4 41 kr4, rowA c5 41 kr5, rowA c6 41 kr6, rowA c7 41 kr7]) := ⟨Hq.out⟩
  clear Hq
  refine (kn1_lit #[97] 0 _).mono ?_
  rintro e x26 ⟨rfl, hb⟩
  have H26 := Keep.keep (H25.out.call hb)
  clear hb H25
  go_wp2_with fail
  refine (kn2_lit #[97, 47, 98] _).mono ?_
  rintro e x27 ⟨rfl, hb⟩
  have H27 := Keep.keep (H26.out.call hb)
  clear hb H26
  go_wp2_with fail
  refine (kn2_lit #[97, 47, 99] _).mono ?_
  rintro e x28 ⟨rfl, hb⟩
  have H28 := Keep.keep (H27.out.call hb)
  clear hb H27
  go_wp2_with fail
  refine calls_at (R := fun wq => Hp NoM ws wq ([rowA c0 41 kr0, rowA c1 41 kr1, rowA c2 41 kr2, rowA c3 41 kr3, rowA c4 41 kr4, rowA c5 41 kr5, rowA c6 41 kr6, rowA c7 41 kr7] ++ [rowA x28.heap.size 41 kr8])) (H28.out.newRow _ _) ?_
  intro x29 Hq
  obtain ⟨c8, hc8⟩ : ∃ c, x28.heap.size = c := ⟨_, rfl⟩
  rw [hc8] at Hq ⊢
  clear hc8 H28
  have H29 : Keep (Hp NoM ws x29 [rowA c0 41 kr0, rowA c1 41 kr1, rowA c2 41 kr2, rowA c3 41 kr3, rowA c4 41 kr4, rowA c5 41 kr5, rowA c6 41 kr6, rowA c7 41 kr7, rowA c8 41 kr8]) := ⟨Hq.out⟩
  clear Hq
  refine (kn2_lit #[97] _).mono ?_
  rintro e x30 ⟨rfl, hb⟩
  have H30 := Keep.keep (H29.out.call hb)
  clear hb H29
  go_wp2_with fail
  refine calls_at (R := fun wq => Hp NoM ws wq ([rowA c0 41 kr0, rowA c1 41 kr1, rowA c2 41 kr2, rowA c3 41 kr3, rowA c4 41 kr4, rowA c5 41 kr5, rowA c6 41 kr6, rowA c7 41 kr7, rowA c8 41 kr8] ++ [rowA x30.heap.size 41 kr9])) (H30.out.newRow _ _) ?_
  intro x31 Hq
  obtain ⟨c9, hc9⟩ : ∃ c, x30.heap.size = c := ⟨_, rfl⟩
  rw [hc9] at Hq ⊢
  clear hc9 H30
  have H31 : Keep (Hp NoM ws x31 [rowA c0 41 kr0, rowA c1 41 kr1, rowA c2 41 kr2, rowA c3 41 kr3, rowA c4 41 kr4, rowA c5 41 kr5, rowA c6 41 kr6, rowA c7 41 kr7, rowA c8 41 kr8, rowA c9 41 kr9]) := ⟨Hq.out⟩
  clear Hq
  refine (kn2_lit #[97] _).mono ?_
  rintro e x32 ⟨rfl, hb⟩
  have H32 := Keep.keep (H31.out.call hb)
  clear hb H31
  go_wp2_with fail
  refine (kn2_lit #[98] _).mono ?_
  rintro e x33 ⟨rfl, hb⟩
  have H33 := Keep.keep (H32.out.call hb)
  clear hb H32
  go_wp2_with fail
  refine (kn2_lit #[99] _).mono ?_
  rintro e x34 ⟨rfl, hb⟩
  have H34 := Keep.keep (H33.out.call hb)
  clear hb H33
  go_wp2_with fail
  refine (kn2_lit #[100] _).mono ?_
  rintro e x35 ⟨rfl, hb⟩
  have H35 := Keep.keep (H34.out.call hb)
  clear hb H34
  go_wp2_with fail
  refine calls_at (R := fun wq => Hp NoM ws wq ([rowA c0 41 kr0, rowA c1 41 kr1, rowA c2 41 kr2, rowA c3 41 kr3, rowA c4 41 kr4, rowA c5 41 kr5, rowA c6 41 kr6, rowA c7 41 kr7, rowA c8 41 kr8, rowA c9 41 kr9] ++ [rowA x35.heap.size 41 kr10])) (H35.out.newRow _ _) ?_
  intro x36 Hq
  obtain ⟨c10, hc10⟩ : ∃ c, x35.heap.size = c := ⟨_, rfl⟩
  rw [hc10] at Hq ⊢
  clear hc10 H35
  have H36 : Keep (Hp NoM ws x36 [rowA c0 41 kr0, rowA c1 41 kr1, rowA c2 41 kr2, rowA c3 41 kr3, rowA c4 41 kr4, rowA c5 41 kr5, rowA c6 41 kr6, rowA c7 41 kr7, rowA c8 41 kr8, rowA c9 41 kr9, rowA c10 41 kr10]) := ⟨Hq.out⟩
  clear Hq
  refine (kn2_lit #[100] _).mono ?_
  rintro e x37 ⟨rfl, hb⟩
  have H37 := Keep.keep (H36.out.call hb)
  clear hb H36
  go_wp2_with fail
  refine calls_at (R := fun wq => Hp NoM ws wq ([rowA c0 41 kr0, rowA c1 41 kr1, rowA c2 41 kr2, rowA c3 41 kr3, rowA c4 41 kr4, rowA c5 41 kr5, rowA c6 41 kr6, rowA c7 41 kr7, rowA c8 41 kr8, rowA c9 41 kr9, rowA c10 41 kr10] ++ [rowA x37.heap.size 41 kr11])) (H37.out.newRow _ _) ?_
  intro x38 Hq
  obtain ⟨c11, hc11⟩ : ∃ c, x37.heap.size = c := ⟨_, rfl⟩
  rw [hc11] at Hq ⊢
  clear hc11 H37
  have H38 : Keep (Hp NoM ws x38 [rowA c0 41 kr0, rowA c1 41 kr1, rowA c2 41 kr2, rowA c3 41 kr3, rowA c4 41 kr4, rowA c5 41 kr5, rowA c6 41 kr6, rowA c7 41 kr7, rowA c8 41 kr8, rowA c9 41 kr9, rowA c10 41 kr10, rowA c11 41 kr11]) := ⟨Hq.out⟩
  clear Hq
  refine (kn2_lit #[97] _).mono ?_
  rintro e x39 ⟨rfl, hb⟩
  have H39 := Keep.keep (H38.out.call hb)
  clear hb H38
  go_wp2_with fail
  refine (kn2_lit #[98] _).mono ?_
  rintro e x40 ⟨rfl, hb⟩
  have H40 := Keep.keep (H39.out.call hb)
  clear hb H39
  go_wp2_with fail
  refine (kn2_lit #[99] _).mono ?_
  rintro e x41 ⟨rfl, hb⟩
  have H41 := Keep.keep (H40.out.call hb)
  clear hb H40
  go_wp2_with fail
  refine calls_at (R := fun wq => Hp NoM ws wq ([rowA c0 41 kr0, rowA c1 41 kr1, rowA c2 41 kr2, rowA c3 41 kr3, rowA c4 41 kr4, rowA c5 41 kr5, rowA c6 41 kr6, rowA c7 41 kr7, rowA c8 41 kr8, rowA c9 41 kr9, rowA c10 41 kr10, rowA c11 41 kr11] ++ [rowA x41.heap.size 41 kr12])) (H41.out.newRow _ _) ?_
  intro x42 Hq
  obtain ⟨c12, hc12⟩ : ∃ c, x41.heap.size = c := ⟨_, rfl⟩
  rw [hc12] at Hq ⊢
  clear hc12 H41
  have H42 : Keep (Hp NoM ws x42 [rowA c0 41 kr0, rowA c1 41 kr1, rowA c2 41 kr2, rowA c3 41 kr3, rowA c4 41 kr4, rowA c5 41 kr5, rowA c6 41 kr6, rowA c7 41 kr7, rowA c8 41 kr8, rowA c9 41 kr9, rowA c10 41 kr10, rowA c11 41 kr11, rowA c12 41 kr12]) := ⟨Hq.out⟩
  clear Hq
  refine (kn2_lit #[99] _).mono ?_
  rintro e x43 ⟨rfl, hb⟩
  have H43 := Keep.keep (H42.out.call hb)
  clear hb H42
  go_wp2_with fail
  go_loopg [11, 12, 13, 161] 7 (fun g _ _ _ u161 wx => ∃ k : Nat, k + g = 7 ∧ u161 = .int .i64 (k : Int) ∧ Hp NoM ws wx (knMem c0 c1 c2 c3 c4 c5 c6 c7 c8 c9 c10 c11 c12 x43.heap.size (x43.heap.size + 1)))
  case atStart => exact ⟨0, by omega, rfl, (H43.out.newRow 41 kr13).newRow' 52 (knTab c0 c1 c2 c3 c4 c5 c6 c7 c8 c9 c10 c11 c12 x43.heap.size) _ (x43.heap.size + 1) (by simp) rfl⟩
  case round =>
    obtain ⟨k, hkg, rfl, hH⟩ := hrel
    have HH := Keep.keep hH
    clear hH H43 hbs
    cases gk with
    | zero =>
      obtain rfl : k = 7 := by omega
      have HW := Keep.keep (HW10.out.trans (HH.out.below.mono HW10.out.size))
      clear HH
      go_wp2_with fail
      generalize wr = wo at *
      go_loopg [14, 15, 16, 17, 185] 4096 (fun g u14 u15 _ _ u185 wx => ∃ k : Nat, k + g = 4096 ∧ u185 = .int .i64 (k : Int) ∧ Hp NoM wo wx [slA wo.heap.size 41 9 u14 k (mcells (mvs (rowG mA k))), slA wo.heap.size 41 9 u15 k (mcells (mvs (rowG mB k)))])
      case atStart => exact ⟨0, by omega, rfl, ((Hp.begin NoM wo).nilS _ _ _).nilS _ _ _⟩
      case round =>
        obtain ⟨k, hkg, rfl, hH⟩ := hrel
        have HH := Keep.keep hH
        obtain ⟨a14, c14, rfl, -⟩ := (ownsV_reads (hH.sl 0 rfl)).shape
        obtain ⟨a15, c15, rfl, -⟩ := (ownsV_reads (hH.sl 1 rfl)).shape
        clear hH
        cases gk with
        | zero =>
          have HK : Keep (k = 4096) := ⟨by omega⟩
          have hdk : decide ((k : Int) < 4096) = false := decide_eq_false (by omega)
          have HWX := Keep.keep (HW.out.trans (HH.out.below.mono HW.out.size))
          have HMA := Keep.keep (mbl_own (g := mA) rgFA (HH.out.sl 0 rfl))
          have HMB := Keep.keep (mbl_own (g := mB) rgFB (HH.out.sl 1 rfl))
          clear HH HW
          have HSA : Keep (∀ wx, Below wr.heap.size wr wx → Calls Tryz.prog 20 #[.slice a14 k c14] wx fun e w' => ∃ T, e = .returned (.pointer (some ⟨T, 0, none⟩)) ∧ TrL w' T (rowG mA k) ∧ Below wx.heap.size wx w') := ⟨fun wx hb => small_tr (l := mvs (rowG mA k)) B (HT0.out wx (HWX.out.trans (hb.mono HWX.out.size))) (HMA.out.on hb) (fun x hx => sm_row rgFA (fun j => by rw [mA_len]; decide) hx) (by rw [mvs_len, row_len, HK.out]; decide) (by rw [mvs_map]; exact rgFA.new (by rw [HK.out]; exact Nat.le_refl _))⟩
          have HSB : Keep (∀ wx, Below wr.heap.size wr wx → Calls Tryz.prog 20 #[.slice a15 k c15] wx fun e w' => ∃ T, e = .returned (.pointer (some ⟨T, 0, none⟩)) ∧ TrL w' T (rowG mB k) ∧ Below wx.heap.size wx w') := ⟨fun wx hb => small_tr (l := mvs (rowG mB k)) B (HT0.out wx (HWX.out.trans (hb.mono HWX.out.size))) (HMB.out.on hb) (fun x hx => sm_row rgFB (fun j => by rw [mB_len]; decide) hx) (by rw [mvs_len, row_len, HK.out]; decide) (by rw [mvs_map]; exact rgFB.new (by rw [HK.out]; exact Nat.le_refl _))⟩
          have HWA : Keep (WellL (rowG mA k) ∧ (rowG mA k).length ≤ 100000) := ⟨rgFA.well (by rw [HK.out]; decide), by rw [row_len, HK.out]; decide⟩
          have HWB : Keep (WellL (rowG mB k) ∧ (rowG mB k).length ≤ 100000) := ⟨rgFB.well (by rw [HK.out]; decide), by rw [row_len, HK.out]; decide⟩
          have HTL : Keep ((toldL (rowG mA k) (rowG mB k)).length = 4097) := ⟨by rw [toldM_lenN k (by rw [HK.out]; decide) (by rw [HK.out]; exact Nat.le_refl _), HK.out]⟩
          have HTN : Keep (toldL (rowG mA k) [] = [mkM []]) := ⟨toldM_fromN k (by rw [HK.out]; decide) (by rw [HK.out]; exact Nat.le_refl _)⟩
          have HB0 : Keep (Below wr.heap.size wr wr) := ⟨Below.refl _ _⟩
          generalize rowG mA k = LA at *
          generalize rowG mB k = LB at *
          clear HMA HMB
          go_wp2_with fail
          refine (HSA.out wr HB0.out).mono ?_
          rintro e x1 ⟨T1, rfl, ht, hb⟩
          have HB1 := Keep.keep hb
          have HT1 := Keep.keep ht
          clear ht hb
          go_wp2_with fail
          refine (HSB.out x1 HB1.out).mono ?_
          rintro e x2 ⟨T2, rfl, ht, hb⟩
          have HB2 := Keep.keep (HB1.out.trans (hb.mono HB1.out.size))
          have HT12 := Keep.keep (HT1.out.on hb)
          have HT2 := Keep.keep ht
          clear ht hb HT1
          go_wp2_with fail
          refine (Of_many B (HT0.out x2 (HWX.out.trans (HB2.out.mono HWX.out.size))) HWA.out.1 HWB.out.1 HWA.out.2 HWB.out.2 HT12.out HT2.out (by rw [HTL.out]; decide)).mono ?_
          rintro e x3 ⟨rfl, hb⟩
          have HB3 := Keep.keep (HB2.out.trans (hb.mono HB2.out.size))
          clear hb HT12 HT2
          go_wp2_with fail
          refine (HSA.out x3 HB3.out).mono ?_
          rintro e x4 ⟨T4, rfl, ht, hb⟩
          have HB4 := Keep.keep (HB3.out.trans (hb.mono HB3.out.size))
          have HT4 := Keep.keep ht
          clear ht hb
          go_wp2_with fail
          refine (HSB.out x4 HB4.out).mono ?_
          rintro e x5 ⟨T5, rfl, ht, hb⟩
          have HB5 := Keep.keep (HB4.out.trans (hb.mono HB4.out.size))
          have HT45 := Keep.keep (HT4.out.on hb)
          have HT5 := Keep.keep ht
          clear ht hb HT4
          go_wp2_with fail
          refine (cost_tr B (HT0.out x5 (HWX.out.trans (HB5.out.mono HWX.out.size))) HWA.out.1 HWB.out.1 HWA.out.2 HWB.out.2 HT45.out HT5.out).mono ?_
          rw [HTL.out]
          rintro e x6 ⟨rfl, hb⟩
          have HB6 := Keep.keep (HB5.out.trans (hb.mono HB5.out.size))
          clear hb HT45 HT5
          go_wp2_with fail
          refine (HSA.out x6 HB6.out).mono ?_
          rintro e x7 ⟨T7, rfl, ht, hb⟩
          have HB7 := Keep.keep (HB6.out.trans (hb.mono HB6.out.size))
          have HT7 := Keep.keep ht
          clear ht hb
          go_wp2_with fail
          refine (HSM0.out x7 (HWX.out.trans (HB7.out.mono HWX.out.size))).mono ?_
          rintro e x8 ⟨T8, rfl, ht, hb⟩
          have HB8 := Keep.keep (HB7.out.trans (hb.mono HB7.out.size))
          have HT78 := Keep.keep (HT7.out.on hb)
          have HT8 := Keep.keep ht
          clear ht hb HT7
          go_wp2_with fail
          refine (Of_tr2 B (HT0.out x8 (HWX.out.trans (HB8.out.mono HWX.out.size))) HWA.out.1 WellL.nil HWA.out.2 (by simp) HT78.out HT8.out).mono ?_
          rintro e x9 ⟨v9, l9, rfl, hp, hm9, hb⟩
          have HB9 := Keep.keep (HB8.out.trans (hb.mono HB8.out.size))
          rw [HTN.out] at hp
          have HL9 : Keep (l9.map (·.1) = [mkM []]) := ⟨List.perm_singleton.1 hp⟩
          have HM9 := Keep.keep hm9
          obtain ⟨a9, c9, hv9, -⟩ := hm9.rd.shape
          have hl9 : l9.length = 1 := by rw [← List.length_map (f := fun x : Mv => x.1), HL9.out]; rfl
          rw [hl9] at hv9
          have HLN := Keep.keep hl9
          clear hp hm9 hb HT78 HT8 hl9
          subst hv9
          have HPA : Keep (Calls Tryz.prog 24 #[.slice a9 1 c9] x9 fun e w' => e = .returned (.string ⟨#[46, 119, 104, 46, 46, 119, 104, 46, 46, 111, 112, 113, 32]⟩) ∧ Below x9.heap.size x9 w') := ⟨by
            have := paths_any _ l9 x9 HM9.out (fun x hx => by
              have h1 : x.1 ∈ l9.map (·.1) := List.mem_map.2 ⟨x, hx, rfl⟩
              rw [HL9.out] at h1
              rw [List.mem_singleton.1 h1]
              decide) (by rw [HLN.out]; decide)
            rw [HL9.out, tpM] at this
            exact this⟩
          go_wp2_with fail
          refine HPA.out.mono ?_
          rintro e x10 ⟨rfl, hb⟩
          have HB10 := Keep.keep (HB9.out.trans (hb.mono HB9.out.size))
          clear hb HPA
          go_wp2_with fail
          refine (dtells_any B _ (HT0.out x10 (HWX.out.trans (HB10.out.mono HWX.out.size)))).mono ?_
          rintro e x11 ⟨rfl, hb⟩
          have HB11 := Keep.keep (HB10.out.trans (hb.mono HB10.out.size))
          clear hb
          go_wp2_with fail
          go_ret
          exact ⟨rfl, HWX.out.trans (HB11.out.mono HWX.out.size)⟩
        | succ g =>
          have hdk : decide ((k : Int) < 4096) = true := decide_eq_true (by omega)
          obtain ⟨q1, hq1⟩ : ∃ q, k / 26 = q := ⟨_, rfl⟩
          obtain ⟨q2, hq2⟩ : ∃ q, q1 / 26 = q := ⟨_, rfl⟩
          obtain ⟨r1, hr1⟩ : ∃ q, q1 % 26 = q := ⟨_, rfl⟩
          obtain ⟨r0, hr0⟩ : ∃ q, k % 26 = q := ⟨_, rfl⟩
          have hk4 : k < 4096 := by omega
          have b1 : q1 < 200 := by omega
          have b2 : q2 < 8 := by omega
          have b3 : r1 < 26 := by omega
          have b4 : r0 < 26 := by omega
          have d1 : (k : Int).tdiv 26 = (q1 : Int) := by rw [Int.tdiv_eq_ediv_of_nonneg (by omega), ← hq1]; rfl
          have d2 : (q1 : Int).tdiv 26 = (q2 : Int) := by rw [Int.tdiv_eq_ediv_of_nonneg (by omega), ← hq2]; rfl
          have d3 : (q1 : Int).tmod 26 = (r1 : Int) := by rw [Int.tmod_eq_emod_of_nonneg (by omega), ← hr1]; rfl
          have d4 : (k : Int).tmod 26 = (r0 : Int) := by rw [Int.tmod_eq_emod_of_nonneg (by omega), ← hr0]; rfl
          have d5 : (k : Int) / 26 = (q1 : Int) := by rw [← hq1]; rfl
          have d6 : (q1 : Int) / 26 = (q2 : Int) := by rw [← hq2]; rfl
          have d7 : (q1 : Int) % 26 = (r1 : Int) := by rw [← hr1]; rfl
          have d8 : (k : Int) % 26 = (r0 : Int) := by rw [← hr0]; rfl
          have HNM : Keep ((#[.int .u8 (97 + (q2 : Int)), .int .u8 (97 + (r1 : Int)), .int .u8 (97 + (r0 : Int))] : Array Value) = (bcells (nm3 k)).toArray) := ⟨by
            unfold nm3 bcells
            rw [hq1, hq2, hr1, hr0]
            have e : ∀ n : Nat, n < 256 → ((UInt8.ofNat n).toNat : Int) = (n : Int) := fun n hn => by rw [UInt8.toNat_ofNat_of_lt' (by simpa using hn)]
            simp only [List.map_cons, List.map_nil]
            rw [e _ (by omega), e _ (by omega), e _ (by omega)]
            rfl⟩
          have hwr2 : (97 : Int) + (q2 : Int) = ((97 + q2 : Nat) : Int) := by omega
          clear hwr2
          have HC1 := Keep.keep (rowG_cells rgFA k)
          have HC2 := Keep.keep (rowG_cells rgFB k)
          obtain ⟨nm, hnm⟩ : ∃ n, nm3 k = n := ⟨_, rfl⟩
          have hmA : (mA k).1 = nm := hnm
          have hmB : (mB k).1 = nm ++ [120] := by rw [← hnm]; rfl
          have hnl : nm.length = 3 := by rw [← hnm]; rfl
          rw [hnm] at HNM
          rw [hmA] at HC1
          rw [hmB] at HC2
          have hcat := run_cat (P := Tryz.prog) nm [120] (by rw [hnl]; decide)
          obtain ⟨nx, hnx⟩ : ∃ n, nm ++ [120] = n := ⟨_, rfl⟩
          rw [hnx] at hcat HC2
          have hcv : (convert 37 9 (.slice (some ⟨wr.heap.size, 0, none⟩) 3 3)).run Tryz.prog (wr.alloc (.cells #[.int .u8 (97 + (q2 : Int)), .int .u8 (97 + (r1 : Int)), .int .u8 (97 + (r0 : Int))] 5)) = .ok (.string ⟨nm.toArray⟩) (wr.alloc (.cells #[.int .u8 (97 + (q2 : Int)), .int .u8 (97 + (r1 : Int)), .int .u8 (97 + (r0 : Int))] 5)) :=
            run_string_of (Reads.lit 5 _ nm (0, 0) wr.heap.size 3 rfl HNM.out (by rw [hnl]) (by rw [hnl]; decide))
          have hx3 : [120].toByteArray = [120].toByteArray := rfl
          clear hq1 hq2 hr1 hr0 hmA hmB hnm hnx HNM hx3
          go_upto_region 21 with fail
          have hal : Below wr.heap.size wr (wr.alloc (.cells #[.int .u8 (97 + (q2 : Int)), .int .u8 (97 + (r1 : Int)), .int .u8 (97 + (r0 : Int))] 5)) := (Below.refl _ _).alloc (Nat.le_refl _) _
          refine wp_world (R := fun w2 => Hp NoM wo w2 [slA wo.heap.size 41 9 (.slice a14 k c14) k (mcells (mvs (rowG mA k))), slA wo.heap.size 41 9 (.slice a15 k c15) k (mcells (mvs (rowG mB k)))]) (HH.out.call hal) ?_
          intro w2 H2
          clear hal hcv d1 d2 d3 d4 d5 d6 d7 d8 HH
          go_wp2_with fail
          refine (kn2_any nm _).mono ?_
          rintro e w3 ⟨rfl, hb⟩
          have H3 := Keep.keep (H2.out.call hb)
          clear hb H2
          go_wp2_with (with_reducible refine arm_stop ?_)
          refine Stopped.out ?_
          refine arm_appendV slMb ((H3.out.alloc _).sl 0 rfl) (RdV.new (N := fun _ => True) 41 [.string ⟨nm.toArray⟩, .int .i64 2, .int .u32 0, .int .u32 0, .int .u32 0, .int .i64 0, .slice none 0 0, .slice none 0 0, .string ⟨#[]⟩] 9 1 _ rfl rfl (by unfold maxLen; omega) trivial) (by simp [Value.oneCell']) (by unfold maxLen; omega) (by omega) (H3.out.alloc _).size rfl rfl ?_
          intro v4 w4 ho hg hov _
          rw [← HC1.out] at ho
          have H4 := Keep.keep ((H3.out.alloc _).grow 0 rfl hg ho hov)
          obtain ⟨a4, c4, rfl, -⟩ := (ownsV_reads ho).shape
          clear ho hg hov H3
          simp only [Act.put, List.setIfInBounds_toArray, List.set_cons_succ, List.set_cons_zero]
          go_wp2_with fail
          refine (kn2_any nx _).mono ?_
          rintro e w5 ⟨rfl, hb⟩
          have H5 := Keep.keep (H4.out.call hb)
          clear hb H4
          go_wp2_with (with_reducible refine arm_stop ?_)
          refine Stopped.out ?_
          refine arm_appendV slMb ((H5.out.alloc _).sl 1 rfl) (RdV.new (N := fun _ => True) 41 [.string ⟨nx.toArray⟩, .int .i64 2, .int .u32 0, .int .u32 0, .int .u32 0, .int .i64 0, .slice none 0 0, .slice none 0 0, .string ⟨#[]⟩] 9 1 _ rfl rfl (by unfold maxLen; omega) trivial) (by simp [Value.oneCell']) (by unfold maxLen; omega) (by omega) (H5.out.alloc _).size rfl rfl ?_
          intro v6 w6 ho hg hov _
          rw [← HC2.out] at ho
          have H6 := Keep.keep ((H5.out.alloc _).grow 1 rfl hg ho hov)
          obtain ⟨a6, c6, rfl, -⟩ := (ownsV_reads ho).shape
          clear ho hg hov H5
          simp only [Act.put, List.setIfInBounds_toArray, List.set_cons_succ, List.set_cons_zero]
          go_wp2_with fail
          go_roundg g
          case measure => omega
          case rel => exact ⟨k + 1, by omega, by simp, H6.out⟩
    | succ g =>
      have hk : k < 7 := by omega
      obtain ⟨a1, b1, na, nb, hld, hrow⟩ := kn_row HH.out k hk
      rw [Nat.zero_add] at hld
      have HR := Keep.keep hrow
      have HK := Keep.keep hk
      have hdk : decide ((k : Int) < 7) = true := decide_eq_true (by omega)
      have HWR := Keep.keep (HW10.out.trans (HH.out.below.mono HW10.out.size))
      clear hrow
      obtain ⟨sk, hsk⟩ : ∃ t, kS k = t := ⟨_, rfl⟩
      have HSK := Keep.keep hsk
      rw [hsk] at hld
      clear hsk
      go_upto_region 12 with ((with_reducible refine arm_loadM hld ?_ ?_); (focus rfl); simp only [Act.put, List.setIfInBounds_toArray, List.set_cons_succ, List.set_cons_zero])
      obtain ⟨b11, hb11⟩ : ∃ b, wr.heap.size = b := ⟨_, rfl⟩
      refine wp_world (R := fun w2 => Hp NoM wr w2 [rowA b11 52 #[.slice (some a1) na na, .slice (some b1) nb nb, .string ⟨sk.toArray⟩]]) (by have := (Hp.begin NoM wr).newRow 52 #[.slice (some a1) na na, .slice (some b1) nb nb, .string ⟨sk.toArray⟩]; rw [hb11] at this; exact this) ?_
      intro w2 H2
      rw [hb11]
      have HB2 := Keep.keep H2.out.below
      have HR11 := Keep.keep (H2.out.row 0 rfl)
      clear hld hb11 hdk H2
      refine wp_region_spc [166, 167, 168, 169, 170, 171, 172, 165, 173, 174, 12, 13] (Below w2.heap.size w2) (kn12 k b11 (.slice (some a1) na na) (.slice (some b1) nb nb)) (by kernel_rfl) rfl (by decide) (by show ∀ d ∈ _, d < 263; decide) (by kernel_rfl) (Below.refl _ _).drew (fun i v wx wy h _ hb => kn12_stays i v wx wy h hb) ?_ ?_
      · intro q hq a0 w7 hF hC hT
        have b0 : a0.eval (.tmp 11) = .pointer (some ⟨b11, 0, none⟩) := (hF.same 11 (by decide)).trans rfl
        have hkr : Below w7.heap.size w7 w7 := Below.refl _ _
        have hrw := HR11.out.below hC HR11.out.lt
        have hwr : Below wr.heap.size wr w7 := HB2.out.trans (hC.mono HB2.out.size)
        have hw0 := HWR.out.trans (hwr.mono HWR.out.size)
        have hq' : q < 12 := hq
        rcases (by omega : q = 0 ∨ q = 1 ∨ q = 2 ∨ q = 3 ∨ q = 4 ∨ q = 5 ∨ q = 6 ∨ q = 7 ∨ q = 8 ∨ q = 9 ∨ q = 10 ∨ q = 11) with rfl | rfl | rfl | rfl | rfl | rfl | rfl | rfl | rfl | rfl | rfl | rfl
        · exact spc_val (d := 166) rfl (wanted_none rfl) (run_fieldAddr (m := 0) Tryz.underlying52 rfl (by kernel_rfl) b0) hC hkr rfl
        · have hx : a0.eval (.tmp 166) = .pointer (some ⟨b11, 0, none⟩) := hT 0 (by kernel_rfl)
          exact spc_val (d := 167) rfl (wanted_none rfl) (run_loadCell (run_isAgg_plain Tryz.underlying23 rfl) (hrw.cell (i := 0) rfl) hx) hC hkr rfl
        · have hx : a0.eval (.tmp 167) = .slice (some a1) na na := hT 1 (by kernel_rfl)
          refine spc_call (d := 168) (vs := #[.slice (some a1) na na]) rfl (wanted_none rfl) (Go.Proofs.enters_of Tryz.func20 (by kernel_rfl) rfl) (by simp [hx]) ?_
          refine (small_tr (l := mvs (kA k)) B (HT0.out w7 hw0) (HR.out.a.on hwr) (fun x hx => ?_) (by rw [show (mvs (kA k)).length = (kA k).length from List.length_map ..]; have := (kn_len k HK.out).1; omega) (by rw [mvs_map]; exact (kn_new k HK.out).1)).mono ?_
          · obtain ⟨m, hm, rfl⟩ := List.mem_map.1 hx
            exact sm_bare ((kn_bare k HK.out).1 m hm)
          rintro e wz ⟨T, rfl, ht, hb⟩
          exact ⟨_, rfl, hC.trans (hb.mono hC.size), hb, T, rfl, ht⟩
        · exact spc_val (d := 169) rfl (wanted_none rfl) (run_fieldAddr (m := 0) Tryz.underlying52 rfl (by kernel_rfl) b0) hC hkr rfl
        · have hx : a0.eval (.tmp 169) = .pointer (some ⟨b11, 1, none⟩) := hT 3 (by kernel_rfl)
          exact spc_val (d := 170) rfl (wanted_none rfl) (run_loadCell (run_isAgg_plain Tryz.underlying23 rfl) (hrw.cell (i := 1) rfl) hx) hC hkr rfl
        · have hx : a0.eval (.tmp 170) = .slice (some b1) nb nb := hT 4 (by kernel_rfl)
          refine spc_call (d := 171) (vs := #[.slice (some b1) nb nb]) rfl (wanted_none rfl) (Go.Proofs.enters_of Tryz.func20 (by kernel_rfl) rfl) (by simp [hx]) ?_
          refine (small_tr (l := mvs (kB k)) B (HT0.out w7 hw0) (HR.out.b.on hwr) (fun x hx => ?_) (by rw [show (mvs (kB k)).length = (kB k).length from List.length_map ..]; have := (kn_len k HK.out).2; omega) (by rw [mvs_map]; exact (kn_new k HK.out).2)).mono ?_
          · obtain ⟨m, hm, rfl⟩ := List.mem_map.1 hx
            exact sm_bare ((kn_bare k HK.out).2 m hm)
          rintro e wz ⟨T, rfl, ht, hb⟩
          exact ⟨_, rfl, hC.trans (hb.mono hC.size), hb, T, rfl, ht⟩
        · obtain ⟨Ta, hxa, hta⟩ : ∃ T, a0.eval (.tmp 168) = .pointer (some ⟨T, 0, none⟩) ∧ TrL w7 T (kA k) := hT 2 (by kernel_rfl)
          obtain ⟨Tb, hxb, htb⟩ : ∃ T, a0.eval (.tmp 171) = .pointer (some ⟨T, 0, none⟩) ∧ TrL w7 T (kB k) := hT 5 (by kernel_rfl)
          refine spc_call (d := 172) (vs := #[.pointer (some ⟨Ta, 0, none⟩), .pointer (some ⟨Tb, 0, none⟩)]) rfl (wanted_none rfl) (Go.Proofs.enters_of Tryz.func9 (by kernel_rfl) rfl) (by simp [hxa, hxb]) ?_
          refine (Of_tr B (HT0.out w7 hw0) (newT_well (kn_new k HK.out).1) (newT_well (kn_new k HK.out).2) (by have := (kn_len k HK.out).1; omega) (by have := (kn_len k HK.out).2; omega) hta htb).mono ?_
          rintro e wz ⟨v, l, rfl, ho, hp, hr, hb⟩
          exact ⟨_, rfl, hC.trans (hb.mono hC.size), hb, v, rfl, l, MbL.ofRow hr, kn_told HK.out hp ho.srt⟩
        · obtain ⟨u, hx, hu⟩ : ∃ u, a0.eval (.tmp 172) = .tuple #[u, .int .i64 0] ∧ KnOf k u w7 := hT 6 (by kernel_rfl)
          exact spc_val (d := 165) rfl (wanted_none rfl) (by simp [execOp, hx]) hC hkr ⟨u, rfl, hu⟩
        · obtain ⟨u, hx, hu⟩ : ∃ u, a0.eval (.tmp 165) = .tuple #[u, .int .i64 0] ∧ KnOf k u w7 := hT 7 (by kernel_rfl)
          exact spc_val (d := 173) (v := u) rfl (wanted_none rfl) (run_ext2 hx rfl) hC hkr hu
        · obtain ⟨u, hx, hu⟩ : ∃ u, a0.eval (.tmp 165) = .tuple #[u, .int .i64 0] ∧ KnOf k u w7 := hT 7 (by kernel_rfl)
          exact spc_val (d := 174) (v := .int .i64 0) rfl (wanted_none rfl) (run_ext2 hx rfl) hC hkr rfl
        · have hu : KnOf k (a0.eval (.tmp 173)) w7 := hT 8 (by kernel_rfl)
          exact spc_val (d := 12) rfl (wanted_none rfl) (by simp [execOp]) hC hkr hu
        · have hx : a0.eval (.tmp 174) = .int .i64 0 := hT 9 (by kernel_rfl)
          exact spc_val (d := 13) rfl (wanted_none rfl) (by simp [execOp, hx]) hC hkr rfl
      · intro a0 w7 ha hC hT
        have t12 : KnOf k (slot a0 12) w7 := hT 10 (by show 10 < 12; decide)
        have t13 : slot a0 13 = .int .i64 0 := hT 11 (by show 11 < 12; decide)
        simp only [List.foldl_cons, List.foldl_nil, t13] at ha
        have HB7 := Keep.keep (HB2.out.trans (hC.mono HB2.out.size))
        have HR7 := Keep.keep (HR11.out.below hC HR11.out.lt)
        obtain ⟨l12, hm12, hl12⟩ := t12
        have HM := Keep.keep hm12
        obtain ⟨a12, c12v, hv12, -⟩ := hm12.rd.shape
        clear hT t13 hC hm12 HR11 HB2
        rw [hv12] at ha HM
        have HP := Keep.keep (fun wx (hb : Below w7.heap.size w7 wx) => paths_any (.slice a12 l12.length c12v) l12 wx (HM.out.on hb) (fun x hx => (kn_lenK k HK.out).2 x.1 (by rw [← hl12]; exact List.mem_map.2 ⟨x, hx, rfl⟩)) (by
          rw [← List.length_map (f := fun x : Mv => x.1), hl12]
          exact Nat.le_trans (kn_lenK k HK.out).1 (by omega)))
        rw [hl12, kn_str k HK.out, HSK.out] at HP
        generalize l12.length = n12 at *
        clear hv12 hl12 HM
        generalize slot a0 166 = y166 at *
        generalize slot a0 167 = y167 at *
        generalize slot a0 168 = y168 at *
        generalize slot a0 169 = y169 at *
        generalize slot a0 170 = y170 at *
        generalize slot a0 171 = y171 at *
        generalize slot a0 172 = y172 at *
        generalize slot a0 165 = y165 at *
        generalize slot a0 173 = y173 at *
        generalize slot a0 174 = y174 at *
        subst ha
        simp only [Act.put, List.setIfInBounds_toArray, List.set_cons_succ, List.set_cons_zero]
        go_upto_region 13 with fail
        refine wp_region_spc [175, 176, 177, 178, 179, 180, 181, 182, 183] (Below w7.heap.size w7) (kn13 b11 (.slice a12 n12 c12v) sk) (by kernel_rfl) rfl (by decide) (by show ∀ d ∈ _, d < 263; decide) (by kernel_rfl) (Below.refl _ _).drew (fun i v wx wy h _ hb => kn13_w h) ?_ ?_
        · intro q hq a0 w8 hF hC hT
          have t13 : a0.eval (.tmp 13) = .int .i64 0 := (hF.same 13 (by decide)).trans rfl
          have t12 : a0.eval (.tmp 12) = .slice a12 n12 c12v := (hF.same 12 (by decide)).trans rfl
          have t11 : a0.eval (.tmp 11) = .pointer (some ⟨b11, 0, none⟩) := (hF.same 11 (by decide)).trans rfl
          have hkr : Below w8.heap.size w8 w8 := Below.refl _ _
          have hrw := HR7.out.below hC HR7.out.lt
          have hq' : q < 9 := hq
          rcases (by omega : q = 0 ∨ q = 1 ∨ q = 2 ∨ q = 3 ∨ q = 4 ∨ q = 5 ∨ q = 6 ∨ q = 7 ∨ q = 8) with rfl | rfl | rfl | rfl | rfl | rfl | rfl | rfl | rfl
          · exact spc_val (d := 175) rfl (wanted_none rfl) run_move hC hkr t13
          · have h0 : a0.eval (.tmp 175) = .int .i64 0 := hT 0 (by kernel_rfl)
            exact spc_val (d := 176) rfl (wanted_none rfl) (run_neI h0 (show _ = Value.int .i64 0 from rfl) (by simp)) hC hkr rfl
          · exact spc_val (d := 177) rfl (wanted_none rfl) run_move hC hkr (hT 1 (by kernel_rfl))
          · exact spc_val (d := 178) rfl (wanted_of (g := 2) (d := 177) rfl rfl (hT 2 (by kernel_rfl))) run_move hC hkr t12
          · have hx : a0.eval (.tmp 178) = .slice a12 n12 c12v := hT 3 (by kernel_rfl)
            refine spc_call (d := 179) (vs := #[.slice a12 n12 c12v]) rfl (wanted_of (g := 2) (d := 177) rfl rfl (hT 2 (by kernel_rfl))) (Go.Proofs.enters_of Tryz.func24 (by kernel_rfl) rfl) (by simp [hx]) ?_
            refine (HP.out w8 hC).mono ?_
            rintro e wz ⟨rfl, hb⟩
            exact ⟨_, rfl, hC.trans (hb.mono hC.size), hb, rfl⟩
          · exact spc_val (d := 180) rfl (wanted_of (g := 2) (d := 177) rfl rfl (hT 2 (by kernel_rfl))) (run_fieldAddr (m := 0) Tryz.underlying52 rfl (by kernel_rfl) t11) hC hkr rfl
          · have hx : a0.eval (.tmp 180) = .pointer (some ⟨b11, 2, none⟩) := hT 5 (by kernel_rfl)
            exact spc_val (d := 181) rfl (wanted_of (g := 2) (d := 177) rfl rfl (hT 2 (by kernel_rfl))) (run_loadCell (run_isAgg_plain Tryz.underlying9 rfl) (hrw.cell (i := 2) rfl) hx) hC hkr rfl
          · have h0 : a0.eval (.tmp 179) = .string ⟨sk.toArray⟩ := hT 4 (by kernel_rfl)
            have h1 : a0.eval (.tmp 181) = .string ⟨sk.toArray⟩ := hT 6 (by kernel_rfl)
            exact spc_val (d := 182) rfl (wanted_of (g := 2) (d := 177) rfl rfl (hT 2 (by kernel_rfl))) (run_neS h0 h1) hC hkr rfl
          · exact spc_val (d := 183) rfl (wanted_none rfl) (run_pickF (hT 2 (by kernel_rfl))) hC hkr (show slot a0 182 = _ from (hT 7 (by kernel_rfl)))
        · intro a0 w8 ha hC hT
          have t183 : slot a0 183 = .bool false := hT 8 (by show 8 < 9; decide)
          simp only [List.foldl_cons, List.foldl_nil, t183] at ha
          have HB8 := Keep.keep (HB7.out.trans (hC.mono HB7.out.size))
          clear hT t183 hC HR7 HP HB7
          generalize slot a0 175 = y175 at *
          generalize slot a0 176 = y176 at *
          generalize slot a0 177 = y177 at *
          generalize slot a0 178 = y178 at *
          generalize slot a0 179 = y179 at *
          generalize slot a0 180 = y180 at *
          generalize slot a0 181 = y181 at *
          generalize slot a0 182 = y182 at *
          subst ha
          simp only [Act.put, List.setIfInBounds_toArray, List.set_cons_succ, List.set_cons_zero]
          go_wp2_with fail
          go_roundg g
          case measure => omega
          case rel => exact ⟨k + 1, by omega, by simp, HH.out.call HB8.out⟩
end Go.Proofs.YtmnknmpfkjhgbaaGreatDoor
/- WHAT THE ROWS' LISTED VARIABLES AND THE WORLD'S SHAPE GIVE; and a world that holds the listed variables. -/
namespace Go.Proofs.YtmnknmpfkjhgbaaGreatDoor
open Go.ChangeShapes Go.WideShapes Go.ChangeAt Go.RowKit
theorem mx_of_shape {W : World} (h : W.ShapedOpen Tryz.prog) : Mx W.heap.size W := by
  obtain ⟨m, hm⟩ : ∃ m, W.cell? ⟨2, 0, none⟩ = some (.int .i64 m) := Go.Proofs.cell_of_shapedOpen_int (zero := #[.int .i64 0]) (t := 3) h (of_decide_eq_true (by kernel_rfl)) (by kernel_rfl) rfl (by kernel_rfl) (by kernel_rfl) Tryz.underlying3
  exact ⟨World.block_lt_of_cell? W _ hm, m, hm⟩
/-- what the laws of the trees ask of the world -/
theorem tabs_of {W : World} {l : List (String × DataW Unit)} (hL : laidMetH Tryz.prog l W) (hsh : W.ShapedOpen Tryz.prog) (hc : ("portolan/path.classes", Rows.laid_portolan_path_classes) ∈ l) (ht : ("portolan/tar.types", Rows.laid_portolan_tar_types) ∈ l) : Tabs W.heap.size W :=
  ⟨Nat.le_refl _, mx_of_shape hsh, cls_of_laid hL hc, typ_of_laid (laidMetH_iff.1 hL).1 (List.mem_filter.2 ⟨ht, rfl⟩)⟩
/-- A WORLD FOR THE WITNESS -/
def layRow (c : Array Value) : Obj → Obj
  | .cells _ t frozen => .cells c t frozen
  | o => o
def classesMap : Obj := .map #[⟨.int .i64 1, .func (.func 223) #[] #[], 0⟩, ⟨.int .i64 2, .func (.func 224) #[] #[], 1⟩, ⟨.int .i64 3, .func (.func 225) #[] #[], 2⟩] 3
def typesMap : Obj := .map #[⟨.int .i64 1, .int .u8 53, 0⟩, ⟨.int .i64 2, .int .u8 48, 1⟩, ⟨.int .i64 3, .int .u8 50, 2⟩, ⟨.int .i64 4, .int .u8 54, 3⟩] 4
noncomputable def lowM : Nat := (World.holding Tryz.prog default ⟨#[], #[], []⟩).heap.size
noncomputable def laidWorld (os : Os) : World :=
  let w0 := World.holding Tryz.prog os ⟨#[classesMap, typesMap], #[], []⟩
  let h2 := Array.modify w0.heap 4 (layRow ((List.range 16).flatMap fun i => [Value.int .u8 (Lib.accLo i), Value.int .u8 (Lib.accHi i)]).toArray)
  let h3 := Array.modify h2 3 (layRow (Lib.firstTab.map fun z => Value.int .u8 z).toArray)
  let h4 := Array.modify h3 0 (layRow #[.map (some lowM)])
  let h5 := Array.modify h4 1 (layRow #[.map (some (lowM + 1))])
  { w0 with heap := h5 }
end Go.Proofs.YtmnknmpfkjhgbaaGreatDoor

/- A MILLION BYTES a: blocks that are all alike, for the kernel. Plain facts. -/
import Derived.Test.YtofficleahalaaaDoorShaSpec
namespace Go.Proofs.YtofficleahalaaaDoor
/-- f of n, n reckoned first -/
def seqN {α : Type} (n : Nat) (f : Nat → α) : α := Nat.rec (f 0) (fun m _ => f (m + 1)) n
theorem seqN_eq {α : Type} (n : Nat) (f : Nat → α) : seqN n f = f n := by cases n <;> rfl
def rndk (kw : Nat) : List Nat → List Nat
  | [a, b, c, d, e, f, g, h] => [((h + Sig1 e + choose e f g + kw) % 4294967296 + (Sig0 a + most a b c)) % 4294967296, a, b, c, (d + (h + Sig1 e + choose e f g + kw) % 4294967296) % 4294967296, e, f, g]
  | v => v
theorem rnd_rndk (K W : Nat) (v : List Nat) : rnd K W v = rndk (K + W) v := by
  unfold rnd rndk
  split
  · simp only [T1, T2, ← Nat.add_assoc]
    congr 1
    omega
  · rename_i h1
    split
    · rename_i a b c d e f g h
      exact (h1 _ _ _ _ _ _ _ _ rfl).elim
    · rfl
theorem rounds_fold (ws v : List Nat) : ∀ n, rounds ws v n = ((List.range n).map fun t => Ks.getD t 0 + ws.getD t 0).foldl (fun v kw => rndk kw v) v
  | 0 => rfl
  | n + 1 => by rw [rounds, rnd_rndk, rounds_fold ws v n, List.range_succ, List.map_append, List.foldl_append]; rfl
def fr : List Nat → Nat → Nat → Nat → Nat → Nat → Nat → Nat → Nat → List Nat
  | [], a, b, c, d, e, f, g, h => [a, b, c, d, e, f, g, h]
  | kw :: t, a, b, c, d, e, f, g, h =>
    seqN ((h + Sig1 e + choose e f g + kw) % 4294967296) fun t1 =>
    seqN ((t1 + (Sig0 a + most a b c)) % 4294967296) fun na =>
    seqN ((d + t1) % 4294967296) fun ne =>
    fr t na a b c ne e f g
theorem fr_fold : ∀ (l : List Nat) (a b c d e f g h : Nat), fr l a b c d e f g h = l.foldl (fun v kw => rndk kw v) [a, b, c, d, e, f, g, h]
  | [], _, _, _, _, _, _, _, _ => rfl
  | kw :: t, a, b, c, d, e, f, g, h => by
    rw [fr, seqN_eq, seqN_eq, seqN_eq, fr_fold t, List.foldl_cons]; rfl
def KWs : List Nat := [2750124281, 3533219314, 4683095344, 5554781446, 2595759036, 3142742866, 4087407621, 4504535094, 5258152953, 1944370274, 2240997151, 3060653860, 3558850261, 3795850079, 4248659976, 4881994453, 7962470397, 8149304770, 1109373709, 1449834259, 1332383432, 1811277571, 5697566716, 4336890837, 4651386783, 7023905028, 4167673427, 6075095564, 3506461443, 6222891004, 3100717738, 957412701, 3211936012, 2525724465, 5192624004, 2750766458, 3733122911, 5785415788, 5302099131, 4510137934, 4494867471, 3051847127, 6841751890, 5493434369, 5416391400, 6288792078, 4206943767, 1385611443, 2838015846, 4615462549, 2870002303, 4911289699, 3868675357, 5105900214, 4192983651, 4114851946, 2567787456, 3518289627, 3043469264, 3431775655, 2875437985, 3700493388, 7133747437, 3572068108]
theorem kws_eq : ((List.range 64).map fun t => Ks.getD t 0 + (sched (List.replicate 64 97) 64).getD t 0) = KWs := by decide +kernel
def fin8 : List Nat → List Nat → List Nat
  | [a, b, c, d, e, f, g, i], [a', b', c', d', e', f', g', i'] =>
      seqN ((a + a') % 4294967296) fun a => seqN ((b + b') % 4294967296) fun b => seqN ((c + c') % 4294967296) fun c => seqN ((d + d') % 4294967296) fun d =>
      seqN ((e + e') % 4294967296) fun e => seqN ((f + f') % 4294967296) fun f => seqN ((g + g') % 4294967296) fun g => seqN ((i + i') % 4294967296) fun i => [a, b, c, d, e, f, g, i]
  | _, _ => []
theorem fin8_eq (a b c d e f g i a' b' c' d' e' f' g' i' : Nat) : fin8 [a, b, c, d, e, f, g, i] [a', b', c', d', e', f', g', i'] = List.zipWith plus [a, b, c, d, e, f, g, i] [a', b', c', d', e', f', g', i'] := by
  simp only [fin8, seqN_eq, List.zipWith_cons_cons, List.zipWith_nil_left, plus]
def one8 : List Nat → List Nat
  | [a, b, c, d, e, f, g, i] => fin8 [a, b, c, d, e, f, g, i] (fr KWs a b c d e f g i)
  | _ => []
theorem rounds_kw (v : List Nat) : rounds (sched (List.replicate 64 97) 64) v 64 = KWs.foldl (fun v kw => rndk kw v) v := (rounds_fold _ v 64).trans (congrArg (fun l => List.foldl (fun v kw => rndk kw v) v l) kws_eq)
set_option maxRecDepth 100000 in
theorem one8_eq {h : List Nat} (hok : Ok8 h) : one8 h = compress h (List.replicate 64 97) := by
  have h2 := ok8_rounds hok (sched (List.replicate 64 97) 64) 64
  unfold compress
  rw [rounds_kw] at h2 ⊢
  obtain ⟨a, b, c, d, e, f, g, i, rfl, _⟩ := hok
  rw [one8, fr_fold]
  generalize List.foldl (fun v kw => rndk kw v) [a, b, c, d, e, f, g, i] KWs = r at *
  obtain ⟨a', b', c', d', e', f', g', i', rfl, _⟩ := h2
  exact fin8_eq _ _ _ _ _ _ _ _ _ _ _ _ _ _ _ _
def it8 : Nat → List Nat → List Nat
  | 0, h => h
  | n + 1, h => it8 n (one8 h)
theorem it8_add : ∀ (a b : Nat) (h : List Nat), it8 (a + b) h = it8 b (it8 a h)
  | 0, b, h => by rw [Nat.zero_add]; rfl
  | a + 1, b, h => by rw [show a + 1 + b = (a + b) + 1 by omega, it8, it8_add a b]; rfl
theorem it8_succ (n : Nat) (h : List Nat) : it8 (n + 1) h = one8 (it8 n h) := by rw [it8_add n 1]; rfl
theorem feed_same (n : Nat) : ∀ k, 64 * k ≤ n → feed H0s (List.replicate n 97) k = it8 k H0s
  | 0, _ => rfl
  | k + 1, hk => by
    rw [feed, feed_same n k (by omega), it8_succ]
    have hok : Ok8 (it8 k H0s) := by rw [← feed_same n k (by omega)]; exact ok8_feed H0s_ok _ _
    rw [one8_eq hok]
    congr 1
    rw [List.drop_replicate, List.take_replicate]
    congr 1
    omega
end Go.Proofs.YtofficleahalaaaDoor

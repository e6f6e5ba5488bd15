/- SHA-256, PLAIN: words, schedule, rounds. No program in sight. -/
import Derived.Test.YtofficleahalaaaDoorRows
import Derived.Test.YtofficleahalaaaDoorKeep
import Derived.Laws.BitsAllLaws
namespace Go.Proofs.YtofficleahalaaaDoor
/-- turned right -/
def rotr (x k : Nat) : Nat := (x / 2 ^ k) ||| (x * 2 ^ (32 - k) % 4294967296)
def sig0 (x : Nat) : Nat := rotr x 7 ^^^ rotr x 18 ^^^ (x / 8)
def sig1 (x : Nat) : Nat := rotr x 17 ^^^ rotr x 19 ^^^ (x / 1024)
def word (b : List UInt8) (t : Nat) : Nat := (((b.getD (4*t) 0).toNat * 256 + (b.getD (4*t+1) 0).toNat) * 256 + (b.getD (4*t+2) 0).toNat) * 256 + (b.getD (4*t+3) 0).toNat
/-- the next word behind t of them -/
def nextWord (b : List UInt8) (ws : List Nat) : Nat :=
  if ws.length < 16 then word b ws.length
  else (sig1 (ws.getD (ws.length - 2) 0) + ws.getD (ws.length - 7) 0 + sig0 (ws.getD (ws.length - 15) 0) + ws.getD (ws.length - 16) 0) % 4294967296
def sched (b : List UInt8) : Nat → List Nat
  | 0 => []
  | t + 1 => sched b t ++ [nextWord b (sched b t)]
theorem sched_length (b : List UInt8) : ∀ t, (sched b t).length = t
  | 0 => rfl
  | t + 1 => by simp [sched, sched_length b t]
theorem sched_succ (b : List UInt8) (t : Nat) : sched b (t + 1) = sched b t ++ [nextWord b (sched b t)] := rfl
theorem rotr_lt (x k : Nat) (h1 : x < 4294967296) : rotr x k < 4294967296 :=
  Nat.or_lt_two_pow (n := 32) (Nat.lt_of_le_of_lt (Nat.div_le_self _ _) h1) (Nat.mod_lt _ (by decide))
theorem word_lt (b : List UInt8) (t : Nat) : word b t < 4294967296 := by
  have h := fun i => (b.getD i 0).toNat_lt
  unfold word
  have h0 := h (4*t); have h1 := h (4*t+1); have h2 := h (4*t+2); have h3 := h (4*t+3)
  omega
theorem nextWord_lt (b : List UInt8) (ws : List Nat) : nextWord b ws < 4294967296 := by
  unfold nextWord
  split
  · exact word_lt _ _
  · exact Nat.mod_lt _ (by decide)
theorem sched_lt (b : List UInt8) : ∀ t, ∀ x ∈ sched b t, x < 4294967296
  | 0, x, h => by cases h
  | t + 1, x, h => by
    rw [sched_succ, List.mem_append] at h
    rcases h with h | h
    · exact sched_lt b t x h
    · rw [List.mem_singleton] at h; rw [h]; exact nextWord_lt _ _
def Ks : List Nat := [1116352408, 1899447441, 3049323471, 3921009573, 961987163, 1508970993, 2453635748, 2870763221, 3624381080, 310598401, 607225278, 1426881987, 1925078388, 2162078206, 2614888103, 3248222580, 3835390401, 4022224774, 264347078, 604807628, 770255983, 1249150122, 1555081692, 1996064986, 2554220882, 2821834349, 2952996808, 3210313671, 3336571891, 3584528711, 113926993, 338241895, 666307205, 773529912, 1294757372, 1396182291, 1695183700, 1986661051, 2177026350, 2456956037, 2730485921, 2820302411, 3259730800, 3345764771, 3516065817, 3600352804, 4094571909, 275423344, 430227734, 506948616, 659060556, 883997877, 958139571, 1322822218, 1537002063, 1747873779, 1955562222, 2024104815, 2227730452, 2361852424, 2428436474, 2756734187, 3204031479, 3329325298]
def H0s : List Nat := [1779033703, 3144134277, 1013904242, 2773480762, 1359893119, 2600822924, 528734635, 1541459225]
theorem Ks_length : Ks.length = 64 := rfl
def Sig1 (e : Nat) : Nat := rotr e 6 ^^^ rotr e 11 ^^^ rotr e 25
def Sig0 (a : Nat) : Nat := rotr a 2 ^^^ rotr a 13 ^^^ rotr a 22
def choose (e f g : Nat) : Nat := (e &&& f) ^^^ ((4294967295 - e) &&& g)
def most (a b c : Nat) : Nat := (a &&& b) ^^^ (a &&& c) ^^^ (b &&& c)
def T1 (e f g h K W : Nat) : Nat := (h + Sig1 e + choose e f g + K + W) % 4294967296
def T2 (a b c : Nat) : Nat := (Sig0 a + most a b c) % 4294967296
/-- one round -/
def rnd (K W : Nat) : List Nat → List Nat
  | [a, b, c, d, e, f, g, h] => [(T1 e f g h K W + T2 a b c) % 4294967296, a, b, c, (d + T1 e f g h K W) % 4294967296, e, f, g]
  | v => v
def rounds (ws : List Nat) (v : List Nat) : Nat → List Nat
  | 0 => v
  | t + 1 => rnd (Ks.getD t 0) (ws.getD t 0) (rounds ws v t)
def plus (x y : Nat) : Nat := (x + y) % 4294967296
/-- one block -/
def compress (h : List Nat) (b : List UInt8) : List Nat := List.zipWith plus h (rounds (sched b 64) h 64)
/-- eight words -/
def Ok8 (v : List Nat) : Prop := ∃ a b c d e f g h : Nat, v = [a, b, c, d, e, f, g, h] ∧ a < 4294967296 ∧ b < 4294967296 ∧ c < 4294967296 ∧ d < 4294967296 ∧ e < 4294967296 ∧ f < 4294967296 ∧ g < 4294967296 ∧ h < 4294967296
theorem ok8_rnd {v : List Nat} (h : Ok8 v) (K W : Nat) : Ok8 (rnd K W v) := by
  obtain ⟨a, b, c, d, e, f, g, i, rfl, h1, h2, h3, h4, h5, h6, h7, h8⟩ := h
  exact ⟨_, _, _, _, _, _, _, _, rfl, Nat.mod_lt _ (by decide), h1, h2, h3, Nat.mod_lt _ (by decide), h5, h6, h7⟩
theorem ok8_rounds {v : List Nat} (h : Ok8 v) (ws : List Nat) : ∀ t, Ok8 (rounds ws v t)
  | 0 => h
  | t + 1 => ok8_rnd (ok8_rounds h ws t) _ _
theorem ok8_compress {v : List Nat} (h : Ok8 v) (b : List UInt8) : Ok8 (compress v b) := by
  have h2 := ok8_rounds h (sched b 64) 64
  unfold compress
  generalize rounds (sched b 64) v 64 = r at *
  obtain ⟨a, b, c, d, e, f, g, i, rfl, _⟩ := h
  obtain ⟨a', b', c', d', e', f', g', i', rfl, _⟩ := h2
  exact ⟨_, _, _, _, _, _, _, _, rfl, Nat.mod_lt _ (by decide), Nat.mod_lt _ (by decide), Nat.mod_lt _ (by decide), Nat.mod_lt _ (by decide), Nat.mod_lt _ (by decide), Nat.mod_lt _ (by decide), Nat.mod_lt _ (by decide), Nat.mod_lt _ (by decide)⟩
theorem H0s_ok : Ok8 H0s := ⟨_, _, _, _, _, _, _, _, rfl, by decide, by decide, by decide, by decide, by decide, by decide, by decide, by decide⟩
theorem Ks_lt (t : Nat) : Ks.getD t 0 < 4294967296 := by
  have h : ∀ x ∈ Ks, x < 4294967296 := by decide
  rw [List.getD_eq_getElem?_getD]
  cases hq : Ks[t]? with
  | none => simp
  | some x => exact h x (List.mem_of_getElem? hq)
theorem sched_getD_lt (b : List UInt8) (n t : Nat) : (sched b n).getD t 0 < 4294967296 := by
  rw [List.getD_eq_getElem?_getD]
  cases hq : (sched b n)[t]? with
  | none => simp
  | some x => exact sched_lt b n x (List.mem_of_getElem? hq)
/-- k blocks -/
def feed (h : List Nat) (l : List UInt8) : Nat → List Nat
  | 0 => h
  | k + 1 => compress (feed h l k) ((l.drop (64 * k)).take 64)
theorem ok8_feed {h : List Nat} (hok : Ok8 h) (l : List UInt8) : ∀ k, Ok8 (feed h l k)
  | 0 => hok
  | k + 1 => ok8_compress (ok8_feed hok l k) _
theorem feed_append (h : List Nat) (l m : List UInt8) (k : Nat) (hk : 64 * k ≤ l.length) : feed h (l ++ m) k = feed h l k := by
  induction k with
  | zero => rfl
  | succ k ih =>
    rw [feed, feed, ih (by omega)]
    congr 1
    rw [List.drop_append_of_le_length (by omega), List.take_append_of_le_length (by rw [List.length_drop]; omega)]
theorem feed_more (h : List Nat) (l : List UInt8) (k : Nat) : ∀ n, feed h l (k + n) = feed (feed h l k) (l.drop (64 * k)) n
  | 0 => rfl
  | n + 1 => by
    rw [← Nat.add_assoc, feed, feed, feed_more h l k n, List.drop_drop, show 64 * (k + n) = 64 * k + 64 * n by omega]
/-- the words behind all whole blocks of l -/
def fed (l : List UInt8) : List Nat := feed H0s l (l.length / 64)
/-- what is left behind the whole blocks -/
def rest (l : List UInt8) : List UInt8 := l.drop (64 * (l.length / 64))
theorem rest_length (l : List UInt8) : (rest l).length = l.length % 64 := by rw [rest, List.length_drop]; omega
theorem fed_append (l m : List UInt8) : fed (l ++ m) = feed (fed l) (rest l ++ m) ((rest l ++ m).length / 64) := by
  have e : (l ++ m).length / 64 = l.length / 64 + (rest l ++ m).length / 64 := by
    rw [List.length_append, List.length_append, rest_length]; omega
  rw [fed, e, feed_more, feed_append _ _ _ _ (by omega), List.drop_append_of_le_length (by omega)]
  rfl
theorem rest_append (l m : List UInt8) : rest (l ++ m) = (rest l ++ m).drop (64 * ((rest l ++ m).length / 64)) := by
  have e : (l ++ m).length / 64 = l.length / 64 + (rest l ++ m).length / 64 := by
    rw [List.length_append, List.length_append, rest_length]; omega
  rw [rest, e, show 64 * (l.length / 64 + (rest l ++ m).length / 64) = 64 * (l.length / 64) + 64 * ((rest l ++ m).length / 64) by omega, ← List.drop_drop, List.drop_append_of_le_length (by omega)]
  rfl
theorem ok8_fed (l : List UInt8) : Ok8 (fed l) := ok8_feed H0s_ok _ _
/-- the eight bytes of how many bits there were -/
def lenB (n : Nat) : List UInt8 := (List.range 8).map fun j => UInt8.ofNat (n * 8 / 2 ^ (8 * (7 - j)) % 256)
/-- how many noughts -/
def noughts (n : Nat) : Nat := (119 - n % 64) % 64
def pad (n : Nat) : List UInt8 := 128 :: (List.replicate (noughts n) 0 ++ lenB n)
/-- the bytes of eight words -/
def outB (h : List Nat) : List UInt8 := (List.range 32).map fun i => UInt8.ofNat (h.getD (i / 4) 0 / 2 ^ (24 - 8 * (i % 4)) % 256)
def digest (l : List UInt8) : List UInt8 := outB (fed (l ++ pad l.length))
theorem lenB_length (n : Nat) : (lenB n).length = 8 := by simp [lenB]
theorem outB_length (h : List Nat) : (outB h).length = 32 := by simp [outB]
theorem pad_length (n : Nat) : (pad n).length = 9 + noughts n := by simp [pad, lenB_length]; omega
theorem digest_length (l : List UInt8) : (digest l).length = 32 := outB_length _
theorem nought_eq (r j : Nat) (hr : r < 64) (hj : j = (119 - r) % 64) : (r + 1 + j) % 64 = 56 ∧ r + 1 + j < 128 := by omega
theorem lenB_take (n i : Nat) (h : i < 8) : (lenB n).take (i + 1) = (lenB n).take i ++ [UInt8.ofNat (n * 8 / 2 ^ (8 * (7 - i)) % 256)] := by
  rw [List.take_succ_eq_append_getElem (by rw [lenB_length]; exact h)]
  simp [lenB]
theorem byte_of (x : Nat) : ((x % 256 : Nat) : Int) = ((UInt8.ofNat (x % 256)).toNat : Int) := by
  rw [UInt8.toNat_ofNat']; simp
theorem padded (l : List UInt8) : (l ++ pad l.length).length % 64 = 0 := by
  rw [List.length_append, pad_length, noughts]; omega
theorem not32 (x : Nat) (h : x < 4294967296) : bits BinOp.xor IntKind.u32 (if IntKind.u32.signed = true then -1 else IntKind.u32.max) (x : Int) = ((4294967295 - x : Nat) : Int) := by
  rw [show (if IntKind.u32.signed = true then (-1 : Int) else IntKind.u32.max) = ((4294967295 : Nat) : Int) from rfl, u32_xor_nat _ _ (by decide) h]
  congr 1
  apply Nat.eq_of_testBit_eq
  intro i
  have e : 4294967295 - x = 2 ^ 32 - (x + 1) := by omega
  rw [Nat.testBit_xor, e, Nat.testBit_two_pow_sub_succ h, show (4294967295 : Nat) = 2 ^ 32 - 1 from rfl, Nat.testBit_two_pow_sub_one]
  by_cases hi : i < 32
  · simp [hi]
  · have : x.testBit i = false := Nat.testBit_lt_two_pow (Nat.lt_of_lt_of_le h (Nat.pow_le_pow_right (by decide) (by omega) : 2 ^ 32 ≤ 2 ^ i))
    simp [hi, this]
theorem Sig1_lt (x : Nat) (h : x < 4294967296) : Sig1 x < 4294967296 := Nat.xor_lt_two_pow (n := 32) (Nat.xor_lt_two_pow (n := 32) (rotr_lt x 6 h) (rotr_lt x 11 h)) (rotr_lt x 25 h)
theorem Sig0_lt (x : Nat) (h : x < 4294967296) : Sig0 x < 4294967296 := Nat.xor_lt_two_pow (n := 32) (Nat.xor_lt_two_pow (n := 32) (rotr_lt x 2 h) (rotr_lt x 13 h)) (rotr_lt x 22 h)
theorem choose_lt (e f g : Nat) (hf : f < 4294967296) (hg : g < 4294967296) : choose e f g < 4294967296 := Nat.xor_lt_two_pow (n := 32) (Nat.and_lt_two_pow (n := 32) e hf) (Nat.and_lt_two_pow (n := 32) (4294967295 - e) hg)
theorem most_lt (a b c : Nat) (hb : b < 4294967296) (hc : c < 4294967296) : most a b c < 4294967296 :=
  Nat.xor_lt_two_pow (n := 32) (Nat.xor_lt_two_pow (n := 32) (Nat.and_lt_two_pow (n := 32) a hb) (Nat.and_lt_two_pow (n := 32) a hc)) (Nat.and_lt_two_pow (n := 32) b hc)
end Go.Proofs.YtofficleahalaaaDoor

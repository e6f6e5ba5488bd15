/- PAX, PLAINLY: records read. No program in sight. -/
import Derived.Test.YtlhjehcfpnjbmaaDoorPaxSpec
namespace Go.Proofs.YtlhjehcfpnjbmaaDoor
def isDig (c : UInt8) : Bool := decide (48 ≤ c.toNat) && decide (c.toNat ≤ 57)
/-- the digits in front, 9 at most: how many, and their number -/
def digN : List UInt8 → Nat → Nat → Nat × Nat
  | c :: b, many, n => if isDig c && decide (many < 9) then digN b (many + 1) (10 * n + (c.toNat - 48)) else (many, n)
  | [], many, n => (many, n)
/-- 10, 100, and so on -/
def twiceN : Nat → Nat → Bool
  | 0, n => n == 10
  | f + 1, n => if 10 < n && n % 10 == 0 then twiceN f (n / 10) else n == 10
def twiceB (n : Nat) : Bool := twiceN 20 n
/-- what stands ahead of the first = , and behind it -/
def cutEq (s : List UInt8) : List UInt8 × Option (List UInt8) :=
  (s.takeWhile (· != 61), match s.dropWhile (· != 61) with | [] => none | _ :: v => some v)
/-- a record, its size; or the error (4 short, 5 form) -/
inductive Got where
  | bad (e : Nat)
  | one (k v : List UInt8) (n : Nat)
def oneP (b : List UInt8) : Got :=
  let many := (digN b 0 0).1
  let n := (digN b 0 0).2
  if many = 0 ∨ b.head? = some 48 ∨ 16777216 < n then .bad 5
  else if twiceB n ∧ (16777216 < 10 * n ∨ b[many]? = some 32) then .bad 5
  else if many = b.length ∨ b[many]? ≠ some 32 then (if many = b.length then .bad 4 else .bad 5)
  else
    let rest0 := b.drop (many + 1)
    if n < many + 1 + 3 then .bad 5
    else
      let fin := n - many - 1
      let whole := decide (fin ≤ rest0.length)
      let rest := if whole then rest0.take fin else rest0
      let key := (cutEq rest).1
      match (cutEq rest).2 with
      | none => if whole = false ∧ key.length + 2 ≤ fin ∧ (key = [] ∨ mayK key) then .bad 4 else .bad 5
      | some value =>
        if ¬ mayK key ∨ fin < key.length + 2 then .bad 5
        else if whole = false then .bad 4
        else if rest[fin - 1]? ≠ some 10 then .bad 5
        else .one key (value.take (value.length - 1)) n
/-- records, or the error -/
def getP : Nat → List UInt8 → List (List UInt8 × List UInt8) × Nat
  | 0, _ => ([], 0)
  | f + 1, b =>
    if b.isEmpty then ([], 0)
    else match oneP b with
      | .bad e => ([], e)
      | .one k v n => match getP f (b.drop n) with
        | (l, 0) => ((k, v) :: l, 0)
        | (_, e) => ([], e)
end Go.Proofs.YtlhjehcfpnjbmaaDoor

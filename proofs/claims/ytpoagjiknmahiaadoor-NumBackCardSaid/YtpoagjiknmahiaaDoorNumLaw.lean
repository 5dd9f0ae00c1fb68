/-
  Plain laws: how a numeral is read. No conditions.
-/
import Derived.Test.YtpoagjiknmahiaaDoorNum1
namespace Go.Proofs.YtpoagjiknmahiaaDoor
open Go.RowKit Gx

def W64 : Nat := 18446744073709551616

/-- one digit more: the number, modulo 2^64, and whether it was too large -/
def numStep (b : Nat) (n : Nat) (o : Int) (d : Int) : Nat × Int :=
  ((((n * b % 18446744073709551616 : Nat) : Int) + d + 0) % 18446744073709551616 |>.toNat,
   bits .or .u64 o (bits .or .u64 ((n * b / 18446744073709551616 : Nat) : Int) ((((n * b % 18446744073709551616 : Nat) : Int) + d + 0) / 18446744073709551616)))

/-- what the bytes of a numeral make: its last byte, the number, whether it was too large; or it is none -/
def numLoop (b : Nat) : List Int → Int → Nat → Int → Option (Int × Nat × Int)
  | [], y, n, o => some (y, n, o)
  | c :: t, y, n, o =>
    if c = 95 then (if y = 95 then none else numLoop b t 95 n o)
    else if (b : Int) ≤ digitOf c then none else numLoop b t c (numStep b n o (digitOf c)).1 (numStep b n o (digitOf c)).2

def limitOf (minus : Bool) : Nat := if minus then 9223372036854775808 else 9223372036854775807
/-- the answer: the number, and the error -/
def readEnd (minus : Bool) : Option (Int × Nat × Int) → Int × Int
  | none => (0, 4)
  | some (y, n, o) => if y = 95 then (0, 4) else if 0 < o ∨ limitOf minus < n then (0, 7) else (if minus then -(n : Int) else n, 0)
def ints (l : List UInt8) : List Int := l.map fun b => (b.toNat : Int)
def readBy (minus : Bool) (b : Nat) (r : List UInt8) : Int × Int :=
  if b = 10 ∧ 1 < r.length ∧ r.getD 0 0 = 48 then (0, 4) else readEnd minus (numLoop b (ints r) 95 0 0)
def readOf (l : List UInt8) : Int × Int :=
  if 80 < l.length then (0, 2) else readBy (Lib.hasPrefix l [45]) (baseOf (Lib.trimPrefix l [45])).1 (baseOf (Lib.trimPrefix l [45])).2

theorem numStep_lt (b n : Nat) (o d : Int) : (numStep b n o d).1 < 18446744073709551616 := by
  unfold numStep
  simp only
  omega
end Go.Proofs.YtpoagjiknmahiaaDoor

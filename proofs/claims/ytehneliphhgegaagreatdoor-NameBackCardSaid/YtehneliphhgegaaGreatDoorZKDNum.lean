/- The document's number: walked once. -/
import Derived.Test.YtehneliphhgegaaGreatDoorDDec
import Derived.Test.YtehneliphhgegaaGreatDoorDFmt
set_option linter.unusedVariables false
set_option linter.unusedSimpArgs false
set_option maxRecDepth 100000
namespace Go.Proofs.YtehneliphhgegaaGreatDoor
open Go.RowKit Go.Apo

def numStop (c n : Nat) : Bool := decide (c < 48) || decide (57 < c) || decide (1844674407370955161 < n)
def numRun : List UInt8 → Nat → Option Nat
  | [], n => some n
  | c :: r, n => if numStop c.toNat n = true then none else numRun r ((n * 10 + (c.toNat - 48)) % 18446744073709551616)
def numEnd (s : ByteArray) : Option Nat → Nat × Bool
  | none => (0, false)
  | some n => (n, decide (dec n = s))
def numV (s : ByteArray) : Nat × Bool := numEnd s (numRun s.data.toList 0)
end Go.Proofs.YtehneliphhgegaaGreatDoor

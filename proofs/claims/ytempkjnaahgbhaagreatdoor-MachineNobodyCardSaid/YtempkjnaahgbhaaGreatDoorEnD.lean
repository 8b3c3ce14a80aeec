/-
  An entry: its index, its term, its bytes. No condition.
-/
import Derived.Test.YtempkjnaahgbhaaGreatDoorBase
namespace Go.Proofs.YtempkjnaahgbhaaGreatDoor
/-- An entry. -/
structure En where
  ix : Int
  te : Int
  da : List UInt8
end Go.Proofs.YtempkjnaahgbhaaGreatDoor

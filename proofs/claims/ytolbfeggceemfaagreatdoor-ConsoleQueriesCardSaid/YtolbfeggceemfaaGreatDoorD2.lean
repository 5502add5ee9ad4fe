/-
  What the waking script comes to: a closed evaluation.
-/
import Derived.Test.YtolbfeggceemfaaGreatDoorD1
namespace Go.Proofs.YtolbfeggceemfaaGreatDoor
open Go.RowKit
/-- The waking script. -/
def wakeIn : ByteArray := { data := ([99, 111, 117, 110, 116, 32, 119, 119, 119, 46, 97, 46, 10, 35, 32, 120, 10, 102, 114, 111, 98, 10, 102, 111, 108, 100, 32, 65, 46, 98, 46, 10, 97, 98, 111, 118, 101, 32, 98, 46, 32, 97, 46, 98, 46, 10, 99, 111, 109, 112].append [97, 114, 101, 32, 97, 46, 32, 98, 46, 10, 115, 105, 122, 101, 32, 53, 32, 50, 48, 32, 49, 48, 32, 52, 10, 114, 111, 111, 109, 32, 53, 32, 49, 48, 10, 103, 101, 116, 32, 48, 48, 10, 99, 111, 117, 110, 116, 32, 119, 119, 119]).toArray }
def wakeOut : List UInt8 := [50, 10, 101, 114, 114, 111, 114, 32, 50, 56, 48, 48, 10, 97, 46, 98, 46, 10, 121, 101, 115, 10, 108, 101, 115, 115, 10, 52, 10, 49, 10, 101, 114, 114, 111, 114, 32, 55, 48, 48, 10, 101, 114, 114, 111, 114, 32, 49, 48, 48, 10]
theorem wake_run : runE wakeIn = (wakeOut, 0) := by kernel_rfl
end Go.Proofs.YtolbfeggceemfaaGreatDoor

/-
What is done at each of these texts: runs.
-/
import Derived.Test.YtdofpjabgnfglaaGreatDoorBase
set_option maxRecDepth 100000
namespace Go.Proofs.YtdofpjabgnfglaaGreatDoor
open Go Go.Am
theorem d4 (x : Int) (T : Nat) : val (does x T [.str 6 [100,114,111,112,32,53]]) = some (.tup [.str 0 [], .int .i64 6]) := by kernel_rfl
theorem d5 (x : Int) (T : Nat) : val (does x T [.str 12 [103,117,97,114,100,32,52,32,120,61,61,48]]) = some (.tup [.str 54 [118,97,114,32,120,32,48,32,50,32,48,10,112,114,111,99,32,112,32,97,32,98,10,116,114,97,110,115,32,52,32,112,32,97,32,98,32,45,32,120,61,61,48,32,59,32,120,32,61,32,120,43,49,10], .int .i64 0]) := by kernel_rfl
theorem d6 (x : Int) (T : Nat) : val (does x T [.str 9 [103,117,97,114,100,32,52,32,121]]) = some (.tup [.str 0 [], .int .i64 10]) := by kernel_rfl
theorem d7 (x : Int) (T : Nat) : val (does x T [.str 9 [103,117,97,114,100,32,53,32,49]]) = some (.tup [.str 0 [], .int .i64 6]) := by kernel_rfl
end Go.Proofs.YtdofpjabgnfglaaGreatDoor

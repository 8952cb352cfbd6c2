/-
What is done at each of these texts: runs.
-/
import Derived.Test.YtdofpjabgnfglaaGreatDoorBase
set_option maxRecDepth 100000
namespace Go.Proofs.YtdofpjabgnfglaaGreatDoor
open Go Go.Am
theorem d0 (x : Int) (T : Nat) : val (does x T [.str 6 [100,114,111,112,32,52]]) = some (.tup [.str 23 [118,97,114,32,120,32,48,32,50,32,48,10,112,114,111,99,32,112,32,97,32,98,10], .int .i64 0]) := by kernel_rfl
theorem d1 (x : Int) (T : Nat) : val (does x T [.str 15 [97,100,100,32,51,32,112,32,98,32,97,32,45,32,49]]) = some (.tup [.str 71 [118,97,114,32,120,32,48,32,50,32,48,10,112,114,111,99,32,112,32,97,32,98,10,116,114,97,110,115,32,51,32,112,32,98,32,97,32,45,32,49,10,116,114,97,110,115,32,52,32,112,32,97,32,98,32,45,32,120,60,50,32,59,32,120,32,61,32,120,43,49,10], .int .i64 0]) := by kernel_rfl
theorem d2 (x : Int) (T : Nat) : val (does x T [.str 15 [97,100,100,32,52,32,112,32,98,32,97,32,45,32,49]]) = some (.tup [.str 0 [], .int .i64 7]) := by kernel_rfl
theorem d3 (x : Int) (T : Nat) : val (does x T [.str 15 [97,100,100,32,53,32,113,32,98,32,97,32,45,32,49]]) = some (.tup [.str 0 [], .int .i64 10]) := by kernel_rfl
end Go.Proofs.YtdofpjabgnfglaaGreatDoor

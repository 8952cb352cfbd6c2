/-
What is done at each of these texts: runs.
-/
import Derived.Test.YtdofpjabgnfglaaGreatDoorBase
set_option maxRecDepth 100000
namespace Go.Proofs.YtdofpjabgnfglaaGreatDoor
open Go Go.Am
theorem d8 (x : Int) (T : Nat) : val (does x T [.str 9 [101,102,102,101,99,116,115,32,52]]) = some (.tup [.str 43 [118,97,114,32,120,32,48,32,50,32,48,10,112,114,111,99,32,112,32,97,32,98,10,116,114,97,110,115,32,52,32,112,32,97,32,98,32,45,32,120,60,50,10], .int .i64 0]) := by kernel_rfl
theorem d9 (x : Int) (T : Nat) : val (does x T [.str 25 [101,102,102,101,99,116,115,32,52,32,59,32,120,32,61,32,48,32,59,32,120,32,61,32,49]]) = some (.tup [.str 59 [118,97,114,32,120,32,48,32,50,32,48,10,112,114,111,99,32,112,32,97,32,98,10,116,114,97,110,115,32,52,32,112,32,97,32,98,32,45,32,120,60,50,32,59,32,120,32,61,32,48,32,59,32,120,32,61,32,49,10], .int .i64 0]) := by kernel_rfl
theorem d10 (x : Int) (T : Nat) : val (does x T [.str 12 [118,97,114,32,120,32,45,49,32,49,32,48]]) = some (.tup [.str 54 [118,97,114,32,120,32,45,49,32,49,32,48,10,112,114,111,99,32,112,32,97,32,98,10,116,114,97,110,115,32,52,32,112,32,97,32,98,32,45,32,120,60,50,32,59,32,120,32,61,32,120,43,49,10], .int .i64 0]) := by kernel_rfl
theorem d11 (x : Int) (T : Nat) : val (does x T [.str 11 [118,97,114,32,121,32,48,32,49,32,48]]) = some (.tup [.str 0 [], .int .i64 6]) := by kernel_rfl
theorem d12 (x : Int) : val (does x 270 [.str 11 [118,97,114,32,120,32,48,32,49,32,50]]) = some (.tup [.str 0 [], .int .i64 10]) := by kernel_rfl
theorem d13 (x : Int) : val (does x 270 [.str 7 [100,114,111,112,32,32,52]]) = some (.tup [.str 1 [63], .int .i64 2]) := by kernel_rfl
theorem d14 (x : Int) : val (does x 270 [.str 7 [100,114,111,112,32,48,52]]) = some (.tup [.str 1 [63], .int .i64 2]) := by kernel_rfl
theorem d15 (x : Int) : val (does x 270 [.str 0 []]) = some (.tup [.str 1 [63], .int .i64 2]) := by kernel_rfl
end Go.Proofs.YtdofpjabgnfglaaGreatDoor

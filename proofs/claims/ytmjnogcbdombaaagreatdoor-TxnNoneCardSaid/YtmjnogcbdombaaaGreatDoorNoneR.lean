/-
  What 'varvelaw17.TxnNone' does for any two numbers, worked out by the executor and checked by the kernel.
-/
import Derived.Test.YtmjnogcbdombaaaGreatDoorSxV
import Derived.Test.YtmjnogcbdombaaaGreatDoorProg
namespace Go.Proofs.YtmjnogcbdombaaaGreatDoor.txnNone
open Go.Sx
def zs : List Int := [0, 1, 56, 2, 57, 49, 28, 3, 61, 58, 42, 50, 38, 29, 17, 4, 62, 47, 59, 36, 45, 43, 51, 22, 53, 39, 33, 30, 24, 18, 12, 5, 63, 55, 48, 27, 60, 41, 37, 16, 46, 35, 44, 21, 52, 32, 23, 11, 54, 26, 40, 15, 34, 20, 31, 10, 25, 14, 19, 9, 13, 8, 7, 6]

noncomputable def C : Cx := { P := Tryz.prog, fx := [], G := 20 }

set_option maxRecDepth 1000000 in
theorem run (ty : Nat) : isTrue (callN C 100000 11 [.int .i64 (.var 0), .int .i64 (.var 1)] (tabSt ty 100 (zs.map fun z => .int .u8 (.lit z)))) = true := by kernel_rfl


end Go.Proofs.YtmjnogcbdombaaaGreatDoor.txnNone

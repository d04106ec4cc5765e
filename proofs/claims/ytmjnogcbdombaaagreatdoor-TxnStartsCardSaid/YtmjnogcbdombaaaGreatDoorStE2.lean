/-
  'varvelaw17.TxnStarts': each way through it, for some workers, worked out by the executor and checked by the kernel.
-/
import Derived.Test.YtmjnogcbdombaaaGreatDoorStD
namespace Go.Proofs.YtmjnogcbdombaaaGreatDoor.txnStarts
open Go.Sx txnCut
theorem at8 (ty : Nat) : ways.all (goesWell ty 8) = true := by kernel_rfl
theorem at9 (ty : Nat) : ways.all (goesWell ty 9) = true := by kernel_rfl
theorem at10 (ty : Nat) : ways.all (goesWell ty 10) = true := by kernel_rfl
theorem at11 (ty : Nat) : ways.all (goesWell ty 11) = true := by kernel_rfl
end Go.Proofs.YtmjnogcbdombaaaGreatDoor.txnStarts

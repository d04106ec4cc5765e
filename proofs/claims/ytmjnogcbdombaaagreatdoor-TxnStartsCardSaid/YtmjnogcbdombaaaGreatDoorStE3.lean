/-
  'varvelaw17.TxnStarts': each way through it, for some workers, worked out by the executor and checked by the kernel.
-/
import Derived.Test.YtmjnogcbdombaaaGreatDoorStD
namespace Go.Proofs.YtmjnogcbdombaaaGreatDoor.txnStarts
open Go.Sx txnCut
theorem at12 (ty : Nat) : ways.all (goesWell ty 12) = true := by kernel_rfl
theorem at13 (ty : Nat) : ways.all (goesWell ty 13) = true := by kernel_rfl
theorem at14 (ty : Nat) : ways.all (goesWell ty 14) = true := by kernel_rfl
theorem at15 (ty : Nat) : ways.all (goesWell ty 15) = true := by kernel_rfl
end Go.Proofs.YtmjnogcbdombaaaGreatDoor.txnStarts

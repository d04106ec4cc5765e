/-
  'varvelaw17.TxnStarts': each way through it, for some workers, worked out by the executor and checked by the kernel.
-/
import Derived.Test.YtmjnogcbdombaaaGreatDoorStD
namespace Go.Proofs.YtmjnogcbdombaaaGreatDoor.txnStarts
open Go.Sx txnCut
theorem at0 (ty : Nat) : ways.all (goesWell ty 0) = true := by kernel_rfl
theorem at1 (ty : Nat) : ways.all (goesWell ty 1) = true := by kernel_rfl
theorem at2 (ty : Nat) : ways.all (goesWell ty 2) = true := by kernel_rfl
theorem at3 (ty : Nat) : ways.all (goesWell ty 3) = true := by kernel_rfl
end Go.Proofs.YtmjnogcbdombaaaGreatDoor.txnStarts

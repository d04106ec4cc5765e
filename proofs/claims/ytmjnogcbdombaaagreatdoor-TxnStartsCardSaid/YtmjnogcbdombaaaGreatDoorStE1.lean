/-
  'varvelaw17.TxnStarts': each way through it, for some workers, worked out by the executor and checked by the kernel.
-/
import Derived.Test.YtmjnogcbdombaaaGreatDoorStD
namespace Go.Proofs.YtmjnogcbdombaaaGreatDoor.txnStarts
open Go.Sx txnCut
theorem at4 (ty : Nat) : ways.all (goesWell ty 4) = true := by kernel_rfl
theorem at5 (ty : Nat) : ways.all (goesWell ty 5) = true := by kernel_rfl
theorem at6 (ty : Nat) : ways.all (goesWell ty 6) = true := by kernel_rfl
theorem at7 (ty : Nat) : ways.all (goesWell ty 7) = true := by kernel_rfl
end Go.Proofs.YtmjnogcbdombaaaGreatDoor.txnStarts

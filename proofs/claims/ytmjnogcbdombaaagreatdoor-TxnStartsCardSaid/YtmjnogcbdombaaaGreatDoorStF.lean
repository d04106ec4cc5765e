/-
  'varvelaw17.TxnStarts': the two ways in which the worker is none, for any two calls.
-/
import Derived.Test.YtmjnogcbdombaaaGreatDoorStD
namespace Go.Proofs.YtmjnogcbdombaaaGreatDoor.txnStarts
open Go.Sx txnCut
/-- A call of which nothing is known. -/
def anyW : AV := .agg [.any 0, .any 1, .any 2, .any 3, .any 4, .any 5, .any 6]
def fxLow : List Fact := [⟨3, .var 0, .lit 0, true⟩]
def fxHigh : List Fact := [⟨3, .var 0, .lit 0, false⟩, ⟨6, .var 0, .lit 16, true⟩]
theorem low2 (ty : Nat) : isTrue (callN (Cs fxLow) 10000 4 [.int .i64 (.var 0), anyW, anyV] (tabSt ty 30 (tabCells zs))) = true := by kernel_rfl
theorem high2 (ty : Nat) : isTrue (callN (Cs fxHigh) 10000 4 [.int .i64 (.var 0), anyW, anyV] (tabSt ty 30 (tabCells zs))) = true := by kernel_rfl
end Go.Proofs.YtmjnogcbdombaaaGreatDoor.txnStarts

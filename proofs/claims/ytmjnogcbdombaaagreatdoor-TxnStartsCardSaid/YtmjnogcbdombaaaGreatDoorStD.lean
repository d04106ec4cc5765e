/-
  'varvelaw17.TxnStarts': the ways through it, for the executor.
-/
import Derived.Test.YtmjnogcbdombaaaGreatDoorTxnCut
import Derived.Test.YtmjnogcbdombaaaGreatDoorSxY
namespace Go.Proofs.YtmjnogcbdombaaaGreatDoor.txnStarts
open Go.Sx txnCut

noncomputable def Cs (fx : List Fact) : Cx := { P := Tryz.prog, fx := fx, G := 20, cut := fun g args st => match cutTrue 12 zs g args st with
  | some r => some r
  | none => match cutRun 15 [.nilSlice, .nilIface] zs 100 newV newH newN g args st with
    | some r => some r
    | none => cutNil 185 187 g args st }

/-- A call whose kind and mode are told; of the rest nothing is known. -/
def callV (k m : SI) : AV := .agg [.int .i64 k, .int .i64 m, .any 2, .any 3, .any 4, .any 5, .any 6]
/-- A call of which nothing is known. -/
def anyV : AV := .agg [.any 10, .any 11, .any 12, .any 13, .any 14, .any 15, .any 16]

/-- The kind is none of the eleven. -/
def fxK : List Fact := (List.range 11).map fun i => ⟨1, .var 0, .lit (Int.ofNat (i + 1)), false⟩
/-- The mode is neither of the two. -/
def fxM : List Fact := [⟨2, .var 1, .lit 1, true⟩, ⟨2, .var 1, .lit 2, true⟩]

structure Way where
  fx : List Fact
  k : SI
  m : SI

def ways : List Way :=
  [⟨[], .lit 2, .var 1⟩, ⟨[], .lit 3, .var 1⟩, ⟨[], .lit 4, .var 1⟩, ⟨[], .lit 5, .var 1⟩, ⟨[], .lit 6, .var 1⟩, ⟨[], .lit 7, .var 1⟩, ⟨[], .lit 8, .var 1⟩, ⟨[], .lit 9, .var 1⟩, ⟨[], .lit 10, .var 1⟩,
    ⟨[], .lit 11, .var 1⟩, ⟨[], .lit 1, .lit 1⟩, ⟨[], .lit 1, .lit 2⟩, ⟨fxM, .lit 1, .var 1⟩, ⟨fxK, .var 0, .var 1⟩]

noncomputable def goesWell (ty : Nat) (w : Int) (x : Way) : Bool := isTrue (callN (Cs x.fx) 10000 4 [.int .i64 (.lit w), callV x.k x.m, anyV] (tabSt ty 30 (tabCells zs)))

theorem low (ty : Nat) : isTrue (callN (Cs [⟨3, .var 0, .lit 0, true⟩]) 10000 4 [.int .i64 (.var 0), anyV, anyV] (tabSt ty 30 (tabCells zs))) = true := by kernel_rfl
theorem high (ty : Nat) : isTrue (callN (Cs [⟨3, .var 0, .lit 0, false⟩, ⟨6, .var 0, .lit 16, true⟩]) 10000 4 [.int .i64 (.var 0), anyV, anyV] (tabSt ty 30 (tabCells zs))) = true := by kernel_rfl

end Go.Proofs.YtmjnogcbdombaaaGreatDoor.txnStarts

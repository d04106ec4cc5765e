/-
  'varvelaw17.TxnNone' returns true for every input, and leaves its arguments as they were. No conditions but those that the row prints.
-/
import Derived.Test.YtmjnogcbdombaaaGreatDoorNoneR
import Derived.Test.YtmjnogcbdombaaaGreatDoorRows
import Derived.Test.YtmjnogcbdombaaaGreatDoorTie
import Derived.Test.YtmjnogcbdombaaaGreatDoorCards
import Derived.Lib.LaidTab
import Derived.SevenTiedAt
namespace Go.Proofs.YtmjnogcbdombaaaGreatDoor.txnNone
open Go.ChangeShapes Go.WideShapes Go.ChangeAt Go.RowKit Go.Sx
set_option linter.unusedVariables false

theorem own : ownKnob Tryz.prog.godebug = none := by kernel_rfl

theorem walk (a0 a1 : Int) (w : World) (hc : ∀ i, i < zs.length → w.cell? ⟨0, i, none⟩ = some (.int .u8 (zs.getD i 0))) :
    Calls Tryz.prog 11 #[.int .i64 a0, .int .i64 a1] w fun e w' => e = .returned (.bool true) ∧ Below w.heap.size w w' := by
  obtain ⟨ty, hrel⟩ := tab_rel (G := 20) (next := 100) (by decide) (by decide) (int := fun i => if i = 0 then a0 else a1) (zs := zs) (by decide) hc
  have hm : C.P.follows .mixedOrders = true := Checked.mixed Tryz.checked
  have hoks : AV.oks (tabEnv 20 fun i => if i = 0 then a0 else a1) [.int .i64 (.var 0), .int .i64 (.var 1)] := by simp [AV.oks, AV.ok]
  have h := top_true hm (run ty) hrel (tab_envOk (C := C) rfl) hoks (fun b blk h => by rw [(tab_get h).2]; rfl)
  have hv : (AV.vals (tabEnv 20 fun i => if i = 0 then a0 else a1) [.int .i64 (.var 0), .int .i64 (.var 1)]).toArray = #[.int .i64 a0, .int .i64 a1] := by simp [AV.vals, AV.val, SI.val, tabEnv]
  rw [hv] at h
  exact h

end Go.Proofs.YtmjnogcbdombaaaGreatDoor.txnNone

/-
  The closed facts of the row of 'varvelaw17.TxnNone', limb by limb.
-/
import Derived.Test.YtmjnogcbdombaaaGreatDoorRows
import Derived.Test.YtmjnogcbdombaaaGreatDoorProg
import Derived.Test.YtmjnogcbdombaaaGreatDoorSxW
namespace Go.Proofs.YtmjnogcbdombaaaGreatDoor.txnNone
open Go.ChangeShapes Go.WideShapes Go.ChangeAt Go.RowKit
theorem j1 : (Rows.txnNoneRow.wf (OpenSpec.ofChange Rows.txnNoneSpec)) = true := by kernel_rfl
theorem j2 : (laidOutB Tryz.pinned.checked.prog) = true := by kernel_rfl
theorem j3 : (mapsRowed Tryz.pinned.checked.prog) = true := by kernel_rfl
theorem j4 : (Tryz.f11.params.all (Tryz.pinned.checked.prog.readableRec ·)) = true := by kernel_rfl
theorem j5 : (namedTie Tryz.pinned.checked.prog Rows.txnNoneRow.named Rows.txnNoneSpec.vars) = true := by kernel_rfl
theorem j6 : ((Rows.txnNoneRow.stops == [])) = true := by kernel_rfl
theorem j7 : ((Tryz.pinned.checked.prog.stops == [])) = true := by kernel_rfl
theorem j8 : ((Rows.txnNoneRow.knobs == [])) = true := by kernel_rfl
theorem j9 : ((Tryz.pinned.checked.prog.stopKnobs == [])) = true := by kernel_rfl
theorem j10 : ((Rows.txnNoneRow.inPlace == Tryz.pinned.checked.prog.inPlace 11)) = true := by kernel_rfl
theorem j11 : ((Rows.txnNoneRow.unfollowed == Tryz.pinned.checked.prog.unfollowed 11)) = true := by kernel_rfl
theorem j12 : ((Rows.txnNoneRow.recurses == Tryz.pinned.checked.prog.recurses 11)) = true := by kernel_rfl
theorem j13 : ((Rows.txnNoneRow.named == Tryz.pinned.checked.prog.varsNamed 11)) = true := by kernel_rfl
theorem j14 : ((Rows.txnNoneRow.maps == (Tryz.f11.params.toList ++ Rows.txnNoneSpec.plain.varTypes Tryz.pinned.checked.prog).any (Tryz.pinned.checked.prog.mapsRec ·))) = true := by kernel_rfl
theorem j15 : ((Rows.txnNoneRow.ifaces == (Tryz.f11.params.toList ++ Rows.txnNoneSpec.plain.varTypes Tryz.pinned.checked.prog).any (Tryz.pinned.checked.prog.ifacesRec ·))) = true := by kernel_rfl
theorem j16 : ((Rows.txnNoneRow.mapsOut == Tryz.pinned.checked.prog.mapsAmong Tryz.f11.resultTypes.toList)) = true := by kernel_rfl
theorem j17 : ((Rows.txnNoneRow.loops == (Tryz.f11.params.toList ++ Rows.txnNoneSpec.plain.varTypes Tryz.pinned.checked.prog).any (Tryz.pinned.checked.prog.loopsFrom ·))) = true := by kernel_rfl
theorem j18 : ((Rows.txnNoneRow.wideKeys == (Tryz.f11.params.toList ++ Rows.txnNoneSpec.plain.varTypes Tryz.pinned.checked.prog ++ Tryz.f11.resultTypes.toList).any (Tryz.pinned.checked.prog.wideKeysFrom ·))) = true := by kernel_rfl
theorem j19 : (Rows.txnNoneSpec.vars.all (Tryz.pinned.checked.prog.varReadable ·)) = true := by kernel_rfl
theorem j20 : (Tryz.f11.resultTypes.all (fun t => Tryz.pinned.checked.prog.readableRec t && decide (t < Tryz.pinned.checked.prog.types.size))) = true := by kernel_rfl
theorem j21 : ((Rows.txnNoneRow.ifacesOut == Tryz.f11.resultTypes.toList.any (Tryz.pinned.checked.prog.ifacesRec ·))) = true := by kernel_rfl
theorem j22 : ((Rows.txnNoneRow.loopsOut == Tryz.f11.resultTypes.toList.any (Tryz.pinned.checked.prog.loopsFrom ·))) = true := by kernel_rfl
theorem j23 : ((Rows.txnNoneRow.plainKeys == Tryz.pinned.checked.prog.plainKeys)) = true := by kernel_rfl
theorem j24 : (Rows.txnNoneRow.shortTexts.isNone) = true := by kernel_rfl
theorem j25 : (Tryz.pinned.checked.prog.stopsHeard) = true := by kernel_rfl
theorem j26 : (Tryz.pinned.checked.prog.mayEnter) = true := by kernel_rfl
theorem j27 : ((Rows.txnNoneRow.lifted == Tryz.pinned.checked.prog.liftsFinal)) = true := by kernel_rfl
theorem j28 : ((Tryz.pinned.checked.prog.make == some Rows.txnNoneRow.make)) = true := by kernel_rfl
theorem j30 : ((Rows.txnNoneRow.pinned == Rows.txnNoneRow.pinnedBy)) = true := by kernel_rfl
theorem j31 : ((Rows.txnNoneRow.veiled == (Tryz.f11.params.toList ++ Rows.txnNoneSpec.plain.varTypes Tryz.pinned.checked.prog ++ Tryz.f11.resultTypes.toList).any (Tryz.pinned.checked.prog.veiledRec ·))) = true := by kernel_rfl
theorem j32 : (Rows.txnNoneRow.veiledFits Tryz.pinned.checked.prog Tryz.f11.params.toList (Tryz.f11.params.toList ++ Rows.txnNoneSpec.plain.varTypes Tryz.pinned.checked.prog ++ Tryz.f11.resultTypes.toList)) = true := by kernel_rfl
theorem closed : joinedFacts Tryz.pinned.checked.prog 11 Tryz.f11 Rows.txnNoneSpec Rows.txnNoneRow = true :=
  Go.Sx.joined_of j1 j2 j3 j4 j5 j6 j7 j8 j9 j10 j11 j12 j13 j14 j15 j16 j17 j18 j19 j20 j21 j22 j23 j24 j25 j26 j27 j28 rfl rfl j30 j31 j32
end Go.Proofs.YtmjnogcbdombaaaGreatDoor.txnNone

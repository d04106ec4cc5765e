/-
  The shelf's contracts on slices.Collect and maps.Keys at ints, laid over this program.
-/
import Derived.Test.YtmjnogcbdombaaaGreatDoorChecked
import Derived.Shelf.SlIterI.Collect
namespace Go.Proofs.YtmjnogcbdombaaaGreatDoor.seqLay
open Go.RowKit Go.Maps Go.Sort Go.Shelf

def ren : Ren := ⟨fun
  | 8 => 185
  | 11 => 240
  | 10 => 187
  | x => x, fun
  | 23 => 99
  | 26 => 3
  | 3 => 9
  | 24 => 22
  | 28 => 228
  | 33 => 43
  | x => x, fun x => x⟩

theorem lay8 : SlLaysZI.n8 Tryz.prog ren where
  mixed := Checked.mixed Tryz.checked
  f8 := ⟨"slices.Collect[int]", by decide, by kernel_rfl⟩
  f11 := ⟨"slices.AppendSeq[[]int,int]", by decide, by kernel_rfl⟩
  t0 := by kernel_rfl
  a0 := fun _ => by kernel_rfl
  z0 := fun _ => by kernel_rfl
  v0 := fun _ => by kernel_rfl
  t24 := by kernel_rfl
  a24 := fun _ => by kernel_rfl
  z24 := fun _ => by kernel_rfl
  v24 := fun _ => by kernel_rfl
  t26 := by kernel_rfl
  a26 := fun _ => by kernel_rfl
  z26 := fun _ => by kernel_rfl
  v26 := fun _ => by kernel_rfl
  t28 := by kernel_rfl
  a28 := fun _ => by kernel_rfl
  z28 := fun _ => by kernel_rfl
  v28 := fun _ => by kernel_rfl
  i26 := by kernel_rfl

theorem lay10 : SlLaysZI.n10 Tryz.prog ren where
  mixed := Checked.mixed Tryz.checked
  f10 := ⟨"maps.Keys[map[int]string,int,string]$1", by decide, by kernel_rfl⟩
  t0 := by kernel_rfl
  a0 := fun _ => by kernel_rfl
  z0 := fun _ => by kernel_rfl
  v0 := fun _ => by kernel_rfl
  t4 := by kernel_rfl
  a4 := fun _ => by kernel_rfl
  z4 := fun _ => by kernel_rfl
  v4 := fun _ => by kernel_rfl
  t23 := by kernel_rfl
  a23 := fun _ => by kernel_rfl
  z23 := fun _ => by kernel_rfl
  v23 := fun _ => by kernel_rfl
  t26 := by kernel_rfl
  a26 := fun _ => by kernel_rfl
  z26 := fun _ => by kernel_rfl
  v26 := fun _ => by kernel_rfl
  t33 := by kernel_rfl
  a33 := fun _ => by kernel_rfl
  z33 := fun _ => by kernel_rfl
  v33 := fun _ => by kernel_rfl

theorem lay11 : SlLaysZI.n11 Tryz.prog ren where
  mixed := Checked.mixed Tryz.checked
  f11 := ⟨"slices.AppendSeq[[]int,int]", by decide, by kernel_rfl⟩
  t0 := by kernel_rfl
  a0 := fun _ => by kernel_rfl
  z0 := fun _ => by kernel_rfl
  v0 := fun _ => by kernel_rfl
  t24 := by kernel_rfl
  a24 := fun _ => by kernel_rfl
  z24 := fun _ => by kernel_rfl
  v24 := fun _ => by kernel_rfl
  t26 := by kernel_rfl
  a26 := fun _ => by kernel_rfl
  z26 := fun _ => by kernel_rfl
  v26 := fun _ => by kernel_rfl
  t28 := by kernel_rfl
  a28 := fun _ => by kernel_rfl
  z28 := fun _ => by kernel_rfl
  v28 := fun _ => by kernel_rfl
  i26 := by kernel_rfl

end Go.Proofs.YtmjnogcbdombaaaGreatDoor.seqLay

/-
  slices.Collect of the keys of a map that holds nothing: the nil slice; nothing that was there is turned.
-/
import Derived.Test.YtmjnogcbdombaaaGreatDoorSeqLay
import Derived.Test.YtmjnogcbdombaaaGreatDoorProg
namespace Go.Proofs.YtmjnogcbdombaaaGreatDoor.seqLay
open Go.RowKit Go.Maps Go.Sort Go.Shelf

theorem collect_empty (w : World) {Bm b clock : Nat} (hBm : Bm < w.heap.size) (hm : w.cell? ⟨Bm, 0, none⟩ = some (.map (some b))) (hb : w.heap[b]? = some (.map #[] clock)) :
    Calls Tryz.prog 185 #[.func (.func 187) #[] #[.pointer (some ⟨Bm, 0, none⟩)]] w fun e w' => e = .returned (.slice none 0 0) ∧ Below w.heap.size w w' := by
  have hown : w.ownsMap (H := Unit) Tryz.prog (ren.t 26) (fun _ => none) b 0 (.map []) := ⟨#[], clock, hb, by
    refine ⟨by simp, ?_, fun x hx => by simp at hx⟩
    refine ⟨?_, ?_⟩ <;> simp, by simp, rfl⟩
  have hg := AnyZI.keys_gives lay10 Fence.wide (5 - 1 - 1) trivial rfl (by decide) Bm b 0 (.map []) w hBm hm hown
  refine callsIn_wide.1 ((AnyZI.collect_in lay8 Fence.wide 5 trivial trivial rfl (by decide) (ren.f 10) _ trivial (lay10.f10.enters rfl) _ _ (by decide) (by decide) w hg).mono ?_)
  rintro e w' ⟨v, ss, rfl, hS, _, hv, hB⟩
  have : ss = [] := by simpa [intKeys] using hS
  rw [hv.2 this]
  exact ⟨rfl, hB⟩

end Go.Proofs.YtmjnogcbdombaaaGreatDoor.seqLay

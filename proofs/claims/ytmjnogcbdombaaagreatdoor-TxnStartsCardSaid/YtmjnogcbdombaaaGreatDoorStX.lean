/-
  'varvelaw17.TxnStarts' returns true for every input, and leaves its arguments as they were: the law's row and its tied card. No conditions but those that the row prints.
-/
import Derived.Test.YtmjnogcbdombaaaGreatDoorStQ
import Derived.Test.YtmjnogcbdombaaaGreatDoorStJ
namespace Go.Proofs.YtmjnogcbdombaaaGreatDoor.txnStarts
open Go.ChangeShapes Go.WideShapes Go.ChangeAt Go.RowKit

theorem over : Rows.txnStartsRow.holds Tryz.pinned (OpenSpec.ofChange Rows.txnStartsSpec) :=
  OpenClaim.holds_of_wide 4 Tryz.f4 rfl rfl rfl rfl rfl rfl rfl ⟨rfl, rfl, rfl, rfl, rfl⟩ rfl rfl rfl rfl rfl (by kernel_rfl) Tryz.func4 closed
    (of_decide_eq_true (by kernel_rfl)) (by unfold Func.isWrapper; rw [if_neg (of_decide_eq_false (by kernel_rfl))]; exact ⟨rfl, rfl⟩)
    (fun os started H enc _ => lifted os started H enc)

theorem proved : Rows.TxnStartsSaid := over

theorem known : Tryz.prog.funcNamed "varve/varvelaw17.TxnStarts" = some 4 := by kernel_rfl

theorem fitting : Rows.txnStartsRow.wfByText (OpenSpec.ofChange Rows.txnStartsSpec) = true := by kernel_rfl
theorem harness : Tryz.pinned.checked.prog.mainIs = some (true, "4b8b69288c38d7cbc9daa357af52441f25ea58ea8dd67cf2b11437998527c895".toList) := by kernel_rfl
theorem going : false = Rows.txnStartsRow.goesBy Tryz.pinned.checked.prog := by kernel_rfl
theorem looking : true = Tryz.pinned.checked.prog.looks [] := by kernel_rfl
theorem want3 : Tryz.pinned.checked.prog.wantsStandIn 3 = false := by kernel_rfl
theorem want30 : Tryz.pinned.checked.prog.wantsStandIn 30 = false := by kernel_rfl
theorem plainly (f : FuncId) (fn : Func) (hf : Tryz.pinned.checked.prog.funcNamed Rows.txnStartsRow.func = some f) (hfn : Tryz.pinned.checked.prog.funcs[f]? = some fn) :
    true = Tryz.pinned.checked.prog.looks [] ∧ ∀ (j : Nat) t, fn.params[j]? = some t → Tryz.pinned.checked.prog.wantsStandIn t = false := by
  obtain rfl : f = 4 := Option.some.inj (known.symm.trans hf) |>.symm
  obtain rfl : fn = Tryz.f4 := (Option.some.inj (Tryz.func4.symm.trans hfn)).symm
  refine ⟨looking, fun j t ht => ?_⟩
  rw [Tryz.params4] at ht
  have h3 : t = 3 ∨ t = 30 := by
    rcases j with _ | _ | _ | j
    · left; simpa using ht.symm
    · right; simpa using ht.symm
    · right; simpa using ht.symm
    · simp at ht
  rcases h3 with rfl | rfl
  · exact want3
  · exact want30

/-- The tied card. -/
theorem card_holds : Rows.TxnStartsCardSaid :=
  Claim7.holds_tied_plain_at .later [] [.data] true (true, "4b8b69288c38d7cbc9daa357af52441f25ea58ea8dd67cf2b11437998527c895") true
    proved (fun _ h => by cases h) fitting (fun _ h => by cases h) txnStarts_row_tie rfl ⟨rfl, rfl⟩ harness rfl plainly going
#print axioms card_holds
end Go.Proofs.YtmjnogcbdombaaaGreatDoor.txnStarts

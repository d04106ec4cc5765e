/-
  'varvelaw17.TxnStarts' returns true for every input, and leaves its arguments as they were: the walk. No conditions but those that the row prints.
-/
import Derived.Test.YtmjnogcbdombaaaGreatDoorStE0
import Derived.Test.YtmjnogcbdombaaaGreatDoorStE1
import Derived.Test.YtmjnogcbdombaaaGreatDoorStE2
import Derived.Test.YtmjnogcbdombaaaGreatDoorStE3
import Derived.Test.YtmjnogcbdombaaaGreatDoorSeqNil
namespace Go.Proofs.YtmjnogcbdombaaaGreatDoor.txnStarts
open Go.ChangeShapes Go.WideShapes Go.ChangeAt Go.RowKit Go.Sx txnCut
set_option linter.unusedVariables false

theorem mixed : Tryz.prog.follows .mixedOrders = true := Checked.mixed Tryz.checked

theorem cut0 : CutOk C0 := cutOk_none fun _ _ _ => rfl

theorem shown_ok (w : World) (hc : ∀ i, i < zs.length → w.cell? ⟨0, i, none⟩ = some (.int .u8 (zs.getD i 0))) :
    Calls Tryz.prog 12 #[] w fun en w' => en = .returned (.bool true) ∧ Below w.heap.size w w' := by
  obtain ⟨ty, hrel⟩ := tab_rel (G := 20) (next := 100) (by decide) (by decide) (int := fun _ => 0) (zs := zs) (by decide) hc
  have hm : C0.P.follows .mixedOrders = true := mixed
  have hoks : AV.oks (tabEnv 20 fun _ => 0) [] := trivial
  have h := top_true hm cut0 (shown_run ty) hrel (tab_envOk (C := C0) rfl) hoks (fun b blk h => by rw [(tab_get h).2]; rfl)
  have hv : (AV.vals (tabEnv 20 fun _ => 0) []).toArray = #[] := rfl
  rw [hv] at h
  exact h

theorem cut_ok (fx : List Fact) : CutOk (Cs fx) := by
  intro g args st v st' h e w hw he ha
  simp only at h
  have hP : (Cs fx).P = Tryz.prog := rfl
  cases h1 : cutTrue 12 zs g args st with
  | some r =>
    have h2 : (Cs fx).cut g args st = some r := by simp only [Cs, h1]
    rw [h2] at h
    cases h
    exact cutTrue_ok (C := Cs fx) (show 0 < 20 by decide) (by rw [hP]; exact shown_ok) h1 hw he
  | none =>
    cases h3 : cutRun 15 [.nilSlice, .nilIface] zs 100 newV newH newN g args st with
    | some r =>
      have h2 : (Cs fx).cut g args st = some r := by simp only [Cs, h1, h3]
      rw [h2] at h
      cases h
      exact cutRun_ok (C := Cs fx) (C0 := C0) rfl rfl rfl (show 0 < 20 by decide) mixed cut0 (by decide) new_run (fun e => by simp [AV.oks, AV.ok]) new_all h3 hw he
    | none =>
      cases h4 : cutNil 185 187 g args st with
      | some r =>
        have h2 : (Cs fx).cut g args st = some r := by simp only [Cs, h1, h3, h4]
        rw [h2] at h
        cases h
        exact cutNil_ok (C := Cs fx) (by rw [hP]; intro w Bm b clock q1 q2 q3; exact seqLay.collect_empty w q1 q2 q3) h4 hw ha
      | none =>
        have h2 : (Cs fx).cut g args st = none := by simp only [Cs, h1, h3, h4]
        rw [h2] at h
        cases h

/-- What is known of the variables. -/
def env (int : Nat → Int) (val : Nat → Value) : Env := { blk := fun b => if b < 20 then some b else none, cap := fun _ => none, int := int, val := val }

theorem way_ok {fx : List Fact} {args : List AV} (hrun : ∀ ty, isTrue (callN (Cs fx) 10000 4 args (tabSt ty 30 (tabCells zs))) = true) (int : Nat → Int) (val : Nat → Value)
    (hfx : ∀ f ∈ fx, f.holds (env int val)) (hargs : AV.oks (env int val) args) {w : World} (hc : ∀ i, i < zs.length → w.cell? ⟨0, i, none⟩ = some (.int .u8 (zs.getD i 0))) :
    Calls Tryz.prog 4 (AV.vals (env int val) args).toArray w fun e w' => e = .returned (.bool true) ∧ Below w.heap.size w w' := by
  have hf : ∀ b, 30 ≤ b → (env int val).blk b = none ∧ (env int val).cap b = none := fun b hb => by
    have : ¬ b < 20 := by omega
    simp [env, this]
  obtain ⟨ty, hrel⟩ := tab_rel' (e := env int val) (N := 30) rfl hf (fun _ _ => rfl) (zs := zs) (by decide) hc
  have hm : (Cs fx).P.follows .mixedOrders = true := mixed
  have he : EnvOk (Cs fx) (env int val) := ⟨hfx, fun g hg => by
    have : g < 20 := hg
    simp [env, this]⟩
  exact top_true hm (cut_ok fx) (hrun ty) hrel he hargs (fun b blk h => by rw [(tab_get h).2]; rfl)

/-- A call's seven cells. -/
def vcells (cs : List Value) : Prop := ∃ k m v2 v3 v4 v5 v6, cs = [.int .i64 k, .int .i64 m, v2, v3, v4, v5, v6] ∧ v2.oneCell' = true ∧ v3.oneCell' = true ∧ v4.oneCell' = true ∧ v5.oneCell' = true ∧ v6.oneCell' = true

def valOf (cs ds : List Value) (i : Nat) : Value := if i < 10 then cs.getD i (.bool false) else ds.getD (i - 10) (.bool false)
def intOf (k m : Int) (i : Nat) : Int := if i = 0 then k else m

theorem inside {w0 : Int} (hall : ∀ ty, ways.all (goesWell ty w0) = true) {cs ds : List Value} (hcs : vcells cs) (hds : vcells ds) {w : World} (hc : ∀ i, i < zs.length → w.cell? ⟨0, i, none⟩ = some (.int .u8 (zs.getD i 0))) :
    Calls Tryz.prog 4 #[.int .i64 w0, .agg cs.toArray, .agg ds.toArray] w fun e w' => e = .returned (.bool true) ∧ Below w.heap.size w w' := by
  obtain ⟨k, m, v2, v3, v4, v5, v6, rfl, c2, c3, c4, c5, c6⟩ := hcs
  obtain ⟨k', m', u2, u3, u4, u5, u6, rfl, d2, d3, d4, d5, d6⟩ := hds
  generalize hval : valOf [.int .i64 k, .int .i64 m, v2, v3, v4, v5, v6] [.int .i64 k', .int .i64 m', u2, u3, u4, u5, u6] = val
  have key : ∀ x ∈ ways, x.k.val (env (intOf k m) val) = k → x.m.val (env (intOf k m) val) = m → (∀ f ∈ x.fx, f.holds (env (intOf k m) val)) →
      Calls Tryz.prog 4 #[.int .i64 w0, .agg #[.int .i64 k, .int .i64 m, v2, v3, v4, v5, v6], .agg #[.int .i64 k', .int .i64 m', u2, u3, u4, u5, u6]] w fun e w' => e = .returned (.bool true) ∧ Below w.heap.size w w' := by
    intro x hx hk hm hfx
    have hrun : ∀ ty, isTrue (callN (Cs x.fx) 10000 4 [.int .i64 (.lit w0), callV x.k x.m, anyV] (tabSt ty 30 (tabCells zs))) = true := fun ty => List.all_eq_true.1 (hall ty) x hx
    have hoks : AV.oks (env (intOf k m) val) [.int .i64 (.lit w0), callV x.k x.m, anyV] := by
      subst hval
      have hi : ∀ z, (Value.int .i64 z).oneCell' = true := fun _ => rfl
      simp [AV.oks, AV.ok, callV, anyV, env, valOf, c2, c3, c4, c5, c6, d2, d3, d4, d5, d6, hi]
    have h := way_ok hrun (intOf k m) val hfx hoks hc
    have hv : (AV.vals (env (intOf k m) val) [.int .i64 (.lit w0), callV x.k x.m, anyV]).toArray = #[.int .i64 w0, .agg #[.int .i64 k, .int .i64 m, v2, v3, v4, v5, v6], .agg #[.int .i64 k', .int .i64 m', u2, u3, u4, u5, u6]] := by
      simp only [AV.vals, AV.val, callV, anyV, hk, hm]
      subst hval
      simp [SI.val, env, valOf]
    rw [hv] at h
    exact h
  by_cases hk : 1 ≤ k ∧ k ≤ 11
  · by_cases h1 : k = 1
    · by_cases hm1 : m = 1
      · exact key ⟨[], .lit 1, .lit 1⟩ (by simp [ways]) h1.symm hm1.symm (fun f hf => by cases hf)
      by_cases hm2 : m = 2
      · exact key ⟨[], .lit 1, .lit 2⟩ (by simp [ways]) h1.symm hm2.symm (fun f hf => by cases hf)
      · exact key ⟨fxM, .lit 1, .var 1⟩ (by simp [ways]) h1.symm rfl (fun f hf => by
          simp only [fxM, List.mem_cons, List.not_mem_nil, or_false] at hf
          rcases hf with rfl | rfl <;> simp [Fact.holds, cmpOf, SI.val, env, intOf, hm1, hm2])
    · have : k = 2 ∨ k = 3 ∨ k = 4 ∨ k = 5 ∨ k = 6 ∨ k = 7 ∨ k = 8 ∨ k = 9 ∨ k = 10 ∨ k = 11 := by omega
      rcases this with h | h | h | h | h | h | h | h | h | h
      all_goals first
        | exact key ⟨[], .lit 2, .var 1⟩ (by simp [ways]) h.symm rfl (fun f hf => by cases hf)
        | exact key ⟨[], .lit 3, .var 1⟩ (by simp [ways]) h.symm rfl (fun f hf => by cases hf)
        | exact key ⟨[], .lit 4, .var 1⟩ (by simp [ways]) h.symm rfl (fun f hf => by cases hf)
        | exact key ⟨[], .lit 5, .var 1⟩ (by simp [ways]) h.symm rfl (fun f hf => by cases hf)
        | exact key ⟨[], .lit 6, .var 1⟩ (by simp [ways]) h.symm rfl (fun f hf => by cases hf)
        | exact key ⟨[], .lit 7, .var 1⟩ (by simp [ways]) h.symm rfl (fun f hf => by cases hf)
        | exact key ⟨[], .lit 8, .var 1⟩ (by simp [ways]) h.symm rfl (fun f hf => by cases hf)
        | exact key ⟨[], .lit 9, .var 1⟩ (by simp [ways]) h.symm rfl (fun f hf => by cases hf)
        | exact key ⟨[], .lit 10, .var 1⟩ (by simp [ways]) h.symm rfl (fun f hf => by cases hf)
        | exact key ⟨[], .lit 11, .var 1⟩ (by simp [ways]) h.symm rfl (fun f hf => by cases hf)
  · exact key ⟨fxK, .var 0, .var 1⟩ (by simp [ways]) rfl rfl (fun f hf => by
      simp only [fxK, List.mem_map, List.mem_range] at hf
      obtain ⟨i, hi, rfl⟩ := hf
      simp only [Fact.holds, cmpOf, SI.val, env, intOf, if_true]
      rw [beq_eq_false_iff_ne]
      intro q
      apply hk
      rw [q]
      simp only [Int.ofNat_eq_natCast]
      omega)

end Go.Proofs.YtmjnogcbdombaaaGreatDoor.txnStarts

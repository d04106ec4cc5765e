/- From a run of the executor to what a statement asks. -/
import Derived.Test.YtmjnogcbdombaaaGreatDoorSxU
import Derived.WalkKit
import Derived.ProofKit
import Derived.OpenShut
import Derived.Below
set_option linter.all false
namespace Go.Sx
set_option linter.unusedSimpArgs false
open Go.RowKit

theorem Goes.below {e e' : Env} {st st' : St} {w w' : World} (h : Goes e st w e' st' w') (hro : ∀ b blk, st.heap.get b = some blk → blk.wr = false) : Below w.heap.size w w' :=
  ⟨h.os, h.tape, h.output, h.size, fun k hk => h.keep k hk fun b blk hb hw => by rw [hro b blk hb] at hw; cases hw⟩

/-- Did a run end with true? -/
def isTrue (r : Rs (AV × St)) : Bool :=
  match r with
  | .ok (.bool true, _) => true
  | _ => false

theorem isTrue_ok {r : Rs (AV × St)} (h : isTrue r = true) : ∃ st, r = .ok (.bool true, st) := by
  unfold isTrue at h
  split at h
  · rename_i st; exact ⟨st, rfl⟩
  · cases h

theorem top_true {C : Cx} (hm : C.P.follows .mixedOrders = true) (hcut : CutOk C) {k : Nat} {g : FuncId} {args : List AV} {st : St} (h : isTrue (callN C k g args st) = true) {e : Env} {w : World}
    (hw : Rel e st w) (he : EnvOk C e) (ha : AV.oks e args) (hro : ∀ b blk, st.heap.get b = some blk → blk.wr = false) :
    Calls C.P g (AV.vals e args).toArray w fun en w' => en = .returned (.bool true) ∧ Below w.heap.size w w' := by
  obtain ⟨st', hst⟩ := isTrue_ok h
  refine (callN_ok hm hcut k g args st _ st' hst e w hw he ha).mono ?_
  rintro en w' ⟨e', _, h2, _, rfl⟩
  exact ⟨rfl, h2.below hro⟩

/-- A state with one table that is only read. -/
def tabSt (ty next : Nat) (cells : List AV) : St := { heap := Tr.set 40 .e 0 (some (.cells ty true 0 0 (setL .e 0 cells))), next := next }

def tabEnv (G : Nat) (int : Nat → Int) : Env := { blk := fun b => if b < G then some b else none, cap := fun _ => none, int := int, val := fun _ => .bool false }

theorem tab_get {ty next : Nat} {cells : List AV} {b : Nat} {blk : Blk} (h : (tabSt ty next cells).heap.get b = some blk) : b = 0 ∧ blk = .cells ty true 0 0 (setL .e 0 cells) := by
  rcases Tr.get_set _ _ _ _ _ _ h with ⟨a, q⟩ | ⟨_, q⟩
  · cases q; exact ⟨a, rfl⟩
  · simp [Tr.get] at q

theorem tab_rel {G next : Nat} (hG : G ≤ next) (hG0 : 0 < G) {int : Nat → Int} {w : World} {zs : List Int} (hz : 0 < zs.length)
    (hc : ∀ i, i < zs.length → w.cell? ⟨0, i, none⟩ = some (.int .u8 (zs.getD i 0))) :
    ∃ ty, Rel (tabEnv G int) (tabSt ty next (zs.map fun z => .int .u8 (.lit z))) w := by
  have h0 := hc 0 hz
  unfold World.cell? at h0
  split at h0
  · rename_i arr ty fr hb
    refine ⟨ty, ⟨?_, ?_, ?_, fun _ _ => rfl⟩⟩
    · intro b blk n hg hn
      obtain ⟨rfl, rfl⟩ := tab_get hg
      simp [tabEnv, hG0] at hn
      subst hn
      refine ⟨arr, fr, hb, setL_known (fun v hv => ?_) (fun i v hv => ?_), fun q => by simp at q, fun q => by omega⟩
      · obtain ⟨z, _, rfl⟩ := List.mem_map.1 hv
        exact ⟨by simp [AV.ok], rfl⟩
      · simp only [List.getElem?_map, Option.map_eq_some_iff] at hv
        obtain ⟨z, hz, rfl⟩ := hv
        have hi := (List.getElem?_eq_some_iff.1 hz).1
        have := hc i hi
        simp only [World.cell?, hb] at this
        simp [List.getD, hz] at this
        simp [AV.val, SI.val, this]
    · intro b b' blk blk' n h1 h2 _ _
      rw [(tab_get h1).1, (tab_get h2).1]
    · intro b hb'
      have : ¬ b < G := by have : next ≤ b := hb'; omega
      simp [tabEnv, this]
  · cases h0

theorem tab_envOk {C : Cx} (hfx : C.fx = []) {int : Nat → Int} : EnvOk C (tabEnv C.G int) :=
  ⟨fun f hf => (by rw [hfx] at hf; cases hf), fun g hg => by simp [tabEnv, hg]⟩

end Go.Sx

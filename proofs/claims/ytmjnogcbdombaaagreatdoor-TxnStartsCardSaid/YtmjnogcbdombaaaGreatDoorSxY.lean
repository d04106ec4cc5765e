/- A call over a closure that holds an empty map: it hands back nil, and turns nothing that was there. -/
import Derived.Test.YtmjnogcbdombaaaGreatDoorSxX
set_option linter.all false
namespace Go.Sx
set_option linter.unusedSimpArgs false
open Go.RowKit

def cutNil (g0 gk : Nat) (g : FuncId) (args : List AV) (st : St) : Option (AV × St) :=
  match args with
  | [.fn (.func k) [] [.ptr c 0]] => bif Nat.beq g g0 && Nat.beq k gk then
      match st.cellAt c 0 with
      | some (.map b) => match st.heap.get b with
        | some (.map [] _) => some (.nilSlice, st)
        | _ => none
      | _ => none
    else none
  | _ => none

theorem cutNil_ok {C : Cx} {g0 gk : Nat}
    (hrun : ∀ (w : World) (Bm b clock : Nat), Bm < w.heap.size → w.cell? ⟨Bm, 0, none⟩ = some (.map (some b)) → w.heap[b]? = some (.map #[] clock) →
      Calls C.P g0 #[.func (.func gk) #[] #[.pointer (some ⟨Bm, 0, none⟩)]] w fun en w' => en = .returned (.slice none 0 0) ∧ Below w.heap.size w w')
    {g : FuncId} {args : List AV} {st st' : St} {v : AV} (h : cutNil g0 gk g args st = some (v, st')) {e : Env} {w : World} (hw : Rel e st w) (ha : AV.oks e args) :
    Calls C.P g (AV.vals e args).toArray w fun en w' => ∃ e', Rel e' st' w' ∧ Goes e st w e' st' w' ∧ v.ok e' ∧ en = .returned (v.val e') := by
  unfold cutNil at h
  split at h <;> first | (cases h; done) | skip
  rename_i k c
  cases hc : Nat.beq g g0 && Nat.beq k gk
  · rw [hc] at h; cases h
  rw [hc] at h
  simp only [cond_true] at h
  simp only [Bool.and_eq_true] at hc
  obtain rfl := Nat.eq_of_beq_eq_true hc.1
  obtain rfl := Nat.eq_of_beq_eq_true hc.2
  split at h <;> first | (cases h; done) | skip
  rename_i b hcell
  split at h <;> first | (cases h; done) | skip
  rename_i clock hmap
  cases h
  simp only [AV.oks, AV.ok] at ha
  obtain ⟨n, hn⟩ := Option.isSome_iff_exists.1 ha.1.2.1
  obtain ⟨c1, c2, _⟩ := hw.cellAt hn hcell
  simp only [AV.ok] at c2
  obtain ⟨m, hm⟩ := Option.isSome_iff_exists.1 c2
  obtain ⟨m1, _⟩ := hw.hb b _ m hmap hm
  have hlt : n < w.heap.size := by
    unfold St.cellAt at hcell
    split at hcell
    · rename_i hg; exact (hw.hb c _ n hg hn).lt
    · cases hcell
  have hr := hrun w n m clock hlt (by simpa [AV.val, hm] using c1) (by simpa using m1)
  have hv : (AV.vals e [.fn (.func k) [] [.ptr c 0]]).toArray = #[.func (.func k) #[] #[.pointer (some ⟨n, 0, none⟩)]] := by simp [AV.vals, AV.val, hn]
  rw [hv]
  refine hr.mono ?_
  rintro en w' ⟨rfl, hb⟩
  obtain ⟨k1, k2⟩ := hw.below hb
  exact ⟨e, k1, k2, trivial, rfl⟩

end Go.Sx

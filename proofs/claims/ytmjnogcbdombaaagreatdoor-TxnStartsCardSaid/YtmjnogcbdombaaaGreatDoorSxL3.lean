/- Going over a map whose order is forced. -/
import Derived.Test.YtmjnogcbdombaaaGreatDoorSxL2
import Derived.Laws.NewFold
set_option linter.all false
namespace Go.Sx
set_option linter.unusedSimpArgs false

def opRange (P : Program) (ev : Operand → Option AV) (st : St) (t : TypeId) (x : Operand) : Option (AV × St) :=
  match P.underlying t, ev x with
  | some .string, some (.str s) => some (.ptr st.next 0, st.new (.strIter s 0))
  | some (.map _ _), some .nilMap => some (.ptr st.next 0, st.new (.mapIter none 0 [] 0))
  | some (.map _ _), some (.map b) => match st.heap.get b with
    | some (.map _ clock) => some (.ptr st.next 0, st.new (.mapIter (some b) clock [] clock))
    | _ => none
  | _, _ => none

def opNext (st : St) (it : AV) (isString : Bool) : Option (AV × St) :=
  match it, isString with
  | .ptr b 0, false => match st.heap.get b with
    | some (.mapIter none _ _ _) => some (.tup [.bool false], st)
    | some (.mapIter (some m) since seen last) => match st.heap.get m with
      | some (.map es clock) => bif !seen.isEmpty && !es.isEmpty && es.all (fun x => decide (x.2.2 ≥ last)) then none else
        match es.filter fun x => !seen.contains x.2.2 with
        | [] => some (.tup [.bool false], st)
        | [x] => bif decide (x.2.2 < since) then some (.tup [.bool true, x.1, x.2.1], st.put b (.mapIter (some m) since (seen ++ [x.2.2]) clock)) else none
        | _ => none
      | _ => none
    | _ => none
  | _, _ => none

/-- A block of any kind is born at the state's next place. -/
theorem Rel.newObj {P : Program} {e : Env} {st : St} {w : World} (hw : Rel e st w) {blk : Blk} {o : Obj}
    (hB : HB (e.bear st.next w.heap.size none) st.next blk (w.alloc o) w.heap.size) :
    ∃ e' w', (do pure (Value.pointer (some ⟨← Go.newObj o, 0, none⟩)) : Sem Value).run P w = .ok ((AV.ptr st.next 0).val e') w' ∧ Rel e' (st.new blk) w' ∧ Goes e st w e' (st.new blk) w' ∧ (AV.ptr st.next 0).ok e' := by
  obtain ⟨f1, f2⟩ := hw.fresh st.next (Nat.le_refl _)
  have := hw.born (st' := st.new blk) (blk := blk) (c := none) (More.alloc w o) f1 f2 (fun i u hu => by
    rcases Tr.get_set _ _ _ _ _ _ hu with ⟨a, q⟩ | q
    · cases q; exact .inl ⟨a, rfl⟩
    · exact .inr q) (Nat.lt_succ_self _) (Nat.le_succ _) hB
  refine ⟨_, _, ?_, this.1, this.2 (Nat.le_refl _), ?_⟩
  · simp [AV.val, Env.bear]
  · simp [AV.ok, Env.bear]

theorem opRange_ok {P : Program} {ev : Operand → Option AV} {st st' : St} {t : TypeId} {x : Operand} {v : AV} (h : opRange P ev st t x = some (v, st'))
    {e : Env} {w : World} (hw : Rel e st w) {ρ : Operand → Value} (hev : ∀ x v, ev x = some v → v.ok e ∧ ρ x = v.val e) :
    ∃ e' w', (Instr.range t (ρ x)).run P w = .ok (v.val e') w' ∧ Rel e' st' w' ∧ Goes e st w e' st' w' ∧ v.ok e' := by
  unfold opRange at h
  split at h <;> first | (cases h; done) | skip
  · rename_i s hu hx
    cases h
    obtain ⟨_, x2⟩ := hev x _ hx
    obtain ⟨e', w', h1, h2⟩ := hw.newObj (P := P) (blk := .strIter s 0) (o := .stringIter ⟨s.toArray⟩ 0) (heap_alloc_new w _)
    refine ⟨e', w', ?_, h2⟩
    rw [x2, ← h1]
    simp [Instr.range, AV.val, run_underlying hu, Sem.run_bind]
  · rename_i kt el hu hx
    cases h
    obtain ⟨_, x2⟩ := hev x _ hx
    obtain ⟨e', w', h1, h2⟩ := hw.newObj (P := P) (blk := .mapIter none 0 [] 0) (o := .mapIter none 0 #[] 0) ⟨heap_alloc_new w _, fun _ q => by cases q⟩
    refine ⟨e', w', ?_, h2⟩
    rw [x2, ← h1]
    simp [Instr.range, AV.val, run_underlying hu, Sem.run_bind]
  · rename_i kt el b hu hx
    obtain ⟨x1, x2⟩ := hev x _ hx
    simp only [AV.ok] at x1
    obtain ⟨n, hn⟩ := Option.isSome_iff_exists.1 x1
    split at h <;> first | (cases h; done) | skip
    rename_i es clock hg
    cases h
    obtain ⟨m1, _⟩ := hw.hb b _ n hg hn
    have hne : b ≠ st.next := by
      rintro rfl
      have := (hw.fresh st.next (Nat.le_refl _)).1
      rw [hn] at this; cases this
    have hbb : (e.bear st.next w.heap.size none).blk b = some n := by simp [Env.bear, hne, hn]
    obtain ⟨e', w', h1, h2⟩ := hw.newObj (P := P) (blk := .mapIter (some b) clock [] clock) (o := .mapIter (some n) clock #[] clock)
      ⟨by rw [heap_alloc_new]; simp [hbb], fun c q => by cases q; rw [hbb]; rfl⟩
    refine ⟨e', w', ?_, h2⟩
    rw [x2, ← h1]
    have hgo : (getObj n).run P w = .ok (.map (es.map (entryVal e)).toArray clock) w := by simp [getObj, Sem.run, m1]
    simp [Instr.range, AV.val, run_underlying hu, Sem.run_bind, hn, hgo]

theorem opNext_ok {P : Program} {st st' : St} {it v : AV} {isString : Bool} (h : opNext st it isString = some (v, st')) {e : Env} {w : World} (hw : Rel e st w) (hit : it.ok e) (ty : TypeId) :
    ∃ w', (Instr.next (it.val e) isString ty).run P w = .ok (v.val e) w' ∧ Rel e st' w' ∧ Goes e st w e st' w' ∧ v.ok e := by
  unfold opNext at h
  split at h <;> first | (cases h; done) | skip
  rename_i b
  simp only [AV.ok] at hit
  obtain ⟨n, hn⟩ := Option.isSome_iff_exists.1 hit
  split at h <;> first | (cases h; done) | skip
  · rename_i since seen last hg
    cases h
    obtain ⟨m1, _⟩ := hw.hb b _ n hg hn
    have hgo : (getObj n).run P w = .ok (.mapIter none since seen.toArray last) w := by simp [getObj, Sem.run, m1]
    exact ⟨w, by simp [Instr.next, AV.val, AV.vals, hn, hgo, Sem.run_bind], hw, Goes.refl _ _ _, by simp [AV.ok, AV.oks]⟩
  · rename_i m since seen last hg
    split at h <;> first | (cases h; done) | skip
    rename_i es clock hgm
    obtain ⟨m1, m2⟩ := hw.hb b _ n hg hn
    obtain ⟨k, hk⟩ := Option.isSome_iff_exists.1 (m2 m rfl)
    obtain ⟨c1, c2⟩ := hw.hb m _ k hgm hk
    have hgo : (getObj n).run P w = .ok (.mapIter (some k) since seen.toArray last) w := by simp [getObj, Sem.run, m1, hk]
    have hgo2 : (getObj k).run P w = .ok (.map (es.map (entryVal e)).toArray clock) w := by simp [getObj, Sem.run, c1]
    cases hc : !seen.isEmpty && !es.isEmpty && es.all (fun x => decide (x.2.2 ≥ last))
    · rw [hc] at h
      simp only [cond_false] at h
      have hc' : (!seen.toArray.isEmpty && !(es.map (entryVal e)).toArray.isEmpty && (es.map (entryVal e)).toArray.all (fun x => decide (x.born ≥ last))) = false := by
        rw [← hc]
        simp [List.all_map, Function.comp_def, entryVal]
        try rfl
      have hleft : (es.map (entryVal e)).toArray.filter (fun x => !seen.toArray.contains x.born) = ((es.filter fun x => !seen.contains x.2.2).map (entryVal e)).toArray := by
        rw [List.filter_toArray, List.filter_map]
        simp [Function.comp_def, entryVal]
        try rfl
      split at h <;> first | (cases h; done) | skip
      · rename_i hf
        cases h
        rw [hf] at hleft
        refine ⟨w, ?_, hw, Goes.refl _ _ _, by simp [AV.ok, AV.oks]⟩
        simp only [Instr.next, AV.val, hn, Option.getD_some, Sem.run_bind, hgo, Result.andThen_ok, hgo2, hc', hleft]
        simp [run_choose_drew, Question.forced, AV.val, AV.vals]
      · rename_i x hf
        cases ho : decide (x.2.2 < since)
        · rw [ho] at h; cases h
        rw [ho] at h
        simp only [cond_true, Option.some.injEq, Prod.mk.injEq] at h
        obtain ⟨rfl, rfl⟩ := h
        rw [hf] at hleft
        have hx : x ∈ es := by
          have : x ∈ es.filter fun x => !seen.contains x.2.2 := by rw [hf]; exact List.mem_singleton.2 rfl
          exact (List.mem_filter.1 this).1
        have hlt : n < w.heap.size := (Array.getElem?_eq_some_iff.1 m1).1
        have hB : HB e b (.mapIter (some m) since (seen ++ [x.2.2]) clock) { w with heap := w.heap.setIfInBounds n (.mapIter (some k) since (seen ++ [x.2.2]).toArray clock) } n := by
          refine ⟨by simp [hlt, hk], fun c q => by cases q; rw [hk]; rfl⟩
        obtain ⟨r1, r2, r3⟩ := hw.setObj (P := P) hn hg rfl m1 (by simp) hB
        refine ⟨_, ?_, r2, r3, ?_⟩
        · simp only [Instr.next, AV.val, hn, Option.getD_some, Sem.run_bind, hgo, Result.andThen_ok, hgo2, hc', hleft]
          have hob : x.2.2 < since := of_decide_eq_true ho
          simp [run_choose_drew, Question.forced, AV.vals, AV.val, entryVal, hob, Sem.run_bind]
          rw [r1]
          rfl
        · simp only [AV.ok, AV.oks]
          exact ⟨trivial, (c2 x hx).1, (c2 x hx).2, trivial⟩
    · rw [hc] at h; cases h

end Go.Sx

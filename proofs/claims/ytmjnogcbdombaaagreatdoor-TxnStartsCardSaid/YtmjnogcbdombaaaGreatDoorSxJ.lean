/- Operations that write. -/
import Derived.Test.YtmjnogcbdombaaaGreatDoorSxI
set_option linter.all false
namespace Go.Sx
set_option linter.unusedSimpArgs false

/-- What an operation that writes comes to: a value, or none. -/
def Wrote (P : Program) (e : Env) (st : St) (w : World) (s : Sem Next) (r : Option AV) (st' : St) : Prop :=
  ∃ (e' : Env) (w' : World) (nx : Next), s.run P w = .ok nx w' ∧ Rel e' st' w' ∧ Goes e st w e' st' w' ∧
    (match r with | some v => v.ok e' ∧ nx = .value (v.val e') | none => nx = .skip)

/-! ### store -/
def opStore (P : Program) (ev : Operand → Option AV) (st : St) (t : TypeId) (a x : Operand) : Option St :=
  match ev a, ev x, P.info? t with
  | some (.ptr b o), some v, some inf => bif Nat.beq v.cells.length inf.size then st.store b o v.cells else none
  | _, _, _ => none

theorem opStore_ok {P : Program} {ev : Operand → Option AV} {st st' : St} {t : TypeId} {a x : Operand} (h : opStore P ev st t a x = some st')
    {e : Env} {w : World} (hw : Rel e st w) {ρ : Operand → Value} (hev : ∀ x v, ev x = some v → v.ok e ∧ ρ x = v.val e) :
    ∃ w', (Instr.storeAt t (ρ a) (ρ x)).run P w = .ok () w' ∧ Rel e st' w' ∧ Goes e st w e st' w' := by
  unfold opStore at h
  split at h <;> first | (cases h; done) | skip
  rename_i b o v inf ha hx hinf
  cases hc : Nat.beq v.cells.length inf.size
  · rw [hc] at h; cases h
  rw [hc] at h
  simp only [cond_true] at h
  have hc := Nat.eq_of_beq_eq_true hc
  obtain ⟨a1, a2⟩ := hev a _ ha
  obtain ⟨x1, x2⟩ := hev x _ hx
  simp only [AV.ok] at a1
  obtain ⟨n, hn⟩ := Option.isSome_iff_exists.1 a1
  obtain ⟨w', k1, k2, k3⟩ := hw.store (P := P) hn h (AV.cells_ok x1)
  refine ⟨w', ?_, k2, k3⟩
  have hcl : (v.val e).cells.toList = v.cells.map (·.val e) := AV.cells_val x1
  have hsz : (v.val e).cells.size = inf.size := by rw [← Array.length_toList, hcl, List.length_map, hc]
  rw [a2, x2]
  simp only [Instr.storeAt, AV.val, hn, Option.getD_some, Instr.sureAddr, pure_bind, storeVar, Sem.run_bind, run_size hinf, Result.andThen_ok]
  rw [if_neg (by simp [hsz]), hcl]
  exact k1

/-! ### maps -/
def setVal (v : AV) : List (AV × AV × Nat) → Nat → List (AV × AV × Nat)
  | [], _ => []
  | (k, _, n) :: l, 0 => (k, v, n) :: l
  | x :: l, i + 1 => x :: setVal v l i

def opMapUpdate (P : Program) (ev : Operand → Option AV) (st : St) (t : TypeId) (m k x : Operand) : Option St :=
  match P.underlying t, ev m, ev k, ev x with
  | some (.map kt _), some (.map b), some key, some v => match P.underlying kt, st.heap.get b with
    | some d, some (.map es clock) => bif keyFits d key then
        (match findA key es 0 with
        | some (some (i, _)) => some (st.put b (.map (setVal v es i) clock))
        | some none => some (st.put b (.map (es ++ [(key, v, clock)]) (clock + 1)))
        | none => none) else none
    | _, _ => none
  | _, _, _, _ => none

theorem sameA_val {d : TypeDesc} {k x : AV} (e : Env) (hk : keyFits d k = true) (h : sameA k x = some true) : x.val e = k.val e := by
  unfold sameA at h
  split at h
  · split at h
    · rename_i hkk; subst hkk; simp at h; simp [AV.val, SI.val, h]
    · cases h
  · simp at h; simp [AV.val, h]
  · simp at h; simp [AV.val, h]
  · cases h

theorem findA_at {d : TypeDesc} {k : AV} (e : Env) (hk : keyFits d k = true) : ∀ (l : List (AV × AV × Nat)) (i j : Nat) (v : AV), findA k l i = some (some (j, v)) →
    i ≤ j ∧ ∃ x, l[j - i]? = some x ∧ x.1.val e = k.val e
  | [], i, j, v, h => by simp [findA] at h
  | x :: l, i, j, v, h => by
    simp only [findA] at h
    split at h
    · rename_i hs
      simp only [Option.some.injEq, Prod.mk.injEq] at h
      obtain ⟨rfl, _⟩ := h
      exact ⟨Nat.le_refl _, x, by simp, sameA_val e hk hs⟩
    · obtain ⟨h1, y, h2, h3⟩ := findA_at e hk l (i + 1) j v h
      refine ⟨by omega, y, ?_, h3⟩
      rw [show j - i = (j - (i + 1)) + 1 by omega]
      simpa using h2
    · cases h

theorem setVal_map (e : Env) (v : AV) : ∀ (l : List (AV × AV × Nat)) (i : Nat), (setVal v l i).map (entryVal e) = (l.map (entryVal e)).modify i fun x => { x with val := v.val e }
  | [], i => by simp [setVal]
  | (k, u, n) :: l, 0 => by simp [setVal, entryVal]
  | x :: l, i + 1 => by simp [setVal, setVal_map e v l i]

theorem mem_setVal {v : AV} : ∀ {l : List (AV × AV × Nat)} {i : Nat} {x : AV × AV × Nat}, x ∈ setVal v l i → (∃ y ∈ l, x.1 = y.1) ∧ (x.2.1 = v ∨ ∃ y ∈ l, x.2.1 = y.2.1)
  | [], i, x, h => by simp [setVal] at h
  | (k, u, n) :: l, 0, x, h => by
    simp only [setVal, List.mem_cons] at h
    rcases h with rfl | h
    · exact ⟨⟨_, List.mem_cons_self .., rfl⟩, .inl rfl⟩
    · exact ⟨⟨x, List.mem_cons_of_mem _ h, rfl⟩, .inr ⟨x, List.mem_cons_of_mem _ h, rfl⟩⟩
  | y :: l, i + 1, x, h => by
    simp only [setVal, List.mem_cons] at h
    rcases h with rfl | h
    · exact ⟨⟨_, List.mem_cons_self .., rfl⟩, .inr ⟨_, List.mem_cons_self .., rfl⟩⟩
    · obtain ⟨⟨a, ha, e1⟩, h2⟩ := mem_setVal h
      refine ⟨⟨a, List.mem_cons_of_mem _ ha, e1⟩, ?_⟩
      rcases h2 with h2 | ⟨b, hb, e2⟩
      · exact .inl h2
      · exact .inr ⟨b, List.mem_cons_of_mem _ hb, e2⟩

theorem sameBits_self {d : TypeDesc} {k : AV} (e : Env) (hk : keyFits d k = true) (n : Nat) : Instr.sameBits n (k.val e) (k.val e) = true := by
  cases k <;> cases d <;> simp_all [keyFits, AV.val] <;> cases n <;> simp [Instr.sameBits, bytes_beq]

/-- A map's block is written anew. -/
theorem Rel.setObj {P : Program} {e : Env} {st : St} {w : World} (hw : Rel e st w) {b n : Nat} {blk0 blk : Blk} {o o0 : Obj} (hb : e.blk b = some n) (hg : st.heap.get b = some blk0) (hwr : blk0.wr = true)
    (ho0 : w.heap[n]? = some o0) (hnc : ∀ c t f, o0 ≠ .cells c t f) (hB : HB e b blk { w with heap := w.heap.setIfInBounds n o } n) :
    (Go.setObj n o).run P w = .ok () { w with heap := w.heap.setIfInBounds n o } ∧
    Rel e (st.put b blk) { w with heap := w.heap.setIfInBounds n o } ∧ Goes e st w e (st.put b blk) { w with heap := w.heap.setIfInBounds n o } := by
  refine ⟨?_, hw.put hb hg hwr (by simp) (fun k hk => ?_) rfl rfl rfl hB⟩
  · cases o0 <;> first | exact absurd rfl (hnc _ _ _) | simp [Go.setObj, Sem.run, ho0]
  · show (w.heap.setIfInBounds n o)[k]? = _
    rw [Array.getElem?_setIfInBounds_ne (by omega)]

theorem opMapUpdate_ok {P : Program} {ev : Operand → Option AV} {st st' : St} {t : TypeId} {m k x : Operand} (h : opMapUpdate P ev st t m k x = some st')
    {e : Env} {w : World} (hw : Rel e st w) {ρ : Operand → Value} (hev : ∀ x v, ev x = some v → v.ok e ∧ ρ x = v.val e) :
    ∃ w', (Instr.mapUpdate t (ρ m) (ρ k) (ρ x)).run P w = .ok () w' ∧ Rel e st' w' ∧ Goes e st w e st' w' := by
  unfold opMapUpdate at h
  split at h <;> first | (cases h; done) | skip
  rename_i kt el b key v ht hm hk hx
  obtain ⟨a1, a2⟩ := hev m _ hm
  obtain ⟨k1, k2⟩ := hev k _ hk
  obtain ⟨x1, x2⟩ := hev x _ hx
  simp only [AV.ok] at a1
  obtain ⟨n, hn⟩ := Option.isSome_iff_exists.1 a1
  split at h <;> first | (cases h; done) | skip
  rename_i d es ck hd hes
  cases hf : keyFits d key
  · rw [hf] at h; cases h
  rw [hf] at h
  simp only [cond_true] at h
  obtain ⟨m1, m2⟩ := hw.hb b _ n hes hn
  have hlt : n < w.heap.size := (Array.getElem?_eq_some_iff.1 m1).1
  have hck := fun bb => run_checkKey (P := P) hd e hf bb 9999 w
  have hgo : (getObj n).run P w = .ok (.map (es.map (entryVal e)).toArray ck) w := by simp [getObj, Sem.run, m1]
  have hnc : ∀ c t f, Obj.map (es.map (entryVal e)).toArray ck ≠ .cells c t f := by simp
  split at h <;> first | (cases h; done) | skip
  · rename_i i u hfd
    cases h
    have hfk := run_findKey hd e hf hfd w
    obtain ⟨_, y, hy, hyk⟩ := findA_at e hf es 0 i u hfd
    simp only [Nat.sub_zero] at hy
    have hB : HB e b (.map (setVal v es i) ck) { w with heap := w.heap.setIfInBounds n (.map ((setVal v es i).map (entryVal e)).toArray ck) } n := by
      refine ⟨by simp [hlt], fun z hz => ?_⟩
      obtain ⟨⟨a, ha, e1⟩, h2⟩ := mem_setVal hz
      refine ⟨by rw [e1]; exact (m2 a ha).1, ?_⟩
      rcases h2 with h2 | ⟨c, hc, e2⟩
      · rw [h2]; exact x1
      · rw [e2]; exact (m2 c hc).2
    obtain ⟨r1, r2, r3⟩ := hw.setObj (P := P) hn hes rfl m1 hnc hB
    refine ⟨_, ?_, r2, r3⟩
    rw [a2, k2, x2]
    have hold : ((((es.map (entryVal e)).toArray[i]?).map (·.key)).getD (key.val e)) = key.val e := by
      simp [hy, entryVal, hyk]
    have hmod : (es.map (entryVal e)).toArray.modify i (fun x => { x with key := key.val e, val := v.val e }) = ((setVal v es i).map (entryVal e)).toArray := by
      apply Array.ext'
      rw [setVal_map, Array.toList_modify]
      apply List.ext_getElem?
      intro j
      simp only [List.getElem?_modify]
      by_cases hij : i = j
      · subst hij
        simp [hy, entryVal, hyk]
      · simp [hij]
    simp only [Instr.mapUpdate, AV.val, hn, Option.getD_some, Sem.run_bind, run_underlying ht, Result.andThen_ok, hgo, hck, List.toList_toArray, hfk, Option.map_some, hold,
      Instr.keyThatStays, sameBits_self e hf, if_true, Sem.run_pure, hmod]
    exact r1
  · rename_i hfd
    cases h
    have hfk := run_findKey hd e hf hfd w
    have hB : HB e b (.map (es ++ [(key, v, ck)]) (ck + 1)) { w with heap := w.heap.setIfInBounds n (.map ((es ++ [(key, v, ck)]).map (entryVal e)).toArray (ck + 1)) } n := by
      refine ⟨by simp [hlt], fun z hz => ?_⟩
      rcases List.mem_append.1 hz with hz | hz
      · exact m2 z hz
      · simp at hz; subst hz; exact ⟨k1, x1⟩
    obtain ⟨r1, r2, r3⟩ := hw.setObj (P := P) hn hes rfl m1 hnc hB
    refine ⟨_, ?_, r2, r3⟩
    rw [a2, k2, x2]
    have hpush : (es.map (entryVal e)).toArray.push { key := key.val e, val := v.val e, born := ck } = ((es ++ [(key, v, ck)]).map (entryVal e)).toArray := by
      apply Array.ext'; simp [entryVal]
    simp only [Instr.mapUpdate, AV.val, hn, Option.getD_some, Sem.run_bind, run_underlying ht, Result.andThen_ok, hgo, hck, List.toList_toArray, hfk, Option.map_none, hpush]
    exact r1

end Go.Sx

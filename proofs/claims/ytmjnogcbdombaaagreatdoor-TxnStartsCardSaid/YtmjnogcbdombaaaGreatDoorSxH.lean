/- Building aggregates; operations that lay a new block. -/
import Derived.Test.YtmjnogcbdombaaaGreatDoorSxG
set_option linter.all false
namespace Go.Sx
set_option linter.unusedSimpArgs false

/-! ### build -/
def setsL {α : Type} (cells : List α) (off : Nat) : List α → List α
  | [] => cells
  | v :: vs => setsL (cells.set off v) (off + 1) vs

def overL (cells : List AV) (off : Nat) (vs : List AV) : List AV := setsL cells off vs

theorem setsL_map (f : AV → Value) : ∀ (vs : List AV) (cells : List AV) (off : Nat), (setsL cells off vs).map f = setsL (cells.map f) off (vs.map f)
  | [], _, _ => rfl
  | v :: vs, cells, off => by simp only [setsL, List.map, setsL_map f vs, List.map_set]

theorem mem_setsL : ∀ (vs cells : List AV) (off : Nat) (x : AV), x ∈ setsL cells off vs → x ∈ cells ∨ x ∈ vs
  | [], cells, off, x, h => .inl h
  | v :: vs, cells, off, x, h => by
    rcases mem_setsL vs _ _ x h with h | h
    · rcases List.mem_or_eq_of_mem_set h with h | h
      · exact .inl h
      · exact .inr (by simp [h])
    · exact .inr (List.mem_cons_of_mem _ h)

theorem foldl_set : ∀ (vs : List Value) (k : Nat) (cs : Array Value) (off : Nat),
    ((vs.zipIdx k).foldl (fun cs (x : Value × Nat) => cs.setIfInBounds (off + x.2) x.1) cs).toList = setsL cs.toList (off + k) vs
  | [], k, cs, off => by simp [setsL]
  | v :: vs, k, cs, off => by
    simp only [List.zipIdx_cons, List.foldl_cons, setsL]
    rw [foldl_set vs (k + 1) _ off, Array.toList_setIfInBounds]
    rfl

def fillA (place : Nat → Option (Nat × Nat)) (cells : List AV) : List (Nat × AV) → Option (List AV)
  | [] => some cells
  | (i, v) :: rest =>
    match place i with
    | none => none
    | some (off, size) =>
      bif Nat.beq v.cells.length size && Nat.ble (off + size) cells.length then fillA place (overL cells off v.cells) rest else none

theorem fillA_ok {e : Env} {place : Nat → Option (Nat × Nat)} : ∀ (parts : List (Nat × AV)) (cells r : List AV), fillA place cells parts = some r → (∀ p ∈ parts, p.2.ok e) → AV.oks e cells →
    Instr.fill place (AV.vals e cells).toArray (parts.map fun p => (p.1, p.2.val e)) = some (AV.vals e r).toArray ∧ AV.oks e r
  | [], cells, r, h, _, hc => by simp [fillA] at h; subst h; simp [Instr.fill, hc]
  | (i, v) :: rest, cells, r, h, hp, hc => by
    simp only [fillA] at h
    split at h
    · cases h
    · rename_i off size hpl
      cases hcond : (Nat.beq v.cells.length size && Nat.ble (off + size) cells.length)
      · rw [hcond] at h; cases h
      · rw [hcond] at h
        simp only [cond_true] at h
        simp only [Bool.and_eq_true] at hcond
        have h1 := Nat.eq_of_beq_eq_true hcond.1
        have h2 := Nat.le_of_ble_eq_true hcond.2
        have hvo : v.ok e := hp _ (List.mem_cons_self ..)
        have hcl : (v.val e).cells.toList = v.cells.map (·.val e) := AV.cells_val hvo
        have hsz : (v.val e).cells.size = size := by rw [← Array.length_toList, hcl, List.length_map, h1]
        have hok : AV.oks e (overL cells off v.cells) := by
          rw [AV.oks_iff] at hc ⊢
          intro x hx
          rcases mem_setsL _ _ _ _ hx with hx | hx
          · exact hc x hx
          · exact AV.cells_ok hvo x hx
        obtain ⟨k1, k2⟩ := fillA_ok rest _ r h (fun p q => hp p (List.mem_cons_of_mem _ q)) hok
        refine ⟨?_, k2⟩
        simp only [List.map, Instr.fill, hpl]
        rw [if_neg (by
          simp only [hsz, ne_eq, not_true_eq_false, decide_false, Bool.false_or, Bool.or_eq_true, decide_eq_true_eq, List.size_toArray, AV.vals_eq, List.length_map]
          omega)]
        rw [← k1]
        congr 1
        apply Array.ext'
        have := foldl_set (v.val e).cells.toList 0 (AV.vals e cells).toArray off
        rw [← Array.foldl_toList, Array.toList_zipIdx]
        simp only [Nat.add_zero] at this
        rw [this]
        simp only [AV.vals_eq, overL, hcl, setsL_map]

def placesA (P : Program) : List Field → Option (List (Nat × Nat))
  | [] => some []
  | f :: l => match P.info? f.type with
    | none => none
    | some i => match placesA P l with
      | none => none
      | some r => some ((f.offset, i.size) :: r)

def evParts (ev : Operand → Option AV) : List (Nat × Operand) → Option (List (Nat × AV))
  | [] => some []
  | (i, x) :: l => match ev x with
    | none => none
    | some v => match evParts ev l with
      | none => none
      | some r => some ((i, v) :: r)

theorem evParts_ok {e : Env} {ev : Operand → Option AV} {ρ : Operand → Value} (hev : ∀ x v, ev x = some v → v.ok e ∧ ρ x = v.val e) : ∀ (l : List (Nat × Operand)) (r : List (Nat × AV)), evParts ev l = some r →
    (∀ p ∈ r, p.2.ok e) ∧ l.map (fun (i, x) => (i, ρ x)) = r.map fun p => (p.1, p.2.val e)
  | [], r, h => by simp [evParts] at h; subst h; simp
  | (i, x) :: l, r, h => by
    simp only [evParts] at h
    split at h
    · cases h
    · rename_i v hv
      split at h
      · cases h
      · rename_i r' hr
        cases h
        have h1 := hev x v hv
        have h2 := evParts_ok hev l r' hr
        refine ⟨fun p hp => ?_, by simp [h1.2, h2.2]⟩
        rcases List.mem_cons.1 hp with rfl | hp
        · exact h1.1
        · exact h2.1 p hp

theorem placesA_ok {P : Program} (w : World) : ∀ (l : List Field) (r : List (Nat × Nat)), placesA P l = some r →
    (l.mapM (fun f => (do pure (f.offset, ← sizeOf f.type) : Sem (Nat × Nat)))).run P w = .ok r w
  | [], r, h => by simp [placesA] at h; subst h; rfl
  | f :: l, r, h => by
    simp only [placesA] at h
    split at h
    · cases h
    · rename_i i hi
      split at h
      · cases h
      · rename_i r' hr
        cases h
        simp only [List.mapM_cons, Sem.run_bind, run_size hi, Result.andThen_ok, Sem.run_pure, placesA_ok w l r' hr]

def opB (P : Program) (ev : Operand → Option AV) (t : TypeId) (parts : List (Nat × Operand)) : Option AV :=
  match P.underlying t, P.info? t, evParts ev parts with
  | some d, some inf, some ps => match inf.zero with
    | none => none
    | some z => match lift z with
      | none => none
      | some zv => match d with
        | .struct fs => match placesA P fs.toList with
          | none => none
          | some pl => (match fillA (fun i => pl[i]?) zv.cells ps with | some l => some (.agg l) | none => none)
        | .array _ el => match P.info? el with
          | none => none
          | some i => (match fillA (fun k => some (k * i.size, i.size)) zv.cells ps with | some l => some (.agg l) | none => none)
        | _ => none
  | _, _, _ => none

theorem opB_ok {P : Program} {ev : Operand → Option AV} {t : TypeId} {parts : Array (Nat × Operand)} {v : AV} (h : opB P ev t parts.toList = some v)
    {e : Env} (w : World) {ρ : Operand → Value} (hev : ∀ x v, ev x = some v → v.ok e ∧ ρ x = v.val e) :
    (Instr.build t (parts.map fun (i, x) => (i, ρ x))).run P w = .ok (v.val e) w ∧ v.ok e := by
  unfold opB at h
  split at h <;> first | (cases h; done) | skip
  rename_i d inf ps hd hinf hps
  split at h <;> first | (cases h; done) | skip
  rename_i z hz
  split at h <;> first | (cases h; done) | skip
  rename_i zv hzv
  obtain ⟨z1, z2⟩ := lift_ok e z zv hzv
  obtain ⟨p1, p2⟩ := evParts_ok hev _ ps hps
  have hzc : z.cells = (AV.vals e zv.cells).toArray := by
    apply Array.ext'
    rw [← z2, AV.cells_val z1, AV.vals_eq]
  have hzo : AV.oks e zv.cells := (AV.oks_iff _ _).2 (AV.cells_ok z1)
  have hparts : (parts.map fun (i, x) => (i, ρ x)).toList = ps.map fun p => (p.1, p.2.val e) := by rw [Array.toList_map]; exact p2
  split at h <;> first | (cases h; done) | skip
  · rename_i fs
    split at h <;> first | (cases h; done) | skip
    rename_i pl hpl
    split at h <;> first | (cases h; done) | skip
    rename_i l hl
    cases h
    obtain ⟨k1, k2⟩ := fillA_ok ps _ l hl p1 hzo
    refine ⟨?_, by simpa [AV.ok] using k2⟩
    have hmap : (fs.mapM (fun f => (do pure (f.offset, ← sizeOf f.type) : Sem (Nat × Nat)))).run P w = .ok pl.toArray w := by
      rw [Array.mapM_eq_mapM_toList, Sem.run_map, placesA_ok w _ _ hpl]
      rfl
    simp only [Instr.build, Sem.run_bind, run_zero hinf hz, Result.andThen_ok, run_underlying hd, hmap, hzc, hparts, List.getElem?_toArray, k1, Sem.run_pure, AV.val]
  · rename_i n el
    split at h <;> first | (cases h; done) | skip
    rename_i i hi
    split at h <;> first | (cases h; done) | skip
    rename_i l hl
    cases h
    obtain ⟨k1, k2⟩ := fillA_ok ps _ l hl p1 hzo
    refine ⟨?_, by simpa [AV.ok] using k2⟩
    simp only [Instr.build, Sem.run_bind, run_zero hinf hz, Result.andThen_ok, run_underlying hd, run_size hi, hzc, hparts, k1, Sem.run_pure, AV.val]

end Go.Sx

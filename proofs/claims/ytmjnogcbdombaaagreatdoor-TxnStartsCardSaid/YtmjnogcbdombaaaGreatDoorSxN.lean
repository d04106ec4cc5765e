/- What an operation comes to hangs on its operands alone. -/
import Derived.Test.YtmjnogcbdombaaaGreatDoorSxM
set_option linter.all false
namespace Go.Sx
set_option linter.unusedSimpArgs false

theorem mapM_congr {ev ev' : Operand → Option AV} : ∀ (l : List Operand), (∀ x ∈ l, ev x = ev' x) → l.mapM ev = l.mapM ev'
  | [], _ => rfl
  | x :: l, h => by
    rw [List.mapM_cons, List.mapM_cons, h x (List.mem_cons_self ..), mapM_congr l (fun y hy => h y (List.mem_cons_of_mem _ hy))]

theorem evParts_congr {ev ev' : Operand → Option AV} : ∀ (l : List (Nat × Operand)), (∀ x ∈ l.map (·.2), ev x = ev' x) → evParts ev l = evParts ev' l
  | [], _ => rfl
  | (i, x) :: l, h => by
    simp only [evParts, h x (by simp), evParts_congr l (fun y hy => h y (by simp only [List.map_cons, List.mem_cons]; exact .inr hy))]

theorem opR_congr {P : Program} {fx : List Fact} {st : St} {ev ev' : Operand → Option AV} {o : Oper} (h : ∀ x ∈ o.op.operands, ev x = ev' x) : opR P fx st ev o = opR P fx st ev' o := by
  obtain ⟨dst, op, type, pos, after, guard⟩ := o
  simp only at h
  cases op <;> simp only [opR] <;> simp only [Op.operands] at h
  case move x => rw [h x (by simp)]
  case assign x => rw [h x (by simp)]
  case pick c a b => rw [h c (by simp), h a (by simp), h b (by simp)]
  case load t a => rw [h a (by simp)]
  case nilCheck x => rw [h x (by simp)]
  case binOp op t x y yt => rw [h x (by simp), h y (by simp)]
  case unOp op t x => rw [h x (by simp)]
  case convert s d x => rw [h x (by simp)]
  case makeInterface t x => rw [h x (by simp)]
  case makeFunc fn first captured =>
    rw [mapM_congr first.toList (fun x hx => h x (by simp; exact .inl (by simpa using hx))), mapM_congr captured.toList (fun x hx => h x (by simp; exact .inr (by simpa using hx)))]
  case fieldAddr s x f => rw [h x (by simp)]
  case field s x f => rw [h x (by simp)]
  case indexAddr t x i => rw [h x (by simp), h i (by simp)]
  case index t x i => rw [h x (by simp), h i (by simp)]
  case slice t x lo hi mx =>
    have hx := h x (by simp)
    have hlo : ∀ y, lo = some y → ev y = ev' y := fun y hy => h y (by simp [hy])
    have hhi : ∀ y, hi = some y → ev y = ev' y := fun y hy => h y (by simp [hy])
    rw [hx]
    cases lo <;> cases hi <;> simp_all
  case lookup t x i ok => rw [h x (by simp), h i (by simp)]
  case extract x i => rw [h x (by simp)]
  case typeAssert x xt t ok => rw [h x (by simp)]
  case call c =>
    obtain ⟨callee, args, argTypes⟩ := c
    have ha : ∀ x ∈ args.toList, ev x = ev' x := fun x hx => h x (by simp [Call.operands]; exact .inr (by simpa using hx))
    cases callee <;> try rfl
    rename_i b
    cases b <;> try rfl
    all_goals
      simp only
      generalize args.toList = l at ha
      first
        | (cases l with
          | nil => cases argTypes.toList <;> rfl
          | cons x r => cases r <;> cases argTypes.toList <;> simp_all)
        | (cases l with
          | nil => rfl
          | cons x r => cases r with
            | nil => rfl
            | cons y r => cases r <;> simp_all)

theorem opF_congr {P : Program} {ev ev' : Operand → Option AV} {o : Oper} (h : ∀ x ∈ o.op.operands, ev x = ev' x) : opF P ev o = opF P ev' o := by
  obtain ⟨dst, op, type, pos, after, guard⟩ := o
  simp only at h
  cases op <;> simp only [opF] <;> simp only [Op.operands] at h
  case box t x => rw [h x (by simp)]
  case buildSlice t len parts => rw [evParts_congr parts.toList (fun x hx => h x (by simpa using hx))]
  case makeSlice t a b => rw [h a (by simp), h b (by simp)]
  case convert s d x => rw [h x (by simp)]

theorem opB_congr {P : Program} {ev ev' : Operand → Option AV} {t : TypeId} {parts : List (Nat × Operand)} (h : ∀ x ∈ parts.map (·.2), ev x = ev' x) : opB P ev t parts = opB P ev' t parts := by
  unfold opB
  rw [evParts_congr parts h]

/-- Where no memory is read the state does not matter. -/
theorem opR_st {P : Program} {fx : List Fact} {st st' : St} {ev : Operand → Option AV} {o : Oper} (h : reads o = false) : opR P fx st ev o = opR P fx st' ev o := by
  obtain ⟨dst, op, type, pos, after, guard⟩ := o
  cases op <;> simp only [reads] at h <;> first | (cases h; done) | rfl

end Go.Sx

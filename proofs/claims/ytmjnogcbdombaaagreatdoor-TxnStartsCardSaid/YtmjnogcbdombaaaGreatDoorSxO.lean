/- Steps are sound. -/
import Derived.Test.YtmjnogcbdombaaaGreatDoorSxN
set_option linter.all false
namespace Go.Sx
set_option linter.unusedSimpArgs false

/-! ### Only the operands matter -/
open Classical in
noncomputable def evOn (l : Array Operand) (ev : Operand → Option AV) : Operand → Option AV := fun x => if x ∈ l then ev x else none

theorem evOn_eq {l : Array Operand} {ev : Operand → Option AV} : ∀ x ∈ l, ev x = evOn l ev x := fun x hx => by simp [evOn, hx]

theorem evOn_ok {l : Array Operand} {ev : Operand → Option AV} {e : Env} {ρ : Operand → Value} (h : ∀ x ∈ l, ∀ v, ev x = some v → v.ok e ∧ ρ x = v.val e) :
    ∀ x v, evOn l ev x = some v → v.ok e ∧ ρ x = v.val e := fun x v hv => by
  unfold evOn at hv
  split at hv
  · exact h x ‹_› v hv
  · cases hv

theorem evsA_congr {ev ev' : Operand → Option AV} : ∀ (l : List Operand), (∀ x ∈ l, ev x = ev' x) → evsA ev l = evsA ev' l
  | [], _ => rfl
  | x :: l, h => by simp only [evsA, h x (by simp), evsA_congr l (fun y hy => h y (List.mem_cons_of_mem _ hy))]

theorem opE_congr {P : Program} {st : St} {ev ev' : Operand → Option AV} {o : Oper} (h : ∀ x ∈ o.op.operands, ev x = ev' x) : opE P ev st o = opE P ev' st o := by
  obtain ⟨dst, op, type, pos, after, guard⟩ := o
  simp only at h
  cases op <;> simp only [opE] <;> simp only [Op.operands] at h
  case store t a x => simp only [opStore, h a (by simp), h x (by simp)]
  case mapUpdate t m k x => simp only [opMapUpdate, h m (by simp), h k (by simp), h x (by simp)]
  case insert t m k x => simp only [opMapUpdate, h m (by simp), h k (by simp), h x (by simp)]
  case range t x => simp only [opRange, h x (by simp)]
  case next x s => simp only [h x (by simp)]
  case call c =>
    obtain ⟨callee, args, argTypes⟩ := c
    have ha : ∀ x ∈ args.toList, ev x = ev' x := fun x hx => h x (by simp [Call.operands]; exact .inr (by simpa using hx))
    cases callee <;> try rfl
    rename_i b
    cases b <;> try rfl
    all_goals
      simp only
      generalize args.toList = l at ha
      generalize argTypes.toList = tl
      cases l with
      | nil => cases tl with
        | nil => rfl
        | cons t tl => cases tl <;> rfl
      | cons x r => cases r with
        | nil => cases tl with
          | nil => rfl
          | cons t tl => cases tl <;> rfl
        | cons y r => cases r with
          | nil => cases tl with
            | nil => rfl
            | cons t tl => cases tl <;> simp_all
          | cons z r => cases tl with
            | nil => rfl
            | cons t tl => cases tl <;> rfl

theorem callOf_congr {P : Program} {ev ev' : Operand → Option AV} {o : Oper} (h : ∀ x ∈ o.op.operands, ev x = ev' x) : callOf P ev o = callOf P ev' o := by
  obtain ⟨dst, op, type, pos, after, guard⟩ := o
  simp only at h
  cases op <;> simp only [callOf] <;> simp only [Op.operands] at h
  rename_i c
  obtain ⟨callee, args, argTypes⟩ := c
  have ha : ∀ x ∈ args.toList, ev x = ev' x := fun x hx => h x (by simp [Call.operands]; exact .inr (by simpa using hx))
  cases callee with
  | value f => simp only [evsA_congr _ ha, h f (by simp [Call.operands])]
  | invoke r m => simp only [evsA_congr _ ha, h r (by simp [Call.operands])]
  | builtin b => rfl

theorem evsA_ok {e : Env} {ev : Operand → Option AV} {ρ : Operand → Value} (hev : ∀ x v, ev x = some v → v.ok e ∧ ρ x = v.val e) : ∀ (l : List Operand) (r : List AV), evsA ev l = some r →
    AV.oks e r ∧ l.map ρ = AV.vals e r
  | [], r, h => by simp [evsA] at h; subst h; simp [AV.oks, AV.vals]
  | x :: l, r, h => by
    simp only [evsA] at h
    split at h
    · cases h
    · rename_i v hv
      split at h
      · cases h
      · rename_i r' hr
        cases h
        have h1 := hev x v hv
        have h2 := evsA_ok hev l r' hr
        simp [AV.oks, AV.vals, h1.1, h1.2, h2.1, h2.2]

/-! ### Writing operations -/
theorem opE_ok {P : Program} {st st' : St} {ev : Operand → Option AV} {o : Oper} {r : Option AV} (h : opE P ev st o = some (r, st'))
    {e : Env} {w : World} (hw : Rel e st w) {ρ : Operand → Value} (hev : ∀ x v, ev x = some v → v.ok e ∧ ρ x = v.val e) : Wrote P e st w (execOp ρ o) r st' := by
  obtain ⟨dst, op, type, pos, after, guard⟩ := o
  cases op <;> simp only [opE] at h <;> first | (cases h; done) | skip
  case store t a x =>
    split at h <;> first | (cases h; done) | skip
    rename_i st2 hst
    cases h
    obtain ⟨w', k1, k2, k3⟩ := opStore_ok hst hw hev
    exact ⟨e, w', .skip, by simp only [execOp, Sem.run_bind, k1, Result.andThen_ok, Sem.run_pure], k2, k3, rfl⟩
  case mapUpdate t m k x =>
    split at h <;> first | (cases h; done) | skip
    rename_i st2 hst
    cases h
    obtain ⟨w', k1, k2, k3⟩ := opMapUpdate_ok hst hw hev
    exact ⟨e, w', .skip, by simp only [execOp, Sem.run_bind, k1, Result.andThen_ok, Sem.run_pure], k2, k3, rfl⟩
  case insert t m k x =>
    split at h <;> first | (cases h; done) | skip
    rename_i st2 hst
    cases h
    obtain ⟨w', k1, k2, k3⟩ := opMapUpdate_ok hst hw hev
    exact ⟨e, w', .skip, by simp only [execOp, Sem.run_bind, k1, Result.andThen_ok, Sem.run_pure], k2, k3, rfl⟩
  case range t x =>
    split at h <;> first | (cases h; done) | skip
    rename_i v st2 hst
    cases h
    obtain ⟨e', w', k1, k2, k3, k4⟩ := opRange_ok (P := P) hst hw hev
    exact ⟨e', w', .value (v.val e'), by simp only [execOp, Sem.run_bind, k1, Result.andThen_ok, Sem.run_pure], k2, k3, k4, rfl⟩
  case next x isString =>
    split at h <;> first | (cases h; done) | skip
    rename_i v hx
    split at h <;> first | (cases h; done) | skip
    rename_i u st2 hst
    cases h
    obtain ⟨x1, x2⟩ := hev x _ hx
    obtain ⟨w', k1, k2, k3, k4⟩ := opNext_ok (P := P) hst hw x1 type
    exact ⟨e, w', .value (u.val e), by simp only [execOp, Sem.run_bind, x2, k1, Result.andThen_ok, Sem.run_pure], k2, k3, k4, rfl⟩
  case call c =>
    obtain ⟨callee, args, argTypes⟩ := c
    split at h <;> first | (cases h; done) | skip
    · rename_i hcal
      simp only at hcal h
      subst hcal
      split at h <;> first | (cases h; done) | skip
      rename_i t tx ts s x hts hxs
      have hargs := toList_two hxs
      subst hargs
      have ht0 : argTypes[0]? = some t := by rw [← Array.getElem?_toList, hts]; rfl
      have ht1 : argTypes[1]? = some tx := by rw [← Array.getElem?_toList, hts]; rfl
      split at h <;> first | (cases h; done) | skip
      rename_i el dx sv xv hel hdx hs hx
      split at h <;> first | (cases h; done) | skip
      rename_i inf hni hinf
      split at h <;> first | (cases h; done) | skip
      rename_i v st2 happ
      cases h
      obtain ⟨s1, s2⟩ := hev s _ hs
      obtain ⟨x1, x2⟩ := hev x _ hx
      obtain ⟨e', w', r1, r2, r3, r4⟩ := appendA_ok happ argTypes ht0 ht1 type hel hdx (fun k q => hni k q) hinf hw s1 x1
      refine ⟨e', w', .value (v.val e'), ?_, r3, r4, r2, rfl⟩
      simp only [execOp, resolve, List.map_toArray, List.map_cons, List.map_nil, pure_bind, invoke, builtin, s2, x2, Sem.run_bind, r1, Result.andThen_ok, Sem.run_pure]
    · rename_i hcal
      simp only at hcal h
      subst hcal
      split at h <;> first | (cases h; done) | skip
      rename_i t ts d x hts hxs
      have hargs := toList_two hxs
      subst hargs
      have ht0 : argTypes[0]? = some t := by rw [← Array.getElem?_toList, hts]; rfl
      split at h <;> first | (cases h; done) | skip
      rename_i el dv xv hel hd hx
      split at h <;> first | (cases h; done) | skip
      rename_i inf hinf
      split at h <;> first | (cases h; done) | skip
      rename_i n st2 hcp
      cases h
      obtain ⟨s1, s2⟩ := hev d _ hd
      obtain ⟨x1, x2⟩ := hev x _ hx
      obtain ⟨w', r1, r2, r3⟩ := copyA_ok hcp argTypes ht0 type hel hinf hw s1 x1
      refine ⟨e, w', .value (goInt n), ?_, r2, r3, by simp [AV.ok], by simp [AV.val, SI.val, goInt]⟩
      simp only [execOp, resolve, List.map_toArray, List.map_cons, List.map_nil, pure_bind, invoke, builtin, s2, x2, Sem.run_bind, r1, Result.andThen_ok, Sem.run_pure]

/-! ### Calls -/
theorem enters_ok {P : Program} {g : FuncId} (h : enters P g = true) (args : Array Value) (w : World) : (callFunc g args).run P w = .ok (.enter g args) w := by
  unfold enters at h
  split at h
  · rename_i fn hfn
    simp only [Bool.and_eq_true, Bool.not_eq_true'] at h
    obtain ⟨h1, h2⟩ := h
    have h3 : fn.body.isNone = false := by cases hb : fn.body <;> simp_all
    simp only [callFunc, Sem.run_bind, run_program, Result.andThen_ok, hfn, h1, Bool.false_eq_true, if_false, h3, Sem.run_pure]
  · cases h

theorem mthA_ok {P : Program} {t : TypeId} {name : String} {g : FuncId} (h : mthA P t name = some g) (n : Nat) (v : Value) (w : World) : (method (n + 1) t v name).run P w = .ok (g, v) w := by
  unfold mthA at h
  split at h <;> first | (cases h; done) | skip
  rename_i inf el hinf hel
  split at h <;> first | (cases h; done) | skip
  rename_i m hm
  cases hp : m.path.isEmpty
  · rw [hp] at h; cases h
  rw [hp] at h
  simp only [cond_true] at h
  split at h <;> first | (cases h; done) | skip
  rename_i g' hf
  cases h
  have hpe : m.path.toList = [] := by simpa using hp
  simp only [method, Sem.run_bind, run_info hinf, Result.andThen_ok, hm, hpe, follow, pure_bind, hf, receiverAt, run_underlying hel, Place.get, Sem.run_pure]

theorem callOf_ok {P : Program} {ev : Operand → Option AV} {o : Oper} {g : FuncId} {args : List AV} (h : callOf P ev o = some (g, args))
    {e : Env} (w : World) {ρ : Operand → Value} (hev : ∀ x v, ev x = some v → v.ok e ∧ ρ x = v.val e) :
    (execOp ρ o).run P w = .ok (.enter g (AV.vals e args).toArray) w ∧ AV.oks e args := by
  obtain ⟨dst, op, type, pos, after, guard⟩ := o
  cases op <;> simp only [callOf] at h <;> first | (cases h; done) | skip
  rename_i c
  obtain ⟨callee, as, argTypes⟩ := c
  cases callee with
  | value fo =>
    simp only at h
    split at h <;> first | (cases h; done) | skip
    rename_i g' first captured args' hf ha
    obtain ⟨hen, hh⟩ := bif_some h
    simp only [Prod.mk.injEq] at hh
    obtain ⟨rfl, rfl⟩ := hh
    obtain ⟨f1, f2⟩ := hev fo _ hf
    obtain ⟨a1, a2⟩ := evsA_ok hev _ _ ha
    simp only [AV.ok] at f1
    refine ⟨?_, ?_⟩
    rotate_left
    · rw [AV.oks_iff]
      intro v hv
      rcases List.mem_append.1 hv with hv | hv
      · rcases List.mem_append.1 hv with hv | hv
        · exact mem_oks f1.1 hv
        · exact mem_oks a1 hv
      · exact mem_oks f1.2 hv
    have hmap : as.map ρ = (AV.vals e args').toArray := by apply Array.ext'; rw [Array.toList_map, a2]
    simp only [execOp, resolve, f2, AV.val, Deferred.ofValue, pure_bind, invoke, hmap, enters_ok hen]
    simp only [vals_append, List.append_toArray]
  | invoke r name =>
    simp only at h
    split at h <;> first | (cases h; done) | skip
    rename_i t v args' hr ha
    split at h <;> first | (cases h; done) | skip
    rename_i g' hg
    obtain ⟨hen, hh⟩ := bif_some h
    simp only [Prod.mk.injEq] at hh
    obtain ⟨rfl, rfl⟩ := hh
    obtain ⟨f1, f2⟩ := hev r _ hr
    obtain ⟨a1, a2⟩ := evsA_ok hev _ _ ha
    simp only [AV.ok] at f1
    refine ⟨?_, by simp only [AV.oks]; exact ⟨f1, a1⟩⟩
    have hmap : as.map ρ = (AV.vals e args').toArray := by apply Array.ext'; rw [Array.toList_map, a2]
    have hpos : 0 < Made.depth := by decide
    have hdep : ∃ n, P.types.size + Made.depth = n + 1 := ⟨P.types.size + Made.depth - 1, by omega⟩
    obtain ⟨n, hn⟩ := hdep
    have hext : (#[Value.iface t (v.val e)] ++ (AV.vals e args').toArray).extract 1 (#[Value.iface t (v.val e)] ++ (AV.vals e args').toArray).size = (AV.vals e args').toArray := by
      apply Array.ext'; simp
    have hget : (#[Value.iface t (v.val e)] ++ (AV.vals e args').toArray)[0]? = some (Value.iface t (v.val e)) := by simp
    simp only [execOp, resolve, f2, AV.val, pure_bind, invoke, hmap, hget, hext, callMethod, Sem.run_bind, run_program, Result.andThen_ok, hn, mthA_ok hg, enters_ok hen]
    simp [AV.vals]
  | builtin b => cases h

end Go.Sx

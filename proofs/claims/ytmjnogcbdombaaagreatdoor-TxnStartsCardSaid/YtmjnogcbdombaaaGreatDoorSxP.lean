/- Regions in the text's order. -/
import Derived.Test.YtmjnogcbdombaaaGreatDoorSxO
set_option linter.all false
namespace Go.Sx
set_option linter.unusedSimpArgs false

structure FmR (e : Env) (f : Fm) (tmps : Array Value) : Prop where
  size : tmps.size = f.n
  get : ∀ t v, f.tm.get t = some v → v.ok e ∧ tmps[t]? = some (v.val e)

structure EnvOk (C : Cx) (e : Env) : Prop where
  fx : ∀ f ∈ C.fx, f.holds e
  glob : ∀ g, g < C.G → e.blk g = some g

theorem Fact.holds_le {e e' : Env} (h : e.le e') {f : Fact} (hf : f.holds e) : f.holds e' := by
  unfold Fact.holds at *; rw [SI.val_le h, SI.val_le h]; exact hf

theorem EnvOk.le {C : Cx} {e e' : Env} (h : EnvOk C e) (hl : e.le e') : EnvOk C e' :=
  ⟨fun f hf => Fact.holds_le hl (h.fx f hf), fun g hg => hl.blk _ _ (h.glob g hg)⟩

theorem FmR.le {e e' : Env} {f : Fm} {t : Array Value} (h : FmR e f t) (hl : e.le e') : FmR e' f t :=
  ⟨h.size, fun i v hv => by
    obtain ⟨a, b⟩ := h.get i v hv
    have := AV.val_le hl v a
    exact ⟨this.2, by rw [this.1]; exact b⟩⟩

theorem evF_ok {C : Cx} {e : Env} {f : Fm} {a : Act} (hf : FmR e f a.tmps) (he : EnvOk C e) : ∀ x v, evF C f x = some v → v.ok e ∧ a.eval x = v.val e := by
  intro x v hv
  cases x with
  | tmp t =>
    obtain ⟨h1, h2⟩ := hf.get t v hv
    exact ⟨h1, by simp [Act.eval, h2]⟩
  | const c =>
    obtain ⟨h1, h2⟩ := lift_ok e c v hv
    exact ⟨h1, h2.symm⟩
  | global g =>
    obtain ⟨h1, rfl⟩ := bif_some hv
    have := he.glob g (by simp [Nat.blt] at h1; omega)
    exact ⟨by simp [AV.ok, this], by simp [Act.eval, AV.val, this]⟩
  | func g =>
    simp only [evF, Option.some.injEq] at hv
    subst hv
    exact ⟨by simp [AV.ok, AV.oks], by simp [Act.eval, AV.val, AV.vals]⟩

theorem put_ok {e : Env} {f f' : Fm} {a : Act} {dst : Option Tmp} {r : Option AV} {x : Value} (h : f.put dst r = some f') (hf : FmR e f a.tmps) (hr : ∀ v, r = some v → v.ok e ∧ x = v.val e) :
    FmR e f' (a.put dst x).tmps := by
  unfold Fm.put at h
  split at h
  · cases h; exact hf
  · rename_i d
    obtain ⟨hd, rfl⟩ := bif_some h
    rw [Bool.and_eq_true] at hd
    have hlt : d < f.n := Nat.le_of_ble_eq_true hd.1
    refine ⟨by simp [Act.put, hf.size], fun t v hv => ?_⟩
    rcases Tr.get_set _ _ _ _ _ _ hv with ⟨rfl, q⟩ | ⟨q1, q2⟩
    · obtain ⟨h1, h2⟩ := hr v q
      exact ⟨h1, by simp [Act.put, hf.size, hlt, h2]⟩
    · obtain ⟨h1, h2⟩ := hf.get t v q2
      refine ⟨h1, ?_⟩
      simp only [Act.put]
      rw [Array.getElem?_setIfInBounds_ne (fun q => q1 q.symm)]
      exact h2

theorem put_defers (a : Act) (dst : Option Tmp) (x : Value) : (a.put dst x).defers = a.defers := by cases dst <;> rfl

/-- What a call promises. -/
def CallOk (C : Cx) (call : CallF) : Prop := ∀ g args st v st', call g args st = .ok (v, st') → ∀ (e : Env) (w : World), Rel e st w → EnvOk C e → AV.oks e args →
  Calls C.P g (AV.vals e args).toArray w fun en w' => ∃ e', Rel e' st' w' ∧ Goes e st w e' st' w' ∧ v.ok e' ∧ en = .returned (v.val e')

/-- What is left behind a piece of code. -/
structure After (C : Cx) (e : Env) (st : St) (w : World) (a : Act) (e' : Env) (f' : Fm) (st' : St) (w' : World) (a' : Act) : Prop where
  rel : Rel e' st' w'
  fm : FmR e' f' a'.tmps
  defers : a'.defers = a.defers
  goes : Goes e st w e' st' w'

theorem After.trans {C : Cx} {e e1 e2 : Env} {st st1 st2 : St} {w w1 w2 : World} {a a1 a2 : Act} {f1 f2 : Fm} (h : After C e st w a e1 f1 st1 w1 a1) (k : After C e1 st1 w1 a1 e2 f2 st2 w2 a2) :
    After C e st w a e2 f2 st2 w2 a2 := ⟨k.rel, k.fm, k.defers.trans h.defers, h.goes.trans k.goes⟩

/-- The value of a step that does not write, as the operation itself tells it. -/
theorem stepN_run {C : Cx} {o : Oper} {f f' : Fm} {st st' : St} (h : stepN C o f st = some (f', st')) {e : Env} {w : World} (hw : Rel e st w) (he : EnvOk C e) {ρ : Operand → Value}
    (hev : ∀ x ∈ o.op.operands, ∀ v, evF C f x = some v → v.ok e ∧ ρ x = v.val e) :
    ∃ (r : Option AV) (e' : Env) (w' : World) (x : Value), (execOp ρ o).run C.P w = .ok (.value x) w' ∧ Rel e' st' w' ∧ Goes e st w e' st' w' ∧ f.put o.dst r = some f' ∧ ∀ v, r = some v → v.ok e' ∧ x = v.val e' := by
  have hev' := evOn_ok hev
  unfold stepN at h
  split at h
  · rename_i r hr
    split at h <;> first | (cases h; done) | skip
    rename_i f2 hf2
    cases h
    rw [opR_congr (ev' := evOn o.op.operands (evF C f)) (fun x hx => evOn_eq x hx)] at hr
    obtain ⟨x, hx, hv⟩ := opR_ok hr hw he.fx hev'
    exact ⟨r, e, w, x, hx, hw, Goes.refl _ _ _, hf2, hv⟩
  · split at h
    · rename_i fr hfr
      split at h <;> first | (cases h; done) | skip
      rename_i f2 hf2
      cases h
      rw [opF_congr (ev' := evOn o.op.operands (evF C f)) (fun x hx => evOn_eq x hx)] at hfr
      have hf := hw.fresh st.next (Nat.le_refl _)
      obtain ⟨x, w', c, hl⟩ := opF_ok hfr w hev' st.next hf.1 hf.2
      obtain ⟨q1, q2⟩ := hw.born (st' := st.new fr.blk) hl.more hf.1 hf.2 (fun i u hu => St.get_new hu) (by simp [St.new]) (by simp [St.new]) hl.hb
      exact ⟨_, _, w', x, hl.run, q1, q2 (Nat.le_refl _), hf2, fun v hv => by cases hv; exact ⟨hl.ok, hl.val⟩⟩
    · split at h <;> first | (cases h; done) | skip
      rename_i t parts hop
      split at h <;> first | (cases h; done) | skip
      rename_i v hv
      split at h <;> first | (cases h; done) | skip
      rename_i f2 hf2
      cases h
      have hops : o.op.operands = (parts.toList.map (·.2)).toArray := by rw [hop]; rfl
      rw [opB_congr (ev' := evOn o.op.operands (evF C f)) (fun x hx => evOn_eq x (by rw [hops]; simpa using hx))] at hv
      obtain ⟨h1, h2⟩ := opB_ok hv w hev'
      refine ⟨some v, e, w, v.val e, ?_, hw, Goes.refl _ _ _, hf2, fun u hu => by cases hu; exact ⟨h2, rfl⟩⟩
      simp only [execOp, hop, Sem.run_bind, h1, Result.andThen_ok, Sem.run_pure]

theorem stepN_ok {C : Cx} {o : Oper} {f f' : Fm} {st st' : St} (h : stepN C o f st = some (f', st')) {e : Env} {w : World} (hw : Rel e st w) (he : EnvOk C e) {a : Act} (hf : FmR e f a.tmps)
    {K : Act → World → Prop} {Q : Exit → Act → World → Prop} (hK : ∀ e' a' w', After C e st w a e' f' st' w' a' → K a' w') : o.wp C.P a w K Q := by
  obtain ⟨r, e', w', x, h1, h2, h3, h4, h5⟩ := stepN_run h hw he (fun x _ => evF_ok hf he x)
  unfold Oper.wp
  rw [h1, Oper.upon_value]
  exact hK e' _ w' ⟨h2, put_ok h4 (hf.le h3.le) h5, put_defers _ _ _, h3⟩

theorem stepE_ok {C : Cx} {call : CallF} (hc : CallOk C call) {o : Oper} {f f' : Fm} {st st' : St} (h : stepE call C o f st = .ok (f', st')) {e : Env} {w : World} (hw : Rel e st w) (he : EnvOk C e) {a : Act}
    (hev : ∀ x ∈ o.op.operands, ∀ v, evF C f x = some v → v.ok e ∧ a.eval x = v.val e) {K : Act → World → Prop} {Q : Exit → Act → World → Prop}
    (hK : ∀ r e' w', f.put o.dst (some r) = some f' → r.ok e' → Rel e' st' w' → Goes e st w e' st' w' → K (a.put o.dst (r.val e')) w') : o.wp C.P a w K Q := by
  have hev' := evOn_ok hev
  unfold stepE at h
  unfold Oper.wp
  split at h
  · rename_i r st2 hr
    split at h <;> first | (cases h; done) | skip
    rename_i f2 hf2
    cases h
    rw [opE_congr (ev' := evOn o.op.operands (evF C f)) (fun x hx => evOn_eq x hx)] at hr
    obtain ⟨e', w', nx, h1, h2, h3, h4⟩ := opE_ok hr hw hev'
    rw [h1]
    cases r with
    | none =>
      simp only at h4
      subst h4
      rw [Oper.upon_skip]
      have := hK (.tup []) e' w' hf2 (by simp [AV.ok, AV.oks]) h2 h3
      simpa [AV.val, AV.vals, undef] using this
    | some v =>
      simp only at h4
      obtain ⟨h5, rfl⟩ := h4
      rw [Oper.upon_value]
      exact hK v e' w' hf2 h5 h2 h3
  · split at h <;> first | (cases h; done) | skip
    rename_i g args hg
    split at h <;> first | (cases h; done) | skip
    rename_i v st2 hcall
    split at h <;> first | (cases h; done) | skip
    rename_i f2 hf2
    cases h
    rw [callOf_congr (ev' := evOn o.op.operands (evF C f)) (fun x hx => evOn_eq x hx)] at hg
    obtain ⟨h1, h2⟩ := callOf_ok hg w hev'
    rw [h1, Oper.upon_enter]
    refine (hc g args st v _ hcall e w hw he h2).mono ?_
    rintro en w' ⟨e', k1, k2, k3, rfl⟩
    exact hK v e' w' hf2 k3 k1 k2

theorem stepA_ok {C : Cx} {call : CallF} (hc : CallOk C call) {o : Oper} {f f' : Fm} {st st' : St} (h : stepA call C o f st = .ok (f', st')) {e : Env} {w : World} (hw : Rel e st w) (he : EnvOk C e) {a : Act}
    (hf : FmR e f a.tmps) {K : Act → World → Prop} {Q : Exit → Act → World → Prop} (hK : ∀ e' a' w', After C e st w a e' f' st' w' a' → K a' w') : o.wp C.P a w K Q := by
  unfold stepA at h
  cases hwr : writes o
  · rw [hwr] at h
    simp only [cond_false] at h
    split at h <;> first | (cases h; done) | skip
    rename_i y hy
    cases h
    exact stepN_ok hy hw he hf hK
  · rw [hwr] at h
    simp only [cond_true] at h
    exact stepE_ok hc h hw he (fun x _ => evF_ok hf he x) fun r e' w' h1 h2 h3 h4 =>
      hK e' _ w' ⟨h3, put_ok h1 (hf.le h4.le) (fun v hv => by cases hv; exact ⟨h2, rfl⟩), put_defers _ _ _, h4⟩

theorem wantedA_ok {ops : Array Oper} {o : Oper} {f : Fm} {b : Bool} (h : wantedA ops o f = some b) {e : Env} {t : Array Value} (hf : FmR e f t) : Region.wanted o (yielded ops t) = b := by
  unfold wantedA at h
  unfold Region.wanted
  split at h
  · cases h; rename_i hg; rw [hg]
  · rename_i j want hg
    rw [hg]
    simp only
    split at h <;> first | (cases h; done) | skip
    rename_i p hp
    split at h <;> first | (cases h; done) | skip
    rename_i d hd
    have hp' : ops[j]? = some p := by simpa using hp
    split at h <;> first | (cases h; done) | skip
    · rename_i bb hb
      cases h
      have := (hf.get d _ hb).2
      simp [yielded, hp', hd, this, AV.val]
    · rename_i l hl
      cases h
      have := (hf.get d _ hl).2
      simp [yielded, hp', hd, this, AV.val]

theorem wpOps_cons' {P : Program} {ops : Array Oper} {Q : Exit → Act → World → Prop} {i : Nat} {rest : List Nat} {a : Act} {w : World} {o : Oper} (ho : ops[i]? = some o) :
    wpOps P ops Q (i :: rest) a w = (if Region.wanted o (yielded ops a.tmps) then o.wp P a w (wpOps P ops Q rest) Q ∨ (o.asks P a w ∧ LetsOut Q) else wpOps P ops Q rest (a.put o.dst undef) w) := by
  simp [wpOps, ho]

theorem execOps_ok {C : Cx} {call : CallF} (hc : CallOk C call) {ops : Array Oper} {Q : Exit → Act → World → Prop} : ∀ (l : List Oper) (k : Nat) (f f' : Fm) (st st' : St) (e : Env) (w : World) (a : Act),
    (∀ j, l[j]? = ops[k + j]?) → execOps call C ops l f st = .ok (f', st') → Rel e st w → EnvOk C e → FmR e f a.tmps →
    (∀ e' a' w', After C e st w a e' f' st' w' a' → Q .normal a' w') → wpOps C.P ops Q (List.range' k l.length) a w
  | [], k, f, f', st, st', e, w, a, hl, h, hw, he, hf, hQ => by
    cases h
    exact hQ e a w ⟨hw, hf, rfl, Goes.refl _ _ _⟩
  | o :: l, k, f, f', st, st', e, w, a, hl, h, hw, he, hf, hQ => by
    have ho : ops[k]? = some o := by have := hl 0; simpa using this.symm
    have hl' : ∀ j, l[j]? = ops[k + 1 + j]? := fun j => by
      have := hl (j + 1)
      rw [show k + 1 + j = k + (j + 1) by omega, ← this]
      simp
    simp only [List.length_cons, List.range'_succ]
    rw [wpOps_cons' ho]
    simp only [execOps] at h
    split at h
    · cases h
    · rename_i hwa
      rw [wantedA_ok hwa hf]
      simp only [Bool.false_eq_true, if_false]
      split at h <;> first | (cases h; done) | skip
      rename_i f2 hf2
      have h2 : FmR e f2 (a.put o.dst undef).tmps := put_ok hf2 hf (fun v hv => by cases hv; simp [AV.ok, AV.oks, AV.val, AV.vals, undef])
      refine execOps_ok hc l (k + 1) f2 f' st st' e w _ hl' h hw he h2 fun e' a' w' h3 => hQ e' a' w' ⟨h3.rel, h3.fm, h3.defers.trans (put_defers _ _ _), h3.goes⟩
    · rename_i hwa
      rw [wantedA_ok hwa hf]
      simp only [if_true]
      left
      split at h <;> first | (cases h; done) | skip
      rename_i f2 st2 hs
      refine stepA_ok hc hs hw he hf fun e1 a1 w1 h1 => ?_
      exact execOps_ok hc l (k + 1) f2 f' st2 st' e1 w1 a1 hl' h h1.rel (he.le h1.goes.le) h1.fm fun e' a' w' h3 => hQ e' a' w' (h1.trans h3)

end Go.Sx

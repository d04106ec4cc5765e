/- Regions whose order is open: what is ahead of the run, and what is behind it. -/
import Derived.Test.YtmjnogcbdombaaaGreatDoorSxQ
set_option linter.all false
namespace Go.Sx
set_option linter.unusedSimpArgs false

theorem AVsame_all : ∀ (n : Nat) (a b : AV), SizeOf.sizeOf a ≤ n → a.same b = true → a = b := by
  intro n
  induction n with
  | zero => intro a b h; cases a <;> simp at h
  | succ n ih =>
    have lists : ∀ (l r : List AV), SizeOf.sizeOf l ≤ n → AV.sames l r = true → l = r := by
      intro l
      induction l with
      | nil => intro r _ h; cases r <;> simp_all [AV.sames]
      | cons x l ihl =>
        intro r hs h
        cases r with
        | nil => simp [AV.sames] at h
        | cons y r =>
          simp only [AV.sames, Bool.and_eq_true] at h
          simp only [List.cons.sizeOf_spec] at hs
          rw [ih x y (by omega) h.1, ihl r (by omega) h.2]
    intro a b hs h
    cases a <;> cases b <;> simp only [AV.same, Bool.and_eq_true, decide_eq_true_eq, beq_iff_eq] at h <;> first | (cases h; done) | skip
    case bool.bool => rw [h]
    case int.int => rw [h.1, SI.same_eq h.2]
    case str.str => rw [h]
    case ptr.ptr => rw [Nat.eq_of_beq_eq_true h.1, Nat.eq_of_beq_eq_true h.2]
    case nilp.nilp => rfl
    case slice.slice b1 o1 l1 c1 b2 o2 l2 c2 =>
      have hc : c1 = c2 := by
        have hc' := h.2
        cases c1 <;> cases c2 <;> simp only [SC.same, Bool.and_eq_true] at hc' <;> first | (cases hc'; done) | skip
        · rw [Nat.eq_of_beq_eq_true hc']
        · rw [Nat.eq_of_beq_eq_true hc'.1, Nat.eq_of_beq_eq_true hc'.2]
      rw [Nat.eq_of_beq_eq_true h.1.1.1, Nat.eq_of_beq_eq_true h.1.1.2, Nat.eq_of_beq_eq_true h.1.2, hc]
    case nilSlice.nilSlice => rfl
    case map.map => rw [Nat.eq_of_beq_eq_true h]
    case nilMap.nilMap => rfl
    case fn.fn =>
      simp only [AV.fn.sizeOf_spec] at hs
      rw [h.1.1, lists _ _ (by omega) h.1.2, lists _ _ (by omega) h.2]
    case yield.yield => rw [Nat.eq_of_beq_eq_true h]
    case nilFn.nilFn => rfl
    case iface.iface =>
      simp only [AV.iface.sizeOf_spec] at hs
      rw [Nat.eq_of_beq_eq_true h.1, ih _ _ (by omega) h.2]
    case nilIface.nilIface => rfl
    case agg.agg =>
      simp only [AV.agg.sizeOf_spec] at hs
      rw [lists _ _ (by omega) h]
    case tup.tup =>
      simp only [AV.tup.sizeOf_spec] at hs
      rw [lists _ _ (by omega) h]
    case any.any => rw [Nat.eq_of_beq_eq_true h]

theorem AV.same_eq {a b : AV} (h : a.same b = true) : a = b := AVsame_all _ a b (Nat.le_refl _) h

/-! ### Operations that do not write, in two kinds -/
def quietV (C : Cx) (st : St) (ev : Operand → Option AV) (o : Oper) : Option (Option AV) :=
  match opR C.P C.fx st ev o with
  | some r => some r
  | none => match o.op with
    | .build t parts => match opB C.P ev t parts.toList with
      | some v => some (some v)
      | none => none
    | _ => none

theorem quietV_congr {C : Cx} {st : St} {ev ev' : Operand → Option AV} {o : Oper} (h : ∀ x ∈ o.op.operands, ev x = ev' x) : quietV C st ev o = quietV C st ev' o := by
  unfold quietV
  rw [opR_congr h]
  split
  · rfl
  · split
    · rename_i t parts hop
      have hops : o.op.operands = (parts.toList.map (·.2)).toArray := by rw [hop]; rfl
      rw [opB_congr (fun x hx => h x (by rw [hops]; simpa using hx))]
    · rfl

theorem quietV_st {C : Cx} {st st' : St} {ev : Operand → Option AV} {o : Oper} (h : reads o = false) : quietV C st ev o = quietV C st' ev o := by
  unfold quietV
  rw [opR_st h]

theorem quiet_run {C : Cx} {st : St} {ev : Operand → Option AV} {o : Oper} {r : Option AV} (h : quietV C st ev o = some r) {e : Env} {w : World} (hw : Rel e st w) (he : EnvOk C e) {ρ : Operand → Value}
    (hev : ∀ x ∈ o.op.operands, ∀ v, ev x = some v → v.ok e ∧ ρ x = v.val e) : ∃ x, (execOp ρ o).run C.P w = .ok (.value x) w ∧ ∀ v, r = some v → v.ok e ∧ x = v.val e := by
  have hev' := evOn_ok hev
  rw [quietV_congr (ev' := evOn o.op.operands ev) (fun x hx => evOn_eq x hx)] at h
  unfold quietV at h
  split at h
  · rename_i r' hr
    cases h
    exact opR_ok hr hw he.fx hev'
  · split at h <;> first | (cases h; done) | skip
    rename_i t parts hop
    split at h <;> first | (cases h; done) | skip
    rename_i v hv
    cases h
    obtain ⟨h1, h2⟩ := opB_ok hv w hev'
    refine ⟨v.val e, ?_, fun u hu => by cases hu; exact ⟨h2, rfl⟩⟩
    simp only [execOp, hop, Sem.run_bind, h1, Result.andThen_ok, Sem.run_pure]

theorem stepN_kinds {C : Cx} {o : Oper} {f f' : Fm} {st st' : St} (h : stepN C o f st = some (f', st')) :
    (∃ r, quietV C st (evF C f) o = some r ∧ f.put o.dst r = some f' ∧ st' = st) ∨
    (∃ fr, opF C.P (evF C f) o = some fr ∧ f.put o.dst (some (fr.ptr st.next)) = some f' ∧ st' = st.new fr.blk) := by
  unfold stepN at h
  split at h
  · rename_i r hr
    split at h <;> first | (cases h; done) | skip
    rename_i f2 hf2
    cases h
    exact .inl ⟨r, by simp [quietV, hr], hf2, rfl⟩
  · rename_i hr
    split at h
    · rename_i fr hfr
      split at h <;> first | (cases h; done) | skip
      rename_i f2 hf2
      cases h
      exact .inr ⟨fr, hfr, hf2, rfl⟩
    · split at h <;> first | (cases h; done) | skip
      rename_i t parts hop
      split at h <;> first | (cases h; done) | skip
      rename_i v hv
      split at h <;> first | (cases h; done) | skip
      rename_i f2 hf2
      cases h
      exact .inl ⟨some v, by simp [quietV, hr, hop, hv], hf2, rfl⟩

/-! ### Blocks that are not born yet -/
theorem Rel.unborn {e : Env} {st : St} {w : World} (h : Rel e st w) (blk : Blk) : Rel e (st.new blk) w := by
  have hf := h.fresh st.next (Nat.le_refl _)
  refine ⟨?_, ?_, ?_, h.cap⟩
  · intro b u n hu hn
    rcases St.get_new hu with ⟨rfl, _⟩ | ⟨_, q⟩
    · rw [hf.1] at hn; cases hn
    · exact h.hb b u n q hn
  · intro b b' u u' n hu hu' hn hn'
    rcases St.get_new hu with ⟨rfl, _⟩ | ⟨_, q⟩
    · rw [hf.1] at hn; cases hn
    · rcases St.get_new hu' with ⟨rfl, _⟩ | ⟨_, q'⟩
      · rw [hf.1] at hn'; cases hn'
      · exact h.inj b b' u u' n q q' hn hn'
  · intro b hb
    exact h.fresh b (by have : st.next + 1 ≤ b := hb; omega)

theorem Goes.unborn_new {e0 e : Env} {st0 st : St} {w0 w : World} (h : Goes e0 st0 w0 e st w) (hf : e.blk st.next = none) (blk : Blk) : Goes e0 st0 w0 e (st.new blk) w where
  le := h.le
  next := Nat.le_succ_of_le h.next
  size := h.size
  os := h.os
  tape := h.tape
  output := h.output
  keep := h.keep
  own := fun b u n hu hw hn => by
    rcases St.get_new hu with ⟨rfl, _⟩ | ⟨_, q⟩
    · rw [hf] at hn; cases hn
    · exact h.own b u n q hw hn
  unborn := fun b hb hn => by
    obtain ⟨a, c⟩ := h.unborn b hb hn
    refine ⟨fun u hu => ?_, c⟩
    rcases St.get_new hu with ⟨q, _⟩ | ⟨_, q⟩
    · have := h.next; omega
    · exact a u q

theorem Goes.birth {e0 e : Env} {st0 st : St} {w0 w w' : World} (h : Goes e0 st0 w0 e st w) {b : Nat} {c : Option Nat} (hm : More w w') (hb1 : e.blk b = none) (hb2 : e.cap b = none) (hb : st0.next ≤ b) :
    Goes e0 st0 w0 (e.bear b w.heap.size c) st w' where
  le := h.le.trans (Env.le_bear hb1 hb2)
  next := h.next
  size := by have := h.size; rw [hm.size]; omega
  os := hm.os.trans h.os
  tape := hm.tape.trans h.tape
  output := hm.output.trans h.output
  keep := fun n hn hno => by rw [hm.old n (Nat.lt_of_lt_of_le hn h.size)]; exact h.keep n hn hno
  own := fun i u n hu hw hn => by
    by_cases hi : i = b
    · subst hi
      simp [Env.bear] at hn
      left; rw [← hn]; exact h.size
    · simp [Env.bear, hi] at hn
      exact h.own i u n hu hw hn
  unborn := fun i hi hn => by
    obtain ⟨a, d⟩ := h.unborn i hi hn
    have : i ≠ b := by omega
    exact ⟨a, by simp [Env.bear, this, d]⟩

/-! ### An operation that has been carried out symbolically, but not yet in the run -/
def Pend (C : Cx) (ops : Array Oper) (st0 : St) (e : Env) (st : St) (f : Fm) (rd : List (Nat × Oper)) (β : Nat → Option Nat) (i : Nat) (o : Oper) : Prop :=
  writes o = false ∧ (∀ d, o.dst = some d → d < f.n) ∧
  ((wantedA ops o f = some false ∧ ∀ d u, o.dst = some d → f.tm.get d = some u → u = .tup []) ∨
   (wantedA ops o f = some true ∧ (i, o) ∈ rd ∧ ∃ r, quietV C st (evF C f) o = some r ∧ ∀ d u, o.dst = some d → f.tm.get d = some u → r = some u) ∨
   (wantedA ops o f = some true ∧ ∃ fr b, opF C.P (evF C f) o = some fr ∧ β i = some b ∧ st0.next ≤ b ∧ b < st.next ∧ e.blk b = none ∧ (∀ blk, st.heap.get b = some blk → blk = fr.blk) ∧
     ∀ d u, o.dst = some d → f.tm.get d = some u → u = fr.ptr b))

def Lst (listed : Array Bool) (i : Nat) : Prop := listed.getD i false = true

structure DPre (C : Cx) (call : CallF) (ops : Array Oper) (e0 : Env) (st0 : St) (w0 : World) (a0 : Act) (fz : Fm) (stz : St)
    (rest : List Nat) (done : Nat) (f : Fm) (st : St) (rd : List (Nat × Oper)) (e : Env) (β : Nat → Option Nat) (listed : Array Bool) (a : Act) (w : World) : Prop where
  order : okOrder (pwOf ops.toList) rest done = true
  go : drawGo call C ops (pwOf ops.toList) rest f st rd = .ok (fz, stz)
  lsize : listed.size = ops.size
  lsub : ∀ i, Lst listed i → Nat.testBit done i = true
  wr : ∀ i o, ops.toList[i]? = some o → Nat.testBit done i = true → writes o = true → Lst listed i
  down : ∀ i p k, (predsOf ops.toList)[i]? = some p → Lst listed i → Nat.testBit p k = true → Lst listed k
  ddown : ∀ i p k, (predsOf ops.toList)[i]? = some p → Nat.testBit done i = true → Nat.testBit p k = true → Nat.testBit done k = true
  rel : Rel e st w
  env : EnvOk C e
  goes : Goes e0 st0 w0 e st w
  defers : a.defers = a0.defers
  size : a.tmps.size = f.n
  tm : ∀ t v, f.tm.get t = some v → (∀ i o, ops.toList[i]? = some o → Nat.testBit done i = true → ¬ Lst listed i → o.dst ≠ some t) → v.ok e ∧ a.tmps[t]? = some (v.val e)
  pend : ∀ i o, ops.toList[i]? = some o → Nat.testBit done i = true → ¬ Lst listed i → Pend C ops st0 e st f rd β i o
  dist : ∀ i j b, i ≠ j → Nat.testBit done i = true → ¬ Lst listed i → Nat.testBit done j = true → ¬ Lst listed j → β i = some b → β j ≠ some b
  bnd : ∀ i b, Nat.testBit done i = true → ¬ Lst listed i → β i = some b → b < st.next

/-- What the plan promises. -/
structure Plan (ops : Array Oper) : Prop where
  ahead : ∀ j p, (predsOf ops.toList)[j]? = some p → p < 2 ^ j
  dist : ∀ (i j : Nat) (o q : Oper) (d : Tmp), ops.toList[i]? = some o → ops.toList[j]? = some q → o.dst = some d → q.dst = some d → i = j
  looks : ∀ (j : Nat) (o : Oper) (p : Nat), ops.toList[j]? = some o → (predsOf ops.toList)[j]? = some p → ∀ (i : Nat) (q : Oper) (d : Tmp), ops.toList[i]? = some q → q.dst = some d → d ∈ o.looksAt ops → Nat.testBit p i = true

theorem Plan.of {ops : Array Oper} {ord : List Nat} (h : planOk ops ord = true) : Plan ops ∧ okOrder (pwOf ops.toList) ord 0 = true := by
  unfold planOk at h
  simp only [Bool.and_eq_true] at h
  obtain ⟨⟨⟨⟨h1, h2⟩, h3⟩, h4⟩, _⟩ := h
  refine ⟨⟨fun j p hp => by simpa using aheadOk_spec _ 0 h2 j p hp, distinct_spec _ h3, fun j o p ho hp i q d hq hd hm => ?_⟩, h1⟩
  have := looksOk_spec _ _ _ 0 (allLooks_spec _ _ h4 j o p ho hp) i q d hq hd hm
  simpa using this

theorem looks_tmp {ops : Array Oper} {o : Oper} {t : Tmp} (h : Operand.tmp t ∈ o.op.operands) : t ∈ o.looksAt ops := by
  unfold Oper.looksAt
  rw [List.mem_append]
  left
  rw [List.mem_filterMap]
  exact ⟨.tmp t, by simpa using h, rfl⟩

theorem looks_guard {ops : Array Oper} {o q : Oper} {g : Nat} {b : Bool} {d : Tmp} (h : o.guard = some (g, b)) (hq : ops.toList[g]? = some q) (hd : q.dst = some d) : d ∈ o.looksAt ops := by
  unfold Oper.looksAt
  rw [List.mem_append]
  right
  have hq' : ops[g]? = some q := by simpa using hq
  rw [h]
  simp [hq', hd]

/-- A guard, of which only what it looks at needs to be known. -/
theorem wantedA_ok' {ops : Array Oper} {o : Oper} {f : Fm} {b : Bool} (h : wantedA ops o f = some b) {e : Env} {t : Array Value}
    (hf : ∀ d v, d ∈ o.looksAt ops → f.tm.get d = some v → v.ok e ∧ t[d]? = some (v.val e)) : Region.wanted o (yielded ops t) = b := by
  unfold wantedA at h
  unfold Region.wanted
  split at h
  · cases h; rename_i hg; rw [hg]
  · rename_i j want hg
    rw [hg]
    simp only
    split at h <;> first | (cases h; done) | skip
    rename_i p hp
    split at h <;> first | (cases h; done) | skip
    rename_i d hd
    have hp' : ops[j]? = some p := by simpa using hp
    have hl := looks_guard hg hp hd
    split at h <;> first | (cases h; done) | skip
    · rename_i bb hb
      cases h
      have := (hf d _ hl hb).2
      simp [yielded, hp', hd, this, AV.val]
    · rename_i l hl'
      cases h
      have := (hf d _ hl hl').2
      simp [yielded, hp', hd, this, AV.val]

theorem wantedA_congr {ops : Array Oper} {o : Oper} {f f' : Fm} (h : ∀ d, d ∈ o.looksAt ops → f'.tm.get d = f.tm.get d) : wantedA ops o f' = wantedA ops o f := by
  unfold wantedA
  split
  · rfl
  · rename_i j want hg
    split
    · rfl
    · rename_i p hp
      split
      · rfl
      · rename_i d hd
        rw [h d (looks_guard hg hp hd)]

end Go.Sx

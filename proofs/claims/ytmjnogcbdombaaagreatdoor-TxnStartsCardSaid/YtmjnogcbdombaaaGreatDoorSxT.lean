/- Regions whose order is open: the run's own steps. -/
import Derived.Test.YtmjnogcbdombaaaGreatDoorSxS
set_option linter.all false
namespace Go.Sx
set_option linter.unusedSimpArgs false

theorem lst_set {listed : Array Bool} {i j : Nat} (hi : i < listed.size) : Lst (listed.setIfInBounds i true) j ↔ (Lst listed j ∨ j = i) := by
  unfold Lst
  by_cases hji : j = i
  · subst hji; simp [hi]
  · simp only [Array.getD_eq_getD_getElem?]
    rw [Array.getElem?_setIfInBounds_ne (fun q => hji q.symm)]
    simp [hji]

section
variable {C : Cx} {call : CallF} {ops : Array Oper} {e0 : Env} {st0 : St} {w0 : World} {a0 : Act} {fz : Fm} {stz : St}

/-- The operands of an operation whose turn it is are known. -/
theorem DPre.operands {pl : Plan ops} {rest : List Nat} {done : Nat} {f : Fm} {st : St} {rd : List (Nat × Oper)} {e : Env} {β : Nat → Option Nat} {listed : Array Bool} {a : Act} {w : World}
    (h : DPre C call ops e0 st0 w0 a0 fz stz rest done f st rd e β listed a w) {i p : Nat} {o : Oper} (ho : ops.toList[i]? = some o) (hp : (predsOf ops.toList)[i]? = some p) (hl : ∀ k, Nat.testBit p k = true → Lst listed k) :
    (∀ d v, d ∈ o.looksAt ops → f.tm.get d = some v → v.ok e ∧ a.tmps[d]? = some (v.val e)) ∧
    ∀ x ∈ o.op.operands, ∀ v, evF C f x = some v → v.ok e ∧ a.eval x = v.val e := by
  have h1 : ∀ d v, d ∈ o.looksAt ops → f.tm.get d = some v → v.ok e ∧ a.tmps[d]? = some (v.val e) := fun d v hd hv =>
    h.tm d v hv fun j q hq hj hjl hqd => hjl (hl j (pl.looks i o p ho hp j q d hq hqd hd))
  refine ⟨h1, fun x hx v hv => ?_⟩
  cases x with
  | tmp t =>
    obtain ⟨k1, k2⟩ := h1 t v (looks_tmp hx) hv
    exact ⟨k1, by simp [Act.eval, k2]⟩
  | const c =>
    obtain ⟨k1, k2⟩ := lift_ok e c v hv
    exact ⟨k1, k2.symm⟩
  | global g =>
    obtain ⟨k1, rfl⟩ := bif_some hv
    have := h.env.glob g (Nat.le_of_ble_eq_true k1)
    exact ⟨by simp [AV.ok, this], by simp [Act.eval, AV.val, this]⟩
  | func g =>
    simp only [evF, Option.some.injEq] at hv
    subst hv
    exact ⟨by simp [AV.ok, AV.oks], by simp [Act.eval, AV.val, AV.vals]⟩

/-- The run carries out an operation that the symbolic run has behind it. -/
theorem DPre.behind {rest : List Nat} {done : Nat} {f : Fm} {st : St} {rd : List (Nat × Oper)} {e e' : Env} {β : Nat → Option Nat} {listed : Array Bool} {a : Act} {w w' : World}
    (h : DPre C call ops e0 st0 w0 a0 fz stz rest done f st rd e β listed a w) {i p : Nat} {o : Oper} (ho : ops.toList[i]? = some o) (hp : (predsOf ops.toList)[i]? = some p)
    (hd : Nat.testBit done i = true) (hnl : ¬ Lst listed i) (hl : ∀ k, Nat.testBit p k = true → Lst listed k) (hle : e.le e') (hrel : Rel e' st w') (hgoes : Goes e0 st0 w0 e' st w') {x : Value}
    (hlt : ∀ d, o.dst = some d → d < f.n) (hx : ∀ d u, o.dst = some d → f.tm.get d = some u → u.ok e' ∧ x = u.val e') (hpl : Plan ops)
    (hun : ∀ j b, j ≠ i → Nat.testBit done j = true → ¬ Lst listed j → β j = some b → e.blk b = none → e'.blk b = none) :
    DPre C call ops e0 st0 w0 a0 fz stz rest done f st rd e' β (listed.setIfInBounds i true) (a.put o.dst x) w' := by
  have hin : i < listed.size := by rw [h.lsize]; have := (List.getElem?_eq_some_iff.1 ho).1; simpa using this
  have hset := fun j => lst_set (listed := listed) (i := i) (j := j) hin
  refine ⟨h.order, h.go, by simp [h.lsize], ?_, fun j q hq hj hw => (hset j).2 (.inl (h.wr j q hq hj hw)), ?_, h.ddown, hrel, h.env.le hle, hgoes, (put_defers _ _ _).trans h.defers, ?_, ?_, ?_, ?_, ?_⟩
  · intro j hj
    rcases (hset j).1 hj with hj | rfl
    · exact h.lsub j hj
    · exact hd
  · intro j pj k hpj hj hk
    rcases (hset j).1 hj with hj | rfl
    · exact (hset k).2 (.inl (h.down j pj k hpj hj hk))
    · rw [hp] at hpj; cases hpj
      exact (hset k).2 (.inl (hl k hk))
  · cases hdst : o.dst with
    | none => exact h.size
    | some d => simp [Act.put, h.size]
  · intro t v ht hno
    by_cases hdt : o.dst = some t
    · obtain ⟨k1, k2⟩ := hx t v hdt ht
      refine ⟨k1, ?_⟩
      have := hlt t hdt
      rw [hdt]
      simp [Act.put, h.size, this, k2]
    · have := h.tm t v ht fun j q hq hj hjl hqd => by
        by_cases hji : j = i
        · subst hji; rw [ho] at hq; cases hq; exact hdt hqd
        · exact hno j q hq hj (fun hjs => by
            rcases (hset j).1 hjs with hjs | hjs
            · exact hjl hjs
            · exact hji hjs) hqd
      refine ⟨(AV.val_le hle v this.1).2, ?_⟩
      rw [(AV.val_le hle v this.1).1]
      cases hdst : o.dst with
      | none => exact this.2
      | some d =>
        simp only [Act.put]
        rw [Array.getElem?_setIfInBounds_ne (by rintro rfl; exact hdt hdst)]
        exact this.2
  · intro j q hq hj hjl
    have hjl' : ¬ Lst listed j := fun hjs => hjl ((hset j).2 (.inl hjs))
    have hji : j ≠ i := fun hjs => hjl ((hset j).2 (.inr hjs))
    obtain ⟨k1, k2, k3⟩ := h.pend j q hq hj hjl'
    refine ⟨k1, k2, k3.imp id (Or.imp id ?_)⟩
    rintro ⟨c1, fr, b, c2, c3, c4, c5, c6, c7⟩
    exact ⟨c1, fr, b, c2, c3, c4, c5, hun j b hji hj hjl' c3 c6, c7⟩
  · intro j k b hjk hj hjl hk hkl hb
    exact h.dist j k b hjk hj (fun q => hjl ((hset j).2 (.inl q))) hk (fun q => hkl ((hset k).2 (.inl q))) hb
  · intro j b hj hjl hb
    exact h.bnd j b hj (fun q => hjl ((hset j).2 (.inl q))) hb

/-- A frontier: what comes next writes. -/
def Front (ops : Array Oper) : List Nat → Prop
  | [] => True
  | i :: _ => ∀ o, ops.toList[i]? = some o → writes o = true

theorem DPre.advance (pl : Plan ops) : ∀ (rest : List Nat) {done : Nat} {f : Fm} {st : St} {rd : List (Nat × Oper)} {e : Env} {β : Nat → Option Nat} {listed : Array Bool} {a : Act} {w : World},
    DPre C call ops e0 st0 w0 a0 fz stz rest done f st rd e β listed a w →
    ∃ rest' done' f' st' rd' β', DPre C call ops e0 st0 w0 a0 fz stz rest' done' f' st' rd' e β' listed a w ∧ Front ops rest'
  | [], done, f, st, rd, e, β, listed, a, w, h => ⟨[], done, f, st, rd, β, h, trivial⟩
  | i :: r, done, f, st, rd, e, β, listed, a, w, h => by
    by_cases hw : ∀ o, ops.toList[i]? = some o → writes o = true
    · exact ⟨i :: r, done, f, st, rd, β, h, hw⟩
    · have hwr : ∀ o, ops.toList[i]? = some o → writes o = false := fun o ho => by
        cases hwo : writes o
        · rfl
        · exact absurd (fun q hq => by rw [ho] at hq; cases hq; exact hwo) hw
      obtain ⟨f', st', rd', β', h'⟩ := h.ahead (pl := pl) h.goes.next hwr
      exact DPre.advance pl r h'

theorem filter_lt {p q : Nat → Bool} : ∀ (l : List Nat) (x : Nat), x ∈ l → p x = true → q x = false → (∀ y, q y = true → p y = true) → (l.filter q).length < (l.filter p).length
  | [], x, h, _, _, _ => by simp at h
  | y :: l, x, h, hp, hq, himp => by
    have hle : (l.filter q).length ≤ (l.filter p).length := by
      clear h
      induction l with
      | nil => simp
      | cons z l ih =>
        simp only [List.filter_cons]
        cases hqz : q z
        · cases hpz : p z <;> simp <;> omega
        · rw [himp z hqz]; simp; exact ih
    simp only [List.filter_cons]
    rcases List.mem_cons.1 h with rfl | h
    · rw [hp, hq]; simp; omega
    · have := filter_lt l x h hp hq himp
      cases hqy : q y
      · cases hpy : p y <;> simp <;> omega
      · rw [himp y hqy]; simp; exact this

/-- How many have not been carried out. -/
def left (ops : Array Oper) (listed : Array Bool) : Nat := ((List.range ops.size).filter fun i => !listed.getD i false).length

/-- Every order comes to the same. -/
theorem DPre.wpAny (pl : Plan ops) (hc : CallOk C call) {Q : Exit → Act → World → Prop} (hQ : ∀ e' a' w', After C e0 st0 w0 a0 e' fz stz w' a' → Q .normal a' w') :
    ∀ (fuel : Nat) (rest : List Nat) (done : Nat) (f : Fm) (st : St) (rd : List (Nat × Oper)) (e : Env) (β : Nat → Option Nat) (listed : Array Bool) (a : Act) (w : World),
    DPre C call ops e0 st0 w0 a0 fz stz rest done f st rd e β listed a w → left ops listed ≤ fuel → wpAny C.P .any ops Q fuel listed a w := by
  intro fuel
  induction fuel with
  | zero =>
    intro rest done f st rd e β listed a w h0 hfuel
    obtain ⟨rest, done, f, st, rd, β, h, hfr⟩ := h0.advance pl
    have hall : ∀ i, i < ops.size → Lst listed i := fun i hi => by
      unfold left at hfuel
      have hnil : ((List.range ops.size).filter fun i => !listed.getD i false) = [] := List.eq_nil_of_length_eq_zero (by omega)
      rw [List.filter_eq_nil_iff] at hnil
      have := hnil i (by simpa using hi)
      unfold Lst
      simpa using this
    have hnil : rest = [] := by
      cases rest with
      | nil => rfl
      | cons i r =>
        obtain ⟨p, wr, hn⟩ := okOrder_cons h.order
        obtain ⟨hp, o, ho, _⟩ := pw_get hn.at_
        have hi : i < ops.size := by have := (List.getElem?_eq_some_iff.1 ho).1; simpa using this
        have := h.lsub i (hall i hi)
        rw [hn.new] at this; cases this
    subst hnil
    refine ⟨?_, ?_⟩
    · unfold Region.ready
      rw [List.filter_eq_nil_iff]
      intro i hi
      have hi : i < ops.size := by simpa using hi
      have := hall i hi
      have hil : i < listed.size := by rw [h.lsize]; exact hi
      unfold Lst at this
      have h3 : listed.getD i true = true := by simp [hil] at this ⊢; exact this
      simp [h3]
    · have hgo := h.go
      simp only [drawGo, Rs.ok.injEq, Prod.mk.injEq] at hgo
      obtain ⟨rfl, rfl⟩ := hgo
      refine hQ e a w ⟨h.rel, ⟨h.size, fun t v hv => h.tm t v hv fun i o ho _ hl => ?_⟩, h.defers, h.goes⟩
      have hi : i < ops.size := by have := (List.getElem?_eq_some_iff.1 ho).1; simpa using this
      exact absurd (hall i hi) hl
  | succ fuel ih =>
    intro rest done f st rd e β listed a w h0 hfuel
    obtain ⟨rest, done, f, st, rd, β, h, hfr⟩ := h0.advance pl
    have hready : ∀ i, i ∈ Region.ready .any ops listed ↔ (i < ops.size ∧ ¬ Lst listed i ∧ ∀ o, ops.toList[i]? = some o → ∀ ed ∈ o.after, Region.binds .any ed = true → Lst listed ed.on) := by
      intro i
      unfold Region.ready
      rw [List.mem_filter]
      simp only [List.mem_range]
      constructor
      · rintro ⟨hi, h2⟩
        have hil : i < listed.size := by rw [h.lsize]; exact hi
        simp only [Bool.and_eq_true, Bool.not_eq_true'] at h2
        refine ⟨hi, ?_, fun o ho ed hed hb => ?_⟩
        · unfold Lst
          have := h2.1
          simp [hil] at this ⊢
          exact this
        · have ho' : ops[i]? = some o := by simpa using ho
          have h3 := h2.2
          rw [ho'] at h3
          simp only [Option.map_some, Option.getD_some, Array.all_eq_true_iff_forall_mem] at h3
          have := h3 ed hed
          rw [hb] at this
          unfold Lst
          simpa using this
      · rintro ⟨hi, h2, h3⟩
        have hil : i < listed.size := by rw [h.lsize]; exact hi
        refine ⟨hi, ?_⟩
        simp only [Bool.and_eq_true, Bool.not_eq_true']
        refine ⟨by unfold Lst at h2; simp [hil] at h2 ⊢; exact h2, ?_⟩
        have ho : ops[i]? = some ops[i] := Array.getElem?_eq_getElem hi
        rw [ho]
        simp only [Option.map_some, Option.getD_some, Array.all_eq_true_iff_forall_mem]
        intro ed hed
        cases hb : Region.binds .any ed
        · simp
        · have := h3 ops[i] (by simpa using ho) ed hed hb
          unfold Lst at this
          simpa using this
    have hbits : ∀ i, i ∈ Region.ready .any ops listed → ∀ p, (predsOf ops.toList)[i]? = some p → ∀ k, Nat.testBit p k = true → Lst listed k := by
      intro i hi p hp k hk
      obtain ⟨hlt, _, h3⟩ := (hready i).1 hi
      have ho : ops.toList[i]? = some ops[i] := by simpa using Array.getElem?_eq_getElem hlt
      obtain ⟨ed, he1, he2, he3⟩ := preds_inv ho hp hk
      have hl := h3 ops[i] ho ed he1 he2
      rcases he3 with rfl | ⟨q, hq, hqk⟩
      · exact hl
      · exact h.down ed.on q k hq hl hqk
    have hless : ∀ i, i < ops.size → ¬ Lst listed i → left ops (listed.setIfInBounds i true) ≤ fuel := by
      intro i hi hl
      have hil : i < listed.size := by rw [h.lsize]; exact hi
      have hlt : left ops (listed.setIfInBounds i true) < left ops listed := by
        unfold left
        refine filter_lt _ i (by simpa using hi) ?_ ?_ ?_
        · unfold Lst at hl; simpa using hl
        · have := (lst_set (listed := listed) (i := i) (j := i) hil).2 (.inr rfl)
          unfold Lst at this
          rw [this]; rfl
        · intro y hy
          cases hq : listed.getD y false
          · rfl
          · have := (lst_set (listed := listed) (i := i) (j := y) hil).2 (.inl hq)
            unfold Lst at this
            rw [this] at hy; cases hy
      omega
    refine ⟨fun hnil => ?_, fun i hi => ?_⟩
    · -- nothing is left
      have hall : ∀ i, i < ops.size → Lst listed i := by
        intro i
        induction i using Nat.strongRecOn with
        | _ i ihi =>
          intro hi
          refine Classical.byContradiction fun hl => ?_
          have ho : ops.toList[i]? = some ops[i] := by simpa using Array.getElem?_eq_getElem hi
          obtain ⟨p, _, hp⟩ := pw_of ho
          have hmem : i ∈ Region.ready .any ops listed := (hready i).2 ⟨hi, hl, fun o ho' ed hed hb => by
            rw [ho] at ho'; cases ho'
            have hk := preds_edge ho hp hed hb
            have hlt : ed.on < i := by
              refine Classical.byContradiction fun hge => ?_
              have h1 := pl.ahead i p hp
              have h2 : p < 2 ^ ed.on := Nat.lt_of_lt_of_le h1 (Nat.pow_le_pow_right (by omega) (by omega))
              rw [Nat.testBit_lt_two_pow h2] at hk; cases hk
            exact ihi ed.on hlt (by omega)⟩
          rw [hnil] at hmem
          cases hmem
      have hnil' : rest = [] := by
        cases rest with
        | nil => rfl
        | cons i r =>
          obtain ⟨p, wr, hn⟩ := okOrder_cons h.order
          obtain ⟨hp, o, ho, _⟩ := pw_get hn.at_
          have hi : i < ops.size := by have := (List.getElem?_eq_some_iff.1 ho).1; simpa using this
          have := h.lsub i (hall i hi)
          rw [hn.new] at this; cases this
      subst hnil'
      have hgo := h.go
      simp only [drawGo, Rs.ok.injEq, Prod.mk.injEq] at hgo
      obtain ⟨rfl, rfl⟩ := hgo
      refine hQ e a w ⟨h.rel, ⟨h.size, fun t v hv => h.tm t v hv fun i o ho _ hl => ?_⟩, h.defers, h.goes⟩
      have hi : i < ops.size := by have := (List.getElem?_eq_some_iff.1 ho).1; simpa using this
      exact absurd (hall i hi) hl
    · -- one comes
      obtain ⟨hlt, hnl, _⟩ := (hready i).1 hi
      have ho : ops.toList[i]? = some ops[i] := by simpa using Array.getElem?_eq_getElem hlt
      have ho' : ops[i]? = some ops[i] := Array.getElem?_eq_getElem hlt
      generalize ops[i] = o at ho ho'
      obtain ⟨p, hpw, hp⟩ := pw_of ho
      have hpl := hbits i hi p hp
      obtain ⟨hlk, hev⟩ := h.operands (pl := pl) ho hp hpl
      unfold wpOp
      rw [ho']
      simp only
      cases hd : Nat.testBit done i
      · -- it writes: it is the one that comes next
        have hhead : ∃ r, rest = i :: r := by
          cases rest with
          | nil =>
            have := okOrder_nil h.order i (by rw [pw_length]; simpa using hlt)
            rw [hd] at this; cases this
          | cons j r =>
            refine ⟨r, ?_⟩
            obtain ⟨pj, wr, hn⟩ := okOrder_cons h.order
            obtain ⟨hpj, oj, hoj, hwj⟩ := pw_get hn.at_
            have hwt := hfr oj hoj
            rw [hwt] at hwj
            obtain ⟨al1, al2⟩ := hn.alone hwj.symm
            cases hwo : writes o
            · rw [hwo] at hpw
              exact absurd (within_of fun k hk => h.lsub k (hpl k hk)) (noneReady_spec _ done 0 al1 i p hpw (by simpa using hd))
            · rw [hwo] at hpw
              by_cases hij : i = j
              · rw [hij]
              · have := allWait_spec _ done j 0 al2 i p hpw (by simpa using hd) (by omega)
                have := h.lsub j (hpl j this)
                rw [hn.new] at this; cases this
        obtain ⟨r, rfl⟩ := hhead
        obtain ⟨p', wr, hn⟩ := okOrder_cons h.order
        have hpp : p' = p := by have := hn.at_; rw [hpw] at this; cases this; rfl
        subst hpp
        have hbit : ∀ k, Nat.testBit (done ||| (1 <<< i)) k = true ↔ (Nat.testBit done k = true ∨ k = i) := fun k => by rw [bit_done]; simp
        have hin : i < listed.size := by rw [h.lsize]; exact hlt
        have hset := fun j => lst_set (listed := listed) (i := i) (j := j) hin
        have hgo := h.go
        simp only [drawGo, ho] at hgo
        have hothers : ∀ j q, ops.toList[j]? = some q → Nat.testBit done j = true → ∀ d, o.dst = some d → d ∉ q.looksAt ops := fun j q hq hj d hdd hm => by
          obtain ⟨pj, _, hpj⟩ := pw_of hq
          have := h.ddown j pj i hpj hj (pl.looks j q pj hq hpj i o d ho hdd hm)
          rw [hd] at this; cases this
        have hdsts : ∀ j q, ops.toList[j]? = some q → Nat.testBit done j = true → ∀ d, o.dst = some d → q.dst ≠ some d := fun j q hq hj d hdd hqd => by
          have := pl.dist i j o q d ho hq hdd hqd
          subst this; rw [hd] at hj; cases hj
        -- what is behind it
        have common : ∀ (f' : Fm) (rr : AV) (st' : St) (e' : Env) (w' : World), f.put o.dst (some rr) = some f' → rr.ok e' →
            drawGo call C ops (pwOf ops.toList) r f' st' rd = .ok (fz, stz) → Rel e' st' w' → Goes e st w e' st' w' →
            (∀ j q, ops.toList[j]? = some q → (j, q) ∈ rd → Nat.testBit p' j = false → Nat.testBit done j = true → (∃ x, quietV C st (evF C f) q = some x ∧ ∀ d u, q.dst = some d → f.tm.get d = some u → x = some u) →
              ∃ x, quietV C st' (evF C f') q = some x ∧ ∀ d u, q.dst = some d → f'.tm.get d = some u → x = some u) →
            Go.wpAny C.P .any ops Q fuel (listed.setIfInBounds i true) (a.put o.dst (rr.val e')) w' := by
          intro f' rr st' e' w' hput hrr hgo' hrel hgoes hq
          refine ih r (done ||| (1 <<< i)) f' st' rd e' β _ _ _ ⟨hn.rest, hgo', by simp [h.lsize], ?_, ?_, ?_, ?_, hrel, h.env.le hgoes.le, h.goes.trans hgoes, (put_defers _ _ _).trans h.defers, ?_, ?_, ?_, ?_, ?_⟩ (hless i hlt hnl)
          · intro j hj
            rcases (hset j).1 hj with hj | rfl
            · exact (hbit j).2 (.inl (h.lsub j hj))
            · exact (hbit j).2 (.inr rfl)
          · intro j q hq' hj hw
            rcases (hbit j).1 hj with hj | rfl
            · exact (hset j).2 (.inl (h.wr j q hq' hj hw))
            · exact (hset j).2 (.inr rfl)
          · intro j pj k hpj hj hk
            rcases (hset j).1 hj with hj | rfl
            · exact (hset k).2 (.inl (h.down j pj k hpj hj hk))
            · rw [hp] at hpj; cases hpj
              exact (hset k).2 (.inl (hpl k hk))
          · intro j pj k hpj hj hk
            rcases (hbit j).1 hj with hj | rfl
            · exact (hbit k).2 (.inl (h.ddown j pj k hpj hj hk))
            · rw [hp] at hpj; cases hpj
              exact (hbit k).2 (.inl (within_spec hn.ahead k hk))
          · rw [put_n hput]
            cases hdst : o.dst with
            | none => exact h.size
            | some d => simp [Act.put, h.size]
          · intro t v ht hno
            rw [put_get hput] at ht
            by_cases hdt : o.dst = some t
            · rw [if_pos hdt] at ht
              cases ht
              refine ⟨hrr, ?_⟩
              have hlt2 : t < f.n := by
                unfold Fm.put at hput
                rw [hdt] at hput
                obtain ⟨hcc, _⟩ := bif_some hput
                rw [Bool.and_eq_true] at hcc
                exact Nat.le_of_ble_eq_true hcc.1
              rw [hdt]
              simp [Act.put, h.size, hlt2]
            · rw [if_neg hdt] at ht
              have := h.tm t v ht fun j q hq' hj hjl => hno j q hq' ((hbit j).2 (.inl hj)) (fun hjs => by
                rcases (hset j).1 hjs with hjs | hjs
                · exact hjl hjs
                · subst hjs; rw [hd] at hj; cases hj)
              refine ⟨(AV.val_le hgoes.le v this.1).2, ?_⟩
              rw [(AV.val_le hgoes.le v this.1).1]
              cases hdst : o.dst with
              | none => exact this.2
              | some d =>
                simp only [Act.put]
                rw [Array.getElem?_setIfInBounds_ne (by rintro rfl; exact hdt hdst)]
                exact this.2
          · intro j q hq' hj hjl
            have hjl' : ¬ Lst listed j := fun hjs => hjl ((hset j).2 (.inl hjs))
            have hji : j ≠ i := fun hjs => hjl ((hset j).2 (.inr hjs))
            have hjd : Nat.testBit done j = true := by
              rcases (hbit j).1 hj with hj | hj
              · exact hj
              · exact absurd hj hji
            have hpj : Nat.testBit p' j = false := by
              cases hb : Nat.testBit p' j
              · rfl
              · exact absurd (hpl j hb) hjl'
            exact pend_put (h.pend j q hq' hjd hjl') hput (hothers j q hq' hjd) (hdsts j q hq' hjd) (fun _ hx => hx) (fun hm hx => hq j q hq' hm hpj hjd hx)
              (fun b _ _ h3 h4 => ⟨Nat.lt_of_lt_of_le h3 hgoes.next, (hgoes.unborn b h3 h4).2, (hgoes.unborn b h3 h4).1⟩)
          · intro j k b hjk hj hjl hk hkl hb
            have old : ∀ m, Nat.testBit (done ||| (1 <<< i)) m = true → ¬ Lst (listed.setIfInBounds i true) m → Nat.testBit done m = true ∧ ¬ Lst listed m := fun m hm hml => by
              refine ⟨?_, fun q => hml ((hset m).2 (.inl q))⟩
              rcases (hbit m).1 hm with hm | hm
              · exact hm
              · exact absurd ((hset m).2 (.inr hm)) hml
            exact h.dist j k b hjk (old j hj hjl).1 (old j hj hjl).2 (old k hk hkl).1 (old k hk hkl).2 hb
          · intro j b hj hjl hb
            have h1 : ¬ Lst listed j := fun q => hjl ((hset j).2 (.inl q))
            have h2 : Nat.testBit done j = true := by
              rcases (hbit j).1 hj with hj | hj
              · exact hj
              · exact absurd ((hset j).2 (.inr hj)) hjl
            exact Nat.lt_of_lt_of_le (h.bnd j b h2 h1 hb) hgoes.next
        have hwo : writes o = true := hfr o ho
        split at hgo
        · cases hgo
        · rename_i hwa
          rw [wantedA_ok' hwa hlk]
          simp only [Bool.false_eq_true, if_false]
          split at hgo <;> first | (cases hgo; done) | skip
          rename_i f2 hf2
          have := common f2 (.tup []) st e w hf2 (by simp [AV.ok, AV.oks]) hgo h.rel (Goes.refl _ _ _) (fun j q hq hm _ hjd ⟨x, h1, h2⟩ => ⟨x, by
              rw [quietV_congr (ev' := evF C f) (fun y hy => put_ev hf2 fun d hdd qq => by subst qq; exact hothers j q hq hjd d hdd (looks_tmp hy))]; exact h1, fun d u hdd hu => h2 d u hdd (by
              rw [put_get hf2, if_neg (fun qq => hdsts j q hq hjd d qq hdd)] at hu; exact hu)⟩)
          simpa [AV.val, AV.vals, undef] using this
        · rename_i hwa
          rw [wantedA_ok' hwa hlk]
          simp only [if_true]
          left
          rw [hwo] at hgo
          simp only [cond_true] at hgo
          split at hgo <;> first | (cases hgo; done) | skip
          rename_i f2 st2 hs
          rw [hpw] at hgo
          simp only at hgo
          cases hrc : recheck C f2 st2 p' rd
          · rw [hrc] at hgo; cases hgo
          rw [hrc] at hgo
          simp only [cond_true] at hgo
          refine stepE_ok hc hs h.rel h.env hev fun rr e' w' h1 h2 h3 h4 => ?_
          exact common f2 rr st2 e' w' h1 h2 hgo h3 h4 (fun j q hq hm hpj hjd ⟨x, k1, k2⟩ => by
            cases hrd : reads q
            · refine ⟨x, ?_, fun d u hdd hu => k2 d u hdd (by rw [put_get h1, if_neg (fun qq => hdsts j q hq hjd d qq hdd)] at hu; exact hu)⟩
              rw [quietV_st (st' := st) hrd, quietV_congr (ev' := evF C f) (fun y hy => put_ev h1 fun d hdd qq => by subst qq; exact hothers j q hq hjd d hdd (looks_tmp hy))]; exact k1
            · obtain ⟨y, k3, k4⟩ := recheck_spec rd hrc j q hm hpj hrd
              exact ⟨y, by simp [quietV, k3], k4⟩)
      · -- it has been carried out symbolically
        obtain ⟨k1, k2, k3⟩ := h.pend i o ho hd hnl
        rcases k3 with ⟨hwa, hv⟩ | ⟨hwa, hm, x, hx, hv⟩ | ⟨hwa, fr, b, hfr2, hβ, hb1, hb2, hb3, hb4, hv⟩
        · rw [wantedA_ok' hwa hlk]
          simp only [Bool.false_eq_true, if_false]
          exact ih rest done f st rd e β _ _ _ (h.behind ho hp hd hnl hpl (Env.le.refl e) h.rel h.goes k2 (fun d u hdd hu => by rw [hv d u hdd hu]; simp [AV.ok, AV.oks, AV.val, AV.vals, undef]) pl (fun _ _ _ _ _ _ q => q)) (hless i hlt hnl)
        · rw [wantedA_ok' hwa hlk]
          simp only [if_true]
          left
          obtain ⟨y, hy1, hy2⟩ := quiet_run hx h.rel h.env hev
          unfold Oper.wp
          rw [hy1, Oper.upon_value]
          exact ih rest done f st rd e β _ _ _ (h.behind ho hp hd hnl hpl (Env.le.refl e) h.rel h.goes k2 (fun d u hdd hu => hy2 u (hv d u hdd hu)) pl (fun _ _ _ _ _ _ q => q)) (hless i hlt hnl)
        · rw [wantedA_ok' hwa hlk]
          simp only [if_true]
          left
          have hcap := h.rel.cap b hb3
          rw [opF_congr (ev' := evOn o.op.operands (evF C f)) (fun y hy => evOn_eq y hy)] at hfr2
          obtain ⟨y, w', c, hl⟩ := opF_ok hfr2 w (evOn_ok hev) b hb3 hcap
          obtain ⟨q1, _⟩ := h.rel.born (st' := st) hl.more hb3 hcap (fun j u hu => by
            by_cases hjb : j = b
            · subst hjb; exact .inl ⟨rfl, hb4 u hu⟩
            · exact .inr ⟨hjb, hu⟩) hb2 (Nat.le_refl _) hl.hb
          unfold Oper.wp
          rw [hl.run, Oper.upon_value]
          refine ih rest done f st rd _ β _ _ _ (h.behind ho hp hd hnl hpl (Env.le_bear hb3 hcap) q1 (h.goes.birth hl.more hb3 hcap hb1) k2 (fun d u hdd hu => by rw [hv d u hdd hu]; exact ⟨hl.ok, hl.val⟩) pl ?_) (hless i hlt hnl)
          intro j b' hji hj hjl hβj hn'
          have hne : b' ≠ b := by
            rintro rfl
            exact h.dist i j b' (fun q => hji q.symm) hd hnl hj hjl hβ hβj
          simp [Env.bear, hne, hn']

end
end Go.Sx

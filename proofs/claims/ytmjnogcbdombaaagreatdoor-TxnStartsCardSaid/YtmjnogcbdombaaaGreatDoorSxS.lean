/- Regions whose order is open: every order comes to the same. -/
import Derived.Test.YtmjnogcbdombaaaGreatDoorSxR
set_option linter.all false
namespace Go.Sx
set_option linter.unusedSimpArgs false

section
variable {C : Cx} {call : CallF} {ops : Array Oper} {e0 : Env} {st0 : St} {w0 : World} {a0 : Act} {fz : Fm} {stz : St}

theorem recheck_spec {f : Fm} {st : St} {p : Nat} : ∀ (rd : List (Nat × Oper)), recheck C f st p rd = true → ∀ i o, (i, o) ∈ rd → Nat.testBit p i = false → reads o = true →
    ∃ x, opR C.P C.fx st (evF C f) o = some x ∧ ∀ d u, o.dst = some d → f.tm.get d = some u → x = some u
  | [], _, i, o, h, _, _ => by simp at h
  | (j, q) :: r, hh, i, o, h, hp, hr => by
    simp only [recheck, Bool.and_eq_true] at hh
    rcases List.mem_cons.1 h with h | h
    · cases h
      have h1 := hh.1
      rw [hp, hr] at h1
      simp only [Bool.false_or, Bool.not_true] at h1
      split at h1
      · cases h1
      · rename_i x hx
        refine ⟨x, hx, fun d u hd hu => ?_⟩
        rw [hd] at h1
        simp only [hu] at h1
        split at h1
        · cases h1
        · rename_i v
          rw [AV.same_eq h1]
    · exact recheck_spec r hh.2 i o h hp hr

/-- What lies behind the frame's own put. -/
theorem pend_put {e : Env} {st st' : St} {f f' : Fm} {rd rd' : List (Nat × Oper)} {β : Nat → Option Nat} {i : Nat} {o : Oper} {dst : Option Tmp} {r : Option AV} {e' : Env}
    (h : Pend C ops st0 e st f rd β i o) (hput : f.put dst r = some f') (hl : ∀ d, dst = some d → d ∉ o.looksAt ops) (hd : ∀ d, dst = some d → o.dst ≠ some d)
    (hrd : ∀ x ∈ rd, x ∈ rd') (hq : (i, o) ∈ rd → (∃ r, quietV C st (evF C f) o = some r ∧ ∀ d u, o.dst = some d → f.tm.get d = some u → r = some u) →
      ∃ r, quietV C st' (evF C f') o = some r ∧ ∀ d u, o.dst = some d → f'.tm.get d = some u → r = some u)
    (hb : ∀ b, β i = some b → st0.next ≤ b → b < st.next → e.blk b = none → b < st'.next ∧ e'.blk b = none ∧ ∀ blk, st'.heap.get b = some blk → st.heap.get b = some blk) :
    Pend C ops st0 e' st' f' rd' β i o := by
  obtain ⟨h1, h2, h3⟩ := h
  have hget : ∀ d, o.dst = some d → f'.tm.get d = f.tm.get d := fun d hdd => by
    rw [put_get hput, if_neg]
    intro q; exact hd d q hdd
  have hw : wantedA ops o f' = wantedA ops o f := wantedA_congr fun d hdl => by
    rw [put_get hput, if_neg]
    intro q; exact hl d q hdl
  have hev : ∀ x ∈ o.op.operands, evF C f' x = evF C f x := fun x hx => put_ev hput fun d hdd q => by
    subst q; exact hl d hdd (looks_tmp hx)
  refine ⟨h1, fun d hdd => by rw [put_n hput]; exact h2 d hdd, ?_⟩
  rcases h3 with ⟨a, b⟩ | ⟨a, b, c⟩ | ⟨a, fr, b, c1, c2, c3, c4, c5, c6, c7⟩
  · exact .inl ⟨by rw [hw]; exact a, fun d u hdd hu => b d u hdd (by rw [← hget d hdd]; exact hu)⟩
  · exact .inr (.inl ⟨by rw [hw]; exact a, hrd _ b, hq b c⟩)
  · obtain ⟨k1, k2, k3⟩ := hb b c2 c3 c4 c5
    refine .inr (.inr ⟨by rw [hw]; exact a, fr, b, ?_, c2, c3, k1, k2, fun blk q => c6 blk (k3 blk q), fun d u hdd hu => c7 d u hdd (by rw [← hget d hdd]; exact hu)⟩)
    rw [opF_congr hev]; exact c1

/-- A symbolic step that does not write: the run stays where it is. -/
theorem DPre.ahead {pl : Plan ops} {i : Nat} {r : List Nat} {done : Nat} {f : Fm} {st : St} {rd : List (Nat × Oper)} {e : Env} {β : Nat → Option Nat} {listed : Array Bool} {a : Act} {w : World}
    (h : DPre C call ops e0 st0 w0 a0 fz stz (i :: r) done f st rd e β listed a w) (hst : st0.next ≤ st.next) (hwr : ∀ o, ops.toList[i]? = some o → writes o = false) :
    ∃ f' st' rd' β', DPre C call ops e0 st0 w0 a0 fz stz r (done ||| (1 <<< i)) f' st' rd' e β' listed a w := by
  obtain ⟨p, wr, hn⟩ := okOrder_cons h.order
  obtain ⟨hp, o, ho, hwo⟩ := pw_get hn.at_
  have hwf := hwr o ho
  have hgo := h.go
  simp only [drawGo, ho] at hgo
  have hnl : ¬ Lst listed i := fun q => by have := h.lsub i q; rw [hn.new] at this; cases this
  have hbit : ∀ k, Nat.testBit (done ||| (1 <<< i)) k = true ↔ (Nat.testBit done k = true ∨ k = i) := fun k => by rw [bit_done]; simp
  -- dst of i is looked at neither by i nor by whoever is done
  have hself : ∀ d, o.dst = some d → d ∉ o.looksAt ops := fun d hd hm => by
    have := within_spec hn.ahead i (pl.looks i o p ho hp i o d ho hd hm)
    rw [hn.new] at this; cases this
  have hothers : ∀ j q, ops.toList[j]? = some q → Nat.testBit done j = true → ∀ d, o.dst = some d → d ∉ q.looksAt ops := fun j q hq hj d hd hm => by
    obtain ⟨pj, _, hpj⟩ := pw_of hq
    have := h.ddown j pj i hpj hj (pl.looks j q pj hq hpj i o d ho hd hm)
    rw [hn.new] at this; cases this
  have hdsts : ∀ j q, ops.toList[j]? = some q → Nat.testBit done j = true → ∀ d, o.dst = some d → q.dst ≠ some d := fun j q hq hj d hd hqd => by
    have := pl.dist i j o q d ho hq hd hqd
    subst this; rw [hn.new] at hj; cases hj
  have common : ∀ (f' : Fm) (rr : Option AV) (st' : St) (rd' : List (Nat × Oper)) (β' : Nat → Option Nat), f.put o.dst rr = some f' →
      drawGo call C ops (pwOf ops.toList) r f' st' rd' = .ok (fz, stz) → Rel e st' w → Goes e0 st0 w0 e st' w →
      (∀ j q, j ≠ i → ops.toList[j]? = some q → Nat.testBit done j = true → ¬ Lst listed j → Pend C ops st0 e st' f' rd' β' j q) → Pend C ops st0 e st' f' rd' β' i o →
      (∀ j k b, j ≠ k → Nat.testBit (done ||| (1 <<< i)) j = true → ¬ Lst listed j → Nat.testBit (done ||| (1 <<< i)) k = true → ¬ Lst listed k → β' j = some b → β' k ≠ some b) →
      (∀ j b, Nat.testBit (done ||| (1 <<< i)) j = true → ¬ Lst listed j → β' j = some b → b < st'.next) →
      DPre C call ops e0 st0 w0 a0 fz stz r (done ||| (1 <<< i)) f' st' rd' e β' listed a w := by
    intro f' rr st' rd' β' hput hgo' hrel hgoes hpend hpi hdist hbnd
    refine ⟨hn.rest, hgo', h.lsize, fun j hj => (hbit j).2 (.inl (h.lsub j hj)), ?_, h.down, ?_, hrel, h.env, hgoes, h.defers, by rw [put_n hput]; exact h.size, ?_, ?_, hdist, hbnd⟩
    · intro j q hq hj hw
      rcases (hbit j).1 hj with hj | rfl
      · exact h.wr j q hq hj hw
      · rw [ho] at hq; cases hq; rw [hwf] at hw; cases hw
    · intro j pj k hpj hj hk
      rcases (hbit j).1 hj with hj | rfl
      · exact (hbit k).2 (.inl (h.ddown j pj k hpj hj hk))
      · rw [hp] at hpj; cases hpj
        exact (hbit k).2 (.inl (within_spec hn.ahead k hk))
    · intro t v ht hno
      have hne : o.dst ≠ some t := hno i o ho ((hbit i).2 (.inr rfl)) hnl
      rw [put_get hput, if_neg hne] at ht
      exact h.tm t v ht fun j q hq hj hl => hno j q hq ((hbit j).2 (.inl hj)) hl
    · intro j q hq hj hl
      by_cases hji : j = i
      · subst hji; rw [ho] at hq; cases hq; exact hpi
      · rcases (hbit j).1 hj with hj | hj
        · exact hpend j q hji hq hj hl
        · exact absurd hj hji
  have hlt : ∀ {rr : Option AV} {f' : Fm}, f.put o.dst rr = some f' → ∀ d, o.dst = some d → d < f'.n := fun {rr f'} hput d hd => by
    rw [put_n hput]
    unfold Fm.put at hput
    rw [hd] at hput
    obtain ⟨hc, _⟩ := bif_some hput
    rw [Bool.and_eq_true] at hc
    exact Nat.le_of_ble_eq_true hc.1
  split at hgo
  · cases hgo
  · -- its guard says no
    rename_i hwa
    split at hgo <;> first | (cases hgo; done) | skip
    rename_i f2 hf2
    refine ⟨f2, st, rd, fun j => if j = i then none else β j, common f2 _ st rd _ hf2 hgo h.rel h.goes ?_ ?_ ?_ ?_⟩
    · intro j q hji hq hj hl
      have hp0 := h.pend j q hq hj hl
      have hp1 := pend_put (e' := e) (st' := st) (rd' := rd) hp0 hf2 (hothers j q hq hj) (hdsts j q hq hj) (fun _ hx => hx) (fun _ ⟨rr, h1, h2⟩ => ⟨rr, by
          rw [quietV_congr (ev' := evF C f) (fun x hx => put_ev hf2 fun d hd qq => by subst qq; exact hothers j q hq hj d hd (looks_tmp hx))]; exact h1, fun d u hd hu => h2 d u hd (by
          rw [put_get hf2, if_neg (fun qq => hdsts j q hq hj d qq hd)] at hu; exact hu)⟩) (fun b h1 h2 h3 h4 => ⟨h3, h4, fun _ hh => hh⟩)
      unfold Pend at hp1 ⊢
      simpa [hji] using hp1
    · refine ⟨hwf, hlt hf2, .inl ⟨?_, fun d u hd hu => ?_⟩⟩
      · rw [wantedA_congr (f := f) (fun d hdl => by rw [put_get hf2, if_neg (fun qq => hself d qq hdl)])]; exact hwa
      · rw [put_get hf2, if_pos hd] at hu
        exact (Option.some.inj hu).symm
    · intro j k b hjk hj hjl hk hkl hβ
      by_cases h1 : j = i
      · rw [if_pos h1] at hβ; cases hβ
      · rw [if_neg h1] at hβ
        by_cases h2 : k = i
        · rw [if_pos h2]; simp
        · rw [if_neg h2]
          rcases (hbit j).1 hj with hj | hj <;> rcases (hbit k).1 hk with hk | hk
          · exact h.dist j k b hjk hj hjl hk hkl hβ
          · exact absurd hk h2
          · exact absurd hj h1
          · exact absurd hj h1
    · intro j b hj hjl hβ
      by_cases h1 : j = i
      · rw [if_pos h1] at hβ; cases hβ
      · rw [if_neg h1] at hβ
        rcases (hbit j).1 hj with hj | hj
        · exact h.bnd j b hj hjl hβ
        · exact absurd hj h1
  · rename_i hwa
    rw [hwf] at hgo
    simp only [cond_false] at hgo
    split at hgo <;> first | (cases hgo; done) | skip
    rename_i f2 st2 hs
    cases hrc : (Nat.beq st2.next st.next || recheck C f2 st2 0 rd)
    · rw [hrc] at hgo; cases hgo
    rw [hrc] at hgo
    simp only [cond_true] at hgo
    rcases stepN_kinds hs with ⟨rr, h1, hf2, rfl⟩ | ⟨fr, h1, hf2, rfl⟩
    · -- it reads
      refine ⟨f2, st2, (i, o) :: rd, fun j => if j = i then none else β j, common f2 _ st2 _ _ hf2 hgo h.rel h.goes ?_ ?_ ?_ ?_⟩
      · intro j q hji hq hj hl
        have hp0 := h.pend j q hq hj hl
        have hp1 := pend_put (e' := e) (st' := st2) (rd' := (i, o) :: rd) hp0 hf2 (hothers j q hq hj) (hdsts j q hq hj) (fun _ hx => List.mem_cons_of_mem _ hx) (fun _ ⟨rr, h1, h2⟩ => ⟨rr, by
            rw [quietV_congr (ev' := evF C f) (fun x hx => put_ev hf2 fun d hd qq => by subst qq; exact hothers j q hq hj d hd (looks_tmp hx))]; exact h1, fun d u hd hu => h2 d u hd (by
            rw [put_get hf2, if_neg (fun qq => hdsts j q hq hj d qq hd)] at hu; exact hu)⟩) (fun b h1 h2 h3 h4 => ⟨h3, h4, fun _ hh => hh⟩)
        unfold Pend at hp1 ⊢
        simpa [hji] using hp1
      · refine ⟨hwf, hlt hf2, .inr (.inl ⟨?_, List.mem_cons_self .., rr, ?_, fun d u hd hu => ?_⟩)⟩
        · rw [wantedA_congr (f := f) (fun d hdl => by rw [put_get hf2, if_neg (fun qq => hself d qq hdl)])]; exact hwa
        · rw [quietV_congr (ev' := evF C f) (fun x hx => put_ev hf2 fun d hd qq => by subst qq; exact hself d hd (looks_tmp hx))]; exact h1
        · rw [put_get hf2, if_pos hd] at hu; exact hu
      · intro j k b hjk hj hjl hk hkl hβ
        by_cases h1 : j = i
        · rw [if_pos h1] at hβ; cases hβ
        · rw [if_neg h1] at hβ
          by_cases h2 : k = i
          · rw [if_pos h2]; simp
          · rw [if_neg h2]
            rcases (hbit j).1 hj with hj | hj <;> rcases (hbit k).1 hk with hk | hk
            · exact h.dist j k b hjk hj hjl hk hkl hβ
            · exact absurd hk h2
            · exact absurd hj h1
            · exact absurd hj h1
      · intro j b hj hjl hβ
        by_cases h1 : j = i
        · rw [if_pos h1] at hβ; cases hβ
        · rw [if_neg h1] at hβ
          rcases (hbit j).1 hj with hj | hj
          · exact h.bnd j b hj hjl hβ
          · exact absurd hj h1
    · -- it lays a block
      have hfr := h.rel.fresh st.next (Nat.le_refl _)
      have hrc : recheck C f2 (st.new fr.blk) 0 rd = true := by
        rw [Bool.or_eq_true] at hrc
        rcases hrc with q | q
        · have := Nat.eq_of_beq_eq_true q; simp [St.new] at this
        · exact q
      refine ⟨f2, st.new fr.blk, (i, o) :: rd, fun j => if j = i then some st.next else β j, common f2 _ _ _ _ hf2 hgo (h.rel.unborn _) (h.goes.unborn_new hfr.1 _) ?_ ?_ ?_ ?_⟩
      · intro j q hji hq hj hl
        have hp0 := h.pend j q hq hj hl
        have hp1 := pend_put (e' := e) (st' := st.new fr.blk) (rd' := (i, o) :: rd) hp0 hf2 (hothers j q hq hj) (hdsts j q hq hj) (fun _ hx => List.mem_cons_of_mem _ hx) (fun hm ⟨rr, h1, h2⟩ => by
            cases hrd : reads q
            · refine ⟨rr, ?_, fun d u hd hu => h2 d u hd (by rw [put_get hf2, if_neg (fun qq => hdsts j q hq hj d qq hd)] at hu; exact hu)⟩
              rw [quietV_st (st' := st) hrd, quietV_congr (ev' := evF C f) (fun x hx => put_ev hf2 fun d hd qq => by subst qq; exact hothers j q hq hj d hd (looks_tmp hx))]; exact h1
            · obtain ⟨x, h3, h4⟩ := recheck_spec rd hrc j q hm (by simp) hrd
              exact ⟨x, by simp [quietV, h3], h4⟩) (fun b h1 h2 h3 h4 => ⟨by simp [St.new]; omega, h4, fun blk hh => by
            rcases St.get_new hh with ⟨q, _⟩ | ⟨_, q⟩
            · omega
            · exact q⟩)
        unfold Pend at hp1 ⊢
        simpa [hji] using hp1
      · refine ⟨hwf, hlt hf2, .inr (.inr ⟨?_, fr, st.next, ?_, by simp, hst, by simp [St.new], hfr.1, fun blk hh => ?_, fun d u hd hu => ?_⟩)⟩
        · rw [wantedA_congr (f := f) (fun d hdl => by rw [put_get hf2, if_neg (fun qq => hself d qq hdl)])]; exact hwa
        · rw [opF_congr (ev' := evF C f) (fun x hx => put_ev hf2 fun d hd qq => by subst qq; exact hself d hd (looks_tmp hx))]; exact h1
        · rcases St.get_new hh with ⟨_, q⟩ | ⟨q, _⟩
          · exact q
          · exact absurd rfl q
        · rw [put_get hf2, if_pos hd] at hu; exact (Option.some.inj hu).symm
      · intro j k b hjk hj hjl hk hkl hβ
        by_cases h1 : j = i
        · rw [if_pos h1] at hβ; cases hβ
          rw [if_neg (fun q => hjk (h1.trans q.symm))]
          rcases (hbit k).1 hk with hk | hk
          · intro q; have := h.bnd k _ hk hkl q; omega
          · exact absurd (h1.trans hk.symm) hjk
        · rw [if_neg h1] at hβ
          rcases (hbit j).1 hj with hj | hj
          · by_cases h2 : k = i
            · rw [if_pos h2]
              intro q
              cases q
              have := h.bnd j _ hj hjl hβ
              omega
            · rw [if_neg h2]
              rcases (hbit k).1 hk with hk | hk
              · exact h.dist j k b hjk hj hjl hk hkl hβ
              · exact absurd hk h2
          · exact absurd hj h1
      · intro j b hj hjl hβ
        by_cases h1 : j = i
        · rw [if_pos h1] at hβ; cases hβ; simp [St.new]
        · rw [if_neg h1] at hβ
          rcases (hbit j).1 hj with hj | hj
          · have := h.bnd j b hj hjl hβ; simp [St.new]; omega
          · exact absurd hj h1

end
end Go.Sx

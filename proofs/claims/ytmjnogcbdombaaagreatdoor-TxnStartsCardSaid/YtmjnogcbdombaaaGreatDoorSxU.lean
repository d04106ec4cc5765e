/- The executor is sound. -/
import Derived.Test.YtmjnogcbdombaaaGreatDoorSxT
import Derived.ScopeJumps
import Derived.LoopN
set_option linter.all false
namespace Go.Sx
set_option linter.unusedSimpArgs false

theorem left_start (ops : Array Oper) : left ops (Array.replicate ops.size false) ≤ ops.size := by
  unfold left
  exact Nat.le_trans (List.length_filter_le _ _) (by simp)

theorem execDraw_ok {C : Cx} {call : CallF} (hc : CallOk C call) (hm : C.P.follows .mixedOrders = true) {ops : Array Oper} {id : Nat} {f f' : Fm} {st st' : St} (h : execDraw call C ops f st = .ok (f', st'))
    {e : Env} {w : World} {a : Act} (hw : Rel e st w) (he : EnvOk C e) (hf : FmR e f a.tmps) {Q : Exit → Act → World → Prop} (hQ : ∀ e' a' w', After C e st w a e' f' st' w' a' → Q .normal a' w') :
    (Code.region id ops true).wp C.P Q a w := by
  unfold execDraw at h
  cases hp : planOk ops (orderOf ops)
  · rw [hp] at h; cases h
  rw [hp] at h
  simp only [cond_true] at h
  obtain ⟨pl, hord⟩ := Plan.of hp
  refine wp_region_any hm ?_
  have hl0 : ∀ i, ¬ Lst (Array.replicate ops.size false) i := fun i q => by
    unfold Lst at q
    simp only [Array.getD_eq_getD_getElem?] at q
    by_cases hi : i < ops.size
    · simp [hi] at q
    · rw [Array.getElem?_eq_none (by simp; omega)] at q; simp at q
  have h0 : DPre C call ops e st w.drew a f' st' (orderOf ops) 0 f st [] e (fun _ => none) (Array.replicate ops.size false) a w.drew :=
    ⟨hord, h, by simp, fun i q => absurd q (hl0 i), fun i o _ q => by simp at q, fun i p k _ q => absurd q (hl0 i), fun i p k _ q => by simp at q, hw.drew, he, Goes.refl _ _ _, rfl, hf.size,
      fun t v hv _ => hf.get t v hv, fun i o _ q => by simp at q, fun i j b _ q => by simp at q, fun i b q => by simp at q⟩
  have := DPre.wpAny (Q := Q) (e0 := e) (st0 := st) (w0 := w.drew) (a0 := a) pl hc (fun e' a' w' h => hQ e' a' w' ⟨h.rel, h.fm, h.defers, ⟨h.goes.le, h.goes.next, h.goes.size, h.goes.os, h.goes.tape, h.goes.output, h.goes.keep, h.goes.own, h.goes.unborn⟩⟩) ops.size _ _ _ _ _ _ _ _ _ _ h0 (left_start ops)
  exact this

/-! ### Results -/
theorem ressA_ok {C : Cx} {f : Fm} {st : St} {e : Env} {w : World} {tmps : Array Value} (hw : Rel e st w) (hf : FmR e f tmps) {g : ResultVar → Sem Value} (hg1 : ∀ t, g (.tmp t) = pure (tmps.getD t undef))
    (hg2 : ∀ a t, g (.cell a t) = do loadVar t (← asAddr (tmps.getD a undef))) : ∀ (l : List ResultVar) (r : List AV), ressA C f st l = some r →
    AV.oks e r ∧ (l.mapM g).run C.P w = .ok (AV.vals e r) w
  | [], r, h => by simp [ressA] at h; subst h; exact ⟨trivial, rfl⟩
  | x :: l, r, h => by
    simp only [ressA] at h
    split at h
    · cases h
    · rename_i v hv
      split at h
      · cases h
      · rename_i r' hr
        cases h
        obtain ⟨h1, h2⟩ := ressA_ok hw hf hg1 hg2 l r' hr
        have h3 : v.ok e ∧ (g x).run C.P w = .ok (v.val e) w := by
          cases x with
          | tmp t =>
            obtain ⟨k1, k2⟩ := hf.get t v hv
            exact ⟨k1, by rw [hg1]; simp [k2]⟩
          | cell a t =>
            rw [hg2]
            simp only [resA] at hv
            split at hv <;> first | (cases hv; done) | skip
            rename_i b o hb
            obtain ⟨k1, k2⟩ := hf.get a _ hb
            simp only [AV.ok] at k1
            obtain ⟨n, hn⟩ := Option.isSome_iff_exists.1 k1
            split at hv <;> first | (cases hv; done) | skip
            rename_i d i hd hi
            have hget : tmps.getD a undef = .pointer (some ⟨n, o, none⟩) := by simp [k2, AV.val, hn]
            cases hg : isAggD d
            · rw [hg] at hv
              simp only [cond_false] at hv
              obtain ⟨c1, c2, c3⟩ := hw.cellAt hn hv
              refine ⟨c2, ?_⟩
              simp only [hget, asAddr, pure_bind, loadVar, Sem.run_bind, run_isAgg hd, hg, Result.andThen_ok, Bool.false_eq_true, if_false]
              simp [c1]
            · rw [hg] at hv
              simp only [cond_true] at hv
              split at hv <;> first | (cases hv; done) | skip
              rename_i l hl
              cases hv
              obtain ⟨c1, c2, c3⟩ := hw.cellsAt hn _ _ _ hl
              refine ⟨by simp only [AV.ok, AV.oks_iff]; exact fun v hv => (c2 v hv).1, ?_⟩
              simp only [hget, asAddr, pure_bind, loadVar, Sem.run_bind, run_isAgg hd, hg, Result.andThen_ok, if_true, run_size hi, hw.run_loadCells hn hl, Sem.run_pure, AV.val]
        refine ⟨⟨h3.1, h1⟩, ?_⟩
        rw [List.mapM_cons]
        simp only [Sem.run_bind, h3.2, Result.andThen_ok, h2, Sem.run_pure, AV.vals]

def oneOf : List AV → AV
  | [v] => v
  | l => .tup l

theorem results_ok {C : Cx} {f : Fm} {st : St} {e : Env} {w : World} {tmps : Array Value} (hw : Rel e st w) (hf : FmR e f tmps) {fn : Func} {r : List AV} (h : ressA C f st fn.results.toList = some r) :
    (oneOf r).ok e ∧ (results fn tmps).run C.P w = .ok ((oneOf r).val e) w := by
  unfold results
  rw [Array.mapM_eq_mapM_toList]
  obtain ⟨h1, h2⟩ := ressA_ok (C := C) hw hf (g := fun x => match x with
    | .tmp t => pure (tmps.getD t undef)
    | .cell a t => do loadVar t (← asAddr (tmps.getD a undef))) (fun _ => rfl) (fun _ _ => rfl) _ _ h
  refine ⟨?_, ?_⟩
  · match r, h1 with
    | [], _ => exact trivial
    | [x], h1 => exact h1.1
    | x :: y :: r, h1 => exact h1
  · simp only [Sem.run_bind, Sem.run_map]
    erw [h2]
    simp only [Result.andThen_ok, Sem.run_pure]
    congr 1
    match r with
    | [] => rfl
    | [v] => rfl
    | v :: u :: r => rw [dif_neg (by simp [AV.vals])]; rfl

/-! ### Arguments -/
theorem setArgs_get {e : Env} : ∀ (l : List AV) (i : Nat) (t : Tr AV) (k : Nat) (v : AV), (setArgs i l t).get k = some v → (i ≤ k ∧ l[k - i]? = some v) ∨ t.get k = some v
  | [], i, t, k, v, h => .inr h
  | x :: l, i, t, k, v, h => by
    simp only [setArgs] at h
    rcases setArgs_get (e := e) l (i + 1) _ k v h with ⟨h1, h2⟩ | h2
    · left
      refine ⟨by omega, ?_⟩
      rw [show k - i = (k - (i + 1)) + 1 by omega]
      simpa using h2
    · rcases Tr.get_set _ _ _ _ _ _ h2 with ⟨rfl, h3⟩ | ⟨_, h3⟩
      · left; exact ⟨Nat.le_refl _, by simpa using h3⟩
      · exact .inr h3

theorem args_ok {e : Env} {args : List AV} (h : AV.oks e args) (n : Nat) :
    FmR e ⟨max n args.length, setArgs 0 args .e⟩ ((AV.vals e args).toArray ++ Array.replicate (n - (AV.vals e args).toArray.size) undef) := by
  refine ⟨by simp [AV.vals_eq]; omega, fun t v hv => ?_⟩
  rcases setArgs_get (e := e) args 0 .e t v hv with ⟨_, h2⟩ | h2
  · simp only [Nat.sub_zero] at h2
    refine ⟨mem_oks h (List.mem_of_getElem? h2), ?_⟩
    have hlt := (List.getElem?_eq_some_iff.1 h2).1
    rw [Array.getElem?_append_left (by simp [AV.vals_eq]; exact hlt)]
    simp [AV.vals_eq, h2]
  · simp [Tr.get] at h2

def Out.exit' : Out → Exit
  | .normal => .normal
  | .exit id => .exit id
  | .goto l => .goto l
  | .ret => .ret

/-- Code is carried out as the executor says. -/
def ExecOk (C : Cx) (ex : Code → Fm → St → Rs (Out × Fm × St)) : Prop := ∀ c f st out f' st', ex c f st = .ok (out, f', st') → ∀ (e : Env) (w : World) (a : Act) (Q : Exit → Act → World → Prop),
  Rel e st w → EnvOk C e → FmR e f a.tmps → (∀ e' a' w', After C e st w a e' f' st' w' a' → Q out.exit' a' w') → c.wp C.P Q a w

theorem callIn_ok {C : Cx} {ex : Code → Fm → St → Rs (Out × Fm × St)} (hex : ExecOk C ex) : CallOk C (callIn C ex) := by
  intro g args st v st' h e w hw he ha
  unfold callIn at h
  split at h <;> first | (cases h; done) | skip
  rename_i fn hfn
  split at h <;> first | (cases h; done) | skip
  rename_i body hbody
  have hfin : ∀ (out : Out) (f : Fm) (st2 : St) (r : List AV), ex body ⟨max fn.ntmps args.length, setArgs 0 args .e⟩ st = .ok (out, f, st2) → (out = .normal ∨ out = .ret) → ressA C f st2 fn.results.toList = some r → st2 = st' →
      v = oneOf r → Calls C.P g (AV.vals e args).toArray w fun en w' => ∃ e', Rel e' st' w' ∧ Goes e st w e' st' w' ∧ v.ok e' ∧ en = .returned (v.val e') := by
    intro out f st2 r hx ho hr hst hv
    subst hst
    refine calls_of_wp hfn hbody ?_
    refine hex _ _ _ _ _ _ hx e w _ _ hw he (args_ok ha fn.ntmps) fun e' a' w' haf => ?_
    obtain ⟨k1, k2⟩ := results_ok haf.rel haf.fm hr
    rw [← hv] at k1 k2
    rcases ho with rfl | rfl
    · exact ⟨haf.defers, _, k2, e', haf.rel, haf.goes, k1, rfl⟩
    · exact ⟨haf.defers, _, k2, e', haf.rel, haf.goes, k1, rfl⟩
  split at h <;> first | (cases h; done) | skip
  all_goals
    rename_i f2 st2 hx
    split at h <;> first | (cases h; done) | skip
    · rename_i x hr
      cases h
      exact hfin _ f2 _ [v] hx (by simp) hr rfl rfl
    · rename_i l hnl hr
      cases h
      refine hfin _ f2 _ l hx (by simp) hr rfl ?_
      match l, hnl with
      | [], _ => rfl
      | [x], hnl => exact absurd rfl (hnl x)
      | x :: y :: r, _ => rfl

/-- What is said to be known of calls is so. -/
def CutOk (C : Cx) : Prop := CallOk C fun g args st => match C.cut g args st with
  | some r => .ok r
  | none => .er "" none

theorem cutOk_none {C : Cx} (h : ∀ g args st, C.cut g args st = none) : CutOk C := by
  intro g args st v st' q
  simp only [h] at q
  cases q

theorem callBy_ok {C : Cx} (hcut : CutOk C) {ex : Code → Fm → St → Rs (Out × Fm × St)} (hex : ExecOk C ex) : CallOk C (callBy C ex) := by
  intro g args st v st' h
  unfold callBy at h
  split at h
  · rename_i r hr
    exact hcut g args st v st' (by simp only [hr]; exact h)
  · exact callIn_ok hex g args st v st' h

theorem exec_ok {C : Cx} (hm : C.P.follows .mixedOrders = true) (hcut : CutOk C) : ∀ k, ExecOk C (exec C k) ∧
    ∀ c f st out f' st', exec C k (.loop c) f st = .ok (out, f', st') → ∀ (e : Env) (w : World) (a : Act) (Q : Exit → Act → World → Prop),
      Rel e st w → EnvOk C e → FmR e f a.tmps → (∀ e' a' w', After C e st w a e' f' st' w' a' → Q out.exit' a' w') → Code.rounds C.P c Q k a w := by
  intro k
  induction k with
  | zero =>
    refine ⟨fun c f st out f' st' h => ?_, fun c f st out f' st' h => ?_⟩ <;> (simp only [exec] at h; cases h)
  | succ k ih =>
    obtain ⟨ihx, ihl⟩ := ih
    have hcall := callBy_ok hcut ihx
    have hloop : ∀ c f st out f' st', exec C (k + 1) (.loop c) f st = .ok (out, f', st') → ∀ (e : Env) (w : World) (a : Act) (Q : Exit → Act → World → Prop),
        Rel e st w → EnvOk C e → FmR e f a.tmps → (∀ e' a' w', After C e st w a e' f' st' w' a' → Q out.exit' a' w') → Code.rounds C.P c Q (k + 1) a w := by
      intro c f st out f' st' h e w a Q hw he hf hQ
      simp only [exec] at h
      rw [rounds_succ]
      split at h
      · rename_i f1 st1 hx
        refine ihx _ _ _ _ _ _ hx e w a _ hw he hf fun e1 a1 w1 h1 => ?_
        exact ihl _ _ _ _ _ _ h e1 w1 a1 Q h1.rel (he.le h1.goes.le) h1.fm fun e' a' w' h2 => hQ e' a' w' (h1.trans h2)
      · rename_i hno
        refine ihx _ _ _ _ _ _ h e w a _ hw he hf fun e1 a1 w1 h1 => ?_
        cases out with
        | normal => exact absurd h (hno _ _)
        | _ => exact hQ e1 a1 w1 h1
    refine ⟨fun c f st out f' st' h e w a Q hw he hf hQ => ?_, hloop⟩
    cases c with
    | skip =>
      simp only [exec, Rs.ok.injEq, Prod.mk.injEq] at h
      obtain ⟨rfl, rfl, rfl⟩ := h
      exact wp_skip (hQ e a w ⟨hw, hf, rfl, Goes.refl _ _ _⟩)
    | label l =>
      simp only [exec, Rs.ok.injEq, Prod.mk.injEq] at h
      obtain ⟨rfl, rfl, rfl⟩ := h
      exact wp_label (hQ e a w ⟨hw, hf, rfl, Goes.refl _ _ _⟩)
    | exit id =>
      simp only [exec, Rs.ok.injEq, Prod.mk.injEq] at h
      obtain ⟨rfl, rfl, rfl⟩ := h
      exact wp_exit (hQ e a w ⟨hw, hf, rfl, Goes.refl _ _ _⟩)
    | goto l =>
      simp only [exec, Rs.ok.injEq, Prod.mk.injEq] at h
      obtain ⟨rfl, rfl, rfl⟩ := h
      exact wp_goto (hQ e a w ⟨hw, hf, rfl, Goes.refl _ _ _⟩)
    | ret =>
      simp only [exec, Rs.ok.injEq, Prod.mk.injEq] at h
      obtain ⟨rfl, rfl, rfl⟩ := h
      exact wp_ret (hQ e a w ⟨hw, hf, rfl, Goes.refl _ _ _⟩)
    | region id ops draw =>
      simp only [exec] at h
      split at h <;> first | (cases h; done) | skip
      rename_i f2 st2 hx
      simp only [Rs.ok.injEq, Prod.mk.injEq] at h
      obtain ⟨rfl, rfl, rfl⟩ := h
      cases draw
      · simp only [cond_false] at hx
        refine wp_region ?_
        have := execOps_ok (Q := Q) hcall ops.toList 0 f f2 st st2 e w a (fun j => by simp) hx hw he hf hQ
        rw [List.range_eq_range']
        simpa using this
      · simp only [cond_true] at hx
        exact execDraw_ok hcall hm hx hw he hf hQ
    | seq x y =>
      simp only [exec] at h
      refine wp_seq ?_
      split at h
      · rename_i f1 st1 hx
        refine ihx _ _ _ _ _ _ hx e w a _ hw he hf fun e1 a1 w1 h1 => ?_
        exact ihx _ _ _ _ _ _ h e1 w1 a1 Q h1.rel (he.le h1.goes.le) h1.fm fun e' a' w' h2 => hQ e' a' w' (h1.trans h2)
      · rename_i hno
        refine ihx _ _ _ _ _ _ h e w a _ hw he hf fun e1 a1 w1 h1 => ?_
        cases out with
        | normal => exact absurd h (hno _ _)
        | _ => exact hQ e1 a1 w1 h1
    | cond x y z =>
      simp only [exec] at h
      split at h <;> first | (cases h; done) | skip
      · rename_i hx
        have := (evF_ok hf he x _ hx).2
        exact wp_cond_true (by simpa [AV.val] using this) (ihx _ _ _ _ _ _ h e w a Q hw he hf hQ)
      · rename_i hx
        have := (evF_ok hf he x _ hx).2
        exact wp_cond_false (by simpa [AV.val] using this) (ihx _ _ _ _ _ _ h e w a Q hw he hf hQ)
    | block id c =>
      simp only [exec] at h
      refine wp_block ?_
      split at h
      · rename_i id' f1 st1 hx
        refine ihx _ _ _ _ _ _ hx e w a _ hw he hf fun e1 a1 w1 h1 => ?_
        simp only [Out.exit', Exit.inBlock]
        cases hid : Nat.beq id' id
        · rw [hid] at h
          simp only [cond_false, Rs.ok.injEq, Prod.mk.injEq] at h
          obtain ⟨rfl, rfl, rfl⟩ := h
          rw [if_neg (by rintro rfl; simp at hid)]
          exact hQ e1 a1 w1 h1
        · rw [hid] at h
          simp only [cond_true, Rs.ok.injEq, Prod.mk.injEq] at h
          obtain ⟨rfl, rfl, rfl⟩ := h
          rw [if_pos (Nat.eq_of_beq_eq_true hid)]
          exact hQ e1 a1 w1 h1
      · rename_i hno
        refine ihx _ _ _ _ _ _ h e w a _ hw he hf fun e1 a1 w1 h1 => ?_
        cases out with
        | exit id' => exact absurd h (hno _ _ _)
        | _ => exact hQ e1 a1 w1 h1
    | loop c => exact wp_loop_rounds (k + 1) (hloop c f st out f' st' h e w a Q hw he hf hQ)
    | scope c =>
      simp only [exec] at h
      split at h
      · rename_i l f1 st1 hx
        split at h
        · cases h
        · rename_i rest hrest
          split at h
          · cases h
          · rename_i hno
            refine wp_scope_jumps l (fun a1 w1 => ∃ e1, After C e st w a e1 f1 st1 w1 a1) (fun _ _ => 0) hrest ?_ ?_
            · refine ihx _ _ _ _ _ _ hx e w a _ hw he hf fun e1 a1 w1 h1 => ?_
              exact ⟨rfl, e1, h1⟩
            · rintro a1 w1 ⟨e1, h1⟩
              refine ihx _ _ _ _ _ _ h e1 w1 a1 _ h1.rel (he.le h1.goes.le) h1.fm fun e' a' w' h2 => ?_
              cases out with
              | goto l' => exact absurd h (hno _ _ _)
              | _ => exact hQ e' a' w' (h1.trans h2)
      · rename_i hno
        refine wp_scope_straight ?_
        refine ihx _ _ _ _ _ _ h e w a _ hw he hf fun e1 a1 w1 h1 => ?_
        cases out with
        | goto l' => exact absurd h (hno _ _ _)
        | _ => exact hQ e1 a1 w1 h1
    | rangeFunc x ps as b => simp only [exec] at h; cases h
    | refuse s => simp only [exec] at h; cases h

theorem callN_ok {C : Cx} (hm : C.P.follows .mixedOrders = true) (hcut : CutOk C) (k : Nat) : CallOk C (callN C k) := callBy_ok hcut (exec_ok hm hcut k).1

end Go.Sx

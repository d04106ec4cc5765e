/- The operations that only read are sound. -/
import Derived.Test.YtmjnogcbdombaaaGreatDoorSxD
set_option linter.all false
namespace Go.Sx

def isEql : BinOp → Bool
  | .eql => true
  | _ => false

theorem binOp_via_equal {op : BinOp} (h : op = .eql ∨ op = .neq) (P : Program) (t : TypeId) (x y : Value) (w : World)
    (hx : ∀ k n, x ≠ .int k n) (hs : ∀ s, x ≠ .string s) (hf : ∀ k n, x ≠ .float k n) (hc : ∀ k a b, x ≠ .complex k a b) (b : Bool) (he : (Op.equal t x y).run P w = .ok b w) :
    (binOp op t x y).run P w = .ok (.bool (bif isEql op then b else !b)) w := by
  rcases h with rfl | rfl <;> unfold binOp <;> split <;> simp_all [isEql]

theorem cmp_run {op : BinOp} (hc : Nat.beq (opCode op) 0 = false) (P : Program) (t : TypeId) (k : IntKind) (a b : Int) (w : World) :
    (binOp op t (.int k a) (.int k b)).run P w = .ok (.bool (cmpOf (opCode op) a b)) w := by
  cases op <;> simp [opCode] at hc <;> simp [binOp, Op.intCmp, opCode, cmpOf]

theorem run_eqGuard {P : Program} {op : BinOp} {t : TypeId} {x y : Operand} {a b : Value} (w : World)
    (h1 : a = .nilIface → b = .nilIface → (isConstO x || isConstO y) = true) (h2 : (∀ c, a ≠ .agg c) ∨ ∀ c, b ≠ .agg c) :
    (eqGuard op t x y a b).run P w = .ok () w := by
  unfold eqGuard
  cases hm : (!(op matches .eql | .neq))
  · simp only [if_false, Bool.false_eq_true]
    split
    · have := h1 rfl rfl
      clear h1 h2
      cases x <;> cases y <;> first | (simp [isConstO] at this; done) | simp
    · rcases h2 with h2 | h2
      · exact absurd rfl (h2 _)
      · exact absurd rfl (h2 _)
    · rfl
  · simp

theorem AV.val_ne_agg {e : Env} {v : AV} (ho : v.ok e) (h : v.one = true) (c : Array Value) : v.val e ≠ .agg c := by
  intro q
  have := AV.one_val h ho
  rw [q] at this
  cases this

theorem eqA_one {d : TypeDesc} {xc : Bool} {x y : AV} {b : Bool} (h : eqA d xc x y = some b) : x.one = true ∧ y.one = true ∧
    (∀ e k n, x.val e ≠ .int k n) ∧ (∀ e s, x.val e ≠ .string s) ∧ (∀ e k n, x.val e ≠ .float k n) ∧ (∀ e k a b, x.val e ≠ .complex k a b) ∧
    (∀ e, x.val e = .nilIface → y.val e = .nilIface → xc = true) := by
  unfold eqA at h
  split at h <;> first | (cases h; done) | skip
  all_goals first
    | (simp [AV.one, AV.val]; done)
    | (split at h <;> first | (cases h; done) | (cases xc <;> simp_all [AV.one, AV.val]))

theorem binA_ok {P : Program} {fx : List Fact} {op : BinOp} {t : TypeId} {xo yo : Operand} {x y v : AV} (h : binA P fx op t (isConstO xo || isConstO yo) x y = some v)
    {e : Env} (hfx : ∀ f ∈ fx, f.holds e) (hx : x.ok e) (hy : y.ok e) (w : World) :
    (do eqGuard op t xo yo (x.val e) (y.val e); binOp op t (x.val e) (y.val e) : Sem Value).run P w = .ok (v.val e) w ∧ v.ok e := by
  unfold binA at h
  split at h
  · rename_i k a k' b
    have hg : (eqGuard op t xo yo ((AV.int k (.lit a)).val e) ((AV.int k' (.lit b)).val e)).run P w = .ok () w :=
      run_eqGuard w (by simp [AV.val]) (by simp [AV.val])
    rw [Sem.run_bind, hg, Result.andThen_ok]
    split at h
    · exact shiftA_ok h P e w t k'
    · exact shiftA_ok h P e w t k'
    · split at h
      · rename_i hk; subst hk; exact intA_ok h P e w t
      · cases h
  · rename_i k a k' b _
    have hg : (eqGuard op t xo yo ((AV.int k a).val e) ((AV.int k' b).val e)).run P w = .ok () w :=
      run_eqGuard w (by simp [AV.val]) (by simp [AV.val])
    rw [Sem.run_bind, hg, Result.andThen_ok]
    split at h
    · rename_i hk; subst hk
      cases hc : Nat.beq (opCode op) 0
      · rw [hc] at h
        simp only [cond_false, Option.map_eq_some_iff] at h
        obtain ⟨r, hr, rfl⟩ := h
        have := findFact_ok hr hfx
        refine ⟨?_, by simp [AV.ok]⟩
        simp only [AV.val]
        rw [cmp_run hc, this]
      · rw [hc] at h; cases h
    · cases h
  · rename_i a b
    have hg : (eqGuard op t xo yo ((AV.str a).val e) ((AV.str b).val e)).run P w = .ok () w :=
      run_eqGuard w (by simp [AV.val]) (by simp [AV.val])
    rw [Sem.run_bind, hg, Result.andThen_ok]
    exact strA_ok h P e w t
  · rename_i b o b' o'
    have hg : (eqGuard op t xo yo ((AV.ptr b o).val e) ((AV.ptr b' o').val e)).run P w = .ok () w :=
      run_eqGuard w (by simp [AV.val]) (by simp [AV.val])
    rw [Sem.run_bind, hg, Result.andThen_ok]
    split at h
    · rename_i el hel
      split at h
      · rename_i i hi
        cases hc : (Nat.beq b b' && !Nat.beq i.size 0)
        · rw [hc] at h; cases h
        · rw [hc] at h
          simp only [Bool.and_eq_true, Bool.not_eq_true'] at hc
          have hbb := Nat.eq_of_beq_eq_true hc.1
          subst hbb
          have hsz : i.size ≠ 0 := by intro q; rw [q] at hc; simp at hc
          have heq : (Op.equal t ((AV.ptr b o).val e) ((AV.ptr b o').val e)).run P w = .ok (Nat.beq o o') w := by
            show (Op.equalIn (9999 + 1) t ((AV.ptr b o).val e) ((AV.ptr b o').val e)).run P w = _
            generalize 9999 = dep
            simp only [Op.equalIn, Sem.run_bind, run_underlying hel, Result.andThen_ok, AV.val, run_size hi]
            simp only [ne_eq, hsz, not_false_eq_true, if_true]
            simp only [sameAddr, beq_self_eq_true, if_true]
            simp only [pure, Sem.run]
            congr 1
            rw [Bool.eq_iff_iff, beq_iff_eq, Nat.beq_eq]
            simp
          split at h <;> simp only [cond_true] at h <;> cases h
          · rw [binOp_via_equal (.inl rfl) P t _ _ w (by simp [AV.val]) (by simp [AV.val]) (by simp [AV.val]) (by simp [AV.val]) _ heq]
            simp [AV.val, AV.ok, isEql]
          · rw [binOp_via_equal (.inr rfl) P t _ _ w (by simp [AV.val]) (by simp [AV.val]) (by simp [AV.val]) (by simp [AV.val]) _ heq]
            simp [AV.val, AV.ok, isEql]
      · cases h
    · cases h
  · split at h
    · rename_i d hd
      have key : ∀ r, eqA d (isConstO xo || isConstO yo) x y = some r → (op = .eql ∨ op = .neq) →
          (do eqGuard op t xo yo (x.val e) (y.val e); binOp op t (x.val e) (y.val e) : Sem Value).run P w = .ok (.bool (bif isEql op then r else !r)) w := by
        intro r hr hop
        obtain ⟨a1, a2, a3, a4, a5, a6, a7⟩ := eqA_one hr
        rw [Sem.run_bind, run_eqGuard w (a7 e) (.inl (AV.val_ne_agg hx a1)), Result.andThen_ok]
        exact binOp_via_equal hop P t _ _ w (a3 e) (a4 e) (a5 e) (a6 e) r (eqA_ok hr P e w t hd 9999)
      split at h
      · simp only [Option.map_eq_some_iff] at h
        obtain ⟨r, hr, rfl⟩ := h
        rw [key r hr (.inl rfl)]; simp [AV.val, AV.ok, isEql]
      · simp only [Option.map_eq_some_iff] at h
        obtain ⟨r, hr, rfl⟩ := h
        rw [key r hr (.inr rfl)]; simp [AV.val, AV.ok, isEql]
      · cases h
    · cases h

theorem unA_ok {P : Program} {op : UnOp} {x v : AV} (h : unA op x = some v) (e : Env) (w : World) : (Op.unary op (x.val e)).run P w = .ok (v.val e) w ∧ v.ok e := by
  unfold unA at h
  split at h
  · cases h; simp [Op.unary, AV.val, AV.ok]
  · have := intA_ok h P e w 0
    simpa [Op.unary, AV.val, SI.val, binOp] using this
  · have := intA_ok h P e w 0
    simpa [Op.unary, AV.val, SI.val, binOp] using this
  · cases h



/-! ### Slices -/
theorem run_sliceBound {P : Program} {k : IntKind} {i y : Nat} (h : i ≤ y) (code : BoundsCode) (w : World) :
    (Instr.sliceBound (.int k (Int.ofNat i)) y code).run P w = .ok i w := by
  simp only [Instr.sliceBound, asIntOf, Sem.run_bind, pure, Sem.run, Result.andThen_ok]
  rw [if_pos ⟨Int.natCast_nonneg i, by exact Int.ofNat_le.2 h⟩]
  rfl

theorem bndA_some {a : AV} {dflt y i : Nat} (h : bndA (some a) dflt y = some i) : ∃ k, a = .int k (.lit (.ofNat i)) ∧ i ≤ y := by
  unfold bndA at h
  split at h
  · rename_i q; cases q
  · rename_i k j q
    cases q
    cases hc : Nat.ble j y
    · rw [hc] at h; cases h
    · rw [hc] at h; cases h; exact ⟨k, rfl, Nat.le_of_ble_eq_true hc⟩
  · cases h

theorem run_sliceBounds {P : Program} {e : Env} {isSlice : Bool} {len cap capA l h : Nat} {lo hi : Option AV} (w : World) (hcap : capA ≤ cap)
    (hh : bndA hi len capA = some h) (hl : bndA lo 0 h = some l) :
    (Instr.sliceBounds isSlice len cap (lo.map (·.val e)) (hi.map (·.val e)) none).run P w = .ok (l, h, cap) w := by
  have e1 : ∀ (f : Nat → Sem (Nat × Nat × Nat)), (do
      let h ← match hi.map (·.val e), (none : Option Value) with
        | some v, some _ => Instr.sliceBound v cap .slice3B
        | some v, none => Instr.sliceBound v cap (if isSlice then .sliceAcap else .sliceAlen)
        | none, none => pure len
        | none, some _ => stuck "Slice: max without high"
      f h : Sem (Nat × Nat × Nat)).run P w = (f h).run P w := by
    intro f
    cases hi with
    | none => simp [bndA] at hh; subst hh; simp
    | some a =>
      obtain ⟨k, rfl, hle⟩ := bndA_some hh
      simp only [Option.map, AV.val, SI.val, Sem.run_bind, run_sliceBound (Nat.le_trans hle hcap), Result.andThen_ok]
  have e2 : ∀ (f : Nat → Sem (Nat × Nat × Nat)), (do
      let l ← match lo.map (·.val e) with
        | some v => Instr.sliceBound v h (if (none : Option Value).isSome then .slice3C else .sliceB)
        | none => pure 0
      f l : Sem (Nat × Nat × Nat)).run P w = (f l).run P w := by
    intro f
    cases lo with
    | none => simp [bndA] at hl; subst hl; simp
    | some a =>
      obtain ⟨k, rfl, hle⟩ := bndA_some hl
      simp only [Option.map, AV.val, SI.val, Sem.run_bind, run_sliceBound hle, Result.andThen_ok]
  unfold Instr.sliceBounds
  simp only [pure_bind]
  exact (e1 _).trans (e2 _)

end Go.Sx

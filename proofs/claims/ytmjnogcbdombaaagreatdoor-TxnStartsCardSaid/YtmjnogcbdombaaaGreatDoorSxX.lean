/- Calls whose outcome is known: each run once, used wherever it is met. -/
import Derived.Test.YtmjnogcbdombaaaGreatDoorSxV
set_option linter.all false
namespace Go.Sx
set_option linter.unusedSimpArgs false
open Go.RowKit

theorem AV.sames_eq : ∀ (l r : List AV), AV.sames l r = true → l = r
  | [], [], _ => rfl
  | a :: l, b :: r, h => by
    simp only [AV.sames, Bool.and_eq_true] at h
    rw [AV.same_eq h.1, AV.sames_eq l r h.2]
  | [], _ :: _, h => by simp [AV.sames] at h
  | _ :: _, [], h => by simp [AV.sames] at h

/-! ### Tries: all of one; two in one -/
def Tr.allK {α : Type} (p : Nat → α → Bool) : Tr α → Nat → Nat → Bool
  | .e, _, _ => true
  | .n l v r, a, b => (match v with
    | none => true
    | some x => p b x) && Tr.allK p l (2 * a) (a + b) && Tr.allK p r (2 * a) (2 * a + b)

theorem Tr.allK_get {α : Type} {p : Nat → α → Bool} : ∀ (t : Tr α) (a b : Nat), t.allK p a b = true → ∀ k x, t.get k = some x → p (a * k + b) x = true
  | .e, _, _, _, k, x, hx => by simp [Tr.get] at hx
  | .n l v r, a, b, h, k, x, hx => by
    simp only [Tr.allK, Bool.and_eq_true] at h
    obtain ⟨⟨h1, h2⟩, h3⟩ := h
    cases k with
    | zero =>
      simp only [Tr.get] at hx
      subst hx
      simpa using h1
    | succ k =>
      simp only [Tr.get] at hx
      cases hk : Nat.beq (k % 2) 0
      · rw [hk] at hx
        simp only [cond_false] at hx
        have := Tr.allK_get r _ _ h3 _ _ hx
        have a1 : ¬ k % 2 = 0 := fun q => by rw [q] at hk; simp at hk
        have e1 : 2 * a * (k / 2) + (2 * a + b) = a * (k + 1) + b := by
          have : k = 2 * (k / 2) + 1 := by omega
          rw [show a * (k + 1) = a * (2 * (k / 2) + 1 + 1) by rw [← this]]
          simp only [Nat.mul_add, Nat.mul_one]
          rw [← Nat.mul_assoc, Nat.mul_comm a 2]
          omega
        rw [e1] at this
        exact this
      · rw [hk] at hx
        simp only [cond_true] at hx
        have := Tr.allK_get l _ _ h2 _ _ hx
        have a1 : k % 2 = 0 := Nat.eq_of_beq_eq_true hk
        have e1 : 2 * a * (k / 2) + (a + b) = a * (k + 1) + b := by
          have : k = 2 * (k / 2) := by omega
          rw [show a * (k + 1) = a * (2 * (k / 2) + 1) by rw [← this]]
          simp only [Nat.mul_add, Nat.mul_one]
          rw [← Nat.mul_assoc, Nat.mul_comm a 2]
          omega
        rw [e1] at this
        exact this

def Tr.or {α : Type} : Tr α → Tr α → Tr α
  | .e, t => t
  | .n l v r, .e => .n l v r
  | .n l v r, .n l' v' r' => .n (Tr.or l l') (match v with
    | none => v'
    | some x => some x) (Tr.or r r')

theorem Tr.get_or {α : Type} : ∀ (s t : Tr α) (k : Nat) (x : α), (Tr.or s t).get k = some x → s.get k = some x ∨ (s.get k = none ∧ t.get k = some x)
  | .e, t, k, x, h => by
    right
    exact ⟨rfl, by simpa [Tr.or] using h⟩
  | .n l v r, .e, k, x, h => by left; simpa [Tr.or] using h
  | .n l v r, .n l' v' r', k, x, h => by
    cases k with
    | zero =>
      simp only [Tr.or, Tr.get] at h ⊢
      cases v with
      | none => exact .inr ⟨rfl, h⟩
      | some y => exact .inl h
    | succ k =>
      simp only [Tr.or, Tr.get] at h ⊢
      cases hk : Nat.beq (k % 2) 0
      · rw [hk] at h
        simp only [cond_false] at h ⊢
        exact Tr.get_or r r' _ _ h
      · rw [hk] at h
        simp only [cond_true] at h ⊢
        exact Tr.get_or l l' _ _ h

/-! ### The table -/
def tabCells (zs : List Int) : List AV := zs.map fun z => .int .u8 (.lit z)

def tabOk (zs : List Int) (st : St) : Bool :=
  match st.cellsAt 0 0 zs.length with
  | some l => AV.sames l (tabCells zs)
  | none => false

theorem cellsAt_get {st : St} {b : Nat} : ∀ (k o : Nat) (l : List AV), st.cellsAt b o k = some l → ∀ i, i < k → ∃ v, st.cellAt b (o + i) = some v ∧ l[i]? = some v
  | 0, _, _, _, i, hi => by omega
  | k + 1, o, l, h, i, hi => by
    simp only [St.cellsAt] at h
    split at h
    · cases h
    · rename_i v hv
      split at h
      · cases h
      · rename_i l' hl
        cases h
        cases i with
        | zero => exact ⟨v, hv, rfl⟩
        | succ i =>
          obtain ⟨u, h1, h2⟩ := cellsAt_get k (o + 1) l' hl i (by omega)
          exact ⟨u, by rw [← h1]; congr 1; omega, by simpa using h2⟩

theorem tabOk_cells {zs : List Int} {st : St} (h : tabOk zs st = true) {e : Env} {w : World} (hw : Rel e st w) (h0 : e.blk 0 = some 0) (i : Nat) (hi : i < zs.length) :
    w.cell? ⟨0, i, none⟩ = some (.int .u8 (zs.getD i 0)) := by
  unfold tabOk at h
  split at h
  · rename_i l hl
    have hs := AV.sames_eq _ _ h
    subst hs
    obtain ⟨v, h1, h2⟩ := cellsAt_get _ _ _ hl i hi
    have := (hw.cellAt h0 h1).1
    rw [Nat.zero_add] at this
    rw [this]
    simp only [tabCells, List.getElem?_map, Option.map_eq_some_iff] at h2
    obtain ⟨z, hz, rfl⟩ := h2
    simp [AV.val, SI.val, List.getD, hz]
  · cases h

/-- The table alone, read with what is known already. -/
theorem tab_rel' {e : Env} {w : World} {N : Nat} (h0 : e.blk 0 = some 0) (hf : ∀ b, N ≤ b → e.blk b = none ∧ e.cap b = none) (hcap : ∀ b, e.blk b = none → e.cap b = none)
    {zs : List Int} (hz : 0 < zs.length) (hc : ∀ i, i < zs.length → w.cell? ⟨0, i, none⟩ = some (.int .u8 (zs.getD i 0))) :
    ∃ ty, Rel e (tabSt ty N (tabCells zs)) w := by
  have q0 := hc 0 hz
  unfold World.cell? at q0
  split at q0
  · rename_i arr ty fr hb
    refine ⟨ty, ⟨?_, ?_, hf, hcap⟩⟩
    · intro b blk n hg hn
      obtain ⟨rfl, rfl⟩ := tab_get hg
      rw [h0] at hn
      cases hn
      refine ⟨arr, fr, hb, setL_known (fun v hv => ?_) (fun i v hv => ?_), fun q => by simp at q, fun q => by omega⟩
      · obtain ⟨z, _, rfl⟩ := List.mem_map.1 hv
        exact ⟨by simp [AV.ok], rfl⟩
      · simp only [tabCells, List.getElem?_map, Option.map_eq_some_iff] at hv
        obtain ⟨z, hz, rfl⟩ := hv
        have hi := (List.getElem?_eq_some_iff.1 hz).1
        have := hc i hi
        simp only [World.cell?, hb] at this
        simp [List.getD, hz] at this
        simp [AV.val, SI.val, this]
    · intro b b' blk blk' n h1 h2 _ _
      rw [(tab_get h1).1, (tab_get h2).1]
  · cases q0

/-! ### A call that returns true and turns nothing that was there -/
def cutTrue (g0 : Nat) (zs : List Int) (g : FuncId) (args : List AV) (st : St) : Option (AV × St) :=
  bif Nat.beq g g0 && args.isEmpty && tabOk zs st then some (.bool true, st) else none

/-- A call that leaves what was there alone leaves a state as it reads. -/
theorem Rel.below {e : Env} {st : St} {w w' : World} (h : Rel e st w) (hb : Below w.heap.size w w') : Rel e st w' ∧ Goes e st w e st w' := by
  refine ⟨⟨fun b blk n h1 h2 => (h.hb b blk n h1 h2).heap (hb.block n (h.hb b blk n h1 h2).lt), h.inj, h.fresh, h.cap⟩, ?_⟩
  exact ⟨.refl e, Nat.le_refl _, hb.size, hb.os, hb.tape, hb.output, fun n hn _ => hb.block n hn, fun b blk _ h1 h2 h3 => .inr ⟨b, blk, h1, h2, h3⟩, fun _ _ h => ⟨fun _ q => q, h⟩⟩

theorem cutTrue_ok {C : Cx} {g0 : Nat} {zs : List Int} (hG : 0 < C.G)
    (hrun : ∀ w : World, (∀ i, i < zs.length → w.cell? ⟨0, i, none⟩ = some (.int .u8 (zs.getD i 0))) → Calls C.P g0 #[] w fun en w' => en = .returned (.bool true) ∧ Below w.heap.size w w')
    {g : FuncId} {args : List AV} {st st' : St} {v : AV} (h : cutTrue g0 zs g args st = some (v, st')) {e : Env} {w : World} (hw : Rel e st w) (he : EnvOk C e) :
    Calls C.P g (AV.vals e args).toArray w fun en w' => ∃ e', Rel e' st' w' ∧ Goes e st w e' st' w' ∧ v.ok e' ∧ en = .returned (v.val e') := by
  unfold cutTrue at h
  cases hc : Nat.beq g g0 && args.isEmpty && tabOk zs st
  · rw [hc] at h; cases h
  rw [hc] at h
  simp only [cond_true, Option.some.injEq, Prod.mk.injEq] at h
  obtain ⟨rfl, rfl⟩ := h
  simp only [Bool.and_eq_true, List.isEmpty_iff] at hc
  obtain ⟨⟨h1, rfl⟩, h3⟩ := hc
  obtain rfl := Nat.eq_of_beq_eq_true h1
  refine (hrun w (tabOk_cells h3 hw (he.glob 0 hG))).mono ?_
  rintro en w' ⟨rfl, hb⟩
  obtain ⟨k1, k2⟩ := hw.below hb
  exact ⟨e, k1, k2, trivial, rfl⟩

/-! ### A call that was run from the table alone -/
/-- What is left, but the table. -/
def sansTab (r : Rs (AV × St)) : Option (AV × Tr Blk × Nat) :=
  match r with
  | .ok (v, st) => some (v, Tr.set 40 st.heap 0 none, st.next)
  | _ => none

def cutRun (g0 : Nat) (args0 : List AV) (zs : List Int) (N : Nat) (r : AV) (h1 : Tr Blk) (next1 : Nat) (g : FuncId) (args : List AV) (st : St) : Option (AV × St) :=
  bif Nat.beq g g0 && AV.sames args args0 && tabOk zs st && Nat.ble st.next N && st.heap.allK (fun b _ => Nat.blt b st.next) 1 0 then some (r, ⟨Tr.or h1 st.heap, next1⟩) else none

theorem cutRun_ok {C C0 : Cx} (hP : C0.P = C.P) (hfx : C0.fx = []) (hG0 : C0.G = C.G) (hG : 0 < C.G) (hm : C0.P.follows .mixedOrders = true) (hcut : CutOk C0) {k g0 N next1 : Nat} {args0 : List AV} {zs : List Int} (hz : 0 < zs.length) {r : AV} {h1 : Tr Blk}
    (hrun : ∀ ty, sansTab (callN C0 k g0 args0 (tabSt ty N (tabCells zs))) = some (r, h1, next1)) (hargs : ∀ e : Env, AV.oks e args0)
    (hall : h1.allK (fun b blk => Nat.ble N b && blk.wr) 1 0 = true)
    {g : FuncId} {args : List AV} {st st' : St} {v : AV} (h : cutRun g0 args0 zs N r h1 next1 g args st = some (v, st')) {e : Env} {w : World} (hw : Rel e st w) (he : EnvOk C e) :
    Calls C.P g (AV.vals e args).toArray w fun en w' => ∃ e', Rel e' st' w' ∧ Goes e st w e' st' w' ∧ v.ok e' ∧ en = .returned (v.val e') := by
  unfold cutRun at h
  cases hc : Nat.beq g g0 && AV.sames args args0 && tabOk zs st && Nat.ble st.next N && st.heap.allK (fun b _ => Nat.blt b st.next) 1 0
  · rw [hc] at h; cases h
  rw [hc] at h
  simp only [cond_true, Option.some.injEq, Prod.mk.injEq] at h
  obtain ⟨rfl, rfl⟩ := h
  simp only [Bool.and_eq_true] at hc
  obtain ⟨⟨⟨⟨c1, c2⟩, c3⟩, c4⟩, c5⟩ := hc
  obtain rfl := Nat.eq_of_beq_eq_true c1
  have ha := AV.sames_eq _ _ c2
  subst ha
  have hN : st.next ≤ N := Nat.le_of_ble_eq_true c4
  have hkeys : ∀ b blk, st.heap.get b = some blk → b < st.next := fun b blk hb => by
    have := Tr.allK_get _ _ _ c5 b blk hb
    have := Nat.le_of_ble_eq_true (show Nat.ble (1 * b + 0 + 1) st.next = true from this)
    omega
  have hnew : ∀ b blk, h1.get b = some blk → N ≤ b ∧ blk.wr = true := fun b blk hb => by
    have := Tr.allK_get _ _ _ hall b blk hb
    simp only [Bool.and_eq_true] at this
    have := And.intro (Nat.le_of_ble_eq_true this.1) this.2
    simpa using this
  have h0 := he.glob 0 hG
  obtain ⟨ty, hrel⟩ := tab_rel' (N := N) h0 (fun b hb => hw.fresh b (Nat.le_trans hN hb)) hw.cap hz (tabOk_cells c3 hw h0)
  have hr := hrun ty
  unfold sansTab at hr
  split at hr
  · rename_i v1 st1 hst1
    simp only [Option.some.injEq, Prod.mk.injEq] at hr
    obtain ⟨rfl, rfl, rfl⟩ := hr
    have he0 : EnvOk C0 e := ⟨fun f hf => (by rw [hfx] at hf; cases hf), fun g hg => he.glob g (by rw [← hG0]; exact hg)⟩
    have hcall := callN_ok hm hcut k g args _ _ _ hst1 e w hrel he0 (hargs e)
    rw [hP] at hcall
    refine hcall.mono ?_
    rintro en w' ⟨e', k1, k2, k3, rfl⟩
    have hno : ∀ b blk, (tabSt ty N (tabCells zs)).heap.get b = some blk → blk.wr = false := fun b blk hb => by rw [(tab_get hb).2]; rfl
    have hkeep : ∀ n, n < w.heap.size → w'.heap[n]? = w.heap[n]? := fun n hn => k2.keep n hn fun b blk hb hwr => by rw [hno b blk hb] at hwr; cases hwr
    have hin : ∀ b blk, (Tr.set 40 st1.heap 0 none).get b = some blk → st1.heap.get b = some blk := fun b blk hb => by
      rcases Tr.get_set _ _ _ _ _ _ hb with ⟨_, q⟩ | ⟨_, q⟩
      · cases q
      · exact q
    have hold : ∀ b blk n, st.heap.get b = some blk → e'.blk b = some n → e.blk b = some n := fun b blk n hb hn => by
      cases hq : e.blk b with
      | none =>
        have := (k2.unborn b (Nat.lt_of_lt_of_le (hkeys b blk hb) hN) hq).2
        rw [this] at hn; cases hn
      | some n0 =>
        have := k2.le.blk b n0 hq
        rw [hn] at this
        exact this.symm
    have hfar : ∀ b blk n, (Tr.set 40 st1.heap 0 none).get b = some blk → e'.blk b = some n → w.heap.size ≤ n := fun b blk n hb hn => by
      rcases k2.own b blk n (hin b blk hb) (hnew b blk hb).2 hn with q | ⟨b0, blk0, q1, q2, _⟩
      · exact q
      · rw [hno b0 blk0 q1] at q2; cases q2
    refine ⟨e', ⟨?_, ?_, k1.fresh, k1.cap⟩, ⟨k2.le, Nat.le_trans hN k2.next, k2.size, k2.os, k2.tape, k2.output, fun n hn _ => hkeep n hn, ?_, ?_⟩, k3, rfl⟩
    · intro b blk n hb hn
      rcases Tr.get_or _ _ _ _ hb with q | ⟨_, q⟩
      · exact k1.hb b blk n (hin b blk q) hn
      · have hn0 := hold b blk n q hn
        have hh := hw.hb b blk n q hn0
        exact (hh.le k2.le).heap (hkeep n hh.lt)
    · intro b b' blk blk' n hb hb' hn hn'
      rcases Tr.get_or _ _ _ _ hb with q | ⟨_, q⟩ <;> rcases Tr.get_or _ _ _ _ hb' with q' | ⟨_, q'⟩
      · exact k1.inj b b' blk blk' n (hin _ _ q) (hin _ _ q') hn hn'
      · have := hfar b blk n q hn
        have := (hw.hb b' blk' n q' (hold _ _ _ q' hn')).lt
        omega
      · have := hfar b' blk' n q' hn'
        have := (hw.hb b blk n q (hold _ _ _ q hn)).lt
        omega
      · exact hw.inj b b' blk blk' n q q' (hold _ _ _ q hn) (hold _ _ _ q' hn')
    · intro b blk n hb hwr hn
      rcases Tr.get_or _ _ _ _ hb with q | ⟨_, q⟩
      · exact .inl (hfar b blk n q hn)
      · exact .inr ⟨b, blk, q, hwr, hold b blk n q hn⟩
    · intro b hb hn
      refine ⟨fun blk hq => ?_, (k2.unborn b (Nat.lt_of_lt_of_le hb hN) hn).2⟩
      rcases Tr.get_or _ _ _ _ hq with q | ⟨_, q⟩
      · have := (hnew b blk q).1
        omega
      · exact q
  · cases hr

end Go.Sx

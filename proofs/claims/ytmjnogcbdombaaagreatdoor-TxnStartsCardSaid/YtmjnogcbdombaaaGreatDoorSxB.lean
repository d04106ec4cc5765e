/- Symbolic heaps, and how a world reads as one. -/
import Derived.Test.YtmjnogcbdombaaaGreatDoorSxA
import Derived.Below
set_option linter.all false
namespace Go.Sx
open Go.ChangeMaps

inductive Blk where
  /-- cells of a type; may they be written?; their capacity in elements of cw cells, at least lb (cw = 0: nothing is said); what is known of them -/
  | cells (ty : Nat) (ro : Bool) (cw lb : Nat) (c : Tr AV)
  | map (es : List (AV × AV × Nat)) (clock : Nat)
  | strIter (s : List UInt8) (pos : Nat)
  | mapIter (m : Option Nat) (since : Nat) (seen : List Nat) (stepped : Nat)

def Blk.wr : Blk → Bool
  | .cells _ ro .. => !ro
  | _ => true

structure St where
  heap : Tr Blk
  next : Nat

def entryVal (e : Env) (x : AV × AV × Nat) : MapEntry := { key := x.1.val e, val := x.2.1.val e, born := x.2.2 }

/-- Block n of a world reads as the symbolic block b. -/
def HB (e : Env) (b : Nat) (blk : Blk) (w : World) (n : Nat) : Prop :=
  match blk with
  | .cells ty ro cw lb c => ∃ (arr : Array Value) (fr : Nat × Nat), w.heap[n]? = some (.cells arr ty fr) ∧
      (∀ i v, c.get i = some v → v.ok e ∧ v.one = true ∧ arr[i]? = some (v.val e)) ∧
      (ro = false → ∀ i, i < arr.size → ¬ (fr.1 ≤ i ∧ i < fr.2)) ∧
      (0 < cw → ∃ k, e.cap b = some k ∧ lb ≤ k ∧ k * cw ≤ arr.size)
  | .map es clock => w.heap[n]? = some (.map (es.map (entryVal e)).toArray clock) ∧ ∀ x ∈ es, x.1.ok e ∧ x.2.1.ok e
  | .strIter s pos => w.heap[n]? = some (.stringIter ⟨s.toArray⟩ pos)
  | .mapIter m since seen stepped => w.heap[n]? = some (.mapIter (m.map fun b => (e.blk b).getD 0) since seen.toArray stepped) ∧ ∀ b, m = some b → (e.blk b).isSome = true

theorem HB.le {e e' : Env} (h : e.le e') {b : Nat} {blk : Blk} {w : World} {n : Nat} (hb : HB e b blk w n) : HB e' b blk w n := by
  cases blk with
  | cells ty ro cw lb c =>
    obtain ⟨arr, fr, h1, h2, h3, h4⟩ := hb
    refine ⟨arr, fr, h1, fun i v hv => ?_, h3, fun hw => ?_⟩
    · obtain ⟨a, o, d⟩ := h2 i v hv
      have := AV.val_le h v a
      exact ⟨this.2, o, by rw [this.1]; exact d⟩
    · obtain ⟨k, a, d⟩ := h4 hw
      exact ⟨k, h.cap _ _ a, d⟩
  | map es clock =>
    obtain ⟨h1, h2⟩ := hb
    have e1 : es.map (entryVal e') = es.map (entryVal e) := List.map_congr_left fun x hx => by
      simp only [entryVal, (AV.val_le h _ (h2 x hx).1).1, (AV.val_le h _ (h2 x hx).2).1]
    exact ⟨by rw [e1]; exact h1, fun x hx => ⟨(AV.val_le h _ (h2 x hx).1).2, (AV.val_le h _ (h2 x hx).2).2⟩⟩
  | strIter s pos => exact hb
  | mapIter m since seen stepped =>
    obtain ⟨h1, h2⟩ := hb
    refine ⟨?_, fun c hc => ?_⟩
    · cases m with
      | none => exact h1
      | some c => simpa [h.blk_eq (h2 c rfl)] using h1
    · rw [h.blk_eq (h2 c hc)]; exact h2 c hc

theorem HB.heap {e : Env} {b : Nat} {blk : Blk} {w w' : World} {n : Nat} (hw : w'.heap[n]? = w.heap[n]?) (hb : HB e b blk w n) : HB e b blk w' n := by
  cases blk with
  | cells ty ro cw lb c => obtain ⟨arr, fr, h1, h2⟩ := hb; exact ⟨arr, fr, hw.trans h1, h2⟩
  | map es clock => exact ⟨hw.trans hb.1, hb.2⟩
  | strIter s pos => exact hw.trans hb
  | mapIter m since seen stepped => exact ⟨hw.trans hb.1, hb.2⟩

theorem HB.lt {e : Env} {b : Nat} {blk : Blk} {w : World} {n : Nat} (hb : HB e b blk w n) : n < w.heap.size := by
  have : ∃ o, w.heap[n]? = some o := by
    cases blk with
    | cells ty ro cw lb c => obtain ⟨arr, fr, h1, _⟩ := hb; exact ⟨_, h1⟩
    | map es clock => exact ⟨_, hb.1⟩
    | strIter s pos => exact ⟨_, hb⟩
    | mapIter m since seen stepped => exact ⟨_, hb.1⟩
  obtain ⟨o, ho⟩ := this
  exact (Array.getElem?_eq_some_iff.1 ho).1

/-- A world reads as a symbolic state. -/
structure Rel (e : Env) (st : St) (w : World) : Prop where
  hb : ∀ b blk n, st.heap.get b = some blk → e.blk b = some n → HB e b blk w n
  inj : ∀ b b' blk blk' n, st.heap.get b = some blk → st.heap.get b' = some blk' → e.blk b = some n → e.blk b' = some n → b = b'
  fresh : ∀ b, st.next ≤ b → e.blk b = none ∧ e.cap b = none
  cap : ∀ b, e.blk b = none → e.cap b = none

/-- What a step leaves alone. -/
structure Goes (e : Env) (st : St) (w : World) (e' : Env) (st' : St) (w' : World) : Prop where
  le : e.le e'
  next : st.next ≤ st'.next
  size : w.heap.size ≤ w'.heap.size
  os : w'.os = w.os
  tape : w'.tape = w.tape
  output : w'.output = w.output
  keep : ∀ n, n < w.heap.size → (∀ b blk, st.heap.get b = some blk → blk.wr = true → e.blk b ≠ some n) → w'.heap[n]? = w.heap[n]?
  own : ∀ b blk n, st'.heap.get b = some blk → blk.wr = true → e'.blk b = some n →
    w.heap.size ≤ n ∨ ∃ b0 blk0, st.heap.get b0 = some blk0 ∧ blk0.wr = true ∧ e.blk b0 = some n
  unborn : ∀ b, b < st.next → e.blk b = none → (∀ blk, st'.heap.get b = some blk → st.heap.get b = some blk) ∧ e'.blk b = none

theorem Goes.refl (e : Env) (st : St) (w : World) : Goes e st w e st w :=
  ⟨.refl e, Nat.le_refl _, Nat.le_refl _, rfl, rfl, rfl, fun _ _ _ => rfl, fun b blk _ h1 h2 h3 => .inr ⟨b, blk, h1, h2, h3⟩, fun _ _ h => ⟨fun _ q => q, h⟩⟩

theorem Goes.trans {e e' e'' : Env} {st st' st'' : St} {w w' w'' : World} (h : Goes e st w e' st' w') (k : Goes e' st' w' e'' st'' w'') :
    Goes e st w e'' st'' w'' where
  le := h.le.trans k.le
  next := Nat.le_trans h.next k.next
  size := Nat.le_trans h.size k.size
  os := k.os.trans h.os
  tape := k.tape.trans h.tape
  output := k.output.trans h.output
  keep := fun n hn hno => by
    rw [k.keep n (Nat.lt_of_lt_of_le hn h.size), h.keep n hn hno]
    intro b blk hb hw he
    rcases h.own b blk n hb hw he with g | ⟨b0, blk0, g1, g2, g3⟩
    · omega
    · exact hno b0 blk0 g1 g2 g3
  own := fun b blk n hb hw he => by
    rcases k.own b blk n hb hw he with g | ⟨b0, blk0, g1, g2, g3⟩
    · exact .inl (Nat.le_trans h.size g)
    · exact h.own b0 blk0 n g1 g2 g3
  unborn := fun b hb hn => by
    have a := h.unborn b hb hn
    have c := k.unborn b (Nat.lt_of_lt_of_le hb h.next) a.2
    exact ⟨fun blk q => a.1 blk (c.1 blk q), c.2⟩

theorem Goes.drew {e e' : Env} {st st' : St} {w w' : World} (h : Goes e st w e' st' w') : Goes e st w e' st' w'.drew :=
  ⟨h.le, h.next, h.size, h.os, h.tape, h.output, h.keep, h.own, h.unborn⟩
theorem Rel.drew {e : Env} {st : St} {w : World} (h : Rel e st w) : Rel e st w.drew :=
  ⟨fun b blk n h1 h2 => (h.hb b blk n h1 h2).heap rfl, h.inj, h.fresh, h.cap⟩

/-! ### Loading -/
def St.cellAt (st : St) (b o : Nat) : Option AV :=
  match st.heap.get b with
  | some (.cells _ _ _ _ c) => c.get o
  | _ => none

theorem Rel.cellAt {e : Env} {st : St} {w : World} (h : Rel e st w) {b o n : Nat} {v : AV} (hb : e.blk b = some n) (hv : st.cellAt b o = some v) :
    w.cell? ⟨n, o, none⟩ = some (v.val e) ∧ v.ok e ∧ v.one = true := by
  unfold St.cellAt at hv
  split at hv
  · rename_i ty ro cw lb c hg
    obtain ⟨arr, fr, h1, h2, _⟩ := h.hb b _ n hg hb
    obtain ⟨a, o', d⟩ := h2 o v hv
    exact ⟨by simp [World.cell?, h1, d], a, o'⟩
  · cases hv

def St.cellsAt (st : St) (b o : Nat) : Nat → Option (List AV)
  | 0 => some []
  | k + 1 => match st.cellAt b o with
    | none => none
    | some v => match st.cellsAt b (o + 1) k with
      | none => none
      | some l => some (v :: l)

theorem Rel.cellsAt {e : Env} {st : St} {w : World} (h : Rel e st w) {b n : Nat} (hb : e.blk b = some n) : ∀ (k o : Nat) (l : List AV), st.cellsAt b o k = some l →
    l.length = k ∧ (∀ v ∈ l, v.ok e ∧ v.one = true) ∧ ∀ j v, (l.map (·.val e))[j]? = some v → w.cell? ⟨n, o + j, none⟩ = some v
  | 0, o, l, hl => by simp [St.cellsAt] at hl; subst hl; simp
  | k + 1, o, l, hl => by
    simp only [St.cellsAt] at hl
    split at hl
    · cases hl
    · rename_i v hv
      split at hl
      · cases hl
      · rename_i l' hl'
        cases hl
        obtain ⟨a1, a2, a3⟩ := Rel.cellsAt h hb k (o + 1) l' hl'
        obtain ⟨c1, c2, c3⟩ := h.cellAt hb hv
        refine ⟨by simp [a1], fun x hx => ?_, fun j x hx => ?_⟩
        · rcases List.mem_cons.1 hx with rfl | hx
          · exact ⟨c2, c3⟩
          · exact a2 x hx
        · cases j with
          | zero => simp at hx; subst hx; simpa using c1
          | succ j =>
            have := a3 j x (by simpa using hx)
            rwa [show o + (j + 1) = o + 1 + j by omega]

theorem addr_add (n o k : Nat) : (⟨n, o, none⟩ : Addr).add k = ⟨n, o + k, none⟩ := by unfold Addr.add; split <;> simp_all

theorem Rel.run_loadCells {P : Program} {e : Env} {st : St} {w : World} (h : Rel e st w) {b n : Nat} (hb : e.blk b = some n) {k o : Nat} {l : List AV} (hl : st.cellsAt b o k = some l) :
    (loadCells ⟨n, o, none⟩ k).run P w = .ok (AV.vals e l).toArray w := by
  obtain ⟨a1, a2, a3⟩ := h.cellsAt hb k o l hl
  have := run_loadCells_list (P := P) w ⟨n, o, none⟩ (l.map (·.val e)) (fun j v hv => by rw [addr_add]; exact a3 j v hv)
  rw [List.length_map, a1] at this
  rw [this, AV.vals_eq]

/-! ### Storing -/
def setL (c : Tr AV) (o : Nat) : List AV → Tr AV
  | [] => c
  | v :: l => setL (Tr.set 40 c o (some v)) (o + 1) l

theorem get_setL : ∀ (l : List AV) (c : Tr AV) (o i : Nat) (u : AV), (setL c o l).get i = some u →
    (o ≤ i ∧ l[i - o]? = some u) ∨ ((i < o ∨ o + l.length ≤ i) ∧ c.get i = some u)
  | [], c, o, i, u, h => by
    simp only [setL] at h
    exact .inr ⟨by simp; omega, h⟩
  | v :: l, c, o, i, u, h => by
    simp only [setL] at h
    rcases get_setL l _ _ _ _ h with ⟨h1, h2⟩ | ⟨h1, h2⟩
    · left
      refine ⟨by omega, ?_⟩
      rw [show i - o = (i - (o + 1)) + 1 by omega]
      simpa using h2
    · rcases Tr.get_set _ _ _ _ _ _ h2 with ⟨rfl, h3⟩ | ⟨h3, h4⟩
      · left; exact ⟨Nat.le_refl _, by simpa using h3⟩
      · right; exact ⟨by simp; omega, h4⟩

theorem setCells_heap (n : Nat) : ∀ (vs : List Value) (o : Nat) (w : World) (arr : Array Value) (ty : Nat) (fr : Nat × Nat), w.heap[n]? = some (.cells arr ty fr) →
    ∃ arr', (w.setCells n o vs).heap[n]? = some (.cells arr' ty fr) ∧ arr'.size = arr.size ∧
      (∀ i, i < arr.size → arr'[i]? = if o ≤ i ∧ i < o + vs.length then vs[i - o]? else arr[i]?) ∧
      (∀ k, k ≠ n → (w.setCells n o vs).heap[k]? = w.heap[k]?) ∧ (w.setCells n o vs).heap.size = w.heap.size ∧
      (w.setCells n o vs).os = w.os ∧ (w.setCells n o vs).tape = w.tape ∧ (w.setCells n o vs).output = w.output
  | [], o, w, arr, ty, fr, h => ⟨arr, h, rfl, fun i _ => by simp; omega, fun _ _ => rfl, rfl, rfl, rfl, rfl⟩
  | v :: r, o, w, arr, ty, fr, h => by
    have h0 : (w.setCell ⟨n, o, none⟩ v).heap[n]? = some (.cells (arr.setIfInBounds o v) ty fr) := by
      simp [World.setCell, Array.getElem?_modify, h]
    obtain ⟨arr', a1, a2, a3, a4, a5, a6, a7, a8⟩ := setCells_heap n r (o + 1) (w.setCell ⟨n, o, none⟩ v) _ ty fr h0
    refine ⟨arr', a1, by simpa using a2, fun i hi => ?_, fun k hk => ?_, by simpa [World.setCells] using a5, a6, a7, a8⟩
    · rw [a3 i (by simpa using hi)]
      by_cases hio : i = o
      · subst hio
        rw [if_neg (by omega), if_pos ⟨Nat.le_refl _, by simp⟩]
        simp [Array.getElem?_setIfInBounds_self_of_lt hi]
      · by_cases hc : o + 1 ≤ i ∧ i < o + 1 + r.length
        · rw [if_pos hc, if_pos ⟨by omega, by simp; omega⟩, show i - o = (i - (o + 1)) + 1 by omega]
          simp
        · rw [if_neg hc, if_neg (by simp; omega), Array.getElem?_setIfInBounds_ne (by omega)]
    · simp only [World.setCells]
      rw [a4 k hk]
      simp only [World.setCell, Array.getElem?_modify]
      rw [if_neg (by simpa using fun q => hk q.symm)]

/-- The state with a block written anew. -/
def St.put (st : St) (b : Nat) (blk : Blk) : St := { st with heap := Tr.set 40 st.heap b (some blk) }

theorem St.get_put {st : St} {b : Nat} {blk : Blk} {i : Nat} {u : Blk} (h : (st.put b blk).heap.get i = some u) :
    (i = b ∧ blk = u) ∨ (i ≠ b ∧ st.heap.get i = some u) := by
  rcases Tr.get_set _ _ _ _ _ _ h with ⟨a, c⟩ | c
  · cases c; exact .inl ⟨a, rfl⟩
  · exact .inr c

theorem Rel.put {e : Env} {st : St} {w w' : World} (h : Rel e st w) {b n : Nat} {blk0 blk : Blk} (hb : e.blk b = some n) (hg : st.heap.get b = some blk0) (hwr : blk0.wr = true)
    (h1 : w'.heap.size = w.heap.size) (h2 : ∀ k, k ≠ n → w'.heap[k]? = w.heap[k]?) (h3 : w'.os = w.os) (h4 : w'.tape = w.tape) (h5 : w'.output = w.output) (hB : HB e b blk w' n) :
    Rel e (st.put b blk) w' ∧ Goes e st w e (st.put b blk) w' := by
  refine ⟨⟨?_, ?_, h.fresh, h.cap⟩, ⟨.refl e, Nat.le_refl _, Nat.le_of_eq h1.symm, h3, h4, h5, ?_, ?_, ?_⟩⟩
  · intro i u m hu hm
    rcases St.get_put hu with ⟨rfl, rfl⟩ | ⟨hi, hu⟩
    · rw [hb] at hm; cases hm; exact hB
    · refine (h.hb i u m hu hm).heap (h2 m ?_)
      rintro rfl
      exact hi (h.inj i b u blk0 m hu hg hm hb)
  · intro i j u v m hu hv hi hj
    rcases St.get_put hu with ⟨e1, _⟩ | ⟨_, hu2⟩ <;> rcases St.get_put hv with ⟨e2, _⟩ | ⟨_, hv2⟩
    · rw [e1, e2]
    · subst e1; exact h.inj _ _ _ _ m hg hv2 hi hj
    · subst e2; exact h.inj _ _ _ _ m hu2 hg hi hj
    · exact h.inj _ _ _ _ m hu2 hv2 hi hj
  · intro k hk hno
    refine h2 k ?_
    rintro rfl
    exact hno b blk0 hg hwr hb
  · intro i u m hu hw hm
    right
    rcases St.get_put hu with ⟨rfl, rfl⟩ | ⟨hi, hu⟩
    · rw [hb] at hm; cases hm; exact ⟨i, blk0, hg, hwr, hb⟩
    · exact ⟨i, u, hu, hw, hm⟩
  · intro i hi hn
    refine ⟨?_, hn⟩
    have hne : i ≠ b := by rintro rfl; rw [hb] at hn; cases hn
    exact fun blk q => by
      rcases St.get_put q with ⟨a, _⟩ | ⟨_, a⟩
      · exact absurd a hne
      · exact a

def hasL (c : Tr AV) (o : Nat) : Nat → Bool
  | 0 => true
  | k + 1 => (c.get o).isSome && hasL c (o + 1) k

theorem hasL_spec {c : Tr AV} : ∀ {k o : Nat}, hasL c o k = true → ∀ j, j < k → (c.get (o + j)).isSome = true
  | 0, _, _, j, hj => by omega
  | k + 1, o, h, j, hj => by
    simp only [hasL, Bool.and_eq_true] at h
    cases j with
    | zero => exact h.1
    | succ j => have := hasL_spec h.2 j (by omega); rwa [show o + (j + 1) = o + 1 + j by omega]

/-- Cells are written. -/
def St.store (st : St) (b o : Nat) (l : List AV) : Option St :=
  match st.heap.get b with
  | some (.cells ty false cw lb c) => bif l.all AV.one && hasL c o l.length then some (st.put b (.cells ty false cw lb (setL c o l))) else none
  | _ => none

theorem Rel.store {P : Program} {e : Env} {st st' : St} {w : World} (h : Rel e st w) {b o n : Nat} {l : List AV} (hb : e.blk b = some n) (hs : st.store b o l = some st')
    (hl : ∀ v ∈ l, v.ok e) : ∃ w', (storeCells ⟨n, o, none⟩ (l.map (·.val e)) 0).run P w = .ok () w' ∧ Rel e st' w' ∧ Goes e st w e st' w' := by
  unfold St.store at hs
  split at hs
  · rename_i ty cw lb c hg
    cases hc : (l.all AV.one && hasL c o l.length)
    · rw [hc] at hs; cases hs
    · rw [hc] at hs
      simp only [cond_true, Option.some.injEq] at hs
      subst hs
      simp only [Bool.and_eq_true] at hc
      obtain ⟨h1, h2⟩ := hc
      rw [List.all_eq_true] at h1
      obtain ⟨arr, fr, g1, g2, g3, g4⟩ := h.hb b _ n hg hb
      have hin : ∀ j, j < l.length → o + j < arr.size ∧ ¬ (fr.1 ≤ o + j ∧ o + j < fr.2) := fun j hj => by
        obtain ⟨v, hv⟩ := Option.isSome_iff_exists.1 (hasL_spec h2 j hj)
        obtain ⟨_, _, g⟩ := g2 _ _ hv
        have := (Array.getElem?_eq_some_iff.1 g).1
        exact ⟨this, g3 rfl _ this⟩
      have hrun := run_storeCells_cells (P := P) n o (l.map (·.val e)) 0 w (fun j hj => by
          have := hin j (by simpa using hj)
          simp [World.cell?, g1, this.1]) (fun j hj => by
          have := (hin j (by simpa using hj)).2
          simp only [World.frozen?, g1]
          simp only [Nat.add_zero]
          simpa using this) (fun v hv => by
          obtain ⟨x, hx, rfl⟩ := List.mem_map.1 hv
          exact AV.one_val (h1 x hx) (hl x hx))
      obtain ⟨arr', a1, a2, a3, a4, a5, a6, a7, a8⟩ := setCells_heap n (l.map (·.val e)) o w arr ty fr g1
      refine ⟨_, hrun, ?_⟩
      simp only [Nat.add_zero]
      refine h.put hb hg rfl a5 a4 a6 a7 a8 ⟨arr', fr, a1, ?_, ?_, ?_⟩
      · intro i v hv
        rcases get_setL _ _ _ _ _ hv with ⟨q1, q2⟩ | ⟨q1, q2⟩
        · have hlt : i - o < l.length := (List.getElem?_eq_some_iff.1 q2).1
          have hm : v ∈ l := List.mem_of_getElem? q2
          refine ⟨hl v hm, h1 v hm, ?_⟩
          have := (hin (i - o) hlt).1
          rw [a3 i (by omega), if_pos ⟨q1, by simp; omega⟩]
          simp [q2]
        · obtain ⟨p1, p2, p3⟩ := g2 i v q2
          have := (Array.getElem?_eq_some_iff.1 p3).1
          refine ⟨p1, p2, ?_⟩
          rw [a3 i this, if_neg (by simp; omega)]
          exact p3
      · intro _ i hi; exact g3 rfl i (by omega)
      · intro hw; obtain ⟨k, k1, k2, k3⟩ := g4 hw; exact ⟨k, k1, k2, by omega⟩
  · cases hs

/-! ### New blocks -/
def Env.bear (e : Env) (b n : Nat) (c : Option Nat) : Env :=
  { e with blk := fun i => if i = b then some n else e.blk i, cap := fun i => if i = b then c else e.cap i }

theorem Env.le_bear {e : Env} {b n : Nat} {c : Option Nat} (h1 : e.blk b = none) (h2 : e.cap b = none) : e.le (e.bear b n c) where
  blk := fun i m hm => by
    simp only [Env.bear]
    rw [if_neg]
    · exact hm
    · rintro rfl; rw [h1] at hm; cases hm
  cap := fun i m hm => by
    simp only [Env.bear]
    rw [if_neg]
    · exact hm
    · rintro rfl; rw [h2] at hm; cases hm
  int := rfl
  val := rfl

/-- The state with one block more. -/
def St.new (st : St) (blk : Blk) : St := { st with heap := Tr.set 40 st.heap st.next (some blk), next := st.next + 1 }

end Go.Sx

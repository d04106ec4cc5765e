/- append, symbolically. -/
import Derived.Test.YtmjnogcbdombaaaGreatDoorSxK
set_option linter.all false
namespace Go.Sx
set_option linter.unusedSimpArgs false

/-- A block takes another name, and is written. -/
theorem Rel.moved {e : Env} {st st' : St} {w w' : World} (h : Rel e st w) {b n : Nat} {blk0 blk : Blk} {c : Option Nat} (hb : e.blk b = some n) (hg : st.heap.get b = some blk0) (hwr : blk0.wr = true)
    (h1 : w'.heap.size = w.heap.size) (h2 : ∀ k, k ≠ n → w'.heap[k]? = w.heap[k]?) (h3 : w'.os = w.os) (h4 : w'.tape = w.tape) (h5 : w'.output = w.output)
    (hget : ∀ i u, st'.heap.get i = some u → (i = st.next ∧ u = blk) ∨ (i ≠ st.next ∧ i ≠ b ∧ st.heap.get i = some u)) (hnext : st'.next = st.next + 1)
    (hB : HB (e.bear st.next n c) st.next blk w' n) :
    Rel (e.bear st.next n c) st' w' ∧ Goes e st w (e.bear st.next n c) st' w' := by
  have hf := h.fresh st.next (Nat.le_refl _)
  have hle : e.le (e.bear st.next n c) := Env.le_bear hf.1 hf.2
  have hblk : ∀ i, i ≠ st.next → (e.bear st.next n c).blk i = e.blk i := fun i hi => by simp [Env.bear, hi]
  have hnew : (e.bear st.next n c).blk st.next = some n := by simp [Env.bear]
  refine ⟨⟨?_, ?_, ?_, fun i hi => ?_⟩, ⟨hle, by omega, Nat.le_of_eq h1.symm, h3, h4, h5, ?_, ?_, ?_⟩⟩
  · intro i u m hu hm
    rcases hget i u hu with ⟨rfl, rfl⟩ | ⟨hi, hib, hu⟩
    · rw [hnew] at hm; cases hm; exact hB
    · rw [hblk i hi] at hm
      refine ((h.hb i u m hu hm).heap (h2 m ?_)).le hle
      rintro rfl
      exact hib (h.inj i b u blk0 m hu hg hm hb)
  · intro i j u v m hu hv hi hj
    rcases hget i u hu with ⟨e1, _⟩ | ⟨hi', hib, hu⟩ <;> rcases hget j v hv with ⟨e2, _⟩ | ⟨hj', hjb, hv⟩
    · rw [e1, e2]
    · subst e1
      rw [hnew] at hi; cases hi
      rw [hblk j hj'] at hj
      exact absurd (h.inj j b v blk0 _ hv hg hj hb) hjb
    · subst e2
      rw [hnew] at hj; cases hj
      rw [hblk i hi'] at hi
      exact absurd (h.inj i b u blk0 _ hu hg hi hb) hib
    · rw [hblk i hi'] at hi; rw [hblk j hj'] at hj
      exact h.inj i j u v m hu hv hi hj
  · intro i hi
    have hf := h.fresh i (by omega)
    have hne : i ≠ st.next := by omega
    simp [Env.bear, hne, hf]
  · have hne : i ≠ st.next := by rintro rfl; rw [hnew] at hi; cases hi
    have := h.cap i (by rw [← hblk i hne]; exact hi)
    simp [Env.bear, hne, this]
  · intro k hk hno
    refine h2 k ?_
    rintro rfl
    exact hno b blk0 hg hwr hb
  · intro i u m hu hw hm
    right
    rcases hget i u hu with ⟨rfl, rfl⟩ | ⟨hi, hib, hu⟩
    · rw [hnew] at hm; cases hm; exact ⟨b, blk0, hg, hwr, hb⟩
    · rw [hblk i hi] at hm; exact ⟨i, u, hu, hw, hm⟩
  · intro i hi hn
    have hne : i ≠ st.next := by omega
    refine ⟨fun u hu => ?_, by rw [hblk i hne]; exact hn⟩
    rcases hget i u hu with ⟨a, _⟩ | ⟨_, _, a⟩
    · exact absurd a hne
    · exact a

/-- The state where block b has gone, and another one is laid. -/
def St.swap (st : St) (b : Nat) (blk : Blk) : St := { st with heap := Tr.set 40 (Tr.set 40 st.heap b none) st.next (some blk), next := st.next + 1 }

theorem St.get_swap {st : St} {b : Nat} {blk : Blk} {i : Nat} {u : Blk} (hu : (st.swap b blk).heap.get i = some u) :
    (i = st.next ∧ u = blk) ∨ (i ≠ st.next ∧ i ≠ b ∧ st.heap.get i = some u) := by
  rcases Tr.get_set _ _ _ _ _ _ hu with ⟨a, q⟩ | ⟨a, q⟩
  · cases q; exact .inl ⟨a, rfl⟩
  · rcases Tr.get_set _ _ _ _ _ _ q with ⟨_, q⟩ | ⟨c, q⟩
    · cases q
    · exact .inr ⟨a, c, q⟩

/-- The row that append lays, or has written. -/
def grownA (ty cw need : Nat) (cells : List AV) : Blk := .cells ty false cw need (setL .e 0 cells)

def appendA (st : St) (el : TypeId) (inf : TypeInfo) (s x : AV) : Option (AV × St) :=
  match inf.zero with
  | none => none
  | some z => match lift z with
    | none => none
    | some zv => bif Nat.beq zv.cells.length inf.size && Nat.blt 0 inf.size && Nat.ble inf.bytes 1048576 && Nat.blt 0 inf.bytes then
      match cellsOfA st inf.size x with
      | none => none
      | some (n, vs) =>
        match s with
        | .nilSlice => bif Nat.beq n 0 then some (.nilSlice, st) else
            bif Nat.ble n 1048576 then some (.slice st.next 0 n (.var st.next 0), st.new (grownA el inf.size n vs)) else none
        | .slice b o len (.lit cap) => bif Nat.ble (len + n) cap then
              (match st.store b (o + len * inf.size) vs with | some st' => some (.slice b o (len + n) (.lit cap), st') | none => none)
            else bif Nat.ble (len + n) 1048576 then
              (match st.cellsAt b o (len * inf.size) with
              | some old => some (.slice st.next 0 (len + n) (.var st.next 0), st.new (grownA el inf.size (len + n) (old ++ vs)))
              | none => none) else none
        | .slice b o len (.var b' k) => bif Nat.beq b b' && Nat.beq o 0 && Nat.beq k 0 && Nat.ble (len + n) 1048576 then
              (match st.heap.get b with
              | some (.cells ty false cw _ _) => bif Nat.beq cw inf.size && Nat.beq ty el then
                  (match st.cellsAt b 0 (len * inf.size) with
                  | some old => some (.slice st.next 0 (len + n) (.var st.next 0), st.swap b (grownA el inf.size (len + n) (old ++ vs)))
                  | none => none) else none
              | _ => none) else none
        | _ => none
      else none

theorem setL_known {e : Env} {cells : List AV} {arr : Array Value} (h1 : ∀ v ∈ cells, v.ok e ∧ v.one = true) (h2 : ∀ (i : Nat) (v : AV), cells[i]? = some v → arr[i]? = some (v.val e)) :
    ∀ (i : Nat) (v : AV), (setL .e 0 cells).get i = some v → v.ok e ∧ v.one = true ∧ arr[i]? = some (v.val e) := by
  intro i v hv
  rcases get_setL _ _ _ _ _ hv with ⟨_, q⟩ | ⟨_, q⟩
  · simp only [Nat.sub_zero] at q
    have := h1 v (List.mem_of_getElem? q)
    exact ⟨this.1, this.2, h2 i v q⟩
  · simp [Tr.get] at q

theorem zeroCells_size (z : Array Value) (n : Nat) : (Builtin.zeroCells z n).size = n * z.size := by simp [Builtin.zeroCells]

/-- The row that append has laid reads as it should. -/
theorem grownA_ok {e : Env} {b : Nat} {el cw need c : Nat} {cells : List AV} {rest : Array Value} {w' : World} {n : Nat} (h1 : ∀ v ∈ cells, v.ok e ∧ v.one = true) (hlen : cells.length = need * cw)
    (hc : need ≤ c) (hr : rest.size = (c - need) * cw) (hcap : e.cap b = some c) (hw : w'.heap[n]? = some (.cells ((AV.vals e cells).toArray ++ rest) el (0, 0))) : HB e b (grownA el cw need cells) w' n := by
  refine ⟨_, _, hw, setL_known h1 (fun i v hv => ?_), fun _ i _ => by omega, fun _ => ⟨c, hcap, hc, ?_⟩⟩
  · have hi := (List.getElem?_eq_some_iff.1 hv).1
    rw [Array.getElem?_append_left (by simp [AV.vals_eq]; exact hi)]
    simp [AV.vals_eq, hv]
  · simp only [Array.size_append, hr, List.size_toArray, AV.vals_eq, List.length_map, hlen]
    rw [← Nat.add_mul]
    exact Nat.mul_le_mul_right _ (by omega)

theorem vals_append (e : Env) (a b : List AV) : AV.vals e (a ++ b) = AV.vals e a ++ AV.vals e b := by simp [AV.vals_eq]

theorem appendA_ok {P : Program} {st st' : St} {el t tx : TypeId} {inf : TypeInfo} {dx : TypeDesc} {s x v : AV} (h : appendA st el inf s x = some (v, st'))
    (args : Array TypeId) (h0 : args[0]? = some t) (h1 : args[1]? = some tx) (ty : TypeId) (ht : P.underlying t = some (.slice el)) (hx : P.underlying tx = some dx) (hdx : ∀ k, dx ≠ .int k) (hi : P.info? el = some inf)
    {e : Env} {w : World} (hw : Rel e st w) (hso : s.ok e) (hxo : x.ok e) :
    ∃ e' w', (Builtin.append_ args ty #[s.val e, x.val e]).run P w = .ok (v.val e') w' ∧ v.ok e' ∧ Rel e' st' w' ∧ Goes e st w e' st' w' := by
  unfold appendA at h
  split at h <;> first | (cases h; done) | skip
  rename_i z hz
  split at h <;> first | (cases h; done) | skip
  rename_i zv hzv
  cases hc : (Nat.beq zv.cells.length inf.size && Nat.blt 0 inf.size && Nat.ble inf.bytes 1048576 && Nat.blt 0 inf.bytes)
  · rw [hc] at h; cases h
  rw [hc] at h
  simp only [cond_true] at h
  simp only [Bool.and_eq_true] at hc
  obtain ⟨⟨⟨c1, c2⟩, c3⟩, c4⟩ := hc
  have c1 := Nat.eq_of_beq_eq_true c1
  have c2 : 0 < inf.size := by simp [Nat.blt] at c2; omega
  have c3 := Nat.le_of_ble_eq_true c3
  have c4 : 0 < inf.bytes := by simp [Nat.blt] at c4; omega
  obtain ⟨z1, z2⟩ := lift_ok e z zv hzv
  have hzs : z.cells.size = inf.size := by rw [← Array.length_toList, ← z2, AV.cells_val z1, List.length_map, c1]
  split at h <;> first | (cases h; done) | skip
  rename_i n vs hvs
  obtain ⟨k1, k2, k3, k4⟩ := cellsOfA_ok (P := P) (w' := w) hw hvs hxo (fun _ => rfl)
  obtain ⟨_, k2', _, _⟩ := cellsOfA_ok (P := P) (w' := w.drew) hw hvs hxo (fun _ => rfl)
  have hf := hw.fresh st.next (Nat.le_refl _)
  -- a new row
  have grow : ∀ (base : Option Addr) (len cap : Nat) (old : List AV), cap < len + n → len + n ≤ 1048576 → old.length = len * inf.size → (∀ v ∈ old, v.ok e ∧ v.one = true) →
      (Builtin.firstCells inf.size len (.slice base len cap)).run P w.drew = .ok (AV.vals e old).toArray w.drew →
      ∃ e' w', (Builtin.append_ args ty #[.slice base len cap, x.val e]).run P w = .ok ((AV.slice st.next 0 (len + n) (.var st.next 0)).val e') w' ∧
        (AV.slice st.next 0 (len + n) (.var st.next 0)).ok e' ∧ More w w' ∧ ∃ c, e' = e.bear st.next w.heap.size (some c) ∧ HB e' st.next (grownA el inf.size (len + n) (old ++ vs)) w' w.heap.size := by
    intro base len cap old g1 g2 g3 g4 g5
    obtain ⟨c, hc, hrun⟩ := run_append_grow args h0 h1 ty ht hx hdx hi hz c3 c4 k1 k2' g5 g1 g2
    refine ⟨e.bear st.next w.heap.size (some c), w.drew.alloc (.cells ((AV.vals e old).toArray ++ (AV.vals e vs).toArray ++ Builtin.zeroCells z.cells (c - (len + n))) el), by rw [hrun]; simp [AV.val, Env.bear, SC.val], by simp [AV.ok, SC.ok, Env.bear], ?_, c, rfl, ?_⟩
    · exact ⟨by simp, fun k hk => by show (w.heap.push _)[k]? = _; rw [Array.getElem?_push, if_neg (by omega)], rfl, rfl, rfl⟩
    · have hle : e.le (e.bear st.next w.heap.size (some c)) := Env.le_bear hf.1 hf.2
      have hall : ∀ v ∈ old ++ vs, v.ok e ∧ v.one = true := fun v hv => by
        rcases List.mem_append.1 hv with hv | hv
        · exact g4 v hv
        · exact k4 v hv
      refine grownA_ok (c := c) (rest := Builtin.zeroCells z.cells (c - (len + n))) (fun v hv => ⟨(AV.val_le hle v (hall v hv).1).2, (hall v hv).2⟩) (by rw [List.length_append, g3, k3, Nat.add_mul]) hc
        (by rw [zeroCells_size, hzs]) (by simp [Env.bear]) ?_
      show (w.heap.push _)[w.heap.size]? = _
      rw [(AV.vals_le hle _ ((AV.oks_iff _ _).2 fun v hv => (hall v hv).1)).1, vals_append]
      simp
  split at h
  · -- nil
    cases hn : Nat.beq n 0
    · rw [hn] at h
      simp only [cond_false] at h
      obtain ⟨hb, hh⟩ := bif_some h
      have hb := Nat.le_of_ble_eq_true hb
      simp only [Prod.mk.injEq] at hh
      obtain ⟨rfl, rfl⟩ := hh
      have hn0 : n ≠ 0 := by rintro rfl; simp at hn
      obtain ⟨e', w', r1, r2, r3, c, rfl, r4⟩ := grow none 0 0 [] (by omega) (by omega) (by simp) (by simp) (by simp [Builtin.firstCells, AV.vals])
      simp only [Nat.zero_add, List.nil_append] at r1 r2 r4
      obtain ⟨q1, q2⟩ := hw.born (st' := st.new (grownA el inf.size n vs)) r3 hf.1 hf.2 (fun i u hu => St.get_new hu) (by simp [St.new]) (by simp [St.new]) r4
      exact ⟨_, w', by simpa [AV.val] using r1, r2, q1, q2 (Nat.le_refl _)⟩
    · rw [hn] at h
      simp only [cond_true, Option.some.injEq, Prod.mk.injEq] at h
      obtain ⟨rfl, rfl⟩ := h
      have hn := Nat.eq_of_beq_eq_true hn
      subst hn
      have := run_append_room (P := P) (w := w) (w' := w) args h0 h1 ty ht hx hdx hi (base := none) (len := 0) (cap := 0) k1 k2 (Nat.le_refl _) rfl
      exact ⟨e, w, by simpa [AV.val] using this, by simp [AV.ok], hw, Goes.refl _ _ _⟩
  · -- a slice of a known capacity
    rename_i b o len cap
    simp only [AV.ok] at hso
    obtain ⟨m, hm⟩ := Option.isSome_iff_exists.1 hso.1
    cases hroom : Nat.ble (len + n) cap
    · rw [hroom] at h
      simp only [cond_false] at h
      cases hneed : Nat.ble (len + n) 1048576
      · rw [hneed] at h; cases h
      rw [hneed] at h
      simp only [cond_true] at h
      split at h <;> first | (cases h; done) | skip
      rename_i old hold
      simp only [Option.some.injEq, Prod.mk.injEq] at h
      obtain ⟨rfl, rfl⟩ := h
      have hneed := Nat.le_of_ble_eq_true hneed
      have hroom : cap < len + n := by
        rcases Nat.lt_or_ge cap (len + n) with q | q
        · exact q
        · rw [Nat.ble_eq_true_of_le q] at hroom; cases hroom
      obtain ⟨a1, a2, a3⟩ := hw.cellsAt hm _ _ _ hold
      have hl := hw.drew.run_loadCells (P := P) hm hold
      obtain ⟨e', w', r1, r2, r3, c, rfl, r4⟩ := grow (some ⟨m, o, none⟩) len cap old hroom hneed a1 a2 (by simpa [Builtin.firstCells] using hl)
      obtain ⟨q1, q2⟩ := hw.born (st' := st.new (grownA el inf.size (len + n) (old ++ vs))) r3 hf.1 hf.2 (fun i u hu => St.get_new hu) (by simp [St.new]) (by simp [St.new]) r4
      exact ⟨_, w', by simpa [AV.val, hm, SC.val] using r1, r2, q1, q2 (Nat.le_refl _)⟩
    · rw [hroom] at h
      simp only [cond_true] at h
      split at h <;> first | (cases h; done) | skip
      rename_i st2 hst
      simp only [Option.some.injEq, Prod.mk.injEq] at h
      obtain ⟨rfl, rfl⟩ := h
      have hroom := Nat.le_of_ble_eq_true hroom
      obtain ⟨w', s1, s2, s3⟩ := hw.store (P := P) hm hst (fun v hv => (k4 v hv).1)
      have := run_append_room (P := P) (w := w) (w' := w') args h0 h1 ty ht hx hdx hi (base := some ⟨m, o, none⟩) (len := len) (cap := cap) k1 k2 hroom (by
        simp only [addr_add, AV.vals_eq]
        exact s1)
      exact ⟨e, w', by simpa [AV.val, hm, SC.val] using this, by simp [AV.ok, hm, SC.ok], s2, s3⟩
  · -- a slice of an open capacity
    rename_i b o len b' k
    cases hcnd : (Nat.beq b b' && Nat.beq o 0 && Nat.beq k 0 && Nat.ble (len + n) 1048576)
    · rw [hcnd] at h; cases h
    rw [hcnd] at h
    simp only [cond_true] at h
    simp only [Bool.and_eq_true] at hcnd
    obtain ⟨⟨⟨d1, d2⟩, d3⟩, d4⟩ := hcnd
    have d1 := Nat.eq_of_beq_eq_true d1
    have d2 := Nat.eq_of_beq_eq_true d2
    have d3 := Nat.eq_of_beq_eq_true d3
    have d4 := Nat.le_of_ble_eq_true d4
    subst d1; subst d2; subst d3
    simp only [AV.ok, SC.ok] at hso
    obtain ⟨m, hm⟩ := Option.isSome_iff_exists.1 hso.1
    split at h <;> first | (cases h; done) | skip
    rename_i ty' cw lb cc hg
    cases hcw : (Nat.beq cw inf.size && Nat.beq ty' el)
    · rw [hcw] at h; cases h
    rw [hcw] at h
    simp only [cond_true] at h
    simp only [Bool.and_eq_true] at hcw
    obtain ⟨hcw1, hcw2⟩ := hcw
    have hty := Nat.eq_of_beq_eq_true hcw2
    have hcweq := Nat.eq_of_beq_eq_true hcw1
    subst hty
    split at h <;> first | (cases h; done) | skip
    rename_i old hold
    simp only [Option.some.injEq, Prod.mk.injEq] at h
    obtain ⟨rfl, rfl⟩ := h
    obtain ⟨arr, fr, g1, g2, g3, g4⟩ := hw.hb b _ m hg hm
    obtain ⟨cap, hcap, hlb, hsz⟩ := g4 (by omega)
    obtain ⟨a1, a2, a3⟩ := hw.cellsAt hm _ _ _ hold
    have hall : ∀ v ∈ old ++ vs, v.ok e ∧ v.one = true := fun v hv => by
      rcases List.mem_append.1 hv with hv | hv
      · exact a2 v hv
      · exact k4 v hv
    rcases Nat.lt_or_ge cap (len + n) with hroom | hroom
    · have hl := hw.drew.run_loadCells (P := P) hm hold
      obtain ⟨e', w', r1, r2, r3, c, rfl, r4⟩ := grow (some ⟨m, 0, none⟩) len cap old hroom d4 a1 a2 (by simpa [Builtin.firstCells] using hl)
      obtain ⟨q1, q2⟩ := hw.born (st' := st.swap b (grownA ty' inf.size (len + n) (old ++ vs))) r3 hf.1 hf.2 (fun i u hu => by
        rcases St.get_swap hu with a | ⟨a, _, c⟩
        · exact .inl a
        · exact .inr ⟨a, c⟩) (by simp [St.swap]) (by simp [St.swap]) r4
      exact ⟨_, w', by simpa [AV.val, hm, SC.val, hcap] using r1, r2, q1, q2 (Nat.le_refl _)⟩
    · have hin : len * inf.size + vs.length ≤ arr.size := by
        rw [k3, ← Nat.add_mul]
        refine Nat.le_trans (Nat.mul_le_mul_right _ hroom) ?_
        rw [← hcweq]; exact hsz
      have hrun := run_storeCells_cells (P := P) m (len * inf.size) (vs.map (·.val e)) 0 w (fun j hj => by
          simp only [List.length_map] at hj
          have : len * inf.size + j < arr.size := by omega
          simp [World.cell?, g1, this]) (fun j hj => by
          simp only [List.length_map] at hj
          have := g3 rfl (len * inf.size + j) (by omega)
          simp only [World.frozen?, g1, Nat.add_zero]
          simpa using this) (fun v hv => by
          obtain ⟨x, hx, rfl⟩ := List.mem_map.1 hv
          exact AV.one_val (k4 x hx).2 (k4 x hx).1)
      obtain ⟨arr', b1, b2, b3, b4, b5, b6, b7, b8⟩ := setCells_heap m (vs.map (·.val e)) (len * inf.size) w arr ty' fr g1
      have happ := run_append_room (P := P) (w := w) (w' := w.setCells m (len * inf.size) (vs.map (·.val e))) args h0 h1 ty ht hx hdx hi (base := some ⟨m, 0, none⟩) (len := len) (cap := cap) k1 k2 hroom (by
        simp only [addr_add, AV.vals_eq, Nat.zero_add]
        exact hrun)
      have hle : e.le (e.bear st.next m (some cap)) := Env.le_bear hf.1 hf.2
      have hB : HB (e.bear st.next m (some cap)) st.next (grownA ty' inf.size (len + n) (old ++ vs)) (w.setCells m (len * inf.size) (vs.map (·.val e))) m := by
        refine ⟨arr', fr, b1, setL_known (fun v hv => ⟨(AV.val_le hle v (hall v hv).1).2, (hall v hv).2⟩) (fun i v hv => ?_), fun _ i hi => g3 rfl i (by omega), fun _ => ⟨cap, by simp [Env.bear], hroom, by rw [b2, ← hcweq]; exact hsz⟩⟩
        have hvm := List.mem_of_getElem? hv
        rw [(AV.val_le hle v (hall v hvm).1).1]
        rw [List.getElem?_append] at hv
        by_cases hio : i < old.length
        · rw [if_pos hio] at hv
          rw [b3 i (by omega), if_neg (by omega)]
          have := a3 i (v.val e) (by simp [hv])
          simpa [World.cell?, g1] using this
        · rw [if_neg hio] at hv
          have hj := (List.getElem?_eq_some_iff.1 hv).1
          rw [b3 i (by omega), if_pos ⟨by omega, by simp; omega⟩, ← a1]
          simp [hv]
      obtain ⟨q1, q2⟩ := hw.moved (st' := st.swap b (grownA ty' inf.size (len + n) (old ++ vs))) hm hg rfl b5 b4 b6 b7 b8 (fun i u hu => St.get_swap hu) rfl hB
      refine ⟨_, _, ?_, ?_, q1, q2⟩
      · have : (AV.slice b 0 len (.var b 0)).val e = .slice (some ⟨m, 0, none⟩) len cap := by simp [AV.val, hm, SC.val, hcap]
        rw [this, happ]
        simp [AV.val, Env.bear, SC.val]
      · simp [AV.ok, SC.ok, Env.bear]
  · cases h

end Go.Sx

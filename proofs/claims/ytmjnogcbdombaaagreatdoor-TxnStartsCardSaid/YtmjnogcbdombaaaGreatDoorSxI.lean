/- Operations that lay a new block. -/
import Derived.Test.YtmjnogcbdombaaaGreatDoorSxH
import Derived.Laws.IdiomStrings
set_option linter.all false
namespace Go.Sx
set_option linter.unusedSimpArgs false

/-- A world with one block more. -/
structure More (w w' : World) : Prop where
  size : w'.heap.size = w.heap.size + 1
  old : ∀ k, k < w.heap.size → w'.heap[k]? = w.heap[k]?
  os : w'.os = w.os
  tape : w'.tape = w.tape
  output : w'.output = w.output

theorem More.alloc (w : World) (o : Obj) : More w (w.alloc o) :=
  ⟨by simp, fun k hk => by show (w.heap.push o)[k]? = _; rw [Array.getElem?_push, if_neg (by omega)], rfl, rfl, rfl⟩

theorem heap_alloc_new (w : World) (o : Obj) : (w.alloc o).heap[w.heap.size]? = some o := by
  show (w.heap.push o)[w.heap.size]? = _
  simp

/-- A block is born. -/
theorem Rel.born {e : Env} {st st' : St} {w w' : World} (h : Rel e st w) {b : Nat} {blk : Blk} {c : Option Nat} (hm : More w w') (hb1 : e.blk b = none) (hb2 : e.cap b = none)
    (hget : ∀ i u, st'.heap.get i = some u → (i = b ∧ u = blk) ∨ (i ≠ b ∧ st.heap.get i = some u)) (hnext : b < st'.next) (hle : st.next ≤ st'.next)
    (hB : HB (e.bear b w.heap.size c) b blk w' w.heap.size) :
    Rel (e.bear b w.heap.size c) st' w' ∧ (st.next ≤ b → Goes e st w (e.bear b w.heap.size c) st' w') := by
  have hle' : e.le (e.bear b w.heap.size c) := Env.le_bear hb1 hb2
  have hblk : ∀ i, i ≠ b → (e.bear b w.heap.size c).blk i = e.blk i := fun i hi => by simp [Env.bear, hi]
  have hnew : (e.bear b w.heap.size c).blk b = some w.heap.size := by simp [Env.bear]
  refine ⟨⟨?_, ?_, ?_, fun i hi => ?_⟩, fun hn => ⟨hle', hle, by rw [hm.size]; omega, hm.os, hm.tape, hm.output, fun k hk _ => hm.old k hk, ?_, ?_⟩⟩
  · intro i u m hu hm'
    rcases hget i u hu with ⟨rfl, rfl⟩ | ⟨hi, hu⟩
    · rw [hnew] at hm'; cases hm'; exact hB
    · rw [hblk i hi] at hm'
      have hb := h.hb i u m hu hm'
      exact (hb.heap (hm.old m hb.lt)).le hle'
  · intro i j u v m hu hv hi hj
    rcases hget i u hu with ⟨e1, _⟩ | ⟨hi', hu⟩ <;> rcases hget j v hv with ⟨e2, _⟩ | ⟨hj', hv⟩
    · rw [e1, e2]
    · subst e1
      rw [hnew] at hi; cases hi
      rw [hblk j hj'] at hj
      have := (h.hb j v _ hv hj).lt
      omega
    · subst e2
      rw [hnew] at hj; cases hj
      rw [hblk i hi'] at hi
      have := (h.hb i u _ hu hi).lt
      omega
    · rw [hblk i hi'] at hi; rw [hblk j hj'] at hj
      exact h.inj i j u v m hu hv hi hj
  · intro i hi
    have hf := h.fresh i (by omega)
    have hne : i ≠ b := by omega
    simp [Env.bear, hne, hf]
  · have hne : i ≠ b := by rintro rfl; rw [hnew] at hi; cases hi
    have := h.cap i (by rw [← hblk i hne]; exact hi)
    simp [Env.bear, hne, this]
  · intro i u m hu hw hm'
    rcases hget i u hu with ⟨rfl, rfl⟩ | ⟨hi, hu⟩
    · rw [hnew] at hm'; cases hm'; exact .inl (Nat.le_refl _)
    · rw [hblk i hi] at hm'; exact .inr ⟨i, u, hu, hw, hm'⟩
  · intro i hi hn'
    have hne : i ≠ b := by omega
    refine ⟨fun u hu => ?_, by rw [hblk i hne]; exact hn'⟩
    rcases hget i u hu with ⟨a, _⟩ | ⟨_, a⟩
    · exact absurd a hne
    · exact a

theorem St.get_new {st : St} {blk : Blk} {i : Nat} {u : Blk} (hu : (st.new blk).heap.get i = some u) : (i = st.next ∧ u = blk) ∨ (i ≠ st.next ∧ st.heap.get i = some u) := by
  rcases Tr.get_set _ _ _ _ _ _ hu with ⟨a, q⟩ | q
  · cases q; exact .inl ⟨a, rfl⟩
  · exact .inr q

/-! ### Rows of cells -/
/-- cells as they are laid: all known. -/
def rowA (ty : Nat) (cells : List AV) : Blk := .cells ty false 0 0 (setL .e 0 cells)

theorem rowA_ok {e : Env} {b : Nat} {ty : Nat} {cells : List AV} {w' : World} {n : Nat} (h1 : ∀ v ∈ cells, v.ok e ∧ v.one = true)
    (hw : w'.heap[n]? = some (.cells (AV.vals e cells).toArray ty)) : HB e b (rowA ty cells) w' n := by
  refine ⟨_, _, hw, ?_, fun _ i _ => by omega, fun q => by omega⟩
  intro i v hv
  rcases get_setL _ _ _ _ _ hv with ⟨_, q⟩ | ⟨_, q⟩
  · have := h1 v (List.mem_of_getElem? q)
    refine ⟨this.1, this.2, ?_⟩
    simp at q
    simp [AV.vals_eq, q]
  · simp [Tr.get] at q

structure Fresh where
  blk : Blk
  ptr : Nat → AV

def evsA (ev : Operand → Option AV) : List Operand → Option (List AV)
  | [] => some []
  | x :: l => match ev x with
    | none => none
    | some v => match evsA ev l with
      | none => none
      | some r => some (v :: r)

def repL (n : Nat) (z : List AV) : List AV :=
  match n with
  | 0 => []
  | k + 1 => z ++ repL k z

/-- An operation that lays a new block, and what points to it. -/
def opF (P : Program) (ev : Operand → Option AV) (o : Oper) : Option Fresh :=
  match o.op with
  | .alloc t => match P.info? t with
    | some inf => match inf.zero with
      | some z => match lift z with
        | some v => bif v.cells.all AV.one then some ⟨rowA t v.cells, fun b => .ptr b 0⟩ else none
        | none => none
      | none => none
    | none => none
  | .box t x => match ev x with
    | some v => bif v.cells.all AV.one then some ⟨rowA t v.cells, fun b => .ptr b 0⟩ else none
    | none => none
  | .buildSlice t len parts => match P.underlying t, evParts ev parts.toList with
    | some (.slice el), some ps => match P.info? el with
      | some inf => match inf.zero with
        | some z => match lift z with
          | some v => bif Nat.beq v.cells.length inf.size && Nat.blt 0 inf.size && Nat.ble (len * inf.size) 16777216 then
              (match fillA (fun i => some (i * inf.size, inf.size)) (repL len v.cells) ps with
              | some l => bif l.all AV.one then some ⟨rowA el l, fun b => .slice b 0 len (.lit len)⟩ else none
              | none => none) else none
          | none => none
        | none => none
      | none => none
    | _, _ => none
  | .makeMap _ r => match r with
    | none => some ⟨.map [] 0, .map⟩
    | some _ => none
  | .makeSlice t len cap => match P.underlying t, ev len, ev cap with
    | some (.slice el), some (.int _ (.lit (.ofNat l))), some (.int _ (.lit (.ofNat c))) => match P.info? el with
      | some inf => match inf.zero with
        | some z => match lift z with
          | some v => bif Nat.beq v.cells.length inf.size && Nat.blt 0 inf.size && Nat.ble l c && Nat.ble c 1048576 && Nat.ble inf.bytes 1048576 && v.cells.all AV.one then
              some ⟨rowA el (repL c v.cells), fun b => .slice b 0 l (.lit c)⟩ else none
          | none => none
        | none => none
      | none => none
    | _, _, _ => none
  | .convert src dst x => match P.underlying src, P.underlying dst, ev x with
    | some .string, some (.slice el), some (.str s) => match P.underlying el with
      | some (.int .u8) => some ⟨.cells el false 1 s.length (setL .e 0 (s.map fun c => .int .u8 (.lit c.toNat))), fun b => .slice b 0 s.length (.var b 0)⟩
      | _ => none
    | _, _, _ => none
  | _ => none

theorem repL_length (z : List AV) : ∀ n, (repL n z).length = n * z.length
  | 0 => by simp [repL]
  | n + 1 => by simp [repL, repL_length z n, Nat.succ_mul]; omega

theorem repL_get (z : List AV) : ∀ (n i : Nat), i < n * z.length → (repL n z)[i]? = z[i % z.length]?
  | 0, i, h => by omega
  | n + 1, i, h => by
    simp only [repL, List.getElem?_append]
    by_cases hi : i < z.length
    · rw [if_pos hi, Nat.mod_eq_of_lt hi]
    · rw [if_neg hi, repL_get z n _ (by rw [Nat.add_mul, Nat.one_mul] at h; omega)]
      congr 1
      exact (Nat.mod_eq_sub_mod (by omega)).symm

theorem mem_repL {z : List AV} {x : AV} : ∀ {n}, x ∈ repL n z → x ∈ z
  | 0, h => by simp [repL] at h
  | n + 1, h => by
    simp only [repL, List.mem_append] at h
    rcases h with h | h
    · exact h
    · exact mem_repL h

theorem repL_val {e : Env} {z : List AV} {zs : Array Value} (hz : zs = (AV.vals e z).toArray) (n m : Nat) (hm : m = n * z.length) (hpos : 0 < z.length) :
    ((Array.range m).map fun i => zs[i % zs.size]!) = (AV.vals e (repL n z)).toArray := by
  subst hz; subst hm
  apply Array.ext'
  apply List.ext_getElem?
  intro i
  simp only [Array.toList_map, Array.toList_range, List.getElem?_map, AV.vals_eq, List.size_toArray, List.length_map]
  by_cases hi : i < n * z.length
  · rw [List.getElem?_range hi, repL_get z n i hi]
    have hlt : i % z.length < z.length := Nat.mod_lt _ hpos
    simp [hlt]
  · rw [List.getElem?_eq_none (by simp; omega), List.getElem?_eq_none (by rw [repL_length]; omega)]
    rfl

/-- What an operation that lays a block does to a world, whatever name the block is given. -/
structure Lays (P : Program) (e : Env) (w : World) (s : Sem Next) (fr : Fresh) (b : Nat) (x : Value) (w' : World) (c : Option Nat) : Prop where
  run : s.run P w = .ok (.value x) w'
  more : More w w'
  hb : HB (e.bear b w.heap.size c) b fr.blk w' w.heap.size
  ok : (fr.ptr b).ok (e.bear b w.heap.size c)
  val : x = (fr.ptr b).val (e.bear b w.heap.size c)

theorem row_lays {P : Program} {e : Env} {w : World} {s : Sem Value} {ty : Nat} {cells : List AV} {cs : Array Value} (hcs : cs = (AV.vals e cells).toArray) (ptr : Nat → AV)
    (h1 : ∀ v ∈ cells, v.ok e ∧ v.one = true) (b : Nat) (hb1 : e.blk b = none) (hb2 : e.cap b = none)
    (hs : ∃ x, s.run P w = .ok x (w.alloc (.cells cs ty)) ∧ x = (ptr b).val (e.bear b w.heap.size none)) (hp : (ptr b).ok (e.bear b w.heap.size none)) :
    ∃ x w' c, Lays P e w (do pure (.value (← s))) ⟨rowA ty cells, ptr⟩ b x w' c := by
  obtain ⟨x, hs, hx⟩ := hs
  have hle := Env.le_bear (n := w.heap.size) (c := none) hb1 hb2
  refine ⟨x, w.alloc (.cells cs ty), none, by simp only [Sem.run_bind, hs, Result.andThen_ok, Sem.run_pure], More.alloc _ _, ?_, hp, hx⟩
  have hoks : AV.oks e cells := (AV.oks_iff _ _).2 fun v hv => (h1 v hv).1
  refine rowA_ok (fun v hv => ⟨(AV.val_le hle v (h1 v hv).1).2, (h1 v hv).2⟩) ?_
  rw [(AV.vals_le hle cells hoks).1, ← hcs]
  exact heap_alloc_new _ _

theorem opF_buildSlice {P : Program} {ev : Operand → Option AV} {o : Oper} {fr : Fresh} {t : TypeId} {len : Nat} {parts : Array (Nat × Operand)} (h : opF P ev o = some fr) (hop : o.op = .buildSlice t len parts)
    {e : Env} (w : World) {ρ : Operand → Value} (hev : ∀ x v, ev x = some v → v.ok e ∧ ρ x = v.val e) (b : Nat) (hb1 : e.blk b = none) (hb2 : e.cap b = none) :
    ∃ x w' c, Lays P e w (execOp ρ o) fr b x w' c := by
  obtain ⟨dst, op, type, pos, after, guard⟩ := o
  have hget : ((e.bear b w.heap.size none).blk b).getD 0 = w.heap.size := by simp [Env.bear]
  have hsome : ((e.bear b w.heap.size none).blk b).isSome = true := by simp [Env.bear]
  simp only at hop
  subst hop
  simp only [opF] at h
  split at h <;> first | (cases h; done) | skip
  rename_i el ps ht hps
  split at h <;> first | (cases h; done) | skip
  rename_i inf hinf
  split at h <;> first | (cases h; done) | skip
  rename_i z hz
  split at h <;> first | (cases h; done) | skip
  rename_i v hv
  cases hc : (Nat.beq v.cells.length inf.size && Nat.blt 0 inf.size && Nat.ble (len * inf.size) 16777216)
  · rw [hc] at h; cases h
  rw [hc] at h
  simp only [cond_true] at h
  split at h <;> first | (cases h; done) | skip
  rename_i l hl
  obtain ⟨hall, rfl⟩ := bif_some h
  rw [List.all_eq_true] at hall
  simp only [Bool.and_eq_true] at hc
  have c1 := Nat.eq_of_beq_eq_true hc.1.1
  have c2 : 0 < inf.size := by have := hc.1.2; simp [Nat.blt] at this; omega
  have c3 := Nat.le_of_ble_eq_true hc.2
  obtain ⟨z1, z2⟩ := lift_ok e z v hv
  have hzc : z.cells = (AV.vals e v.cells).toArray := by
    apply Array.ext'; rw [← z2, AV.cells_val z1, AV.vals_eq]
  obtain ⟨p1, p2⟩ := evParts_ok hev _ ps hps
  have hrep : AV.oks e (repL len v.cells) := (AV.oks_iff _ _).2 fun x hx => AV.cells_ok z1 x (mem_repL hx)
  obtain ⟨k1, k2⟩ := fillA_ok ps _ l hl p1 hrep
  have hparts : (parts.map fun (i, x) => (i, ρ x)).toList = ps.map fun p => (p.1, p.2.val e) := by rw [Array.toList_map]; exact p2
  have key := row_lays (P := P) (e := e) (w := w) (s := Instr.buildSlice t len (parts.map fun (i, x) => (i, ρ x))) (ty := el) (cells := l) (cs := (AV.vals e l).toArray) rfl (fun b => .slice b 0 len (.lit len))
    (fun x hx => ⟨(AV.oks_iff e l).1 k2 x hx, hall x hx⟩) b hb1 hb2
  refine key ⟨_, ?_, rfl⟩ (by simpa [AV.ok, SC.ok] using hsome)
  clear key
  have hrv := repL_val hzc len (len * inf.size) (by rw [c1]) (by omega)
  have hno : ¬ (len * inf.size > 2 ^ 24) := by omega
  simp only [Instr.buildSlice, Sem.run_bind, run_underlying ht, Result.andThen_ok, run_size hinf]
  rw [if_neg hno]
  by_cases h0 : len * inf.size = 0
  · have hl0 : len = 0 := by
      rcases Nat.mul_eq_zero.1 h0 with q | q
      · exact q
      · omega
    subst hl0
    have e0 : ((Array.range (0 * inf.size)).map fun i => (#[] : Array Value)[i % (#[] : Array Value).size]!) = (AV.vals e (repL 0 v.cells)).toArray := by simp [repL, AV.vals]
    rw [if_pos h0]
    simp only [pure_bind, Sem.run_bind, Sem.run_pure, Result.andThen_ok, e0, hparts, k1, newRow, run_newObj, AV.val, hget, SC.val]
    rfl
  · rw [if_neg h0]
    simp only [pure_bind, Sem.run_bind, Sem.run_pure, run_zero hinf hz, Result.andThen_ok, hrv, hparts, k1, newRow, run_newObj, AV.val, hget, SC.val]
    rfl

theorem opF_makeSlice {P : Program} {ev : Operand → Option AV} {o : Oper} {fr : Fresh} {t : TypeId} {len cap : Operand} (h : opF P ev o = some fr) (hop : o.op = .makeSlice t len cap)
    {e : Env} (w : World) {ρ : Operand → Value} (hev : ∀ x v, ev x = some v → v.ok e ∧ ρ x = v.val e) (b : Nat) (hb1 : e.blk b = none) (hb2 : e.cap b = none) :
    ∃ x w' c, Lays P e w (execOp ρ o) fr b x w' c := by
  obtain ⟨dst, op, type, pos, after, guard⟩ := o
  have hget : ((e.bear b w.heap.size none).blk b).getD 0 = w.heap.size := by simp [Env.bear]
  have hsome : ((e.bear b w.heap.size none).blk b).isSome = true := by simp [Env.bear]
  simp only at hop
  subst hop
  simp only [opF] at h
  split at h <;> first | (cases h; done) | skip
  rename_i el k1 l k2 c ht hlen hcap
  split at h <;> first | (cases h; done) | skip
  rename_i inf hinf
  split at h <;> first | (cases h; done) | skip
  rename_i z hz
  split at h <;> first | (cases h; done) | skip
  rename_i v hv
  obtain ⟨hc, rfl⟩ := bif_some h
  simp only [Bool.and_eq_true] at hc
  obtain ⟨⟨⟨⟨⟨c1, c2⟩, c3⟩, c4⟩, c5⟩, hall⟩ := hc
  rw [List.all_eq_true] at hall
  have c1 := Nat.eq_of_beq_eq_true c1
  have c2 : 0 < inf.size := by simp [Nat.blt] at c2; omega
  have c3 := Nat.le_of_ble_eq_true c3
  have c4 := Nat.le_of_ble_eq_true c4
  have c5 := Nat.le_of_ble_eq_true c5
  obtain ⟨z1, z2⟩ := lift_ok e z v hv
  have hzc : z.cells = (AV.vals e v.cells).toArray := by
    apply Array.ext'; rw [← z2, AV.cells_val z1, AV.vals_eq]
  refine row_lays (s := Instr.makeSlice t (ρ len) (ρ cap)) (cs := (AV.vals e (repL c v.cells)).toArray) rfl _ (fun x hx => ⟨AV.cells_ok z1 x (mem_repL hx), hall x (mem_repL hx)⟩) b hb1 hb2 ⟨_, ?_, rfl⟩ (by simpa [AV.ok, SC.ok] using hsome)
  rw [(hev len _ hlen).2, (hev cap _ hcap).2]
  have w1 : IntKind.i64.wrap (Int.ofNat l) = (l : Int) := by
    show (let m := (l : Int) % 2 ^ 64; if (true && decide (m ≥ 2 ^ 63)) = true then m - 2 ^ 64 else m) = (l : Int)
    simp only [Bool.true_and, decide_eq_true_eq]
    rw [if_neg (by omega)]; omega
  have w2 : IntKind.i64.wrap (Int.ofNat c) = (c : Int) := by
    show (let m := (c : Int) % 2 ^ 64; if (true && decide (m ≥ 2 ^ 63)) = true then m - 2 ^ 64 else m) = (c : Int)
    simp only [Bool.true_and, decide_eq_true_eq]
    rw [if_neg (by omega)]; omega
  have hmul : inf.bytes * c ≤ 1099511627776 := Nat.le_trans (Nat.mul_le_mul c5 c4) (by decide)
  have hmul' : ((inf.bytes : Int) * (c : Int)) ≤ 1099511627776 := by rw [← Int.natCast_mul]; exact Int.ofNat_le.2 hmul
  have hrv := repL_val hzc c (c * inf.size) (by rw [c1]) (by omega)
  simp only [Instr.makeSlice, Sem.run_bind, run_underlying ht, Result.andThen_ok, AV.val, SI.val, asInt, asIntOf, pure_bind, Sem.run_pure, run_info hinf, w1, w2]
  have hno : (decide ((c : Int) < 0) || decide ((inf.bytes : Int) * (c : Int) > 2 ^ 48) || decide ((l : Int) < 0) || decide ((l : Int) > (c : Int))) = false := by
    simp only [Bool.or_eq_false_iff, decide_eq_false_iff_not]
    refine ⟨⟨⟨?_, ?_⟩, ?_⟩, ?_⟩ <;> omega
  rw [hno]
  simp only [Bool.false_eq_true, if_false]
  by_cases h0 : c * inf.size = 0
  · have hc0 : c = 0 := by
      rcases Nat.mul_eq_zero.1 h0 with q | q
      · exact q
      · omega
    subst hc0
    have e0 : ((Array.range 0).map fun i => (#[] : Array Value)[i % (#[] : Array Value).size]!) = (AV.vals e (repL 0 v.cells)).toArray := by simp [repL, AV.vals]
    simp only [Sem.run_bind, run_askRoom, Result.andThen_ok, Int.toNat_natCast, run_size hinf, h0, if_true, pure_bind, e0, newRow, run_newObj, Sem.run_pure, hget, SC.val]
    rfl
  · simp only [Sem.run_bind, run_askRoom, Result.andThen_ok, Int.toNat_natCast, run_size hinf, h0, if_false, pure_bind, run_zero hinf hz, hrv, newRow, run_newObj, Sem.run_pure, hget, SC.val]
    rfl

theorem opF_ok {P : Program} {ev : Operand → Option AV} {o : Oper} {fr : Fresh} (h : opF P ev o = some fr)
    {e : Env} (w : World) {ρ : Operand → Value} (hev : ∀ x v, ev x = some v → v.ok e ∧ ρ x = v.val e) (b : Nat) (hb1 : e.blk b = none) (hb2 : e.cap b = none) :
    ∃ x w' c, Lays P e w (execOp ρ o) fr b x w' c := by
  obtain ⟨dst, op, type, pos, after, guard⟩ := o
  have hget : ((e.bear b w.heap.size none).blk b).getD 0 = w.heap.size := by simp [Env.bear]
  have hsome : ((e.bear b w.heap.size none).blk b).isSome = true := by simp [Env.bear]
  cases op <;> simp only [opF] at h <;> first | (cases h; done) | skip
  case alloc t =>
    split at h <;> first | (cases h; done) | skip
    rename_i inf hinf
    split at h <;> first | (cases h; done) | skip
    rename_i z hz
    split at h <;> first | (cases h; done) | skip
    rename_i v hv
    obtain ⟨hall, rfl⟩ := bif_some h
    rw [List.all_eq_true] at hall
    obtain ⟨z1, z2⟩ := lift_ok e z v hv
    have hzc : z.cells = (AV.vals e v.cells).toArray := by
      apply Array.ext'; rw [← z2, AV.cells_val z1, AV.vals_eq]
    refine row_lays (s := Instr.alloc t true (.tuple #[])) hzc _ (fun x hx => ⟨AV.cells_ok z1 x hx, hall x hx⟩) b hb1 hb2 ⟨_, ?_, rfl⟩ (by simpa [AV.ok] using hsome)
    simp only [Instr.alloc, Sem.run_bind, run_zero hinf hz, Result.andThen_ok, newVar, newRow, run_newObj, Sem.run_pure, AV.val, hget]
    rfl
  case box t x =>
    split at h <;> first | (cases h; done) | skip
    rename_i v hv
    obtain ⟨hall, rfl⟩ := bif_some h
    rw [List.all_eq_true] at hall
    obtain ⟨z1, z2⟩ := hev x v hv
    have hzc : (ρ x).cells = (AV.vals e v.cells).toArray := by
      apply Array.ext'; rw [z2, AV.cells_val z1, AV.vals_eq]
    refine row_lays (s := Instr.box t (ρ x)) hzc _ (fun x hx => ⟨AV.cells_ok z1 x hx, hall x hx⟩) b hb1 hb2 ⟨_, ?_, rfl⟩ (by simpa [AV.ok] using hsome)
    simp only [Instr.box, Sem.run_bind, Result.andThen_ok, newVar, newRow, run_newObj, Sem.run_pure, AV.val, hget]
    rfl
  case buildSlice t len parts => exact opF_buildSlice (o := ⟨dst, .buildSlice t len parts, type, pos, after, guard⟩) (by simp only [opF]; exact h) rfl w hev b hb1 hb2
  case makeSlice t len cap => exact opF_makeSlice (o := ⟨dst, .makeSlice t len cap, type, pos, after, guard⟩) (by simp only [opF]; exact h) rfl w hev b hb1 hb2
  case makeMap t r =>
    split at h <;> first | (cases h; done) | skip
    cases h
    refine ⟨.map (some w.heap.size), w.alloc (.map #[] 0), none, ?_, More.alloc _ _, ?_, by simpa [AV.ok] using hsome, by simp [AV.val, hget]⟩
    · simp only [execOp, Option.map_none, Instr.makeMap, Sem.run_bind, pure_bind, run_newObj, Result.andThen_ok, Sem.run_pure]
      rfl
    · exact ⟨by rw [heap_alloc_new]; rfl, by simp⟩
  case convert src dst x =>
    split at h <;> first | (cases h; done) | skip
    rename_i el s hs hd hx
    split at h <;> first | (cases h; done) | skip
    rename_i hel
    cases h
    have hρ := (hev x _ hx).2
    have hrun := run_bytes_of_string (P := P) w src dst el ⟨s.toArray⟩ hs hd hel
    have hbs : (⟨s.toArray⟩ : ByteArray).size = s.length := by simp [ByteArray.size]
    rw [hbs] at hrun
    generalize hcp : grownCap w s.length 0 el = cp at hrun
    have hcle : s.length ≤ cp := by rw [← hcp]; simp only [grownCap, Question.cut]; omega
    generalize harr : bytesRow ⟨s.toArray⟩ cp = arr at hrun
    have hsz : arr.size = cp := by rw [← harr]; simp [bytesRow, ByteArray.size]; omega
    refine ⟨.slice (some ⟨w.heap.size, 0, none⟩) s.length cp, w.drew.alloc (.cells arr el (arr.size, arr.size + 1)), some cp, ?_, ?_, ?_, ?_, ?_⟩
    · simp only [execOp, hρ, AV.val, Sem.run_bind, hrun, Result.andThen_ok, Sem.run_pure]
    · exact ⟨by simp, fun k hk => by show (w.heap.push _)[k]? = _; rw [Array.getElem?_push, if_neg (by omega)], rfl, rfl, rfl⟩
    · refine ⟨arr, (arr.size, arr.size + 1), by show (w.heap.push _)[w.heap.size]? = _; simp, ?_, ?_, ?_⟩
      · intro i v hv
        rcases get_setL _ _ _ _ _ hv with ⟨_, q⟩ | ⟨_, q⟩
        · simp only [Nat.sub_zero, List.getElem?_map, Option.map_eq_some_iff] at q
          obtain ⟨c, hc, rfl⟩ := q
          refine ⟨by simp [AV.ok], rfl, ?_⟩
          have hi : i < s.length := (List.getElem?_eq_some_iff.1 hc).1
          rw [← harr]
          simp only [bytesRow]
          rw [Array.getElem?_append_left (by simpa using hi)]
          simp [hc, AV.val, SI.val]
        · simp [Tr.get] at q
      · intro _ i hi; omega
      · intro _; exact ⟨cp, by simp [Env.bear], hcle, by omega⟩
    · simp [AV.ok, Env.bear, SC.ok]
    · simp [AV.val, Env.bear, SC.val]

end Go.Sx

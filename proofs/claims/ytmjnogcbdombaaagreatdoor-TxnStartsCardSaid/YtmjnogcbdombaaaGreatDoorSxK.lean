/- append. -/
import Derived.Test.YtmjnogcbdombaaaGreatDoorSxJ
set_option linter.all false
namespace Go.Sx
set_option linter.unusedSimpArgs false

theorem growBy_le (n : Nat) : ∀ (r c : Nat), Builtin.growBy n r c ≤ (c + 768) * 2 ^ r
  | 0, c => by simp [Builtin.growBy]
  | r + 1, c => by
    simp only [Builtin.growBy]
    split
    · have : 1 ≤ 2 ^ (r + 1) := Nat.one_le_two_pow
      calc c ≤ (c + 768) * 1 := by omega
        _ ≤ (c + 768) * 2 ^ (r + 1) := Nat.mul_le_mul_left _ this
    · have := growBy_le n r (c + (c + 768) / 4)
      refine Nat.le_trans this ?_
      rw [Nat.pow_succ, ← Nat.mul_assoc, Nat.mul_right_comm]
      exact Nat.mul_le_mul_right _ (by omega)

theorem growBy_four (n c : Nat) : Builtin.growBy n 4 c ≤ 16 * c + 12288 := by
  have h := growBy_le n 4 c
  have e4 : (c + 768) * 2 ^ 4 = 16 * c + 12288 := by omega
  rw [e4] at h
  exact h

theorem nextslicecap_le {need cap : Nat} (h : cap < need) (hn : need ≤ 1048576) : Builtin.nextslicecap need cap ≤ 16 * need + 12288 := by
  have h4 := growBy_four need cap
  unfold Builtin.nextslicecap
  split
  · omega
  · split
    · omega
    · exact Nat.le_trans h4 (by omega)

/-- The cells that a slice or a text has, and how many elements these are. -/
def cellsOfA (st : St) (size : Nat) : AV → Option (Nat × List AV)
  | .slice b o n _ => match st.cellsAt b o (n * size) with
    | some l => some (n, l)
    | none => none
  | .nilSlice => some (0, [])
  | .str s => bif Nat.beq size 1 then some (s.length, s.map fun c => .int .u8 (.lit c.toNat)) else none
  | _ => none

theorem cellsOfA_ok {P : Program} {e : Env} {st : St} {w w' : World} (hw : Rel e st w) {size : Nat} {x : AV} {n : Nat} {l : List AV} (h : cellsOfA st size x = some (n, l)) (hx : x.ok e)
    (hs : ∀ a, w'.cell? a = w.cell? a) :
    (Builtin.lenOf (x.val e)).run P w = .ok n w ∧ (Builtin.firstCells size n (x.val e)).run P w' = .ok (AV.vals e l).toArray w' ∧ l.length = n * size ∧ ∀ v ∈ l, v.ok e ∧ v.one = true := by
  unfold cellsOfA at h
  split at h <;> first | (cases h; done) | skip
  · rename_i b o m c
    split at h <;> first | (cases h; done) | skip
    rename_i l' hl
    cases h
    simp only [AV.ok] at hx
    obtain ⟨k, hk⟩ := Option.isSome_iff_exists.1 hx.1
    obtain ⟨a1, a2, a3⟩ := hw.cellsAt hk _ _ _ hl
    refine ⟨by simp [AV.val, Builtin.lenOf], ?_, a1, a2⟩
    have := run_loadCells_list (P := P) w' ⟨k, o, none⟩ (l.map (·.val e)) (fun j v hv => by rw [hs, addr_add]; exact a3 j v hv)
    rw [List.length_map, a1] at this
    simp [AV.val, Builtin.firstCells, hk, this, AV.vals_eq]
  · cases h
    exact ⟨by simp [AV.val, Builtin.lenOf], by simp [AV.val, Builtin.firstCells, AV.vals], by simp, by simp⟩
  · rename_i s
    obtain ⟨hsz, hh⟩ := bif_some h
    have hsz := Nat.eq_of_beq_eq_true hsz
    cases hh
    have hlen : (⟨s.toArray⟩ : ByteArray).size = s.length := by simp [ByteArray.size]
    refine ⟨by simp [AV.val, Builtin.lenOf, hlen], ?_, by simp [hsz], ?_⟩
    · simp only [AV.val, Builtin.firstCells, Sem.run_pure]
      congr 1
      apply Array.ext'
      simp [AV.vals_eq, ByteArray.data_extract, AV.val, SI.val]
    · intro v hv
      obtain ⟨c, _, rfl⟩ := List.mem_map.1 hv
      exact ⟨by simp [AV.ok], rfl⟩

/-- What append does where there is room. -/
theorem run_append_room {P : Program} {w w' : World} {t tx el : TypeId} {inf : TypeInfo} {dx : TypeDesc} (args : Array TypeId) (h0 : args[0]? = some t) (h1 : args[1]? = some tx) (ty : TypeId)
    (ht : P.underlying t = some (.slice el)) (hx : P.underlying tx = some dx) (hdx : ∀ k, dx ≠ .int k) (hi : P.info? el = some inf)
    {base : Option Addr} {len cap n : Nat} {x : Value} {new : Array Value} (hlen : (Builtin.lenOf x).run P w = .ok n w) (hnew : (Builtin.firstCells inf.size n x).run P w = .ok new w)
    (hroom : len + n ≤ cap) (hst : match base with | some a => (storeCells (a.add (len * inf.size)) new.toList 0).run P w = .ok () w' | none => w' = w) :
    (Builtin.append_ args ty #[.slice base len cap, x]).run P w = .ok (.slice base (len + n) cap) w' := by
  have hz : (dx matches .int _) = false := by cases dx <;> first | rfl | exact absurd rfl (hdx _)
  simp only [Builtin.append_, h0, h1, List.getElem?_toArray, List.getElem?_cons_zero, List.getElem?_cons_succ, Sem.run_bind, run_underlying ht, run_underlying hx, Result.andThen_ok, run_size hi, hz, pure_bind,
    Bool.false_eq_true, if_false, hlen, hroom, if_true, Bool.not_false, hnew]
  cases base with
  | none => simp at hst; subst hst; simp
  | some a => simp only at hst; simp [hst]

/-- What append does where there is none. -/
theorem run_append_grow {P : Program} {w : World} {t tx el : TypeId} {inf : TypeInfo} {dx : TypeDesc} (args : Array TypeId) (h0 : args[0]? = some t) (h1 : args[1]? = some tx) (ty : TypeId)
    (ht : P.underlying t = some (.slice el)) (hx : P.underlying tx = some dx) (hdx : ∀ k, dx ≠ .int k) (hi : P.info? el = some inf) {z : Value} (hz : inf.zero = some z) (hbytes : inf.bytes ≤ 1048576) (hb0 : 0 < inf.bytes)
    {base : Option Addr} {len cap n : Nat} {x : Value} {old new : Array Value} (hlen : (Builtin.lenOf x).run P w = .ok n w) (hnew : (Builtin.firstCells inf.size n x).run P w.drew = .ok new w.drew)
    (hold : (Builtin.firstCells inf.size len (.slice base len cap)).run P w.drew = .ok old w.drew)
    (hroom : cap < len + n) (hneed : len + n ≤ 1048576) :
    ∃ c, len + n ≤ c ∧ (Builtin.append_ args ty #[.slice base len cap, x]).run P w = .ok (.slice (some ⟨w.heap.size, 0, none⟩) (len + n) c) (w.drew.alloc (.cells (old ++ new ++ Builtin.zeroCells z.cells (c - (len + n))) el)) := by
  have hzz : (dx matches .int _) = false := by cases dx <;> first | rfl | exact absurd rfl (hdx _)
  have hn1 : ¬ (len + n ≤ cap) := by omega
  have hcapb := nextslicecap_le hroom hneed
  have hcapb : Builtin.nextslicecap (len + n) cap ≤ 16789504 := Nat.le_trans hcapb (by omega)
  have hbig : Builtin.nextslicecap (len + n) cap * inf.bytes ≤ 16789504 * 1048576 := Nat.mul_le_mul hcapb hbytes
  have hn2 : ¬ (Builtin.nextslicecap (len + n) cap * inf.bytes > 2 ^ 48) := by
    have e1 : (16789504 * 1048576 : Nat) ≤ 2 ^ 48 := by decide
    omega
  have hn3 : ¬ (inf.bytes = 0) := by omega
  refine ⟨(Question.appendCap (len + n) cap el).cut (w.tape w.drawn (.appendCap (len + n) cap el)), by simp only [Question.cut]; omega, ?_⟩
  simp only [Builtin.append_, h0, h1, List.getElem?_toArray, List.getElem?_cons_zero, List.getElem?_cons_succ, Sem.run_bind, run_underlying ht, run_underlying hx, Result.andThen_ok, run_size hi, hzz, pure_bind,
    Bool.false_eq_true, if_false, hlen, hn1, run_info hi, hn3, false_or, or_false, and_false, hn2, Bool.not_false, if_true, run_choose, Question.forced, run_askRoom]
  rw [show ({ heap := w.heap, tape := w.tape, drawn := w.drawn + 1, os := w.os, output := w.output } : World) = w.drew from rfl]
  simp only [hold, hnew, Result.andThen_ok, run_zero hi hz, newRow, Sem.run_bind, run_newObj, Sem.run_pure]
  rfl

end Go.Sx

/- copy. -/
import Derived.Test.YtmjnogcbdombaaaGreatDoorSxL
set_option linter.all false
namespace Go.Sx
set_option linter.unusedSimpArgs false

def lenA : AV → Option Nat
  | .slice _ _ n _ => some n
  | .nilSlice => some 0
  | .str s => some s.length
  | _ => none

def firstA (st : St) (size n : Nat) : AV → Option (List AV)
  | .slice b o _ _ => st.cellsAt b o (n * size)
  | .nilSlice => some []
  | .str s => bif Nat.beq size 1 then some ((s.take n).map fun c => .int .u8 (.lit c.toNat)) else none
  | _ => none

theorem lenA_ok {P : Program} {x : AV} {n : Nat} (h : lenA x = some n) (e : Env) (w : World) : (Builtin.lenOf (x.val e)).run P w = .ok n w := by
  unfold lenA at h
  split at h <;> cases h <;> simp [AV.val, Builtin.lenOf, ByteArray.size]

theorem firstA_ok {P : Program} {e : Env} {st : St} {w : World} (hw : Rel e st w) {size n : Nat} {x : AV} {l : List AV} (h : firstA st size n x = some l) (hx : x.ok e) :
    (Builtin.firstCells size n (x.val e)).run P w = .ok (AV.vals e l).toArray w ∧ ∀ v ∈ l, v.ok e ∧ v.one = true := by
  unfold firstA at h
  split at h <;> first | (cases h; done) | skip
  · rename_i b o m c
    simp only [AV.ok] at hx
    obtain ⟨k, hk⟩ := Option.isSome_iff_exists.1 hx.1
    obtain ⟨a1, a2, a3⟩ := hw.cellsAt hk _ _ _ h
    refine ⟨?_, a2⟩
    have := hw.run_loadCells (P := P) hk h
    simpa [AV.val, Builtin.firstCells, hk] using this
  · cases h
    exact ⟨by simp [AV.val, Builtin.firstCells, AV.vals], by simp⟩
  · rename_i s
    obtain ⟨hsz, rfl⟩ := bif_some h
    refine ⟨?_, ?_⟩
    · simp only [AV.val, Builtin.firstCells, Sem.run_pure]
      congr 1
      apply Array.ext'
      simp [AV.vals_eq, ByteArray.data_extract, AV.val, SI.val]
      rfl
    · intro v hv
      obtain ⟨c, _, rfl⟩ := List.mem_map.1 hv
      exact ⟨by simp [AV.ok], rfl⟩

def copyA (st : St) (size : Nat) (d x : AV) : Option (Nat × St) :=
  match lenA x with
  | none => none
  | some ln => match d with
    | .nilSlice => match firstA st size 0 x with
      | some [] => some (0, st)
      | _ => none
    | .slice b o dl _ =>
      match firstA st size (Nat.min ln dl) x with
      | some l => (match st.store b o l with | some st' => some (Nat.min ln dl, st') | none => none)
      | none => none
    | _ => none

theorem copyA_ok {P : Program} {st st' : St} {el t : TypeId} {inf : TypeInfo} {d x : AV} {n : Nat} (h : copyA st inf.size d x = some (n, st'))
    (args : Array TypeId) (h0 : args[0]? = some t) (ty : TypeId) (ht : P.underlying t = some (.slice el)) (hi : P.info? el = some inf)
    {e : Env} {w : World} (hw : Rel e st w) (hdo : d.ok e) (hxo : x.ok e) :
    ∃ w', (Builtin.copy_ args ty #[d.val e, x.val e]).run P w = .ok (goInt n) w' ∧ Rel e st' w' ∧ Goes e st w e st' w' := by
  unfold copyA at h
  split at h <;> first | (cases h; done) | skip
  rename_i ln hln
  have hl := lenA_ok (P := P) hln e w
  split at h <;> first | (cases h; done) | skip
  · split at h <;> first | (cases h; done) | skip
    rename_i hf
    cases h
    obtain ⟨k1, _⟩ := firstA_ok (P := P) hw hf hxo
    refine ⟨w, ?_, hw, Goes.refl _ _ _⟩
    have e0 : Nat.min ln 0 = 0 := Nat.min_zero _
    simp only [Builtin.copy_, h0, List.getElem?_toArray, List.getElem?_cons_zero, List.getElem?_cons_succ, Sem.run_bind, run_underlying ht, Result.andThen_ok, AV.val, hl, e0, run_size hi, k1, Sem.run_pure]
  · rename_i b o dl c
    split at h <;> first | (cases h; done) | skip
    rename_i l hf
    split at h <;> first | (cases h; done) | skip
    rename_i st2 hst
    cases h
    simp only [AV.ok] at hdo
    obtain ⟨m, hm⟩ := Option.isSome_iff_exists.1 hdo.1
    obtain ⟨k1, k2⟩ := firstA_ok (P := P) hw hf hxo
    obtain ⟨w', s1, s2, s3⟩ := hw.store (P := P) hm hst (fun v hv => (k2 v hv).1)
    refine ⟨w', ?_, s2, s3⟩
    simp only [Builtin.copy_, h0, List.getElem?_toArray, List.getElem?_cons_zero, List.getElem?_cons_succ, Sem.run_bind, run_underlying ht, Result.andThen_ok, AV.val, hl, run_size hi, k1, hm, Option.getD_some]
    rw [AV.vals_eq]
    simp only [s1, Result.andThen_ok, Sem.run_pure]

end Go.Sx

/- 'opR' is sound. -/
import Derived.Test.YtmjnogcbdombaaaGreatDoorSxE
set_option linter.all false
namespace Go.Sx

theorem bif_some {α : Type} {c : Bool} {x y : α} (h : (bif c then some x else none) = some y) : c = true ∧ x = y := by
  cases c <;> simp_all

theorem slice_addr {e : Env} {b : Nat} {o l size m : Nat} :
    (if m = l then (⟨(e.blk b).getD 0, o, none⟩ : Addr) else (⟨(e.blk b).getD 0, o, none⟩ : Addr).add (l * size)) = ⟨(e.blk b).getD 0, bif Nat.beq m l then o else o + l * size, none⟩ := by
  by_cases hml : m = l
  · subst hml; simp
  · have : Nat.beq m l = false := by rw [Bool.eq_false_iff]; intro q; exact hml (Nat.eq_of_beq_eq_true q)
    rw [if_neg hml, this, addr_add]; rfl

theorem St.lb_ok {e : Env} {st : St} {w : World} (hw : Rel e st w) {b n : Nat} (hb : e.blk b = some n) {k : Nat} (hk : e.cap b = some k) : st.lb b ≤ k := by
  unfold St.lb
  split
  · rename_i ty ro cw lb c hg
    cases hc : Nat.beq cw 0
    · obtain ⟨arr, fr, _, _, _, h4⟩ := hw.hb b _ n hg hb
      obtain ⟨k', h5, h6, _⟩ := h4 (by
        rcases Nat.eq_zero_or_pos cw with q | q
        · subst q; simp at hc
        · exact q)
      rw [hk] at h5; cases h5; exact h6
    · exact Nat.zero_le _
  · exact Nat.zero_le _

/-- A slice of a slice: what its bounds come to, and what comes of them. -/
theorem sliceA_ok {P : Program} {e : Env} {st : St} {w : World} (hw : Rel e st w) {size b o len : Nat} {c : SC} {lo hi : Option AV} {v : AV} (hb : (e.blk b).isSome = true) (hc : c.ok e)
    (h : sliceA st size b o len c lo hi = some v) : ∃ l hh, (∀ isSlice, (Instr.sliceBounds isSlice len (c.val e) (lo.map (·.val e)) (hi.map (·.val e)) none).run P w = .ok (l, hh, c.val e) w) ∧
      v.ok e ∧ v.val e = .slice (some (if c.val e = l then (⟨(e.blk b).getD 0, o, none⟩ : Addr) else (⟨(e.blk b).getD 0, o, none⟩ : Addr).add (l * size))) (hh - l) (c.val e - l) := by
  unfold sliceA at h
  split at h
  · rename_i m
    split at h
    · cases h
    · rename_i hh hhi
      split at h
      · cases h
      · rename_i l hlo
        cases h
        refine ⟨l, hh, fun s => run_sliceBounds w (Nat.le_refl _) hhi hlo, by simp [AV.ok, hb, SC.ok], ?_⟩
        exact congrArg (fun a => Value.slice (some a) (hh - l) (m - l)) slice_addr.symm
  · rename_i b' k
    split at h
    · cases h
    · rename_i hh hhi
      split at h
      · cases h
      · rename_i l hlo
        obtain ⟨hcond, rfl⟩ := bif_some h
        simp only [SC.ok] at hc
        obtain ⟨kk, hkk⟩ := Option.isSome_iff_exists.1 hc.1
        obtain ⟨nn, hnn⟩ := Option.isSome_iff_exists.1 hc.2
        have hlb := St.lb_ok hw hnn hkk
        have hcv : (SC.var b' k).val e = kk - k := by simp [SC.val, hkk]
        refine ⟨l, hh, fun s => run_sliceBounds w (by rw [hcv]; omega) hhi hlo, by simp [AV.ok, hb, SC.ok, hkk, hnn], ?_⟩
        have hoff : (if (SC.var b' k).val e = l then (⟨(e.blk b).getD 0, o, none⟩ : Addr) else (⟨(e.blk b).getD 0, o, none⟩ : Addr).add (l * size)) = ⟨(e.blk b).getD 0, o + l * size, none⟩ := by
          simp only [Bool.or_eq_true] at hcond
          rcases hcond with q | q
          · have := Nat.eq_of_beq_eq_true q
            subst this
            split <;> simp [addr_add]
          · have hlt : l < st.lb b' - k := by simp [Nat.blt] at q; omega
            rw [if_neg (by rw [hcv]; omega), addr_add]
        rw [hoff]
        simp only [AV.val, SC.val, hkk, Option.getD_some]
        congr 1
        omega

theorem map_evs {e : Env} {ev : Operand → Option AV} {ρ : Operand → Value} (hev : ∀ x v, ev x = some v → v.ok e ∧ ρ x = v.val e) : ∀ (l : List Operand) (a : List AV), l.mapM ev = some a →
    AV.oks e a ∧ l.map ρ = AV.vals e a
  | [], a, h => by simp at h; subst h; simp [AV.oks, AV.vals]
  | x :: l, a, h => by
    rw [List.mapM_cons] at h
    simp only [Option.bind_eq_bind, Option.bind_eq_some_iff, Option.pure_def, Option.some.injEq] at h
    obtain ⟨v, hv, r, hr, rfl⟩ := h
    have h1 := hev x v hv
    have h2 := map_evs hev l r hr
    simp [AV.oks, AV.vals, h1.1, h1.2, h2.1, h2.2]

theorem toList_one {α : Type} {a : Array α} {x : α} (h : a.toList = [x]) : a = #[x] := by
  cases a; simp_all
theorem toList_two {α : Type} {a : Array α} {x y : α} (h : a.toList = [x, y]) : a = #[x, y] := by
  cases a; simp_all

end Go.Sx

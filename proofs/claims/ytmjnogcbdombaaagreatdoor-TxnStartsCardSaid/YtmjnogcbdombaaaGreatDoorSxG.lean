/- 'opR' is sound: the operations one by one. -/
import Derived.Test.YtmjnogcbdombaaaGreatDoorSxF
set_option linter.all false
namespace Go.Sx
set_option linter.unusedSimpArgs false

theorem opR_ok {P : Program} {fx : List Fact} {st : St} {ev : Operand → Option AV} {o : Oper} {r : Option AV} (h : opR P fx st ev o = some r)
    {e : Env} {w : World} (hw : Rel e st w) (hfx : ∀ f ∈ fx, f.holds e) {ρ : Operand → Value} (hev : ∀ x v, ev x = some v → v.ok e ∧ ρ x = v.val e) :
    ∃ x, (execOp ρ o).run P w = .ok (.value x) w ∧ ∀ v, r = some v → v.ok e ∧ x = v.val e := by
  have fin : ∀ {s : Sem Value} {v : AV}, s.run P w = .ok (v.val e) w → v.ok e →
      ∃ x, (do pure (.value (← s)) : Sem Next).run P w = .ok (.value x) w ∧ ∀ u, some v = some u → u.ok e ∧ x = u.val e := by
    intro s v hs ho
    exact ⟨v.val e, by simp only [Sem.run_bind, hs, Result.andThen_ok, Sem.run_pure], fun u hu => by cases hu; exact ⟨ho, rfl⟩⟩
  obtain ⟨dst, op, type, pos, after, guard⟩ := o
  cases op <;> simp only [opR] at h <;> first | (cases h; done) | skip
  case move x =>
    cases h
    exact ⟨_, rfl, fun v hv => hev x v hv⟩
  case assign x =>
    cases h
    exact ⟨_, rfl, fun v hv => hev x v hv⟩
  case pick c a b =>
    split at h <;> first | (cases h; done) | skip
    · rename_i hc
      cases h
      have := (hev c _ hc).2
      exact ⟨_, by simp [execOp, this, AV.val, asBool], fun v hv => hev a v hv⟩
    · rename_i hc
      cases h
      have := (hev c _ hc).2
      exact ⟨_, by simp [execOp, this, AV.val, asBool], fun v hv => hev b v hv⟩
  case load t a =>
    split at h <;> first | (cases h; done) | skip
    rename_i b off ha
    obtain ⟨h1, h2⟩ := hev a _ ha
    simp only [AV.ok] at h1
    obtain ⟨n, hn⟩ := Option.isSome_iff_exists.1 h1
    split at h <;> first | (cases h; done) | skip
    rename_i d i hd hi
    cases hg : isAggD d
    · rw [hg] at h
      simp only [cond_false] at h
      split at h <;> first | (cases h; done) | skip
      rename_i v hv
      cases h
      obtain ⟨c1, c2, c3⟩ := hw.cellAt hn hv
      refine fin ?_ c2
      simp only [Instr.loadAt, h2, AV.val, hn, Option.getD_some, Instr.sureAddr, pure_bind, loadVar, Sem.run_bind, run_isAgg hd, hg, Result.andThen_ok, Bool.false_eq_true, if_false]
      simp [c1]
    · rw [hg] at h
      simp only [cond_true] at h
      split at h <;> first | (cases h; done) | skip
      rename_i l hl
      cases h
      obtain ⟨c1, c2, c3⟩ := hw.cellsAt hn _ _ _ hl
      refine fin ?_ (by simp only [AV.ok, AV.oks_iff]; exact fun v hv => (c2 v hv).1)
      simp only [Instr.loadAt, h2, AV.val, hn, Option.getD_some, Instr.sureAddr, pure_bind, loadVar, Sem.run_bind, run_isAgg hd, hg, Result.andThen_ok, if_true, run_size hi, hw.run_loadCells hn hl, Sem.run_pure]
  case nilCheck x =>
    split at h <;> first | (cases h; done) | skip
    all_goals
      rename_i hx
      cases h
      obtain ⟨h1, h2⟩ := hev x _ hx
      refine ⟨_, ?_, fun u hu => by cases hu; exact ⟨h1, rfl⟩⟩
      simp [execOp, h2, AV.val]
  case binOp op t x y yt =>
    split at h <;> first | (cases h; done) | skip
    rename_i a b ha hb
    split at h <;> first | (cases h; done) | skip
    rename_i v hv
    cases h
    obtain ⟨a1, a2⟩ := hev x _ ha
    obtain ⟨b1, b2⟩ := hev y _ hb
    have := binA_ok hv hfx a1 b1 w
    refine fin ?_ this.2
    rw [a2, b2]
    exact this.1
  case unOp op t x =>
    split at h <;> first | (cases h; done) | skip
    rename_i a ha
    split at h <;> first | (cases h; done) | skip
    rename_i v hv
    cases h
    have := unA_ok (P := P) hv e w
    refine fin ?_ this.2
    rw [(hev x _ ha).2]; exact this.1
  case convert src dst x =>
    split at h <;> first | (cases h; done) | skip
    · rename_i k1 k2 k3 n h1 h2 h3
      cases h
      refine fin ?_ (by simp [AV.ok])
      rw [(hev x _ h3).2]
      simp only [convert, Sem.run_bind, run_underlying h1, run_underlying h2, Result.andThen_ok, AV.val, Conv.intToInt, SI.val, Sem.run_pure]
    · rename_i s h1 h2 h3
      cases h
      refine fin ?_ (by simp [AV.ok])
      rw [(hev x _ h3).2]
      simp only [convert, Sem.run_bind, run_underlying h1, run_underlying h2, Result.andThen_ok, AV.val, Sem.run_pure]
  case makeInterface t x =>
    split at h <;> first | (cases h; done) | skip
    rename_i d v hd hv
    obtain ⟨a1, a2⟩ := hev x _ hv
    split at h <;> first | (cases h; done) | skip
    rename_i hni
    cases h
    refine fin ?_ (by simpa [AV.ok] using a1)
    rw [a2]
    simp only [Instr.makeInterface, Sem.run_bind, run_underlying hd, Result.andThen_ok]
    cases d <;> first | rfl | exact absurd rfl (hni _)
  case makeFunc fn first captured =>
    split at h <;> first | (cases h; done) | skip
    rename_i a c ha hc
    split at h <;> first | (cases h; done) | skip
    cases h
    have h1 := map_evs hev _ _ ha
    have h2 := map_evs hev _ _ hc
    refine fin ?_ (by simp [AV.ok, h1.1, h2.1])
    simp only [Instr.makeFunc, Sem.run_pure, AV.val, ← h1.2, ← h2.2]
    congr 2 <;> (apply Array.ext'; simp)
  case fieldAddr s x f =>
    split at h <;> first | (cases h; done) | skip
    rename_i fs b off hs hx
    obtain ⟨a1, a2⟩ := hev x _ hx
    split at h <;> first | (cases h; done) | skip
    rename_i fd hfd
    split at h <;> first | (cases h; done) | skip
    rename_i i hi
    cases hz : Nat.beq i.size 0
    · rw [hz] at h
      cases h
      refine fin ?_ (by simpa [AV.ok] using a1)
      have hne : i.size ≠ 0 := by intro q; rw [q] at hz; simp at hz
      rw [a2]
      have hfd' : fs[f]? = some fd := by simpa using hfd
      simp only [Instr.fieldAt, Sem.run_bind, run_underlying hs, Result.andThen_ok, hfd', Instr.sureAddr, AV.val, pure_bind, fieldPlace, run_size hi, hne, if_false, Sem.run_pure, addr_add]
    · rw [hz] at h; cases h
  case field s x f =>
    split at h <;> first | (cases h; done) | skip
    rename_i fs l hs hx
    obtain ⟨a1, a2⟩ := hev x _ hx
    split at h <;> first | (cases h; done) | skip
    rename_i fd hfd
    split at h <;> first | (cases h; done) | skip
    rename_i v hv
    cases h
    have hfd' : fs[f]? = some fd := by simpa using hfd
    have := partA_ok hv e (by simpa [AV.ok] using a1) w
    refine fin ?_ this.2
    rw [a2]
    simp only [Instr.field, Sem.run_bind, run_underlying hs, Result.andThen_ok, hfd', asAgg, AV.val, pure_bind]
    exact this.1
  case indexAddr t x ix =>
    split at h <;> first | (cases h; done) | skip
    · rename_i len el b off k i ht hx hix
      obtain ⟨a1, a2⟩ := hev x _ hx
      have hix2 := (hev ix _ hix).2
      split at h <;> first | (cases h; done) | skip
      rename_i inf hinf
      obtain ⟨hlt, rfl⟩ := bif_some h
      have hlt' : i < len := by simp [Nat.blt] at hlt; omega
      refine fin ?_ (by simpa [AV.ok] using a1)
      rw [a2, hix2]
      simp only [Instr.indexAt, asIntOf, AV.val, SI.val, pure_bind, Sem.run_bind, run_underlying ht, Result.andThen_ok, Instr.sureAddr, Sem.run_pure]
      rw [if_pos ⟨Int.natCast_nonneg i, by exact Int.ofNat_lt.2 hlt'⟩]
      simp only [Sem.run_bind, run_size hinf, Result.andThen_ok, Sem.run_pure, addr_add]
      rfl
    · rename_i el b off len c k i ht hx hix
      obtain ⟨a1, a2⟩ := hev x _ hx
      have hix2 := (hev ix _ hix).2
      split at h <;> first | (cases h; done) | skip
      rename_i inf hinf
      obtain ⟨hlt, rfl⟩ := bif_some h
      have hlt' : i < len := by simp [Nat.blt] at hlt; omega
      simp only [AV.ok] at a1
      refine fin ?_ (by simpa [AV.ok] using a1.1)
      rw [a2, hix2]
      simp only [Instr.indexAt, asIntOf, AV.val, SI.val, pure_bind, Sem.run_bind, run_underlying ht, Result.andThen_ok, Sem.run_pure]
      rw [if_pos ⟨Int.natCast_nonneg i, by exact Int.ofNat_lt.2 hlt'⟩]
      simp only [Sem.run_bind, run_size hinf, Result.andThen_ok, Sem.run_pure, addr_add]
      rfl
  case index t x ix =>
    split at h <;> first | (cases h; done) | skip
    · rename_i len el l k i ht hx hix
      obtain ⟨a1, a2⟩ := hev x _ hx
      have hix2 := (hev ix _ hix).2
      split at h <;> first | (cases h; done) | skip
      rename_i inf hinf
      cases hlt : Nat.blt i len
      · rw [hlt] at h; cases h
      · rw [hlt] at h
        simp only [cond_true] at h
        split at h <;> first | (cases h; done) | skip
        rename_i v hv
        cases h
        have hlt' : i < len := by simp [Nat.blt] at hlt; omega
        have := partA_ok hv e (by simpa [AV.ok] using a1) w
        refine fin ?_ this.2
        rw [a2, hix2]
        simp only [Instr.index, asIntOf, AV.val, SI.val, pure_bind, Sem.run_bind, run_underlying ht, Result.andThen_ok, Sem.run_pure]
        rw [if_pos ⟨Int.natCast_nonneg i, by exact Int.ofNat_lt.2 hlt'⟩]
        simp only [Sem.run_bind, run_size hinf, Result.andThen_ok]
        exact this.1
    · rename_i s k i ht hx hix
      obtain ⟨a1, a2⟩ := hev x _ hx
      have hix2 := (hev ix _ hix).2
      split at h <;> first | (cases h; done) | skip
      rename_i c hc
      cases h
      refine fin ?_ (by simp [AV.ok])
      rw [a2, hix2]
      simp only [Instr.index, asIntOf, AV.val, SI.val, pure_bind, Sem.run_bind, run_underlying ht, Result.andThen_ok, Sem.run_pure]
      have h3 : (⟨s.toArray⟩ : ByteArray)[(Int.ofNat i).toNat]? = some c := by
        obtain ⟨hi, hv⟩ := List.getElem?_eq_some_iff.1 hc
        rw [getElem?_pos (⟨s.toArray⟩ : ByteArray) (Int.ofNat i).toNat (by simpa [ByteArray.size] using hi)]
        exact congrArg some hv
      have h4 : (if 0 ≤ Int.ofNat i then (⟨s.toArray⟩ : ByteArray)[(Int.ofNat i).toNat]? else none) = some c := by
        rw [if_pos (by exact Int.natCast_nonneg i)]; exact h3
      rw [h4]
      rfl
  case slice t x lo hi mx =>
    split at h <;> first | (cases h; done) | skip
    have opt : ∀ (y : Option Operand) (l : Option AV), (match y with | none => some none | some z => (ev z).map some) = some l → y.map ρ = l.map (·.val e) := by
      intro y l hl
      cases y with
      | none => cases hl; rfl
      | some z =>
        simp only [Option.map_eq_some_iff] at hl
        obtain ⟨v, hv, rfl⟩ := hl
        simp [(hev z _ hv).2]
    split at h <;> first | (cases h; done) | skip
    · rename_i l hh el b off len c hl hhi ht hx
      obtain ⟨a1, a2⟩ := hev x _ hx
      simp only [AV.ok] at a1
      split at h <;> first | (cases h; done) | skip
      rename_i inf hinf
      split at h <;> first | (cases h; done) | skip
      rename_i v hv
      cases h
      obtain ⟨l', h', s1, s2, s3⟩ := sliceA_ok (P := P) hw a1.1 a1.2 hv
      refine fin ?_ s2
      rw [a2, opt lo l hl, opt hi hh hhi]
      simp only [Instr.sliceAt, Sem.run_bind, run_underlying ht, Result.andThen_ok, Instr.slice, AV.val, Option.map_none, s1, run_size hinf, Sem.run_pure, s3]
      split <;> simp_all
    · rename_i l hh el hl hhi ht hx
      cases hel : (P.info? el).isSome
      · rw [hel] at h; cases h
      rw [hel] at h
      simp only [cond_true] at h
      split at h <;> first | (cases h; done) | skip
      rename_i h' hh'
      split at h <;> first | (cases h; done) | skip
      rename_i l' hl'
      cases h
      refine fin ?_ (by simp [AV.ok])
      rw [(hev x _ hx).2, opt lo l hl, opt hi hh hhi]
      have hz : h' = 0 := by
        cases hh with
        | none => simp [bndA] at hh'; omega
        | some a => obtain ⟨_, _, q⟩ := bndA_some hh'; omega
      have hz' : l' = 0 := by
        cases l with
        | none => simp [bndA] at hl'; omega
        | some a => obtain ⟨_, _, q⟩ := bndA_some hl'; omega
      subst hz; subst hz'
      have s1 := run_sliceBounds (P := P) (e := e) (isSlice := true) (len := 0) (cap := 0) w (Nat.le_refl _) hh' hl'
      obtain ⟨inf, hinf⟩ : ∃ inf, P.info? el = some inf := Option.isSome_iff_exists.1 hel
      simp only [Instr.sliceAt, Sem.run_bind, run_underlying ht, Result.andThen_ok, Instr.slice, AV.val, Option.map_none, s1, run_size hinf, Sem.run_pure, if_true]
    · rename_i l hh n el b off hl hhi ht hx
      obtain ⟨a1, a2⟩ := hev x _ hx
      simp only [AV.ok] at a1
      split at h <;> first | (cases h; done) | skip
      rename_i inf hinf
      split at h <;> first | (cases h; done) | skip
      rename_i v hv
      cases h
      obtain ⟨l', h', s1, s2, s3⟩ := sliceA_ok (P := P) (c := SC.lit n) hw a1 trivial hv
      simp only [SC.val] at s1 s3
      refine fin ?_ s2
      rw [a2, opt lo l hl, opt hi hh hhi]
      simp only [Instr.sliceAt, Sem.run_bind, run_underlying ht, Result.andThen_ok, Instr.sureAddr, pure_bind, AV.val, Option.map_none, s1, run_size hinf, Sem.run_pure, s3]
      split <;> simp_all
    · rename_i l hh s hl hhi ht hx
      obtain ⟨a1, a2⟩ := hev x _ hx
      split at h <;> first | (cases h; done) | skip
      rename_i h' hh'
      split at h <;> first | (cases h; done) | skip
      rename_i l' hl'
      cases h
      refine fin ?_ (by simp [AV.ok])
      rw [a2, opt lo l hl, opt hi hh hhi]
      have s1 := run_sliceBounds (P := P) (e := e) (isSlice := false) (len := s.length) (cap := s.length) w (Nat.le_refl _) hh' hl'
      have hsz : (⟨s.toArray⟩ : ByteArray).size = s.length := by simp [ByteArray.size]
      simp only [Instr.sliceAt, Sem.run_bind, run_underlying ht, Result.andThen_ok, Instr.slice, AV.val, Option.map_none, Option.isSome_none, Bool.false_eq_true, if_false, hsz, s1, Sem.run_pure]
      congr 2
      apply ByteArray.ext
      simp
  case lookup t x ix ok =>
    split at h <;> first | (cases h; done) | skip
    rename_i kt el b k ht hx hix
    obtain ⟨a1, a2⟩ := hev x _ hx
    obtain ⟨k1, k2⟩ := hev ix _ hix
    simp only [AV.ok] at a1
    obtain ⟨n, hn⟩ := Option.isSome_iff_exists.1 a1
    split at h <;> first | (cases h; done) | skip
    rename_i d es ck inf hd hes hinf
    cases hf : keyFits d k
    · rw [hf] at h; cases h
    rw [hf] at h
    simp only [cond_true] at h
    obtain ⟨m1, m2⟩ := hw.hb b _ n hes hn
    have hck := fun bb => run_checkKey (P := P) hd e hf bb 9999 w
    have hgo : (getObj n).run P w = .ok (.map (es.map (entryVal e)).toArray ck) w := by simp [getObj, Sem.run, m1]
    split at h <;> first | (cases h; done) | skip
    · rename_i i v hfd
      cases h
      have hfk := run_findKey hd e hf hfd w
      obtain ⟨_, hmem⟩ := findA_ok e hf es 0 _ hfd
      obtain ⟨y, hy, hyv⟩ := hmem _ rfl
      have hvo : v.ok e := by rw [show v = y.2.1 from hyv]; exact (m2 y hy).2
      refine fin ?_ (by cases ok <;> simp [AV.ok, AV.oks, hvo])
      rw [a2, k2]
      simp only [Instr.lookup, AV.val, hn, Option.getD_some, Sem.run_bind, run_underlying ht, Result.andThen_ok, hgo, hck, List.toList_toArray, hfk, Option.map_some, Sem.run_pure]
      cases ok <;> simp [AV.val, AV.vals]
    · rename_i hfd
      split at h <;> first | (cases h; done) | skip
      rename_i z hz
      split at h <;> first | (cases h; done) | skip
      rename_i v hv
      cases h
      have hfk := run_findKey hd e hf hfd w
      obtain ⟨hvo, hvv⟩ := lift_ok e z v hv
      refine fin ?_ (by cases ok <;> simp [AV.ok, AV.oks, hvo])
      rw [a2, k2]
      simp only [Instr.lookup, AV.val, hn, Option.getD_some, Sem.run_bind, run_underlying ht, Result.andThen_ok, hgo, hck, List.toList_toArray, hfk, Option.map_none, run_zero hinf hz, Sem.run_pure]
      cases ok <;> simp [AV.val, AV.vals, hvv]
  case extract x i =>
    split at h <;> first | (cases h; done) | skip
    rename_i l hx
    split at h <;> first | (cases h; done) | skip
    rename_i v hv
    cases h
    obtain ⟨a1, a2⟩ := hev x _ hx
    refine fin ?_ (mem_oks (by simpa [AV.ok] using a1) (List.mem_of_getElem? hv))
    rw [a2]
    simp [Instr.extract, AV.val, AV.vals_eq, hv]
  case typeAssert x xt t ok =>
    split at h <;> first | (cases h; done) | skip
    rename_i d u v hd hx
    obtain ⟨a1, a2⟩ := hev x _ hx
    simp only [AV.ok] at a1
    split at h <;> first | (cases h; done) | skip
    rename_i hni
    cases hu : Nat.beq u t
    · rw [hu] at h
      simp only [cond_false] at h
      split at h <;> first | (cases h; done) | skip
      rename_i inf hinf
      split at h <;> first | (cases h; done) | skip
      rename_i z hz
      split at h <;> first | (cases h; done) | skip
      rename_i z' hz'
      cases h
      obtain ⟨z1, z2⟩ := lift_ok e z z' hz'
      refine fin ?_ (by simp [AV.ok, AV.oks, z1])
      have hne : ¬ u = t := by intro q; rw [q] at hu; simp at hu
      rw [a2]
      simp only [Instr.typeAssert, AV.val, Sem.run_bind, run_underlying hd, Result.andThen_ok]
      cases d <;> first | exact absurd rfl (hni _) | simp [hne, run_zero hinf hz, AV.vals, AV.val, z2]
    · rw [hu] at h
      cases h
      have hut := Nat.eq_of_beq_eq_true hu
      subst hut
      refine fin ?_ (by simp [AV.ok, AV.oks, a1])
      rw [a2]
      simp only [Instr.typeAssert, AV.val, Sem.run_bind, run_underlying hd, Result.andThen_ok]
      cases d <;> first | exact absurd rfl (hni _) | simp [AV.vals, AV.val]
  case call c =>
    obtain ⟨callee, args, argTypes⟩ := c
    have fin2 : ∀ {s : Sem Next} {v : AV}, s.run P w = .ok (.value (v.val e)) w → v.ok e →
        ∃ x, s.run P w = .ok (.value x) w ∧ ∀ u, some v = some u → u.ok e ∧ x = u.val e :=
      fun hs ho => ⟨_, hs, fun u hu => by cases hu; exact ⟨ho, rfl⟩⟩
    split at h <;> first | (cases h; done) | skip
    · rename_i hcal
      simp only at hcal h
      subst hcal
      split at h <;> first | (cases h; done) | skip
      rename_i t ts x hts hxs
      have hargs := toList_one hxs
      subst hargs
      have ht0 : argTypes[0]? = some t := by rw [← Array.getElem?_toList, hts]; rfl
      split at h <;> first | (cases h; done) | skip
      · rename_i s ht hx
        cases h
        refine fin2 ?_ (by simp [AV.ok])
        have hsz : (⟨s.toArray⟩ : ByteArray).size = s.length := by simp [ByteArray.size]
        simp [execOp, resolve, invoke, builtin, Builtin.len_, ht0, (hev x _ hx).2, run_underlying ht, AV.val, goInt, SI.val, hsz]
      · rename_i b o n c ht hx
        cases h
        refine fin2 ?_ (by simp [AV.ok])
        simp [execOp, resolve, invoke, builtin, Builtin.len_, ht0, (hev x _ hx).2, run_underlying ht, AV.val, goInt, SI.val]
      · rename_i ht hx
        cases h
        refine fin2 ?_ (by simp [AV.ok])
        simp [execOp, resolve, invoke, builtin, Builtin.len_, ht0, (hev x _ hx).2, run_underlying ht, AV.val, goInt, SI.val]
      · rename_i n v ht hx
        cases h
        refine fin2 ?_ (by simp [AV.ok])
        simp [execOp, resolve, invoke, builtin, Builtin.len_, ht0, run_underlying ht, AV.val, goInt, SI.val]
      · rename_i ht hx
        cases h
        refine fin2 ?_ (by simp [AV.ok])
        simp [execOp, resolve, invoke, builtin, Builtin.len_, ht0, (hev x _ hx).2, run_underlying ht, AV.val, goInt, SI.val]
      · rename_i b ht hx
        obtain ⟨a1, a2⟩ := hev x _ hx
        simp only [AV.ok] at a1
        obtain ⟨n, hn⟩ := Option.isSome_iff_exists.1 a1
        split at h <;> first | (cases h; done) | skip
        rename_i es ck hes
        cases h
        obtain ⟨m1, m2⟩ := hw.hb b _ n hes hn
        have hgo : (getObj n).run P w = .ok (.map (es.map (entryVal e)).toArray ck) w := by simp [getObj, Sem.run, m1]
        refine fin2 ?_ (by simp [AV.ok])
        simp [execOp, resolve, invoke, builtin, Builtin.len_, ht0, a2, run_underlying ht, AV.val, goInt, SI.val, hn, hgo]
    · rename_i hcal
      simp only at hcal h
      subst hcal
      split at h <;> first | (cases h; done) | skip
      rename_i x y hxs
      have hargs := toList_two hxs
      subst hargs
      split at h <;> first | (cases h; done) | skip
      rename_i k a k' b hx hy
      cases h
      refine fin2 ?_ (by simp [AV.ok])
      simp [execOp, resolve, invoke, builtin, Builtin.min_, Builtin.min2, (hev x _ hx).2, (hev y _ hy).2, AV.val, SI.val]
    · rename_i hcal
      simp only at hcal h
      subst hcal
      split at h <;> first | (cases h; done) | skip
      rename_i x y hxs
      have hargs := toList_two hxs
      subst hargs
      split at h <;> first | (cases h; done) | skip
      rename_i k a k' b hx hy
      cases h
      refine fin2 ?_ (by simp [AV.ok])
      simp [execOp, resolve, invoke, builtin, Builtin.max_, Builtin.max2, (hev x _ hx).2, (hev y _ hy).2, AV.val, SI.val]

end Go.Sx

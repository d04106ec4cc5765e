/-
  'varvelaw17.TxnStarts' returns true for every input, and leaves its arguments as they were: the law's row. No conditions but those that the row prints.
-/
import Derived.Test.YtmjnogcbdombaaaGreatDoorStP
import Derived.Test.YtmjnogcbdombaaaGreatDoorStF
import Derived.Test.YtmjnogcbdombaaaGreatDoorRows
import Derived.Test.YtmjnogcbdombaaaGreatDoorTie
import Derived.Test.YtmjnogcbdombaaaGreatDoorCards
import Derived.Lib.LaidTab
import Derived.Lib.SmallJoins
import Derived.WideKeyArgs
import Derived.SevenTiedAt
namespace Go.Proofs.YtmjnogcbdombaaaGreatDoor.txnStarts
open Go.ChangeShapes Go.WideShapes Go.ChangeAt Go.RowKit Go.Joins Go.Deep Go.WideElems Go.Sx txnCut
set_option linter.unusedVariables false

theorem own : ownKnob Tryz.prog.godebug = none := by kernel_rfl

theorem outside {fx : List Fact} (hrun : ∀ ty, isTrue (callN (Cs fx) 10000 4 [.int .i64 (.var 0), anyW, anyV] (tabSt ty 30 (tabCells zs))) = true) {w0 : Int}
    (hfx : ∀ val, ∀ f ∈ fx, f.holds (env (fun _ => w0) val)) {cs ds : List Value} (hcs : vcells cs) (hds : vcells ds) {w : World} (hc : ∀ i, i < zs.length → w.cell? ⟨0, i, none⟩ = some (.int .u8 (zs.getD i 0))) :
    Calls Tryz.prog 4 #[.int .i64 w0, .agg cs.toArray, .agg ds.toArray] w fun e w' => e = .returned (.bool true) ∧ Below w.heap.size w w' := by
  obtain ⟨k, m, v2, v3, v4, v5, v6, rfl, c2, c3, c4, c5, c6⟩ := hcs
  obtain ⟨k', m', u2, u3, u4, u5, u6, rfl, d2, d3, d4, d5, d6⟩ := hds
  generalize hval : valOf [.int .i64 k, .int .i64 m, v2, v3, v4, v5, v6] [.int .i64 k', .int .i64 m', u2, u3, u4, u5, u6] = val
  have hoks : AV.oks (env (fun _ => w0) val) [.int .i64 (.var 0), anyW, anyV] := by
    subst hval
    have hi : ∀ z, (Value.int .i64 z).oneCell' = true := fun _ => rfl
    simp [AV.oks, AV.ok, anyW, anyV, env, valOf, c2, c3, c4, c5, c6, d2, d3, d4, d5, d6, hi]
  have h := way_ok hrun (fun _ => w0) val (hfx val) hoks hc
  have hv : (AV.vals (env (fun _ => w0) val) [.int .i64 (.var 0), anyW, anyV]).toArray = #[.int .i64 w0, .agg #[.int .i64 k, .int .i64 m, v2, v3, v4, v5, v6], .agg #[.int .i64 k', .int .i64 m', u2, u3, u4, u5, u6]] := by
    simp only [AV.vals, AV.val, anyW, anyV]
    subst hval
    simp [SI.val, env, valOf]
  rw [hv] at h
  exact h

theorem walk (w0 : Int) {cs ds : List Value} (hcs : vcells cs) (hds : vcells ds) {w : World} (hc : ∀ i, i < zs.length → w.cell? ⟨0, i, none⟩ = some (.int .u8 (zs.getD i 0))) :
    Calls Tryz.prog 4 #[.int .i64 w0, .agg cs.toArray, .agg ds.toArray] w fun e w' => e = .returned (.bool true) ∧ Below w.heap.size w w' := by
  by_cases h0 : w0 < 0
  · exact outside low2 (fun val f hf => by
      simp only [fxLow, List.mem_cons, List.not_mem_nil, or_false] at hf
      subst hf
      simp [Fact.holds, cmpOf, SI.val, env, h0]) hcs hds hc
  by_cases h1 : 16 ≤ w0
  · exact outside high2 (fun val f hf => by
      simp only [fxHigh, List.mem_cons, List.not_mem_nil, or_false] at hf
      rcases hf with rfl | rfl <;> simp [Fact.holds, cmpOf, SI.val, env, h0, h1] <;> omega) hcs hds hc
  have : w0 = 0 ∨ w0 = 1 ∨ w0 = 2 ∨ w0 = 3 ∨ w0 = 4 ∨ w0 = 5 ∨ w0 = 6 ∨ w0 = 7 ∨ w0 = 8 ∨ w0 = 9 ∨ w0 = 10 ∨ w0 = 11 ∨ w0 = 12 ∨ w0 = 13 ∨ w0 = 14 ∨ w0 = 15 := by omega
  rcases this with rfl | rfl | rfl | rfl | rfl | rfl | rfl | rfl | rfl | rfl | rfl | rfl | rfl | rfl | rfl | rfl
  · exact inside at0 hcs hds hc
  · exact inside at1 hcs hds hc
  · exact inside at2 hcs hds hc
  · exact inside at3 hcs hds hc
  · exact inside at4 hcs hds hc
  · exact inside at5 hcs hds hc
  · exact inside at6 hcs hds hc
  · exact inside at7 hcs hds hc
  · exact inside at8 hcs hds hc
  · exact inside at9 hcs hds hc
  · exact inside at10 hcs hds hc
  · exact inside at11 hcs hds hc
  · exact inside at12 hcs hds hc
  · exact inside at13 hcs hds hc
  · exact inside at14 hcs hds hc
  · exact inside at15 hcs hds hc

section
variable {H : Type} {enc : TypeId × Value → H} {P : Program} {w : World} {base : Nat} {spare : Nat → Bool} {held : Bool}
theorem open_agg7 {r : Reach} {b0 : Nat} {t : TypeId} {f0 f1 f2 f3 f4 f5 f6 : Field} {v : Value} {d : DataW H} {p : List MemPlace} (hs : P.underlying t = some (.struct #[f0, f1, f2, f3, f4, f5, f6])) (hone : oneCellFields P #[f0, f1, f2, f3, f4, f5, f6] = true) (hC : P.cellsOf t = 7)
    (hv : Value.okWide P w r b0 t v) (h : DataW.Trod enc P w base spare held t v d p) :
    ∃ (v0 v1 v2 v3 v4 v5 v6 : Value) (y0 y1 y2 y3 y4 y5 y6 : DataW H × List MemPlace) (n : Nat), v = .agg #[v0, v1, v2, v3, v4, v5, v6] ∧ p = y0.2 ++ (y1.2 ++ (y2.2 ++ (y3.2 ++ (y4.2 ++ (y5.2 ++ y6.2))))) ∧
      DataW.trod enc P w base spare held n f0.type [v0] = some y0 ∧ DataW.trod enc P w base spare held n f1.type [v1] = some y1 ∧ DataW.trod enc P w base spare held n f2.type [v2] = some y2 ∧ DataW.trod enc P w base spare held n f3.type [v3] = some y3 ∧
      DataW.trod enc P w base spare held n f4.type [v4] = some y4 ∧ DataW.trod enc P w base spare held n f5.type [v5] = some y5 ∧ DataW.trod enc P w base spare held n f6.type [v6] = some y6 := by
  obtain ⟨cs, rfl, hsz⟩ := okWide_struct hs hv
  obtain ⟨l⟩ := cs
  match l, hsz.trans hC with
  | [c0, c1, c2, c3, c4, c5, c6], _ =>
    obtain ⟨fuel, hf⟩ := h
    obtain ⟨xs, n, _, hx, _, hlen, hg⟩ := DataW.trod_struct hs hf
    obtain ⟨o0, k0⟩ := hone_of hone 0 f0 rfl
    obtain ⟨o1, k1⟩ := hone_of hone 1 f1 rfl
    obtain ⟨o2, k2⟩ := hone_of hone 2 f2 rfl
    obtain ⟨o3, k3⟩ := hone_of hone 3 f3 rfl
    obtain ⟨o4, k4⟩ := hone_of hone 4 f4 rfl
    obtain ⟨o5, k5⟩ := hone_of hone 5 f5 rfl
    obtain ⟨o6, k6⟩ := hone_of hone 6 f6 rfl
    match xs, hlen with
    | [y0, y1, y2, y3, y4, y5, y6], _ =>
      simp only [Prod.mk.injEq] at hx
      exact ⟨c0, c1, c2, c3, c4, c5, c6, y0, y1, y2, y3, y4, y5, y6, n, rfl, by simpa using hx.2, by simpa [Value.cells, o0, k0] using hg 0 f0 rfl, by simpa [Value.cells, o1, k1] using hg 1 f1 rfl, by simpa [Value.cells, o2, k2] using hg 2 f2 rfl,
        by simpa [Value.cells, o3, k3] using hg 3 f3 rfl, by simpa [Value.cells, o4, k4] using hg 4 f4 rfl, by simpa [Value.cells, o5, k5] using hg 5 f5 rfl, by simpa [Value.cells, o6, k6] using hg 6 f6 rfl⟩
end

set_option maxRecDepth 100000 in
/-- A call, opened. -/
theorem open_call {H : Type} {enc : TypeId × Value → H} {W : World} {r : Reach} {b0 base : Nat} {sp : Nat → Bool} {held : Bool} {v : Value} {d : DataW H} {p : List MemPlace}
    (hv : Value.okWide Tryz.prog W r b0 30 v) (h : DataW.Trod enc Tryz.prog W base sp held 30 v d p) : ∃ cs : List Value, v = .agg cs.toArray ∧ vcells cs ∧ p = [] := by
  obtain ⟨v0, v1, v2, v3, v4, v5, v6, y0, y1, y2, y3, y4, y5, y6, n, rfl, rfl, h0, h1, h2, h3, h4, h5, h6⟩ := open_agg7 Tryz.underlying30 (by kernel_rfl) (by kernel_rfl) hv h
  obtain ⟨k, e0, rfl, _⟩ := DataW.trod_int Tryz.underlying3 h0
  obtain ⟨m, e1, rfl, _⟩ := DataW.trod_int Tryz.underlying3 h1
  obtain ⟨s2, e2, rfl, _⟩ := DataW.trod_string Tryz.underlying9 h2
  obtain ⟨s3, e3, rfl, _⟩ := DataW.trod_string Tryz.underlying9 h3
  obtain ⟨s4, e4, rfl, _⟩ := DataW.trod_string Tryz.underlying9 h4
  obtain ⟨k5, e5, rfl, _⟩ := DataW.trod_int Tryz.underlying3 h5
  obtain ⟨k6, e6, rfl, _⟩ := DataW.trod_int Tryz.underlying3 h6
  cases e0; cases e1; cases e2; cases e3; cases e4; cases e5; cases e6
  exact ⟨_, rfl, ⟨k, m, _, _, _, _, _, rfl, rfl, rfl, rfl, rfl, rfl⟩, rfl⟩

/-- What the row's condition gives a walk: the table's cells. -/
theorem tab_of_laid {W : World} (h : laidMetH Tryz.prog [("math/bits.deBruijn64tab", Rows.laid_math_bits_deBruijn64tab)] W) (i : Nat) (hi : i < zs.length) : W.cell? ⟨0, i, none⟩ = some (.int .u8 (zs.getD i 0)) := by
  have h' : laidMet Tryz.prog [("math/bits.deBruijn64tab", Lib.tabData .u8 zs)] W := by
    rw [MakeChecks.laidMetH_plain _ _ _ (by kernel_rfl)] at h
    exact h
  have hT : Lib.TabIs Tryz.prog W "math/bits.deBruijn64tab" .u8 zs :=
    Lib.tabIs_of_head (g := 0) (t := 252) (e := 5) (n := 64) (by kernel_rfl) (by kernel_rfl) (by kernel_rfl) (by kernel_rfl) (by kernel_rfl) (by kernel_rfl) h'
  exact hT.cell (by kernel_rfl) i hi

/-- A world that meets the condition: the settled one, the table's cells laid. -/
noncomputable def laidWorld (os : Os) : World :=
  let w0 := World.holding Tryz.prog os ⟨#[], #[], []⟩
  { w0 with heap := w0.heap.modify 0 fun
      | .cells _ t frozen => .cells (zs.map fun z => Value.int .u8 z).toArray t frozen
      | o => o }
theorem laidWorld_met (os : Os) (args : Array Value) : laidMetH Tryz.prog [("math/bits.deBruijn64tab", Rows.laid_math_bits_deBruijn64tab)] ((laidWorld os).forCall (fun _ _ => 0) ⟨#[], args, []⟩).memory :=
  laidMetH_of_parts3 (fuel := 8) (laidMet_of_run' 8 (by kernel_rfl) (by kernel_rfl)) (by kernel_rfl) (by kernel_rfl)

theorem laidOut : laidOutB Tryz.prog = true := by kernel_rfl
theorem rec30 : Tryz.prog.readableRec 30 = true := by kernel_rfl
theorem row30 : 30 < Tryz.prog.types.size := of_decide_eq_true (by kernel_rfl)

set_option maxRecDepth 100000 in
theorem lifted (os : Os) (started : os.Started) (H : Type) (enc : TypeId × Value → H) :
    ReturnsInHanded {} Tryz.checked os 4 .any (fun w args => (Rows.txnStartsSpec.pre enc Tryz.prog Tryz.f4 [] false w args ∧ laidMetH Tryz.prog [("math/bits.deBruijn64tab", Rows.laid_math_bits_deBruijn64tab)] w) ∧ sizedMet enc Tryz.prog Tryz.f4 (OpenSpec.ofChange Rows.txnStartsSpec) false w args)
      (Rows.txnStartsSpec.post enc Tryz.prog Tryz.f4 false true false false) := by
  refine returnsInHanded_of_change_and (C := Tryz.checked) (X := fun w _ => laidMetH Tryz.prog [("math/bits.deBruijn64tab", Rows.laid_math_bits_deBruijn64tab)] w) (fun _ _ _ hh h => h.of_heap hh) own started (by kernel_rfl) Tryz.func4
    (ChangeSpec.witness_at (enc := enc) (C := Tryz.checked) (os := os) (X := fun w _ => laidMetH Tryz.prog [("math/bits.deBruijn64tab", Rows.laid_math_bits_deBruijn64tab)] w) false (laidWorld os) #[.int .i64 0, .agg #[.int .i64 0, .int .i64 0, .string ⟨#[]⟩, .string ⟨#[]⟩, .string ⟨#[]⟩, .int .i64 0, .int .i64 0], .agg #[.int .i64 0, .int .i64 0, .string ⟨#[]⟩, .string ⟨#[]⟩, .string ⟨#[]⟩, .int .i64 0, .int .i64 0]] 8 rfl (by kernel_rfl) (by kernel_rfl) (by kernel_rfl) (by kernel_rfl) (by kernel_rfl) (laidWorld_met os _)) ?_
  intro W base args ds gs before hval0 hW _ _ hL _
  have hval : ∀ (j : Nat) t v, Tryz.f4.params[j]? = some t → args[j]? = some v → Value.okWide Tryz.prog W .any base t v := hval0
  have hW' := hW
  obtain ⟨p, q, hA0, hV, rfl, hfz, hnd⟩ := hW
  have hA : DataW.TrodAll enc Tryz.prog W 0 (fun _ => true) true Tryz.f4.params.toList args.toList ds p := hA0
  rw [Tryz.params4] at hA hval
  obtain ⟨v0, vs0, d0, ds0, p0, q0, hargs, rfl, rfl, h0, r0⟩ := trodAll_cons hA
  obtain ⟨v1, vs1, d1, ds1, p1, q1, rfl, rfl, rfl, h1, r1⟩ := trodAll_cons r0
  obtain ⟨v2, vs2, d2, ds2, p2, q2, rfl, rfl, rfl, h2, r2⟩ := trodAll_cons r1
  obtain ⟨rfl, rfl, rfl⟩ := trodAll_nil r2
  obtain rfl : args = #[v0, v1, v2] := by cases args; simp_all
  obtain ⟨rfl, rfl⟩ := trodVars_none hV
  obtain ⟨a0, rfl, rfl, rfl, w0⟩ := open_int Tryz.underlying3 (hval 0 3 v0 rfl rfl) h0
  obtain ⟨cs, rfl, hcs, rfl⟩ := open_call (hval 1 30 v1 rfl rfl) h1
  obtain ⟨es, rfl, hes, rfl⟩ := open_call (hval 2 30 v2 rfl rfl) h2
  clear hA0 hval0
  simp only [List.append_nil] at hW'
  have key1 : ∀ (W' : World) (sp : Nat → Bool), DataW.Trod enc Tryz.prog W' 0 sp true 30 (.agg cs.toArray) d1 [] := fun W' sp => Trod_stays laidOut rec30 row30 h1 (by simp) (by simp)
  have key2 : ∀ (W' : World) (sp : Nat → Bool), DataW.Trod enc Tryz.prog W' 0 sp true 30 (.agg es.toArray) d2 [] := fun W' sp => Trod_stays laidOut rec30 row30 h2 (by simp) (by simp)
  refine (walk a0 hcs hes (tab_of_laid hL)).mono fun e W' ⟨he, hg⟩ => ?_
  subst he
  exact ⟨_, rfl, _, _, _, [], [], [], hW', trodAll_cons_mk (shut_bool Tryz.underlying4 _) trodAll_mk0, trodAll_cons_mk (shut_int Tryz.underlying3 w0) (trodAll_cons_mk (key1 _ _) (trodAll_cons_mk (key2 _ _) trodAll_mk0)), rfl, hg.frame _, fun h => by cases h⟩

end Go.Proofs.YtmjnogcbdombaaaGreatDoor.txnStarts

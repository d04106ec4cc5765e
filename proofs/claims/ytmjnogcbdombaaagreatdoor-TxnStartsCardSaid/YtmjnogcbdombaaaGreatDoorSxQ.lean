/- Regions whose order is open: what the plan says. -/
import Derived.Test.YtmjnogcbdombaaaGreatDoorSxP
set_option linter.all false
namespace Go.Sx
set_option linter.unusedSimpArgs false

/-! ### Bits -/
theorem within_spec {a b : Nat} (h : within a b = true) (k : Nat) (hk : Nat.testBit a k = true) : Nat.testBit b k = true := by
  have := Nat.eq_of_beq_eq_true h
  rw [← this, Nat.testBit_or, hk]; rfl

theorem within_of {a b : Nat} (h : ∀ k, Nat.testBit a k = true → Nat.testBit b k = true) : within a b = true := by
  unfold within
  rw [Nat.beq_eq]
  apply Nat.eq_of_testBit_eq
  intro k
  rw [Nat.testBit_or]
  cases ha : Nat.testBit a k
  · rfl
  · rw [h k ha]; rfl

theorem bit_done (d i k : Nat) : Nat.testBit (d ||| (1 <<< i)) k = (Nat.testBit d k || decide (k = i)) := by
  rw [Nat.testBit_or, Nat.one_shiftLeft, Nat.testBit_two_pow]
  congr 1
  simp [eq_comm]

theorem mask_bit (acc : List Nat) (k : Nat) : ∀ (l : List Edge) (m : Nat),
    Nat.testBit (l.foldl (fun m e => bif Region.binds .any e then m ||| (1 <<< e.on) ||| acc.getD e.on 0 else m) m) k =
      (Nat.testBit m k || l.any fun e => Region.binds .any e && (decide (k = e.on) || Nat.testBit (acc.getD e.on 0) k))
  | [], m => by simp
  | e :: l, m => by
    simp only [List.foldl_cons, List.any_cons]
    rw [mask_bit acc k l]
    cases hb : Region.binds .any e
    · simp
    · simp only [cond_true, Bool.true_and]
      rw [Nat.testBit_or, bit_done]
      simp [Bool.or_assoc]

theorem predsGo_spec : ∀ (l : List Oper) (acc : List Nat), (∃ r, predsGo acc l = acc ++ r ∧ r.length = l.length) ∧
    ∀ j o, l[j]? = some o → (predsGo acc l)[acc.length + j]? = some (maskOf ((predsGo acc l).take (acc.length + j)) o)
  | [], acc => ⟨⟨[], by simp [predsGo]⟩, fun j o h => by simp at h⟩
  | o :: l, acc => by
    obtain ⟨⟨r, h1, h2⟩, h3⟩ := predsGo_spec l (acc ++ [maskOf acc o])
    refine ⟨⟨maskOf acc o :: r, by simp [predsGo, h1], by simp [h2]⟩, fun j p hp => ?_⟩
    simp only [predsGo]
    cases j with
    | zero =>
      simp at hp; subst hp
      rw [h1]
      simp
    | succ j =>
      have := h3 j p (by simpa using hp)
      simp only [List.length_append, List.length_singleton] at this
      rw [show acc.length + (j + 1) = acc.length + 1 + j by omega]
      exact this

theorem predsOf_length (l : List Oper) : (predsOf l).length = l.length := by
  obtain ⟨⟨r, h1, h2⟩, _⟩ := predsGo_spec l []
  unfold predsOf; rw [h1]; simp [h2]

theorem predsOf_get {l : List Oper} {j : Nat} {o : Oper} (h : l[j]? = some o) : (predsOf l)[j]? = some (maskOf ((predsOf l).take j) o) := by
  have := (predsGo_spec l []).2 j o h
  simpa [predsOf] using this

/-- An edge's end is among those that come ahead. -/
theorem preds_edge {l : List Oper} {j : Nat} {o : Oper} {p : Nat} (h : l[j]? = some o) (hp : (predsOf l)[j]? = some p) {e : Edge} (he : e ∈ o.after) (hb : Region.binds .any e = true) : Nat.testBit p e.on = true := by
  rw [predsOf_get h] at hp
  cases hp
  unfold maskOf
  rw [mask_bit]
  simp only [Nat.zero_testBit, Bool.false_or, List.any_eq_true]
  exact ⟨e, by simpa using he, by simp [hb]⟩

/-- Whoever comes ahead does so by an edge, or ahead of an edge's end. -/
theorem preds_inv {l : List Oper} {j : Nat} {o : Oper} {p k : Nat} (h : l[j]? = some o) (hp : (predsOf l)[j]? = some p) (hk : Nat.testBit p k = true) :
    ∃ e ∈ o.after, Region.binds .any e = true ∧ (k = e.on ∨ ∃ q, (predsOf l)[e.on]? = some q ∧ Nat.testBit q k = true) := by
  rw [predsOf_get h] at hp
  cases hp
  unfold maskOf at hk
  rw [mask_bit] at hk
  simp only [Nat.zero_testBit, Bool.false_or, List.any_eq_true, Bool.and_eq_true, Bool.or_eq_true, decide_eq_true_eq] at hk
  obtain ⟨e, he, hb, hk⟩ := hk
  refine ⟨e, by simpa using he, hb, hk.imp id fun hk => ?_⟩
  by_cases hlt : e.on < j
  · have hlen : e.on < (predsOf l).length := by rw [predsOf_length]; have := (List.getElem?_eq_some_iff.1 h).1; omega
    refine ⟨(predsOf l)[e.on], List.getElem?_eq_getElem hlen, ?_⟩
    simpa [List.getD, List.getElem?_take, hlt, List.getElem?_eq_getElem hlen] using hk
  · simp [List.getD, List.getElem?_take, hlt] at hk

/-! ### The plan's checks -/
theorem pw_get {l : List Oper} {j : Nat} {p : Nat} {wr : Bool} (h : (pwOf l)[j]? = some (p, wr)) : (predsOf l)[j]? = some p ∧ ∃ o, l[j]? = some o ∧ writes o = wr := by
  unfold pwOf at h
  rw [List.getElem?_zip_eq_some] at h
  obtain ⟨h1, h2⟩ := h
  rw [List.getElem?_map] at h2
  cases ho : l[j]? with
  | none => rw [ho] at h2; cases h2
  | some o => rw [ho] at h2; simp at h2; exact ⟨h1, o, rfl, h2⟩

theorem pw_of {l : List Oper} {j : Nat} {o : Oper} (h : l[j]? = some o) : ∃ p, (pwOf l)[j]? = some (p, writes o) ∧ (predsOf l)[j]? = some p := by
  refine ⟨_, ?_, predsOf_get h⟩
  unfold pwOf
  rw [List.getElem?_zip_eq_some]
  exact ⟨predsOf_get h, by simp [h]⟩

theorem pw_length (l : List Oper) : (pwOf l).length = l.length := by simp [pwOf, predsOf_length]

theorem noneReady_spec : ∀ (pw : List (Nat × Bool)) (done i : Nat), noneReady pw done i = true → ∀ j p, pw[j]? = some (p, false) → Nat.testBit done (i + j) = false → ¬ (within p done = true)
  | [], _, _, _, j, p, h, _ => by simp at h
  | (q, wr) :: l, done, i, hh, j, p, h, hd => by
    simp only [noneReady, Bool.and_eq_true] at hh
    cases j with
    | zero =>
      simp at h
      obtain ⟨rfl, rfl⟩ := h
      simp only [Nat.add_zero] at hd
      rw [hd] at hh
      simpa using hh.1
    | succ j => exact noneReady_spec l done (i + 1) hh.2 j p (by simpa using h) (by rwa [show i + 1 + j = i + (j + 1) by omega])

theorem allWait_spec : ∀ (pw : List (Nat × Bool)) (done i k : Nat), allWait pw done i k = true → ∀ j p, pw[j]? = some (p, true) → Nat.testBit done (k + j) = false → k + j ≠ i → Nat.testBit p i = true
  | [], _, _, _, _, j, p, h, _, _ => by simp at h
  | (q, wr) :: l, done, i, k, hh, j, p, h, hd, hne => by
    simp only [allWait, Bool.and_eq_true] at hh
    cases j with
    | zero =>
      simp at h
      obtain ⟨rfl, rfl⟩ := h
      simp only [Nat.add_zero] at hd hne
      rw [hd] at hh
      have hb : Nat.beq k i = false := by rw [Bool.eq_false_iff]; intro q; exact hne (Nat.eq_of_beq_eq_true q)
      rw [hb] at hh
      simpa using hh.1
    | succ j => exact allWait_spec l done i (k + 1) hh.2 j p (by simpa using h) (by rwa [show k + 1 + j = k + (j + 1) by omega]) (by omega)

theorem okOrder_nil {pw : List (Nat × Bool)} {done : Nat} (h : okOrder pw [] done = true) (k : Nat) (hk : k < pw.length) : Nat.testBit done k = true := by
  simp only [okOrder] at h
  rw [Nat.eq_of_beq_eq_true h, Nat.testBit_two_pow_sub_one]
  simpa using hk

structure Next1 (pw : List (Nat × Bool)) (i : Nat) (r : List Nat) (done p : Nat) (wr : Bool) : Prop where
  at_ : pw[i]? = some (p, wr)
  new : Nat.testBit done i = false
  ahead : within p done = true
  alone : wr = true → noneReady pw done 0 = true ∧ allWait pw done i 0 = true
  rest : okOrder pw r (done ||| (1 <<< i)) = true

theorem okOrder_cons {pw : List (Nat × Bool)} {i : Nat} {r : List Nat} {done : Nat} (h : okOrder pw (i :: r) done = true) : ∃ p wr, Next1 pw i r done p wr := by
  simp only [okOrder] at h
  split at h
  · cases h
  · rename_i p wr hp
    simp only [Bool.and_eq_true, Bool.not_eq_true', Bool.or_eq_true] at h
    exact ⟨p, wr, hp, h.1.1.1, h.1.1.2, fun hw => by
      rcases h.1.2 with q | q
      · rw [hw] at q; cases q
      · exact q, h.2⟩

theorem distinct_spec : ∀ (l : List Oper), distinct l = true → ∀ (i j : Nat) (o q : Oper) (d : Tmp), l[i]? = some o → l[j]? = some q → o.dst = some d → q.dst = some d → i = j
  | [], _, i, j, o, q, d, h, _, _, _ => by simp at h
  | x :: l, hh, i, j, o, q, d, ho, hq, h1, h2 => by
    simp only [distinct, Bool.and_eq_true] at hh
    have key : ∀ (y : Oper) (m : Nat), l[m]? = some y → x.dst = some d → y.dst = some d → False := by
      intro y m hm e1 e2
      have h3 := hh.1
      rw [e1] at h3
      simp only [List.all_eq_true] at h3
      have := h3 y (List.mem_of_getElem? hm)
      rw [e2] at this
      simp at this
    cases i with
    | zero =>
      cases j with
      | zero => rfl
      | succ j =>
        simp at ho; subst ho
        exact (key q j (by simpa using hq) h1 h2).elim
    | succ i =>
      cases j with
      | zero =>
        simp at hq; subst hq
        exact (key o i (by simpa using ho) h2 h1).elim
      | succ j => rw [distinct_spec l hh.2 i j o q d (by simpa using ho) (by simpa using hq) h1 h2]

theorem looksOk_spec : ∀ (l : List Oper) (looks : List Tmp) (p i : Nat), looksOk l looks p i = true → ∀ (j : Nat) (o : Oper) (d : Tmp), l[j]? = some o → o.dst = some d → d ∈ looks → Nat.testBit p (i + j) = true
  | [], _, _, _, _, j, o, d, h, _, _ => by simp at h
  | x :: l, looks, p, i, hh, j, o, d, ho, hd, hm => by
    simp only [looksOk, Bool.and_eq_true] at hh
    cases j with
    | zero =>
      simp at ho; subst ho
      have h1 := hh.1
      rw [hd] at h1
      simp only [Bool.or_eq_true, Bool.not_eq_true'] at h1
      rcases h1 with q | q
      · rw [List.contains_iff_mem.2 hm] at q; cases q
      · simpa using q
    | succ j =>
      have := looksOk_spec l looks p (i + 1) hh.2 j o d (by simpa using ho) hd hm
      rwa [show i + (j + 1) = i + 1 + j by omega]

theorem allLooks_spec {ops : Array Oper} {all : List Oper} : ∀ (l : List Oper) (ps : List Nat), allLooks ops all l ps = true → ∀ (j : Nat) (o : Oper) (p : Nat), l[j]? = some o → ps[j]? = some p → looksOk all (o.looksAt ops) p 0 = true
  | [], _, _, j, o, p, h, _ => by simp at h
  | x :: l, [], hh, j, o, p, _, h => by simp at h
  | x :: l, q :: ps, hh, j, o, p, ho, hp => by
    simp only [allLooks, Bool.and_eq_true] at hh
    cases j with
    | zero =>
      simp at ho hp; subst ho; subst hp; exact hh.1
    | succ j => exact allLooks_spec l ps hh.2 j o p (by simpa using ho) (by simpa using hp)

theorem aheadOk_spec : ∀ (ps : List Nat) (i : Nat), aheadOk ps i = true → ∀ j p, ps[j]? = some p → p < 2 ^ (i + j)
  | [], _, _, j, p, h => by simp at h
  | q :: ps, i, hh, j, p, hp => by
    simp only [aheadOk, Bool.and_eq_true] at hh
    cases j with
    | zero => simp at hp; subst hp; exact Nat.le_of_ble_eq_true hh.1
    | succ j =>
      have := aheadOk_spec ps (i + 1) hh.2 j p (by simpa using hp)
      rwa [show i + (j + 1) = i + 1 + j by omega]

/-! ### The frame behind a step -/
theorem put_get {f f' : Fm} {dst : Option Tmp} {r : Option AV} (h : f.put dst r = some f') (t : Nat) : f'.tm.get t = if dst = some t then r else f.tm.get t := by
  unfold Fm.put at h
  split at h
  · cases h; simp
  · rename_i d
    obtain ⟨hd, rfl⟩ := bif_some h
    rw [Bool.and_eq_true] at hd
    have hlt : d < 1048576 := Nat.le_of_ble_eq_true hd.2
    simp only
    have h40 : (2 : Nat) ^ 40 = 1099511627776 := by decide
    have hlt' : d + 1 < 2 ^ 40 := by rw [h40]; exact Nat.lt_of_le_of_lt hlt (by decide)
    rw [Tr.get_set_eq 40 f.tm d r t hlt']
    by_cases htd : t = d
    · subst htd; simp
    · rw [if_neg htd, if_neg (by simpa using fun q => htd q.symm)]

theorem put_n {f f' : Fm} {dst : Option Tmp} {r : Option AV} (h : f.put dst r = some f') : f'.n = f.n := by
  unfold Fm.put at h
  split at h
  · cases h; rfl
  · obtain ⟨_, rfl⟩ := bif_some h; rfl

theorem put_ev {C : Cx} {f f' : Fm} {dst : Option Tmp} {r : Option AV} (h : f.put dst r = some f') {x : Operand} (hx : ∀ d, dst = some d → x ≠ .tmp d) : evF C f' x = evF C f x := by
  cases x with
  | tmp t =>
    simp only [evF, put_get h]
    rw [if_neg (fun q => hx t q rfl)]
  | _ => rfl

end Go.Sx

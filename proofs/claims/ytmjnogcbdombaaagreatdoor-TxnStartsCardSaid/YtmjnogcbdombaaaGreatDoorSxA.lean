/- Symbolic values, heaps and their reading in a world: plain definitions and lemmas, no program in sight. -/
import Derived.WalkKit
set_option linter.all false
namespace Go.Sx

/-! ### Tries -/
inductive Tr (α : Type) where
  | e
  | n (l : Tr α) (v : Option α) (r : Tr α)

namespace Tr
variable {α : Type}

def get : Tr α → Nat → Option α
  | .e, _ => none
  | .n l v r, k => match k with
    | 0 => v
    | k + 1 => bif Nat.beq (k % 2) 0 then l.get (k / 2) else r.get (k / 2)

/-- Lays a value; out of fuel the trie forgets everything (which is sound). -/
def set : Nat → Tr α → Nat → Option α → Tr α
  | 0, _, _, _ => .e
  | f + 1, t, k, x =>
    match t with
    | .e => match k with
      | 0 => .n .e x .e
      | k + 1 => bif Nat.beq (k % 2) 0 then .n (set f .e (k / 2) x) none .e else .n .e none (set f .e (k / 2) x)
    | .n l v r => match k with
      | 0 => .n l x r
      | k + 1 => bif Nat.beq (k % 2) 0 then .n (set f l (k / 2) x) v r else .n l v (set f r (k / 2) x)

theorem get_e (k : Nat) : (Tr.e : Tr α).get k = none := rfl

theorem get_set (f : Nat) : ∀ (t : Tr α) (k : Nat) (x : Option α) (i : Nat) (u : α), (set f t k x).get i = some u →
    (i = k ∧ x = some u) ∨ (i ≠ k ∧ t.get i = some u) := by
  induction f with
  | zero => intro t k x i u h; simp [set, get] at h
  | succ f ih =>
    intro t k x i u h
    cases t with
    | e =>
      cases k with
      | zero =>
        cases i with
        | zero => simp [set, get] at h; exact .inl ⟨rfl, h⟩
        | succ i => simp [set, get] at h
      | succ k =>
        simp only [set] at h
        cases hk : Nat.beq (k % 2) 0
        · simp only [hk, cond_false] at h
          cases i with
          | zero => simp [get] at h
          | succ i =>
            simp only [get] at h
            cases hi : Nat.beq (i % 2) 0
            · simp only [hi, cond_false] at h
              rcases ih _ _ _ _ _ h with ⟨e, hx⟩ | ⟨_, hx⟩
              · left
                have a1 : ¬ k % 2 = 0 := fun q => by rw [q] at hk; simp at hk
                have a2 : ¬ i % 2 = 0 := fun q => by rw [q] at hi; simp at hi
                exact ⟨by omega, hx⟩
              · simp [get] at hx
            · simp [hi] at h
        · simp only [hk, cond_true] at h
          cases i with
          | zero => simp [get] at h
          | succ i =>
            simp only [get] at h
            cases hi : Nat.beq (i % 2) 0
            · simp [hi] at h
            · simp only [hi, cond_true] at h
              rcases ih _ _ _ _ _ h with ⟨e, hx⟩ | ⟨_, hx⟩
              · left
                have a1 := Nat.eq_of_beq_eq_true hk
                have a2 := Nat.eq_of_beq_eq_true hi
                exact ⟨by omega, hx⟩
              · simp [get] at hx
    | n l v r =>
      cases k with
      | zero =>
        cases i with
        | zero => simp [set, get] at h; exact .inl ⟨rfl, h⟩
        | succ i => simp only [set, get] at h; exact .inr ⟨by omega, by simpa only [get] using h⟩
      | succ k =>
        simp only [set] at h
        cases hk : Nat.beq (k % 2) 0
        · simp only [hk, cond_false] at h
          cases i with
          | zero => simp only [get] at h; exact .inr ⟨by omega, by simpa only [get] using h⟩
          | succ i =>
            simp only [get] at h
            cases hi : Nat.beq (i % 2) 0
            · simp only [hi, cond_false] at h
              have a1 : ¬ k % 2 = 0 := fun q => by rw [q] at hk; simp at hk
              have a2 : ¬ i % 2 = 0 := fun q => by rw [q] at hi; simp at hi
              rcases ih _ _ _ _ _ h with ⟨e, hx⟩ | ⟨e, hx⟩
              · exact .inl ⟨by omega, hx⟩
              · exact .inr ⟨by omega, by simpa only [get, hi, cond_false] using hx⟩
            · simp only [hi, cond_true] at h
              refine .inr ⟨?_, by simpa only [get, hi, cond_true] using h⟩
              rintro q
              have : i = k := by omega
              subst this
              rw [hk] at hi; cases hi
        · simp only [hk, cond_true] at h
          cases i with
          | zero => simp only [get] at h; exact .inr ⟨by omega, by simpa only [get] using h⟩
          | succ i =>
            simp only [get] at h
            cases hi : Nat.beq (i % 2) 0
            · simp only [hi, cond_false] at h
              refine .inr ⟨?_, by simpa only [get, hi, cond_false] using h⟩
              rintro q
              have : i = k := by omega
              subst this
              rw [hk] at hi; cases hi
            · simp only [hi, cond_true] at h
              have a1 := Nat.eq_of_beq_eq_true hk
              have a2 := Nat.eq_of_beq_eq_true hi
              rcases ih _ _ _ _ _ h with ⟨e, hx⟩ | ⟨e, hx⟩
              · exact .inl ⟨by omega, hx⟩
              · exact .inr ⟨by omega, by simpa only [get, hi, cond_true] using hx⟩

theorem get_set_eq (f : Nat) : ∀ (t : Tr α) (k : Nat) (x : Option α) (i : Nat), k + 1 < 2 ^ f → (set f t k x).get i = if i = k then x else t.get i := by
  induction f with
  | zero => intro t k x i h; simp at h
  | succ f ih =>
    intro t k x i h
    cases k with
    | zero => cases t <;> cases i <;> simp [set, get]
    | succ k =>
      have hk : k / 2 + 1 < 2 ^ f := by rw [Nat.pow_succ] at h; omega
      cases t with
      | e =>
        cases i with
        | zero => simp only [set]; cases hb : Nat.beq (k % 2) 0 <;> simp [get]
        | succ i =>
          simp only [set]
          cases hb : Nat.beq (k % 2) 0 <;> simp only [cond_true, cond_false, get] <;> cases hi : Nat.beq (i % 2) 0 <;> simp only [cond_true, cond_false, get, ih _ _ _ _ hk]
          · have a1 : ¬ k % 2 = 0 := fun q => by rw [q] at hb; simp at hb
            have a2 : ¬ i % 2 = 0 := fun q => by rw [q] at hi; simp at hi
            by_cases hik : i = k
            · subst hik; simp
            · rw [if_neg (by omega), if_neg (by omega)]
          · have a1 : ¬ k % 2 = 0 := fun q => by rw [q] at hb; simp at hb
            have a2 := Nat.eq_of_beq_eq_true hi
            rw [if_neg (by omega)]
          · have a1 := Nat.eq_of_beq_eq_true hb
            have a2 : ¬ i % 2 = 0 := fun q => by rw [q] at hi; simp at hi
            rw [if_neg (by omega)]
          · have a1 := Nat.eq_of_beq_eq_true hb
            have a2 := Nat.eq_of_beq_eq_true hi
            by_cases hik : i = k
            · subst hik; simp
            · rw [if_neg (by omega), if_neg (by omega)]
      | n l v r =>
        cases i with
        | zero => simp only [set]; cases hb : Nat.beq (k % 2) 0 <;> simp [get]
        | succ i =>
          simp only [set]
          cases hb : Nat.beq (k % 2) 0 <;> simp only [cond_true, cond_false, get] <;> cases hi : Nat.beq (i % 2) 0 <;> simp only [cond_true, cond_false, get, ih _ _ _ _ hk]
          · have a1 : ¬ k % 2 = 0 := fun q => by rw [q] at hb; simp at hb
            have a2 : ¬ i % 2 = 0 := fun q => by rw [q] at hi; simp at hi
            by_cases hik : i = k
            · subst hik; simp
            · rw [if_neg (by omega), if_neg (by omega)]
          · have a1 : ¬ k % 2 = 0 := fun q => by rw [q] at hb; simp at hb
            have a2 := Nat.eq_of_beq_eq_true hi
            rw [if_neg (by omega)]
          · have a1 := Nat.eq_of_beq_eq_true hb
            have a2 : ¬ i % 2 = 0 := fun q => by rw [q] at hi; simp at hi
            rw [if_neg (by omega)]
          · have a1 := Nat.eq_of_beq_eq_true hb
            have a2 := Nat.eq_of_beq_eq_true hi
            by_cases hik : i = k
            · subst hik; simp
            · rw [if_neg (by omega), if_neg (by omega)]
end Tr

/-! ### Values -/
/-- A whole number: written out, or a variable. -/
inductive SI where
  | lit (n : Int)
  | var (i : Nat)

/-- A slice's capacity: written out; or what is left of a block's own capacity behind k elements. -/
inductive SC where
  | lit (n : Nat)
  | var (b k : Nat)

inductive AV where
  | bool (b : Bool)
  | int (k : IntKind) (n : SI)
  | str (s : List UInt8)
  | ptr (b o : Nat)
  | nilp
  | slice (b o len : Nat) (cap : SC)
  | nilSlice
  | map (b : Nat)
  | nilMap
  | fn (f : Fn) (first captured : List AV)
  | yield (b : Nat)
  | nilFn
  | iface (t : Nat) (v : AV)
  | nilIface
  | agg (l : List AV)
  | tup (l : List AV)
  | any (i : Nat)      -- one cell, of which nothing is known

structure Env where
  blk : Nat → Option Nat
  cap : Nat → Option Nat
  int : Nat → Int
  val : Nat → Value

def SI.val (e : Env) : SI → Int
  | .lit n => n
  | .var i => e.int i

def SC.val (e : Env) : SC → Nat
  | .lit n => n
  | .var b k => (e.cap b).getD 0 - k

mutual
def AV.val (e : Env) : AV → Value
  | .bool b => .bool b
  | .int k n => .int k (n.val e)
  | .str s => .string ⟨s.toArray⟩
  | .ptr b o => .pointer (some ⟨(e.blk b).getD 0, o, none⟩)
  | .nilp => .pointer none
  | .slice b o len c => .slice (some ⟨(e.blk b).getD 0, o, none⟩) len (c.val e)
  | .nilSlice => .slice none 0 0
  | .map b => .map (some ((e.blk b).getD 0))
  | .nilMap => .map none
  | .fn f first captured => .func f (AV.vals e first).toArray (AV.vals e captured).toArray
  | .yield b => .func (.yield ((e.blk b).getD 0)) #[] #[]
  | .nilFn => .nilFunc
  | .iface t v => .iface t (v.val e)
  | .nilIface => .nilIface
  | .agg l => .agg (AV.vals e l).toArray
  | .tup l => .tuple (AV.vals e l).toArray
  | .any i => e.val i
def AV.vals (e : Env) : List AV → List Value
  | [] => []
  | a :: l => a.val e :: AV.vals e l
end

theorem AV.vals_eq (e : Env) : ∀ l : List AV, AV.vals e l = l.map (·.val e)
  | [] => by simp [AV.vals]
  | a :: l => by simp [AV.vals, AV.vals_eq e l]

def SC.ok (e : Env) : SC → Prop
  | .lit _ => True
  | .var b _ => (e.cap b).isSome = true ∧ (e.blk b).isSome = true

mutual
/-- All that a value names is there. -/
def AV.ok (e : Env) : AV → Prop
  | .ptr b _ | .map b | .yield b => (e.blk b).isSome = true
  | .slice b _ _ c => (e.blk b).isSome = true ∧ c.ok e
  | .fn _ first captured => AV.oks e first ∧ AV.oks e captured
  | .iface _ v => v.ok e
  | .agg l | .tup l => AV.oks e l
  | .any i => (e.val i).oneCell' = true
  | _ => True
def AV.oks (e : Env) : List AV → Prop
  | [] => True
  | a :: l => a.ok e ∧ AV.oks e l
end

theorem AV.oks_iff (e : Env) : ∀ l : List AV, AV.oks e l ↔ ∀ v ∈ l, v.ok e
  | [] => by simp [AV.oks]
  | a :: l => by simp [AV.oks, AV.oks_iff e l]

/-- e' knows all that e knows. -/
structure Env.le (e e' : Env) : Prop where
  blk : ∀ b n, e.blk b = some n → e'.blk b = some n
  cap : ∀ b n, e.cap b = some n → e'.cap b = some n
  int : e'.int = e.int
  val : e'.val = e.val

theorem Env.le.refl (e : Env) : e.le e := ⟨fun _ _ h => h, fun _ _ h => h, rfl, rfl⟩
theorem Env.le.trans {a b c : Env} (h : a.le b) (k : b.le c) : a.le c :=
  ⟨fun _ _ q => k.blk _ _ (h.blk _ _ q), fun _ _ q => k.cap _ _ (h.cap _ _ q), k.int.trans h.int, k.val.trans h.val⟩

theorem Env.le.blk_eq {e e' : Env} (h : e.le e') {b : Nat} (hb : (e.blk b).isSome = true) : e'.blk b = e.blk b := by
  obtain ⟨n, hn⟩ := Option.isSome_iff_exists.1 hb
  rw [hn, h.blk b n hn]
theorem Env.le.cap_eq {e e' : Env} (h : e.le e') {b : Nat} (hb : (e.cap b).isSome = true) : e'.cap b = e.cap b := by
  obtain ⟨n, hn⟩ := Option.isSome_iff_exists.1 hb
  rw [hn, h.cap b n hn]

theorem SI.val_le {e e' : Env} (h : e.le e') (n : SI) : n.val e' = n.val e := by cases n <;> simp [SI.val, h.int]
theorem SC.val_le {e e' : Env} (h : e.le e') {c : SC} (hc : c.ok e) : c.val e' = c.val e := by
  cases c with
  | lit n => rfl
  | var b k => simp only [SC.val, h.cap_eq hc.1]
theorem SC.ok_le {e e' : Env} (h : e.le e') {c : SC} (hc : c.ok e) : c.ok e' := by
  cases c with
  | lit n => trivial
  | var b k => simp only [SC.ok] at hc ⊢; rw [h.cap_eq hc.1, h.blk_eq hc.2]; exact hc

mutual
theorem AV.val_le {e e' : Env} (h : e.le e') : ∀ (v : AV), v.ok e → v.val e' = v.val e ∧ v.ok e'
  | .bool _, _ => by simp [AV.val, AV.ok]
  | .int k n, _ => by simp [AV.val, AV.ok, SI.val_le h]
  | .str _, _ => by simp [AV.val, AV.ok]
  | .ptr b o, hv => by simp only [AV.ok] at hv; simp [AV.val, AV.ok, h.blk_eq hv, hv]
  | .nilp, _ => by simp [AV.val, AV.ok]
  | .slice b o len c, hv => by
    simp only [AV.ok] at hv
    simp [AV.val, AV.ok, h.blk_eq hv.1, hv.1, SC.val_le h hv.2, SC.ok_le h hv.2]
  | .nilSlice, _ => by simp [AV.val, AV.ok]
  | .map b, hv => by simp only [AV.ok] at hv; simp [AV.val, AV.ok, h.blk_eq hv, hv]
  | .nilMap, _ => by simp [AV.val, AV.ok]
  | .fn f first captured, hv => by
    simp only [AV.ok] at hv
    have h1 := AV.vals_le h first hv.1
    have h2 := AV.vals_le h captured hv.2
    simp [AV.val, AV.ok, h1.1, h1.2, h2.1, h2.2]
  | .yield b, hv => by simp only [AV.ok] at hv; simp [AV.val, AV.ok, h.blk_eq hv, hv]
  | .nilFn, _ => by simp [AV.val, AV.ok]
  | .iface t v, hv => by
    simp only [AV.ok] at hv
    have h1 := AV.val_le h v hv
    simp [AV.val, AV.ok, h1.1, h1.2]
  | .nilIface, _ => by simp [AV.val, AV.ok]
  | .agg l, hv => by
    simp only [AV.ok] at hv
    have h1 := AV.vals_le h l hv
    simp [AV.val, AV.ok, h1.1, h1.2]
  | .tup l, hv => by
    simp only [AV.ok] at hv
    have h1 := AV.vals_le h l hv
    simp [AV.val, AV.ok, h1.1, h1.2]
  | .any i, hv => by simp only [AV.ok] at hv ⊢; simp [AV.val, h.val, hv]
theorem AV.vals_le {e e' : Env} (h : e.le e') : ∀ (l : List AV), AV.oks e l → AV.vals e' l = AV.vals e l ∧ AV.oks e' l
  | [], _ => by simp [AV.vals, AV.oks]
  | a :: l, hv => by
    simp only [AV.oks] at hv
    have h1 := AV.val_le h a hv.1
    have h2 := AV.vals_le h l hv.2
    simp [AV.vals, AV.oks, h1.1, h1.2, h2.1, h2.2]
end

/-- Is it the value of one cell? -/
def AV.one : AV → Bool
  | .agg _ | .tup _ => false
  | _ => true

theorem AV.one_val {e : Env} {v : AV} (h : v.one = true) (ho : v.ok e) : (v.val e).oneCell' = true := by
  cases v <;> simp_all [AV.one, AV.val, AV.ok, Value.oneCell']

/-- Its cells. -/
def AV.cells : AV → List AV
  | .agg l => l
  | v => [v]

theorem AV.cells_val {e : Env} {v : AV} (ho : v.ok e) : (v.val e).cells.toList = v.cells.map (·.val e) := by
  cases v
  case agg l => simp [AV.val, AV.cells, Value.cells, AV.vals_eq]
  case any i =>
    simp only [AV.ok] at ho
    simp only [AV.val, AV.cells, List.map]
    cases h : e.val i <;> simp_all [Value.cells, Value.oneCell']
  all_goals simp [AV.val, AV.cells, Value.cells]

theorem AV.cells_ok {e : Env} {v : AV} (ho : v.ok e) : ∀ x ∈ v.cells, x.ok e := by
  cases v
  case agg l => simp only [AV.ok] at ho; simpa [AV.cells] using (AV.oks_iff e l).1 ho
  all_goals (simp only [AV.cells, List.mem_singleton]; rintro x rfl; exact ho)

end Go.Sx

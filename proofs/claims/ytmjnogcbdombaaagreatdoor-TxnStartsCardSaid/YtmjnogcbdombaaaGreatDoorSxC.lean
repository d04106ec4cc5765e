/- The operations that only read: their symbolic counterparts, and that these are sound. -/
import Derived.Test.YtmjnogcbdombaaaGreatDoorSxB
set_option linter.all false
namespace Go.Sx

/-! ### Constants -/
mutual
def lift : Value → Option AV
  | .bool b => some (.bool b)
  | .int k n => some (.int k (.lit n))
  | .string s => some (.str s.data.toList)
  | .pointer none => some .nilp
  | .slice none 0 0 => some .nilSlice
  | .map none => some .nilMap
  | .nilFunc => some .nilFn
  | .nilIface => some .nilIface
  | .iface t v => (lift v).map (.iface t)
  | .agg ⟨l⟩ => (lifts l).map .agg
  | .tuple ⟨l⟩ => (lifts l).map .tup
  | _ => none
def lifts : List Value → Option (List AV)
  | [] => some []
  | v :: l => match lift v with
    | none => none
    | some a => match lifts l with
      | none => none
      | some r => some (a :: r)
end

mutual
theorem lift_ok (e : Env) : ∀ (v : Value) (a : AV), lift v = some a → a.ok e ∧ a.val e = v
  | .bool b, a, h => by simp [lift] at h; subst h; simp [AV.ok, AV.val]
  | .int k n, a, h => by simp [lift] at h; subst h; simp [AV.ok, AV.val, SI.val]
  | .string s, a, h => by simp [lift] at h; subst h; simp [AV.ok, AV.val]
  | .pointer none, a, h => by simp [lift] at h; subst h; simp [AV.ok, AV.val]
  | .pointer (some _), a, h => by simp [lift] at h
  | .slice none 0 0, a, h => by simp [lift] at h; subst h; simp [AV.ok, AV.val]
  | .slice none 0 (_ + 1), a, h => by simp [lift] at h
  | .slice none (_ + 1) _, a, h => by simp [lift] at h
  | .slice (some _) _ _, a, h => by simp [lift] at h
  | .map none, a, h => by simp [lift] at h; subst h; simp [AV.ok, AV.val]
  | .map (some _), a, h => by simp [lift] at h
  | .nilFunc, a, h => by simp [lift] at h; subst h; simp [AV.ok, AV.val]
  | .nilIface, a, h => by simp [lift] at h; subst h; simp [AV.ok, AV.val]
  | .iface t v, a, h => by
    simp only [lift, Option.map_eq_some_iff] at h
    obtain ⟨x, hx, rfl⟩ := h
    have := lift_ok e v x hx
    simp [AV.ok, AV.val, this.1, this.2]
  | .agg ⟨l⟩, a, h => by
    simp only [lift, Option.map_eq_some_iff] at h
    obtain ⟨x, hx, rfl⟩ := h
    have := lifts_ok e l x hx
    simp [AV.ok, AV.val, this.1, this.2]
  | .tuple ⟨l⟩, a, h => by
    simp only [lift, Option.map_eq_some_iff] at h
    obtain ⟨x, hx, rfl⟩ := h
    have := lifts_ok e l x hx
    simp [AV.ok, AV.val, this.1, this.2]
  | .float _ _, a, h => by simp [lift] at h
  | .complex _ _ _, a, h => by simp [lift] at h
  | .chan _, a, h => by simp [lift] at h
  | .func _ _ _, a, h => by simp [lift] at h
theorem lifts_ok (e : Env) : ∀ (l : List Value) (r : List AV), lifts l = some r → AV.oks e r ∧ AV.vals e r = l
  | [], r, h => by simp [lifts] at h; subst h; simp [AV.oks, AV.vals]
  | v :: l, r, h => by
    simp only [lifts] at h
    split at h
    · cases h
    · rename_i a ha
      split at h
      · cases h
      · rename_i r' hr
        cases h
        have h1 := lift_ok e v a ha
        have h2 := lifts_ok e l r' hr
        simp [AV.oks, AV.vals, h1.1, h1.2, h2.1, h2.2]
end

/-! ### Whole numbers -/
def shiftA (op : BinOp) (k : IntKind) (a b : Int) : Option AV :=
  match b with
  | .ofNat m =>
    match op with
    | .shl => some (.int k (.lit (k.wrap (a * 2 ^ (min m k.bits)))))
    | .shr => some (.int k (.lit (a.fdiv (2 ^ (min m k.bits)))))
    | _ => none
  | .negSucc _ => none

def bitsA (op : BinOp) (k : IntKind) (a b : Int) : Option Int :=
  let x := BitVec.ofInt k.bits a
  let y := BitVec.ofInt k.bits b
  match op with
  | .and => some (k.wrap (x &&& y).toNat)
  | .or => some (k.wrap (x ||| y).toNat)
  | .xor => some (k.wrap (x ^^^ y).toNat)
  | .andNot => some (k.wrap (x &&& ~~~y).toNat)
  | _ => none

def intA (op : BinOp) (k : IntKind) (a b : Int) : Option AV :=
  match op with
  | .add => some (.int k (.lit (k.wrap (a + b))))
  | .sub => some (.int k (.lit (k.wrap (a - b))))
  | .mul => some (.int k (.lit (k.wrap (a * b))))
  | .quo => if b = 0 then none else some (.int k (.lit (k.wrap (a.tdiv b))))
  | .rem => if b = 0 then none else some (.int k (.lit (a.tmod b)))
  | .and | .or | .xor | .andNot => match bitsA op k a b with
    | some n => some (.int k (.lit n))
    | none => none
  | .eql => some (.bool (a == b))
  | .neq => some (.bool (a != b))
  | .lss => some (.bool (decide (a < b)))
  | .leq => some (.bool (decide (a ≤ b)))
  | .gtr => some (.bool (decide (a > b)))
  | .geq => some (.bool (decide (a ≥ b)))
  | .shl | .shr => none

theorem shiftA_ok {op : BinOp} {k : IntKind} {a b : Int} {v : AV} (h : shiftA op k a b = some v) (P : Program) (e : Env) (w : World) (t : TypeId) (yk : IntKind) :
    (binOp op t (.int k a) (.int yk b)).run P w = .ok (v.val e) w ∧ v.ok e := by
  unfold shiftA at h
  split at h
  · rename_i m
    have hm : ¬ (Int.ofNat m < 0) := by simp
    split at h <;> first | (cases h; done) | skip
    · cases h; simp [binOp, Op.shift, AV.val, SI.val, AV.ok]; intro q; omega
    · cases h; simp [binOp, Op.shift, AV.val, SI.val, AV.ok]; intro q; omega
  · cases h

theorem intA_ok {op : BinOp} {k : IntKind} {a b : Int} {v : AV} (h : intA op k a b = some v) (P : Program) (e : Env) (w : World) (t : TypeId) :
    (binOp op t (.int k a) (.int k b)).run P w = .ok (v.val e) w ∧ v.ok e := by
  cases op <;> simp only [intA, bitsA] at h <;> first | (cases h; done) | skip
  case quo => split at h <;> first | (cases h; done) | skip
              cases h; simp [binOp, Op.intDiv, AV.val, SI.val, AV.ok, *]
  case rem => split at h <;> first | (cases h; done) | skip
              cases h; simp [binOp, Op.intDiv, AV.val, SI.val, AV.ok, *]
  all_goals (cases h; simp [binOp, Op.intArith, Op.intBits, Op.intCmp, AV.val, SI.val, AV.ok])

/-! ### What is known of whole numbers that are not written out -/
def opCode : BinOp → Nat
  | .eql => 1 | .neq => 2 | .lss => 3 | .leq => 4 | .gtr => 5 | .geq => 6 | _ => 0

def cmpOf (c : Nat) (a b : Int) : Bool :=
  match c with
  | 1 => a == b | 2 => a != b | 3 => decide (a < b) | 4 => decide (a ≤ b) | 5 => decide (a > b) | _ => decide (a ≥ b)

def SI.same : SI → SI → Bool
  | .lit a, .lit b => decide (a = b)
  | .var i, .var j => Nat.beq i j
  | _, _ => false

theorem SI.same_eq {x y : SI} (h : x.same y = true) : x = y := by
  cases x <;> cases y <;> simp_all [SI.same]

/-- A comparison (its code), of what with what, and what it says. -/
structure Fact where
  code : Nat
  x : SI
  y : SI
  says : Bool

def Fact.holds (e : Env) (f : Fact) : Prop := cmpOf f.code (f.x.val e) (f.y.val e) = f.says

def findFact (c : Nat) (x y : SI) : List Fact → Option Bool
  | [] => none
  | f :: l => bif Nat.beq f.code c && f.x.same x && f.y.same y then some f.says else findFact c x y l

theorem findFact_ok {e : Env} {c : Nat} {x y : SI} : ∀ {l : List Fact} {b : Bool}, findFact c x y l = some b → (∀ f ∈ l, f.holds e) → cmpOf c (x.val e) (y.val e) = b
  | [], b, h, _ => by cases h
  | f :: l, b, h, hl => by
    simp only [findFact] at h
    cases hc : (Nat.beq f.code c && f.x.same x && f.y.same y)
    · rw [hc] at h; exact findFact_ok h (fun g hg => hl g (List.mem_cons_of_mem _ hg))
    · rw [hc] at h
      simp only [cond_true, Option.some.injEq] at h
      simp only [Bool.and_eq_true] at hc
      have h1 := Nat.eq_of_beq_eq_true hc.1.1
      have h2 := SI.same_eq hc.1.2
      have h3 := SI.same_eq hc.2
      have := hl f (List.mem_cons_self ..)
      unfold Fact.holds at this
      rw [h1, h2, h3] at this
      rw [this]; exact h

/-! ### Texts -/
def strA (op : BinOp) (a b : List UInt8) : Option AV :=
  match op with
  | .add => bif Nat.ble (a.length + b.length) 4611686018427387904 then some (.str (a ++ b)) else none
  | .eql => some (.bool (a == b))
  | .neq => some (.bool !(a == b))
  | .lss => some (.bool (Op.bytesLess a b))
  | .leq => some (.bool (Op.bytesLess a b || a == b))
  | .gtr => some (.bool !(Op.bytesLess a b || a == b))
  | .geq => some (.bool !(Op.bytesLess a b))
  | _ => none

theorem strA_ok {op : BinOp} {a b : List UInt8} {v : AV} (h : strA op a b = some v) (P : Program) (e : Env) (w : World) (t : TypeId) :
    (binOp op t (.string ⟨a.toArray⟩) (.string ⟨b.toArray⟩)).run P w = .ok (v.val e) w ∧ v.ok e := by
  cases op <;> simp only [strA] at h <;> first | (cases h; done) | skip
  case add =>
    cases hc : Nat.ble (a.length + b.length) 4611686018427387904
    · rw [hc] at h; cases h
    · rw [hc] at h
      simp only [cond_true, Option.some.injEq] at h
      subst h
      have hle := Nat.le_of_ble_eq_true hc
      rw [binOp_string_add, run_string_add_sum]
      · refine ⟨?_, by simp [AV.ok]⟩
        simp only [AV.val]
        congr 2
      · simp only [ByteArray.size, List.size_toArray]; omega
  all_goals (cases h; simp [binOp, Op.stringOp, AV.val, AV.ok])

/-! ### Are two values the same? -/
def eqA (d : TypeDesc) (xc : Bool) : AV → AV → Option Bool
  | .bool a, .bool b => match d with | .bool => some (a == b) | _ => none
  | .nilp, .nilp => match d with | .pointer _ => some true | _ => none
  | .ptr .., .nilp | .nilp, .ptr .. => match d with | .pointer _ => some false | _ => none
  | .nilFn, .nilFn => match d with | .func .. => some true | _ => none
  | .fn .., .nilFn | .nilFn, .fn .. => match d with | .func .. => some false | _ => none
  | .nilIface, .nilIface => match d with | .interface _ => bif xc then some true else none | _ => none
  | .iface .., .nilIface | .nilIface, .iface .. => match d with | .interface _ => some false | _ => none
  | .nilSlice, .nilSlice => match d with | .slice _ => some true | _ => none
  | .slice .., .nilSlice | .nilSlice, .slice .. => match d with | .slice _ => some false | _ => none
  | .nilMap, .nilMap => match d with | .map .. => some true | _ => none
  | .map _, .nilMap | .nilMap, .map _ => match d with | .map .. => some false | _ => none
  | _, _ => none

theorem eqA_ok {d : TypeDesc} {xc : Bool} {x y : AV} {b : Bool} (h : eqA d xc x y = some b) (P : Program) (e : Env) (w : World) (t : TypeId) (hd : P.underlying t = some d) (n : Nat) :
    (Op.equalIn (n + 1) t (x.val e) (y.val e)).run P w = .ok b w := by
  unfold eqA at h
  split at h <;> first | (cases h; done) | (split at h <;> first | (cases h; done) | skip)
  all_goals first
    | (simp only [Option.some.injEq] at h; subst h; simp [Op.equalIn, run_underlying hd, AV.val]; done)
    | (cases xc <;> simp at h; subst h; simp [Op.equalIn, run_underlying hd, AV.val])

end Go.Sx

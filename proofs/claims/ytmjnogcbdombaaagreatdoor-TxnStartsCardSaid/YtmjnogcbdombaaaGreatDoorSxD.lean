/- The operations that only read, whole. -/
import Derived.Test.YtmjnogcbdombaaaGreatDoorSxC
set_option linter.all false
namespace Go.Sx

def isAggD : TypeDesc → Bool
  | .struct _ | .array _ _ => true
  | _ => false

theorem run_isAgg {P : Program} {t : TypeId} {d : TypeDesc} (h : P.underlying t = some d) (w : World) : (isAgg t).run P w = .ok (isAggD d) w := by
  simp only [isAgg, Sem.run_bind, run_underlying h, Result.andThen_ok]
  cases d <;> rfl
theorem run_info {P : Program} {t : TypeId} {i : TypeInfo} (h : P.info? t = some i) (w : World) : (typeInfo t).run P w = .ok i w := by
  simp [typeInfo, h]
theorem run_size {P : Program} {t : TypeId} {i : TypeInfo} (h : P.info? t = some i) (w : World) : (sizeOf t).run P w = .ok i.size w := by
  simp [sizeOf, run_info h]
theorem run_zero {P : Program} {t : TypeId} {i : TypeInfo} {z : Value} (h : P.info? t = some i) (hz : i.zero = some z) (w : World) : (zeroValue t).run P w = .ok z w := by
  simp [zeroValue, run_info h, hz]

/-! ### Parts of an aggregate -/
def partA (P : Program) (t : TypeId) (l : List AV) (off : Nat) : Option AV :=
  match P.underlying t, P.info? t with
  | some d, some i => bif isAggD d then some (.agg ((l.drop off).take i.size)) else l[off]?
  | _, _ => none

theorem mem_oks {e : Env} {l : List AV} (h : AV.oks e l) {v : AV} (hv : v ∈ l) : v.ok e := (AV.oks_iff e l).1 h v hv

theorem partA_ok {P : Program} {t : TypeId} {l : List AV} {off : Nat} {v : AV} (h : partA P t l off = some v) (e : Env) (hl : AV.oks e l) (w : World) :
    (part t (AV.vals e l).toArray off).run P w = .ok (v.val e) w ∧ v.ok e := by
  unfold partA at h
  split at h
  · rename_i d i hd hi
    cases hg : isAggD d
    · rw [hg] at h
      simp only [cond_false] at h
      have hv : (AV.vals e l)[off]? = some (v.val e) := by rw [AV.vals_eq]; simp [h]
      have ho := mem_oks hl (List.mem_of_getElem? h)
      refine ⟨?_, ho⟩
      simp [part, run_isAgg hd, hg, hv]
    · rw [hg] at h
      simp only [cond_true, Option.some.injEq] at h
      subst h
      refine ⟨?_, ?_⟩
      · simp only [part, Sem.run_bind, run_isAgg hd, Result.andThen_ok, hg, if_true, run_size hi, AV.val, AV.vals_eq]
        simp only [Sem.run_pure, List.map_take, List.map_drop]
        congr 2
        simp
      · simp only [AV.ok, AV.oks_iff]
        intro x hx
        exact mem_oks hl (List.mem_of_mem_drop (List.mem_of_mem_take hx))
  · cases h

/-! ### Bounds -/
def bndA (v : Option AV) (dflt y : Nat) : Option Nat :=
  match v with
  | none => some dflt
  | some (.int _ (.lit (.ofNat i))) => bif Nat.ble i y then some i else none
  | _ => none

/-! ### Maps -/
def sameA : AV → AV → Option Bool
  | .int k (.lit a), .int k' (.lit b) => if k = k' then some (a == b) else none
  | .str a, .str b => some (a == b)
  | .bool a, .bool b => some (a == b)
  | _, _ => none

def keyFits : TypeDesc → AV → Bool
  | .int _, .int _ (.lit _) => true
  | .string, .str _ => true
  | .bool, .bool _ => true
  | _, _ => false

def findA (k : AV) : List (AV × AV × Nat) → Nat → Option (Option (Nat × AV))
  | [], _ => some none
  | x :: l, i => match sameA k x.1 with
    | some true => some (some (i, x.2.1))
    | some false => findA k l (i + 1)
    | none => none

theorem bytes_beq (a b : List UInt8) : ((⟨a.toArray⟩ : ByteArray) == ⟨b.toArray⟩) = (a == b) := by
  show (a.toArray == b.toArray) = _
  simp

theorem sameA_ok {d : TypeDesc} {k x : AV} {b : Bool} (e : Env) (hk : keyFits d k = true) (h : sameA k x = some b) :
    Instr.sameNow d (k.val e) (x.val e) = some b := by
  unfold sameA at h
  split at h
  · split at h
    · rename_i hkk; subst hkk
      cases h
      cases d <;> simp_all [keyFits, Instr.sameNow, AV.val, SI.val]
    · cases h
  · cases h
    cases d <;> simp_all [keyFits, Instr.sameNow, AV.val, bytes_beq]
  · cases h
    cases d <;> simp_all [keyFits, Instr.sameNow, AV.val]
  · cases h

theorem findA_ok {d : TypeDesc} {k : AV} (e : Env) (hk : keyFits d k = true) : ∀ (l : List (AV × AV × Nat)) (i : Nat) (r : Option (Nat × AV)), findA k l i = some r →
    Instr.findNow d (k.val e) (l.map (entryVal e)) i = some (r.map fun p => (p.1, p.2.val e)) ∧ ∀ p, r = some p → ∃ x ∈ l, p.2 = x.2.1
  | [], i, r, h => by simp [findA] at h; subst h; simp [Instr.findNow]
  | x :: l, i, r, h => by
    simp only [findA] at h
    split at h
    · rename_i hs
      cases h
      have := sameA_ok e hk hs
      simp [Instr.findNow, entryVal, this]
    · rename_i hs
      have h1 := sameA_ok e hk hs
      obtain ⟨h2, h3⟩ := findA_ok e hk l (i + 1) r h
      refine ⟨by simp only [List.map, Instr.findNow, entryVal, h1]; exact h2, fun p hp => ?_⟩
      obtain ⟨y, hy, e2⟩ := h3 p hp
      exact ⟨y, List.mem_cons_of_mem _ hy, e2⟩
    · cases h

theorem run_checkKey {P : Program} {t : TypeId} {d : TypeDesc} (hd : P.underlying t = some d) (e : Env) {k : AV} (hk : keyFits d k = true) (b : Bool) (n : Nat) (w : World) :
    (Instr.checkKey b (n + 1) t (k.val e)).run P w = .ok () w := by
  simp only [Instr.checkKey, Sem.run_bind, run_underlying hd, Result.andThen_ok]
  cases d <;> simp_all [keyFits] <;> cases k <;> simp_all [AV.val] <;> rfl

theorem run_findKey {P : Program} {t : TypeId} {d : TypeDesc} (hd : P.underlying t = some d) (e : Env) {k : AV} (hk : keyFits d k = true) {l : List (AV × AV × Nat)} {r : Option (Nat × AV)}
    (h : findA k l 0 = some r) (w : World) : (Instr.findKey t (k.val e) (l.map (entryVal e))).run P w = .ok (r.map fun p => (p.1, p.2.val e)) w := by
  simp only [Instr.findKey, Sem.run_bind, run_underlying hd, Result.andThen_ok, (findA_ok e hk l 0 r h).1, Sem.run_pure]

/-! ### The operations -/
def isConstO : Operand → Bool
  | .const _ => true
  | _ => false

def binA (P : Program) (fx : List Fact) (op : BinOp) (t : TypeId) (xc : Bool) (x y : AV) : Option AV :=
  match x, y with
  | .int k (.lit a), .int k' (.lit b) =>
    match op with
    | .shl | .shr => shiftA op k a b
    | _ => if k = k' then intA op k a b else none
  | .int k a, .int k' b => if k = k' then (bif Nat.beq (opCode op) 0 then none else (findFact (opCode op) a b fx).map .bool) else none
  | .str a, .str b => strA op a b
  | .ptr b o, .ptr b' o' =>
    match P.underlying t with
    | some (.pointer el) => match P.info? el with
      | some i => bif Nat.beq b b' && !Nat.beq i.size 0 then
          (match op with | .eql => some (.bool (Nat.beq o o')) | .neq => some (.bool (!Nat.beq o o')) | _ => none) else none
      | none => none
    | _ => none
  | x, y => match P.underlying t with
    | some d => match op with
      | .eql => (eqA d xc x y).map .bool
      | .neq => (eqA d xc x y).map fun b => .bool (!b)
      | _ => none
    | none => none

def unA (op : UnOp) (x : AV) : Option AV :=
  match op, x with
  | .not, .bool b => some (.bool (!b))
  | .neg, .int k (.lit n) => intA .sub k 0 n
  | .xor, .int k (.lit n) => intA .xor k (if k.signed then -1 else k.max) n
  | _, _ => none

/-- The lower bound of a block's own capacity. -/
def St.lb (st : St) (b : Nat) : Nat :=
  match st.heap.get b with
  | some (.cells _ _ cw lb _) => bif Nat.beq cw 0 then 0 else lb
  | _ => 0

/-- x[lo:hi] of a slice. -/
def sliceA (st : St) (size b o len : Nat) (c : SC) (lo hi : Option AV) : Option AV :=
  match c with
  | .lit m => match bndA hi len m with
    | none => none
    | some h => match bndA lo 0 h with
      | none => none
      | some l => some (.slice b (bif Nat.beq m l then o else o + l * size) (h - l) (.lit (m - l)))
  | .var b' k => match bndA hi len (st.lb b' - k) with
    | none => none
    | some h => match bndA lo 0 h with
      | none => none
      | some l => bif Nat.beq l 0 || Nat.blt l (st.lb b' - k) then some (.slice b (o + l * size) (h - l) (.var b' (k + l))) else none

/-- An operation that only reads: its value (none: it has one, of which nothing is known). -/
def opR (P : Program) (fx : List Fact) (st : St) (ev : Operand → Option AV) (o : Oper) : Option (Option AV) :=
  match o.op with
  | .move x | .assign x => some (ev x)
  | .pick c a b => match ev c with
    | some (.bool true) => some (ev a)
    | some (.bool false) => some (ev b)
    | _ => none
  | .load t a => match ev a with
    | some (.ptr b off) => match P.underlying t, P.info? t with
      | some d, some i => bif isAggD d then
          (match st.cellsAt b off i.size with | some l => some (some (.agg l)) | none => none)
        else (match st.cellAt b off with | some v => some (some v) | none => none)
      | _, _ => none
    | _ => none
  | .nilCheck x => match ev x with
    | some (.ptr b off) => some (some (.ptr b off))
    | some (.fn (.func f) a c) => some (some (.fn (.func f) a c))
    | some (.yield b) => some (some (.yield b))
    | some (.iface t v) => some (some (.iface t v))
    | _ => none
  | .binOp op t x y _ => match ev x, ev y with
    | some a, some b => (match binA P fx op t (isConstO x || isConstO y) a b with | some v => some (some v) | none => none)
    | _, _ => none
  | .unOp op _ x => match ev x with
    | some a => (match unA op a with | some v => some (some v) | none => none)
    | none => none
  | .convert src dst x => match P.underlying src, P.underlying dst, ev x with
    | some (.int _), some (.int k), some (.int _ (.lit n)) => some (some (.int k (.lit (k.wrap n))))
    | some .string, some .string, some (.str s) => some (some (.str s))
    | _, _, _ => none
  | .makeInterface t x => match P.underlying t, ev x with
    | some d, some v => (match d with | .interface _ => none | _ => some (some (.iface t v)))
    | _, _ => none
  | .makeFunc fn first captured => match (first.toList.mapM ev), (captured.toList.mapM ev) with
    | some a, some c => (match fn with | .yield _ => none | _ => some (some (.fn fn a c)))
    | _, _ => none
  | .fieldAddr s x f => match P.underlying s, ev x with
    | some (.struct fs), some (.ptr b off) => match fs.toList[f]? with
      | some fd => (match P.info? fd.type with
        | some i => bif Nat.beq i.size 0 then none else some (some (.ptr b (off + fd.offset)))
        | none => none)
      | none => none
    | _, _ => none
  | .field s x f => match P.underlying s, ev x with
    | some (.struct fs), some (.agg l) => match fs.toList[f]? with
      | some fd => (match partA P fd.type l fd.offset with | some v => some (some v) | none => none)
      | none => none
    | _, _ => none
  | .indexAddr t x ix => match P.underlying t, ev x, ev ix with
    | some (.array len el), some (.ptr b off), some (.int _ (.lit (.ofNat i))) => match P.info? el with
      | some inf => bif Nat.blt i len then some (some (.ptr b (off + i * inf.size))) else none
      | none => none
    | some (.slice el), some (.slice b off len _), some (.int _ (.lit (.ofNat i))) => match P.info? el with
      | some inf => bif Nat.blt i len then some (some (.ptr b (off + i * inf.size))) else none
      | none => none
    | _, _, _ => none
  | .index t x ix => match P.underlying t, ev x, ev ix with
    | some (.array len el), some (.agg l), some (.int _ (.lit (.ofNat i))) => match P.info? el with
      | some inf => bif Nat.blt i len then (match partA P el l (i * inf.size) with | some v => some (some v) | none => none) else none
      | none => none
    | some .string, some (.str s), some (.int _ (.lit (.ofNat i))) => match s[i]? with
      | some c => some (some (.int .u8 (.lit c.toNat)))
      | none => none
    | _, _, _ => none
  | .slice t x lo hi mx => match mx with
    | some _ => none
    | none =>
      let lo' := match lo with | none => some none | some y => (ev y).map some
      let hi' := match hi with | none => some none | some y => (ev y).map some
      match lo', hi', P.underlying t, ev x with
      | some l, some h, some (.slice el), some (.slice b off len c) => match P.info? el with
        | some inf => (match sliceA st inf.size b off len c l h with | some v => some (some v) | none => none)
        | none => none
      | some l, some h, some (.slice el), some .nilSlice => bif (P.info? el).isSome then (match bndA h 0 0 with
        | some h' => (match bndA l 0 h' with | some _ => some (some .nilSlice) | none => none)
        | none => none) else none
      | some l, some h, some (.array n el), some (.ptr b off) => match P.info? el with
        | some inf => (match sliceA st inf.size b off n (.lit n) l h with | some v => some (some v) | none => none)
        | none => none
      | some l, some h, some .string, some (.str s) => (match bndA h s.length s.length with
        | some h' => (match bndA l 0 h' with | some l' => some (some (.str ((s.drop l').take (h' - l')))) | none => none)
        | none => none)
      | _, _, _, _ => none
  | .lookup t x ix ok => match P.underlying t, ev x, ev ix with
    | some (.map kt el), some (.map b), some k => match P.underlying kt, st.heap.get b, P.info? el with
      | some d, some (.map es _), some inf => bif keyFits d k then
          (match findA k es 0 with
          | some (some (_, v)) => some (some (bif ok then .tup [v, .bool true] else v))
          | some none => (match inf.zero with
            | some z => (match lift z with | some v => some (some (bif ok then .tup [v, .bool false] else v)) | none => none)
            | none => none)
          | none => none) else none
      | _, _, _ => none
    | _, _, _ => none
  | .extract x i => match ev x with
    | some (.tup l) => (match l[i]? with | some v => some (some v) | none => none)
    | _ => none
  | .typeAssert x _ t ok => match P.underlying t, ev x, ok with
    | some d, some (.iface u v), true => (match d with
      | .interface _ => none
      | _ => bif Nat.beq u t then some (some (.tup [v, .bool true])) else
        (match P.info? t with
        | some inf => (match inf.zero with
          | some z => (match lift z with | some z' => some (some (.tup [z', .bool false])) | none => none)
          | none => none)
        | none => none))
    | _, _, _ => none
  | .call c => match c.callee with
    | .builtin .len => match c.argTypes.toList, c.args.toList with
      | t :: _, [x] => match P.underlying t, ev x with
        | some .string, some (.str s) => some (some (.int .i64 (.lit s.length)))
        | some (.slice _), some (.slice _ _ n _) => some (some (.int .i64 (.lit n)))
        | some (.slice _), some .nilSlice => some (some (.int .i64 (.lit 0)))
        | some (.array n _), some _ => some (some (.int .i64 (.lit n)))
        | some (.map _ _), some .nilMap => some (some (.int .i64 (.lit 0)))
        | some (.map _ _), some (.map b) => (match st.heap.get b with
          | some (.map es _) => some (some (.int .i64 (.lit es.length)))
          | _ => none)
        | _, _ => none
      | _, _ => none
    | .builtin .min => match c.args.toList with
      | [x, y] => match ev x, ev y with
        | some (.int k (.lit a)), some (.int _ (.lit b)) => some (some (.int k (.lit (if b < a then b else a))))
        | _, _ => none
      | _ => none
    | .builtin .max => match c.args.toList with
      | [x, y] => match ev x, ev y with
        | some (.int k (.lit a)), some (.int _ (.lit b)) => some (some (.int k (.lit (if b > a then b else a))))
        | _, _ => none
      | _ => none
    | _ => none
  | _ => none

end Go.Sx

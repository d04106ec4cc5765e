/- The executor. -/
import Derived.Test.YtmjnogcbdombaaaGreatDoorSxL3
set_option linter.all false
namespace Go.Sx
set_option linter.unusedSimpArgs false

/-- What does not change: the program, what is known of numbers, how many variables are known to be there. -/
structure Cx where
  P : Program
  fx : List Fact
  G : Nat
  /-- calls whose outcome is known already -/
  cut : FuncId → List AV → St → Option (AV × St) := fun _ _ _ => none

structure Fm where
  n : Nat
  tm : Tr AV

def evF (C : Cx) (f : Fm) : Operand → Option AV
  | .tmp t => f.tm.get t
  | .const v => lift v
  | .global g => bif Nat.blt g C.G then some (.ptr g 0) else none
  | .func g => some (.fn (.func g) [] [])

def Fm.put (f : Fm) (dst : Option Tmp) (v : Option AV) : Option Fm :=
  match dst with
  | none => some f
  | some d => bif Nat.blt d f.n && Nat.blt d 1048576 then some { f with tm := Tr.set 40 f.tm d v } else none

/-- Does an operation with a guard come about? -/
def wantedA (ops : Array Oper) (o : Oper) (f : Fm) : Option Bool :=
  match o.guard with
  | none => some true
  | some (j, want) => match ops.toList[j]? with
    | none => none
    | some p => match p.dst with
      | none => none
      | some d => match f.tm.get d with
        | some (.bool b) => some (b == want)
        | some (.tup _) => some false
        | _ => none

/-- Operations that write, but calls. -/
def opE (P : Program) (ev : Operand → Option AV) (st : St) (o : Oper) : Option (Option AV × St) :=
  match o.op with
  | .store t a x => match opStore P ev st t a x with
    | some st' => some (none, st')
    | none => none
  | .mapUpdate t m k x => match opMapUpdate P ev st t m k x with
    | some st' => some (none, st')
    | none => none
  | .insert t m k x => match opMapUpdate P ev st t m k x with
    | some st' => some (none, st')
    | none => none
  | .range t x => match opRange P ev st t x with
    | some (v, st') => some (some v, st')
    | none => none
  | .next x isString => match ev x with
    | some v => match opNext st v isString with
      | some (u, st') => some (some u, st')
      | none => none
    | none => none
  | .call c => match c.callee with
    | .builtin .append => match c.argTypes.toList, c.args.toList with
      | t :: tx :: _, [s, x] => match P.underlying t, P.underlying tx, ev s, ev x with
        | some (.slice el), some dx, some sv, some xv => match dx, P.info? el with
          | .int _, _ => none
          | _, some inf => match appendA st el inf sv xv with
            | some (v, st') => some (some v, st')
            | none => none
          | _, none => none
        | _, _, _, _ => none
      | _, _ => none
    | .builtin .copy => match c.argTypes.toList, c.args.toList with
      | t :: _, [d, x] => match P.underlying t, ev d, ev x with
        | some (.slice el), some dv, some xv => match P.info? el with
          | some inf => match copyA st inf.size dv xv with
            | some (n, st') => some (some (.int .i64 (.lit n)), st')
            | none => none
          | none => none
        | _, _, _ => none
      | _, _ => none
    | _ => none
  | _ => none

/-- Is it a function with a body? -/
def enters (P : Program) (g : FuncId) : Bool :=
  match P.funcs[g]? with
  | some fn => !(fn.name == "runtime.NumGoroutine") && fn.body.isSome
  | none => false

/-- The method of a value behind an interface, where it is a pointer's own. -/
def mthA (P : Program) (t : TypeId) (name : String) : Option FuncId :=
  match P.info? t, P.underlying t with
  | some inf, some (.pointer _) => match inf.methods.find? (·.name == name) with
    | some m => bif m.path.isEmpty then (match m.func with | some (g, true) => some g | _ => none) else none
    | none => none
  | _, _ => none

/-- A call: of which function, with what. -/
def callOf (P : Program) (ev : Operand → Option AV) (o : Oper) : Option (FuncId × List AV) :=
  match o.op with
  | .call c => match c.callee with
    | .value fo => match ev fo, evsA ev c.args.toList with
      | some (.fn (.func g) first captured), some args => bif enters P g then some (g, first ++ args ++ captured) else none
      | _, _ => none
    | .invoke r name => match ev r, evsA ev c.args.toList with
      | some (.iface t v), some args => match mthA P t name with
        | some g => bif enters P g then some (g, v :: args) else none
        | none => none
      | _, _ => none
    | .builtin _ => none
  | _ => none

/-- What comes of carrying out: a value; or why not, and at which operation. -/
inductive Rs (α : Type) where
  | ok (a : α)
  | er (why : String) (o : Option Oper)

abbrev CallF := FuncId → List AV → St → Rs (AV × St)

/-- An operation that does not write. -/
def stepN (C : Cx) (o : Oper) (f : Fm) (st : St) : Option (Fm × St) :=
  match opR C.P C.fx st (evF C f) o with
  | some r => match f.put o.dst r with
    | some f' => some (f', st)
    | none => none
  | none => match opF C.P (evF C f) o with
    | some fr => match f.put o.dst (some (fr.ptr st.next)) with
      | some f' => some (f', st.new fr.blk)
      | none => none
    | none => match o.op with
      | .build t parts => match opB C.P (evF C f) t parts.toList with
        | some v => match f.put o.dst (some v) with
          | some f' => some (f', st)
          | none => none
        | none => none
      | _ => none

/-- An operation that writes. -/
def stepE (call : CallF) (C : Cx) (o : Oper) (f : Fm) (st : St) : Rs (Fm × St) :=
  match opE C.P (evF C f) st o with
  | some (r, st') => match f.put o.dst (some (r.getD (.tup []))) with
    | some f' => .ok (f', st')
    | none => .er "put" (some o)
  | none => match callOf C.P (evF C f) o with
    | some (g, args) => match call g args st with
      | .ok (v, st') => match f.put o.dst (some v) with
        | some f' => .ok (f', st')
        | none => .er "put" (some o)
      | .er w p => .er w p
    | none => .er "no such writing" (some o)

/-- Does it write (or call)? -/
def writes (o : Oper) : Bool :=
  match o.op with
  | .store .. | .mapUpdate .. | .insert .. | .range .. | .next .. => true
  | .call c => match c.callee with
    | .builtin .len | .builtin .min | .builtin .max => false
    | _ => true
  | _ => false

def stepA (call : CallF) (C : Cx) (o : Oper) (f : Fm) (st : St) : Rs (Fm × St) :=
  bif writes o then stepE call C o f st else
    match stepN C o f st with
    | some x => .ok x
    | none => .er "no such reading" (some o)

/-- Operations in the text's order. -/
def execOps (call : CallF) (C : Cx) (ops : Array Oper) : List Oper → Fm → St → Rs (Fm × St)
  | [], f, st => .ok (f, st)
  | o :: l, f, st => match wantedA ops o f with
    | none => .er "guard" (some o)
    | some false => match f.put o.dst (some (.tup [])) with
      | some f' => execOps call C ops l f' st
      | none => .er "put" (some o)
    | some true => match stepA call C o f st with
      | .ok (f', st') => execOps call C ops l f' st'
      | .er w p => .er w p

inductive Out where
  | normal
  | exit (id : Nat)
  | goto (l : Nat)
  | ret

/-- What a function hands back. -/
def resA (C : Cx) (f : Fm) (st : St) : ResultVar → Option AV
  | .tmp t => f.tm.get t
  | .cell a t => match f.tm.get a with
    | some (.ptr b o) => match C.P.underlying t, C.P.info? t with
      | some d, some i => bif isAggD d then (match st.cellsAt b o i.size with | some l => some (.agg l) | none => none) else st.cellAt b o
      | _, _ => none
    | _ => none

def ressA (C : Cx) (f : Fm) (st : St) : List ResultVar → Option (List AV)
  | [] => some []
  | x :: l => match resA C f st x with
    | none => none
    | some v => match ressA C f st l with
      | none => none
      | some r => some (v :: r)

def setArgs : Nat → List AV → Tr AV → Tr AV
  | _, [], t => t
  | i, v :: l, t => setArgs (i + 1) l (Tr.set 40 t i (some v))

/-- A call of a body, given how code is carried out. -/
def callIn (C : Cx) (ex : Code → Fm → St → Rs (Out × Fm × St)) : CallF := fun g args st =>
  match C.P.funcs[g]? with
  | none => .er "no such function" none
  | some fn => match fn.body with
    | none => .er fn.name none
    | some body => match ex body ⟨max fn.ntmps args.length, setArgs 0 args .e⟩ st with
      | .ok (.normal, f, st') | .ok (.ret, f, st') => match ressA C f st' fn.results.toList with
        | some [v] => .ok (v, st')
        | some l => .ok (.tup l, st')
        | none => .er fn.name none
      | .ok _ => .er fn.name none
      | .er w p => .er w p

/-- A call, given how code is carried out. -/
def callBy (C : Cx) (ex : Code → Fm → St → Rs (Out × Fm × St)) : CallF := fun g args st =>
  match C.cut g args st with
  | some r => .ok r
  | none => callIn C ex g args st

/-! ### Operations whose order is open -/
/-- Of each operation those that come ahead of it, as bits. -/
def maskOf (acc : List Nat) (o : Oper) : Nat := o.after.toList.foldl (fun m e => bif Region.binds .any e then m ||| (1 <<< e.on) ||| acc.getD e.on 0 else m) 0

def predsGo (acc : List Nat) : List Oper → List Nat
  | [] => acc
  | o :: l => predsGo (acc ++ [maskOf acc o]) l

def predsOf (ops : List Oper) : List Nat := predsGo [] ops

def within (a b : Nat) : Bool := Nat.beq (a ||| b) b

/-- Which comes next: the first one that does not write and whose turn it is; else the first one that writes. -/
def pick (pw : List (Nat × Bool)) (done : Nat) (i : Nat) : Option Nat × Option Nat → Option Nat × Option Nat := fun r =>
  match pw with
  | [] => r
  | (p, wr) :: l => bif !Nat.testBit done i && within p done then
      (bif wr then pick l done (i + 1) (r.1, match r.2 with | none => some i | s => s)
       else (some i, r.2))
    else pick l done (i + 1) r

def canon (pw : List (Nat × Bool)) : Nat → Nat → List Nat
  | 0, _ => []
  | k + 1, done => match pick pw done 0 (none, none) with
    | (some i, _) => i :: canon pw k (done ||| (1 <<< i))
    | (none, some i) => i :: canon pw k (done ||| (1 <<< i))
    | (none, none) => []

/-! ### Are two values the same? -/
def SC.same : SC → SC → Bool
  | .lit a, .lit b => Nat.beq a b
  | .var a k, .var b l => Nat.beq a b && Nat.beq k l
  | _, _ => false

mutual
def AV.same : AV → AV → Bool
  | .bool a, .bool b => a == b
  | .int k a, .int k' b => decide (k = k') && a.same b
  | .str a, .str b => a == b
  | .ptr b o, .ptr b' o' => Nat.beq b b' && Nat.beq o o'
  | .nilp, .nilp => true
  | .slice b o n c, .slice b' o' n' c' => Nat.beq b b' && Nat.beq o o' && Nat.beq n n' && c.same c'
  | .nilSlice, .nilSlice => true
  | .map b, .map b' => Nat.beq b b'
  | .nilMap, .nilMap => true
  | .fn f a c, .fn f' a' c' => decide (f = f') && AV.sames a a' && AV.sames c c'
  | .yield b, .yield b' => Nat.beq b b'
  | .nilFn, .nilFn => true
  | .iface t v, .iface t' v' => Nat.beq t t' && AV.same v v'
  | .nilIface, .nilIface => true
  | .agg l, .agg l' => AV.sames l l'
  | .tup l, .tup l' => AV.sames l l'
  | .any i, .any j => Nat.beq i j
  | _, _ => false
def AV.sames : List AV → List AV → Bool
  | [], [] => true
  | a :: l, b :: r => AV.same a b && AV.sames l r
  | _, _ => false
end

/-- Does it read memory? -/
def reads (o : Oper) : Bool :=
  match o.op with
  | .load .. | .lookup .. | .slice .. | .call _ => true
  | _ => false

/-! ### The plan of a region whose order is open -/
def pwOf (l : List Oper) : List (Nat × Bool) := (predsOf l).zip (l.map writes)

/-- No operation that does not write, and is not done, could come now. -/
def noneReady : List (Nat × Bool) → Nat → Nat → Bool
  | [], _, _ => true
  | (p, wr) :: l, done, i => (Nat.testBit done i || wr || !within p done) && noneReady l done (i + 1)

/-- All that write, and are not done, wait for i. -/
def allWait : List (Nat × Bool) → Nat → Nat → Nat → Bool
  | [], _, _, _ => true
  | (p, wr) :: l, done, i, k => (Nat.testBit done k || !wr || Nat.beq k i || Nat.testBit p i) && allWait l done i (k + 1)

def okOrder (pw : List (Nat × Bool)) : List Nat → Nat → Bool
  | [], done => Nat.beq done (2 ^ pw.length - 1)
  | i :: r, done => match pw[i]? with
    | none => false
    | some (p, wr) => !Nat.testBit done i && within p done && (!wr || (noneReady pw done 0 && allWait pw done i 0)) && okOrder pw r (done ||| (1 <<< i))

/-- Whoever reads what an operation lays comes behind it. -/
def looksOk (l : List Oper) (looks : List Tmp) (p : Nat) : Nat → Bool
  | i => match l with
    | [] => true
    | o :: r => (match o.dst with | none => true | some d => !looks.contains d || Nat.testBit p i) && looksOk r looks p (i + 1)

def distinct : List Oper → Bool
  | [] => true
  | o :: r => (match o.dst with | none => true | some d => r.all fun q => match q.dst with | none => true | some d' => !Nat.beq d d') && distinct r

/-- What is ahead of operation i lies ahead of it in the text. -/
def aheadOk : List Nat → Nat → Bool
  | [], _ => true
  | p :: r, i => Nat.blt p (2 ^ i) && aheadOk r (i + 1)

def allLooks (ops : Array Oper) (all : List Oper) : List Oper → List Nat → Bool
  | [], _ => true
  | _ :: _, [] => false
  | o :: r, p :: ps => looksOk all (o.looksAt ops) p 0 && allLooks ops all r ps

def planOk (ops : Array Oper) (ord : List Nat) : Bool :=
  okOrder (pwOf ops.toList) ord 0 && aheadOk (predsOf ops.toList) 0 && distinct ops.toList && allLooks ops ops.toList ops.toList (predsOf ops.toList) && Region.noSelect ops

/-- What has been read, and need not have been yet, is as it was. -/
def recheck (C : Cx) (f : Fm) (st : St) (p : Nat) : List (Nat × Oper) → Bool
  | [] => true
  | (i, o) :: r => (Nat.testBit p i || !reads o || (match opR C.P C.fx st (evF C f) o with
      | none => false
      | some x => match o.dst with
        | none => true
        | some d => match f.tm.get d with
          | none => true
          | some u => match x with
            | none => false
            | some v => AV.same v u)) && recheck C f st p r

def drawGo (call : CallF) (C : Cx) (ops : Array Oper) (pw : List (Nat × Bool)) : List Nat → Fm → St → List (Nat × Oper) → Rs (Fm × St)
  | [], f, st, _ => .ok (f, st)
  | i :: r, f, st, rd => match ops.toList[i]? with
    | none => .er "no such operation" none
    | some o => match wantedA ops o f with
      | none => .er "guard" (some o)
      | some false => match f.put o.dst (some (.tup [])) with
        | some f' => drawGo call C ops pw r f' st rd
        | none => .er "put" (some o)
      | some true => bif writes o then
          (match stepE call C o f st with
          | .er w q => .er w q
          | .ok (f', st') => match pw[i]? with
            | none => .er "no plan" (some o)
            | some (p, _) => bif recheck C f' st' p rd then drawGo call C ops pw r f' st' rd else .er "another order reads another thing" (some o))
        else (match stepN C o f st with
          | none => .er "no such reading" (some o)
          | some (f', st') => bif Nat.beq st'.next st.next || recheck C f' st' 0 rd then drawGo call C ops pw r f' st' ((i, o) :: rd) else .er "another order reads another thing" (some o))

def orderOf (ops : Array Oper) : List Nat := canon (pwOf ops.toList) ops.size 0

def execDraw (call : CallF) (C : Cx) (ops : Array Oper) (f : Fm) (st : St) : Rs (Fm × St) :=
  bif planOk ops (orderOf ops) then drawGo call C ops (pwOf ops.toList) (orderOf ops) f st [] else .er "no plan" ops.toList.head?

/-! ### Code -/
def exec (C : Cx) : Nat → Code → Fm → St → Rs (Out × Fm × St)
  | 0, _, _, _ => .er "fuel" none
  | k + 1, c, f, st => match c with
    | .skip => .ok (.normal, f, st)
    | .label _ => .ok (.normal, f, st)
    | .exit id => .ok (.exit id, f, st)
    | .goto l => .ok (.goto l, f, st)
    | .ret => .ok (.ret, f, st)
    | .region _ ops draw => match (bif draw then execDraw (callBy C (exec C k)) C ops f st else execOps (callBy C (exec C k)) C ops ops.toList f st) with
      | .ok (f', st') => .ok (.normal, f', st')
      | .er w p => .er w p
    | .seq a b => match exec C k a f st with
      | .ok (.normal, f', st') => exec C k b f' st'
      | x => x
    | .cond x a b => match evF C f x with
      | some (.bool true) => exec C k a f st
      | some (.bool false) => exec C k b f st
      | _ => .er "cond" none
    | .block id c => match exec C k c f st with
      | .ok (.exit id', f', st') => bif Nat.beq id' id then .ok (.normal, f', st') else .ok (.exit id', f', st')
      | x => x
    | .loop c => match exec C k c f st with
      | .ok (.normal, f', st') => exec C k (.loop c) f' st'
      | x => x
    | .scope c => match exec C k c f st with
      | .ok (.goto l, f', st') => match findLabel c l with
        | none => .er "label" none
        | some rest => match exec C k rest f' st' with
          | .ok (.goto _, _, _) => .er "goto again" none
          | x => x
      | x => x
    | .rangeFunc .. => .er "rangeFunc" none
    | .refuse w => .er w none

def callN (C : Cx) (k : Nat) : CallF := callBy C (exec C k)

end Go.Sx

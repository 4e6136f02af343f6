/-
  ENGINE, part C: how code runs over abstract states, plainly ('run') and with what comes behind in hand ('runK': for the kernel's own reckoning).
  Seat-independent.
-/
import Derived.Test.YteenlfeglffnoaaRxB
namespace Go.Rx
open Go Go.RowKit
set_option linter.unusedVariables false

structure St where
  sl : Nat → A
  m : Mem

/-- A loop as a contract of its own: the slots that it reads, those that it tells behind it; how it ends (0: behind itself; 1: with the function; i + 2: at block i). -/
structure LSpec where
  live : List Nat
  outs : List Nat
  ins : List PK
  out : List PK
  share : Bool
  pre : PKs.den ins → Bool
  g : PKs.den ins → (Nat × PKs.den out) × Bxs.den ins

structure Cx where
  T : Tab
  Φ : Nat → List Spec
  lp : Nat → Option LSpec
  mv : Nat → Bool
  ntmps : Nat

def constA : Value → A
  | .int k n => .v (.c (.d (.int k) n))
  | .bool b => .v (.c (.d .bool b))
  | .string s => .v (.c (.d .str s))
  | .slice none 0 0 => .c .nil
  | _ => .c .any
def evO (sl : Nat → A) : Operand → A
  | .tmp t => sl t
  | .const v => constA v
  | .func f => .c (.fn f [])
  | .global _ => .c .any

def setDst (sl : Nat → A) : Option Tmp → A → (Nat → A)
  | some d, v => upd sl d v
  | none, _ => sl

inductive Out where
  | norm
  | exit (id : Nat)
  | ret

def base : Nat := 1048576
def bidOf (o : Oper) : Nat := base + 4096 * (o.dst.getD 0)

/-- One operation by its plan. -/
def stepP (p : Option Plan) (dst : Option Tmp) (st : St) : Option St :=
  match p with
  | none => none
  | some p => match p.go (restr (p.rd ++ p.wr) st.m) with
    | none => none
    | some r => if r.cs.all (fun b => b) = true then cond (r.ws.all fun w => inL w.1 p.wr) (some ⟨setDst st.sl dst r.v, updL st.m r.ws⟩) none else none
def planOf (cx : Cx) (mm : Mem) (o : Oper) (sl : Nat → A) : Option Plan := opPlan cx.T cx.Φ cx.mv (bidOf o) mm o (evO sl)
def stepOp (cx : Cx) (mm : Mem) (o : Oper) (st : St) : Option St := stepP (planOf cx mm o st.sl) o.dst st

/-- The slot that a guard asks. -/
def guardSlot (ops : Array Oper) (g : Nat) : Option Tmp := (ops[g]?).bind (·.dst)
/-- Is an operation to be done? -/
def wants (ops : Array Oper) (o : Oper) (sl : Nat → A) : Option Bool :=
  match o.guard with
  | none => some true
  | some (g, want) => match guardSlot ops g with
    | none => none
    | some s => match sl s with
      | .v (.c (.d .bool b)) => some ((show Bool from b) == want)
      | .tup [] => some false
      | _ => none
def opsRun (cx : Cx) (ops : Array Oper) : List Oper → St → Option St
  | [], st => some st
  | o :: r, st => match wants ops o st.sl with
    | none => none
    | some true => match stepOp cx st.m o st with
      | none => none
      | some st' => opsRun cx ops r st'
    | some false => opsRun cx ops r ⟨setDst st.sl o.dst (.tup []), st.m⟩

/-! a region that draws its order: what each operation touches -/
structure Foot where
  i : Nat
  dst : Option Tmp
  looks : List Tmp
  rd : List Nat
  wr : List Nat

def opTmps : List Operand → List Tmp
  | [] => []
  | .tmp t :: r => t :: opTmps r
  | _ :: r => opTmps r
def looksOf (ops : Array Oper) (o : Oper) : List Tmp :=
  opTmps o.op.operands.toList ++ (match o.guard with
    | some (g, _) => (guardSlot ops g).toList
    | none => [])

def optIn (d : Option Tmp) (l : List Tmp) : Bool := match d with
  | some t => inL t l
  | none => false
def disjL (a b : List Nat) : Bool := a.all fun x => !inL x b
def sameDst (a b : Option Tmp) : Bool := match a, b with
  | some x, some y => Nat.beq x y
  | _, _ => false
def apart (a b : Foot) : Bool :=
  Bool.and (!optIn a.dst b.looks) (Bool.and (!optIn b.dst a.looks) (Bool.and (!sameDst a.dst b.dst)
    (Bool.and (disjL a.wr b.rd) (Bool.and (disjL a.wr b.wr) (disjL a.rd b.wr)))))

/-- Which operations stand ahead of each, by the edges, as bits. -/
def aheadOf : List Oper → List Nat → List Nat
  | [], acc => acc
  | o :: r, acc => aheadOf r (acc ++ [o.after.toList.foldl (fun s e => cond (Region.binds .any e) (s ||| 2 ^ e.on ||| (acc[e.on]?).getD 0) s) 0])

def footOf (cx : Cx) (ops : Array Oper) (i : Nat) (o : Oper) (st : St) : Foot :=
  match planOf cx st.m o st.sl with
  | some p => ⟨i, o.dst, looksOf ops o, p.rd, p.wr⟩
  | none => ⟨i, o.dst, looksOf ops o, [], []⟩
def foot0 (ops : Array Oper) (i : Nat) (o : Oper) : Foot := ⟨i, o.dst, looksOf ops o, [], []⟩

def freeFrom (ah : List Nat) (f : Foot) (fs : List Foot) : Bool := fs.all fun f' => Bool.or (Nat.testBit ((ah[f.i]?).getD 0) f'.i) (apart f' f)

def drawRun (cx : Cx) (ops : Array Oper) (ah : List Nat) : List Oper → Nat → List Foot → St → Option St
  | [], _, _, st => some st
  | o :: r, i, fs, st => match wants ops o st.sl with
    | none => none
    | some true => cond (freeFrom ah (footOf cx ops i o st) fs)
      (match stepOp cx st.m o st with
       | none => none
       | some st' => drawRun cx ops ah r (i + 1) (footOf cx ops i o st :: fs) st') none
    | some false => cond (freeFrom ah (foot0 ops i o) fs) (drawRun cx ops ah r (i + 1) (foot0 ops i o :: fs) ⟨setDst st.sl o.dst (.tup []), st.m⟩) none

/-! a loop, by its contract -/
def setOuts (sl : Nat → A) : List Nat → List V → (Nat → A)
  | s :: ss, v :: vs => upd (setOuts sl ss vs) s (.v v)
  | _, _ => sl
def killDsts (sl : Nat → A) (l : List Nat) : Nat → A := fun i => cond (inL i l) (.c .any) (sl i)
def loopBid (cx : Cx) (id : Nat) : Nat := base + 4096 * (cx.ntmps + 1 + id)

/-- The slots that a code writes. -/
def dstsOps : List Oper → List Nat
  | [] => []
  | o :: r => o.dst.toList ++ dstsOps r
def dsts : Code → List Nat
  | .region _ ops _ => dstsOps ops.toList
  | .seq a b => dsts a ++ dsts b
  | .cond _ a b => dsts a ++ dsts b
  | .block _ c => dsts c
  | .loop c => dsts c
  | _ => []

def LSpec.sp (ls : LSpec) : Spec := ⟨ls.ins, .tup ls.out, ls.share, ls.pre, fun x => ((ls.g x).1.2, (ls.g x).2)⟩

structure LRun where
  pre : Bool
  flag : Nat
  st : St

def lpStep (cx : Cx) (id : Nat) (c : Code) (ls : LSpec) (st : St) : Option LRun :=
  let xs := ls.live.map st.sl
  let bid := loopBid cx id
  match callP ls.sp bid xs st.m with
  | none => none
  | some p => match p.go (restr (p.rd ++ p.wr) st.m), argsIn (restr (p.rd ++ p.wr) st.m) ls.ins xs with
    | some r, some x => cond (r.ws.all fun w => inL w.1 p.wr)
      (match r.v with
       | .tup vs => some ⟨ls.pre x, (ls.g x).1.1, ⟨setOuts (killDsts st.sl (dsts c)) ls.outs vs, updL st.m r.ws⟩⟩
       | _ => none) none
    | _, _ => none
def flagOut : Nat → Out
  | 0 => .norm
  | 1 => .ret
  | i + 2 => .exit i

def inBlock (id : Nat) : Option (Out × St) → Option (Out × St)
  | some (.exit i, st) => cond (Nat.beq i id) (some (.norm, st)) (some (.exit i, st))
  | r => r

def run (cx : Cx) : Code → St → Option (Out × St)
  | .skip, st => some (.norm, st)
  | .region _ ops draw, st => match (cond draw (drawRun cx ops (aheadOf ops.toList []) ops.toList 0 [] st) (opsRun cx ops ops.toList st)) with
    | some st' => some (.norm, st')
    | none => none
  | .seq a b, st => match run cx a st with
    | some (.norm, st') => run cx b st'
    | r => r
  | .cond c x y, st => match evO st.sl c with
    | .v (.c (.d .bool b)) => if (show Bool from b) = true then run cx x st else run cx y st
    | _ => none
  | .block id (.loop c), st => match cx.lp id with
    | some ls => match lpStep cx id c ls st with
      | some r => if r.pre = true then some (flagOut r.flag, r.st) else none
      | none => none
    | none => none
  | .block id c, st => inBlock id (run cx c st)
  | .exit id, st => some (.exit id, st)
  | .ret, st => some (.ret, st)
  | _, _ => none

/-- What a function hands back. -/
def resV (T : Tab) (st : St) : ResultVar → Option V
  | .tmp t => match st.sl t with
    | .v x => some x
    | _ => none
  | .cell t ty => match loadP T ty (st.sl t) with
    | some p => match p.go (restr (p.rd ++ p.wr) st.m) with
      | some r => cond (r.cs.all fun b => b) (match r.v with
        | .v x => some x
        | _ => none) none
      | none => none
    | none => none
def resVs (T : Tab) (st : St) : List ResultVar → Option (List V)
  | [] => some []
  | r :: rs => match resV T st r, resVs T st rs with
    | some v, some vs => some (v :: vs)
    | _, _ => none
def resA (T : Tab) (st : St) (rs : List ResultVar) : Option A :=
  match resVs T st rs with
  | some [v] => some (.v v)
  | some vs => some (.tup vs)
  | none => none

/-! the same with what comes behind in hand -/
section
variable {R : Type}
def condsK (k : Option R) : List Bool → Option R
  | [] => k
  | b :: r => if b = true then condsK k r else none
def stepPK (p : Option Plan) (dst : Option Tmp) (st : St) (k : St → Option R) : Option R :=
  match p with
  | none => none
  | some p => match p.go (restr (p.rd ++ p.wr) st.m) with
    | none => none
    | some r => condsK (cond (r.ws.all fun w => inL w.1 p.wr) (k ⟨setDst st.sl dst r.v, updL st.m r.ws⟩) none) r.cs
def stepOpK (cx : Cx) (mm : Mem) (o : Oper) (st : St) (k : St → Option R) : Option R := stepPK (planOf cx mm o st.sl) o.dst st k

def gOpK (ops : Array Oper) (o : Oper) (st : St) (act skip : St → Option R) : Option R :=
  match o.guard with
  | none => act st
  | some (g, want) => match guardSlot ops g with
    | none => none
    | some s => match st.sl s with
      | .v (.c (.d .bool b)) => if (show Bool from b) = want then act ⟨upd st.sl s (.bool want), st.m⟩
          else skip ⟨setDst (upd st.sl s (.bool (!want))) o.dst (.tup []), st.m⟩
      | .tup [] => skip ⟨setDst st.sl o.dst (.tup []), st.m⟩
      | _ => none

def opsK (cx : Cx) (ops : Array Oper) : List Oper → St → (St → Option R) → Option R
  | [], st, k => k st
  | o :: r, st, k => gOpK ops o st (fun st => stepOpK cx st.m o st fun st' => opsK cx ops r st' k) (fun st => opsK cx ops r st k)

def drawK (cx : Cx) (ops : Array Oper) (ah : List Nat) : List Oper → Nat → List Foot → St → (St → Option R) → Option R
  | [], _, _, st, k => k st
  | o :: r, i, fs, st, k => gOpK ops o st
    (fun st => cond (freeFrom ah (footOf cx ops i o st) fs) (stepOpK cx st.m o st fun st' => drawK cx ops ah r (i + 1) (footOf cx ops i o st :: fs) st' k) none)
    (fun st => cond (freeFrom ah (foot0 ops i o) fs) (drawK cx ops ah r (i + 1) (foot0 ops i o :: fs) st k) none)

def inBlockK (id : Nat) (k : Out → St → Option R) : Out → St → Option R
  | .exit i, st => cond (Nat.beq i id) (k .norm st) (k (.exit i) st)
  | .norm, st => k .norm st
  | .ret, st => k .ret st

def runK (cx : Cx) : Code → St → (Out → St → Option R) → Option R
  | .skip, st, k => k .norm st
  | .region _ ops draw, st, k => cond draw (drawK cx ops (aheadOf ops.toList []) ops.toList 0 [] st (k .norm)) (opsK cx ops ops.toList st (k .norm))
  | .seq a b, st, k => runK cx a st fun o st' => match o with
    | .norm => runK cx b st' k
    | .exit i => k (.exit i) st'
    | .ret => k .ret st'
  | .cond c x y, st, k => match evO st.sl c with
    | .v (.c (.d .bool b)) => if (show Bool from b) = true then runK cx x st k else runK cx y st k
    | _ => none
  | .block id (.loop c), st, k => match cx.lp id with
    | some ls => match lpStep cx id c ls st with
      | some r => if r.pre = true then (if r.flag = 0 then k .norm r.st else if r.flag = 1 then k .ret r.st else k (.exit (r.flag - 2)) r.st) else none
      | none => none
    | none => none
  | .block id c, st, k => runK cx c st (inBlockK id k)
  | .exit id, st, k => k (.exit id) st
  | .ret, st, k => k .ret st
  | _, _, _ => none
end
end Go.Rx

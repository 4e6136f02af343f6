/-
  ENGINE, part D: a function, or a loop's round, from its inputs to its outputs, as data (definitions).
  Seat-independent.
-/
import Derived.Test.YtoagkidolpcigaaRxB
namespace Go.Rx
open Go Go.RowKit
set_option linter.unusedVariables false

structure St where
  sl : Nat → A
  m : Mem

/-- A loop as a contract of its own: the slots that it reads, those that it tells behind it; how it ends (0: behind itself; 1: with the function; i + 2: at block i). -/
structure LSpec where
  live : List Nat
  outs : List Nat
  ins : List PK
  out : List PK
  share : Bool
  pre : PKs.den ins → Bool
  g : PKs.den ins → (Nat × PKs.den out) × Bxs.den ins

structure Cx where
  T : Tab
  Φ : Nat → List Spec
  lp : Nat → Option LSpec
  mv : Nat → Bool
  ntmps : Nat

def constA : Value → A
  | .int k n => .v (.c (.d (.int k) n))
  | .bool b => .v (.c (.d .bool b))
  | .string s => .v (.c (.d .str s))
  | .slice none 0 0 => .c .nil
  | _ => .c .any
def evO (sl : Nat → A) : Operand → A
  | .tmp t => sl t
  | .const v => constA v
  | .func f => .c (.fn f [])
  | .global _ => .c .any

def setDst (sl : Nat → A) : Option Tmp → A → (Nat → A)
  | some d, v => upd sl d v
  | none, _ => sl

inductive Out where
  | norm
  | exit (id : Nat)
  | ret

def base : Nat := 1048576
def bidOf (o : Oper) : Nat := base + 4096 * (o.dst.getD 0)

/-- One operation by its plan. -/
def stepP (p : Option Plan) (dst : Option Tmp) (st : St) : Option St :=
  match p with
  | none => none
  | some p => match p.go (restr (p.rd ++ p.wr) st.m) with
    | none => none
    | some r => if r.cs.all (fun b => b) = true then cond (r.ws.all fun w => inL w.1 p.wr) (some ⟨setDst st.sl dst r.v, updL st.m r.ws⟩) none else none
def planOf (cx : Cx) (mm : Mem) (o : Oper) (sl : Nat → A) : Option Plan := opPlan cx.T cx.Φ cx.mv (bidOf o) mm o (evO sl)
def stepOp (cx : Cx) (mm : Mem) (o : Oper) (st : St) : Option St := stepP (planOf cx mm o st.sl) o.dst st

/-- The slot that a guard asks. -/
def guardSlot (ops : Array Oper) (g : Nat) : Option Tmp := (ops[g]?).bind (·.dst)
/-- Is an operation to be done? -/
def wants (ops : Array Oper) (o : Oper) (sl : Nat → A) : Option Bool :=
  match o.guard with
  | none => some true
  | some (g, want) => match guardSlot ops g with
    | none => none
    | some s => match sl s with
      | .v (.c (.d .bool b)) => some ((show Bool from b) == want)
      | .tup [] => some false
      | _ => none
def opsRun (cx : Cx) (ops : Array Oper) : List Oper → St → Option St
  | [], st => some st
  | o :: r, st => match wants ops o st.sl with
    | none => none
    | some true => match stepOp cx st.m o st with
      | none => none
      | some st' => opsRun cx ops r st'
    | some false => opsRun cx ops r ⟨setDst st.sl o.dst (.tup []), st.m⟩

/-! a region that draws its order: what each operation touches -/
structure Foot where
  i : Nat
  dst : Option Tmp
  looks : List Tmp
  rd : List Nat
  wr : List Nat

def opTmps : List Operand → List Tmp
  | [] => []
  | .tmp t :: r => t :: opTmps r
  | _ :: r => opTmps r
def looksOf (ops : Array Oper) (o : Oper) : List Tmp :=
  opTmps o.op.operands.toList ++ (match o.guard with
    | some (g, _) => (guardSlot ops g).toList
    | none => [])

def optIn (d : Option Tmp) (l : List Tmp) : Bool := match d with
  | some t => inL t l
  | none => false
def disjL (a b : List Nat) : Bool := a.all fun x => !inL x b
def sameDst (a b : Option Tmp) : Bool := match a, b with
  | some x, some y => Nat.beq x y
  | _, _ => false
def apart (a b : Foot) : Bool :=
  Bool.and (!optIn a.dst b.looks) (Bool.and (!optIn b.dst a.looks) (Bool.and (!sameDst a.dst b.dst)
    (Bool.and (disjL a.wr b.rd) (Bool.and (disjL a.wr b.wr) (disjL a.rd b.wr)))))

/-- Which operations stand ahead of each, by the edges, as bits. -/
def aheadOf : List Oper → List Nat → List Nat
  | [], acc => acc
  | o :: r, acc => aheadOf r (acc ++ [o.after.toList.foldl (fun s e => cond (Region.binds .any e) (s ||| 2 ^ e.on ||| (acc[e.on]?).getD 0) s) 0])

def footOf (cx : Cx) (ops : Array Oper) (i : Nat) (o : Oper) (st : St) : Foot :=
  match planOf cx st.m o st.sl with
  | some p => ⟨i, o.dst, looksOf ops o, p.rd, p.wr⟩
  | none => ⟨i, o.dst, looksOf ops o, [], []⟩
def foot0 (ops : Array Oper) (i : Nat) (o : Oper) : Foot := ⟨i, o.dst, looksOf ops o, [], []⟩

def freeFrom (ah : List Nat) (f : Foot) (fs : List Foot) : Bool := fs.all fun f' => Bool.or (Nat.testBit ((ah[f.i]?).getD 0) f'.i) (apart f' f)

def drawRun (cx : Cx) (ops : Array Oper) (ah : List Nat) : List Oper → Nat → List Foot → St → Option St
  | [], _, _, st => some st
  | o :: r, i, fs, st => match wants ops o st.sl with
    | none => none
    | some true => cond (freeFrom ah (footOf cx ops i o st) fs)
      (match stepOp cx st.m o st with
       | none => none
       | some st' => drawRun cx ops ah r (i + 1) (footOf cx ops i o st :: fs) st') none
    | some false => cond (freeFrom ah (foot0 ops i o) fs) (drawRun cx ops ah r (i + 1) (foot0 ops i o :: fs) ⟨setDst st.sl o.dst (.tup []), st.m⟩) none

/-! a loop, by its contract -/
def setOuts (sl : Nat → A) : List Nat → List V → (Nat → A)
  | s :: ss, v :: vs => upd (setOuts sl ss vs) s (.v v)
  | _, _ => sl
def killDsts (sl : Nat → A) (l : List Nat) : Nat → A := fun i => cond (inL i l) (.c .any) (sl i)
def loopBid (cx : Cx) (id : Nat) : Nat := base + 4096 * (cx.ntmps + 1 + id)

/-- The slots that a code writes. -/
def dstsOps : List Oper → List Nat
  | [] => []
  | o :: r => o.dst.toList ++ dstsOps r
def dsts : Code → List Nat
  | .region _ ops _ => dstsOps ops.toList
  | .seq a b => dsts a ++ dsts b
  | .cond _ a b => dsts a ++ dsts b
  | .block _ c => dsts c
  | .loop c => dsts c
  | _ => []

def LSpec.sp (ls : LSpec) : Spec := ⟨ls.ins, .tup ls.out, ls.share, ls.pre, fun x => ((ls.g x).1.2, (ls.g x).2)⟩

structure LRun where
  pre : Bool
  flag : Nat
  st : St

def lpStep (cx : Cx) (id : Nat) (c : Code) (ls : LSpec) (st : St) : Option LRun :=
  let xs := ls.live.map st.sl
  let bid := loopBid cx id
  match callP ls.sp bid xs st.m with
  | none => none
  | some p => match p.go (restr (p.rd ++ p.wr) st.m), argsIn (restr (p.rd ++ p.wr) st.m) ls.ins xs with
    | some r, some x => cond (r.ws.all fun w => inL w.1 p.wr)
      (match r.v with
       | .tup vs => some ⟨ls.pre x, (ls.g x).1.1, ⟨setOuts (killDsts st.sl (dsts c)) ls.outs vs, updL st.m r.ws⟩⟩
       | _ => none) none
    | _, _ => none
def flagOut : Nat → Out
  | 0 => .norm
  | 1 => .ret
  | i + 2 => .exit i

def inBlock (id : Nat) : Option (Out × St) → Option (Out × St)
  | some (.exit i, st) => cond (Nat.beq i id) (some (.norm, st)) (some (.exit i, st))
  | r => r

def run (cx : Cx) : Code → St → Option (Out × St)
  | .skip, st => some (.norm, st)
  | .region _ ops draw, st => match (cond draw (drawRun cx ops (aheadOf ops.toList []) ops.toList 0 [] st) (opsRun cx ops ops.toList st)) with
    | some st' => some (.norm, st')
    | none => none
  | .seq a b, st => match run cx a st with
    | some (.norm, st') => run cx b st'
    | r => r
  | .cond c x y, st => match evO st.sl c with
    | .v (.c (.d .bool b)) => if (show Bool from b) = true then run cx x st else run cx y st
    | _ => none
  | .block id (.loop c), st => match cx.lp id with
    | some ls => match lpStep cx id c ls st with
      | some r => if r.pre = true then some (flagOut r.flag, r.st) else none
      | none => none
    | none => none
  | .block id c, st => inBlock id (run cx c st)
  | .exit id, st => some (.exit id, st)
  | .ret, st => some (.ret, st)
  | _, _ => none

/-- What a function hands back. -/
def resV (T : Tab) (st : St) : ResultVar → Option V
  | .tmp t => match st.sl t with
    | .v x => some x
    | _ => none
  | .cell t ty => match loadP T ty (st.sl t) with
    | some p => match p.go (restr (p.rd ++ p.wr) st.m) with
      | some r => cond (r.cs.all fun b => b) (match r.v with
        | .v x => some x
        | _ => none) none
      | none => none
    | none => none
def resVs (T : Tab) (st : St) : List ResultVar → Option (List V)
  | [] => some []
  | r :: rs => match resV T st r, resVs T st rs with
    | some v, some vs => some (v :: vs)
    | _, _ => none
def resA (T : Tab) (st : St) (rs : List ResultVar) : Option A :=
  match resVs T st rs with
  | some [v] => some (.v v)
  | some vs => some (.tup vs)
  | none => none

/-! the same with what comes behind in hand -/
section
variable {R : Type}
def condsK (k : Option R) : List Bool → Option R
  | [] => k
  | b :: r => if b = true then condsK k r else none
def stepPK (p : Option Plan) (dst : Option Tmp) (st : St) (k : St → Option R) : Option R :=
  match p with
  | none => none
  | some p => match p.go (restr (p.rd ++ p.wr) st.m) with
    | none => none
    | some r => condsK (cond (r.ws.all fun w => inL w.1 p.wr) (k ⟨setDst st.sl dst r.v, updL st.m r.ws⟩) none) r.cs
def stepOpK (cx : Cx) (mm : Mem) (o : Oper) (st : St) (k : St → Option R) : Option R := stepPK (planOf cx mm o st.sl) o.dst st k

def gOpK (ops : Array Oper) (o : Oper) (st : St) (act skip : St → Option R) : Option R :=
  match o.guard with
  | none => act st
  | some (g, want) => match guardSlot ops g with
    | none => none
    | some s => match st.sl s with
      | .v (.c (.d .bool b)) => if (show Bool from b) = want then act ⟨upd st.sl s (.bool want), st.m⟩
          else skip ⟨setDst (upd st.sl s (.bool (!want))) o.dst (.tup []), st.m⟩
      | .tup [] => skip ⟨setDst st.sl o.dst (.tup []), st.m⟩
      | _ => none

def opsK (cx : Cx) (ops : Array Oper) : List Oper → St → (St → Option R) → Option R
  | [], st, k => k st
  | o :: r, st, k => gOpK ops o st (fun st => stepOpK cx st.m o st fun st' => opsK cx ops r st' k) (fun st => opsK cx ops r st k)

def drawK (cx : Cx) (ops : Array Oper) (ah : List Nat) : List Oper → Nat → List Foot → St → (St → Option R) → Option R
  | [], _, _, st, k => k st
  | o :: r, i, fs, st, k => gOpK ops o st
    (fun st => cond (freeFrom ah (footOf cx ops i o st) fs) (stepOpK cx st.m o st fun st' => drawK cx ops ah r (i + 1) (footOf cx ops i o st :: fs) st' k) none)
    (fun st => cond (freeFrom ah (foot0 ops i o) fs) (drawK cx ops ah r (i + 1) (foot0 ops i o :: fs) st k) none)

def inBlockK (id : Nat) (k : Out → St → Option R) : Out → St → Option R
  | .exit i, st => cond (Nat.beq i id) (k .norm st) (k (.exit i) st)
  | .norm, st => k .norm st
  | .ret, st => k .ret st

def runK (cx : Cx) : Code → St → (Out → St → Option R) → Option R
  | .skip, st, k => k .norm st
  | .region _ ops draw, st, k => cond draw (drawK cx ops (aheadOf ops.toList []) ops.toList 0 [] st (k .norm)) (opsK cx ops ops.toList st (k .norm))
  | .seq a b, st, k => runK cx a st fun o st' => match o with
    | .norm => runK cx b st' k
    | .exit i => k (.exit i) st'
    | .ret => k .ret st'
  | .cond c x y, st, k => match evO st.sl c with
    | .v (.c (.d .bool b)) => if (show Bool from b) = true then runK cx x st k else runK cx y st k
    | _ => none
  | .block id (.loop c), st, k => match cx.lp id with
    | some ls => match lpStep cx id c ls st with
      | some r => if r.pre = true then (if r.flag = 0 then k .norm r.st else if r.flag = 1 then k .ret r.st else k (.exit (r.flag - 2)) r.st) else none
      | none => none
    | none => none
  | .block id c, st, k => runK cx c st (inBlockK id k)
  | .exit id, st, k => k (.exit id) st
  | .ret, st, k => k .ret st
  | _, _, _ => none
end
end Go.Rx
namespace Go.Rx
open Go Go.RowKit
set_option linter.unusedVariables false

/-! the inputs as abstract values: each part has 64 numbers -/
def noMem : Mem := fun _ => .dead 0
def argsA (ps : List PK) (x : PKs.den ps) : List A := (partsOut 0 noMem ps x).1.map A.v
def startM (ps : List PK) (x : PKs.den ps) : Mem := updL noMem (partsOut 0 noMem ps x).2

/-! the outputs as data -/
def outIn (m : Mem) : (k : RK) → A → Option k.den
  | .none, .tup [] => some ()
  | .one p, .v x => argIn m p (.v x)
  | .tup ps, .tup vs => argsIn m ps (vs.map A.v)
  | _, _ => none
def boxesBack (m : Mem) (id : Nat) : (bs : List (List CK)) → Option (CKss.den bs)
  | [] => some ()
  | ks :: bs => match boxIn m ks id 0, boxesBack m (id + 8) bs with
    | some a, some b => some (a, b)
    | _, _ => none
/-- Rows that were lent to be written, at the numbers from b on. -/
def mutIn (m : Mem) (b : Nat) : (ks : List CK) → Option (Muts.den ks)
  | [] => some ()
  | .dat _ :: ks => mutIn m (b + 1) ks
  | .fn1 _ _ :: ks => mutIn m (b + 1) ks
  | .map :: ks => mutIn m (b + 1) ks
  | .own e :: ks => match m b with
    | .arr n _ xs => cond (Nat.beq n 0) (match castRows e xs, mutIn m (b + 1) ks with
      | some a, some r => some (a, r)
      | _, _ => none) none
    | _ => none
def mutIds (b : Nat) : List CK → Ids
  | [] => Ids.none
  | .dat _ :: ks => mutIds (b + 1) ks
  | .fn1 _ _ :: ks => mutIds (b + 1) ks
  | .map :: ks => mutIds (b + 1) ks
  | .own _ :: ks => Ids.add ⟨[], [(b, true)]⟩ (mutIds (b + 1) ks)
def bxsIn (m : Mem) (i : Nat) : (ps : List PK) → Option (Bxs.den ps)
  | [] => some ()
  | .box ks :: ps => match boxIn m ks (64 * i) 0, bxsIn m (i + 1) ps with
      | some a, some b => some (a, b)
      | _, _ => none
  | .fn _ bs :: ps => match boxesBack m (64 * i) bs, bxsIn m (i + 1) ps with
      | some a, some b => some (a, b)
      | _, _ => none
  | .wr ag ks :: ps => cond (Bool.or ag (Nat.beq ks.length 1)) (match mutIn m (64 * i) ks, bxsIn m (i + 1) ps with
      | some a, some b => some (a, b)
      | _, _ => none) none
  | .c _ :: ps => bxsIn m (i + 1) ps
  | .agg _ :: ps => bxsIn m (i + 1) ps
def boxesBackIds (m : Mem) (id : Nat) : List (List CK) → Ids
  | [] => Ids.none
  | ks :: bs => (boxIds m ks id).add (boxesBackIds m (id + 8) bs)
def bxsIds (m : Mem) (i : Nat) : List PK → Ids
  | [] => Ids.none
  | .box ks :: ps => (boxIds m ks (64 * i)).add (bxsIds m (i + 1) ps)
  | .fn _ bs :: ps => (boxesBackIds m (64 * i) bs).add (bxsIds m (i + 1) ps)
  | .wr _ ks :: ps => (mutIds (64 * i) ks).add (bxsIds m (i + 1) ps)
  | .c _ :: ps => bxsIds m (i + 1) ps
  | .agg _ :: ps => bxsIds m (i + 1) ps
def outIds (m : Mem) : RK → A → Ids
  | .one p, .v x => argIds m p (.v x)
  | .tup ps, .tup vs => argsIds m ps (vs.map A.v)
  | _, _ => Ids.none
def idsOk (a : Ids) : Bool := Bool.and (noDup a.ids) (a.lent.all fun i => !inL i a.ids)
/-- No closures among the results. -/
def noFn : List PK → Bool
  | [] => true
  | .fn _ _ :: _ => false
  | _ :: ps => noFn ps
def outNoFn : RK → Bool
  | .none => true
  | .one p => noFn [p]
  | .tup ps => noFn ps
def exportA (ins : List PK) (out : RK) (v : A) (m : Mem) : Option (out.den × Bxs.den ins) :=
  cond (Bool.and (outNoFn out) (idsOk ((outIds m out v).add (bxsIds m 0 ins)))) (match outIn m out v, bxsIn m 0 ins with
    | some a, some b => some (a, b)
    | _, _ => none) none

/-! a function -/
def fstart (ins : List PK) (x : PKs.den ins) : St := ⟨fun i => ((argsA ins x)[i]?).getD (.c .any), startM ins x⟩
def fend (T : Tab) (ins : List PK) (out : RK) (rs : List ResultVar) : Out → St → Option (out.den × Bxs.den ins)
  | .exit _, _ => none
  | .norm, st => match resA T st rs with
    | some v => exportA ins out v st.m
    | none => none
  | .ret, st => match resA T st rs with
    | some v => exportA ins out v st.m
    | none => none
def bodyOf (F : Func) : Code := match F.body with
  | some c => c
  | none => .skip
def funRun (cx : Cx) (F : Func) (ins : List PK) (out : RK) (x : PKs.den ins) : Option (out.den × Bxs.den ins) :=
  match run cx (bodyOf F) (fstart ins x) with
  | some (o, st) => fend cx.T ins out F.results.toList o st
  | none => none
def funK (cx : Cx) (F : Func) (ins : List PK) (out : RK) (x : PKs.den ins) : Option (out.den × Bxs.den ins) :=
  runK cx (bodyOf F) (fstart ins x) (fend cx.T ins out F.results.toList)

/-! a loop's round -/
inductive LRes (ins out : List PK) where
  | go (x : PKs.den ins)
  | stop (flag : Nat) (y : PKs.den out) (b : Bxs.den ins)
def zipGet : List Nat → List A → Nat → A
  | s :: ss, v :: vs, i => cond (Nat.beq i s) v (zipGet ss vs i)
  | _, _, _ => .c .any
def lstart (live : List Nat) (ins : List PK) (x : PKs.den ins) : St := ⟨zipGet live (argsA ins x), startM ins x⟩
/-- The variables' addresses stand where they stood. -/
def sameCaps (id : Nat) : List (List CK) → List (Nat × Nat × Nat) → Bool
  | [], [] => true
  | _ :: bs, (i, v, o) :: r => Bool.and (Nat.beq i id) (Bool.and (Nat.beq v 0) (Bool.and (Nat.beq o 0) (sameCaps (id + 8) bs r)))
  | _, _ => false
def sameBox (i : Nat) : List PK → List A → Bool
  | [], [] => true
  | .box _ :: ps, .v (.c (.ptr id v o)) :: xs => Bool.and (Nat.beq id (64 * i)) (Bool.and (Nat.beq v 0) (Bool.and (Nat.beq o 0) (sameBox (i + 1) ps xs)))
  | .fn f bs :: ps, .v (.c (.fn f' caps)) :: xs => Bool.and (Nat.beq f f') (Bool.and (sameCaps (64 * i) bs caps) (sameBox (i + 1) ps xs))
  | .wr false [.own _] :: ps, .v (.c (.ref id v)) :: xs => Bool.and (Nat.beq id (64 * i)) (Bool.and (Nat.beq v 0) (sameBox (i + 1) ps xs))
  | .c _ :: ps, _ :: xs => sameBox (i + 1) ps xs
  | .agg _ :: ps, _ :: xs => sameBox (i + 1) ps xs
  | _, _ => false
def stopA (ls : LSpec) (flag : Nat) (st : St) : Option (LRes ls.ins ls.out) :=
  cond (Bool.and (noFn ls.out) (idsOk ((argsIds st.m ls.out (ls.outs.map st.sl)).add (bxsIds st.m 0 ls.ins))))
    (match argsIn st.m ls.out (ls.outs.map st.sl), bxsIn st.m 0 ls.ins with
     | some y, some b => some (.stop flag y b)
     | _, _ => none) none
def lend (id : Nat) (ls : LSpec) : Out → St → Option (LRes ls.ins ls.out)
  | .norm, st => cond (Bool.and (sameBox 0 ls.ins (ls.live.map st.sl)) (idsOk (argsIds st.m ls.ins (ls.live.map st.sl))))
    (match argsIn st.m ls.ins (ls.live.map st.sl) with
     | some x => some (.go x)
     | none => none) none
  | .exit i, st => cond (Nat.beq i id) (stopA ls 0 st) (stopA ls (i + 2) st)
  | .ret, st => stopA ls 1 st
def roundRun (cx : Cx) (id : Nat) (c : Code) (ls : LSpec) (x : PKs.den ls.ins) : Option (LRes ls.ins ls.out) :=
  match run cx c (lstart ls.live ls.ins x) with
  | some (o, st) => lend id ls o st
  | none => none
def roundK (cx : Cx) (id : Nat) (c : Code) (ls : LSpec) (x : PKs.den ls.ins) : Option (LRes ls.ins ls.out) :=
  runK cx c (lstart ls.live ls.ins x) (lend id ls)
def iter {ins out : List PK} (f : PKs.den ins → Option (LRes ins out)) : Nat → PKs.den ins → Option ((Nat × PKs.den out) × Bxs.den ins)
  | 0, _ => none
  | n + 1, x => match f x with
    | some (.go x') => iter f n x'
    | some (.stop flag y b) => some ((flag, y), b)
    | none => none

/-- The loop of a block, wherever it stands. -/
def loopOf : Code → Nat → Option Code
  | .seq a b, id => match loopOf a id with
    | some c => some c
    | none => loopOf b id
  | .cond _ a b, id => match loopOf a id with
    | some c => some c
    | none => loopOf b id
  | .block i (.loop c), id => cond (Nat.beq i id) (some c) (loopOf c id)
  | .block _ c, id => loopOf c id
  | _, _ => none
def loopIn (F : Func) (id : Nat) : Code := match loopOf (bodyOf F) id with
  | some c => c
  | none => .skip

def lkS (fs : List (Nat × List Spec)) (f : Nat) : List Spec := match fs with
  | [] => []
  | (k, s) :: r => cond (Nat.beq k f) s (lkS r f)
def lkL (hs : List (Nat × LSpec)) (b : Nat) : Option LSpec := match hs with
  | [] => none
  | (k, s) :: r => cond (Nat.beq k b) (some s) (lkL r b)
def mkCx (T : Tab) (Φ : List (Nat × List Spec)) (lp : List (Nat × LSpec)) (mv : List Nat) (ntmps : Nat) : Cx :=
  ⟨T, lkS Φ, lkL lp, fun d => inL d mv, ntmps⟩
end Go.Rx

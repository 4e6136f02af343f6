/-
  ENGINE, part D: a function, or a loop's round, from its inputs to its outputs, as data (definitions).
  Seat-independent.
-/
import Derived.Test.YteenlfeglffnoaaRxC
namespace Go.Rx
open Go Go.RowKit
set_option linter.unusedVariables false

/-! the inputs as abstract values: each part has 64 numbers -/
def noMem : Mem := fun _ => .dead 0
def argsA (ps : List PK) (x : PKs.den ps) : List A := (partsOut 0 noMem ps x).1.map A.v
def startM (ps : List PK) (x : PKs.den ps) : Mem := updL noMem (partsOut 0 noMem ps x).2

/-! the outputs as data -/
def outIn (m : Mem) : (k : RK) → A → Option k.den
  | .none, .tup [] => some ()
  | .one p, .v x => argIn m p (.v x)
  | .tup ps, .tup vs => argsIn m ps (vs.map A.v)
  | _, _ => none
def boxesBack (m : Mem) (id : Nat) : (bs : List (List CK)) → Option (CKss.den bs)
  | [] => some ()
  | ks :: bs => match boxIn m ks id 0, boxesBack m (id + 8) bs with
    | some a, some b => some (a, b)
    | _, _ => none
/-- Rows that were lent to be written, at the numbers from b on. -/
def mutIn (m : Mem) (b : Nat) : (ks : List CK) → Option (Muts.den ks)
  | [] => some ()
  | .dat _ :: ks => mutIn m (b + 1) ks
  | .fn1 _ _ :: ks => mutIn m (b + 1) ks
  | .own e :: ks => match m b with
    | .arr n _ xs => cond (Nat.beq n 0) (match castRows e xs, mutIn m (b + 1) ks with
      | some a, some r => some (a, r)
      | _, _ => none) none
    | _ => none
def mutIds (b : Nat) : List CK → Ids
  | [] => Ids.none
  | .dat _ :: ks => mutIds (b + 1) ks
  | .fn1 _ _ :: ks => mutIds (b + 1) ks
  | .own _ :: ks => Ids.add ⟨[], [(b, true)]⟩ (mutIds (b + 1) ks)
def bxsIn (m : Mem) (i : Nat) : (ps : List PK) → Option (Bxs.den ps)
  | [] => some ()
  | .box ks :: ps => match boxIn m ks (64 * i) 0, bxsIn m (i + 1) ps with
      | some a, some b => some (a, b)
      | _, _ => none
  | .fn _ bs :: ps => match boxesBack m (64 * i) bs, bxsIn m (i + 1) ps with
      | some a, some b => some (a, b)
      | _, _ => none
  | .wr ag ks :: ps => cond (Bool.or ag (Nat.beq ks.length 1)) (match mutIn m (64 * i) ks, bxsIn m (i + 1) ps with
      | some a, some b => some (a, b)
      | _, _ => none) none
  | .c _ :: ps => bxsIn m (i + 1) ps
  | .agg _ :: ps => bxsIn m (i + 1) ps
def boxesBackIds (m : Mem) (id : Nat) : List (List CK) → Ids
  | [] => Ids.none
  | ks :: bs => (boxIds m ks id).add (boxesBackIds m (id + 8) bs)
def bxsIds (m : Mem) (i : Nat) : List PK → Ids
  | [] => Ids.none
  | .box ks :: ps => (boxIds m ks (64 * i)).add (bxsIds m (i + 1) ps)
  | .fn _ bs :: ps => (boxesBackIds m (64 * i) bs).add (bxsIds m (i + 1) ps)
  | .wr _ ks :: ps => (mutIds (64 * i) ks).add (bxsIds m (i + 1) ps)
  | .c _ :: ps => bxsIds m (i + 1) ps
  | .agg _ :: ps => bxsIds m (i + 1) ps
def outIds (m : Mem) : RK → A → Ids
  | .one p, .v x => argIds m p (.v x)
  | .tup ps, .tup vs => argsIds m ps (vs.map A.v)
  | _, _ => Ids.none
def idsOk (a : Ids) : Bool := Bool.and (noDup a.ids) (a.lent.all fun i => !inL i a.ids)
/-- No closures among the results. -/
def noFn : List PK → Bool
  | [] => true
  | .fn _ _ :: _ => false
  | _ :: ps => noFn ps
def outNoFn : RK → Bool
  | .none => true
  | .one p => noFn [p]
  | .tup ps => noFn ps
def exportA (ins : List PK) (out : RK) (v : A) (m : Mem) : Option (out.den × Bxs.den ins) :=
  cond (Bool.and (outNoFn out) (idsOk ((outIds m out v).add (bxsIds m 0 ins)))) (match outIn m out v, bxsIn m 0 ins with
    | some a, some b => some (a, b)
    | _, _ => none) none

/-! a function -/
def fstart (ins : List PK) (x : PKs.den ins) : St := ⟨fun i => ((argsA ins x)[i]?).getD (.c .any), startM ins x⟩
def fend (T : Tab) (ins : List PK) (out : RK) (rs : List ResultVar) : Out → St → Option (out.den × Bxs.den ins)
  | .exit _, _ => none
  | .norm, st => match resA T st rs with
    | some v => exportA ins out v st.m
    | none => none
  | .ret, st => match resA T st rs with
    | some v => exportA ins out v st.m
    | none => none
def bodyOf (F : Func) : Code := match F.body with
  | some c => c
  | none => .skip
def funRun (cx : Cx) (F : Func) (ins : List PK) (out : RK) (x : PKs.den ins) : Option (out.den × Bxs.den ins) :=
  match run cx (bodyOf F) (fstart ins x) with
  | some (o, st) => fend cx.T ins out F.results.toList o st
  | none => none
def funK (cx : Cx) (F : Func) (ins : List PK) (out : RK) (x : PKs.den ins) : Option (out.den × Bxs.den ins) :=
  runK cx (bodyOf F) (fstart ins x) (fend cx.T ins out F.results.toList)

/-! a loop's round -/
inductive LRes (ins out : List PK) where
  | go (x : PKs.den ins)
  | stop (flag : Nat) (y : PKs.den out) (b : Bxs.den ins)
def zipGet : List Nat → List A → Nat → A
  | s :: ss, v :: vs, i => cond (Nat.beq i s) v (zipGet ss vs i)
  | _, _, _ => .c .any
def lstart (live : List Nat) (ins : List PK) (x : PKs.den ins) : St := ⟨zipGet live (argsA ins x), startM ins x⟩
/-- The variables' addresses stand where they stood. -/
def sameCaps (id : Nat) : List (List CK) → List (Nat × Nat × Nat) → Bool
  | [], [] => true
  | _ :: bs, (i, v, o) :: r => Bool.and (Nat.beq i id) (Bool.and (Nat.beq v 0) (Bool.and (Nat.beq o 0) (sameCaps (id + 8) bs r)))
  | _, _ => false
def sameBox (i : Nat) : List PK → List A → Bool
  | [], [] => true
  | .box _ :: ps, .v (.c (.ptr id v o)) :: xs => Bool.and (Nat.beq id (64 * i)) (Bool.and (Nat.beq v 0) (Bool.and (Nat.beq o 0) (sameBox (i + 1) ps xs)))
  | .fn f bs :: ps, .v (.c (.fn f' caps)) :: xs => Bool.and (Nat.beq f f') (Bool.and (sameCaps (64 * i) bs caps) (sameBox (i + 1) ps xs))
  | .wr false [.own _] :: ps, .v (.c (.ref id v)) :: xs => Bool.and (Nat.beq id (64 * i)) (Bool.and (Nat.beq v 0) (sameBox (i + 1) ps xs))
  | .c _ :: ps, _ :: xs => sameBox (i + 1) ps xs
  | .agg _ :: ps, _ :: xs => sameBox (i + 1) ps xs
  | _, _ => false
def stopA (ls : LSpec) (flag : Nat) (st : St) : Option (LRes ls.ins ls.out) :=
  cond (Bool.and (noFn ls.out) (idsOk ((argsIds st.m ls.out (ls.outs.map st.sl)).add (bxsIds st.m 0 ls.ins))))
    (match argsIn st.m ls.out (ls.outs.map st.sl), bxsIn st.m 0 ls.ins with
     | some y, some b => some (.stop flag y b)
     | _, _ => none) none
def lend (id : Nat) (ls : LSpec) : Out → St → Option (LRes ls.ins ls.out)
  | .norm, st => cond (Bool.and (sameBox 0 ls.ins (ls.live.map st.sl)) (idsOk (argsIds st.m ls.ins (ls.live.map st.sl))))
    (match argsIn st.m ls.ins (ls.live.map st.sl) with
     | some x => some (.go x)
     | none => none) none
  | .exit i, st => cond (Nat.beq i id) (stopA ls 0 st) (stopA ls (i + 2) st)
  | .ret, st => stopA ls 1 st
def roundRun (cx : Cx) (id : Nat) (c : Code) (ls : LSpec) (x : PKs.den ls.ins) : Option (LRes ls.ins ls.out) :=
  match run cx c (lstart ls.live ls.ins x) with
  | some (o, st) => lend id ls o st
  | none => none
def roundK (cx : Cx) (id : Nat) (c : Code) (ls : LSpec) (x : PKs.den ls.ins) : Option (LRes ls.ins ls.out) :=
  runK cx c (lstart ls.live ls.ins x) (lend id ls)
def iter {ins out : List PK} (f : PKs.den ins → Option (LRes ins out)) : Nat → PKs.den ins → Option ((Nat × PKs.den out) × Bxs.den ins)
  | 0, _ => none
  | n + 1, x => match f x with
    | some (.go x') => iter f n x'
    | some (.stop flag y b) => some ((flag, y), b)
    | none => none

/-- The loop of a block, wherever it stands. -/
def loopOf : Code → Nat → Option Code
  | .seq a b, id => match loopOf a id with
    | some c => some c
    | none => loopOf b id
  | .cond _ a b, id => match loopOf a id with
    | some c => some c
    | none => loopOf b id
  | .block i (.loop c), id => cond (Nat.beq i id) (some c) (loopOf c id)
  | .block _ c, id => loopOf c id
  | _, _ => none
def loopIn (F : Func) (id : Nat) : Code := match loopOf (bodyOf F) id with
  | some c => c
  | none => .skip

def lkS (fs : List (Nat × List Spec)) (f : Nat) : List Spec := match fs with
  | [] => []
  | (k, s) :: r => cond (Nat.beq k f) s (lkS r f)
def lkL (hs : List (Nat × LSpec)) (b : Nat) : Option LSpec := match hs with
  | [] => none
  | (k, s) :: r => cond (Nat.beq k b) (some s) (lkL r b)
def mkCx (T : Tab) (Φ : List (Nat × List Spec)) (lp : List (Nat × LSpec)) (mv : List Nat) (ntmps : Nat) : Cx :=
  ⟨T, lkS Φ, lkL lp, fun d => inL d mv, ntmps⟩
end Go.Rx

/-
  ENGINE, part B: what each operation does to abstract values and objects (definitions alone).
  Seat-independent.
-/
import Derived.Test.YtoagkidolpcigaaRxA
namespace Go.Rx
open Go Go.RowKit
set_option linter.unusedVariables false

/-! ### what is told of a type -/
structure TyI where
  size : Nat
  bytes : Nat
  agg : Bool
  elem : Option Nat
  int : Option IntKind
  isStr : Bool
  isBool : Bool
  offs : List (Nat × Nat)
  cells : List C
  tys : Tys
  eq : Bool
  map : Bool

abbrev Tab := List (Nat × TyI)
def Tab.get : Tab → Nat → Option TyI
  | [], _ => none
  | (k, i) :: r, t => cond (Nat.beq k t) (some i) (Tab.get r t)

/-! ### contracts -/
inductive CK where
  | dat (t : Ty)
  | own (e : Tys)
  | fn1 (f : Nat) (ts : Tys)
  | map
abbrev CK.den : CK → Type
  | .dat t => t.den
  | .own e => List e.den
  | .fn1 _ ts => ts.den
  | .map => List ByteArray
abbrev CKs.den : List CK → Type
  | [] => Unit
  | k :: ks => k.den × CKs.den ks
abbrev CKss.den : List (List CK) → Type
  | [] => Unit
  | ks :: r => CKs.den ks × CKss.den r
inductive PK where
  | c (k : CK)
  | agg (ks : List CK)
  | box (ks : List CK)
  | fn (f : Nat) (bs : List (List CK))
  | wr (ag : Bool) (ks : List CK)
abbrev PK.den : PK → Type
  | .c k => k.den
  | .agg ks => CKs.den ks
  | .box ks => CKs.den ks
  | .fn _ bs => CKss.den bs
  | .wr _ ks => CKs.den ks
abbrev PKs.den : List PK → Type
  | [] => Unit
  | p :: ps => p.den × PKs.den ps
/-- What the rows hold behind a call that are lent to be written. -/
abbrev Muts.den : List CK → Type
  | [] => Unit
  | .own e :: ks => List e.den × Muts.den ks
  | .dat _ :: ks => Muts.den ks
  | .fn1 _ _ :: ks => Muts.den ks
  | .map :: ks => Muts.den ks
/-- What the variables hold behind the call whose addresses are handed on (a closure's, too). -/
abbrev Bxs.den : List PK → Type
  | [] => Unit
  | .box ks :: ps => CKs.den ks × Bxs.den ps
  | .fn _ bs :: ps => CKss.den bs × Bxs.den ps
  | .wr _ ks :: ps => Muts.den ks × Bxs.den ps
  | .c _ :: ps => Bxs.den ps
  | .agg _ :: ps => Bxs.den ps
inductive RK where
  | none
  | one (p : PK)
  | tup (ps : List PK)
abbrev RK.den : RK → Type
  | .none => Unit
  | .one p => p.den
  | .tup ps => PKs.den ps
structure Spec where
  ins : List PK
  out : RK
  share : Bool
  pre : PKs.den ins → Bool
  g : PKs.den ins → RK.den out × Bxs.den ins

/-! ### plans -/
structure Res where
  cs : List Bool
  v : A
  ws : List (Nat × Ob)
structure Plan where
  rd : List Nat
  wr : List Nat
  go : Mem → Option Res

def pureP (v : A) : Option Plan := some ⟨[], [], fun _ => some ⟨[], v, []⟩⟩
def pureC (cs : List Bool) (v : A) : Option Plan := some ⟨[], [], fun _ => some ⟨cs, v, []⟩⟩

def inL : Nat → List Nat → Bool
  | _, [] => false
  | x, y :: r => Bool.or (Nat.beq x y) (inL x r)
def restr (l : List Nat) (m : Mem) : Mem := fun id => cond (inL id l) (m id) (.dead 0)
def upd {α : Type} (f : Nat → α) (i : Nat) (v : α) : Nat → α := fun j => cond (Nat.beq j i) v (f j)
def updL (m : Mem) : List (Nat × Ob) → Mem
  | [] => m
  | p :: r => upd (updL m r) p.1 p.2

def intBin (op : BinOp) (k : IntKind) (x y : Int) : Option (List Bool × C) :=
  match op with
  | .add => some ([], .d (.int k) (k.wrap (x + y)))
  | .sub => some ([], .d (.int k) (k.wrap (x - y)))
  | .mul => some ([], .d (.int k) (k.wrap (x * y)))
  | .quo => some ([!decide (y = 0)], .d (.int k) (k.wrap (x.tdiv y)))
  | .rem => some ([!decide (y = 0)], .d (.int k) (x.tmod y))
  | .eql => some ([], .d .bool (decide (x = y)))
  | .neq => some ([], .d .bool (!decide (x = y)))
  | .lss => some ([], .d .bool (decide (x < y)))
  | .leq => some ([], .d .bool (decide (x ≤ y)))
  | .gtr => some ([], .d .bool (decide (x > y)))
  | .geq => some ([], .d .bool (decide (x ≥ y)))
  | .xor => some ([], .d (.int k) (k.wrap ((BitVec.ofInt k.bits x) ^^^ (BitVec.ofInt k.bits y)).toNat))
  | _ => none

def strEq (x y : ByteArray) : Bool := decide (x.data = y.data)
def strLt (x y : ByteArray) : Bool := Op.bytesLess x.toList y.toList

def strBin (op : BinOp) (x y : ByteArray) : Option (List Bool × C) :=
  match op with
  | .add => some ([decide (x.size + y.size ≤ 9223372036854775807)], .d .str (x ++ y))
  | .eql => some ([], .d .bool (strEq x y))
  | .neq => some ([], .d .bool (!strEq x y))
  | .lss => some ([], .d .bool (strLt x y))
  | .leq => some ([], .d .bool (strLt x y || strEq x y))
  | .gtr => some ([], .d .bool (!(strLt x y || strEq x y)))
  | .geq => some ([], .d .bool (!strLt x y))
  | _ => none

def boolBin (op : BinOp) (x y : Bool) : Option (List Bool × C) :=
  match op with
  | .eql => some ([], .d .bool (x == y))
  | .neq => some ([], .d .bool (!(x == y)))
  | _ => none

/-- '==' of two cells. -/
def cellEq : C → C → Option Bool
  | .d (.int k) x, .d (.int k') y => if k = k' then some (decide (x = y)) else none
  | .d .bool x, .d .bool y => some (x == y)
  | .d .str x, .d .str y => some (strEq x y)
  | _, _ => none
def cellsEq : List C → List C → Option Bool
  | [], [] => some true
  | x :: xs, y :: ys => match cellEq x y, cellsEq xs ys with
    | some a, some b => some (a && b)
    | _, _ => none
  | _, _ => none

/-- Can structs of the type be compared cell by cell? -/
def simpleTys : Tys → Bool
  | .nil => true
  | .cons (.int _) ts => simpleTys ts
  | .cons .bool ts => simpleTys ts
  | .cons .str ts => simpleTys ts
  | .cons (.sl _) _ => false
def cellTy : C → Ty → Bool
  | .d (.int k) _, .int k' => k = k'
  | .d .bool _, .bool => true
  | .d .str _, .str => true
  | _, _ => false
def cellsTy : List C → Tys → Bool
  | [], .nil => true
  | x :: xs, .cons t ts => Bool.and (cellTy x t) (cellsTy xs ts)
  | _, _ => false
def binV (T : Tab) (t : Nat) (op : BinOp) (x y : A) : Option (List Bool × C) :=
  match x, y with
  | .v (.c (.d (.int k) a)), .v (.c (.d (.int k') b)) => match op with
    | .shl => some ([decide (0 ≤ b)], .d (.int k) (k.wrap (a * 2 ^ (min b.toNat k.bits))))
    | .shr => some ([decide (0 ≤ b)], .d (.int k) (a.fdiv (2 ^ (min b.toNat k.bits))))
    | _ => if k = k' then intBin op k a b else none
  | .v (.c (.d .str a)), .v (.c (.d .str b)) => strBin op a b
  | .v (.c (.d .bool a)), .v (.c (.d .bool b)) => match T.get t with
    | some i => cond i.isBool (boolBin op a b) none
    | none => none
  | .v (.agg xs), .v (.agg ys) => match T.get t with
    | some i => cond (Bool.and i.eq (Bool.and (cellsTy xs i.tys) (cellsTy ys i.tys))) (match op with
      | .eql => (cellsEq xs ys).map fun b => ([], .d .bool b)
      | .neq => (cellsEq xs ys).map fun b => ([], .d .bool (!b))
      | _ => none) none
    | none => none
  | _, _ => none

def bt (s : ByteArray) (i : Int) : Int := ((s.data.getD i.toNat 0).toNat : Int)

def V.cells : V → List C
  | .c x => [x]
  | .agg xs => xs

/-- A value that is one cell for sure. -/
def oneC : C → Bool
  | .any => false
  | _ => true
/-- Is a cell data, or what reads as data? -/
def castTo {t' : Ty} (t : Ty) (x : t'.den) : Option t.den := match Ty.eq? t' t with
  | some ⟨h⟩ => some (h ▸ x)
  | none => none
def castRows {e' : Tys} (e : Tys) (xs : List e'.den) : Option (List e.den) := match Tys.eq? e' e with
  | some ⟨h⟩ => some (h ▸ xs)
  | none => none
def refRows (m : Mem) (id ver : Nat) (e : Tys) : Option (List e.den) := match m id with
  | .arr n _ xs => cond (Nat.beq ver n) (castRows e xs) none
  | .frz n _ xs => cond (Nat.beq ver n) (castRows e xs) none
  | _ => none
def toD (m : Mem) : (t : Ty) → C → Option t.den
  | t, .d _ x => castTo t x
  | .sl _, .nil => some []
  | .sl e, .ref id ver => refRows m id ver e
  | .sl e, .part id ver lo hi => match refRows m id ver e with
    | some xs => some ((xs.take hi).drop lo)
    | none => none
  | _, _ => none
def toRow (m : Mem) : (ts : Tys) → List C → Option ts.den
  | .nil, [] => some ()
  | .cons t ts, x :: xs => match toD m t x, toRow m ts xs with
    | some a, some b => some (a, b)
    | _, _ => none
  | _, _ => none
def refIds : List C → List Nat
  | [] => []
  | .ref id _ :: r => id :: refIds r
  | .part id _ _ _ :: r => id :: refIds r
  | _ :: r => refIds r
def frzOb : Ob → Ob
  | .arr n e xs => .frz n e xs
  | o => o
def frzAll (m : Mem) (l : List Nat) : List (Nat × Ob) := l.map fun id => (id, frzOb (m id))
def Ob.bump : Ob → Ob
  | o => .dead (o.ver + 1)

/-- Cells set from place k on. -/
def setCells : List C → Nat → List C → List C
  | cs, _, [] => cs
  | cs, k, x :: xs => setCells (cs.set k x) (k + 1) xs

/-- Parts laid into cells. -/
def fillC (place : Nat → Option (Nat × Nat)) : List C → List (Nat × List C) → Option (List C)
  | cells, [] => some cells
  | cells, (i, v) :: r => match place i with
    | some (off, size) => cond (Bool.and (Nat.beq v.length size) (Nat.ble (off + v.length) cells.length)) (fillC place (setCells cells off v) r) none
    | none => none

def rowsOf (m : Mem) (e : Tys) (size : Nat) : Nat → List C → Option (List e.den)
  | 0, _ => some []
  | n + 1, cs => match toRow m e (cs.take size), rowsOf m e size n (cs.drop size) with
    | some r, some rs => some (r :: rs)
    | _, _ => none

/-- A row with cells set from place k on. -/
def setRow : (ts : Tys) → ts.den → Nat → List C → (Mem) → Option ts.den
  | .nil, r, _, [], _ => some r
  | .nil, _, _, _ :: _, _ => none
  | .cons t ts, r, k + 1, xs, m => (setRow ts r.2 k xs m).map fun r' => (r.1, r')
  | .cons t ts, r, 0, [], m => some r
  | .cons t ts, r, 0, x :: xs, m => match toD m t x, setRow ts r.2 0 xs m with
    | some a, some b => some (a, b)
    | _, _ => none

def asInt? : A → Option Int
  | .v (.c (.d (.int _) n)) => some n
  | _ => none

def okSize (bytes : Nat) (n : Nat) : Bool := decide (n * bytes ≤ 140737488355328)

/-! arguments of a contract -/
def cellIn (m : Mem) : (k : CK) → C → Option k.den
  | .dat t, x => toD m t x
  | .own e, .ref id ver => match m id with
    | .arr n _ xs => cond (Nat.beq ver n) (castRows e xs) none
    | _ => none
  | .own _, .nil => some []
  | .own _, _ => none
  | .fn1 f ts, .fn f' [(id, ver, 0)] => match m id with
    | .box n cs => cond (Bool.and (Nat.beq f f') (Nat.beq ver n)) (toRow (fun _ => .dead 0) ts cs) none
    | _ => none
  | .fn1 _ _, _ => none
  | .map, .mref id ver => match m id with
    | .map n ks => cond (Nat.beq ver n) (some ks) none
    | _ => none
  | .map, _ => none
def cellsIn (m : Mem) : (ks : List CK) → List C → Option (CKs.den ks)
  | [], [] => some ()
  | k :: ks, x :: xs => match cellIn m k x, cellsIn m ks xs with
    | some a, some b => some (a, b)
    | _, _ => none
  | _, _ => none
def boxIn (m : Mem) (ks : List CK) (id ver : Nat) : Option (CKs.den ks) := match m id with
  | .box n cs => cond (Nat.beq ver n) (cellsIn m ks cs) none
  | _ => none
def boxesIn (m : Mem) : (bs : List (List CK)) → List (Nat × Nat × Nat) → Option (CKss.den bs)
  | [], [] => some ()
  | ks :: bs, (id, ver, 0) :: r => match boxIn m ks id ver, boxesIn m bs r with
    | some a, some b => some (a, b)
    | _, _ => none
  | _, _ => none
def argIn (m : Mem) : (p : PK) → A → Option p.den
  | .c k, .v (.c x) => cellIn m k x
  | .agg ks, .v (.agg xs) => cellsIn m ks xs
  | .box ks, .v (.c (.ptr id ver 0)) => boxIn m ks id ver
  | .fn f bs, .v (.c (.fn f' caps)) => cond (Nat.beq f f') (boxesIn m bs caps) none
  | .wr true ks, .v (.agg xs) => cellsIn m ks xs
  | .wr false ks, .v (.c x) => cellsIn m ks [x]
  | _, _ => none
def argsIn (m : Mem) : (ps : List PK) → List A → Option (PKs.den ps)
  | [], [] => some ()
  | p :: ps, x :: xs => match argIn m p x, argsIn m ps xs with
    | some a, some b => some (a, b)
    | _, _ => none
  | _, _ => none
/-- The objects that are lent; those that are handed over (for good: false; variables whose address is handed on: true). -/
structure Ids where
  lent : List Nat
  all : List (Nat × Bool)
def Ids.none : Ids := ⟨[], []⟩
def Ids.add (a b : Ids) : Ids := ⟨a.lent ++ b.lent, a.all ++ b.all⟩
def Ids.ids (a : Ids) : List Nat := a.all.map fun p => p.1
def Ids.own (a : Ids) : List Nat := (a.all.filter fun p => !p.2).map fun p => p.1
def cellIds : CK → C → Ids
  | .dat _, .ref id _ => ⟨[id], []⟩
  | .dat _, .part id _ _ _ => ⟨[id], []⟩
  | .own _, .ref id _ => ⟨[], [(id, false)]⟩
  | .fn1 _ _, .fn _ [(id, _, _)] => ⟨[], [(id, false)]⟩
  | .map, .mref id _ => ⟨[], [(id, false)]⟩
  | _, _ => Ids.none
/-- Rows that are lent to be written stay. -/
def cellIdsM : CK → C → Ids
  | .dat _, .ref id _ => ⟨[id], []⟩
  | .dat _, .part id _ _ _ => ⟨[id], []⟩
  | .own _, .ref id _ => ⟨[], [(id, true)]⟩
  | .fn1 _ _, .fn _ [(id, _, _)] => ⟨[], [(id, false)]⟩
  | .map, .mref id _ => ⟨[], [(id, false)]⟩
  | _, _ => Ids.none
def cellsIdsM : List CK → List C → Ids
  | k :: ks, x :: xs => (cellIdsM k x).add (cellsIdsM ks xs)
  | _, _ => Ids.none
def cellsIds : List CK → List C → Ids
  | k :: ks, x :: xs => (cellIds k x).add (cellsIds ks xs)
  | _, _ => Ids.none
/-- A variable, and what it holds. -/
def boxIds (m : Mem) (ks : List CK) (id : Nat) : Ids := match m id with
  | .box _ cs => Ids.add ⟨[], [(id, true)]⟩ (cellsIds ks cs)
  | _ => ⟨[], [(id, true)]⟩
def boxesIds (m : Mem) : List (List CK) → List (Nat × Nat × Nat) → Ids
  | ks :: bs, p :: r => (boxIds m ks p.1).add (boxesIds m bs r)
  | _, _ => Ids.none
def argIds (m : Mem) : PK → A → Ids
  | .c k, .v (.c x) => cellIds k x
  | .agg ks, .v (.agg xs) => cellsIds ks xs
  | .box ks, .v (.c (.ptr id _ _)) => boxIds m ks id
  | .fn _ bs, .v (.c (.fn _ caps)) => boxesIds m bs caps
  | .wr true ks, .v (.agg xs) => cellsIdsM ks xs
  | .wr false ks, .v (.c x) => cellsIdsM ks [x]
  | _, _ => Ids.none
def argsIds (m : Mem) : List PK → List A → Ids
  | p :: ps, x :: xs => (argIds m p x).add (argsIds m ps xs)
  | _, _ => Ids.none

def noDup : List Nat → Bool
  | [] => true
  | x :: r => Bool.and (!inL x r) (noDup r)

/-! what a contract tells: a value, and new objects from number b on -/
def rowCs : (ts : Tys) → ts.den → List C
  | .nil, _ => []
  | .cons t ts, r => .d t r.1 :: rowCs ts r.2
def vOf (ag : Bool) (cs : List C) : V := cond ag (.agg cs) (match cs with
  | [c] => .c c
  | cs => .agg cs)
def cellOut (b : Nat) (m : Mem) : (k : CK) → k.den → C × List (Nat × Ob)
  | .dat t, x => (.d t x, [])
  | .own e, xs => (.ref b (m b).ver, [(b, .arr (m b).ver e xs)])
  | .fn1 f ts, x => (.fn f [(b, (m b).ver, 0)], [(b, .box (m b).ver (rowCs ts x))])
  | .map, ks => (.mref b (m b).ver, [(b, .map (m b).ver ks)])
def cellsOut (b : Nat) (m : Mem) : (ks : List CK) → CKs.den ks → List C × List (Nat × Ob)
  | [], _ => ([], [])
  | k :: ks, r => ((cellOut b m k r.1).1 :: (cellsOut (b + 1) m ks r.2).1, (cellOut b m k r.1).2 ++ (cellsOut (b + 1) m ks r.2).2)
def boxNewOut (b : Nat) (m : Mem) (ks : List CK) (x : CKs.den ks) : List (Nat × Ob) := (b, .box (m b).ver (cellsOut (b + 1) m ks x).1) :: (cellsOut (b + 1) m ks x).2
def boxesNewOut (b : Nat) (m : Mem) : (bs : List (List CK)) → CKss.den bs → List (Nat × Nat × Nat) × List (Nat × Ob)
  | [], _ => ([], [])
  | ks :: bs, x => ((b, (m b).ver, 0) :: (boxesNewOut (b + 8) m bs x.2).1, boxNewOut b m ks x.1 ++ (boxesNewOut (b + 8) m bs x.2).2)
def partOut (b : Nat) (m : Mem) : (p : PK) → p.den → V × List (Nat × Ob)
  | .c k, x => (.c (cellOut b m k x).1, (cellOut b m k x).2)
  | .agg ks, x => (.agg (cellsOut b m ks x).1, (cellsOut b m ks x).2)
  | .box ks, x => (.c (.ptr b (m b).ver 0), boxNewOut b m ks x)
  | .fn f bs, x => (.c (.fn f (boxesNewOut b m bs x).1), (boxesNewOut b m bs x).2)
  | .wr ag ks, x => (vOf ag (cellsOut b m ks x).1, (cellsOut b m ks x).2)
/-- Each part has 64 numbers. -/
def partsOut (b : Nat) (m : Mem) : (ps : List PK) → PKs.den ps → List V × List (Nat × Ob)
  | [], _ => ([], [])
  | p :: ps, r => ((partOut b m p r.1).1 :: (partsOut (b + 64) m ps r.2).1, (partOut b m p r.1).2 ++ (partsOut (b + 64) m ps r.2).2)
def resOut (b : Nat) (m : Mem) : (k : RK) → k.den → A × List (Nat × Ob)
  | .none, _ => (.tup [], [])
  | .one p, x => (.v (partOut b m p x).1, (partOut b m p x).2)
  | .tup ps, x => (.tup (partsOut b m ps x).1, (partsOut b m ps x).2)

/-! the numbers of the new objects -/
def cellNew (b : Nat) : CK → List Nat
  | .dat _ => []
  | .own _ => [b]
  | .fn1 _ _ => [b]
  | .map => [b]
def cellsNew (b : Nat) : List CK → List Nat
  | [] => []
  | k :: ks => cellNew b k ++ cellsNew (b + 1) ks
def boxNew (b : Nat) (ks : List CK) : List Nat := b :: cellsNew (b + 1) ks
def boxesNew (b : Nat) : List (List CK) → List Nat
  | [] => []
  | ks :: bs => boxNew b ks ++ boxesNew (b + 8) bs
def partNew (b : Nat) : PK → List Nat
  | .c k => cellNew b k
  | .agg ks => cellsNew b ks
  | .box ks => boxNew b ks
  | .fn _ bs => boxesNew b bs
  | .wr _ ks => cellsNew b ks
def partsNew (b : Nat) : List PK → List Nat
  | [] => []
  | p :: ps => partNew b p ++ partsNew (b + 64) ps
def resNew (b : Nat) : RK → List Nat
  | .none => []
  | .one p => partNew b p
  | .tup ps => partsNew b ps
/-- New rows in variables that are there. -/
def backsNew (b : Nat) : List (List CK) → List Nat
  | [] => []
  | ks :: bs => cellsNew b ks ++ backsNew (b + 8) bs
def bxsNew (b : Nat) : List PK → List Nat
  | [] => []
  | .box ks :: ps => cellsNew b ks ++ bxsNew (b + 64) ps
  | .fn _ bs :: ps => backsNew b bs ++ bxsNew (b + 64) ps
  | .wr _ _ :: ps => bxsNew b ps
  | .c _ :: ps => bxsNew b ps
  | .agg _ :: ps => bxsNew b ps
def newIds (bid : Nat) (sp : Spec) : List Nat := resNew bid sp.out ++ bxsNew (bid + 2048) sp.ins

def isDead : Ob → Bool
  | .dead _ => true
  | _ => false

/-- The variables whose address was handed on: what they hold behind the call (rows of their own: new numbers from b on). -/
def boxOut (b : Nat) (m : Mem) (ks : List CK) (id : Nat) (x : CKs.den ks) : List (Nat × Ob) := (id, .box (m id).ver (cellsOut b m ks x).1) :: (cellsOut b m ks x).2
def boxesOut (b : Nat) (m : Mem) : (bs : List (List CK)) → List (Nat × Nat × Nat) → CKss.den bs → List (Nat × Ob)
  | ks :: bs, p :: r, x => boxOut b m ks p.1 x.1 ++ boxesOut (b + 8) m bs r x.2
  | _, _, _ => []
def bxsOut (b : Nat) (m : Mem) : (ps : List PK) → List A → Bxs.den ps → List (Nat × Ob)
  | .box ks :: ps, .v (.c (.ptr id _ _)) :: xs, r => boxOut b m ks id r.1 ++ bxsOut (b + 64) m ps xs r.2
  | .fn _ bs :: ps, .v (.c (.fn _ caps)) :: xs, r => boxesOut b m bs caps r.1 ++ bxsOut (b + 64) m ps xs r.2
  | .wr _ _ :: ps, _ :: xs, r => bxsOut b m ps xs r.2
  | .c _ :: ps, _ :: xs, r => bxsOut b m ps xs r
  | .agg _ :: ps, _ :: xs, r => bxsOut b m ps xs r
  | _, _, _ => []
/-- Rows that were lent to be written, where they are. -/
def mutOut1 (m : Mem) : (ks : List CK) → List C → Muts.den ks → List (Nat × Ob)
  | .own e :: ks, .ref id _ :: xs, r => (id, .arr (m id).ver e r.1) :: mutOut1 m ks xs r.2
  | .own _ :: ks, _ :: xs, r => mutOut1 m ks xs r.2
  | .dat _ :: ks, _ :: xs, r => mutOut1 m ks xs r
  | .fn1 _ _ :: ks, _ :: xs, r => mutOut1 m ks xs r
  | .map :: ks, _ :: xs, r => mutOut1 m ks xs r
  | _, _, _ => []
def mutOut (m : Mem) : (ps : List PK) → List A → Bxs.den ps → List (Nat × Ob)
  | .wr true ks :: ps, .v (.agg cs) :: xs, r => mutOut1 m ks cs r.1 ++ mutOut m ps xs r.2
  | .wr false ks :: ps, .v (.c x) :: xs, r => mutOut1 m ks [x] r.1 ++ mutOut m ps xs r.2
  | .wr _ _ :: ps, _ :: xs, r => mutOut m ps xs r.2
  | .box _ :: ps, _ :: xs, r => mutOut m ps xs r.2
  | .fn _ _ :: ps, _ :: xs, r => mutOut m ps xs r.2
  | .c _ :: ps, _ :: xs, r => mutOut m ps xs r
  | .agg _ :: ps, _ :: xs, r => mutOut m ps xs r
  | _, _, _ => []
/-! no slices within -/
def flatTy : Ty → Bool
  | .sl _ => false
  | _ => true
def flatTys : Tys → Bool
  | .nil => true
  | .cons t ts => Bool.and (flatTy t) (flatTys ts)
def flatCK : CK → Bool
  | .dat t => flatTy t
  | .own e => flatTys e
  | .fn1 _ ts => flatTys ts
  | .map => true
def flatPK : PK → Bool
  | .c k => flatCK k
  | .agg ks => ks.all flatCK
  | .box ks => ks.all flatCK
  | .fn _ bs => bs.all fun ks => ks.all flatCK
  | .wr _ ks => ks.all flatCK
def flatRK : RK → Bool
  | .none => true
  | .one p => flatPK p
  | .tup ps => ps.all flatPK
def isBoxPK : PK → Bool
  | .box _ => true
  | .fn _ _ => true
  | .wr _ _ => true
  | _ => false
/-- Nothing that a contract tells reads what was lent. -/
def flatOut (sp : Spec) : Bool := Bool.and (flatRK sp.out) ((sp.ins.filter isBoxPK).all flatPK)

/-- A contract met: the value told, what is written. -/
def meet (sp : Spec) (bid : Nat) (xs : List A) (ids : Ids) (m : Mem) : Option Res :=
  cond ((newIds bid sp).all fun i => isDead (m i))
    ((argsIn m sp.ins xs).bind fun x =>
      some ⟨[sp.pre x], (resOut bid m sp.out (sp.g x).1).1,
        (resOut bid m sp.out (sp.g x).1).2 ++ (bxsOut (bid + 2048) m sp.ins xs (sp.g x).2 ++ (mutOut m sp.ins xs (sp.g x).2 ++ ((ids.own.map fun i => (i, (m i).bump)) ++ cond sp.share (frzAll m ids.lent) [])))⟩)
    none

def callOk (sp : Spec) (bid : Nat) (ids : Ids) : Bool :=
  Bool.and (noDup (newIds bid sp ++ (ids.ids ++ cond sp.share ids.lent []))) (Bool.and (ids.lent.all fun i => !inL i (newIds bid sp ++ ids.ids)) (Bool.or sp.share (flatOut sp)))
def callP (sp : Spec) (bid : Nat) (xs : List A) (mm : Mem) : Option Plan :=
  cond (callOk sp bid (argsIds mm sp.ins xs))
    (some ⟨cond sp.share [] (argsIds mm sp.ins xs).lent, newIds bid sp ++ ((argsIds mm sp.ins xs).ids ++ cond sp.share (argsIds mm sp.ins xs).lent []),
      meet sp bid xs (argsIds mm sp.ins xs)⟩)
    none

def elemI (T : Tab) (t : Nat) : Option (Nat × TyI) := match T.get t with
  | some i => match i.elem with
    | some e => (T.get e).map fun j => (e, j)
    | none => none
  | none => none

def idxP (T : Tab) (t : Nat) (x : A) (n : Int) : Option Plan :=
  match elemI T t with
  | none => none
  | some (_, j) => match x with
    | .v (.c (.d (.sl e) xs)) => cond (Nat.beq j.size e.len)
        (pureC [decide (0 ≤ n), decide (n < ((show List e.den from xs).length : Int))] (.c (.vptr e ((show List e.den from xs).getD n.toNat e.zero)))) none
    | .v (.c .nil) => pureC [false] (.c .any)
    | .v (.c (.ref id ver)) => some ⟨[id], [], fun m => match m id with
        | .arr k e xs => cond (Bool.and (Nat.beq ver k) (Nat.beq j.size e.len)) (some ⟨[decide (0 ≤ n), decide (n < (xs.length : Int))], .c (.eptr id ver n.toNat 0), []⟩) none
        | .frz k e xs => cond (Bool.and (Nat.beq ver k) (Nat.beq j.size e.len)) (some ⟨[decide (0 ≤ n), decide (n < (xs.length : Int))], .c (.vptr e (xs.getD n.toNat e.zero)), []⟩) none
        | _ => none⟩
    | _ => none

def aggOf (a : Bool) (cs : List C) : Option A := cond a (some (.v (.agg cs))) (match cs with | [c] => some (.c c) | _ => none)

def loadP (T : Tab) (t : Nat) (x : A) : Option Plan :=
  match T.get t with
  | none => none
  | some i => match x with
    | .v (.c (.vptr ts r)) => match ts.first r i.size with
      | some cs => (aggOf i.agg cs).bind pureP
      | none => none
    | .v (.c (.ptr id ver off)) => some ⟨[id], [], fun m => match m id with
        | .box n cs => cond (Bool.and (Nat.beq ver n) (Nat.ble (off + i.size) cs.length)) ((aggOf i.agg ((cs.drop off).take i.size)).map fun v => ⟨[], v, []⟩) none
        | _ => none⟩
    | .v (.c (.eptr id ver k off)) => some ⟨[id], [], fun m => match m id with
        | .arr n e xs => cond (Nat.beq ver n) (match (e.drop off).first (e.dropR off (xs.getD k e.zero)) i.size with
            | some cs => (aggOf i.agg cs).map fun v => ⟨[decide (k < xs.length)], v, []⟩
            | none => none) none
        | _ => none⟩
    | _ => none

def storeP (T : Tab) (t : Nat) (x y : A) : Option Plan :=
  match T.get t, y with
  | some i, .v yv => cond (Bool.and (Bool.and (yv.cells.all oneC) (Nat.ble 1 i.size)) (Nat.beq i.size yv.cells.length)) (match x with
    | .v (.c (.ptr id ver off)) => some ⟨[], [id], fun m => match m id with
        | .box n cs => cond (Bool.and (Nat.beq ver n) (Nat.ble (off + i.size) cs.length)) (some ⟨[], .tup [], [(id, .box n (setCells cs off yv.cells))]⟩) none
        | _ => none⟩
    | .v (.c (.eptr id ver k off)) => cond (noDup (id :: refIds yv.cells)) (some ⟨[], id :: refIds yv.cells, fun m => match m id with
        | .arr n e xs => cond (Nat.beq ver n) (match setRow e (xs.getD k e.zero) off yv.cells m with
            | some r => some ⟨[decide (k < xs.length)], .tup [], (id, .arr n e (xs.set k r)) :: frzAll m (refIds yv.cells)⟩
            | none => none) none
        | _ => none⟩) none
    | _ => none) none
  | _, _ => none

def partsC (ev : Operand → A) : List (Nat × Operand) → Option (List (Nat × List C))
  | [] => some []
  | (i, x) :: r => match ev x, partsC ev r with
    | .v v, some l => cond (v.cells.all oneC) (some ((i, v.cells) :: l)) none
    | _, _ => none

def buildSliceP (T : Tab) (bid t len : Nat) (ps : List (Nat × List C)) : Option Plan :=
  match elemI T t with
  | none => none
  | some (_, j) => match fillC (fun i => some (i * j.size, j.size)) (List.replicate len j.cells).flatten ps with
    | none => none
    | some cs => cond (Bool.and (noDup (bid :: refIds cs)) (Bool.and (Nat.beq j.size j.tys.len) (Bool.and (Nat.beq j.cells.length j.size) (Nat.ble (len * j.size) 16777216))))
      (some ⟨[], bid :: refIds cs, fun m => cond (isDead (m bid)) (match rowsOf m j.tys j.size len cs with
          | some rs => some ⟨[], .c (.ref bid (m bid).ver), (bid, .arr (m bid).ver j.tys rs) :: frzAll m (refIds cs)⟩
          | none => none) none⟩)
      none

def appendP (T : Tab) (bid t : Nat) (x y : A) : Option Plan :=
  match elemI T t with
  | none => none
  | some (_, j) => cond (Bool.and (Bool.and (Nat.beq j.size j.tys.len) (Nat.beq j.cells.length j.size)) (Nat.ble 1 j.bytes)) (match x, y with
    | .v (.c .nil), .v (.c yc) => cond (noDup (bid :: refIds [yc])) (some ⟨refIds [yc], [bid], fun m => cond (isDead (m bid)) (match toD m (.sl j.tys) yc with
        | some ys => some ⟨[okSize j.bytes (show List j.tys.den from ys).length], .c (.ref bid (m bid).ver), [(bid, .arr (m bid).ver j.tys ys)]⟩
        | none => none) none⟩) none
    | .v (.c (.ref id ver)), .v (.c yc) => cond (noDup (id :: refIds [yc])) (some ⟨refIds [yc], [id], fun m => match m id with
        | .arr n e xs => cond (Nat.beq ver n) (match castRows j.tys xs, toD m (.sl j.tys) yc with
            | some xs', some ys => some ⟨[okSize j.bytes (xs'.length + (show List j.tys.den from ys).length)], .c (.ref id (n + 1)), [(id, .arr (n + 1) j.tys (xs' ++ ys))]⟩
            | _, _ => none) none
        | _ => none⟩) none
    | _, _ => none) none

def boundI : Option A → Option (Option Int)
  | none => some none
  | some x => match asInt? x with
    | some n => some (some n)
    | none => none

def sliceP (T : Tab) (mv pt : Bool) (t : Nat) (x : A) (lo hi : Option A) : Option Plan :=
  match boundI lo, boundI hi with
  | some lo, some hi => match x with
    | .v (.c (.d .str s)) => match T.get t with
      | none => none
      | some i => cond i.isStr (
        let l := lo.getD 0
        let h := hi.getD (s.size : Int)
        pureC [decide (0 ≤ h), decide (h ≤ (s.size : Int)), decide (0 ≤ l), decide (l ≤ h)] (.c (.d .str (s.extract l.toNat h.toNat)))) none
    | .v (.c (.d (.sl e) xs)) => match elemI T t with
      | some (_, j) => cond (Nat.beq j.size e.len)
        (let xs' : List e.den := xs
         let l := lo.getD 0
         let h := hi.getD (xs'.length : Int)
         pureC [decide (0 ≤ h), decide (h ≤ (xs'.length : Int)), decide (0 ≤ l), decide (l ≤ h)] (.c (.d (.sl e) ((xs'.take h.toNat).drop l.toNat)))) none
      | none => none
    | .v (.c (.ref id ver)) => match elemI T t with
      | none => none
      | some (_, j) => cond (Bool.and mv lo.isNone)
        (some ⟨[], [id], fun m => match m id with
          | .arr n e xs => cond (Bool.and (Nat.beq ver n) (Nat.beq j.size e.len))
            (let h := hi.getD (xs.length : Int)
             some ⟨[decide (0 ≤ h), decide (h ≤ (xs.length : Int))], .c (.ref id (n + 1)), [(id, .arr (n + 1) e (xs.take h.toNat))]⟩) none
          | _ => none⟩)
        (cond pt (some ⟨[id], [], fun m => match m id with
          | .arr n e xs => cond (Bool.and (Nat.beq ver n) (Nat.beq j.size e.len))
            (let l := lo.getD 0
             let h := hi.getD (xs.length : Int)
             some ⟨[decide (0 ≤ h), decide (h ≤ (xs.length : Int)), decide (0 ≤ l), decide (l ≤ h)], .c (.part id ver l.toNat h.toNat), []⟩) none
          | _ => none⟩)
        (some ⟨[], [id], fun m => match m id with
          | .arr n e xs => cond (Bool.and (Nat.beq ver n) (Nat.beq j.size e.len))
            (let l := lo.getD 0
             let h := hi.getD (xs.length : Int)
             some ⟨[decide (0 ≤ h), decide (h ≤ (xs.length : Int)), decide (0 ≤ l), decide (l ≤ h)], .c (.d (.sl e) ((xs.take h.toNat).drop l.toNat)), [(id, .frz n e xs)]⟩) none
          | .frz n e xs => cond (Bool.and (Nat.beq ver n) (Nat.beq j.size e.len))
            (let l := lo.getD 0
             let h := hi.getD (xs.length : Int)
             some ⟨[decide (0 ≤ h), decide (h ≤ (xs.length : Int)), decide (0 ≤ l), decide (l ≤ h)], .c (.d (.sl e) ((xs.take h.toNat).drop l.toNat)), []⟩) none
          | _ => none⟩))
    | _ => none
  | _, _ => none

def makeSliceP (T : Tab) (bid t : Nat) (len cap : A) : Option Plan :=
  match elemI T t, asInt? len, asInt? cap with
  | some (_, j), some n, some c => cond (Bool.and (Nat.beq j.size j.tys.len) (Bool.and (Nat.beq j.cells.length j.size) (Nat.ble 1 j.bytes)))
    (match toRow (fun _ => .dead 0) j.tys j.cells with
     | some z => some ⟨[], [bid], fun m => cond (isDead (m bid)) (some ⟨[decide (0 ≤ n), decide (n ≤ c), decide (c * (j.bytes : Int) ≤ 140737488355328)], .c (.ref bid (m bid).ver), [(bid, .arr (m bid).ver j.tys (List.replicate n.toNat z))]⟩) none⟩
     | none => none) none
  | _, _, _ => none

def lenP (T : Tab) (t : Nat) (x : A) : Option Plan :=
  match T.get t with
  | none => none
  | some i => match x with
    | .v (.c (.d .str s)) => cond i.isStr (pureP (.int s.size)) none
    | .v (.c (.d (.sl e) xs)) => cond i.elem.isSome (pureP (.int (show List e.den from xs).length)) none
    | .v (.c .nil) => cond i.elem.isSome (pureP (.int 0)) none
    | .v (.c (.ref id ver)) => cond i.elem.isSome (some ⟨[id], [], fun m => match m id with
        | .arr n e xs => cond (Nat.beq ver n) (some ⟨[], .int xs.length, []⟩) none
        | .frz n e xs => cond (Nat.beq ver n) (some ⟨[], .int xs.length, []⟩) none
        | _ => none⟩) none
    | _ => none

def bytesOf : List (Tys.den (.cons (.int .u8) .nil)) → ByteArray
  | xs => ⟨(xs.map fun r => UInt8.ofNat (show Int from r.1).toNat).toArray⟩

def isU8 (T : Tab) (t : Nat) : Bool := match elemI T t with
  | some (_, j) => match j.int with
    | some .u8 => true
    | _ => false
  | none => false
def convP (T : Tab) (src dst : Nat) (x : A) : Option Plan :=
  match T.get src, T.get dst with
  | some j, some i => match x with
    | .v (.c (.d (.int _) n)) => match i.int with
      | some k => pureP (.v (.c (.d (.int k) (k.wrap n))))
      | none => none
    | .v (.c yc) => cond (Bool.and i.isStr (isU8 T src)) (some ⟨refIds [yc], [], fun m => match toD m (.sl (.cons (.int .u8) .nil)) yc with
        | some xs => some ⟨[], .v (.c (.d .str (bytesOf xs))), []⟩
        | none => none⟩) none
    | _ => none
  | _, _ => none

def nilP (x : A) : Option Plan :=
  match x with
  | .v (.c (.vptr ts r)) => pureP x
  | .v (.c (.fn f caps)) => pureP x
  | .v (.c (.ptr id ver off)) => some ⟨[id], [], fun m => match m id with
      | .box n _ => cond (Nat.beq ver n) (some ⟨[], x, []⟩) none
      | _ => none⟩
  | .v (.c (.eptr id ver k off)) => some ⟨[id], [], fun m => match m id with
      | .arr n _ _ => cond (Nat.beq ver n) (some ⟨[], x, []⟩) none
      | _ => none⟩
  | _ => none

def addrP (o : Nat) (x : A) : Option Plan :=
  match x with
  | .v (.c (.vptr ts r)) => pureP (.c (.vptr (ts.drop o) (ts.dropR o r)))
  | .v (.c (.ptr id ver off)) => some ⟨[id], [], fun m => match m id with
      | .box n _ => cond (Nat.beq ver n) (some ⟨[], .c (.ptr id ver (off + o)), []⟩) none
      | _ => none⟩
  | .v (.c (.eptr id ver k off)) => some ⟨[id], [], fun m => match m id with
      | .arr n _ _ => cond (Nat.beq ver n) (some ⟨[], .c (.eptr id ver k (off + o)), []⟩) none
      | _ => none⟩
  | _ => none

def capsOf (ev : Operand → A) : List Operand → Option (List (Nat × Nat × Nat))
  | [] => some []
  | x :: r => match ev x, capsOf ev r with
    | .v (.c (.ptr id ver off)), some l => some ((id, ver, off) :: l)
    | _, _ => none

/-! maps of names -/
def hasK (s : ByteArray) : List ByteArray → Bool
  | [] => false
  | k :: r => cond (strEq s k) true (hasK s r)
def isMap (T : Tab) (t : Nat) : Bool := match T.get t with
  | some i => i.map
  | none => false
def insertP (T : Tab) (t : Nat) (x k v : A) : Option Plan :=
  cond (isMap T t) (match x, k, v with
    | .v (.c (.mref id ver)), .v (.c (.d .str s)), .v (.c (.d .bool true)) => some ⟨[], [id], fun m => match m id with
      | .map n ks => cond (Nat.beq ver n) (some ⟨[], .tup [], [(id, .map n (cond (hasK s ks) ks (ks ++ [s])))]⟩) none
      | _ => none⟩
    | _, _, _ => none) none
def lookupP (T : Tab) (t : Nat) (x k : A) : Option Plan :=
  cond (isMap T t) (match x, k with
    | .v (.c (.mref id ver)), .v (.c (.d .str s)) => some ⟨[id], [], fun m => match m id with
      | .map n ks => cond (Nat.beq ver n) (some ⟨[], .bool (hasK s ks), []⟩) none
      | _ => none⟩
    | _, _ => none) none

/-- The fields' places and sizes. -/
def placesOf (T : Tab) : List (Nat × Nat) → Option (List (Nat × Nat))
  | [] => some []
  | (o, ft) :: r => match T.get ft, placesOf T r with
    | some j, some l => some ((o, j.size) :: l)
    | _, _ => none
/-- The contract among several that fits the arguments' closures. -/
def fits : List PK → List A → Bool
  | .fn f _ :: ps, .v (.c (.fn f' _)) :: xs => Bool.and (Nat.beq f f') (fits ps xs)
  | _ :: ps, _ :: xs => fits ps xs
  | _, _ => true
def pickSp : List Spec → List A → Option Spec
  | [], _ => none
  | s :: r, xs => cond (fits s.ins xs) (some s) (pickSp r xs)
def capA (p : Nat × Nat × Nat) : A := .c (.ptr p.1 p.2.1 p.2.2)

def opPlan (T : Tab) (Φ : Nat → List Spec) (mv : Nat → Bool) (bid : Nat) (mm : Mem) (o : Oper) (ev : Operand → A) : Option Plan :=
  match o.op with
  | .move x => pureP (ev x)
  | .assign x => pureP (ev x)
  | .pick c a b => match ev c with
    | .v (.c (.d .bool p)) => match ev a, ev b with
      | .v (.c (.d .bool x)), .v (.c (.d .bool y)) => pureP (.bool (cond p x y))
      | x, y => pureP (cond p x y)
    | _ => none
  | .binOp op t x y _ => match binV T t op (ev x) (ev y) with
    | some (cs, v) => pureC cs (.c v)
    | none => none
  | .unOp .not _ x => match ev x with
    | .v (.c (.d .bool b)) => pureP (.bool (!b))
    | _ => none
  | .unOp .neg _ x => match ev x with
    | .v (.c (.d (.int k) n)) => pureP (.v (.c (.d (.int k) (k.wrap (0 - n)))))
    | _ => none
  | .convert src dst x => convP T src dst (ev x)
  | .fieldAddr s x f => match T.get s with
    | some i => match i.offs[f]? with
      | some (off, ft) => match T.get ft with
        | some j => cond (Nat.ble 1 j.size) (addrP off (ev x)) none
        | none => none
      | none => none
    | none => none
  | .field s x f => match T.get s with
    | some i => match i.offs[f]?, ev x with
      | some (off, ft), .v (.agg cs) => match T.get ft with
        | some j => cond (Nat.ble (off + j.size) cs.length) ((aggOf j.agg ((cs.drop off).take j.size)).bind pureP) none
        | none => none
      | _, _ => none
    | none => none
  | .indexAddr t x i => match asInt? (ev i) with
    | some n => idxP T t (ev x) n
    | none => none
  | .index t x i => match ev x, asInt? (ev i) with
    | .v (.c (.d .str s)), some n => match T.get t with
      | none => none
      | some j => cond j.isStr (pureC [decide (0 ≤ n), decide (n < (s.size : Int))] (.v (.c (.d (.int .u8) (bt s n))))) none
    | _, _ => none
  | .load t x => loadP T t (ev x)
  | .store t x y => storeP T t (ev x) (ev y)
  | .alloc t => match T.get t with
    | some i => cond (Nat.beq i.cells.length i.size) (some ⟨[], [bid], fun m => cond (isDead (m bid)) (some ⟨[], .c (.ptr bid (m bid).ver 0), [(bid, .box (m bid).ver i.cells)]⟩) none⟩) none
    | none => none
  | .box _ x => match ev x with
    | .v v => cond (v.cells.all oneC) (some ⟨[], [bid], fun m => cond (isDead (m bid)) (some ⟨[], .c (.ptr bid (m bid).ver 0), [(bid, .box (m bid).ver v.cells)]⟩) none⟩) none
    | _ => none
  | .build t ps => match T.get t, partsC ev ps.toList with
    | some i, some l => match placesOf T i.offs with
      | some (pl :: pls) => match fillC (fun k => (pl :: pls)[k]?) i.cells l with
        | some cs => pureP (.v (.agg cs))
        | none => none
      | _ => none
    | _, _ => none
  | .buildSlice t len ps => match partsC ev ps.toList with
    | some l => buildSliceP T bid t len l
    | none => none
  | .makeSlice t l c => makeSliceP T bid t (ev l) (ev c)
  | .makeMap t none => cond (isMap T t) (some ⟨[], [bid], fun m => cond (isDead (m bid)) (some ⟨[], .c (.mref bid (m bid).ver), [(bid, .map (m bid).ver [])]⟩) none⟩) none
  | .insert t x k v => insertP T t (ev x) (ev k) (ev v)
  | .mapUpdate t x k v => insertP T t (ev x) (ev k) (ev v)
  | .lookup t x k false => lookupP T t (ev x) (ev k)
  | .slice t x lo hi none => sliceP T (mv (o.dst.getD 0)) (mv (o.dst.getD 0 + 100000)) t (ev x) (lo.map ev) (hi.map ev)
  | .extract x i => match ev x with
    | .tup vs => match vs[i]? with
      | some v => pureP (.v v)
      | none => none
    | _ => none
  | .nilCheck x => nilP (ev x)
  | .makeFunc (.func f) first caps => cond (Nat.beq first.size 0) ((capsOf ev caps.toList).bind fun l => pureP (.c (.fn f l))) none
  | .call c => match c.callee with
    | .builtin .len => match c.args.toList, c.argTypes.toList with
      | [x], [t] => lenP T t (ev x)
      | _, _ => none
    | .builtin .append => match c.args.toList, c.argTypes.toList with
      | [x, y], [t, t'] => cond (Nat.beq t t') (appendP T bid t (ev x) (ev y)) none
      | _, _ => none
    | .builtin .max => match c.args.toList with
      | [x, y] => match ev x, ev y with
        | .v (.c (.d (.int k) a)), .v (.c (.d (.int _) b)) => pureP (.v (.c (.d (.int k) (if b > a then b else a))))
        | _, _ => none
      | _ => none
    | .builtin .min => match c.args.toList with
      | [x, y] => match ev x, ev y with
        | .v (.c (.d (.int k) a)), .v (.c (.d (.int _) b)) => pureP (.v (.c (.d (.int k) (if b < a then b else a))))
        | _, _ => none
      | _ => none
    | .value x => match ev x with
      | .v (.c (.fn f caps)) => match pickSp (Φ f) (c.args.toList.map ev ++ caps.map capA) with
        | some sp => callP sp bid (c.args.toList.map ev ++ caps.map capA) mm
        | none => none
      | _ => none
    | _ => none
  | _ => none
end Go.Rx

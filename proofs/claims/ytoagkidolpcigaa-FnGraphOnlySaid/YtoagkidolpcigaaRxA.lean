/-
  ENGINE, part A: typed data, abstract cells and objects, and what it means that a world holds them.
  Seat-independent.
-/
import Derived.Orders
import Derived.Below
namespace Go.Rx
open Go Go.RowKit
set_option linter.unusedVariables false

/-! ### types of data -/
mutual
inductive Ty where
  | int (k : IntKind)
  | bool
  | str
  | sl (e : Tys)
inductive Tys where
  | nil
  | cons (t : Ty) (ts : Tys)
end

mutual
abbrev Ty.den : Ty → Type
  | .int _ => Int
  | .bool => Bool
  | .str => ByteArray
  | .sl e => List (Tys.den e)
abbrev Tys.den : Tys → Type
  | .nil => Unit
  | .cons t ts => Ty.den t × Tys.den ts
end

mutual
def Ty.zero : (t : Ty) → t.den
  | .int _ => (0 : Int)
  | .bool => false
  | .str => ByteArray.empty
  | .sl _ => []
def Tys.zero : (ts : Tys) → ts.den
  | .nil => ()
  | .cons t ts => (Ty.zero t, Tys.zero ts)
end

def Tys.len : Tys → Nat
  | .nil => 0
  | .cons _ ts => ts.len + 1

mutual
def Ty.eq? : (a b : Ty) → Option (PLift (a = b))
  | .int k, .int k' => if h : k = k' then some ⟨h ▸ rfl⟩ else none
  | .bool, .bool => some ⟨rfl⟩
  | .str, .str => some ⟨rfl⟩
  | .sl e, .sl e' => match Tys.eq? e e' with
    | some ⟨h⟩ => some ⟨h ▸ rfl⟩
    | none => none
  | _, _ => none
def Tys.eq? : (a b : Tys) → Option (PLift (a = b))
  | .nil, .nil => some ⟨rfl⟩
  | .cons t ts, .cons t' ts' => match Ty.eq? t t', Tys.eq? ts ts' with
    | some ⟨h⟩, some ⟨h'⟩ => some ⟨h ▸ h' ▸ rfl⟩
    | _, _ => none
  | _, _ => none
end

/-! ### abstract cells, values, objects -/
inductive C where
  | d (t : Ty) (x : t.den)
  | nil
  | ref (id ver : Nat)
  | mref (id ver : Nat)
  | part (id ver lo hi : Nat)
  | ptr (id ver off : Nat)
  | eptr (id ver i off : Nat)
  | vptr (ts : Tys) (r : ts.den)
  | fn (f : Nat) (caps : List (Nat × Nat × Nat))
  | any

inductive V where
  | c (x : C)
  | agg (xs : List C)

inductive A where
  | v (x : V)
  | tup (xs : List V)

inductive Ob where
  | dead (ver : Nat)
  | box (ver : Nat) (cs : List C)
  | arr (ver : Nat) (e : Tys) (xs : List e.den)
  | frz (ver : Nat) (e : Tys) (xs : List e.den)
  | map (ver : Nat) (ks : List ByteArray)

def Ob.ver : Ob → Nat
  | .dead n => n
  | .box n _ => n
  | .arr n _ _ => n
  | .frz n _ _ => n
  | .map n _ => n

abbrev Mem := Nat → Ob

def A.c (x : C) : A := .v (.c x)
def A.int (n : Int) : A := .v (.c (.d (.int .i64) n))
def A.bool (b : Bool) : A := .v (.c (.d .bool b))

/-! ### what a world holds -/
def All2 {α β : Type} (R : α → β → Prop) : List α → List β → Prop
  | [], [] => True
  | a :: as, b :: bs => R a b ∧ All2 R as bs
  | _, _ => False

theorem All2.length {α β : Type} {R : α → β → Prop} : ∀ {as : List α} {bs : List β}, All2 R as bs → as.length = bs.length
  | [], [], _ => rfl
  | _ :: _, _ :: _, h => by simp [All2.length h.2]

theorem All2.mono {α β : Type} {R R' : α → β → Prop} (hm : ∀ a b, R a b → R' a b) : ∀ {as : List α} {bs : List β}, All2 R as bs → All2 R' as bs
  | [], [], _ => trivial
  | _ :: _, _ :: _, h => ⟨hm _ _ h.1, All2.mono hm h.2⟩

theorem All2.get {α β : Type} {R : α → β → Prop} : ∀ {as : List α} {bs : List β} {i : Nat} {a : α}, All2 R as bs → as[i]? = some a → ∃ b, bs[i]? = some b ∧ R a b
  | a :: _, b :: _, 0, _, h, ha => by
    simp at ha
    subst ha
    exact ⟨b, rfl, h.1⟩
  | _ :: as, _ :: bs, i + 1, _, h, ha => by
    simp at ha
    obtain ⟨b, hb, hr⟩ := All2.get (i := i) h.2 ha
    exact ⟨b, by simpa using hb, hr⟩
  | [], [], _, _, _, ha => by simp at ha

theorem All2.append {α β : Type} {R : α → β → Prop} : ∀ {as : List α} {bs : List β} {as' : List α} {bs' : List β}, All2 R as bs → All2 R as' bs' → All2 R (as ++ as') (bs ++ bs')
  | [], [], _, _, _, h' => h'
  | _ :: _, _ :: _, _, _, h, h' => ⟨h.1, All2.append h.2 h'⟩

theorem All2.of_get {α β : Type} {R : α → β → Prop} : ∀ {as : List α} {bs : List β}, as.length = bs.length → (∀ (i : Nat) a b, as[i]? = some a → bs[i]? = some b → R a b) → All2 R as bs
  | [], [], _, _ => trivial
  | a :: as, b :: bs, h, f => ⟨f 0 a b rfl rfl, All2.of_get (by simpa using h) fun i x y hx hy => f (i + 1) x y (by simpa using hx) (by simpa using hy)⟩

mutual
def Rd (w : World) (S : Nat → Prop) : (t : Ty) → t.den → Value → Prop
  | .int k, x, v => v = .int k x
  | .bool, x, v => v = .bool x
  | .str, x, v => v = .string x
  | .sl e, xs, v => ∃ (a : Option Addr) (c : Nat), v = .slice a (show List (Tys.den e) from xs).length c ∧ (show List (Tys.den e) from xs).length ≤ c ∧
      ∀ (i : Nat) (r : Tys.den e), (show List (Tys.den e) from xs)[i]? = some r → ∃ ad : Addr, a = some ad ∧ S ad.block ∧ RdRow w S e (fun k => w.cell? (ad.add k)) r (i * e.len)
def RdRow (w : World) (S : Nat → Prop) : (ts : Tys) → (Nat → Option Value) → ts.den → Nat → Prop
  | .nil, _, _, _ => True
  | .cons t ts, look, r, k => (∃ v, look k = some v ∧ Rd w S t r.1 v) ∧ RdRow w S ts look r.2 (k + 1)
end

/-- The blocks of S stand as they stood. -/
def Hold (S : Nat → Prop) (w w' : World) : Prop := ∀ b, S b → w'.heap[b]? = w.heap[b]?

theorem cell_hold {S : Nat → Prop} {w w' : World} (h : Hold S w w') {a : Addr} (ha : S a.block) : w'.cell? a = w.cell? a := World.cell?_of_block (w := w) (h _ ha)

theorem Addr.add_block (a : Addr) (k : Nat) : (a.add k).block = a.block := by
  unfold Go.Addr.add
  split <;> rfl

theorem Addr.add_add (a : Addr) (m k : Nat) : (a.add m).add k = a.add (m + k) := by
  unfold Go.Addr.add
  by_cases hm : m = 0
  · subst hm
    simp
  · by_cases hk : k = 0
    · subst hk
      simp [hm]
    · simp [hm, hk, Nat.add_assoc]

mutual
theorem Rd.mono {w w' : World} {S S' : Nat → Prop} (h : Hold S w w') (hs : ∀ b, S b → S' b) : ∀ (t : Ty) (x : t.den) (v : Value), Rd w S t x v → Rd w' S' t x v
  | .int _, _, _, hv => hv
  | .bool, _, _, hv => hv
  | .str, _, _, hv => hv
  | .sl e, xs, v, hv => by
    obtain ⟨a, c, hv, hl, hr⟩ := hv
    refine ⟨a, c, hv, hl, fun i r hi => ?_⟩
    obtain ⟨ad, ha, hS, hrow⟩ := hr i r hi
    exact ⟨ad, ha, hs _ hS, RdRow.mono h hs e _ _ (fun k => (cell_hold h (by rw [Addr.add_block]; exact hS)).symm) r _ hrow⟩
theorem RdRow.mono {w w' : World} {S S' : Nat → Prop} (h : Hold S w w') (hs : ∀ b, S b → S' b) : ∀ (ts : Tys) (l l' : Nat → Option Value), (∀ k, l k = l' k) → ∀ (r : ts.den) (k : Nat), RdRow w S ts l r k → RdRow w' S' ts l' r k
  | .nil, _, _, _, _, _, _ => trivial
  | .cons t ts, l, l', hl, r, k, hr => by
    obtain ⟨⟨v, hv, hx⟩, hr⟩ := hr
    exact ⟨⟨v, (hl k) ▸ hv, Rd.mono h hs t _ _ hx⟩, RdRow.mono h hs ts l l' hl r.2 (k + 1) hr⟩
end

theorem Hold.refl (S : Nat → Prop) (w : World) : Hold S w w := fun _ _ => rfl
theorem RdRow.congr {w : World} {S : Nat → Prop} {ts : Tys} {l l' : Nat → Option Value} {r : ts.den} {k : Nat} (hl : ∀ k, l k = l' k) (h : RdRow w S ts l r k) : RdRow w S ts l' r k :=
  RdRow.mono (Hold.refl S w) (fun _ h => h) ts l l' hl r k h

/-- A row shifted. -/
theorem RdRow.shift {w : World} {S : Nat → Prop} : ∀ {ts : Tys} {l : Nat → Option Value} {r : ts.den} {k m : Nat}, RdRow w S ts l r (m + k) → RdRow w S ts (fun j => l (m + j)) r k
  | .nil, _, _, _, _, _ => trivial
  | .cons _ ts, l, r, k, m, h => ⟨h.1, RdRow.shift (ts := ts) (l := l) (r := r.2) (k := k + 1) (m := m) h.2⟩
theorem RdRow.unshift {w : World} {S : Nat → Prop} : ∀ {ts : Tys} {l : Nat → Option Value} {r : ts.den} {k m : Nat}, RdRow w S ts (fun j => l (m + j)) r k → RdRow w S ts l r (m + k)
  | .nil, _, _, _, _, _ => trivial
  | .cons _ ts, l, r, k, m, h => ⟨h.1, RdRow.unshift (ts := ts) (l := l) (r := r.2) (k := k + 1) (m := m) h.2⟩

/-- What stands behind the first k cells of a row. -/
def Tys.drop : Tys → Nat → Tys
  | .nil, _ => .nil
  | .cons t ts, 0 => .cons t ts
  | .cons _ ts, k + 1 => ts.drop k
def Tys.dropR : (ts : Tys) → (k : Nat) → ts.den → (ts.drop k).den
  | .nil, _, _ => ()
  | .cons _ _, 0, r => r
  | .cons _ ts, k + 1, r => Tys.dropR ts k r.2

theorem RdRow.drop {w : World} {S : Nat → Prop} : ∀ {ts : Tys} {l : Nat → Option Value} {r : ts.den} {k m : Nat}, RdRow w S ts l r k → RdRow w S (ts.drop m) l (ts.dropR m r) (k + m)
  | .nil, _, _, _, _, _ => trivial
  | .cons _ _, _, _, _, 0, h => h
  | .cons _ ts, l, r, k, m + 1, h => by
    have := RdRow.drop (ts := ts) (l := l) (r := r.2) (k := k + 1) (m := m) h.2
    have e : k + 1 + m = k + (m + 1) := by omega
    rw [e] at this
    exact this

/-- The first n cells of a row. -/
def Tys.first : (ts : Tys) → ts.den → Nat → Option (List C)
  | _, _, 0 => some []
  | .nil, _, _ + 1 => none
  | .cons t ts, r, n + 1 => (Tys.first ts r.2 n).map (C.d t r.1 :: ·)

/-! ### abstract values in a world -/
def blkOf : Value → Option Nat
  | .pointer (some a) => some a.block
  | .slice (some a) _ _ => some a.block
  | .map (some b) => some b
  | _ => none

/-- The block that an object owns. -/
def own (m : Mem) (g : Nat → Value) (id : Nat) : Option Nat :=
  match m id with
  | .box _ _ => blkOf (g id)
  | .arr _ _ _ => blkOf (g id)
  | .map _ _ => blkOf (g id)
  | _ => none

def PtrOk (m : Mem) (g : Nat → Value) (id ver off : Nat) (v : Value) : Prop :=
  match m id with
  | .box n _ => ver < n ∨ (ver = n ∧ ∃ b, g id = .pointer (some ⟨b, 0, none⟩) ∧ v = .pointer (some ⟨b, off, none⟩))
  | o => ver < o.ver

def RefOk (m : Mem) (g : Nat → Value) (id ver : Nat) (v : Value) : Prop :=
  match m id with
  | .arr n _ _ => ver < n ∨ (ver = n ∧ v = g id)
  | .frz n _ _ => ver < n ∨ (ver = n ∧ v = g id)
  | o => ver < o.ver
def MrefOk (m : Mem) (g : Nat → Value) (id ver : Nat) (v : Value) : Prop :=
  match m id with
  | .map n _ => ver < n ∨ (ver = n ∧ v = g id)
  | o => ver < o.ver
/-- A map's entries: names that are there. -/
def MapV (w : World) (ks : List ByteArray) (v : Value) : Prop := ∃ (b : Nat) (es : Array MapEntry) (clock : Nat), v = .map (some b) ∧ w.heap[b]? = some (.map es clock) ∧ es.toList.map (fun e => (e.key, e.val)) = ks.map (fun s => (Value.string s, Value.bool true))
/-- A piece of a row, as it is sliced. -/
def PartV (gv v : Value) (k lo hi : Nat) : Prop := ∃ (a : Option Addr) (l c : Nat), gv = .slice a l c ∧ lo ≤ hi ∧ hi ≤ l ∧ l ≤ c ∧ v = .slice (if c = lo then a else a.map (·.add (lo * k))) (hi - lo) (c - lo)
def PartOk (m : Mem) (g : Nat → Value) (id ver lo hi : Nat) (v : Value) : Prop :=
  match m id with
  | .arr n e _ => ver < n ∨ (ver = n ∧ PartV (g id) v e.len lo hi)
  | .frz n e _ => ver < n ∨ (ver = n ∧ PartV (g id) v e.len lo hi)
  | o => ver < o.ver
def EptrOk (m : Mem) (g : Nat → Value) (id ver i off : Nat) (v : Value) : Prop :=
  match m id with
  | .arr n e _ => ver < n ∨ (ver = n ∧ ∃ b l c, g id = .slice (some ⟨b, 0, none⟩) l c ∧ v = .pointer (some ⟨b, i * e.len + off, none⟩))
  | .frz n _ _ => ver ≤ n
  | o => ver < o.ver

def Cc (m : Mem) (g : Nat → Value) (S : Nat → Prop) (w : World) : C → Value → Prop
  | .d t x, v => Rd w S t x v
  | .nil, v => v = .slice none 0 0
  | .ref id ver, v => RefOk m g id ver v ∧ v.oneCell' = true
  | .part id ver lo hi, v => PartOk m g id ver lo hi v ∧ v.oneCell' = true
  | .mref id ver, v => MrefOk m g id ver v ∧ v.oneCell' = true
  | .ptr id ver off, v => PtrOk m g id ver off v ∧ v.oneCell' = true
  | .eptr id ver i off, v => EptrOk m g id ver i off v ∧ v.oneCell' = true
  | .vptr ts r, v => ∃ ad : Addr, v = .pointer (some ad) ∧ S ad.block ∧ RdRow w S ts (fun k => w.cell? (ad.add k)) r 0
  | .fn f caps, v => ∃ vs : List Value, v = .func (.func f) #[] vs.toArray ∧ All2 (fun p v => PtrOk m g p.1 p.2.1 p.2.2 v ∧ v.oneCell' = true) caps vs
  | .any, _ => True

def Vc (m : Mem) (g : Nat → Value) (S : Nat → Prop) (w : World) : V → Value → Prop
  | .c x, v => Cc m g S w x v
  | .agg xs, v => ∃ vs : List Value, v = .agg vs.toArray ∧ All2 (Cc m g S w) xs vs

def Ac (m : Mem) (g : Nat → Value) (S : Nat → Prop) (w : World) : A → Value → Prop
  | .v x, v => Vc m g S w x v
  | .tup xs, v => ∃ vs : List Value, v = .tuple vs.toArray ∧ All2 (Vc m g S w) xs vs

/-- An object in a world. -/
def Or (m : Mem) (g : Nat → Value) (S : Nat → Prop) (w : World) (id : Nat) : Prop :=
  match m id with
  | .dead _ => True
  | .box _ cs => ∃ (b : Nat) (vs : List Value) (E : TypeId), g id = .pointer (some ⟨b, 0, none⟩) ∧ w.heap[b]? = some (.cells vs.toArray E (0, 0)) ∧ All2 (Cc m g S w) cs vs
  | .arr _ e xs => (g id = .slice none 0 0 ∧ xs = []) ∨
      ∃ (b c : Nat) (vs : Array Value) (E : TypeId), g id = .slice (some ⟨b, 0, none⟩) xs.length c ∧ w.heap[b]? = some (.cells vs E (0, 0)) ∧ xs.length ≤ c ∧ vs.size = c * e.len ∧
        ∀ (i : Nat) (r : e.den), xs[i]? = some r → RdRow w S e (fun k => vs[k]?) r (i * e.len)
  | .frz _ e xs => Rd w S (.sl e) xs (g id)
  | .map _ ks => MapV w ks (g id)

structure MRel (m : Mem) (g : Nat → Value) (S : Nat → Prop) (w : World) : Prop where
  or : ∀ id, Or m g S w id
  disj : ∀ i j b, own m g i = some b → own m g j = some b → i = j
  sdisj : ∀ i b, own m g i = some b → ¬ S b
  slt : ∀ b, S b → b < w.heap.size

theorem heap_lt {w : World} {b : Nat} {o : Obj} (h : w.heap[b]? = some o) : b < w.heap.size := (Array.getElem?_eq_some_iff.1 h).1

theorem MRel.own_lt {m : Mem} {g : Nat → Value} {S : Nat → Prop} {w : World} (h : MRel m g S w) {i b : Nat} (hb : own m g i = some b) : b < w.heap.size := by
  have ho := h.or i
  unfold own at hb
  unfold Or at ho
  split at hb
  · rename_i hm
    rw [hm] at ho
    obtain ⟨b', vs, E, hg, hw, _⟩ := ho
    rw [hg] at hb
    simp [blkOf] at hb
    subst hb
    exact heap_lt hw
  · rename_i hm
    rw [hm] at ho
    rcases ho with ⟨hg, _⟩ | ⟨b', c, vs, E, hg, hw, _⟩
    · rw [hg] at hb
      simp [blkOf] at hb
    · rw [hg] at hb
      simp [blkOf] at hb
      subst hb
      exact heap_lt hw
  · rename_i hm
    rw [hm] at ho
    obtain ⟨b', es, cl, hg, hw, _⟩ := ho
    rw [hg] at hb
    simp [blkOf] at hb
    subst hb
    exact heap_lt hw
  · cases hb

/-! ### how memory may turn -/
def Tr (o : Ob) (v : Value) (o' : Ob) (v' : Value) : Prop :=
  o.ver < o'.ver ∨ (o.ver = o'.ver ∧ match o with
    | .dead _ => True
    | .box _ _ => v' = v ∧ ∃ n cs, o' = .box n cs
    | .arr _ e _ => v' = v ∧ ((∃ n ys, o' = .arr n e ys) ∨ ∃ n ys, o' = .frz n e ys)
    | .frz _ e xs => v' = v ∧ ∃ n, o' = .frz n e xs
    | .map _ _ => v' = v ∧ ∃ n ks, o' = .map n ks)

theorem Tr.refl (o : Ob) (v : Value) : Tr o v o v := by
  refine .inr ⟨rfl, ?_⟩
  cases o with
  | dead n => trivial
  | box n cs => exact ⟨rfl, n, cs, rfl⟩
  | arr n e xs => exact ⟨rfl, .inl ⟨n, xs, rfl⟩⟩
  | frz n e xs => exact ⟨rfl, n, rfl⟩
  | map n ks => exact ⟨rfl, n, ks, rfl⟩

theorem Tr.ver_le {o o' : Ob} {v v' : Value} (h : Tr o v o' v') : o.ver ≤ o'.ver := by
  rcases h with h | ⟨h, _⟩ <;> omega

/-- A state in which a reference of an elder version is merely elder. -/
theorem PtrOk.elder {m : Mem} {g : Nat → Value} {id ver off : Nat} {v : Value} (h : ver < (m id).ver) : PtrOk m g id ver off v := by
  unfold PtrOk
  split
  · rename_i n cs hm
    rw [hm] at h
    exact .inl h
  · exact h
theorem PtrOk.le {m : Mem} {g : Nat → Value} {id ver off : Nat} {v : Value} (h : PtrOk m g id ver off v) : ver ≤ (m id).ver := by
  unfold PtrOk at h
  split at h
  · rename_i n cs hm
    rw [hm]
    show ver ≤ n
    rcases h with h | ⟨h, _⟩ <;> omega
  · omega

theorem PtrOk.tr {m m' : Mem} {g g' : Nat → Value} (ht : ∀ id, Tr (m id) (g id) (m' id) (g' id)) {id ver off : Nat} {v : Value} (h : PtrOk m g id ver off v) : PtrOk m' g' id ver off v := by
  have hl := h.le
  rcases ht id with t | ⟨t, ho⟩
  · exact PtrOk.elder (by omega)
  · unfold PtrOk at h
    split at h
    · rename_i n cs hm
      rw [hm] at ho t
      obtain ⟨hv, n', cs', hm'⟩ := ho
      rw [hm'] at t
      rcases h with h | ⟨h, hx⟩
      · exact PtrOk.elder (by rw [hm']; show ver < n'; simp only [Ob.ver] at t; omega)
      · unfold PtrOk
        rw [hm']
        simp only [Ob.ver] at t
        exact .inr ⟨by omega, by rw [hv]; exact hx⟩
    · exact PtrOk.elder (by omega)

theorem RefOk.tr {m m' : Mem} {g g' : Nat → Value} (ht : ∀ id, Tr (m id) (g id) (m' id) (g' id)) {id ver : Nat} {v : Value} (h : RefOk m g id ver v) : RefOk m' g' id ver v := by
  have t := ht id
  unfold RefOk at h ⊢
  cases hm : m id <;> rw [hm] at h t <;> simp only [Tr, Ob.ver] at h t
  case dead n =>
    cases hm' : m' id <;> rw [hm'] at t <;> simp only [Ob.ver] at t ⊢ <;> omega
  case box n cs =>
    cases hm' : m' id <;> rw [hm'] at t <;> simp only [Ob.ver] at t ⊢ <;> omega
  case arr n e xs =>
    rcases t with t | ⟨t, hv, ⟨n', ys, hc⟩ | ⟨n', ys, hc⟩⟩
    · cases hm' : m' id <;> rw [hm'] at t <;> simp only [Ob.ver] at t ⊢ <;> omega
    · rw [hc] at t ⊢
      simp only at t ⊢
      rcases h with h | ⟨h, hx⟩
      · left; omega
      · right; exact ⟨by omega, by rw [hv]; exact hx⟩
    · rw [hc] at t ⊢
      simp only at t ⊢
      rcases h with h | ⟨h, hx⟩
      · left; omega
      · right; exact ⟨by omega, by rw [hv]; exact hx⟩
  case frz n e xs =>
    rcases t with t | ⟨t, hv, n', hc⟩
    · cases hm' : m' id <;> rw [hm'] at t <;> simp only [Ob.ver] at t ⊢ <;> omega
    · rw [hc] at t ⊢
      simp only at t ⊢
      rcases h with h | ⟨h, hx⟩
      · left; omega
      · right; exact ⟨by omega, by rw [hv]; exact hx⟩
  case map n ks =>
    cases hm' : m' id <;> rw [hm'] at t <;> simp only [Ob.ver] at t ⊢ <;> first | omega | (rcases t with t | t <;> first | omega | (obtain ⟨t, _, q, q', hc⟩ := t; cases hc) | simp at t)

theorem PartOk.tr {m m' : Mem} {g g' : Nat → Value} (ht : ∀ id, Tr (m id) (g id) (m' id) (g' id)) {id ver lo hi : Nat} {v : Value} (h : PartOk m g id ver lo hi v) : PartOk m' g' id ver lo hi v := by
  have t := ht id
  unfold PartOk at h ⊢
  cases hm : m id <;> rw [hm] at h t <;> simp only [Tr, Ob.ver] at h t
  case dead n =>
    cases hm' : m' id <;> rw [hm'] at t <;> simp only [Ob.ver] at t ⊢ <;> omega
  case box n cs =>
    cases hm' : m' id <;> rw [hm'] at t <;> simp only [Ob.ver] at t ⊢ <;> omega
  case arr n e xs =>
    rcases t with t | ⟨t, hv, ⟨n', ys, hc⟩ | ⟨n', ys, hc⟩⟩
    · cases hm' : m' id <;> rw [hm'] at t <;> simp only [Ob.ver] at t ⊢ <;> omega
    · rw [hc] at t ⊢
      simp only at t ⊢
      rcases h with h | ⟨h, hx⟩
      · left; omega
      · right; exact ⟨by omega, by rw [hv]; exact hx⟩
    · rw [hc] at t ⊢
      simp only at t ⊢
      rcases h with h | ⟨h, hx⟩
      · left; omega
      · right; exact ⟨by omega, by rw [hv]; exact hx⟩
  case frz n e xs =>
    rcases t with t | ⟨t, hv, n', hc⟩
    · cases hm' : m' id <;> rw [hm'] at t <;> simp only [Ob.ver] at t ⊢ <;> omega
    · rw [hc] at t ⊢
      simp only at t ⊢
      rcases h with h | ⟨h, hx⟩
      · left; omega
      · right; exact ⟨by omega, by rw [hv]; exact hx⟩
  case map n ks =>
    cases hm' : m' id <;> rw [hm'] at t <;> simp only [Ob.ver] at t ⊢ <;> first | omega | (rcases t with t | t <;> first | omega | (obtain ⟨t, _, q, q', hc⟩ := t; cases hc) | simp at t)

theorem EptrOk.tr {m m' : Mem} {g g' : Nat → Value} (ht : ∀ id, Tr (m id) (g id) (m' id) (g' id)) {id ver i off : Nat} {v : Value} (h : EptrOk m g id ver i off v) : EptrOk m' g' id ver i off v := by
  have t := ht id
  unfold EptrOk at h ⊢
  cases hm : m id <;> rw [hm] at h t <;> simp only [Tr, Ob.ver] at h t
  case dead n =>
    cases hm' : m' id <;> rw [hm'] at t <;> simp only [Ob.ver] at t ⊢ <;> omega
  case box n cs =>
    cases hm' : m' id <;> rw [hm'] at t <;> simp only [Ob.ver] at t ⊢ <;> omega
  case frz n e xs =>
    cases hm' : m' id <;> rw [hm'] at t <;> simp only [Ob.ver] at t ⊢ <;> first | omega | (rcases t with t | t <;> first | omega | (obtain ⟨t, _, q, hc⟩ := t; cases hc) | simp at t)
  case arr n e xs =>
    rcases t with t | ⟨t, hv, ⟨n', ys, hc⟩ | ⟨n', ys, hc⟩⟩
    · cases hm' : m' id <;> rw [hm'] at t <;> simp only [Ob.ver] at t ⊢ <;> omega
    · rw [hc] at t ⊢
      simp only at t ⊢
      rcases h with h | ⟨h, hx⟩
      · left; omega
      · right; exact ⟨by omega, by rw [hv]; exact hx⟩
    · rw [hc] at t ⊢
      simp only at t ⊢
      omega
  case map n ks =>
    cases hm' : m' id <;> rw [hm'] at t <;> simp only [Ob.ver] at t ⊢ <;> first | omega | (rcases t with t | t <;> first | omega | (obtain ⟨t, _, q, q', hc⟩ := t; cases hc) | simp at t)
theorem MrefOk.tr {m m' : Mem} {g g' : Nat → Value} (ht : ∀ id, Tr (m id) (g id) (m' id) (g' id)) {id ver : Nat} {v : Value} (h : MrefOk m g id ver v) : MrefOk m' g' id ver v := by
  have t := ht id
  have hl := t.ver_le
  unfold MrefOk at h ⊢
  cases hm : m id with
  | map n ks =>
    rw [hm] at h t hl
    simp only [Ob.ver] at hl
    rcases h with h | ⟨h, hx⟩
    · cases hm' : m' id <;> rw [hm'] at hl <;> simp only [Ob.ver] at hl ⊢ <;> omega
    · rcases t with t | ⟨t, hv, n', ks', hc⟩
      · cases hm' : m' id <;> rw [hm'] at t <;> simp only [Ob.ver] at t ⊢ <;> omega
      · rw [hc] at t ⊢
        simp only [Ob.ver] at t
        exact .inr ⟨by omega, by rw [hv]; exact hx⟩
  | dead n => rw [hm] at h hl; simp only [Ob.ver] at h hl; cases hm' : m' id <;> rw [hm'] at hl <;> simp only [Ob.ver] at hl ⊢ <;> omega
  | box n cs => rw [hm] at h hl; simp only [Ob.ver] at h hl; cases hm' : m' id <;> rw [hm'] at hl <;> simp only [Ob.ver] at hl ⊢ <;> omega
  | arr n e xs => rw [hm] at h hl; simp only [Ob.ver] at h hl; cases hm' : m' id <;> rw [hm'] at hl <;> simp only [Ob.ver] at hl ⊢ <;> omega
  | frz n e xs => rw [hm] at h hl; simp only [Ob.ver] at h hl; cases hm' : m' id <;> rw [hm'] at hl <;> simp only [Ob.ver] at hl ⊢ <;> omega

theorem Cc.tr {m m' : Mem} {g g' : Nat → Value} {S S' : Nat → Prop} {w w' : World} (ht : ∀ id, Tr (m id) (g id) (m' id) (g' id)) (hh : Hold S w w') (hs : ∀ b, S b → S' b) : ∀ (x : C) (v : Value), Cc m g S w x v → Cc m' g' S' w' x v
  | .d t x, v, h => Rd.mono hh hs t x v h
  | .nil, _, h => h
  | .any, _, _ => trivial
  | .ptr _ _ _, _, h => ⟨PtrOk.tr ht h.1, h.2⟩
  | .fn f caps, v, h => by
    obtain ⟨vs, hv, h⟩ := h
    exact ⟨vs, hv, h.mono fun p v hp => ⟨PtrOk.tr ht hp.1, hp.2⟩⟩
  | .vptr ts r, v, h => by
    obtain ⟨ad, hv, hS, hr⟩ := h
    exact ⟨ad, hv, hs _ hS, RdRow.mono hh hs ts _ _ (fun k => (cell_hold hh (by rw [Addr.add_block]; exact hS)).symm) r 0 hr⟩
  | .ref _ _, _, h => ⟨RefOk.tr ht h.1, h.2⟩
  | .part _ _ _ _, _, h => ⟨PartOk.tr ht h.1, h.2⟩
  | .mref _ _, _, h => ⟨MrefOk.tr ht h.1, h.2⟩
  | .eptr _ _ _ _, _, h => ⟨EptrOk.tr ht h.1, h.2⟩

theorem Vc.tr {m m' : Mem} {g g' : Nat → Value} {S S' : Nat → Prop} {w w' : World} (ht : ∀ id, Tr (m id) (g id) (m' id) (g' id)) (hh : Hold S w w') (hs : ∀ b, S b → S' b) : ∀ (x : V) (v : Value), Vc m g S w x v → Vc m' g' S' w' x v
  | .c x, v, h => Cc.tr ht hh hs x v h
  | .agg xs, v, ⟨vs, hv, h⟩ => ⟨vs, hv, h.mono (Cc.tr ht hh hs)⟩
theorem Ac.tr {m m' : Mem} {g g' : Nat → Value} {S S' : Nat → Prop} {w w' : World} (ht : ∀ id, Tr (m id) (g id) (m' id) (g' id)) (hh : Hold S w w') (hs : ∀ b, S b → S' b) : ∀ (x : A) (v : Value), Ac m g S w x v → Ac m' g' S' w' x v
  | .v x, v, h => Vc.tr ht hh hs x v h
  | .tup xs, v, ⟨vs, hv, h⟩ => ⟨vs, hv, h.mono (Vc.tr ht hh hs)⟩
end Go.Rx

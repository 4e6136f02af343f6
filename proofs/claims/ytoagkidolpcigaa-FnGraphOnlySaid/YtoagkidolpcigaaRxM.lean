/-
  ENGINE, part M: variables set by a contract; contracts of functions; a call by a contract.
  Seat-independent.
-/
import Derived.Test.YtoagkidolpcigaaRxL
namespace Go.Rx
open Go Go.RowKit
set_option linter.unusedVariables false
set_option linter.unusedSimpArgs false

theorem noDup_iff : ∀ {l : List Nat}, noDup l = true ↔ l.Nodup
  | [] => by simp [noDup]
  | x :: l => by
    constructor
    · intro h
      obtain ⟨h1, h2⟩ := noDup_cons h
      exact List.nodup_cons.2 ⟨h1, noDup_iff.1 h2⟩
    · intro h
      obtain ⟨h1, h2⟩ := List.nodup_cons.1 h
      show Bool.and (!inL x l) (noDup l) = true
      rw [noDup_iff.2 h2]
      cases hi : inL x l with
      | false => rfl
      | true => exact absurd (inL_iff.1 hi) h1

section
variable {S : Nat → Prop} {w : World}

theorem Add.weaken {m m' : Mem} {g g' : Nat → Value} {i j B B' : List Nat} (h : Add m g S w m' g' i B) (hi : ∀ x ∈ i, x ∈ j) (hb : ∀ x ∈ B, x ∈ B') : Add m g S w m' g' j B' :=
  ⟨h.mr, h.tr, fun id hn => h.same id fun e => hn (hi id e), fun id b hb' => (h.own' id b hb').imp (fun h => h) (hb b)⟩

/-- A variable where its pointer says. -/
def At (m : Mem) (g : Nat → Value) (mm : Mem) (id : Nat) (v : Value) : Prop :=
  ∃ n cs blk, m id = .box n cs ∧ (mm id).ver = n ∧ g id = .pointer (some ⟨blk, 0, none⟩) ∧ v = .pointer (some ⟨blk, 0, none⟩)
theorem At.after {m m' mm : Mem} {g g' : Nat → Value} {id : Nat} {v : Value} (h : At m g mm id v) (hs : m' id = m id ∧ g' id = g id) : At m' g' mm id v := by
  obtain ⟨n, cs, blk, h1, h2, h3, h4⟩ := h
  exact ⟨n, cs, blk, hs.1.trans h1, h2, hs.2.trans h3, h4⟩

theorem take_back (mm : Mem) {ks : List CK} {m : Mem} {g : Nat → Value} {x : CKs.den ks} {blk : Nat} {vs : List Value} {E : TypeId} {B : List Nat} {b id : Nat} (hm : MRel m g S w)
    (hw : w.heap[blk]? = some (.cells vs.toArray E (0, 0))) (hc : cellsV w S ks x vs B) (hn : B.Nodup) (hf : Free m g S B) (hi : noDup (cellsNew b ks) = true) (hd : ∀ i ∈ cellsNew b ks, isDead (m i) = true ∧ mm i = m i)
    (ha : At m g mm id (.pointer (some ⟨blk, 0, none⟩))) (hni : id ∉ cellsNew b ks) : ∃ g', Add m g S w (updL m (boxOut b mm ks id x)) g' (id :: cellsNew b ks) B := by
  obtain ⟨g1, a1, c1⟩ := take_cells mm (b := b) hm hc hn hf hi hd
  obtain ⟨n, cs, blk', h1, h2, h3, h4⟩ := ha
  cases h4
  have hs := a1.same id hni
  have key := Add.box a1.mr (hs.1.trans h1) (hs.2.trans h3) hw c1
  have := a1.trans key
  rw [← h2] at this
  exact ⟨g1, this.weaken (fun x h => h) (fun x h => h)⟩

theorem take_backs (mm : Mem) : ∀ {bs : List (List CK)} {caps : List (Nat × Nat × Nat)} {m : Mem} {g : Nat → Value} {x : CKss.den bs} {us : List Value} {B : List Nat} {b : Nat}, MRel m g S w → bxsV.backsV w S bs us x B → B.Nodup → Free m g S B → noDup (backsNew b bs) = true →
    (∀ i ∈ backsNew b bs, isDead (m i) = true ∧ mm i = m i) → All2 (fun p u => At m g mm p.1 u) caps us → (caps.map fun p => p.1).Nodup → (∀ p ∈ caps, p.1 ∉ backsNew b bs) →
    ∃ g', Add m g S w (updL m (boxesOut b mm bs caps x)) g' ((caps.map fun p => p.1) ++ backsNew b bs) B
  | [], [], m, g, x, us, B, b, hm, h, _, _, _, _, _, _, _ => by
    obtain ⟨rfl, rfl⟩ := h
    exact ⟨g, Add.nil hm⟩
  | [], p :: caps, m, g, x, us, B, b, hm, h, _, _, _, _, ha, _, _ => by
    obtain ⟨rfl, rfl⟩ := h
    exact ha.elim
  | ks :: bs, _, m, g, x, [], B, b, hm, h, _, _, _, _, ha, _, _ => h.elim
  | ks :: bs, [], m, g, x, u :: us, B, b, hm, h, _, _, _, _, ha, _, _ => ha.elim
  | ks :: bs, p :: caps, m, g, x, u :: us, B, b, hm, h, hn, hf, hi, hd, ha, hc, hp => by
    obtain ⟨blk, vs, E, B1, B2, rfl, hw, rfl, h1, h2⟩ := h
    obtain ⟨n1, n2, n3⟩ := nodup_parts hn
    obtain ⟨i1, i2, i3⟩ := noDup_append hi
    obtain ⟨c1, c2⟩ := List.nodup_cons.1 hc
    obtain ⟨g1, a1⟩ := take_backs mm (b := b + 8) hm h2 n2 hf.right i2 (fun i hi => hd i (List.mem_append_right _ hi)) ha.2 c2 (fun q hq e => hp q (List.mem_cons_of_mem _ hq) (List.mem_append_right _ e))
    have out : ∀ i ∈ cellsNew b ks, i ∉ (caps.map fun p => p.1) ++ backsNew (b + 8) bs := fun i hi e => by
      rcases List.mem_append.1 e with e | e
      · obtain ⟨q, hq, rfl⟩ := List.mem_map.1 e
        exact hp q (List.mem_cons_of_mem _ hq) (List.mem_append_left _ hi)
      · exact i3 i hi e
    have hs := a1.same p.1 (fun e => by
      rcases List.mem_append.1 e with e | e
      · exact c1 e
      · exact hp p (List.mem_cons_self ..) (List.mem_append_right _ e))
    obtain ⟨g2, a2⟩ := take_back mm (b := b) a1.mr hw h1 n1 (hf.left.after a1 n3) i1 (a1.fits out fun i hi => hd i (List.mem_append_left _ hi)) (ha.1.after hs) (fun e => hp p (List.mem_cons_self ..) (List.mem_append_left _ e))
    have e : updL m (boxesOut b mm (ks :: bs) (p :: caps) x) = updL (updL m (boxesOut (b + 8) mm bs caps x.2)) (boxOut b mm ks p.1 x.1) := updL_append _ _ _
    refine ⟨g2, ?_⟩
    rw [e]
    refine (a1.trans a2).weaken (fun i hi => ?_) (fun _ h => h)
    show i ∈ p.1 :: (caps.map fun p => p.1) ++ (cellsNew b ks ++ backsNew (b + 8) bs)
    simp only [List.cons_append, List.mem_cons, List.mem_append] at hi ⊢
    rcases hi with h | h | h | h
    · exact .inl h
    · exact .inr (.inr (.inl h))
    · exact .inr (.inl h)
    · exact .inr (.inr (.inr h))

/-- The variables among the arguments. -/
def bxIdL : List PK → List A → List Nat
  | .box _ :: ps, .v (.c (.ptr id _ _)) :: xs => id :: bxIdL ps xs
  | .fn _ _ :: ps, .v (.c (.fn _ caps)) :: xs => (caps.map fun p => p.1) ++ bxIdL ps xs
  | .wr _ _ :: ps, _ :: xs => bxIdL ps xs
  | .c _ :: ps, _ :: xs => bxIdL ps xs
  | .agg _ :: ps, _ :: xs => bxIdL ps xs
  | _, _ => []
def AtP (R : Nat → Value → Prop) : List PK → List A → List Value → Prop
  | [], [], [] => True
  | .box _ :: ps, .v (.c (.ptr id _ _)) :: xs, v :: vs => R id v ∧ AtP R ps xs vs
  | .fn f _ :: ps, .v (.c (.fn _ caps)) :: xs, v :: vs => (∃ us : List Value, v = .func (.func f) #[] us.toArray ∧ All2 (fun p u => R p.1 u) caps us) ∧ AtP R ps xs vs
  | .wr _ _ :: ps, _ :: xs, _ :: vs => AtP R ps xs vs
  | .c _ :: ps, _ :: xs, _ :: vs => AtP R ps xs vs
  | .agg _ :: ps, _ :: xs, _ :: vs => AtP R ps xs vs
  | _, _, _ => False

theorem All2.mono_mem {α β : Type} {R R' : α → β → Prop} : ∀ {as : List α} {bs : List β}, (∀ a ∈ as, ∀ b, R a b → R' a b) → All2 R as bs → All2 R' as bs
  | [], [], _, _ => trivial
  | a :: _, _ :: _, hm, h => ⟨hm a (List.mem_cons_self ..) _ h.1, All2.mono_mem (fun x hx => hm x (List.mem_cons_of_mem _ hx)) h.2⟩

theorem AtP.mono {R R' : Nat → Value → Prop} : ∀ {ps : List PK} {xs : List A} {vs : List Value}, (∀ id ∈ bxIdL ps xs, ∀ v, R id v → R' id v) → AtP R ps xs vs → AtP R' ps xs vs := by
  intro ps xs vs hm h
  fun_induction AtP R ps xs vs with
  | case1 => trivial
  | case2 ks ps id a b xs v vs ih => exact ⟨hm id (List.mem_cons_self ..) v h.1, ih (fun i hi => hm i (List.mem_cons_of_mem _ hi)) h.2⟩
  | case3 f bs ps f' caps xs v vs ih =>
    obtain ⟨⟨us, h1, h2⟩, h3⟩ := h
    exact ⟨⟨us, h1, h2.mono_mem fun p hp v hv => hm p.1 (List.mem_append_left _ (List.mem_map.2 ⟨p, hp, rfl⟩)) v hv⟩, ih (fun i hi => hm i (List.mem_append_right _ hi)) h3⟩
  | case4 ag k ps x xs v vs ih => exact ih hm h
  | case5 k ps x xs v vs ih => exact ih hm h
  | case6 k ps x xs v vs ih => exact ih hm h
  | case7 => exact h.elim

theorem take_bxs (mm : Mem) : ∀ {ps : List PK} {xs : List A} {m : Mem} {g : Nat → Value} {x : Bxs.den ps} {vals : List Value} {B : List Nat} {b : Nat}, MRel m g S w → bxsV w S ps vals x B → B.Nodup → Free m g S B → noDup (bxsNew b ps) = true →
    (∀ i ∈ bxsNew b ps, isDead (m i) = true ∧ mm i = m i) → AtP (At m g mm) ps xs vals → (bxIdL ps xs).Nodup → (∀ i ∈ bxIdL ps xs, i ∉ bxsNew b ps) →
    ∃ g', Add m g S w (updL m (bxsOut b mm ps xs x)) g' (bxIdL ps xs ++ bxsNew b ps) B := by
  intro ps
  induction ps with
  | nil =>
    intro xs m g x vals B b hm h _ _ _ _ ha _ _
    obtain ⟨rfl, rfl⟩ := h
    cases xs with
    | nil => exact ⟨g, Add.nil hm⟩
    | cons a xs => exact ha.elim
  | cons p ps ih =>
    intro xs m g x vals B b hm h hn hf hi hd ha hc hp
    cases vals with
    | nil => cases p <;> exact h.elim
    | cons v vals =>
      cases p with
      | c k =>
        cases xs with
        | nil => exact ha.elim
        | cons a xs => exact ih hm h hn hf hi hd ha hc hp
      | agg k =>
        cases xs with
        | nil => exact ha.elim
        | cons a xs => exact ih hm h hn hf hi hd ha hc hp
      | wr ag ks =>
        cases xs with
        | nil => exact ha.elim
        | cons a xs => exact ih hm h.2 hn hf hi hd ha hc hp
      | box ks =>
        match xs, ha with
        | .v (.c (.ptr id ver off)) :: xs, ha =>
          obtain ⟨blk, vs, E, B1, B2, rfl, hw, rfl, h1, h2⟩ := h
          obtain ⟨n1, n2, n3⟩ := nodup_parts hn
          obtain ⟨i1, i2, i3⟩ := noDup_append hi
          obtain ⟨c1, c2⟩ := List.nodup_cons.1 hc
          obtain ⟨g1, a1⟩ := ih (b := b + 64) hm h2 n2 hf.right i2 (fun i hi => hd i (List.mem_append_right _ hi)) ha.2 c2 (fun q hq e => hp q (List.mem_cons_of_mem _ hq) (List.mem_append_right _ e))
          have out : ∀ i ∈ cellsNew b ks, i ∉ bxIdL ps xs ++ bxsNew (b + 64) ps := fun i hi e => by
            rcases List.mem_append.1 e with e | e
            · exact hp i (List.mem_cons_of_mem _ e) (List.mem_append_left _ hi)
            · exact i3 i hi e
          have hs := a1.same id (fun e => by
            rcases List.mem_append.1 e with e | e
            · exact c1 e
            · exact hp id (List.mem_cons_self ..) (List.mem_append_right _ e))
          obtain ⟨g2, a2⟩ := take_back mm (b := b) a1.mr hw h1 n1 (hf.left.after a1 n3) i1 (a1.fits out fun i hi => hd i (List.mem_append_left _ hi)) (ha.1.after hs) (fun e => hp id (List.mem_cons_self ..) (List.mem_append_left _ e))
          have e : updL m (bxsOut b mm (.box ks :: ps) (.v (.c (.ptr id ver off)) :: xs) x) = updL (updL m (bxsOut (b + 64) mm ps xs x.2)) (boxOut b mm ks id x.1) := updL_append _ _ _
          refine ⟨g2, ?_⟩
          rw [e]
          refine (a1.trans a2).weaken (fun i hi => ?_) (fun _ h => h)
          show i ∈ id :: bxIdL ps xs ++ (cellsNew b ks ++ bxsNew (b + 64) ps)
          simp only [List.cons_append, List.mem_cons, List.mem_append] at hi ⊢
          rcases hi with h | h | h | h
          · exact .inl h
          · exact .inr (.inr (.inl h))
          · exact .inr (.inl h)
          · exact .inr (.inr (.inr h))
      | fn f bs =>
        match xs, ha with
        | .v (.c (.fn f' caps)) :: xs, ha =>
          obtain ⟨us, B1, B2, rfl, rfl, h1, h2⟩ := h
          obtain ⟨n1, n2, n3⟩ := nodup_parts hn
          obtain ⟨i1, i2, i3⟩ := noDup_append hi
          have hc' : ((caps.map fun p => p.1) ++ bxIdL ps xs).Nodup := hc
          obtain ⟨c1, c2, c3⟩ := nodup_parts hc'
          obtain ⟨⟨us', hu, hat⟩, ha2⟩ := ha
          have hu : us = us' := by
            have : us.toArray = us'.toArray := by injection hu
            simpa using this
          subst hu
          obtain ⟨g1, a1⟩ := ih (b := b + 64) hm h2 n2 hf.right i2 (fun i hi => hd i (List.mem_append_right _ hi)) ha2 c2 (fun q hq e => hp q (List.mem_append_right _ hq) (List.mem_append_right _ e))
          have out : ∀ i ∈ backsNew b bs, i ∉ bxIdL ps xs ++ bxsNew (b + 64) ps := fun i hi e => by
            rcases List.mem_append.1 e with e | e
            · exact hp i (List.mem_append_right _ e) (List.mem_append_left _ hi)
            · exact i3 i hi e
          have hs : ∀ p ∈ caps, p.1 ∉ bxIdL ps xs ++ bxsNew (b + 64) ps := fun p hq e => by
            rcases List.mem_append.1 e with e | e
            · exact c3 p.1 (List.mem_map.2 ⟨p, hq, rfl⟩) e
            · exact hp p.1 (List.mem_append_left _ (List.mem_map.2 ⟨p, hq, rfl⟩)) (List.mem_append_right _ e)
          obtain ⟨g2, a2⟩ := take_backs mm (b := b) a1.mr h1 n1 (hf.left.after a1 n3) i1 (a1.fits out fun i hi => hd i (List.mem_append_left _ hi)) (hat.mono_mem fun p hq v hv => hv.after (a1.same p.1 (hs p hq))) c1
            (fun p hq e => hp p.1 (List.mem_append_left _ (List.mem_map.2 ⟨p, hq, rfl⟩)) (List.mem_append_left _ e))
          have e : updL m (bxsOut b mm (.fn f bs :: ps) (.v (.c (.fn f' caps)) :: xs) x) = updL (updL m (bxsOut (b + 64) mm ps xs x.2)) (boxesOut b mm bs caps x.1) := updL_append _ _ _
          refine ⟨g2, ?_⟩
          rw [e]
          refine (a1.trans a2).weaken (fun i hi => ?_) (fun _ h => h)
          show i ∈ ((caps.map fun p => p.1) ++ bxIdL ps xs) ++ (backsNew b bs ++ bxsNew (b + 64) ps)
          simp only [List.mem_append] at hi ⊢
          rcases hi with (h | h) | h | h
          · exact .inl (.inl h)
          · exact .inr (.inl h)
          · exact .inl (.inr h)
          · exact .inr (.inr h)
end

/-! ### what a contract says of a function -/
def resVal (w : World) (S : Nat → Prop) : (k : RK) → k.den → Value → List Nat → Prop
  | .none, _, v, B => v = undef ∧ B = []
  | .one p, x, v, B => partV w S p x v B
  | .tup ps, x, v, B => ∃ vs : List Value, v = .tuple vs.toArray ∧ partsV w S ps x vs B
def blksOf : List Value → List Nat
  | [] => []
  | v :: vs => bl (blkOf v) ++ blksOf vs
def vcells : Bool → Value → List Value
  | true, .agg vs => vs.toList
  | true, _ => []
  | false, v => [v]
theorem CellsOf.eq {ag : Bool} {v : Value} {vs : List Value} (h : CellsOf ag v vs) : vcells ag v = vs := by
  cases ag with
  | true =>
    have h : v = .agg vs.toArray := h
    subst h
    rfl
  | false =>
    have h : vs = [v] := h
    rw [h]
    rfl
def mutBlks : List CK → List Value → List Nat
  | .own _ :: ks, v :: vs => bl (blkOf v) ++ mutBlks ks vs
  | .dat _ :: ks, _ :: vs => mutBlks ks vs
  | .fn1 _ _ :: ks, _ :: vs => mutBlks ks vs
  | .map :: ks, _ :: vs => mutBlks ks vs
  | _, _ => []
/-- The variables' blocks. -/
def boxBlks : List PK → List Value → List Nat
  | .box _ :: ps, v :: vs => bl (blkOf v) ++ boxBlks ps vs
  | .fn _ _ :: ps, .func _ _ us :: vs => blksOf us.toList ++ boxBlks ps vs
  | .wr ag ks :: ps, v :: vs => mutBlks ks (vcells ag v) ++ boxBlks ps vs
  | .c _ :: ps, _ :: vs => boxBlks ps vs
  | .agg _ :: ps, _ :: vs => boxBlks ps vs
  | _, _ => []

/-- What stands behind a call. -/
structure Told (sp : Spec) (x : PKs.den sp.ins) (w : World) (S : Nat → Prop) (vals : List Value) (B : List Nat) (val : Value) (w' : World) (S' : Nat → Prop) (B1 B2 : List Nat) : Prop where
  res : resVal w' S' sp.out (sp.g x).1 val B1
  bxs : bxsV w' S' sp.ins vals (sp.g x).2 B2
  nodup : (B1 ++ B2).Nodup
  apart : ∀ b ∈ B1 ++ B2, ¬ S' b ∧ b ∉ boxBlks sp.ins vals ∧ (b ∈ B ∨ w.heap.size ≤ b)
  boxes : ∀ b ∈ boxBlks sp.ins vals, ¬ S' b
  sub : ∀ b, S b → S' b
  ssub : ∀ b, S' b → S b ∨ b ∈ B ∨ w.heap.size ≤ b
  slt : ∀ b, S' b → b < w'.heap.size
  keep : ∀ b, b < w.heap.size → b ∉ B → w'.heap[b]? = w.heap[b]?
  os : w'.os = w.os
  tape : w'.tape = w.tape
  output : w'.output = w.output
  size : w.heap.size ≤ w'.heap.size

structure Given (S : Nat → Prop) (w : World) (B : List Nat) : Prop where
  nodup : B.Nodup
  apart : ∀ b ∈ B, ¬ S b
  lt : ∀ b ∈ B, b < w.heap.size
  slt : ∀ b, S b → b < w.heap.size

def Runs (P : Program) (f : Nat) (sp : Spec) : Prop :=
  ∀ x, sp.pre x = true → ∀ (w : World) (S : Nat → Prop) (vals : List Value) (B : List Nat), partsV w S sp.ins x vals B → Given S w B →
    Calls P f vals.toArray w fun e w' => ∃ val S' B1 B2, e = .returned val ∧ Told sp x w S vals B val w' S' B1 B2

def callable (P : Program) (f : Nat) : Prop := ∃ fn, P.funcs[f]? = some fn ∧ fn.name ≠ "runtime.NumGoroutine" ∧ fn.body.isSome = true

def SpecOk (P : Program) (f : Nat) (sp : Spec) : Prop := callable P f ∧ Runs P f sp
end Go.Rx

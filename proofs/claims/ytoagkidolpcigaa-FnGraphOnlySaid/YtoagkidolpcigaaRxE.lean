/-
  ENGINE, part E: how a world and its abstract memory go on together.
  Seat-independent.
-/
import Derived.Test.YtoagkidolpcigaaRxD
namespace Go.Rx
open Go Go.RowKit
set_option linter.unusedVariables false

theorem Tr.trans {o o' o'' : Ob} {v v' v'' : Value} (h : Tr o v o' v') (h' : Tr o' v' o'' v'') : Tr o v o'' v'' := by
  have l1 := h.ver_le
  have l2 := h'.ver_le
  rcases h with h | ⟨h, k⟩
  · exact .inl (by omega)
  · rcases h' with h' | ⟨h', k'⟩
    · exact .inl (by omega)
    · refine .inr ⟨by omega, ?_⟩
      cases o with
      | dead n => trivial
      | box n cs =>
        obtain ⟨rfl, n', cs', rfl⟩ := k
        obtain ⟨rfl, n'', cs'', rfl⟩ := k'
        exact ⟨rfl, _, _, rfl⟩
      | arr n e xs =>
        obtain ⟨rfl, ⟨n', ys, rfl⟩ | ⟨n', ys, rfl⟩⟩ := k
        · exact k'
        · obtain ⟨rfl, n'', rfl⟩ := k'
          exact ⟨rfl, .inr ⟨_, _, rfl⟩⟩
      | frz n e xs =>
        obtain ⟨rfl, n', rfl⟩ := k
        exact k'
      | map n ks =>
        obtain ⟨rfl, n', ks', rfl⟩ := k
        exact k'

/-- From a world with its abstract memory to a later one. -/
structure Evo (m : Mem) (g : Nat → Value) (S : Nat → Prop) (w : World) (m' : Mem) (g' : Nat → Value) (S' : Nat → Prop) (w' : World) : Prop where
  tr : ∀ id, Tr (m id) (g id) (m' id) (g' id)
  hold : Hold S w w'
  sub : ∀ b, S b → S' b
  own' : ∀ i b, own m' g' i = some b → (∃ j, own m g j = some b) ∨ w.heap.size ≤ b
  ssub : ∀ b, S' b → S b ∨ (∃ j, own m g j = some b) ∨ w.heap.size ≤ b
  keep : ∀ b, b < w.heap.size → (∀ j, own m g j ≠ some b) → w'.heap[b]? = w.heap[b]?
  os : w'.os = w.os
  tape : w'.tape = w.tape
  output : w'.output = w.output
  size : w.heap.size ≤ w'.heap.size

theorem Evo.refl (m : Mem) (g : Nat → Value) (S : Nat → Prop) (w : World) : Evo m g S w m g S w :=
  ⟨fun _ => Tr.refl _ _, Hold.refl _ _, fun _ h => h, fun i b h => .inl ⟨i, h⟩, fun _ h => .inl h, fun _ _ _ => rfl, rfl, rfl, rfl, Nat.le_refl _⟩

theorem Evo.trans {m m' m'' : Mem} {g g' g'' : Nat → Value} {S S' S'' : Nat → Prop} {w w' w'' : World}
    (h : Evo m g S w m' g' S' w') (k : Evo m' g' S' w' m'' g'' S'' w'') : Evo m g S w m'' g'' S'' w'' where
  tr id := (h.tr id).trans (k.tr id)
  hold b hb := (k.hold b (h.sub b hb)).trans (h.hold b hb)
  sub b hb := k.sub b (h.sub b hb)
  own' i b hb := by
    rcases k.own' i b hb with ⟨j, hj⟩ | hl
    · exact h.own' j b hj
    · exact .inr (Nat.le_trans h.size hl)
  ssub b hb := by
    rcases k.ssub b hb with hs | ⟨j, hj⟩ | hl
    · exact h.ssub b hs
    · exact .inr (h.own' j b hj)
    · exact .inr (.inr (Nat.le_trans h.size hl))
  keep b hb hn := by
    refine (k.keep b (Nat.lt_of_lt_of_le hb h.size) fun j hj => ?_).trans (h.keep b hb hn)
    rcases h.own' j b hj with ⟨i, hi⟩ | hl
    · exact hn i hi
    · omega
  os := k.os.trans h.os
  tape := k.tape.trans h.tape
  output := k.output.trans h.output
  size := Nat.le_trans h.size k.size

/-- Draws alone. -/
theorem Evo.drawn {m : Mem} {g : Nat → Value} {S : Nat → Prop} {w w' : World} (hh : w'.heap = w.heap) (ho : w'.os = w.os) (ht : w'.tape = w.tape) (hp : w'.output = w.output) : Evo m g S w m g S w' :=
  ⟨fun _ => Tr.refl _ _, fun b _ => by rw [hh], fun _ h => h, fun i b h => .inl ⟨i, h⟩, fun _ h => .inl h, fun _ _ _ => by rw [hh], ho, ht, hp, by rw [hh]; exact Nat.le_refl _⟩

/-- An object that stays. -/
theorem Or.stay {m m' : Mem} {g g' : Nat → Value} {S S' : Nat → Prop} {w w' : World} (ht : ∀ id, Tr (m id) (g id) (m' id) (g' id)) (hh : Hold S w w') (hs : ∀ b, S b → S' b)
    {j : Nat} (hm : m' j = m j) (hg : g' j = g j) (hb : ∀ b, own m g j = some b → w'.heap[b]? = w.heap[b]?) (h : Or m g S w j) : Or m' g' S' w' j := by
  unfold Or at h ⊢
  unfold own at hb
  rw [hm, hg]
  cases hj : m j with
  | dead n => trivial
  | box n cs =>
    rw [hj] at h hb
    obtain ⟨b, vs, E, hgj, hw, hc⟩ := h
    exact ⟨b, vs, E, hgj, (hb b (by rw [hgj]; rfl)).trans hw, hc.mono (Cc.tr ht hh hs)⟩
  | arr n e xs =>
    rw [hj] at h hb
    rcases h with h | ⟨b, c, vs, E, hgj, hw, hl, hz, hr⟩
    · exact .inl h
    · exact .inr ⟨b, c, vs, E, hgj, (hb b (by rw [hgj]; rfl)).trans hw, hl, hz, fun i r hi => RdRow.mono hh hs e _ _ (fun _ => rfl) r _ (hr i r hi)⟩
  | frz n e xs =>
    rw [hj] at h
    exact Rd.mono hh hs _ _ _ h
  | map n ks =>
    rw [hj] at h hb
    obtain ⟨b, es, cl, hgj, hw, he⟩ := h
    exact ⟨b, es, cl, hgj, (hb b (by rw [hgj]; rfl)).trans hw, he⟩

def ownOf (o : Ob) (v : Value) : Option Nat :=
  match o with
  | .box _ _ => blkOf v
  | .arr _ _ _ => blkOf v
  | .map _ _ => blkOf v
  | _ => none

theorem own_eq (m : Mem) (g : Nat → Value) (id : Nat) : own m g id = ownOf (m id) (g id) := by
  unfold own ownOf
  cases m id <;> rfl

theorem upd_same {α : Type} (f : Nat → α) (i : Nat) (v : α) : upd f i v i = v := by simp [upd]
theorem upd_ne {α : Type} (f : Nat → α) {i j : Nat} (v : α) (h : j ≠ i) : upd f i v j = f j := by
  have : Nat.beq j i = false := by
    rw [Bool.eq_false_iff]
    exact fun e => h (Nat.eq_of_beq_eq_true e)
  simp [upd, this]

/-- One object turns, and with it at most its own block, or a new one. -/
theorem evo_one {m : Mem} {g : Nat → Value} {S S' : Nat → Prop} {w w' : World} (h : MRel m g S w) (id : Nat) (ob' : Ob) (v' : Value)
    (ht : Tr (m id) (g id) ob' v') (hb : ∀ b, ownOf ob' v' = some b → own m g id = some b ∨ w.heap.size ≤ b)
    (hsub : ∀ b, S b → S' b) (hS : ∀ b, S' b → S b ∨ own m g id = some b) (hS' : ∀ b, S' b → ownOf ob' v' ≠ some b)
    (hkeep : ∀ b, b < w.heap.size → own m g id ≠ some b → w'.heap[b]? = w.heap[b]?)
    (ho : w'.os = w.os) (htp : w'.tape = w.tape) (hp : w'.output = w.output) (hz : w.heap.size ≤ w'.heap.size)
    (hor : MRel m g S w → Or (upd m id ob') (upd g id v') S' w' id) :
    MRel (upd m id ob') (upd g id v') S' w' ∧ Evo m g S w (upd m id ob') (upd g id v') S' w' := by
  have hold : Hold S w w' := fun b hb' => hkeep b (h.slt b hb') fun e => h.sdisj id b e hb'
  have tr : ∀ j, Tr (m j) (g j) (upd m id ob' j) (upd g id v' j) := fun j => by
    by_cases hj : j = id
    · subst hj
      rw [upd_same, upd_same]
      exact ht
    · rw [upd_ne _ _ hj, upd_ne _ _ hj]
      exact Tr.refl _ _
  have own_ne : ∀ j, j ≠ id → own (upd m id ob') (upd g id v') j = own m g j := fun j hj => by
    rw [own_eq, own_eq, upd_ne _ _ hj, upd_ne _ _ hj]
  have own_id : own (upd m id ob') (upd g id v') id = ownOf ob' v' := by rw [own_eq, upd_same, upd_same]
  refine ⟨⟨fun j => ?_, fun i j b hi hj => ?_, fun i b hi hs => ?_, fun b hb' => ?_⟩, ⟨tr, hold, hsub, fun i b hi => ?_, fun b hb' => ?_, fun b hlt hn => hkeep b hlt (hn id), ho, htp, hp, hz⟩⟩
  · by_cases hj : j = id
    · subst hj
      exact hor h
    · exact Or.stay tr hold hsub (upd_ne _ _ hj) (upd_ne _ _ hj) (fun b hb' => hkeep b (h.own_lt hb') fun e => hj (h.disj j id b hb' e)) (h.or j)
  · by_cases hi' : i = id
    · subst hi'
      by_cases hj' : j = i
      · exact hj'.symm
      · rw [own_id] at hi
        rw [own_ne j hj'] at hj
        rcases hb b hi with e | e
        · exact absurd (h.disj j i b hj e) hj'
        · have := h.own_lt hj
          omega
    · rw [own_ne i hi'] at hi
      by_cases hj' : j = id
      · subst hj'
        rw [own_id] at hj
        rcases hb b hj with e | e
        · exact h.disj i j b hi e
        · have := h.own_lt hi
          omega
      · rw [own_ne j hj'] at hj
        exact h.disj i j b hi hj
  · by_cases hi' : i = id
    · subst hi'
      rw [own_id] at hi
      exact hS' b hs hi
    · rw [own_ne i hi'] at hi
      rcases hS b hs with e | e
      · exact h.sdisj i b hi e
      · exact hi' (h.disj i id b hi e)
  · rcases hS b hb' with e | e
    · exact Nat.lt_of_lt_of_le (h.slt b e) hz
    · exact Nat.lt_of_lt_of_le (h.own_lt e) hz
  · by_cases hi' : i = id
    · subst hi'
      rw [own_id] at hi
      rcases hb b hi with e | e
      · exact .inl ⟨i, e⟩
      · exact .inr e
    · rw [own_ne i hi'] at hi
      exact .inl ⟨i, hi⟩
  · rcases hS b hb' with e | e
    · exact .inl e
    · exact .inr (.inl ⟨id, e⟩)

/-! a new object in a new block -/
theorem push_old {w : World} {o : Obj} {b : Nat} (h : b < w.heap.size) : (w.alloc o).heap[b]? = w.heap[b]? := by
  simp only [World.alloc, Array.getElem?_push]
  rw [if_neg (by omega)]
theorem push_new (w : World) (o : Obj) : (w.alloc o).heap[w.heap.size]? = some o := by
  show (w.heap.push o)[w.heap.size]? = some o
  simp

theorem evo_new {m : Mem} {g : Nat → Value} {S : Nat → Prop} {w : World} (h : MRel m g S w) (id : Nat) (ob' : Ob) (v' : Value) (o : Obj)
    (hd : isDead (m id) = true) (hv : ob'.ver = (m id).ver) (hb : ∀ b, ownOf ob' v' = some b → b = w.heap.size)
    (hor : (∀ x v, Cc m g S w x v → Cc (upd m id ob') (upd g id v') S (w.alloc o) x v) → Or (upd m id ob') (upd g id v') S (w.alloc o) id) :
    MRel (upd m id ob') (upd g id v') S (w.alloc o) ∧ Evo m g S w (upd m id ob') (upd g id v') S (w.alloc o) := by
  have ht : Tr (m id) (g id) ob' v' := by
    cases hm : m id with
    | dead n => rw [hm] at hv; exact .inr ⟨hv.symm, trivial⟩
    | _ => rw [hm] at hd; cases hd
  have hown : own m g id = none := by
    rw [own_eq]
    cases hm : m id with
    | dead n => rfl
    | _ => rw [hm] at hd; cases hd
  refine evo_one h id ob' v' ht (fun b e => .inr (by rw [hb b e]; exact Nat.le_refl _)) (fun _ h => h) (fun _ h => .inl h) (fun b hs e => ?_) (fun b hlt _ => push_old hlt) rfl rfl rfl (by show _ ≤ (w.heap.push o).size; simp) (fun h => ?_)
  · have := h.slt b hs
    rw [hb b e] at this
    omega
  · refine hor fun x v hx => Cc.tr (fun j => ?_) (fun b hb' => push_old (h.slt b hb')) (fun _ h => h) x v hx
    by_cases hj : j = id
    · subst hj
      rw [upd_same, upd_same]
      exact ht
    · rw [upd_ne _ _ hj, upd_ne _ _ hj]
      exact Tr.refl _ _

/-! an array that is not written any more -/
theorem RdRow.ofC {w : World} {S S' : Nat → Prop} (hs : ∀ b, S b → S' b) {e : Tys} {vs : Array Value} {E : TypeId} {b : Nat} (hw : w.heap[b]? = some (.cells vs E (0, 0))) {r : e.den} {k : Nat}
    (h : RdRow w S e (fun k => vs[k]?) r k) : RdRow w S' e (fun k => w.cell? ((⟨b, 0, none⟩ : Addr).add k)) r k := by
  refine RdRow.mono (Hold.refl S w) hs e _ _ (fun j => ?_) r k h
  unfold World.cell? Go.Addr.add
  by_cases hj : j = 0
  · subst hj
    simp [hw]
  · simp [hj, hw]

theorem Rd.ofArr {w : World} {S S' : Nat → Prop} (hs : ∀ b, S b → S' b) {e : Tys} {xs : List e.den} {v : Value}
    (h : (v = .slice none 0 0 ∧ xs = []) ∨ ∃ (b c : Nat) (vs : Array Value) (E : TypeId), v = .slice (some ⟨b, 0, none⟩) xs.length c ∧ w.heap[b]? = some (.cells vs E (0, 0)) ∧ xs.length ≤ c ∧ vs.size = c * e.len ∧
        ∀ (i : Nat) (r : e.den), xs[i]? = some r → RdRow w S e (fun k => vs[k]?) r (i * e.len)) (hb : ∀ b, blkOf v = some b → S' b) : Rd w S' (.sl e) xs v := by
  rcases h with ⟨rfl, rfl⟩ | ⟨b, c, vs, E, rfl, hw, hl, hz, hr⟩
  · exact ⟨none, 0, rfl, Nat.le_refl _, fun i r hi => by simp at hi⟩
  · exact ⟨_, c, rfl, hl, fun i r hi => ⟨_, rfl, hb b rfl, RdRow.ofC hs hw (hr i r hi)⟩⟩

theorem evo_frz {m : Mem} {g : Nat → Value} {S : Nat → Prop} {w : World} (h : MRel m g S w) (id : Nat) :
    ∃ S', MRel (upd m id (frzOb (m id))) (upd g id (g id)) S' w ∧ Evo m g S w (upd m id (frzOb (m id))) (upd g id (g id)) S' w ∧ (∀ b, (∃ n e xs, m id = .arr n e xs) → own m g id = some b → S' b) := by
  cases hm : m id with
  | arr n e xs =>
    refine ⟨fun b => S b ∨ own m g id = some b, ?_⟩
    rw [← and_assoc]
    refine ⟨?_, fun b _ hb => .inr hb⟩
    refine evo_one h id (.frz n e xs) (g id) (by rw [hm]; exact .inr ⟨rfl, rfl, .inr ⟨n, xs, rfl⟩⟩) (fun b e => by cases e) (fun _ h => .inl h) (fun _ h => h) (fun _ _ e => by cases e) (fun _ _ _ => rfl) rfl rfl rfl (Nat.le_refl _) (fun h => ?_)
    have ho := h.or id
    unfold Or at ho ⊢
    rw [hm] at ho
    rw [upd_same, upd_same]
    refine Rd.ofArr (S := S) (fun _ h => .inl h) ho fun b hb => .inr ?_
    rw [own_eq, hm]
    exact hb
  | dead n =>
    refine ⟨S, ?_⟩
    rw [← and_assoc]
    refine ⟨evo_one h id (.dead n) (g id) (by rw [hm]; exact Tr.refl _ _) (fun b e => by cases e) (fun _ h => h) (fun _ h => .inl h) (fun _ _ e => by cases e) (fun _ _ _ => rfl) rfl rfl rfl (Nat.le_refl _) (fun h => ?_), fun b ⟨n, e, xs, h⟩ _ => by cases h⟩
    unfold Or
    rw [upd_same]
    trivial
  | box n cs =>
    have e1 : upd m id (frzOb (.box n cs)) = m := by
      funext j
      by_cases hj : j = id
      · subst hj
        rw [upd_same, hm]
        rfl
      · exact upd_ne _ _ hj
    have e2 : upd g id (g id) = g := by
      funext j
      by_cases hj : j = id
      · subst hj
        exact upd_same _ _ _
      · exact upd_ne _ _ hj
    rw [e1, e2]
    exact ⟨S, h, Evo.refl _ _ _ _, fun b ⟨n, e, xs, h⟩ _ => by cases h⟩
  | frz n e xs =>
    have e1 : upd m id (frzOb (.frz n e xs)) = m := by
      funext j
      by_cases hj : j = id
      · subst hj
        rw [upd_same, hm]
        rfl
      · exact upd_ne _ _ hj
    have e2 : upd g id (g id) = g := by
      funext j
      by_cases hj : j = id
      · subst hj
        exact upd_same _ _ _
      · exact upd_ne _ _ hj
    rw [e1, e2]
    exact ⟨S, h, Evo.refl _ _ _ _, fun b ⟨n, e, xs, h⟩ _ => by cases h⟩
  | map n ks =>
    have e1 : upd m id (frzOb (.map n ks)) = m := by
      funext j
      by_cases hj : j = id
      · subst hj
        rw [upd_same, hm]
        rfl
      · exact upd_ne _ _ hj
    have e2 : upd g id (g id) = g := by
      funext j
      by_cases hj : j = id
      · subst hj
        exact upd_same _ _ _
      · exact upd_ne _ _ hj
    rw [e1, e2]
    exact ⟨S, h, Evo.refl _ _ _ _, fun b ⟨n, e, xs, h⟩ _ => by cases h⟩

theorem evo_bump {m : Mem} {g : Nat → Value} {S : Nat → Prop} {w : World} (h : MRel m g S w) (id : Nat) :
    MRel (upd m id (m id).bump) (upd g id (g id)) S w ∧ Evo m g S w (upd m id (m id).bump) (upd g id (g id)) S w := by
  refine evo_one h id (m id).bump (g id) (.inl ?_) (fun b e => by cases e) (fun _ h => h) (fun _ h => .inl h) (fun _ _ e => by cases e) (fun _ _ _ => rfl) rfl rfl rfl (Nat.le_refl _) (fun h => ?_)
  · show (m id).ver < (m id).ver + 1
    omega
  · unfold Or
    rw [upd_same]
    trivial
end Go.Rx

/-
  ENGINE, part N: a call by a contract does what its plan says.
  Seat-independent. No macro, syntax, notation, axiom, sorry.
-/
import Derived.Test.YtaolhoohjnbfkaaRxM
namespace Go.Rx
open Go Go.RowKit
set_option linter.unusedVariables false
set_option linter.unusedSimpArgs false

/-! ### what is read from a part of the memory is read from the whole -/
def Part (m1 m : Mem) : Prop := ∀ id, m1 id = m id ∨ m1 id = .dead 0
theorem Part.restr (l : List Nat) (m : Mem) : Part (restr l m) m := restr_or l m

theorem toD_part {m1 m : Mem} (h : Part m1 m) {t : Ty} {c : C} {x : t.den} (hx : toD m1 t c = some x) : toD m t c = some x := by
  cases t <;> cases c <;> try exact hx
  rename_i e id ver
  simp only [toD, refRows] at hx ⊢
  rcases h id with e | e
  · rw [e] at hx
    exact hx
  · rw [e] at hx
    cases hx
theorem cellIn_part {m1 m : Mem} (h : Part m1 m) : ∀ {k : CK} {c : C} {x : k.den}, cellIn m1 k c = some x → cellIn m k c = some x
  | .dat t, c, x, hx => toD_part h hx
  | .own e, c, x, hx => by
    cases c <;> try exact hx
    rename_i id ver
    simp only [cellIn] at hx ⊢
    rcases h id with e | e
    · rw [e] at hx
      exact hx
    · rw [e] at hx
      cases hx
theorem cellsIn_part {m1 m : Mem} (h : Part m1 m) : ∀ {ks : List CK} {cs : List C} {x : CKs.den ks}, cellsIn m1 ks cs = some x → cellsIn m ks cs = some x
  | [], [], _, hx => hx
  | [], _ :: _, _, hx => by simp [cellsIn] at hx
  | _ :: _, [], _, hx => by simp [cellsIn] at hx
  | k :: ks, c :: cs, x, hx => by
    simp only [cellsIn] at hx ⊢
    split at hx
    · rename_i a b ha hb
      rw [cellIn_part h ha, cellsIn_part h hb]
      exact hx
    · cases hx
theorem boxIn_part {m1 m : Mem} (h : Part m1 m) {ks : List CK} {id ver : Nat} {x : CKs.den ks} (hx : boxIn m1 ks id ver = some x) : boxIn m ks id ver = some x := by
  unfold boxIn at hx ⊢
  rcases h id with e | e
  · split at hx
    · rename_i n cs ho
      rw [← e, ho]
      obtain ⟨h1, h2⟩ := cond_some hx
      simp only [h1, cond]
      exact cellsIn_part h h2
    · cases hx
  · rw [e] at hx
    cases hx
theorem boxesIn_part {m1 m : Mem} (h : Part m1 m) : ∀ {bs : List (List CK)} {caps : List (Nat × Nat × Nat)} {x : CKss.den bs}, boxesIn m1 bs caps = some x → boxesIn m bs caps = some x
  | [], [], _, hx => hx
  | [], _ :: _, _, hx => by simp [boxesIn] at hx
  | _ :: _, [], _, hx => by simp [boxesIn] at hx
  | ks :: bs, (id, ver, off) :: cs, x, hx => by
    cases off with
    | succ n => simp [boxesIn] at hx
    | zero =>
      simp only [boxesIn] at hx ⊢
      split at hx
      · rename_i a b ha hb
        rw [boxIn_part h ha, boxesIn_part h hb]
        exact hx
      · cases hx
theorem argIn_part {m1 m : Mem} (h : Part m1 m) {p : PK} {a : A} {x : p.den} (hx : argIn m1 p a = some x) : argIn m p a = some x := by
  unfold argIn at hx
  split at hx
  · exact cellIn_part h hx
  · exact cellsIn_part h hx
  · exact boxIn_part h hx
  · obtain ⟨h1, h2⟩ := cond_some hx
    simp only [argIn, h1, cond]
    exact boxesIn_part h h2
  · cases hx
theorem argsIn_part {m1 m : Mem} (h : Part m1 m) : ∀ {ps : List PK} {xs : List A} {x : PKs.den ps}, argsIn m1 ps xs = some x → argsIn m ps xs = some x
  | [], [], _, hx => hx
  | [], _ :: _, _, hx => by simp [argsIn] at hx
  | _ :: _, [], _, hx => by simp [argsIn] at hx
  | k :: ks, c :: cs, x, hx => by
    simp only [argsIn] at hx ⊢
    split at hx
    · rename_i a b ha hb
      rw [argIn_part h ha, argsIn_part h hb]
      exact hx
    · cases hx

/-! ### variables among the arguments -/
section
variable {m : Mem} {g : Nat → Value} {S : Nat → Prop} {w : World}

theorem boxIn_at {ks : List CK} {id ver : Nat} {x : CKs.den ks} {v : Value} (h : boxIn m ks id ver = some x) (hv : PtrOk m g id ver 0 v) : At m g m id v := by
  unfold boxIn at h
  split at h
  · rename_i n cs ho
    obtain ⟨hn, _⟩ := cond_some h
    obtain rfl := beq_true hn
    unfold PtrOk at hv
    rw [ho] at hv
    rcases hv with hv | ⟨_, b, hg, rfl⟩
    · omega
    · exact ⟨ver, cs, b, ho, by rw [ho]; rfl, hg, rfl⟩
  · cases h
theorem boxesIn_at : ∀ {bs : List (List CK)} {caps : List (Nat × Nat × Nat)} {x : CKss.den bs} {vs : List Value}, boxesIn m bs caps = some x → All2 (fun p v => PtrOk m g p.1 p.2.1 p.2.2 v ∧ v.oneCell' = true) caps vs → All2 (fun p v => At m g m p.1 v) caps vs
  | [], [], _, [], _, _ => trivial
  | [], [], _, _ :: _, _, hv => hv.elim
  | [], _ :: _, _, _, h, _ => by simp [boxesIn] at h
  | _ :: _, [], _, _, h, _ => by simp [boxesIn] at h
  | ks :: bs, c :: cs, x, [], _, hv => hv.elim
  | ks :: bs, (id, ver, off) :: cs, x, v :: vs, h, hv => by
    cases off with
    | succ n => simp [boxesIn] at h
    | zero =>
      simp only [boxesIn] at h
      split at h
      · rename_i a b ha hb
        exact ⟨boxIn_at ha hv.1.1, boxesIn_at hb hv.2⟩
      · cases h
theorem args_at : ∀ {ps : List PK} {xs : List A} {x : PKs.den ps} {vs : List Value}, argsIn m ps xs = some x → All2 (Ac m g S w) xs vs → AtP (At m g m) ps xs vs
  | [], [], _, [], _, _ => trivial
  | [], [], _, _ :: _, _, hv => hv.elim
  | [], _ :: _, _, _, h, _ => by simp [argsIn] at h
  | _ :: _, [], _, _, h, _ => by simp [argsIn] at h
  | k :: ks, c :: cs, x, [], _, hv => hv.elim
  | k :: ks, c :: cs, x, v :: vs, h, hv => by
    simp only [argsIn] at h
    split at h
    · rename_i a b ha hb
      have ih := args_at hb hv.2
      unfold argIn at ha
      split at ha
      · exact ih
      · exact ih
      · exact ⟨boxIn_at ha hv.1.1, ih⟩
      · obtain ⟨hf, h1⟩ := cond_some ha
        obtain rfl := beq_true hf
        obtain ⟨us, rfl, hu⟩ := hv.1
        exact ⟨⟨us, rfl, boxesIn_at h1 hu⟩, ih⟩
      · cases ha
    · cases h

theorem cellIds_false {k : CK} {c : C} {p : Nat × Bool} (h : p ∈ (cellIds k c).all) : p.2 = false := by
  cases k <;> cases c <;> simp [cellIds, Ids.none] at h <;> simp [h]
theorem cellsIds_false : ∀ {ks : List CK} {cs : List C} {p : Nat × Bool}, p ∈ (cellsIds ks cs).all → p.2 = false
  | [], _, _, h => by simp [cellsIds, Ids.none] at h
  | _ :: _, [], _, h => by simp [cellsIds, Ids.none] at h
  | k :: ks, c :: cs, p, h => by
    rcases List.mem_append.1 (show p ∈ (cellIds k c).all ++ (cellsIds ks cs).all from h) with h | h
    · exact cellIds_false h
    · exact cellsIds_false h
theorem boxIds_all (ks : List CK) (id : Nat) : ∃ r : List (Nat × Bool), (boxIds m ks id).all = (id, true) :: r ∧ ∀ p ∈ r, p.2 = false := by
  unfold boxIds
  split
  · rename_i n cs _
    exact ⟨(cellsIds ks cs).all, rfl, fun p hp => cellsIds_false hp⟩
  · exact ⟨[], rfl, fun p hp => by cases hp⟩
theorem boxesIds_all : ∀ {bs : List (List CK)} {caps : List (Nat × Nat × Nat)}, caps.length = bs.length → (caps.map fun p => p.1).Sublist ((boxesIds m bs caps).all.map fun p => p.1) ∧ ∀ p ∈ (boxesIds m bs caps).all, p.2 = true ↔ p.1 ∈ (caps.map fun p => p.1) ∧ p.2 = true
  | [], [], _ => ⟨List.Sublist.refl _, fun p hp => by cases hp⟩
  | [], _ :: _, h => by simp at h
  | _ :: _, [], h => by simp at h
  | ks :: bs, c :: caps, h => by
    obtain ⟨i1, i2⟩ := boxesIds_all (bs := bs) (caps := caps) (by simpa using h)
    obtain ⟨r, hr, hf⟩ := boxIds_all (m := m) ks c.1
    have e : (boxesIds m (ks :: bs) (c :: caps)).all = (c.1, true) :: (r ++ (boxesIds m bs caps).all) := by
      show (boxIds m ks c.1).all ++ (boxesIds m bs caps).all = _
      rw [hr]
      rfl
    rw [e]
    refine ⟨?_, fun p hp => ⟨fun h2 => ⟨?_, h2⟩, fun h => h.2⟩⟩
    · rw [List.map_cons, List.map_cons, List.map_append]
      exact List.Sublist.cons_cons _ (i1.trans (List.sublist_append_right _ _))
    · rcases List.mem_cons.1 hp with rfl | hp
      · exact List.mem_cons_self ..
      · rcases List.mem_append.1 hp with hp | hp
        · rw [hf p hp] at h2
          cases h2
        · exact List.mem_cons_of_mem _ ((i2 p hp).1 h2).1

theorem boxesIn_len : ∀ {bs : List (List CK)} {caps : List (Nat × Nat × Nat)} {x : CKss.den bs}, boxesIn m bs caps = some x → caps.length = bs.length
  | [], [], _, _ => rfl
  | [], _ :: _, _, h => by simp [boxesIn] at h
  | _ :: _, [], _, h => by simp [boxesIn] at h
  | ks :: bs, (id, ver, off) :: cs, x, h => by
    cases off with
    | succ n => simp [boxesIn] at h
    | zero =>
      simp only [boxesIn] at h
      split at h
      · rename_i a b ha hb
        simp [boxesIn_len hb]
      · cases h
theorem args_ids : ∀ {ps : List PK} {xs : List A} {x : PKs.den ps}, argsIn m ps xs = some x → (bxIdL ps xs).Sublist (argsIds m ps xs).ids ∧ ∀ p ∈ (argsIds m ps xs).all, p.2 = true → p.1 ∈ bxIdL ps xs
  | [], [], _, _ => ⟨List.Sublist.refl _, fun p hp => by cases hp⟩
  | [], _ :: _, _, h => by simp [argsIn] at h
  | _ :: _, [], _, h => by simp [argsIn] at h
  | k :: ks, c :: cs, x, h => by
    simp only [argsIn] at h
    split at h
    · rename_i a b ha hb
      obtain ⟨i1, i2⟩ := args_ids hb
      have e : (argsIds m (k :: ks) (c :: cs)).ids = (argIds m k c).ids ++ (argsIds m ks cs).ids := List.map_append ..
      have e2 : (argsIds m (k :: ks) (c :: cs)).all = (argIds m k c).all ++ (argsIds m ks cs).all := rfl
      rw [e, e2]
      unfold argIn at ha
      split at ha
      · refine ⟨i1.trans (List.sublist_append_right _ _), fun p hp h2 => ?_⟩
        rcases List.mem_append.1 hp with hp | hp
        · rw [cellIds_false hp] at h2
          cases h2
        · exact i2 p hp h2
      · refine ⟨i1.trans (List.sublist_append_right _ _), fun p hp h2 => ?_⟩
        rcases List.mem_append.1 hp with hp | hp
        · rw [cellsIds_false hp] at h2
          cases h2
        · exact i2 p hp h2
      · rename_i ks' id ver _
        obtain ⟨r, hr, hf⟩ := boxIds_all (m := m) ks' id
        have e3 : (argIds m (.box ks') (.v (.c (.ptr id ver 0)))).all = (id, true) :: r := hr
        refine ⟨?_, fun p hp h2 => ?_⟩
        · show List.Sublist (id :: bxIdL ks cs) _
          unfold Ids.ids
          rw [e3, List.map_cons, List.cons_append]
          exact List.Sublist.cons_cons _ (i1.trans (List.sublist_append_right _ _))
        · show p.1 ∈ id :: bxIdL ks cs
          rcases List.mem_append.1 hp with hp | hp
          · rw [e3] at hp
            rcases List.mem_cons.1 hp with rfl | hp
            · exact List.mem_cons_self ..
            · rw [hf p hp] at h2
              cases h2
          · exact List.mem_cons_of_mem _ (i2 p hp h2)
      · rename_i f bs f' caps _
        obtain ⟨hf, h1⟩ := cond_some ha
        obtain ⟨j1, j2⟩ := boxesIds_all (m := m) (boxesIn_len h1)
        refine ⟨?_, fun p hp h2 => ?_⟩
        · show List.Sublist ((caps.map fun p => p.1) ++ bxIdL ks cs) _
          exact List.Sublist.append j1 i1
        · show p.1 ∈ (caps.map fun p => p.1) ++ bxIdL ks cs
          rcases List.mem_append.1 hp with hp | hp
          · exact List.mem_append_left _ ((j2 p hp).1 h2).1
          · exact List.mem_append_right _ (i2 p hp h2)
      · cases ha
    · cases h

theorem caps_blks {R : Nat → Value → Prop} : ∀ {caps : List (Nat × Nat × Nat)} {us : List Value}, All2 (fun p u => R p.1 u) caps us → ∀ i ∈ (caps.map fun p => p.1), ∃ v, R i v ∧ ∀ b, blkOf v = some b → b ∈ blksOf us
  | [], [], _, i, hi => by cases hi
  | p :: caps, u :: us, h, i, hi => by
    rcases List.mem_cons.1 hi with rfl | hi
    · exact ⟨u, h.1, fun b hb => List.mem_append_left _ (by rw [hb]; exact List.mem_singleton.2 rfl)⟩
    · obtain ⟨v, h1, h2⟩ := caps_blks h.2 i hi
      exact ⟨v, h1, fun b hb => List.mem_append_right _ (h2 b hb)⟩
theorem backs_heap {w' : World} {S' : Nat → Prop} {R : Nat → Value → Prop} : ∀ {caps : List (Nat × Nat × Nat)} {us : List Value} {bs : List (List CK)} {x : CKss.den bs} {B : List Nat}, All2 (fun p u => R p.1 u) caps us → bxsV.backsV w' S' bs us x B → ∀ i ∈ (caps.map fun p => p.1),
    ∃ blk vs E, R i (.pointer (some ⟨blk, 0, none⟩)) ∧ blk ∈ blksOf us ∧ w'.heap[blk]? = some (.cells (List.toArray vs) E (0, 0))
  | [], [], _, _, _, _, _, i, hi => by cases hi
  | p :: caps, u :: us, [], _, _, h, hb, i, hi => by
    obtain ⟨hb, _⟩ := hb
    cases hb
  | p :: caps, u :: us, ks :: bs, x, B, h, hb, i, hi => by
    obtain ⟨blk, vs, E, B1, B2, rfl, hw, rfl, _, hb⟩ := hb
    rcases List.mem_cons.1 hi with rfl | hi
    · exact ⟨blk, vs, E, h.1, List.mem_append_left _ (List.mem_singleton.2 rfl), hw⟩
    · obtain ⟨blk, vs, E, h1, h2, h3⟩ := backs_heap h.2 hb i hi
      exact ⟨blk, vs, E, h1, List.mem_append_right _ h2, h3⟩

theorem bxs_heap {w' : World} {S' : Nat → Prop} {R : Nat → Value → Prop} : ∀ {ps : List PK} {xs : List A} {vals : List Value} {x : Bxs.den ps} {B : List Nat}, AtP R ps xs vals → bxsV w' S' ps vals x B → ∀ i ∈ bxIdL ps xs,
    ∃ blk vs E, R i (.pointer (some ⟨blk, 0, none⟩)) ∧ blk ∈ boxBlks ps vals ∧ w'.heap[blk]? = some (.cells (List.toArray vs) E (0, 0)) := by
  intro ps
  induction ps with
  | nil =>
    intro xs vals x B ha hb i hi
    cases xs <;> cases hi
  | cons p ps ih =>
    intro xs vals x B ha hb i hi
    cases vals with
    | nil => cases p <;> exact hb.elim
    | cons v vals =>
      cases p with
      | c k =>
        cases xs with
        | nil => exact ha.elim
        | cons a xs => exact ih ha hb i hi
      | agg k =>
        cases xs with
        | nil => exact ha.elim
        | cons a xs => exact ih ha hb i hi
      | box ks =>
        match xs, ha with
        | .v (.c (.ptr id ver off)) :: xs, ha =>
          obtain ⟨blk, vs, E, B1, B2, rfl, hw, rfl, _, hb⟩ := hb
          rcases List.mem_cons.1 (show i ∈ id :: bxIdL ps xs from hi) with rfl | hi
          · exact ⟨blk, vs, E, ha.1, List.mem_append_left _ (List.mem_singleton.2 rfl), hw⟩
          · obtain ⟨blk, vs, E, h1, h2, h3⟩ := ih ha.2 hb i hi
            exact ⟨blk, vs, E, h1, List.mem_append_right _ h2, h3⟩
      | fn f bs =>
        match xs, ha with
        | .v (.c (.fn f' caps)) :: xs, ha =>
          obtain ⟨us, B1, B2, rfl, rfl, h1, hb⟩ := hb
          obtain ⟨⟨us', hu, hat⟩, ha2⟩ := ha
          have hu : us = us' := by
            have : us.toArray = us'.toArray := by injection hu
            simpa using this
          subst hu
          have e : boxBlks (.fn f bs :: ps) (.func (.func f) #[] us.toArray :: vals) = blksOf us ++ boxBlks ps vals := rfl
          rw [e]
          rcases List.mem_append.1 (show i ∈ (caps.map fun p => p.1) ++ bxIdL ps xs from hi) with hi | hi
          · obtain ⟨blk, vs, E, h1, h2, h3⟩ := backs_heap hat h1 i hi
            exact ⟨blk, vs, E, h1, List.mem_append_left _ h2, h3⟩
          · obtain ⟨blk, vs, E, h1, h2, h3⟩ := ih ha2 hb i hi
            exact ⟨blk, vs, E, h1, List.mem_append_right _ h2, h3⟩

theorem backs_keys {w' : World} {S' : Nat → Prop} {R : Nat → Value → Prop} {mm : Mem} : ∀ {caps : List (Nat × Nat × Nat)} {us : List Value} {bs : List (List CK)} {x : CKss.den bs} {B : List Nat} {b : Nat}, All2 (fun p u => R p.1 u) caps us → bxsV.backsV w' S' bs us x B → ∀ i ∈ (caps.map fun p => p.1),
    i ∈ (boxesOut b mm bs caps x).map fun p => p.1
  | [], [], _, _, _, _, _, _, i, hi => by cases hi
  | p :: caps, u :: us, [], _, _, _, h, hb, i, hi => by
    obtain ⟨hb, _⟩ := hb
    cases hb
  | p :: caps, u :: us, ks :: bs, x, B, b, h, hb, i, hi => by
    obtain ⟨blk, vs, E, B1, B2, rfl, hw, rfl, _, hb⟩ := hb
    have e : boxesOut b mm (ks :: bs) (p :: caps) x = boxOut b mm ks p.1 x.1 ++ boxesOut (b + 8) mm bs caps x.2 := rfl
    rw [e, List.map_append]
    rcases List.mem_cons.1 hi with rfl | hi
    · exact List.mem_append_left _ (List.mem_cons_self ..)
    · exact List.mem_append_right _ (backs_keys h.2 hb i hi)
theorem bxs_keys {w' : World} {S' : Nat → Prop} {R : Nat → Value → Prop} {mm : Mem} : ∀ {ps : List PK} {xs : List A} {vals : List Value} {x : Bxs.den ps} {B : List Nat} {b : Nat}, AtP R ps xs vals → bxsV w' S' ps vals x B → ∀ i ∈ bxIdL ps xs,
    i ∈ (bxsOut b mm ps xs x).map fun p => p.1 := by
  intro ps
  induction ps with
  | nil =>
    intro xs vals x B b ha hb i hi
    cases xs <;> cases hi
  | cons p ps ih =>
    intro xs vals x B b ha hb i hi
    cases vals with
    | nil => cases p <;> exact hb.elim
    | cons v vals =>
      cases p with
      | c k =>
        cases xs with
        | nil => exact ha.elim
        | cons a xs => exact ih ha hb i hi
      | agg k =>
        cases xs with
        | nil => exact ha.elim
        | cons a xs => exact ih ha hb i hi
      | box ks =>
        match xs, ha with
        | .v (.c (.ptr id ver off)) :: xs, ha =>
          obtain ⟨blk, vs, E, B1, B2, rfl, hw, rfl, _, hb⟩ := hb
          have e : bxsOut b mm (.box ks :: ps) (.v (.c (.ptr id ver off)) :: xs) x = boxOut b mm ks id x.1 ++ bxsOut (b + 64) mm ps xs x.2 := rfl
          rw [e, List.map_append]
          rcases List.mem_cons.1 (show i ∈ id :: bxIdL ps xs from hi) with rfl | hi
          · exact List.mem_append_left _ (List.mem_cons_self ..)
          · exact List.mem_append_right _ (ih ha.2 hb i hi)
      | fn f bs =>
        match xs, ha with
        | .v (.c (.fn f' caps)) :: xs, ha =>
          obtain ⟨us, B1, B2, rfl, rfl, h1, hb⟩ := hb
          obtain ⟨⟨us', hu, hat⟩, ha2⟩ := ha
          have hu : us = us' := by
            have : us.toArray = us'.toArray := by injection hu
            simpa using this
          subst hu
          have e : bxsOut b mm (.fn f bs :: ps) (.v (.c (.fn f' caps)) :: xs) x = boxesOut b mm bs caps x.1 ++ bxsOut (b + 64) mm ps xs x.2 := rfl
          rw [e, List.map_append]
          rcases List.mem_append.1 (show i ∈ (caps.map fun p => p.1) ++ bxIdL ps xs from hi) with hi | hi
          · exact List.mem_append_left _ (backs_keys hat h1 i hi)
          · exact List.mem_append_right _ (ih ha2 hb i hi)
end

/-! ### flat results -/
section
variable {w : World} {S S' : Nat → Prop}
theorem resVal.flat : ∀ {k : RK} {x : k.den} {v : Value} {B : List Nat}, flatRK k = true → resVal w S k x v B → resVal w S' k x v B
  | .none, _, _, _, _, h => h
  | .one p, _, _, _, hf, h => partV.flat hf h
  | .tup ps, _, _, _, hf, ⟨vs, h1, h2⟩ => ⟨vs, h1, h2.flat hf⟩
theorem backsV.flat : ∀ {bs : List (List CK)} {us : List Value} {x : CKss.den bs} {B : List Nat}, (bs.all fun ks => ks.all flatCK) = true → bxsV.backsV w S bs us x B → bxsV.backsV w S' bs us x B
  | [], _, _, _, _, h => h
  | _ :: _, [], _, _, _, h => h.elim
  | ks :: bs, u :: us, x, B, hf, ⟨blk, vs, E, B1, B2, h1, h2, h3, h4, h5⟩ => by
    rw [List.all_cons, Bool.and_eq_true] at hf
    exact ⟨blk, vs, E, B1, B2, h1, h2, h3, h4.flat hf.1, backsV.flat hf.2 h5⟩
theorem bxsV.flat : ∀ {ps : List PK} {vs : List Value} {x : Bxs.den ps} {B : List Nat}, ((ps.filter isBoxPK).all flatPK) = true → bxsV w S ps vs x B → bxsV w S' ps vs x B
  | [], _, _, _, _, h => h
  | p :: ps, [], _, _, _, h => by cases p <;> exact h.elim
  | .c k :: ps, _ :: _, x, B, hf, h => bxsV.flat (ps := ps) hf h
  | .agg k :: ps, _ :: _, x, B, hf, h => bxsV.flat (ps := ps) hf h
  | .box ks :: ps, _ :: _, x, B, hf, ⟨blk, vs, E, B1, B2, h1, h2, h3, h4, h5⟩ => by
    have hf : ((PK.box ks :: ps.filter isBoxPK).all flatPK) = true := hf
    rw [List.all_cons, Bool.and_eq_true] at hf
    exact ⟨blk, vs, E, B1, B2, h1, h2, h3, h4.flat hf.1, bxsV.flat hf.2 h5⟩
  | .fn f bs :: ps, _ :: _, x, B, hf, ⟨us, B1, B2, h1, h2, h3, h4⟩ => by
    have hf : ((PK.fn f bs :: ps.filter isBoxPK).all flatPK) = true := hf
    rw [List.all_cons, Bool.and_eq_true] at hf
    exact ⟨us, B1, B2, h1, h2, backsV.flat hf.1 h3, bxsV.flat hf.2 h4⟩
end
end Go.Rx

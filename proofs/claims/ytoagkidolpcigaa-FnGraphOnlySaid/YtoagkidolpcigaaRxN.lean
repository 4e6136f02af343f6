/-
  ENGINE, part N: a call by a contract does what its plan says.
  Seat-independent.
-/
import Derived.Test.YtoagkidolpcigaaRxM
namespace Go.Rx
open Go Go.RowKit
set_option linter.unusedVariables false
set_option linter.unusedSimpArgs false

/-! ### what is read from a part of the memory is read from the whole -/
def Part (m1 m : Mem) : Prop := ∀ id, m1 id = m id ∨ m1 id = .dead 0
theorem Part.restr (l : List Nat) (m : Mem) : Part (restr l m) m := restr_or l m

theorem toD_part {m1 m : Mem} (h : Part m1 m) {t : Ty} {c : C} {x : t.den} (hx : toD m1 t c = some x) : toD m t c = some x := by
  have key : ∀ {e : Tys} {id ver : Nat} {xs : List e.den}, refRows m1 id ver e = some xs → refRows m id ver e = some xs := fun {e id ver xs} hx => by
    unfold refRows at hx ⊢
    rcases h id with e | e
    · rw [e] at hx
      exact hx
    · rw [e] at hx
      cases hx
  cases t <;> cases c <;> try exact hx
  · exact key hx
  · simp only [toD] at hx ⊢
    split at hx
    · rename_i xs hy
      rw [key hy]
      exact hx
    · cases hx
theorem cellIn_part {m1 m : Mem} (h : Part m1 m) : ∀ {k : CK} {c : C} {x : k.den}, cellIn m1 k c = some x → cellIn m k c = some x
  | .dat t, c, x, hx => toD_part h hx
  | .own e, c, x, hx => by
    cases c <;> try exact hx
    rename_i id ver
    simp only [cellIn] at hx ⊢
    rcases h id with e | e
    · rw [e] at hx
      exact hx
    · rw [e] at hx
      cases hx
  | .fn1 f ts, c, x, hx => by
    cases c <;> try exact hx
    rename_i f' caps
    match caps, hx with
    | [], hx => exact hx
    | _ :: _ :: _, hx => simp [cellIn] at hx
    | [(id, ver, o + 1)], hx => simp [cellIn] at hx
    | [(id, ver, 0)], hx =>
      simp only [cellIn] at hx ⊢
      rcases h id with e | e
      · rw [e] at hx
        exact hx
      · rw [e] at hx
        cases hx
  | .map, c, x, hx => by
    cases c <;> try exact hx
    rename_i id ver
    simp only [cellIn] at hx ⊢
    rcases h id with e | e
    · rw [e] at hx
      exact hx
    · rw [e] at hx
      cases hx
theorem cellsIn_part {m1 m : Mem} (h : Part m1 m) : ∀ {ks : List CK} {cs : List C} {x : CKs.den ks}, cellsIn m1 ks cs = some x → cellsIn m ks cs = some x
  | [], [], _, hx => hx
  | [], _ :: _, _, hx => by simp [cellsIn] at hx
  | _ :: _, [], _, hx => by simp [cellsIn] at hx
  | k :: ks, c :: cs, x, hx => by
    simp only [cellsIn] at hx ⊢
    split at hx
    · rename_i a b ha hb
      rw [cellIn_part h ha, cellsIn_part h hb]
      exact hx
    · cases hx
theorem boxIn_part {m1 m : Mem} (h : Part m1 m) {ks : List CK} {id ver : Nat} {x : CKs.den ks} (hx : boxIn m1 ks id ver = some x) : boxIn m ks id ver = some x := by
  unfold boxIn at hx ⊢
  rcases h id with e | e
  · split at hx
    · rename_i n cs ho
      rw [← e, ho]
      obtain ⟨h1, h2⟩ := cond_some hx
      simp only [h1, cond]
      exact cellsIn_part h h2
    · cases hx
  · rw [e] at hx
    cases hx
theorem boxesIn_part {m1 m : Mem} (h : Part m1 m) : ∀ {bs : List (List CK)} {caps : List (Nat × Nat × Nat)} {x : CKss.den bs}, boxesIn m1 bs caps = some x → boxesIn m bs caps = some x
  | [], [], _, hx => hx
  | [], _ :: _, _, hx => by simp [boxesIn] at hx
  | _ :: _, [], _, hx => by simp [boxesIn] at hx
  | ks :: bs, (id, ver, off) :: cs, x, hx => by
    cases off with
    | succ n => simp [boxesIn] at hx
    | zero =>
      simp only [boxesIn] at hx ⊢
      split at hx
      · rename_i a b ha hb
        rw [boxIn_part h ha, boxesIn_part h hb]
        exact hx
      · cases hx
theorem argIn_part {m1 m : Mem} (h : Part m1 m) {p : PK} {a : A} {x : p.den} (hx : argIn m1 p a = some x) : argIn m p a = some x := by
  unfold argIn at hx
  split at hx
  · exact cellIn_part h hx
  · exact cellsIn_part h hx
  · exact boxIn_part h hx
  · obtain ⟨h1, h2⟩ := cond_some hx
    simp only [argIn, h1, cond]
    exact boxesIn_part h h2
  · exact cellsIn_part h hx
  · exact cellsIn_part h hx
  · cases hx
theorem argsIn_part {m1 m : Mem} (h : Part m1 m) : ∀ {ps : List PK} {xs : List A} {x : PKs.den ps}, argsIn m1 ps xs = some x → argsIn m ps xs = some x
  | [], [], _, hx => hx
  | [], _ :: _, _, hx => by simp [argsIn] at hx
  | _ :: _, [], _, hx => by simp [argsIn] at hx
  | k :: ks, c :: cs, x, hx => by
    simp only [argsIn] at hx ⊢
    split at hx
    · rename_i a b ha hb
      rw [argIn_part h ha, argsIn_part h hb]
      exact hx
    · cases hx

/-! ### variables among the arguments -/
section
variable {m : Mem} {g : Nat → Value} {S : Nat → Prop} {w : World}

theorem boxIn_at {ks : List CK} {id ver : Nat} {x : CKs.den ks} {v : Value} (h : boxIn m ks id ver = some x) (hv : PtrOk m g id ver 0 v) : At m g m id v := by
  unfold boxIn at h
  split at h
  · rename_i n cs ho
    obtain ⟨hn, _⟩ := cond_some h
    obtain rfl := beq_true hn
    unfold PtrOk at hv
    rw [ho] at hv
    rcases hv with hv | ⟨_, b, hg, rfl⟩
    · omega
    · exact ⟨ver, cs, b, ho, by rw [ho]; rfl, hg, rfl⟩
  · cases h
theorem boxesIn_at : ∀ {bs : List (List CK)} {caps : List (Nat × Nat × Nat)} {x : CKss.den bs} {vs : List Value}, boxesIn m bs caps = some x → All2 (fun p v => PtrOk m g p.1 p.2.1 p.2.2 v ∧ v.oneCell' = true) caps vs → All2 (fun p v => At m g m p.1 v) caps vs
  | [], [], _, [], _, _ => trivial
  | [], [], _, _ :: _, _, hv => hv.elim
  | [], _ :: _, _, _, h, _ => by simp [boxesIn] at h
  | _ :: _, [], _, _, h, _ => by simp [boxesIn] at h
  | ks :: bs, c :: cs, x, [], _, hv => hv.elim
  | ks :: bs, (id, ver, off) :: cs, x, v :: vs, h, hv => by
    cases off with
    | succ n => simp [boxesIn] at h
    | zero =>
      simp only [boxesIn] at h
      split at h
      · rename_i a b ha hb
        exact ⟨boxIn_at ha hv.1.1, boxesIn_at hb hv.2⟩
      · cases h
theorem args_at : ∀ {ps : List PK} {xs : List A} {x : PKs.den ps} {vs : List Value}, argsIn m ps xs = some x → All2 (Ac m g S w) xs vs → AtP (At m g m) ps xs vs
  | [], [], _, [], _, _ => trivial
  | [], [], _, _ :: _, _, hv => hv.elim
  | [], _ :: _, _, _, h, _ => by simp [argsIn] at h
  | _ :: _, [], _, _, h, _ => by simp [argsIn] at h
  | k :: ks, c :: cs, x, [], _, hv => hv.elim
  | k :: ks, c :: cs, x, v :: vs, h, hv => by
    simp only [argsIn] at h
    split at h
    · rename_i a b ha hb
      have ih := args_at hb hv.2
      unfold argIn at ha
      split at ha
      · exact ih
      · exact ih
      · exact ⟨boxIn_at ha hv.1.1, ih⟩
      · obtain ⟨hf, h1⟩ := cond_some ha
        obtain rfl := beq_true hf
        obtain ⟨us, rfl, hu⟩ := hv.1
        exact ⟨⟨us, rfl, boxesIn_at h1 hu⟩, ih⟩
      · exact ih
      · exact ih
      · cases ha
    · cases h

theorem cellIds_false {k : CK} {c : C} {p : Nat × Bool} (h : p ∈ (cellIds k c).all) : p.2 = false := by
  unfold cellIds at h
  split at h <;> simp [Ids.none] at h <;> simp [h]
/-- The rows that are lent to be written. -/
def mu1 : List CK → List C → List Nat
  | .own _ :: ks, .ref id _ :: xs => id :: mu1 ks xs
  | _ :: ks, _ :: xs => mu1 ks xs
  | _, _ => []
def muIdL : List PK → List A → List Nat
  | .wr true ks :: ps, .v (.agg cs) :: xs => mu1 ks cs ++ muIdL ps xs
  | .wr false ks :: ps, .v (.c x) :: xs => mu1 ks [x] ++ muIdL ps xs
  | _ :: ps, _ :: xs => muIdL ps xs
  | _, _ => []
theorem cellsIdsM_true : ∀ {ks : List CK} {cs : List C} {p : Nat × Bool}, p ∈ (cellsIdsM ks cs).all → p.2 = true → p.1 ∈ mu1 ks cs
  | [], _, _, h, _ => by simp [cellsIdsM, Ids.none] at h
  | _ :: _, [], _, h, _ => by simp [cellsIdsM, Ids.none] at h
  | k :: ks, c :: cs, p, h, hp => by
    rcases List.mem_append.1 (show p ∈ (cellIdsM k c).all ++ (cellsIdsM ks cs).all from h) with h | h
    · unfold cellIdsM at h
      split at h
      · simp at h
      · simp at h
      · simp at h
        subst h
        exact List.mem_cons_self ..
      · simp at h
        subst h
        cases hp
      · simp at h
        subst h
        cases hp
      · simp [Ids.none] at h
    · have ih := cellsIdsM_true h hp
      cases k <;> cases c <;> first | exact ih | exact List.mem_cons_of_mem _ ih
theorem cellsIds_false : ∀ {ks : List CK} {cs : List C} {p : Nat × Bool}, p ∈ (cellsIds ks cs).all → p.2 = false
  | [], _, _, h => by simp [cellsIds, Ids.none] at h
  | _ :: _, [], _, h => by simp [cellsIds, Ids.none] at h
  | k :: ks, c :: cs, p, h => by
    rcases List.mem_append.1 (show p ∈ (cellIds k c).all ++ (cellsIds ks cs).all from h) with h | h
    · exact cellIds_false h
    · exact cellsIds_false h
theorem boxIds_all (ks : List CK) (id : Nat) : ∃ r : List (Nat × Bool), (boxIds m ks id).all = (id, true) :: r ∧ ∀ p ∈ r, p.2 = false := by
  unfold boxIds
  split
  · rename_i n cs _
    exact ⟨(cellsIds ks cs).all, rfl, fun p hp => cellsIds_false hp⟩
  · exact ⟨[], rfl, fun p hp => by cases hp⟩
theorem boxesIds_all : ∀ {bs : List (List CK)} {caps : List (Nat × Nat × Nat)}, caps.length = bs.length → (caps.map fun p => p.1).Sublist ((boxesIds m bs caps).all.map fun p => p.1) ∧ ∀ p ∈ (boxesIds m bs caps).all, p.2 = true ↔ p.1 ∈ (caps.map fun p => p.1) ∧ p.2 = true
  | [], [], _ => ⟨List.Sublist.refl _, fun p hp => by cases hp⟩
  | [], _ :: _, h => by simp at h
  | _ :: _, [], h => by simp at h
  | ks :: bs, c :: caps, h => by
    obtain ⟨i1, i2⟩ := boxesIds_all (bs := bs) (caps := caps) (by simpa using h)
    obtain ⟨r, hr, hf⟩ := boxIds_all (m := m) ks c.1
    have e : (boxesIds m (ks :: bs) (c :: caps)).all = (c.1, true) :: (r ++ (boxesIds m bs caps).all) := by
      show (boxIds m ks c.1).all ++ (boxesIds m bs caps).all = _
      rw [hr]
      rfl
    rw [e]
    refine ⟨?_, fun p hp => ⟨fun h2 => ⟨?_, h2⟩, fun h => h.2⟩⟩
    · rw [List.map_cons, List.map_cons, List.map_append]
      exact List.Sublist.cons_cons _ (i1.trans (List.sublist_append_right _ _))
    · rcases List.mem_cons.1 hp with rfl | hp
      · exact List.mem_cons_self ..
      · rcases List.mem_append.1 hp with hp | hp
        · rw [hf p hp] at h2
          cases h2
        · exact List.mem_cons_of_mem _ ((i2 p hp).1 h2).1

theorem boxesIn_len : ∀ {bs : List (List CK)} {caps : List (Nat × Nat × Nat)} {x : CKss.den bs}, boxesIn m bs caps = some x → caps.length = bs.length
  | [], [], _, _ => rfl
  | [], _ :: _, _, h => by simp [boxesIn] at h
  | _ :: _, [], _, h => by simp [boxesIn] at h
  | ks :: bs, (id, ver, off) :: cs, x, h => by
    cases off with
    | succ n => simp [boxesIn] at h
    | zero =>
      simp only [boxesIn] at h
      split at h
      · rename_i a b ha hb
        simp [boxesIn_len hb]
      · cases h
theorem args_ids : ∀ {ps : List PK} {xs : List A} {x : PKs.den ps}, argsIn m ps xs = some x → (bxIdL ps xs).Sublist (argsIds m ps xs).ids ∧ ∀ p ∈ (argsIds m ps xs).all, p.2 = true → p.1 ∈ bxIdL ps xs ∨ p.1 ∈ muIdL ps xs
  | [], [], _, _ => ⟨List.Sublist.refl _, fun p hp => by cases hp⟩
  | [], _ :: _, _, h => by simp [argsIn] at h
  | _ :: _, [], _, h => by simp [argsIn] at h
  | k :: ks, c :: cs, x, h => by
    simp only [argsIn] at h
    split at h
    · rename_i a b ha hb
      obtain ⟨i1, i2⟩ := args_ids hb
      have e : (argsIds m (k :: ks) (c :: cs)).ids = (argIds m k c).ids ++ (argsIds m ks cs).ids := List.map_append ..
      have e2 : (argsIds m (k :: ks) (c :: cs)).all = (argIds m k c).all ++ (argsIds m ks cs).all := rfl
      rw [e, e2]
      unfold argIn at ha
      split at ha
      · refine ⟨i1.trans (List.sublist_append_right _ _), fun p hp h2 => ?_⟩
        rcases List.mem_append.1 hp with hp | hp
        · rw [cellIds_false hp] at h2
          cases h2
        · exact i2 p hp h2
      · refine ⟨i1.trans (List.sublist_append_right _ _), fun p hp h2 => ?_⟩
        rcases List.mem_append.1 hp with hp | hp
        · rw [cellsIds_false hp] at h2
          cases h2
        · exact i2 p hp h2
      · rename_i ks' id ver _
        obtain ⟨r, hr, hf⟩ := boxIds_all (m := m) ks' id
        have e3 : (argIds m (.box ks') (.v (.c (.ptr id ver 0)))).all = (id, true) :: r := hr
        refine ⟨?_, fun p hp h2 => ?_⟩
        · show List.Sublist (id :: bxIdL ks cs) _
          unfold Ids.ids
          rw [e3, List.map_cons, List.cons_append]
          exact List.Sublist.cons_cons _ (i1.trans (List.sublist_append_right _ _))
        · show p.1 ∈ id :: bxIdL ks cs ∨ p.1 ∈ muIdL ks cs
          rcases List.mem_append.1 hp with hp | hp
          · rw [e3] at hp
            rcases List.mem_cons.1 hp with rfl | hp
            · exact .inl (List.mem_cons_self ..)
            · rw [hf p hp] at h2
              cases h2
          · exact (i2 p hp h2).imp (List.mem_cons_of_mem _) (fun h => h)
      · rename_i f bs f' caps _
        obtain ⟨hf, h1⟩ := cond_some ha
        obtain ⟨j1, j2⟩ := boxesIds_all (m := m) (boxesIn_len h1)
        refine ⟨?_, fun p hp h2 => ?_⟩
        · show List.Sublist ((caps.map fun p => p.1) ++ bxIdL ks cs) _
          exact List.Sublist.append j1 i1
        · show p.1 ∈ (caps.map fun p => p.1) ++ bxIdL ks cs ∨ p.1 ∈ muIdL ks cs
          rcases List.mem_append.1 hp with hp | hp
          · exact .inl (List.mem_append_left _ ((j2 p hp).1 h2).1)
          · exact (i2 p hp h2).imp (List.mem_append_right _) (fun h => h)
      · refine ⟨i1.trans (List.sublist_append_right _ _), fun p hp h2 => ?_⟩
        rcases List.mem_append.1 hp with hp | hp
        · exact .inr (List.mem_append_left _ (cellsIdsM_true hp h2))
        · exact (i2 p hp h2).imp (fun h => h) (List.mem_append_right _)
      · refine ⟨i1.trans (List.sublist_append_right _ _), fun p hp h2 => ?_⟩
        rcases List.mem_append.1 hp with hp | hp
        · exact .inr (List.mem_append_left _ (cellsIdsM_true hp h2))
        · exact (i2 p hp h2).imp (fun h => h) (List.mem_append_right _)
      · cases ha
    · cases h

theorem caps_blks {R : Nat → Value → Prop} : ∀ {caps : List (Nat × Nat × Nat)} {us : List Value}, All2 (fun p u => R p.1 u) caps us → ∀ i ∈ (caps.map fun p => p.1), ∃ v, R i v ∧ ∀ b, blkOf v = some b → b ∈ blksOf us
  | [], [], _, i, hi => by cases hi
  | p :: caps, u :: us, h, i, hi => by
    rcases List.mem_cons.1 hi with rfl | hi
    · exact ⟨u, h.1, fun b hb => List.mem_append_left _ (by rw [hb]; exact List.mem_singleton.2 rfl)⟩
    · obtain ⟨v, h1, h2⟩ := caps_blks h.2 i hi
      exact ⟨v, h1, fun b hb => List.mem_append_right _ (h2 b hb)⟩
theorem backs_heap {w' : World} {S' : Nat → Prop} {R : Nat → Value → Prop} : ∀ {caps : List (Nat × Nat × Nat)} {us : List Value} {bs : List (List CK)} {x : CKss.den bs} {B : List Nat}, All2 (fun p u => R p.1 u) caps us → bxsV.backsV w' S' bs us x B → ∀ i ∈ (caps.map fun p => p.1),
    ∃ blk vs E, R i (.pointer (some ⟨blk, 0, none⟩)) ∧ blk ∈ blksOf us ∧ w'.heap[blk]? = some (.cells (List.toArray vs) E (0, 0))
  | [], [], _, _, _, _, _, i, hi => by cases hi
  | p :: caps, u :: us, [], _, _, h, hb, i, hi => by
    obtain ⟨hb, _⟩ := hb
    cases hb
  | p :: caps, u :: us, ks :: bs, x, B, h, hb, i, hi => by
    obtain ⟨blk, vs, E, B1, B2, rfl, hw, rfl, _, hb⟩ := hb
    rcases List.mem_cons.1 hi with rfl | hi
    · exact ⟨blk, vs, E, h.1, List.mem_append_left _ (List.mem_singleton.2 rfl), hw⟩
    · obtain ⟨blk, vs, E, h1, h2, h3⟩ := backs_heap h.2 hb i hi
      exact ⟨blk, vs, E, h1, List.mem_append_right _ h2, h3⟩

theorem bxs_heap {w' : World} {S' : Nat → Prop} {R : Nat → Value → Prop} : ∀ {ps : List PK} {xs : List A} {vals : List Value} {x : Bxs.den ps} {B : List Nat}, AtP R ps xs vals → bxsV w' S' ps vals x B → ∀ i ∈ bxIdL ps xs,
    ∃ blk vs E, R i (.pointer (some ⟨blk, 0, none⟩)) ∧ blk ∈ boxBlks ps vals ∧ w'.heap[blk]? = some (.cells (List.toArray vs) E (0, 0)) := by
  intro ps
  induction ps with
  | nil =>
    intro xs vals x B ha hb i hi
    cases xs <;> cases hi
  | cons p ps ih =>
    intro xs vals x B ha hb i hi
    cases vals with
    | nil => cases p <;> exact hb.elim
    | cons v vals =>
      cases p with
      | c k =>
        cases xs with
        | nil => exact ha.elim
        | cons a xs => exact ih ha hb i hi
      | agg k =>
        cases xs with
        | nil => exact ha.elim
        | cons a xs => exact ih ha hb i hi
      | wr ag ks =>
        cases xs with
        | nil => exact ha.elim
        | cons a xs =>
          obtain ⟨blk, vs, E, h1, h2, h3⟩ := ih ha hb.2 i hi
          exact ⟨blk, vs, E, h1, List.mem_append_right _ h2, h3⟩
      | box ks =>
        match xs, ha with
        | .v (.c (.ptr id ver off)) :: xs, ha =>
          obtain ⟨blk, vs, E, B1, B2, rfl, hw, rfl, _, hb⟩ := hb
          rcases List.mem_cons.1 (show i ∈ id :: bxIdL ps xs from hi) with rfl | hi
          · exact ⟨blk, vs, E, ha.1, List.mem_append_left _ (List.mem_singleton.2 rfl), hw⟩
          · obtain ⟨blk, vs, E, h1, h2, h3⟩ := ih ha.2 hb i hi
            exact ⟨blk, vs, E, h1, List.mem_append_right _ h2, h3⟩
      | fn f bs =>
        match xs, ha with
        | .v (.c (.fn f' caps)) :: xs, ha =>
          obtain ⟨us, B1, B2, rfl, rfl, h1, hb⟩ := hb
          obtain ⟨⟨us', hu, hat⟩, ha2⟩ := ha
          have hu : us = us' := by
            have : us.toArray = us'.toArray := by injection hu
            simpa using this
          subst hu
          have e : boxBlks (.fn f bs :: ps) (.func (.func f) #[] us.toArray :: vals) = blksOf us ++ boxBlks ps vals := rfl
          rw [e]
          rcases List.mem_append.1 (show i ∈ (caps.map fun p => p.1) ++ bxIdL ps xs from hi) with hi | hi
          · obtain ⟨blk, vs, E, h1, h2, h3⟩ := backs_heap hat h1 i hi
            exact ⟨blk, vs, E, h1, List.mem_append_left _ h2, h3⟩
          · obtain ⟨blk, vs, E, h1, h2, h3⟩ := ih ha2 hb i hi
            exact ⟨blk, vs, E, h1, List.mem_append_right _ h2, h3⟩

theorem backs_keys {w' : World} {S' : Nat → Prop} {R : Nat → Value → Prop} {mm : Mem} : ∀ {caps : List (Nat × Nat × Nat)} {us : List Value} {bs : List (List CK)} {x : CKss.den bs} {B : List Nat} {b : Nat}, All2 (fun p u => R p.1 u) caps us → bxsV.backsV w' S' bs us x B → ∀ i ∈ (caps.map fun p => p.1),
    i ∈ (boxesOut b mm bs caps x).map fun p => p.1
  | [], [], _, _, _, _, _, _, i, hi => by cases hi
  | p :: caps, u :: us, [], _, _, _, h, hb, i, hi => by
    obtain ⟨hb, _⟩ := hb
    cases hb
  | p :: caps, u :: us, ks :: bs, x, B, b, h, hb, i, hi => by
    obtain ⟨blk, vs, E, B1, B2, rfl, hw, rfl, _, hb⟩ := hb
    have e : boxesOut b mm (ks :: bs) (p :: caps) x = boxOut b mm ks p.1 x.1 ++ boxesOut (b + 8) mm bs caps x.2 := rfl
    rw [e, List.map_append]
    rcases List.mem_cons.1 hi with rfl | hi
    · exact List.mem_append_left _ (List.mem_cons_self ..)
    · exact List.mem_append_right _ (backs_keys h.2 hb i hi)
theorem bxs_keys {w' : World} {S' : Nat → Prop} {R : Nat → Value → Prop} {mm : Mem} : ∀ {ps : List PK} {xs : List A} {vals : List Value} {x : Bxs.den ps} {B : List Nat} {b : Nat}, AtP R ps xs vals → bxsV w' S' ps vals x B → ∀ i ∈ bxIdL ps xs,
    i ∈ (bxsOut b mm ps xs x).map fun p => p.1 := by
  intro ps
  induction ps with
  | nil =>
    intro xs vals x B b ha hb i hi
    cases xs <;> cases hi
  | cons p ps ih =>
    intro xs vals x B b ha hb i hi
    cases vals with
    | nil => cases p <;> exact hb.elim
    | cons v vals =>
      cases p with
      | c k =>
        cases xs with
        | nil => exact ha.elim
        | cons a xs => exact ih ha hb i hi
      | agg k =>
        cases xs with
        | nil => exact ha.elim
        | cons a xs => exact ih ha hb i hi
      | wr ag ks =>
        cases xs with
        | nil => exact ha.elim
        | cons a xs => exact ih ha hb.2 i hi
      | box ks =>
        match xs, ha with
        | .v (.c (.ptr id ver off)) :: xs, ha =>
          obtain ⟨blk, vs, E, B1, B2, rfl, hw, rfl, _, hb⟩ := hb
          have e : bxsOut b mm (.box ks :: ps) (.v (.c (.ptr id ver off)) :: xs) x = boxOut b mm ks id x.1 ++ bxsOut (b + 64) mm ps xs x.2 := rfl
          rw [e, List.map_append]
          rcases List.mem_cons.1 (show i ∈ id :: bxIdL ps xs from hi) with rfl | hi
          · exact List.mem_append_left _ (List.mem_cons_self ..)
          · exact List.mem_append_right _ (ih ha.2 hb i hi)
      | fn f bs =>
        match xs, ha with
        | .v (.c (.fn f' caps)) :: xs, ha =>
          obtain ⟨us, B1, B2, rfl, rfl, h1, hb⟩ := hb
          obtain ⟨⟨us', hu, hat⟩, ha2⟩ := ha
          have hu : us = us' := by
            have : us.toArray = us'.toArray := by injection hu
            simpa using this
          subst hu
          have e : bxsOut b mm (.fn f bs :: ps) (.v (.c (.fn f' caps)) :: xs) x = boxesOut b mm bs caps x.1 ++ bxsOut (b + 64) mm ps xs x.2 := rfl
          rw [e, List.map_append]
          rcases List.mem_append.1 (show i ∈ (caps.map fun p => p.1) ++ bxIdL ps xs from hi) with hi | hi
          · exact List.mem_append_left _ (backs_keys hat h1 i hi)
          · exact List.mem_append_right _ (ih ha2 hb i hi)
end

theorem nodup_fst {α : Type} : ∀ {l : List (Nat × α)}, (l.map fun p => p.1).Nodup → ∀ {p q : Nat × α}, p ∈ l → q ∈ l → p.1 = q.1 → p = q
  | [], _, _, _, h, _, _ => by cases h
  | a :: l, hn, p, q, hp, hq, e => by
    obtain ⟨h1, h2⟩ := List.nodup_cons.1 (show (a.1 :: (l.map fun p => p.1)).Nodup from hn)
    rcases List.mem_cons.1 hp with e1 | hp1
    · rcases List.mem_cons.1 hq with e2 | hq1
      · rw [e1, e2]
      · exact (h1 (List.mem_map.2 ⟨q, hq1, by rw [← e, e1]⟩)).elim
    · rcases List.mem_cons.1 hq with e2 | hq1
      · exact (h1 (List.mem_map.2 ⟨p, hp1, by rw [e, e2]⟩)).elim
      · exact nodup_fst h2 hp1 hq1 e
section
variable {m : Mem}
theorem mu1_ids : ∀ {ks : List CK} {cs : List C} {i : Nat}, i ∈ mu1 ks cs → (i, true) ∈ (cellsIdsM ks cs).all
  | [], _, _, h => by simp [mu1] at h
  | _ :: _, [], _, h => by simp [mu1] at h
  | k :: ks, c :: cs, i, h => by
    have tail : i ∈ mu1 ks cs → (i, true) ∈ (cellsIdsM (k :: ks) (c :: cs)).all := fun h => List.mem_append_right _ (mu1_ids h)
    cases k <;> cases c <;> first | exact tail h | (rcases List.mem_cons.1 h with rfl | h; exact List.mem_append_left _ (List.mem_singleton.2 rfl); exact tail h)
theorem muIdL_true : ∀ {ps : List PK} {xs : List A} {i : Nat}, i ∈ muIdL ps xs → (i, true) ∈ (argsIds m ps xs).all
  | [], _, _, h => by simp [muIdL] at h
  | _ :: _, [], _, h => by simp [muIdL] at h
  | p :: ps, x :: xs, i, h => by
    have tail : i ∈ muIdL ps xs → (i, true) ∈ (argsIds m (p :: ps) (x :: xs)).all := fun h => List.mem_append_right _ (muIdL_true h)
    unfold muIdL at h
    split at h
    · rename_i e1 e2
      cases e1
      cases e2
      rcases List.mem_append.1 h with h | h
      · exact List.mem_append_left _ (mu1_ids h)
      · exact tail h
    · rename_i e1 e2
      cases e1
      cases e2
      rcases List.mem_append.1 h with h | h
      · exact List.mem_append_left _ (mu1_ids h)
      · exact tail h
    · rename_i e1 e2
      cases e1
      cases e2
      exact tail h
    · cases h
theorem mu1_count (i : Nat) : ∀ {ks : List CK} {cs : List C}, (mu1 ks cs).count i ≤ (cellsIdsM ks cs).ids.count i
  | [], _ => by simp [mu1]
  | _ :: _, [] => by simp [mu1]
  | k :: ks, c :: cs => by
    have ih := mu1_count i (ks := ks) (cs := cs)
    have e : (cellsIdsM (k :: ks) (c :: cs)).ids = (cellIdsM k c).ids ++ (cellsIdsM ks cs).ids := List.map_append ..
    rw [e, List.count_append]
    cases k <;> cases c <;> first | exact Nat.le_trans ih (Nat.le_add_left _ _) | (rename_i t id ver; show (id :: mu1 ks cs).count i ≤ ([id] : List Nat).count i + _; rw [show id :: mu1 ks cs = [id] ++ mu1 ks cs from rfl, List.count_append]; omega)
theorem args_count (i : Nat) : ∀ {ps : List PK} {xs : List A} {x : PKs.den ps}, argsIn m ps xs = some x → (bxIdL ps xs).count i + (muIdL ps xs).count i ≤ (argsIds m ps xs).ids.count i
  | [], [], _, _ => by simp [bxIdL, muIdL]
  | [], _ :: _, _, h => by simp [argsIn] at h
  | _ :: _, [], _, h => by simp [argsIn] at h
  | k :: ks, c :: cs, x, h => by
    simp only [argsIn] at h
    split at h
    · rename_i a b ha hb
      have ih := args_count i hb
      have e : (argsIds m (k :: ks) (c :: cs)).ids = (argIds m k c).ids ++ (argsIds m ks cs).ids := List.map_append ..
      rw [e, List.count_append]
      have same : bxIdL (k :: ks) (c :: cs) = bxIdL ks cs → muIdL (k :: ks) (c :: cs) = muIdL ks cs → (bxIdL (k :: ks) (c :: cs)).count i + (muIdL (k :: ks) (c :: cs)).count i ≤ (argIds m k c).ids.count i + (argsIds m ks cs).ids.count i := fun h1 h2 => by
        rw [h1, h2]
        omega
      unfold argIn at ha
      split at ha
      · exact same rfl rfl
      · exact same rfl rfl
      · rename_i ks' id ver _
        obtain ⟨r, hr, hf⟩ := boxIds_all (m := m) ks' id
        have e3 : (argIds m (.box ks') (.v (.c (.ptr id ver 0)))).ids = id :: (r.map fun p => p.1) := by
          show (boxIds m ks' id).all.map (fun p => p.1) = _
          rw [hr]
          rfl
        rw [e3]
        show (id :: bxIdL ks cs).count i + (muIdL ks cs).count i ≤ _
        rw [List.count_cons, List.count_cons]
        omega
      · rename_i f bs f' caps _
        obtain ⟨hf, h1⟩ := cond_some ha
        obtain ⟨j1, _⟩ := boxesIds_all (m := m) (boxesIn_len h1)
        have := j1.count_le i
        show ((caps.map fun p => p.1) ++ bxIdL ks cs).count i + (muIdL ks cs).count i ≤ ((boxesIds m bs caps).all.map fun p => p.1).count i + _
        rw [List.count_append]
        omega
      · rename_i ks' xs' _
        have := mu1_count i (ks := ks') (cs := xs')
        show (bxIdL ks cs).count i + (mu1 ks' xs' ++ muIdL ks cs).count i ≤ (cellsIdsM ks' xs').ids.count i + _
        rw [List.count_append]
        omega
      · rename_i ks' x' _
        have := mu1_count i (ks := ks') (cs := [x'])
        show (bxIdL ks cs).count i + (mu1 ks' [x'] ++ muIdL ks cs).count i ≤ (cellsIdsM ks' [x']).ids.count i + _
        rw [List.count_append]
        omega
      · cases ha
    · cases h
theorem muIdL_ids {ps : List PK} {xs : List A} {x : PKs.den ps} (h : argsIn m ps xs = some x) : (∀ i ∈ muIdL ps xs, i ∈ (argsIds m ps xs).ids) ∧ ((argsIds m ps xs).ids.Nodup → ∀ i ∈ muIdL ps xs, i ∉ bxIdL ps xs ∧ i ∉ (argsIds m ps xs).own) := by
  refine ⟨fun i hi => List.mem_map.2 ⟨(i, true), muIdL_true hi, rfl⟩, fun hn i hi => ⟨fun hb => ?_, fun ho => ?_⟩⟩
  · have h1 := args_count i h
    have h2 := List.count_pos_iff.2 hb
    have h3 := List.count_pos_iff.2 hi
    have h4 := List.nodup_iff_count.1 hn i
    omega
  · obtain ⟨p, hp, rfl⟩ := List.mem_map.1 ho
    obtain ⟨hp1, hp2⟩ := List.mem_filter.1 hp
    have ht := muIdL_true (m := m) hi
    have := nodup_fst hn hp1 ht rfl
    rw [this] at hp2
    cases hp2
end
/-! ### flat results -/
section
variable {w : World} {S S' : Nat → Prop}
theorem resVal.flat : ∀ {k : RK} {x : k.den} {v : Value} {B : List Nat}, flatRK k = true → resVal w S k x v B → resVal w S' k x v B
  | .none, _, _, _, _, h => h
  | .one p, _, _, _, hf, h => partV.flat hf h
  | .tup ps, _, _, _, hf, ⟨vs, h1, h2⟩ => ⟨vs, h1, h2.flat hf⟩
theorem backsV.flat : ∀ {bs : List (List CK)} {us : List Value} {x : CKss.den bs} {B : List Nat}, (bs.all fun ks => ks.all flatCK) = true → bxsV.backsV w S bs us x B → bxsV.backsV w S' bs us x B
  | [], _, _, _, _, h => h
  | _ :: _, [], _, _, _, h => h.elim
  | ks :: bs, u :: us, x, B, hf, ⟨blk, vs, E, B1, B2, h1, h2, h3, h4, h5⟩ => by
    rw [List.all_cons, Bool.and_eq_true] at hf
    exact ⟨blk, vs, E, B1, B2, h1, h2, h3, h4.flat hf.1, backsV.flat hf.2 h5⟩
theorem mutV.flat : ∀ {ks : List CK} {us : List Value} {x : Muts.den ks}, ks.all flatCK = true → mutV w S ks us x → mutV w S' ks us x
  | [], _, _, _, _ => trivial
  | k :: ks, [], _, _, h => by cases k <;> exact h.elim
  | .own e :: ks, v :: vs, x, hf, h => by
    simp only [List.all_cons, Bool.and_eq_true] at hf
    exact ⟨h.1.flat hf.1, mutV.flat hf.2 h.2⟩
  | .dat _ :: ks, v :: vs, x, hf, h => by
    simp only [List.all_cons, Bool.and_eq_true] at hf
    exact mutV.flat (ks := ks) hf.2 h
  | .fn1 _ _ :: ks, v :: vs, x, hf, h => by
    simp only [List.all_cons, Bool.and_eq_true] at hf
    exact mutV.flat (ks := ks) hf.2 h
  | .map :: ks, v :: vs, x, hf, h => by
    simp only [List.all_cons, Bool.and_eq_true] at hf
    exact mutV.flat (ks := ks) hf.2 h
theorem bxsV.flat : ∀ {ps : List PK} {vs : List Value} {x : Bxs.den ps} {B : List Nat}, ((ps.filter isBoxPK).all flatPK) = true → bxsV w S ps vs x B → bxsV w S' ps vs x B
  | [], _, _, _, _, h => h
  | p :: ps, [], _, _, _, h => by cases p <;> exact h.elim
  | .c k :: ps, _ :: _, x, B, hf, h => bxsV.flat (ps := ps) hf h
  | .agg k :: ps, _ :: _, x, B, hf, h => bxsV.flat (ps := ps) hf h
  | .box ks :: ps, _ :: _, x, B, hf, ⟨blk, vs, E, B1, B2, h1, h2, h3, h4, h5⟩ => by
    have hf : ((PK.box ks :: ps.filter isBoxPK).all flatPK) = true := hf
    rw [List.all_cons, Bool.and_eq_true] at hf
    exact ⟨blk, vs, E, B1, B2, h1, h2, h3, h4.flat hf.1, bxsV.flat hf.2 h5⟩
  | .fn f bs :: ps, _ :: _, x, B, hf, ⟨us, B1, B2, h1, h2, h3, h4⟩ => by
    have hf : ((PK.fn f bs :: ps.filter isBoxPK).all flatPK) = true := hf
    rw [List.all_cons, Bool.and_eq_true] at hf
    exact ⟨us, B1, B2, h1, h2, backsV.flat hf.1 h3, bxsV.flat hf.2 h4⟩
  | .wr ag ks :: ps, _ :: _, x, B, hf, ⟨⟨us, h1, h2⟩, h3⟩ => by
    have hf : ((PK.wr ag ks :: ps.filter isBoxPK).all flatPK) = true := hf
    rw [List.all_cons, Bool.and_eq_true] at hf
    exact ⟨⟨us, h1, h2.flat hf.1⟩, bxsV.flat hf.2 h3⟩

/-! ### rows that were lent to be written, where they are -/
/-- What is written of them. -/
def Wrote (m mm : Mem) (g : Nat → Value) (w' : World) (S' : Nat → Prop) (blks : List Nat) (ids : List Nat) (p : Nat × Ob) : Prop :=
  ∃ (n : Nat) (e : Tys) (xs ys : List e.den), m p.1 = .arr n e xs ∧ p.2 = .arr (mm p.1).ver e ys ∧ ArrV w' S' e ys (g p.1) ∧ (∀ b, blkOf (g p.1) = some b → b ∈ blks) ∧ p.1 ∈ ids
theorem Wrote.mono {m mm : Mem} {g : Nat → Value} {bs bs' ids ids' : List Nat} {p : Nat × Ob} (h : Wrote m mm g w S bs ids p) (hb : ∀ b ∈ bs, b ∈ bs') (hi : ∀ b ∈ ids, b ∈ ids') : Wrote m mm g w S bs' ids' p := by
  obtain ⟨n, e, xs, ys, h1, h2, h3, h4, h5⟩ := h
  exact ⟨n, e, xs, ys, h1, h2, h3, fun b h => hb b (h4 b h), hi _ h5⟩
theorem mut1_props {w0 : World} {S0 : Nat → Prop} {m mm : Mem} {g : Nat → Value} : ∀ {ks : List CK} {cs : List C} {x : CKs.den ks} {us : List Value} {r : Muts.den ks}, cellsIn m ks cs = some x → All2 (Cc m g S0 w0) cs us → mutV w S ks us r →
    (∀ p ∈ mutOut1 mm ks cs r, Wrote m mm g w S (mutBlks ks us) (mu1 ks cs) p) ∧ ∀ id ∈ mu1 ks cs, id ∈ (mutOut1 mm ks cs r).map fun p => p.1
  | [], [], _, _, _, _, _, _ => ⟨fun p hp => by simp [mutOut1] at hp, fun id hid => by simp [mu1] at hid⟩
  | [], _ :: _, _, _, _, h, _, _ => by simp [cellsIn] at h
  | _ :: _, [], _, _, _, h, _, _ => by simp [cellsIn] at h
  | k :: ks, c :: cs, x, [], r, _, hv, _ => hv.elim
  | k :: ks, c :: cs, x, u :: us, r, h, hv, hb => by
    simp only [cellsIn] at h
    split at h
    · rename_i a b ha hb'
      cases k with
      | dat t =>
        have ih := mut1_props (ks := ks) (mm := mm) (r := r) hb' hv.2 hb
        have e : mutOut1 mm (.dat t :: ks) (c :: cs) r = mutOut1 mm ks cs r := by cases c <;> rfl
        have e2 : mu1 (.dat t :: ks) (c :: cs) = mu1 ks cs := by cases c <;> rfl
        rw [e, e2]
        exact ih
      | fn1 f t =>
        have ih := mut1_props (ks := ks) (mm := mm) (r := r) hb' hv.2 hb
        have e : mutOut1 mm (.fn1 f t :: ks) (c :: cs) r = mutOut1 mm ks cs r := by cases c <;> rfl
        have e2 : mu1 (.fn1 f t :: ks) (c :: cs) = mu1 ks cs := by cases c <;> rfl
        rw [e, e2]
        exact ih
      | map =>
        have ih := mut1_props (ks := ks) (mm := mm) (r := r) hb' hv.2 hb
        have e : mutOut1 mm (.map :: ks) (c :: cs) r = mutOut1 mm ks cs r := by cases c <;> rfl
        have e2 : mu1 (.map :: ks) (c :: cs) = mu1 ks cs := by cases c <;> rfl
        rw [e, e2]
        exact ih
      | own t =>
        obtain ⟨i1, i2⟩ := mut1_props (mm := mm) (r := r.2) hb' hv.2 hb.2
        have bl' : ∀ b ∈ mutBlks ks us, b ∈ mutBlks (.own t :: ks) (u :: us) := fun b hb => List.mem_append_right _ hb
        cases c with
        | ref id ver =>
          simp only [cellIn] at ha
          split at ha
          · rename_i n e' xs ho
            obtain ⟨hn, h1⟩ := cond_some ha
            obtain rfl := beq_true hn
            obtain ⟨rfl, rfl⟩ := castRows_ok h1
            have hvg : u = g id := ref_arr (S := S0) (w := w0) ho hv.1
            constructor
            · intro p hp
              rcases List.mem_cons.1 (show p ∈ (id, Ob.arr (mm id).ver e' r.1) :: mutOut1 mm ks cs r.2 from hp) with rfl | hp
              · exact ⟨ver, e', a, r.1, ho, rfl, hvg ▸ hb.1, fun b hb => List.mem_append_left _ (by rw [hvg, hb]; exact List.mem_singleton.2 rfl), List.mem_cons_self ..⟩
              · exact (i1 p hp).mono bl' fun b hb => List.mem_cons_of_mem _ hb
            · intro j hj
              rcases List.mem_cons.1 (show j ∈ id :: mu1 ks cs from hj) with rfl | hj
              · exact List.mem_cons_self ..
              · exact List.mem_cons_of_mem _ (i2 j hj)
          · cases ha
        | _ => exact ⟨fun p hp => (i1 p hp).mono bl' fun b hb => hb, i2⟩
    · cases h
theorem mut_props {w0 : World} {S0 : Nat → Prop} {m mm : Mem} {g : Nat → Value} : ∀ {ps : List PK} {xs : List A} {x : PKs.den ps} {vals : List Value} {r : Bxs.den ps} {B : List Nat}, argsIn m ps xs = some x → All2 (Ac m g S0 w0) xs vals → bxsV w S ps vals r B →
    (∀ p ∈ mutOut mm ps xs r, Wrote m mm g w S (boxBlks ps vals) (muIdL ps xs) p) ∧ ∀ id ∈ muIdL ps xs, id ∈ (mutOut mm ps xs r).map fun p => p.1
  | [], [], _, _, _, _, _, _, _ => ⟨fun p hp => by simp [mutOut] at hp, fun id hid => by simp [muIdL] at hid⟩
  | [], _ :: _, _, _, _, _, h, _, _ => by simp [argsIn] at h
  | _ :: _, [], _, _, _, _, h, _, _ => by simp [argsIn] at h
  | k :: ks, c :: cs, x, [], r, B, _, hv, _ => hv.elim
  | k :: ks, c :: cs, x, u :: us, r, B, h, hv, hb => by
    simp only [argsIn] at h
    split at h
    · rename_i a b ha hb'
      cases k with
      | c t =>
        have ih := mut_props (ps := ks) (mm := mm) (r := r) hb' hv.2 hb
        have e : mutOut mm (.c t :: ks) (c :: cs) r = mutOut mm ks cs r := by cases c <;> rfl
        have e2 : muIdL (.c t :: ks) (c :: cs) = muIdL ks cs := by cases c <;> rfl
        rw [e, e2]
        exact ih
      | agg t =>
        have ih := mut_props (ps := ks) (mm := mm) (r := r) hb' hv.2 hb
        have e : mutOut mm (.agg t :: ks) (c :: cs) r = mutOut mm ks cs r := by cases c <;> rfl
        have e2 : muIdL (.agg t :: ks) (c :: cs) = muIdL ks cs := by cases c <;> rfl
        rw [e, e2]
        exact ih
      | box t =>
        obtain ⟨blk, vs', E, B1, B2, rfl, h2, h3, h4, h5⟩ := hb
        obtain ⟨i1, i2⟩ := mut_props (mm := mm) (r := r.2) hb' hv.2 h5
        have e : mutOut mm (.box t :: ks) (c :: cs) r = mutOut mm ks cs r.2 := by cases c <;> rfl
        have e2 : muIdL (.box t :: ks) (c :: cs) = muIdL ks cs := by cases c <;> rfl
        rw [e, e2]
        exact ⟨fun p hp => (i1 p hp).mono (fun b hb => List.mem_append_right _ hb) fun b hb => hb, i2⟩
      | fn f t =>
        obtain ⟨us', B1, B2, rfl, h2, h3, h4⟩ := hb
        obtain ⟨i1, i2⟩ := mut_props (mm := mm) (r := r.2) hb' hv.2 h4
        have e : mutOut mm (.fn f t :: ks) (c :: cs) r = mutOut mm ks cs r.2 := by cases c <;> rfl
        have e2 : muIdL (.fn f t :: ks) (c :: cs) = muIdL ks cs := by cases c <;> rfl
        rw [e, e2]
        exact ⟨fun p hp => (i1 p hp).mono (fun b hb => List.mem_append_right _ hb) fun b hb => hb, i2⟩
      | wr ag t =>
        obtain ⟨⟨us', hcs, hm'⟩, h4⟩ := hb
        obtain ⟨i1, i2⟩ := mut_props (mm := mm) (r := r.2) hb' hv.2 h4
        have eb : boxBlks (.wr ag t :: ks) (u :: us) = mutBlks t us' ++ boxBlks ks us := by
          show mutBlks t (vcells ag u) ++ _ = _
          rw [hcs.eq]
        rw [eb]
        have fin : ∀ (cc : List C), cellsIn m t cc = some a → All2 (Cc m g S0 w0) cc us' → (∀ p ∈ mutOut1 mm t cc r.1 ++ mutOut mm ks cs r.2, Wrote m mm g w S (mutBlks t us' ++ boxBlks ks us) (mu1 t cc ++ muIdL ks cs) p) ∧ ∀ id ∈ mu1 t cc ++ muIdL ks cs, id ∈ (mutOut1 mm t cc r.1 ++ mutOut mm ks cs r.2).map fun p => p.1 := by
          intro cc hcc hvc
          obtain ⟨j1, j2⟩ := mut1_props (mm := mm) (r := r.1) hcc hvc hm'
          constructor
          · intro p hp
            rcases List.mem_append.1 hp with hp | hp
            · exact (j1 p hp).mono (fun b hb => List.mem_append_left _ hb) fun b hb => List.mem_append_left _ hb
            · exact (i1 p hp).mono (fun b hb => List.mem_append_right _ hb) fun b hb => List.mem_append_right _ hb
          · intro id hid
            rw [List.map_append]
            rcases List.mem_append.1 hid with hid | hid
            · exact List.mem_append_left _ (j2 id hid)
            · exact List.mem_append_right _ (i2 id hid)
        cases ag with
        | true =>
          match c, ha, hv with
          | .v (.agg cc), ha, hv =>
            obtain ⟨vs, hu, hvc⟩ := hv.1
            have hu' : u = .agg us'.toArray := hcs
            have : us' = vs := by
              rw [hu'] at hu
              injection hu with hu
              simpa using hu
            subst this
            exact fin cc ha hvc
        | false =>
          match c, ha, hv with
          | .v (.c cc), ha, hv =>
            have hu' : us' = [u] := hcs
            subst hu'
            exact fin [cc] ha ⟨hv.1, trivial⟩
    · cases h
end
end Go.Rx

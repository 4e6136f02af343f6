/-
  ENGINE, part O: what a contract tells, told by its plan.
  Seat-independent.
-/
import Derived.Test.YtoagkidolpcigaaRxN
import Derived.MapKept
namespace Go.Rx
open Go Go.RowKit
set_option linter.unusedVariables false
set_option linter.unusedSimpArgs false

theorem updL_map (F : Nat → Ob) (m : Mem) : ∀ (l : List Nat) (j : Nat), updL m (l.map fun i => (i, F i)) j = cond (inL j l) (F j) (m j)
  | [], _ => rfl
  | i :: l, j => by
    show upd (updL m (l.map fun i => (i, F i))) i (F i) j = _
    by_cases h : j = i
    · subst h
      rw [upd_same, inL_head]
      rfl
    · rw [upd_ne _ _ h, updL_map F m l j]
      have : inL j (i :: l) = inL j l := by
        have : Nat.beq j i = false := by
          rw [Bool.eq_false_iff]
          exact fun e => h (Nat.eq_of_beq_eq_true e)
        simp [inL, this]
      rw [this]
theorem updL_absorb {m m' : Mem} : ∀ {L : List (Nat × Ob)}, (∀ j, j ∉ (L.map fun p => p.1) → m j = m' j) → updL m L = updL m' L
  | [], h => by
    funext j
    exact h j (fun e => by cases e)
  | p :: L, h => by
    funext j
    show upd (updL m L) p.1 p.2 j = upd (updL m' L) p.1 p.2 j
    by_cases hj : j = p.1
    · subst hj
      rw [upd_same, upd_same]
    · rw [upd_ne _ _ hj, upd_ne _ _ hj]
      -- the rest, at this very place
      have key : ∀ (L : List (Nat × Ob)), (j ∉ (L.map fun p => p.1) → m j = m' j) → updL m L j = updL m' L j := by
        intro L
        induction L with
        | nil => exact fun h => h (fun e => by cases e)
        | cons q L ih =>
          intro h
          show upd (updL m L) q.1 q.2 j = upd (updL m' L) q.1 q.2 j
          by_cases hq : j = q.1
          · subst hq
            rw [upd_same, upd_same]
          · rw [upd_ne _ _ hq, upd_ne _ _ hq]
            exact ih fun hn => h fun e => by
              rcases List.mem_cons.1 e with e | e
              · exact hq e
              · exact hn e
      exact key L fun hn => h j fun e => by
        rcases List.mem_cons.1 e with e | e
        · exact hj e
        · exact hn e

/-- A variable of which nothing is known any more but how many cells it has. -/
def cnt (w : World) : Value → Nat
  | .pointer (some a) => match w.heap[a.block]? with
    | some (.cells c _ _) => c.size
    | _ => 0
  | _ => 0
def anyOb (w : World) (v : Value) : Ob → Ob
  | .box n _ => .box n (List.replicate (cnt w v) .any)
  | o => o
theorem any_all {m : Mem} {g : Nat → Value} {S : Nat → Prop} {w : World} : ∀ (vs : List Value), All2 (Cc m g S w) (List.replicate vs.length .any) vs
  | [] => trivial
  | _ :: vs => ⟨trivial, any_all vs⟩

section
variable {m : Mem} {g : Nat → Value} {S : Nat → Prop} {w : World}

/-- What is lent may be read by the callee. -/
structure Lent (m : Mem) (g : Nat → Value) (S : Nat → Prop) (w : World) (share : Bool) (lent : List Nat) (ids : List Nat) (mB : Mem) (Sd Sc : Nat → Prop) : Prop where
  eqB : mB = updL m (cond share (frzAll m lent) [])
  sub : ∀ b, S b → Sc b
  lent : ∀ id ∈ lent, ∀ b, isArr (m id) = true → own m g id = some b → Sc b
  own : ∀ id ∈ ids, ∀ b, own m g id = some b → ¬ Sc b
  slt : ∀ b, Sc b → b < w.heap.size
  mr : MRel mB g Sd w
  evo : Evo m g S w mB g Sd w
  dsub : ∀ b, Sd b → Sc b
  same : ∀ id ∈ ids, mB id = m id
  ty : (share = true ∧ Sd = Sc) ∨ (share = false ∧ Sd = S)

theorem lent_ok (hm : MRel m g S w) (share : Bool) {lent ids : List Nat} (hd : noDup (cond share lent []) = true) (hi : ∀ id ∈ lent, id ∉ ids) : ∃ mB Sd Sc, Lent m g S w share lent ids mB Sd Sc := by
  cases share with
  | false =>
    refine ⟨m, S, fun b => S b ∨ ∃ id ∈ lent, own m g id = some b, rfl, fun b h => .inl h, fun id h b _ hb => .inr ⟨id, h, hb⟩, fun id h b hb hs => ?_, fun b h => ?_, hm, Evo.refl _ _ _ _, fun b h => .inl h, fun _ _ => rfl, .inr ⟨rfl, rfl⟩⟩
    · rcases hs with hs | ⟨j, hj, hb'⟩
      · exact hm.sdisj id b hb hs
      · have := hm.disj id j b hb hb'
        subst this
        exact hi id hj h
    · rcases h with h | ⟨j, hj, hb'⟩
      · exact hm.slt b h
      · exact hm.own_lt hb'
  | true =>
    obtain ⟨g', S', hm', he, hg, hs⟩ := evo_frzAll hm lent hd
    have hg : g' = g := funext hg
    subst hg
    have same : ∀ id ∈ ids, updL m (frzAll m lent) id = m id := fun id h => updL_out fun p hp e => hi p.1 (frzAll_fst hp) (e ▸ h)
    refine ⟨_, S', S', rfl, he.sub, fun id h b ha hb => hs id h b ?_ hb, fun id h b hb hs' => ?_, hm'.slt, hm', he, fun _ h => h, same, .inl ⟨rfl, rfl⟩⟩
    · cases ho : m id with
      | arr n e xs => exact ⟨n, e, xs, rfl⟩
      | _ => rw [ho] at ha; cases ha
    · exact hm'.sdisj id b (by rw [own_eq, same id h, ← own_eq]; exact hb) hs'

theorem inL_false {x : Nat} {l : List Nat} (h : x ∉ l) : inL x l = false := by
  cases hi : inL x l with
  | false => rfl
  | true => exact absurd (inL_iff.1 hi) h

theorem own_bump (o : Ob) (v : Value) : ownOf o.bump v = none := rfl
theorem own_any (w : World) (o : Ob) (v v' : Value) : ownOf (anyOb w v' o) v = ownOf o v := by cases o <;> rfl

theorem mem_own {I : Ids} {i : Nat} (h : i ∈ I.ids) : i ∈ I.own ∨ (i, true) ∈ I.all := by
  obtain ⟨p, hp, rfl⟩ := List.mem_map.1 h
  obtain ⟨i, f⟩ := p
  cases f with
  | true => exact .inr hp
  | false => exact .inl (List.mem_map.2 ⟨(i, false), List.mem_filter.2 ⟨hp, rfl⟩, rfl⟩)
theorem own_mem {I : Ids} {i : Nat} (h : i ∈ I.own) : i ∈ I.ids := by
  obtain ⟨p, hp, rfl⟩ := List.mem_map.1 h
  exact List.mem_map.2 ⟨p, (List.mem_filter.1 hp).1, rfl⟩

theorem take_res (mm : Mem) : ∀ {k : RK} {m : Mem} {g : Nat → Value} {x : k.den} {v : Value} {B : List Nat} {b : Nat}, MRel m g S w → resVal w S k x v B → B.Nodup → Free m g S B → noDup (resNew b k) = true →
    (∀ i ∈ resNew b k, isDead (m i) = true ∧ mm i = m i) →
    ∃ g', Add m g S w (updL m (resOut b mm k x).2) g' (resNew b k) B ∧ Ac (updL m (resOut b mm k x).2) g' S w (resOut b mm k x).1 v
  | .none, m, g, x, v, B, b, hm, h, _, _, _, _ => by
    obtain ⟨rfl, rfl⟩ := h
    exact ⟨g, Add.nil hm, undef_ok⟩
  | .one q, m, g, x, v, B, b, hm, h, hn, hf, hi, hd => by
    obtain ⟨g4, a4, h4⟩ := take_part mm (b := b) hm h hn hf hi hd
    exact ⟨g4, a4, h4⟩
  | .tup qs, m, g, x, v, B, b, hm, h, hn, hf, hi, hd => by
    obtain ⟨vs, rfl, h⟩ := h
    obtain ⟨g4, a4, h4⟩ := take_parts mm (b := b) hm h hn hf hi hd
    exact ⟨g4, a4, vs, rfl, h4⟩

theorem updL_spec (m : Mem) : ∀ (L : List (Nat × Ob)) (id : Nat), (id ∉ (L.map fun p => p.1) ∧ updL m L id = m id) ∨ ∃ p ∈ L, p.1 = id ∧ updL m L id = p.2
  | [], id => .inl ⟨by simp, rfl⟩
  | p :: L, id => by
    by_cases h : id = p.1
    · subst h
      exact .inr ⟨p, List.mem_cons_self .., rfl, upd_same _ _ _⟩
    · have e : updL m (p :: L) id = updL m L id := upd_ne _ _ h
      rw [e]
      rcases updL_spec m L id with ⟨h1, h2⟩ | ⟨q, h1, h2⟩
      · refine .inl ⟨fun e => ?_, h2⟩
        rcases List.mem_cons.1 (show id ∈ p.1 :: (L.map fun p => p.1) from e) with e | e
        · exact h e
        · exact h1 e
      · exact .inr ⟨q, List.mem_cons_of_mem _ h1, h2⟩
theorem told_post (hm : MRel m g S w) {sp : Spec} {xs : List A} {vals : List Value} (hv : All2 (Ac m g S w) xs vals) {bid : Nat} {p : Plan} (hp : callP sp bid xs m = some p) {r : Res}
    (hr : p.go (restr (p.rd ++ p.wr) m) = some r) (hc : r.cs.all (fun b => b) = true) :
    ∃ x B Sc, argsIn m sp.ins xs = some x ∧ argsIn (restr (p.rd ++ p.wr) m) sp.ins xs = some x ∧ sp.pre x = true ∧ partsV w Sc sp.ins x vals B ∧ Given Sc w B ∧
      ∀ w' val S' B1 B2, Told sp x w Sc vals B val w' S' B1 B2 → Post m g S w (updL m r.ws) r.v val w' := by
  obtain ⟨hok, hp⟩ := cond_some hp
  cases hp
  generalize hI : argsIds m sp.ins xs = I at hok hr ⊢
  obtain ⟨hnd, hok⟩ := and_true hok
  obtain ⟨hlent, hflat⟩ := and_true hok
  simp only [] at hr
  generalize hl : (cond sp.share [] I.lent ++ (newIds bid sp ++ (I.ids ++ cond sp.share I.lent []))) = l at hr ⊢
  obtain ⟨hdead, hr⟩ := cond_some hr
  cases hx : argsIn (restr l m) sp.ins xs with
  | none => rw [hx] at hr; cases hr
  | some x =>
    rw [hx] at hr
    cases hr
    have hpre : sp.pre x = true := by simpa using hc
    have hx' := argsIn_part (Part.restr l m) hx
    -- numbers
    obtain ⟨nd1, nd2, nd3⟩ := noDup_append hnd
    obtain ⟨nd4, nd5, nd6⟩ := noDup_append nd2
    have hlent' : ∀ i ∈ I.lent, i ∉ newIds bid sp ∧ i ∉ I.ids := fun i hi => by
      have := List.all_eq_true.1 hlent i hi
      have hn : i ∉ newIds bid sp ++ I.ids := fun e => by
        rw [inL_iff.2 e] at this
        cases this
      exact ⟨fun e => hn (List.mem_append_left _ e), fun e => hn (List.mem_append_right _ e)⟩
    have memIds : ∀ i ∈ I.ids, i ∈ l := fun i hi => by
      rw [← hl]
      exact List.mem_append_right _ (List.mem_append_right _ (List.mem_append_left _ hi))
    have memNew : ∀ i ∈ newIds bid sp, i ∈ l := fun i hi => by
      rw [← hl]
      exact List.mem_append_right _ (List.mem_append_left _ hi)
    have newIds' : ∀ i ∈ newIds bid sp, i ∉ I.ids := fun i hi e => nd3 i hi (List.mem_append_left _ e)
    obtain ⟨mB, Sd, Sc, L⟩ := lent_ok hm sp.share (lent := I.lent) (ids := I.ids) nd5 fun i hi => (hlent' i hi).2
    have hB := argsIn_ok hm L.sub hx' hv (by rw [hI]; exact L.lent)
    rw [hI] at hB
    have hmemB : ∀ {b}, b ∈ blks m g I.all → ∃ id ∈ I.ids, own m g id = some b := fun h => blks_mem h
    have hgiven : Given Sc w (blks m g I.all) := ⟨blks_nodup hm nd4, fun b hb => by
      obtain ⟨id, hid, ho⟩ := hmemB hb
      exact L.own id hid b ho, fun b hb => by
      obtain ⟨id, hid, ho⟩ := hmemB hb
      exact hm.own_lt ho, L.slt⟩
    refine ⟨x, _, Sc, hx', rfl, hpre, hB, hgiven, ?_⟩
    generalize hBB : blks m g I.all = B at hB hgiven hmemB ⊢
    intro w' val S' B1 B2 T
    -- the variables
    have hat := args_at hx' hv
    obtain ⟨hsub, htrue⟩ := args_ids hx'
    rw [hI] at hsub htrue
    have bxIn : ∀ i ∈ bxIdL sp.ins xs, i ∈ I.ids := fun i hi => hsub.subset hi
    have bxNd : (bxIdL sp.ins xs).Nodup := hsub.nodup (noDup_iff.1 nd4)
    have hcase : ∀ i ∈ I.ids, i ∈ bxIdL sp.ins xs ∨ i ∈ muIdL sp.ins xs ∨ i ∈ I.own := fun i hi => by
      rcases mem_own hi with h | h
      · exact .inr (.inr h)
      · exact (htrue _ h rfl).imp (fun h => h) .inl
    have hheap := bxs_heap hat T.bxs
    -- the blocks of data behind the call
    obtain ⟨S2, hS2d, hS2', hS2, hres, hbxs⟩ : ∃ S2 : Nat → Prop, (∀ b, Sd b → S2 b) ∧ (∀ b, S2 b → S' b) ∧ (∀ b, S2 b → Sd b ∨ b ∈ B ∨ w.heap.size ≤ b) ∧ resVal w' S2 sp.out (sp.g x).1 val B1 ∧ bxsV w' S2 sp.ins vals (sp.g x).2 B2 := by
      rcases L.ty with ⟨h1, h2⟩ | ⟨h1, h2⟩
      · refine ⟨S', fun b h => T.sub b (h2 ▸ h), fun _ h => h, fun b h => ?_, T.res, T.bxs⟩
        rcases T.ssub b h with h | h | h
        · exact .inl (h2 ▸ h)
        · exact .inr (.inl h)
        · exact .inr (.inr h)
      · rw [h1] at hflat
        obtain ⟨f1, f2⟩ := and_true (show flatOut sp = true from hflat)
        exact ⟨S, fun b h => h2 ▸ h, fun b h => T.sub b (L.sub b h), fun b h => .inl (h2 ▸ h), T.res.flat f1, T.bxs.flat f2⟩
    -- the memory behind the call
    obtain ⟨hmu1, hmu2⟩ := mut_props (mm := restr l m) hx' hv hbxs
    generalize hL : mutOut (restr l m) sp.ins xs (sp.g x).2 = ML at hmu1 hmu2
    have muIn : ∀ i ∈ (ML.map fun p => p.1), i ∈ muIdL sp.ins xs ∧ i ∈ I.ids := fun i hi => by
      obtain ⟨p, hp, rfl⟩ := List.mem_map.1 hi
      obtain ⟨_, _, _, _, _, _, _, _, h5⟩ := hmu1 p hp
      exact ⟨h5, by rw [← hI]; exact (muIdL_ids hx').1 _ h5⟩
    have muNb : ∀ i ∈ muIdL sp.ins xs, i ∉ bxIdL sp.ins xs ∧ i ∉ I.own := fun i hi => by
      have := (muIdL_ids hx').2 (by rw [hI]; exact noDup_iff.1 nd4) i hi
      rw [hI] at this
      exact this
    let mC : Mem := fun id => cond (inL id I.own) (mB id).bump (mB id)
    let m2 : Mem := fun id => cond (inL id (bxIdL sp.ins xs)) (anyOb w' (g id) (mB id)) (updL mC ML id)
    have m2bx : ∀ id, id ∈ bxIdL sp.ins xs → m2 id = anyOb w' (g id) (mB id) := fun id h => by
      show cond (inL id (bxIdL sp.ins xs)) _ _ = _
      rw [inL_iff.2 h]
      rfl
    have m2nb : ∀ id, id ∉ bxIdL sp.ins xs → m2 id = updL mC ML id := fun id h => by
      show cond (inL id (bxIdL sp.ins xs)) _ _ = _
      rw [inL_false h]
      rfl
    have mCout : ∀ id, id ∉ muIdL sp.ins xs → updL mC ML id = mC id := fun id h => by
      rcases updL_spec mC ML id with ⟨_, h2⟩ | ⟨p, hp, h1, _⟩
      · exact h2
      · exact absurd (muIn id (List.mem_map.2 ⟨p, hp, h1⟩)).1 h
    have m2own : ∀ id, id ∉ bxIdL sp.ins xs → id ∈ I.own → m2 id = (mB id).bump := fun id h h' => by
      rw [m2nb id h, mCout id fun e => (muNb id e).2 h']
      show cond (inL id I.own) _ _ = _
      rw [inL_iff.2 h']
      rfl
    have m2out : ∀ id, id ∉ bxIdL sp.ins xs → id ∉ muIdL sp.ins xs → id ∉ I.own → m2 id = mB id := fun id h hmu h' => by
      rw [m2nb id h, mCout id hmu]
      show cond (inL id I.own) _ _ = _
      rw [inL_false h']
      rfl
    have m2mu : ∀ id, id ∈ muIdL sp.ins xs → ∃ (n : Nat) (e : Tys) (xs0 ys : List e.den), mB id = .arr n e xs0 ∧ m2 id = .arr n e ys ∧ ArrV w' S2 e ys (g id) ∧ ∀ b, blkOf (g id) = some b → b ∈ boxBlks sp.ins vals := fun id h => by
      rw [m2nb id (muNb id h).1]
      rcases updL_spec mC ML id with ⟨h1, _⟩ | ⟨p, hp, h1, h2⟩
      · exact absurd (hmu2 id h) h1
      · obtain ⟨n, e, xs0, ys, a1, a2, a3, a4, a5⟩ := hmu1 p hp
        rw [h1] at a1 a2 a3 a4
        have hids := (muIn id (List.mem_map.2 ⟨p, hp, h1⟩)).2
        refine ⟨n, e, xs0, ys, by rw [L.same id hids]; exact a1, ?_, a3, a4⟩
        rw [h2, a2, restr_in (memIds id hids), a1]
        rfl
    have tr2 : ∀ id, Tr (mB id) (g id) (m2 id) (g id) := fun id => by
      by_cases h : id ∈ bxIdL sp.ins xs
      · rw [m2bx id h]
        cases ho : mB id with
        | box n cs => exact .inr ⟨rfl, rfl, _, _, rfl⟩
        | _ => exact Tr.refl _ _
      · by_cases hmu : id ∈ muIdL sp.ins xs
        · obtain ⟨n, e, xs0, ys, a1, a2, _⟩ := m2mu id hmu
          rw [a1, a2]
          exact .inr ⟨rfl, rfl, .inl ⟨_, _, rfl⟩⟩
        · by_cases h' : id ∈ I.own
          · rw [m2own id h h']
            exact .inl (Nat.lt_succ_self _)
          · rw [m2out id h hmu h']
            exact Tr.refl _ _
    have own2 : ∀ {id b}, own m2 g id = some b → own mB g id = some b ∧ (id ∈ I.ids → id ∈ bxIdL sp.ins xs ∨ id ∈ muIdL sp.ins xs) := fun {id b} h => by
      rw [own_eq] at h ⊢
      by_cases h1 : id ∈ bxIdL sp.ins xs
      · rw [m2bx id h1, own_any] at h
        exact ⟨h, fun _ => .inl h1⟩
      · by_cases hmu : id ∈ muIdL sp.ins xs
        · obtain ⟨n, e, xs0, ys, a1, a2, _⟩ := m2mu id hmu
          rw [a2] at h
          rw [a1]
          exact ⟨h, fun _ => .inr hmu⟩
        · by_cases h2 : id ∈ I.own
          · rw [m2own id h1 h2, own_bump] at h
            cases h
          · rw [m2out id h1 hmu h2] at h
            refine ⟨h, fun e => ?_⟩
            rcases hcase id e with e | e | e
            · exact .inl e
            · exact .inr e
            · exact absurd e h2
    have ownBm : ∀ {id b}, id ∈ I.ids → own m g id = some b → own mB g id = some b := fun {id b} hi h => by rw [own_eq, L.same id hi, ← own_eq]; exact h
    have inB : ∀ {id b}, own mB g id = some b → b ∈ B → id ∈ I.ids := fun {id b} h hb => by
      obtain ⟨j, hj, ho⟩ := hmemB hb
      have := L.mr.disj id j b h (ownBm hj ho)
      rw [this]
      exact hj
    have boxOf : ∀ {id b}, own m2 g id = some b → b ∈ B → b ∈ boxBlks sp.ins vals := fun {id b} h hb => by
      obtain ⟨h1, h2⟩ := own2 h
      have hid := inB h1 hb
      rcases h2 hid with h2 | h2
      · obtain ⟨blk, vs, E, ⟨n, cs, blk', a1, a2, a3, a4⟩, hin, _⟩ := hheap id h2
        cases a4
        have : own mB g id = some blk := by rw [own_eq, L.same id hid, a1, a3]; rfl
        rw [this] at h1
        cases h1
        exact hin
      · obtain ⟨n, e, xs0, ys, a1, _, _, a4⟩ := m2mu id h2
        rw [own_eq, a1] at h1
        exact a4 b h1
    have hhold : Hold Sd w w' := fun b hb => T.keep b (L.slt b (L.dsub b hb)) fun e => hgiven.apart b e (L.dsub b hb)
    have hm2 : MRel m2 g S2 w' := by
      refine ⟨fun id => ?_, fun i j b hi hj => L.mr.disj i j b (own2 hi).1 (own2 hj).1, fun i b hi hs => ?_, fun b hb => T.slt b (hS2' b hb)⟩
      · by_cases h : id ∈ bxIdL sp.ins xs
        · obtain ⟨blk, vs, E, ⟨n, cs, blk', a1, a2, a3, a4⟩, hin, hw⟩ := hheap id h
          cases a4
          have e : m2 id = .box n (List.replicate vs.length .any) := by
            rw [m2bx id h, L.same id (bxIn id h), a1, a3]
            show Ob.box n (List.replicate (cnt w' _) C.any) = _
            have : cnt w' (.pointer (some ⟨blk, 0, none⟩)) = vs.length := by
              show (match w'.heap[blk]? with | some (.cells c _ _) => c.size | _ => 0) = _
              rw [hw]
              simp
            rw [this]
          unfold Or
          rw [e]
          exact ⟨blk, vs, E, a3, hw, any_all vs⟩
        · by_cases hmu : id ∈ muIdL sp.ins xs
          · obtain ⟨n, e, xs0, ys, a1, a2, a3, _⟩ := m2mu id hmu
            unfold Or
            rw [a2]
            exact a3
          · by_cases h' : id ∈ I.own
            · unfold Or
              rw [m2own id h h']
              trivial
            · refine Or.stay tr2 hhold hS2d (m2out id h hmu h') rfl (fun b hb => ?_) (L.mr.or id)
              refine T.keep b (L.mr.own_lt hb) fun hbB => ?_
              rcases hcase id (inB hb hbB) with e | e | e
              · exact h e
              · exact hmu e
              · exact h' e
      · have ho := (own2 hi).1
        rcases hS2 b hs with e | e | e
        · exact L.mr.sdisj i b ho e
        · exact T.boxes b (boxOf hi e) (hS2' b hs)
        · have := L.mr.own_lt ho
          omega
    have hfree : ∀ {BB : List Nat}, (∀ b ∈ BB, b ∈ B1 ++ B2) → Free m2 g S2 BB := fun {BB} hsub b hb => by
      obtain ⟨t1, t2, t3⟩ := T.apart b (hsub b hb)
      refine ⟨fun h => t1 (hS2' b h), fun j hj => ?_⟩
      rcases t3 with t3 | t3
      · exact t2 (boxOf hj t3)
      · have := L.mr.own_lt (own2 hj).1
        omega
    have mB_new : ∀ i ∈ newIds bid sp, m2 i = m i := fun i hi => by
      have h1 : i ∉ bxIdL sp.ins xs := fun e => newIds' i hi (bxIn i e)
      have h2 : i ∉ I.own := fun e => newIds' i hi (own_mem e)
      have h3 : i ∉ muIdL sp.ins xs := fun e => newIds' i hi (by rw [← hI]; exact (muIdL_ids hx').1 _ e)
      rw [m2out i h1 h3 h2, L.eqB]
      cases hsh : sp.share with
      | false => rfl
      | true => exact updL_out fun p hp e => (hlent' p.1 (frzAll_fst hp)).1 (e ▸ hi)
    have hnew : ∀ i ∈ newIds bid sp, isDead (m2 i) = true ∧ restr l m i = m2 i := fun i hi => by
      have e : restr l m i = m i := restr_in (memNew i hi)
      have := List.all_eq_true.1 hdead i hi
      rw [e] at this
      rw [mB_new i hi, e]
      exact ⟨this, rfl⟩
    have hat2 : AtP (At m2 g (restr l m)) sp.ins xs vals := hat.mono fun id hid v ⟨n, cs, blk, a1, a2, a3, a4⟩ =>
      ⟨n, _, blk, by rw [m2bx id hid, L.same id (bxIn id hid), a1]; rfl, by rw [restr_in (memIds id (bxIn id hid)), a1]; rfl, a3, a4⟩
    obtain ⟨n1, n2, n3⟩ := nodup_parts T.nodup
    obtain ⟨k1, k2, k3⟩ := noDup_append nd1
    obtain ⟨g3, a3⟩ := take_bxs (restr l m) (b := bid + 2048) hm2 hbxs n2 (hfree fun b hb => List.mem_append_right _ hb) k2 (fun i hi => hnew i (List.mem_append_right _ hi)) hat2 bxNd
      (fun i hi e => newIds' i (List.mem_append_right _ e) (bxIn i hi))
    have hd3 : ∀ i ∈ resNew bid sp.out, isDead (updL m2 (bxsOut (bid + 2048) (restr l m) sp.ins xs (sp.g x).2) i) = true ∧ restr l m i = updL m2 (bxsOut (bid + 2048) (restr l m) sp.ins xs (sp.g x).2) i :=
      a3.fits (fun i hi e => by
        rcases List.mem_append.1 e with e | e
        · exact newIds' i (List.mem_append_left _ hi) (bxIn i e)
        · exact k3 i hi e) fun i hi => hnew i (List.mem_append_left _ hi)
    have hf3 : Free (updL m2 (bxsOut (bid + 2048) (restr l m) sp.ins xs (sp.g x).2)) g3 S2 B1 := (hfree fun b hb => List.mem_append_left _ hb).after a3 n3
    -- the results
    obtain ⟨g4, a4, hval⟩ := take_res (restr l m) (b := bid) a3.mr hres n1 hf3 k1 hd3
    -- the memory is the plan's
    have emem : updL m ((resOut bid (restr l m) sp.out (sp.g x).1).2 ++ (bxsOut (bid + 2048) (restr l m) sp.ins xs (sp.g x).2 ++ (ML ++ ((I.own.map fun i => (i, (restr l m i).bump)) ++ cond sp.share (frzAll (restr l m) I.lent) [])))) =
        updL (updL m2 (bxsOut (bid + 2048) (restr l m) sp.ins xs (sp.g x).2)) (resOut bid (restr l m) sp.out (sp.g x).1).2 := by
      rw [updL_append, updL_append, updL_append, updL_append]
      have e1 : updL m (cond sp.share (frzAll (restr l m) I.lent) []) = mB := by
        rw [L.eqB]
        cases hsh : sp.share with
        | false => rfl
        | true =>
          show updL m (frzAll (restr l m) I.lent) = updL m (frzAll m I.lent)
          rw [frzAll_restr fun id hid => by
            rw [← hl, hsh]
            exact List.mem_append_right _ (List.mem_append_right _ (List.mem_append_right _ hid))]
      rw [e1]
      congr 1
      refine (updL_absorb fun j hj => ?_).symm
      have hj1 : j ∉ bxIdL sp.ins xs := fun e => hj (bxs_keys hat T.bxs j e)
      rw [m2nb j hj1]
      have emC : updL mB (I.own.map fun i => (i, (restr l m i).bump)) = mC := by
        funext i
        rw [updL_map (fun i => (restr l m i).bump)]
        show _ = cond (inL i I.own) (mB i).bump (mB i)
        by_cases h2 : i ∈ I.own
        · rw [inL_iff.2 h2, L.same i (own_mem h2), restr_in (memIds i (own_mem h2))]
        · rw [inL_false h2]
          rfl
      rw [emC]
    refine ⟨g4, S2, ?_, ?_, ?_⟩
    · show MRel (updL m _) g4 S2 w'
      rw [emem]
      exact a4.mr
    · show Evo m g S w (updL m _) g4 S2 w'
      rw [emem]
      have hb12 : ∀ {b}, b ∈ B1 ++ B2 → (∃ j, own m g j = some b) ∨ w.heap.size ≤ b := fun {b} hb => by
        rcases (T.apart b hb).2.2 with e | e
        · obtain ⟨j, _, hj⟩ := hmemB e
          exact .inl ⟨j, hj⟩
        · exact .inr e
      refine ⟨fun id => (L.evo.tr id).trans ((tr2 id).trans ((a3.tr id).trans (a4.tr id))), fun b hb => hhold b (L.evo.sub b hb), fun b hb => hS2d b (L.evo.sub b hb), fun i b hb => ?_, fun b hb => ?_, fun b hb hn => T.keep b hb fun e => ?_, T.os, T.tape, T.output, T.size⟩
      · rcases a4.own' i b hb with e | e
        · rcases a3.own' i b e with e | e
          · exact L.evo.own' i b (own2 e).1
          · exact hb12 (List.mem_append_right _ e)
        · exact hb12 (List.mem_append_left _ e)
      · rcases hS2 b hb with e | e | e
        · exact L.evo.ssub b e
        · obtain ⟨j, _, hj⟩ := hmemB e
          exact .inr (.inl ⟨j, hj⟩)
        · exact .inr (.inr e)
      · obtain ⟨j, _, hj⟩ := hmemB e
        exact hn j hj
    · show Ac (updL m _) g4 S2 w' _ val
      rw [emem]
      exact hval

theorem call_post (hm : MRel m g S w) {P : Program} {f : Nat} {sp : Spec} (hs : Runs P f sp) {xs : List A} {vals : List Value} (hv : All2 (Ac m g S w) xs vals) {bid : Nat} {p : Plan} (hp : callP sp bid xs m = some p) {r : Res}
    (hr : p.go (restr (p.rd ++ p.wr) m) = some r) (hc : r.cs.all (fun b => b) = true) :
    Calls P f vals.toArray w fun e w' => ∃ val, e = .returned val ∧ Post m g S w (updL m r.ws) r.v val w' := by
  obtain ⟨x, B, Sc, _, _, hpre, hB, hg, h⟩ := told_post hm hv hp hr hc
  refine Calls.mono (hs x hpre w Sc vals B hB hg) fun e w' he => ?_
  obtain ⟨val, S', B1, B2, rfl, T⟩ := he
  exact ⟨val, rfl, h w' val S' B1 B2 T⟩
end
end Go.Rx

/-! ## maps of names -/
namespace Go.Rx
open Go Go.RowKit
set_option linter.unusedVariables false
set_option linter.unusedSimpArgs false
section
variable {P : Program} {T : Tab} {m : Mem} {g : Nat → Value} {S : Nat → Prop} {w : World}
theorem beq_strEq (a b : ByteArray) : (a == b) = strEq a b := by
  rw [Bool.eq_iff_iff, MapKept.bytes_beq]
  unfold strEq
  rw [decide_eq_true_iff]
  constructor
  · rintro rfl
    rfl
  · intro h
    cases a
    cases b
    simp at h
    rw [h]
theorem map_find {s : ByteArray} : ∀ {l : List MapEntry} {ks : List ByteArray} (i : Nat), l.map (fun e => (e.key, e.val)) = ks.map (fun s => (Value.string s, Value.bool true)) →
    (hasK s ks = true ∧ ∃ j e, Instr.findNow .string (.string s) l i = some (some (i + j, .bool true)) ∧ l[j]? = some e ∧ e.key = .string s ∧ e.val = .bool true) ∨ (hasK s ks = false ∧ Instr.findNow .string (.string s) l i = some none)
  | [], [], i, _ => .inr ⟨rfl, rfl⟩
  | [], _ :: _, i, h => by simp at h
  | _ :: _, [], i, h => by simp at h
  | e :: l, k :: ks, i, h => by
    simp only [List.map_cons, List.cons.injEq, Prod.mk.injEq] at h
    obtain ⟨⟨h1, h2⟩, h3⟩ := h
    have hs : Instr.sameNow .string (.string s) e.key = some (strEq s k) := by
      rw [h1, ← beq_strEq]
      rfl
    cases hk : strEq s k with
    | true =>
      rw [hk] at hs
      refine .inl ⟨by simp [hasK, hk], 0, e, ?_, rfl, ?_, h2⟩
      · simp only [Instr.findNow, hs, h2]
        rfl
      · rw [h1]
        have : s = k := (MapKept.bytes_beq s k).1 (by rw [beq_strEq]; exact hk)
        rw [this]
    | false =>
      rw [hk] at hs
      rcases map_find (s := s) (i + 1) h3 with ⟨a, j, e', b, c, d⟩ | ⟨a, b⟩
      · refine .inl ⟨by simp [hasK, hk, a], j + 1, e', ?_, by simpa using c, d⟩
        simp only [Instr.findNow, hs, b]
        congr 3
        omega
      · refine .inr ⟨by simp [hasK, hk, a], ?_⟩
        simp only [Instr.findNow, hs, b]
theorem isMap_ok {t : Nat} (hT : TabOk P T) (h : isMap T t = true) : ∃ k e inf, P.underlying t = some (.map k e) ∧ P.underlying k = some .string ∧ P.info? e = some inf ∧ inf.zero = some (.bool false) := by
  unfold isMap at h
  split at h
  · rename_i i hi
    exact (hT t i hi).mp h
  · cases h
theorem map_new (hm : MRel m g S w) {t id : Nat} (hd : isDead (m id) = true) :
    ∃ v' w', (Instr.makeMap t none).run P w = .ok v' w' ∧ Post m g S w (upd m id (.map (m id).ver [])) (.c (.mref id (m id).ver)) v' w' := by
  refine ⟨.map (some w.heap.size), w.alloc (.map #[] 0), ?_, ?_⟩
  · unfold Instr.makeMap
    simp
  · have key := evo_new hm id (.map (m id).ver []) (.map (some w.heap.size)) (.map #[] 0) hd rfl (fun b h => by cases h; rfl) (fun hcc => by
      unfold Or
      rw [upd_same, upd_same]
      exact ⟨w.heap.size, #[], 0, rfl, push_new _ _, rfl⟩)
    refine ⟨_, _, key.1, key.2, ⟨?_, rfl⟩⟩
    show MrefOk _ _ _ _ _
    unfold MrefOk
    rw [upd_same, upd_same]
    exact .inr ⟨rfl, rfl⟩
theorem map_set (hm : MRel m g S w) {id n b clock clock' : Nat} {ks ks' : List ByteArray} {es es' : Array MapEntry} (ho : m id = .map n ks) (hg : g id = .map (some b)) (hw : w.heap[b]? = some (.map es clock))
    (he : es'.toList.map (fun e => (e.key, e.val)) = ks'.map (fun s => (Value.string s, Value.bool true))) :
    Post m g S w (upd m id (.map n ks')) (.tup []) undef { w with heap := w.heap.setIfInBounds b (.map es' clock') } := by
  have hown : own m g id = some b := by rw [own_map ho, hg]; rfl
  have hset := MapKept.heap_set (o' := .map es' clock') hw
  have key := evo_one (S' := S) (w' := { w with heap := w.heap.setIfInBounds b (.map es' clock') }) hm id (.map n ks') (g id) (by rw [ho]; exact .inr ⟨rfl, rfl, n, ks', rfl⟩)
    (fun b' h => .inl (by rw [own_map ho]; exact h)) (fun _ h => h) (fun _ h => .inl h) (fun b' hb' h => hm.sdisj id b' (by rw [own_map ho]; exact h) hb')
    (fun b' _ hb' => hset.2 b' (fun e => hb' (by rw [hown, e]))) rfl rfl rfl (by simp) (fun _ => by
      unfold Or
      rw [upd_same, upd_same]
      exact ⟨b, es', clock', hg, hset.1, he⟩)
  exact ⟨_, _, key.1, key.2, ⟨[], rfl, trivial⟩⟩
theorem insert_ok (hT : TabOk P T) (hm : MRel m g S w) {t : Nat} {x k v : A} {vx vk vv : Value} (hx : Ac m g S w x vx) (hk : Ac m g S w k vk) (hv : Ac m g S w v vv) {p : Plan} (hp : insertP T t x k v = some p) {r : Res} (hr : p.go (restr (p.rd ++ p.wr) m) = some r) :
    ∃ w', (Instr.mapUpdate t vx vk vv).run P w = .ok () w' ∧ Post m g S w (updL m r.ws) r.v undef w' := by
  unfold insertP at hp
  obtain ⟨hi, hp⟩ := cond_some hp
  obtain ⟨kt, et, inf, h1, h2, h3, h4⟩ := isMap_ok hT hi
  split at hp
  · rename_i id ver s _
    cases hp
    simp only [List.nil_append] at hr
    rw [restr_in (List.mem_singleton.2 rfl)] at hr
    split at hr
    · rename_i n ks ho
      obtain ⟨hn, hr⟩ := cond_some hr
      obtain rfl := beq_true hn
      cases hr
      have hvx : vx = g id := mref_map ho hx
      have hvk : vk = .string s := hk
      have hvv : vv = .bool true := hv
      obtain ⟨b, es, clock, hg, hw, he⟩ := map_live hm ho
      subst hvk hvv
      rw [hvx, hg]
      rcases map_find (s := s) 0 he with ⟨hh, j, e, hf, hj, he1, he2⟩ | ⟨hh, hf⟩
      · have hj' : es[j]? = some e := by simpa using hj
        refine ⟨{ w with heap := w.heap.setIfInBounds b (.map (es.modify j fun e => { e with key := .string s, val := .bool true }) clock) }, by simp [Instr.mapUpdate, run_underlying h1, MapKept.run_getObj_map hw, MapKept.run_checkKey h2 (k := .string s) trivial, MapKept.run_findKey h2 hf, hj', he1, MapKept.run_keyThatStays (d := .string) (k := .string s) trivial, MapKept.run_setObj_map _ hw, Result.andThen], ?_⟩
        show Post m g S w (upd m id (.map ver (cond (hasK s ks) ks (ks ++ [s])))) _ _ _
        rw [hh]
        refine map_set hm ho hg hw ?_
        rw [cond_true, ← he, Array.toList_modify]
        apply List.ext_getElem?
        intro i
        rw [List.getElem?_map, List.getElem?_map, List.getElem?_modify]
        by_cases hij : j = i
        · subst hij
          rw [hj]
          simp [he1, he2]
        · simp [hij]
      · refine ⟨{ w with heap := w.heap.setIfInBounds b (.map (es.push { key := .string s, val := .bool true, born := clock }) (clock + 1)) }, by simp [Instr.mapUpdate, run_underlying h1, MapKept.run_getObj_map hw, MapKept.run_checkKey h2 (k := .string s) trivial, MapKept.run_findKey h2 hf, MapKept.run_setObj_map _ hw, Result.andThen], ?_⟩
        show Post m g S w (upd m id (.map ver (cond (hasK s ks) ks (ks ++ [s])))) _ _ _
        rw [hh]
        refine map_set hm ho hg hw ?_
        rw [cond_false, Array.toList_push, List.map_append, he]
        simp
    · cases hr
  · cases hp
theorem lookup_ok (hT : TabOk P T) (hm : MRel m g S w) {t : Nat} {x k : A} {vx vk : Value} (hx : Ac m g S w x vx) (hk : Ac m g S w k vk) {p : Plan} (hp : lookupP T t x k = some p) {r : Res} (hr : p.go (restr (p.rd ++ p.wr) m) = some r) :
    r.ws = [] ∧ ∃ val, (Instr.lookup t vx vk false).run P w = .ok val w ∧ Ac m g S w r.v val := by
  unfold lookupP at hp
  obtain ⟨hi, hp⟩ := cond_some hp
  obtain ⟨kt, et, inf, h1, h2, h3, h4⟩ := isMap_ok hT hi
  split at hp
  · rename_i id ver s _
    cases hp
    replace hr : (match restr ([id] ++ []) m id with | .map n ks => cond (Nat.beq ver n) (some (⟨[], .bool (hasK s ks), []⟩ : Res)) none | _ => none) = some r := hr
    rw [restr_in (List.mem_append_left _ (List.mem_singleton.2 rfl))] at hr
    split at hr
    · rename_i n ks ho
      obtain ⟨hn, hr1⟩ := cond_some hr
      clear hr
      obtain rfl := beq_true hn
      cases hr1
      have hvx : vx = g id := mref_map ho hx
      have hvk : vk = .string s := hk
      obtain ⟨b, es, clock, hg, hw, he⟩ := map_live hm ho
      subst hvk
      rw [hvx, hg]
      refine ⟨rfl, .bool (hasK s ks), ?_, rfl⟩
      rcases map_find (s := s) 0 he with ⟨hh, j, e, hf, hj, he1, he2⟩ | ⟨hh, hf⟩
      · rw [hh]
        simp [Instr.lookup, run_underlying h1, MapKept.run_getObj_map hw, MapKept.run_checkKey h2 (k := .string s) trivial, MapKept.run_findKey h2 hf, Result.andThen]
      · rw [hh]
        simp [Instr.lookup, run_underlying h1, MapKept.run_getObj_map hw, MapKept.run_checkKey h2 (k := .string s) trivial, MapKept.run_findKey h2 hf, run_zeroValue' h3 h4, Result.andThen]
    · cases hr
  · cases hp
end
end Go.Rx

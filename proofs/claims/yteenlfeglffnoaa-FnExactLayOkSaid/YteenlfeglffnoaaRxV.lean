/-
  ENGINE, part V: what a function, or a loop's round, hands back.
  Seat-independent.
-/
import Derived.Test.YteenlfeglffnoaaRxU
namespace Go.Rx
open Go Go.RowKit
set_option linter.unusedVariables false
set_option linter.unusedSimpArgs false

section
variable {m : Mem} {g : Nat → Value} {S S' : Nat → Prop} {w : World}

theorem blks_cons_true {id b : Nat} {l : List (Nat × Bool)} (h : own m g id = some b) : blks m g ((id, true) :: l) = b :: blks m g l := by
  simp [blks, h]

/-- A variable at the end, by the pointer of the start. -/
theorem boxBack_ok (hm : MRel m g S w) (hs : ∀ b, S b → S' b) {ks : List CK} {id : Nat} {x : CKs.den ks} {v : Value} (h : boxIn m ks id 0 = some x) (hv : PtrOk m g id 0 0 v) (hl : ∀ i ∈ (boxIds m ks id).lent, ∀ b, isArr (m i) = true → own m g i = some b → S' b) :
    ∃ blk vs E B2, v = .pointer (some ⟨blk, 0, none⟩) ∧ w.heap[blk]? = some (.cells (List.toArray vs) E (0, 0)) ∧ cellsV w S' ks x vs B2 ∧ blks m g (boxIds m ks id).all = blk :: B2 := by
  obtain ⟨blk, vs, E, B2, h1, h2, h3, h4⟩ := boxIn_ok hm hs h hv hl
  exact ⟨blk, vs, E, B2, h1, h2, h3, h4⟩

theorem backs_back (hm : MRel m g S w) (hs : ∀ b, S b → S' b) : ∀ {bs : List (List CK)} {id : Nat} {x0 : CKss.den bs} {x : CKss.den bs} {us : List Value}, boxesBack m id bs = some x → All2 (fun p v => PtrOk m g p.1 p.2.1 p.2.2 v ∧ v.oneCell' = true) (boxesNewOut id noMem bs x0).1 us →
    (∀ i ∈ (boxesBackIds m id bs).lent, ∀ b, isArr (m i) = true → own m g i = some b → S' b) → ∃ B2, bxsV.backsV w S' bs us x B2 ∧ (blksOf us ++ B2).Perm (blks m g (boxesBackIds m id bs).all)
  | [], id, x0, x, [], h, hv, _ => ⟨[], ⟨rfl, rfl⟩, List.Perm.nil⟩
  | [], id, x0, x, _ :: _, h, hv, _ => hv.elim
  | ks :: bs, id, x0, x, [], h, hv, _ => hv.elim
  | ks :: bs, id, x0, x, u :: us, h, hv, hl => by
    unfold boxesBack at h
    split at h
    · rename_i a b ha hb
      cases h
      obtain ⟨blk, vs, E, B1, rfl, h2, h3, h4⟩ := boxBack_ok hm hs ha hv.1.1 fun i hi => hl i (List.mem_append_left _ hi)
      obtain ⟨B2, h5, h6⟩ := backs_back hm hs (x0 := x0.2) hb hv.2 fun i hi => hl i (List.mem_append_right _ hi)
      refine ⟨B1 ++ B2, ⟨blk, vs, E, B1, B2, rfl, h2, rfl, h3, h5⟩, ?_⟩
      have e : blks m g (boxesBackIds m id (ks :: bs)).all = (blk :: B1) ++ blks m g (boxesBackIds m (id + 8) bs).all := by
        rw [← h4]
        exact blks_append _ _
      rw [e]
      show (blk :: (blksOf us ++ (B1 ++ B2))).Perm (blk :: (B1 ++ _))
      refine List.Perm.cons _ ?_
      refine List.Perm.trans ?_ (List.Perm.append_left B1 h6)
      rw [← List.append_assoc, ← List.append_assoc]
      exact List.Perm.append_right B2 List.perm_append_comm
    · cases h

/-- Rows at the end, by the values of the start. -/
theorem muts_back (hm : MRel m g S w) (hs : ∀ b, S b → S' b) : ∀ {ks : List CK} {b : Nat} {x0 : CKs.den ks} {x : Muts.den ks} {us : List Value}, mutIn m b ks = some x → All2 (Cc m g S w) (cellsOut b noMem ks x0).1 us → mutV w S' ks us x ∧ mutBlks ks us = blks m g (mutIds b ks).all
  | [], _, _, _, [], _, _ => ⟨trivial, rfl⟩
  | [], _, _, _, _ :: _, _, hv => hv.elim
  | _ :: _, _, _, _, [], _, hv => hv.elim
  | .dat t :: ks, b, x0, x, u :: us, h, hv => muts_back (ks := ks) (b := b + 1) (x0 := x0.2) hm hs h hv.2
  | .fn1 f t :: ks, b, x0, x, u :: us, h, hv => muts_back (ks := ks) (b := b + 1) (x0 := x0.2) hm hs h hv.2
  | .own t :: ks, b, x0, x, u :: us, h, hv => by
    unfold mutIn at h
    split at h
    · rename_i n e' xs ho
      obtain ⟨hn, h1⟩ := cond_some h
      obtain rfl := beq_true hn
      split at h1
      · rename_i a r ha hr
        cases h1
        obtain ⟨rfl, rfl⟩ := castRows_ok ha
        have hu : u = g b := ref_arr (S := S) (w := w) ho hv.1
        obtain ⟨i1, i2⟩ := muts_back (x0 := x0.2) hm hs hr hv.2
        refine ⟨⟨?_, i1⟩, ?_⟩
        · have ha : ArrV w S e' a u := by rw [hu]; exact arr_live hm ho
          exact ha.hold (Hold.refl S w) hs fun _ _ => rfl
        · show bl (blkOf u) ++ mutBlks ks us = blks m g ((b, true) :: (mutIds (b + 1) ks).all)
          rw [i2, hu]
          have : own m g b = blkOf (g b) := own_arr ho
          unfold blks bl
          rw [List.filterMap_cons, this]
          cases blkOf (g b) <;> rfl
      · cases h1
    · cases h
theorem muts_lent : ∀ (ks : List CK) (b : Nat), (mutIds b ks).lent = []
  | [], _ => rfl
  | .dat _ :: ks, b => muts_lent ks (b + 1)
  | .fn1 _ _ :: ks, b => muts_lent ks (b + 1)
  | .own _ :: ks, b => by
    show [] ++ (mutIds (b + 1) ks).lent = []
    rw [muts_lent]
    rfl
theorem vOf_back {ag : Bool} {cs : List C} {v : Value} (h : Vc m g S w (vOf ag cs) v) (hl : ag = false → cs.length = 1) : ∃ us, CellsOf ag v us ∧ All2 (Cc m g S w) cs us := by
  cases ag with
  | true =>
    obtain ⟨us, h1, h2⟩ := h
    exact ⟨us, h1, h2⟩
  | false =>
    match cs, h, hl rfl with
    | [c], h, _ => exact ⟨[v], rfl, h, trivial⟩
theorem cellsOut_len : ∀ {ks : List CK} {x : CKs.den ks} {b : Nat} {m : Mem}, (cellsOut b m ks x).1.length = ks.length
  | [], _, _, _ => rfl
  | k :: ks, x, b, m => by
    show (cellsOut (b + 1) m ks x.2).1.length + 1 = ks.length + 1
    rw [cellsOut_len]
theorem bxs_back (hm : MRel m g S w) (hs : ∀ b, S b → S' b) : ∀ {ps : List PK} {i : Nat} {x0 : PKs.den ps} {x : Bxs.den ps} {vals : List Value}, bxsIn m i ps = some x → All2 (Vc m g S w) (partsOut (64 * i) noMem ps x0).1 vals →
    (∀ j ∈ (bxsIds m i ps).lent, ∀ b, isArr (m j) = true → own m g j = some b → S' b) → ∃ B2, bxsV w S' ps vals x B2 ∧ (boxBlks ps vals ++ B2).Perm (blks m g (bxsIds m i ps).all) := by
  intro ps
  induction ps with
  | nil =>
    intro i x0 x vals h hv hl
    cases vals with
    | nil => exact ⟨[], ⟨rfl, rfl⟩, List.Perm.nil⟩
    | cons v vals => exact hv.elim
  | cons p ps ih =>
    intro i x0 x vals h hv hl
    have e64 : 64 * i + 64 = 64 * (i + 1) := by omega
    cases vals with
    | nil => exact hv.elim
    | cons v vals =>
      have hv1 : Vc m g S w (partOut (64 * i) noMem p x0.1).1 v := hv.1
      have hv2 : All2 (Vc m g S w) (partsOut (64 * (i + 1)) noMem ps x0.2).1 vals := by rw [← e64]; exact hv.2
      cases p with
      | c k => exact ih h hv2 hl
      | agg k => exact ih h hv2 hl
      | wr ag ks =>
        unfold bxsIn at h
        obtain ⟨hag, h⟩ := cond_some h
        split at h
        · rename_i a b ha hb
          cases h
          have hlen : ag = false → (cellsOut (64 * i) noMem ks x0.1).1.length = 1 := fun e => by
            rw [cellsOut_len]
            rw [e, Bool.false_or] at hag
            exact beq_true hag
          obtain ⟨us, hcs, hus⟩ := vOf_back hv1 hlen
          obtain ⟨h3, h4⟩ := muts_back (x0 := x0.1) hm hs ha hus
          obtain ⟨B2, h5, h6⟩ := ih hb hv2 fun i hi => hl i (List.mem_append_right _ hi)
          refine ⟨B2, ⟨⟨us, hcs, h3⟩, h5⟩, ?_⟩
          have e : blks m g (bxsIds m i (.wr ag ks :: ps)).all = blks m g (mutIds (64 * i) ks).all ++ blks m g (bxsIds m (i + 1) ps).all := blks_append _ _
          rw [e]
          show ((mutBlks ks (vcells ag v) ++ boxBlks ps vals) ++ B2).Perm _
          rw [hcs.eq, h4, List.append_assoc]
          exact List.Perm.append_left _ h6
        · cases h
      | box ks =>
        unfold bxsIn at h
        split at h
        · rename_i a b ha hb
          cases h
          obtain ⟨blk, vs, E, B1, rfl, h2, h3, h4⟩ := boxBack_ok hm hs ha hv1.1 fun i hi => hl i (List.mem_append_left _ hi)
          obtain ⟨B2, h5, h6⟩ := ih hb hv2 fun i hi => hl i (List.mem_append_right _ hi)
          refine ⟨B1 ++ B2, ⟨blk, vs, E, B1, B2, rfl, h2, rfl, h3, h5⟩, ?_⟩
          have e : blks m g (bxsIds m i (.box ks :: ps)).all = (blk :: B1) ++ blks m g (bxsIds m (i + 1) ps).all := by
            rw [← h4]
            exact blks_append _ _
          rw [e]
          show (blk :: (boxBlks ps vals ++ (B1 ++ B2))).Perm (blk :: (B1 ++ _))
          refine List.Perm.cons _ ?_
          refine List.Perm.trans ?_ (List.Perm.append_left B1 h6)
          rw [← List.append_assoc, ← List.append_assoc]
          exact List.Perm.append_right B2 List.perm_append_comm
        · cases h
      | fn f bs =>
        unfold bxsIn at h
        split at h
        · rename_i a b ha hb
          cases h
          obtain ⟨us, rfl, hus⟩ := hv1
          obtain ⟨B1, h3, h4⟩ := backs_back hm hs (x0 := x0.1) ha hus fun i hi => hl i (List.mem_append_left _ hi)
          obtain ⟨B2, h5, h6⟩ := ih hb hv2 fun i hi => hl i (List.mem_append_right _ hi)
          refine ⟨B1 ++ B2, ⟨us, B1, B2, rfl, rfl, h3, h5⟩, ?_⟩
          have e : blks m g (bxsIds m i (.fn f bs :: ps)).all = blks m g (boxesBackIds m (64 * i) bs).all ++ blks m g (bxsIds m (i + 1) ps).all := blks_append _ _
          rw [e]
          show ((blksOf us ++ boxBlks ps vals) ++ (B1 ++ B2)).Perm _
          refine List.Perm.trans ?_ (List.Perm.append h4 h6)
          rw [List.append_assoc, List.append_assoc]
          refine List.Perm.append_left _ ?_
          rw [← List.append_assoc, ← List.append_assoc]
          exact List.Perm.append_right B2 List.perm_append_comm
        · cases h

/-- Everything that is handed back, with what the variables hold. -/
theorem export_ok (hm : MRel m g S w) {ins ps : List PK} {xs : List A} {us vals : List Value} {x0 : PKs.den ins} {y : PKs.den ps} {b : Bxs.den ins} (hv : All2 (Vc m g S w) (partsOut 0 noMem ins x0).1 vals) (hx : All2 (Ac m g S w) xs us)
    (hok : idsOk ((argsIds m ps xs).add (bxsIds m 0 ins)) = true) (hy : argsIn m ps xs = some y) (hb : bxsIn m 0 ins = some b) :
    ∃ S' B1 B2, partsV w S' ps y us B1 ∧ bxsV w S' ins vals b B2 ∧ (B1 ++ B2).Nodup ∧ (∀ q ∈ B1 ++ B2, ¬ S' q ∧ q ∉ boxBlks ins vals ∧ ∃ j, own m g j = some q) ∧ (∀ q ∈ boxBlks ins vals, ¬ S' q) ∧ (∀ q, S q → S' q) ∧ (∀ q, S' q → S q ∨ ∃ j, own m g j = some q) ∧ (∀ q, S' q → q < w.heap.size) := by
  obtain ⟨hnd, hlent⟩ := and_true hok
  generalize hI : (argsIds m ps xs).add (bxsIds m 0 ins) = I at hnd hlent
  have el : I.lent = (argsIds m ps xs).lent ++ (bxsIds m 0 ins).lent := by rw [← hI]; rfl
  have ea : I.all = (argsIds m ps xs).all ++ (bxsIds m 0 ins).all := by rw [← hI]; rfl
  have hlent' : ∀ i ∈ I.lent, i ∉ I.ids := fun i hi e => by
    have := List.all_eq_true.1 hlent i hi
    rw [inL_iff.2 e] at this
    cases this
  let S' : Nat → Prop := fun q => S q ∨ ∃ id ∈ I.lent, own m g id = some q
  have hS' : ∀ q, S q → S' q := fun q h => .inl h
  have h1 := argsIn_ok (S' := S') hm hS' hy hx fun id hid q _ hq => .inr ⟨id, by rw [el]; exact List.mem_append_left _ hid, hq⟩
  obtain ⟨B2, h2, h3⟩ := bxs_back (S' := S') hm hS' hb hv fun id hid q _ hq => .inr ⟨id, by rw [el]; exact List.mem_append_right _ hid, hq⟩
  have hall := blks_nodup hm (show noDup (I.all.map fun p => p.1) = true from hnd)
  rw [ea, blks_append] at hall
  have hperm : (blks m g (argsIds m ps xs).all ++ (boxBlks ins vals ++ B2)).Perm (blks m g I.all) := by
    rw [ea, blks_append]
    exact List.Perm.append_left _ h3
  have hnd' : (blks m g (argsIds m ps xs).all ++ (boxBlks ins vals ++ B2)).Nodup := by
    rw [hperm.nodup_iff, ea, blks_append]
    exact hall
  have hmem : ∀ q, q ∈ blks m g (argsIds m ps xs).all ++ (boxBlks ins vals ++ B2) → ∃ id ∈ I.ids, own m g id = some q := fun q hq => blks_mem (hperm.mem_iff.1 hq)
  have hnot : ∀ q, q ∈ blks m g (argsIds m ps xs).all ++ (boxBlks ins vals ++ B2) → ¬ S' q := fun q hq hs => by
    obtain ⟨id, hid, ho⟩ := hmem q hq
    rcases hs with hs | ⟨j, hj, hjo⟩
    · exact hm.sdisj id q ho hs
    · have := hm.disj id j q ho hjo
      subst this
      exact hlent' id hj hid
  obtain ⟨n1, n2, n3⟩ := nodup_parts hnd'
  obtain ⟨n4, n5, n6⟩ := nodup_parts n2
  refine ⟨S', _, B2, h1, h2, ?_, fun q hq => ?_, fun q hq => hnot q (List.mem_append_right _ (List.mem_append_left _ hq)), hS', fun q hq => ?_, fun q hq => ?_⟩
  · rw [List.nodup_append]
    exact ⟨n1, n5, fun a ha b hb e => n3 a ha (List.mem_append_right _ (e ▸ hb))⟩
  · have hq' : q ∈ blks m g (argsIds m ps xs).all ++ (boxBlks ins vals ++ B2) := by
      rcases List.mem_append.1 hq with h | h
      · exact List.mem_append_left _ h
      · exact List.mem_append_right _ (List.mem_append_right _ h)
    refine ⟨hnot q hq', fun hbx => ?_, ?_⟩
    · rcases List.mem_append.1 hq with h | h
      · exact n3 q h (List.mem_append_left _ hbx)
      · exact n6 q hbx h
    · obtain ⟨id, _, ho⟩ := hmem q hq'
      exact ⟨id, ho⟩
  · rcases hq with h | ⟨j, _, hj⟩
    · exact .inl h
    · exact .inr ⟨j, hj⟩
  · rcases hq with h | ⟨j, _, hj⟩
    · exact hm.slt q h
    · exact hm.own_lt hj
end

/-! ### the start -/
theorem noMem_rel {w : World} {S : Nat → Prop} (hs : ∀ b, S b → b < w.heap.size) : MRel noMem (fun _ => undef) S w := by
  refine ⟨fun id => ?_, fun i j b hi hj => ?_, fun i b hi _ => ?_, hs⟩
  · unfold Or noMem
    trivial
  · cases hi
  · cases hi

theorem start_ok {ps : List PK} {x : PKs.den ps} {w : World} {S : Nat → Prop} {vals : List Value} {B : List Nat} (h : partsV w S ps x vals B) (hg : Given S w B) (hnd : noDup (partsNew 0 ps) = true) :
    ∃ g0, MRel (startM ps x) g0 S w ∧ All2 (Vc (startM ps x) g0 S w) (partsOut 0 noMem ps x).1 vals ∧ ∀ i b, own (startM ps x) g0 i = some b → b ∈ B := by
  obtain ⟨g0, a0, h0⟩ := take_parts (ps := ps) (m := noMem) (b := 0) noMem (noMem_rel hg.slt) h hg.nodup (fun b hb => ⟨hg.apart b hb, fun j hj => by cases hj⟩) hnd fun i _ => ⟨rfl, rfl⟩
  exact ⟨g0, a0.mr, h0, fun i b hb => (a0.own' i b hb).elim (fun h => by cases h) fun h => h⟩
end Go.Rx

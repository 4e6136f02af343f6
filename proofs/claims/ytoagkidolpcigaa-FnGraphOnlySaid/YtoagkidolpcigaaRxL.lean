/-
  ENGINE, part L: new objects out of what a contract hands back; variables that a contract has set; what it is for a function to keep a contract.
  Seat-independent.
-/
import Derived.Test.YtoagkidolpcigaaRxK
namespace Go.Rx
open Go Go.RowKit
set_option linter.unusedVariables false
set_option linter.unusedSimpArgs false

section
variable {S : Nat → Prop} {w : World}

theorem Add.tr_ptr {m m' : Mem} {g g' : Nat → Value} {i : List Nat} {B : List Nat} (h : Add m g S w m' g' i B) {id ver off : Nat} {v : Value} (hx : PtrOk m g id ver off v) : PtrOk m' g' id ver off v := PtrOk.tr h.tr hx

/-- Variables anew. -/
theorem take_box (mm : Mem) {ks : List CK} {m : Mem} {g : Nat → Value} {x : CKs.den ks} {v : Value} {B : List Nat} {b : Nat} (hm : MRel m g S w) (h : boxV w S ks x v B) (hn : B.Nodup) (hf : Free m g S B) (hi : noDup (boxNew b ks) = true)
    (hd : ∀ i ∈ boxNew b ks, isDead (m i) = true ∧ mm i = m i) :
    ∃ g', Add m g S w (updL m (boxNewOut b mm ks x)) g' (boxNew b ks) B ∧ PtrOk (updL m (boxNewOut b mm ks x)) g' b (mm b).ver 0 v ∧ v.oneCell' = true := by
  obtain ⟨blk, vs, E, B2, rfl, hw, hc, rfl⟩ := h
  obtain ⟨hnb, hn2⟩ := List.nodup_cons.1 hn
  obtain ⟨i1, i2⟩ := noDup_cons hi
  obtain ⟨g1, a1, c1⟩ := take_cells mm (b := b + 1) hm hc hn2 (fun c hc => hf c (List.mem_cons_of_mem _ hc)) i2 fun i hi => hd i (List.mem_cons_of_mem _ hi)
  have hsame := a1.same b i1
  obtain ⟨hdb, hmb⟩ := hd b (List.mem_cons_self ..)
  have key := Add.one a1.mr b (.box (mm b).ver (cellsOut (b + 1) mm ks x).1) (.pointer (some ⟨blk, 0, none⟩)) (by rw [hsame.1]; exact hdb) (by rw [hmb, hsame.1]; rfl)
    (fun c hc => by
      have e : c = blk := by
        have : some blk = some c := hc
        exact (Option.some.inj this).symm
      subst e
      refine ⟨(hf c (List.mem_cons_self ..)).1, fun j hj => ?_⟩
      rcases a1.own' j c hj with e | e
      · exact (hf c (List.mem_cons_self ..)).2 j e
      · exact hnb e)
    (fun hk => by
      unfold Or
      rw [upd_same, upd_same]
      exact ⟨blk, vs, E, rfl, hw, c1.mono hk⟩)
  refine ⟨upd g1 b (.pointer (some ⟨blk, 0, none⟩)), a1.trans key, ?_, rfl⟩
  · show PtrOk (upd _ b _) _ b _ 0 _
    unfold PtrOk
    rw [upd_same]
    exact .inr ⟨rfl, blk, by rw [upd_same], rfl⟩

theorem take_boxes (mm : Mem) : ∀ {bs : List (List CK)} {m : Mem} {g : Nat → Value} {x : CKss.den bs} {vs : List Value} {B : List Nat} {b : Nat}, MRel m g S w → boxesV w S bs x vs B → B.Nodup → Free m g S B → noDup (boxesNew b bs) = true →
    (∀ i ∈ boxesNew b bs, isDead (m i) = true ∧ mm i = m i) →
    ∃ g', Add m g S w (updL m (boxesNewOut b mm bs x).2) g' (boxesNew b bs) B ∧ All2 (fun p v => PtrOk (updL m (boxesNewOut b mm bs x).2) g' p.1 p.2.1 p.2.2 v ∧ v.oneCell' = true) (boxesNewOut b mm bs x).1 vs
  | [], m, g, x, vs, B, b, hm, h, _, _, _, _ => by
    obtain ⟨rfl, rfl⟩ := h
    exact ⟨g, Add.nil hm, trivial⟩
  | ks :: bs, m, g, x, vs, B, b, hm, h, hn, hf, hi, hd => by
    obtain ⟨v, vs', B1, B2, rfl, rfl, h1, h2⟩ := h
    obtain ⟨n1, n2, n3⟩ := nodup_parts hn
    obtain ⟨i1, i2, i3⟩ := noDup_append hi
    obtain ⟨g1, a1, c1⟩ := take_boxes mm (b := b + 8) hm h2 n2 hf.right i2 fun i hi => hd i (List.mem_append_right _ hi)
    obtain ⟨g2, a2, c2, c3⟩ := take_box mm a1.mr h1 n1 (hf.left.after a1 n3) i1 (a1.fits i3 fun i hi => hd i (List.mem_append_left _ hi))
    have e : updL m (boxesNewOut b mm (ks :: bs) x).2 = updL (updL m (boxesNewOut (b + 8) mm bs x.2).2) (boxNewOut b mm ks x.1) := updL_append _ _ _
    refine ⟨g2, ?_, ?_⟩
    · rw [e]
      exact a1.trans a2
    · rw [e]
      exact ⟨⟨c2, c3⟩, c1.mono fun p v hp => ⟨a2.tr_ptr hp.1, hp.2⟩⟩

theorem vOf_ok {m : Mem} {g : Nat → Value} {ag : Bool} {v : Value} {vs : List Value} {cs : List C} (hv : CellsOf ag v vs) (hc : All2 (Cc m g S w) cs vs) : Vc m g S w (vOf ag cs) v := by
  cases ag with
  | true => exact ⟨vs, hv, hc⟩
  | false =>
    have hv : vs = [v] := hv
    subst hv
    match cs, hc with
    | [c], hc => exact hc.1
theorem take_part (mm : Mem) : ∀ {p : PK} {m : Mem} {g : Nat → Value} {x : p.den} {v : Value} {B : List Nat} {b : Nat}, MRel m g S w → partV w S p x v B → B.Nodup → Free m g S B → noDup (partNew b p) = true →
    (∀ i ∈ partNew b p, isDead (m i) = true ∧ mm i = m i) →
    ∃ g', Add m g S w (updL m (partOut b mm p x).2) g' (partNew b p) B ∧ Vc (updL m (partOut b mm p x).2) g' S w (partOut b mm p x).1 v
  | .c k, m, g, x, v, B, b, hm, h, _, hf, _, hd => take_cell mm hm h hf hd
  | .agg ks, m, g, x, v, B, b, hm, h, hn, hf, hi, hd => by
    obtain ⟨vs, rfl, h⟩ := h
    obtain ⟨g1, a1, c1⟩ := take_cells mm hm h hn hf hi hd
    exact ⟨g1, a1, vs, rfl, c1⟩
  | .box ks, m, g, x, v, B, b, hm, h, hn, hf, hi, hd => by
    obtain ⟨g1, a1, c1⟩ := take_box mm hm h hn hf hi hd
    exact ⟨g1, a1, c1⟩
  | .fn f bs, m, g, x, v, B, b, hm, h, hn, hf, hi, hd => by
    obtain ⟨vs, rfl, h⟩ := h
    obtain ⟨g1, a1, c1⟩ := take_boxes mm hm h hn hf hi hd
    exact ⟨g1, a1, vs, rfl, c1⟩
  | .wr ag ks, m, g, x, v, B, b, hm, h, hn, hf, hi, hd => by
    obtain ⟨vs, hcs, h⟩ := h
    obtain ⟨g1, a1, c1⟩ := take_cells mm hm h hn hf hi hd
    exact ⟨g1, a1, vOf_ok hcs c1⟩

theorem take_parts (mm : Mem) : ∀ {ps : List PK} {m : Mem} {g : Nat → Value} {x : PKs.den ps} {vs : List Value} {B : List Nat} {b : Nat}, MRel m g S w → partsV w S ps x vs B → B.Nodup → Free m g S B → noDup (partsNew b ps) = true →
    (∀ i ∈ partsNew b ps, isDead (m i) = true ∧ mm i = m i) →
    ∃ g', Add m g S w (updL m (partsOut b mm ps x).2) g' (partsNew b ps) B ∧ All2 (Vc (updL m (partsOut b mm ps x).2) g' S w) (partsOut b mm ps x).1 vs
  | [], m, g, x, vs, B, b, hm, h, _, _, _, _ => by
    obtain ⟨rfl, rfl⟩ := h
    exact ⟨g, Add.nil hm, trivial⟩
  | p :: ps, m, g, x, vs, B, b, hm, h, hn, hf, hi, hd => by
    obtain ⟨v, vs', B1, B2, rfl, rfl, h1, h2⟩ := h
    obtain ⟨n1, n2, n3⟩ := nodup_parts hn
    obtain ⟨i1, i2, i3⟩ := noDup_append hi
    obtain ⟨g1, a1, c1⟩ := take_parts mm (b := b + 64) hm h2 n2 hf.right i2 fun i hi => hd i (List.mem_append_right _ hi)
    obtain ⟨g2, a2, c2⟩ := take_part mm a1.mr h1 n1 (hf.left.after a1 n3) i1 (a1.fits i3 fun i hi => hd i (List.mem_append_left _ hi))
    have e : updL m (partsOut b mm (p :: ps) x).2 = updL (updL m (partsOut (b + 64) mm ps x.2).2) (partOut b mm p x.1).2 := updL_append _ _ _
    refine ⟨g2, ?_, ?_⟩
    · rw [e]
      exact a1.trans a2
    · rw [e]
      exact ⟨c2, c1.mono a2.vc⟩

/-! ### variables that are there, with what they hold now -/
theorem Add.box {m : Mem} {g : Nat → Value} (hm : MRel m g S w) {id n : Nat} {cs0 cs : List C} {blk : Nat} {vs : List Value} {E : TypeId} (ho : m id = .box n cs0) (hg : g id = .pointer (some ⟨blk, 0, none⟩))
    (hw : w.heap[blk]? = some (.cells vs.toArray E (0, 0))) (hc : All2 (Cc m g S w) cs vs) : Add m g S w (upd m id (.box n cs)) g [id] [] := by
  have ht : ∀ j, Tr (m j) (g j) (upd m id (.box n cs) j) (g j) := fun j => by
    by_cases hj : j = id
    · subst hj
      rw [upd_same, ho]
      exact .inr ⟨rfl, rfl, _, _, rfl⟩
    · rw [upd_ne _ _ hj]
      exact Tr.refl _ _
  have own_e : ∀ j, own (upd m id (.box n cs)) g j = own m g j := fun j => by
    rw [own_eq, own_eq]
    by_cases hj : j = id
    · subst hj
      rw [upd_same, ho]
      rfl
    · rw [upd_ne _ _ hj]
  refine ⟨⟨fun j => ?_, fun i j b hi hj => hm.disj i j b (own_e i ▸ hi) (own_e j ▸ hj), fun i b hi hs => hm.sdisj i b (own_e i ▸ hi) hs, hm.slt⟩, ht, fun j hj => ⟨?_, rfl⟩, fun j b hj => .inl (own_e j ▸ hj)⟩
  · by_cases hj : j = id
    · subst hj
      unfold Or
      rw [upd_same]
      exact ⟨blk, vs, E, hg, hw, hc.mono (Cc.tr ht (Hold.refl _ _) (fun _ h => h))⟩
    · exact Or.stay ht (Hold.refl _ _) (fun _ h => h) (upd_ne _ _ hj) rfl (fun _ _ => rfl) (hm.or j)
  · exact upd_ne _ _ (fun e => hj (by rw [e]; exact List.mem_singleton.2 rfl))

/-- What rows that were lent to be written hold behind a call: by the very values that were handed over. -/
def mutV (w : World) (S : Nat → Prop) : (ks : List CK) → List Value → Muts.den ks → Prop
  | [], _, _ => True
  | .own e :: ks, v :: vs, r => ArrV w S e r.1 v ∧ mutV w S ks vs r.2
  | .dat _ :: ks, _ :: vs, r => mutV w S ks vs r
  | .fn1 _ _ :: ks, _ :: vs, r => mutV w S ks vs r
  | .map :: ks, _ :: vs, r => mutV w S ks vs r
  | _ :: _, [], _ => False
/-- What variables hold behind a call: by the very values that were handed over. -/
def bxsV (w : World) (S : Nat → Prop) : (ps : List PK) → List Value → Bxs.den ps → List Nat → Prop
  | [], vs, _, B => vs = [] ∧ B = []
  | _ :: _, [], _, _ => False
  | .box ks :: ps, v :: vs, r, B => ∃ blk vs' E B1 B2, v = .pointer (some ⟨blk, 0, none⟩) ∧ w.heap[blk]? = some (.cells (List.toArray vs') E (0, 0)) ∧ B = B1 ++ B2 ∧ cellsV w S ks r.1 vs' B1 ∧ bxsV w S ps vs r.2 B2
  | .fn f bs :: ps, v :: vs, r, B => ∃ us B1 B2, v = .func (.func f) #[] (List.toArray us) ∧ B = B1 ++ B2 ∧ backsV w S bs us r.1 B1 ∧ bxsV w S ps vs r.2 B2
  | .wr ag ks :: ps, v :: vs, r, B => (∃ us, CellsOf ag v us ∧ mutV w S ks us r.1) ∧ bxsV w S ps vs r.2 B
  | .c _ :: ps, _ :: vs, r, B => bxsV w S ps vs r B
  | .agg _ :: ps, _ :: vs, r, B => bxsV w S ps vs r B
 where
  backsV (w : World) (S : Nat → Prop) : (bs : List (List CK)) → List Value → CKss.den bs → List Nat → Prop
  | [], vs, _, B => vs = [] ∧ B = []
  | _ :: _, [], _, _ => False
  | ks :: bs, v :: vs, r, B => ∃ blk vs' E B1 B2, v = .pointer (some ⟨blk, 0, none⟩) ∧ w.heap[blk]? = some (.cells (List.toArray vs') E (0, 0)) ∧ B = B1 ++ B2 ∧ cellsV w S ks r.1 vs' B1 ∧ backsV w S bs vs r.2 B2
end
end Go.Rx

/-
  ENGINE, part K: what is handed to a contract, and what it hands back, as values in a world.
  Seat-independent.
-/
import Derived.Test.YtoagkidolpcigaaRxJ
namespace Go.Rx
open Go Go.RowKit
set_option linter.unusedVariables false
set_option linter.unusedSimpArgs false

def bl : Option Nat → List Nat := Option.toList

/-! ### values, with the blocks that they own -/
def cellV (w : World) (S : Nat → Prop) : (k : CK) → k.den → Value → List Nat → Prop
  | .dat t, x, v, B => Rd w S t x v ∧ B = []
  | .own e, xs, v, B => ArrV w S e xs v ∧ B = bl (blkOf v)
  | .fn1 f ts, x, v, B => ∃ (b : Nat) (vs : List Value) (E : TypeId), v = .func (.func f) #[] #[.pointer (some ⟨b, 0, none⟩)] ∧ w.heap[b]? = some (.cells vs.toArray E (0, 0)) ∧ (vs.length = ts.len ∧ RdRow w S ts (fun k => vs[k]?) x 0) ∧ B = [b]
  | .map, ks, v, B => MapV w ks v ∧ B = bl (blkOf v)
def cellsV (w : World) (S : Nat → Prop) : (ks : List CK) → CKs.den ks → List Value → List Nat → Prop
  | [], _, vs, B => vs = [] ∧ B = []
  | k :: ks, r, vs, B => ∃ v vs' B1 B2, vs = v :: vs' ∧ B = B1 ++ B2 ∧ cellV w S k r.1 v B1 ∧ cellsV w S ks r.2 vs' B2
def boxV (w : World) (S : Nat → Prop) (ks : List CK) (x : CKs.den ks) (v : Value) (B : List Nat) : Prop :=
  ∃ (b : Nat) (vs : List Value) (E : TypeId) (B2 : List Nat), v = .pointer (some ⟨b, 0, none⟩) ∧ w.heap[b]? = some (.cells vs.toArray E (0, 0)) ∧ cellsV w S ks x vs B2 ∧ B = b :: B2
def boxesV (w : World) (S : Nat → Prop) : (bs : List (List CK)) → CKss.den bs → List Value → List Nat → Prop
  | [], _, vs, B => vs = [] ∧ B = []
  | ks :: bs, r, vs, B => ∃ v vs' B1 B2, vs = v :: vs' ∧ B = B1 ++ B2 ∧ boxV w S ks r.1 v B1 ∧ boxesV w S bs r.2 vs' B2
/-- A value's cells. -/
def CellsOf : Bool → Value → List Value → Prop
  | true, v, vs => v = .agg vs.toArray
  | false, v, vs => vs = [v]
def partV (w : World) (S : Nat → Prop) : (p : PK) → p.den → Value → List Nat → Prop
  | .c k, x, v, B => cellV w S k x v B
  | .agg ks, x, v, B => ∃ vs : List Value, v = .agg vs.toArray ∧ cellsV w S ks x vs B
  | .box ks, x, v, B => boxV w S ks x v B
  | .fn f bs, x, v, B => ∃ vs : List Value, v = .func (.func f) #[] vs.toArray ∧ boxesV w S bs x vs B
  | .wr ag ks, x, v, B => ∃ vs : List Value, CellsOf ag v vs ∧ cellsV w S ks x vs B
def partsV (w : World) (S : Nat → Prop) : (ps : List PK) → PKs.den ps → List Value → List Nat → Prop
  | [], _, vs, B => vs = [] ∧ B = []
  | p :: ps, r, vs, B => ∃ v vs' B1 B2, vs = v :: vs' ∧ B = B1 ++ B2 ∧ partV w S p r.1 v B1 ∧ partsV w S ps r.2 vs' B2

/-! ### they stay where their blocks stay -/
theorem ArrV.hold {w w' : World} {S S' : Nat → Prop} (hh : Hold S w w') (hs : ∀ b, S b → S' b) {e : Tys} {xs : List e.den} {v : Value} (h : ArrV w S e xs v) (hb : ∀ b, blkOf v = some b → w'.heap[b]? = w.heap[b]?) : ArrV w' S' e xs v := by
  rcases h with h | ⟨b, c, vs, E, rfl, hw, hl, hz, hr⟩
  · exact .inl h
  · exact .inr ⟨b, c, vs, E, rfl, (hb b rfl).trans hw, hl, hz, fun i r hi => RdRow.mono hh hs e _ _ (fun _ => rfl) _ _ (hr i r hi)⟩

section
variable {w w' : World} {S S' : Nat → Prop}
theorem cellV.hold (hh : Hold S w w') (hs : ∀ b, S b → S' b) : ∀ {k : CK} {x : k.den} {v : Value} {B : List Nat}, cellV w S k x v B → (∀ b ∈ B, w'.heap[b]? = w.heap[b]?) → cellV w' S' k x v B
  | .dat t, _, _, _, h, _ => ⟨Rd.mono hh hs _ _ _ h.1, h.2⟩
  | .own e, _, v, _, h, hb => ⟨h.1.hold hh hs fun b e => hb b (by rw [h.2, e]; simp [bl]), h.2⟩
  | .fn1 f ts, _, v, _, ⟨b, vs, E, h1, h2, h3, h4⟩, hb => ⟨b, vs, E, h1, (hb b (by rw [h4]; exact List.mem_singleton.2 rfl)).trans h2, ⟨h3.1, RdRow.mono hh hs ts _ _ (fun _ => rfl) _ _ h3.2⟩, h4⟩
  | .map, _, v, _, ⟨⟨b, es, cl, h1, h2, h3⟩, h4⟩, hb => ⟨⟨b, es, cl, h1, (hb b (by rw [h4, h1]; exact List.mem_singleton.2 rfl)).trans h2, h3⟩, h4⟩
theorem cellsV.hold (hh : Hold S w w') (hs : ∀ b, S b → S' b) : ∀ {ks : List CK} {x : CKs.den ks} {vs : List Value} {B : List Nat}, cellsV w S ks x vs B → (∀ b ∈ B, w'.heap[b]? = w.heap[b]?) → cellsV w' S' ks x vs B
  | [], _, _, _, h, _ => h
  | k :: ks, _, _, _, ⟨v, vs', B1, B2, h1, h2, h3, h4⟩, hb => ⟨v, vs', B1, B2, h1, h2, h3.hold hh hs fun b hb' => hb b (by rw [h2]; exact List.mem_append_left _ hb'), h4.hold hh hs fun b hb' => hb b (by rw [h2]; exact List.mem_append_right _ hb')⟩
theorem boxV.hold (hh : Hold S w w') (hs : ∀ b, S b → S' b) {ks : List CK} {x : CKs.den ks} {v : Value} {B : List Nat} (h : boxV w S ks x v B) (hb : ∀ b ∈ B, w'.heap[b]? = w.heap[b]?) : boxV w' S' ks x v B := by
  obtain ⟨b, vs, E, B2, h1, h2, h3, h4⟩ := h
  exact ⟨b, vs, E, B2, h1, (hb b (by rw [h4]; exact List.mem_cons_self ..)).trans h2, h3.hold hh hs fun b' hb' => hb b' (by rw [h4]; exact List.mem_cons_of_mem _ hb'), h4⟩
theorem boxesV.hold (hh : Hold S w w') (hs : ∀ b, S b → S' b) : ∀ {bs : List (List CK)} {x : CKss.den bs} {vs : List Value} {B : List Nat}, boxesV w S bs x vs B → (∀ b ∈ B, w'.heap[b]? = w.heap[b]?) → boxesV w' S' bs x vs B
  | [], _, _, _, h, _ => h
  | ks :: bs, _, _, _, ⟨v, vs', B1, B2, h1, h2, h3, h4⟩, hb => ⟨v, vs', B1, B2, h1, h2, h3.hold hh hs fun b hb' => hb b (by rw [h2]; exact List.mem_append_left _ hb'), h4.hold hh hs fun b hb' => hb b (by rw [h2]; exact List.mem_append_right _ hb')⟩
theorem partV.hold (hh : Hold S w w') (hs : ∀ b, S b → S' b) : ∀ {p : PK} {x : p.den} {v : Value} {B : List Nat}, partV w S p x v B → (∀ b ∈ B, w'.heap[b]? = w.heap[b]?) → partV w' S' p x v B
  | .c k, _, _, _, h, hb => cellV.hold hh hs h hb
  | .agg ks, _, _, _, ⟨vs, h1, h2⟩, hb => ⟨vs, h1, h2.hold hh hs hb⟩
  | .box ks, _, _, _, h, hb => boxV.hold hh hs h hb
  | .fn f bs, _, _, _, ⟨vs, h1, h2⟩, hb => ⟨vs, h1, h2.hold hh hs hb⟩
  | .wr ag ks, _, _, _, ⟨vs, h1, h2⟩, hb => ⟨vs, h1, h2.hold hh hs hb⟩
theorem partsV.hold (hh : Hold S w w') (hs : ∀ b, S b → S' b) : ∀ {ps : List PK} {x : PKs.den ps} {vs : List Value} {B : List Nat}, partsV w S ps x vs B → (∀ b ∈ B, w'.heap[b]? = w.heap[b]?) → partsV w' S' ps x vs B
  | [], _, _, _, h, _ => h
  | p :: ps, _, _, _, ⟨v, vs', B1, B2, h1, h2, h3, h4⟩, hb => ⟨v, vs', B1, B2, h1, h2, h3.hold hh hs fun b hb' => hb b (by rw [h2]; exact List.mem_append_left _ hb'), h4.hold hh hs fun b hb' => hb b (by rw [h2]; exact List.mem_append_right _ hb')⟩
end

/-! ### data without slices reads anywhere -/
mutual
theorem Rd.flat {w : World} {S S' : Nat → Prop} : ∀ {t : Ty} {x : t.den} {v : Value}, flatTy t = true → Rd w S t x v → Rd w S' t x v
  | .int _, _, _, _, h => h
  | .bool, _, _, _, h => h
  | .str, _, _, _, h => h
  | .sl _, _, _, hf, _ => by cases hf
end
theorem RdRow.flat {w : World} {S S' : Nat → Prop} : ∀ {ts : Tys} {l : Nat → Option Value} {r : ts.den} {k : Nat}, flatTys ts = true → RdRow w S ts l r k → RdRow w S' ts l r k
  | .nil, _, _, _, _, _ => trivial
  | .cons t ts, l, r, k, hf, h => by
    obtain ⟨h1, h2⟩ := and_true hf
    obtain ⟨⟨v, hv, hx⟩, hr⟩ := h
    exact ⟨⟨v, hv, Rd.flat h1 hx⟩, RdRow.flat h2 hr⟩
theorem ArrV.flat {w : World} {S S' : Nat → Prop} {e : Tys} (hf : flatTys e = true) {xs : List e.den} {v : Value} (h : ArrV w S e xs v) : ArrV w S' e xs v := by
  rcases h with h | ⟨b, c, vs, E, h1, hw, hl, hz, hr⟩
  · exact .inl h
  · exact .inr ⟨b, c, vs, E, h1, hw, hl, hz, fun i r hi => (hr i r hi).flat hf⟩
section
variable {w : World} {S S' : Nat → Prop}
theorem cellV.flat : ∀ {k : CK} {x : k.den} {v : Value} {B : List Nat}, flatCK k = true → cellV w S k x v B → cellV w S' k x v B
  | .dat t, _, _, _, hf, h => ⟨Rd.flat hf h.1, h.2⟩
  | .own e, _, _, _, hf, h => ⟨h.1.flat hf, h.2⟩
  | .fn1 f ts, _, _, _, hf, ⟨b, vs, E, h1, h2, h3, h4⟩ => ⟨b, vs, E, h1, h2, ⟨h3.1, RdRow.flat hf h3.2⟩, h4⟩
  | .map, _, _, _, hf, h => h
theorem cellsV.flat : ∀ {ks : List CK} {x : CKs.den ks} {vs : List Value} {B : List Nat}, ks.all flatCK = true → cellsV w S ks x vs B → cellsV w S' ks x vs B
  | [], _, _, _, _, h => h
  | k :: ks, _, _, _, hf, ⟨v, vs', B1, B2, h1, h2, h3, h4⟩ => by
    simp only [List.all_cons, Bool.and_eq_true] at hf
    exact ⟨v, vs', B1, B2, h1, h2, h3.flat hf.1, h4.flat hf.2⟩
theorem boxV.flat {ks : List CK} {x : CKs.den ks} {v : Value} {B : List Nat} (hf : ks.all flatCK = true) (h : boxV w S ks x v B) : boxV w S' ks x v B := by
  obtain ⟨b, vs, E, B2, h1, h2, h3, h4⟩ := h
  exact ⟨b, vs, E, B2, h1, h2, h3.flat hf, h4⟩
theorem boxesV.flat : ∀ {bs : List (List CK)} {x : CKss.den bs} {vs : List Value} {B : List Nat}, (bs.all fun ks => ks.all flatCK) = true → boxesV w S bs x vs B → boxesV w S' bs x vs B
  | [], _, _, _, _, h => h
  | ks :: bs, _, _, _, hf, ⟨v, vs', B1, B2, h1, h2, h3, h4⟩ => by
    rw [List.all_cons, Bool.and_eq_true] at hf
    exact ⟨v, vs', B1, B2, h1, h2, h3.flat hf.1, h4.flat hf.2⟩
theorem partV.flat : ∀ {p : PK} {x : p.den} {v : Value} {B : List Nat}, flatPK p = true → partV w S p x v B → partV w S' p x v B
  | .c k, _, _, _, hf, h => cellV.flat hf h
  | .agg ks, _, _, _, hf, ⟨vs, h1, h2⟩ => ⟨vs, h1, h2.flat hf⟩
  | .box ks, _, _, _, hf, h => boxV.flat hf h
  | .fn f bs, _, _, _, hf, ⟨vs, h1, h2⟩ => ⟨vs, h1, h2.flat hf⟩
  | .wr ag ks, _, _, _, hf, ⟨vs, h1, h2⟩ => ⟨vs, h1, h2.flat hf⟩
theorem partsV.flat : ∀ {ps : List PK} {x : PKs.den ps} {vs : List Value} {B : List Nat}, ps.all flatPK = true → partsV w S ps x vs B → partsV w S' ps x vs B
  | [], _, _, _, _, h => h
  | p :: ps, _, _, _, hf, ⟨v, vs', B1, B2, h1, h2, h3, h4⟩ => by
    rw [List.all_cons, Bool.and_eq_true] at hf
    exact ⟨v, vs', B1, B2, h1, h2, h3.flat hf.1, h4.flat hf.2⟩
end

/-! ### LEND: arguments out of abstract values -/
section
variable {m : Mem} {g : Nat → Value} {S S' : Nat → Prop} {w : World}

def isArr : Ob → Bool
  | .arr _ _ _ => true
  | _ => false
theorem toD_arr {t : Ty} {id ver b : Nat} {x : t.den} (h : toD m t (.ref id ver) = some x) (hb : own m g id = some b) : isArr (m id) = true := by
  unfold own at hb
  cases t with
  | sl e =>
    simp only [toD, refRows] at h
    cases hm : m id with
    | box n cs => rw [hm] at h; cases h
    | arr n e xs => rfl
    | dead n => rw [hm] at hb; cases hb
    | frz n e xs => rw [hm] at hb; cases hb
    | map n ks => rw [hm] at h; cases h
  | _ => simp [toD] at h

def blks (m : Mem) (g : Nat → Value) (l : List (Nat × Bool)) : List Nat := l.filterMap fun p => own m g p.1
theorem blks_append (l l' : List (Nat × Bool)) : blks m g (l ++ l') = blks m g l ++ blks m g l' := List.filterMap_append ..

theorem toD_dead {t : Ty} {c : C} {x : t.den} (h : toD (fun _ => .dead 0) t c = some x) : toD m t c = some x ∧ refIds [c] = [] := by
  cases t <;> cases c <;> first | exact ⟨h, rfl⟩ | cases h
theorem toRow_len : ∀ {ts : Tys} {cs : List C} {x : ts.den}, toRow m ts cs = some x → cs.length = ts.len
  | .nil, [], _, _ => rfl
  | .nil, _ :: _, _, h => by simp [toRow] at h
  | .cons _ _, [], _, h => by simp [toRow] at h
  | .cons t ts, c :: cs, x, h => by
    simp only [toRow] at h
    split at h
    · rename_i a b ha hb
      show cs.length + 1 = ts.len + 1
      rw [toRow_len hb]
    · cases h
theorem row_dead (hm : MRel m g S w) (hs : ∀ b, S b → S' b) {ts : Tys} {cs : List C} {x : ts.den} {vs : List Value} (h : toRow (fun _ => .dead 0) ts cs = some x) (hv : All2 (Cc m g S w) cs vs) : vs.length = ts.len ∧ RdRow w S' ts (fun k => vs[k]?) x 0 := by
  refine ⟨by rw [← hv.length]; exact toRow_len h, toRow_ok (us := vs) h (hv.mono fun c u hc t y hy => ?_) fun i u hi => by simpa using hi⟩
  obtain ⟨h1, h2⟩ := toD_dead (m := m) hy
  exact toD_ok hm hs h1 hc fun id hid => by rw [h2] at hid; cases hid
theorem cellIn_ok (hm : MRel m g S w) (hs : ∀ b, S b → S' b) : ∀ {k : CK} {c : C} {x : k.den} {v : Value}, cellIn m k c = some x → Cc m g S w c v → (∀ id ∈ (cellIds k c).lent, ∀ b, isArr (m id) = true → own m g id = some b → S' b) → cellV w S' k x v (blks m g (cellIds k c).all)
  | .dat t, c, x, v, h, hv, hl => by
    refine ⟨toD_ok hm hs h hv fun id hid b hb => hl id ?_ b ?_ hb, ?_⟩
    · cases c <;> simp [refIds] at hid
      · subst hid
        exact List.mem_singleton.2 rfl
      · subst hid
        exact List.mem_singleton.2 rfl
    · cases c <;> simp [refIds] at hid
      · subst hid
        exact toD_arr h hb
      · subst hid
        cases t with
        | sl e =>
          have h : (match refRows m id _ e with
            | some xs => some ((xs.take _).drop _)
            | none => none) = some x := h
          split at h
          · rename_i xs hx
            exact toD_arr (t := .sl e) hx hb
          · cases h
        | _ => cases h
    · cases c <;> rfl
  | .own e, c, x, v, h, hv, hl => by
    cases c <;> try (cases h; done)
    · simp only [cellIn, Option.some.injEq] at h
      subst h
      have hv : v = .slice none 0 0 := hv
      subst hv
      exact ⟨.inl ⟨rfl, rfl⟩, rfl⟩
    · rename_i id ver
      simp only [cellIn] at h
      split at h
      · rename_i n e' xs ho
        obtain ⟨hn, h1⟩ := cond_some h
        obtain rfl := beq_true hn
        obtain ⟨rfl, rfl⟩ := castRows_ok h1
        have hvg := ref_arr (S := S) (w := w) ho hv
        have ha : ArrV w S e' x v := by rw [hvg]; exact arr_live hm ho
        refine ⟨ha.hold (Hold.refl S w) hs fun _ _ => rfl, ?_⟩
        show blks m g [(id, false)] = _
        rw [hvg, ← own_arr (g := g) ho]
        unfold blks bl
        cases hq : own m g id <;> simp [hq]
      · cases h
  | .fn1 f ts, c, x, v, h, hv, hl => by
    cases c <;> try (cases h; done)
    rename_i f' caps
    match caps, h, hv, hl with
    | [], h, _, _ => simp [cellIn] at h
    | _ :: _ :: _, h, _, _ => simp [cellIn] at h
    | [(id, ver, o + 1)], h, _, _ => simp [cellIn] at h
    | [(id, ver, 0)], h, hv, hl =>
      have h : (match m id with | .box n cs => cond (Bool.and (Nat.beq f f') (Nat.beq ver n)) (toRow (fun _ => .dead 0) ts cs) none | _ => none) = some x := h
      split at h
      · rename_i n cs ho
        obtain ⟨hb, h1⟩ := cond_some h
        obtain ⟨hb1, hb2⟩ := and_true hb
        obtain rfl := beq_true hb1
        obtain rfl := beq_true hb2
        obtain ⟨us, rfl, hus⟩ := hv
        match us, hus with
        | [u], hus =>
          have hp : PtrOk m g id ver 0 u := hus.1.1
          unfold PtrOk at hp
          rw [ho] at hp
          rcases hp with hp | ⟨_, b, hg, rfl⟩
          · omega
          · obtain ⟨b', vs, E, hg', hw, ha⟩ := box_live hm ho
            rw [hg] at hg'
            cases hg'
            refine ⟨b, vs, E, rfl, hw, row_dead hm hs h1 ha, ?_⟩
            show blks m g [(id, false)] = _
            have : own m g id = some b := by rw [own_eq, ho, hg]; rfl
            simp [blks, this]
      · cases h
  | .map, c, x, v, h, hv, hl => by
    cases c <;> try (cases h; done)
    rename_i id ver
    have h : (match m id with | .map n ks => cond (Nat.beq ver n) (some ks) none | _ => none) = some x := h
    split at h
    · rename_i n ks ho
      obtain ⟨hn, h1⟩ := cond_some h
      obtain rfl := beq_true hn
      cases h1
      have hvg := mref_map (S := S) (w := w) ho hv
      refine ⟨by rw [hvg]; exact map_live hm ho, ?_⟩
      show blks m g [(id, false)] = _
      rw [hvg, ← own_map (g := g) ho]
      unfold blks bl
      cases hq : own m g id <;> simp [hq]
    · cases h
theorem cellsIn_ok (hm : MRel m g S w) (hs : ∀ b, S b → S' b) : ∀ {ks : List CK} {cs : List C} {x : CKs.den ks} {vs : List Value}, cellsIn m ks cs = some x → All2 (Cc m g S w) cs vs → (∀ id ∈ (cellsIds ks cs).lent, ∀ b, isArr (m id) = true → own m g id = some b → S' b) → cellsV w S' ks x vs (blks m g (cellsIds ks cs).all)
  | [], [], x, [], _, _, _ => ⟨rfl, rfl⟩
  | [], [], x, _ :: _, _, hv, _ => hv.elim
  | [], _ :: _, x, vs, h, _, _ => by simp [cellsIn] at h
  | _ :: _, [], x, vs, h, _, _ => by simp [cellsIn] at h
  | k :: ks, c :: cs, x, [], _, hv, _ => hv.elim
  | k :: ks, c :: cs, x, v :: vs, h, hv, hl => by
    simp only [cellsIn] at h
    split at h
    · rename_i a b ha hb
      cases h
      exact ⟨v, vs, _, _, rfl, blks_append _ _, cellIn_ok hm hs ha hv.1 fun id hid => hl id (List.mem_append_left _ hid), cellsIn_ok hm hs hb hv.2 fun id hid => hl id (List.mem_append_right _ hid)⟩
    · cases h
theorem boxIn_ok (hm : MRel m g S w) (hs : ∀ b, S b → S' b) {ks : List CK} {id ver : Nat} {x : CKs.den ks} {v : Value} (h : boxIn m ks id ver = some x) (hv : PtrOk m g id ver 0 v) (hl : ∀ i ∈ (boxIds m ks id).lent, ∀ b, isArr (m i) = true → own m g i = some b → S' b) :
    boxV w S' ks x v (blks m g (boxIds m ks id).all) := by
  unfold boxIn at h
  split at h
  · rename_i n cs ho
    obtain ⟨hn, h1⟩ := cond_some h
    obtain rfl := beq_true hn
    unfold PtrOk at hv
    rw [ho] at hv
    rcases hv with hv | ⟨_, b, hg, rfl⟩
    · omega
    · obtain ⟨b', vs, E, hg', hw, ha⟩ := box_live hm ho
      rw [hg] at hg'
      cases hg'
      have e : boxIds m ks id = Ids.add ⟨[], [(id, true)]⟩ (cellsIds ks cs) := by simp [boxIds, ho]
      rw [e] at hl ⊢
      refine ⟨b, vs, E, _, rfl, hw, cellsIn_ok hm hs h1 ha fun i hi => hl i (by simpa [Ids.add] using hi), ?_⟩
      show blks m g ((id, true) :: (cellsIds ks cs).all) = _
      have : own m g id = some b := by rw [own_eq, ho, hg]; rfl
      simp [blks, this]
  · cases h
theorem boxesIn_ok (hm : MRel m g S w) (hs : ∀ b, S b → S' b) : ∀ {bs : List (List CK)} {caps : List (Nat × Nat × Nat)} {x : CKss.den bs} {vs : List Value}, boxesIn m bs caps = some x → All2 (fun p v => PtrOk m g p.1 p.2.1 p.2.2 v ∧ v.oneCell' = true) caps vs → (∀ i ∈ (boxesIds m bs caps).lent, ∀ b, isArr (m i) = true → own m g i = some b → S' b) →
    boxesV w S' bs x vs (blks m g (boxesIds m bs caps).all)
  | [], [], x, [], _, _, _ => ⟨rfl, rfl⟩
  | [], [], x, _ :: _, _, hv, _ => hv.elim
  | [], _ :: _, x, vs, h, _, _ => by simp [boxesIn] at h
  | _ :: _, [], x, vs, h, _, _ => by simp [boxesIn] at h
  | ks :: bs, c :: cs, x, [], _, hv, _ => hv.elim
  | ks :: bs, (id, ver, off) :: cs, x, v :: vs, h, hv, hl => by
    cases off with
    | succ n => simp [boxesIn] at h
    | zero =>
      simp only [boxesIn] at h
      split at h
      · rename_i a b ha hb
        cases h
        exact ⟨v, vs, _, _, rfl, blks_append _ _, boxIn_ok hm hs ha hv.1.1 fun i hi => hl i (List.mem_append_left _ hi), boxesIn_ok hm hs hb hv.2 fun i hi => hl i (List.mem_append_right _ hi)⟩
      · cases h
theorem cellIdsM_eq (k : CK) (c : C) : (cellIdsM k c).lent = (cellIds k c).lent ∧ (cellIdsM k c).all.map (fun p => p.1) = (cellIds k c).all.map (fun p => p.1) := by
  unfold cellIdsM cellIds
  split <;> exact ⟨rfl, rfl⟩
theorem cellsIdsM_eq : ∀ (ks : List CK) (cs : List C), (cellsIdsM ks cs).lent = (cellsIds ks cs).lent ∧ (cellsIdsM ks cs).all.map (fun p => p.1) = (cellsIds ks cs).all.map (fun p => p.1)
  | [], _ => ⟨rfl, rfl⟩
  | _ :: _, [] => ⟨rfl, rfl⟩
  | k :: ks, c :: cs => by
    obtain ⟨h1, h2⟩ := cellIdsM_eq k c
    obtain ⟨h3, h4⟩ := cellsIdsM_eq ks cs
    constructor
    · show (cellIdsM k c).lent ++ (cellsIdsM ks cs).lent = (cellIds k c).lent ++ (cellsIds ks cs).lent
      rw [h1, h3]
    · show ((cellIdsM k c).all ++ (cellsIdsM ks cs).all).map _ = ((cellIds k c).all ++ (cellsIds ks cs).all).map _
      rw [List.map_append, List.map_append, h2, h4]
theorem blks_map (l : List (Nat × Bool)) : blks m g l = (l.map fun p => p.1).filterMap (own m g) := by
  unfold blks
  rw [List.filterMap_map]
  rfl
theorem cellsIn_okM (hm : MRel m g S w) (hs : ∀ b, S b → S' b) {ks : List CK} {cs : List C} {x : CKs.den ks} {vs : List Value} (h : cellsIn m ks cs = some x) (hv : All2 (Cc m g S w) cs vs) (hl : ∀ id ∈ (cellsIdsM ks cs).lent, ∀ b, isArr (m id) = true → own m g id = some b → S' b) :
    cellsV w S' ks x vs (blks m g (cellsIdsM ks cs).all) := by
  obtain ⟨h1, h2⟩ := cellsIdsM_eq ks cs
  rw [blks_map, h2, ← blks_map]
  exact cellsIn_ok hm hs h hv fun id hid => hl id (by rw [h1]; exact hid)
theorem argIn_ok (hm : MRel m g S w) (hs : ∀ b, S b → S' b) {p : PK} {a : A} {x : p.den} {v : Value} (h : argIn m p a = some x) (hv : Ac m g S w a v) (hl : ∀ id ∈ (argIds m p a).lent, ∀ b, isArr (m id) = true → own m g id = some b → S' b) : partV w S' p x v (blks m g (argIds m p a).all) := by
  unfold argIn at h
  split at h
  · exact cellIn_ok hm hs h hv hl
  · obtain ⟨vs, rfl, hv⟩ := hv
    exact ⟨vs, rfl, cellsIn_ok hm hs h hv hl⟩
  · exact boxIn_ok hm hs h hv.1 hl
  · obtain ⟨hf, h1⟩ := cond_some h
    obtain rfl := beq_true hf
    obtain ⟨vs, rfl, hv⟩ := hv
    exact ⟨vs, rfl, boxesIn_ok hm hs h1 hv hl⟩
  · obtain ⟨vs, rfl, hv⟩ := hv
    exact ⟨vs, rfl, cellsIn_okM hm hs h hv hl⟩
  · exact ⟨[v], rfl, cellsIn_okM hm hs h ⟨hv, trivial⟩ hl⟩
  · cases h
theorem argsIn_ok (hm : MRel m g S w) (hs : ∀ b, S b → S' b) : ∀ {ps : List PK} {xs : List A} {x : PKs.den ps} {vs : List Value}, argsIn m ps xs = some x → All2 (Ac m g S w) xs vs → (∀ id ∈ (argsIds m ps xs).lent, ∀ b, isArr (m id) = true → own m g id = some b → S' b) →
    partsV w S' ps x vs (blks m g (argsIds m ps xs).all)
  | [], [], x, [], _, _, _ => ⟨rfl, rfl⟩
  | [], [], x, _ :: _, _, hv, _ => hv.elim
  | [], _ :: _, x, vs, h, _, _ => by simp [argsIn] at h
  | _ :: _, [], x, vs, h, _, _ => by simp [argsIn] at h
  | k :: ks, c :: cs, x, [], _, hv, _ => hv.elim
  | k :: ks, c :: cs, x, v :: vs, h, hv, hl => by
    simp only [argsIn] at h
    split at h
    · rename_i a b ha hb
      cases h
      exact ⟨v, vs, _, _, rfl, blks_append _ _, argIn_ok hm hs ha hv.1 fun id hid => hl id (List.mem_append_left _ hid), argsIn_ok hm hs hb hv.2 fun id hid => hl id (List.mem_append_right _ hid)⟩
    · cases h

/-- The blocks of different objects are different. -/
theorem blks_nodup (hm : MRel m g S w) : ∀ {l : List (Nat × Bool)}, noDup (l.map fun p => p.1) = true → (blks m g l).Nodup
  | [], _ => List.nodup_nil
  | p :: l, h => by
    obtain ⟨hn, hd⟩ := noDup_cons h
    have ih := blks_nodup hm hd
    unfold blks at ih ⊢
    rw [List.filterMap_cons]
    cases ho : own m g p.1 with
    | none => exact ih
    | some b =>
      refine List.nodup_cons.2 ⟨fun hb => ?_, ih⟩
      obtain ⟨q, hq, hb⟩ := List.mem_filterMap.1 hb
      exact hn (List.mem_map.2 ⟨q, hq, hm.disj _ _ _ hb ho⟩)
theorem blks_mem {l : List (Nat × Bool)} {b : Nat} (h : b ∈ blks m g l) : ∃ id ∈ l.map (fun p => p.1), own m g id = some b := by
  obtain ⟨q, hq, hb⟩ := List.mem_filterMap.1 h
  exact ⟨q.1, List.mem_map.2 ⟨q, hq, rfl⟩, hb⟩
end

/-! ### TAKE: new objects out of values -/
/-- Nothing of the world has turned; new objects own blocks that nobody owned. -/
structure Add (m : Mem) (g : Nat → Value) (S : Nat → Prop) (w : World) (m' : Mem) (g' : Nat → Value) (ids : List Nat) (B : List Nat) : Prop where
  mr : MRel m' g' S w
  tr : ∀ id, Tr (m id) (g id) (m' id) (g' id)
  same : ∀ id, id ∉ ids → m' id = m id ∧ g' id = g id
  own' : ∀ id b, own m' g' id = some b → own m g id = some b ∨ b ∈ B

section
variable {m : Mem} {g : Nat → Value} {S : Nat → Prop} {w : World}

theorem Add.nil (hm : MRel m g S w) : Add m g S w m g [] [] := ⟨hm, fun _ => Tr.refl _ _, fun _ _ => ⟨rfl, rfl⟩, fun _ _ h => .inl h⟩
theorem Add.trans {m' m'' : Mem} {g' g'' : Nat → Value} {i j : List Nat} {B B' : List Nat} (h : Add m g S w m' g' i B) (k : Add m' g' S w m'' g'' j B') : Add m g S w m'' g'' (j ++ i) (B' ++ B) where
  mr := k.mr
  tr id := (h.tr id).trans (k.tr id)
  same id hn := by
    have h1 := h.same id fun e => hn (List.mem_append_right _ e)
    have h2 := k.same id fun e => hn (List.mem_append_left _ e)
    exact ⟨h2.1.trans h1.1, h2.2.trans h1.2⟩
  own' id b hb := by
    rcases k.own' id b hb with e | e
    · rcases h.own' id b e with e | e
      · exact .inl e
      · exact .inr (List.mem_append_right _ e)
    · exact .inr (List.mem_append_left _ e)

theorem Add.cc {m' : Mem} {g' : Nat → Value} {i : List Nat} {B : List Nat} (h : Add m g S w m' g' i B) (x : C) (v : Value) (hx : Cc m g S w x v) : Cc m' g' S w x v := Cc.tr h.tr (Hold.refl _ _) (fun _ h => h) x v hx
theorem Add.vc {m' : Mem} {g' : Nat → Value} {i : List Nat} {B : List Nat} (h : Add m g S w m' g' i B) (x : V) (v : Value) (hx : Vc m g S w x v) : Vc m' g' S w x v := Vc.tr h.tr (Hold.refl _ _) (fun _ h => h) x v hx

/-- One object more. -/
theorem Add.one (hm : MRel m g S w) (id : Nat) (ob' : Ob) (v' : Value) (hd : isDead (m id) = true) (hv : ob'.ver = (m id).ver) (hb : ∀ b, ownOf ob' v' = some b → ¬ S b ∧ ∀ j, own m g j ≠ some b)
    (hor : (∀ x v, Cc m g S w x v → Cc (upd m id ob') (upd g id v') S w x v) → Or (upd m id ob') (upd g id v') S w id) : Add m g S w (upd m id ob') (upd g id v') [id] (bl (ownOf ob' v')) := by
  obtain ⟨n, hn⟩ := dead_ver hd
  have ht : ∀ j, Tr (m j) (g j) (upd m id ob' j) (upd g id v' j) := fun j => by
    by_cases hj : j = id
    · subst hj
      rw [upd_same, upd_same, hn]
      rw [hn] at hv
      exact .inr ⟨hv.symm, trivial⟩
    · rw [upd_ne _ _ hj, upd_ne _ _ hj]
      exact Tr.refl _ _
  have own_ne : ∀ j, j ≠ id → own (upd m id ob') (upd g id v') j = own m g j := fun j hj => by
    rw [own_eq, own_eq, upd_ne _ _ hj, upd_ne _ _ hj]
  have own_id : own (upd m id ob') (upd g id v') id = ownOf ob' v' := by rw [own_eq, upd_same, upd_same]
  refine ⟨⟨fun j => ?_, fun i j b hi hj => ?_, fun i b hi hs => ?_, hm.slt⟩, ht, fun j hj => ?_, fun j b hj => ?_⟩
  · by_cases hj : j = id
    · subst hj
      exact hor fun x v hx => Cc.tr ht (Hold.refl _ _) (fun _ h => h) x v hx
    · exact Or.stay ht (Hold.refl _ _) (fun _ h => h) (upd_ne _ _ hj) (upd_ne _ _ hj) (fun _ _ => rfl) (hm.or j)
  · by_cases hi' : i = id
    · subst hi'
      by_cases hj' : j = i
      · exact hj'.symm
      · rw [own_id] at hi
        rw [own_ne j hj'] at hj
        exact absurd hj ((hb b hi).2 j)
    · rw [own_ne i hi'] at hi
      by_cases hj' : j = id
      · subst hj'
        rw [own_id] at hj
        exact absurd hi ((hb b hj).2 i)
      · rw [own_ne j hj'] at hj
        exact hm.disj i j b hi hj
  · by_cases hi' : i = id
    · subst hi'
      rw [own_id] at hi
      exact (hb b hi).1 hs
    · rw [own_ne i hi'] at hi
      exact hm.sdisj i b hi hs
  · have hj : j ≠ id := fun e => hj (by rw [e]; exact List.mem_singleton.2 rfl)
    exact ⟨upd_ne _ _ hj, upd_ne _ _ hj⟩
  · by_cases hj' : j = id
    · subst hj'
      rw [own_id] at hj
      exact .inr (by rw [hj]; exact List.mem_singleton.2 rfl)
    · rw [own_ne j hj'] at hj
      exact .inl hj

/-- Blocks that are free for new owners. -/
def Free (m : Mem) (g : Nat → Value) (S : Nat → Prop) (B : List Nat) : Prop := ∀ b ∈ B, ¬ S b ∧ ∀ j, own m g j ≠ some b

theorem Free.left {B B' : List Nat} (h : Free m g S (B ++ B')) : Free m g S B := fun b hb => h b (List.mem_append_left _ hb)
theorem Free.right {B B' : List Nat} (h : Free m g S (B ++ B')) : Free m g S B' := fun b hb => h b (List.mem_append_right _ hb)
theorem Free.after {m' : Mem} {g' : Nat → Value} {i : List Nat} {B B' : List Nat} (h : Free m g S B) (k : Add m g S w m' g' i B') (hd : ∀ b ∈ B, b ∉ B') : Free m' g' S B := fun b hb => ⟨(h b hb).1, fun j hj => by
  rcases k.own' j b hj with e | e
  · exact (h b hb).2 j e
  · exact hd b hb e⟩

theorem nodup_parts {B B' : List Nat} (h : (B ++ B').Nodup) : B.Nodup ∧ B'.Nodup ∧ ∀ b ∈ B, b ∉ B' := by
  rw [List.nodup_append] at h
  exact ⟨h.1, h.2.1, fun b hb hb' => h.2.2 b hb b hb' rfl⟩

theorem noDup_append {a b : List Nat} (h : noDup (a ++ b) = true) : noDup a = true ∧ noDup b = true ∧ ∀ x ∈ a, x ∉ b := by
  induction a with
  | nil => exact ⟨rfl, h, fun x hx => by cases hx⟩
  | cons x a ih =>
    obtain ⟨h1, h2⟩ := noDup_cons (show noDup (x :: (a ++ b)) = true from h)
    obtain ⟨i1, i2, i3⟩ := ih h2
    refine ⟨?_, i2, fun y hy hb => ?_⟩
    · show Bool.and (!inL x a) (noDup a) = true
      rw [i1]
      cases hi : inL x a with
      | false => rfl
      | true => exact absurd (List.mem_append_left _ (inL_iff.1 hi)) h1
    · rcases List.mem_cons.1 hy with rfl | hy
      · exact h1 (List.mem_append_right _ hb)
      · exact i3 y hy hb

theorem updL_append (m : Mem) : ∀ (a b : List (Nat × Ob)), updL m (a ++ b) = updL (updL m b) a
  | [], _ => rfl
  | p :: a, b => by rw [List.cons_append, updL, updL_append m a b, updL]

theorem rowCs_at {m : Mem} {g : Nat → Value} {S : Nat → Prop} {w : World} : ∀ {ts : Tys} {x : ts.den} {vs : List Value} {k : Nat}, RdRow w S ts (fun j => vs[j]?) x k → vs.length = k + ts.len → All2 (Cc m g S w) (rowCs ts x) (vs.drop k)
  | .nil, x, vs, k, _, hl => by
    rw [List.drop_eq_nil_of_le (by simp [Tys.len] at hl; omega)]
    trivial
  | .cons t ts, x, vs, k, h, hl => by
    obtain ⟨⟨v, hv, hrd⟩, hr⟩ := h
    have hk : k < vs.length := by simp [Tys.len] at hl; omega
    have hv' : vs[k] = v := by
      have hv : vs[k]? = some v := hv
      rw [List.getElem?_eq_getElem hk] at hv
      simpa using hv
    rw [List.drop_eq_getElem_cons hk, hv']
    exact ⟨hrd, rowCs_at hr (by simp [Tys.len] at hl; omega)⟩
theorem rowCs_ok {m : Mem} {g : Nat → Value} {S : Nat → Prop} {w : World} {ts : Tys} {x : ts.den} {vs : List Value} (h : RdRow w S ts (fun j => vs[j]?) x 0) (hl : vs.length = ts.len) : All2 (Cc m g S w) (rowCs ts x) vs := by
  have := rowCs_at (m := m) (g := g) (k := 0) h (by omega)
  simpa using this

/-- What the numbers of a part are good for. -/
theorem take_cell (mm : Mem) (hm : MRel m g S w) : ∀ {k : CK} {x : k.den} {v : Value} {B : List Nat} {b : Nat}, cellV w S k x v B → Free m g S B → (∀ i ∈ cellNew b k, isDead (m i) = true ∧ mm i = m i) →
    ∃ g', Add m g S w (updL m (cellOut b mm k x).2) g' (cellNew b k) B ∧ Cc (updL m (cellOut b mm k x).2) g' S w (cellOut b mm k x).1 v
  | .dat t, x, v, B, b, h, _, _ => by
    obtain ⟨h1, rfl⟩ := h
    exact ⟨g, Add.nil hm, h1⟩
  | .own e, xs, v, B, b, h, hf, hd => by
    obtain ⟨h1, rfl⟩ := h
    obtain ⟨hd1, hmm⟩ := hd b (List.mem_singleton.2 rfl)
    have key := Add.one hm b (.arr (mm b).ver e xs) v hd1 (by rw [hmm]; rfl) (fun c hc => hf c (by
      have : blkOf v = some c := hc
      rw [this]
      exact List.mem_singleton.2 rfl)) (fun _ => h1.or)
    exact ⟨_, key, ref_new (m := m) (g := g) (S := S) (w := w) (id := b) (n := (mm b).ver) (xs := xs) h1.one⟩
  | .fn1 f ts, x, v, B, b, h, hf, hd => by
    obtain ⟨blk, vs, E, rfl, hw, ⟨hlen, hr⟩, rfl⟩ := h
    obtain ⟨hd1, hmm⟩ := hd b (List.mem_singleton.2 rfl)
    have key := Add.one hm b (.box (mm b).ver (rowCs ts x)) (.pointer (some ⟨blk, 0, none⟩)) hd1 (by rw [hmm]; rfl) (fun c hc => hf c (by
      have : some blk = some c := hc
      cases this
      exact List.mem_singleton.2 rfl)) (fun _ => by
      unfold Or
      rw [upd_same, upd_same]
      exact ⟨blk, vs, E, rfl, hw, rowCs_ok hr hlen⟩)
    refine ⟨_, key, [.pointer (some ⟨blk, 0, none⟩)], rfl, ⟨?_, rfl⟩, trivial⟩
    show PtrOk (upd m b _) _ b _ 0 _
    unfold PtrOk
    rw [upd_same]
    exact .inr ⟨rfl, blk, by rw [upd_same], rfl⟩
  | .map, ks, v, B, b, h, hf, hd => by
    obtain ⟨h1, rfl⟩ := h
    obtain ⟨hd1, hmm⟩ := hd b (List.mem_singleton.2 rfl)
    have key := Add.one hm b (.map (mm b).ver ks) v hd1 (by rw [hmm]; rfl) (fun c hc => hf c (by
      have : blkOf v = some c := hc
      rw [this]
      exact List.mem_singleton.2 rfl)) (fun _ => by
      unfold Or
      rw [upd_same, upd_same]
      exact h1)
    refine ⟨_, key, ?_, ?_⟩
    · show MrefOk (upd m b _) _ b _ v
      unfold MrefOk
      rw [upd_same]
      exact .inr ⟨rfl, by rw [upd_same]⟩
    · obtain ⟨_, _, _, rfl, _⟩ := h1
      rfl

theorem Add.fits {m' : Mem} {g' : Nat → Value} {ids : List Nat} {B : List Nat} (h : Add m g S w m' g' ids B) {mm : Mem} {l : List Nat} (hl : ∀ i ∈ l, i ∉ ids) (hd : ∀ i ∈ l, isDead (m i) = true ∧ mm i = m i) : ∀ i ∈ l, isDead (m' i) = true ∧ mm i = m' i := fun i hi => by
  rw [(h.same i (hl i hi)).1]
  exact hd i hi

theorem take_cells (mm : Mem) : ∀ {ks : List CK} {m : Mem} {g : Nat → Value} {x : CKs.den ks} {vs : List Value} {B : List Nat} {b : Nat}, MRel m g S w → cellsV w S ks x vs B → B.Nodup → Free m g S B → noDup (cellsNew b ks) = true → (∀ i ∈ cellsNew b ks, isDead (m i) = true ∧ mm i = m i) →
    ∃ g', Add m g S w (updL m (cellsOut b mm ks x).2) g' (cellsNew b ks) B ∧ All2 (Cc (updL m (cellsOut b mm ks x).2) g' S w) (cellsOut b mm ks x).1 vs
  | [], m, g, x, vs, B, b, hm, h, _, _, _, _ => by
    obtain ⟨rfl, rfl⟩ := h
    exact ⟨g, Add.nil hm, trivial⟩
  | k :: ks, m, g, x, vs, B, b, hm, h, hn, hf, hi, hd => by
    obtain ⟨v, vs', B1, B2, rfl, rfl, h1, h2⟩ := h
    obtain ⟨n1, n2, n3⟩ := nodup_parts hn
    obtain ⟨i1, i2, i3⟩ := noDup_append hi
    obtain ⟨g1, a1, c1⟩ := take_cells mm (b := b + 1) hm h2 n2 hf.right i2 fun i hi => hd i (List.mem_append_right _ hi)
    obtain ⟨g2, a2, c2⟩ := take_cell mm a1.mr (b := b) h1 (hf.left.after a1 n3) (a1.fits i3 fun i hi => hd i (List.mem_append_left _ hi))
    refine ⟨g2, ?_, ?_⟩
    · have := a1.trans a2
      rw [← updL_append] at this
      exact this
    · show All2 _ ((cellOut b mm k x.1).1 :: (cellsOut (b + 1) mm ks x.2).1) (v :: vs')
      show _ ∧ _
      have e : updL m (cellsOut b mm (k :: ks) x).2 = updL (updL m (cellsOut (b + 1) mm ks x.2).2) (cellOut b mm k x.1).2 := updL_append _ _ _
      rw [e]
      exact ⟨c2, c1.mono a2.cc⟩
end
end Go.Rx

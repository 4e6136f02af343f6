/-
  ENGINE, part J: structs and slices built of parts.
  Seat-independent.
-/
import Derived.Test.YtoagkidolpcigaaRxI
import Derived.Laws.Tables
namespace Go.Rx
open Go Go.RowKit
set_option linter.unusedVariables false
set_option linter.unusedSimpArgs false

section
variable {P : Program} {T : Tab} {m : Mem} {g : Nat → Value} {S : Nat → Prop} {w : World}

theorem foldl_setVs : ∀ (us : List Value) (k : Nat) (cells : Array Value) (off : Nat), (us.zipIdx k).foldl (fun cs (c, j) => cs.setIfInBounds (off + j) c) cells = setVs cells (off + k) us
  | [], _, _, _ => rfl
  | u :: us, k, cells, off => by
    rw [List.zipIdx_cons, List.foldl_cons, foldl_setVs us (k + 1), setVs]
    rfl

/-- Parts and their cells. -/
def PartsOk (m : Mem) (g : Nat → Value) (S : Nat → Prop) (w : World) : List (Nat × List C) → List (Nat × Value) → Prop
  | [], [] => True
  | (i, cs) :: r, (j, v) :: s => i = j ∧ (∃ us : List Value, v.cells = us.toArray ∧ All2 (Cc m g S w) cs us) ∧ PartsOk m g S w r s
  | _, _ => False

theorem partsC_ok {ev : Operand → A} {ρ : Operand → Value} (hc : ∀ x, Ac m g S w (ev x) (ρ x)) : ∀ {ps : List (Nat × Operand)} {l : List (Nat × List C)}, partsC ev ps = some l → PartsOk m g S w l (ps.map fun p => (p.1, ρ p.2))
  | [], l, h => by
    simp [partsC] at h
    subst h
    trivial
  | (i, x) :: ps, l, h => by
    simp only [partsC] at h
    have hx := hc x
    split at h
    · rename_i v l' hv hl
      obtain ⟨h1, h2⟩ := cond_some h
      cases h2
      rw [hv] at hx
      exact ⟨rfl, vcells_ok h1 hx, partsC_ok hc hl⟩
    · cases h

theorem fill_ok {place : Nat → Option (Nat × Nat)} : ∀ {l : List (Nat × List C)} {ps : List (Nat × Value)} {cells cells' : List C} {vs : List Value}, fillC place cells l = some cells' → PartsOk m g S w l ps → All2 (Cc m g S w) cells vs →
    ∃ vs' : List Value, Instr.fill place vs.toArray ps = some vs'.toArray ∧ All2 (Cc m g S w) cells' vs'
  | [], [], cells, cells', vs, h, _, hv => by
    simp [fillC] at h
    subst h
    exact ⟨vs, rfl, hv⟩
  | [], _ :: _, _, _, _, _, hp, _ => hp.elim
  | _ :: _, [], _, _, _, _, hp, _ => hp.elim
  | (i, cs) :: l, (i', v) :: ps, cells, cells', vs, h, hp, hv => by
    obtain ⟨rfl, ⟨us, hus, hcs⟩, hp⟩ := hp
    simp only [fillC] at h
    split at h
    · rename_i off size hpl
      obtain ⟨hb, h1⟩ := cond_some h
      obtain ⟨h2, h3⟩ := and_true hb
      have h2 := beq_true h2
      have h3 := Nat.le_of_ble_eq_true h3
      have hset := All2.set hv hcs (k := off) h3
      obtain ⟨vs', hf, ha⟩ := fill_ok (ps := ps) h1 hp hset
      refine ⟨vs', ?_, ha⟩
      simp only [Instr.fill, hpl, hus]
      have l1 := hcs.length
      have l2 := hv.length
      rw [if_neg (by simp; omega)]
      have : (us.toArray.zipIdx.foldl (fun cs (c, j) => cs.setIfInBounds (off + j) c) vs.toArray) = setVs vs.toArray off us := by
        have := foldl_setVs us 0 vs.toArray off
        rw [Nat.add_zero] at this
        rw [← this]
        simp
      rw [this]
      simpa using hf
    · cases h

theorem placesOf_ok (hT : TabOk P T) : ∀ {offs : List (Nat × Nat)} {fs : List Field} {pl : List (Nat × Nat)}, placesOf T offs = some pl → fs.length = offs.length → (∀ (f : Nat) off ft, offs[f]? = some (off, ft) → ∃ fd : Field, fs[f]? = some fd ∧ fd.offset = off ∧ fd.type = ft) →
    fs.mapM (fun f => (P.info? f.type).map fun i => (f.offset, i.size)) = some pl
  | [], [], pl, h, _, _ => by
    simp [placesOf] at h
    subst h
    rfl
  | [], _ :: _, _, _, h, _ => by simp at h
  | _ :: _, [], _, _, h, _ => by simp at h
  | (o, ft) :: offs, f :: fs, pl, h, hl, hf => by
    simp only [placesOf] at h
    split at h
    · rename_i j l hj hr
      cases h
      obtain ⟨fd, h0, ho, hft⟩ := hf 0 o ft rfl
      simp at h0
      subst h0
      have ih := placesOf_ok hT (fs := fs) hr (by simpa using hl) fun f off ft h => hf (f + 1) off ft (by simpa using h)
      obtain ⟨inf, hinf, hsz, _⟩ := (hT ft j hj).info
      rw [← hft] at hinf
      simp [List.mapM_cons, hinf, ih, hsz, ho]
    · cases h

theorem build_ok (hT : TabOk P T) {t : Nat} {i : TyI} (hi : T.get t = some i) {l : List (Nat × List C)} {ps : List (Nat × Value)} (hp : PartsOk m g S w l ps) {p0 : Nat × Nat} {pls : List (Nat × Nat)} (hpl : placesOf T i.offs = some (p0 :: pls))
    {cs : List C} (hf : fillC (fun k => (p0 :: pls)[k]?) i.cells l = some cs) : ∃ v, (Instr.build t ps.toArray).run P w = .ok v w ∧ Ac m g S w (.v (.agg cs)) v := by
  obtain ⟨inf, hinf, hsz, hby, z, hz, hzs⟩ := (hT t i hi).info
  obtain ⟨dsc, hd, _, _, _, _, _, hfd, hof⟩ := (hT t i hi).und
  rcases hof with hof | ⟨fs, rfl, hfl⟩
  · rw [hof] at hpl
    cases hpl
  · have hm := placesOf_ok hT (fs := fs.toList) hpl (by simpa using hfl) fun f off ft h => by
      obtain ⟨fs', fd, h1, h2, h3⟩ := hfd f off ft h
      cases h1
      exact ⟨fd, by simpa using h2, h3⟩
    obtain ⟨vs', hfill, ha⟩ := fill_ok hf hp (zerosB_ok hzs m g S w)
    refine ⟨.agg vs'.toArray, run_build w t ps.toArray _ ?_, vs', rfl, ha⟩
    unfold Program.built
    simp only [hinf, hd, hz, hm]
    simpa using hfill

theorem All2.flat {R : C → Value → Prop} {cs : List C} {z : Array Value} (h : All2 R cs z.toList) : ∀ n, All2 R (List.replicate n cs).flatten ((Array.range (n * z.size)).map (z[· % z.size]!)).toList
  | 0 => by simp [Array.range_zero', All2]
  | n + 1 => by
    have ih := All2.flat h n
    have e1 : (List.replicate (n + 1) cs).flatten = (List.replicate n cs).flatten ++ cs := by
      rw [List.replicate_succ']
      simp
    have e2 : ((Array.range ((n + 1) * z.size)).map (z[· % z.size]!)).toList = ((Array.range (n * z.size)).map (z[· % z.size]!)).toList ++ z.toList := by
      apply List.ext_getElem?
      intro i
      rw [Array.getElem?_toList, Array.getElem?_map, Array.getElem?_range]
      by_cases hi : i < n * z.size
      · rw [List.getElem?_append_left (by simpa using hi), Array.getElem?_toList, Array.getElem?_map, Array.getElem?_range, if_pos hi, if_pos (by rw [Nat.add_mul]; omega)]
      · rw [List.getElem?_append_right (by simpa using hi)]
        simp only [Array.length_toList, Array.size_map, Array.size_range]
        by_cases hj : i < (n + 1) * z.size
        · rw [if_pos hj]
          rw [Nat.add_mul, Nat.one_mul] at hj
          have hlt : i - n * z.size < z.size := by omega
          have e : i = n * z.size + (i - n * z.size) := by omega
          simp only [Option.map_some]
          have em : i % z.size = i - n * z.size := by
            conv => lhs; rw [e]
            rw [Nat.mul_add_mod_self_right, Nat.mod_eq_of_lt hlt]
          rw [em, Array.getElem?_toList, Array.getElem?_eq_getElem hlt, getElem!_pos z _ hlt]
        · rw [if_neg hj]
          rw [Nat.add_mul, Nat.one_mul] at hj
          rw [List.getElem?_eq_none (by simp; omega)]
          rfl
    rw [e1, e2]
    exact ih.append h

theorem rowsOf_ok {mm : Mem} {S1 : Nat → Prop} {e : Tys} {size : Nat} (hsz : size = e.len) : ∀ {n : Nat} {cs : List C} {rs : List e.den} {us : List Value}, rowsOf mm e size n cs = some rs → cs.length = n * size →
    All2 (fun c u => ∀ (t : Ty) (x : t.den), toD mm t c = some x → Rd w S1 t x u) cs us → RowsV w S1 e rs us ∧ rs.length = n
  | 0, cs, rs, us, h, hl, hu => by
    simp [rowsOf] at h
    subst h
    have : cs = [] := List.length_eq_zero_iff.1 (by simpa using hl)
    subst this
    cases us with
    | nil => exact ⟨⟨by simp, fun i r hi => by simp at hi⟩, rfl⟩
    | cons u us => exact hu.elim
  | n + 1, cs, rs, us, h, hl, hu => by
    simp only [rowsOf] at h
    split at h
    · rename_i r rs' hr hrs
      cases h
      rw [Nat.add_mul, Nat.one_mul] at hl
      have hul := hu.length
      have h1 : All2 (fun c u => ∀ (t : Ty) (x : t.den), toD mm t c = some x → Rd w S1 t x u) (cs.take size) (us.take size) := All2.of_get (by simp; omega) fun i a b ha hb => by
        simp only [List.getElem?_take] at ha hb
        split at ha
        · rw [if_pos ‹_›] at hb
          obtain ⟨b', hb', hh⟩ := hu.get ha
          rw [hb'] at hb
          cases hb
          exact hh
        · cases ha
      have h2 : All2 (fun c u => ∀ (t : Ty) (x : t.den), toD mm t c = some x → Rd w S1 t x u) (cs.drop size) (us.drop size) := All2.of_get (by simp; omega) fun i a b ha hb => by
        simp only [List.getElem?_drop] at ha hb
        obtain ⟨b', hb', hh⟩ := hu.get ha
        rw [hb'] at hb
        cases hb
        exact hh
      obtain ⟨hR, hn⟩ := rowsOf_ok hsz (us := us.drop size) hrs (by simp; omega) h2
      refine ⟨?_, by simp [hn]⟩
      have hrow : RowsV w S1 e [r] (us.take size) := ⟨by simp; omega, fun i r' hi => by
        cases i with
        | zero =>
          simp at hi
          subst hi
          rw [Nat.zero_mul]
          exact toRow_ok hr h1 fun i u hi => by rw [Nat.zero_add]; exact hi
        | succ i => simp at hi⟩
      have := hrow.append hR
      simpa using this
    · cases h

theorem refIds_mem {id : Nat} {cs : List C} : id ∈ refIds cs ↔ ∃ c ∈ cs, id ∈ refIds [c] := by
  induction cs with
  | nil => simp [refIds]
  | cons c cs ih =>
    rw [refIds_cons, List.mem_append, ih]
    constructor
    · rintro (h | ⟨v, hv, h⟩)
      · exact ⟨c, List.mem_cons_self .., h⟩
      · exact ⟨v, List.mem_cons_of_mem _ hv, h⟩
    · rintro ⟨v, hv, h⟩
      rcases List.mem_cons.1 hv with rfl | hv
      · exact .inl h
      · exact .inr ⟨v, hv, h⟩
theorem refIds_sub {cs ds : List C} (h : cs ⊆ ds) {id : Nat} (hi : id ∈ refIds cs) : id ∈ refIds ds := by
  obtain ⟨v, hv, hi⟩ := refIds_mem.1 hi
  exact refIds_mem.2 ⟨v, h hv, hi⟩
theorem toRow_restr {l : List Nat} : ∀ {ts : Tys} {xs : List C}, (∀ id ∈ refIds xs, id ∈ l) → toRow (restr l m) ts xs = toRow m ts xs
  | .nil, [], _ => rfl
  | .nil, _ :: _, _ => rfl
  | .cons _ _, [], _ => rfl
  | .cons t ts, x :: xs, h => by
    rw [refIds_cons] at h
    simp only [toRow]
    rw [toRow_restr fun id hid => h id (List.mem_append_right _ hid), toD_restr fun id hid => h id (List.mem_append_left _ hid)]

theorem rowsOf_restr {l : List Nat} {e : Tys} {size : Nat} : ∀ {n : Nat} {cs : List C}, (∀ id ∈ refIds cs, id ∈ l) → rowsOf (restr l m) e size n cs = rowsOf m e size n cs
  | 0, _, _ => rfl
  | n + 1, cs, h => by
    have ht : ∀ id ∈ refIds (cs.take size), id ∈ l := fun id hid => h id (refIds_sub (List.take_subset _ _) hid)
    have hd : ∀ id ∈ refIds (cs.drop size), id ∈ l := fun id hid => h id (refIds_sub (List.drop_subset _ _) hid)
    simp only [rowsOf]
    rw [rowsOf_restr hd, toRow_restr ht]

theorem fillC_length {place : Nat → Option (Nat × Nat)} : ∀ {l : List (Nat × List C)} {cells cells' : List C}, fillC place cells l = some cells' → cells'.length = cells.length
  | [], _, _, h => by
    simp [fillC] at h
    rw [h]
  | (i, cs) :: l, cells, cells', h => by
    simp only [fillC] at h
    split at h
    · obtain ⟨_, h1⟩ := cond_some h
      rw [fillC_length h1, setCells_length]
    · cases h

theorem buildSlice_ok (hT : TabOk P T) (hm : MRel m g S w) {bid t len : Nat} {l : List (Nat × List C)} {ps : List (Nat × Value)} (hpp : PartsOk m g S w l ps) {p : Plan} (hp : buildSliceP T bid t len l = some p) {r : Res} (hr : p.go (restr (p.rd ++ p.wr) m) = some r) :
    ∃ v' w', (Instr.buildSlice t len ps.toArray).run P w = .ok v' w' ∧ Post m g S w (updL m r.ws) r.v v' w' := by
  unfold buildSliceP at hp
  split at hp
  · cases hp
  · rename_i el j hj
    obtain ⟨ht, hel⟩ := elemI_ok hT hj
    obtain ⟨inf, hi, hsz, hby, z, hz, hzs⟩ := hel.info
    split at hp
    · cases hp
    · rename_i cs hcs
      obtain ⟨hb, hp1⟩ := cond_some hp
      clear hp
      obtain ⟨hnd, hb'⟩ := and_true hb
      obtain ⟨h1, hb''⟩ := and_true hb'
      obtain ⟨h2, h3⟩ := and_true hb''
      have h1 := beq_true h1
      have h2 := beq_true h2
      have h3 : len * j.size ≤ 16777216 := Nat.le_of_ble_eq_true h3
      cases hp1
      dsimp only [List.nil_append] at hr
      rw [restr_in (List.mem_cons_self ..)] at hr
      obtain ⟨hd, hr1⟩ := cond_some hr
      clear hr
      rw [rowsOf_restr fun i hi => List.mem_cons_of_mem _ hi, frzAll_restr fun i hi => List.mem_cons_of_mem _ hi] at hr1
      split at hr1
      · rename_i rs hrs
        cases hr1
        obtain ⟨hni, hnd2⟩ := noDup_cons hnd
        have hzl : z.cells.size = j.size := by
          have := (zerosB_ok hzs m g S w).length
          rw [← h2, this]
          simp
        have hflat := All2.flat (zerosB_ok hzs m g S w) len
        obtain ⟨us, hfill, hcu⟩ := fill_ok hcs hpp hflat
        obtain ⟨g1, S1, hm1, he1, hg1, hs1⟩ := evo_frzAll hm _ hnd2
        have hid : updL m (frzAll m (refIds cs)) bid = m bid := updL_out fun p hp e' => hni (by rw [← e']; exact frzAll_fst hp)
        have hcl : cs.length = len * j.size := by
          have := fillC_length hcs
          rw [this]
          simp [h2]
        obtain ⟨hR, hn⟩ := rowsOf_ok (S1 := S1) (w := w) h1 hrs hcl (datCells_ok hm he1 hcu hs1)
        have key := new_arr hm1 (id := bid) (by rw [hid]; exact hd) hR (c := len) (vs := us.toArray) (E := el) (by rw [List.size_toArray, ← hcu.length, hcl, h1]) (by rw [hn]; exact Nat.le_refl _) (fun q u hq => by simpa using hq)
        rw [hn, hid] at key
        obtain ⟨g2, S2, k1, k2, k3⟩ := key
        refine ⟨_, _, ?_, g2, S2, k1, he1.trans k2, k3⟩
        unfold Instr.buildSlice
        simp only [Sem.run_bind, run_underlying' ht, Result.andThen_ok, run_sizeOf' hi, hsz]
        rw [if_neg (by simp; omega)]
        have hz0 : (Array.range (len * j.size)).map (z.cells[· % z.cells.size]!) = (Array.range (len * z.cells.size)).map (z.cells[· % z.cells.size]!) := by rw [hzl]
        have hfill' : Instr.fill (fun i => some (i * j.size, j.size)) ((Array.range (len * z.cells.size)).map (z.cells[· % z.cells.size]!)) ps = some us.toArray := by
          rw [Array.toArray_toList] at hfill
          exact hfill
        by_cases h0 : len * j.size = 0
        · have hz0' : (Array.range (len * j.size)).map ((#[] : Array Value)[· % (#[] : Array Value).size]!) = (Array.range (len * z.cells.size)).map (z.cells[· % z.cells.size]!) := by rw [hzl, h0]; simp [Array.range_zero']
          rw [if_pos h0]
          simp only [Sem.run_bind, Sem.run_pure, Result.andThen_ok]
          rw [hz0', hfill']
          simp [newRow]
        · rw [if_neg h0]
          simp only [Sem.run_bind, run_zeroValue' hi hz, Sem.run_pure, Result.andThen_ok]
          rw [hz0, hfill']
          simp [newRow]
      · cases hr1
end
end Go.Rx

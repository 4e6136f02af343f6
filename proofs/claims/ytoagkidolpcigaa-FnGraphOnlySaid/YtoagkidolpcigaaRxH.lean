/-
  ENGINE, part H: stores, new variables and arrays, appends: they are as their plans say.
  Seat-independent.
-/
import Derived.Test.YtoagkidolpcigaaRxG
import Derived.Laws.AppendOwn
namespace Go.Rx
open Go Go.RowKit
set_option linter.unusedVariables false
set_option linter.unusedSimpArgs false

section
variable {P : Program} {T : Tab} {m : Mem} {g : Nat → Value} {S : Nat → Prop} {w : World}

/-! ### a block written -/
def setBlk (w : World) (b : Nat) (o : Obj) : World := { w with heap := w.heap.setIfInBounds b o }
theorem setBlk_at {b : Nat} {o o' : Obj} (h : w.heap[b]? = some o) : (setBlk w b o').heap[b]? = some o' := by
  have := heap_lt h
  simp [setBlk, this]
theorem setBlk_ne {b k : Nat} {o : Obj} (h : k ≠ b) : (setBlk w b o).heap[k]? = w.heap[k]? := by
  simp only [setBlk]
  rw [Array.getElem?_setIfInBounds_ne (by omega)]
theorem setBlk_size (b : Nat) (o : Obj) : (setBlk w b o).heap.size = w.heap.size := by simp [setBlk]
theorem setBlk_two (b : Nat) (o o' : Obj) : setBlk (setBlk w b o) b o' = setBlk w b o' := by simp [setBlk]
theorem setBlk_self {b : Nat} {o : Obj} (h : w.heap[b]? = some o) : setBlk w b o = w := by
  unfold setBlk
  have hb := heap_lt h
  have : w.heap.setIfInBounds b o = w.heap := by
    apply Array.ext_getElem?
    intro i
    by_cases hi : i = b
    · subst hi
      rw [Array.getElem?_setIfInBounds_self_of_lt hb, h]
    · rw [Array.getElem?_setIfInBounds_ne (by omega)]
  rw [this]

theorem setCell_blk {b o : Nat} {c : Array Value} {E : TypeId} {fr : Nat × Nat} (h : w.heap[b]? = some (.cells c E fr)) (v : Value) :
    w.setCell ⟨b, o, none⟩ v = setBlk w b (.cells (c.setIfInBounds o v) E fr) := by
  unfold World.setCell setBlk
  have hb := heap_lt h
  have : w.heap.modify b (fun | .cells c elem frozen => .cells (if (none : Option Nat).isSome then c else c.setIfInBounds o v) elem frozen | o => o) = w.heap.setIfInBounds b (.cells (c.setIfInBounds o v) E fr) := by
    apply Array.ext_getElem?
    intro i
    rw [Array.getElem?_modify]
    by_cases hi : b = i
    · subst hi
      rw [if_pos rfl, h, Array.getElem?_setIfInBounds_self_of_lt hb]
      rfl
    · rw [if_neg hi, Array.getElem?_setIfInBounds_ne hi]
  exact congrArg (fun H => ({ w with heap := H } : World)) this

def setVs : Array Value → Nat → List Value → Array Value
  | vs, _, [] => vs
  | vs, k, u :: us => setVs (vs.setIfInBounds k u) (k + 1) us

theorem setVs_size : ∀ (us : List Value) (vs : Array Value) (k : Nat), (setVs vs k us).size = vs.size
  | [], _, _ => rfl
  | u :: us, vs, k => by rw [setVs, setVs_size us]; simp
theorem setVs_get : ∀ (us : List Value) (vs : Array Value) (k i : Nat), k + us.length ≤ vs.size → (setVs vs k us)[i]? = if k ≤ i ∧ i < k + us.length then us[i - k]? else vs[i]?
  | [], vs, k, i, _ => by
    rw [setVs, if_neg (by simp only [List.length_nil]; omega)]
  | u :: us, vs, k, i, h => by
    simp only [List.length_cons] at h
    rw [setVs, setVs_get us _ (k + 1) i (by simp; omega)]
    by_cases h1 : i = k
    · subst h1
      rw [if_neg (by omega), if_pos (by simp)]
      rw [Array.getElem?_setIfInBounds_self_of_lt (by omega)]
      simp
    · by_cases h2 : k + 1 ≤ i ∧ i < k + 1 + us.length
      · rw [if_pos h2, if_pos (by simp; omega)]
        have e : i - k = (i - (k + 1)) + 1 := by omega
        rw [e]
        simp
      · rw [if_neg h2, if_neg (by simp; omega), Array.getElem?_setIfInBounds_ne (by omega)]

theorem one_store {v : Value} (h : v.oneCell' = true) (a : Addr) (k : Sem Unit) {b o : Nat} {c : Array Value} {E : TypeId} (ha : a = ⟨b, o, none⟩) (hw : w.heap[b]? = some (.cells c E (0, 0))) (ho : o < c.size) :
    (store a v).run P w = .ok () (setBlk w b (.cells (c.setIfInBounds o v) E (0, 0))) := by
  subst ha
  rw [run_store P w _ v .plain h]
  have hcell : w.cell? ⟨b, o, none⟩ = c[o]? := cell_of_row w b o c E (0, 0) hw
  have hfr : w.frozen? ⟨b, o, none⟩ = false := frozen_of_row w b o c E hw
  rw [hcell, Array.getElem?_eq_getElem ho]
  simp [hfr, setCell_blk hw]

theorem run_storeCells_ok : ∀ (us : List Value) (w : World) {b off i : Nat} {c : Array Value} {E : TypeId}, (∀ u ∈ us, u.oneCell' = true) → w.heap[b]? = some (.cells c E (0, 0)) → off + i + us.length ≤ c.size →
    (storeCells ⟨b, off, none⟩ us i).run P w = .ok () (setBlk w b (.cells (setVs c (off + i) us) E (0, 0)))
  | [], w, b, off, i, c, E, _, hw, _ => by
    unfold storeCells
    simp [setVs, setBlk_self hw]
  | u :: us, w, b, off, i, c, E, h1, hw, hl => by
    simp only [List.length_cons] at hl
    unfold storeCells
    have ha : (⟨b, off, none⟩ : Addr).add i = ⟨b, off + i, none⟩ := by
      unfold Go.Addr.add
      split
      · rename_i h
        rw [h]
        rfl
      · rfl
    rw [Sem.run_bind, one_store (h1 u (List.mem_cons_self ..)) _ (pure ()) ha hw (by omega)]
    simp only [Result.andThen_ok]
    rw [run_storeCells_ok us _ (fun x hx => h1 x (List.mem_cons_of_mem _ hx)) (setBlk_at hw) (by simp; omega), setBlk_two]
    rfl

theorem one_of {x : C} {v : Value} (h1 : oneC x = true) (h : Cc m g S w x v) : v.oneCell' = true := by
  cases x with
  | any => cases h1
  | d t x =>
    cases t with
    | int k => have h : v = .int k x := h; subst h; rfl
    | bool => have h : v = .bool x := h; subst h; rfl
    | str => have h : v = .string x := h; subst h; rfl
    | sl e => obtain ⟨a, c, rfl, _⟩ := h; rfl
  | nil => have h : v = .slice none 0 0 := h; subst h; rfl
  | ref id ver => exact h.2
  | part id ver lo hi => exact h.2
  | mref id ver => exact h.2
  | ptr id ver off => exact h.2
  | eptr id ver i off => exact h.2
  | vptr ts r => obtain ⟨ad, rfl, _⟩ := h; rfl
  | fn f caps => obtain ⟨vs, rfl, _⟩ := h; rfl
theorem cells_one {v : Value} (h : v.oneCell' = true) : v.cells = #[v] := by
  cases v <;> first | rfl | (cases h)

theorem vcells_ok {x : V} {v : Value} (h1 : x.cells.all oneC = true) (h : Vc m g S w x v) : ∃ vs : List Value, v.cells = vs.toArray ∧ All2 (Cc m g S w) x.cells vs := by
  cases x with
  | c x =>
    simp [V.cells] at h1
    exact ⟨[v], by rw [cells_one (one_of h1 h)], h, trivial⟩
  | agg xs =>
    obtain ⟨vs, rfl, h⟩ := h
    exact ⟨vs, rfl, h⟩
theorem all_one : ∀ {xs : List C} {vs : List Value}, xs.all oneC = true → All2 (Cc m g S w) xs vs → ∀ u ∈ vs, u.oneCell' = true
  | [], [], _, _, u, hu => by cases hu
  | x :: xs, v :: vs, h1, h, u, hu => by
    simp at h1
    rcases List.mem_cons.1 hu with rfl | hu
    · exact one_of h1.1 h.1
    · exact all_one (by simpa using h1.2) h.2 u hu

theorem setCells_length : ∀ (us cs : List C) (k : Nat), (setCells cs k us).length = cs.length
  | [], _, _ => rfl
  | u :: us, cs, k => by rw [setCells, setCells_length us]; simp
theorem setCells_get : ∀ (us cs : List C) (k i : Nat), k + us.length ≤ cs.length → (setCells cs k us)[i]? = if k ≤ i ∧ i < k + us.length then us[i - k]? else cs[i]?
  | [], cs, k, i, _ => by
    rw [setCells, if_neg (by simp only [List.length_nil]; omega)]
  | u :: us, cs, k, i, h => by
    simp only [List.length_cons] at h
    rw [setCells, setCells_get us _ (k + 1) i (by simp; omega)]
    by_cases h1 : i = k
    · subst h1
      rw [if_neg (by omega), if_pos (by simp)]
      rw [List.getElem?_set_self (by omega)]
      simp
    · by_cases h2 : k + 1 ≤ i ∧ i < k + 1 + us.length
      · rw [if_pos h2, if_pos (by simp; omega)]
        have e : i - k = (i - (k + 1)) + 1 := by omega
        rw [e]
        simp
      · rw [if_neg h2, if_neg (by simp; omega), List.getElem?_set_ne (by omega)]

theorem All2.set {R : C → Value → Prop} {cs us : List C} {vs ws : List Value} (h : All2 R cs vs) (h' : All2 R us ws) {k : Nat} (hk : k + us.length ≤ cs.length) : All2 R (setCells cs k us) (setVs vs.toArray k ws).toList := by
  have l1 := h.length
  have l2 := h'.length
  refine All2.of_get (by rw [setCells_length]; have := setVs_size ws vs.toArray k; simp at this ⊢; omega) fun i a b ha hb => ?_
  rw [setCells_get _ _ _ _ hk] at ha
  rw [Array.getElem?_toList, setVs_get _ _ _ _ (by simp; omega), ← l2] at hb
  split at ha
  · rename_i hc
    rw [if_pos hc] at hb
    obtain ⟨b', hb', hr⟩ := h'.get ha
    rw [hb'] at hb
    cases hb
    exact hr
  · rename_i hc
    rw [if_neg hc] at hb
    obtain ⟨b', hb', hr⟩ := h.get ha
    rw [List.getElem?_toArray, hb'] at hb
    cases hb
    exact hr

/-! ### several objects frozen -/
theorem noDup_cons {x : Nat} {l : List Nat} (h : noDup (x :: l) = true) : x ∉ l ∧ noDup l = true := by
  obtain ⟨h1, h2⟩ := and_true h
  refine ⟨fun hx => ?_, h2⟩
  rw [inL_iff.2 hx] at h1
  cases h1
theorem updL_out {l : List (Nat × Ob)} {m : Mem} {id : Nat} (h : ∀ p ∈ l, p.1 ≠ id) : updL m l id = m id := by
  induction l with
  | nil => rfl
  | cons p r ih =>
    rw [updL, upd_ne _ _ (fun e => h p (List.mem_cons_self ..) e.symm)]
    exact ih fun q hq => h q (List.mem_cons_of_mem _ hq)

theorem frzAll_fst {m : Mem} {l : List Nat} {p : Nat × Ob} (h : p ∈ frzAll m l) : p.1 ∈ l := by
  unfold frzAll at h
  obtain ⟨i, hi, rfl⟩ := List.mem_map.1 h
  exact hi

theorem evo_frzAll (hm : MRel m g S w) : ∀ (l : List Nat), noDup l = true → ∃ g' S', MRel (updL m (frzAll m l)) g' S' w ∧ Evo m g S w (updL m (frzAll m l)) g' S' w ∧ (∀ i, g' i = g i) ∧ (∀ i ∈ l, ∀ b, (∃ n e xs, m i = .arr n e xs) → own m g i = some b → S' b)
  | [], _ => ⟨g, S, hm, Evo.refl _ _ _ _, fun _ => rfl, fun i hi => by cases hi⟩
  | id :: l, h => by
    obtain ⟨hni, hnd⟩ := noDup_cons h
    obtain ⟨g1, S1, hm1, he1, hg1, hs1⟩ := evo_frzAll hm l hnd
    have hid : updL m (frzAll m l) id = m id := updL_out fun p hp e => hni (e ▸ frzAll_fst hp)
    have e0 : updL m (frzAll m (id :: l)) = upd (updL m (frzAll m l)) id (frzOb (updL m (frzAll m l) id)) := by rw [hid]; rfl
    obtain ⟨S2, hm2, he2, hs2⟩ := evo_frz hm1 id
    refine ⟨_, S2, by rw [e0]; exact hm2, by rw [e0]; exact he1.trans he2, fun i => ?_, fun i hi b harr hb => ?_⟩
    · by_cases hi : i = id
      · subst hi
        rw [upd_same, hg1]
      · rw [upd_ne _ _ hi, hg1]
    · rcases List.mem_cons.1 hi with rfl | hi
      · exact hs2 b (by rw [hid]; exact harr) (by rw [own_eq, hid, hg1, ← own_eq]; exact hb)
      · exact he2.sub b (hs1 i hi b harr hb)

theorem RdRow.local_ {S : Nat → Prop} : ∀ {ts : Tys} {l l' : Nat → Option Value} {r : ts.den} {k : Nat}, (∀ j, k ≤ j → j < k + ts.len → l j = l' j) → RdRow w S ts l r k → RdRow w S ts l' r k
  | .nil, _, _, _, _, _, _ => trivial
  | .cons t ts, l, l', r, k, h, hr => by
    obtain ⟨⟨v, hv, hx⟩, hr⟩ := hr
    refine ⟨⟨v, by rw [← h k (Nat.le_refl _) (by simp [Tys.len])]; exact hv, hx⟩, RdRow.local_ (fun j h1 h2 => h j (by omega) (by simp [Tys.len]; omega)) hr⟩

theorem setRow_ok {mm : Mem} {S1 : Nat → Prop} : ∀ {ts : Tys} {r r' : ts.den} {k : Nat} {xs : List C} {us : List Value} {l l' : Nat → Option Value} {b0 : Nat}, setRow ts r k xs mm = some r' →
    All2 (fun c u => ∀ (t : Ty) (x : t.den), toD mm t c = some x → Rd w S1 t x u) xs us → RdRow w S1 ts l r b0 →
    (∀ j, b0 ≤ j → (j < b0 + k ∨ b0 + k + us.length ≤ j) → l' j = l j) → (∀ (i : Nat) u, us[i]? = some u → l' (b0 + k + i) = some u) → RdRow w S1 ts l' r' b0
  | .nil, _, _, _, _, _, _, _, _, _, _, _, _, _ => trivial
  | .cons t ts, r, r', k + 1, xs, us, l, l', b0, h, hu, hr, h1, h2 => by
    simp only [setRow, Option.map_eq_some_iff] at h
    obtain ⟨r2, h, rfl⟩ := h
    obtain ⟨⟨v, hv, hx⟩, hr⟩ := hr
    refine ⟨⟨v, by rw [h1 b0 (Nat.le_refl _) (.inl (by omega))]; exact hv, hx⟩, setRow_ok h hu hr (fun j hj hc => h1 j (by omega) (by omega)) fun i u hi => ?_⟩
    have := h2 i u hi
    rw [← this]
    congr 1
    omega
  | .cons t ts, r, r', 0, [], us, l, l', b0, h, hu, hr, h1, h2 => by
    simp only [setRow, Option.some.injEq] at h
    subst h
    cases us with
    | nil => exact RdRow.local_ (fun j h3 _ => (h1 j h3 (.inr (by simpa using h3))).symm) hr
    | cons u us => exact hu.elim
  | .cons t ts, r, r', 0, x :: xs, us, l, l', b0, h, hu, hr, h1, h2 => by
    cases us with
    | nil => exact hu.elim
    | cons u us =>
      simp only [setRow] at h
      split at h
      · rename_i a b ha hb
        cases h
        refine ⟨⟨u, by have := h2 0 u rfl; simpa using this, hu.1 _ _ ha⟩, setRow_ok (k := 0) hb hu.2 hr.2 (fun j hj hc => h1 j (by omega) (by simp at hc ⊢; omega)) fun i z hi => ?_⟩
        have := h2 (i + 1) z (by simpa using hi)
        rw [← this]
        congr 1
        omega
      · cases h

theorem setRow_len {mm : Mem} : ∀ {ts : Tys} {r r' : ts.den} {k n : Nat} {xs : List C}, setRow ts r k xs mm = some r' → n ≤ xs.length → k + n ≤ ts.len ∨ xs = []
  | .nil, _, _, _, _, [], _, _ => .inr rfl
  | .nil, _, _, _, _, _ :: _, h, _ => by simp [setRow] at h
  | .cons t ts, r, r', k + 1, n, xs, h, hn => by
    simp only [setRow, Option.map_eq_some_iff] at h
    obtain ⟨r2, h, rfl⟩ := h
    rcases setRow_len h hn with h' | h'
    · left
      simp [Tys.len]
      omega
    · exact .inr h'
  | .cons t ts, r, r', 0, n, [], h, hn => .inr rfl
  | .cons t ts, r, r', 0, n, x :: xs, h, hn => by
    simp only [setRow] at h
    split at h
    · rename_i a b ha hb
      left
      simp at hn
      rcases setRow_len (n := n - 1) hb (by omega) with h' | h'
      · simp [Tys.len]
        omega
      · subst h'
        simp at hn
        simp [Tys.len]
        omega
    · cases h

theorem undef_ok {m' : Mem} {g' : Nat → Value} {S' : Nat → Prop} {w' : World} : Ac m' g' S' w' (.tup []) undef := ⟨[], rfl, trivial⟩

theorem run_storeVar {t b off : Nat} {inf : TypeInfo} (hi : P.info? t = some inf) {v : Value} {us : List Value} (hv : v.cells = us.toArray) (hl : us.length = inf.size) (h1 : ∀ u ∈ us, u.oneCell' = true)
    {c : Array Value} {E : TypeId} (hw : w.heap[b]? = some (.cells c E (0, 0))) (hb : off + us.length ≤ c.size) :
    (storeVar t ⟨b, off, none⟩ v).run P w = .ok () (setBlk w b (.cells (setVs c off us) E (0, 0))) := by
  unfold storeVar
  rw [Sem.run_bind, run_sizeOf' hi]
  simp only [Result.andThen_ok, hv]
  rw [if_neg (by simp [hl])]
  have := run_storeCells_ok (P := P) us w (i := 0) h1 hw (by omega)
  simpa using this

theorem toD_restr {l : List Nat} {t : Ty} {c : C} (h : ∀ id ∈ refIds [c], id ∈ l) : toD (restr l m) t c = toD m t c := by
  unfold toD
  split <;> try rfl
  · unfold refRows
    rw [restr_in (h _ (by simp [refIds]))]
  · rename_i e id ver lo hi
    have e1 : refRows (restr l m) id ver e = refRows m id ver e := by
      unfold refRows
      rw [restr_in (h _ (by simp [refIds]))]
    rw [e1]
theorem refIds_cons (c : C) (cs : List C) : refIds (c :: cs) = refIds [c] ++ refIds cs := by
  cases c <;> simp [refIds]

/-- What the cells lead to, where all that they lead to is frozen. -/
theorem datCells_ok {m1 : Mem} {g1 : Nat → Value} {S1 : Nat → Prop} (hm : MRel m g S w) (he : Evo m g S w m1 g1 S1 w) : ∀ {xs : List C} {us : List Value}, All2 (Cc m g S w) xs us →
    (∀ i ∈ refIds xs, ∀ b, (∃ n e ys, m i = .arr n e ys) → own m g i = some b → S1 b) → All2 (fun c u => ∀ (t : Ty) (x : t.den), toD m t c = some x → Rd w S1 t x u) xs us
  | [], [], _, _ => trivial
  | x :: xs, u :: us, h, hb => by
    rw [refIds_cons] at hb
    refine ⟨fun t y hy => ?_, datCells_ok hm he h.2 fun i hi => hb i (List.mem_append_right _ hi)⟩
    refine toD_ok hm he.sub hy h.1 fun id hid b hown => ?_
    by_cases harr : ∃ n e ys, m id = .arr n e ys
    · exact hb id (List.mem_append_left _ hid) b harr hown
    · -- a frozen one owns nothing
      exfalso
      have key : ∀ {ver : Nat} {e : Tys} {zs : List e.den}, refRows m id ver e = some zs → False := fun {ver e zs} hy => by
        unfold refRows at hy
        rw [own_eq] at hown
        cases hmi : m id with
        | dead n => rw [hmi] at hown; cases hown
        | box n cs => rw [hmi] at hy; cases hy
        | arr n e ys => exact harr ⟨n, e, ys, hmi⟩
        | frz n e ys => rw [hmi] at hown; cases hown
        | map n ks => rw [hmi] at hy; cases hy
      cases x <;> simp [refIds] at hid
      · subst hid
        cases t <;> simp only [toD, reduceCtorEq] at hy
        exact key hy
      · subst hid
        cases t <;> simp only [toD, reduceCtorEq] at hy
        split at hy
        · rename_i zs hz
          exact key hz
        · cases hy

theorem setRow_restr {l : List Nat} : ∀ {ts : Tys} {r : ts.den} {k : Nat} {xs : List C}, (∀ id ∈ refIds xs, id ∈ l) → setRow ts r k xs (restr l m) = setRow ts r k xs m
  | .nil, _, _, [], _ => rfl
  | .nil, _, _, _ :: _, _ => rfl
  | .cons t ts, r, k + 1, xs, h => by simp only [setRow]; rw [setRow_restr h]
  | .cons t ts, r, 0, [], h => rfl
  | .cons t ts, r, 0, x :: xs, h => by
    rw [refIds_cons] at h
    simp only [setRow]
    rw [setRow_restr fun id hid => h id (List.mem_append_right _ hid), toD_restr fun id hid => h id (List.mem_append_left _ hid)]

theorem frzAll_restr {l ids : List Nat} (h : ∀ id ∈ ids, id ∈ l) : frzAll (restr l m) ids = frzAll m ids := by
  unfold frzAll
  apply List.map_congr_left
  intro i hi
  rw [restr_in (h i hi)]

theorem store_ok (hT : TabOk P T) (hm : MRel m g S w) {t : Nat} {x y : A} {vx vy : Value} (hx : Ac m g S w x vx) (hy : Ac m g S w y vy) {p : Plan} (hp : storeP T t x y = some p) {r : Res} (hr : p.go (restr (p.rd ++ p.wr) m) = some r) (hc : r.cs.all (fun b => b) = true) :
    ∃ w', (Instr.storeAt t vx vy).run P w = .ok () w' ∧ Post m g S w (updL m r.ws) r.v undef w' := by
  unfold storeP at hp
  split at hp
  · rename_i i yv hi
    obtain ⟨inf, hinf, hsz, _, _⟩ := (hT t i hi).info
    obtain ⟨hb, hp1⟩ := cond_some hp
    clear hp
    obtain ⟨hb', hlen⟩ := and_true hb
    obtain ⟨h1, hpos⟩ := and_true hb'
    have hpos := Nat.le_of_ble_eq_true hpos
    have hlen := beq_true hlen
    obtain ⟨us, hus, hcs⟩ := vcells_ok h1 hy
    have hone := all_one h1 hcs
    have hul : us.length = inf.size := by rw [← hcs.length, hsz, hlen]
    split at hp1
    · rename_i id ver off
      cases hp1
      simp only [List.nil_append] at hr
      rw [restr_in (List.mem_singleton.2 rfl)] at hr
      split at hr
      · rename_i n cs hbx
        obtain ⟨hb1, hr1⟩ := cond_some hr
        clear hr
        obtain ⟨hv, hle⟩ := and_true hb1
        obtain rfl := beq_true hv
        cases hr1
        have hle : off + i.size ≤ cs.length := Nat.le_of_ble_eq_true hle
        obtain ⟨b, hg, rfl⟩ := ptr_live hbx hx
        obtain ⟨b', vs, E, hg', hw, ha⟩ := box_live hm hbx
        rw [hg] at hg'
        cases hg'
        have hvl := ha.length
        have hstore := run_storeVar (P := P) hinf hus hul hone (off := off) hw (by simp; omega)
        refine ⟨_, by simp [Instr.storeAt, Instr.sureAddr, hstore]; rfl, ?_⟩
        have hown : own m g id = some b := by rw [own_eq, hbx, hg]; rfl
        have key := evo_one (w' := setBlk w b (.cells (setVs vs.toArray off us) E (0, 0))) hm id (.box ver (setCells cs off yv.cells)) (g id) (S' := S)
          (by rw [hbx]; exact .inr ⟨rfl, rfl, _, _, rfl⟩) (fun k hk => .inl (by rw [own_eq, hbx]; exact hk)) (fun _ h => h) (fun _ h => .inl h)
          (fun k hk e => hm.sdisj id k (by rw [own_eq, hbx]; exact e) hk) (fun k _ hk => setBlk_ne (fun e => hk (by rw [hown, e]))) rfl rfl rfl (by rw [setBlk_size]; exact Nat.le_refl _) (fun _ => ?_)
        · exact ⟨_, _, key.1, key.2, undef_ok⟩
        · have hold : Hold S w (setBlk w b (.cells (setVs vs.toArray off us) E (0, 0))) := fun k hk => setBlk_ne fun e => hm.sdisj id k (by rw [hown, e]) hk
          have htr : ∀ j, Tr (m j) (g j) (upd m id (.box ver (setCells cs off yv.cells)) j) (upd g id (g id) j) := fun j => by
            by_cases hj : j = id
            · subst hj
              rw [upd_same, upd_same, hbx]
              exact .inr ⟨rfl, rfl, _, _, rfl⟩
            · rw [upd_ne _ _ hj, upd_ne _ _ hj]
              exact Tr.refl _ _
          unfold Or
          rw [upd_same, upd_same]
          refine ⟨b, (setVs vs.toArray off us).toList, E, hg, by rw [setBlk_at hw], ?_⟩
          exact All2.mono (Cc.tr htr hold fun _ h => h) (All2.set ha hcs (by omega))
      · cases hr
    · rename_i id ver k off
      obtain ⟨hnd, hp2⟩ := cond_some hp1
      clear hp1
      cases hp2
      simp only [List.nil_append] at hr
      rw [restr_in (List.mem_cons_self ..)] at hr
      obtain ⟨hni, hnd2⟩ := noDup_cons hnd
      split at hr
      · rename_i n e xs hbx
        obtain ⟨hv, hr1⟩ := cond_some hr
        clear hr
        obtain rfl := beq_true hv
        rw [setRow_restr fun i hi => List.mem_cons_of_mem _ hi, frzAll_restr fun i hi => List.mem_cons_of_mem _ hi] at hr1
        split at hr1
        · rename_i row hrow
          cases hr1
          simp at hc
          obtain ⟨b, l, c, hg, rfl⟩ := eptr_arr hbx hx
          rcases arr_live hm hbx with ⟨hg', hxs⟩ | ⟨b', c', vs, E, hg', hw, hlc, hz, hrows⟩
          · rw [hxs] at hc
            simp at hc
          · rw [hg] at hg'
            cases hg'
            obtain ⟨g1, S1, hm1, he1, hg1, hs1⟩ := evo_frzAll hm _ hnd2
            have hid : updL m (frzAll m (refIds yv.cells)) id = .arr ver e xs := by
              rw [updL_out fun p hp e' => hni (by rw [← e']; exact frzAll_fst hp), hbx]
            have hcells : off + us.length ≤ e.len := by
              rcases setRow_len (n := us.length) hrow (by rw [← hcs.length]; exact Nat.le_refl _) with h | h
              · exact h
              · rw [h] at hlen
                simp at hlen
                omega
            have hkc : (k + 1) * e.len ≤ c * e.len := Nat.mul_le_mul_right _ (by omega)
            rw [Nat.add_mul, Nat.one_mul] at hkc
            have hstore := run_storeVar (P := P) hinf hus hul hone (off := k * e.len + off) hw (by omega)
            refine ⟨_, by simp [Instr.storeAt, Instr.sureAddr, hstore]; rfl, ?_⟩
            have hown : own (updL m (frzAll m (refIds yv.cells))) g1 id = some b := by rw [own_eq, hid, hg1, hg]; rfl
            have key := evo_one (w' := setBlk w b (.cells (setVs vs (k * e.len + off) us) E (0, 0))) hm1 id (.arr ver e (xs.set k row)) (g1 id) (S' := S1)
              (by rw [hid]; exact .inr ⟨rfl, rfl, .inl ⟨_, _, rfl⟩⟩) (fun j hj => .inl (by rw [own_eq, hid]; exact hj)) (fun _ h => h) (fun _ h => .inl h)
              (fun j hj e => hm1.sdisj id j (by rw [own_eq, hid]; exact e) hj) (fun j _ hj => setBlk_ne (fun e => hj (by rw [hown, e]))) rfl rfl rfl (by rw [setBlk_size]; exact Nat.le_refl _) (fun _ => ?_)
            · exact ⟨_, _, key.1, he1.trans key.2, undef_ok⟩
            · have hold : Hold S1 w (setBlk w b (.cells (setVs vs (k * e.len + off) us) E (0, 0))) := fun j hj => setBlk_ne fun e => hm1.sdisj id j (by rw [hown, e]) hj
              unfold Or
              rw [upd_same, upd_same, hg1]
              refine .inr ⟨b, c, setVs vs (k * e.len + off) us, E, by rw [List.length_set]; exact hg, setBlk_at hw, by rw [List.length_set]; exact hlc, by rw [setVs_size]; exact hz, fun j rj hj => ?_⟩
              by_cases hjk : j = k
              · subst hjk
                rw [List.getElem?_set_self hc] at hj
                cases hj
                refine RdRow.mono hold (fun _ h => h) e _ _ (fun _ => rfl) _ _ (setRow_ok (S1 := S1) (l := fun q => vs[q]?) hrow (datCells_ok hm he1 hcs hs1)
                  (RdRow.mono (Hold.refl S w) he1.sub e _ _ (fun _ => rfl) _ _ (hrows j _ (getD_some (z := e.zero) hc))) (fun q hq h3 => ?_) fun q u hq => ?_)
                · rw [setVs_get _ _ _ _ (by omega), if_neg (by omega)]
                · have hql := (List.getElem?_eq_some_iff.1 hq).1
                  rw [setVs_get _ _ _ _ (by omega), if_pos (by omega), ← hq]
                  congr 1
                  omega
              · rw [List.getElem?_set_ne (by omega)] at hj
                refine RdRow.mono hold (fun _ h => h) e _ _ (fun _ => rfl) _ _ (RdRow.local_ (fun q h3 h4 => ?_) (RdRow.mono (Hold.refl S w) he1.sub e _ _ (fun _ => rfl) _ _ (hrows j rj hj)))
                rw [setVs_get _ _ _ _ (by omega), if_neg ?_]
                rintro ⟨h5, h6⟩
                rcases Nat.lt_or_gt_of_ne hjk with hlt | hlt
                · have : (j + 1) * e.len ≤ k * e.len := Nat.mul_le_mul_right _ hlt
                  rw [Nat.add_mul, Nat.one_mul] at this
                  omega
                · have : (k + 1) * e.len ≤ j * e.len := Nat.mul_le_mul_right _ hlt
                  rw [Nat.add_mul, Nat.one_mul] at this
                  omega
        · cases hr1
      · cases hr
    · cases hp1
  · cases hp
end
end Go.Rx

/-
  ENGINE, part G: loads, addresses, lengths, slices: they are as their plans say.
  Seat-independent.
-/
import Derived.Test.YtoagkidolpcigaaRxF
import Derived.Laws.Slices
import Derived.Laws.StructEq
namespace Go.Rx
open Go Go.RowKit
set_option linter.unusedVariables false
set_option linter.unusedSimpArgs false

theorem beq_self (n : Nat) : Nat.beq n n = true := Nat.beq_refl n
theorem inL_head (x : Nat) (l : List Nat) : inL x (x :: l) = true := by simp [inL]
theorem inL_iff {x : Nat} : ∀ {l : List Nat}, inL x l = true ↔ x ∈ l
  | [] => by simp [inL]
  | y :: l => by
    have : inL x (y :: l) = (Nat.beq x y || inL x l) := rfl
    rw [this, Bool.or_eq_true, inL_iff, List.mem_cons, Nat.beq_eq]
theorem restr_in {l : List Nat} {m : Mem} {id : Nat} (h : id ∈ l) : restr l m id = m id := by
  unfold restr
  rw [inL_iff.2 h]
  rfl
theorem restr_or (l : List Nat) (m : Mem) (id : Nat) : restr l m id = m id ∨ restr l m id = .dead 0 := by
  unfold restr
  cases inL id l
  · exact .inr rfl
  · exact .inl rfl
theorem restr_live {l : List Nat} {m : Mem} {id : Nat} {o : Ob} (h : restr l m id = o) (hn : o ≠ .dead 0) : m id = o := by
  rcases restr_or l m id with e | e
  · rw [← e, h]
  · rw [e] at h
    exact absurd h.symm hn

theorem beq_true {a b : Nat} (h : Nat.beq a b = true) : a = b := Nat.eq_of_beq_eq_true h
theorem cond_some {α : Type} {c : Bool} {x : Option α} {y : α} (h : cond c x none = some y) : c = true ∧ x = some y := by
  cases c
  · cases h
  · exact ⟨rfl, h⟩
theorem and_true {a b : Bool} (h : Bool.and a b = true) : a = true ∧ b = true := by
  cases a <;> cases b <;> simp_all

section
variable {P : Program} {T : Tab} {m : Mem} {g : Nat → Value} {S : Nat → Prop} {w : World}

theorem run_underlying' {t : Nat} {d : TypeDesc} (h : P.underlying t = some d) : (underlying t).run P w = .ok d w := by
  simp [underlying, h]
theorem run_sizeOf' {t : Nat} {inf : TypeInfo} (h : P.info? t = some inf) : (sizeOf t).run P w = .ok inf.size w := by
  simp [sizeOf, typeInfo, h]
theorem run_isAgg' {t : Nat} {d : TypeDesc} (h : P.underlying t = some d) : (isAgg t).run P w = .ok (aggDesc d) w := by
  unfold isAgg
  rw [Sem.run_bind, run_underlying' h]
  cases d <;> rfl
theorem run_typeInfo' {t : Nat} {inf : TypeInfo} (h : P.info? t = some inf) : (typeInfo t).run P w = .ok inf w := by
  simp [typeInfo, h]
theorem run_zeroValue' {t : Nat} {inf : TypeInfo} {z : Value} (h : P.info? t = some inf) (hz : inf.zero = some z) : (zeroValue t).run P w = .ok z w := by
  simp [zeroValue, typeInfo, h, hz]

theorem loadVar_ok {t : Nat} {i : TyI} (hi : TyOk P t i) {a : Addr} {vs : List Value} {cs : List C} {x : A} (hl : vs.length = i.size) (hcell : ∀ (j : Nat) u, vs[j]? = some u → w.cell? (a.add j) = some u)
    (hcs : All2 (Cc m g S w) cs vs) (hA : aggOf i.agg cs = some x) : ∃ val, (loadVar t a).run P w = .ok val w ∧ Ac m g S w x val := by
  obtain ⟨inf, hinf, hsz, _, _⟩ := hi.info
  obtain ⟨dsc, hd, hag, _⟩ := hi.und
  unfold loadVar
  rw [Sem.run_bind, run_isAgg' hd]
  simp only [Result.andThen_ok, hag]
  unfold aggOf at hA
  cases hg : i.agg with
  | true =>
    rw [hg] at hA
    simp only [cond_true, Option.some.injEq] at hA
    subst hA
    refine ⟨.agg vs.toArray, ?_, vs, rfl, hcs⟩
    simp only [if_true, Sem.run_bind, run_sizeOf' hinf, Result.andThen_ok, hsz, ← hl]
    rw [run_loadCells_list _ a vs hcell]
    rfl
  | false =>
    rw [hg] at hA
    simp only [cond_false] at hA
    match cs, hA with
    | [c], hA =>
      simp only [Option.some.injEq] at hA
      subst hA
      match vs, hcs with
      | [u], hcs =>
        refine ⟨u, ?_, hcs.1⟩
        have h0 := hcell 0 u rfl
        have e : a.add 0 = a := by simp [Go.Addr.add]
        rw [e] at h0
        simp [load, Sem.run, h0]

theorem first_ok : ∀ {ts : Tys} {r : ts.den} {n : Nat} {cs : List C} {look : Nat → Option Value} {k : Nat}, ts.first r n = some cs → RdRow w S ts look r k →
    ∃ vs : List Value, vs.length = n ∧ (∀ (j : Nat) u, vs[j]? = some u → look (k + j) = some u) ∧ All2 (Cc m g S w) cs vs
  | ts, r, 0, cs, look, k, h, _ => by
    have : cs = [] := by
      cases ts <;> simp [Tys.first] at h <;> exact h
    subst this
    exact ⟨[], rfl, fun j u h => by simp at h, trivial⟩
  | .nil, _, n + 1, cs, _, _, h, _ => by simp [Tys.first] at h
  | .cons t ts, r, n + 1, cs, look, k, h, hr => by
    simp only [Tys.first, Option.map_eq_some_iff] at h
    obtain ⟨cs', h, rfl⟩ := h
    obtain ⟨⟨v, hv, hx⟩, hr⟩ := hr
    obtain ⟨vs, hl, hlk, ha⟩ := first_ok h hr
    refine ⟨v :: vs, by simp [hl], fun j u hj => ?_, hx, ha⟩
    cases j with
    | zero => simp at hj; subst hj; exact hv
    | succ j =>
      simp at hj
      have := hlk j u hj
      rw [← this]
      congr 1
      omega

/-- A cell of a block that is known whole. -/
theorem cell_blk {b off j : Nat} {vs : Array Value} {E : TypeId} {fr : Nat × Nat} (hw : w.heap[b]? = some (.cells vs E fr)) : w.cell? ((⟨b, off, none⟩ : Addr).add j) = vs[off + j]? := by
  unfold World.cell? Go.Addr.add
  by_cases hj : j = 0
  · subst hj
    simp [hw]
  · simp [hj, hw]

theorem box_live (hm : MRel m g S w) {id n : Nat} {cs : List C} (h : m id = .box n cs) : ∃ (b : Nat) (vs : List Value) (E : TypeId), g id = .pointer (some ⟨b, 0, none⟩) ∧ w.heap[b]? = some (.cells vs.toArray E (0, 0)) ∧ All2 (Cc m g S w) cs vs := by
  have := hm.or id
  unfold Or at this
  rw [h] at this
  exact this
theorem ptr_live {id n off : Nat} {cs : List C} {v : Value} (h : m id = .box n cs) (hv : Ac m g S w (.c (.ptr id n off)) v) : ∃ b, g id = .pointer (some ⟨b, 0, none⟩) ∧ v = .pointer (some ⟨b, off, none⟩) := by
  have hv : PtrOk m g id n off v := hv.1
  unfold PtrOk at hv
  rw [h] at hv
  rcases hv with hv | ⟨_, hv⟩
  · omega
  · exact hv
theorem arr_live (hm : MRel m g S w) {id n : Nat} {e : Tys} {xs : List e.den} (h : m id = .arr n e xs) : (g id = .slice none 0 0 ∧ xs = []) ∨
      ∃ (b c : Nat) (vs : Array Value) (E : TypeId), g id = .slice (some ⟨b, 0, none⟩) xs.length c ∧ w.heap[b]? = some (.cells vs E (0, 0)) ∧ xs.length ≤ c ∧ vs.size = c * e.len ∧
        ∀ (i : Nat) (r : e.den), xs[i]? = some r → RdRow w S e (fun k => vs[k]?) r (i * e.len) := by
  have := hm.or id
  unfold Or at this
  rw [h] at this
  exact this
theorem ref_arr {id n : Nat} {e : Tys} {xs : List e.den} {v : Value} (h : m id = .arr n e xs) (hv : Ac m g S w (.c (.ref id n)) v) : v = g id := by
  have hv : RefOk m g id n v := hv.1
  unfold RefOk at hv
  rw [h] at hv
  rcases hv with hv | ⟨_, hv⟩
  · omega
  · exact hv
theorem map_live (hm : MRel m g S w) {id n : Nat} {ks : List ByteArray} (h : m id = .map n ks) : MapV w ks (g id) := by
  have := hm.or id
  unfold Or at this
  rw [h] at this
  exact this
theorem mref_map {id n : Nat} {ks : List ByteArray} {v : Value} (h : m id = .map n ks) (hv : Ac m g S w (.c (.mref id n)) v) : v = g id := by
  have hv : MrefOk m g id n v := hv.1
  unfold MrefOk at hv
  rw [h] at hv
  rcases hv with hv | ⟨_, hv⟩
  · omega
  · exact hv
theorem ref_frz {id n : Nat} {e : Tys} {xs : List e.den} {v : Value} (h : m id = .frz n e xs) (hv : Ac m g S w (.c (.ref id n)) v) : v = g id := by
  have hv : RefOk m g id n v := hv.1
  unfold RefOk at hv
  rw [h] at hv
  rcases hv with hv | ⟨_, hv⟩
  · omega
  · exact hv
theorem eptr_arr {id n i off : Nat} {e : Tys} {xs : List e.den} {v : Value} (h : m id = .arr n e xs) (hv : Ac m g S w (.c (.eptr id n i off)) v) :
    ∃ b l c, g id = .slice (some ⟨b, 0, none⟩) l c ∧ v = .pointer (some ⟨b, i * e.len + off, none⟩) := by
  have hv : EptrOk m g id n i off v := hv.1
  unfold EptrOk at hv
  rw [h] at hv
  rcases hv with hv | ⟨_, hv⟩
  · omega
  · exact hv
theorem frz_rd (hm : MRel m g S w) {id n : Nat} {e : Tys} {xs : List e.den} (h : m id = .frz n e xs) : Rd w S (.sl e) xs (g id) := by
  have := hm.or id
  unfold Or at this
  rw [h] at this
  exact this

theorem load_ok (hT : TabOk P T) (hm : MRel m g S w) {t : Nat} {x : A} {v : Value} (hx : Ac m g S w x v) {p : Plan} (hp : loadP T t x = some p) {r : Res} (hr : p.go (restr (p.rd ++ p.wr) m) = some r) (hc : r.cs.all (fun b => b) = true) :
    r.ws = [] ∧ ∃ val, (Instr.loadAt t v).run P w = .ok val w ∧ Ac m g S w r.v val := by
  unfold loadP at hp
  cases hi : T.get t with
  | none => rw [hi] at hp; cases hp
  | some i =>
    rw [hi] at hp
    have ok := hT t i hi
    simp only at hp
    split at hp
    · -- immutable data
      rename_i ts rr
      split at hp
      · rename_i cs hcs
        rw [Option.bind_eq_some_iff] at hp
        obtain ⟨A, hA, hp⟩ := hp
        cases hp
        simp at hr
        subst hr
        obtain ⟨ad, rfl, hS, hrow⟩ := hx
        obtain ⟨vs, hl, hlk, ha⟩ := first_ok (m := m) (g := g) hcs hrow
        obtain ⟨val, h1, h2⟩ := loadVar_ok ok hl (fun j u hj => by have := hlk j u hj; rw [Nat.zero_add] at this; exact this) ha hA
        exact ⟨rfl, val, by simp [Instr.loadAt, Instr.sureAddr, h1], h2⟩
      · cases hp
    · -- a variable
      rename_i id ver off
      cases hp
      simp only [List.append_nil] at hr
      rw [restr_in (List.mem_singleton.2 rfl)] at hr
      split at hr
      · rename_i n cs hb
        obtain ⟨hb1, hr1⟩ := cond_some hr
        clear hr
        obtain ⟨hv, hlen⟩ := and_true hb1
        obtain rfl := beq_true hv
        rw [Option.map_eq_some_iff] at hr1
        obtain ⟨A, hA, rfl⟩ := hr1
        obtain ⟨b, hg, rfl⟩ := ptr_live hb hx
        obtain ⟨b', vs, E, hg', hw, ha⟩ := box_live hm hb
        rw [hg] at hg'
        cases hg'
        have hle : off + i.size ≤ cs.length := Nat.le_of_ble_eq_true hlen
        have hvl : vs.length = cs.length := ha.length.symm
        obtain ⟨val, h1, h2⟩ := loadVar_ok (m := m) (g := g) (S := S) ok (a := ⟨b, off, none⟩) (vs := (vs.drop off).take i.size) (cs := (cs.drop off).take i.size) (by simp; omega)
          (fun j u hj => by
            rw [cell_blk hw]
            simp only [List.getElem?_take] at hj
            split at hj
            · simpa using hj
            · cases hj)
          (All2.of_get (by simp; omega) fun j c u hc hu => by
            simp only [List.getElem?_take] at hc hu
            split at hc
            · rw [if_pos ‹_›] at hu
              simp only [List.getElem?_drop] at hc hu
              obtain ⟨u', hu', hcc⟩ := ha.get hc
              rw [hu'] at hu
              cases hu
              exact hcc
            · cases hc) hA
        exact ⟨rfl, val, by simp [Instr.loadAt, Instr.sureAddr, h1], h2⟩
      · cases hr
    · -- an element of an array of one's own
      rename_i id ver k off
      cases hp
      simp only [List.append_nil] at hr
      rw [restr_in (List.mem_singleton.2 rfl)] at hr
      split at hr
      · rename_i n e xs hb
        obtain ⟨hv, hr1⟩ := cond_some hr
        clear hr
        obtain rfl := beq_true hv
        split at hr1
        · rename_i cs hcs
          rw [Option.map_eq_some_iff] at hr1
          obtain ⟨A, hA, rfl⟩ := hr1
          simp at hc
          obtain ⟨b, l, c, hg, rfl⟩ := eptr_arr hb hx
          rcases arr_live hm hb with ⟨hg', hxs⟩ | ⟨b', c', vs, E, hg', hw, hl, hz, hrows⟩
          · rw [hxs] at hc
            simp at hc
          · rw [hg] at hg'
            cases hg'
            have hk : xs[k]? = some (xs.getD k e.zero) := by
              rw [List.getD_eq_getElem?_getD, List.getElem?_eq_getElem hc]
              rfl
            have hrow := (hrows k _ hk).drop (m := off)
            obtain ⟨us, hul, hlk, ha⟩ := first_ok (m := m) (g := g) hcs hrow
            obtain ⟨val, h1, h2⟩ := loadVar_ok (m := m) (g := g) (S := S) ok (a := ⟨b, k * e.len + off, none⟩) hul (fun j u hj => by rw [cell_blk hw]; exact hlk j u hj) ha hA
            exact ⟨rfl, val, by simp [Instr.loadAt, Instr.sureAddr, h1], h2⟩
        · cases hr1
      · cases hr
    · cases hp


/-! data out of cells -/
theorem castTo_ok {t' t : Ty} {x : t'.den} {y : t.den} (h : castTo t x = some y) : ∃ e : t' = t, y = e ▸ x := by
  unfold castTo at h
  split at h
  · rename_i e _
    simp at h
    exact ⟨e, h.symm⟩
  · cases h
theorem castRows_ok {t' t : Tys} {x : List t'.den} {y : List t.den} (h : castRows t x = some y) : ∃ e : t' = t, y = e ▸ x := by
  unfold castRows at h
  split at h
  · rename_i e _
    simp at h
    exact ⟨e, h.symm⟩
  · cases h

theorem own_map {id n : Nat} {ks : List ByteArray} (h : m id = .map n ks) : own m g id = blkOf (g id) := by
  unfold own
  rw [h]
theorem own_arr {id n : Nat} {e : Tys} {xs : List e.den} (h : m id = .arr n e xs) : own m g id = blkOf (g id) := by
  unfold own
  rw [h]

/-- What a reference leads to, as data. -/
theorem refRows_ok (hm : MRel m g S w) {S' : Nat → Prop} (hs : ∀ b, S b → S' b) {id ver : Nat} {e : Tys} {xs : List e.den} {v : Value} (h : refRows m id ver e = some xs) (hv : Ac m g S w (.c (.ref id ver)) v)
    (hb : ∀ b, own m g id = some b → S' b) : Rd w S' (.sl e) xs v := by
  unfold refRows at h
  split at h
  · rename_i n e' ys ho
    obtain ⟨hn, h1⟩ := cond_some h
    clear h
    obtain rfl := beq_true hn
    obtain ⟨rfl, rfl⟩ := castRows_ok h1
    rw [ref_arr ho hv]
    exact Rd.ofArr hs (arr_live hm ho) fun b hb' => hb b (by rw [own_arr ho]; exact hb')
  · rename_i n e' ys ho
    obtain ⟨hn, h1⟩ := cond_some h
    clear h
    obtain rfl := beq_true hn
    obtain ⟨rfl, rfl⟩ := castRows_ok h1
    rw [ref_frz ho hv]
    exact Rd.mono (Hold.refl S w) hs _ _ _ (frz_rd hm ho)
  · cases h

theorem Rd.slice {S' : Nat → Prop} (hs : ∀ b, S b → S' b) {e : Tys} {xs : List e.den} {a : Option Addr} {len cap : Nat} (h : Rd w S' (.sl e) xs (.slice a len cap)) {l k : Nat} (h1 : l ≤ k) (h2 : k ≤ xs.length) :
    Rd w S' (.sl e) ((xs.take k).drop l) (.slice (if cap = l then a else a.map (·.add (l * e.len))) (k - l) (cap - l)) := by
  obtain ⟨a', c', hv, hl, hr⟩ := h
  cases hv
  have hlen : ((xs.take k).drop l).length = k - l := by simp; omega
  refine ⟨_, cap - l, by rw [← hlen], by show List.length (List.drop l (List.take k xs)) ≤ _; rw [hlen]; have : (show List e.den from xs).length ≤ cap := hl; have : xs.length ≤ cap := hl; omega, fun i r hi => ?_⟩
  have hi' : ((xs.take k).drop l)[i]? = some r := hi
  rw [List.getElem?_drop, List.getElem?_take] at hi'
  split at hi'
  · rename_i hlt
    obtain ⟨ad, ha, hS, hrow⟩ := hr (l + i) r hi'
    cases ha
    have hcl : xs.length ≤ cap := hl
    have hne : ¬ cap = l := by
      have := (List.getElem?_eq_some_iff.1 hi').1
      omega
    rw [if_neg hne]
    refine ⟨ad.add (l * e.len), rfl, by rw [Addr.add_block]; exact hS, ?_⟩
    have e1 : (l + i) * e.len = l * e.len + i * e.len := by rw [Nat.add_mul]
    rw [e1] at hrow
    refine RdRow.congr (fun j => ?_) (RdRow.shift (k := i * e.len) (m := l * e.len) (l := fun k => w.cell? (ad.add k)) hrow)
    rw [Addr.add_add]
  · cases hi'

theorem self_ref (hm : MRel m g S w) {id ver : Nat} {e : Tys} {xs : List e.den} (h : refRows m id ver e = some xs) : Ac m g S w (.c (.ref id ver)) (g id) ∧ ∃ (a : Option Addr) (c : Nat), g id = .slice a xs.length c := by
  unfold refRows at h
  split at h
  · rename_i n e' ys ho
    obtain ⟨hn, h1⟩ := cond_some h
    clear h
    obtain rfl := beq_true hn
    obtain ⟨rfl, rfl⟩ := castRows_ok h1
    have hg : ∃ (a : Option Addr) (c : Nat), g id = .slice a xs.length c := by
      rcases arr_live hm ho with ⟨hg, hx⟩ | ⟨b, c, vs, E, hg, _⟩
      · refine ⟨none, 0, ?_⟩
        rw [hg, hx]
        rfl
      · exact ⟨_, _, hg⟩
    obtain ⟨a, c, hg⟩ := hg
    refine ⟨⟨?_, by rw [hg]; rfl⟩, a, c, hg⟩
    unfold RefOk
    rw [ho]
    exact .inr ⟨rfl, rfl⟩
  · rename_i n e' ys ho
    obtain ⟨hn, h1⟩ := cond_some h
    clear h
    obtain rfl := beq_true hn
    obtain ⟨rfl, rfl⟩ := castRows_ok h1
    obtain ⟨a, c, hg, _⟩ := frz_rd hm ho
    refine ⟨⟨?_, by rw [hg]; rfl⟩, a, c, hg⟩
    unfold RefOk
    rw [ho]
    exact .inr ⟨rfl, rfl⟩
  · cases h
theorem part_live {id ver lo hi : Nat} {e : Tys} {xs : List e.den} {v : Value} (h : refRows m id ver e = some xs) (hv : Cc m g S w (.part id ver lo hi) v) : PartV (g id) v e.len lo hi := by
  obtain ⟨hv, _⟩ := hv
  unfold PartOk at hv
  unfold refRows at h
  split at h
  · rename_i n e' ys ho
    obtain ⟨hn, h1⟩ := cond_some h
    obtain rfl := beq_true hn
    obtain ⟨rfl, rfl⟩ := castRows_ok h1
    rw [ho] at hv
    rcases hv with hv | ⟨_, hv⟩
    · omega
    · exact hv
  · rename_i n e' ys ho
    obtain ⟨hn, h1⟩ := cond_some h
    obtain rfl := beq_true hn
    obtain ⟨rfl, rfl⟩ := castRows_ok h1
    rw [ho] at hv
    rcases hv with hv | ⟨_, hv⟩
    · omega
    · exact hv
  · cases h
theorem toD_ok (hm : MRel m g S w) {S' : Nat → Prop} (hs : ∀ b, S b → S' b) {t : Ty} {c : C} {x : t.den} {v : Value} (h : toD m t c = some x) (hv : Cc m g S w c v)
    (hb : ∀ id ∈ refIds [c], ∀ b, own m g id = some b → S' b) : Rd w S' t x v := by
  unfold toD at h
  split at h
  · obtain ⟨rfl, rfl⟩ := castTo_ok h
    exact Rd.mono (Hold.refl S w) hs _ _ _ hv
  · simp at h
    subst h
    have hv : v = .slice none 0 0 := hv
    subst hv
    exact ⟨none, 0, rfl, Nat.le_refl _, fun i r hi => by simp at hi⟩
  · rename_i e id ver
    exact refRows_ok hm hs h hv (hb id (by simp [refIds]))
  · rename_i e id ver lo hi
    split at h
    · rename_i xs hx
      cases h
      obtain ⟨a, l, c, hg, h1, h2, h3, rfl⟩ := part_live hx hv
      obtain ⟨hself, a', c', hg'⟩ := self_ref hm hx
      rw [hg] at hg'
      cases hg'
      have hr := refRows_ok hm hs hx hself (hb id (by simp [refIds]))
      rw [hg] at hr
      exact Rd.slice (fun _ h => h) hr h1 h2
    · cases h
  · cases h

/-! an element's address -/
theorem run_indexAt {t e : Nat} {iv : IntKind} {n : Int} {a : Addr} {len cap : Nat} {inf : TypeInfo} (ht : P.underlying t = some (.slice e)) (he : P.info? e = some inf) (h0 : 0 ≤ n) (h1 : n < len) :
    (Instr.indexAt t (.slice (some a) len cap) (.int iv n)).run P w = .ok (.pointer (some (a.add (n.toNat * inf.size)))) w := by
  unfold Instr.indexAt
  simp only [Sem.run_bind, asIntOf, Sem.run_pure, Result.andThen_ok, run_underlying' ht]
  rw [if_pos ⟨h0, h1⟩]
  simp only [Sem.run_bind, run_sizeOf' he, Result.andThen_ok, Sem.run_pure]

theorem elemI_ok {T : Tab} (hT : TabOk P T) {t e : Nat} {j : TyI} (h : elemI T t = some (e, j)) : P.underlying t = some (.slice e) ∧ TyOk P e j := by
  unfold elemI at h
  split at h
  · rename_i i hi
    split at h
    · rename_i e' he
      rw [Option.map_eq_some_iff] at h
      obtain ⟨j', hj, h⟩ := h
      cases h
      obtain ⟨d, hd, _, h1, _⟩ := (hT t i hi).und
      rw [hd, h1 _ he]
      exact ⟨rfl, hT _ _ hj⟩
    · cases h
  · cases h

theorem asInt_ok {x : A} {n : Int} {v : Value} (h : asInt? x = some n) (hv : Ac m g S w x v) : ∃ k, v = .int k n := by
  unfold asInt? at h
  split at h
  · simp at h
    subst h
    exact ⟨_, hv⟩
  · cases h

theorem getD_some {α : Type} {xs : List α} {n : Nat} {z : α} (h : n < xs.length) : xs[n]? = some (xs.getD n z) := by
  rw [List.getD_eq_getElem?_getD, List.getElem?_eq_getElem h]
  rfl

theorem vptr_of {e : Tys} {r : e.den} {ad : Addr} {k : Nat} (hS : S ad.block) (h : RdRow w S e (fun k => w.cell? (ad.add k)) r k) : Cc m g S w (.vptr e r) (.pointer (some (ad.add k))) := by
  refine ⟨_, rfl, by rw [Addr.add_block]; exact hS, ?_⟩
  refine RdRow.congr (fun j => ?_) (RdRow.shift (k := 0) (m := k) (l := fun k => w.cell? (ad.add k)) h)
  rw [Addr.add_add]

theorem idx_ok (hT : TabOk P T) (hm : MRel m g S w) {t : Nat} {x : A} {v : Value} (hx : Ac m g S w x v) {n : Int} {iv : IntKind} {p : Plan} (hp : idxP T t x n = some p) {r : Res} (hr : p.go (restr (p.rd ++ p.wr) m) = some r) (hc : r.cs.all (fun b => b) = true) :
    r.ws = [] ∧ ∃ val, (Instr.indexAt t v (.int iv n)).run P w = .ok val w ∧ Ac m g S w r.v val := by
  unfold idxP at hp
  split at hp
  · cases hp
  · rename_i e' j hj
    obtain ⟨hu, hj'⟩ := elemI_ok hT hj
    obtain ⟨inf, hinf, hsz, _⟩ := hj'.info
    split at hp
    · rename_i e xs
      obtain ⟨hl, hp1⟩ := cond_some hp
      cases hp1
      simp at hr
      subst hr
      simp at hc
      obtain ⟨a, c, rfl, hlc, hrow⟩ := hx
      have hlt : n.toNat < List.length (α := e.den) xs := by have := hc.2; omega
      obtain ⟨ad, rfl, hS, hr⟩ := hrow n.toNat _ (getD_some (z := e.zero) hlt)
      refine ⟨rfl, _, run_indexAt hu hinf hc.1 hc.2, ?_⟩
      rw [hsz, beq_true hl]
      exact vptr_of (m := m) (g := g) hS hr
    · cases hp
      simp at hr
      subst hr
      simp at hc
    · rename_i id ver
      cases hp
      simp only [List.append_nil] at hr
      rw [restr_in (List.mem_singleton.2 rfl)] at hr
      split at hr
      · rename_i k e xs ho
        obtain ⟨hb, hr1⟩ := cond_some hr
        obtain ⟨hv, hl⟩ := and_true hb
        obtain rfl := beq_true hv
        cases hr1
        simp at hc
        have hlt : n.toNat < xs.length := by omega
        have hvg := ref_arr ho hx
        rcases arr_live hm ho with ⟨hg', hxs⟩ | ⟨b, c', vs, E, hg', hw, hlc, hz, hrows⟩
        · rw [hxs] at hlt
          simp at hlt
        · rw [hvg, hg']
          refine ⟨rfl, _, run_indexAt hu hinf hc.1 hc.2, ?_⟩
          refine ⟨?_, rfl⟩
          unfold EptrOk
          rw [ho]
          refine .inr ⟨rfl, b, _, _, hg', ?_⟩
          rw [hsz, beq_true hl]
          unfold Go.Addr.add
          split
          · rename_i h0
            rw [h0]
          · simp
      · rename_i k e xs ho
        obtain ⟨hb, hr1⟩ := cond_some hr
        obtain ⟨hv, hl⟩ := and_true hb
        obtain rfl := beq_true hv
        cases hr1
        simp at hc
        have hlt : n.toNat < xs.length := by omega
        have hvg := ref_frz ho hx
        obtain ⟨a, c, hga, hlc, hrow⟩ := frz_rd hm ho
        obtain ⟨ad, rfl, hS, hr⟩ := hrow n.toNat _ (getD_some (z := e.zero) hlt)
        rw [hvg, hga]
        refine ⟨rfl, _, run_indexAt hu hinf hc.1 hc.2, ?_⟩
        rw [hsz, beq_true hl]
        exact vptr_of (m := m) (g := g) hS hr
      · cases hr
    · cases hp

/-! lengths -/
theorem len_ok (hT : TabOk P T) (hm : MRel m g S w) {t ty : Nat} {x : A} {v : Value} (hx : Ac m g S w x v) {p : Plan} (hp : lenP T t x = some p) {r : Res} (hr : p.go (restr (p.rd ++ p.wr) m) = some r) :
    r.ws = [] ∧ ∃ val, (Builtin.len_ #[t] ty #[v]).run P w = .ok val w ∧ Ac m g S w r.v val := by
  unfold lenP at hp
  split at hp
  · cases hp
  · rename_i i hi
    obtain ⟨dsc, hd, _, he, _, hst, _⟩ := (hT t i hi).und
    have sl : ∀ (a : Option Addr) (n c : Nat), i.elem.isSome = true → (Builtin.len_ #[t] ty #[.slice a n c]).run P w = .ok (.int .i64 n) w := fun a n c h => by
      cases hel : i.elem with
      | none => rw [hel] at h; cases h
      | some e =>
        rw [he e hel] at hd
        simp [Builtin.len_, run_underlying' hd, goInt]
    have st : ∀ (s : ByteArray), i.isStr = true → (Builtin.len_ #[t] ty #[.string s]).run P w = .ok (.int .i64 s.size) w := fun s h => by
      rw [hst h] at hd
      simp [Builtin.len_, run_underlying' hd, goInt]
    split at hp
    · rename_i s
      obtain ⟨hs, hp⟩ := cond_some hp
      cases hp
      simp at hr
      subst hr
      have hx : v = .string s := hx
      subst hx
      exact ⟨rfl, _, st s hs, rfl⟩
    · rename_i e xs
      obtain ⟨hs, hp⟩ := cond_some hp
      cases hp
      simp at hr
      subst hr
      obtain ⟨a, c, rfl, _⟩ := hx
      exact ⟨rfl, _, sl _ _ _ hs, rfl⟩
    · obtain ⟨hs, hp⟩ := cond_some hp
      cases hp
      simp at hr
      subst hr
      have hx : v = .slice none 0 0 := hx
      subst hx
      exact ⟨rfl, _, sl _ _ _ hs, rfl⟩
    · rename_i id ver
      obtain ⟨hs, hp⟩ := cond_some hp
      cases hp
      simp only [List.append_nil] at hr
      rw [restr_in (List.mem_singleton.2 rfl)] at hr
      split at hr
      · rename_i k e xs ho
        obtain ⟨hv, hr1⟩ := cond_some hr
        obtain rfl := beq_true hv
        cases hr1
        rw [ref_arr ho hx]
        rcases arr_live hm ho with ⟨hg', hxs⟩ | ⟨b, c', vs, E, hg', _⟩
        · rw [hg', hxs]
          exact ⟨rfl, _, sl _ _ _ hs, rfl⟩
        · rw [hg']
          exact ⟨rfl, _, sl _ _ _ hs, rfl⟩
      · rename_i k e xs ho
        obtain ⟨hv, hr1⟩ := cond_some hr
        obtain rfl := beq_true hv
        cases hr1
        rw [ref_frz ho hx]
        obtain ⟨a, c, hga, _⟩ := frz_rd hm ho
        rw [hga]
        exact ⟨rfl, _, sl _ _ _ hs, rfl⟩
      · cases hr
    · cases hp

/-! slices of strings and of data -/
theorem run_sliceBounds_ok (isS : Bool) (len cap : Nat) (lo hi : Option Int) {kl kh : IntKind} (h0 : 0 ≤ lo.getD 0) (h1 : lo.getD 0 ≤ hi.getD len) (h2 : hi.getD (len : Int) ≤ cap) (h3 : 0 ≤ hi.getD (len : Int)) :
    (Instr.sliceBounds isS len cap (lo.map (Value.int kl)) (hi.map (Value.int kh)) none).run P w = .ok ((lo.getD 0).toNat, (hi.getD (len : Int)).toNat, cap) w := by
  unfold Instr.sliceBounds
  cases hi with
  | none =>
    cases lo with
    | none => simp
    | some l =>
      simp at h0 h1
      simp [Instr.sliceBound, asIntOf, h0, h1]
  | some h =>
    simp at h2 h3
    cases lo with
    | none => simp [Instr.sliceBound, asIntOf, h2, h3]
    | some l =>
      simp at h0 h1
      simp [Instr.sliceBound, asIntOf, h0, h1, h2, h3]
      intro hh
      omega

theorem boundI_ok {x : Option A} {l : Option Int} {ev : Operand → A} {ρ : Operand → Value} (hc : ∀ x, Ac m g S w (ev x) (ρ x)) {o : Option Operand} (h : boundI (o.map ev) = some l) : ∃ k, o.map ρ = l.map (Value.int k) := by
  cases o with
  | none =>
    simp [boundI] at h
    subst h
    exact ⟨.i64, rfl⟩
  | some o =>
    simp only [boundI, Option.map_some] at h
    split at h
    · rename_i n hn
      cases h
      obtain ⟨k, hk⟩ := asInt_ok hn (hc o)
      exact ⟨k, by simp [hk]⟩
    · cases h

theorem run_slice_sl {t e : Nat} {inf : TypeInfo} (ht : P.underlying t = some (.slice e)) (he : P.info? e = some inf) {a : Option Addr} {len cap : Nat} (lo hi : Option Int) {kl kh : IntKind}
    (h0 : 0 ≤ lo.getD 0) (h1 : lo.getD 0 ≤ hi.getD len) (h2 : hi.getD (len : Int) ≤ cap) (h3 : 0 ≤ hi.getD (len : Int)) :
    (Instr.sliceAt t (.slice a len cap) (lo.map (Value.int kl)) (hi.map (Value.int kh)) none).run P w =
      .ok (.slice (if cap = (lo.getD 0).toNat then a else a.map (·.add ((lo.getD 0).toNat * inf.size))) ((hi.getD (len : Int)).toNat - (lo.getD 0).toNat) (cap - (lo.getD 0).toNat)) w := by
  unfold Instr.sliceAt
  simp only [Sem.run_bind, run_underlying' ht, Result.andThen_ok]
  unfold Instr.slice
  simp only [Sem.run_bind, run_underlying' ht, Result.andThen_ok, run_sliceBounds_ok _ _ _ _ _ h0 h1 h2 h3, run_sizeOf' he, Sem.run_pure]
theorem run_slice_str {t : Nat} (ht : P.underlying t = some .string) {s : ByteArray} (lo hi : Option Int) {kl kh : IntKind}
    (h0 : 0 ≤ lo.getD 0) (h1 : lo.getD 0 ≤ hi.getD s.size) (h2 : hi.getD (s.size : Int) ≤ s.size) (h3 : 0 ≤ hi.getD (s.size : Int)) :
    (Instr.sliceAt t (.string s) (lo.map (Value.int kl)) (hi.map (Value.int kh)) none).run P w = .ok (.string (s.extract (lo.getD 0).toNat (hi.getD (s.size : Int)).toNat)) w := by
  unfold Instr.sliceAt
  simp only [Sem.run_bind, run_underlying' ht, Result.andThen_ok]
  unfold Instr.slice
  simp only [Sem.run_bind, run_underlying' ht, Result.andThen_ok, run_sliceBounds_ok _ _ _ _ _ h0 h1 h2 h3, Sem.run_pure, Option.isSome_none, Bool.false_eq_true, if_false]

/-! '==' of structs -/
theorem cellEq_ok {x y : C} {b : Bool} {vx vy : Value} (h : cellEq x y = some b) {t : Ty} (tx : cellTy x t = true) (ty : cellTy y t = true) (hx : Cc m g S w x vx) (hy : Cc m g S w y vy) :
    (∃ k a c, t = .int k ∧ vx = .int k a ∧ vy = .int k c ∧ b = (a == c)) ∨ (∃ a c, t = .bool ∧ vx = .bool a ∧ vy = .bool c ∧ b = (a == c)) ∨ (∃ a c, t = .str ∧ vx = .string a ∧ vy = .string c ∧ b = strEq a c) := by
  unfold cellEq at h
  split at h
  · rename_i k a k' c
    split at h
    · rename_i hk
      subst hk
      cases h
      cases t <;> simp [cellTy] at tx
      subst tx
      exact .inl ⟨k, a, c, rfl, hx, hy, rfl⟩
    · cases h
  · cases h
    cases t <;> simp [cellTy] at tx
    exact .inr (.inl ⟨_, _, rfl, hx, hy, rfl⟩)
  · cases h
    cases t <;> simp [cellTy] at tx
    exact .inr (.inr ⟨_, _, rfl, hx, hy, rfl⟩)
  · cases h

/-- The fields of a type, each one cell, as a list of types says. -/
def fieldsB (P : Program) : List Field → Nat → Tys → Bool
  | [], _, .nil => true
  | f :: fs, k, .cons t ts => !(f.name == "_") && ((f.offset == k) && ((match t, P.underlying f.type with
      | .int k, some (.int k') => decide (k = k')
      | .bool, some .bool => true
      | .str, some .string => true
      | _, _ => false) && fieldsB P fs (k + 1) ts))
  | _, _, _ => false

theorem part_one {t : Nat} {d : TypeDesc} (hd : P.underlying t = some d) (ha : aggDesc d = false) {cs : Array Value} {off : Nat} {v : Value} (hv : cs[off]? = some v) : (part t cs off).run P w = .ok v w := by
  unfold part
  rw [Sem.run_bind, run_isAgg' hd]
  simp [ha, hv]

theorem eqFields_ok {d : Nat} {vx vy : Array Value} : ∀ {fs : List Field} {k : Nat} {ts : Tys} {xs ys : List C} {b : Bool} {us vs : List Value}, fieldsB P fs k ts = true → cellsEq xs ys = some b → cellsTy xs ts = true → cellsTy ys ts = true →
    All2 (Cc m g S w) xs us → All2 (Cc m g S w) ys vs → (∀ (j : Nat) u, us[j]? = some u → vx[k + j]? = some u) → (∀ (j : Nat) u, vs[j]? = some u → vy[k + j]? = some u) →
    (Op.eqFields (d + 1) vx vy fs).run P w = .ok b w
  | [], k, .nil, [], [], b, us, vs, _, h, _, _, _, _, _, _ => by
    simp [cellsEq] at h
    subst h
    rfl
  | f :: fs, k, .cons t ts, x :: xs, y :: ys, b, u :: us, v :: vs, hf, h, tx, ty, hx, hy, lx, ly => by
    simp only [fieldsB, Bool.and_eq_true, Bool.not_eq_true', beq_eq_false_iff_ne, ne_eq, beq_iff_eq] at hf
    obtain ⟨hn, ho, ht, hf⟩ := hf
    simp only [cellsEq] at h
    split at h
    · rename_i b1 b2 h1 h2
      cases h
      obtain ⟨tx1, tx2⟩ := and_true tx
      obtain ⟨ty1, ty2⟩ := and_true ty
      have ih := eqFields_ok (d := d) hf h2 tx2 ty2 hx.2 hy.2 (fun j z hj => by have := lx (j + 1) z (by simpa using hj); rw [← this]; congr 1; omega) (fun j z hj => by have := ly (j + 1) z (by simpa using hj); rw [← this]; congr 1; omega)
      have l0 := lx 0 u rfl
      have l1 := ly 0 v rfl
      rw [Nat.add_zero, ← ho] at l0 l1
      unfold Op.eqFields
      rw [if_pos hn]
      have fin : ∀ dsc, P.underlying f.type = some dsc → aggDesc dsc = false → (Op.equalIn (d + 1) f.type u v).run P w = .ok b1 w →
          (do
            let a ← part f.type vx f.offset
            let b ← part f.type vy f.offset
            let r ← Op.equalIn (d + 1) f.type a b
            if (!r) = true then pure false else Op.eqFields (d + 1) vx vy fs : Sem Bool).run P w = .ok (b1 && b2) w := fun dsc hd ha he => by
        simp only [Sem.run_bind, part_one hd ha l0, part_one hd ha l1, Result.andThen_ok, he]
        cases b1
        · simp
        · simp [ih]
      rcases cellEq_ok h1 tx1 ty1 hx.1 hy.1 with ⟨q, a, c, rfl, rfl, rfl, rfl⟩ | ⟨a, c, rfl, rfl, rfl, rfl⟩ | ⟨a, c, rfl, rfl, rfl, rfl⟩
      · cases hd : P.underlying f.type with
        | none => rw [hd] at ht; cases ht
        | some dsc =>
          rw [hd] at ht
          cases dsc <;> first | (cases ht; done) | exact fin _ hd rfl (run_equalIn_int _ _ _ _ _ _ _ hd)
      · cases hd : P.underlying f.type with
        | none => rw [hd] at ht; cases ht
        | some dsc =>
          rw [hd] at ht
          cases dsc <;> first | (cases ht; done) | exact fin _ hd rfl (run_equalIn_bool' _ _ _ _ _ hd)
      · cases hd : P.underlying f.type with
        | none => rw [hd] at ht; cases ht
        | some dsc =>
          rw [hd] at ht
          cases dsc <;> first | (cases ht; done) | exact fin _ hd rfl (by rw [run_equalIn_string _ _ _ _ _ hd, strEq_toList])
    · cases h
  | [], _, .cons _ _, _, _, _, _, _, hf, _, _, _, _, _, _, _ => by simp [fieldsB] at hf
  | _ :: _, _, .nil, _, _, _, _, _, hf, _, _, _, _, _, _, _ => by simp [fieldsB] at hf
  | [], _, .nil, _ :: _, _, _, _, _, _, _, tx, _, _, _, _, _ => by simp [cellsTy] at tx
  | [], _, .nil, [], _ :: _, _, _, _, _, _, _, ty, _, _, _, _ => by simp [cellsTy] at ty
  | _ :: _, _, .cons _ _, [], _, _, _, _, _, _, tx, _, _, _, _, _ => by simp [cellsTy] at tx
  | _ :: _, _, .cons _ _, _ :: _, [], _, _, _, _, _, _, ty, _, _, _, _ => by simp [cellsTy] at ty
  | _ :: _, _, .cons _ _, _ :: _, _ :: _, _, [], _, _, _, _, _, hx, _, _, _ => hx.elim
  | _ :: _, _, .cons _ _, _ :: _, _ :: _, _, _ :: _, [], _, _, _, _, _, hy, _, _ => hy.elim

end
end Go.Rx

/-
  ENGINE, part I: new variables and arrays, appends.
  Seat-independent.
-/
import Derived.Test.YtoagkidolpcigaaRxH
import Derived.Laws.MakeOwn
namespace Go.Rx
open Go Go.RowKit
set_option linter.unusedVariables false
set_option linter.unusedSimpArgs false

section
variable {P : Program} {T : Tab} {m : Mem} {g : Nat → Value} {S : Nat → Prop} {w : World}

/-- A slice value that is an array's own. -/
def ArrV (w : World) (S : Nat → Prop) (e : Tys) (xs : List e.den) (v : Value) : Prop :=
  (v = .slice none 0 0 ∧ xs = []) ∨ ∃ (b c : Nat) (vs : Array Value) (E : TypeId), v = .slice (some ⟨b, 0, none⟩) xs.length c ∧ w.heap[b]? = some (.cells vs E (0, 0)) ∧ xs.length ≤ c ∧ vs.size = c * e.len ∧
    ∀ (i : Nat) (r : e.den), xs[i]? = some r → RdRow w S e (fun k => vs[k]?) r (i * e.len)

/-- Cells that read as rows. -/
def RowsV (w : World) (S : Nat → Prop) (e : Tys) (ys : List e.den) (news : List Value) : Prop :=
  news.length = ys.length * e.len ∧ ∀ (i : Nat) (r : e.den), ys[i]? = some r → RdRow w S e (fun k => news[k]?) r (i * e.len)

theorem RdRow.isSome : ∀ {ts : Tys} {l : Nat → Option Value} {r : ts.den} {k j : Nat}, RdRow w S ts l r k → k ≤ j → j < k + ts.len → ∃ v, l j = some v
  | .nil, _, _, _, _, _, h1, h2 => by simp [Tys.len] at h2; omega
  | .cons t ts, l, r, k, j, h, h1, h2 => by
    obtain ⟨⟨v, hv, _⟩, hr⟩ := h
    by_cases hj : j = k
    · subst hj
      exact ⟨v, hv⟩
    · exact RdRow.isSome hr (by omega) (by simp [Tys.len] at h2; omega)

theorem rows_of_rd {e : Tys} {ys : List e.den} {v : Value} (h : Rd w S (.sl e) ys v) : ∃ (a : Option Addr) (c : Nat) (news : List Value), v = .slice a ys.length c ∧ RowsV w S e ys news ∧
    (ys = [] ∨ ∃ ad, a = some ad ∧ ∀ (j : Nat) u, news[j]? = some u → w.cell? (ad.add j) = some u) := by
  obtain ⟨a, c, rfl, hl, hr⟩ := h
  cases hys : ys with
  | nil => exact ⟨a, c, [], rfl, ⟨by simp, fun i r hi => by simp at hi⟩, .inl rfl⟩
  | cons y ys' =>
    rw [← hys]
    obtain ⟨ad, rfl, hS, _⟩ := hr 0 y (by rw [hys]; rfl)
    refine ⟨some ad, c, (List.range (ys.length * e.len)).map fun k => (w.cell? (ad.add k)).getD undef, rfl, ⟨by simp, fun i r hi => ?_⟩, .inr ⟨ad, rfl, fun j u hj => ?_⟩⟩
    · obtain ⟨ad', ha, _, hrow⟩ := hr i r hi
      cases ha
      refine RdRow.local_ (fun j h1 h2 => ?_) hrow
      have hil := (List.getElem?_eq_some_iff.1 hi).1
      have : (i + 1) * e.len ≤ ys.length * e.len := Nat.mul_le_mul_right _ hil
      rw [Nat.add_mul, Nat.one_mul] at this
      obtain ⟨u, hu⟩ := hrow.isSome h1 h2
      have hu : w.cell? (ad.add j) = some u := hu
      show w.cell? (ad.add j) = _
      rw [hu, List.getElem?_map, List.getElem?_range (by omega)]
      simp [hu]
    · rw [List.getElem?_map] at hj
      by_cases hlt : j < ys.length * e.len
      · rw [List.getElem?_range hlt] at hj
        simp at hj
        have h0 : 0 < e.len := by
          rcases Nat.eq_zero_or_pos e.len with h | h
          · rw [h] at hlt
            simp at hlt
          · exact h
        have hi : j / e.len < ys.length := Nat.div_lt_of_lt_mul (by rw [Nat.mul_comm]; exact hlt)
        obtain ⟨ad', ha, _, hrow⟩ := hr (j / e.len) _ (getD_some (z := e.zero) hi)
        cases ha
        obtain ⟨u', hu'⟩ := hrow.isSome (j := j) (Nat.div_mul_le_self j e.len) (by have := Nat.lt_div_mul_add (a := j) h0; omega)
        have hu' : w.cell? (ad.add j) = some u' := hu'
        rw [hu'] at hj ⊢
        simpa using hj
      · rw [List.getElem?_eq_none (by simp; omega)] at hj
        simp at hj

theorem rows_of_arr {e : Tys} {ys : List e.den} {v : Value} (h : ArrV w S e ys v) : ∃ (a : Option Addr) (c : Nat) (news : List Value), v = .slice a ys.length c ∧ RowsV w S e ys news ∧
    (ys = [] ∨ ∃ ad, a = some ad ∧ ∀ (j : Nat) u, news[j]? = some u → w.cell? (ad.add j) = some u) := by
  rcases h with ⟨rfl, rfl⟩ | ⟨b, c, vs, E, rfl, hw, hl, hz, hr⟩
  · exact ⟨none, 0, [], rfl, ⟨by simp, fun i r hi => by simp at hi⟩, .inl rfl⟩
  · have hle : ys.length * e.len ≤ vs.size := by rw [hz]; exact Nat.mul_le_mul_right _ hl
    refine ⟨_, c, vs.toList.take (ys.length * e.len), rfl, ⟨by simp; omega, fun i r hi => ?_⟩, .inr ⟨_, rfl, fun j u hj => ?_⟩⟩
    · refine RdRow.local_ (fun j h1 h2 => ?_) (hr i r hi)
      have hil := (List.getElem?_eq_some_iff.1 hi).1
      have : (i + 1) * e.len ≤ ys.length * e.len := Nat.mul_le_mul_right _ hil
      rw [Nat.add_mul, Nat.one_mul] at this
      rw [List.getElem?_take, if_pos (by omega)]
      simp
    · rw [cell_blk hw, Nat.zero_add]
      rw [List.getElem?_take] at hj
      split at hj
      · simpa using hj
      · cases hj

theorem rows_part {e : Tys} {ys : List e.den} {gv v : Value} {lo hi : Nat} (h : ∃ (a : Option Addr) (c : Nat) (news : List Value), gv = .slice a ys.length c ∧ RowsV w S e ys news ∧
    (ys = [] ∨ ∃ ad, a = some ad ∧ ∀ (j : Nat) u, news[j]? = some u → w.cell? (ad.add j) = some u)) (hp : PartV gv v e.len lo hi) : ∃ (a : Option Addr) (c : Nat) (news : List Value), v = .slice a ((ys.take hi).drop lo).length c ∧ RowsV w S e ((ys.take hi).drop lo) news ∧
    ((ys.take hi).drop lo = [] ∨ ∃ ad, a = some ad ∧ ∀ (j : Nat) u, news[j]? = some u → w.cell? (ad.add j) = some u) := by
  obtain ⟨a, c, news, rfl, ⟨hn, hr⟩, hc⟩ := h
  obtain ⟨a', l', c', hg, h1, h2, h3, rfl⟩ := hp
  cases hg
  have hlen : ((ys.take hi).drop lo).length = hi - lo := by simp; omega
  have hmul : lo * e.len + (hi - lo) * e.len = hi * e.len := by rw [← Nat.add_mul]; congr 1; omega
  have hle : hi * e.len ≤ ys.length * e.len := Nat.mul_le_mul_right _ h2
  refine ⟨_, c - lo, (news.drop (lo * e.len)).take ((hi - lo) * e.len), by rw [hlen], ⟨by rw [hlen]; simp; omega, fun i r hi' => ?_⟩, ?_⟩
  · have hil := (List.getElem?_eq_some_iff.1 hi').1
    rw [hlen] at hil
    rw [List.getElem?_drop, List.getElem?_take, if_pos (by omega)] at hi'
    have hrow := hr (lo + i) r hi'
    have e1 : (lo + i) * e.len = lo * e.len + i * e.len := by rw [Nat.add_mul]
    rw [e1] at hrow
    have hs := RdRow.shift (k := i * e.len) (m := lo * e.len) (l := fun k => news[k]?) hrow
    refine RdRow.local_ (fun j g1 g2 => ?_) hs
    have : (i + 1) * e.len ≤ (hi - lo) * e.len := Nat.mul_le_mul_right _ hil
    rw [Nat.add_mul, Nat.one_mul] at this
    rw [List.getElem?_take, if_pos (by omega), List.getElem?_drop]
  · rcases hc with hc | ⟨ad, rfl, hc⟩
    · left
      subst hc
      simp
    · by_cases hh : lo = hi
      · left
        subst hh
        have : ((ys.take lo).drop lo).length = 0 := by rw [hlen]; omega
        exact List.length_eq_zero_iff.1 this
      · right
        refine ⟨ad.add (lo * e.len), by rw [if_neg (by omega)]; rfl, fun j u hj => ?_⟩
        rw [Addr.add_add]
        rw [List.getElem?_take] at hj
        split at hj
        · rw [List.getElem?_drop] at hj
          exact hc _ u hj
        · cases hj
/-- Data that an append takes. -/
theorem rows_ok (hm : MRel m g S w) {e : Tys} {c : C} {ys : List e.den} {v : Value} (h : toD m (.sl e) c = some ys) (hv : Cc m g S w c v) : ∃ (a : Option Addr) (cp : Nat) (news : List Value), v = .slice a ys.length cp ∧ RowsV w S e ys news ∧
    (ys = [] ∨ ∃ ad, a = some ad ∧ ∀ (j : Nat) u, news[j]? = some u → w.cell? (ad.add j) = some u) := by
  cases c with
  | d t x =>
    obtain ⟨rfl, rfl⟩ := castTo_ok h
    exact rows_of_rd hv
  | nil =>
    cases h
    have hv : v = .slice none 0 0 := hv
    subst hv
    exact ⟨none, 0, [], rfl, ⟨by simp, fun i r hi => by simp at hi⟩, .inl rfl⟩
  | ref id ver =>
    have h : refRows m id ver e = some ys := h
    unfold refRows at h
    split at h
    · rename_i n e' zs ho
      obtain ⟨hn, h1⟩ := cond_some h
      clear h
      obtain rfl := beq_true hn
      obtain ⟨rfl, rfl⟩ := castRows_ok h1
      rw [ref_arr (S := S) (w := w) ho hv]
      exact rows_of_arr (arr_live hm ho)
    · rename_i n e' zs ho
      obtain ⟨hn, h1⟩ := cond_some h
      clear h
      obtain rfl := beq_true hn
      obtain ⟨rfl, rfl⟩ := castRows_ok h1
      rw [ref_frz (S := S) (w := w) ho hv]
      exact rows_of_rd (frz_rd hm ho)
    · cases h
  | part id ver lo hi =>
    have h : (match refRows m id ver e with
      | some xs => some ((xs.take hi).drop lo)
      | none => none) = some ys := h
    split at h
    · rename_i xs hx
      cases h
      refine rows_part ?_ (part_live hx hv)
      obtain ⟨hself, _⟩ := self_ref hm hx
      unfold refRows at hx
      split at hx
      · rename_i n e' zs ho
        obtain ⟨hn, h1⟩ := cond_some hx
        obtain rfl := beq_true hn
        obtain ⟨rfl, rfl⟩ := castRows_ok h1
        exact rows_of_arr (arr_live hm ho)
      · rename_i n e' zs ho
        obtain ⟨hn, h1⟩ := cond_some hx
        obtain rfl := beq_true hn
        obtain ⟨rfl, rfl⟩ := castRows_ok h1
        exact rows_of_rd (frz_rd hm ho)
      · cases hx
    · cases h
  | _ => cases h

theorem RowsV.hold {w' : World} {e : Tys} {ys : List e.den} {news : List Value} (h : RowsV w S e ys news) (hh : Hold S w w') : RowsV w' S e ys news :=
  ⟨h.1, fun i r hi => RdRow.mono hh (fun _ h => h) e _ _ (fun _ => rfl) _ _ (h.2 i r hi)⟩

/-- Rows out of an array made of cells that read as rows, and more behind. -/
theorem ArrV.mk {e : Tys} {xs : List e.den} {cells : List Value} (h : RowsV w S e xs cells) {b c : Nat} {vs : Array Value} {E : TypeId} (hw : w.heap[b]? = some (.cells vs E (0, 0))) (hz : vs.size = c * e.len) (hl : xs.length ≤ c)
    (hp : ∀ (j : Nat) u, cells[j]? = some u → vs[j]? = some u) : ArrV w S e xs (.slice (some ⟨b, 0, none⟩) xs.length c) :=
  .inr ⟨b, c, vs, E, rfl, hw, hl, hz, fun i r hi => RdRow.local_ (fun j h1 h2 => by
    have hil := (List.getElem?_eq_some_iff.1 hi).1
    have : (i + 1) * e.len ≤ xs.length * e.len := Nat.mul_le_mul_right _ hil
    rw [Nat.add_mul, Nat.one_mul] at this
    have hj : j < cells.length := by rw [h.1]; omega
    rw [List.getElem?_eq_getElem hj]
    exact (hp j _ (List.getElem?_eq_getElem hj)).symm) (h.2 i r hi)⟩

theorem RowsV.append {e : Tys} {xs ys : List e.den} {us vs : List Value} (h : RowsV w S e xs us) (k : RowsV w S e ys vs) : RowsV w S e (xs ++ ys) (us ++ vs) := by
  refine ⟨by rw [List.length_append, List.length_append, h.1, k.1, Nat.add_mul], fun i r hi => ?_⟩
  by_cases hlt : i < xs.length
  · rw [List.getElem?_append_left hlt] at hi
    refine RdRow.local_ (fun j h1 h2 => ?_) (h.2 i r hi)
    have : (i + 1) * e.len ≤ xs.length * e.len := Nat.mul_le_mul_right _ hlt
    rw [Nat.add_mul, Nat.one_mul] at this
    rw [List.getElem?_append_left (by rw [h.1]; omega)]
  · rw [List.getElem?_append_right (by omega)] at hi
    have hk := k.2 _ r hi
    have e1 : i * e.len = xs.length * e.len + (i - xs.length) * e.len := by rw [← Nat.add_mul]; congr 1; omega
    rw [e1]
    refine RdRow.unshift (RdRow.congr (fun j => ?_) hk)
    rw [List.getElem?_append_right (by rw [h.1]; omega), h.1]
    congr 1
    omega

theorem Rd.one {t : Ty} {x : t.den} {v : Value} (h : Rd w S t x v) : v.oneCell' = true := one_of (m := noMem) (g := fun _ => undef) (x := .d t x) rfl h
theorem RdRow.one : ∀ {ts : Tys} {l : Nat → Option Value} {r : ts.den} {k j : Nat} {u : Value}, RdRow w S ts l r k → k ≤ j → j < k + ts.len → l j = some u → u.oneCell' = true
  | .nil, _, _, _, _, _, _, h1, h2, _ => by simp [Tys.len] at h2; omega
  | .cons t ts, l, r, k, j, u, h, h1, h2, hu => by
    obtain ⟨⟨v, hv, hx⟩, hr⟩ := h
    by_cases hj : j = k
    · subst hj
      rw [hu] at hv
      cases hv
      exact hx.one
    · exact RdRow.one hr (by omega) (by simp [Tys.len] at h2; omega) hu
theorem RowsV.one {e : Tys} {ys : List e.den} {news : List Value} (h : RowsV w S e ys news) : ∀ u ∈ news, u.oneCell' = true := by
  intro u hu
  obtain ⟨j, hj⟩ := List.mem_iff_getElem?.1 hu
  have hlt := (List.getElem?_eq_some_iff.1 hj).1
  rw [h.1] at hlt
  have h0 : 0 < e.len := by
    rcases Nat.eq_zero_or_pos e.len with h | h
    · rw [h] at hlt
      simp at hlt
    · exact h
  have hi : j / e.len < ys.length := Nat.div_lt_of_lt_mul (by rw [Nat.mul_comm]; exact hlt)
  exact RdRow.one (h.2 _ _ (getD_some (z := e.zero) hi)) (Nat.div_mul_le_self j e.len) (by have := Nat.lt_div_mul_add (a := j) h0; omega) hj

/-- An append to an array of one's own, whichever road it takes. -/
theorem append_core {t ty el : Nat} {inf : TypeInfo} {z : Value} (ht : P.underlying t = some (.slice el)) (hi : P.info? el = some inf) (hz : inf.zero = some z) {e : Tys} (he : inf.size = e.len) (hzs : z.cells.size = e.len)
    {xs ys : List e.den} {sv : Value} (hs : ArrV w S e xs sv) (hS : ∀ b, blkOf sv = some b → ¬ S b) (hlt : ∀ b, S b → b < w.heap.size) {a : Option Addr} {cp : Nat} {news : List Value} (hn : RowsV w S e ys news)
    (hc : ys = [] ∨ ∃ ad, a = some ad ∧ ∀ (j : Nat) u, news[j]? = some u → w.cell? (ad.add j) = some u) (hb : (xs.length + ys.length) * inf.bytes ≤ 140737488355328) (hpos : 1 ≤ inf.bytes) :
    ∃ v' w', (Builtin.append_ #[t, t] ty #[sv, .slice a ys.length cp]).run P w = .ok v' w' ∧ ArrV w' S e (xs ++ ys) v' ∧ (∀ b, b < w.heap.size → blkOf sv ≠ some b → w'.heap[b]? = w.heap[b]?) ∧
      w'.os = w.os ∧ w'.tape = w.tape ∧ w'.output = w.output ∧ w.heap.size ≤ w'.heap.size ∧ (∀ b, blkOf v' = some b → blkOf sv = some b ∨ w.heap.size ≤ b) := by
  have hle : xs.length + ys.length ≤ 140737488355328 := by
    have := Nat.mul_le_mul_left (xs.length + ys.length) hpos
    omega
  by_cases hy : ys = []
  · -- nothing to append
    subst hy
    refine ⟨sv, w, ?_, by rw [List.append_nil]; exact hs, fun _ _ _ => rfl, rfl, rfl, rfl, Nat.le_refl _, fun b h => .inl h⟩
    rcases hs with ⟨rfl, rfl⟩ | ⟨b, c, vs, E, rfl, hw, hl, hzz, hr⟩
    · cases a with
      | none => simp [Builtin.append_, run_underlying' ht, sizeOf, typeInfo, hi, Builtin.lenOf, Builtin.firstCells]
      | some ad => simp [Builtin.append_, run_underlying' ht, sizeOf, typeInfo, hi, Builtin.lenOf, Builtin.firstCells, loadCells, loadCellsFrom]
    · cases a with
      | none => simp [Builtin.append_, run_underlying' ht, sizeOf, typeInfo, hi, Builtin.lenOf, Builtin.firstCells, hl, storeCells]
      | some ad => simp [Builtin.append_, run_underlying' ht, sizeOf, typeInfo, hi, Builtin.lenOf, Builtin.firstCells, loadCells, loadCellsFrom, hl, storeCells]
  · obtain ⟨ad, rfl, hcell⟩ := hc.resolve_left hy
    have hyl : 0 < ys.length := List.length_pos_iff.2 hy
    have hnl : news.length = ys.length * inf.size := by rw [he]; exact hn.1
    rcases hs with ⟨rfl, rfl⟩ | ⟨b, c, vs, E, rfl, hw, hl, hzz, hr⟩
    · have hrun := run_append_nil (P := P) w t ty el inf z ht hi hz ad ys.length cp news hnl hcell hyl (by simp at hle; omega) (by simp at hb; omega)
      have hcap := grownCap_ge w ys.length 0 el
      refine ⟨_, _, hrun, ?_, fun b hb' _ => push_old hb', rfl, rfl, rfl, by show _ ≤ (w.drew.heap.push _).size; simp, fun b hb' => .inr ?_⟩
      · rw [List.nil_append]
        refine ArrV.mk (cells := news) (hn.hold (w' := w.drew.alloc _) fun k hk => push_old (w := w.drew) (hlt k hk)) (push_new w.drew _) ?_ hcap fun j u hj => ?_
        · rw [Array.size_append, size_zeroCells, hzs, List.size_toArray, hn.1, ← Nat.add_mul]
          congr 1
          omega
        · have := (List.getElem?_eq_some_iff.1 hj).1
          rw [Array.getElem?_append_left (by simpa using this)]
          simpa using hj
      · simp [blkOf] at hb'
        omega
    · have hown : ¬ S b := hS b rfl
      have hold : ∀ (o : Obj), Hold S w (setBlk w b o) := fun o k hk => setBlk_ne fun e => hown (e ▸ hk)
      obtain ⟨ar, cr, us, hur, hus, hcu⟩ := rows_of_arr (ys := xs) (S := S) (w := w) (.inr ⟨b, c, vs, E, rfl, hw, hl, hzz, hr⟩)
      cases hur
      have husc : ∀ (j : Nat) u, us[j]? = some u → w.cell? ((⟨b, 0, none⟩ : Addr).add j) = some u := fun j u hj => by
        rcases hcu with hx | ⟨ad', ha, hq⟩
        · have := (List.getElem?_eq_some_iff.1 hj).1
          rw [hus.1, hx] at this
          simp at this
        · cases ha
          exact hq j u hj
      by_cases hroom : xs.length + ys.length ≤ c
      · -- room
        have hsz : xs.length * e.len + news.length ≤ vs.size := by
          rw [hn.1, hzz, ← Nat.add_mul]
          exact Nat.mul_le_mul_right _ hroom
        have hst := run_storeCells_ok (P := P) news w (b := b) (off := xs.length * e.len) (i := 0) hn.one hw (by omega)
        have hadd : (⟨b, 0, none⟩ : Addr).add (xs.length * e.len) = ⟨b, xs.length * e.len, none⟩ := by
          unfold Go.Addr.add
          split
          · rename_i h0
            rw [h0]
          · simp
        have hf := run_firstCells_some (P := P) w inf.size ys.length ad ys.length cp news hnl hcell
        refine ⟨.slice (some ⟨b, 0, none⟩) (xs.length + ys.length) c, setBlk w b (.cells (setVs vs (xs.length * e.len) news) E (0, 0)), ?_, ?_, fun k _ hk => setBlk_ne fun e => hk (by rw [e]; rfl), rfl, rfl, rfl, by rw [setBlk_size]; exact Nat.le_refl _, fun k hk => .inl hk⟩
        · rw [he] at hf
          simp [Builtin.append_, run_underlying' ht, sizeOf, typeInfo, hi, Builtin.lenOf, hroom, hf, he, hadd, hst]
        · rw [← List.length_append]
          refine ArrV.mk (cells := us ++ news) ((hus.append hn).hold (hold _)) (setBlk_at hw) (by rw [setVs_size]; exact hzz) (by rw [List.length_append]; exact hroom) fun j u hj => ?_
          rw [setVs_get _ _ _ _ hsz]
          by_cases hlt' : j < us.length
          · rw [List.getElem?_append_left hlt'] at hj
            rw [hus.1] at hlt'
            rw [if_neg (by omega)]
            have := husc j u hj
            rwa [cell_blk hw, Nat.zero_add] at this
          · rw [List.getElem?_append_right (by omega)] at hj
            have := (List.getElem?_eq_some_iff.1 hj).1
            rw [hus.1] at hlt' hj this
            rw [if_pos (by omega)]
            exact hj
      · -- a new array
        have hrun := run_append_grow (P := P) w t ty el inf z ht hi hz ⟨b, 0, none⟩ xs.length c us (by rw [he]; exact hus.1) husc ad ys.length cp news hnl hcell (by omega) (by omega) (growslice_fits (by omega) hb)
        have hcap := grownCap_ge w (xs.length + ys.length) c el
        refine ⟨_, _, hrun, ?_, fun b hb' _ => push_old hb', rfl, rfl, rfl, by show _ ≤ (w.drew.heap.push _).size; simp, fun b hb' => .inr ?_⟩
        · rw [← List.length_append]
          refine ArrV.mk (cells := us ++ news) ((hus.append hn).hold (w' := w.drew.alloc _) fun k hk => push_old (w := w.drew) (hlt k hk)) (push_new w.drew _) ?_ (by rw [List.length_append]; exact hcap) fun j u hj => ?_
          · rw [List.length_append, Array.size_append, Array.size_append, size_zeroCells, hzs, List.size_toArray, List.size_toArray, hus.1, hn.1, ← Nat.add_mul, ← Nat.add_mul]
            congr 1
            omega
          · have := (List.getElem?_eq_some_iff.1 hj).1
            rw [Array.getElem?_append_left (by simpa using this)]
            simpa using hj
        · simp [blkOf] at hb'
          omega

/-! ### the plans -/
theorem ArrV.or {id n : Nat} {e : Tys} {xs : List e.den} {v : Value} (h : ArrV w S e xs v) : Or (upd m id (.arr n e xs)) (upd g id v) S w id := by
  unfold Or
  rw [upd_same, upd_same]
  exact h

theorem ref_new {id n : Nat} {e : Tys} {xs : List e.den} {v : Value} (hv : v.oneCell' = true) : Ac (upd m id (.arr n e xs)) (upd g id v) S w (.c (.ref id n)) v := by
  refine ⟨?_, hv⟩
  unfold RefOk
  rw [upd_same, upd_same]
  exact .inr ⟨rfl, rfl⟩

theorem ArrV.one {e : Tys} {xs : List e.den} {v : Value} (h : ArrV w S e xs v) : v.oneCell' = true := by
  rcases h with ⟨rfl, _⟩ | ⟨b, c, vs, E, rfl, _⟩ <;> rfl

theorem dead_ver {o : Ob} (h : isDead o = true) : ∃ n, o = .dead n := by
  cases o <;> first | exact ⟨_, rfl⟩ | cases h

/-- An array whose value turns by an append; the object is a fresh one or one that is there. -/
theorem append_post (hm : MRel m g S w) {id n : Nat} {e : Tys} {zs : List e.den} {sv v' : Value} {w' : World} (ht : Tr (m id) (g id) (.arr n e zs) v') (hsv : ∀ b, blkOf sv = some b → own m g id = some b)
    (hA : ArrV w' S e zs v') (hk : ∀ b, b < w.heap.size → blkOf sv ≠ some b → w'.heap[b]? = w.heap[b]?) (ho : w'.os = w.os) (htp : w'.tape = w.tape) (hp : w'.output = w.output) (hz : w.heap.size ≤ w'.heap.size)
    (hb : ∀ b, blkOf v' = some b → blkOf sv = some b ∨ w.heap.size ≤ b) : Post m g S w (upd m id (.arr n e zs)) (.c (.ref id n)) v' w' := by
  have key := evo_one (w' := w') hm id (.arr n e zs) v' (S' := S) ht (fun b h => by
      rcases hb b h with h | h
      · exact .inl (hsv b h)
      · exact .inr h) (fun _ h => h) (fun _ h => .inl h) (fun b hs h => by
      rcases hb b h with h | h
      · exact hm.sdisj id b (hsv b h) hs
      · have := hm.slt b hs
        omega) (fun b hl hn => hk b hl fun h => hn (hsv b h)) ho htp hp hz (fun _ => hA.or)
  exact ⟨_, _, key.1, key.2, ref_new hA.one⟩

theorem append_ok (hT : TabOk P T) (hm : MRel m g S w) {bid t ty : Nat} {x y : A} {vx vy : Value} (hx : Ac m g S w x vx) (hy : Ac m g S w y vy) {p : Plan} (hp : appendP T bid t x y = some p) {r : Res} (hr : p.go (restr (p.rd ++ p.wr) m) = some r) (hc : r.cs.all (fun b => b) = true) :
    ∃ v' w', (Builtin.append_ #[t, t] ty #[vx, vy]).run P w = .ok v' w' ∧ Post m g S w (updL m r.ws) r.v v' w' := by
  unfold appendP at hp
  split at hp
  · cases hp
  · rename_i el j hj
    obtain ⟨ht, hel⟩ := elemI_ok hT hj
    obtain ⟨inf, hi, hsz, hby, z, hz, hzs⟩ := hel.info
    obtain ⟨hb, hp1⟩ := cond_some hp
    clear hp
    obtain ⟨hb', hpos⟩ := and_true hb
    obtain ⟨h1, h2⟩ := and_true hb'
    have h1 := beq_true h1
    have h2 := beq_true h2
    have hpos : 1 ≤ inf.bytes := by rw [hby]; exact Nat.le_of_ble_eq_true hpos
    have he : inf.size = j.tys.len := by rw [hsz, h1]
    have hzl : z.cells.size = j.tys.len := by
      have := (zerosB_ok hzs m g S w).length
      rw [← h1, ← h2, this]
      simp
    split at hp1
    · rename_i yc
      obtain ⟨hnd, hp2⟩ := cond_some hp1
      cases hp2
      dsimp only at hr
      rw [restr_in (List.mem_append_right _ (List.mem_singleton.2 rfl))] at hr
      obtain ⟨hd, hr1⟩ := cond_some hr
      clear hr
      rw [toD_restr fun id hid => List.mem_append_left _ hid] at hr1
      split at hr1
      · rename_i ys hys
        cases hr1
        simp [okSize] at hc
        have hx : vx = .slice none 0 0 := hx
        subst hx
        obtain ⟨a, cp, news, rfl, hn, hcc⟩ := rows_ok hm hys hy
        obtain ⟨v', w', hrun, hA, hk, ho, htp, hpp, hzz, hbb⟩ := append_core (P := P) (ty := ty) (xs := []) (sv := .slice none 0 0) ht hi hz he hzl (.inl ⟨rfl, rfl⟩) (fun b h => by cases h) hm.slt hn hcc (by rw [hby]; simpa using hc) hpos
        rw [List.nil_append] at hA
        obtain ⟨n, hdn⟩ := dead_ver hd
        refine ⟨v', w', hrun, ?_⟩
        rw [hdn]
        exact append_post hm (id := bid) (sv := .slice none 0 0) (by rw [hdn]; exact .inr ⟨rfl, trivial⟩) (fun b h => by cases h) hA hk ho htp hpp hzz hbb
      · cases hr1
    · rename_i id ver yc
      obtain ⟨hnd, hp2⟩ := cond_some hp1
      cases hp2
      dsimp only at hr
      rw [restr_in (List.mem_append_right _ (List.mem_singleton.2 rfl))] at hr
      split at hr
      · rename_i n e xs ho
        obtain ⟨hv, hr1⟩ := cond_some hr
        clear hr
        obtain rfl := beq_true hv
        rw [toD_restr fun id hid => List.mem_append_left _ hid] at hr1
        split at hr1
        · rename_i xs' ys hxs hys
          cases hr1
          obtain ⟨rfl, rfl⟩ := castRows_ok hxs
          simp [okSize] at hc
          have hxv := ref_arr ho hx
          obtain ⟨a, cp, news, rfl, hn, hcc⟩ := rows_ok hm hys hy
          have hsv : ∀ b, blkOf vx = some b → own m g id = some b := fun b h => by rw [own_arr ho, ← hxv]; exact h
          obtain ⟨v', w', hrun, hA, hk, hos, htp, hpp, hzz, hbb⟩ := append_core (P := P) (ty := ty) (sv := vx) ht hi hz he hzl (by rw [hxv]; exact arr_live hm ho) (fun b h => hm.sdisj id b (hsv b h)) hm.slt hn hcc (by rw [hby]; exact hc) hpos
          exact ⟨v', w', hrun, append_post hm (id := id) (sv := vx) (by rw [ho]; exact .inl (Nat.lt_succ_self _)) hsv hA hk hos htp hpp hzz hbb⟩
        · cases hr1
      · cases hr
    · cases hp1

/-! new variables -/
theorem box_post (hm : MRel m g S w) {id : Nat} (hd : isDead (m id) = true) {cs : List C} {vs : List Value} {E : TypeId} (hcs : All2 (Cc m g S w) cs vs) :
    Post m g S w (upd m id (.box (m id).ver cs)) (.c (.ptr id (m id).ver 0)) (.pointer (some ⟨w.heap.size, 0, none⟩)) (w.alloc (.cells vs.toArray E)) := by
  have key := evo_new hm id (.box (m id).ver cs) (.pointer (some ⟨w.heap.size, 0, none⟩)) (.cells vs.toArray E) hd rfl (fun b h => by cases h; rfl) (fun hcc => by
    unfold Or
    rw [upd_same, upd_same]
    exact ⟨w.heap.size, vs, E, rfl, push_new _ _, hcs.mono hcc⟩)
  refine ⟨_, _, key.1, key.2, ⟨?_, rfl⟩⟩
  unfold PtrOk
  rw [upd_same, upd_same]
  exact .inr ⟨rfl, _, rfl, rfl⟩

theorem run_newVar {t : Nat} {v : Value} {vs : List Value} (h : v.cells = vs.toArray) : (newVar t v).run P w = .ok ⟨w.heap.size, 0, none⟩ (w.alloc (.cells vs.toArray t)) := by
  unfold newVar newRow
  rw [h]
  simp

theorem alloc_ok (hT : TabOk P T) (hm : MRel m g S w) {t id : Nat} {i : TyI} (hi : T.get t = some i) (hd : isDead (m id) = true) :
    ∃ v' w', (Instr.alloc t true (.tuple #[])).run P w = .ok v' w' ∧ Post m g S w (upd m id (.box (m id).ver i.cells)) (.c (.ptr id (m id).ver 0)) v' w' := by
  obtain ⟨inf, hinf, _, _, z, hz, hzs⟩ := (hT t i hi).info
  refine ⟨_, _, ?_, box_post (E := t) hm hd (zerosB_ok hzs m g S w)⟩
  unfold Instr.alloc
  rw [Sem.run_bind, run_zeroValue' hinf hz]
  simp only [Result.andThen_ok, Sem.run_bind, run_newVar (vs := z.cells.toList) rfl, Sem.run_pure]

theorem boxv_ok (hm : MRel m g S w) {t id : Nat} {x : V} {v : Value} (h1 : x.cells.all oneC = true) (hx : Vc m g S w x v) (hd : isDead (m id) = true) :
    ∃ v' w', (Instr.box t v).run P w = .ok v' w' ∧ Post m g S w (upd m id (.box (m id).ver x.cells)) (.c (.ptr id (m id).ver 0)) v' w' := by
  obtain ⟨vs, hv, hcs⟩ := vcells_ok h1 hx
  refine ⟨_, _, ?_, box_post (E := t) hm hd hcs⟩
  unfold Instr.box
  simp only [Sem.run_bind, run_newVar hv, Result.andThen_ok, Sem.run_pure]

theorem toD_zero {mm : Mem} {t : Ty} {c : C} {x : t.den} {v : Value} (hz : zeroB c v = true) (h : toD mm t c = some x) : Rd w S t x v := by
  have hv := zeroB_ok hz noMem (fun _ => undef) S w
  cases c with
  | d t' y =>
    obtain ⟨rfl, rfl⟩ := castTo_ok h
    exact hv
  | nil =>
    cases t <;> simp only [toD, reduceCtorEq, Option.some.injEq] at h
    subst h
    have hv : v = .slice none 0 0 := hv
    subst hv
    exact ⟨none, 0, rfl, Nat.le_refl _, fun i r hi => by simp at hi⟩
  | any => cases t <;> cases h
  | _ => cases hz

theorem toRow_ok {mm : Mem} {S1 : Nat → Prop} : ∀ {ts : Tys} {xs : List C} {r : ts.den} {us : List Value} {l : Nat → Option Value} {b0 : Nat}, toRow mm ts xs = some r →
    All2 (fun c u => ∀ (t : Ty) (x : t.den), toD mm t c = some x → Rd w S1 t x u) xs us → (∀ (i : Nat) u, us[i]? = some u → l (b0 + i) = some u) → RdRow w S1 ts l r b0
  | .nil, _, _, _, _, _, _, _, _ => trivial
  | .cons t ts, [], _, _, _, _, h, _, _ => by simp [toRow] at h
  | .cons t ts, x :: xs, r, [], _, _, _, hu, _ => hu.elim
  | .cons t ts, x :: xs, r, u :: us, l, b0, h, hu, hl => by
    simp only [toRow] at h
    split at h
    · rename_i a b ha hb
      cases h
      refine ⟨⟨u, by have := hl 0 u rfl; simpa using this, hu.1 _ _ ha⟩, toRow_ok hb hu.2 fun i z hi => ?_⟩
      have := hl (i + 1) z (by simpa using hi)
      rw [← this]
      congr 1
      omega
    · cases h

theorem zeros_all {mm : Mem} : ∀ {xs : List C} {vs : List Value}, zerosB xs vs = true → All2 (fun c u => ∀ (t : Ty) (x : t.den), toD mm t c = some x → Rd w S t x u) xs vs
  | [], [], _ => trivial
  | x :: xs, v :: vs, h => by
    simp [zerosB] at h
    exact ⟨fun t y hy => toD_zero h.1 hy, zeros_all h.2⟩
  | [], _ :: _, h => by simp [zerosB] at h
  | _ :: _, [], h => by simp [zerosB] at h

theorem new_arr (hm : MRel m g S w) {id : Nat} (hd : isDead (m id) = true) {e : Tys} {xs : List e.den} {cells : List Value} (hr : RowsV w S e xs cells) {c : Nat} {vs : Array Value} {E : TypeId} (hz : vs.size = c * e.len) (hl : xs.length ≤ c)
    (hp : ∀ (j : Nat) u, cells[j]? = some u → vs[j]? = some u) :
    Post m g S w (upd m id (.arr (m id).ver e xs)) (.c (.ref id (m id).ver)) (.slice (some ⟨w.heap.size, 0, none⟩) xs.length c) (w.alloc (.cells vs E)) := by
  obtain ⟨n, hn⟩ := dead_ver hd
  refine append_post hm (sv := .slice none 0 0) ?_ (fun b h => by cases h) (ArrV.mk (cells := cells) (hr.hold (w' := w.alloc _) fun k hk => push_old (hm.slt k hk)) (push_new w _) hz hl hp) (fun b hb _ => push_old hb) rfl rfl rfl (by show _ ≤ (w.heap.push _).size; simp) (fun b hb => .inr ?_)
  · rw [hn]
    exact .inr ⟨rfl, trivial⟩
  · simp [blkOf] at hb
    omega

theorem makeSlice_ok (hT : TabOk P T) (hm : MRel m g S w) {bid t : Nat} {x y : A} {vx vy : Value} (hx : Ac m g S w x vx) (hy : Ac m g S w y vy) {p : Plan} (hp : makeSliceP T bid t x y = some p) {r : Res} (hr : p.go (restr (p.rd ++ p.wr) m) = some r) (hc : r.cs.all (fun b => b) = true) :
    ∃ v' w', (Instr.makeSlice t vx vy).run P w = .ok v' w' ∧ Post m g S w (updL m r.ws) r.v v' w' := by
  unfold makeSliceP at hp
  split at hp
  · rename_i el j n c hj hn hcp
    obtain ⟨kn, rfl⟩ := asInt_ok hn hx
    obtain ⟨kc, rfl⟩ := asInt_ok hcp hy
    obtain ⟨ht, hel⟩ := elemI_ok hT hj
    obtain ⟨inf, hi, hsz, hby, z, hz, hzs⟩ := hel.info
    obtain ⟨hb, hp1⟩ := cond_some hp
    clear hp
    obtain ⟨h1, hb'⟩ := and_true hb
    obtain ⟨h2, hpos⟩ := and_true hb'
    have h1 := beq_true h1
    have h2 := beq_true h2
    have hpos : 1 ≤ j.bytes := Nat.le_of_ble_eq_true hpos
    split at hp1
    · rename_i zr hzr
      cases hp1
      dsimp only at hr
      rw [restr_in (List.mem_append_right _ (List.mem_singleton.2 rfl))] at hr
      obtain ⟨hd, hr1⟩ := cond_some hr
      cases hr1
      simp at hc
      obtain ⟨c0, c1, c2⟩ := hc
      have hzl : z.cells.size = j.tys.len := by
        have := (zerosB_ok hzs m g S w).length
        rw [← h1, ← h2, this]
        simp
      have hcb : c ≤ 140737488355328 := by
        have : c * 1 ≤ c * (j.bytes : Int) := Int.mul_le_mul_of_nonneg_left (by omega) (by omega)
        omega
      have hrun := run_make (P := P) w t el inf z ht hi hz kn kc n c c0 c1 (by rw [hby, Int.mul_comm]; omega) (by omega)
      refine ⟨_, _, hrun, ?_⟩
      have hlen : (List.replicate n.toNat zr).length = n.toNat := List.length_replicate
      have key := new_arr hm (id := bid) hd (e := j.tys) (xs := List.replicate n.toNat zr) (cells := (madeCells z.cells (n.toNat * j.tys.len)).toList) (c := c.toNat) (vs := madeCells z.cells (c.toNat * inf.size)) (E := el)
        ⟨by rw [hlen, Array.length_toList, size_madeCells], fun i r hi => ?_⟩ (by rw [size_madeCells, hsz, h1]) (by rw [hlen]; omega) (fun q u hq => ?_)
      · rw [hlen] at key
        exact key
      · have hin : i < n.toNat := by have := (List.getElem?_eq_some_iff.1 hi).1; omega
        rw [List.getElem?_replicate, if_pos hin] at hi
        cases hi
        refine toRow_ok hzr (zeros_all hzs) fun q u hq => ?_
        have hql := (List.getElem?_eq_some_iff.1 hq).1
        have hql' : q < j.tys.len := by rw [← hzl]; simpa using hql
        have : (i + 1) * j.tys.len ≤ n.toNat * j.tys.len := Nat.mul_le_mul_right _ hin
        rw [Nat.add_mul, Nat.one_mul] at this
        show ((madeCells z.cells (n.toNat * j.tys.len)).toList)[i * j.tys.len + q]? = some u
        rw [Array.getElem?_toList]
        unfold madeCells
        rw [Array.getElem?_map, Array.getElem?_range, if_pos (by omega)]
        simp only [Option.map_some, Option.some.injEq]
        rw [hzl, Nat.mul_add_mod_self_right, Nat.mod_eq_of_lt hql']
        rw [Array.getElem?_toList] at hq
        rw [getElem!_def, hq]
      · rw [Array.getElem?_toList] at hq
        unfold madeCells at hq ⊢
        rw [Array.getElem?_map] at hq ⊢
        have hql : q < n.toNat * j.tys.len := by
          rcases Nat.lt_or_ge q (n.toNat * j.tys.len) with h | h
          · exact h
          · rw [Array.getElem?_eq_none (by simpa using h)] at hq
            cases hq
        rw [Array.getElem?_range, if_pos hql] at hq
        have : n.toNat * j.tys.len ≤ c.toNat * j.tys.len := Nat.mul_le_mul_right _ (by omega)
        rw [Array.getElem?_range, if_pos (by rw [hsz, h1]; omega)]
        exact hq
    · cases hp1
  · cases hp
end
end Go.Rx

/-
  ENGINE, part Zd: a law's arguments, as the row hands them over, opened to data; what stands behind a call as 'Below'.
  Seat-independent.
-/
import Derived.Test.YtoagkidolpcigaaRxZc
import Derived.Deep.Slices
import Derived.Deep.Fields
import Derived.ChangeSame
import Derived.WalkKit
import Derived.ProofKit
import Derived.OpenShut
import Derived.ShutString
import Derived.ChangeOld
import Derived.Below
import Derived.SizedLaws
import Derived.Carry
namespace Go.Rx
open Go Go.RowKit Go.ChangeShapes Go.WideShapes Go.Deep
set_option linter.unusedVariables false
set_option linter.unusedSimpArgs false

/-! ### what is told of data that a row hands over -/
mutual
def Ty.wf : (t : Ty) → t.den → Prop
  | .int k, n => (Lit.int k n).wf = true
  | .bool, _ => True
  | .str, s => (show ByteArray from s).size ≤ maxLen
  | .sl e, xs => (show List e.den from xs).length ≤ maxLen ∧ ∀ r ∈ (show List e.den from xs), Tys.wf e r
def Tys.wf : (ts : Tys) → ts.den → Prop
  | .nil, _ => True
  | .cons t ts, r => Ty.wf t r.1 ∧ Tys.wf ts r.2
end

/-- Does a type's shape stand ahead in a row of types? What comes behind it. -/
def fieldsR (sh : TypeId → Tys → Option Tys) (P : Program) : List Field → Nat → Tys → Option Tys
  | [], _, ts => some ts
  | f :: fs, k, ts => cond (Nat.beq f.offset k) (match sh f.type ts with
      | some ts1 => cond (Nat.beq (ts1.len + P.cellsOf f.type) ts.len) (fieldsR sh P fs (k + P.cellsOf f.type) ts1) none
      | none => none) none
def shapeR (P : Program) : Nat → TypeId → Tys → Option Tys
  | 0, _, _ => none
  | n + 1, t, ts => match P.underlying t, ts with
    | some (.int k), .cons (.int k') r => if k = k' then some r else none
    | some .bool, .cons .bool r => some r
    | some .string, .cons .str r => some r
    | some (.slice e), .cons (.sl es) r => match shapeR P n e es with
      | some .nil => cond (Bool.and (Nat.beq (P.cellsOf e) es.len) (Nat.ble 1 es.len)) (some r) none
      | _ => none
    | some (.struct fs), ts => match fieldsR (shapeR P n) P fs.toList 0 ts with
      | some r => cond (Nat.beq (r.len + P.cellsOf t) ts.len) (some r) none
      | none => none
    | _, _ => none

theorem list_of {α : Type} {Q : Nat → α → Prop} : ∀ (n : Nat), (∀ i, i < n → ∃ r, Q i r) → ∃ xs : List α, xs.length = n ∧ ∀ (i : Nat) r, xs[i]? = some r → Q i r
  | 0, _ => ⟨[], rfl, fun i r h => by simp at h⟩
  | n + 1, h => by
    obtain ⟨xs, hl, hx⟩ := list_of n fun i hi => h i (by omega)
    obtain ⟨r, hr⟩ := h n (by omega)
    refine ⟨xs ++ [r], by simp [hl], fun i r' hi => ?_⟩
    by_cases hin : i < n
    · rw [List.getElem?_append_left (by omega)] at hi
      exact hx i r' hi
    · by_cases he : i = n
      · subst he
        rw [List.getElem?_append_right (by omega), hl] at hi
        simp at hi
        subst hi
        exact hr
      · rw [List.getElem?_eq_none (by simp [hl]; omega)] at hi
        cases hi

section
variable {H : Type} {enc : TypeId × Value → H} {P : Program} {w : World} {base : Nat} {spare : Nat → Bool} {held : Bool}

def Opens (P : Program) (w : World) (enc : TypeId × Value → H) (base : Nat) (spare : Nat → Bool) (held : Bool) (sh : TypeId → Tys → Option Tys) : Prop :=
  ∀ (t : TypeId) (ts rest : Tys), sh t ts = some rest → ∀ (fuel : Nat) (cs : List Value) (x : DataW H × List MemPlace), DataW.trod enc P w base spare held fuel t cs = some x →
    ∀ (look : Nat → Option Value) (k : Nat), (∀ (j : Nat) v, cs[j]? = some v → look (k + j) = some v) → ∀ r' : rest.den, RdRow w (fun b => b < w.heap.size) rest look r' (k + cs.length) → rest.wf r' →
      ts.len = rest.len + cs.length ∧ ∃ r : ts.den, RdRow w (fun b => b < w.heap.size) ts look r k ∧ ts.wf r

theorem cell_lt {w : World} {a : Addr} {v : Value} (h : w.cell? a = some v) : a.block < w.heap.size := by
  unfold World.cell? at h
  split at h
  · rename_i hb
    exact heap_lt hb
  · cases h

theorem fields_open {sh : TypeId → Tys → Option Tys} (hsh : Opens P w enc base spare held sh) {n : Nat} {cs : List Value} : ∀ (fs : List Field) (o : Nat) (ts rest : Tys), fieldsR sh P fs o ts = some rest →
    (∀ f ∈ fs, ∃ x, DataW.trod enc P w base spare held n f.type ((cs.drop f.offset).take (P.cellsOf f.type)) = some x) →
    ∀ (look : Nat → Option Value) (k : Nat), (∀ (j : Nat) v, cs[j]? = some v → look (k + j) = some v) → ∀ (hl : rest.len + cs.length = ts.len + o) (r' : rest.den), RdRow w (fun b => b < w.heap.size) rest look r' (k + cs.length) → rest.wf r' →
      ∃ r : ts.den, RdRow w (fun b => b < w.heap.size) ts look r (k + o) ∧ ts.wf r
  | [], o, ts, rest, hf, _, look, k, hlook, hl, r', hr, hw => by
    unfold fieldsR at hf
    cases hf
    have : cs.length = o := by omega
    rw [this] at hr
    exact ⟨r', hr, hw⟩
  | f :: fs, o, ts, rest, hf, hx, look, k, hlook, hl, r', hr, hw => by
    unfold fieldsR at hf
    cases hb : Nat.beq f.offset o with
    | false => rw [hb] at hf; cases hf
    | true =>
      rw [hb] at hf
      simp only [cond_true] at hf
      have ho := beq_true hb
      split at hf
      · rename_i ts1 h1
        cases hc : Nat.beq (ts1.len + P.cellsOf f.type) ts.len with
        | false => rw [hc] at hf; cases hf
        | true =>
          rw [hc] at hf
          simp only [cond_true] at hf
          have hlen := beq_true hc
          obtain ⟨r1, hr1, hw1⟩ := fields_open hsh fs (o + P.cellsOf f.type) ts1 rest hf (fun g hg => hx g (List.mem_cons_of_mem _ hg)) look k hlook (by omega) r' hr hw
          obtain ⟨x, hx⟩ := hx f (List.mem_cons_self ..)
          have hlc : ((cs.drop f.offset).take (P.cellsOf f.type)).length ≤ P.cellsOf f.type := by simp; omega
          have key := hsh f.type ts ts1 h1 n _ x hx look (k + o) (fun j v hj => by
            rw [List.getElem?_take] at hj
            split at hj
            · rw [List.getElem?_drop] at hj
              have := hlook _ v hj
              rw [ho] at this
              rw [← this]
              congr 1
              omega
            · cases hj) r1
          by_cases hq : ((cs.drop f.offset).take (P.cellsOf f.type)).length = P.cellsOf f.type
          · rw [hq] at key
            have e : k + o + P.cellsOf f.type = k + (o + P.cellsOf f.type) := by omega
            rw [e] at key
            obtain ⟨_, r, hr2, hw2⟩ := key hr1 hw1
            exact ⟨r, hr2, hw2⟩
          · exfalso
            -- the field's cells are as many as its type says
            have hlt : cs.length < o + P.cellsOf f.type := by
              simp at hq
              omega
            have : ∀ (fs : List Field) (o : Nat) (ts rest : Tys), fieldsR sh P fs o ts = some rest → rest.len ≤ ts.len := by
              intro fs
              induction fs with
              | nil => intro o ts rest h; unfold fieldsR at h; cases h; exact Nat.le_refl _
              | cons g gs ih =>
                intro o ts rest h
                unfold fieldsR at h
                cases hb : Nat.beq g.offset o with
                | false => rw [hb] at h; cases h
                | true =>
                  rw [hb] at h
                  simp only [cond_true] at h
                  split at h
                  · rename_i t1 _
                    cases hc : Nat.beq (t1.len + P.cellsOf g.type) ts.len with
                    | false => rw [hc] at h; cases h
                    | true =>
                      rw [hc] at h
                      have := ih _ _ _ h
                      have := beq_true hc
                      omega
                  · cases h
            have := this _ _ _ _ hf
            omega
      · cases hf

theorem shape_open : ∀ n : Nat, Opens P w enc base spare held (shapeR P n)
  | 0 => fun t ts rest h => by
    unfold shapeR at h
    cases h
  | n + 1 => by
    intro t ts rest h fuel cs x hx look k hlook r' hr hw
    unfold shapeR at h
    split at h
    · rename_i kk k' r hu
      split at h
      · rename_i he
        cases h
        subst he
        obtain ⟨m, rfl, _, hwf⟩ := DataW.trod_int hu hx
        refine ⟨by simp [Tys.len], (m, r'), ⟨⟨_, hlook 0 _ rfl, rfl⟩, hr⟩, hwf, hw⟩
      · cases h
    · rename_i r hu
      cases h
      obtain ⟨m, rfl, _⟩ := DataW.trod_bool hu hx
      exact ⟨by simp [Tys.len], (m, r'), ⟨⟨_, hlook 0 _ rfl, rfl⟩, hr⟩, trivial, hw⟩
    · rename_i r hu
      cases h
      obtain ⟨m, rfl, _, hs⟩ := DataW.trod_string hu hx
      exact ⟨by simp [Tys.len], (m, r'), ⟨⟨_, hlook 0 _ rfl, rfl⟩, hr⟩, hs, hw⟩
    · rename_i e es r hu
      split at h
      · rename_i hs
        cases hb : Bool.and (Nat.beq (P.cellsOf e) es.len) (Nat.ble 1 es.len) with
        | false => rw [hb] at h; cases h
        | true =>
          rw [hb] at h
          cases h
          simp only [Bool.and_eq_true] at hb
          have hce := beq_true hb.1
          have h1 := Nat.le_of_ble_eq_true hb.2
          rcases open_slice hu hx with ⟨rfl, _⟩ | ⟨a, len, cap, m, n', D, Pl, rfl, hba, hlc, hcm, hm, _, hi⟩
          · refine ⟨by simp [Tys.len], (([] : List es.den), r'), ⟨⟨_, hlook 0 _ rfl, ?_⟩, hr⟩, ?_, hw⟩
            · exact ⟨none, 0, rfl, Nat.le_refl _, fun i r hi => by simp at hi⟩
            · exact ⟨by simp, fun r hr => by simp at hr⟩
          · have hlm : len ≤ m := by
              rw [hm]
              split <;> omega
            obtain ⟨xs, hxl, hxs⟩ := list_of (Q := fun i (q : es.den) => a.block < w.heap.size ∧ RdRow w (fun b => b < w.heap.size) es (fun j => w.cell? (a.add j)) q (i * es.len) ∧ es.wf q) len (fun i hil => by
              obtain ⟨cs', hc, ht⟩ := hi i (by omega)
              obtain ⟨_, hcl, hat⟩ := World.cells?_some hc
              have hat' : ∀ (j : Nat) v, cs'[j]? = some v → w.cell? (a.add (i * es.len + j)) = some v := fun j v hj => by
                have hjl : j < cs'.length := by
                  rcases Nat.lt_or_ge j cs'.length with h | h
                  · exact h
                  · rw [List.getElem?_eq_none h] at hj
                    cases hj
                have := hat j (by omega)
                rw [Addr.add_add, hce] at this
                rw [this, hj]
              obtain ⟨_, q, hq, hwq⟩ := shape_open n e es .nil hs n' cs' _ ht (fun j => w.cell? (a.add j)) (i * es.len) hat' () trivial trivial
              refine ⟨q, ?_, hq, hwq⟩
              have hc0 : (cs'[0]?) = some (cs'[0]'(by omega)) := List.getElem?_eq_getElem (by omega)
              have := cell_lt (hat' 0 _ hc0)
              rw [Addr.add_block] at this
              exact this)
            refine ⟨by simp [Tys.len], (xs, r'), ⟨⟨_, hlook 0 _ rfl, ?_⟩, hr⟩, ?_, hw⟩
            · refine ⟨some a, cap, ?_, ?_, fun i q hq => ⟨a, rfl, (hxs i q hq).1, (hxs i q hq).2.1⟩⟩
              · show Value.slice (some a) len cap = .slice (some a) xs.length cap
                rw [hxl]
              · show xs.length ≤ cap
                omega
            · refine ⟨?_, fun q hq => ?_⟩
              · show xs.length ≤ maxLen
                omega
              · obtain ⟨i, hi⟩ := List.getElem?_of_mem hq
                exact (hxs i q hi).2.2
      · cases h
    · rename_i ts _ _ fs hu
      split at h
      · rename_i r hf
        cases hb : Nat.beq (r.len + P.cellsOf t) ts.len with
        | false => rw [hb] at h; cases h
        | true =>
          rw [hb] at h
          cases h
          have hl := beq_true hb
          obtain ⟨xs, n', _, _, hcl, hxl, hfs⟩ := DataW.trod_struct hu hx
          obtain ⟨r, h1, h2⟩ := fields_open (shape_open n) (n := n') (cs := cs) fs.toList 0 ts rest hf (fun f hf => by
            obtain ⟨i, hi⟩ := List.getElem?_of_mem hf
            have hi' : fs[i]? = some f := by simpa using hi
            have h2 := hfs i f hi'
            have hil : i < xs.length := by
              rw [hxl]
              exact (Array.getElem?_eq_some_iff.1 hi').1
            rw [List.getElem?_eq_getElem hil] at h2
            exact ⟨_, h2⟩) look k hlook (by omega) r' hr hw
          exact ⟨by omega, r, h1, h2⟩
      · cases h
    · cases h

/-- The cells of data. -/
def datKs : Tys → List CK
  | .nil => []
  | .cons t ts => .dat t :: datKs ts
def toKs : (ts : Tys) → ts.den → CKs.den (datKs ts)
  | .nil, _ => ()
  | .cons _ ts, r => (r.1, toKs ts r.2)
theorem row_cells {S : Nat → Prop} : ∀ {ts : Tys} {vs : List Value} {r : ts.den} {k : Nat}, RdRow w S ts (fun j => vs[j]?) r k → vs.length = k + ts.len → cellsV w S (datKs ts) (toKs ts r) (vs.drop k) []
  | .nil, vs, r, k, _, hl => ⟨by rw [List.drop_eq_nil_of_le (by simp [Tys.len] at hl; omega)], rfl⟩
  | .cons t ts, vs, r, k, h, hl => by
    obtain ⟨⟨v, hv, hrd⟩, hr⟩ := h
    have hk : k < vs.length := by simp [Tys.len] at hl; omega
    have hv' : vs[k] = v := by
      have hv : vs[k]? = some v := hv
      rw [List.getElem?_eq_getElem hk] at hv
      simpa using hv
    refine ⟨v, vs.drop (k + 1), [], [], ?_, rfl, ⟨hrd, rfl⟩, row_cells hr (by simp [Tys.len] at hl; omega)⟩
    rw [List.drop_eq_getElem_cons hk, hv']

/-- An argument that is one cell. -/
theorem open_one {t : TypeId} {ty : Ty} {n : Nat} {v : Value} {d : DataW H} {p : List MemPlace} (hs : shapeR P n t (.cons ty .nil) = some .nil) (hc : v.cells = #[v]) (h : DataW.Trod enc P w base spare held t v d p) :
    ∃ x : ty.den, Rd w (fun b => b < w.heap.size) ty x v ∧ ty.wf x := by
  obtain ⟨fuel, hf⟩ := h
  rw [hc] at hf
  obtain ⟨_, r, ⟨⟨v', hv, hr⟩, _⟩, hw⟩ := shape_open n t _ _ hs fuel _ _ hf (fun j => [v][j]?) 0 (fun j v hj => by simpa using hj) () trivial trivial
  simp at hv
  subst hv
  exact ⟨r.1, hr, hw.1⟩
/-- An argument that is a struct. -/
theorem open_many {t : TypeId} {ts : Tys} {n : Nat} {vs : List Value} {d : DataW H} {p : List MemPlace} (hs : shapeR P n t ts = some .nil) (h : DataW.Trod enc P w base spare held t (.agg vs.toArray) d p) :
    ∃ x : ts.den, partV w (fun b => b < w.heap.size) (.agg (datKs ts)) (toKs ts x) (.agg vs.toArray) [] ∧ ts.wf x := by
  obtain ⟨fuel, hf⟩ := h
  obtain ⟨hl, r, hr, hw⟩ := shape_open n t _ _ hs fuel _ _ hf (fun j => vs[j]?) 0 (fun j v hj => by simpa [Value.cells] using hj) () trivial trivial
  refine ⟨r, ⟨vs, rfl, ?_⟩, hw⟩
  have := row_cells hr (by simp [Value.cells, Tys.len] at hl; simp [Tys.len]; omega)
  simpa using this
end

/-- What stands behind a call that was lent all there was. -/
theorem told_below {sp : Spec} {x : PKs.den sp.ins} {w w' : World} {S S' : Nat → Prop} {vals : List Value} {val : Value} {B1 B2 : List Nat} (h : Told sp x w S vals [] val w' S' B1 B2) : Below w.heap.size w w' := by
  have hk : ∀ k, k < w.heap.size → w'.heap[k]? = w.heap[k]? := fun k hk => h.keep k hk (by simp)
  refine ⟨h.os, h.tape, h.output, ?_, hk⟩
  rcases Nat.eq_zero_or_pos w.heap.size with h0 | h0
  · omega
  · have := hk (w.heap.size - 1) (by omega)
    rw [Array.getElem?_eq_getElem (xs := w.heap) (i := w.heap.size - 1) (by omega)] at this
    have h1 : w.heap.size - 1 < w'.heap.size := heap_lt this
    omega
theorem given_all (w : World) : Given (fun b => b < w.heap.size) w [] := ⟨by simp, by simp, by simp, fun _ h => h⟩
end Go.Rx

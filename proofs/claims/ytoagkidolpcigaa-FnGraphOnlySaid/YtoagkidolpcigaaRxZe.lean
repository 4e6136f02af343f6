/-
  ENGINE, part Ze: the library's sort of texts, and its compaction, as contracts.
  Seat-independent.
-/
import Derived.Test.YtoagkidolpcigaaRxZd
import Derived.Sort.Grow
import Derived.Sort.EncStr
import Derived.Lib.SlicesCompact
import Derived.Lib.RowBridge
namespace Go.Rx
open Go Go.RowKit Go.Sort Go.Proofs
set_option linter.unusedVariables false
set_option linter.unusedSimpArgs false

abbrev TxtT : Tys := .cons .str .nil
def txtL (s : ByteArray × Unit) : List UInt8 := s.1.data.toList
def txtOf (l : List UInt8) : ByteArray × Unit := (⟨l.toArray⟩, ())
theorem txtOf_L (s : ByteArray × Unit) : txtOf (txtL s) = s := by
  obtain ⟨⟨d⟩, _⟩ := s
  simp [txtOf, txtL]
theorem enc_L (s : ByteArray × Unit) : encStr (txtL s) = .string s.1 := by
  obtain ⟨⟨d⟩, _⟩ := s
  simp [encStr, txtL]
theorem txtOf_1 (l : List UInt8) : Value.string (txtOf l).1 = encStr l := rfl
/-- Texts in the order of their bytes. -/
def G.sortS (xs : List (ByteArray × Unit)) : List (ByteArray × Unit) := ((xs.map txtL).mergeSort fun x y => decide (x ≤ y)).map txtOf
/-- Of neighbours that are equal one. -/
def G.compactS (xs : List (ByteArray × Unit)) : List (ByteArray × Unit) := (Lib.compact (xs.map txtL)).map txtOf
theorem sortS_length (xs : List (ByteArray × Unit)) : (G.sortS xs).length = xs.length := by simp [G.sortS]

theorem rdTxt {w : World} {S : Nat → Prop} {l : Nat → Option Value} {r : ByteArray × Unit} {k : Nat} : RdRow w S TxtT l r k ↔ l k = some (.string r.1) := by
  constructor
  · rintro ⟨⟨v, hv, hx⟩, _⟩
    have hx : v = .string r.1 := hx
    rw [hv, hx]
  · intro h
    exact ⟨⟨_, h, rfl⟩, trivial⟩

theorem holds_txt {w : World} {S : Nat → Prop} {b c : Nat} {vs : Array Value} {E : TypeId} {xs : List (ByteArray × Unit)} (hw : w.heap[b]? = some (.cells vs E (0, 0))) (hr : ∀ (i : Nat) (r : ByteArray × Unit), xs[i]? = some r → RdRow w S TxtT (fun k => vs[k]?) r (i * TxtT.len)) :
    Holds encStr w b 0 (xs.map txtL).toArray := by
  intro j hj
  have hj' : j < xs.length := by simpa using hj
  have h := rdTxt.1 (hr j xs[j] (List.getElem?_eq_getElem hj'))
  have h : vs[j]? = some (.string xs[j].1) := by simpa [Tys.len] using h
  refine ⟨?_, ?_⟩
  · rw [cell_of_row w b _ vs E (0, 0) hw]
    rw [show 0 + j = j by omega, h, ← enc_L]
    congr 2
    simp [hj']
  · exact frozen_of_row w b _ vs E hw

theorem heap_putRow {w : World} {b : Nat} {vs : Array Value} {E : TypeId} (hw : w.heap[b]? = some (.cells vs E (0, 0))) (n : Nat) (d : Array (List UInt8)) (os : Array Obj) :
    (grow (putRow encStr (Sort.ahead w n) b 0 d) os).heap[b]? = some (.cells (putCells encStr 0 d vs) E (0, 0)) := by
  have hb := heap_lt hw
  rw [heap_grow_old _ _ (by simpa using hb)]
  show (w.heap.modify b (onCells (putCells encStr 0 d)))[b]? = _
  rw [Array.getElem?_modify, if_pos rfl, hw]
  rfl
theorem heap_putRow_other {w : World} {b k : Nat} (hk : k ≠ b) (hl : k < w.heap.size) (n : Nat) (d : Array (List UInt8)) (os : Array Obj) :
    (grow (putRow encStr (Sort.ahead w n) b 0 d) os).heap[k]? = w.heap[k]? := by
  rw [heap_grow_old _ _ (by simpa using hl)]
  show (w.heap.modify b (onCells (putCells encStr 0 d)))[k]? = _
  rw [Array.getElem?_modify, if_neg (Ne.symm hk)]
theorem arr_txt {w : World} {S : Nat → Prop} {b c : Nat} {vs : Array Value} {E : TypeId} (d : List (List UInt8)) {rest : List (List UInt8)} (hw : w.heap[b]? = some (.cells (putCells encStr 0 (d ++ rest).toArray vs) E (0, 0))) (hl : (d ++ rest).length ≤ c) (hz : vs.size = c * TxtT.len) :
    ArrV w S TxtT (d.map txtOf) (.slice (some ⟨b, 0, none⟩) d.length c) := by
  refine .inr ⟨b, c, _, E, by rw [List.length_map], hw, by rw [List.length_map]; rw [List.length_append] at hl; omega, by unfold putCells; rw [Array.size_mapIdx]; exact hz, fun i r hi => ?_⟩
  rw [List.getElem?_map, Option.map_eq_some_iff] at hi
  obtain ⟨y, hy, rfl⟩ := hi
  obtain ⟨hi, rfl⟩ := List.getElem?_eq_some_iff.1 hy
  refine rdTxt.2 ?_
  rw [txtOf_1]
  have hz : vs.size = c := by simpa [Tys.len] using hz
  rw [List.length_append] at hl
  show (putCells encStr 0 (d ++ rest).toArray vs)[i * 1]? = _
  have hiv : i < vs.size := by omega
  rw [Nat.mul_one]
  unfold putCells
  rw [Array.getElem?_mapIdx, Array.getElem?_eq_getElem hiv]
  simp only [Option.map_some]
  rw [if_pos ⟨by omega, by simp; omega⟩]
  simp [List.getElem?_append_left, hi]

theorem sort_ok {P : Program} {f : Nat} (hc : callable P f)
    (h1 : ∀ (blk off cap : Nat) (ss : List (List UInt8)) (w : World), Holds encStr w blk off ss.toArray → blk < w.heap.size → ss.length < 4611686018427387904 →
      Calls P f #[.slice (some ⟨blk, off, none⟩) ss.length cap] w fun e w' => e = .returned (.tuple #[]) ∧ ∃ n os, w' = grow (putRow encStr (Sort.ahead w n) blk off (ss.mergeSort fun x y => decide (x ≤ y)).toArray) os)
    (h0 : ∀ (p : Option Addr) (cap : Nat) (w : World), Calls P f #[.slice p 0 cap] w fun e w' => e = .returned (.tuple #[]) ∧ w' = w) :
    SpecOk P f ⟨[.wr false [.own TxtT]], .none, false, fun x => decide (x.1.1.length ≤ 1099511627776), fun x => ((), ((G.sortS x.1.1, ()), ()))⟩ := by
  refine ⟨hc, fun x hx w S vals B hp hg => ?_⟩
  obtain ⟨⟨xs, u⟩, u2⟩ := x
  obtain ⟨v, vs', B1, B2, rfl, rfl, ⟨us, hus, hcs⟩, rfl, rfl⟩ := hp
  obtain ⟨v', vs2, B3, B4, rfl, rfl, ⟨ha, rfl⟩, rfl, rfl⟩ := hcs
  have hus : [v'] = [v] := hus
  cases hus
  have hx : xs.length ≤ 1099511627776 := of_decide_eq_true hx
  rw [List.append_nil, List.append_nil] at hg
  rcases ha with ⟨rfl, rfl⟩ | ⟨b, c, cs, E, rfl, hw, hl, hz, hr⟩
  · refine (h0 none 0 w).mono ?_
    rintro e w' ⟨rfl, rfl⟩
    refine ⟨_, S, [], [], rfl, ⟨rfl, rfl⟩, ?_, List.nodup_nil, fun b hb => (by cases hb), ?_, fun _ h => h, fun _ h => .inl h, hg.slt, fun _ _ _ => rfl, rfl, rfl, rfl, Nat.le_refl _⟩
    · exact ⟨⟨[.slice none 0 0], rfl, .inl ⟨rfl, (show G.sortS [] = [] by simp [G.sortS])⟩, trivial⟩, rfl, rfl⟩
    · intro b hb
      have hb : b ∈ ([] : List Nat) := hb
      cases hb
  · have hH := holds_txt (c := c) hw hr
    have key := h1 b 0 c (xs.map txtL) w hH (heap_lt hw) (by simp; omega)
    rw [List.length_map] at key
    refine key.mono ?_
    rintro e w' ⟨rfl, n, os, rfl⟩
    have hin : b ∈ [b] := List.mem_singleton.2 rfl
    have hS : ¬ S b := hg.apart b hin
    refine ⟨_, S, [], [], rfl, ⟨rfl, rfl⟩, ?_, List.nodup_nil, fun b hb => (by cases hb), ?_, fun _ h => h, fun _ h => .inl h, ?_, ?_, rfl, rfl, rfl, ?_⟩
    · refine ⟨⟨_, rfl, ?_, trivial⟩, rfl, rfl⟩
      have h2 := heap_putRow hw n ((xs.map txtL).mergeSort fun x y => decide (x ≤ y)).toArray os
      have := arr_txt (S := S) (c := c) ((xs.map txtL).mergeSort fun x y => decide (x ≤ y)) (rest := []) (by rw [List.append_nil]; exact h2) (by simp; exact hl) hz
      rw [List.length_mergeSort, List.length_map] at this
      exact this
    · intro k hk
      have hk : k ∈ [b] := hk
      cases List.mem_singleton.1 hk
      exact hS
    · intro k hk
      have := hg.slt k hk
      simp
      omega
    · intro k hk hkb
      exact heap_putRow_other (fun e => hkb (by rw [e]; exact List.mem_append_left _ (List.mem_append_left _ hin))) hk _ _ _
    · simp

theorem compact_ok {P : Program} {f : Nat} (hc : callable P f)
    (h1 : ∀ (blk off cap : Nat) (zs : List (List UInt8)) (w : World), Holds encStr w blk off zs.toArray → zs.length ≤ 9223372036854775807 → zs.length ≤ cap →
      Calls P f #[.slice (some ⟨blk, off, none⟩) zs.length cap] w fun e w' => e = .returned (.slice (some ⟨blk, off, none⟩) (Lib.compact zs).length cap) ∧ ∃ q, w' = putRow encStr (Sort.ahead w q) blk off (Lib.compact zs ++ List.replicate (zs.length - (Lib.compact zs).length) []).toArray)
    (h0 : ∀ (a : Option Addr) (cap : Nat) (w : World), Calls P f #[.slice a 0 cap] w fun e w' => e = .returned (.slice a 0 cap) ∧ w' = w) :
    SpecOk P f ⟨[.c (.own TxtT)], .one (.c (.own TxtT)), false, fun x => decide (x.1.length ≤ 1099511627776), fun x => (G.compactS x.1, ())⟩ := by
  refine ⟨hc, fun x hx w S vals B hp hg => ?_⟩
  obtain ⟨xs, u⟩ := x
  obtain ⟨v, vs', B1, B2, rfl, rfl, ⟨ha, rfl⟩, rfl, rfl⟩ := hp
  have hx : xs.length ≤ 1099511627776 := of_decide_eq_true hx
  rw [List.append_nil] at hg ⊢
  rcases ha with ⟨rfl, rfl⟩ | ⟨b, c, cs, E, rfl, hw, hl, hz, hr⟩
  · refine (h0 none 0 w).mono ?_
    rintro e w' ⟨rfl, rfl⟩
    refine ⟨_, S, [], [], rfl, ⟨.inl ⟨rfl, by rfl⟩, rfl⟩, ⟨rfl, rfl⟩, List.nodup_nil, fun b hb => (by cases hb), ?_, fun _ h => h, fun _ h => .inl h, hg.slt, fun _ _ _ => rfl, rfl, rfl, rfl, Nat.le_refl _⟩
    intro b hb
    have hb : b ∈ ([] : List Nat) := hb
    cases hb
  · have hH := holds_txt (c := c) hw hr
    have key := h1 b 0 c (xs.map txtL) w hH (by simp; omega) (by simpa using hl)
    rw [List.length_map] at key
    refine key.mono ?_
    rintro e w' ⟨rfl, q, rfl⟩
    have hin : b ∈ [b] := List.mem_singleton.2 rfl
    have hS : ¬ S b := hg.apart b hin
    have hl : xs.length ≤ c := hl
    have hlen : (Lib.compact (xs.map txtL)).length ≤ xs.length := by
      have := Lib.compact_length_le (xs.map txtL)
      simpa using this
    have h2 := heap_putRow hw q (Lib.compact (xs.map txtL) ++ List.replicate (xs.length - (Lib.compact (xs.map txtL)).length) []).toArray #[]
    rw [grow_empty] at h2
    refine ⟨_, S, [b], [], rfl, ⟨arr_txt (S := S) (c := c) _ h2 (by simp; omega) hz, rfl⟩, ⟨rfl, rfl⟩, by simp, ?_, ?_, fun _ h => h, fun _ h => .inl h, ?_, ?_, rfl, rfl, rfl, ?_⟩
    · intro k hk
      have hk : k ∈ [b] := hk
      cases List.mem_singleton.1 hk
      exact ⟨hS, fun e => (by have e : b ∈ ([] : List Nat) := e; cases e), .inl hin⟩
    · intro b hb
      have hb : b ∈ ([] : List Nat) := hb
      cases hb
    · intro k hk
      have := hg.slt k hk
      simp
      omega
    · intro k hk hkb
      have := heap_putRow_other (w := w) (b := b) (fun e => hkb (by rw [e]; exact hin)) hk q (Lib.compact (xs.map txtL) ++ List.replicate (xs.length - (Lib.compact (xs.map txtL)).length) []).toArray #[]
      rw [grow_empty] at this
      exact this
    · simp
end Go.Rx

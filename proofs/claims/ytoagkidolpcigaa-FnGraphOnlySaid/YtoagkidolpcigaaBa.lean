/-
  CELLS: what the functions that compare and copy images compute.
-/
import Derived.Test.YtoagkidolpcigaaAa
namespace Go.Rx
open Go
set_option linter.unusedVariables false
set_option linter.unusedSimpArgs false

/-- Lists that are to be walked are of a length that no number runs over. -/
def G.few (n : Nat) : Bool := decide (n ≤ 1099511627776)
theorem few_iff {n : Nat} : G.few n = true ↔ n ≤ 1099511627776 := by simp [G.few]
/-- From place i on the lists are the same. -/
def G.eqFrom {α : Type} [DecidableEq α] (a b : List α) (i : Int) : Bool := decide (a.drop i.toNat = b.drop i.toNat)
theorem toNat_succ {i : Int} (h : 0 ≤ i) : (i + 1).toNat = i.toNat + 1 := by omega
theorem eqFrom_step {α : Type} [DecidableEq α] (d : α) {a b : List α} {i : Int} (h0 : 0 ≤ i) (ha : i < (a.length : Int)) (hb : i < (b.length : Int)) :
    G.eqFrom a b i = (decide (a.getD i.toNat d = b.getD i.toNat d) && G.eqFrom a b (i + 1)) := by
  unfold G.eqFrom
  rw [drop_cons d (xs := a) (i := i.toNat) (by omega), drop_cons d (xs := b) (i := i.toNat) (by omega), toNat_succ h0]
  simp [Bool.decide_and]
theorem eqFrom_end {α : Type} [DecidableEq α] {a b : List α} {i : Int} (ha : (a.length : Int) ≤ i) (hb : (b.length : Int) ≤ i) : G.eqFrom a b i = true := by
  unfold G.eqFrom
  rw [drop_nil (by omega), drop_nil (by omega)]
  simp
theorem eqFrom_zero {α : Type} [DecidableEq α] (a b : List α) : G.eqFrom a b 0 = decide (a = b) := by simp [G.eqFrom]

theorem okSize_few {k n : Nat} (hk : k ≤ 64) (h : n ≤ 1099511627777) : Go.Rx.okSize k n = true := by
  unfold okSize
  refine decide_eq_true ?_
  have : n * k ≤ 1099511627777 * 64 := Nat.mul_le_mul h hk
  omega
/-! eqCell -/
def G.eqCell (a b : Cell) : Bool := decide (a = b)
abbrev CellK : List CK := [.dat I, .dat I]
noncomputable abbrev spEqCell : Spec := ⟨[.agg CellK, .agg CellK], .one (.c (.dat .bool)), false, fun _ => true, fun x => (G.eqCell x.1 x.2.1, ())⟩
noncomputable abbrev ph1 : List (Nat × List Spec) := []
theorem ph1_ok : PhiOk Go.Proofs.Try.prog ph1 := trivial

/-! lists compared -/
abbrev CellSP : PK := .c (.dat (.sl cellT))
abbrev IntSP : PK := .c (.dat (.sl intT))
abbrev eqInv (ls : LSpec) : PKs.den ls.ins → Prop := fun x => ls.pre x = true
theorem cell_ne {x y : Int × Int × Unit} (h : ¬ x = y) : (decide (x.1 = y.1) && (decide (x.2.1 = y.2.1) && true)) = false := by
  obtain ⟨x1, x2, _⟩ := x
  obtain ⟨y1, y2, _⟩ := y
  simp at h ⊢
  exact h
def G.sameS {α : Type} [DecidableEq α] (a b : List α) : Bool := decide (a = b)
def G.eqPre {α : Type} (a b : List α) (i : Int) : Bool := decide (0 ≤ i ∧ i ≤ (a.length : Int) ∧ a.length = b.length ∧ a.length ≤ 1099511627776)
theorem eqPre_iff {α : Type} {a b : List α} {i : Int} : G.eqPre a b i = true ↔ (0 ≤ i ∧ i ≤ (a.length : Int) ∧ a.length = b.length ∧ a.length ≤ 1099511627776) := by simp [G.eqPre]
def G.eqPreR {α : Type} (a b : List α) (n i : Int) : Bool := decide (0 ≤ i ∧ i ≤ (a.length : Int) ∧ a.length = b.length ∧ a.length ≤ 1099511627776 ∧ n = (a.length : Int))
theorem eqPreR_iff {α : Type} {a b : List α} {n i : Int} : G.eqPreR a b n i = true ↔ (0 ≤ i ∧ i ≤ (a.length : Int) ∧ a.length = b.length ∧ a.length ≤ 1099511627776 ∧ n = (a.length : Int)) := by simp [G.eqPreR]
/-! EqCellS: its loop -/
noncomputable abbrev lsEqCellS : LSpec := ⟨[0, 1, 5, 4], [4], [.c (.dat (.sl cellT)), .c (.dat (.sl cellT)), .c (.dat I), .c (.dat .bool)], [.c (.dat .bool)], false, fun x => G.eqPre x.1 x.2.1 x.2.2.1,
  fun x => ((if G.eqFrom x.1 x.2.1 x.2.2.1 = true then 0 else 1, (G.eqFrom x.1 x.2.1 x.2.2.1 && x.2.2.2.1, ())), ())⟩
noncomputable abbrev muEqCellS : PKs.den lsEqCellS.ins → Nat := fun x => x.1.length - x.2.2.1.toNat
/-! EqCellS -/
noncomputable abbrev spEqCellS : Spec := ⟨[.c (.dat (.sl cellT)), .c (.dat (.sl cellT))], .one (.c (.dat .bool)), false, fun x => G.few x.1.length, fun x => (G.sameS x.1 x.2.1, ())⟩
/-! SpImageSame: its loop -/
noncomputable abbrev lsSpImageSame : LSpec := ⟨[0, 1, 5, 4], [4], [.c (.dat (.sl cellT)), .c (.dat (.sl cellT)), .c (.dat I), .c (.dat .bool)], [.c (.dat .bool)], false, fun x => G.eqPre x.1 x.2.1 x.2.2.1,
  fun x => ((if G.eqFrom x.1 x.2.1 x.2.2.1 = true then 0 else 1, (G.eqFrom x.1 x.2.1 x.2.2.1 && x.2.2.2.1, ())), ())⟩
noncomputable abbrev muSpImageSame : PKs.den lsSpImageSame.ins → Nat := fun x => x.1.length - x.2.2.1.toNat
/-! SpImageSame -/
noncomputable abbrev spSpImageSame : Spec := ⟨[.c (.dat (.sl cellT)), .c (.dat (.sl cellT))], .one (.c (.dat .bool)), false, fun x => G.few x.1.length, fun x => (G.sameS x.1 x.2.1, ())⟩
/-! SlEqCell: its loop -/
noncomputable abbrev lsSlEqCell : LSpec := ⟨[0, 1, 12, 13, 4], [4], [.c (.dat (.sl cellT)), .c (.dat (.sl cellT)), .c (.dat I), .c (.dat I), .c (.dat .bool)], [.c (.dat .bool)], false, fun x => G.eqPreR x.1 x.2.1 x.2.2.1 x.2.2.2.1,
  fun x => ((if G.eqFrom x.1 x.2.1 x.2.2.2.1 = true then 0 else 1, (G.eqFrom x.1 x.2.1 x.2.2.2.1 && x.2.2.2.2.1, ())), ())⟩
noncomputable abbrev muSlEqCell : PKs.den lsSlEqCell.ins → Nat := fun x => x.1.length - x.2.2.2.1.toNat
/-! SlEqCell -/
noncomputable abbrev spSlEqCell : Spec := ⟨[.c (.dat (.sl cellT)), .c (.dat (.sl cellT))], .one (.c (.dat .bool)), false, fun x => G.few x.1.length, fun x => (G.sameS x.1 x.2.1, ())⟩
/-! toCell -/
noncomputable abbrev spToCell : Spec := ⟨[.agg CellK], .one (.agg CellK), false, fun _ => true, fun x => (x.1, ())⟩
noncomputable abbrev ph2 : List (Nat × List Spec) := ph1
theorem ph2_ok : PhiOk Go.Proofs.Try.prog ph2 := ph1_ok
/-! lists copied -/
def G.cpPre {α : Type} (a b : List α) (i : Int) : Bool := decide (0 ≤ i ∧ i ≤ (a.length : Int) ∧ b.length = a.length ∧ a.length ≤ 1099511627776)
theorem cpPre_iff {α : Type} {a b : List α} {i : Int} : G.cpPre a b i = true ↔ (0 ≤ i ∧ i ≤ (a.length : Int) ∧ b.length = a.length ∧ a.length ≤ 1099511627776) := by simp [G.cpPre]
def G.fill {α : Type} (a b : List α) (i : Int) : List α := b.take i.toNat ++ a.drop i.toNat
theorem fill_step {α : Type} (d : α) {a b : List α} {i : Int} (h0 : 0 ≤ i) (ha : i < (a.length : Int)) (hb : i < (b.length : Int)) : G.fill a (b.set i.toNat (a.getD i.toNat d)) (i + 1) = G.fill a b i := by
  unfold G.fill
  rw [toNat_succ h0, drop_cons d (xs := a) (i := i.toNat) (by omega), take_succ d (xs := b.set i.toNat (a.getD i.toNat d)) (i := i.toNat) (by simp; omega)]
  have h1 : (b.set i.toNat (a.getD i.toNat d)).getD i.toNat d = a.getD i.toNat d := by
    have : i.toNat < b.length := by omega
    simp [List.getD, this]
  rw [h1, List.take_set_of_le (by omega)]
  simp
theorem fill_end {α : Type} {a b : List α} {i : Int} (ha : (a.length : Int) ≤ i) (hb : (b.length : Int) ≤ i) : G.fill a b i = b := by
  unfold G.fill
  rw [drop_nil (by omega), List.take_of_length_le (by omega)]
  simp
/-! ToCellS: its loop -/
noncomputable abbrev lsToCellS : LSpec := ⟨[0, 3, 4], [3], [.c (.dat (.sl cellT)), .c (.own cellT), .c (.dat I)], [.c (.own cellT)], false, fun x => G.cpPre x.1 x.2.1 x.2.2.1,
  fun x => ((0, (G.fill x.1 x.2.1 x.2.2.1, ())), ())⟩
noncomputable abbrev muToCellS : PKs.den lsToCellS.ins → Nat := fun x => x.1.length - x.2.2.1.toNat
/-! ToCellS -/
noncomputable abbrev spToCellS : Spec := ⟨[.c (.dat (.sl cellT))], .one (.c (.own cellT)), false, fun x => G.few x.1.length, fun x => (x.1, ())⟩
/-! szCellS -/
def G.szS (n : Nat) (left : Int) : Int := if IntKind.i64.wrap (left - (n : Int)) < 0 then -1 else IntKind.i64.wrap (left - (n : Int))
noncomputable abbrev spSzCellS : Spec := ⟨[CellSP, .c (.dat I)], .one (.c (.dat I)), false, fun _ => true, fun x => (G.szS x.1.length x.2.1, ())⟩
/-! impl.ImageSame -/
noncomputable abbrev spImageSame : Spec := ⟨[CellSP, CellSP], .one (.c (.dat .bool)), false, fun x => G.few x.1.length, fun x => (G.sameS x.1 x.2.1, ())⟩
noncomputable abbrev ph3 : List (Nat × List Spec) := ph2
theorem ph3_ok : PhiOk Go.Proofs.Try.prog ph3 := ph2_ok

/-! the law -/
noncomputable abbrev spLawImageSame : Spec := ⟨[CellSP, CellSP], .one (.c (.dat .bool)), false, fun x => decide (x.1.length ≤ 9223372036854775807 ∧ x.2.1.length ≤ 9223372036854775807), fun x => (true, ())⟩
theorem szS_few {n : Nat} {l : Int} (h0 : 0 ≤ l) (h1 : l ≤ 1048576) (hn : n ≤ 9223372036854775807) (h : ¬ G.szS n l < 0) : (n : Int) ≤ l ∧ G.szS n l = l - (n : Int) := by
  unfold G.szS at h ⊢
  have hw : IntKind.i64.wrap (l - (n : Int)) = l - (n : Int) := w64 (by omega) (by omega)
  rw [hw] at h ⊢
  by_cases hc : l - (n : Int) < 0
  · rw [if_pos hc] at h
    omega
  · rw [if_neg hc]
    omega
theorem sameS_self {α : Type} [DecidableEq α] (a : List α) : G.sameS a a = true := by simp [G.sameS]
end Go.Rx

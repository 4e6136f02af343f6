/-
  CELLS: what the functions that compare and copy images compute.
-/
import Derived.Test.YteenlfeglffnoaaAa
namespace Go.Rx
open Go
set_option linter.unusedVariables false
set_option linter.unusedSimpArgs false

/-- Lists that are to be walked are of a length that no number runs over. -/
def G.few (n : Nat) : Bool := decide (n ≤ 1099511627776)
theorem few_iff {n : Nat} : G.few n = true ↔ n ≤ 1099511627776 := by simp [G.few]
/-- From place i on the lists are the same. -/
def G.eqFrom {α : Type} [DecidableEq α] (a b : List α) (i : Int) : Bool := decide (a.drop i.toNat = b.drop i.toNat)
theorem toNat_succ {i : Int} (h : 0 ≤ i) : (i + 1).toNat = i.toNat + 1 := by omega
theorem eqFrom_step {α : Type} [DecidableEq α] (d : α) {a b : List α} {i : Int} (h0 : 0 ≤ i) (ha : i < (a.length : Int)) (hb : i < (b.length : Int)) :
    G.eqFrom a b i = (decide (a.getD i.toNat d = b.getD i.toNat d) && G.eqFrom a b (i + 1)) := by
  unfold G.eqFrom
  rw [drop_cons d (xs := a) (i := i.toNat) (by omega), drop_cons d (xs := b) (i := i.toNat) (by omega), toNat_succ h0]
  simp [Bool.decide_and]
theorem eqFrom_end {α : Type} [DecidableEq α] {a b : List α} {i : Int} (ha : (a.length : Int) ≤ i) (hb : (b.length : Int) ≤ i) : G.eqFrom a b i = true := by
  unfold G.eqFrom
  rw [drop_nil (by omega), drop_nil (by omega)]
  simp
theorem eqFrom_zero {α : Type} [DecidableEq α] (a b : List α) : G.eqFrom a b 0 = decide (a = b) := by simp [G.eqFrom]

theorem okSize_few {k n : Nat} (hk : k ≤ 64) (h : n ≤ 1099511627777) : Go.Rx.okSize k n = true := by
  unfold okSize
  refine decide_eq_true ?_
  have : n * k ≤ 1099511627777 * 64 := Nat.mul_le_mul h hk
  omega
/-! eqCell -/
def G.eqCell (a b : Cell) : Bool := decide (a = b)
abbrev CellK : List CK := [.dat I, .dat I]
noncomputable abbrev spEqCell : Spec := ⟨[.agg CellK, .agg CellK], .one (.c (.dat .bool)), false, fun _ => true, fun x => (G.eqCell x.1 x.2.1, ())⟩
noncomputable abbrev cxEqCell : Cx := mkCx T0 [] [] [] 15
theorem eEqCell (a b : Cell) : funK cxEqCell Go.Proofs.Try.f47 spEqCell.ins spEqCell.out (a, b, ()) =
  (if (!Decidable.decide (a.1 = b.1)) = Bool.true then Option.some (Bool.false, PUnit.unit)
  else if (!Decidable.decide (a.2.1 = b.2.1)) = Bool.true then Option.some (Bool.false, PUnit.unit) else Option.some (Bool.true, PUnit.unit)) := by kernel_rfl
theorem okEqCell : SpecOk Go.Proofs.Try.prog 47 spEqCell := by
  refine fun_okB (cx := cxEqCell) (F := Go.Proofs.Try.f47) (cxOk T0_ok T0_eq trivial) mixed (by kernel_rfl) (by decide) (by kernel_rfl) (lps_none (by kernel_rfl)) ?_
  rintro ⟨⟨a1, a2, _⟩, ⟨b1, b2, _⟩, _⟩ -
  rw [eEqCell]
  simp only [G.eqCell, Prod.mk.injEq]
  by_cases h1 : a1 = b1 <;> by_cases h2 : a2 = b2 <;> simp [h1, h2]
noncomputable abbrev ph1 : List (Nat × List Spec) := (47, [spEqCell]) :: []
theorem ph1_ok : PhiOk Go.Proofs.Try.prog ph1 := ⟨⟨okEqCell, trivial⟩, trivial⟩

/-! lists compared -/
abbrev CellSP : PK := .c (.dat (.sl cellT))
abbrev IntSP : PK := .c (.dat (.sl intT))
abbrev eqInv (ls : LSpec) : PKs.den ls.ins → Prop := fun x => ls.pre x = true
theorem cell_ne {x y : Int × Int × Unit} (h : ¬ x = y) : (decide (x.1 = y.1) && (decide (x.2.1 = y.2.1) && true)) = false := by
  obtain ⟨x1, x2, _⟩ := x
  obtain ⟨y1, y2, _⟩ := y
  simp at h ⊢
  exact h
def G.sameS {α : Type} [DecidableEq α] (a b : List α) : Bool := decide (a = b)
def G.eqPre {α : Type} (a b : List α) (i : Int) : Bool := decide (0 ≤ i ∧ i ≤ (a.length : Int) ∧ a.length = b.length ∧ a.length ≤ 1099511627776)
theorem eqPre_iff {α : Type} {a b : List α} {i : Int} : G.eqPre a b i = true ↔ (0 ≤ i ∧ i ≤ (a.length : Int) ∧ a.length = b.length ∧ a.length ≤ 1099511627776) := by simp [G.eqPre]
def G.eqPreR {α : Type} (a b : List α) (n i : Int) : Bool := decide (0 ≤ i ∧ i ≤ (a.length : Int) ∧ a.length = b.length ∧ a.length ≤ 1099511627776 ∧ n = (a.length : Int))
theorem eqPreR_iff {α : Type} {a b : List α} {n i : Int} : G.eqPreR a b n i = true ↔ (0 ≤ i ∧ i ≤ (a.length : Int) ∧ a.length = b.length ∧ a.length ≤ 1099511627776 ∧ n = (a.length : Int)) := by simp [G.eqPreR]
/-! EqCellS: its loop -/
noncomputable abbrev lsEqCellS : LSpec := ⟨[0, 1, 5, 4], [4], [.c (.dat (.sl cellT)), .c (.dat (.sl cellT)), .c (.dat I), .c (.dat .bool)], [.c (.dat .bool)], false, fun x => G.eqPre x.1 x.2.1 x.2.2.1,
  fun x => ((if G.eqFrom x.1 x.2.1 x.2.2.1 = true then 0 else 1, (G.eqFrom x.1 x.2.1 x.2.2.1 && x.2.2.2.1, ())), ())⟩
noncomputable abbrev cxEqCellS : Cx := mkCx T0 ph1 [(0, lsEqCellS)] [] 27
theorem rEqCellS (a b : List (Int × Int × Unit)) (i : Int) (r : Bool) : roundK cxEqCellS 0 (loopIn Go.Proofs.Try.f15 0) lsEqCellS (a, b, i, r, ()) =
  (if Decidable.decide (i < (↑(List.length a) : Int)) = Bool.true then
    if Decidable.decide ((0 : Int) ≤ i) = Bool.true then
      if Decidable.decide (i < (↑(List.length a) : Int)) = Bool.true then
        if Decidable.decide ((0 : Int) ≤ i) = Bool.true then
          if Decidable.decide (i < (↑(List.length b) : Int)) = Bool.true then
            if (!Go.Rx.G.eqCell (List.getD a (Int.toNat i) ((0 : Int), (0 : Int), PUnit.unit)) (List.getD b (Int.toNat i) ((0 : Int), (0 : Int), PUnit.unit))) = Bool.true then
              Option.some (Go.Rx.LRes.stop (1 : Nat) (Bool.false, PUnit.unit) PUnit.unit)
            else Option.some (Go.Rx.LRes.go (a, b, Go.IntKind.wrap Go.IntKind.i64 (i + (1 : Int)), r, PUnit.unit))
          else Option.none
        else Option.none
      else Option.none
    else Option.none
  else Option.some (Go.Rx.LRes.stop (0 : Nat) (r, PUnit.unit) PUnit.unit)) := by kernel_rfl
noncomputable abbrev muEqCellS : PKs.den lsEqCellS.ins → Nat := fun x => x.1.length - x.2.2.1.toNat
theorem stEqCellS (a b : List (Int × Int × Unit)) (i : Int) (r : Bool) (h : G.eqPre a b i = true) : StepOk lsEqCellS (eqInv lsEqCellS) muEqCellS (a, b, i, r, ()) (roundK cxEqCellS 0 (loopIn Go.Proofs.Try.f15 0) lsEqCellS (a, b, i, r, ())) := by
  obtain ⟨h0, h1, h2, h3⟩ := eqPre_iff.1 h
  rw [rEqCellS]
  by_cases hi : i < (a.length : Int)
  · have hb : i < (b.length : Int) := by omega
    skip
    have hw : IntKind.i64.wrap (i + 1) = i + 1 := w64 (by omega) (by omega)
    have he := eqFrom_step (((0 : Int), (0 : Int), ()) : Int × Int × Unit) h0 hi hb
    simp only [hi, hb, h0, decide_true, if_true, hw]
    generalize a.getD i.toNat (((0 : Int), (0 : Int), ()) : Int × Int × Unit) = x at *
    generalize b.getD i.toNat (((0 : Int), (0 : Int), ()) : Int × Int × Unit) = y at *
    by_cases hc : x = y
    · subst hc
      simp at he
      simp [G.eqCell]
      refine ⟨(show G.eqPre a b (i + 1) = true from eqPre_iff.2 ⟨by omega, by omega, h2, h3⟩), ?_, ?_⟩
      · show a.length - (i + 1).toNat < a.length - i.toNat
        omega
      · show ((_, _), _) = ((_, _), _)
        simp only [he]
    · simp only [hc, decide_false, Bool.false_and] at he
      have hcc : G.eqCell x y = false := by simp [G.eqCell, hc]
      simp only [hcc, Bool.not_false, if_true]
      show ((_, _), _) = ((_, _), _)
      simp only [he]
      simp
  · have he : G.eqFrom a b i = true := eqFrom_end (by omega) (by omega)
    skip
    simp only [hi, decide_false]
    show ((_, _), _) = ((_, _), _)
    simp only [he]
    simp
theorem lpEqCellS : LpOk Go.Proofs.Try.prog cxEqCellS.ntmps 0 (loopIn Go.Proofs.Try.f15 0) lsEqCellS :=
  lp_okB (cxOk T0_ok T0_eq ph1_ok) mixed (by kernel_rfl) (lps_none (by kernel_rfl)) (eqInv lsEqCellS) muEqCellS (fun _ h => h) (fun x h => stEqCellS x.1 x.2.1 x.2.2.1 x.2.2.2.1 h)
/-! EqCellS -/
noncomputable abbrev spEqCellS : Spec := ⟨[.c (.dat (.sl cellT)), .c (.dat (.sl cellT))], .one (.c (.dat .bool)), false, fun x => G.few x.1.length, fun x => (G.sameS x.1 x.2.1, ())⟩
theorem eEqCellS (a b : List (Int × Int × Unit)) : funK cxEqCellS Go.Proofs.Try.f15 spEqCellS.ins spEqCellS.out (a, b, ()) =
  (if (!Decidable.decide ((↑(List.length a) : Int) = (↑(List.length b) : Int))) = Bool.true then Option.some (Bool.false, PUnit.unit)
  else
    if Go.Rx.G.eqPre a b (0 : Int) = Bool.true then
      if (if Go.Rx.G.eqFrom a b (0 : Int) = Bool.true then (0 : Nat) else (1 : Nat)) = (0 : Nat) then Option.some (Bool.true, PUnit.unit)
      else
        if (if Go.Rx.G.eqFrom a b (0 : Int) = Bool.true then (0 : Nat) else (1 : Nat)) = (1 : Nat) then Option.some (Go.Rx.G.eqFrom a b (0 : Int) && Bool.false, PUnit.unit)
        else Option.none
    else Option.none) := by kernel_rfl
theorem sfEqCellS (a b : List (Int × Int × Unit)) (h : G.few a.length = true) : funK cxEqCellS Go.Proofs.Try.f15 spEqCellS.ins spEqCellS.out (a, b, ()) = some (G.sameS a b, ()) := by
  rw [eEqCellS]
  by_cases hl : a.length = b.length
  · have hp : G.eqPre a b 0 = true := eqPre_iff.2 ⟨by omega, by omega, hl, few_iff.1 h⟩
    skip
    have he : G.eqFrom a b 0 = G.sameS a b := eqFrom_zero a b
    simp only [hp, he]
    cases G.sameS a b <;> simp [hl]
  · have : G.sameS a b = false := by
      simp only [G.sameS, decide_eq_false_iff_not]
      intro e
      exact hl (by rw [e])
    simp only [this]
    rw [if_pos (by simp; omega)]
theorem okEqCellS : SpecOk Go.Proofs.Try.prog 15 spEqCellS :=
  fun_okB (cx := cxEqCellS) (F := Go.Proofs.Try.f15) (cxOk T0_ok T0_eq ph1_ok) mixed (by kernel_rfl) (by decide) (by kernel_rfl) (lps_of (l := [(0, loopIn Go.Proofs.Try.f15 0)]) (by kernel_rfl) ⟨lp_at lpEqCellS rfl, trivial⟩)
    (fun x h => sfEqCellS x.1 x.2.1 h)
/-! SpImageSame: its loop -/
noncomputable abbrev lsSpImageSame : LSpec := ⟨[0, 1, 5, 4], [4], [.c (.dat (.sl cellT)), .c (.dat (.sl cellT)), .c (.dat I), .c (.dat .bool)], [.c (.dat .bool)], false, fun x => G.eqPre x.1 x.2.1 x.2.2.1,
  fun x => ((if G.eqFrom x.1 x.2.1 x.2.2.1 = true then 0 else 1, (G.eqFrom x.1 x.2.1 x.2.2.1 && x.2.2.2.1, ())), ())⟩
noncomputable abbrev muSpImageSame : PKs.den lsSpImageSame.ins → Nat := fun x => x.1.length - x.2.2.1.toNat
/-! SpImageSame -/
noncomputable abbrev spSpImageSame : Spec := ⟨[.c (.dat (.sl cellT)), .c (.dat (.sl cellT))], .one (.c (.dat .bool)), false, fun x => G.few x.1.length, fun x => (G.sameS x.1 x.2.1, ())⟩
/-! SlEqCell: its loop -/
noncomputable abbrev lsSlEqCell : LSpec := ⟨[0, 1, 12, 13, 4], [4], [.c (.dat (.sl cellT)), .c (.dat (.sl cellT)), .c (.dat I), .c (.dat I), .c (.dat .bool)], [.c (.dat .bool)], false, fun x => G.eqPreR x.1 x.2.1 x.2.2.1 x.2.2.2.1,
  fun x => ((if G.eqFrom x.1 x.2.1 x.2.2.2.1 = true then 0 else 1, (G.eqFrom x.1 x.2.1 x.2.2.2.1 && x.2.2.2.2.1, ())), ())⟩
noncomputable abbrev muSlEqCell : PKs.den lsSlEqCell.ins → Nat := fun x => x.1.length - x.2.2.2.1.toNat
/-! SlEqCell -/
noncomputable abbrev spSlEqCell : Spec := ⟨[.c (.dat (.sl cellT)), .c (.dat (.sl cellT))], .one (.c (.dat .bool)), false, fun x => G.few x.1.length, fun x => (G.sameS x.1 x.2.1, ())⟩
/-! toCell -/
noncomputable abbrev spToCell : Spec := ⟨[.agg CellK], .one (.agg CellK), false, fun _ => true, fun x => (x.1, ())⟩
noncomputable abbrev cxToCell : Cx := mkCx T0 [] [] [] 11
theorem eToCell (a : Cell) : funK cxToCell Go.Proofs.Try.f41 spToCell.ins spToCell.out (a, ()) =
  (Option.some (a, PUnit.unit)) := by kernel_rfl
theorem okToCell : SpecOk Go.Proofs.Try.prog 41 spToCell :=
  fun_okB (cx := cxToCell) (F := Go.Proofs.Try.f41) (cxOk T0_ok T0_eq trivial) mixed (by kernel_rfl) (by decide) (by kernel_rfl) (lps_none (by kernel_rfl)) (fun x _ => eToCell x.1)
noncomputable abbrev ph2 : List (Nat × List Spec) := (41, [spToCell]) :: (15, [spEqCellS]) :: ph1
theorem ph2_ok : PhiOk Go.Proofs.Try.prog ph2 := ⟨⟨okToCell, trivial⟩, ⟨okEqCellS, trivial⟩, ph1_ok⟩
/-! lists copied -/
def G.cpPre {α : Type} (a b : List α) (i : Int) : Bool := decide (0 ≤ i ∧ i ≤ (a.length : Int) ∧ b.length = a.length ∧ a.length ≤ 1099511627776)
theorem cpPre_iff {α : Type} {a b : List α} {i : Int} : G.cpPre a b i = true ↔ (0 ≤ i ∧ i ≤ (a.length : Int) ∧ b.length = a.length ∧ a.length ≤ 1099511627776) := by simp [G.cpPre]
def G.fill {α : Type} (a b : List α) (i : Int) : List α := b.take i.toNat ++ a.drop i.toNat
theorem fill_step {α : Type} (d : α) {a b : List α} {i : Int} (h0 : 0 ≤ i) (ha : i < (a.length : Int)) (hb : i < (b.length : Int)) : G.fill a (b.set i.toNat (a.getD i.toNat d)) (i + 1) = G.fill a b i := by
  unfold G.fill
  rw [toNat_succ h0, drop_cons d (xs := a) (i := i.toNat) (by omega), take_succ d (xs := b.set i.toNat (a.getD i.toNat d)) (i := i.toNat) (by simp; omega)]
  have h1 : (b.set i.toNat (a.getD i.toNat d)).getD i.toNat d = a.getD i.toNat d := by
    have : i.toNat < b.length := by omega
    simp [List.getD, this]
  rw [h1, List.take_set_of_le (by omega)]
  simp
theorem fill_end {α : Type} {a b : List α} {i : Int} (ha : (a.length : Int) ≤ i) (hb : (b.length : Int) ≤ i) : G.fill a b i = b := by
  unfold G.fill
  rw [drop_nil (by omega), List.take_of_length_le (by omega)]
  simp
/-! ToCellS: its loop -/
noncomputable abbrev lsToCellS : LSpec := ⟨[0, 3, 4], [3], [.c (.dat (.sl cellT)), .c (.own cellT), .c (.dat I)], [.c (.own cellT)], false, fun x => G.cpPre x.1 x.2.1 x.2.2.1,
  fun x => ((0, (G.fill x.1 x.2.1 x.2.2.1, ())), ())⟩
noncomputable abbrev cxToCellS : Cx := mkCx T0 ph2 [(0, lsToCellS)] [] 23
theorem rToCellS (a b : List (Int × Int × Unit)) (i : Int) : roundK cxToCellS 0 (loopIn Go.Proofs.Try.f11 0) lsToCellS (a, b, i, ()) =
  (if Decidable.decide (i < (↑(List.length a) : Int)) = Bool.true then
    if Decidable.decide ((0 : Int) ≤ i) = Bool.true then
      if Decidable.decide (i < (↑(List.length a) : Int)) = Bool.true then
        if Decidable.decide ((0 : Int) ≤ i) = Bool.true then
          if Decidable.decide (i < (↑(List.length b) : Int)) = Bool.true then
            if Decidable.decide (Int.toNat i < List.length b) = Bool.true then
              Option.some
                (Go.Rx.LRes.go
                  (a,
                    List.set b (Int.toNat i)
                      ((List.getD a (Int.toNat i) ((0 : Int), (0 : Int), PUnit.unit)).1, (List.getD a (Int.toNat i) ((0 : Int), (0 : Int), PUnit.unit)).2.1,
                        (List.getD b (Int.toNat i) ((0 : Int), (0 : Int), PUnit.unit)).2.2),
                    Go.IntKind.wrap Go.IntKind.i64 (i + (1 : Int)), PUnit.unit))
            else Option.none
          else Option.none
        else Option.none
      else Option.none
    else Option.none
  else Option.some (Go.Rx.LRes.stop (0 : Nat) (b, PUnit.unit) PUnit.unit)) := by kernel_rfl
noncomputable abbrev muToCellS : PKs.den lsToCellS.ins → Nat := fun x => x.1.length - x.2.2.1.toNat
theorem stToCellS (a b : List (Int × Int × Unit)) (i : Int) (h : G.cpPre a b i = true) : StepOk lsToCellS (eqInv lsToCellS) muToCellS (a, b, i, ()) (roundK cxToCellS 0 (loopIn Go.Proofs.Try.f11 0) lsToCellS (a, b, i, ())) := by
  obtain ⟨h0, h1, h2, h3⟩ := cpPre_iff.1 h
  rw [rToCellS]
  by_cases hi : i < (a.length : Int)
  · have hb : i < (b.length : Int) := by omega
    have hbn : i.toNat < b.length := by omega
    have hw : IntKind.i64.wrap (i + 1) = i + 1 := w64 (by omega) (by omega)
    have he := fill_step (((0 : Int), (0 : Int), ()) : Int × Int × Unit) h0 hi hb
    simp only [hi, hb, hbn, h0, decide_true, if_true, hw]
    refine ⟨(show G.cpPre a (b.set i.toNat (a.getD i.toNat (((0 : Int), (0 : Int), ()) : Int × Int × Unit))) (i + 1) = true from cpPre_iff.2 ⟨by omega, by omega, by simpa using h2, h3⟩), ?_, ?_⟩
    · show a.length - (i + 1).toNat < a.length - i.toNat
      omega
    · show ((0, (G.fill a (b.set i.toNat (a.getD i.toNat (((0 : Int), (0 : Int), ()) : Int × Int × Unit))) (i + 1), ())), ()) = ((0, (G.fill a b i, ())), ())
      rw [he]
  · have he : G.fill a b i = b := fill_end (by omega) (by omega)
    simp only [hi, decide_false]
    show ((0, (G.fill a b i, ())), ()) = ((0, (b, ())), ())
    rw [he]
theorem lpToCellS : LpOk Go.Proofs.Try.prog cxToCellS.ntmps 0 (loopIn Go.Proofs.Try.f11 0) lsToCellS :=
  lp_okB (cxOk T0_ok T0_eq ph2_ok) mixed (by kernel_rfl) (lps_none (by kernel_rfl)) (eqInv lsToCellS) muToCellS (fun _ h => h) (fun x h => stToCellS x.1 x.2.1 x.2.2.1 h)
/-! ToCellS -/
noncomputable abbrev spToCellS : Spec := ⟨[.c (.dat (.sl cellT))], .one (.c (.own cellT)), false, fun x => G.few x.1.length, fun x => (x.1, ())⟩
theorem eToCellS (a : List (Int × Int × Unit)) : funK cxToCellS Go.Proofs.Try.f11 spToCellS.ins spToCellS.out (a, ()) =
  (if Decidable.decide ((0 : Int) ≤ (↑(List.length a) : Int)) = Bool.true then
    if Decidable.decide ((↑(List.length a) : Int) ≤ (↑(List.length a) : Int)) = Bool.true then
      if Decidable.decide ((↑(List.length a) : Int) * (16 : Int) ≤ (140737488355328 : Int)) = Bool.true then
        if Go.Rx.G.cpPre a (List.replicate (Int.toNat (↑(List.length a) : Int)) ((0 : Int), (0 : Int), PUnit.unit)) (0 : Int) = Bool.true then
          Option.some (Go.Rx.G.fill a (List.replicate (Int.toNat (↑(List.length a) : Int)) ((0 : Int), (0 : Int), PUnit.unit)) (0 : Int), PUnit.unit)
        else Option.none
      else Option.none
    else Option.none
  else Option.none) := by kernel_rfl
theorem sfToCellS (a : List (Int × Int × Unit)) (h : G.few a.length = true) : funK cxToCellS Go.Proofs.Try.f11 spToCellS.ins spToCellS.out (a, ()) = some (a, ()) := by
  have hf := few_iff.1 h
  rw [eToCellS]
  have hp : G.cpPre a (List.replicate (Int.toNat (a.length : Int)) (((0 : Int), (0 : Int), ()) : Int × Int × Unit)) 0 = true := cpPre_iff.2 ⟨by omega, by omega, by simp, hf⟩
  have he : G.fill a (List.replicate (Int.toNat (a.length : Int)) (((0 : Int), (0 : Int), ()) : Int × Int × Unit)) 0 = a := by simp [G.fill]
  simp only [hp, he, if_true]
  rw [if_pos (decide_eq_true (by omega)), if_pos (decide_eq_true (by omega)), if_pos (decide_eq_true (by omega))]
theorem okToCellS : SpecOk Go.Proofs.Try.prog 11 spToCellS :=
  fun_okB (cx := cxToCellS) (F := Go.Proofs.Try.f11) (cxOk T0_ok T0_eq ph2_ok) mixed (by kernel_rfl) (by decide) (by kernel_rfl) (lps_of (l := [(0, loopIn Go.Proofs.Try.f11 0)]) (by kernel_rfl) ⟨lp_at lpToCellS rfl, trivial⟩)
    (fun x h => sfToCellS x.1 h)

/-! szCellS -/
def G.szS (n : Nat) (left : Int) : Int := if IntKind.i64.wrap (left - (n : Int)) < 0 then -1 else IntKind.i64.wrap (left - (n : Int))
noncomputable abbrev spSzCellS : Spec := ⟨[CellSP, .c (.dat I)], .one (.c (.dat I)), false, fun _ => true, fun x => (G.szS x.1.length x.2.1, ())⟩
noncomputable abbrev cxSzCellS : Cx := mkCx T0 [] [] [] 12
theorem eSzCellS (a : Cells) (l : Int) : funK cxSzCellS Go.Proofs.Try.f8 spSzCellS.ins spSzCellS.out (a, l, ()) =
  (if Decidable.decide (Go.IntKind.wrap Go.IntKind.i64 (l - (↑(List.length a) : Int)) < (0 : Int)) = Bool.true then Option.some ((-1 : Int), PUnit.unit)
  else Option.some (Go.IntKind.wrap Go.IntKind.i64 (l - (↑(List.length a) : Int)), PUnit.unit)) := by kernel_rfl
theorem sfSzCellS (a : Cells) (l : Int) : funK cxSzCellS Go.Proofs.Try.f8 spSzCellS.ins spSzCellS.out (a, l, ()) = some (G.szS a.length l, ()) := by
  rw [eSzCellS]
  unfold G.szS
  by_cases h : IntKind.i64.wrap (l - (a.length : Int)) < 0 <;> simp [h]
theorem okSzCellS : SpecOk Go.Proofs.Try.prog 8 spSzCellS :=
  fun_okB (cx := cxSzCellS) (F := Go.Proofs.Try.f8) (cxOk T0_ok T0_eq trivial) mixed (by kernel_rfl) (by decide) (by kernel_rfl) (lps_none (by kernel_rfl)) (fun x _ => sfSzCellS x.1 x.2.1)

/-! impl.ImageSame -/
noncomputable abbrev spImageSame : Spec := ⟨[CellSP, CellSP], .one (.c (.dat .bool)), false, fun x => G.few x.1.length, fun x => (G.sameS x.1 x.2.1, ())⟩
noncomputable abbrev ph3 : List (Nat × List Spec) := (11, [spToCellS]) :: (8, [spSzCellS]) :: ph2
theorem ph3_ok : PhiOk Go.Proofs.Try.prog ph3 := ⟨⟨okToCellS, trivial⟩, ⟨okSzCellS, trivial⟩, ph2_ok⟩

/-! the law -/
noncomputable abbrev spLawImageSame : Spec := ⟨[CellSP, CellSP], .one (.c (.dat .bool)), false, fun x => decide (x.1.length ≤ 9223372036854775807 ∧ x.2.1.length ≤ 9223372036854775807), fun x => (true, ())⟩
theorem szS_few {n : Nat} {l : Int} (h0 : 0 ≤ l) (h1 : l ≤ 1048576) (hn : n ≤ 9223372036854775807) (h : ¬ G.szS n l < 0) : (n : Int) ≤ l ∧ G.szS n l = l - (n : Int) := by
  unfold G.szS at h ⊢
  have hw : IntKind.i64.wrap (l - (n : Int)) = l - (n : Int) := w64 (by omega) (by omega)
  rw [hw] at h ⊢
  by_cases hc : l - (n : Int) < 0
  · rw [if_pos hc] at h
    omega
  · rw [if_neg hc]
    omega
theorem sameS_self {α : Type} [DecidableEq α] (a : List α) : G.sameS a a = true := by simp [G.sameS]
end Go.Rx

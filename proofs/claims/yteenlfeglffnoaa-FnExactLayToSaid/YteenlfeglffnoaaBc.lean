/-
  IMAGES: what the functions that verify them compute.
-/
import Derived.Test.YteenlfeglffnoaaBb
namespace Go.Rx
open Go
set_option linter.unusedVariables false
set_option linter.unusedSimpArgs false
theorem someB {b c : Bool} (h : b = true ↔ c = true) : (some (b, ()) : Option (Bool × Unit)) = some (c, ()) := by rw [Bool.eq_iff_iff.2 h]
abbrev BoolR : RK := .one (.c (.dat .bool))
abbrev IntP : PK := .c (.dat I)
abbrev InsK : List CK := [.dat I, .dat I, .dat .str]
abbrev Ins := Int × Int × ByteArray × Unit
def G.inR (n lo hi : Int) : Bool := decide (lo ≤ n ∧ n ≤ hi)
theorem inR_iff {n lo hi : Int} : G.inR n lo hi = true ↔ (lo ≤ n ∧ n ≤ hi) := by simp [G.inR]
theorem inR_not {n lo hi : Int} : G.inR n lo hi = false ↔ ¬ (lo ≤ n ∧ n ≤ hi) := by simp [G.inR]
def G.refs (op : Int) : Bool := decide (op = 3 ∨ op = 4 ∨ op = 5)
theorem refs_inR (op : Int) : G.inR op 3 5 = G.refs op := by
  unfold G.inR G.refs
  rw [decide_eq_decide]
  omega
def G.last (op : Int) : Bool := decide (op = 4 ∨ op = 6 ∨ op = 7)
/-! In -/
noncomputable abbrev spIn : Spec := ⟨[IntP, IntP, IntP], BoolR, false, fun x => true, fun x => (G.inR x.1 x.2.1 x.2.2.1, ())⟩
noncomputable abbrev cxIn : Cx := mkCx T0 ph5 [] [] 15
theorem eIn (n lo hi : Int) : funK cxIn Go.Proofs.Try.f61 spIn.ins spIn.out (n, lo, hi, ()) =
  (if Decidable.decide (lo ≤ n) = Bool.true then Option.some (Decidable.decide (n ≤ hi), PUnit.unit) else Option.some (Bool.false, PUnit.unit)) := by kernel_rfl
theorem sfIn (n lo hi : Int) : funK cxIn Go.Proofs.Try.f61 spIn.ins spIn.out (n, lo, hi, ()) = some (G.inR n lo hi, ()) := by
  rw [eIn]
  unfold G.inR
  by_cases h : lo ≤ n <;> by_cases h2 : n ≤ hi <;> simp [h, h2]
theorem okIn : SpecOk Go.Proofs.Try.prog 61 spIn :=
  fun_okB (cx := cxIn) (F := Go.Proofs.Try.f61) (cxOk T0_ok T0_eq ph5_ok) mixed (by kernel_rfl) (by decide) (by kernel_rfl) (lps_none (by kernel_rfl)) (fun x h => sfIn x.1 x.2.1 x.2.2.1)
/-! SpInsLast -/
noncomputable abbrev spSpInsLast : Spec := ⟨[.agg InsK], BoolR, false, fun x => true, fun x => (G.last x.1.1, ())⟩
noncomputable abbrev cxSpInsLast : Cx := mkCx T0 ph5 [] [] 16
theorem eSpInsLast (a : Ins) : funK cxSpInsLast Go.Proofs.Try.f130 spSpInsLast.ins spSpInsLast.out (a, ()) =
  (if Decidable.decide (a.1 = (4 : Int)) = Bool.false then
    if Decidable.decide (a.1 = (6 : Int)) = Bool.false then Option.some (Decidable.decide (a.1 = (7 : Int)), PUnit.unit) else Option.some (Bool.true, PUnit.unit)
  else Option.some (Bool.true, PUnit.unit)) := by kernel_rfl
theorem sfSpInsLast (a : Ins) : funK cxSpInsLast Go.Proofs.Try.f130 spSpInsLast.ins spSpInsLast.out (a, ()) = some (G.last a.1, ()) := by
  rw [eSpInsLast]
  unfold G.last
  by_cases h : a.1 = 4 <;> by_cases h2 : a.1 = 6 <;> by_cases h3 : a.1 = 7 <;> simp [h, h2, h3]
theorem okSpInsLast : SpecOk Go.Proofs.Try.prog 130 spSpInsLast :=
  fun_okB (cx := cxSpInsLast) (F := Go.Proofs.Try.f130) (cxOk T0_ok T0_eq ph5_ok) mixed (by kernel_rfl) (by decide) (by kernel_rfl) (lps_none (by kernel_rfl)) (fun x h => sfSpInsLast x.1)
/-! InsLast -/
noncomputable abbrev spInsLast : Spec := ⟨[.agg InsK], BoolR, false, fun x => true, fun x => (G.last x.1.1, ())⟩
noncomputable abbrev cxInsLast : Cx := mkCx T0 ph5 [] [] 16
theorem eInsLast (a : Ins) : funK cxInsLast Go.Proofs.Try.f118 spInsLast.ins spInsLast.out (a, ()) =
  (if Decidable.decide (a.1 = (4 : Int)) = Bool.false then
    if Decidable.decide (a.1 = (6 : Int)) = Bool.false then Option.some (Decidable.decide (a.1 = (7 : Int)), PUnit.unit) else Option.some (Bool.true, PUnit.unit)
  else Option.some (Bool.true, PUnit.unit)) := by kernel_rfl
theorem sfInsLast (a : Ins) : funK cxInsLast Go.Proofs.Try.f118 spInsLast.ins spInsLast.out (a, ()) = some (G.last a.1, ()) := by
  rw [eInsLast]
  unfold G.last
  by_cases h : a.1 = 4 <;> by_cases h2 : a.1 = 6 <;> by_cases h3 : a.1 = 7 <;> simp [h, h2, h3]
theorem okInsLast : SpecOk Go.Proofs.Try.prog 118 spInsLast :=
  fun_okB (cx := cxInsLast) (F := Go.Proofs.Try.f118) (cxOk T0_ok T0_eq ph5_ok) mixed (by kernel_rfl) (by decide) (by kernel_rfl) (lps_none (by kernel_rfl)) (fun x h => sfInsLast x.1)
/-! SpInsRefs -/
noncomputable abbrev spSpInsRefs : Spec := ⟨[.agg InsK], BoolR, false, fun x => true, fun x => (G.refs x.1.1, ())⟩
noncomputable abbrev cxSpInsRefs : Cx := mkCx T0 ph5 [] [] 16
theorem eSpInsRefs (a : Ins) : funK cxSpInsRefs Go.Proofs.Try.f101 spSpInsRefs.ins spSpInsRefs.out (a, ()) =
  (if Decidable.decide (a.1 = (3 : Int)) = Bool.false then
    if Decidable.decide (a.1 = (4 : Int)) = Bool.false then Option.some (Decidable.decide (a.1 = (5 : Int)), PUnit.unit) else Option.some (Bool.true, PUnit.unit)
  else Option.some (Bool.true, PUnit.unit)) := by kernel_rfl
theorem sfSpInsRefs (a : Ins) : funK cxSpInsRefs Go.Proofs.Try.f101 spSpInsRefs.ins spSpInsRefs.out (a, ()) = some (G.refs a.1, ()) := by
  rw [eSpInsRefs]
  unfold G.refs
  by_cases h : a.1 = 3 <;> by_cases h2 : a.1 = 4 <;> by_cases h3 : a.1 = 5 <;> simp [h, h2, h3]
theorem okSpInsRefs : SpecOk Go.Proofs.Try.prog 101 spSpInsRefs :=
  fun_okB (cx := cxSpInsRefs) (F := Go.Proofs.Try.f101) (cxOk T0_ok T0_eq ph5_ok) mixed (by kernel_rfl) (by decide) (by kernel_rfl) (lps_none (by kernel_rfl)) (fun x h => sfSpInsRefs x.1)
noncomputable abbrev ph6 : List (Nat × List Spec) := (61, [spIn]) :: (130, [spSpInsLast]) :: (118, [spInsLast]) :: (101, [spSpInsRefs]) :: ph5
theorem ph6_ok : PhiOk Go.Proofs.Try.prog ph6 := ⟨⟨okIn, trivial⟩, ⟨okSpInsLast, trivial⟩, ⟨okInsLast, trivial⟩, ⟨okSpInsRefs, trivial⟩, ph5_ok⟩
/-! IsReach -/
noncomputable abbrev spIsReach : Spec := ⟨[IntP], BoolR, false, fun x => true, fun x => (G.inR x.1 1 100, ())⟩
noncomputable abbrev cxIsReach : Cx := mkCx T0 ph6 [] [] 5
theorem eIsReach (n : Int) : funK cxIsReach Go.Proofs.Try.f60 spIsReach.ins spIsReach.out (n, ()) =
  (Option.some (Go.Rx.G.inR n (1 : Int) (100 : Int), PUnit.unit)) := by kernel_rfl
theorem okIsReach : SpecOk Go.Proofs.Try.prog 60 spIsReach :=
  fun_okB (cx := cxIsReach) (F := Go.Proofs.Try.f60) (cxOk T0_ok T0_eq ph6_ok) mixed (by kernel_rfl) (by decide) (by kernel_rfl) (lps_none (by kernel_rfl)) (fun x h => eIsReach x.1)
/-! Refers -/
noncomputable abbrev spRefers : Spec := ⟨[IntP], BoolR, false, fun x => true, fun x => (G.inR x.1 3 5, ())⟩
noncomputable abbrev cxRefers : Cx := mkCx T0 ph6 [] [] 5
theorem eRefers (n : Int) : funK cxRefers Go.Proofs.Try.f128 spRefers.ins spRefers.out (n, ()) =
  (Option.some (Go.Rx.G.inR n (3 : Int) (5 : Int), PUnit.unit)) := by kernel_rfl
theorem okRefers : SpecOk Go.Proofs.Try.prog 128 spRefers :=
  fun_okB (cx := cxRefers) (F := Go.Proofs.Try.f128) (cxOk T0_ok T0_eq ph6_ok) mixed (by kernel_rfl) (by decide) (by kernel_rfl) (lps_none (by kernel_rfl)) (fun x h => eRefers x.1)
/-! IsNumber -/
noncomputable abbrev spIsNumber : Spec := ⟨[IntP], BoolR, false, fun x => true, fun x => (G.inR x.1 (-1000) 1000, ())⟩
noncomputable abbrev cxIsNumber : Cx := mkCx T0 ph6 [] [] 5
theorem eIsNumber (n : Int) : funK cxIsNumber Go.Proofs.Try.f120 spIsNumber.ins spIsNumber.out (n, ()) =
  (Option.some (Go.Rx.G.inR n (-1000 : Int) (1000 : Int), PUnit.unit)) := by kernel_rfl
theorem okIsNumber : SpecOk Go.Proofs.Try.prog 120 spIsNumber :=
  fun_okB (cx := cxIsNumber) (F := Go.Proofs.Try.f120) (cxOk T0_ok T0_eq ph6_ok) mixed (by kernel_rfl) (by decide) (by kernel_rfl) (lps_none (by kernel_rfl)) (fun x h => eIsNumber x.1)
/-! L8Refs -/
noncomputable abbrev spL8Refs : Spec := ⟨[.agg CellK], BoolR, false, fun x => true, fun x => (G.refs x.1.1, ())⟩
noncomputable abbrev cxL8Refs : Cx := mkCx T0 ph6 [] [] 7
theorem eL8Refs (a : Cell) : funK cxL8Refs Go.Proofs.Try.f136 spL8Refs.ins spL8Refs.out (a, ()) =
  (Option.some (Go.Rx.G.refs a.1, PUnit.unit)) := by kernel_rfl
theorem okL8Refs : SpecOk Go.Proofs.Try.prog 136 spL8Refs :=
  fun_okB (cx := cxL8Refs) (F := Go.Proofs.Try.f136) (cxOk T0_ok T0_eq ph6_ok) mixed (by kernel_rfl) (by decide) (by kernel_rfl) (lps_none (by kernel_rfl)) (fun x h => eL8Refs x.1)
def G.few1 (n : Nat) : Bool := decide (1 ≤ n ∧ n ≤ 1099511627776)
theorem few1_iff {n : Nat} : G.few1 n = true ↔ (1 ≤ n ∧ n ≤ 1099511627776) := by simp [G.few1]
def G.at (a : Cells) (i : Int) : Cell := a.getD i.toNat (0, 0, ())
def G.ends (a : Cells) : Bool := G.last (G.at a ((a.length : Int) - 1)).1 || decide ((G.at a ((a.length : Int) - 1)).1 = 8)
/-! L8Ends -/
noncomputable abbrev spL8Ends : Spec := ⟨[CellSP], BoolR, false, fun x => G.few1 x.1.length, fun x => (G.ends x.1, ())⟩
noncomputable abbrev cxL8Ends : Cx := mkCx T0 ph6 [] [] 22
theorem eL8Ends (a : Cells) : funK cxL8Ends Go.Proofs.Try.f112 spL8Ends.ins spL8Ends.out (a, ()) =
  (if Decidable.decide ((0 : Int) ≤ Go.IntKind.wrap Go.IntKind.i64 ((↑(List.length a) : Int) - (1 : Int))) = Bool.true then
    if Decidable.decide (Go.IntKind.wrap Go.IntKind.i64 ((↑(List.length a) : Int) - (1 : Int)) < (↑(List.length a) : Int)) = Bool.true then
      if Go.Rx.G.last (List.getD a (Int.toNat (Go.IntKind.wrap Go.IntKind.i64 ((↑(List.length a) : Int) - (1 : Int)))) ((0 : Int), (0 : Int), PUnit.unit)).1 = Bool.false then
        if Decidable.decide ((0 : Int) ≤ Go.IntKind.wrap Go.IntKind.i64 ((↑(List.length a) : Int) - (1 : Int))) = Bool.true then
          if Decidable.decide (Go.IntKind.wrap Go.IntKind.i64 ((↑(List.length a) : Int) - (1 : Int)) < (↑(List.length a) : Int)) = Bool.true then
            Option.some (Decidable.decide ((List.getD a (Int.toNat (Go.IntKind.wrap Go.IntKind.i64 ((↑(List.length a) : Int) - (1 : Int)))) ((0 : Int), (0 : Int), PUnit.unit)).1 = (8 : Int)), PUnit.unit)
          else Option.none
        else Option.none
      else Option.some (Bool.true, PUnit.unit)
    else Option.none
  else Option.none) := by kernel_rfl
theorem sfL8Ends (a : Cells) (h : G.few1 a.length = true) : funK cxL8Ends Go.Proofs.Try.f112 spL8Ends.ins spL8Ends.out (a, ()) = some (G.ends a, ()) := by
  obtain ⟨h1, h2⟩ := few1_iff.1 h
  have hw : IntKind.i64.wrap ((a.length : Int) - 1) = (a.length : Int) - 1 := w64 (by omega) (by omega)
  have c1 : (0 : Int) ≤ (a.length : Int) - 1 := by omega
  have c2 : (a.length : Int) - 1 < (a.length : Int) := by omega
  rw [eL8Ends]
  simp only [hw, c1, c2, decide_true, if_true]
  unfold G.ends G.at
  generalize a.getD ((a.length : Int) - 1).toNat ((0 : Int), (0 : Int), ()) = x
  cases G.last x.1 <;> simp
theorem okL8Ends : SpecOk Go.Proofs.Try.prog 112 spL8Ends :=
  fun_okB (cx := cxL8Ends) (F := Go.Proofs.Try.f112) (cxOk T0_ok T0_eq ph6_ok) mixed (by kernel_rfl) (by decide) (by kernel_rfl) (lps_none (by kernel_rfl)) (fun x h => sfL8Ends x.1 h)
noncomputable abbrev ph7 : List (Nat × List Spec) := (60, [spIsReach]) :: (128, [spRefers]) :: (120, [spIsNumber]) :: (136, [spL8Refs]) :: (112, [spL8Ends]) :: ph6
theorem ph7_ok : PhiOk Go.Proofs.Try.prog ph7 := ⟨⟨okIsReach, trivial⟩, ⟨okRefers, trivial⟩, ⟨okIsNumber, trivial⟩, ⟨okL8Refs, trivial⟩, ⟨okL8Ends, trivial⟩, ph6_ok⟩
def G.cellOk (c : Cells) (x : Cell) (i reach : Int) : Bool :=
  if G.refs x.1 = true then decide (-reach ≤ x.2.1 ∧ x.2.1 ≤ reach ∧ 0 ≤ i + x.2.1 ∧ i + x.2.1 < (c.length : Int))
  else if x.1 = 8 then decide (0 ≤ x.2.1 ∧ x.2.1 < (c.length : Int) ∧ (G.at c x.2.1).1 ≠ 8)
  else if x.1 = 2 then decide (-1000 ≤ x.2.1 ∧ x.2.1 ≤ 1000)
  else decide ((x.1 = 1 ∨ x.1 = 6 ∨ x.1 = 7) ∧ x.2.1 = 0)
def G.okPre (c : Cells) (i reach : Int) : Bool := decide (0 ≤ i ∧ i < (c.length : Int) ∧ c.length ≤ 1099511627776 ∧ 1 ≤ reach ∧ reach ≤ 100)
theorem okPre_iff {c : Cells} {i reach : Int} : G.okPre c i reach = true ↔ (0 ≤ i ∧ i < (c.length : Int) ∧ c.length ≤ 1099511627776 ∧ 1 ≤ reach ∧ reach ≤ 100) := by simp [G.okPre]
/-! CellOk -/
noncomputable abbrev spCellOk : Spec := ⟨[.agg CellK, CellSP, IntP, IntP], BoolR, false, fun x => G.okPre x.2.1 x.2.2.1 x.2.2.2.1, fun x => (G.cellOk x.2.1 x.1 x.2.2.1 x.2.2.2.1, ())⟩
noncomputable abbrev cxCellOk : Cx := mkCx T0 ph7 [] [] 63
theorem eCellOk (x : Cell) (c : Cells) (i reach : Int) : funK cxCellOk Go.Proofs.Try.f117 spCellOk.ins spCellOk.out (x, c, i, reach, ()) =
  (if Go.Rx.G.inR x.1 (3 : Int) (5 : Int) = Bool.true then
    if Go.Rx.G.inR x.2.1 (Go.IntKind.wrap Go.IntKind.i64 ((0 : Int) - reach)) reach = Bool.true then
      Option.some (Go.Rx.G.inR (Go.IntKind.wrap Go.IntKind.i64 (i + x.2.1)) (0 : Int) (Go.IntKind.wrap Go.IntKind.i64 ((↑(List.length c) : Int) - (1 : Int))), PUnit.unit)
    else Option.some (Bool.false, PUnit.unit)
  else
    if Decidable.decide (x.1 = (2 : Int)) = Bool.true then Option.some (Go.Rx.G.inR x.2.1 (-1000 : Int) (1000 : Int), PUnit.unit)
    else
      if Decidable.decide (x.1 = (8 : Int)) = Bool.true then
        if Go.Rx.G.inR x.2.1 (0 : Int) (Go.IntKind.wrap Go.IntKind.i64 ((↑(List.length c) : Int) - (1 : Int))) = Bool.true then
          if Decidable.decide ((0 : Int) ≤ x.2.1) = Bool.true then
            if Decidable.decide (x.2.1 < (↑(List.length c) : Int)) = Bool.true then
              Option.some (!Decidable.decide ((List.getD c (Int.toNat x.2.1) ((0 : Int), (0 : Int), PUnit.unit)).1 = (8 : Int)), PUnit.unit)
            else Option.none
          else Option.none
        else Option.some (Bool.false, PUnit.unit)
      else if Go.Rx.G.inR x.1 (1 : Int) (7 : Int) = Bool.true then Option.some (Decidable.decide (x.2.1 = (0 : Int)), PUnit.unit) else Option.some (Bool.false, PUnit.unit)) := by kernel_rfl
theorem sfCellOk (x : Cell) (c : Cells) (i reach : Int) (h : G.okPre c i reach = true) : funK cxCellOk Go.Proofs.Try.f117 spCellOk.ins spCellOk.out (x, c, i, reach, ()) = some (G.cellOk c x i reach, ()) := by
  obtain ⟨h0, h1, h2, h3, h4⟩ := okPre_iff.1 h
  obtain ⟨x1, x2, u⟩ := x
  have hr : IntKind.i64.wrap (0 - reach) = - reach := by rw [w64 (by omega) (by omega)]; omega
  have hl : IntKind.i64.wrap ((c.length : Int) - 1) = (c.length : Int) - 1 := w64 (by omega) (by omega)
  rw [eCellOk]
  simp only [hr, hl, refs_inR]
  unfold G.cellOk
  dsimp only
  by_cases c1 : G.refs x1 = true
  · rw [if_pos c1, if_pos c1]
    by_cases c2 : G.inR x2 (-reach) reach = true
    · obtain ⟨g1, g2⟩ := inR_iff.1 c2
      have hw : IntKind.i64.wrap (i + x2) = i + x2 := w64 (by omega) (by omega)
      rw [if_pos c2, hw]
      refine someB ?_
      rw [inR_iff, decide_eq_true_iff]
      omega
    · rw [if_neg c2]
      refine someB ?_
      have c3 : ¬ (-reach ≤ x2 ∧ x2 ≤ reach) := fun e => c2 (inR_iff.2 e)
      simp only [Bool.false_eq_true, decide_eq_true_iff, false_iff]
      omega
  · rw [if_neg c1, if_neg c1]
    have n1 : ¬ (x1 = 3 ∨ x1 = 4 ∨ x1 = 5) := by simpa [G.refs] using c1
    by_cases c2 : x1 = 2
    · rw [if_pos (decide_eq_true c2), if_neg (by omega), if_pos c2]
      refine someB ?_
      rw [inR_iff, decide_eq_true_iff]
    · rw [if_neg (by simpa using c2)]
      by_cases c3 : x1 = 8
      · rw [if_pos (decide_eq_true c3), if_pos c3]
        by_cases c4 : G.inR x2 0 ((c.length : Int) - 1) = true
        · obtain ⟨g1, g2⟩ := inR_iff.1 c4
          rw [if_pos c4, if_pos (decide_eq_true g1), if_pos (decide_eq_true (by omega))]
          refine someB ?_
          rw [Bool.not_eq_true', decide_eq_false_iff_not, decide_eq_true_iff]
          constructor
          · intro e
            exact ⟨g1, by omega, e⟩
          · intro e
            exact e.2.2
        · rw [if_neg c4]
          refine someB ?_
          have c5 : ¬ (0 ≤ x2 ∧ x2 ≤ (c.length : Int) - 1) := fun e => c4 (inR_iff.2 e)
          simp only [Bool.false_eq_true, decide_eq_true_iff, false_iff]
          omega
      · rw [if_neg (by simpa using c3), if_neg c3, if_neg c2]
        by_cases c4 : G.inR x1 1 7 = true
        · obtain ⟨g1, g2⟩ := inR_iff.1 c4
          rw [if_pos c4]
          refine someB ?_
          simp only [decide_eq_true_iff]
          omega
        · rw [if_neg c4]
          refine someB ?_
          have c5 : ¬ (1 ≤ x1 ∧ x1 ≤ 7) := fun e => c4 (inR_iff.2 e)
          simp only [Bool.false_eq_true, decide_eq_true_iff, false_iff]
          omega
theorem okCellOk : SpecOk Go.Proofs.Try.prog 117 spCellOk :=
  fun_okB (cx := cxCellOk) (F := Go.Proofs.Try.f117) (cxOk T0_ok T0_eq ph7_ok) mixed (by kernel_rfl) (by decide) (by kernel_rfl) (lps_none (by kernel_rfl)) (fun x h => sfCellOk x.1 x.2.1 x.2.2.1 x.2.2.2.1 h)
/-! L8One -/
noncomputable abbrev spL8One : Spec := ⟨[CellSP, IntP, IntP], BoolR, false, fun x => G.okPre x.1 x.2.1 x.2.2.1, fun x => (G.cellOk x.1 (G.at x.1 x.2.1) x.2.1 x.2.2.1, ())⟩
noncomputable abbrev cxL8One : Cx := mkCx T0 ph7 [] [] 94
theorem eL8One (c : Cells) (i reach : Int) : funK cxL8One Go.Proofs.Try.f113 spL8One.ins spL8One.out (c, i, reach, ()) =
  (if Decidable.decide ((0 : Int) ≤ i) = Bool.true then
    if Decidable.decide (i < (↑(List.length c) : Int)) = Bool.true then
      if Go.Rx.G.refs (List.getD c (Int.toNat i) ((0 : Int), (0 : Int), PUnit.unit)).1 = Bool.true then
        if Decidable.decide ((List.getD c (Int.toNat i) ((0 : Int), (0 : Int), PUnit.unit)).2.1 ≥ Go.IntKind.wrap Go.IntKind.i64 ((0 : Int) - reach)) = Bool.true then
          if Decidable.decide ((List.getD c (Int.toNat i) ((0 : Int), (0 : Int), PUnit.unit)).2.1 ≤ reach) = Bool.true then
            if Decidable.decide (Go.IntKind.wrap Go.IntKind.i64 (i + (List.getD c (Int.toNat i) ((0 : Int), (0 : Int), PUnit.unit)).2.1) ≥ (0 : Int)) = Bool.true then
              Option.some (Decidable.decide (Go.IntKind.wrap Go.IntKind.i64 (i + (List.getD c (Int.toNat i) ((0 : Int), (0 : Int), PUnit.unit)).2.1) < (↑(List.length c) : Int)), PUnit.unit)
            else Option.some (Bool.false, PUnit.unit)
          else Option.some (Bool.false, PUnit.unit)
        else Option.some (Bool.false, PUnit.unit)
      else
        if Decidable.decide ((List.getD c (Int.toNat i) ((0 : Int), (0 : Int), PUnit.unit)).1 = (8 : Int)) = Bool.true then
          if Decidable.decide ((List.getD c (Int.toNat i) ((0 : Int), (0 : Int), PUnit.unit)).2.1 ≥ (0 : Int)) = Bool.true then
            if Decidable.decide ((List.getD c (Int.toNat i) ((0 : Int), (0 : Int), PUnit.unit)).2.1 < (↑(List.length c) : Int)) = Bool.true then
              if Decidable.decide ((0 : Int) ≤ (List.getD c (Int.toNat i) ((0 : Int), (0 : Int), PUnit.unit)).2.1) = Bool.true then
                if Decidable.decide ((List.getD c (Int.toNat i) ((0 : Int), (0 : Int), PUnit.unit)).2.1 < (↑(List.length c) : Int)) = Bool.true then
                  Option.some
                    (!Decidable.decide ((List.getD c (Int.toNat (List.getD c (Int.toNat i) ((0 : Int), (0 : Int), PUnit.unit)).2.1) ((0 : Int), (0 : Int), PUnit.unit)).1 = (8 : Int)), PUnit.unit)
                else Option.none
              else Option.none
            else Option.some (Bool.false, PUnit.unit)
          else Option.some (Bool.false, PUnit.unit)
        else
          if Decidable.decide ((List.getD c (Int.toNat i) ((0 : Int), (0 : Int), PUnit.unit)).1 = (2 : Int)) = Bool.true then
            if Decidable.decide ((List.getD c (Int.toNat i) ((0 : Int), (0 : Int), PUnit.unit)).2.1 ≥ (-1000 : Int)) = Bool.true then
              Option.some (Decidable.decide ((List.getD c (Int.toNat i) ((0 : Int), (0 : Int), PUnit.unit)).2.1 ≤ (1000 : Int)), PUnit.unit)
            else Option.some (Bool.false, PUnit.unit)
          else
            if Decidable.decide ((List.getD c (Int.toNat i) ((0 : Int), (0 : Int), PUnit.unit)).1 = (1 : Int)) = Bool.false then
              if Decidable.decide ((List.getD c (Int.toNat i) ((0 : Int), (0 : Int), PUnit.unit)).1 = (6 : Int)) = Bool.false then
                if Decidable.decide ((List.getD c (Int.toNat i) ((0 : Int), (0 : Int), PUnit.unit)).1 = (7 : Int)) = Bool.true then
                  Option.some (Decidable.decide ((List.getD c (Int.toNat i) ((0 : Int), (0 : Int), PUnit.unit)).2.1 = (0 : Int)), PUnit.unit)
                else Option.some (Bool.false, PUnit.unit)
              else Option.some (Decidable.decide ((List.getD c (Int.toNat i) ((0 : Int), (0 : Int), PUnit.unit)).2.1 = (0 : Int)), PUnit.unit)
            else Option.some (Decidable.decide ((List.getD c (Int.toNat i) ((0 : Int), (0 : Int), PUnit.unit)).2.1 = (0 : Int)), PUnit.unit)
    else Option.none
  else Option.none) := by kernel_rfl
theorem sfL8One (c : Cells) (i reach : Int) (h : G.okPre c i reach = true) : funK cxL8One Go.Proofs.Try.f113 spL8One.ins spL8One.out (c, i, reach, ()) = some (G.cellOk c (G.at c i) i reach, ()) := by
  obtain ⟨h0, h1, h2, h3, h4⟩ := okPre_iff.1 h
  have hr : IntKind.i64.wrap (0 - reach) = - reach := by rw [w64 (by omega) (by omega)]; omega
  rw [eL8One]
  have e : G.at c i = c.getD i.toNat ((0 : Int), (0 : Int), ()) := rfl
  rw [e]
  generalize c.getD i.toNat ((0 : Int), (0 : Int), ()) = x
  obtain ⟨x1, x2, u⟩ := x
  rw [if_pos (decide_eq_true h0), if_pos (decide_eq_true h1)]
  simp only [hr]
  unfold G.cellOk
  dsimp only
  by_cases c1 : G.refs x1 = true
  · rw [if_pos c1, if_pos c1]
    by_cases c2 : -reach ≤ x2
    · rw [if_pos (decide_eq_true c2)]
      by_cases c3 : x2 ≤ reach
      · have hw : IntKind.i64.wrap (i + x2) = i + x2 := w64 (by omega) (by omega)
        rw [if_pos (decide_eq_true c3), hw]
        by_cases c4 : 0 ≤ i + x2
        · rw [if_pos (decide_eq_true c4)]
          refine someB ?_
          simp only [decide_eq_true_iff]
          omega
        · rw [if_neg (by simpa using c4)]
          refine someB ?_
          simp only [Bool.false_eq_true, decide_eq_true_iff, false_iff]
          omega
      · rw [if_neg (by simpa using c3)]
        refine someB ?_
        simp only [Bool.false_eq_true, decide_eq_true_iff, false_iff]
        omega
    · rw [if_neg (by simpa using c2)]
      refine someB ?_
      simp only [Bool.false_eq_true, decide_eq_true_iff, false_iff]
      omega
  · rw [if_neg c1, if_neg c1]
    have n1 : ¬ (x1 = 3 ∨ x1 = 4 ∨ x1 = 5) := by simpa [G.refs] using c1
    by_cases c3 : x1 = 8
    · rw [if_pos (decide_eq_true c3), if_pos c3]
      by_cases c4 : 0 ≤ x2
      · rw [if_pos (decide_eq_true c4)]
        by_cases c5 : x2 < (c.length : Int)
        · rw [if_pos (decide_eq_true c5), if_pos (decide_eq_true c4), if_pos (decide_eq_true c5)]
          refine someB ?_
          rw [Bool.not_eq_true', decide_eq_false_iff_not, decide_eq_true_iff]
          constructor
          · intro e
            exact ⟨c4, c5, e⟩
          · intro e
            exact e.2.2
        · rw [if_neg (by simpa using c5)]
          refine someB ?_
          simp only [Bool.false_eq_true, decide_eq_true_iff, false_iff]
          omega
      · rw [if_neg (by simpa using c4)]
        refine someB ?_
        simp only [Bool.false_eq_true, decide_eq_true_iff, false_iff]
        omega
    · rw [if_neg (by simpa using c3), if_neg c3]
      by_cases c2 : x1 = 2
      · rw [if_pos (decide_eq_true c2), if_pos c2]
        by_cases c4 : -1000 ≤ x2
        · rw [if_pos (decide_eq_true c4)]
          refine someB ?_
          simp only [decide_eq_true_iff]
          omega
        · rw [if_neg (by simpa using c4)]
          refine someB ?_
          simp only [Bool.false_eq_true, decide_eq_true_iff, false_iff]
          omega
      · rw [if_neg (by simpa using c2), if_neg c2]
        by_cases d1 : x1 = 1 <;> by_cases d2 : x1 = 6 <;> by_cases d3 : x1 = 7 <;> simp [d1, d2, d3]
theorem okL8One : SpecOk Go.Proofs.Try.prog 113 spL8One :=
  fun_okB (cx := cxL8One) (F := Go.Proofs.Try.f113) (cxOk T0_ok T0_eq ph7_ok) mixed (by kernel_rfl) (by decide) (by kernel_rfl) (lps_none (by kernel_rfl)) (fun x h => sfL8One x.1 x.2.1 x.2.2.1 h)
noncomputable abbrev ph8 : List (Nat × List Spec) := (117, [spCellOk]) :: (113, [spL8One]) :: ph7
theorem ph8_ok : PhiOk Go.Proofs.Try.prog ph8 := ⟨⟨okCellOk, trivial⟩, ⟨okL8One, trivial⟩, ph7_ok⟩
/-! for all places from one on -/
def G.allFrom (n : Nat) (p : Nat → Bool) (i : Int) : Bool := (List.range' i.toNat (n - i.toNat)).all p
theorem allFrom_step {n : Nat} {p : Nat → Bool} {i : Int} (h0 : 0 ≤ i) (h : i < (n : Int)) : G.allFrom n p i = (p i.toNat && G.allFrom n p (i + 1)) := by
  unfold G.allFrom
  have e : n - i.toNat = (n - (i + 1).toNat) + 1 := by omega
  rw [e, List.range'_succ, List.all_cons, toNat_succ h0]
theorem allFrom_end {n : Nat} {p : Nat → Bool} {i : Int} (h : (n : Int) ≤ i) : G.allFrom n p i = true := by
  unfold G.allFrom
  have e : n - i.toNat = 0 := by omega
  rw [e]
  rfl
/-- Every place of an image is right. -/
def G.cellsOk (c : Cells) (reach : Int) (i : Int) : Bool := G.allFrom c.length (fun k => G.cellOk c (c.getD k (0, 0, ())) (k : Int) reach) i
def G.cksPre (c : Cells) (reach i : Int) : Bool := decide (0 ≤ i ∧ i ≤ (c.length : Int) ∧ c.length ≤ 1099511627776 ∧ 1 ≤ reach ∧ reach ≤ 100)
theorem cksPre_iff {c : Cells} {reach i : Int} : G.cksPre c reach i = true ↔ (0 ≤ i ∧ i ≤ (c.length : Int) ∧ c.length ≤ 1099511627776 ∧ 1 ≤ reach ∧ reach ≤ 100) := by simp [G.cksPre]
theorem cellsOk_step {c : Cells} {reach i : Int} (h0 : 0 ≤ i) (h : i < (c.length : Int)) : G.cellsOk c reach i = (G.cellOk c (G.at c i) i reach && G.cellsOk c reach (i + 1)) := by
  unfold G.cellsOk
  rw [allFrom_step h0 h]
  have e : ((i.toNat : Nat) : Int) = i := by omega
  rw [e]
  rfl
def G.imageOk (c : Cells) (reach : Int) : Bool := decide (1 ≤ c.length ∧ c.length ≤ 800 ∧ 1 ≤ reach ∧ reach ≤ 100) && (G.ends c && G.cellsOk c reach 0)
def G.cksPreR (c : Cells) (reach : Int) (d : Cells) (n i : Int) : Bool := decide (d = c ∧ n = (c.length : Int) ∧ 0 ≤ i ∧ i ≤ (c.length : Int) ∧ c.length ≤ 1099511627776 ∧ 1 ≤ reach ∧ reach ≤ 100)
theorem cksPreR_iff {c d : Cells} {reach n i : Int} : G.cksPreR c reach d n i = true ↔ (d = c ∧ n = (c.length : Int) ∧ 0 ≤ i ∧ i ≤ (c.length : Int) ∧ c.length ≤ 1099511627776 ∧ 1 ≤ reach ∧ reach ≤ 100) := by simp [G.cksPreR]
/-! spec.ImageOk: its loop -/
noncomputable abbrev lsSpImageOk : LSpec := ⟨[0, 1, 5, 4], [4], [CellSP, IntP, IntP, .c (.dat .bool)], [.c (.dat .bool)], false, fun x => G.cksPre x.1 x.2.1 x.2.2.1,
  fun x => ((if G.cellsOk x.1 x.2.1 x.2.2.1 = true then 0 else 1, (G.cellsOk x.1 x.2.1 x.2.2.1 && x.2.2.2.1, ())), ())⟩
/-! SpImageOk -/
noncomputable abbrev spSpImageOk : Spec := ⟨[CellSP, IntP], BoolR, false, fun x => G.few x.1.length, fun x => (G.imageOk x.1 x.2.1, ())⟩
noncomputable abbrev cxSpImageOk : Cx := mkCx T0 ph8 [(0, lsSpImageOk)] [] 38
theorem eSpImageOk (c : Cells) (reach : Int) : funK cxSpImageOk Go.Proofs.Try.f77 spSpImageOk.ins spSpImageOk.out (c, reach, ()) =
  (if Decidable.decide ((↑(List.length c) : Int) < (1 : Int)) = Bool.false then
    if Decidable.decide ((↑(List.length c) : Int) > (800 : Int)) = Bool.false then
      if Decidable.decide (reach < (1 : Int)) = Bool.false then
        if Decidable.decide (reach > (100 : Int)) = Bool.false then
          if Go.Rx.G.few1 (List.length c) = Bool.true then
            if (!Go.Rx.G.ends c) = Bool.true then Option.some (Bool.false, PUnit.unit)
            else
              if Go.Rx.G.cksPre c reach (0 : Int) = Bool.true then
                if (if Go.Rx.G.cellsOk c reach (0 : Int) = Bool.true then (0 : Nat) else (1 : Nat)) = (0 : Nat) then Option.some (Bool.true, PUnit.unit)
                else
                  if (if Go.Rx.G.cellsOk c reach (0 : Int) = Bool.true then (0 : Nat) else (1 : Nat)) = (1 : Nat) then
                    Option.some (Go.Rx.G.cellsOk c reach (0 : Int) && Bool.false, PUnit.unit)
                  else Option.none
              else Option.none
          else Option.none
        else Option.some (Bool.false, PUnit.unit)
      else Option.some (Bool.false, PUnit.unit)
    else Option.some (Bool.false, PUnit.unit)
  else Option.some (Bool.false, PUnit.unit)) := by kernel_rfl
theorem rSpImageOk (c : Cells) (reach i : Int) (r : Bool) : roundK cxSpImageOk 0 (loopIn Go.Proofs.Try.f77 0) lsSpImageOk (c, reach, i, r, ()) =
  (if Decidable.decide (i < (↑(List.length c) : Int)) = Bool.true then
    if Go.Rx.G.okPre c i reach = Bool.true then
      if (!Go.Rx.G.cellOk c (Go.Rx.G.at c i) i reach) = Bool.true then Option.some (Go.Rx.LRes.stop (1 : Nat) (Bool.false, PUnit.unit) PUnit.unit)
      else Option.some (Go.Rx.LRes.go (c, reach, Go.IntKind.wrap Go.IntKind.i64 (i + (1 : Int)), r, PUnit.unit))
    else Option.none
  else Option.some (Go.Rx.LRes.stop (0 : Nat) (r, PUnit.unit) PUnit.unit)) := by kernel_rfl
/-! impl.ImageOk: its loop -/
noncomputable abbrev lsImageOk : LSpec := ⟨[0, 1, 17, 18, 19, 4], [4], [CellSP, IntP, CellSP, IntP, IntP, .c (.dat .bool)], [.c (.dat .bool)], false, fun x => G.cksPreR x.1 x.2.1 x.2.2.1 x.2.2.2.1 x.2.2.2.2.1,
  fun x => ((if G.cellsOk x.1 x.2.1 x.2.2.2.2.1 = true then 0 else 1, (G.cellsOk x.1 x.2.1 x.2.2.2.2.1 && x.2.2.2.2.2.1, ())), ())⟩
/-! ImageOk -/
noncomputable abbrev spImageOk : Spec := ⟨[CellSP, IntP], BoolR, false, fun x => G.few x.1.length, fun x => (G.imageOk x.1 x.2.1, ())⟩
noncomputable abbrev cxImageOk : Cx := mkCx T0 ph8 [(0, lsImageOk)] [] 46
theorem eImageOk (c : Cells) (reach : Int) : funK cxImageOk Go.Proofs.Try.f82 spImageOk.ins spImageOk.out (c, reach, ()) =
  (if (!Go.Rx.G.inR (↑(List.length c) : Int) (1 : Int) (800 : Int)) = Bool.false then
    if (!Go.Rx.G.inR reach (1 : Int) (100 : Int)) = Bool.true then Option.some (Bool.false, PUnit.unit)
    else
      if Go.Rx.G.cksPreR c reach c (↑(List.length c) : Int) (0 : Int) = Bool.true then
        if (if Go.Rx.G.cellsOk c reach (0 : Int) = Bool.true then (0 : Nat) else (1 : Nat)) = (0 : Nat) then
          if Decidable.decide ((0 : Int) ≤ Go.IntKind.wrap Go.IntKind.i64 ((↑(List.length c) : Int) - (1 : Int))) = Bool.true then
            if Decidable.decide (Go.IntKind.wrap Go.IntKind.i64 ((↑(List.length c) : Int) - (1 : Int)) < (↑(List.length c) : Int)) = Bool.true then
              if Decidable.decide ((List.getD c (Int.toNat (Go.IntKind.wrap Go.IntKind.i64 ((↑(List.length c) : Int) - (1 : Int)))) ((0 : Int), (0 : Int), PUnit.unit)).1 = (8 : Int)) = Bool.false then
                Option.some (Go.Rx.G.last (List.getD c (Int.toNat (Go.IntKind.wrap Go.IntKind.i64 ((↑(List.length c) : Int) - (1 : Int)))) ((0 : Int), (0 : Int), PUnit.unit)).1, PUnit.unit)
              else Option.some (Bool.true, PUnit.unit)
            else Option.none
          else Option.none
        else
          if (if Go.Rx.G.cellsOk c reach (0 : Int) = Bool.true then (0 : Nat) else (1 : Nat)) = (1 : Nat) then
            Option.some (Go.Rx.G.cellsOk c reach (0 : Int) && Bool.false, PUnit.unit)
          else Option.none
      else Option.none
  else Option.some (Bool.false, PUnit.unit)) := by kernel_rfl
theorem rImageOk (c : Cells) (reach : Int) (d : Cells) (n i : Int) (r : Bool) : roundK cxImageOk 0 (loopIn Go.Proofs.Try.f82 0) lsImageOk (c, reach, d, n, i, r, ()) =
  (if Decidable.decide (i < n) = Bool.true then
    if Decidable.decide ((0 : Int) ≤ i) = Bool.true then
      if Decidable.decide (i < (↑(List.length d) : Int)) = Bool.true then
        if Go.Rx.G.okPre c i reach = Bool.true then
          if (!Go.Rx.G.cellOk c (List.getD d (Int.toNat i) ((0 : Int), (0 : Int), PUnit.unit)) i reach) = Bool.true then
            Option.some (Go.Rx.LRes.stop (1 : Nat) (Bool.false, PUnit.unit) PUnit.unit)
          else Option.some (Go.Rx.LRes.go (c, reach, d, n, Go.IntKind.wrap Go.IntKind.i64 (i + (1 : Int)), r, PUnit.unit))
        else Option.none
      else Option.none
    else Option.none
  else Option.some (Go.Rx.LRes.stop (0 : Nat) (r, PUnit.unit) PUnit.unit)) := by kernel_rfl
noncomputable abbrev muSpImageOk : PKs.den lsSpImageOk.ins → Nat := fun x => x.1.length - x.2.2.1.toNat
theorem stSpImageOk (c : Cells) (reach i : Int) (r : Bool) (h : G.cksPre c reach i = true) : StepOk lsSpImageOk (eqInv lsSpImageOk) muSpImageOk (c, reach, i, r, ()) (roundK cxSpImageOk 0 (loopIn Go.Proofs.Try.f77 0) lsSpImageOk (c, reach, i, r, ())) := by
  obtain ⟨h0, h1, h2, h3, h4⟩ := cksPre_iff.1 h
  rw [rSpImageOk]
  by_cases hi : i < (c.length : Int)
  · have hw : IntKind.i64.wrap (i + 1) = i + 1 := w64 (by omega) (by omega)
    have hp : G.okPre c i reach = true := okPre_iff.2 ⟨h0, hi, h2, h3, h4⟩
    have he := cellsOk_step (reach := reach) h0 hi
    rw [if_pos (decide_eq_true hi), if_pos hp, hw]
    cases hc : G.cellOk c (G.at c i) i reach with
    | true =>
      rw [hc, Bool.true_and] at he
      refine ⟨(show G.cksPre c reach (i + 1) = true from cksPre_iff.2 ⟨by omega, by omega, h2, h3, h4⟩), ?_, ?_⟩
      · show c.length - (i + 1).toNat < c.length - i.toNat
        omega
      · show ((_, _), _) = ((_, _), _)
        simp only [he]
    | false =>
      rw [hc, Bool.false_and] at he
      show ((_, _), _) = ((_, _), _)
      simp only [he]
      simp
  · have he : G.cellsOk c reach i = true := allFrom_end (by omega)
    rw [if_neg (by simpa using hi)]
    show ((_, _), _) = ((_, _), _)
    simp only [he]
    simp
theorem lpSpImageOk : LpOk Go.Proofs.Try.prog cxSpImageOk.ntmps 0 (loopIn Go.Proofs.Try.f77 0) lsSpImageOk :=
  lp_okB (cxOk T0_ok T0_eq ph8_ok) mixed (by kernel_rfl) (lps_none (by kernel_rfl)) (eqInv lsSpImageOk) muSpImageOk (fun _ h => h) (fun x h => stSpImageOk x.1 x.2.1 x.2.2.1 x.2.2.2.1 h)
noncomputable abbrev muImageOk : PKs.den lsImageOk.ins → Nat := fun x => x.1.length - x.2.2.2.2.1.toNat
theorem stImageOk (c : Cells) (reach : Int) (d : Cells) (n i : Int) (r : Bool) (h : G.cksPreR c reach d n i = true) : StepOk lsImageOk (eqInv lsImageOk) muImageOk (c, reach, d, n, i, r, ()) (roundK cxImageOk 0 (loopIn Go.Proofs.Try.f82 0) lsImageOk (c, reach, d, n, i, r, ())) := by
  obtain ⟨rfl, rfl, h0, h1, h2, h3, h4⟩ := cksPreR_iff.1 h
  rw [rImageOk]
  by_cases hi : i < (d.length : Int)
  · have hw : IntKind.i64.wrap (i + 1) = i + 1 := w64 (by omega) (by omega)
    have hp : G.okPre d i reach = true := okPre_iff.2 ⟨h0, hi, h2, h3, h4⟩
    have he := cellsOk_step (reach := reach) h0 hi
    rw [if_pos (decide_eq_true hi), if_pos (decide_eq_true h0), if_pos (decide_eq_true hi), if_pos hp, hw]
    have e : d.getD i.toNat ((0 : Int), (0 : Int), ()) = G.at d i := rfl
    rw [e]
    cases hc : G.cellOk d (G.at d i) i reach with
    | true =>
      rw [hc, Bool.true_and] at he
      refine ⟨(show G.cksPreR d reach d (d.length : Int) (i + 1) = true from cksPreR_iff.2 ⟨rfl, rfl, by omega, by omega, h2, h3, h4⟩), ?_, ?_⟩
      · show d.length - (i + 1).toNat < d.length - i.toNat
        omega
      · show ((_, _), _) = ((_, _), _)
        simp only [he]
    | false =>
      rw [hc, Bool.false_and] at he
      show ((_, _), _) = ((_, _), _)
      simp only [he]
      simp
  · have he : G.cellsOk d reach i = true := allFrom_end (by omega)
    rw [if_neg (by simpa using hi)]
    show ((_, _), _) = ((_, _), _)
    simp only [he]
    simp
theorem lpImageOk : LpOk Go.Proofs.Try.prog cxImageOk.ntmps 0 (loopIn Go.Proofs.Try.f82 0) lsImageOk :=
  lp_okB (cxOk T0_ok T0_eq ph8_ok) mixed (by kernel_rfl) (lps_none (by kernel_rfl)) (eqInv lsImageOk) muImageOk (fun _ h => h) (fun x h => stImageOk x.1 x.2.1 x.2.2.1 x.2.2.2.1 x.2.2.2.2.1 x.2.2.2.2.2.1 h)
theorem sfSpImageOk (c : Cells) (reach : Int) (h : G.few c.length = true) : funK cxSpImageOk Go.Proofs.Try.f77 spSpImageOk.ins spSpImageOk.out (c, reach, ()) = some (G.imageOk c reach, ()) := by
  rw [eSpImageOk]
  unfold G.imageOk
  by_cases h0 : 1 ≤ c.length ∧ c.length ≤ 800 ∧ 1 ≤ reach ∧ reach ≤ 100
  · rw [if_pos (decide_eq_false (by omega)), if_pos (decide_eq_false (by omega)), if_pos (decide_eq_false (by omega)), if_pos (decide_eq_false (by omega)), if_pos (few1_iff.2 (by omega)), decide_eq_true h0]
    have hp : G.cksPre c reach 0 = true := cksPre_iff.2 ⟨by omega, by omega, by omega, by omega, by omega⟩
    cases G.ends c <;> cases G.cellsOk c reach 0 <;> simp [hp]
  · rw [decide_eq_false h0, Bool.false_and]
    by_cases c1 : (c.length : Int) < 1
    · rw [if_neg (by simpa using c1)]
    · rw [if_pos (decide_eq_false c1)]
      by_cases c2 : (c.length : Int) > 800
      · rw [if_neg (by simpa using c2)]
      · rw [if_pos (decide_eq_false c2)]
        by_cases c3 : reach < 1
        · rw [if_neg (by simpa using c3)]
        · rw [if_pos (decide_eq_false c3)]
          by_cases c4 : reach > 100
          · rw [if_neg (by simpa using c4)]
          · omega
theorem okSpImageOk : SpecOk Go.Proofs.Try.prog 77 spSpImageOk :=
  fun_okB (cx := cxSpImageOk) (F := Go.Proofs.Try.f77) (cxOk T0_ok T0_eq ph8_ok) mixed (by kernel_rfl) (by decide) (by kernel_rfl) (lps_of (l := [(0, loopIn Go.Proofs.Try.f77 0)]) (by kernel_rfl) ⟨lp_at lpSpImageOk rfl, trivial⟩) (fun x h => sfSpImageOk x.1 x.2.1 h)
theorem sfImageOk (c : Cells) (reach : Int) (h : G.few c.length = true) : funK cxImageOk Go.Proofs.Try.f82 spImageOk.ins spImageOk.out (c, reach, ()) = some (G.imageOk c reach, ()) := by
  rw [eImageOk]
  unfold G.imageOk
  by_cases c1 : G.inR (c.length : Int) 1 800 = true
  · obtain ⟨g1, g2⟩ := inR_iff.1 c1
    by_cases c2 : G.inR reach 1 100 = true
    · obtain ⟨g3, g4⟩ := inR_iff.1 c2
      have hl : IntKind.i64.wrap ((c.length : Int) - 1) = (c.length : Int) - 1 := w64 (by omega) (by omega)
      have hp : G.cksPreR c reach c (c.length : Int) 0 = true := cksPreR_iff.2 ⟨rfl, rfl, by omega, by omega, by omega, by omega, by omega⟩
      simp only [c1, c2, Bool.not_true, if_true, Bool.false_eq_true, if_false]
      rw [if_pos hp, hl, decide_eq_true (show 1 ≤ c.length ∧ c.length ≤ 800 ∧ 1 ≤ reach ∧ reach ≤ 100 by omega)]
      rw [if_pos (decide_eq_true (show (0 : Int) ≤ (c.length : Int) - 1 by omega)), if_pos (decide_eq_true (show (c.length : Int) - 1 < (c.length : Int) by omega))]
      unfold G.ends
      have e : c.getD ((c.length : Int) - 1).toNat ((0 : Int), (0 : Int), ()) = G.at c ((c.length : Int) - 1) := rfl
      rw [e]
      by_cases c3 : (G.at c ((c.length : Int) - 1)).1 = 8 <;> cases G.cellsOk c reach 0 <;> cases G.last (G.at c ((c.length : Int) - 1)).1 <;> simp [c3]
    · simp only [c1, Bool.not_true, if_true]
      rw [if_pos (by simpa using c2)]
      have c5 : ¬ (1 ≤ reach ∧ reach ≤ 100) := fun e => c2 (inR_iff.2 e)
      rw [decide_eq_false (by omega), Bool.false_and]
  · have c5 : ¬ (1 ≤ (c.length : Int) ∧ (c.length : Int) ≤ 800) := fun e => c1 (inR_iff.2 e)
    rw [if_neg (by simpa using c1), decide_eq_false (by omega), Bool.false_and]
theorem okImageOk : SpecOk Go.Proofs.Try.prog 82 spImageOk :=
  fun_okB (cx := cxImageOk) (F := Go.Proofs.Try.f82) (cxOk T0_ok T0_eq ph8_ok) mixed (by kernel_rfl) (by decide) (by kernel_rfl) (lps_of (l := [(0, loopIn Go.Proofs.Try.f82 0)]) (by kernel_rfl) ⟨lp_at lpImageOk rfl, trivial⟩) (fun x h => sfImageOk x.1 x.2.1 h)
noncomputable abbrev ph9 : List (Nat × List Spec) := (77, [spSpImageOk]) :: (82, [spImageOk]) :: ph8
theorem ph9_ok : PhiOk Go.Proofs.Try.prog ph9 := ⟨⟨okSpImageOk, trivial⟩, ⟨okImageOk, trivial⟩, ph8_ok⟩
/-! LawImageOk -/
noncomputable abbrev spLawImageOk : Spec := ⟨[CellSP, IntP], BoolR, false, fun x => decide (x.1.length ≤ 9223372036854775807), fun x => (true, ())⟩
end Go.Rx

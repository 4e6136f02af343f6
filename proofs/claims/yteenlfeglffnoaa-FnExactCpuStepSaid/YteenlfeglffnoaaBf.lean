/-
  MACHINES OF IMAGES: a step, as both packages take it.
-/
import Derived.Test.YteenlfeglffnoaaBe
namespace Go.Rx
open Go
set_option linter.unusedVariables false
set_option linter.unusedSimpArgs false
/-! Cut -/
noncomputable abbrev spCut : Spec := ⟨[IntP], IntR, false, fun x => true, fun x => (G.cut x.1, ())⟩
noncomputable abbrev cxCut : Cx := mkCx T0 ph19 [] [] 6
theorem eCut (a : Int) : funK cxCut Go.Proofs.Try.f137 spCut.ins spCut.out (a, ()) =
  (Option.some (if (if a < (1000 : Int) then a else (1000 : Int)) > (-1000 : Int) then if a < (1000 : Int) then a else (1000 : Int) else (-1000 : Int), PUnit.unit)) := by kernel_rfl
theorem sfCut (a : Int) : funK cxCut Go.Proofs.Try.f137 spCut.ins spCut.out (a, ()) = some (G.cut a, ()) := by
  rw [eCut]
  congr 2
  unfold G.cut
  repeat' split
  all_goals omega
theorem okCut : SpecOk Go.Proofs.Try.prog 137 spCut :=
  fun_okB (cx := cxCut) (F := Go.Proofs.Try.f137) (cxOk T0_ok T0_eq ph19_ok) mixed (by kernel_rfl) (by decide) (by kernel_rfl) (lps_none (by kernel_rfl)) (fun x h => sfCut x.1)
theorem cut_le (n : Int) : -1000 ≤ G.cut n ∧ G.cut n ≤ 1000 := by
  unfold G.cut
  split
  · omega
  · split <;> omega
noncomputable abbrev ph20 : List (Nat × List Spec) := (137, [spCut]) :: ph19
theorem ph20_ok : PhiOk Go.Proofs.Try.prog ph20 := ⟨⟨okCut, trivial⟩, ph19_ok⟩
def G.sum (a b : Int) : Int := G.cut (G.cut a + G.cut b)
/-! SpInsSum -/
noncomputable abbrev spSpInsSum : Spec := ⟨[IntP, IntP], IntR, false, fun x => true, fun x => (G.sum x.1 x.2.1, ())⟩
noncomputable abbrev cxSpInsSum : Cx := mkCx T0 ph20 [] [] 11
theorem eSpInsSum (a b : Int) : funK cxSpInsSum Go.Proofs.Try.f106 spSpInsSum.ins spSpInsSum.out (a, b, ()) =
  (Option.some (Go.Rx.G.cut (Go.IntKind.wrap Go.IntKind.i64 (Go.Rx.G.cut a + Go.Rx.G.cut b)), PUnit.unit)) := by kernel_rfl
theorem sfSpInsSum (a b : Int) : funK cxSpInsSum Go.Proofs.Try.f106 spSpInsSum.ins spSpInsSum.out (a, b, ()) = some (G.sum a b, ()) := by
  have := cut_le a
  have := cut_le b
  rw [eSpInsSum, w64 (by omega) (by omega)]
  rfl
theorem okSpInsSum : SpecOk Go.Proofs.Try.prog 106 spSpInsSum :=
  fun_okB (cx := cxSpInsSum) (F := Go.Proofs.Try.f106) (cxOk T0_ok T0_eq ph20_ok) mixed (by kernel_rfl) (by decide) (by kernel_rfl) (lps_none (by kernel_rfl)) (fun x h => sfSpInsSum x.1 x.2.1)
/-! InsSum -/
noncomputable abbrev spInsSum : Spec := ⟨[IntP, IntP], IntR, false, fun x => true, fun x => (G.sum x.1 x.2.1, ())⟩
noncomputable abbrev cxInsSum : Cx := mkCx T0 ph20 [] [] 11
theorem eInsSum (a b : Int) : funK cxInsSum Go.Proofs.Try.f122 spInsSum.ins spInsSum.out (a, b, ()) =
  (Option.some (Go.Rx.G.cut (Go.IntKind.wrap Go.IntKind.i64 (Go.Rx.G.cut a + Go.Rx.G.cut b)), PUnit.unit)) := by kernel_rfl
theorem sfInsSum (a b : Int) : funK cxInsSum Go.Proofs.Try.f122 spInsSum.ins spInsSum.out (a, b, ()) = some (G.sum a b, ()) := by
  have := cut_le a
  have := cut_le b
  rw [eInsSum, w64 (by omega) (by omega)]
  rfl
theorem okInsSum : SpecOk Go.Proofs.Try.prog 122 spInsSum :=
  fun_okB (cx := cxInsSum) (F := Go.Proofs.Try.f122) (cxOk T0_ok T0_eq ph20_ok) mixed (by kernel_rfl) (by decide) (by kernel_rfl) (lps_none (by kernel_rfl)) (fun x h => sfInsSum x.1 x.2.1)
/-! where a place leads -/
def G.over (c : Cells) (i : Int) : Int := if (G.at c i).1 = 8 then (G.at c i).2.1 else i
def G.atPre (c : Cells) (i : Int) : Bool := decide (0 ≤ i ∧ i < (c.length : Int))
theorem atPre_iff {c : Cells} {i : Int} : G.atPre c i = true ↔ (0 ≤ i ∧ i < (c.length : Int)) := by simp [G.atPre]
/-! L8Over -/
noncomputable abbrev spL8Over : Spec := ⟨[CellSP, IntP], IntR, false, fun x => G.atPre x.1 x.2.1, fun x => (G.over x.1 x.2.1, ())⟩
noncomputable abbrev cxL8Over : Cx := mkCx T0 ph20 [] [] 17
theorem eL8Over (c : Cells) (i : Int) : funK cxL8Over Go.Proofs.Try.f79 spL8Over.ins spL8Over.out (c, i, ()) =
  (if Decidable.decide ((0 : Int) ≤ i) = Bool.true then
    if Decidable.decide (i < (↑(List.length c) : Int)) = Bool.true then
      if Decidable.decide ((List.getD c (Int.toNat i) ((0 : Int), (0 : Int), PUnit.unit)).1 = (8 : Int)) = Bool.true then
        if Decidable.decide ((0 : Int) ≤ i) = Bool.true then
          if Decidable.decide (i < (↑(List.length c) : Int)) = Bool.true then Option.some (List.getD c (Int.toNat i) ((0 : Int), (0 : Int), PUnit.unit)).2 else Option.none
        else Option.none
      else Option.some (i, PUnit.unit)
    else Option.none
  else Option.none) := by kernel_rfl
theorem sfL8Over (c : Cells) (i : Int) (h : G.atPre c i = true) : funK cxL8Over Go.Proofs.Try.f79 spL8Over.ins spL8Over.out (c, i, ()) = some (G.over c i, ()) := by
  obtain ⟨h0, h1⟩ := atPre_iff.1 h
  rw [eL8Over]
  have e : c.getD i.toNat ((0 : Int), (0 : Int), ()) = G.at c i := rfl
  simp only [h0, h1, decide_true, if_true, e]
  unfold G.over
  by_cases hc : (G.at c i).1 = 8 <;> simp [hc]
theorem okL8Over : SpecOk Go.Proofs.Try.prog 79 spL8Over :=
  fun_okB (cx := cxL8Over) (F := Go.Proofs.Try.f79) (cxOk T0_ok T0_eq ph20_ok) mixed (by kernel_rfl) (by decide) (by kernel_rfl) (lps_none (by kernel_rfl)) (fun x h => sfL8Over x.1 x.2.1 h)
/-! Over -/
noncomputable abbrev spOver : Spec := ⟨[CellSP, IntP], IntR, false, fun x => G.atPre x.1 x.2.1, fun x => (G.over x.1 x.2.1, ())⟩
noncomputable abbrev cxOver : Cx := mkCx T0 ph20 [] [] 17
theorem eOver (c : Cells) (i : Int) : funK cxOver Go.Proofs.Try.f86 spOver.ins spOver.out (c, i, ()) =
  (if Decidable.decide ((0 : Int) ≤ i) = Bool.true then
    if Decidable.decide (i < (↑(List.length c) : Int)) = Bool.true then
      if Decidable.decide ((List.getD c (Int.toNat i) ((0 : Int), (0 : Int), PUnit.unit)).1 = (8 : Int)) = Bool.true then
        if Decidable.decide ((0 : Int) ≤ i) = Bool.true then
          if Decidable.decide (i < (↑(List.length c) : Int)) = Bool.true then Option.some (List.getD c (Int.toNat i) ((0 : Int), (0 : Int), PUnit.unit)).2 else Option.none
        else Option.none
      else Option.some (i, PUnit.unit)
    else Option.none
  else Option.none) := by kernel_rfl
theorem sfOver (c : Cells) (i : Int) (h : G.atPre c i = true) : funK cxOver Go.Proofs.Try.f86 spOver.ins spOver.out (c, i, ()) = some (G.over c i, ()) := by
  obtain ⟨h0, h1⟩ := atPre_iff.1 h
  rw [eOver]
  have e : c.getD i.toNat ((0 : Int), (0 : Int), ()) = G.at c i := rfl
  simp only [h0, h1, decide_true, if_true, e]
  unfold G.over
  by_cases hc : (G.at c i).1 = 8 <;> simp [hc]
theorem okOver : SpecOk Go.Proofs.Try.prog 86 spOver :=
  fun_okB (cx := cxOver) (F := Go.Proofs.Try.f86) (cxOk T0_ok T0_eq ph20_ok) mixed (by kernel_rfl) (by decide) (by kernel_rfl) (lps_none (by kernel_rfl)) (fun x h => sfOver x.1 x.2.1 h)
noncomputable abbrev ph21 : List (Nat × List Spec) := (106, [spSpInsSum]) :: (122, [spInsSum]) :: (79, [spL8Over]) :: (86, [spOver]) :: ph20
theorem ph21_ok : PhiOk Go.Proofs.Try.prog ph21 := ⟨⟨okSpInsSum, trivial⟩, ⟨okInsSum, trivial⟩, ⟨okL8Over, trivial⟩, ⟨okOver, trivial⟩, ph20_ok⟩
/-! copies -/
/-! L8Copy -/
noncomputable abbrev spL8Copy : Spec := ⟨[.agg CpuK], .one (.agg CpuO), false, fun x => G.fewCpu x.1, fun x => (x.1, ())⟩
noncomputable abbrev cxL8Copy : Cx := mkCx T0 ph21 [] [] 18
theorem eL8Copy (m : Cpu) : funK cxL8Copy Go.Proofs.Try.f39 spL8Copy.ins spL8Copy.out (m, ()) =
  (if Go.Rx.okSize (8 : Nat) ((0 : Nat) + List.length m.2.2.1) = Bool.true then
    if Go.Rx.okSize (8 : Nat) ((0 : Nat) + List.length m.2.2.2.1) = Bool.true then Option.some (m, PUnit.unit) else Option.none
  else Option.none) := by kernel_rfl
/-! Clone -/
noncomputable abbrev spClone : Spec := ⟨[.agg CpuK], .one (.agg CpuO), false, fun x => G.fewCpu x.1, fun x => (x.1, ())⟩
noncomputable abbrev cxClone : Cx := mkCx T0 ph21 [] [] 12
theorem eClone (m : Cpu) : funK cxClone Go.Proofs.Try.f44 spClone.ins spClone.out (m, ()) =
  (if Go.Rx.okSize (8 : Nat) (List.length m.2.2.1) = Bool.true then if Go.Rx.okSize (8 : Nat) (List.length m.2.2.2.1) = Bool.true then Option.some (m, PUnit.unit) else Option.none else Option.none) := by kernel_rfl
/-! a call -/
def G.l8Call (c : Cells) (m : Cpu) (to : Int) : Cpu := if 5 ≤ m.2.2.1.length then (m.1, m.2.1, m.2.2.1, m.2.2.2.1, 2, ()) else (G.over c to, m.2.1, m.2.2.1 ++ [(m.1 + 1, ())], m.2.2.2.1, m.2.2.2.2.1, ())
def G.callPre (c : Cells) (m : Cpu) (to : Int) : Bool := decide (0 ≤ to ∧ to < (c.length : Int) ∧ 0 ≤ m.1 ∧ m.1 < (c.length : Int) ∧ c.length ≤ 800)
theorem callPre_iff {c : Cells} {m : Cpu} {to : Int} : G.callPre c m to = true ↔ (0 ≤ to ∧ to < (c.length : Int) ∧ 0 ≤ m.1 ∧ m.1 < (c.length : Int) ∧ c.length ≤ 800) := by simp [G.callPre]
/-! L8Call -/
noncomputable abbrev spL8Call : Spec := ⟨[CellSP, .agg CpuO, IntP], .one (.agg CpuO), false, fun x => G.callPre x.1 x.2.1 x.2.2.1, fun x => (G.l8Call x.1 x.2.1 x.2.2.1, ())⟩
noncomputable abbrev cxL8Call : Cx := mkCx T0 ph21 [] [] 26
theorem eL8Call (c : Cells) (m : Cpu) (to : Int) : funK cxL8Call Go.Proofs.Try.f116 spL8Call.ins spL8Call.out (c, m, to, ()) =
  (if Decidable.decide ((↑(List.length m.2.2.1) : Int) ≥ (5 : Int)) = Bool.true then Option.some ((m.1, m.2.1, m.2.2.1, m.2.2.2.1, (2 : Int), PUnit.unit), PUnit.unit)
  else
    if Go.Rx.okSize (8 : Nat) (List.length m.2.2.1 + (1 : Nat)) = Bool.true then
      if Go.Rx.G.atPre c to = Bool.true then
        Option.some ((Go.Rx.G.over c to, m.2.1, m.2.2.1 ++ [(Go.IntKind.wrap Go.IntKind.i64 (m.1 + (1 : Int)), PUnit.unit)], m.2.2.2), PUnit.unit)
      else Option.none
    else Option.none) := by kernel_rfl
theorem okSize_few {k n : Nat} (hk : k ≤ 64) (h : n ≤ 1099511627777) : Go.Rx.okSize k n = true := by
  unfold okSize
  refine decide_eq_true ?_
  have : n * k ≤ 1099511627777 * 64 := Nat.mul_le_mul h hk
  omega
theorem sfL8Copy (m : Cpu) (h : G.fewCpu m = true) : funK cxL8Copy Go.Proofs.Try.f39 spL8Copy.ins spL8Copy.out (m, ()) = some (m, ()) := by
  obtain ⟨h1, h2⟩ := fewCpu_iff.1 h
  have f1 := few_iff.1 h1
  have f2 := few_iff.1 h2
  rw [eL8Copy, if_pos (okSize_few (by omega) (by omega)), if_pos (okSize_few (by omega) (by omega))]
theorem okL8Copy : SpecOk Go.Proofs.Try.prog 39 spL8Copy :=
  fun_okB (cx := cxL8Copy) (F := Go.Proofs.Try.f39) (cxOk T0_ok T0_eq ph21_ok) mixed (by kernel_rfl) (by decide) (by kernel_rfl) (lps_none (by kernel_rfl)) (fun x h => sfL8Copy x.1 h)
theorem sfClone (m : Cpu) (h : G.fewCpu m = true) : funK cxClone Go.Proofs.Try.f44 spClone.ins spClone.out (m, ()) = some (m, ()) := by
  obtain ⟨h1, h2⟩ := fewCpu_iff.1 h
  have f1 := few_iff.1 h1
  have f2 := few_iff.1 h2
  rw [eClone, if_pos (okSize_few (by omega) (by omega)), if_pos (okSize_few (by omega) (by omega))]
theorem okClone : SpecOk Go.Proofs.Try.prog 44 spClone :=
  fun_okB (cx := cxClone) (F := Go.Proofs.Try.f44) (cxOk T0_ok T0_eq ph21_ok) mixed (by kernel_rfl) (by decide) (by kernel_rfl) (lps_none (by kernel_rfl)) (fun x h => sfClone x.1 h)
theorem sfL8Call (c : Cells) (m : Cpu) (to : Int) (h : G.callPre c m to = true) : funK cxL8Call Go.Proofs.Try.f116 spL8Call.ins spL8Call.out (c, m, to, ()) = some (G.l8Call c m to, ()) := by
  obtain ⟨h1, h2, h3, h4, h5⟩ := callPre_iff.1 h
  rw [eL8Call]
  unfold G.l8Call
  by_cases hc : 5 ≤ m.2.2.1.length
  · rw [if_pos hc, if_pos (decide_eq_true (by omega))]
  · rw [if_neg hc, if_neg (by simp; omega), if_pos (okSize_few (by omega) (by omega)), if_pos (atPre_iff.2 ⟨h1, h2⟩), w64 (by omega) (by omega)]
theorem okL8Call : SpecOk Go.Proofs.Try.prog 116 spL8Call :=
  fun_okB (cx := cxL8Call) (F := Go.Proofs.Try.f116) (cxOk T0_ok T0_eq ph21_ok) mixed (by kernel_rfl) (by decide) (by kernel_rfl) (lps_none (by kernel_rfl)) (fun x h => sfL8Call x.1 x.2.1 x.2.2.1 h)
noncomputable abbrev ph22 : List (Nat × List Spec) := (39, [spL8Copy]) :: (44, [spClone]) :: (116, [spL8Call]) :: ph21
theorem ph22_ok : PhiOk Go.Proofs.Try.prog ph22 := ⟨⟨okL8Copy, trivial⟩, ⟨okClone, trivial⟩, ⟨okL8Call, trivial⟩, ph21_ok⟩
/-! what is at a place that is no stone -/
def G.doI (c : Cells) (m : Cpu) : Cpu :=
  if (G.at c m.1).1 = 1 then (if 30 ≤ m.2.2.2.1.length then (m.1, m.2.1, m.2.2.1, m.2.2.2.1, 4, ()) else (G.over c (m.1 + 1), m.2.1, m.2.2.1, m.2.2.2.1 ++ [(m.2.1, ())], m.2.2.2.2.1, ()))
  else if (G.at c m.1).1 = 2 then (G.over c (m.1 + 1), G.sum m.2.1 (G.at c m.1).2.1, m.2.2.1, m.2.2.2.1, m.2.2.2.2.1, ())
  else if (G.at c m.1).1 = 3 then G.l8Call c m (m.1 + (G.at c m.1).2.1)
  else if (G.at c m.1).1 = 4 ∨ ((G.at c m.1).1 = 5 ∧ m.2.1 > 0) then (G.over c (m.1 + (G.at c m.1).2.1), m.2.1, m.2.2.1, m.2.2.2.1, m.2.2.2.2.1, ())
  else if (G.at c m.1).1 = 5 then (G.over c (m.1 + 1), m.2.1, m.2.2.1, m.2.2.2.1, m.2.2.2.2.1, ())
  else if (G.at c m.1).1 = 6 then (if m.2.2.1.length = 0 then (m.1, m.2.1, m.2.2.1, m.2.2.2.1, 3, ()) else (G.over c (m.2.2.1.getD (m.2.2.1.length - 1) (0, ())).1, m.2.1, m.2.2.1.take (m.2.2.1.length - 1), m.2.2.2.1, m.2.2.2.2.1, ()))
  else (m.1, m.2.1, m.2.2.1, m.2.2.2.1, 1, ())
def G.goPre (c : Cells) (m : Cpu) : Bool := G.imageOk c 100 && (decide (0 ≤ m.1 ∧ m.1 < (c.length : Int) ∧ m.2.2.1.length ≤ 5 ∧ m.2.2.2.1.length ≤ 30) && G.allIn c m.2.2.1 0)
theorem goPre_iff {c : Cells} {m : Cpu} : G.goPre c m = true ↔ (G.imageOk c 100 = true ∧ (0 ≤ m.1 ∧ m.1 < (c.length : Int) ∧ m.2.2.1.length ≤ 5 ∧ m.2.2.2.1.length ≤ 30) ∧ G.allIn c m.2.2.1 0 = true) := by simp [G.goPre]
def G.doPre (c : Cells) (m : Cpu) : Bool := G.goPre c m && !decide ((G.at c m.1).1 = 8)
/-! L8Do -/
noncomputable abbrev spL8Do : Spec := ⟨[CellSP, .agg CpuO], .one (.agg CpuO), false, fun x => G.doPre x.1 x.2.1, fun x => (G.doI x.1 x.2.1, ())⟩
noncomputable abbrev cxL8Do : Cx := mkCx T0 ph22 [] [90] 100
theorem eL8Do (c : Cells) (m : Cpu) : funK cxL8Do Go.Proofs.Try.f80 spL8Do.ins spL8Do.out (c, m, ()) =
  (if Decidable.decide ((0 : Int) ≤ m.1) = Bool.true then
    if Decidable.decide (m.1 < (↑(List.length c) : Int)) = Bool.true then
      if Decidable.decide ((List.getD c (Int.toNat m.1) ((0 : Int), (0 : Int), PUnit.unit)).1 = (1 : Int)) = Bool.true then
        if Decidable.decide ((↑(List.length m.2.2.2.1) : Int) ≥ (30 : Int)) = Bool.true then Option.some ((m.1, m.2.1, m.2.2.1, m.2.2.2.1, (4 : Int), PUnit.unit), PUnit.unit)
        else
          if Go.Rx.okSize (8 : Nat) (List.length m.2.2.2.1 + (1 : Nat)) = Bool.true then
            if Go.Rx.G.atPre c (Go.IntKind.wrap Go.IntKind.i64 (m.1 + (1 : Int))) = Bool.true then
              Option.some
                ((Go.Rx.G.over c (Go.IntKind.wrap Go.IntKind.i64 (m.1 + (1 : Int))), m.2.1, m.2.2.1, m.2.2.2.1 ++ [(m.2.1, PUnit.unit)], m.2.2.2.2),
                  PUnit.unit)
            else Option.none
          else Option.none
      else
        if Decidable.decide ((List.getD c (Int.toNat m.1) ((0 : Int), (0 : Int), PUnit.unit)).1 = (2 : Int)) = Bool.true then
          if Go.Rx.G.atPre c (Go.IntKind.wrap Go.IntKind.i64 (m.1 + (1 : Int))) = Bool.true then
            Option.some
              ((Go.Rx.G.over c (Go.IntKind.wrap Go.IntKind.i64 (m.1 + (1 : Int))), Go.Rx.G.sum m.2.1 (List.getD c (Int.toNat m.1) ((0 : Int), (0 : Int), PUnit.unit)).2.1,
                  m.2.2),
                PUnit.unit)
          else Option.none
        else
          if Decidable.decide ((List.getD c (Int.toNat m.1) ((0 : Int), (0 : Int), PUnit.unit)).1 = (3 : Int)) = Bool.true then
            if Go.Rx.G.callPre c m (Go.IntKind.wrap Go.IntKind.i64 (m.1 + (List.getD c (Int.toNat m.1) ((0 : Int), (0 : Int), PUnit.unit)).2.1)) = Bool.true then
              Option.some (Go.Rx.G.l8Call c m (Go.IntKind.wrap Go.IntKind.i64 (m.1 + (List.getD c (Int.toNat m.1) ((0 : Int), (0 : Int), PUnit.unit)).2.1)), PUnit.unit)
            else Option.none
          else
            if Decidable.decide ((List.getD c (Int.toNat m.1) ((0 : Int), (0 : Int), PUnit.unit)).1 = (4 : Int)) = Bool.true then
              if Decidable.decide ((List.getD c (Int.toNat m.1) ((0 : Int), (0 : Int), PUnit.unit)).1 = (4 : Int)) = Bool.true then
                if Decidable.decide ((List.getD c (Int.toNat m.1) ((0 : Int), (0 : Int), PUnit.unit)).1 = (4 : Int)) = Bool.false then
                  if Decidable.decide (m.2.1 > (0 : Int)) = Bool.true then
                    if Go.Rx.G.atPre c (Go.IntKind.wrap Go.IntKind.i64 (m.1 + (List.getD c (Int.toNat m.1) ((0 : Int), (0 : Int), PUnit.unit)).2.1)) = Bool.true then
                      Option.some ((Go.Rx.G.over c (Go.IntKind.wrap Go.IntKind.i64 (m.1 + (List.getD c (Int.toNat m.1) ((0 : Int), (0 : Int), PUnit.unit)).2.1)), m.2), PUnit.unit)
                    else Option.none
                  else
                    if Go.Rx.G.atPre c (Go.IntKind.wrap Go.IntKind.i64 (m.1 + (1 : Int))) = Bool.true then
                      Option.some ((Go.Rx.G.over c (Go.IntKind.wrap Go.IntKind.i64 (m.1 + (1 : Int))), m.2), PUnit.unit)
                    else Option.none
                else
                  if Go.Rx.G.atPre c (Go.IntKind.wrap Go.IntKind.i64 (m.1 + (List.getD c (Int.toNat m.1) ((0 : Int), (0 : Int), PUnit.unit)).2.1)) = Bool.true then
                    Option.some ((Go.Rx.G.over c (Go.IntKind.wrap Go.IntKind.i64 (m.1 + (List.getD c (Int.toNat m.1) ((0 : Int), (0 : Int), PUnit.unit)).2.1)), m.2), PUnit.unit)
                  else Option.none
              else
                if Decidable.decide ((List.getD c (Int.toNat m.1) ((0 : Int), (0 : Int), PUnit.unit)).1 = (6 : Int)) = Bool.true then
                  if Decidable.decide (Go.IntKind.wrap Go.IntKind.i64 ((↑(List.length m.2.2.1) : Int) - (1 : Int)) < (0 : Int)) = Bool.true then
                    Option.some ((m.1, m.2.1, m.2.2.1, m.2.2.2.1, (3 : Int), PUnit.unit), PUnit.unit)
                  else
                    if Decidable.decide ((0 : Int) ≤ Go.IntKind.wrap Go.IntKind.i64 ((↑(List.length m.2.2.1) : Int) - (1 : Int))) = Bool.true then
                      if Decidable.decide (Go.IntKind.wrap Go.IntKind.i64 ((↑(List.length m.2.2.1) : Int) - (1 : Int)) < (↑(List.length m.2.2.1) : Int)) = Bool.true then
                        if Decidable.decide (Int.toNat (Go.IntKind.wrap Go.IntKind.i64 ((↑(List.length m.2.2.1) : Int) - (1 : Int))) < List.length m.2.2.1) = Bool.true then
                          if Go.Rx.G.atPre c (List.getD m.2.2.1 (Int.toNat (Go.IntKind.wrap Go.IntKind.i64 ((↑(List.length m.2.2.1) : Int) - (1 : Int)))) ((0 : Int), PUnit.unit)).1 = Bool.true then
                            if Decidable.decide ((0 : Int) ≤ Go.IntKind.wrap Go.IntKind.i64 ((↑(List.length m.2.2.1) : Int) - (1 : Int))) = Bool.true then
                              if Decidable.decide (Go.IntKind.wrap Go.IntKind.i64 ((↑(List.length m.2.2.1) : Int) - (1 : Int)) ≤ (↑(List.length m.2.2.1) : Int)) = Bool.true then
                                Option.some
                                  ((Go.Rx.G.over c (List.getD m.2.2.1 (Int.toNat (Go.IntKind.wrap Go.IntKind.i64 ((↑(List.length m.2.2.1) : Int) - (1 : Int)))) ((0 : Int), PUnit.unit)).1, m.2.1,
                                      List.take (Int.toNat (Go.IntKind.wrap Go.IntKind.i64 ((↑(List.length m.2.2.1) : Int) - (1 : Int)))) m.2.2.1, m.2.2.2),
                                    PUnit.unit)
                              else Option.none
                            else Option.none
                          else Option.none
                        else Option.none
                      else Option.none
                    else Option.none
                else Option.some ((m.1, m.2.1, m.2.2.1, m.2.2.2.1, (1 : Int), PUnit.unit), PUnit.unit)
            else
              if Decidable.decide ((List.getD c (Int.toNat m.1) ((0 : Int), (0 : Int), PUnit.unit)).1 = (5 : Int)) = Bool.true then
                if Decidable.decide ((List.getD c (Int.toNat m.1) ((0 : Int), (0 : Int), PUnit.unit)).1 = (4 : Int)) = Bool.false then
                  if Decidable.decide (m.2.1 > (0 : Int)) = Bool.true then
                    if Go.Rx.G.atPre c (Go.IntKind.wrap Go.IntKind.i64 (m.1 + (List.getD c (Int.toNat m.1) ((0 : Int), (0 : Int), PUnit.unit)).2.1)) = Bool.true then
                      Option.some ((Go.Rx.G.over c (Go.IntKind.wrap Go.IntKind.i64 (m.1 + (List.getD c (Int.toNat m.1) ((0 : Int), (0 : Int), PUnit.unit)).2.1)), m.2), PUnit.unit)
                    else Option.none
                  else
                    if Go.Rx.G.atPre c (Go.IntKind.wrap Go.IntKind.i64 (m.1 + (1 : Int))) = Bool.true then
                      Option.some ((Go.Rx.G.over c (Go.IntKind.wrap Go.IntKind.i64 (m.1 + (1 : Int))), m.2), PUnit.unit)
                    else Option.none
                else
                  if Go.Rx.G.atPre c (Go.IntKind.wrap Go.IntKind.i64 (m.1 + (List.getD c (Int.toNat m.1) ((0 : Int), (0 : Int), PUnit.unit)).2.1)) = Bool.true then
                    Option.some ((Go.Rx.G.over c (Go.IntKind.wrap Go.IntKind.i64 (m.1 + (List.getD c (Int.toNat m.1) ((0 : Int), (0 : Int), PUnit.unit)).2.1)), m.2), PUnit.unit)
                  else Option.none
              else
                if Decidable.decide ((List.getD c (Int.toNat m.1) ((0 : Int), (0 : Int), PUnit.unit)).1 = (6 : Int)) = Bool.true then
                  if Decidable.decide (Go.IntKind.wrap Go.IntKind.i64 ((↑(List.length m.2.2.1) : Int) - (1 : Int)) < (0 : Int)) = Bool.true then
                    Option.some ((m.1, m.2.1, m.2.2.1, m.2.2.2.1, (3 : Int), PUnit.unit), PUnit.unit)
                  else
                    if Decidable.decide ((0 : Int) ≤ Go.IntKind.wrap Go.IntKind.i64 ((↑(List.length m.2.2.1) : Int) - (1 : Int))) = Bool.true then
                      if Decidable.decide (Go.IntKind.wrap Go.IntKind.i64 ((↑(List.length m.2.2.1) : Int) - (1 : Int)) < (↑(List.length m.2.2.1) : Int)) = Bool.true then
                        if Decidable.decide (Int.toNat (Go.IntKind.wrap Go.IntKind.i64 ((↑(List.length m.2.2.1) : Int) - (1 : Int))) < List.length m.2.2.1) = Bool.true then
                          if Go.Rx.G.atPre c (List.getD m.2.2.1 (Int.toNat (Go.IntKind.wrap Go.IntKind.i64 ((↑(List.length m.2.2.1) : Int) - (1 : Int)))) ((0 : Int), PUnit.unit)).1 = Bool.true then
                            if Decidable.decide ((0 : Int) ≤ Go.IntKind.wrap Go.IntKind.i64 ((↑(List.length m.2.2.1) : Int) - (1 : Int))) = Bool.true then
                              if Decidable.decide (Go.IntKind.wrap Go.IntKind.i64 ((↑(List.length m.2.2.1) : Int) - (1 : Int)) ≤ (↑(List.length m.2.2.1) : Int)) = Bool.true then
                                Option.some
                                  ((Go.Rx.G.over c (List.getD m.2.2.1 (Int.toNat (Go.IntKind.wrap Go.IntKind.i64 ((↑(List.length m.2.2.1) : Int) - (1 : Int)))) ((0 : Int), PUnit.unit)).1, m.2.1,
                                      List.take (Int.toNat (Go.IntKind.wrap Go.IntKind.i64 ((↑(List.length m.2.2.1) : Int) - (1 : Int)))) m.2.2.1, m.2.2.2),
                                    PUnit.unit)
                              else Option.none
                            else Option.none
                          else Option.none
                        else Option.none
                      else Option.none
                    else Option.none
                else Option.some ((m.1, m.2.1, m.2.2.1, m.2.2.2.1, (1 : Int), PUnit.unit), PUnit.unit)
    else Option.none
  else Option.none) := by kernel_rfl
def G.coreI (m : Cpu) (op n to behind : Int) : Cpu :=
  if op = 1 then (if m.2.2.2.1.length = 30 then (m.1, m.2.1, m.2.2.1, m.2.2.2.1, 4, ()) else (behind, m.2.1, m.2.2.1, m.2.2.2.1 ++ [(m.2.1, ())], m.2.2.2.2.1, ()))
  else if op = 2 then (behind, G.sum m.2.1 n, m.2.2.1, m.2.2.2.1, m.2.2.2.2.1, ())
  else if op = 3 then (if m.2.2.1.length = 5 then (m.1, m.2.1, m.2.2.1, m.2.2.2.1, 2, ()) else (to, m.2.1, m.2.2.1 ++ [(behind, ())], m.2.2.2.1, m.2.2.2.2.1, ()))
  else if op = 4 then (to, m.2.1, m.2.2.1, m.2.2.2.1, m.2.2.2.2.1, ())
  else if op = 5 then (if m.2.1 > 0 then to else behind, m.2.1, m.2.2.1, m.2.2.2.1, m.2.2.2.2.1, ())
  else if op = 6 then (if m.2.2.1.length = 0 then (m.1, m.2.1, m.2.2.1, m.2.2.2.1, 3, ()) else ((m.2.2.1.getD (m.2.2.1.length - 1) (0, ())).1, m.2.1, m.2.2.1.take (m.2.2.1.length - 1), m.2.2.2.1, m.2.2.2.2.1, ()))
  else (m.1, m.2.1, m.2.2.1, m.2.2.2.1, 1, ())
def G.corePre (m : Cpu) : Bool := decide (m.2.2.1.length ≤ 5 ∧ m.2.2.2.1.length ≤ 30)
theorem corePre_iff {m : Cpu} : G.corePre m = true ↔ (m.2.2.1.length ≤ 5 ∧ m.2.2.2.1.length ≤ 30) := by simp [G.corePre]
/-! Core -/
noncomputable abbrev spCore : Spec := ⟨[.box CpuO, IntP, IntP, IntP, IntP], .none, false, fun x => G.corePre x.1, fun x => ((), (G.coreI x.1 x.2.1 x.2.2.1 x.2.2.2.1 x.2.2.2.2.1, ()))⟩
noncomputable abbrev cxCore : Cx := mkCx T0 ph22 [] [111] 118
theorem eCore (m : Cpu) (op n to behind : Int) : funK cxCore Go.Proofs.Try.f87 spCore.ins spCore.out (m, op, n, to, behind, ()) =
  (if Decidable.decide (op = (1 : Int)) = Bool.true then
    if Decidable.decide ((↑(List.length m.2.2.2.1) : Int) = (30 : Int)) = Bool.true then Option.some (PUnit.unit, (m.1, m.2.1, m.2.2.1, m.2.2.2.1, (4 : Int), PUnit.unit), PUnit.unit)
    else
      if Go.Rx.okSize (8 : Nat) (List.length m.2.2.2.1 + (1 : Nat)) = Bool.true then
        Option.some (PUnit.unit, (behind, m.2.1, m.2.2.1, m.2.2.2.1 ++ [(m.2.1, PUnit.unit)], m.2.2.2.2), PUnit.unit)
      else Option.none
  else
    if Decidable.decide (op = (2 : Int)) = Bool.true then Option.some (PUnit.unit, (behind, Go.Rx.G.sum m.2.1 n, m.2.2), PUnit.unit)
    else
      if Decidable.decide (op = (3 : Int)) = Bool.true then
        if Decidable.decide ((↑(List.length m.2.2.1) : Int) = (5 : Int)) = Bool.true then
          Option.some (PUnit.unit, (m.1, m.2.1, m.2.2.1, m.2.2.2.1, (2 : Int), PUnit.unit), PUnit.unit)
        else
          if Go.Rx.okSize (8 : Nat) (List.length m.2.2.1 + (1 : Nat)) = Bool.true then
            Option.some (PUnit.unit, (to, m.2.1, m.2.2.1 ++ [(behind, PUnit.unit)], m.2.2.2), PUnit.unit)
          else Option.none
      else
        if Decidable.decide (op = (4 : Int)) = Bool.true then Option.some (PUnit.unit, (to, m.2), PUnit.unit)
        else
          if Decidable.decide (op = (5 : Int)) = Bool.true then
            if Decidable.decide (m.2.1 > (0 : Int)) = Bool.true then Option.some (PUnit.unit, (to, m.2), PUnit.unit) else Option.some (PUnit.unit, (behind, m.2), PUnit.unit)
          else
            if Decidable.decide (op = (6 : Int)) = Bool.true then
              if Decidable.decide (Go.IntKind.wrap Go.IntKind.i64 ((↑(List.length m.2.2.1) : Int) - (1 : Int)) < (0 : Int)) = Bool.true then
                Option.some (PUnit.unit, (m.1, m.2.1, m.2.2.1, m.2.2.2.1, (3 : Int), PUnit.unit), PUnit.unit)
              else
                if Decidable.decide ((0 : Int) ≤ Go.IntKind.wrap Go.IntKind.i64 ((↑(List.length m.2.2.1) : Int) - (1 : Int))) = Bool.true then
                  if Decidable.decide (Go.IntKind.wrap Go.IntKind.i64 ((↑(List.length m.2.2.1) : Int) - (1 : Int)) < (↑(List.length m.2.2.1) : Int)) = Bool.true then
                    if Decidable.decide (Int.toNat (Go.IntKind.wrap Go.IntKind.i64 ((↑(List.length m.2.2.1) : Int) - (1 : Int))) < List.length m.2.2.1) = Bool.true then
                      if Decidable.decide ((0 : Int) ≤ Go.IntKind.wrap Go.IntKind.i64 ((↑(List.length m.2.2.1) : Int) - (1 : Int))) = Bool.true then
                        if Decidable.decide (Go.IntKind.wrap Go.IntKind.i64 ((↑(List.length m.2.2.1) : Int) - (1 : Int)) ≤ (↑(List.length m.2.2.1) : Int)) = Bool.true then
                          Option.some
                            (PUnit.unit,
                              ((List.getD m.2.2.1 (Int.toNat (Go.IntKind.wrap Go.IntKind.i64 ((↑(List.length m.2.2.1) : Int) - (1 : Int)))) ((0 : Int), PUnit.unit)).1, m.2.1,
                                List.take (Int.toNat (Go.IntKind.wrap Go.IntKind.i64 ((↑(List.length m.2.2.1) : Int) - (1 : Int)))) m.2.2.1, m.2.2.2),
                              PUnit.unit)
                        else Option.none
                      else Option.none
                    else Option.none
                  else Option.none
                else Option.none
            else Option.some (PUnit.unit, (m.1, m.2.1, m.2.2.1, m.2.2.2.1, (1 : Int), PUnit.unit), PUnit.unit)) := by kernel_rfl
theorem allFrom_get {n : Nat} {p : Nat → Bool} (h : G.allFrom n p 0 = true) : ∀ k, k < n → p k = true := by
  intro k hk
  unfold G.allFrom at h
  rw [List.all_eq_true] at h
  exact h k (by rw [List.mem_range'_1]; constructor <;> simp <;> omega)
theorem imageOk_iff {c : Cells} {r : Int} : G.imageOk c r = true ↔ ((1 ≤ c.length ∧ c.length ≤ 800 ∧ 1 ≤ r ∧ r ≤ 100) ∧ G.ends c = true ∧ G.cellsOk c r 0 = true) := by simp [G.imageOk]
theorem image_cell {c : Cells} (h : G.imageOk c 100 = true) {i : Int} (h0 : 0 ≤ i) (h1 : i < (c.length : Int)) : G.cellOk c (G.at c i) i 100 = true := by
  obtain ⟨_, _, h2⟩ := imageOk_iff.1 h
  have := allFrom_get h2 i.toNat (by omega)
  have e : ((i.toNat : Nat) : Int) = i := by omega
  rw [e] at this
  exact this
theorem cell_facts {c : Cells} (h : G.imageOk c 100 = true) {i : Int} (h0 : 0 ≤ i) (h1 : i < (c.length : Int)) (h8 : ¬ (G.at c i).1 = 8) :
    ((G.at c i).1 = 1 ∨ (G.at c i).1 = 2 ∨ (G.at c i).1 = 3 ∨ (G.at c i).1 = 4 ∨ (G.at c i).1 = 5 ∨ (G.at c i).1 = 6 ∨ (G.at c i).1 = 7) ∧
    ((G.at c i).1 = 3 ∨ (G.at c i).1 = 4 ∨ (G.at c i).1 = 5 → 0 ≤ i + (G.at c i).2.1 ∧ i + (G.at c i).2.1 < (c.length : Int)) ∧ ((G.at c i).1 = 1 ∨ (G.at c i).1 = 2 ∨ (G.at c i).1 = 3 ∨ (G.at c i).1 = 5 → i + 1 < (c.length : Int)) := by
  have hc := image_cell h h0 h1
  have he := (imageOk_iff.1 h).2.1
  have hlast : i = (c.length : Int) - 1 → (G.at c i).1 = 4 ∨ (G.at c i).1 = 6 ∨ (G.at c i).1 = 7 := fun e => by
    unfold G.ends at he
    rw [← e] at he
    simp only [Bool.or_eq_true, decide_eq_true_iff, G.last] at he
    omega
  unfold G.cellOk at hc
  by_cases c1 : G.refs (G.at c i).1 = true
  · rw [if_pos c1] at hc
    have c1' : (G.at c i).1 = 3 ∨ (G.at c i).1 = 4 ∨ (G.at c i).1 = 5 := by simpa [G.refs] using c1
    have hc' := of_decide_eq_true hc
    refine ⟨by omega, fun _ => ⟨hc'.2.2.1, hc'.2.2.2⟩, fun e => ?_⟩
    rcases Int.lt_or_le (i + 1) (c.length : Int) with g | g
    · exact g
    · have := hlast (by omega)
      omega
  · rw [if_neg c1, if_neg h8] at hc
    have c1' : ¬ ((G.at c i).1 = 3 ∨ (G.at c i).1 = 4 ∨ (G.at c i).1 = 5) := by simpa [G.refs] using c1
    have key : (G.at c i).1 = 1 ∨ (G.at c i).1 = 2 ∨ (G.at c i).1 = 6 ∨ (G.at c i).1 = 7 := by
      by_cases c2 : (G.at c i).1 = 2
      · omega
      · rw [if_neg c2] at hc
        have := of_decide_eq_true hc
        omega
    refine ⟨by omega, fun e => absurd e c1', fun e => ?_⟩
    rcases Int.lt_or_le (i + 1) (c.length : Int) with g | g
    · exact g
    · have := hlast (by omega)
      omega
theorem over_ok {c : Cells} (h : G.imageOk c 100 = true) {i : Int} (h0 : 0 ≤ i) (h1 : i < (c.length : Int)) : 0 ≤ G.over c i ∧ G.over c i < (c.length : Int) ∧ ¬ (G.at c (G.over c i)).1 = 8 := by
  unfold G.over
  by_cases h8 : (G.at c i).1 = 8
  · rw [if_pos h8]
    have hc := image_cell h h0 h1
    unfold G.cellOk at hc
    rw [if_neg (by rw [h8]; simp [G.refs]), if_pos h8] at hc
    exact of_decide_eq_true hc
  · rw [if_neg h8]
    exact ⟨h0, h1, h8⟩
theorem allL_get {p : Int → Bool} {xs : Ints} (h : G.allL p xs 0 = true) {k : Nat} (hk : k < xs.length) : p (xs.getD k (0, ())).1 = true := by
  unfold G.allL at h
  rw [List.all_eq_true] at h
  have e : xs.getD k (0, ()) = xs[k] := by simp [List.getD, hk]
  rw [e]
  exact h _ (by simp)
theorem allIn_get {c : Cells} {xs : Ints} (h : G.allIn c xs 0 = true) {k : Nat} (hk : k < xs.length) : 0 ≤ (xs.getD k (0, ())).1 ∧ (xs.getD k (0, ())).1 < (c.length : Int) := by
  have := inR_iff.1 (allL_get h hk)
  omega
theorem sfL8Do (c : Cells) (m : Cpu) (h : G.doPre c m = true) : funK cxL8Do Go.Proofs.Try.f80 spL8Do.ins spL8Do.out (c, m, ()) = some (G.doI c m, ()) := by
  unfold G.doPre at h
  rw [Bool.and_eq_true, goPre_iff] at h
  obtain ⟨⟨hi, ⟨h0, h1, h2, h3⟩, h4⟩, h8⟩ := h
  have h8 : ¬ (G.at c m.1).1 = 8 := by simpa using h8
  obtain ⟨⟨hc1, hc2, _⟩, _⟩ := imageOk_iff.1 hi
  obtain ⟨f1, f2, f3⟩ := cell_facts hi h0 h1 h8
  rw [eL8Do]
  have e : c.getD m.1.toNat ((0 : Int), (0 : Int), ()) = G.at c m.1 := rfl
  have hw1 : IntKind.i64.wrap (m.1 + 1) = m.1 + 1 := w64 (by omega) (by omega)
  have hwl : IntKind.i64.wrap ((m.2.2.1.length : Int) - 1) = (m.2.2.1.length : Int) - 1 := w64 (by omega) (by omega)
  simp only [e, hw1, hwl, h0, h1, decide_true, if_true]
  unfold G.doI
  generalize G.at c m.1 = x at f1 f2 f3 ⊢
  obtain ⟨x1, x2, u⟩ := x
  dsimp only at f1 f2 f3 ⊢
  have s1 : Go.Rx.okSize 8 (m.2.2.2.1.length + 1) = true := okSize_few (by omega) (by omega)
  rcases f1 with rfl | rfl | rfl | rfl | rfl | rfl | rfl
  · have hp := atPre_iff.2 ⟨show 0 ≤ m.1 + 1 by omega, f3 (by omega)⟩
    by_cases c5 : 30 ≤ m.2.2.2.1.length
    · rw [if_pos (by simp), if_pos (decide_eq_true (by omega)), if_pos rfl, if_pos c5]
    · rw [if_pos (by simp), if_neg (by simp; omega), if_pos s1, if_pos hp, if_pos rfl, if_neg c5]
  · have hp := atPre_iff.2 ⟨show 0 ≤ m.1 + 1 by omega, f3 (by omega)⟩
    simp [hp]
  · have g := f2 (by omega)
    have hp := callPre_iff.2 (show 0 ≤ m.1 + x2 ∧ m.1 + x2 < (c.length : Int) ∧ 0 ≤ m.1 ∧ m.1 < (c.length : Int) ∧ c.length ≤ 800 by omega)
    have hw : IntKind.i64.wrap (m.1 + x2) = m.1 + x2 := w64 (by omega) (by omega)
    simp [hp, hw]
  · have g := f2 (by omega)
    have hp := atPre_iff.2 g
    have hw : IntKind.i64.wrap (m.1 + x2) = m.1 + x2 := w64 (by omega) (by omega)
    simp [hp, hw]
  · have g := f2 (by omega)
    have hp := atPre_iff.2 g
    have hp1 := atPre_iff.2 ⟨show 0 ≤ m.1 + 1 by omega, f3 (by omega)⟩
    have hw : IntKind.i64.wrap (m.1 + x2) = m.1 + x2 := w64 (by omega) (by omega)
    by_cases ca : m.2.1 > 0 <;> simp [hp, hp1, hw, ca]
  · by_cases cs : m.2.2.1.length = 0
    · have : (m.2.2.1.length : Int) - 1 < 0 := by omega
      simp [cs]
    · have l1 : ¬ (m.2.2.1.length : Int) - 1 < 0 := by omega
      have l2 : (0 : Int) ≤ (m.2.2.1.length : Int) - 1 := by omega
      have l3 : (m.2.2.1.length : Int) - 1 < (m.2.2.1.length : Int) := by omega
      have l4 : (m.2.2.1.length : Int) - 1 ≤ (m.2.2.1.length : Int) := by omega
      have l5 : ((m.2.2.1.length : Int) - 1).toNat = m.2.2.1.length - 1 := by omega
      have l6 : m.2.2.1.length - 1 < m.2.2.1.length := by omega
      have hp := atPre_iff.2 (allIn_get h4 l6)
      simp only [l1, l2, l3, l4, l5, l6, hp, cs, decide_true, decide_false, if_true, if_false]
      simp
  · simp
theorem okL8Do : SpecOk Go.Proofs.Try.prog 80 spL8Do :=
  fun_okB (cx := cxL8Do) (F := Go.Proofs.Try.f80) (cxOk T0_ok T0_eq ph22_ok) mixed (by kernel_rfl) (by decide) (by kernel_rfl) (lps_none (by kernel_rfl)) (fun x h => sfL8Do x.1 x.2.1 h)
theorem sfCore (m : Cpu) (op n to behind : Int) (h : G.corePre m = true) : funK cxCore Go.Proofs.Try.f87 spCore.ins spCore.out (m, op, n, to, behind, ()) = some ((), (G.coreI m op n to behind, ())) := by
  obtain ⟨h2, h3⟩ := corePre_iff.1 h
  rw [eCore]
  have hwl : IntKind.i64.wrap ((m.2.2.1.length : Int) - 1) = (m.2.2.1.length : Int) - 1 := w64 (by omega) (by omega)
  have s1 : Go.Rx.okSize 8 (m.2.2.2.1.length + 1) = true := okSize_few (by omega) (by omega)
  have s2 : Go.Rx.okSize 8 (m.2.2.1.length + 1) = true := okSize_few (by omega) (by omega)
  have d1 : ((m.2.2.2.1.length : Int) = 30) = (m.2.2.2.1.length = 30) := by rw [eq_iff_iff]; omega
  have d2 : ((m.2.2.1.length : Int) = 5) = (m.2.2.1.length = 5) := by rw [eq_iff_iff]; omega
  simp only [hwl, s1, s2, d1, d2, if_true, decide_eq_true_eq]
  unfold G.coreI
  by_cases o1 : op = 1
  · rw [if_pos o1, if_pos o1]
    split <;> rfl
  · rw [if_neg o1, if_neg o1]
    by_cases o2 : op = 2
    · rw [if_pos o2, if_pos o2]
    · rw [if_neg o2, if_neg o2]
      by_cases o3 : op = 3
      · rw [if_pos o3, if_pos o3]
        split <;> rfl
      · rw [if_neg o3, if_neg o3]
        by_cases o4 : op = 4
        · rw [if_pos o4, if_pos o4]
        · rw [if_neg o4, if_neg o4]
          by_cases o5 : op = 5
          · rw [if_pos o5, if_pos o5]
            split <;> rfl
          · rw [if_neg o5, if_neg o5]
            by_cases o6 : op = 6
            · rw [if_pos o6, if_pos o6]
              by_cases cs : m.2.2.1.length = 0
              · rw [if_pos (by omega), if_pos cs]
              · have l5 : ((m.2.2.1.length : Int) - 1).toNat = m.2.2.1.length - 1 := by omega
                rw [if_neg (by omega), if_pos (by omega), if_pos (by omega), if_pos (by omega), if_pos (by omega), if_pos (by omega), if_neg cs, l5]
            · rw [if_neg o6, if_neg o6]
theorem okCore : SpecOk Go.Proofs.Try.prog 87 spCore :=
  fun_okB (cx := cxCore) (F := Go.Proofs.Try.f87) (cxOk T0_ok T0_eq ph22_ok) mixed (by kernel_rfl) (by decide) (by kernel_rfl) (lps_none (by kernel_rfl)) (fun x h => sfCore x.1 x.2.1 x.2.2.1 x.2.2.2.1 x.2.2.2.2.1 h)
noncomputable abbrev ph23 : List (Nat × List Spec) := (80, [spL8Do]) :: (87, [spCore]) :: ph22
theorem ph23_ok : PhiOk Go.Proofs.Try.prog ph23 := ⟨⟨okL8Do, trivial⟩, ⟨okCore, trivial⟩, ph22_ok⟩
def G.stepC (c : Cells) (m : Cpu) : Cpu := G.doI c (G.over c m.1, m.2.1, m.2.2.1, m.2.2.2.1, m.2.2.2.2.1, ())
/-! L8Step -/
noncomputable abbrev spL8Step : Spec := ⟨[CellSP, .agg CpuO], .one (.agg CpuO), false, fun x => G.goPre x.1 x.2.1, fun x => (G.stepC x.1 x.2.1, ())⟩
noncomputable abbrev cxL8Step : Cx := mkCx T0 ph23 [] [] 13
theorem eL8Step (c : Cells) (m : Cpu) : funK cxL8Step Go.Proofs.Try.f40 spL8Step.ins spL8Step.out (c, m, ()) =
  (if Go.Rx.G.atPre c m.1 = Bool.true then
    if Go.Rx.G.doPre c (Go.Rx.G.over c m.1, m.2) = Bool.true then
      Option.some (Go.Rx.G.doI c (Go.Rx.G.over c m.1, m.2), PUnit.unit)
    else Option.none
  else Option.none) := by kernel_rfl
/-! Step -/
noncomputable abbrev spStep : Spec := ⟨[.agg CpuO, CellSP], .one (.agg CpuO), false, fun x => G.goPre x.2.1 x.1, fun x => (G.stepC x.2.1 x.1, ())⟩
noncomputable abbrev cxStep : Cx := mkCx T0 ph23 [] [] 62
theorem eStep (m : Cpu) (c : Cells) : funK cxStep Go.Proofs.Try.f45 spStep.ins spStep.out (m, c, ()) =
  (if Go.Rx.G.atPre c m.1 = Bool.true then
    if Decidable.decide ((0 : Int) ≤ Go.Rx.G.over c m.1) = Bool.true then
      if Decidable.decide (Go.Rx.G.over c m.1 < (↑(List.length c) : Int)) = Bool.true then
        if Go.Rx.G.corePre (Go.Rx.G.over c m.1, m.2) = Bool.true then
          if
              Go.Rx.G.atPre c
                  (Go.Rx.G.coreI (Go.Rx.G.over c m.1, m.2) (List.getD c (Int.toNat (Go.Rx.G.over c m.1)) ((0 : Int), (0 : Int), PUnit.unit)).1
                      (List.getD c (Int.toNat (Go.Rx.G.over c m.1)) ((0 : Int), (0 : Int), PUnit.unit)).2.1
                      (Go.IntKind.wrap Go.IntKind.i64 (Go.Rx.G.over c m.1 + (List.getD c (Int.toNat (Go.Rx.G.over c m.1)) ((0 : Int), (0 : Int), PUnit.unit)).2.1))
                      (Go.IntKind.wrap Go.IntKind.i64 (Go.Rx.G.over c m.1 + (1 : Int)))).1 =
                Bool.true then
            Option.some
              ((Go.Rx.G.over c
                    (Go.Rx.G.coreI (Go.Rx.G.over c m.1, m.2) (List.getD c (Int.toNat (Go.Rx.G.over c m.1)) ((0 : Int), (0 : Int), PUnit.unit)).1
                        (List.getD c (Int.toNat (Go.Rx.G.over c m.1)) ((0 : Int), (0 : Int), PUnit.unit)).2.1
                        (Go.IntKind.wrap Go.IntKind.i64 (Go.Rx.G.over c m.1 + (List.getD c (Int.toNat (Go.Rx.G.over c m.1)) ((0 : Int), (0 : Int), PUnit.unit)).2.1))
                        (Go.IntKind.wrap Go.IntKind.i64 (Go.Rx.G.over c m.1 + (1 : Int)))).1,
                  (Go.Rx.G.coreI (Go.Rx.G.over c m.1, m.2) (List.getD c (Int.toNat (Go.Rx.G.over c m.1)) ((0 : Int), (0 : Int), PUnit.unit)).1
                      (List.getD c (Int.toNat (Go.Rx.G.over c m.1)) ((0 : Int), (0 : Int), PUnit.unit)).2.1
                      (Go.IntKind.wrap Go.IntKind.i64 (Go.Rx.G.over c m.1 + (List.getD c (Int.toNat (Go.Rx.G.over c m.1)) ((0 : Int), (0 : Int), PUnit.unit)).2.1))
                      (Go.IntKind.wrap Go.IntKind.i64 (Go.Rx.G.over c m.1 + (1 : Int)))).2),
                PUnit.unit)
          else Option.none
        else Option.none
      else Option.none
    else Option.none
  else Option.none) := by kernel_rfl
theorem over_self {c : Cells} {i : Int} (h : ¬ (G.at c i).1 = 8) : G.over c i = i := by
  unfold G.over
  rw [if_neg h]
theorem sfL8Step (c : Cells) (m : Cpu) (h : G.goPre c m = true) : funK cxL8Step Go.Proofs.Try.f40 spL8Step.ins spL8Step.out (c, m, ()) = some (G.stepC c m, ()) := by
  obtain ⟨hi, ⟨h0, h1, h2, h3⟩, h4⟩ := goPre_iff.1 h
  obtain ⟨o1, o2, o3⟩ := over_ok hi h0 h1
  have hp : G.doPre c (G.over c m.1, m.2) = true := by
    unfold G.doPre
    rw [Bool.and_eq_true, goPre_iff]
    exact ⟨⟨hi, ⟨o1, o2, h2, h3⟩, h4⟩, by simpa using o3⟩
  rw [eL8Step, if_pos (atPre_iff.2 ⟨h0, h1⟩), if_pos hp]
  rfl
theorem okL8Step : SpecOk Go.Proofs.Try.prog 40 spL8Step :=
  fun_okB (cx := cxL8Step) (F := Go.Proofs.Try.f40) (cxOk T0_ok T0_eq ph23_ok) mixed (by kernel_rfl) (by decide) (by kernel_rfl) (lps_none (by kernel_rfl)) (fun x h => sfL8Step x.1 x.2.1 h)
theorem core_do {c : Cells} {m : Cpu} (h : G.doPre c m = true) :
    (0 ≤ (G.coreI m (G.at c m.1).1 (G.at c m.1).2.1 (IntKind.i64.wrap (m.1 + (G.at c m.1).2.1)) (IntKind.i64.wrap (m.1 + 1))).1 ∧ (G.coreI m (G.at c m.1).1 (G.at c m.1).2.1 (IntKind.i64.wrap (m.1 + (G.at c m.1).2.1)) (IntKind.i64.wrap (m.1 + 1))).1 < (c.length : Int)) ∧
    ((G.over c (G.coreI m (G.at c m.1).1 (G.at c m.1).2.1 (IntKind.i64.wrap (m.1 + (G.at c m.1).2.1)) (IntKind.i64.wrap (m.1 + 1))).1, (G.coreI m (G.at c m.1).1 (G.at c m.1).2.1 (IntKind.i64.wrap (m.1 + (G.at c m.1).2.1)) (IntKind.i64.wrap (m.1 + 1))).2) : Cpu) = G.doI c m := by
  unfold G.doPre at h
  rw [Bool.and_eq_true, goPre_iff] at h
  obtain ⟨⟨hi, ⟨h0, h1, h2, h3⟩, h4⟩, h8⟩ := h
  have h8 : ¬ (G.at c m.1).1 = 8 := by simpa using h8
  obtain ⟨⟨hc1, hc2, _⟩, _⟩ := imageOk_iff.1 hi
  obtain ⟨f1, f2, f3⟩ := cell_facts hi h0 h1 h8
  have hs := over_self h8
  have hw1 : IntKind.i64.wrap (m.1 + 1) = m.1 + 1 := w64 (by omega) (by omega)
  rw [hw1]
  unfold G.doI
  generalize G.at c m.1 = x at f1 f2 f3 ⊢
  obtain ⟨x1, x2, u⟩ := x
  dsimp only at f1 f2 f3 ⊢
  unfold G.coreI
  rcases f1 with rfl | rfl | rfl | rfl | rfl | rfl | rfl
  · have g := f3 (by omega)
    by_cases c5 : 30 ≤ m.2.2.2.1.length
    · have e : m.2.2.2.1.length = 30 := by omega
      simp [e, hs, h0, h1]
    · have e : ¬ m.2.2.2.1.length = 30 := by omega
      simp only [e, c5, if_true, if_false]
      exact ⟨by omega, by trivial⟩
  · have g := f3 (by omega)
    simp only [show ¬ ((2 : Int) = 1) by omega, if_true, if_false]
    exact ⟨by omega, by trivial⟩
  · have g := f2 (by omega)
    have hw : IntKind.i64.wrap (m.1 + x2) = m.1 + x2 := w64 (by omega) (by omega)
    simp only [show ¬ ((3 : Int) = 1) by omega, show ¬ ((3 : Int) = 2) by omega, if_true, if_false, hw]
    unfold G.l8Call
    by_cases c5 : 5 ≤ m.2.2.1.length
    · have e : m.2.2.1.length = 5 := by omega
      simp only [e, c5, if_true]
      exact ⟨⟨h0, h1⟩, by rw [hs]; simp⟩
    · have e : ¬ m.2.2.1.length = 5 := by omega
      simp only [e, c5, if_false]
      exact ⟨g, by trivial⟩
  · have g := f2 (by omega)
    have hw : IntKind.i64.wrap (m.1 + x2) = m.1 + x2 := w64 (by omega) (by omega)
    simp only [show ¬ ((4 : Int) = 1) by omega, show ¬ ((4 : Int) = 2) by omega, show ¬ ((4 : Int) = 3) by omega, if_true, if_false, hw, true_or]
    exact ⟨g, by trivial⟩
  · have g := f2 (by omega)
    have g1 := f3 (by omega)
    have hw : IntKind.i64.wrap (m.1 + x2) = m.1 + x2 := w64 (by omega) (by omega)
    simp only [show ¬ ((5 : Int) = 1) by omega, show ¬ ((5 : Int) = 2) by omega, show ¬ ((5 : Int) = 3) by omega, show ¬ ((5 : Int) = 4) by omega, if_true, if_false, hw, true_and, false_or]
    by_cases ca : m.2.1 > 0
    · simp only [ca, if_true]
      exact ⟨g, by trivial⟩
    · simp only [ca, if_false]
      exact ⟨by omega, by trivial⟩
  · simp only [show ¬ ((6 : Int) = 1) by omega, show ¬ ((6 : Int) = 2) by omega, show ¬ ((6 : Int) = 3) by omega, show ¬ ((6 : Int) = 4) by omega, show ¬ ((6 : Int) = 5) by omega, if_true, if_false, false_and, or_self]
    by_cases cs : m.2.2.1.length = 0
    · simp only [cs, if_true]
      exact ⟨⟨h0, h1⟩, by rw [hs]⟩
    · simp only [cs, if_false]
      exact ⟨allIn_get h4 (by omega), by trivial⟩
  · simp only [show ¬ ((7 : Int) = 1) by omega, show ¬ ((7 : Int) = 2) by omega, show ¬ ((7 : Int) = 3) by omega, show ¬ ((7 : Int) = 4) by omega, show ¬ ((7 : Int) = 5) by omega, show ¬ ((7 : Int) = 6) by omega, if_false, false_and, or_self]
    exact ⟨⟨h0, h1⟩, by rw [hs]⟩
theorem sfStep (m : Cpu) (c : Cells) (h : G.goPre c m = true) : funK cxStep Go.Proofs.Try.f45 spStep.ins spStep.out (m, c, ()) = some (G.stepC c m, ()) := by
  obtain ⟨hi, ⟨h0, h1, h2, h3⟩, h4⟩ := goPre_iff.1 h
  obtain ⟨o1, o2, o3⟩ := over_ok hi h0 h1
  have hp : G.doPre c (G.over c m.1, m.2) = true := by
    unfold G.doPre
    rw [Bool.and_eq_true, goPre_iff]
    exact ⟨⟨hi, ⟨o1, o2, h2, h3⟩, h4⟩, by simpa using o3⟩
  obtain ⟨k1, k2⟩ := core_do hp
  rw [eStep, if_pos (atPre_iff.2 ⟨h0, h1⟩), if_pos (decide_eq_true o1), if_pos (decide_eq_true o2), if_pos (corePre_iff.2 (show (G.over c m.1, m.2).2.2.1.length ≤ 5 ∧ _ from ⟨h2, h3⟩))]
  have e : c.getD (G.over c m.1).toNat ((0 : Int), (0 : Int), ()) = G.at c (G.over c m.1) := rfl
  rw [e, if_pos (atPre_iff.2 k1), k2]
  rfl
theorem okStep : SpecOk Go.Proofs.Try.prog 45 spStep :=
  fun_okB (cx := cxStep) (F := Go.Proofs.Try.f45) (cxOk T0_ok T0_eq ph23_ok) mixed (by kernel_rfl) (by decide) (by kernel_rfl) (lps_none (by kernel_rfl)) (fun x h => sfStep x.1 x.2.1 h)
theorem allL_append {p : Int → Bool} {xs : Ints} {v : Int} (h : G.allL p xs 0 = true) (hv : p v = true) : G.allL p (xs ++ [(v, ())]) 0 = true := by
  unfold G.allL at h ⊢
  simp at h ⊢
  exact ⟨h, hv⟩
theorem allL_take {p : Int → Bool} {xs : Ints} {n : Nat} (h : G.allL p xs 0 = true) : G.allL p (xs.take n) 0 = true := by
  unfold G.allL at h ⊢
  simp only [Int.toNat_zero, List.drop_zero, List.all_eq_true] at h ⊢
  exact fun x hx => h x (List.mem_of_mem_take hx)
/-- A step leads to what is right again. -/
theorem doI_ok {c : Cells} {m : Cpu} (h : G.doPre c m = true) : G.goPre c (G.doI c m) = true := by
  unfold G.doPre at h
  rw [Bool.and_eq_true, goPre_iff] at h
  obtain ⟨⟨hi, ⟨h0, h1, h2, h3⟩, h4⟩, h8⟩ := h
  have h8 : ¬ (G.at c m.1).1 = 8 := by simpa using h8
  obtain ⟨⟨hc1, hc2, _⟩, _⟩ := imageOk_iff.1 hi
  obtain ⟨f1, f2, f3⟩ := cell_facts hi h0 h1 h8
  have ov : ∀ {i : Int}, 0 ≤ i → i < (c.length : Int) → 0 ≤ G.over c i ∧ G.over c i < (c.length : Int) := fun a b => ⟨(over_ok hi a b).1, (over_ok hi a b).2.1⟩
  rw [goPre_iff]
  refine ⟨hi, ?_⟩
  unfold G.doI
  generalize G.at c m.1 = x at f1 f2 f3 ⊢
  obtain ⟨x1, x2, u⟩ := x
  dsimp only at f1 f2 f3 ⊢
  rcases f1 with rfl | rfl | rfl | rfl | rfl | rfl | rfl
  · have g := ov (show 0 ≤ m.1 + 1 by omega) (f3 (by omega))
    simp only [if_true]
    by_cases c5 : 30 ≤ m.2.2.2.1.length
    · rw [if_pos c5]
      exact ⟨⟨h0, h1, h2, h3⟩, h4⟩
    · rw [if_neg c5]
      refine ⟨⟨g.1, g.2, h2, ?_⟩, h4⟩
      show (m.2.2.2.1 ++ [(m.2.1, ())]).length ≤ 30
      simp
      omega
  · have g := ov (show 0 ≤ m.1 + 1 by omega) (f3 (by omega))
    simp only [show ¬ ((2 : Int) = 1) by omega, if_true, if_false]
    exact ⟨⟨g.1, g.2, h2, h3⟩, h4⟩
  · have g := f2 (by omega)
    have g2 := ov g.1 g.2
    have g3 := f3 (by omega)
    simp only [show ¬ ((3 : Int) = 1) by omega, show ¬ ((3 : Int) = 2) by omega, if_true, if_false]
    unfold G.l8Call
    by_cases c5 : 5 ≤ m.2.2.1.length
    · rw [if_pos c5]
      exact ⟨⟨h0, h1, h2, h3⟩, h4⟩
    · rw [if_neg c5]
      refine ⟨⟨g2.1, g2.2, ?_, h3⟩, ?_⟩
      · show (m.2.2.1 ++ [(m.1 + 1, ())]).length ≤ 5
        simp
        omega
      · exact allL_append h4 (inR_iff.2 (by omega))
  · have g := f2 (by omega)
    have g2 := ov g.1 g.2
    simp only [show ¬ ((4 : Int) = 1) by omega, show ¬ ((4 : Int) = 2) by omega, show ¬ ((4 : Int) = 3) by omega, if_true, if_false, true_or]
    exact ⟨⟨g2.1, g2.2, h2, h3⟩, h4⟩
  · have g := f2 (by omega)
    have g2 := ov g.1 g.2
    have g3 := ov (show 0 ≤ m.1 + 1 by omega) (f3 (by omega))
    simp only [show ¬ ((5 : Int) = 1) by omega, show ¬ ((5 : Int) = 2) by omega, show ¬ ((5 : Int) = 3) by omega, show ¬ ((5 : Int) = 4) by omega, if_true, if_false, true_and, false_or]
    by_cases ca : m.2.1 > 0
    · rw [if_pos ca]
      exact ⟨⟨g2.1, g2.2, h2, h3⟩, h4⟩
    · rw [if_neg ca]
      exact ⟨⟨g3.1, g3.2, h2, h3⟩, h4⟩
  · simp only [show ¬ ((6 : Int) = 1) by omega, show ¬ ((6 : Int) = 2) by omega, show ¬ ((6 : Int) = 3) by omega, show ¬ ((6 : Int) = 4) by omega, show ¬ ((6 : Int) = 5) by omega, if_true, if_false, false_and, or_self]
    by_cases cs : m.2.2.1.length = 0
    · rw [if_pos cs]
      exact ⟨⟨h0, h1, h2, h3⟩, h4⟩
    · rw [if_neg cs]
      have g := allIn_get h4 (show m.2.2.1.length - 1 < m.2.2.1.length by omega)
      have g2 := ov g.1 g.2
      refine ⟨⟨g2.1, g2.2, ?_, h3⟩, allL_take h4⟩
      show (m.2.2.1.take (m.2.2.1.length - 1)).length ≤ 5
      simp
      omega
  · simp only [show ¬ ((7 : Int) = 1) by omega, show ¬ ((7 : Int) = 2) by omega, show ¬ ((7 : Int) = 3) by omega, show ¬ ((7 : Int) = 4) by omega, show ¬ ((7 : Int) = 5) by omega, show ¬ ((7 : Int) = 6) by omega, if_false, false_and, or_self]
    exact ⟨⟨h0, h1, h2, h3⟩, h4⟩
theorem stepC_ok {c : Cells} {m : Cpu} (h : G.goPre c m = true) : G.goPre c (G.stepC c m) = true := by
  obtain ⟨hi, ⟨h0, h1, h2, h3⟩, h4⟩ := goPre_iff.1 h
  obtain ⟨o1, o2, o3⟩ := over_ok hi h0 h1
  have hp : G.doPre c (G.over c m.1, m.2) = true := by
    unfold G.doPre
    rw [Bool.and_eq_true, goPre_iff]
    exact ⟨⟨hi, ⟨o1, o2, h2, h3⟩, h4⟩, by simpa using o3⟩
  exact doI_ok hp
noncomputable abbrev ph24 : List (Nat × List Spec) := (40, [spL8Step]) :: (45, [spStep]) :: ph23
theorem ph24_ok : PhiOk Go.Proofs.Try.prog ph24 := ⟨⟨okL8Step, trivial⟩, ⟨okStep, trivial⟩, ph23_ok⟩
/-! runs -/
def G.runN (c : Cells) : Nat → Cpu → Cpu
  | 0, m => m
  | n + 1, m => if m.2.2.2.2.1 = 0 then G.runN c n (G.stepC c m) else m
def G.zeroCpu : Cpu := (0, 0, [], [], 0, ())
def G.formCpu : Cpu := (0, 0, [], [], 5, ())
def G.run (c : Cells) (fuel : Int) : Cpu := if G.imageOk c 100 = true ∧ 0 ≤ fuel ∧ fuel ≤ 200 then G.runN c fuel.toNat G.zeroCpu else G.formCpu
def G.rnPre (c : Cells) (fuel : Int) (m : Cpu) (i : Int) : Bool := decide (0 ≤ i ∧ i ≤ fuel ∧ fuel ≤ 200) && G.goPre c m
theorem rnPre_iff {c : Cells} {fuel i : Int} {m : Cpu} : G.rnPre c fuel m i = true ↔ ((0 ≤ i ∧ i ≤ fuel ∧ fuel ≤ 200) ∧ G.goPre c m = true) := by simp [G.rnPre]
noncomputable abbrev lsSpCpuRun : LSpec := ⟨[0, 1, 5, 6], [], [CellSP, IntP, .box CpuO, IntP], [], false, fun x => G.rnPre x.1 x.2.1 x.2.2.1 x.2.2.2.1, fun x => ((0, ()), (G.runN x.1 (x.2.1 - x.2.2.2.1).toNat x.2.2.1, ()))⟩
/-! SpCpuRun -/
noncomputable abbrev spSpCpuRun : Spec := ⟨[CellSP, IntP], .one (.agg CpuO), false, fun x => G.few x.1.length, fun x => (G.run x.1 x.2.1, ())⟩
noncomputable abbrev lsCpuRun : LSpec := ⟨[0, 1, 5], [], [CellSP, IntP, .box CpuO], [], false, fun x => G.rnPre x.1 x.2.1 x.2.2.1 0, fun x => ((0, ()), (G.runN x.1 x.2.1.toNat x.2.2.1, ()))⟩
/-! CpuRun -/
noncomputable abbrev spCpuRun : Spec := ⟨[CellSP, IntP], .one (.agg CpuO), false, fun x => G.few x.1.length, fun x => (G.run x.1 x.2.1, ())⟩
theorem goPre_few {c : Cells} {m : Cpu} (h : G.goPre c m = true) : G.fewCpu m = true := by
  obtain ⟨_, ⟨_, _, h2, h3⟩, _⟩ := goPre_iff.1 h
  exact fewCpu_iff.2 ⟨few_iff.2 (by omega), few_iff.2 (by omega)⟩
theorem runN_ok {c : Cells} : ∀ (n : Nat) {m : Cpu}, G.goPre c m = true → G.goPre c (G.runN c n m) = true
  | 0, m, h => h
  | n + 1, m, h => by
    unfold G.runN
    split
    · exact runN_ok n (stepC_ok h)
    · exact h
theorem runN_succ (c : Cells) (n : Nat) (m : Cpu) : G.runN c (n + 1) m = if m.2.2.2.2.1 = 0 then G.runN c n (G.stepC c m) else m := rfl
theorem runN_done {c : Cells} {m : Cpu} (h : ¬ m.2.2.2.2.1 = 0) : ∀ n, G.runN c n m = m
  | 0 => rfl
  | n + 1 => by rw [runN_succ, if_neg h]
theorem zero_ok {c : Cells} (h : G.imageOk c 100 = true) : G.goPre c G.zeroCpu = true := by
  obtain ⟨⟨h1, h2, _⟩, _⟩ := imageOk_iff.1 h
  exact goPre_iff.2 ⟨h, ⟨by decide, by show (0 : Int) < (c.length : Int); omega, by decide, by decide⟩, rfl⟩
noncomputable abbrev muSpCpuRun : PKs.den lsSpCpuRun.ins → Nat := fun x => (x.2.1 - x.2.2.2.1).toNat
noncomputable abbrev muCpuRun : PKs.den lsCpuRun.ins → Nat := fun x => x.2.1.toNat
noncomputable abbrev ph25 : List (Nat × List Spec) := ph24
theorem ph25_ok : PhiOk Go.Proofs.Try.prog ph25 := ph24_ok
theorem run_few (c : Cells) (fuel : Int) : (G.run c fuel).2.2.1.length ≤ 5 ∧ (G.run c fuel).2.2.2.1.length ≤ 30 := by
  unfold G.run
  split
  · rename_i h
    have := (goPre_iff.1 (runN_ok fuel.toNat (zero_ok h.1))).2.1
    exact ⟨this.2.2.1, this.2.2.2⟩
  · exact ⟨by decide, by decide⟩
/-! LawCpuRun -/
noncomputable abbrev spLawCpuRun : Spec := ⟨[CellSP, IntP], BoolR, false, fun x => decide (x.1.length ≤ 9223372036854775807), fun x => (true, ())⟩
theorem mk_length {α : Type} (f : Int → α) (w : Int) (n : Nat) (k : Int) : (G.mk f w n k).length = n := by simp [G.mk]
theorem heldCpu_mk (x y z : Int) (n l : Nat) (k : Int) : G.heldCpu (x, y, G.mk G.mInt 1 n k, G.mk G.mInt 1 l (k + (n : Int)), z, ()) k = k + (n : Int) + (l : Int) := by
  unfold G.heldCpu
  simp only [mk_length]
  rw [if_pos (heldFrom_mk n k), if_pos (heldFrom_mk l _)]
end Go.Rx

/-
  MACHINES OF IMAGES: what the functions that compare and copy them compute.
-/
import Derived.Test.YteenlfeglffnoaaBa
namespace Go.Rx
open Go
set_option linter.unusedVariables false
set_option linter.unusedSimpArgs false
theorem int1_ne {x y : Int × Unit} (h : ¬ x = y) : decide (x.1 = y.1) = false := by
  obtain ⟨x1, _⟩ := x
  obtain ⟨y1, _⟩ := y
  simp at h ⊢
  exact h
/-! EqIntS: its loop -/
noncomputable abbrev lsEqIntS : LSpec := ⟨[0, 1, 5, 4], [4], [.c (.dat (.sl intT)), .c (.dat (.sl intT)), .c (.dat I), .c (.dat .bool)], [.c (.dat .bool)], false, fun x => G.eqPre x.1 x.2.1 x.2.2.1,
  fun x => ((if G.eqFrom x.1 x.2.1 x.2.2.1 = true then 0 else 1, (G.eqFrom x.1 x.2.1 x.2.2.1 && x.2.2.2.1, ())), ())⟩
noncomputable abbrev cxEqIntS : Cx := mkCx T0 ph3 [(0, lsEqIntS)] [] 26
theorem rEqIntS (a b : List (Int × Unit)) (i : Int) (r : Bool) : roundK cxEqIntS 0 (loopIn Go.Proofs.Try.f46 0) lsEqIntS (a, b, i, r, ()) =
  (if Decidable.decide (i < (↑(List.length a) : Int)) = Bool.true then
    if Decidable.decide ((0 : Int) ≤ i) = Bool.true then
      if Decidable.decide (i < (↑(List.length a) : Int)) = Bool.true then
        if Decidable.decide ((0 : Int) ≤ i) = Bool.true then
          if Decidable.decide (i < (↑(List.length b) : Int)) = Bool.true then
            if (!Decidable.decide ((List.getD a (Int.toNat i) ((0 : Int), PUnit.unit)).1 = (List.getD b (Int.toNat i) ((0 : Int), PUnit.unit)).1)) = Bool.true then
              Option.some (Go.Rx.LRes.stop (1 : Nat) (Bool.false, PUnit.unit) PUnit.unit)
            else Option.some (Go.Rx.LRes.go (a, b, Go.IntKind.wrap Go.IntKind.i64 (i + (1 : Int)), r, PUnit.unit))
          else Option.none
        else Option.none
      else Option.none
    else Option.none
  else Option.some (Go.Rx.LRes.stop (0 : Nat) (r, PUnit.unit) PUnit.unit)) := by kernel_rfl
noncomputable abbrev muEqIntS : PKs.den lsEqIntS.ins → Nat := fun x => x.1.length - x.2.2.1.toNat
theorem stEqIntS (a b : List (Int × Unit)) (i : Int) (r : Bool) (h : G.eqPre a b i = true) : StepOk lsEqIntS (eqInv lsEqIntS) muEqIntS (a, b, i, r, ()) (roundK cxEqIntS 0 (loopIn Go.Proofs.Try.f46 0) lsEqIntS (a, b, i, r, ())) := by
  obtain ⟨h0, h1, h2, h3⟩ := eqPre_iff.1 h
  rw [rEqIntS]
  by_cases hi : i < (a.length : Int)
  · have hb : i < (b.length : Int) := by omega
    skip
    have hw : IntKind.i64.wrap (i + 1) = i + 1 := w64 (by omega) (by omega)
    have he := eqFrom_step (((0 : Int), ()) : Int × Unit) h0 hi hb
    simp only [hi, hb, h0, decide_true, if_true, hw]
    generalize a.getD i.toNat (((0 : Int), ()) : Int × Unit) = x at *
    generalize b.getD i.toNat (((0 : Int), ()) : Int × Unit) = y at *
    by_cases hc : x = y
    · subst hc
      simp at he
      simp [G.eqCell]
      refine ⟨(show G.eqPre a b (i + 1) = true from eqPre_iff.2 ⟨by omega, by omega, h2, h3⟩), ?_, ?_⟩
      · show a.length - (i + 1).toNat < a.length - i.toNat
        omega
      · show ((_, _), _) = ((_, _), _)
        simp only [he]
    · simp only [hc, decide_false, Bool.false_and] at he
      have hcc := int1_ne hc
      simp only [hcc, Bool.not_false, if_true]
      show ((_, _), _) = ((_, _), _)
      simp only [he]
      simp
  · have he : G.eqFrom a b i = true := eqFrom_end (by omega) (by omega)
    skip
    simp only [hi, decide_false]
    show ((_, _), _) = ((_, _), _)
    simp only [he]
    simp
theorem lpEqIntS : LpOk Go.Proofs.Try.prog cxEqIntS.ntmps 0 (loopIn Go.Proofs.Try.f46 0) lsEqIntS :=
  lp_okB (cxOk T0_ok T0_eq ph3_ok) mixed (by kernel_rfl) (lps_none (by kernel_rfl)) (eqInv lsEqIntS) muEqIntS (fun _ h => h) (fun x h => stEqIntS x.1 x.2.1 x.2.2.1 x.2.2.2.1 h)
/-! EqIntS -/
noncomputable abbrev spEqIntS : Spec := ⟨[.c (.dat (.sl intT)), .c (.dat (.sl intT))], .one (.c (.dat .bool)), false, fun x => G.few x.1.length, fun x => (G.sameS x.1 x.2.1, ())⟩
theorem eEqIntS (a b : List (Int × Unit)) : funK cxEqIntS Go.Proofs.Try.f46 spEqIntS.ins spEqIntS.out (a, b, ()) =
  (if (!Decidable.decide ((↑(List.length a) : Int) = (↑(List.length b) : Int))) = Bool.true then Option.some (Bool.false, PUnit.unit)
  else
    if Go.Rx.G.eqPre a b (0 : Int) = Bool.true then
      if (if Go.Rx.G.eqFrom a b (0 : Int) = Bool.true then (0 : Nat) else (1 : Nat)) = (0 : Nat) then Option.some (Bool.true, PUnit.unit)
      else
        if (if Go.Rx.G.eqFrom a b (0 : Int) = Bool.true then (0 : Nat) else (1 : Nat)) = (1 : Nat) then Option.some (Go.Rx.G.eqFrom a b (0 : Int) && Bool.false, PUnit.unit)
        else Option.none
    else Option.none) := by kernel_rfl
theorem sfEqIntS (a b : List (Int × Unit)) (h : G.few a.length = true) : funK cxEqIntS Go.Proofs.Try.f46 spEqIntS.ins spEqIntS.out (a, b, ()) = some (G.sameS a b, ()) := by
  rw [eEqIntS]
  by_cases hl : a.length = b.length
  · have hp : G.eqPre a b 0 = true := eqPre_iff.2 ⟨by omega, by omega, hl, few_iff.1 h⟩
    skip
    have he : G.eqFrom a b 0 = G.sameS a b := eqFrom_zero a b
    simp only [hp, he]
    cases G.sameS a b <;> simp [hl]
  · have : G.sameS a b = false := by
      simp only [G.sameS, decide_eq_false_iff_not]
      intro e
      exact hl (by rw [e])
    simp only [this]
    rw [if_pos (by simp; omega)]
theorem okEqIntS : SpecOk Go.Proofs.Try.prog 46 spEqIntS :=
  fun_okB (cx := cxEqIntS) (F := Go.Proofs.Try.f46) (cxOk T0_ok T0_eq ph3_ok) mixed (by kernel_rfl) (by decide) (by kernel_rfl) (lps_of (l := [(0, loopIn Go.Proofs.Try.f46 0)]) (by kernel_rfl) ⟨lp_at lpEqIntS rfl, trivial⟩)
    (fun x h => sfEqIntS x.1 x.2.1 h)
/-! L5Ints: its loop -/
noncomputable abbrev lsL5Ints : LSpec := ⟨[0, 1, 5, 4], [4], [.c (.dat (.sl intT)), .c (.dat (.sl intT)), .c (.dat I), .c (.dat .bool)], [.c (.dat .bool)], false, fun x => G.eqPre x.1 x.2.1 x.2.2.1,
  fun x => ((if G.eqFrom x.1 x.2.1 x.2.2.1 = true then 0 else 1, (G.eqFrom x.1 x.2.1 x.2.2.1 && x.2.2.2.1, ())), ())⟩
noncomputable abbrev muL5Ints : PKs.den lsL5Ints.ins → Nat := fun x => x.1.length - x.2.2.1.toNat
/-! L5Ints -/
noncomputable abbrev spL5Ints : Spec := ⟨[.c (.dat (.sl intT)), .c (.dat (.sl intT))], .one (.c (.dat .bool)), false, fun x => G.few x.1.length, fun x => (G.sameS x.1 x.2.1, ())⟩
/-! SlEqInt: its loop -/
noncomputable abbrev lsSlEqInt : LSpec := ⟨[0, 1, 12, 13, 4], [4], [.c (.dat (.sl intT)), .c (.dat (.sl intT)), .c (.dat I), .c (.dat I), .c (.dat .bool)], [.c (.dat .bool)], false, fun x => G.eqPreR x.1 x.2.1 x.2.2.1 x.2.2.2.1,
  fun x => ((if G.eqFrom x.1 x.2.1 x.2.2.2.1 = true then 0 else 1, (G.eqFrom x.1 x.2.1 x.2.2.2.1 && x.2.2.2.2.1, ())), ())⟩
noncomputable abbrev muSlEqInt : PKs.den lsSlEqInt.ins → Nat := fun x => x.1.length - x.2.2.2.1.toNat
/-! SlEqInt -/
noncomputable abbrev spSlEqInt : Spec := ⟨[.c (.dat (.sl intT)), .c (.dat (.sl intT))], .one (.c (.dat .bool)), false, fun x => G.few x.1.length, fun x => (G.sameS x.1 x.2.1, ())⟩
/-! ToIntS: its loop -/
noncomputable abbrev lsToIntS : LSpec := ⟨[0, 3, 4], [3], [.c (.dat (.sl intT)), .c (.own intT), .c (.dat I)], [.c (.own intT)], false, fun x => G.cpPre x.1 x.2.1 x.2.2.1,
  fun x => ((0, (G.fill x.1 x.2.1 x.2.2.1, ())), ())⟩
noncomputable abbrev cxToIntS : Cx := mkCx T0 ph3 [(0, lsToIntS)] [] 22
theorem rToIntS (a b : List (Int × Unit)) (i : Int) : roundK cxToIntS 0 (loopIn Go.Proofs.Try.f42 0) lsToIntS (a, b, i, ()) =
  (if Decidable.decide (i < (↑(List.length a) : Int)) = Bool.true then
    if Decidable.decide ((0 : Int) ≤ i) = Bool.true then
      if Decidable.decide (i < (↑(List.length a) : Int)) = Bool.true then
        if Decidable.decide ((0 : Int) ≤ i) = Bool.true then
          if Decidable.decide (i < (↑(List.length b) : Int)) = Bool.true then
            if Decidable.decide (Int.toNat i < List.length b) = Bool.true then
              Option.some
                (Go.Rx.LRes.go
                  (a,
                    List.set b (Int.toNat i) ((List.getD a (Int.toNat i) ((0 : Int), PUnit.unit)).1, (List.getD b (Int.toNat i) ((0 : Int), PUnit.unit)).2),
                    Go.IntKind.wrap Go.IntKind.i64 (i + (1 : Int)), PUnit.unit))
            else Option.none
          else Option.none
        else Option.none
      else Option.none
    else Option.none
  else Option.some (Go.Rx.LRes.stop (0 : Nat) (b, PUnit.unit) PUnit.unit)) := by kernel_rfl
noncomputable abbrev muToIntS : PKs.den lsToIntS.ins → Nat := fun x => x.1.length - x.2.2.1.toNat
theorem stToIntS (a b : List (Int × Unit)) (i : Int) (h : G.cpPre a b i = true) : StepOk lsToIntS (eqInv lsToIntS) muToIntS (a, b, i, ()) (roundK cxToIntS 0 (loopIn Go.Proofs.Try.f42 0) lsToIntS (a, b, i, ())) := by
  obtain ⟨h0, h1, h2, h3⟩ := cpPre_iff.1 h
  rw [rToIntS]
  by_cases hi : i < (a.length : Int)
  · have hb : i < (b.length : Int) := by omega
    have hbn : i.toNat < b.length := by omega
    have hw : IntKind.i64.wrap (i + 1) = i + 1 := w64 (by omega) (by omega)
    have he := fill_step (((0 : Int), ()) : Int × Unit) h0 hi hb
    simp only [hi, hb, hbn, h0, decide_true, if_true, hw]
    refine ⟨(show G.cpPre a (b.set i.toNat (a.getD i.toNat (((0 : Int), ()) : Int × Unit))) (i + 1) = true from cpPre_iff.2 ⟨by omega, by omega, by simpa using h2, h3⟩), ?_, ?_⟩
    · show a.length - (i + 1).toNat < a.length - i.toNat
      omega
    · show ((0, (G.fill a (b.set i.toNat (a.getD i.toNat (((0 : Int), ()) : Int × Unit))) (i + 1), ())), ()) = ((0, (G.fill a b i, ())), ())
      rw [he]
  · have he : G.fill a b i = b := fill_end (by omega) (by omega)
    simp only [hi, decide_false]
    show ((0, (G.fill a b i, ())), ()) = ((0, (b, ())), ())
    rw [he]
theorem lpToIntS : LpOk Go.Proofs.Try.prog cxToIntS.ntmps 0 (loopIn Go.Proofs.Try.f42 0) lsToIntS :=
  lp_okB (cxOk T0_ok T0_eq ph3_ok) mixed (by kernel_rfl) (lps_none (by kernel_rfl)) (eqInv lsToIntS) muToIntS (fun _ h => h) (fun x h => stToIntS x.1 x.2.1 x.2.2.1 h)
/-! ToIntS -/
noncomputable abbrev spToIntS : Spec := ⟨[.c (.dat (.sl intT))], .one (.c (.own intT)), false, fun x => G.few x.1.length, fun x => (x.1, ())⟩
theorem eToIntS (a : List (Int × Unit)) : funK cxToIntS Go.Proofs.Try.f42 spToIntS.ins spToIntS.out (a, ()) =
  (if Decidable.decide ((0 : Int) ≤ (↑(List.length a) : Int)) = Bool.true then
    if Decidable.decide ((↑(List.length a) : Int) ≤ (↑(List.length a) : Int)) = Bool.true then
      if Decidable.decide ((↑(List.length a) : Int) * (8 : Int) ≤ (140737488355328 : Int)) = Bool.true then
        if Go.Rx.G.cpPre a (List.replicate (Int.toNat (↑(List.length a) : Int)) ((0 : Int), PUnit.unit)) (0 : Int) = Bool.true then
          Option.some (Go.Rx.G.fill a (List.replicate (Int.toNat (↑(List.length a) : Int)) ((0 : Int), PUnit.unit)) (0 : Int), PUnit.unit)
        else Option.none
      else Option.none
    else Option.none
  else Option.none) := by kernel_rfl
theorem sfToIntS (a : List (Int × Unit)) (h : G.few a.length = true) : funK cxToIntS Go.Proofs.Try.f42 spToIntS.ins spToIntS.out (a, ()) = some (a, ()) := by
  have hf := few_iff.1 h
  rw [eToIntS]
  have hp : G.cpPre a (List.replicate (Int.toNat (a.length : Int)) (((0 : Int), ()) : Int × Unit)) 0 = true := cpPre_iff.2 ⟨by omega, by omega, by simp, hf⟩
  have he : G.fill a (List.replicate (Int.toNat (a.length : Int)) (((0 : Int), ()) : Int × Unit)) 0 = a := by simp [G.fill]
  simp only [hp, he, if_true]
  rw [if_pos (decide_eq_true (by omega)), if_pos (decide_eq_true (by omega)), if_pos (decide_eq_true (by omega))]
theorem okToIntS : SpecOk Go.Proofs.Try.prog 42 spToIntS :=
  fun_okB (cx := cxToIntS) (F := Go.Proofs.Try.f42) (cxOk T0_ok T0_eq ph3_ok) mixed (by kernel_rfl) (by decide) (by kernel_rfl) (lps_of (l := [(0, loopIn Go.Proofs.Try.f42 0)]) (by kernel_rfl) ⟨lp_at lpToIntS rfl, trivial⟩)
    (fun x h => sfToIntS x.1 h)
/-! SzIntS -/
noncomputable abbrev spSzIntS : Spec := ⟨[IntSP, .c (.dat I)], .one (.c (.dat I)), false, fun x => true, fun x => (G.szS x.1.length x.2.1, ())⟩
noncomputable abbrev cxSzIntS : Cx := mkCx T0 ph3 [] [] 12
theorem eSzIntS (a : Ints) (l : Int) : funK cxSzIntS Go.Proofs.Try.f37 spSzIntS.ins spSzIntS.out (a, l, ()) =
  (if Decidable.decide (Go.IntKind.wrap Go.IntKind.i64 (l - (↑(List.length a) : Int)) < (0 : Int)) = Bool.true then Option.some ((-1 : Int), PUnit.unit)
  else Option.some (Go.IntKind.wrap Go.IntKind.i64 (l - (↑(List.length a) : Int)), PUnit.unit)) := by kernel_rfl
theorem sfSzIntS (a : Ints) (l : Int) : funK cxSzIntS Go.Proofs.Try.f37 spSzIntS.ins spSzIntS.out (a, l, ()) = some (G.szS a.length l, ()) := by
  rw [eSzIntS]
  unfold G.szS
  by_cases h : IntKind.i64.wrap (l - (a.length : Int)) < 0 <;> simp [h]
theorem okSzIntS : SpecOk Go.Proofs.Try.prog 37 spSzIntS :=
  fun_okB (cx := cxSzIntS) (F := Go.Proofs.Try.f37) (cxOk T0_ok T0_eq ph3_ok) mixed (by kernel_rfl) (by decide) (by kernel_rfl) (lps_none (by kernel_rfl)) (fun x h => sfSzIntS x.1 x.2.1)
noncomputable abbrev ph4 : List (Nat × List Spec) := (46, [spEqIntS]) :: (42, [spToIntS]) :: (37, [spSzIntS]) :: ph3
theorem ph4_ok : PhiOk Go.Proofs.Try.prog ph4 := ⟨⟨okEqIntS, trivial⟩, ⟨okToIntS, trivial⟩, ⟨okSzIntS, trivial⟩, ph3_ok⟩

abbrev CpuK : List CK := [.dat I, .dat I, .dat (.sl intT), .dat (.sl intT), .dat I]
abbrev Cpu := Int × Int × Ints × Ints × Int × Unit
/-- Both lists of a machine are of a length that no number runs over. -/
def G.fewCpu (m : Cpu) : Bool := G.few m.2.2.1.length && G.few m.2.2.2.1.length
theorem fewCpu_iff {m : Cpu} : G.fewCpu m = true ↔ (G.few m.2.2.1.length = true ∧ G.few m.2.2.2.1.length = true) := by simp [G.fewCpu]
def G.szCpu (m : Cpu) (l : Int) : Int := if G.szS m.2.2.1.length l < 0 then -1 else if G.szS m.2.2.2.1.length (G.szS m.2.2.1.length l) < 0 then -1 else G.szS m.2.2.2.1.length (G.szS m.2.2.1.length l)
def G.sameCpu (a b : Cpu) : Bool := decide (a = b)
theorem sameCpu_self (a : Cpu) : G.sameCpu a a = true := by simp [G.sameCpu]
/-! SzCpu -/
noncomputable abbrev spSzCpu : Spec := ⟨[.agg CpuK, .c (.dat I)], .one (.c (.dat I)), false, fun x => true, fun x => (G.szCpu x.1 x.2.1, ())⟩
noncomputable abbrev cxSzCpu : Cx := mkCx T0 ph4 [] [] 18
theorem eSzCpu (a : Cpu) (l : Int) : funK cxSzCpu Go.Proofs.Try.f9 spSzCpu.ins spSzCpu.out (a, l, ()) =
  (if Decidable.decide (Go.Rx.G.szS (List.length a.2.2.1) l < (0 : Int)) = Bool.true then Option.some ((-1 : Int), PUnit.unit)
  else
    if Decidable.decide (Go.Rx.G.szS (List.length a.2.2.2.1) (Go.Rx.G.szS (List.length a.2.2.1) l) < (0 : Int)) = Bool.true then Option.some ((-1 : Int), PUnit.unit)
    else Option.some (Go.Rx.G.szS (List.length a.2.2.2.1) (Go.Rx.G.szS (List.length a.2.2.1) l), PUnit.unit)) := by kernel_rfl
theorem sfSzCpu (a : Cpu) (l : Int) : funK cxSzCpu Go.Proofs.Try.f9 spSzCpu.ins spSzCpu.out (a, l, ()) = some (G.szCpu a l, ()) := by
  rw [eSzCpu]
  unfold G.szCpu
  by_cases h : G.szS a.2.2.1.length l < 0
  · simp [h]
  · by_cases h2 : G.szS a.2.2.2.1.length (G.szS a.2.2.1.length l) < 0 <;> simp [h, h2]
theorem okSzCpu : SpecOk Go.Proofs.Try.prog 9 spSzCpu :=
  fun_okB (cx := cxSzCpu) (F := Go.Proofs.Try.f9) (cxOk T0_ok T0_eq ph4_ok) mixed (by kernel_rfl) (by decide) (by kernel_rfl) (lps_none (by kernel_rfl)) (fun x h => sfSzCpu x.1 x.2.1)
/-! SpCpuSame -/
noncomputable abbrev spSpCpuSame : Spec := ⟨[.agg CpuK, .agg CpuK], .one (.c (.dat .bool)), false, fun x => G.fewCpu x.1, fun x => (G.sameCpu x.1 x.2.1, ())⟩
/-! CpuSame -/
noncomputable abbrev spCpuSame : Spec := ⟨[.agg CpuK, .agg CpuK], .one (.c (.dat .bool)), false, fun x => G.fewCpu x.1, fun x => (G.sameCpu x.1 x.2.1, ())⟩
/-! EqCpu -/
noncomputable abbrev spEqCpu : Spec := ⟨[.agg CpuK, .agg CpuK], .one (.c (.dat .bool)), false, fun x => G.fewCpu x.1, fun x => (G.sameCpu x.1 x.2.1, ())⟩
noncomputable abbrev cxEqCpu : Cx := mkCx T0 ph4 [] [] 32
theorem eEqCpu (a b : Cpu) : funK cxEqCpu Go.Proofs.Try.f14 spEqCpu.ins spEqCpu.out (a, b, ()) =
  (if (!Decidable.decide (a.1 = b.1)) = Bool.true then Option.some (Bool.false, PUnit.unit)
  else
    if (!Decidable.decide (a.2.1 = b.2.1)) = Bool.true then Option.some (Bool.false, PUnit.unit)
    else
      if Go.Rx.G.few (List.length a.2.2.1) = Bool.true then
        if (!Go.Rx.G.sameS a.2.2.1 b.2.2.1) = Bool.true then Option.some (Bool.false, PUnit.unit)
        else
          if Go.Rx.G.few (List.length a.2.2.2.1) = Bool.true then
            if (!Go.Rx.G.sameS a.2.2.2.1 b.2.2.2.1) = Bool.true then Option.some (Bool.false, PUnit.unit)
            else if (!Decidable.decide (a.2.2.2.2.1 = b.2.2.2.2.1)) = Bool.true then Option.some (Bool.false, PUnit.unit) else Option.some (Bool.true, PUnit.unit)
          else Option.none
      else Option.none) := by kernel_rfl
theorem sfEqCpu (a b : Cpu) (h : G.fewCpu a = true) : funK cxEqCpu Go.Proofs.Try.f14 spEqCpu.ins spEqCpu.out (a, b, ()) = some (G.sameCpu a b, ()) := by
  obtain ⟨h1, h2⟩ := fewCpu_iff.1 h
  rw [eEqCpu]
  obtain ⟨a1, a2, a3, a4, a5, _⟩ := a
  obtain ⟨b1, b2, b3, b4, b5, _⟩ := b
  simp only [G.sameCpu, G.sameS, Prod.mk.injEq, h1, h2, if_true]
  by_cases c1 : a1 = b1 <;> by_cases c2 : a2 = b2 <;> by_cases c3 : a3 = b3 <;> by_cases c4 : a4 = b4 <;> by_cases c5 : a5 = b5 <;> simp [c1, c2, c3, c4, c5]
theorem okEqCpu : SpecOk Go.Proofs.Try.prog 14 spEqCpu :=
  fun_okB (cx := cxEqCpu) (F := Go.Proofs.Try.f14) (cxOk T0_ok T0_eq ph4_ok) mixed (by kernel_rfl) (by decide) (by kernel_rfl) (lps_none (by kernel_rfl)) (fun x h => sfEqCpu x.1 x.2.1 h)
/-! ToCpu -/
noncomputable abbrev spToCpu : Spec := ⟨[.agg CpuK], .one (.agg CpuK), true, fun x => G.fewCpu x.1, fun x => (x.1, ())⟩
noncomputable abbrev cxToCpu : Cx := mkCx T0 ph4 [] [] 22
theorem eToCpu (a : Cpu) : funK cxToCpu Go.Proofs.Try.f12 spToCpu.ins spToCpu.out (a, ()) =
  (if Go.Rx.G.few (List.length a.2.2.1) = Bool.true then if Go.Rx.G.few (List.length a.2.2.2.1) = Bool.true then Option.some (a, PUnit.unit) else Option.none else Option.none) := by kernel_rfl
theorem sfToCpu (a : Cpu) (h : G.fewCpu a = true) : funK cxToCpu Go.Proofs.Try.f12 spToCpu.ins spToCpu.out (a, ()) = some (a, ()) := by
  obtain ⟨h1, h2⟩ := fewCpu_iff.1 h
  rw [eToCpu, if_pos h1, if_pos h2]
theorem okToCpu : SpecOk Go.Proofs.Try.prog 12 spToCpu :=
  fun_okB (cx := cxToCpu) (F := Go.Proofs.Try.f12) (cxOk T0_ok T0_eq ph4_ok) mixed (by kernel_rfl) (by decide) (by kernel_rfl) (lps_none (by kernel_rfl)) (fun x h => sfToCpu x.1 h)
noncomputable abbrev ph5 : List (Nat × List Spec) := (9, [spSzCpu]) :: (14, [spEqCpu]) :: (12, [spToCpu]) :: ph4
theorem ph5_ok : PhiOk Go.Proofs.Try.prog ph5 := ⟨⟨okSzCpu, trivial⟩, ⟨okEqCpu, trivial⟩, ⟨okToCpu, trivial⟩, ph4_ok⟩

def G.lenCpu (m : Cpu) : Bool := decide (m.2.2.1.length ≤ 9223372036854775807 ∧ m.2.2.2.1.length ≤ 9223372036854775807)
theorem lenCpu_iff {m : Cpu} : G.lenCpu m = true ↔ (m.2.2.1.length ≤ 9223372036854775807 ∧ m.2.2.2.1.length ≤ 9223372036854775807) := by simp [G.lenCpu]
theorem szCpu_few {m : Cpu} {l : Int} (h0 : 0 ≤ l) (h1 : l ≤ 1048576) (hn : G.lenCpu m = true) (h : ¬ G.szCpu m l < 0) : G.fewCpu m = true ∧ 0 ≤ G.szCpu m l ∧ G.szCpu m l ≤ l := by
  obtain ⟨n1, n2⟩ := lenCpu_iff.1 hn
  unfold G.szCpu at h ⊢
  by_cases c1 : G.szS m.2.2.1.length l < 0
  · rw [if_pos c1] at h
    omega
  · obtain ⟨l1, e1⟩ := szS_few h0 h1 n1 c1
    rw [if_neg c1] at h ⊢
    by_cases c2 : G.szS m.2.2.2.1.length (G.szS m.2.2.1.length l) < 0
    · rw [if_pos c2] at h
      omega
    · obtain ⟨l2, e2⟩ := szS_few (l := G.szS m.2.2.1.length l) (by omega) (by omega) n2 c2
      rw [if_neg c2]
      exact ⟨fewCpu_iff.2 ⟨few_iff.2 (by omega), few_iff.2 (by omega)⟩, by omega, by omega⟩
/-! LawCpuSame -/
noncomputable abbrev spLawCpuSame : Spec := ⟨[.agg CpuK, .agg CpuK], .one (.c (.dat .bool)), false, fun x => G.lenCpu x.1 && G.lenCpu x.2.1, fun x => (true, ())⟩
end Go.Rx

/-
  MACHINES OF PROGRAMS: a step, as both packages take it; runs.
-/
import Derived.Test.YtoagkidolpcigaaFa
namespace Go.Rx
open Go
set_option linter.unusedVariables false
set_option linter.unusedSimpArgs false
/-! L5Copy -/
noncomputable abbrev spL5Copy : Spec := ⟨[.agg MachK], .one (.agg MachO), false, fun x => G.fewMach x.1, fun x => (x.1, ())⟩
noncomputable abbrev cxL5Copy : Cx := mkCx T0 pg28 [] [] 18
theorem eL5Copy (m : Mach) : funK cxL5Copy Go.Proofs.Try.f74 spL5Copy.ins spL5Copy.out (m, ()) =
  (if Go.Rx.okSize (16 : Nat) ((0 : Nat) + List.length m.2.2.2.1) = Bool.true then
    if Go.Rx.okSize (8 : Nat) ((0 : Nat) + List.length m.2.2.2.2.1) = Bool.true then Option.some (m, PUnit.unit) else Option.none
  else Option.none) := by kernel_rfl
/-! MClone -/
noncomputable abbrev spMClone : Spec := ⟨[.agg MachK], .one (.agg MachO), false, fun x => G.fewMach x.1, fun x => (x.1, ())⟩
noncomputable abbrev cxMClone : Cx := mkCx T0 pg28 [] [] 12
theorem eMClone (m : Mach) : funK cxMClone Go.Proofs.Try.f72 spMClone.ins spMClone.out (m, ()) =
  (if Go.Rx.okSize (16 : Nat) (List.length m.2.2.2.1) = Bool.true then if Go.Rx.okSize (8 : Nat) (List.length m.2.2.2.2.1) = Bool.true then Option.some (m, PUnit.unit) else Option.none else Option.none) := by kernel_rfl
theorem sfL5Copy (m : Mach) (h : G.fewMach m = true) : funK cxL5Copy Go.Proofs.Try.f74 spL5Copy.ins spL5Copy.out (m, ()) = some (m, ()) := by
  obtain ⟨h1, h2⟩ := fewMach_iff.1 h
  rw [eL5Copy, if_pos (okSize_few (by omega) (by omega)), if_pos (okSize_few (by omega) (by omega))]
theorem okL5Copy : SpecOk Go.Proofs.Try.prog 74 spL5Copy :=
  fun_okB (cx := cxL5Copy) (F := Go.Proofs.Try.f74) (cxOk T0_ok T0_eq pg28_ok) mixed (by kernel_rfl) (by decide) (by kernel_rfl) (lps_none (by kernel_rfl)) (fun x h => sfL5Copy x.1 h)
theorem sfMClone (m : Mach) (h : G.fewMach m = true) : funK cxMClone Go.Proofs.Try.f72 spMClone.ins spMClone.out (m, ()) = some (m, ()) := by
  obtain ⟨h1, h2⟩ := fewMach_iff.1 h
  rw [eMClone, if_pos (okSize_few (by omega) (by omega)), if_pos (okSize_few (by omega) (by omega))]
theorem okMClone : SpecOk Go.Proofs.Try.prog 72 spMClone :=
  fun_okB (cx := cxMClone) (F := Go.Proofs.Try.f72) (cxOk T0_ok T0_eq pg28_ok) mixed (by kernel_rfl) (by decide) (by kernel_rfl) (lps_none (by kernel_rfl)) (fun x h => sfMClone x.1 h)
def G.midM (m : Mach) : Bool := decide (-1000 ≤ m.1 ∧ m.1 ≤ 1000 ∧ -1000 ≤ m.2.1 ∧ m.2.1 ≤ 1000 ∧ m.2.2.2.1.length ≤ 5 ∧ m.2.2.2.2.1.length ≤ 30)
theorem midM_iff {m : Mach} : G.midM m = true ↔ (-1000 ≤ m.1 ∧ m.1 ≤ 1000 ∧ -1000 ≤ m.2.1 ∧ m.2.1 ≤ 1000 ∧ m.2.2.2.1.length ≤ 5 ∧ m.2.2.2.2.1.length ≤ 30) := by simp [G.midM]
/-! L5Say -/
noncomputable abbrev spL5Say : Spec := ⟨[.agg MachO], .one (.agg MachO), false, fun x => G.midM x.1, fun x => (G.sayM x.1, ())⟩
noncomputable abbrev cxL5Say : Cx := mkCx T0 pg28 [] [] 23
theorem eL5Say (m : Mach) : funK cxL5Say Go.Proofs.Try.f101 spL5Say.ins spL5Say.out (m, ()) =
  (if Decidable.decide ((↑(List.length m.2.2.2.2.1) : Int) ≥ (30 : Int)) = Bool.true then
    Option.some ((m.1, m.2.1, m.2.2.1, m.2.2.2.1, m.2.2.2.2.1, (4 : Int), PUnit.unit), PUnit.unit)
  else
    if Go.Rx.okSize (8 : Nat) (List.length m.2.2.2.2.1 + (1 : Nat)) = Bool.true then
      Option.some
        ((m.1, Go.IntKind.wrap Go.IntKind.i64 (m.2.1 + (1 : Int)), m.2.2.1, m.2.2.2.1, m.2.2.2.2.1 ++ [(m.2.2.1, PUnit.unit)], m.2.2.2.2.2),
          PUnit.unit)
    else Option.none) := by kernel_rfl
/-! L5Call -/
noncomputable abbrev spL5Call : Spec := ⟨[FunSP, .agg MachO, StrP], .one (.agg MachO), false, fun x => G.few x.1.length && G.midM x.2.1, fun x => (G.callM (G.find x.1 x.2.2.1) x.2.1, ())⟩
noncomputable abbrev cxL5Call : Cx := mkCx T0 pg28 [] [] 32
theorem eL5Call (p : Funs) (m : Mach) (s : ByteArray) : funK cxL5Call Go.Proofs.Try.f103 spL5Call.ins spL5Call.out (p, m, s, ()) =
  (if Decidable.decide ((↑(List.length m.2.2.2.1) : Int) ≥ (5 : Int)) = Bool.true then
    Option.some ((m.1, m.2.1, m.2.2.1, m.2.2.2.1, m.2.2.2.2.1, (2 : Int), PUnit.unit), PUnit.unit)
  else
    if Go.Rx.okSize (16 : Nat) (List.length m.2.2.2.1 + (1 : Nat)) = Bool.true then
      if Go.Rx.G.few (List.length p) = Bool.true then
        Option.some
          ((Go.Rx.G.find p s, (0 : Int), m.2.2.1, m.2.2.2.1 ++ [(m.1, Go.IntKind.wrap Go.IntKind.i64 (m.2.1 + (1 : Int)), PUnit.unit)],
              m.2.2.2.2),
            PUnit.unit)
      else Option.none
    else Option.none) := by kernel_rfl
/-! L5Ret -/
noncomputable abbrev spL5Ret : Spec := ⟨[.agg MachO], .one (.agg MachO), false, fun x => G.midM x.1, fun x => (G.retM x.1, ())⟩
noncomputable abbrev cxL5Ret : Cx := mkCx T0 pg28 [] [21] 24
theorem eL5Ret (m : Mach) : funK cxL5Ret Go.Proofs.Try.f104 spL5Ret.ins spL5Ret.out (m, ()) =
  (if Decidable.decide (Go.IntKind.wrap Go.IntKind.i64 ((↑(List.length m.2.2.2.1) : Int) - (1 : Int)) < (0 : Int)) = Bool.true then
    Option.some ((m.1, m.2.1, m.2.2.1, m.2.2.2.1, m.2.2.2.2.1, (3 : Int), PUnit.unit), PUnit.unit)
  else
    if Decidable.decide ((0 : Int) ≤ Go.IntKind.wrap Go.IntKind.i64 ((↑(List.length m.2.2.2.1) : Int) - (1 : Int))) = Bool.true then
      if Decidable.decide (Go.IntKind.wrap Go.IntKind.i64 ((↑(List.length m.2.2.2.1) : Int) - (1 : Int)) < (↑(List.length m.2.2.2.1) : Int)) = Bool.true then
        if Decidable.decide (Int.toNat (Go.IntKind.wrap Go.IntKind.i64 ((↑(List.length m.2.2.2.1) : Int) - (1 : Int))) < List.length m.2.2.2.1) = Bool.true then
          if Decidable.decide ((0 : Int) ≤ Go.IntKind.wrap Go.IntKind.i64 ((↑(List.length m.2.2.2.1) : Int) - (1 : Int))) = Bool.true then
            if Decidable.decide (Go.IntKind.wrap Go.IntKind.i64 ((↑(List.length m.2.2.2.1) : Int) - (1 : Int)) ≤ (↑(List.length m.2.2.2.1) : Int)) = Bool.true then
              Option.some
                (((List.getD m.2.2.2.1 (Int.toNat (Go.IntKind.wrap Go.IntKind.i64 ((↑(List.length m.2.2.2.1) : Int) - (1 : Int)))) ((0 : Int), (0 : Int), PUnit.unit)).1,
                    (List.getD m.2.2.2.1 (Int.toNat (Go.IntKind.wrap Go.IntKind.i64 ((↑(List.length m.2.2.2.1) : Int) - (1 : Int)))) ((0 : Int), (0 : Int), PUnit.unit)).2.1, m.2.2.1,
                    List.take (Int.toNat (Go.IntKind.wrap Go.IntKind.i64 ((↑(List.length m.2.2.2.1) : Int) - (1 : Int)))) m.2.2.2.1, m.2.2.2.2),
                  PUnit.unit)
            else Option.none
          else Option.none
        else Option.none
      else Option.none
    else Option.none) := by kernel_rfl
def G.coreM (m : Mach) (op n t0 t1 b0 b1 : Int) : Mach :=
  if op = 1 then (if m.2.2.2.2.1.length = 30 then (m.1, m.2.1, m.2.2.1, m.2.2.2.1, m.2.2.2.2.1, 4, ()) else (b0, b1, m.2.2.1, m.2.2.2.1, m.2.2.2.2.1 ++ [(m.2.2.1, ())], m.2.2.2.2.2.1, ()))
  else if op = 2 then (b0, b1, G.sum m.2.2.1 n, m.2.2.2.1, m.2.2.2.2.1, m.2.2.2.2.2.1, ())
  else if op = 3 then (if m.2.2.2.1.length = 5 then (m.1, m.2.1, m.2.2.1, m.2.2.2.1, m.2.2.2.2.1, 2, ()) else (t0, t1, m.2.2.1, m.2.2.2.1 ++ [(b0, b1, ())], m.2.2.2.2.1, m.2.2.2.2.2.1, ()))
  else if op = 4 then (t0, t1, m.2.2.1, m.2.2.2.1, m.2.2.2.2.1, m.2.2.2.2.2.1, ())
  else if op = 5 then (if m.2.2.1 > 0 then (t0, t1, m.2.2.1, m.2.2.2.1, m.2.2.2.2.1, m.2.2.2.2.2.1, ()) else (b0, b1, m.2.2.1, m.2.2.2.1, m.2.2.2.2.1, m.2.2.2.2.2.1, ()))
  else if op = 6 then G.retM m
  else (m.1, m.2.1, m.2.2.1, m.2.2.2.1, m.2.2.2.2.1, 1, ())
/-! MCore -/
noncomputable abbrev spMCore : Spec := ⟨[.box MachO, IntP, IntP, .agg SpotK, .agg SpotK], .none, false, fun x => G.midM x.1, fun x => ((), (G.coreM x.1 x.2.1 x.2.2.1 x.2.2.2.1.1 x.2.2.2.1.2.1 x.2.2.2.2.1.1 x.2.2.2.2.1.2.1, ()))⟩
noncomputable abbrev cxMCore : Cx := mkCx T0 pg28 [] [111] 118
theorem eMCore (m : Mach) (op n t0 t1 b0 b1 : Int) : funK cxMCore Go.Proofs.Try.f100 spMCore.ins spMCore.out (m, op, n, (t0, t1, ()), (b0, b1, ()), ()) =
  (if Decidable.decide (op = (1 : Int)) = Bool.true then
    if Decidable.decide ((↑(List.length m.2.2.2.2.1) : Int) = (30 : Int)) = Bool.true then
      Option.some (PUnit.unit, (m.1, m.2.1, m.2.2.1, m.2.2.2.1, m.2.2.2.2.1, (4 : Int), PUnit.unit), PUnit.unit)
    else
      if Go.Rx.okSize (8 : Nat) (List.length m.2.2.2.2.1 + (1 : Nat)) = Bool.true then
        Option.some (PUnit.unit, (b0, b1, m.2.2.1, m.2.2.2.1, m.2.2.2.2.1 ++ [(m.2.2.1, PUnit.unit)], m.2.2.2.2.2), PUnit.unit)
      else Option.none
  else
    if Decidable.decide (op = (2 : Int)) = Bool.true then Option.some (PUnit.unit, (b0, b1, Go.Rx.G.sum m.2.2.1 n, m.2.2.2), PUnit.unit)
    else
      if Decidable.decide (op = (3 : Int)) = Bool.true then
        if Decidable.decide ((↑(List.length m.2.2.2.1) : Int) = (5 : Int)) = Bool.true then
          Option.some (PUnit.unit, (m.1, m.2.1, m.2.2.1, m.2.2.2.1, m.2.2.2.2.1, (2 : Int), PUnit.unit), PUnit.unit)
        else
          if Go.Rx.okSize (16 : Nat) (List.length m.2.2.2.1 + (1 : Nat)) = Bool.true then
            Option.some (PUnit.unit, (t0, t1, m.2.2.1, m.2.2.2.1 ++ [(b0, b1, PUnit.unit)], m.2.2.2.2), PUnit.unit)
          else Option.none
      else
        if Decidable.decide (op = (4 : Int)) = Bool.true then Option.some (PUnit.unit, (t0, t1, m.2.2), PUnit.unit)
        else
          if Decidable.decide (op = (5 : Int)) = Bool.true then
            if Decidable.decide (m.2.2.1 > (0 : Int)) = Bool.true then Option.some (PUnit.unit, (t0, t1, m.2.2), PUnit.unit)
            else Option.some (PUnit.unit, (b0, b1, m.2.2), PUnit.unit)
          else
            if Decidable.decide (op = (6 : Int)) = Bool.true then
              if Decidable.decide (Go.IntKind.wrap Go.IntKind.i64 ((↑(List.length m.2.2.2.1) : Int) - (1 : Int)) < (0 : Int)) = Bool.true then
                Option.some (PUnit.unit, (m.1, m.2.1, m.2.2.1, m.2.2.2.1, m.2.2.2.2.1, (3 : Int), PUnit.unit), PUnit.unit)
              else
                if Decidable.decide ((0 : Int) ≤ Go.IntKind.wrap Go.IntKind.i64 ((↑(List.length m.2.2.2.1) : Int) - (1 : Int))) = Bool.true then
                  if Decidable.decide (Go.IntKind.wrap Go.IntKind.i64 ((↑(List.length m.2.2.2.1) : Int) - (1 : Int)) < (↑(List.length m.2.2.2.1) : Int)) = Bool.true then
                    if Decidable.decide (Int.toNat (Go.IntKind.wrap Go.IntKind.i64 ((↑(List.length m.2.2.2.1) : Int) - (1 : Int))) < List.length m.2.2.2.1) = Bool.true then
                      if Decidable.decide ((0 : Int) ≤ Go.IntKind.wrap Go.IntKind.i64 ((↑(List.length m.2.2.2.1) : Int) - (1 : Int))) = Bool.true then
                        if Decidable.decide (Go.IntKind.wrap Go.IntKind.i64 ((↑(List.length m.2.2.2.1) : Int) - (1 : Int)) ≤ (↑(List.length m.2.2.2.1) : Int)) = Bool.true then
                          Option.some
                            (PUnit.unit,
                              ((List.getD m.2.2.2.1 (Int.toNat (Go.IntKind.wrap Go.IntKind.i64 ((↑(List.length m.2.2.2.1) : Int) - (1 : Int)))) ((0 : Int), (0 : Int), PUnit.unit)).1,
                                (List.getD m.2.2.2.1 (Int.toNat (Go.IntKind.wrap Go.IntKind.i64 ((↑(List.length m.2.2.2.1) : Int) - (1 : Int)))) ((0 : Int), (0 : Int), PUnit.unit)).2.1, m.2.2.1,
                                List.take (Int.toNat (Go.IntKind.wrap Go.IntKind.i64 ((↑(List.length m.2.2.2.1) : Int) - (1 : Int)))) m.2.2.2.1, m.2.2.2.2),
                              PUnit.unit)
                        else Option.none
                      else Option.none
                    else Option.none
                  else Option.none
                else Option.none
            else Option.some (PUnit.unit, (m.1, m.2.1, m.2.2.1, m.2.2.2.1, m.2.2.2.2.1, (1 : Int), PUnit.unit), PUnit.unit)) := by kernel_rfl
theorem sfL5Say (m : Mach) (h : G.midM m = true) : funK cxL5Say Go.Proofs.Try.f101 spL5Say.ins spL5Say.out (m, ()) = some (G.sayM m, ()) := by
  obtain ⟨h1, h2, h3, h4, h5, h6⟩ := midM_iff.1 h
  rw [eL5Say]
  unfold G.sayM
  by_cases hc : 30 ≤ m.2.2.2.2.1.length
  · rw [if_pos hc, if_pos (decide_eq_true (by omega))]
  · rw [if_neg hc, if_neg (by simp; omega), if_pos (okSize_few (by omega) (by omega)), w64 (by omega) (by omega)]
theorem okL5Say : SpecOk Go.Proofs.Try.prog 101 spL5Say :=
  fun_okB (cx := cxL5Say) (F := Go.Proofs.Try.f101) (cxOk T0_ok T0_eq pg28_ok) mixed (by kernel_rfl) (by decide) (by kernel_rfl) (lps_none (by kernel_rfl)) (fun x h => sfL5Say x.1 h)
theorem sfL5Call (p : Funs) (m : Mach) (s : ByteArray) (h : (G.few p.length && G.midM m) = true) : funK cxL5Call Go.Proofs.Try.f103 spL5Call.ins spL5Call.out (p, m, s, ()) = some (G.callM (G.find p s) m, ()) := by
  rw [Bool.and_eq_true, midM_iff] at h
  obtain ⟨h0, h1, h2, h3, h4, h5, h6⟩ := h
  rw [eL5Call]
  unfold G.callM
  by_cases hc : 5 ≤ m.2.2.2.1.length
  · rw [if_pos hc, if_pos (decide_eq_true (by omega))]
  · rw [if_neg hc, if_neg (by simp; omega), if_pos (okSize_few (by omega) (by omega)), if_pos h0, w64 (by omega) (by omega)]
theorem okL5Call : SpecOk Go.Proofs.Try.prog 103 spL5Call :=
  fun_okB (cx := cxL5Call) (F := Go.Proofs.Try.f103) (cxOk T0_ok T0_eq pg28_ok) mixed (by kernel_rfl) (by decide) (by kernel_rfl) (lps_none (by kernel_rfl)) (fun x h => sfL5Call x.1 x.2.1 x.2.2.1 h)
theorem sfL5Ret (m : Mach) (h : G.midM m = true) : funK cxL5Ret Go.Proofs.Try.f104 spL5Ret.ins spL5Ret.out (m, ()) = some (G.retM m, ()) := by
  obtain ⟨h1, h2, h3, h4, h5, h6⟩ := midM_iff.1 h
  rw [eL5Ret, w64 (by omega) (by omega)]
  unfold G.retM
  by_cases cs : m.2.2.2.1.length = 0
  · rw [if_pos (by simp; omega), if_pos cs]
  · have l5 : ((m.2.2.2.1.length : Int) - 1).toNat = m.2.2.2.1.length - 1 := by omega
    rw [if_neg (by simp; omega), if_neg cs, l5]
    simp only [show (0 : Int) ≤ (m.2.2.2.1.length : Int) - 1 by omega, show (m.2.2.2.1.length : Int) - 1 < (m.2.2.2.1.length : Int) by omega, show (m.2.2.2.1.length : Int) - 1 ≤ (m.2.2.2.1.length : Int) by omega, show m.2.2.2.1.length - 1 < m.2.2.2.1.length by omega, decide_true, if_true]
theorem okL5Ret : SpecOk Go.Proofs.Try.prog 104 spL5Ret :=
  fun_okB (cx := cxL5Ret) (F := Go.Proofs.Try.f104) (cxOk T0_ok T0_eq pg28_ok) mixed (by kernel_rfl) (by decide) (by kernel_rfl) (lps_none (by kernel_rfl)) (fun x h => sfL5Ret x.1 h)
theorem sfMCore (m : Mach) (op n t0 t1 b0 b1 : Int) (h : G.midM m = true) : funK cxMCore Go.Proofs.Try.f100 spMCore.ins spMCore.out (m, op, n, (t0, t1, ()), (b0, b1, ()), ()) = some ((), (G.coreM m op n t0 t1 b0 b1, ())) := by
  obtain ⟨_, _, _, _, h2, h3⟩ := midM_iff.1 h
  rw [eMCore]
  have hwl : IntKind.i64.wrap ((m.2.2.2.1.length : Int) - 1) = (m.2.2.2.1.length : Int) - 1 := w64 (by omega) (by omega)
  have s1 : Go.Rx.okSize 8 (m.2.2.2.2.1.length + 1) = true := okSize_few (by omega) (by omega)
  have s2 : Go.Rx.okSize 16 (m.2.2.2.1.length + 1) = true := okSize_few (by omega) (by omega)
  have d1 : ((m.2.2.2.2.1.length : Int) = 30) = (m.2.2.2.2.1.length = 30) := by rw [eq_iff_iff]; omega
  have d2 : ((m.2.2.2.1.length : Int) = 5) = (m.2.2.2.1.length = 5) := by rw [eq_iff_iff]; omega
  simp only [hwl, s1, s2, d1, d2, if_true, decide_eq_true_eq]
  unfold G.coreM
  by_cases o1 : op = 1
  · rw [if_pos o1, if_pos o1]
    split <;> rfl
  · rw [if_neg o1, if_neg o1]
    by_cases o2 : op = 2
    · rw [if_pos o2, if_pos o2]
    · rw [if_neg o2, if_neg o2]
      by_cases o3 : op = 3
      · rw [if_pos o3, if_pos o3]
        split <;> rfl
      · rw [if_neg o3, if_neg o3]
        by_cases o4 : op = 4
        · rw [if_pos o4, if_pos o4]
        · rw [if_neg o4, if_neg o4]
          by_cases o5 : op = 5
          · rw [if_pos o5, if_pos o5]
            split <;> rfl
          · rw [if_neg o5, if_neg o5]
            by_cases o6 : op = 6
            · rw [if_pos o6, if_pos o6]
              unfold G.retM
              by_cases cs : m.2.2.2.1.length = 0
              · rw [if_pos (by omega), if_pos cs]
              · have l5 : ((m.2.2.2.1.length : Int) - 1).toNat = m.2.2.2.1.length - 1 := by omega
                rw [if_neg (by omega), if_pos (by omega), if_pos (by omega), if_pos (by omega), if_pos (by omega), if_pos (by omega), if_neg cs, l5]
            · rw [if_neg o6, if_neg o6]
theorem okMCore : SpecOk Go.Proofs.Try.prog 100 spMCore :=
  fun_okB (cx := cxMCore) (F := Go.Proofs.Try.f100) (cxOk T0_ok T0_eq pg28_ok) mixed (by kernel_rfl) (by decide) (by kernel_rfl) (lps_none (by kernel_rfl)) (fun x h => sfMCore x.1 x.2.1 x.2.2.1 x.2.2.2.1.1 x.2.2.2.1.2.1 x.2.2.2.2.1.1 x.2.2.2.2.1.2.1 h)
noncomputable abbrev pm1 : List (Nat × List Spec) := (74, [spL5Copy]) :: (72, [spMClone]) :: (101, [spL5Say]) :: (103, [spL5Call]) :: (104, [spL5Ret]) :: (100, [spMCore]) :: pg28
theorem pm1_ok : PhiOk Go.Proofs.Try.prog pm1 := ⟨⟨okL5Copy, trivial⟩, ⟨okMClone, trivial⟩, ⟨okL5Say, trivial⟩, ⟨okL5Call, trivial⟩, ⟨okL5Ret, trivial⟩, ⟨okMCore, trivial⟩, pg28_ok⟩
/-! L5Do -/
noncomputable abbrev spL5Do : Spec := ⟨[FunSP, .agg MachO], .one (.agg MachO), false, fun x => G.goM x.1 x.2.1, fun x => (G.stepM x.1 x.2.1, ())⟩
noncomputable abbrev cxL5Do : Cx := mkCx T0 pm1 [] [] 73
theorem eL5Do (p : Funs) (m : Mach) : funK cxL5Do Go.Proofs.Try.f73 spL5Do.ins spL5Do.out (p, m, ()) =
  (if Decidable.decide ((0 : Int) ≤ m.1) = Bool.true then
    if Decidable.decide (m.1 < (↑(List.length p) : Int)) = Bool.true then
      if Decidable.decide ((0 : Int) ≤ m.2.1) = Bool.true then
        if Decidable.decide (m.2.1 < (↑(List.length (List.getD p (Int.toNat m.1) (ByteArray.empty, Bool.false, [], PUnit.unit)).2.2.1) : Int)) = Bool.true then
          if
              Decidable.decide
                  ((List.getD (List.getD p (Int.toNat m.1) (ByteArray.empty, Bool.false, [], PUnit.unit)).2.2.1 (Int.toNat m.2.1) ((0 : Int), (0 : Int), ByteArray.empty, PUnit.unit)).1 = (1 : Int)) =
                Bool.true then
            if Go.Rx.G.midM m = Bool.true then Option.some (Go.Rx.G.sayM m, PUnit.unit) else Option.none
          else
            if
                Decidable.decide
                    ((List.getD (List.getD p (Int.toNat m.1) (ByteArray.empty, Bool.false, [], PUnit.unit)).2.2.1 (Int.toNat m.2.1) ((0 : Int), (0 : Int), ByteArray.empty, PUnit.unit)).1 = (2 : Int)) =
                  Bool.true then
              Option.some
                ((m.1, Go.IntKind.wrap Go.IntKind.i64 (m.2.1 + (1 : Int)),
                    Go.Rx.G.sum m.2.2.1
                      (List.getD (List.getD p (Int.toNat m.1) (ByteArray.empty, Bool.false, [], PUnit.unit)).2.2.1 (Int.toNat m.2.1) ((0 : Int), (0 : Int), ByteArray.empty, PUnit.unit)).2.1,
                    m.2.2.2),
                  PUnit.unit)
            else
              if
                  Decidable.decide
                      ((List.getD (List.getD p (Int.toNat m.1) (ByteArray.empty, Bool.false, [], PUnit.unit)).2.2.1 (Int.toNat m.2.1) ((0 : Int), (0 : Int), ByteArray.empty, PUnit.unit)).1 = (3 : Int)) =
                    Bool.true then
                if (Go.Rx.G.few (List.length p) && Go.Rx.G.midM m) = Bool.true then
                  Option.some
                    (Go.Rx.G.callM
                        (Go.Rx.G.find p
                          (List.getD (List.getD p (Int.toNat m.1) (ByteArray.empty, Bool.false, [], PUnit.unit)).2.2.1 (Int.toNat m.2.1) ((0 : Int), (0 : Int), ByteArray.empty, PUnit.unit)).2.2.1)
                        m,
                      PUnit.unit)
                else Option.none
              else
                if
                    Decidable.decide
                        ((List.getD (List.getD p (Int.toNat m.1) (ByteArray.empty, Bool.false, [], PUnit.unit)).2.2.1 (Int.toNat m.2.1) ((0 : Int), (0 : Int), ByteArray.empty, PUnit.unit)).1 = (4 : Int)) =
                      Bool.true then
                  if Go.Rx.G.few (List.length p) = Bool.true then
                    Option.some
                      ((Go.Rx.G.find p
                            (List.getD (List.getD p (Int.toNat m.1) (ByteArray.empty, Bool.false, [], PUnit.unit)).2.2.1 (Int.toNat m.2.1) ((0 : Int), (0 : Int), ByteArray.empty, PUnit.unit)).2.2.1,
                          (0 : Int), m.2.2),
                        PUnit.unit)
                  else Option.none
                else
                  if
                      Decidable.decide
                          ((List.getD (List.getD p (Int.toNat m.1) (ByteArray.empty, Bool.false, [], PUnit.unit)).2.2.1 (Int.toNat m.2.1) ((0 : Int), (0 : Int), ByteArray.empty, PUnit.unit)).1 =
                            (5 : Int)) =
                        Bool.true then
                    if Decidable.decide (m.2.2.1 > (0 : Int)) = Bool.true then
                      if Go.Rx.G.few (List.length p) = Bool.true then
                        Option.some
                          ((Go.Rx.G.find p
                                (List.getD (List.getD p (Int.toNat m.1) (ByteArray.empty, Bool.false, [], PUnit.unit)).2.2.1 (Int.toNat m.2.1) ((0 : Int), (0 : Int), ByteArray.empty, PUnit.unit)).2.2.1,
                              (0 : Int), m.2.2),
                            PUnit.unit)
                      else Option.none
                    else Option.some ((m.1, Go.IntKind.wrap Go.IntKind.i64 (m.2.1 + (1 : Int)), m.2.2), PUnit.unit)
                  else
                    if
                        Decidable.decide
                            ((List.getD (List.getD p (Int.toNat m.1) (ByteArray.empty, Bool.false, [], PUnit.unit)).2.2.1 (Int.toNat m.2.1) ((0 : Int), (0 : Int), ByteArray.empty, PUnit.unit)).1 =
                              (6 : Int)) =
                          Bool.true then
                      if Go.Rx.G.midM m = Bool.true then Option.some (Go.Rx.G.retM m, PUnit.unit) else Option.none
                    else Option.some ((m.1, m.2.1, m.2.2.1, m.2.2.2.1, m.2.2.2.2.1, (1 : Int), PUnit.unit), PUnit.unit)
        else Option.none
      else Option.none
    else Option.none
  else Option.none) := by kernel_rfl
/-! MStep -/
noncomputable abbrev spMStep : Spec := ⟨[.agg MachO, FunSP], .one (.agg MachO), false, fun x => G.goM x.2.1 x.1, fun x => (G.stepM x.2.1 x.1, ())⟩
noncomputable abbrev cxMStep : Cx := mkCx T0 pm1 [] [] 72
theorem eMStep (m : Mach) (p : Funs) : funK cxMStep Go.Proofs.Try.f71 spMStep.ins spMStep.out (m, p, ()) =
  (if Decidable.decide ((0 : Int) ≤ m.1) = Bool.true then
    if Decidable.decide (m.1 < (↑(List.length p) : Int)) = Bool.true then
      if Decidable.decide ((0 : Int) ≤ m.2.1) = Bool.true then
        if Decidable.decide (m.2.1 < (↑(List.length (List.getD p (Int.toNat m.1) (ByteArray.empty, Bool.false, [], PUnit.unit)).2.2.1) : Int)) = Bool.true then
          if Go.Rx.G.few (List.length p) = Bool.true then
            if Go.Rx.G.midM m = Bool.true then
              Option.some
                (Go.Rx.G.coreM m
                    (List.getD (List.getD p (Int.toNat m.1) (ByteArray.empty, Bool.false, [], PUnit.unit)).2.2.1 (Int.toNat m.2.1) ((0 : Int), (0 : Int), ByteArray.empty, PUnit.unit)).1
                    (List.getD (List.getD p (Int.toNat m.1) (ByteArray.empty, Bool.false, [], PUnit.unit)).2.2.1 (Int.toNat m.2.1) ((0 : Int), (0 : Int), ByteArray.empty, PUnit.unit)).2.1
                    (if
                        Go.Rx.G.find p
                            (List.getD (List.getD p (Int.toNat m.1) (ByteArray.empty, Bool.false, [], PUnit.unit)).2.2.1 (Int.toNat m.2.1) ((0 : Int), (0 : Int), ByteArray.empty, PUnit.unit)).2.2.1 >
                          (0 : Int) then
                      Go.Rx.G.find p
                        (List.getD (List.getD p (Int.toNat m.1) (ByteArray.empty, Bool.false, [], PUnit.unit)).2.2.1 (Int.toNat m.2.1) ((0 : Int), (0 : Int), ByteArray.empty, PUnit.unit)).2.2.1
                    else (0 : Int))
                    (0 : Int) m.1 (Go.IntKind.wrap Go.IntKind.i64 (m.2.1 + (1 : Int))),
                  PUnit.unit)
            else Option.none
          else Option.none
        else Option.none
      else Option.none
    else Option.none
  else Option.none) := by kernel_rfl
theorem goM_mid {p : Funs} {m : Mach} (h : G.goM p m = true) : G.midM m = true ∧ 0 ≤ m.2.1 ∧ m.2.1 ≤ 10 ∧ 0 ≤ m.1 ∧ m.1 ≤ 40 := by
  obtain ⟨⟨h1, h2⟩, h3, ⟨h4, h5⟩, h6⟩ := goM_iff.1 h
  obtain ⟨⟨s1, s2⟩, s3, s4⟩ := spotOk_iff.1 h3
  obtain ⟨⟨k1, k2⟩, k3, k4⟩ := (keepOk_iff p).1 h2
  obtain ⟨g1, g2⟩ := (funsOk_iff p).1 k3 m.1.toNat (by omega)
  obtain ⟨g3, g4, g5, g6⟩ := (funOk_iff _).1 g1
  exact ⟨midM_iff.2 (by omega), by omega, by omega, by omega, by omega⟩
theorem goM_fewP {p : Funs} {m : Mach} (h : G.goM p m = true) : G.few p.length = true := by
  obtain ⟨⟨h1, h2⟩, _⟩ := goM_iff.1 h
  exact few_iff.2 (smallP_iff.1 h1).1
theorem sfL5Do (p : Funs) (m : Mach) (h : G.goM p m = true) : funK cxL5Do Go.Proofs.Try.f73 spL5Do.ins spL5Do.out (p, m, ()) = some (G.stepM p m, ()) := by
  obtain ⟨q0, q1, q2, q3, q4⟩ := goM_mid h
  have qf := goM_fewP h
  obtain ⟨⟨h1, h2⟩, h3, ⟨h4, h5⟩, h6⟩ := goM_iff.1 h
  obtain ⟨⟨s1, s2⟩, s3, s4⟩ := spotOk_iff.1 h3
  have e : G.insAt (G.pAt p m.1.toNat).2.2.1 m.2.1.toNat = G.insOf p m.1 m.2.1 := rfl
  rw [eL5Do, if_pos (decide_eq_true s1), if_pos (decide_eq_true s2), if_pos (decide_eq_true s3), pAt_eq, if_pos (decide_eq_true s4), insAt_eq, e, w64 (by omega) (by omega)]
  unfold G.stepM G.stepI
  simp only [qf, q0, Bool.and_self, if_true, decide_eq_true_eq]
  split
  · rfl
  · split
    · rfl
    · split
      · rfl
      · split
        · rfl
        · split
          · split <;> rfl
          · split <;> rfl
theorem okL5Do : SpecOk Go.Proofs.Try.prog 73 spL5Do :=
  fun_okB (cx := cxL5Do) (F := Go.Proofs.Try.f73) (cxOk T0_ok T0_eq pm1_ok) mixed (by kernel_rfl) (by decide) (by kernel_rfl) (lps_none (by kernel_rfl)) (fun x h => sfL5Do x.1 x.2.1 h)
theorem core_step {p : Funs} {m : Mach} (h : G.goM p m = true) : G.coreM m (G.insOf p m.1 m.2.1).1 (G.insOf p m.1 m.2.1).2.1 (if G.find p (G.insOf p m.1 m.2.1).2.2.1 > 0 then G.find p (G.insOf p m.1 m.2.1).2.2.1 else 0) 0 m.1 (m.2.1 + 1) = G.stepM p m := by
  obtain ⟨⟨h1, h2⟩, h3, ⟨h4, h5⟩, h6⟩ := goM_iff.1 h
  obtain ⟨f1, f2, f3⟩ := ins_facts h2 h3
  unfold G.stepM
  generalize G.insOf p m.1 m.2.1 = x at f1 f2 f3 ⊢
  obtain ⟨op, n, s, u⟩ := x
  dsimp only at f1 f2 f3 ⊢
  have ht : op = 3 ∨ op = 4 ∨ op = 5 → (if G.find p s > 0 then G.find p s else 0) = G.find p s := fun e => by
    have := (f2 e).1
    split <;> omega
  generalize (if G.find p s > 0 then G.find p s else 0) = t at ht ⊢
  unfold G.coreM G.stepI
  rcases f1 with rfl | rfl | rfl | rfl | rfl | rfl | rfl
  · unfold G.sayM
    by_cases c5 : 30 ≤ m.2.2.2.2.1.length
    · have e : m.2.2.2.2.1.length = 30 := by omega
      show (if m.2.2.2.2.1.length = 30 then _ else _) = (if 30 ≤ m.2.2.2.2.1.length then _ else _)
      rw [if_pos e, if_pos c5]
    · show (if m.2.2.2.2.1.length = 30 then _ else _) = (if 30 ≤ m.2.2.2.2.1.length then _ else _)
      rw [if_neg (by omega), if_neg c5]
  · rfl
  · rw [ht (by omega)]
    unfold G.callM
    by_cases c5 : 5 ≤ m.2.2.2.1.length
    · have e : m.2.2.2.1.length = 5 := by omega
      show (if m.2.2.2.1.length = 5 then _ else _) = (if 5 ≤ m.2.2.2.1.length then _ else _)
      rw [if_pos e, if_pos c5]
    · show (if m.2.2.2.1.length = 5 then _ else _) = (if 5 ≤ m.2.2.2.1.length then _ else _)
      rw [if_neg (by omega), if_neg c5]
  · rw [ht (by omega)]
    rfl
  · rw [ht (by omega)]
    rfl
  · rfl
  · rfl
theorem sfMStep (m : Mach) (p : Funs) (h : G.goM p m = true) : funK cxMStep Go.Proofs.Try.f71 spMStep.ins spMStep.out (m, p, ()) = some (G.stepM p m, ()) := by
  obtain ⟨q0, q1, q2, q3, q4⟩ := goM_mid h
  have qf := goM_fewP h
  obtain ⟨⟨h1, h2⟩, h3, ⟨h4, h5⟩, h6⟩ := goM_iff.1 h
  obtain ⟨⟨s1, s2⟩, s3, s4⟩ := spotOk_iff.1 h3
  have e : G.insAt (G.pAt p m.1.toNat).2.2.1 m.2.1.toNat = G.insOf p m.1 m.2.1 := rfl
  rw [eMStep, if_pos (decide_eq_true s1), if_pos (decide_eq_true s2), if_pos (decide_eq_true s3), pAt_eq, if_pos (decide_eq_true s4), insAt_eq, e, w64 (by omega) (by omega), if_pos qf, if_pos q0, core_step h]
theorem okMStep : SpecOk Go.Proofs.Try.prog 71 spMStep :=
  fun_okB (cx := cxMStep) (F := Go.Proofs.Try.f71) (cxOk T0_ok T0_eq pm1_ok) mixed (by kernel_rfl) (by decide) (by kernel_rfl) (lps_none (by kernel_rfl)) (fun x h => sfMStep x.1 x.2.1 h)
noncomputable abbrev pm2 : List (Nat × List Spec) := (73, [spL5Do]) :: (71, [spMStep]) :: pm1
theorem pm2_ok : PhiOk Go.Proofs.Try.prog pm2 := ⟨⟨okL5Do, trivial⟩, ⟨okMStep, trivial⟩, pm1_ok⟩
/-! runs -/
def G.rmPre (p : Funs) (fuel : Int) (m : Mach) (i : Int) : Bool := decide (0 ≤ i ∧ i ≤ fuel ∧ fuel ≤ 200) && G.goM p m
theorem rmPre_iff {p : Funs} {fuel i : Int} {m : Mach} : G.rmPre p fuel m i = true ↔ ((0 ≤ i ∧ i ≤ fuel ∧ fuel ≤ 200) ∧ G.goM p m = true) := by simp [G.rmPre]
noncomputable abbrev lsSpMachRun : LSpec := ⟨[0, 1, 5, 6], [], [FunSP, IntP, .box MachO, IntP], [], false, fun x => G.rmPre x.1 x.2.1 x.2.2.1 x.2.2.2.1, fun x => ((0, ()), (G.runM x.1 (x.2.1 - x.2.2.2.1).toNat x.2.2.1, ()))⟩
/-! SpMachRun -/
noncomputable abbrev spSpMachRun : Spec := ⟨[FunSP, IntP], .one (.agg MachO), false, fun x => G.smallP x.1, fun x => (G.machRun x.1 x.2.1, ())⟩
noncomputable abbrev cxSpMachRun : Cx := mkCx T0 pm2 [(0, lsSpMachRun)] [] 35
theorem eSpMachRun (p : Funs) (fuel : Int) : funK cxSpMachRun Go.Proofs.Try.f33 spSpMachRun.ins spSpMachRun.out (p, fuel, ()) =
  (if Go.Rx.G.smallP p = Bool.true then
    if (!Go.Rx.G.keepOk p) = Bool.false then
      if Decidable.decide (fuel < (0 : Int)) = Bool.false then
        if Decidable.decide (fuel > (200 : Int)) = Bool.true then Option.some (((0 : Int), (0 : Int), (0 : Int), [], [], (5 : Int), PUnit.unit), PUnit.unit)
        else
          if Go.Rx.G.rmPre p fuel ((0 : Int), (0 : Int), (0 : Int), [], [], (0 : Int), PUnit.unit) (0 : Int) = Bool.true then
            if Go.Rx.G.fewMach (Go.Rx.G.runM p (Int.toNat (fuel - (0 : Int))) ((0 : Int), (0 : Int), (0 : Int), [], [], (0 : Int), PUnit.unit)) = Bool.true then
              Option.some (Go.Rx.G.runM p (Int.toNat (fuel - (0 : Int))) ((0 : Int), (0 : Int), (0 : Int), [], [], (0 : Int), PUnit.unit), PUnit.unit)
            else Option.none
          else Option.none
      else Option.some (((0 : Int), (0 : Int), (0 : Int), [], [], (5 : Int), PUnit.unit), PUnit.unit)
    else Option.some (((0 : Int), (0 : Int), (0 : Int), [], [], (5 : Int), PUnit.unit), PUnit.unit)
  else Option.none) := by kernel_rfl
theorem rSpMachRun (p : Funs) (fuel : Int) (m : Mach) (i : Int) : roundK cxSpMachRun 0 (loopIn Go.Proofs.Try.f33 0) lsSpMachRun (p, fuel, m, i, ()) =
  (if Decidable.decide (i < fuel) = Bool.true then
    if Decidable.decide (m.2.2.2.2.2.1 = (0 : Int)) = Bool.true then
      if Go.Rx.G.goM p m = Bool.true then
        Option.some (Go.Rx.LRes.go (p, fuel, Go.Rx.G.stepM p m, Go.IntKind.wrap Go.IntKind.i64 (i + (1 : Int)), PUnit.unit))
      else Option.none
    else Option.some (Go.Rx.LRes.stop (0 : Nat) PUnit.unit (m, PUnit.unit))
  else Option.some (Go.Rx.LRes.stop (0 : Nat) PUnit.unit (m, PUnit.unit))) := by kernel_rfl
noncomputable abbrev lsMachRun : LSpec := ⟨[0, 1, 5], [], [FunSP, IntP, .box MachO], [], false, fun x => G.rmPre x.1 x.2.1 x.2.2.1 0, fun x => ((0, ()), (G.runM x.1 x.2.1.toNat x.2.2.1, ()))⟩
/-! MachRun -/
noncomputable abbrev spMachRun : Spec := ⟨[FunSP, IntP], .one (.agg MachO), false, fun x => G.smallP x.1, fun x => (G.machRun x.1 x.2.1, ())⟩
noncomputable abbrev cxMachRun : Cx := mkCx T0 pm2 [(0, lsMachRun)] [] 29
theorem eMachRun (p : Funs) (fuel : Int) : funK cxMachRun Go.Proofs.Try.f32 spMachRun.ins spMachRun.out (p, fuel, ()) =
  (if Go.Rx.G.smallP p = Bool.true then
    if (!Go.Rx.G.keepOk p) = Bool.false then
      if (!Go.Rx.G.inR fuel (0 : Int) (200 : Int)) = Bool.true then Option.some (((0 : Int), (0 : Int), (0 : Int), [], [], (5 : Int), PUnit.unit), PUnit.unit)
      else
        if Go.Rx.G.rmPre p fuel ((0 : Int), (0 : Int), (0 : Int), [], [], (0 : Int), PUnit.unit) (0 : Int) = Bool.true then
          if Go.Rx.G.fewMach (Go.Rx.G.runM p (Int.toNat fuel) ((0 : Int), (0 : Int), (0 : Int), [], [], (0 : Int), PUnit.unit)) = Bool.true then
            Option.some (Go.Rx.G.runM p (Int.toNat fuel) ((0 : Int), (0 : Int), (0 : Int), [], [], (0 : Int), PUnit.unit), PUnit.unit)
          else Option.none
        else Option.none
    else Option.some (((0 : Int), (0 : Int), (0 : Int), [], [], (5 : Int), PUnit.unit), PUnit.unit)
  else Option.none) := by kernel_rfl
theorem rMachRun (p : Funs) (fuel : Int) (m : Mach) : roundK cxMachRun 0 (loopIn Go.Proofs.Try.f32 0) lsMachRun (p, fuel, m, ()) =
  (if Decidable.decide (fuel > (0 : Int)) = Bool.true then
    if Decidable.decide (m.2.2.2.2.2.1 = (0 : Int)) = Bool.true then
      if Go.Rx.G.goM p m = Bool.true then
        Option.some (Go.Rx.LRes.go (p, Go.IntKind.wrap Go.IntKind.i64 (fuel - (1 : Int)), Go.Rx.G.stepM p m, PUnit.unit))
      else Option.none
    else Option.some (Go.Rx.LRes.stop (0 : Nat) PUnit.unit (m, PUnit.unit))
  else Option.some (Go.Rx.LRes.stop (0 : Nat) PUnit.unit (m, PUnit.unit))) := by kernel_rfl
noncomputable abbrev muSpMachRun : PKs.den lsSpMachRun.ins → Nat := fun x => (x.2.1 - x.2.2.2.1).toNat
theorem stSpMachRun (p : Funs) (fuel : Int) (m : Mach) (i : Int) (h : G.rmPre p fuel m i = true) : StepOk lsSpMachRun (eqInv lsSpMachRun) muSpMachRun (p, fuel, m, i, ()) (roundK cxSpMachRun 0 (loopIn Go.Proofs.Try.f33 0) lsSpMachRun (p, fuel, m, i, ())) := by
  obtain ⟨⟨h0, h1, h2⟩, h3⟩ := rmPre_iff.1 h
  rw [rSpMachRun]
  by_cases hi : i < fuel
  · have hw : IntKind.i64.wrap (i + 1) = i + 1 := w64 (by omega) (by omega)
    have e : (fuel - i).toNat = (fuel - (i + 1)).toNat + 1 := by omega
    rw [if_pos (decide_eq_true hi)]
    by_cases hm : m.2.2.2.2.2.1 = 0
    · rw [if_pos (decide_eq_true hm), if_pos h3, hw]
      refine ⟨(show G.rmPre p fuel (G.stepM p m) (i + 1) = true from rmPre_iff.2 ⟨by omega, stepM_ok h3⟩), ?_, ?_⟩
      · show (fuel - (i + 1)).toNat < (fuel - i).toNat
        omega
      · show ((0, ()), (G.runM p (fuel - (i + 1)).toNat (G.stepM p m), ())) = ((0, ()), (G.runM p (fuel - i).toNat m, ()))
        rw [e, runM_succ, if_pos hm]
    · rw [if_neg (by simpa using hm)]
      show ((0, ()), (G.runM p (fuel - i).toNat m, ())) = ((0, ()), (m, ()))
      rw [runM_done hm]
  · rw [if_neg (by simpa using hi)]
    show ((0, ()), (G.runM p (fuel - i).toNat m, ())) = ((0, ()), (m, ()))
    rw [show (fuel - i).toNat = 0 by omega]
    rfl
theorem lpSpMachRun : LpOk Go.Proofs.Try.prog cxSpMachRun.ntmps 0 (loopIn Go.Proofs.Try.f33 0) lsSpMachRun :=
  lp_okB (cxOk T0_ok T0_eq pm2_ok) mixed (by kernel_rfl) (lps_none (by kernel_rfl)) (eqInv lsSpMachRun) muSpMachRun (fun _ h => h) (fun x h => stSpMachRun x.1 x.2.1 x.2.2.1 x.2.2.2.1 h)
noncomputable abbrev muMachRun : PKs.den lsMachRun.ins → Nat := fun x => x.2.1.toNat
theorem stMachRun (p : Funs) (fuel : Int) (m : Mach) (h : G.rmPre p fuel m 0 = true) : StepOk lsMachRun (eqInv lsMachRun) muMachRun (p, fuel, m, ()) (roundK cxMachRun 0 (loopIn Go.Proofs.Try.f32 0) lsMachRun (p, fuel, m, ())) := by
  obtain ⟨⟨h0, h1, h2⟩, h3⟩ := rmPre_iff.1 h
  rw [rMachRun]
  by_cases hi : fuel > 0
  · have hw : IntKind.i64.wrap (fuel - 1) = fuel - 1 := w64 (by omega) (by omega)
    have e : fuel.toNat = (fuel - 1).toNat + 1 := by omega
    rw [if_pos (decide_eq_true hi)]
    by_cases hm : m.2.2.2.2.2.1 = 0
    · rw [if_pos (decide_eq_true hm), if_pos h3, hw]
      refine ⟨(show G.rmPre p (fuel - 1) (G.stepM p m) 0 = true from rmPre_iff.2 ⟨by omega, stepM_ok h3⟩), ?_, ?_⟩
      · show (fuel - 1).toNat < fuel.toNat
        omega
      · show ((0, ()), (G.runM p (fuel - 1).toNat (G.stepM p m), ())) = ((0, ()), (G.runM p fuel.toNat m, ()))
        rw [e, runM_succ, if_pos hm]
    · rw [if_neg (by simpa using hm)]
      show ((0, ()), (G.runM p fuel.toNat m, ())) = ((0, ()), (m, ()))
      rw [runM_done hm]
  · rw [if_neg (by simpa using hi)]
    show ((0, ()), (G.runM p fuel.toNat m, ())) = ((0, ()), (m, ()))
    rw [show fuel.toNat = 0 by omega]
    rfl
theorem lpMachRun : LpOk Go.Proofs.Try.prog cxMachRun.ntmps 0 (loopIn Go.Proofs.Try.f32 0) lsMachRun :=
  lp_okB (cxOk T0_ok T0_eq pm2_ok) mixed (by kernel_rfl) (lps_none (by kernel_rfl)) (eqInv lsMachRun) muMachRun (fun _ h => h) (fun x h => stMachRun x.1 x.2.1 x.2.2.1 h)
theorem sfSpMachRun (p : Funs) (fuel : Int) (h : G.smallP p = true) : funK cxSpMachRun Go.Proofs.Try.f33 spSpMachRun.ins spSpMachRun.out (p, fuel, ()) = some (G.machRun p fuel, ()) := by
  rw [eSpMachRun, if_pos h]
  unfold G.machRun
  by_cases hi : G.keepOk p = true
  · rw [if_pos (by simpa using hi)]
    by_cases h0 : fuel < 0
    · rw [if_neg (by simpa using h0), if_neg (by omega)]
      rfl
    · rw [if_pos (decide_eq_false h0)]
      by_cases h1 : fuel > 200
      · rw [if_pos (decide_eq_true h1), if_neg (by omega)]
        rfl
      · have hz : G.goM p (0, 0, 0, [], [], 0, ()) = true := zeroM_ok h hi
        rw [if_neg (by simpa using h1), if_pos (rmPre_iff.2 ⟨by omega, hz⟩), if_pos (goM_few (runM_ok _ hz)), if_pos ⟨hi, by omega, by omega⟩, show fuel - 0 = fuel by omega]
        rfl
  · rw [if_neg (by simpa using hi), if_neg fun e => hi e.1]
    rfl
theorem okSpMachRun : SpecOk Go.Proofs.Try.prog 33 spSpMachRun :=
  fun_okB (cx := cxSpMachRun) (F := Go.Proofs.Try.f33) (cxOk T0_ok T0_eq pm2_ok) mixed (by kernel_rfl) (by decide) (by kernel_rfl) (lps_of (l := [(0, loopIn Go.Proofs.Try.f33 0)]) (by kernel_rfl) ⟨lp_at lpSpMachRun rfl, trivial⟩) (fun x h => sfSpMachRun x.1 x.2.1 h)
theorem sfMachRun (p : Funs) (fuel : Int) (h : G.smallP p = true) : funK cxMachRun Go.Proofs.Try.f32 spMachRun.ins spMachRun.out (p, fuel, ()) = some (G.machRun p fuel, ()) := by
  rw [eMachRun, if_pos h]
  unfold G.machRun
  by_cases hi : G.keepOk p = true
  · rw [if_pos (by simpa using hi)]
    by_cases h0 : G.inR fuel 0 200 = true
    · have h1 := inR_iff.1 h0
      have hz : G.goM p (0, 0, 0, [], [], 0, ()) = true := zeroM_ok h hi
      rw [if_neg (by simpa using h0), if_pos (rmPre_iff.2 ⟨by omega, hz⟩), if_pos (goM_few (runM_ok _ hz)), if_pos ⟨hi, by omega, by omega⟩]
      rfl
    · rw [if_pos (by simpa using h0), if_neg fun e => h0 (inR_iff.2 e.2)]
      rfl
  · rw [if_neg (by simpa using hi), if_neg fun e => hi e.1]
    rfl
theorem okMachRun : SpecOk Go.Proofs.Try.prog 32 spMachRun :=
  fun_okB (cx := cxMachRun) (F := Go.Proofs.Try.f32) (cxOk T0_ok T0_eq pm2_ok) mixed (by kernel_rfl) (by decide) (by kernel_rfl) (lps_of (l := [(0, loopIn Go.Proofs.Try.f32 0)]) (by kernel_rfl) ⟨lp_at lpMachRun rfl, trivial⟩) (fun x h => sfMachRun x.1 x.2.1 h)
/-! machines compared -/
theorem spot_ne {x y : Int × Int × Unit} (h : ¬ x = y) : (decide (x.1 = y.1) && (decide (x.2.1 = y.2.1) && true)) = false := by
  rw [Bool.eq_false_iff]
  intro e
  simp at e
  exact h (Prod.ext e.1 (Prod.ext e.2 rfl))
/-! SlEqSpot: its loop -/
noncomputable abbrev lsSlEqSpot : LSpec := ⟨[0, 1, 12, 13, 4], [4], [.c (.dat (.sl spotT)), .c (.dat (.sl spotT)), .c (.dat I), .c (.dat I), .c (.dat .bool)], [.c (.dat .bool)], false, fun x => G.eqPreR x.1 x.2.1 x.2.2.1 x.2.2.2.1,
  fun x => ((if G.eqFrom x.1 x.2.1 x.2.2.2.1 = true then 0 else 1, (G.eqFrom x.1 x.2.1 x.2.2.2.1 && x.2.2.2.2.1, ())), ())⟩
noncomputable abbrev cxSlEqSpot : Cx := mkCx T0 pm2 [(0, lsSlEqSpot)] [] 26
theorem rSlEqSpot (a b : List (Int × Int × Unit)) (n : Int) (i : Int) (r : Bool) : roundK cxSlEqSpot 0 (loopIn Go.Proofs.Try.f75 0) lsSlEqSpot (a, b, n, i, r, ()) =
  (if Decidable.decide (i < n) = Bool.true then
    if Decidable.decide ((0 : Int) ≤ i) = Bool.true then
      if Decidable.decide (i < (↑(List.length a) : Int)) = Bool.true then
        if Decidable.decide ((0 : Int) ≤ i) = Bool.true then
          if Decidable.decide (i < (↑(List.length b) : Int)) = Bool.true then
            if
                (!(Decidable.decide ((List.getD a (Int.toNat i) ((0 : Int), (0 : Int), PUnit.unit)).1 = (List.getD b (Int.toNat i) ((0 : Int), (0 : Int), PUnit.unit)).1) &&
                      (Decidable.decide
                          ((List.getD a (Int.toNat i) ((0 : Int), (0 : Int), PUnit.unit)).2.1 = (List.getD b (Int.toNat i) ((0 : Int), (0 : Int), PUnit.unit)).2.1) &&
                        Bool.true))) =
                  Bool.true then
              Option.some (Go.Rx.LRes.stop (1 : Nat) (Bool.false, PUnit.unit) PUnit.unit)
            else Option.some (Go.Rx.LRes.go (a, b, n, Go.IntKind.wrap Go.IntKind.i64 (i + (1 : Int)), r, PUnit.unit))
          else Option.none
        else Option.none
      else Option.none
    else Option.none
  else Option.some (Go.Rx.LRes.stop (0 : Nat) (r, PUnit.unit) PUnit.unit)) := by kernel_rfl
noncomputable abbrev muSlEqSpot : PKs.den lsSlEqSpot.ins → Nat := fun x => x.1.length - x.2.2.2.1.toNat
theorem stSlEqSpot (a b : List (Int × Int × Unit)) (n : Int) (i : Int) (r : Bool) (h : G.eqPreR a b n i = true) : StepOk lsSlEqSpot (eqInv lsSlEqSpot) muSlEqSpot (a, b, n, i, r, ()) (roundK cxSlEqSpot 0 (loopIn Go.Proofs.Try.f75 0) lsSlEqSpot (a, b, n, i, r, ())) := by
  obtain ⟨h0, h1, h2, h3, h4⟩ := eqPreR_iff.1 h
  rw [rSlEqSpot]
  by_cases hi : i < (a.length : Int)
  · have hb : i < (b.length : Int) := by omega
    have hn : i < n := by omega
    have hw : IntKind.i64.wrap (i + 1) = i + 1 := w64 (by omega) (by omega)
    have he := eqFrom_step (((0 : Int), (0 : Int), ()) : Int × Int × Unit) h0 hi hb
    simp only [hi, hb, h0, decide_true, if_true, hw, hn]
    generalize a.getD i.toNat (((0 : Int), (0 : Int), ()) : Int × Int × Unit) = x at *
    generalize b.getD i.toNat (((0 : Int), (0 : Int), ()) : Int × Int × Unit) = y at *
    by_cases hc : x = y
    · subst hc
      simp at he
      simp [G.eqCell]
      refine ⟨(show G.eqPreR a b n (i + 1) = true from eqPreR_iff.2 ⟨by omega, by omega, h2, h3, h4⟩), ?_, ?_⟩
      · show a.length - (i + 1).toNat < a.length - i.toNat
        omega
      · show ((_, _), _) = ((_, _), _)
        simp only [he]
    · simp only [hc, decide_false, Bool.false_and] at he
      have hcc := spot_ne hc
      simp only [hcc, Bool.not_false, if_true]
      show ((_, _), _) = ((_, _), _)
      simp only [he]
      simp
  · have he : G.eqFrom a b i = true := eqFrom_end (by omega) (by omega)
    have hn : ¬ i < n := by omega
    simp only [hi, decide_false, hn]
    show ((_, _), _) = ((_, _), _)
    simp only [he]
    simp
theorem lpSlEqSpot : LpOk Go.Proofs.Try.prog cxSlEqSpot.ntmps 0 (loopIn Go.Proofs.Try.f75 0) lsSlEqSpot :=
  lp_okB (cxOk T0_ok T0_eq pm2_ok) mixed (by kernel_rfl) (lps_none (by kernel_rfl)) (eqInv lsSlEqSpot) muSlEqSpot (fun _ h => h) (fun x h => stSlEqSpot x.1 x.2.1 x.2.2.1 x.2.2.2.1 x.2.2.2.2.1 h)
/-! SlEqSpot -/
noncomputable abbrev spSlEqSpot : Spec := ⟨[.c (.dat (.sl spotT)), .c (.dat (.sl spotT))], .one (.c (.dat .bool)), false, fun x => G.few x.1.length, fun x => (G.sameS x.1 x.2.1, ())⟩
theorem eSlEqSpot (a b : List (Int × Int × Unit)) : funK cxSlEqSpot Go.Proofs.Try.f75 spSlEqSpot.ins spSlEqSpot.out (a, b, ()) =
  (if (!Decidable.decide ((↑(List.length a) : Int) = (↑(List.length b) : Int))) = Bool.true then Option.some (Bool.false, PUnit.unit)
  else
    if Go.Rx.G.eqPreR a b (↑(List.length a) : Int) (0 : Int) = Bool.true then
      if (if Go.Rx.G.eqFrom a b (0 : Int) = Bool.true then (0 : Nat) else (1 : Nat)) = (0 : Nat) then Option.some (Bool.true, PUnit.unit)
      else
        if (if Go.Rx.G.eqFrom a b (0 : Int) = Bool.true then (0 : Nat) else (1 : Nat)) = (1 : Nat) then Option.some (Go.Rx.G.eqFrom a b (0 : Int) && Bool.false, PUnit.unit)
        else Option.none
    else Option.none) := by kernel_rfl
theorem sfSlEqSpot (a b : List (Int × Int × Unit)) (h : G.few a.length = true) : funK cxSlEqSpot Go.Proofs.Try.f75 spSlEqSpot.ins spSlEqSpot.out (a, b, ()) = some (G.sameS a b, ()) := by
  rw [eSlEqSpot]
  by_cases hl : a.length = b.length
  · have hp : G.eqPreR a b (a.length : Int) 0 = true := eqPreR_iff.2 ⟨by omega, by omega, hl, few_iff.1 h, rfl⟩
    skip
    have he : G.eqFrom a b 0 = G.sameS a b := eqFrom_zero a b
    simp only [hp, he]
    cases G.sameS a b <;> simp [hl]
  · have : G.sameS a b = false := by
      simp only [G.sameS, decide_eq_false_iff_not]
      intro e
      exact hl (by rw [e])
    simp only [this]
    rw [if_pos (by simp; omega)]
theorem okSlEqSpot : SpecOk Go.Proofs.Try.prog 75 spSlEqSpot :=
  fun_okB (cx := cxSlEqSpot) (F := Go.Proofs.Try.f75) (cxOk T0_ok T0_eq pm2_ok) mixed (by kernel_rfl) (by decide) (by kernel_rfl) (lps_of (l := [(0, loopIn Go.Proofs.Try.f75 0)]) (by kernel_rfl) ⟨lp_at lpSlEqSpot rfl, trivial⟩)
    (fun x h => sfSlEqSpot x.1 x.2.1 h)
noncomputable abbrev pm3 : List (Nat × List Spec) := (33, [spSpMachRun]) :: (32, [spMachRun]) :: (75, [spSlEqSpot]) :: (76, [spSlEqInt]) :: pm2
theorem pm3_ok : PhiOk Go.Proofs.Try.prog pm3 := ⟨⟨okSpMachRun, trivial⟩, ⟨okMachRun, trivial⟩, ⟨okSlEqSpot, trivial⟩, ⟨okSlEqInt, trivial⟩, pm2_ok⟩
instance decSpots : DecidableEq (List (Int × Int × Unit)) := inferInstance
instance decInts : DecidableEq (List (Int × Unit)) := inferInstance
instance decMachT : DecidableEq (List (Int × Unit) × Int × Unit) := inferInstance
instance decMachS : DecidableEq (List (Int × Int × Unit) × List (Int × Unit) × Int × Unit) := inferInstance
instance decMach : DecidableEq (Int × Int × Int × List (Int × Int × Unit) × List (Int × Unit) × Int × Unit) := inferInstance
def G.sameM (a b : Mach) : Bool := decide (a = b)
theorem sameM_self (a : Mach) : G.sameM a a = true := by simp [G.sameM]
/-! MachSame -/
noncomputable abbrev spMachSame : Spec := ⟨[.agg MachK, .agg MachK], BoolR, false, fun x => G.fewMach x.1, fun x => (G.sameM x.1 x.2.1, ())⟩
noncomputable abbrev cxMachSame : Cx := mkCx T0 pm3 [] [] 38
theorem eMachSame (a b : Mach) : funK cxMachSame Go.Proofs.Try.f34 spMachSame.ins spMachSame.out (a, b, ()) =
  (if (Decidable.decide (a.1 = b.1) && (Decidable.decide (a.2.1 = b.2.1) && Bool.true)) = Bool.true then
    if Decidable.decide (a.2.2.1 = b.2.2.1) = Bool.true then
      if Decidable.decide (a.2.2.2.2.2.1 = b.2.2.2.2.2.1) = Bool.true then
        if Go.Rx.G.few (List.length a.2.2.2.1) = Bool.true then
          if Go.Rx.G.sameS a.2.2.2.1 b.2.2.2.1 = Bool.true then
            if Go.Rx.G.few (List.length a.2.2.2.2.1) = Bool.true then Option.some (Go.Rx.G.sameS a.2.2.2.2.1 b.2.2.2.2.1, PUnit.unit) else Option.none
          else Option.some (Bool.false, PUnit.unit)
        else Option.none
      else Option.some (Bool.false, PUnit.unit)
    else Option.some (Bool.false, PUnit.unit)
  else Option.some (Bool.false, PUnit.unit)) := by kernel_rfl
theorem sfMachSame (a b : Mach) (h : G.fewMach a = true) : funK cxMachSame Go.Proofs.Try.f34 spMachSame.ins spMachSame.out (a, b, ()) = some (G.sameM a b, ()) := by
  obtain ⟨h1, h2⟩ := fewMach_iff.1 h
  rw [eMachSame]
  simp only [few_iff.2 h1, few_iff.2 h2]
  obtain ⟨a1, a2, a3, a4, a5, a6, a7⟩ := a
  obtain ⟨b1, b2, b3, b4, b5, b6, b7⟩ := b
  unfold G.sameM G.sameS
  dsimp only
  by_cases c1 : a1 = b1 <;> by_cases c2 : a2 = b2 <;> by_cases c3 : a3 = b3 <;> by_cases c4 : a4 = b4 <;> by_cases c5 : a5 = b5 <;> by_cases c6 : a6 = b6 <;> simp [c1, c2, c3, c4, c5, c6]
theorem okMachSame : SpecOk Go.Proofs.Try.prog 34 spMachSame :=
  fun_okB (cx := cxMachSame) (F := Go.Proofs.Try.f34) (cxOk T0_ok T0_eq pm3_ok) mixed (by kernel_rfl) (by decide) (by kernel_rfl) (lps_none (by kernel_rfl)) (fun x h => sfMachSame x.1 x.2.1 h)
end Go.Rx

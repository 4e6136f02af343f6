/-
  MACHINES OF IMAGES: one step of whatever machine, and the law on it.
-/
import Derived.Test.YteenlfeglffnoaaBf
namespace Go.Rx
open Go
set_option linter.unusedVariables false
set_option linter.unusedSimpArgs false
def G.cstep (c : Cells) (m : Cpu) : Cpu := if G.cpuOk c m = true then (if m.2.2.2.2.1 = 0 then G.stepC c m else m) else G.formCpu
theorem cpuOk_go {c : Cells} {m : Cpu} (h : G.cpuOk c m = true) : G.goPre c m = true := by
  have := (cpuOk_iff c m).1 h
  exact goPre_iff.2 ⟨this.1, by omega, this.2.2.2.1⟩
/-! SpCpuStep -/
noncomputable abbrev spSpCpuStep : Spec := ⟨[CellSP, .agg CpuK], .one (.agg CpuO), false, fun x => G.few x.1.length && G.fewCpu x.2.1, fun x => (G.cstep x.1 x.2.1, ())⟩
noncomputable abbrev cxSpCpuStep : Cx := mkCx T0 ph24 [] [] 20
theorem eSpCpuStep (c : Cells) (m : Cpu) : funK cxSpCpuStep Go.Proofs.Try.f10 spSpCpuStep.ins spSpCpuStep.out (c, m, ()) =
  (if (Go.Rx.G.few (List.length c) && Go.Rx.G.fewCpu m) = Bool.true then
    if (!Go.Rx.G.cpuOk c m) = Bool.true then Option.some (((0 : Int), (0 : Int), [], [], (5 : Int), PUnit.unit), PUnit.unit)
    else
      if (!Decidable.decide (m.2.2.2.2.1 = (0 : Int))) = Bool.true then if Go.Rx.G.fewCpu m = Bool.true then Option.some (m, PUnit.unit) else Option.none
      else
        if Go.Rx.G.fewCpu m = Bool.true then
          if Go.Rx.G.goPre c m = Bool.true then
            if Go.Rx.G.fewCpu (Go.Rx.G.stepC c m) = Bool.true then Option.some (Go.Rx.G.stepC c m, PUnit.unit) else Option.none
          else Option.none
        else Option.none
  else Option.none) := by kernel_rfl
theorem sfSpCpuStep (c : Cells) (m : Cpu) (h : (G.few c.length && G.fewCpu m) = true) : funK cxSpCpuStep Go.Proofs.Try.f10 spSpCpuStep.ins spSpCpuStep.out (c, m, ()) = some (G.cstep c m, ()) := by
  rw [eSpCpuStep]
  unfold G.cstep
  have h' := h
  rw [Bool.and_eq_true] at h'
  by_cases hc : G.cpuOk c m = true
  · have hg := cpuOk_go hc
    have f1 := goPre_few hg
    have f2 := goPre_few (stepC_ok hg)
    by_cases hm : m.2.2.2.2.1 = 0
    · simp [h, h'.1, h'.2, hc, hm, hg, f1, f2]
    · simp [h, h'.1, h'.2, hc, hm, f1]
  · simp only [Bool.not_eq_true] at hc
    simp [h, h'.1, h'.2, hc, G.formCpu]
theorem okSpCpuStep : SpecOk Go.Proofs.Try.prog 10 spSpCpuStep :=
  fun_okB (cx := cxSpCpuStep) (F := Go.Proofs.Try.f10) (cxOk T0_ok T0_eq ph24_ok) mixed (by kernel_rfl) (by decide) (by kernel_rfl) (lps_none (by kernel_rfl)) (fun x h => sfSpCpuStep x.1 x.2.1 h)
/-! CpuStep -/
noncomputable abbrev spCpuStep : Spec := ⟨[CellSP, .agg CpuK], .one (.agg CpuO), false, fun x => G.few x.1.length && G.fewCpu x.2.1, fun x => (G.cstep x.1 x.2.1, ())⟩
noncomputable abbrev cxCpuStep : Cx := mkCx T0 ph24 [] [] 21
theorem eCpuStep (c : Cells) (m : Cpu) : funK cxCpuStep Go.Proofs.Try.f13 spCpuStep.ins spCpuStep.out (c, m, ()) =
  (if (Go.Rx.G.few (List.length c) && Go.Rx.G.fewCpu m) = Bool.true then
    if (!Go.Rx.G.cpuOk c m) = Bool.true then Option.some (((0 : Int), (0 : Int), [], [], (5 : Int), PUnit.unit), PUnit.unit)
    else
      if Go.Rx.G.fewCpu m = Bool.true then
        if Decidable.decide (m.2.2.2.2.1 = (0 : Int)) = Bool.true then
          if Go.Rx.G.goPre c m = Bool.true then
            if Go.Rx.G.fewCpu (Go.Rx.G.stepC c m) = Bool.true then Option.some (Go.Rx.G.stepC c m, PUnit.unit) else Option.none
          else Option.none
        else if Go.Rx.G.fewCpu m = Bool.true then Option.some (m, PUnit.unit) else Option.none
      else Option.none
  else Option.none) := by kernel_rfl
theorem sfCpuStep (c : Cells) (m : Cpu) (h : (G.few c.length && G.fewCpu m) = true) : funK cxCpuStep Go.Proofs.Try.f13 spCpuStep.ins spCpuStep.out (c, m, ()) = some (G.cstep c m, ()) := by
  rw [eCpuStep]
  unfold G.cstep
  have h' := h
  rw [Bool.and_eq_true] at h'
  by_cases hc : G.cpuOk c m = true
  · have hg := cpuOk_go hc
    have f1 := goPre_few hg
    have f2 := goPre_few (stepC_ok hg)
    by_cases hm : m.2.2.2.2.1 = 0
    · simp [h, h'.1, h'.2, hc, hm, hg, f1, f2]
    · simp [h, h'.1, h'.2, hc, hm, f1]
  · simp only [Bool.not_eq_true] at hc
    simp [h, h'.1, h'.2, hc, G.formCpu]
theorem okCpuStep : SpecOk Go.Proofs.Try.prog 13 spCpuStep :=
  fun_okB (cx := cxCpuStep) (F := Go.Proofs.Try.f13) (cxOk T0_ok T0_eq ph24_ok) mixed (by kernel_rfl) (by decide) (by kernel_rfl) (lps_none (by kernel_rfl)) (fun x h => sfCpuStep x.1 x.2.1 h)
/-! ToCpuO -/
noncomputable abbrev spToCpuO : Spec := ⟨[.agg CpuK], .one (.agg CpuO), false, fun x => G.fewCpu x.1, fun x => (x.1, ())⟩
noncomputable abbrev cxToCpuO : Cx := mkCx T0 ph4 [] [] 22
theorem eToCpuO (a : Cpu) : funK cxToCpuO Go.Proofs.Try.f12 spToCpuO.ins spToCpuO.out (a, ()) =
  (if Go.Rx.G.few (List.length a.2.2.1) = Bool.true then if Go.Rx.G.few (List.length a.2.2.2.1) = Bool.true then Option.some (a, PUnit.unit) else Option.none else Option.none) := by kernel_rfl
theorem sfToCpuO (a : Cpu) (h : G.fewCpu a = true) : funK cxToCpuO Go.Proofs.Try.f12 spToCpuO.ins spToCpuO.out (a, ()) = some (a, ()) := by
  obtain ⟨h1, h2⟩ := fewCpu_iff.1 h
  rw [eToCpuO, if_pos h1, if_pos h2]
theorem okToCpuO : SpecOk Go.Proofs.Try.prog 12 spToCpuO :=
  fun_okB (cx := cxToCpuO) (F := Go.Proofs.Try.f12) (cxOk T0_ok T0_eq ph4_ok) mixed (by kernel_rfl) (by decide) (by kernel_rfl) (lps_none (by kernel_rfl)) (fun x h => sfToCpuO x.1 h)
noncomputable abbrev ph26 : List (Nat × List Spec) := (12, [spToCpuO]) :: (10, [spSpCpuStep]) :: (13, [spCpuStep]) :: ph24
theorem ph26_ok : PhiOk Go.Proofs.Try.prog ph26 := ⟨⟨okToCpuO, trivial⟩, ⟨okSpCpuStep, trivial⟩, ⟨okCpuStep, trivial⟩, ph24_ok⟩
/-! LawCpuStep -/
noncomputable abbrev spLawCpuStep : Spec := ⟨[CellSP, .agg CpuK], BoolR, false, fun x => decide (x.1.length ≤ 9223372036854775807) && G.lenCpu x.2.1, fun x => (true, ())⟩
noncomputable abbrev cxLawCpuStep : Cx := mkCx T0 ph26 [] [] 92
theorem eLawCpuStep (a : Cells) (m : Cpu) : funK cxLawCpuStep Go.Proofs.Try.f3 spLawCpuStep.ins spLawCpuStep.out (a, m, ()) =
  (if Decidable.decide (Go.Rx.G.szS (List.length a) (1048576 : Int) < (0 : Int)) = Bool.true then Option.some (Bool.true, PUnit.unit)
  else
    if Decidable.decide (Go.Rx.G.szCpu m (Go.Rx.G.szS (List.length a) (1048576 : Int)) < (0 : Int)) = Bool.true then Option.some (Bool.true, PUnit.unit)
    else
      if Go.Rx.G.few (List.length a) = Bool.true then
        if Go.Rx.G.fewCpu m = Bool.true then
          if (Go.Rx.G.few (List.length a) && Go.Rx.G.fewCpu m) = Bool.true then
            if Go.Rx.G.few (List.length a) = Bool.true then
              if Go.Rx.G.fewCpu m = Bool.true then
                if (Go.Rx.G.few (List.length a) && Go.Rx.G.fewCpu m) = Bool.true then
                  if Go.Rx.G.fewCpu (Go.Rx.G.cstep a m) = Bool.true then
                    if (!Go.Rx.G.sameCpu (Go.Rx.G.cstep a m) (Go.Rx.G.cstep a m)) = Bool.true then Option.some (Bool.false, PUnit.unit)
                    else
                      if Go.Rx.G.few (List.length a) = Bool.true then
                        if Go.Rx.G.few (List.length a) = Bool.true then
                          if (!Go.Rx.G.sameS a a) = Bool.true then Option.some (Bool.false, PUnit.unit)
                          else
                            if Go.Rx.G.fewCpu m = Bool.true then
                              if Go.Rx.G.fewCpu m = Bool.true then
                                if (!Go.Rx.G.sameCpu m m) = Bool.true then Option.some (Bool.false, PUnit.unit)
                                else
                                  if Go.Rx.G.mkPre a (1 : Int) (0 : Int) = Bool.true then
                                    if Go.Rx.G.mkPre2 m ((1 : Int) + (2 : Int) * (↑(List.length a) : Int)) = Bool.true then
                                      if
                                          Decidable.decide
                                              ((1 : Int) + (2 : Int) * (↑(List.length a) : Int) + (↑(List.length m.2.2.1) : Int) + (↑(List.length m.2.2.2.1) : Int) < (0 : Int)) =
                                            Bool.false then
                                        if Go.Rx.G.fewCpu (Go.Rx.G.cstep a m) = Bool.true then
                                          if (!Go.Rx.G.sameCpu (Go.Rx.G.cstep a m) (Go.Rx.G.cstep a m)) = Bool.true then Option.some (Bool.false, PUnit.unit)
                                          else
                                            if Go.Rx.G.mkPre2 (Go.Rx.G.cstep a m) (1 : Int) = Bool.true then
                                              if
                                                  Go.Rx.G.mkPre2
                                                      ((Go.Rx.G.cstep a m).1, (Go.Rx.G.cstep a m).2.1,
                                                        Go.Rx.G.mk Go.Rx.G.mInt (1 : Int) (List.length (Go.Rx.G.cstep a m).2.2.1) (1 : Int),
                                                        Go.Rx.G.mk Go.Rx.G.mInt (1 : Int) (List.length (Go.Rx.G.cstep a m).2.2.2.1)
                                                          ((1 : Int) + (↑(List.length (Go.Rx.G.cstep a m).2.2.1) : Int)),
                                                        (Go.Rx.G.cstep a m).2.2.2.2)
                                                      (1 : Int) =
                                                    Bool.true then
                                                if
                                                    Decidable.decide
                                                        (Go.Rx.G.heldCpu
                                                            ((Go.Rx.G.cstep a m).1, (Go.Rx.G.cstep a m).2.1,
                                                              Go.Rx.G.mk Go.Rx.G.mInt (1 : Int) (List.length (Go.Rx.G.cstep a m).2.2.1) (1 : Int),
                                                              Go.Rx.G.mk Go.Rx.G.mInt (1 : Int) (List.length (Go.Rx.G.cstep a m).2.2.2.1)
                                                                ((1 : Int) + (↑(List.length (Go.Rx.G.cstep a m).2.2.1) : Int)),
                                                              (Go.Rx.G.cstep a m).2.2.2.2)
                                                            (1 : Int) <
                                                          (0 : Int)) =
                                                      Bool.true then
                                                  Option.some (Bool.false, PUnit.unit)
                                                else
                                                  if
                                                      (!Decidable.decide
                                                            (Go.Rx.G.heldCpu
                                                                ((Go.Rx.G.cstep a m).1, (Go.Rx.G.cstep a m).2.1,
                                                                  Go.Rx.G.mk Go.Rx.G.mInt (1 : Int) (List.length (Go.Rx.G.cstep a m).2.2.1) (1 : Int),
                                                                  Go.Rx.G.mk Go.Rx.G.mInt (1 : Int) (List.length (Go.Rx.G.cstep a m).2.2.2.1)
                                                                    ((1 : Int) + (↑(List.length (Go.Rx.G.cstep a m).2.2.1) : Int)),
                                                                  (Go.Rx.G.cstep a m).2.2.2.2)
                                                                (1 : Int) =
                                                              (1 : Int) + (↑(List.length (Go.Rx.G.cstep a m).2.2.1) : Int) +
                                                                (↑(List.length (Go.Rx.G.cstep a m).2.2.2.1) : Int))) =
                                                        Bool.true then
                                                    Option.some (Bool.false, PUnit.unit)
                                                  else
                                                    if Go.Rx.G.few (List.length a) = Bool.true then
                                                      if Go.Rx.G.fewCpu m = Bool.true then
                                                        if (Go.Rx.G.few (List.length a) && Go.Rx.G.fewCpu m) = Bool.true then
                                                          if Go.Rx.G.fewCpu (Go.Rx.G.cstep a m) = Bool.true then
                                                            if (!Go.Rx.G.sameCpu (Go.Rx.G.cstep a m) (Go.Rx.G.cstep a m)) = Bool.true then
                                                              Option.some (Bool.false, PUnit.unit)
                                                            else
                                                              if
                                                                  Go.Rx.G.mkPre2
                                                                      ((Go.Rx.G.cstep a m).1, (Go.Rx.G.cstep a m).2.1,
                                                                        Go.Rx.G.mk Go.Rx.G.mInt (1 : Int) (List.length (Go.Rx.G.cstep a m).2.2.1) (1 : Int),
                                                                        Go.Rx.G.mk Go.Rx.G.mInt (1 : Int) (List.length (Go.Rx.G.cstep a m).2.2.2.1)
                                                                          ((1 : Int) + (↑(List.length (Go.Rx.G.cstep a m).2.2.1) : Int)),
                                                                        (Go.Rx.G.cstep a m).2.2.2.2)
                                                                      (1 : Int) =
                                                                    Bool.true then
                                                                if
                                                                    Decidable.decide
                                                                        (Go.Rx.G.heldCpu
                                                                            ((Go.Rx.G.cstep a m).1, (Go.Rx.G.cstep a m).2.1,
                                                                              Go.Rx.G.mk Go.Rx.G.mInt (1 : Int) (List.length (Go.Rx.G.cstep a m).2.2.1) (1 : Int),
                                                                              Go.Rx.G.mk Go.Rx.G.mInt (1 : Int) (List.length (Go.Rx.G.cstep a m).2.2.2.1)
                                                                                ((1 : Int) + (↑(List.length (Go.Rx.G.cstep a m).2.2.1) : Int)),
                                                                              (Go.Rx.G.cstep a m).2.2.2.2)
                                                                            (1 : Int) <
                                                                          (0 : Int)) =
                                                                      Bool.true then
                                                                  Option.some (Bool.false, PUnit.unit)
                                                                else
                                                                  if
                                                                      (!Decidable.decide
                                                                            (Go.Rx.G.heldCpu
                                                                                ((Go.Rx.G.cstep a m).1, (Go.Rx.G.cstep a m).2.1,
                                                                                  Go.Rx.G.mk Go.Rx.G.mInt (1 : Int) (List.length (Go.Rx.G.cstep a m).2.2.1) (1 : Int),
                                                                                  Go.Rx.G.mk Go.Rx.G.mInt (1 : Int) (List.length (Go.Rx.G.cstep a m).2.2.2.1)
                                                                                    ((1 : Int) + (↑(List.length (Go.Rx.G.cstep a m).2.2.1) : Int)),
                                                                                  (Go.Rx.G.cstep a m).2.2.2.2)
                                                                                (1 : Int) =
                                                                              (1 : Int) + (↑(List.length (Go.Rx.G.cstep a m).2.2.1) : Int) +
                                                                                (↑(List.length (Go.Rx.G.cstep a m).2.2.2.1) : Int))) =
                                                                        Bool.true then
                                                                    Option.some (Bool.false, PUnit.unit)
                                                                  else Option.some (Bool.true, PUnit.unit)
                                                              else Option.none
                                                          else Option.none
                                                        else Option.none
                                                      else Option.none
                                                    else Option.none
                                              else Option.none
                                            else Option.none
                                        else Option.none
                                      else Option.some (Bool.false, PUnit.unit)
                                    else Option.none
                                  else Option.none
                              else Option.none
                            else Option.none
                        else Option.none
                      else Option.none
                  else Option.none
                else Option.none
              else Option.none
            else Option.none
          else Option.none
        else Option.none
      else Option.none) := by kernel_rfl
theorem cstep_few (c : Cells) (m : Cpu) : (G.cstep c m).2.2.1.length ≤ 5 ∧ (G.cstep c m).2.2.2.1.length ≤ 30 := by
  unfold G.cstep
  split
  · rename_i h
    have hg := cpuOk_go h
    split
    · have := (goPre_iff.1 (stepC_ok hg)).2.1
      exact ⟨this.2.2.1, this.2.2.2⟩
    · have := (goPre_iff.1 hg).2.1
      exact ⟨this.2.2.1, this.2.2.2⟩
  · exact ⟨by decide, by decide⟩
theorem szCpu_len {m : Cpu} {l : Int} (h0 : 0 ≤ l) (h1 : l ≤ 1048576) (hn : G.lenCpu m = true) (h : ¬ G.szCpu m l < 0) : m.2.2.1.length ≤ 1048576 ∧ m.2.2.2.1.length ≤ 1048576 := by
  obtain ⟨n1, n2⟩ := lenCpu_iff.1 hn
  unfold G.szCpu at h
  by_cases c1 : G.szS m.2.2.1.length l < 0
  · rw [if_pos c1] at h
    omega
  · obtain ⟨l1, e1⟩ := szS_few h0 h1 n1 c1
    rw [if_neg c1] at h
    by_cases c2 : G.szS m.2.2.2.1.length (G.szS m.2.2.1.length l) < 0
    · rw [if_pos c2] at h
      omega
    · obtain ⟨l2, e2⟩ := szS_few (l := G.szS m.2.2.1.length l) (by omega) (by omega) n2 c2
      omega
theorem sfLawCpuStep (a : Cells) (m : Cpu) (h : (decide (a.length ≤ 9223372036854775807) && G.lenCpu m) = true) : funK cxLawCpuStep Go.Proofs.Try.f3 spLawCpuStep.ins spLawCpuStep.out (a, m, ()) = some (true, ()) := by
  rw [Bool.and_eq_true, decide_eq_true_iff] at h
  rw [eLawCpuStep]
  by_cases h1 : G.szS a.length 1048576 < 0
  · rw [if_pos (decide_eq_true h1)]
  · obtain ⟨ha, ea⟩ := szS_few (by decide) (by decide) h.1 h1
    rw [if_neg (by simpa using h1)]
    by_cases h2 : G.szCpu m (G.szS a.length 1048576) < 0
    · rw [if_pos (decide_eq_true h2)]
    · obtain ⟨fm, hm, lm⟩ := szCpu_few (by omega) (by omega) h.2 h2
      obtain ⟨z1, z2⟩ := szCpu_len (by omega) (by omega) h.2 h2
      rw [if_neg (by simpa using h2)]
      have fa : G.few a.length = true := few_iff.2 (by omega)
      obtain ⟨r1, r2⟩ := cstep_few a m
      generalize G.cstep a m = r at r1 r2 ⊢
      obtain ⟨x, y, s, o, z, u⟩ := r
      obtain ⟨mx, my, ms, mo, mz, mu⟩ := m
      dsimp only at r1 r2 z1 z2 ⊢
      have fr : G.fewCpu (x, y, s, o, z, u) = true := fewCpu_iff.2 ⟨few_iff.2 (by show s.length ≤ _; omega), few_iff.2 (by show o.length ≤ _; omega)⟩
      have p1 : G.mkPre a 1 0 = true := mkPre_iff.2 (by omega)
      have p0 : G.mkPre2 (mx, my, ms, mo, mz, mu) (1 + 2 * (a.length : Int)) = true := mkPre2_iff.2 (by show ms.length ≤ _ ∧ mo.length ≤ _ ∧ _; omega)
      have p2 : G.mkPre2 (x, y, s, o, z, u) 1 = true := mkPre2_iff.2 (by show s.length ≤ _ ∧ o.length ≤ _ ∧ _; omega)
      have p3 : G.mkPre2 (x, y, G.mk G.mInt 1 s.length 1, G.mk G.mInt 1 o.length (1 + (s.length : Int)), z, u) 1 = true := mkPre2_iff.2 (by simp only [mk_length]; omega)
      have e1 : G.heldCpu (x, y, G.mk G.mInt 1 s.length 1, G.mk G.mInt 1 o.length (1 + (s.length : Int)), z, u) 1 = 1 + (s.length : Int) + (o.length : Int) := heldCpu_mk x y z s.length o.length 1
      have n1 : ¬ 1 + 2 * (a.length : Int) + (ms.length : Int) + (mo.length : Int) < 0 := by omega
      have n2 : ¬ 1 + (s.length : Int) + (o.length : Int) < 0 := by omega
      simp only [fa, fm, fr, p0, p1, p2, p3, e1, n1, n2, sameS_self, sameCpu_self, Bool.and_self, if_true, decide_true, decide_false, Bool.not_true, Bool.false_eq_true, if_false]
theorem okLawCpuStep : SpecOk Go.Proofs.Try.prog 3 spLawCpuStep :=
  fun_okB (cx := cxLawCpuStep) (F := Go.Proofs.Try.f3) (cxOk T0_ok T0_eq ph26_ok) mixed (by kernel_rfl) (by decide) (by kernel_rfl) (lps_none (by kernel_rfl)) (fun x h => sfLawCpuStep x.1 x.2.1 h)
end Go.Rx

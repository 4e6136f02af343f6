/-
  MACHINES OF IMAGES: what the functions that compare and copy them compute.
-/
import Derived.Test.YtoagkidolpcigaaBa
namespace Go.Rx
open Go
set_option linter.unusedVariables false
set_option linter.unusedSimpArgs false
theorem int1_ne {x y : Int × Unit} (h : ¬ x = y) : decide (x.1 = y.1) = false := by
  obtain ⟨x1, _⟩ := x
  obtain ⟨y1, _⟩ := y
  simp at h ⊢
  exact h
/-! EqIntS: its loop -/
noncomputable abbrev lsEqIntS : LSpec := ⟨[0, 1, 5, 4], [4], [.c (.dat (.sl intT)), .c (.dat (.sl intT)), .c (.dat I), .c (.dat .bool)], [.c (.dat .bool)], false, fun x => G.eqPre x.1 x.2.1 x.2.2.1,
  fun x => ((if G.eqFrom x.1 x.2.1 x.2.2.1 = true then 0 else 1, (G.eqFrom x.1 x.2.1 x.2.2.1 && x.2.2.2.1, ())), ())⟩
noncomputable abbrev muEqIntS : PKs.den lsEqIntS.ins → Nat := fun x => x.1.length - x.2.2.1.toNat
/-! EqIntS -/
noncomputable abbrev spEqIntS : Spec := ⟨[.c (.dat (.sl intT)), .c (.dat (.sl intT))], .one (.c (.dat .bool)), false, fun x => G.few x.1.length, fun x => (G.sameS x.1 x.2.1, ())⟩
/-! L5Ints: its loop -/
noncomputable abbrev lsL5Ints : LSpec := ⟨[0, 1, 5, 4], [4], [.c (.dat (.sl intT)), .c (.dat (.sl intT)), .c (.dat I), .c (.dat .bool)], [.c (.dat .bool)], false, fun x => G.eqPre x.1 x.2.1 x.2.2.1,
  fun x => ((if G.eqFrom x.1 x.2.1 x.2.2.1 = true then 0 else 1, (G.eqFrom x.1 x.2.1 x.2.2.1 && x.2.2.2.1, ())), ())⟩
noncomputable abbrev muL5Ints : PKs.den lsL5Ints.ins → Nat := fun x => x.1.length - x.2.2.1.toNat
/-! L5Ints -/
noncomputable abbrev spL5Ints : Spec := ⟨[.c (.dat (.sl intT)), .c (.dat (.sl intT))], .one (.c (.dat .bool)), false, fun x => G.few x.1.length, fun x => (G.sameS x.1 x.2.1, ())⟩
/-! SlEqInt: its loop -/
noncomputable abbrev lsSlEqInt : LSpec := ⟨[0, 1, 12, 13, 4], [4], [.c (.dat (.sl intT)), .c (.dat (.sl intT)), .c (.dat I), .c (.dat I), .c (.dat .bool)], [.c (.dat .bool)], false, fun x => G.eqPreR x.1 x.2.1 x.2.2.1 x.2.2.2.1,
  fun x => ((if G.eqFrom x.1 x.2.1 x.2.2.2.1 = true then 0 else 1, (G.eqFrom x.1 x.2.1 x.2.2.2.1 && x.2.2.2.2.1, ())), ())⟩
noncomputable abbrev cxSlEqInt : Cx := mkCx T0 ph3 [(0, lsSlEqInt)] [] 26
theorem rSlEqInt (a b : List (Int × Unit)) (n : Int) (i : Int) (r : Bool) : roundK cxSlEqInt 0 (loopIn Go.Proofs.Try.f76 0) lsSlEqInt (a, b, n, i, r, ()) =
  (if Decidable.decide (i < n) = Bool.true then
    if Decidable.decide ((0 : Int) ≤ i) = Bool.true then
      if Decidable.decide (i < (↑(List.length a) : Int)) = Bool.true then
        if Decidable.decide ((0 : Int) ≤ i) = Bool.true then
          if Decidable.decide (i < (↑(List.length b) : Int)) = Bool.true then
            if (!Decidable.decide ((List.getD a (Int.toNat i) ((0 : Int), PUnit.unit)).1 = (List.getD b (Int.toNat i) ((0 : Int), PUnit.unit)).1)) = Bool.true then
              Option.some (Go.Rx.LRes.stop (1 : Nat) (Bool.false, PUnit.unit) PUnit.unit)
            else Option.some (Go.Rx.LRes.go (a, b, n, Go.IntKind.wrap Go.IntKind.i64 (i + (1 : Int)), r, PUnit.unit))
          else Option.none
        else Option.none
      else Option.none
    else Option.none
  else Option.some (Go.Rx.LRes.stop (0 : Nat) (r, PUnit.unit) PUnit.unit)) := by kernel_rfl
noncomputable abbrev muSlEqInt : PKs.den lsSlEqInt.ins → Nat := fun x => x.1.length - x.2.2.2.1.toNat
theorem stSlEqInt (a b : List (Int × Unit)) (n : Int) (i : Int) (r : Bool) (h : G.eqPreR a b n i = true) : StepOk lsSlEqInt (eqInv lsSlEqInt) muSlEqInt (a, b, n, i, r, ()) (roundK cxSlEqInt 0 (loopIn Go.Proofs.Try.f76 0) lsSlEqInt (a, b, n, i, r, ())) := by
  obtain ⟨h0, h1, h2, h3, h4⟩ := eqPreR_iff.1 h
  rw [rSlEqInt]
  by_cases hi : i < (a.length : Int)
  · have hb : i < (b.length : Int) := by omega
    have hn : i < n := by omega
    have hw : IntKind.i64.wrap (i + 1) = i + 1 := w64 (by omega) (by omega)
    have he := eqFrom_step (((0 : Int), ()) : Int × Unit) h0 hi hb
    simp only [hi, hb, h0, decide_true, if_true, hw, hn]
    generalize a.getD i.toNat (((0 : Int), ()) : Int × Unit) = x at *
    generalize b.getD i.toNat (((0 : Int), ()) : Int × Unit) = y at *
    by_cases hc : x = y
    · subst hc
      simp at he
      simp [G.eqCell]
      refine ⟨(show G.eqPreR a b n (i + 1) = true from eqPreR_iff.2 ⟨by omega, by omega, h2, h3, h4⟩), ?_, ?_⟩
      · show a.length - (i + 1).toNat < a.length - i.toNat
        omega
      · show ((_, _), _) = ((_, _), _)
        simp only [he]
    · simp only [hc, decide_false, Bool.false_and] at he
      have hcc := int1_ne hc
      simp only [hcc, Bool.not_false, if_true]
      show ((_, _), _) = ((_, _), _)
      simp only [he]
      simp
  · have he : G.eqFrom a b i = true := eqFrom_end (by omega) (by omega)
    have hn : ¬ i < n := by omega
    simp only [hi, decide_false, hn]
    show ((_, _), _) = ((_, _), _)
    simp only [he]
    simp
theorem lpSlEqInt : LpOk Go.Proofs.Try.prog cxSlEqInt.ntmps 0 (loopIn Go.Proofs.Try.f76 0) lsSlEqInt :=
  lp_okB (cxOk T0_ok T0_eq ph3_ok) mixed (by kernel_rfl) (lps_none (by kernel_rfl)) (eqInv lsSlEqInt) muSlEqInt (fun _ h => h) (fun x h => stSlEqInt x.1 x.2.1 x.2.2.1 x.2.2.2.1 x.2.2.2.2.1 h)
/-! SlEqInt -/
noncomputable abbrev spSlEqInt : Spec := ⟨[.c (.dat (.sl intT)), .c (.dat (.sl intT))], .one (.c (.dat .bool)), false, fun x => G.few x.1.length, fun x => (G.sameS x.1 x.2.1, ())⟩
theorem eSlEqInt (a b : List (Int × Unit)) : funK cxSlEqInt Go.Proofs.Try.f76 spSlEqInt.ins spSlEqInt.out (a, b, ()) =
  (if (!Decidable.decide ((↑(List.length a) : Int) = (↑(List.length b) : Int))) = Bool.true then Option.some (Bool.false, PUnit.unit)
  else
    if Go.Rx.G.eqPreR a b (↑(List.length a) : Int) (0 : Int) = Bool.true then
      if (if Go.Rx.G.eqFrom a b (0 : Int) = Bool.true then (0 : Nat) else (1 : Nat)) = (0 : Nat) then Option.some (Bool.true, PUnit.unit)
      else
        if (if Go.Rx.G.eqFrom a b (0 : Int) = Bool.true then (0 : Nat) else (1 : Nat)) = (1 : Nat) then Option.some (Go.Rx.G.eqFrom a b (0 : Int) && Bool.false, PUnit.unit)
        else Option.none
    else Option.none) := by kernel_rfl
theorem sfSlEqInt (a b : List (Int × Unit)) (h : G.few a.length = true) : funK cxSlEqInt Go.Proofs.Try.f76 spSlEqInt.ins spSlEqInt.out (a, b, ()) = some (G.sameS a b, ()) := by
  rw [eSlEqInt]
  by_cases hl : a.length = b.length
  · have hp : G.eqPreR a b (a.length : Int) 0 = true := eqPreR_iff.2 ⟨by omega, by omega, hl, few_iff.1 h, rfl⟩
    skip
    have he : G.eqFrom a b 0 = G.sameS a b := eqFrom_zero a b
    simp only [hp, he]
    cases G.sameS a b <;> simp [hl]
  · have : G.sameS a b = false := by
      simp only [G.sameS, decide_eq_false_iff_not]
      intro e
      exact hl (by rw [e])
    simp only [this]
    rw [if_pos (by simp; omega)]
theorem okSlEqInt : SpecOk Go.Proofs.Try.prog 76 spSlEqInt :=
  fun_okB (cx := cxSlEqInt) (F := Go.Proofs.Try.f76) (cxOk T0_ok T0_eq ph3_ok) mixed (by kernel_rfl) (by decide) (by kernel_rfl) (lps_of (l := [(0, loopIn Go.Proofs.Try.f76 0)]) (by kernel_rfl) ⟨lp_at lpSlEqInt rfl, trivial⟩)
    (fun x h => sfSlEqInt x.1 x.2.1 h)
/-! ToIntS: its loop -/
noncomputable abbrev lsToIntS : LSpec := ⟨[0, 3, 4], [3], [.c (.dat (.sl intT)), .c (.own intT), .c (.dat I)], [.c (.own intT)], false, fun x => G.cpPre x.1 x.2.1 x.2.2.1,
  fun x => ((0, (G.fill x.1 x.2.1 x.2.2.1, ())), ())⟩
noncomputable abbrev muToIntS : PKs.den lsToIntS.ins → Nat := fun x => x.1.length - x.2.2.1.toNat
/-! ToIntS -/
noncomputable abbrev spToIntS : Spec := ⟨[.c (.dat (.sl intT))], .one (.c (.own intT)), false, fun x => G.few x.1.length, fun x => (x.1, ())⟩
/-! SzIntS -/
noncomputable abbrev spSzIntS : Spec := ⟨[IntSP, .c (.dat I)], .one (.c (.dat I)), false, fun x => true, fun x => (G.szS x.1.length x.2.1, ())⟩
noncomputable abbrev ph4 : List (Nat × List Spec) := (76, [spSlEqInt]) :: ph3
theorem ph4_ok : PhiOk Go.Proofs.Try.prog ph4 := ⟨⟨okSlEqInt, trivial⟩, ph3_ok⟩

abbrev CpuK : List CK := [.dat I, .dat I, .dat (.sl intT), .dat (.sl intT), .dat I]
abbrev Cpu := Int × Int × Ints × Ints × Int × Unit
/-- Both lists of a machine are of a length that no number runs over. -/
def G.fewCpu (m : Cpu) : Bool := G.few m.2.2.1.length && G.few m.2.2.2.1.length
theorem fewCpu_iff {m : Cpu} : G.fewCpu m = true ↔ (G.few m.2.2.1.length = true ∧ G.few m.2.2.2.1.length = true) := by simp [G.fewCpu]
def G.szCpu (m : Cpu) (l : Int) : Int := if G.szS m.2.2.1.length l < 0 then -1 else if G.szS m.2.2.2.1.length (G.szS m.2.2.1.length l) < 0 then -1 else G.szS m.2.2.2.1.length (G.szS m.2.2.1.length l)
def G.sameCpu (a b : Cpu) : Bool := decide (a = b)
theorem sameCpu_self (a : Cpu) : G.sameCpu a a = true := by simp [G.sameCpu]
/-! SzCpu -/
noncomputable abbrev spSzCpu : Spec := ⟨[.agg CpuK, .c (.dat I)], .one (.c (.dat I)), false, fun x => true, fun x => (G.szCpu x.1 x.2.1, ())⟩
/-! SpCpuSame -/
noncomputable abbrev spSpCpuSame : Spec := ⟨[.agg CpuK, .agg CpuK], .one (.c (.dat .bool)), false, fun x => G.fewCpu x.1, fun x => (G.sameCpu x.1 x.2.1, ())⟩
/-! CpuSame -/
noncomputable abbrev spCpuSame : Spec := ⟨[.agg CpuK, .agg CpuK], .one (.c (.dat .bool)), false, fun x => G.fewCpu x.1, fun x => (G.sameCpu x.1 x.2.1, ())⟩
/-! EqCpu -/
noncomputable abbrev spEqCpu : Spec := ⟨[.agg CpuK, .agg CpuK], .one (.c (.dat .bool)), false, fun x => G.fewCpu x.1, fun x => (G.sameCpu x.1 x.2.1, ())⟩
/-! ToCpu -/
noncomputable abbrev spToCpu : Spec := ⟨[.agg CpuK], .one (.agg CpuK), true, fun x => G.fewCpu x.1, fun x => (x.1, ())⟩
noncomputable abbrev ph5 : List (Nat × List Spec) := ph4
theorem ph5_ok : PhiOk Go.Proofs.Try.prog ph5 := ph4_ok

def G.lenCpu (m : Cpu) : Bool := decide (m.2.2.1.length ≤ 9223372036854775807 ∧ m.2.2.2.1.length ≤ 9223372036854775807)
theorem lenCpu_iff {m : Cpu} : G.lenCpu m = true ↔ (m.2.2.1.length ≤ 9223372036854775807 ∧ m.2.2.2.1.length ≤ 9223372036854775807) := by simp [G.lenCpu]
theorem szCpu_few {m : Cpu} {l : Int} (h0 : 0 ≤ l) (h1 : l ≤ 1048576) (hn : G.lenCpu m = true) (h : ¬ G.szCpu m l < 0) : G.fewCpu m = true ∧ 0 ≤ G.szCpu m l ∧ G.szCpu m l ≤ l := by
  obtain ⟨n1, n2⟩ := lenCpu_iff.1 hn
  unfold G.szCpu at h ⊢
  by_cases c1 : G.szS m.2.2.1.length l < 0
  · rw [if_pos c1] at h
    omega
  · obtain ⟨l1, e1⟩ := szS_few h0 h1 n1 c1
    rw [if_neg c1] at h ⊢
    by_cases c2 : G.szS m.2.2.2.1.length (G.szS m.2.2.1.length l) < 0
    · rw [if_pos c2] at h
      omega
    · obtain ⟨l2, e2⟩ := szS_few (l := G.szS m.2.2.1.length l) (by omega) (by omega) n2 c2
      rw [if_neg c2]
      exact ⟨fewCpu_iff.2 ⟨few_iff.2 (by omega), few_iff.2 (by omega)⟩, by omega, by omega⟩
/-! LawCpuSame -/
noncomputable abbrev spLawCpuSame : Spec := ⟨[.agg CpuK, .agg CpuK], .one (.c (.dat .bool)), false, fun x => G.lenCpu x.1 && G.lenCpu x.2.1, fun x => (true, ())⟩
end Go.Rx

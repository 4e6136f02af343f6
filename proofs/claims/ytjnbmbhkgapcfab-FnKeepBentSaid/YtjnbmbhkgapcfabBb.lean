/-
  MACHINES OF IMAGES: what the functions that compare and copy them compute.
-/
import Derived.Test.YtjnbmbhkgapcfabBa
namespace Go.Rx
open Go
set_option linter.unusedVariables false
set_option linter.unusedSimpArgs false
theorem int1_ne {x y : Int × Unit} (h : ¬ x = y) : decide (x.1 = y.1) = false := by
  obtain ⟨x1, _⟩ := x
  obtain ⟨y1, _⟩ := y
  simp at h ⊢
  exact h
/-! EqIntS: its loop -/
noncomputable abbrev lsEqIntS : LSpec := ⟨[0, 1, 5, 4], [4], [.c (.dat (.sl intT)), .c (.dat (.sl intT)), .c (.dat I), .c (.dat .bool)], [.c (.dat .bool)], false, fun x => G.eqPre x.1 x.2.1 x.2.2.1,
  fun x => ((if G.eqFrom x.1 x.2.1 x.2.2.1 = true then 0 else 1, (G.eqFrom x.1 x.2.1 x.2.2.1 && x.2.2.2.1, ())), ())⟩
noncomputable abbrev muEqIntS : PKs.den lsEqIntS.ins → Nat := fun x => x.1.length - x.2.2.1.toNat
/-! EqIntS -/
noncomputable abbrev spEqIntS : Spec := ⟨[.c (.dat (.sl intT)), .c (.dat (.sl intT))], .one (.c (.dat .bool)), false, fun x => G.few x.1.length, fun x => (G.sameS x.1 x.2.1, ())⟩
/-! L5Ints: its loop -/
noncomputable abbrev lsL5Ints : LSpec := ⟨[0, 1, 5, 4], [4], [.c (.dat (.sl intT)), .c (.dat (.sl intT)), .c (.dat I), .c (.dat .bool)], [.c (.dat .bool)], false, fun x => G.eqPre x.1 x.2.1 x.2.2.1,
  fun x => ((if G.eqFrom x.1 x.2.1 x.2.2.1 = true then 0 else 1, (G.eqFrom x.1 x.2.1 x.2.2.1 && x.2.2.2.1, ())), ())⟩
noncomputable abbrev muL5Ints : PKs.den lsL5Ints.ins → Nat := fun x => x.1.length - x.2.2.1.toNat
/-! L5Ints -/
noncomputable abbrev spL5Ints : Spec := ⟨[.c (.dat (.sl intT)), .c (.dat (.sl intT))], .one (.c (.dat .bool)), false, fun x => G.few x.1.length, fun x => (G.sameS x.1 x.2.1, ())⟩
/-! SlEqInt: its loop -/
noncomputable abbrev lsSlEqInt : LSpec := ⟨[0, 1, 12, 13, 4], [4], [.c (.dat (.sl intT)), .c (.dat (.sl intT)), .c (.dat I), .c (.dat I), .c (.dat .bool)], [.c (.dat .bool)], false, fun x => G.eqPreR x.1 x.2.1 x.2.2.1 x.2.2.2.1,
  fun x => ((if G.eqFrom x.1 x.2.1 x.2.2.2.1 = true then 0 else 1, (G.eqFrom x.1 x.2.1 x.2.2.2.1 && x.2.2.2.2.1, ())), ())⟩
noncomputable abbrev muSlEqInt : PKs.den lsSlEqInt.ins → Nat := fun x => x.1.length - x.2.2.2.1.toNat
/-! SlEqInt -/
noncomputable abbrev spSlEqInt : Spec := ⟨[.c (.dat (.sl intT)), .c (.dat (.sl intT))], .one (.c (.dat .bool)), false, fun x => G.few x.1.length, fun x => (G.sameS x.1 x.2.1, ())⟩
/-! ToIntS: its loop -/
noncomputable abbrev lsToIntS : LSpec := ⟨[0, 3, 4], [3], [.c (.dat (.sl intT)), .c (.own intT), .c (.dat I)], [.c (.own intT)], false, fun x => G.cpPre x.1 x.2.1 x.2.2.1,
  fun x => ((0, (G.fill x.1 x.2.1 x.2.2.1, ())), ())⟩
noncomputable abbrev muToIntS : PKs.den lsToIntS.ins → Nat := fun x => x.1.length - x.2.2.1.toNat
/-! ToIntS -/
noncomputable abbrev spToIntS : Spec := ⟨[.c (.dat (.sl intT))], .one (.c (.own intT)), false, fun x => G.few x.1.length, fun x => (x.1, ())⟩
/-! SzIntS -/
noncomputable abbrev spSzIntS : Spec := ⟨[IntSP, .c (.dat I)], .one (.c (.dat I)), false, fun x => true, fun x => (G.szS x.1.length x.2.1, ())⟩
noncomputable abbrev ph4 : List (Nat × List Spec) := ph3
theorem ph4_ok : PhiOk Go.Proofs.Try.prog ph4 := ph3_ok

abbrev CpuK : List CK := [.dat I, .dat I, .dat (.sl intT), .dat (.sl intT), .dat I]
abbrev Cpu := Int × Int × Ints × Ints × Int × Unit
/-- Both lists of a machine are of a length that no number runs over. -/
def G.fewCpu (m : Cpu) : Bool := G.few m.2.2.1.length && G.few m.2.2.2.1.length
theorem fewCpu_iff {m : Cpu} : G.fewCpu m = true ↔ (G.few m.2.2.1.length = true ∧ G.few m.2.2.2.1.length = true) := by simp [G.fewCpu]
def G.szCpu (m : Cpu) (l : Int) : Int := if G.szS m.2.2.1.length l < 0 then -1 else if G.szS m.2.2.2.1.length (G.szS m.2.2.1.length l) < 0 then -1 else G.szS m.2.2.2.1.length (G.szS m.2.2.1.length l)
def G.sameCpu (a b : Cpu) : Bool := decide (a = b)
theorem sameCpu_self (a : Cpu) : G.sameCpu a a = true := by simp [G.sameCpu]
/-! SzCpu -/
noncomputable abbrev spSzCpu : Spec := ⟨[.agg CpuK, .c (.dat I)], .one (.c (.dat I)), false, fun x => true, fun x => (G.szCpu x.1 x.2.1, ())⟩
/-! SpCpuSame -/
noncomputable abbrev spSpCpuSame : Spec := ⟨[.agg CpuK, .agg CpuK], .one (.c (.dat .bool)), false, fun x => G.fewCpu x.1, fun x => (G.sameCpu x.1 x.2.1, ())⟩
/-! CpuSame -/
noncomputable abbrev spCpuSame : Spec := ⟨[.agg CpuK, .agg CpuK], .one (.c (.dat .bool)), false, fun x => G.fewCpu x.1, fun x => (G.sameCpu x.1 x.2.1, ())⟩
/-! EqCpu -/
noncomputable abbrev spEqCpu : Spec := ⟨[.agg CpuK, .agg CpuK], .one (.c (.dat .bool)), false, fun x => G.fewCpu x.1, fun x => (G.sameCpu x.1 x.2.1, ())⟩
/-! ToCpu -/
noncomputable abbrev spToCpu : Spec := ⟨[.agg CpuK], .one (.agg CpuK), true, fun x => G.fewCpu x.1, fun x => (x.1, ())⟩
noncomputable abbrev ph5 : List (Nat × List Spec) := ph4
theorem ph5_ok : PhiOk Go.Proofs.Try.prog ph5 := ph4_ok

def G.lenCpu (m : Cpu) : Bool := decide (m.2.2.1.length ≤ 9223372036854775807 ∧ m.2.2.2.1.length ≤ 9223372036854775807)
theorem lenCpu_iff {m : Cpu} : G.lenCpu m = true ↔ (m.2.2.1.length ≤ 9223372036854775807 ∧ m.2.2.2.1.length ≤ 9223372036854775807) := by simp [G.lenCpu]
theorem szCpu_few {m : Cpu} {l : Int} (h0 : 0 ≤ l) (h1 : l ≤ 1048576) (hn : G.lenCpu m = true) (h : ¬ G.szCpu m l < 0) : G.fewCpu m = true ∧ 0 ≤ G.szCpu m l ∧ G.szCpu m l ≤ l := by
  obtain ⟨n1, n2⟩ := lenCpu_iff.1 hn
  unfold G.szCpu at h ⊢
  by_cases c1 : G.szS m.2.2.1.length l < 0
  · rw [if_pos c1] at h
    omega
  · obtain ⟨l1, e1⟩ := szS_few h0 h1 n1 c1
    rw [if_neg c1] at h ⊢
    by_cases c2 : G.szS m.2.2.2.1.length (G.szS m.2.2.1.length l) < 0
    · rw [if_pos c2] at h
      omega
    · obtain ⟨l2, e2⟩ := szS_few (l := G.szS m.2.2.1.length l) (by omega) (by omega) n2 c2
      rw [if_neg c2]
      exact ⟨fewCpu_iff.2 ⟨few_iff.2 (by omega), few_iff.2 (by omega)⟩, by omega, by omega⟩
/-! LawCpuSame -/
noncomputable abbrev spLawCpuSame : Spec := ⟨[.agg CpuK, .agg CpuK], .one (.c (.dat .bool)), false, fun x => G.lenCpu x.1 && G.lenCpu x.2.1, fun x => (true, ())⟩
end Go.Rx

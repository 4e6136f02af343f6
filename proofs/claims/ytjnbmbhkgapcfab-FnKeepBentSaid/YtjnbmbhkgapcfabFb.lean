/-
  MACHINES OF PROGRAMS: a step, as both packages take it; runs.
-/
import Derived.Test.YtjnbmbhkgapcfabFa
namespace Go.Rx
open Go
set_option linter.unusedVariables false
set_option linter.unusedSimpArgs false
/-! L5Copy -/
noncomputable abbrev spL5Copy : Spec := ⟨[.agg MachK], .one (.agg MachO), false, fun x => G.fewMach x.1, fun x => (x.1, ())⟩
/-! MClone -/
noncomputable abbrev spMClone : Spec := ⟨[.agg MachK], .one (.agg MachO), false, fun x => G.fewMach x.1, fun x => (x.1, ())⟩
def G.midM (m : Mach) : Bool := decide (-1000 ≤ m.1 ∧ m.1 ≤ 1000 ∧ -1000 ≤ m.2.1 ∧ m.2.1 ≤ 1000 ∧ m.2.2.2.1.length ≤ 5 ∧ m.2.2.2.2.1.length ≤ 30)
theorem midM_iff {m : Mach} : G.midM m = true ↔ (-1000 ≤ m.1 ∧ m.1 ≤ 1000 ∧ -1000 ≤ m.2.1 ∧ m.2.1 ≤ 1000 ∧ m.2.2.2.1.length ≤ 5 ∧ m.2.2.2.2.1.length ≤ 30) := by simp [G.midM]
/-! L5Say -/
noncomputable abbrev spL5Say : Spec := ⟨[.agg MachO], .one (.agg MachO), false, fun x => G.midM x.1, fun x => (G.sayM x.1, ())⟩
/-! L5Call -/
noncomputable abbrev spL5Call : Spec := ⟨[FunSP, .agg MachO, StrP], .one (.agg MachO), false, fun x => G.few x.1.length && G.midM x.2.1, fun x => (G.callM (G.find x.1 x.2.2.1) x.2.1, ())⟩
/-! L5Ret -/
noncomputable abbrev spL5Ret : Spec := ⟨[.agg MachO], .one (.agg MachO), false, fun x => G.midM x.1, fun x => (G.retM x.1, ())⟩
def G.coreM (m : Mach) (op n t0 t1 b0 b1 : Int) : Mach :=
  if op = 1 then (if m.2.2.2.2.1.length = 30 then (m.1, m.2.1, m.2.2.1, m.2.2.2.1, m.2.2.2.2.1, 4, ()) else (b0, b1, m.2.2.1, m.2.2.2.1, m.2.2.2.2.1 ++ [(m.2.2.1, ())], m.2.2.2.2.2.1, ()))
  else if op = 2 then (b0, b1, G.sum m.2.2.1 n, m.2.2.2.1, m.2.2.2.2.1, m.2.2.2.2.2.1, ())
  else if op = 3 then (if m.2.2.2.1.length = 5 then (m.1, m.2.1, m.2.2.1, m.2.2.2.1, m.2.2.2.2.1, 2, ()) else (t0, t1, m.2.2.1, m.2.2.2.1 ++ [(b0, b1, ())], m.2.2.2.2.1, m.2.2.2.2.2.1, ()))
  else if op = 4 then (t0, t1, m.2.2.1, m.2.2.2.1, m.2.2.2.2.1, m.2.2.2.2.2.1, ())
  else if op = 5 then (if m.2.2.1 > 0 then (t0, t1, m.2.2.1, m.2.2.2.1, m.2.2.2.2.1, m.2.2.2.2.2.1, ()) else (b0, b1, m.2.2.1, m.2.2.2.1, m.2.2.2.2.1, m.2.2.2.2.2.1, ()))
  else if op = 6 then G.retM m
  else (m.1, m.2.1, m.2.2.1, m.2.2.2.1, m.2.2.2.2.1, 1, ())
/-! MCore -/
noncomputable abbrev spMCore : Spec := ⟨[.box MachO, IntP, IntP, .agg SpotK, .agg SpotK], .none, false, fun x => G.midM x.1, fun x => ((), (G.coreM x.1 x.2.1 x.2.2.1 x.2.2.2.1.1 x.2.2.2.1.2.1 x.2.2.2.2.1.1 x.2.2.2.2.1.2.1, ()))⟩
noncomputable abbrev pm1 : List (Nat × List Spec) := pg28
theorem pm1_ok : PhiOk Go.Proofs.Try.prog pm1 := pg28_ok
/-! L5Do -/
noncomputable abbrev spL5Do : Spec := ⟨[FunSP, .agg MachO], .one (.agg MachO), false, fun x => G.goM x.1 x.2.1, fun x => (G.stepM x.1 x.2.1, ())⟩
/-! MStep -/
noncomputable abbrev spMStep : Spec := ⟨[.agg MachO, FunSP], .one (.agg MachO), false, fun x => G.goM x.2.1 x.1, fun x => (G.stepM x.2.1 x.1, ())⟩
theorem goM_mid {p : Funs} {m : Mach} (h : G.goM p m = true) : G.midM m = true ∧ 0 ≤ m.2.1 ∧ m.2.1 ≤ 10 ∧ 0 ≤ m.1 ∧ m.1 ≤ 40 := by
  obtain ⟨⟨h1, h2⟩, h3, ⟨h4, h5⟩, h6⟩ := goM_iff.1 h
  obtain ⟨⟨s1, s2⟩, s3, s4⟩ := spotOk_iff.1 h3
  obtain ⟨⟨k1, k2⟩, k3, k4⟩ := (keepOk_iff p).1 h2
  obtain ⟨g1, g2⟩ := (funsOk_iff p).1 k3 m.1.toNat (by omega)
  obtain ⟨g3, g4, g5, g6⟩ := (funOk_iff _).1 g1
  exact ⟨midM_iff.2 (by omega), by omega, by omega, by omega, by omega⟩
theorem goM_fewP {p : Funs} {m : Mach} (h : G.goM p m = true) : G.few p.length = true := by
  obtain ⟨⟨h1, h2⟩, _⟩ := goM_iff.1 h
  exact few_iff.2 (smallP_iff.1 h1).1
theorem core_step {p : Funs} {m : Mach} (h : G.goM p m = true) : G.coreM m (G.insOf p m.1 m.2.1).1 (G.insOf p m.1 m.2.1).2.1 (if G.find p (G.insOf p m.1 m.2.1).2.2.1 > 0 then G.find p (G.insOf p m.1 m.2.1).2.2.1 else 0) 0 m.1 (m.2.1 + 1) = G.stepM p m := by
  obtain ⟨⟨h1, h2⟩, h3, ⟨h4, h5⟩, h6⟩ := goM_iff.1 h
  obtain ⟨f1, f2, f3⟩ := ins_facts h2 h3
  unfold G.stepM
  generalize G.insOf p m.1 m.2.1 = x at f1 f2 f3 ⊢
  obtain ⟨op, n, s, u⟩ := x
  dsimp only at f1 f2 f3 ⊢
  have ht : op = 3 ∨ op = 4 ∨ op = 5 → (if G.find p s > 0 then G.find p s else 0) = G.find p s := fun e => by
    have := (f2 e).1
    split <;> omega
  generalize (if G.find p s > 0 then G.find p s else 0) = t at ht ⊢
  unfold G.coreM G.stepI
  rcases f1 with rfl | rfl | rfl | rfl | rfl | rfl | rfl
  · unfold G.sayM
    by_cases c5 : 30 ≤ m.2.2.2.2.1.length
    · have e : m.2.2.2.2.1.length = 30 := by omega
      show (if m.2.2.2.2.1.length = 30 then _ else _) = (if 30 ≤ m.2.2.2.2.1.length then _ else _)
      rw [if_pos e, if_pos c5]
    · show (if m.2.2.2.2.1.length = 30 then _ else _) = (if 30 ≤ m.2.2.2.2.1.length then _ else _)
      rw [if_neg (by omega), if_neg c5]
  · rfl
  · rw [ht (by omega)]
    unfold G.callM
    by_cases c5 : 5 ≤ m.2.2.2.1.length
    · have e : m.2.2.2.1.length = 5 := by omega
      show (if m.2.2.2.1.length = 5 then _ else _) = (if 5 ≤ m.2.2.2.1.length then _ else _)
      rw [if_pos e, if_pos c5]
    · show (if m.2.2.2.1.length = 5 then _ else _) = (if 5 ≤ m.2.2.2.1.length then _ else _)
      rw [if_neg (by omega), if_neg c5]
  · rw [ht (by omega)]
    rfl
  · rw [ht (by omega)]
    rfl
  · rfl
  · rfl
noncomputable abbrev pm2 : List (Nat × List Spec) := pm1
theorem pm2_ok : PhiOk Go.Proofs.Try.prog pm2 := pm1_ok
/-! runs -/
def G.rmPre (p : Funs) (fuel : Int) (m : Mach) (i : Int) : Bool := decide (0 ≤ i ∧ i ≤ fuel ∧ fuel ≤ 200) && G.goM p m
theorem rmPre_iff {p : Funs} {fuel i : Int} {m : Mach} : G.rmPre p fuel m i = true ↔ ((0 ≤ i ∧ i ≤ fuel ∧ fuel ≤ 200) ∧ G.goM p m = true) := by simp [G.rmPre]
noncomputable abbrev lsSpMachRun : LSpec := ⟨[0, 1, 5, 6], [], [FunSP, IntP, .box MachO, IntP], [], false, fun x => G.rmPre x.1 x.2.1 x.2.2.1 x.2.2.2.1, fun x => ((0, ()), (G.runM x.1 (x.2.1 - x.2.2.2.1).toNat x.2.2.1, ()))⟩
/-! SpMachRun -/
noncomputable abbrev spSpMachRun : Spec := ⟨[FunSP, IntP], .one (.agg MachO), false, fun x => G.smallP x.1, fun x => (G.machRun x.1 x.2.1, ())⟩
noncomputable abbrev lsMachRun : LSpec := ⟨[0, 1, 5], [], [FunSP, IntP, .box MachO], [], false, fun x => G.rmPre x.1 x.2.1 x.2.2.1 0, fun x => ((0, ()), (G.runM x.1 x.2.1.toNat x.2.2.1, ()))⟩
/-! MachRun -/
noncomputable abbrev spMachRun : Spec := ⟨[FunSP, IntP], .one (.agg MachO), false, fun x => G.smallP x.1, fun x => (G.machRun x.1 x.2.1, ())⟩
noncomputable abbrev muSpMachRun : PKs.den lsSpMachRun.ins → Nat := fun x => (x.2.1 - x.2.2.2.1).toNat
noncomputable abbrev muMachRun : PKs.den lsMachRun.ins → Nat := fun x => x.2.1.toNat
/-! machines compared -/
theorem spot_ne {x y : Int × Int × Unit} (h : ¬ x = y) : (decide (x.1 = y.1) && (decide (x.2.1 = y.2.1) && true)) = false := by
  rw [Bool.eq_false_iff]
  intro e
  simp at e
  exact h (Prod.ext e.1 (Prod.ext e.2 rfl))
/-! SlEqSpot: its loop -/
noncomputable abbrev lsSlEqSpot : LSpec := ⟨[0, 1, 12, 13, 4], [4], [.c (.dat (.sl spotT)), .c (.dat (.sl spotT)), .c (.dat I), .c (.dat I), .c (.dat .bool)], [.c (.dat .bool)], false, fun x => G.eqPreR x.1 x.2.1 x.2.2.1 x.2.2.2.1,
  fun x => ((if G.eqFrom x.1 x.2.1 x.2.2.2.1 = true then 0 else 1, (G.eqFrom x.1 x.2.1 x.2.2.2.1 && x.2.2.2.2.1, ())), ())⟩
noncomputable abbrev muSlEqSpot : PKs.den lsSlEqSpot.ins → Nat := fun x => x.1.length - x.2.2.2.1.toNat
/-! SlEqSpot -/
noncomputable abbrev spSlEqSpot : Spec := ⟨[.c (.dat (.sl spotT)), .c (.dat (.sl spotT))], .one (.c (.dat .bool)), false, fun x => G.few x.1.length, fun x => (G.sameS x.1 x.2.1, ())⟩
noncomputable abbrev pm3 : List (Nat × List Spec) := pm2
theorem pm3_ok : PhiOk Go.Proofs.Try.prog pm3 := pm2_ok
instance decSpots : DecidableEq (List (Int × Int × Unit)) := inferInstance
instance decInts : DecidableEq (List (Int × Unit)) := inferInstance
instance decMachT : DecidableEq (List (Int × Unit) × Int × Unit) := inferInstance
instance decMachS : DecidableEq (List (Int × Int × Unit) × List (Int × Unit) × Int × Unit) := inferInstance
instance decMach : DecidableEq (Int × Int × Int × List (Int × Int × Unit) × List (Int × Unit) × Int × Unit) := inferInstance
def G.sameM (a b : Mach) : Bool := decide (a = b)
theorem sameM_self (a : Mach) : G.sameM a a = true := by simp [G.sameM]
/-! MachSame -/
noncomputable abbrev spMachSame : Spec := ⟨[.agg MachK, .agg MachK], BoolR, false, fun x => G.fewMach x.1, fun x => (G.sameM x.1 x.2.1, ())⟩
end Go.Rx

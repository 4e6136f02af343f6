/-
  MACHINES OF PROGRAMS: which are right, and one step of whatever machine.
-/
import Derived.Test.YtoagkidolpcigaaFb
namespace Go.Rx
open Go
set_option linter.unusedVariables false
set_option linter.unusedSimpArgs false
/-! IsSpot -/
noncomputable abbrev spIsSpot : Spec := ⟨[FunSP, .agg SpotK], BoolR, false, fun x => G.smallP x.1, fun x => (G.spotOk x.1 x.2.1.1 x.2.1.2.1, ())⟩
/-! L5Spot -/
noncomputable abbrev spL5Spot : Spec := ⟨[FunSP, .agg SpotK], BoolR, false, fun x => G.smallP x.1, fun x => (G.spotOk x.1 x.2.1.1 x.2.1.2.1, ())⟩
theorem small_body {p : Funs} (h : G.smallP p = true) {k : Nat} (hk : k < p.length) : (G.pAt p k).2.2.1.length ≤ 1099511627776 := (smallF_iff.1 (smallF_at (smallP_iff.1 h).2 hk)).2.1
noncomputable abbrev pm4 : List (Nat × List Spec) := pm3
theorem pm4_ok : PhiOk Go.Proofs.Try.prog pm4 := pm3_ok
/-! NoSpot -/
noncomputable abbrev spNoSpot : Spec := ⟨[.agg SpotK, .box [.dat (.sl funT)]], BoolR, true, fun x => G.smallP x.2.1.1, fun x => (!G.spotOk x.2.1.1 x.1.1 x.1.2.1, x.2.1, ())⟩
noncomputable abbrev pm5 : List (Nat × List Spec) := pm4
theorem pm5_ok : PhiOk Go.Proofs.Try.prog pm5 := pm4_ok
abbrev SpotD := (Funs × Unit) × Unit
def G.noSpotAt (p : Funs) (s : Spots) (k : Nat) : Bool := !G.spotOk p (s.getD k (0, 0, ())).1 (s.getD k (0, 0, ())).2.1
def G.spotAt (p : Funs) (s : Spots) (k : Nat) : Bool := G.spotOk p (s.getD k (0, 0, ())).1 (s.getD k (0, 0, ())).2.1
/-! IdxSpL: a search -/
def G.preIdxSpL (s : Spots) (k : (Funs × Unit) × Unit) (n : Int) (i : Int) : Bool := G.preA (s.length) i && (decide (n = ((s.length : Nat) : Int)) && (G.smallP k.1.1))
theorem preIdxSpL_iff {s : Spots} {k : (Funs × Unit) × Unit} {n : Int} {i : Int} : G.preIdxSpL s k n i = true ↔ (0 ≤ i ∧ i ≤ ((s.length : Nat) : Int) ∧ (s.length : Nat) ≤ 1099511627776) ∧ n = ((s.length : Nat) : Int) ∧ G.smallP k.1.1 = true := by simp [G.preIdxSpL, preA_iff]
def G.scIdxSpL (s : Spots) (k : (Funs × Unit) × Unit) (i : Int) : Option (Int × Unit) := G.scan (G.hit (G.noSpotAt k.1.1 s)) (s.length) i
/-! IdxSp -/
noncomputable abbrev pm6 : List (Nat × List Spec) := pm5
theorem pm6_ok : PhiOk Go.Proofs.Try.prog pm6 := pm5_ok
/-! ContSp -/
theorem spotsOk_at (p : Funs) (s : Spots) : G.spotsOk p s = true ↔ ∀ k, k < s.length → G.spotAt p s k = true := by
  rw [spotsOk_iff]
  constructor
  · intro h k hk
    unfold G.spotAt
    rw [getD_lt _ _ hk]
    exact h _ (List.getElem_mem hk)
  · intro h x hx
    obtain ⟨k, hk, rfl⟩ := List.getElem_of_mem hx
    have := h k hk
    unfold G.spotAt at this
    rw [getD_lt _ _ hk] at this
    exact this
theorem idx_spots (p : Funs) (s : Spots) : decide (G.idx (G.noSpotAt p s) s.length ≥ 0) = !G.spotsOk p s := by
  have h1 := idx_none (G.noSpotAt p s) s.length
  have h2 := spotsOk_at p s
  have h3 : G.anyFrom s.length (G.noSpotAt p s) 0 = false ↔ ∀ k, k < s.length → G.spotAt p s k = true := by
    rw [Bool.eq_false_iff, ne_eq, anyFrom_zero]
    constructor
    · intro h k hk
      cases hq : G.spotAt p s k with
      | true => rfl
      | false => exact absurd ⟨k, hk, by show (!G.spotAt p s k) = true; rw [hq]; rfl⟩ h
    · rintro h ⟨k, hk, hq⟩
      have hq : (!G.spotAt p s k) = true := hq
      rw [h k hk] at hq
      cases hq
  cases hs : G.spotsOk p s with
  | true =>
    have := h1.2 (h3.2 (h2.1 hs))
    exact decide_eq_false (by omega)
  | false =>
    refine decide_eq_true ?_
    have : ¬ G.idx (G.noSpotAt p s) s.length < 0 := fun e => by
      have := h2.2 (h3.1 (h1.1 e))
      rw [hs] at this
      cases this
    omega
noncomputable abbrev pm7 : List (Nat × List Spec) := (115, [spL1Cut]) :: pm6
theorem pm7_ok : PhiOk Go.Proofs.Try.prog pm7 := ⟨⟨okL1Cut, trivial⟩, pm6_ok⟩
def G.machOk (p : Funs) (m : Mach) : Bool := G.keepOk p && (G.spotOk p m.1 m.2.1 && (G.spotsOk p m.2.2.2.1 && G.stateOk m.2.2.1 (m.2.2.2.1.length : Int) m.2.2.2.2.1 m.2.2.2.2.2.1))
/-! MachOk -/
noncomputable abbrev spMachOk : Spec := ⟨[FunSP, .agg MachK], BoolR, false, fun x => G.smallP x.1 && G.fewMach x.2.1, fun x => (G.machOk x.1 x.2.1, ())⟩
theorem machOk_iff (p : Funs) (m : Mach) : G.machOk p m = true ↔ (G.keepOk p = true ∧ G.spotOk p m.1 m.2.1 = true ∧ G.spotsOk p m.2.2.2.1 = true ∧ -1000 ≤ m.2.2.1 ∧ m.2.2.1 ≤ 1000 ∧ (m.2.2.2.1.length : Int) ≤ 5 ∧ m.2.2.2.2.1.length ≤ 30 ∧ G.allCut m.2.2.2.2.1 0 = true ∧ 0 ≤ m.2.2.2.2.2.1 ∧ m.2.2.2.2.2.1 ≤ 5) := by
  unfold G.machOk G.stateOk
  simp only [Bool.and_eq_true, inR_iff, decide_eq_true_iff]
  have : G.allNum m.2.2.2.2.1 = G.allCut m.2.2.2.2.1 0 := rfl
  rw [this]
  constructor
  · rintro ⟨h1, h2, h3, ⟨⟨⟨⟨h5, h6⟩, h7⟩, h8⟩, h9⟩, h10, h11⟩
    exact ⟨h1, h2, h3, h5, h6, h7, h8, h9, h10, h11⟩
  · rintro ⟨h1, h2, h3, h5, h6, h7, h8, h9, h10, h11⟩
    exact ⟨h1, h2, h3, ⟨⟨⟨⟨h5, h6⟩, h7⟩, h8⟩, h9⟩, h10, h11⟩
def G.cutAt (xs : Ints) (k : Nat) : Bool := G.inR (xs.getD k (0, ())).1 (-1000) 1000
/-! MOkL0: a search -/
def G.preMOkL0 (p : Funs) (m : Mach) (i : Int) : Bool := G.preA (m.2.2.2.1.length) i && (true && (G.smallP p))
theorem preMOkL0_iff {p : Funs} {m : Mach} {i : Int} : G.preMOkL0 p m i = true ↔ (0 ≤ i ∧ i ≤ ((m.2.2.2.1.length : Nat) : Int) ∧ (m.2.2.2.1.length : Nat) ≤ 1099511627776) ∧ True ∧ G.smallP p = true := by simp [G.preMOkL0, preA_iff]
def G.scMOkL0 (p : Funs) (m : Mach) (i : Int) : Option (Bool × Unit) := G.scan (G.bad (G.spotAt p m.2.2.2.1)) (m.2.2.2.1.length) i
noncomputable abbrev lsMOkL0 : LSpec := ⟨[0, 3, 5, 4], [4], [FunSP, .box MachK, IntP, BoolP], [BoolP], true, fun x => G.preMOkL0 x.1 x.2.1 x.2.2.1,
  fun x => ((G.flag 1 (G.scMOkL0 x.1 x.2.1 x.2.2.1), G.got (G.scMOkL0 x.1 x.2.1 x.2.2.1) (x.2.2.2.1, ())), (x.2.1, ()))⟩
noncomputable abbrev muMOkL0 : PKs.den lsMOkL0.ins → Nat := fun x => (x.2.1.2.2.2.1.length) - x.2.2.1.toNat
/-! MOkL2: a search -/
def G.preMOkL2 (m : Mach) (i : Int) : Bool := G.preA (m.2.2.2.2.1.length) i && (true && (true))
theorem preMOkL2_iff {m : Mach} {i : Int} : G.preMOkL2 m i = true ↔ (0 ≤ i ∧ i ≤ ((m.2.2.2.2.1.length : Nat) : Int) ∧ (m.2.2.2.2.1.length : Nat) ≤ 1099511627776) ∧ True ∧ true = true := by simp [G.preMOkL2, preA_iff]
def G.scMOkL2 (m : Mach) (i : Int) : Option (Bool × Unit) := G.scan (G.bad (G.cutAt m.2.2.2.2.1)) (m.2.2.2.2.1.length) i
noncomputable abbrev lsMOkL2 : LSpec := ⟨[3, 6, 4], [4], [.box MachK, IntP, BoolP], [BoolP], true, fun x => G.preMOkL2 x.1 x.2.1,
  fun x => ((G.flag 1 (G.scMOkL2 x.1 x.2.1), G.got (G.scMOkL2 x.1 x.2.1) (x.2.2.1, ())), (x.1, ()))⟩
noncomputable abbrev muMOkL2 : PKs.den lsMOkL2.ins → Nat := fun x => (x.1.2.2.2.2.1.length) - x.2.1.toNat
/-! SpMachOk -/
noncomputable abbrev spSpMachOk : Spec := ⟨[FunSP, .agg MachK], BoolR, false, fun x => G.smallP x.1 && G.fewMach x.2.1, fun x => (G.machOk x.1 x.2.1, ())⟩
theorem sc0_eq (p : Funs) (m : Mach) : G.scMOkL0 p m 0 = if G.spotsOk p m.2.2.2.1 = true then none else some (false, ()) := by
  unfold G.scMOkL0
  rw [scan_bad]
  have : G.allFrom m.2.2.2.1.length (G.spotAt p m.2.2.2.1) 0 = G.spotsOk p m.2.2.2.1 := by
    rw [Bool.eq_iff_iff, allFrom_zero, spotsOk_at]
  rw [this]
theorem allCut_at (xs : Ints) : G.allFrom xs.length (G.cutAt xs) 0 = G.allCut xs 0 := by
  rw [Bool.eq_iff_iff, allFrom_zero]
  unfold G.allCut
  constructor
  · intro h
    unfold G.allL
    rw [List.all_eq_true]
    intro x hx
    rw [Int.toNat_zero, List.drop_zero] at hx
    obtain ⟨k, hk, rfl⟩ := List.getElem_of_mem hx
    have := h k hk
    unfold G.cutAt at this
    rw [getD_lt _ _ hk] at this
    exact this
  · intro h k hk
    exact allL_get h hk
theorem sc2_eq (m : Mach) : G.scMOkL2 m 0 = if G.allCut m.2.2.2.2.1 0 = true then none else some (false, ()) := by
  unfold G.scMOkL2
  rw [scan_bad, allCut_at]
noncomputable abbrev pm8 : List (Nat × List Spec) := pm7
theorem pm8_ok : PhiOk Go.Proofs.Try.prog pm8 := pm7_ok
/-! one step of whatever machine -/
def G.mstep (p : Funs) (m : Mach) : Mach := if G.machOk p m = true then (if m.2.2.2.2.2.1 = 0 then G.stepM p m else m) else G.formM
theorem machOk_go {p : Funs} {m : Mach} (hs : G.smallP p = true) (h : G.machOk p m = true) : G.goM p m = true := by
  have := (machOk_iff p m).1 h
  exact goM_iff.2 ⟨⟨hs, this.1⟩, this.2.1, by omega, this.2.2.1⟩
/-! MachStep -/
noncomputable abbrev spMachStep : Spec := ⟨[FunSP, .agg MachK], .one (.agg MachO), false, fun x => G.smallP x.1 && G.fewMach x.2.1, fun x => (G.mstep x.1 x.2.1, ())⟩
/-! SpMachStep -/
noncomputable abbrev spSpMachStep : Spec := ⟨[FunSP, .agg MachK], .one (.agg MachO), false, fun x => G.smallP x.1 && G.fewMach x.2.1, fun x => (G.mstep x.1 x.2.1, ())⟩
noncomputable abbrev pm9 : List (Nat × List Spec) := (34, [spMachSame]) :: pm8
theorem pm9_ok : PhiOk Go.Proofs.Try.prog pm9 := ⟨⟨okMachSame, trivial⟩, pm8_ok⟩
end Go.Rx

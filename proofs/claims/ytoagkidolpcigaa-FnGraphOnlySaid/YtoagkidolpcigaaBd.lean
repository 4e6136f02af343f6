/-
  MACHINES OF IMAGES: what the functions that verify them compute.
-/
import Derived.Test.YtoagkidolpcigaaBc
namespace Go.Rx
open Go
set_option linter.unusedVariables false
set_option linter.unusedSimpArgs false
abbrev IntR : RK := .one (.c (.dat I))
/-! numbers within bounds -/
def G.cut (n : Int) : Int := if n < -1000 then -1000 else if 1000 < n then 1000 else n
theorem cut_iff (n : Int) : G.cut n = n ↔ (-1000 ≤ n ∧ n ≤ 1000) := by
  unfold G.cut
  split
  · omega
  · split <;> omega
def G.maxI (a b : Int) : Int := if a > b then a else b
def G.minI (a b : Int) : Int := if a < b then a else b
theorem cut_eq (n : Int) : G.maxI (-1000) (G.minI 1000 n) = G.cut n := by
  unfold G.maxI G.minI G.cut
  split <;> split <;> (try split) <;> omega
/-! L1Max -/
noncomputable abbrev spL1Max : Spec := ⟨[IntP, IntP], IntR, false, fun x => true, fun x => (G.maxI x.1 x.2.1, ())⟩
noncomputable abbrev cxL1Max : Cx := mkCx T0 ph9 [] [] 10
theorem eL1Max (a b : Int) : funK cxL1Max Go.Proofs.Try.f122 spL1Max.ins spL1Max.out (a, b, ()) =
  (if Decidable.decide (a > b) = Bool.true then Option.some (a, PUnit.unit) else Option.some (b, PUnit.unit)) := by kernel_rfl
theorem sfL1Max (a b : Int) : funK cxL1Max Go.Proofs.Try.f122 spL1Max.ins spL1Max.out (a, b, ()) = some (G.maxI a b, ()) := by
  rw [eL1Max]
  unfold G.maxI
  by_cases h : a > b <;> simp [h]
theorem okL1Max : SpecOk Go.Proofs.Try.prog 122 spL1Max :=
  fun_okB (cx := cxL1Max) (F := Go.Proofs.Try.f122) (cxOk T0_ok T0_eq ph9_ok) mixed (by kernel_rfl) (by decide) (by kernel_rfl) (lps_none (by kernel_rfl)) (fun x h => sfL1Max x.1 x.2.1)
/-! L1Min -/
noncomputable abbrev spL1Min : Spec := ⟨[IntP, IntP], IntR, false, fun x => true, fun x => (G.minI x.1 x.2.1, ())⟩
noncomputable abbrev cxL1Min : Cx := mkCx T0 ph9 [] [] 10
theorem eL1Min (a b : Int) : funK cxL1Min Go.Proofs.Try.f123 spL1Min.ins spL1Min.out (a, b, ()) =
  (if Decidable.decide (a < b) = Bool.true then Option.some (a, PUnit.unit) else Option.some (b, PUnit.unit)) := by kernel_rfl
theorem sfL1Min (a b : Int) : funK cxL1Min Go.Proofs.Try.f123 spL1Min.ins spL1Min.out (a, b, ()) = some (G.minI a b, ()) := by
  rw [eL1Min]
  unfold G.minI
  by_cases h : a < b <;> simp [h]
theorem okL1Min : SpecOk Go.Proofs.Try.prog 123 spL1Min :=
  fun_okB (cx := cxL1Min) (F := Go.Proofs.Try.f123) (cxOk T0_ok T0_eq ph9_ok) mixed (by kernel_rfl) (by decide) (by kernel_rfl) (lps_none (by kernel_rfl)) (fun x h => sfL1Min x.1 x.2.1)
noncomputable abbrev ph10 : List (Nat × List Spec) := (122, [spL1Max]) :: (123, [spL1Min]) :: ph9
theorem ph10_ok : PhiOk Go.Proofs.Try.prog ph10 := ⟨⟨okL1Max, trivial⟩, ⟨okL1Min, trivial⟩, ph9_ok⟩
/-! L1Cut -/
noncomputable abbrev spL1Cut : Spec := ⟨[IntP], IntR, false, fun x => true, fun x => (G.cut x.1, ())⟩
noncomputable abbrev cxL1Cut : Cx := mkCx T0 ph10 [] [] 6
theorem eL1Cut (a : Int) : funK cxL1Cut Go.Proofs.Try.f115 spL1Cut.ins spL1Cut.out (a, ()) =
  (Option.some (Go.Rx.G.maxI (-1000 : Int) (Go.Rx.G.minI (1000 : Int) a), PUnit.unit)) := by kernel_rfl
theorem sfL1Cut (a : Int) : funK cxL1Cut Go.Proofs.Try.f115 spL1Cut.ins spL1Cut.out (a, ()) = some (G.cut a, ()) := by
  rw [eL1Cut, cut_eq]
theorem okL1Cut : SpecOk Go.Proofs.Try.prog 115 spL1Cut :=
  fun_okB (cx := cxL1Cut) (F := Go.Proofs.Try.f115) (cxOk T0_ok T0_eq ph10_ok) mixed (by kernel_rfl) (by decide) (by kernel_rfl) (lps_none (by kernel_rfl)) (fun x h => sfL1Cut x.1)
/-! all of a list from one place on; the first place at which something holds -/
def G.allL (p : Int → Bool) (xs : Ints) (i : Int) : Bool := (xs.drop i.toNat).all fun r => p r.1
theorem allL_step {p : Int → Bool} {xs : Ints} {i : Int} (h0 : 0 ≤ i) (h : i < (xs.length : Int)) : G.allL p xs i = (p (xs.getD i.toNat (0, ())).1 && G.allL p xs (i + 1)) := by
  unfold G.allL
  rw [drop_cons ((0 : Int), ()) (xs := xs) (i := i.toNat) (by omega), toNat_succ h0]
  rfl
theorem allL_end {p : Int → Bool} {xs : Ints} {i : Int} (h : (xs.length : Int) ≤ i) : G.allL p xs i = true := by
  unfold G.allL
  rw [drop_nil (by omega)]
  rfl
def G.idxL (p : Int → Bool) : Ints → Int → Int
  | [], _ => -1
  | x :: r, i => if p x.1 = true then i else G.idxL p r (i + 1)
def G.idxFrom (p : Int → Bool) (xs : Ints) (i : Int) : Int := G.idxL p (xs.drop i.toNat) i
theorem idxFrom_step {p : Int → Bool} {xs : Ints} {i : Int} (h0 : 0 ≤ i) (h : i < (xs.length : Int)) : G.idxFrom p xs i = if p (xs.getD i.toNat (0, ())).1 = true then i else G.idxFrom p xs (i + 1) := by
  unfold G.idxFrom
  rw [drop_cons ((0 : Int), ()) (xs := xs) (i := i.toNat) (by omega), toNat_succ h0]
  rfl
theorem idxL_all {p : Int → Bool} : ∀ (xs : Ints) (i : Int), 0 ≤ i → (decide (G.idxL p xs i ≥ 0) = !(xs.all fun r => !p r.1))
  | [], i, _ => by simp [G.idxL]
  | x :: r, i, h => by
    unfold G.idxL
    cases hp : p x.1 with
    | true => simp [hp, h]
    | false =>
      simp only [hp, Bool.false_eq_true, if_false]
      rw [idxL_all r (i + 1) (by omega)]
      simp [hp]
theorem idxFrom_all {p : Int → Bool} (xs : Ints) : decide (G.idxFrom p xs 0 ≥ 0) = !G.allL (fun v => !p v) xs 0 := by
  unfold G.idxFrom G.allL
  exact idxL_all _ _ (by omega)
theorem idxFrom_none {p : Int → Bool} (xs : Ints) {i : Int} (h0 : 0 ≤ i) (h : G.allL (fun v => !p v) xs i = true) : G.idxFrom p xs i = -1 := by
  unfold G.idxFrom
  unfold G.allL at h
  generalize xs.drop i.toNat = l at h
  clear h0
  induction l generalizing i with
  | nil => rfl
  | cons x r ih =>
    simp only [List.all_cons, Bool.and_eq_true, Bool.not_eq_true'] at h
    unfold G.idxL
    rw [if_neg (by rw [h.1]; simp)]
    exact ih h.2
/-! the closures of CpuOk -/
abbrev CellsB : Tys := .cons (.sl cellT) .nil
def G.inC (c : Cells) (v : Int) : Bool := G.inR v 0 ((c.length : Int) - 1)
noncomputable abbrev ph11 : List (Nat × List Spec) := (115, [spL1Cut]) :: ph10
theorem ph11_ok : PhiOk Go.Proofs.Try.prog ph11 := ⟨⟨okL1Cut, trivial⟩, ph10_ok⟩
/-! Place -/
noncomputable abbrev spPlace : Spec := ⟨[IntP, .box [.dat (.sl cellT)]], BoolR, true, fun x => G.few x.2.1.1.length, fun x => (G.inC x.2.1.1 x.1, x.2.1, ())⟩
noncomputable abbrev ph12 : List (Nat × List Spec) := ph11
theorem ph12_ok : PhiOk Go.Proofs.Try.prog ph12 := ph11_ok
/-! NoPlace -/
/-! NoNumber -/
noncomputable abbrev spNoNumber : Spec := ⟨[IntP], BoolR, false, fun x => true, fun x => (!G.inR x.1 (-1000) 1000, ())⟩
noncomputable abbrev ph13 : List (Nat × List Spec) := ph12
theorem ph13_ok : PhiOk Go.Proofs.Try.prog ph13 := ph12_ok
abbrev PlaceD := ((Cells × Unit) × Unit) × Unit
def G.qPlace (k : PlaceD) (v : Int) : Bool := G.inC k.1.1.1 v
def G.qNumber (k : Unit) (v : Int) : Bool := G.inR v (-1000) 1000
/-! IdxA: its loop -/
def G.preIdxA (xs : Ints) (k : PlaceD) (n i : Int) : Bool := decide (n = (xs.length : Int) ∧ 0 ≤ i ∧ i ≤ (xs.length : Int) ∧ xs.length ≤ 1099511627776∧ k.1.1.1.length ≤ 1099511627776)
theorem preIdxA_iff {xs : Ints} {k : PlaceD} {n i : Int} : G.preIdxA xs k n i = true ↔ (n = (xs.length : Int) ∧ 0 ≤ i ∧ i ≤ (xs.length : Int) ∧ xs.length ≤ 1099511627776∧ k.1.1.1.length ≤ 1099511627776) := by simp [G.preIdxA]
/-! IdxB: its loop -/
def G.preIdxB (xs : Ints) (k : Unit) (n i : Int) : Bool := decide (n = (xs.length : Int) ∧ 0 ≤ i ∧ i ≤ (xs.length : Int) ∧ xs.length ≤ 1099511627776)
theorem preIdxB_iff {xs : Ints} {k : Unit} {n i : Int} : G.preIdxB xs k n i = true ↔ (n = (xs.length : Int) ∧ 0 ≤ i ∧ i ≤ (xs.length : Int) ∧ xs.length ≤ 1099511627776) := by simp [G.preIdxB]
noncomputable abbrev ph14 : List (Nat × List Spec) := ph13
theorem ph14_ok : PhiOk Go.Proofs.Try.prog ph14 := ph13_ok
/-! ContA -/
/-! ContB -/
noncomputable abbrev ph15 : List (Nat × List Spec) := ph14
theorem ph15_ok : PhiOk Go.Proofs.Try.prog ph15 := ph14_ok
def G.allNum (xs : Ints) : Bool := G.allL (fun v => G.inR v (-1000) 1000) xs 0
def G.stateOk (acc calls : Int) (outs : Ints) (code : Int) : Bool := G.inR acc (-1000) 1000 && decide (calls ≤ 5) && decide (outs.length ≤ 30) && G.allNum outs && G.inR code 0 5
/-! StateOk -/
noncomputable abbrev spStateOk : Spec := ⟨[IntP, IntP, IntSP, IntP], BoolR, false, fun x => G.few x.2.2.1.length, fun x => (G.stateOk x.1 x.2.1 x.2.2.1 x.2.2.2.1, ())⟩
noncomputable abbrev ph16 : List (Nat × List Spec) := ph15
theorem ph16_ok : PhiOk Go.Proofs.Try.prog ph16 := ph15_ok
def G.allIn (c : Cells) (xs : Ints) (i : Int) : Bool := G.allL (fun v => G.inC c v) xs i
def G.allCut (xs : Ints) (i : Int) : Bool := G.allL (fun v => G.inR v (-1000) 1000) xs i
def G.cpuOk (c : Cells) (m : Cpu) : Bool := G.imageOk c 100 && (G.inC c m.1 && (G.allIn c m.2.2.1 0 && G.stateOk m.2.1 (m.2.2.1.length : Int) m.2.2.2.1 m.2.2.2.2.1))
/-! CpuOk -/
noncomputable abbrev spCpuOk : Spec := ⟨[CellSP, .agg CpuK], BoolR, false, fun x => G.few x.1.length && G.fewCpu x.2.1, fun x => (G.cpuOk x.1 x.2.1, ())⟩
def G.prSt (c : Cells) (m : Cpu) (i : Int) : Bool := decide (0 ≤ i ∧ i ≤ (m.2.2.1.length : Int) ∧ m.2.2.1.length ≤ 1099511627776)
theorem prSt_iff {c : Cells} {m : Cpu} {i : Int} : G.prSt c m i = true ↔ (0 ≤ i ∧ i ≤ (m.2.2.1.length : Int) ∧ m.2.2.1.length ≤ 1099511627776) := by simp [G.prSt]
noncomputable abbrev lsSpCpuOk0 : LSpec := ⟨[0, 3, 5, 4], [4], [CellSP, .box CpuK, IntP, .c (.dat .bool)], [.c (.dat .bool)], true, fun x => G.prSt x.1 x.2.1 x.2.2.1,
  fun x => ((if G.allIn x.1 x.2.1.2.2.1 x.2.2.1 = true then 0 else 1, (G.allIn x.1 x.2.1.2.2.1 x.2.2.1 && x.2.2.2.1, ())), (x.2.1, ()))⟩
def G.prOu (m : Cpu) (i : Int) : Bool := decide (0 ≤ i ∧ i ≤ (m.2.2.2.1.length : Int) ∧ m.2.2.2.1.length ≤ 1099511627776)
theorem prOu_iff {m : Cpu} {i : Int} : G.prOu m i = true ↔ (0 ≤ i ∧ i ≤ (m.2.2.2.1.length : Int) ∧ m.2.2.2.1.length ≤ 1099511627776) := by simp [G.prOu]
noncomputable abbrev lsSpCpuOk2 : LSpec := ⟨[3, 6, 4], [4], [.box CpuK, IntP, .c (.dat .bool)], [.c (.dat .bool)], true, fun x => G.prOu x.1 x.2.1,
  fun x => ((if G.allCut x.1.2.2.2.1 x.2.1 = true then 0 else 1, (G.allCut x.1.2.2.2.1 x.2.1 && x.2.2.1, ())), (x.1, ()))⟩
/-! SpCpuOk -/
noncomputable abbrev spSpCpuOk : Spec := ⟨[CellSP, .agg CpuK], BoolR, false, fun x => G.few x.1.length && G.fewCpu x.2.1, fun x => (G.cpuOk x.1 x.2.1, ())⟩
theorem cpuOk_iff (c : Cells) (m : Cpu) : G.cpuOk c m = true ↔ (G.imageOk c 100 = true ∧ 0 ≤ m.1 ∧ m.1 ≤ (c.length : Int) - 1 ∧ G.allIn c m.2.2.1 0 = true ∧ -1000 ≤ m.2.1 ∧ m.2.1 ≤ 1000 ∧ (m.2.2.1.length : Int) ≤ 5 ∧ m.2.2.2.1.length ≤ 30 ∧ G.allCut m.2.2.2.1 0 = true ∧ 0 ≤ m.2.2.2.2.1 ∧ m.2.2.2.2.1 ≤ 5) := by
  unfold G.cpuOk G.stateOk G.inC
  simp only [Bool.and_eq_true, inR_iff, decide_eq_true_iff]
  have : G.allNum m.2.2.2.1 = G.allCut m.2.2.2.1 0 := rfl
  rw [this]
  constructor
  · rintro ⟨h1, ⟨h2, h3⟩, h4, ⟨⟨⟨⟨h5, h6⟩, h7⟩, h8⟩, h9⟩, h10, h11⟩
    exact ⟨h1, h2, h3, h4, h5, h6, h7, h8, h9, h10, h11⟩
  · rintro ⟨h1, h2, h3, h4, h5, h6, h7, h8, h9, h10, h11⟩
    exact ⟨h1, ⟨h2, h3⟩, h4, ⟨⟨⟨⟨h5, h6⟩, h7⟩, h8⟩, h9⟩, h10, h11⟩
/-! spec.CpuOk: its loops -/
noncomputable abbrev muSpCpuOk0 : PKs.den lsSpCpuOk0.ins → Nat := fun x => x.2.1.2.2.1.length - x.2.2.1.toNat
noncomputable abbrev muSpCpuOk2 : PKs.den lsSpCpuOk2.ins → Nat := fun x => x.1.2.2.2.1.length - x.2.1.toNat
noncomputable abbrev ph17 : List (Nat × List Spec) := ph16
theorem ph17_ok : PhiOk Go.Proofs.Try.prog ph17 := ph16_ok
/-! LawCpuOk -/
noncomputable abbrev spLawCpuOk : Spec := ⟨[CellSP, .agg CpuK], BoolR, false, fun x => decide (x.1.length ≤ 9223372036854775807) && G.lenCpu x.2.1, fun x => (true, ())⟩
end Go.Rx

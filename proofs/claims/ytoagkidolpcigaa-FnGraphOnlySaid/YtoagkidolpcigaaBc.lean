/-
  IMAGES: what the functions that verify them compute.
-/
import Derived.Test.YtoagkidolpcigaaBb
namespace Go.Rx
open Go
set_option linter.unusedVariables false
set_option linter.unusedSimpArgs false
theorem someB {b c : Bool} (h : b = true ↔ c = true) : (some (b, ()) : Option (Bool × Unit)) = some (c, ()) := by rw [Bool.eq_iff_iff.2 h]
abbrev BoolR : RK := .one (.c (.dat .bool))
abbrev IntP : PK := .c (.dat I)
abbrev InsK : List CK := [.dat I, .dat I, .dat .str]
abbrev Ins := Int × Int × ByteArray × Unit
def G.inR (n lo hi : Int) : Bool := decide (lo ≤ n ∧ n ≤ hi)
theorem inR_iff {n lo hi : Int} : G.inR n lo hi = true ↔ (lo ≤ n ∧ n ≤ hi) := by simp [G.inR]
theorem inR_not {n lo hi : Int} : G.inR n lo hi = false ↔ ¬ (lo ≤ n ∧ n ≤ hi) := by simp [G.inR]
def G.refs (op : Int) : Bool := decide (op = 3 ∨ op = 4 ∨ op = 5)
theorem refs_inR (op : Int) : G.inR op 3 5 = G.refs op := by
  unfold G.inR G.refs
  rw [decide_eq_decide]
  omega
def G.last (op : Int) : Bool := decide (op = 4 ∨ op = 6 ∨ op = 7)
/-! In -/
noncomputable abbrev spIn : Spec := ⟨[IntP, IntP, IntP], BoolR, false, fun x => true, fun x => (G.inR x.1 x.2.1 x.2.2.1, ())⟩
noncomputable abbrev cxIn : Cx := mkCx T0 ph5 [] [] 15
theorem eIn (n lo hi : Int) : funK cxIn Go.Proofs.Try.f57 spIn.ins spIn.out (n, lo, hi, ()) =
  (if Decidable.decide (lo ≤ n) = Bool.true then Option.some (Decidable.decide (n ≤ hi), PUnit.unit) else Option.some (Bool.false, PUnit.unit)) := by kernel_rfl
theorem sfIn (n lo hi : Int) : funK cxIn Go.Proofs.Try.f57 spIn.ins spIn.out (n, lo, hi, ()) = some (G.inR n lo hi, ()) := by
  rw [eIn]
  unfold G.inR
  by_cases h : lo ≤ n <;> by_cases h2 : n ≤ hi <;> simp [h, h2]
theorem okIn : SpecOk Go.Proofs.Try.prog 57 spIn :=
  fun_okB (cx := cxIn) (F := Go.Proofs.Try.f57) (cxOk T0_ok T0_eq ph5_ok) mixed (by kernel_rfl) (by decide) (by kernel_rfl) (lps_none (by kernel_rfl)) (fun x h => sfIn x.1 x.2.1 x.2.2.1)
/-! SpInsLast -/
noncomputable abbrev spSpInsLast : Spec := ⟨[.agg InsK], BoolR, false, fun x => true, fun x => (G.last x.1.1, ())⟩
noncomputable abbrev cxSpInsLast : Cx := mkCx T0 ph5 [] [] 16
theorem eSpInsLast (a : Ins) : funK cxSpInsLast Go.Proofs.Try.f92 spSpInsLast.ins spSpInsLast.out (a, ()) =
  (if Decidable.decide (a.1 = (4 : Int)) = Bool.false then
    if Decidable.decide (a.1 = (6 : Int)) = Bool.false then Option.some (Decidable.decide (a.1 = (7 : Int)), PUnit.unit) else Option.some (Bool.true, PUnit.unit)
  else Option.some (Bool.true, PUnit.unit)) := by kernel_rfl
theorem sfSpInsLast (a : Ins) : funK cxSpInsLast Go.Proofs.Try.f92 spSpInsLast.ins spSpInsLast.out (a, ()) = some (G.last a.1, ()) := by
  rw [eSpInsLast]
  unfold G.last
  by_cases h : a.1 = 4 <;> by_cases h2 : a.1 = 6 <;> by_cases h3 : a.1 = 7 <;> simp [h, h2, h3]
theorem okSpInsLast : SpecOk Go.Proofs.Try.prog 92 spSpInsLast :=
  fun_okB (cx := cxSpInsLast) (F := Go.Proofs.Try.f92) (cxOk T0_ok T0_eq ph5_ok) mixed (by kernel_rfl) (by decide) (by kernel_rfl) (lps_none (by kernel_rfl)) (fun x h => sfSpInsLast x.1)
/-! InsLast -/
noncomputable abbrev spInsLast : Spec := ⟨[.agg InsK], BoolR, false, fun x => true, fun x => (G.last x.1.1, ())⟩
noncomputable abbrev cxInsLast : Cx := mkCx T0 ph5 [] [] 16
theorem eInsLast (a : Ins) : funK cxInsLast Go.Proofs.Try.f85 spInsLast.ins spInsLast.out (a, ()) =
  (if Decidable.decide (a.1 = (4 : Int)) = Bool.false then
    if Decidable.decide (a.1 = (6 : Int)) = Bool.false then Option.some (Decidable.decide (a.1 = (7 : Int)), PUnit.unit) else Option.some (Bool.true, PUnit.unit)
  else Option.some (Bool.true, PUnit.unit)) := by kernel_rfl
theorem sfInsLast (a : Ins) : funK cxInsLast Go.Proofs.Try.f85 spInsLast.ins spInsLast.out (a, ()) = some (G.last a.1, ()) := by
  rw [eInsLast]
  unfold G.last
  by_cases h : a.1 = 4 <;> by_cases h2 : a.1 = 6 <;> by_cases h3 : a.1 = 7 <;> simp [h, h2, h3]
theorem okInsLast : SpecOk Go.Proofs.Try.prog 85 spInsLast :=
  fun_okB (cx := cxInsLast) (F := Go.Proofs.Try.f85) (cxOk T0_ok T0_eq ph5_ok) mixed (by kernel_rfl) (by decide) (by kernel_rfl) (lps_none (by kernel_rfl)) (fun x h => sfInsLast x.1)
/-! SpInsRefs -/
noncomputable abbrev spSpInsRefs : Spec := ⟨[.agg InsK], BoolR, false, fun x => true, fun x => (G.refs x.1.1, ())⟩
noncomputable abbrev cxSpInsRefs : Cx := mkCx T0 ph5 [] [] 16
theorem eSpInsRefs (a : Ins) : funK cxSpInsRefs Go.Proofs.Try.f87 spSpInsRefs.ins spSpInsRefs.out (a, ()) =
  (if Decidable.decide (a.1 = (3 : Int)) = Bool.false then
    if Decidable.decide (a.1 = (4 : Int)) = Bool.false then Option.some (Decidable.decide (a.1 = (5 : Int)), PUnit.unit) else Option.some (Bool.true, PUnit.unit)
  else Option.some (Bool.true, PUnit.unit)) := by kernel_rfl
theorem sfSpInsRefs (a : Ins) : funK cxSpInsRefs Go.Proofs.Try.f87 spSpInsRefs.ins spSpInsRefs.out (a, ()) = some (G.refs a.1, ()) := by
  rw [eSpInsRefs]
  unfold G.refs
  by_cases h : a.1 = 3 <;> by_cases h2 : a.1 = 4 <;> by_cases h3 : a.1 = 5 <;> simp [h, h2, h3]
theorem okSpInsRefs : SpecOk Go.Proofs.Try.prog 87 spSpInsRefs :=
  fun_okB (cx := cxSpInsRefs) (F := Go.Proofs.Try.f87) (cxOk T0_ok T0_eq ph5_ok) mixed (by kernel_rfl) (by decide) (by kernel_rfl) (lps_none (by kernel_rfl)) (fun x h => sfSpInsRefs x.1)
noncomputable abbrev ph6 : List (Nat × List Spec) := (57, [spIn]) :: (92, [spSpInsLast]) :: (85, [spInsLast]) :: (87, [spSpInsRefs]) :: ph5
theorem ph6_ok : PhiOk Go.Proofs.Try.prog ph6 := ⟨⟨okIn, trivial⟩, ⟨okSpInsLast, trivial⟩, ⟨okInsLast, trivial⟩, ⟨okSpInsRefs, trivial⟩, ph5_ok⟩
/-! IsReach -/
noncomputable abbrev spIsReach : Spec := ⟨[IntP], BoolR, false, fun x => true, fun x => (G.inR x.1 1 100, ())⟩
/-! Refers -/
noncomputable abbrev spRefers : Spec := ⟨[IntP], BoolR, false, fun x => true, fun x => (G.inR x.1 3 5, ())⟩
noncomputable abbrev cxRefers : Cx := mkCx T0 ph6 [] [] 5
theorem eRefers (n : Int) : funK cxRefers Go.Proofs.Try.f99 spRefers.ins spRefers.out (n, ()) =
  (Option.some (Go.Rx.G.inR n (3 : Int) (5 : Int), PUnit.unit)) := by kernel_rfl
theorem okRefers : SpecOk Go.Proofs.Try.prog 99 spRefers :=
  fun_okB (cx := cxRefers) (F := Go.Proofs.Try.f99) (cxOk T0_ok T0_eq ph6_ok) mixed (by kernel_rfl) (by decide) (by kernel_rfl) (lps_none (by kernel_rfl)) (fun x h => eRefers x.1)
/-! IsNumber -/
noncomputable abbrev spIsNumber : Spec := ⟨[IntP], BoolR, false, fun x => true, fun x => (G.inR x.1 (-1000) 1000, ())⟩
noncomputable abbrev cxIsNumber : Cx := mkCx T0 ph6 [] [] 5
theorem eIsNumber (n : Int) : funK cxIsNumber Go.Proofs.Try.f111 spIsNumber.ins spIsNumber.out (n, ()) =
  (Option.some (Go.Rx.G.inR n (-1000 : Int) (1000 : Int), PUnit.unit)) := by kernel_rfl
theorem okIsNumber : SpecOk Go.Proofs.Try.prog 111 spIsNumber :=
  fun_okB (cx := cxIsNumber) (F := Go.Proofs.Try.f111) (cxOk T0_ok T0_eq ph6_ok) mixed (by kernel_rfl) (by decide) (by kernel_rfl) (lps_none (by kernel_rfl)) (fun x h => eIsNumber x.1)
/-! L8Refs -/
noncomputable abbrev spL8Refs : Spec := ⟨[.agg CellK], BoolR, false, fun x => true, fun x => (G.refs x.1.1, ())⟩
def G.few1 (n : Nat) : Bool := decide (1 ≤ n ∧ n ≤ 1099511627776)
theorem few1_iff {n : Nat} : G.few1 n = true ↔ (1 ≤ n ∧ n ≤ 1099511627776) := by simp [G.few1]
def G.at (a : Cells) (i : Int) : Cell := a.getD i.toNat (0, 0, ())
def G.ends (a : Cells) : Bool := G.last (G.at a ((a.length : Int) - 1)).1 || decide ((G.at a ((a.length : Int) - 1)).1 = 8)
/-! L8Ends -/
noncomputable abbrev spL8Ends : Spec := ⟨[CellSP], BoolR, false, fun x => G.few1 x.1.length, fun x => (G.ends x.1, ())⟩
noncomputable abbrev ph7 : List (Nat × List Spec) := (99, [spRefers]) :: (111, [spIsNumber]) :: ph6
theorem ph7_ok : PhiOk Go.Proofs.Try.prog ph7 := ⟨⟨okRefers, trivial⟩, ⟨okIsNumber, trivial⟩, ph6_ok⟩
def G.cellOk (c : Cells) (x : Cell) (i reach : Int) : Bool :=
  if G.refs x.1 = true then decide (-reach ≤ x.2.1 ∧ x.2.1 ≤ reach ∧ 0 ≤ i + x.2.1 ∧ i + x.2.1 < (c.length : Int))
  else if x.1 = 8 then decide (0 ≤ x.2.1 ∧ x.2.1 < (c.length : Int) ∧ (G.at c x.2.1).1 ≠ 8)
  else if x.1 = 2 then decide (-1000 ≤ x.2.1 ∧ x.2.1 ≤ 1000)
  else decide ((x.1 = 1 ∨ x.1 = 6 ∨ x.1 = 7) ∧ x.2.1 = 0)
def G.okPre (c : Cells) (i reach : Int) : Bool := decide (0 ≤ i ∧ i < (c.length : Int) ∧ c.length ≤ 1099511627776 ∧ 1 ≤ reach ∧ reach ≤ 100)
theorem okPre_iff {c : Cells} {i reach : Int} : G.okPre c i reach = true ↔ (0 ≤ i ∧ i < (c.length : Int) ∧ c.length ≤ 1099511627776 ∧ 1 ≤ reach ∧ reach ≤ 100) := by simp [G.okPre]
/-! CellOk -/
noncomputable abbrev spCellOk : Spec := ⟨[.agg CellK, CellSP, IntP, IntP], BoolR, false, fun x => G.okPre x.2.1 x.2.2.1 x.2.2.2.1, fun x => (G.cellOk x.2.1 x.1 x.2.2.1 x.2.2.2.1, ())⟩
/-! L8One -/
noncomputable abbrev spL8One : Spec := ⟨[CellSP, IntP, IntP], BoolR, false, fun x => G.okPre x.1 x.2.1 x.2.2.1, fun x => (G.cellOk x.1 (G.at x.1 x.2.1) x.2.1 x.2.2.1, ())⟩
noncomputable abbrev ph8 : List (Nat × List Spec) := ph7
theorem ph8_ok : PhiOk Go.Proofs.Try.prog ph8 := ph7_ok
/-! for all places from one on -/
def G.allFrom (n : Nat) (p : Nat → Bool) (i : Int) : Bool := (List.range' i.toNat (n - i.toNat)).all p
theorem allFrom_step {n : Nat} {p : Nat → Bool} {i : Int} (h0 : 0 ≤ i) (h : i < (n : Int)) : G.allFrom n p i = (p i.toNat && G.allFrom n p (i + 1)) := by
  unfold G.allFrom
  have e : n - i.toNat = (n - (i + 1).toNat) + 1 := by omega
  rw [e, List.range'_succ, List.all_cons, toNat_succ h0]
theorem allFrom_end {n : Nat} {p : Nat → Bool} {i : Int} (h : (n : Int) ≤ i) : G.allFrom n p i = true := by
  unfold G.allFrom
  have e : n - i.toNat = 0 := by omega
  rw [e]
  rfl
/-- Every place of an image is right. -/
def G.cellsOk (c : Cells) (reach : Int) (i : Int) : Bool := G.allFrom c.length (fun k => G.cellOk c (c.getD k (0, 0, ())) (k : Int) reach) i
def G.cksPre (c : Cells) (reach i : Int) : Bool := decide (0 ≤ i ∧ i ≤ (c.length : Int) ∧ c.length ≤ 1099511627776 ∧ 1 ≤ reach ∧ reach ≤ 100)
theorem cksPre_iff {c : Cells} {reach i : Int} : G.cksPre c reach i = true ↔ (0 ≤ i ∧ i ≤ (c.length : Int) ∧ c.length ≤ 1099511627776 ∧ 1 ≤ reach ∧ reach ≤ 100) := by simp [G.cksPre]
theorem cellsOk_step {c : Cells} {reach i : Int} (h0 : 0 ≤ i) (h : i < (c.length : Int)) : G.cellsOk c reach i = (G.cellOk c (G.at c i) i reach && G.cellsOk c reach (i + 1)) := by
  unfold G.cellsOk
  rw [allFrom_step h0 h]
  have e : ((i.toNat : Nat) : Int) = i := by omega
  rw [e]
  rfl
def G.imageOk (c : Cells) (reach : Int) : Bool := decide (1 ≤ c.length ∧ c.length ≤ 800 ∧ 1 ≤ reach ∧ reach ≤ 100) && (G.ends c && G.cellsOk c reach 0)
def G.cksPreR (c : Cells) (reach : Int) (d : Cells) (n i : Int) : Bool := decide (d = c ∧ n = (c.length : Int) ∧ 0 ≤ i ∧ i ≤ (c.length : Int) ∧ c.length ≤ 1099511627776 ∧ 1 ≤ reach ∧ reach ≤ 100)
theorem cksPreR_iff {c d : Cells} {reach n i : Int} : G.cksPreR c reach d n i = true ↔ (d = c ∧ n = (c.length : Int) ∧ 0 ≤ i ∧ i ≤ (c.length : Int) ∧ c.length ≤ 1099511627776 ∧ 1 ≤ reach ∧ reach ≤ 100) := by simp [G.cksPreR]
/-! spec.ImageOk: its loop -/
noncomputable abbrev lsSpImageOk : LSpec := ⟨[0, 1, 5, 4], [4], [CellSP, IntP, IntP, .c (.dat .bool)], [.c (.dat .bool)], false, fun x => G.cksPre x.1 x.2.1 x.2.2.1,
  fun x => ((if G.cellsOk x.1 x.2.1 x.2.2.1 = true then 0 else 1, (G.cellsOk x.1 x.2.1 x.2.2.1 && x.2.2.2.1, ())), ())⟩
/-! SpImageOk -/
noncomputable abbrev spSpImageOk : Spec := ⟨[CellSP, IntP], BoolR, false, fun x => G.few x.1.length, fun x => (G.imageOk x.1 x.2.1, ())⟩
/-! impl.ImageOk: its loop -/
noncomputable abbrev lsImageOk : LSpec := ⟨[0, 1, 17, 18, 19, 4], [4], [CellSP, IntP, CellSP, IntP, IntP, .c (.dat .bool)], [.c (.dat .bool)], false, fun x => G.cksPreR x.1 x.2.1 x.2.2.1 x.2.2.2.1 x.2.2.2.2.1,
  fun x => ((if G.cellsOk x.1 x.2.1 x.2.2.2.2.1 = true then 0 else 1, (G.cellsOk x.1 x.2.1 x.2.2.2.2.1 && x.2.2.2.2.2.1, ())), ())⟩
/-! ImageOk -/
noncomputable abbrev spImageOk : Spec := ⟨[CellSP, IntP], BoolR, false, fun x => G.few x.1.length, fun x => (G.imageOk x.1 x.2.1, ())⟩
noncomputable abbrev muSpImageOk : PKs.den lsSpImageOk.ins → Nat := fun x => x.1.length - x.2.2.1.toNat
noncomputable abbrev muImageOk : PKs.den lsImageOk.ins → Nat := fun x => x.1.length - x.2.2.2.2.1.toNat
noncomputable abbrev ph9 : List (Nat × List Spec) := ph8
theorem ph9_ok : PhiOk Go.Proofs.Try.prog ph9 := ph8_ok
/-! LawImageOk -/
noncomputable abbrev spLawImageOk : Spec := ⟨[CellSP, IntP], BoolR, false, fun x => decide (x.1.length ≤ 9223372036854775807), fun x => (true, ())⟩
end Go.Rx

/-
  NUMBERS WITHIN BOUNDS, and their sums.
-/
import Derived.Test.YtoagkidolpcigaaBd
namespace Go.Rx
open Go
set_option linter.unusedVariables false
set_option linter.unusedSimpArgs false
/-! Cut -/
noncomputable abbrev spCut : Spec := ⟨[IntP], IntR, false, fun x => true, fun x => (G.cut x.1, ())⟩
noncomputable abbrev cxCut : Cx := mkCx T0 ph16 [] [] 6
theorem eCut (a : Int) : funK cxCut Go.Proofs.Try.f121 spCut.ins spCut.out (a, ()) =
  (Option.some (if (if a < (1000 : Int) then a else (1000 : Int)) > (-1000 : Int) then if a < (1000 : Int) then a else (1000 : Int) else (-1000 : Int), PUnit.unit)) := by kernel_rfl
theorem sfCut (a : Int) : funK cxCut Go.Proofs.Try.f121 spCut.ins spCut.out (a, ()) = some (G.cut a, ()) := by
  rw [eCut]
  congr 2
  unfold G.cut
  repeat' split
  all_goals omega
theorem okCut : SpecOk Go.Proofs.Try.prog 121 spCut :=
  fun_okB (cx := cxCut) (F := Go.Proofs.Try.f121) (cxOk T0_ok T0_eq ph16_ok) mixed (by kernel_rfl) (by decide) (by kernel_rfl) (lps_none (by kernel_rfl)) (fun x h => sfCut x.1)
theorem cut_le (n : Int) : -1000 ≤ G.cut n ∧ G.cut n ≤ 1000 := by
  unfold G.cut
  split
  · omega
  · split <;> omega
noncomputable abbrev phs1 : List (Nat × List Spec) := (121, [spCut]) :: ph16
theorem phs1_ok : PhiOk Go.Proofs.Try.prog phs1 := ⟨⟨okCut, trivial⟩, ph16_ok⟩
def G.sum (a b : Int) : Int := G.cut (G.cut a + G.cut b)
/-! SpInsSum -/
noncomputable abbrev spSpInsSum : Spec := ⟨[IntP, IntP], IntR, false, fun x => true, fun x => (G.sum x.1 x.2.1, ())⟩
noncomputable abbrev cxSpInsSum : Cx := mkCx T0 phs1 [] [] 11
theorem eSpInsSum (a b : Int) : funK cxSpInsSum Go.Proofs.Try.f102 spSpInsSum.ins spSpInsSum.out (a, b, ()) =
  (Option.some (Go.Rx.G.cut (Go.IntKind.wrap Go.IntKind.i64 (Go.Rx.G.cut a + Go.Rx.G.cut b)), PUnit.unit)) := by kernel_rfl
theorem sfSpInsSum (a b : Int) : funK cxSpInsSum Go.Proofs.Try.f102 spSpInsSum.ins spSpInsSum.out (a, b, ()) = some (G.sum a b, ()) := by
  have := cut_le a
  have := cut_le b
  rw [eSpInsSum, w64 (by omega) (by omega)]
  rfl
theorem okSpInsSum : SpecOk Go.Proofs.Try.prog 102 spSpInsSum :=
  fun_okB (cx := cxSpInsSum) (F := Go.Proofs.Try.f102) (cxOk T0_ok T0_eq phs1_ok) mixed (by kernel_rfl) (by decide) (by kernel_rfl) (lps_none (by kernel_rfl)) (fun x h => sfSpInsSum x.1 x.2.1)
/-! InsSum -/
noncomputable abbrev spInsSum : Spec := ⟨[IntP, IntP], IntR, false, fun x => true, fun x => (G.sum x.1 x.2.1, ())⟩
noncomputable abbrev cxInsSum : Cx := mkCx T0 phs1 [] [] 11
theorem eInsSum (a b : Int) : funK cxInsSum Go.Proofs.Try.f114 spInsSum.ins spInsSum.out (a, b, ()) =
  (Option.some (Go.Rx.G.cut (Go.IntKind.wrap Go.IntKind.i64 (Go.Rx.G.cut a + Go.Rx.G.cut b)), PUnit.unit)) := by kernel_rfl
theorem sfInsSum (a b : Int) : funK cxInsSum Go.Proofs.Try.f114 spInsSum.ins spInsSum.out (a, b, ()) = some (G.sum a b, ()) := by
  have := cut_le a
  have := cut_le b
  rw [eInsSum, w64 (by omega) (by omega)]
  rfl
theorem okInsSum : SpecOk Go.Proofs.Try.prog 114 spInsSum :=
  fun_okB (cx := cxInsSum) (F := Go.Proofs.Try.f114) (cxOk T0_ok T0_eq phs1_ok) mixed (by kernel_rfl) (by decide) (by kernel_rfl) (lps_none (by kernel_rfl)) (fun x h => sfInsSum x.1 x.2.1)
noncomputable abbrev phs2 : List (Nat × List Spec) := (102, [spSpInsSum]) :: (114, [spInsSum]) :: phs1
theorem phs2_ok : PhiOk Go.Proofs.Try.prog phs2 := ⟨⟨okSpInsSum, trivial⟩, ⟨okInsSum, trivial⟩, phs1_ok⟩
theorem allL_get {p : Int → Bool} {xs : Ints} (h : G.allL p xs 0 = true) {k : Nat} (hk : k < xs.length) : p (xs.getD k (0, ())).1 = true := by
  unfold G.allL at h
  rw [List.all_eq_true] at h
  have e : xs.getD k (0, ()) = xs[k] := by simp [List.getD, hk]
  rw [e]
  exact h _ (by simp)
theorem allL_append {p : Int → Bool} {xs : Ints} {v : Int} (h : G.allL p xs 0 = true) (hv : p v = true) : G.allL p (xs ++ [(v, ())]) 0 = true := by
  unfold G.allL at h ⊢
  simp at h ⊢
  exact ⟨h, hv⟩
theorem allL_take {p : Int → Bool} {xs : Ints} {n : Nat} (h : G.allL p xs 0 = true) : G.allL p (xs.take n) 0 = true := by
  unfold G.allL at h ⊢
  simp only [Int.toNat_zero, List.drop_zero, List.all_eq_true] at h ⊢
  exact fun x hx => h x (List.mem_of_mem_take hx)
end Go.Rx

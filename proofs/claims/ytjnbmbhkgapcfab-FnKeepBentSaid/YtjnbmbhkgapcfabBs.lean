/-
  NUMBERS WITHIN BOUNDS, and their sums.
-/
import Derived.Test.YtjnbmbhkgapcfabBd
namespace Go.Rx
open Go
set_option linter.unusedVariables false
set_option linter.unusedSimpArgs false
/-! Cut -/
noncomputable abbrev spCut : Spec := ⟨[IntP], IntR, false, fun x => true, fun x => (G.cut x.1, ())⟩
theorem cut_le (n : Int) : -1000 ≤ G.cut n ∧ G.cut n ≤ 1000 := by
  unfold G.cut
  split
  · omega
  · split <;> omega
noncomputable abbrev phs1 : List (Nat × List Spec) := ph16
theorem phs1_ok : PhiOk Go.Proofs.Try.prog phs1 := ph16_ok
def G.sum (a b : Int) : Int := G.cut (G.cut a + G.cut b)
/-! SpInsSum -/
noncomputable abbrev spSpInsSum : Spec := ⟨[IntP, IntP], IntR, false, fun x => true, fun x => (G.sum x.1 x.2.1, ())⟩
/-! InsSum -/
noncomputable abbrev spInsSum : Spec := ⟨[IntP, IntP], IntR, false, fun x => true, fun x => (G.sum x.1 x.2.1, ())⟩
noncomputable abbrev phs2 : List (Nat × List Spec) := phs1
theorem phs2_ok : PhiOk Go.Proofs.Try.prog phs2 := phs1_ok
theorem allL_get {p : Int → Bool} {xs : Ints} (h : G.allL p xs 0 = true) {k : Nat} (hk : k < xs.length) : p (xs.getD k (0, ())).1 = true := by
  unfold G.allL at h
  rw [List.all_eq_true] at h
  have e : xs.getD k (0, ()) = xs[k] := by simp [List.getD, hk]
  rw [e]
  exact h _ (by simp)
theorem allL_append {p : Int → Bool} {xs : Ints} {v : Int} (h : G.allL p xs 0 = true) (hv : p v = true) : G.allL p (xs ++ [(v, ())]) 0 = true := by
  unfold G.allL at h ⊢
  simp at h ⊢
  exact ⟨h, hv⟩
theorem allL_take {p : Int → Bool} {xs : Ints} {n : Nat} (h : G.allL p xs 0 = true) : G.allL p (xs.take n) 0 = true := by
  unfold G.allL at h ⊢
  simp only [Int.toNat_zero, List.drop_zero, List.all_eq_true] at h ⊢
  exact fun x hx => h x (List.mem_of_mem_take hx)
end Go.Rx

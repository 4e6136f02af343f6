/-
  NAMES that are there once.
-/
import Derived.Test.YtoagkidolpcigaaFa
namespace Go.Rx
open Go
set_option linter.unusedVariables false
set_option linter.unusedSimpArgs false
/-! names that are there once -/
def G.Uniq (p : Funs) : Prop := ∀ i j, i < p.length → j < p.length → (G.pAt p i).1 = (G.pAt p j).1 → i = j
theorem find_some {p : Funs} {k : Nat} (hk : k < p.length) : ¬ G.find p (G.pAt p k).1 < 0 := by
  intro h
  have := (idx_none (G.funAt p (G.pAt p k).1) p.length).1 h
  rw [Bool.eq_false_iff] at this
  exact this (anyFrom_zero.2 ⟨k, hk, decide_eq_true rfl⟩)
theorem find_uniq {p : Funs} (hu : G.Uniq p) {k : Nat} (hk : k < p.length) {s : ByteArray} (hs : (G.pAt p k).1 = s) : G.find p s = (k : Int) := by
  subst hs
  obtain ⟨h1, h2, h3, h4⟩ := find_ok (find_some hk)
  have := hu _ _ h1 hk h2
  omega
theorem funsOk_uniq {p : Funs} (h : G.funsOk p = true) : G.Uniq p := fun i j hi hj e => by
  have h1 := ((funsOk_iff p).1 h i hi).2
  have h2 := ((funsOk_iff p).1 h j hj).2
  rw [e] at h1
  omega
theorem uniq_funsOk {p : Funs} (hu : G.Uniq p) (h : ∀ k, k < p.length → G.funOk (G.pAt p k) = true) : G.funsOk p = true := (funsOk_iff p).2 fun k hk => ⟨h k hk, find_uniq hu hk rfl⟩
end Go.Rx

/-
  THE LAW FnGraphOnly: for every input that the row lets in the law's function returns true and leaves what it was handed as it was. Conditions: none beyond the given statement's own.
-/
import Derived.Test.YtoagkidolpcigaaRows
import Derived.Test.YtoagkidolpcigaaIr
import Derived.KernelRfl
namespace Go.Proofs.Ytoagkidolpcigaa.fnGraphOnly
open Go.ChangeShapes Go.WideShapes Go.ChangeAt Go.RowKit Go.Rx
open Go.ChangeMaps (open_string shut_string)
set_option linter.unusedVariables false
theorem own : ownKnob Try.prog.godebug = none := by kernel_rfl
theorem laidOut : laidOutB Try.prog = true := by kernel_rfl
set_option maxRecDepth 100000 in
theorem lifted (os : Os) (started : os.Started) (H : Type) (enc : TypeId × Value → H) :
    ReturnsInHanded {} Try.checked os 9 .any (Rows.fnGraphOnlySpec.pre6 enc Try.prog Try.f9 Rows.fnGraphOnlyRow.domain false) (Rows.fnGraphOnlySpec.post enc Try.prog Try.f9 false true false false) := by
  refine returnsInHanded_of_change_sized (C := Try.checked) own started (by kernel_rfl) Try.func9
    (ChangeSpec.witness6 (enc := enc) (C := Try.checked) false ⟨#[], #[.slice none 0 0], []⟩ 8 (by kernel_rfl) (by kernel_rfl) (by kernel_rfl) (by kernel_rfl)) ?_
  intro W base args ds gs before hval0 hW hcnd hsz0 _
  have hval : ∀ (j : Nat) t v, Try.f9.params[j]? = some t → args[j]? = some v → Value.okWide Try.prog W .any base t v := hval0
  have hW' := hW
  obtain ⟨p, q, hA0, hV, rfl, hfz, hnd⟩ := hW
  have hA : DataW.TrodAll enc Try.prog W 0 (fun _ => true) true Try.f9.params.toList args.toList ds p := hA0
  rw [Try.params9] at hA hval
  obtain ⟨v0, vs0, d0, ds0, p0, q0, hargs, rfl, rfl, h0, r0⟩ := trodAll_cons hA
  obtain ⟨rfl, rfl, rfl⟩ := trodAll_nil r0
  obtain rfl : args = #[v0] := by cases args; simp_all
  obtain ⟨rfl, rfl⟩ := trodVars_none hV
  have lt0 : ∀ x ∈ p0, x.block < W.heap.size := by obtain ⟨m, hm⟩ := h0; exact DataW.trod_lt m _ _ _ hm
  obtain ⟨a0, len0, cap0, rfl⟩ := okWide_slice Try.underlying22 (hval 0 22 v0 rfl rfl)
  obtain ⟨x0, part0, w0⟩ := open_one (P := Try.prog) (n := 12) (t := 22) (ty := .sl byteT) (by kernel_rfl) rfl h0
  clear hA0 hval0 hsz0
  refine ((okLawGraphOnly.2 (x0, ()) (bytes_wf w0) W (fun b => b < W.heap.size) _ [] ⟨_, _, [], [], rfl, rfl, ⟨part0, rfl⟩, ⟨rfl, rfl⟩⟩ (given_all W))).mono ?_
  rintro e W' ⟨val, S', B1, B2, rfl, told⟩
  have bel := told_below told
  obtain ⟨hv, _⟩ := told.res
  have hv : val = .bool true := hv
  subst hv
  exact ⟨_, rfl, _, _, _, [], _, [], hW', trodAll_mk1 (shut_bool Try.underlying4 _), (trodAll_cons_mk (Below.trod laidOut (by kernel_rfl) (of_decide_eq_true (by kernel_rfl)) h0 bel lt0) trodAll_mk0), rfl, bel.frame _, fun h => by cases h⟩
theorem over : Rows.fnGraphOnlyRow.holds Try.pinned (OpenSpec.ofChange Rows.fnGraphOnlySpec) :=
  OpenClaim.holds_of_wide 9 Try.f9 rfl rfl rfl rfl rfl rfl rfl ⟨rfl, rfl, rfl, rfl, rfl⟩ rfl rfl rfl rfl rfl (by kernel_rfl) Try.func9 (by kernel_rfl)
    (of_decide_eq_true (by kernel_rfl)) (by unfold Func.isWrapper; first | (rw [if_pos (by decide +kernel)]; kernel_rfl) | (rw [if_neg (by decide +kernel)]; exact ⟨rfl, rfl⟩))
    (fun os started H enc _ => lifted os started H enc)
theorem proved : Rows.FnGraphOnlySaid := over
#print axioms proved
end Go.Proofs.Ytoagkidolpcigaa.fnGraphOnly
namespace Go.Proofs.Ytoagkidolpcigaa
/-- The row, under a short name, for the claim. -/
theorem fnGraphOnly_holds : Rows.FnGraphOnlySaid := fnGraphOnly.proved
end Go.Proofs.Ytoagkidolpcigaa


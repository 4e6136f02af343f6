/-
  THE LAW FnExactLayTo: for every input that the row lets in the law's function returns true and leaves what it was handed as it was. Conditions: none beyond the given statement's own.
-/
import Derived.Test.YteenlfeglffnoaaRows
import Derived.Test.YteenlfeglffnoaaZh
import Derived.KernelRfl
namespace Go.Proofs.Yteenlfeglffnoaa.fnExactLayTo
open Go.ChangeShapes Go.WideShapes Go.ChangeAt Go.RowKit Go.Rx
open Go.ChangeMaps (open_string shut_string)
set_option linter.unusedVariables false
theorem own : ownKnob Try.prog.godebug = none := by kernel_rfl
theorem laidOut : laidOutB Try.prog = true := by kernel_rfl
set_option maxRecDepth 100000 in
theorem lifted (os : Os) (started : os.Started) (H : Type) (enc : TypeId × Value → H) :
    ReturnsInHanded {} Try.checked os 5 .any (Rows.fnExactLayToSpec.pre6 enc Try.prog Try.f5 Rows.fnExactLayToRow.domain false) (Rows.fnExactLayToSpec.post enc Try.prog Try.f5 false true false false) := by
  refine returnsInHanded_of_change_sized (C := Try.checked) own started (by kernel_rfl) Try.func5
    (ChangeSpec.witness6 (enc := enc) (C := Try.checked) false ⟨#[], #[.slice none 0 0, .agg #[.slice none 0 0, .slice none 0 0], .int .i64 0, .int .i64 0, .string ByteArray.empty], []⟩ 8 (by kernel_rfl) (by kernel_rfl) (by kernel_rfl) (by kernel_rfl)) ?_
  intro W base args ds gs before hval0 hW hcnd hsz0 _
  have hval : ∀ (j : Nat) t v, Try.f5.params[j]? = some t → args[j]? = some v → Value.okWide Try.prog W .any base t v := hval0
  have hW' := hW
  obtain ⟨p, q, hA0, hV, rfl, hfz, hnd⟩ := hW
  have hA : DataW.TrodAll enc Try.prog W 0 (fun _ => true) true Try.f5.params.toList args.toList ds p := hA0
  rw [Try.params5] at hA hval
  obtain ⟨v0, vs0, d0, ds0, p0, q0, hargs, rfl, rfl, h0, r0⟩ := trodAll_cons hA
  obtain ⟨v1, vs1, d1, ds1, p1, q1, rfl, rfl, rfl, h1, r1⟩ := trodAll_cons r0
  obtain ⟨v2, vs2, d2, ds2, p2, q2, rfl, rfl, rfl, h2, r2⟩ := trodAll_cons r1
  obtain ⟨v3, vs3, d3, ds3, p3, q3, rfl, rfl, rfl, h3, r3⟩ := trodAll_cons r2
  obtain ⟨v4, vs4, d4, ds4, p4, q4, rfl, rfl, rfl, h4, r4⟩ := trodAll_cons r3
  obtain ⟨rfl, rfl, rfl⟩ := trodAll_nil r4
  obtain rfl : args = #[v0, v1, v2, v3, v4] := by cases args; simp_all
  obtain ⟨rfl, rfl⟩ := trodVars_none hV
  have lt0 : ∀ x ∈ p0, x.block < W.heap.size := by obtain ⟨m, hm⟩ := h0; exact DataW.trod_lt m _ _ _ hm
  obtain ⟨a0, len0, cap0, rfl⟩ := okWide_slice Try.underlying38 (hval 0 38 v0 rfl rfl)
  obtain ⟨x0, part0, w0⟩ := open_one (P := Try.prog) (n := 12) (t := 38) (ty := .sl funT) (by kernel_rfl) rfl h0
  have lt1 : ∀ x ∈ p1, x.block < W.heap.size := by obtain ⟨m, hm⟩ := h1; exact DataW.trod_lt m _ _ _ hm
  obtain ⟨c1, rfl, _⟩ := okWide_struct Try.underlying41 (hval 1 41 v1 rfl rfl)
  obtain ⟨c1⟩ := c1
  obtain ⟨x1, part1, w1⟩ := open_many (P := Try.prog) (n := 12) (t := 41) (ts := layT) (vs := c1) (by kernel_rfl) h1
  have lt2 : ∀ x ∈ p2, x.block < W.heap.size := by obtain ⟨m, hm⟩ := h2; exact DataW.trod_lt m _ _ _ hm
  obtain ⟨n2, rfl⟩ := okWide_int Try.underlying3 (hval 2 3 v2 rfl rfl)
  obtain ⟨x2, part2, w2⟩ := open_one (P := Try.prog) (n := 12) (t := 3) (ty := I) (by kernel_rfl) rfl h2
  have lt3 : ∀ x ∈ p3, x.block < W.heap.size := by obtain ⟨m, hm⟩ := h3; exact DataW.trod_lt m _ _ _ hm
  obtain ⟨n3, rfl⟩ := okWide_int Try.underlying3 (hval 3 3 v3 rfl rfl)
  obtain ⟨x3, part3, w3⟩ := open_one (P := Try.prog) (n := 12) (t := 3) (ty := I) (by kernel_rfl) rfl h3
  have lt4 : ∀ x ∈ p4, x.block < W.heap.size := by obtain ⟨m, hm⟩ := h4; exact DataW.trod_lt m _ _ _ hm
  obtain ⟨n4, rfl⟩ := okWide_string Try.underlying9 (hval 4 9 v4 rfl rfl)
  obtain ⟨x4, part4, w4⟩ := open_one (P := Try.prog) (n := 12) (t := 9) (ty := .str) (by kernel_rfl) rfl h4
  clear hA0 hval0 hsz0
  refine ((okLawLayTo.2 (x0, (x1, (x2, (x3, (x4, ()))))) (by rw [Bool.and_eq_true, Bool.and_eq_true]; exact ⟨lenFuns_wf w0, lenLay_wf w1, lenN_iff.2 w4⟩) W (fun b => b < W.heap.size) _ [] ⟨_, _, [], [], rfl, rfl, ⟨part0, rfl⟩, ⟨_, _, [], [], rfl, rfl, part1, ⟨_, _, [], [], rfl, rfl, ⟨part2, rfl⟩, ⟨_, _, [], [], rfl, rfl, ⟨part3, rfl⟩, ⟨_, _, [], [], rfl, rfl, ⟨part4, rfl⟩, ⟨rfl, rfl⟩⟩⟩⟩⟩⟩ (given_all W))).mono ?_
  rintro e W' ⟨val, S', B1, B2, rfl, told⟩
  have bel := told_below told
  obtain ⟨hv, _⟩ := told.res
  have hv : val = .bool true := hv
  subst hv
  exact ⟨_, rfl, _, _, _, [], _, [], hW', trodAll_mk1 (shut_bool Try.underlying4 _), (trodAll_cons_mk (Below.trod laidOut (by kernel_rfl) (of_decide_eq_true (by kernel_rfl)) h0 bel lt0) (trodAll_cons_mk (Below.trod laidOut (by kernel_rfl) (of_decide_eq_true (by kernel_rfl)) h1 bel lt1) (trodAll_cons_mk (Below.trod laidOut (by kernel_rfl) (of_decide_eq_true (by kernel_rfl)) h2 bel lt2) (trodAll_cons_mk (Below.trod laidOut (by kernel_rfl) (of_decide_eq_true (by kernel_rfl)) h3 bel lt3) (trodAll_cons_mk (Below.trod laidOut (by kernel_rfl) (of_decide_eq_true (by kernel_rfl)) h4 bel lt4) trodAll_mk0))))), rfl, bel.frame _, fun h => by cases h⟩
theorem over : Rows.fnExactLayToRow.holds Try.pinned (OpenSpec.ofChange Rows.fnExactLayToSpec) :=
  OpenClaim.holds_of_wide 5 Try.f5 rfl rfl rfl rfl rfl rfl rfl ⟨rfl, rfl, rfl, rfl, rfl⟩ rfl rfl rfl rfl rfl (by kernel_rfl) Try.func5 (by kernel_rfl)
    (of_decide_eq_true (by kernel_rfl)) (by unfold Func.isWrapper; first | (rw [if_pos (by decide +kernel)]; kernel_rfl) | (rw [if_neg (by decide +kernel)]; exact ⟨rfl, rfl⟩))
    (fun os started H enc _ => lifted os started H enc)
theorem proved : Rows.FnExactLayToSaid := over
#print axioms proved
end Go.Proofs.Yteenlfeglffnoaa.fnExactLayTo
namespace Go.Proofs.Yteenlfeglffnoaa
/-- The row, under a short name, for the claim. -/
theorem fnExactLayTo_holds : Rows.FnExactLayToSaid := fnExactLayTo.proved
end Go.Proofs.Yteenlfeglffnoaa


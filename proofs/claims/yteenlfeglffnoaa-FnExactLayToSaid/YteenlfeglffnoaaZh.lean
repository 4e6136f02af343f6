/-
  THE OPENING of a law's arguments, gathered with what the laws' functions compute.
-/
import Derived.Test.YteenlfeglffnoaaEd
import Derived.Test.YteenlfeglffnoaaRxZd
namespace Go.Rx
open Go
set_option linter.unusedVariables false
theorem lenInss_wf {b : Inss} (h : Ty.wf (.sl insT) b) : G.lenInss b = true := by
  unfold G.lenInss
  rw [Bool.and_eq_true, decide_eq_true_iff, List.all_eq_true]
  exact ⟨h.1, fun i hi => lenN_iff.2 (h.2 i hi).2.2.1⟩
theorem lenFun_wf {f : Fun} (h : Tys.wf funT f) : G.lenFun f = true := by
  unfold G.lenFun
  rw [Bool.and_eq_true]
  exact ⟨lenN_iff.2 h.1, lenInss_wf h.2.2.1⟩
theorem lenFuns_wf {p : Funs} (h : Ty.wf (.sl funT) p) : G.lenFuns p = true := by
  unfold G.lenFuns
  rw [Bool.and_eq_true, decide_eq_true_iff, List.all_eq_true]
  exact ⟨h.1, fun f hf => lenFun_wf (h.2 f hf)⟩
theorem lenStrs_wf {b : Strs} (h : Ty.wf (.sl strT) b) : G.lenStrs b = true := by
  unfold G.lenStrs
  rw [Bool.and_eq_true, decide_eq_true_iff, List.all_eq_true]
  exact ⟨h.1, fun i hi => lenN_iff.2 (h.2 i hi).1⟩
theorem lenStrss_wf {b : Strss} (h : Ty.wf (.sl strsT) b) : G.lenStrss b = true := by
  unfold G.lenStrss
  rw [Bool.and_eq_true, decide_eq_true_iff, List.all_eq_true]
  exact ⟨h.1, fun s hs => lenStrs_wf (h.2 s hs).1⟩
theorem lenLay_wf {l : Lay} (h : Tys.wf layT l) : G.lenLay l = true := by
  unfold G.lenLay
  rw [Bool.and_eq_true]
  exact ⟨lenN_iff.2 h.1.1, lenStrss_wf h.2.1⟩
end Go.Rx

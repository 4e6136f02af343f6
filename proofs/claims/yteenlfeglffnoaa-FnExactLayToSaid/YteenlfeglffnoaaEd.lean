/-
  LAYINGS: the laws' functions.
-/
import Derived.Test.YteenlfeglffnoaaEc
namespace Go.Rx
open Go
set_option linter.unusedVariables false
set_option linter.unusedSimpArgs false
theorem sfLackS (p : Funs) (l : Lay) (reach : Int) (h : G.layOkP p l = true) : funK cxLackS Go.Proofs.Try.f63 spLackS.ins spLackS.out (p, l, reach, ()) = some (G.lackOut (G.lackAll p l reach), ()) := by
  have b3 := (smallP_iff.1 (layOkP_iff.1 h).1).1
  rw [eLackS, if_pos (preLackSL0_iff.2 ⟨⟨by omega, by omega, b3⟩, trivial, h⟩), lackS_eq]
  cases G.lackAll p l reach <;> rfl
theorem okLackS : SpecOk Go.Proofs.Try.prog 63 spLackS :=
  fun_okB (cx := cxLackS) (F := Go.Proofs.Try.f63) (cxOk T0_ok T0_eq pg32_ok) mixed (by kernel_rfl) (by decide) (by kernel_rfl) (lps_of (l := [(0, loopIn Go.Proofs.Try.f63 0)]) (by kernel_rfl) ⟨lp_at lpLackSL0 rfl, trivial⟩) (fun x h => sfLackS x.1 x.2.1 x.2.2.1 h)
theorem sfStuck (p : Funs) (l : Lay) (reach : Int) (h : G.layOkP p l = true) : funK cxStuck Go.Proofs.Try.f64 spStuck.ins spStuck.out (p, l, reach, ()) = some (G.stuckOut (G.lackAll p l reach), ()) := by
  have b3 := (smallP_iff.1 (layOkP_iff.1 h).1).1
  rw [eStuck, if_pos (preStuckL0_iff.2 ⟨⟨by omega, by omega, b3⟩, rfl, by rw [Bool.and_eq_true, decide_eq_true_iff]; exact ⟨rfl, h⟩⟩), stuck_eq]
  cases G.lackAll p l reach <;> rfl
theorem okStuck : SpecOk Go.Proofs.Try.prog 64 spStuck :=
  fun_okB (cx := cxStuck) (F := Go.Proofs.Try.f64) (cxOk T0_ok T0_eq pg32_ok) mixed (by kernel_rfl) (by decide) (by kernel_rfl) (lps_of (l := [(0, loopIn Go.Proofs.Try.f64 0)]) (by kernel_rfl) ⟨lp_at lpStuckL0 rfl, trivial⟩) (fun x h => sfStuck x.1 x.2.1 x.2.2.1 h)
noncomputable abbrev pg33 : List (Nat × List Spec) := (63, [spLackS]) :: (64, [spStuck]) :: pg32
theorem pg33_ok : PhiOk Go.Proofs.Try.prog pg33 := ⟨⟨okLackS, trivial⟩, ⟨okStuck, trivial⟩, pg32_ok⟩
theorem scan_some {α : Type} {p : Nat → Option α} {n : Nat} {w : α} (h : G.scan p n 0 = some w) : ∃ k, k < n ∧ p k = some w := by
  unfold G.scan at h
  rw [range_zero] at h
  obtain ⟨k, hk, e⟩ := List.exists_of_findSome?_eq_some h
  exact ⟨k, by simpa using hk, e⟩
theorem lackAll_some {p : Funs} {l : Lay} {reach : Int} {w : Int × Int × ByteArray} (h : G.lackAll p l reach = some w) : ∃ f k : Nat, f < p.length ∧ k < (G.pAt p f).2.2.1.length ∧ G.lackAt p l reach f k = true ∧ w = ((f : Int), (k : Int), (G.insAt (G.pAt p f).2.2.1 k).2.2.1) := by
  obtain ⟨f, hf, h1⟩ := scan_some h
  obtain ⟨k, hk, h2⟩ := scan_some h1
  split at h2
  · rename_i hc
    exact ⟨f, k, hf, hk, hc, (Option.some.inj h2).symm⟩
  · cases h2
def G.layTo (p : Funs) (l : Lay) (reach frm : Int) (name : ByteArray) : Int := if (G.laid p l && (G.inR reach 1 100 && G.inR frm 0 (G.sizeL p l - 1))) = true then G.to p l reach frm name else -1
def G.layOk (p : Funs) (reach : Int) (l : Lay) : Bool := G.laid p l && (G.inR reach 1 100 && (G.lackAll p l reach).isNone)
/-! SpLayTo -/
noncomputable abbrev spSpLayTo : Spec := ⟨[FunSP, LayP, IntP, IntP, StrP], IntR, false, fun x => G.smallP x.1 && G.smallL x.2.1, fun x => (G.layTo x.1 x.2.1 x.2.2.1 x.2.2.2.1 x.2.2.2.2.1, ())⟩
noncomputable abbrev cxSpLayTo : Cx := mkCx T0 pg33 [] [] 40
theorem eSpLayTo (p : Funs) (l : Lay) (reach frm : Int) (name : ByteArray) : funK cxSpLayTo Go.Proofs.Try.f27 spSpLayTo.ins spSpLayTo.out (p, l, reach, frm, name, ()) =
  (if (Go.Rx.G.smallP p && Go.Rx.G.smallL l) = Bool.true then
    if (!Go.Rx.G.laid p l) = Bool.false then
      if Decidable.decide (reach < (1 : Int)) = Bool.false then
        if Decidable.decide (reach > (100 : Int)) = Bool.false then
          if Decidable.decide (frm < (0 : Int)) = Bool.false then
            if (Go.Rx.G.smallP p && Go.Rx.G.smallL l) = Bool.true then
              if Decidable.decide (frm ≥ Go.Rx.G.laySize p l) = Bool.true then Option.some ((-1 : Int), PUnit.unit)
              else
                if Go.Rx.G.toP p l frm = Bool.true then Option.some (Go.Rx.G.to p l reach frm name, PUnit.unit)
                else Option.none
            else Option.none
          else Option.some ((-1 : Int), PUnit.unit)
        else Option.some ((-1 : Int), PUnit.unit)
      else Option.some ((-1 : Int), PUnit.unit)
    else Option.some ((-1 : Int), PUnit.unit)
  else Option.none) := by kernel_rfl
/-! LayTo -/
noncomputable abbrev spLayTo : Spec := ⟨[FunSP, LayP, IntP, IntP, StrP], IntR, false, fun x => G.smallP x.1 && G.smallL x.2.1, fun x => (G.layTo x.1 x.2.1 x.2.2.1 x.2.2.2.1 x.2.2.2.2.1, ())⟩
noncomputable abbrev cxLayTo : Cx := mkCx T0 pg33 [] [] 35
theorem eLayTo (p : Funs) (l : Lay) (reach frm : Int) (name : ByteArray) : funK cxLayTo Go.Proofs.Try.f28 spLayTo.ins spLayTo.out (p, l, reach, frm, name, ()) =
  (if (Go.Rx.G.smallP p && Go.Rx.G.smallL l) = Bool.true then
    if (!Go.Rx.G.laid p l) = Bool.false then
      if (!Go.Rx.G.inR reach (1 : Int) (100 : Int)) = Bool.false then
        if Go.Rx.G.layOkP p l = Bool.true then
          if (!Go.Rx.G.inR frm (0 : Int) (Go.IntKind.wrap Go.IntKind.i64 (Go.Rx.G.sizeL p l - (1 : Int)))) = Bool.true then Option.some ((-1 : Int), PUnit.unit)
          else if Go.Rx.G.toP p l frm = Bool.true then Option.some (Go.Rx.G.to p l reach frm name, PUnit.unit) else Option.none
        else Option.none
      else Option.some ((-1 : Int), PUnit.unit)
    else Option.some ((-1 : Int), PUnit.unit)
  else Option.none) := by kernel_rfl
/-! SpLayOk -/
noncomputable abbrev spSpLayOk : Spec := ⟨[FunSP, IntP, LayP], BoolR, false, fun x => G.smallP x.1 && G.smallL x.2.2.1, fun x => (G.layOk x.1 x.2.1 x.2.2.1, ())⟩
noncomputable abbrev cxSpLayOk : Cx := mkCx T0 pg33 [] [] 30
theorem eSpLayOk (p : Funs) (reach : Int) (l : Lay) : funK cxSpLayOk Go.Proofs.Try.f29 spSpLayOk.ins spSpLayOk.out (p, reach, l, ()) =
  (if Decidable.decide (reach < (1 : Int)) = Bool.false then
    if Decidable.decide (reach > (100 : Int)) = Bool.false then
      if (Go.Rx.G.smallP p && Go.Rx.G.smallL l) = Bool.true then
        if (!Go.Rx.G.laid p l) = Bool.true then Option.some (Bool.false, PUnit.unit)
        else
          if Go.Rx.G.layOkP p l = Bool.true then Option.some (Decidable.decide ((Go.Rx.G.lackOut (Go.Rx.G.lackAll p l reach)).1 < (0 : Int)), PUnit.unit)
          else Option.none
      else Option.none
    else Option.some (Bool.false, PUnit.unit)
  else Option.some (Bool.false, PUnit.unit)) := by kernel_rfl
/-! LayOk -/
noncomputable abbrev spLayOk : Spec := ⟨[FunSP, IntP, LayP], BoolR, false, fun x => G.smallP x.1 && G.smallL x.2.2.1, fun x => (G.layOk x.1 x.2.1 x.2.2.1, ())⟩
noncomputable abbrev cxLayOk : Cx := mkCx T0 pg33 [] [] 27
theorem eLayOk (p : Funs) (reach : Int) (l : Lay) : funK cxLayOk Go.Proofs.Try.f30 spLayOk.ins spLayOk.out (p, reach, l, ()) =
  (if (Go.Rx.G.smallP p && Go.Rx.G.smallL l) = Bool.true then
    if (!Go.Rx.G.laid p l) = Bool.false then
      if (!Go.Rx.G.inR reach (1 : Int) (100 : Int)) = Bool.true then Option.some (Bool.false, PUnit.unit)
      else if Go.Rx.G.layOkP p l = Bool.true then Option.some (!(Go.Rx.G.stuckOut (Go.Rx.G.lackAll p l reach)).2.1, PUnit.unit) else Option.none
    else Option.some (Bool.false, PUnit.unit)
  else Option.none) := by kernel_rfl
theorem sizeL_bd {p : Funs} {l : Lay} (h : G.layOkP p l = true) : 0 ≤ G.sizeL p l ∧ G.sizeL p l ≤ 50000000 := by
  obtain ⟨h1, h2, h3⟩ := layOkP_iff.1 h
  obtain ⟨⟨b1, b2, b3, b4⟩, b5⟩ := laid_bd h2 h3
  obtain ⟨c1, c2, c3, c4, c5⟩ := b5 (p.length - 1) (by omega)
  unfold G.sizeL G.partLen
  omega
theorem sfSpLayTo (p : Funs) (l : Lay) (reach frm : Int) (name : ByteArray) (h : (G.smallP p && G.smallL l) = true) : funK cxSpLayTo Go.Proofs.Try.f27 spSpLayTo.ins spSpLayTo.out (p, l, reach, frm, name, ()) = some (G.layTo p l reach frm name, ()) := by
  have h0 := h
  rw [Bool.and_eq_true] at h0
  rw [eSpLayTo, if_pos h]
  unfold G.layTo
  cases hl : G.laid p l with
  | false => rfl
  | true =>
    have hP : G.layOkP p l = true := layOkP_iff.2 ⟨h0.1, h0.2, hl⟩
    obtain ⟨s1, s2⟩ := sizeL_bd hP
    have es : G.laySize p l = G.sizeL p l := by unfold G.laySize; rw [if_pos hl]
    rw [if_pos (show (!true) = false from rfl), Bool.true_and, es]
    by_cases c1 : 1 ≤ reach ∧ reach ≤ 100
    · rw [if_pos (decide_eq_false (by omega)), if_pos (decide_eq_false (by omega)), inR_iff.2 c1, Bool.true_and]
      by_cases c2 : 0 ≤ frm ∧ frm ≤ G.sizeL p l - 1
      · rw [if_pos (decide_eq_false (by omega)), if_pos h, if_neg (by simp; omega), if_pos (toP_iff.2 ⟨hP, mid_iff.2 (by omega)⟩), if_pos (inR_iff.2 c2)]
      · rw [if_neg (fun e => c2 (inR_iff.1 e))]
        by_cases c3 : frm < 0
        · rw [if_neg (by simpa using c3)]
        · rw [if_pos (decide_eq_false c3), if_pos h, if_pos (decide_eq_true (by omega))]
    · rw [inR_not.2 c1]
      by_cases c3 : reach < 1
      · rw [if_neg (by simpa using c3)]
        rfl
      · rw [if_pos (decide_eq_false c3), if_neg (by simp; omega)]
        rfl
theorem okSpLayTo : SpecOk Go.Proofs.Try.prog 27 spSpLayTo :=
  fun_okB (cx := cxSpLayTo) (F := Go.Proofs.Try.f27) (cxOk T0_ok T0_eq pg33_ok) mixed (by kernel_rfl) (by decide) (by kernel_rfl) (lps_none (by kernel_rfl)) (fun x h => sfSpLayTo x.1 x.2.1 x.2.2.1 x.2.2.2.1 x.2.2.2.2.1 h)
theorem sfLayTo (p : Funs) (l : Lay) (reach frm : Int) (name : ByteArray) (h : (G.smallP p && G.smallL l) = true) : funK cxLayTo Go.Proofs.Try.f28 spLayTo.ins spLayTo.out (p, l, reach, frm, name, ()) = some (G.layTo p l reach frm name, ()) := by
  have h0 := h
  rw [Bool.and_eq_true] at h0
  rw [eLayTo, if_pos h]
  unfold G.layTo
  cases hl : G.laid p l with
  | false => rfl
  | true =>
    have hP : G.layOkP p l = true := layOkP_iff.2 ⟨h0.1, h0.2, hl⟩
    obtain ⟨s1, s2⟩ := sizeL_bd hP
    rw [if_pos (show (!true) = false from rfl), Bool.true_and, w64 (by omega) (by omega), if_pos hP]
    by_cases c1 : 1 ≤ reach ∧ reach ≤ 100
    · rw [inR_iff.2 c1, Bool.true_and, if_pos (show (!true) = false from rfl)]
      by_cases c2 : 0 ≤ frm ∧ frm ≤ G.sizeL p l - 1
      · rw [inR_iff.2 c2, if_neg (by decide), if_pos (toP_iff.2 ⟨hP, mid_iff.2 (by omega)⟩), if_pos rfl]
      · rw [inR_not.2 c2]
        rfl
    · rw [inR_not.2 c1]
      rfl
theorem okLayTo : SpecOk Go.Proofs.Try.prog 28 spLayTo :=
  fun_okB (cx := cxLayTo) (F := Go.Proofs.Try.f28) (cxOk T0_ok T0_eq pg33_ok) mixed (by kernel_rfl) (by decide) (by kernel_rfl) (lps_none (by kernel_rfl)) (fun x h => sfLayTo x.1 x.2.1 x.2.2.1 x.2.2.2.1 x.2.2.2.2.1 h)
theorem lackOut_neg (p : Funs) (l : Lay) (reach : Int) : decide ((G.lackOut (G.lackAll p l reach)).1 < 0) = (G.lackAll p l reach).isNone := by
  cases h : G.lackAll p l reach with
  | none => rfl
  | some w =>
    obtain ⟨f, k, _, _, _, rfl⟩ := lackAll_some h
    exact decide_eq_false (show ¬ (f : Int) < 0 by omega)
theorem sfSpLayOk (p : Funs) (reach : Int) (l : Lay) (h : (G.smallP p && G.smallL l) = true) : funK cxSpLayOk Go.Proofs.Try.f29 spSpLayOk.ins spSpLayOk.out (p, reach, l, ()) = some (G.layOk p reach l, ()) := by
  have h0 := h
  rw [Bool.and_eq_true] at h0
  rw [eSpLayOk, if_pos h, lackOut_neg]
  unfold G.layOk
  by_cases c1 : 1 ≤ reach ∧ reach ≤ 100
  · rw [if_pos (decide_eq_false (by omega)), if_pos (decide_eq_false (by omega)), inR_iff.2 c1, Bool.true_and]
    cases hl : G.laid p l with
    | false => rfl
    | true =>
      rw [if_neg (by decide), if_pos (layOkP_iff.2 ⟨h0.1, h0.2, hl⟩)]
      rfl
  · rw [inR_not.2 c1, Bool.false_and, Bool.and_false]
    by_cases c3 : reach < 1
    · rw [if_neg (by simpa using c3)]
    · rw [if_pos (decide_eq_false c3), if_neg (by simp; omega)]
theorem okSpLayOk : SpecOk Go.Proofs.Try.prog 29 spSpLayOk :=
  fun_okB (cx := cxSpLayOk) (F := Go.Proofs.Try.f29) (cxOk T0_ok T0_eq pg33_ok) mixed (by kernel_rfl) (by decide) (by kernel_rfl) (lps_none (by kernel_rfl)) (fun x h => sfSpLayOk x.1 x.2.1 x.2.2.1 h)
theorem stuck_not (o : Option (Int × Int × ByteArray)) : (!(G.stuckOut o).2.1) = o.isNone := by cases o <;> rfl
theorem sfLayOk (p : Funs) (reach : Int) (l : Lay) (h : (G.smallP p && G.smallL l) = true) : funK cxLayOk Go.Proofs.Try.f30 spLayOk.ins spLayOk.out (p, reach, l, ()) = some (G.layOk p reach l, ()) := by
  have h0 := h
  rw [Bool.and_eq_true] at h0
  rw [eLayOk, if_pos h, stuck_not]
  unfold G.layOk
  cases hl : G.laid p l with
  | false => rfl
  | true =>
    rw [if_pos (show (!true) = false from rfl), Bool.true_and, if_pos (layOkP_iff.2 ⟨h0.1, h0.2, hl⟩)]
    cases G.inR reach 1 100 <;> rfl
theorem okLayOk : SpecOk Go.Proofs.Try.prog 30 spLayOk :=
  fun_okB (cx := cxLayOk) (F := Go.Proofs.Try.f30) (cxOk T0_ok T0_eq pg33_ok) mixed (by kernel_rfl) (by decide) (by kernel_rfl) (lps_none (by kernel_rfl)) (fun x h => sfLayOk x.1 x.2.1 x.2.2.1 h)
noncomputable abbrev pg34 : List (Nat × List Spec) := (27, [spSpLayTo]) :: (28, [spLayTo]) :: (29, [spSpLayOk]) :: (30, [spLayOk]) :: (24, [spLaySize]) :: pg33
theorem pg34_ok : PhiOk Go.Proofs.Try.prog pg34 := ⟨⟨okSpLayTo, trivial⟩, ⟨okLayTo, trivial⟩, ⟨okSpLayOk, trivial⟩, ⟨okLayOk, trivial⟩, ⟨okLaySize, trivial⟩, pg33_ok⟩
/-! what is light is small -/
theorem wFuns_small {p : Funs} (h : G.wFuns p ≤ 1048576) : G.smallP p = true := by
  have e : G.wFuns p = p.length + (p.map G.wFun).sum := rfl
  refine smallP_iff.2 ⟨by omega, ?_⟩
  rw [List.all_eq_true]
  intro f hf
  have h1 := sum_mem (w := G.wFun) hf
  have e2 : G.wFun f = f.1.size + (f.2.2.1.length + (f.2.2.1.map G.wIns).sum) := rfl
  refine smallF_iff.2 ⟨by omega, by omega, ?_⟩
  rw [List.all_eq_true]
  intro i hi
  have h2 := sum_mem (w := G.wIns) hi
  exact lenS_iff.2 (show G.wIns i ≤ 1099511627776 by omega)
theorem wLay_small {l : Lay} (h : G.wLay l ≤ 1048576) : G.smallL l = true := by
  have e : G.wLay l = l.1.length + (l.2.1.length + (l.2.1.map G.wStrsE).sum) := rfl
  unfold G.smallL
  rw [Bool.and_eq_true, decide_eq_true_iff, List.all_eq_true]
  refine ⟨⟨by omega, by omega⟩, fun s hs => ?_⟩
  have h1 := sum_mem (w := G.wStrsE) hs
  have e2 : G.wStrsE s = s.1.length + (s.1.map G.wStr).sum := rfl
  exact decide_eq_true (by omega)
/-! LawLaySize -/
noncomputable abbrev spLawLaySize : Spec := ⟨[FunSP, LayP], BoolR, false, fun x => G.lenFuns x.1 && G.lenLay x.2.1, fun x => (true, ())⟩
noncomputable abbrev cxLawLaySize : Cx := mkCx T0 pg34 [] [] 45
theorem eLawLaySize (p : Funs) (l : Lay) : funK cxLawLaySize Go.Proofs.Try.f4 spLawLaySize.ins spLawLaySize.out (p, l, ()) =
  (if (Go.Rx.G.szP (1048576 : Int) && Go.Rx.G.lenFuns p) = Bool.true then
    if Decidable.decide (Go.Rx.G.szW (Go.Rx.G.wFuns p) (1048576 : Int) < (0 : Int)) = Bool.true then Option.some (Bool.true, PUnit.unit)
    else
      if (Go.Rx.G.szP (Go.Rx.G.szW (Go.Rx.G.wFuns p) (1048576 : Int)) && Go.Rx.G.lenLay l) = Bool.true then
        if Decidable.decide (Go.Rx.G.szW (Go.Rx.G.wLay l) (Go.Rx.G.szW (Go.Rx.G.wFuns p) (1048576 : Int)) < (0 : Int)) = Bool.true then Option.some (Bool.true, PUnit.unit)
        else
          if (Go.Rx.G.few (List.length p) && List.all p Go.Rx.G.fewFun) = Bool.true then
            if Go.Rx.G.fewLay l = Bool.true then
              if (Go.Rx.G.smallP p && Go.Rx.G.smallL l) = Bool.true then
                if (Go.Rx.G.few (List.length p) && List.all p Go.Rx.G.fewFun) = Bool.true then
                  if Go.Rx.G.fewLay l = Bool.true then
                    if (Go.Rx.G.smallP p && Go.Rx.G.smallL l) = Bool.true then
                      if (!Decidable.decide (Go.Rx.G.laySize p l = Go.Rx.G.laySize p l)) = Bool.true then Option.some (Bool.false, PUnit.unit)
                      else
                        if (Go.Rx.G.few (List.length p) && List.all p Go.Rx.G.fewFun) = Bool.true then
                          if (Go.Rx.G.few (List.length p) && List.all p Go.Rx.G.fewFun) = Bool.true then
                            if (!Go.Rx.G.sameS p p) = Bool.true then Option.some (Bool.false, PUnit.unit)
                            else
                              if Go.Rx.G.fewLay l = Bool.true then
                                if Go.Rx.G.fewLay l = Bool.true then if (!Go.Rx.G.eqLay l l) = Bool.true then Option.some (Bool.false, PUnit.unit) else Option.some (Bool.true, PUnit.unit)
                                else Option.none
                              else Option.none
                          else Option.none
                        else Option.none
                    else Option.none
                  else Option.none
                else Option.none
              else Option.none
            else Option.none
          else Option.none
      else Option.none
  else Option.none) := by kernel_rfl
/-! LawLayTo -/
noncomputable abbrev spLawLayTo : Spec := ⟨[FunSP, LayP, IntP, IntP, StrP], BoolR, false, fun x => G.lenFuns x.1 && (G.lenLay x.2.1 && G.lenN x.2.2.2.2.1.size), fun x => (true, ())⟩
noncomputable abbrev cxLawLayTo : Cx := mkCx T0 pg34 [] [] 60
theorem eLawLayTo (p : Funs) (l : Lay) (reach frm : Int) (name : ByteArray) : funK cxLawLayTo Go.Proofs.Try.f5 spLawLayTo.ins spLawLayTo.out (p, l, reach, frm, name, ()) =
  (if Decidable.decide ((↑(ByteArray.size name) : Int) > (1048576 : Int)) = Bool.true then Option.some (Bool.true, PUnit.unit)
  else
    if (Go.Rx.G.szP (1048576 : Int) && Go.Rx.G.lenFuns p) = Bool.true then
      if Decidable.decide (Go.Rx.G.szW (Go.Rx.G.wFuns p) (1048576 : Int) < (0 : Int)) = Bool.true then Option.some (Bool.true, PUnit.unit)
      else
        if (Go.Rx.G.szP (Go.Rx.G.szW (Go.Rx.G.wFuns p) (1048576 : Int)) && Go.Rx.G.lenLay l) = Bool.true then
          if Decidable.decide (Go.Rx.G.szW (Go.Rx.G.wLay l) (Go.Rx.G.szW (Go.Rx.G.wFuns p) (1048576 : Int)) < (0 : Int)) = Bool.true then Option.some (Bool.true, PUnit.unit)
          else
            if (Go.Rx.G.few (List.length p) && List.all p Go.Rx.G.fewFun) = Bool.true then
              if Go.Rx.G.fewLay l = Bool.true then
                if (Go.Rx.G.smallP p && Go.Rx.G.smallL l) = Bool.true then
                  if (Go.Rx.G.few (List.length p) && List.all p Go.Rx.G.fewFun) = Bool.true then
                    if Go.Rx.G.fewLay l = Bool.true then
                      if (Go.Rx.G.smallP p && Go.Rx.G.smallL l) = Bool.true then
                        if
                            (!Decidable.decide
                                  (Go.Rx.G.layTo p l reach frm name =
                                    Go.Rx.G.layTo p l reach frm name)) =
                              Bool.true then
                          Option.some (Bool.false, PUnit.unit)
                        else
                          if (Go.Rx.G.few (List.length p) && List.all p Go.Rx.G.fewFun) = Bool.true then
                            if (Go.Rx.G.few (List.length p) && List.all p Go.Rx.G.fewFun) = Bool.true then
                              if (!Go.Rx.G.sameS p p) = Bool.true then Option.some (Bool.false, PUnit.unit)
                              else
                                if Go.Rx.G.fewLay l = Bool.true then
                                  if Go.Rx.G.fewLay l = Bool.true then if (!Go.Rx.G.eqLay l l) = Bool.true then Option.some (Bool.false, PUnit.unit) else Option.some (Bool.true, PUnit.unit)
                                  else Option.none
                                else Option.none
                            else Option.none
                          else Option.none
                      else Option.none
                    else Option.none
                  else Option.none
                else Option.none
              else Option.none
            else Option.none
        else Option.none
    else Option.none) := by kernel_rfl
/-! LawLayOk -/
noncomputable abbrev spLawLayOk : Spec := ⟨[FunSP, IntP, LayP], BoolR, false, fun x => G.lenFuns x.1 && G.lenLay x.2.2.1, fun x => (true, ())⟩
noncomputable abbrev cxLawLayOk : Cx := mkCx T0 pg34 [] [] 49
theorem eLawLayOk (p : Funs) (reach : Int) (l : Lay) : funK cxLawLayOk Go.Proofs.Try.f6 spLawLayOk.ins spLawLayOk.out (p, reach, l, ()) =
  (if (Go.Rx.G.szP (1048576 : Int) && Go.Rx.G.lenFuns p) = Bool.true then
    if Decidable.decide (Go.Rx.G.szW (Go.Rx.G.wFuns p) (1048576 : Int) < (0 : Int)) = Bool.true then Option.some (Bool.true, PUnit.unit)
    else
      if (Go.Rx.G.szP (Go.Rx.G.szW (Go.Rx.G.wFuns p) (1048576 : Int)) && Go.Rx.G.lenLay l) = Bool.true then
        if Decidable.decide (Go.Rx.G.szW (Go.Rx.G.wLay l) (Go.Rx.G.szW (Go.Rx.G.wFuns p) (1048576 : Int)) < (0 : Int)) = Bool.true then Option.some (Bool.true, PUnit.unit)
        else
          if (Go.Rx.G.few (List.length p) && List.all p Go.Rx.G.fewFun) = Bool.true then
            if Go.Rx.G.fewLay l = Bool.true then
              if (Go.Rx.G.smallP p && Go.Rx.G.smallL l) = Bool.true then
                if (Go.Rx.G.few (List.length p) && List.all p Go.Rx.G.fewFun) = Bool.true then
                  if Go.Rx.G.fewLay l = Bool.true then
                    if (Go.Rx.G.smallP p && Go.Rx.G.smallL l) = Bool.true then
                      if (!Decidable.decide (Go.Rx.G.layOk p reach l = Go.Rx.G.layOk p reach l)) = Bool.true then
                        Option.some (Bool.false, PUnit.unit)
                      else
                        if (Go.Rx.G.few (List.length p) && List.all p Go.Rx.G.fewFun) = Bool.true then
                          if (Go.Rx.G.few (List.length p) && List.all p Go.Rx.G.fewFun) = Bool.true then
                            if (!Go.Rx.G.sameS p p) = Bool.true then Option.some (Bool.false, PUnit.unit)
                            else
                              if Go.Rx.G.fewLay l = Bool.true then
                                if Go.Rx.G.fewLay l = Bool.true then if (!Go.Rx.G.eqLay l l) = Bool.true then Option.some (Bool.false, PUnit.unit) else Option.some (Bool.true, PUnit.unit)
                                else Option.none
                              else Option.none
                          else Option.none
                        else Option.none
                    else Option.none
                  else Option.none
                else Option.none
              else Option.none
            else Option.none
          else Option.none
      else Option.none
  else Option.none) := by kernel_rfl
theorem sfLawLaySize (p : Funs) (l : Lay) (h : (G.lenFuns p && G.lenLay l) = true) : funK cxLawLaySize Go.Proofs.Try.f4 spLawLaySize.ins spLawLaySize.out (p, l, ()) = some (true, ()) := by
  rw [Bool.and_eq_true] at h
  obtain ⟨h1, h2⟩ := h
  have hs := szP_iff.2 (show (0 : Int) ≤ 1048576 ∧ (1048576 : Int) ≤ 1048576 by omega)
  rw [eLawLaySize, if_pos (show (G.szP 1048576 && G.lenFuns p) = true by rw [Bool.and_eq_true]; exact ⟨hs, h1⟩)]
  by_cases c1 : G.szW (G.wFuns p) 1048576 < 0
  · rw [if_pos (decide_eq_true c1)]
  · obtain ⟨w1, e1⟩ := szW_ok c1
    rw [if_neg (by simpa using c1), e1, if_pos (show (G.szP (1048576 - (G.wFuns p : Int)) && G.lenLay l) = true by rw [Bool.and_eq_true]; exact ⟨szP_iff.2 (by omega), h2⟩)]
    by_cases c2 : G.szW (G.wLay l) (1048576 - (G.wFuns p : Int)) < 0
    · rw [if_pos (decide_eq_true c2)]
    · obtain ⟨w2, e2⟩ := szW_ok c2
      have f1 : (G.few p.length && p.all G.fewFun) = true := wFuns_few (by omega)
      have f2 : G.fewLay l = true := wLay_few (by omega)
      have f3 : (G.smallP p && G.smallL l) = true := by rw [Bool.and_eq_true]; exact ⟨wFuns_small (by omega), wLay_small (by omega)⟩
      rw [if_neg (by simpa using c2)]
      simp [f1, f2, f3, sameS_self, eqLay_self]
theorem okLawLaySize : SpecOk Go.Proofs.Try.prog 4 spLawLaySize :=
  fun_okB (cx := cxLawLaySize) (F := Go.Proofs.Try.f4) (cxOk T0_ok T0_eq pg34_ok) mixed (by kernel_rfl) (by decide) (by kernel_rfl) (lps_none (by kernel_rfl)) (fun x h => sfLawLaySize x.1 x.2.1 h)
theorem sfLawLayTo (p : Funs) (l : Lay) (reach frm : Int) (name : ByteArray) (h : (G.lenFuns p && (G.lenLay l && G.lenN name.size)) = true) : funK cxLawLayTo Go.Proofs.Try.f5 spLawLayTo.ins spLawLayTo.out (p, l, reach, frm, name, ()) = some (true, ()) := by
  rw [Bool.and_eq_true, Bool.and_eq_true] at h
  obtain ⟨h1, h2, h3⟩ := h
  rw [eLawLayTo]
  by_cases c0 : (name.size : Int) > 1048576
  · rw [if_pos (decide_eq_true c0)]
  rw [if_neg (by simpa using c0)]
  have hs := szP_iff.2 (show (0 : Int) ≤ 1048576 ∧ (1048576 : Int) ≤ 1048576 by omega)
  rw [if_pos (show (G.szP 1048576 && G.lenFuns p) = true by rw [Bool.and_eq_true]; exact ⟨hs, h1⟩)]
  by_cases c1 : G.szW (G.wFuns p) 1048576 < 0
  · rw [if_pos (decide_eq_true c1)]
  · obtain ⟨w1, e1⟩ := szW_ok c1
    rw [if_neg (by simpa using c1), e1, if_pos (show (G.szP (1048576 - (G.wFuns p : Int)) && G.lenLay l) = true by rw [Bool.and_eq_true]; exact ⟨szP_iff.2 (by omega), h2⟩)]
    by_cases c2 : G.szW (G.wLay l) (1048576 - (G.wFuns p : Int)) < 0
    · rw [if_pos (decide_eq_true c2)]
    · obtain ⟨w2, e2⟩ := szW_ok c2
      have f1 : (G.few p.length && p.all G.fewFun) = true := wFuns_few (by omega)
      have f2 : G.fewLay l = true := wLay_few (by omega)
      have f3 : (G.smallP p && G.smallL l) = true := by rw [Bool.and_eq_true]; exact ⟨wFuns_small (by omega), wLay_small (by omega)⟩
      rw [if_neg (by simpa using c2)]
      simp [f1, f2, f3, sameS_self, eqLay_self]
theorem okLawLayTo : SpecOk Go.Proofs.Try.prog 5 spLawLayTo :=
  fun_okB (cx := cxLawLayTo) (F := Go.Proofs.Try.f5) (cxOk T0_ok T0_eq pg34_ok) mixed (by kernel_rfl) (by decide) (by kernel_rfl) (lps_none (by kernel_rfl)) (fun x h => sfLawLayTo x.1 x.2.1 x.2.2.1 x.2.2.2.1 x.2.2.2.2.1 h)
theorem sfLawLayOk (p : Funs) (reach : Int) (l : Lay) (h : (G.lenFuns p && G.lenLay l) = true) : funK cxLawLayOk Go.Proofs.Try.f6 spLawLayOk.ins spLawLayOk.out (p, reach, l, ()) = some (true, ()) := by
  rw [Bool.and_eq_true] at h
  obtain ⟨h1, h2⟩ := h
  have hs := szP_iff.2 (show (0 : Int) ≤ 1048576 ∧ (1048576 : Int) ≤ 1048576 by omega)
  rw [eLawLayOk, if_pos (show (G.szP 1048576 && G.lenFuns p) = true by rw [Bool.and_eq_true]; exact ⟨hs, h1⟩)]
  by_cases c1 : G.szW (G.wFuns p) 1048576 < 0
  · rw [if_pos (decide_eq_true c1)]
  · obtain ⟨w1, e1⟩ := szW_ok c1
    rw [if_neg (by simpa using c1), e1, if_pos (show (G.szP (1048576 - (G.wFuns p : Int)) && G.lenLay l) = true by rw [Bool.and_eq_true]; exact ⟨szP_iff.2 (by omega), h2⟩)]
    by_cases c2 : G.szW (G.wLay l) (1048576 - (G.wFuns p : Int)) < 0
    · rw [if_pos (decide_eq_true c2)]
    · obtain ⟨w2, e2⟩ := szW_ok c2
      have f1 : (G.few p.length && p.all G.fewFun) = true := wFuns_few (by omega)
      have f2 : G.fewLay l = true := wLay_few (by omega)
      have f3 : (G.smallP p && G.smallL l) = true := by rw [Bool.and_eq_true]; exact ⟨wFuns_small (by omega), wLay_small (by omega)⟩
      rw [if_neg (by simpa using c2)]
      simp [f1, f2, f3, sameS_self, eqLay_self]
theorem okLawLayOk : SpecOk Go.Proofs.Try.prog 6 spLawLayOk :=
  fun_okB (cx := cxLawLayOk) (F := Go.Proofs.Try.f6) (cxOk T0_ok T0_eq pg34_ok) mixed (by kernel_rfl) (by decide) (by kernel_rfl) (lps_none (by kernel_rfl)) (fun x h => sfLawLayOk x.1 x.2.1 x.2.2.1 h)
end Go.Rx

/-
  THE SAME: functions, units, lists of units compared.
-/
import Derived.Test.YtoagkidolpcigaaIl
namespace Go.Rx
open Go
set_option linter.unusedVariables false
set_option linter.unusedSimpArgs false
theorem ins_ne2 {x y : Int × Int × ByteArray × Unit} (h : ¬ x = y) : (decide (x.1 = y.1) && (decide (x.2.1 = y.2.1) && (Go.Rx.strEq x.2.2.1 y.2.2.1 && true))) = false := by
  rw [strEq_iff, Bool.eq_false_iff]
  intro e
  simp at e
  exact h (Prod.ext e.1 (Prod.ext e.2.1 (Prod.ext e.2.2 rfl)))
/-! SlEqIns: its loop -/
noncomputable abbrev lsSlEqIns : LSpec := ⟨[0, 1, 12, 13, 4], [4], [.c (.dat (.sl insT)), .c (.dat (.sl insT)), .c (.dat I), .c (.dat I), .c (.dat .bool)], [.c (.dat .bool)], false, fun x => G.eqPreR x.1 x.2.1 x.2.2.1 x.2.2.2.1,
  fun x => ((if G.eqFrom x.1 x.2.1 x.2.2.2.1 = true then 0 else 1, (G.eqFrom x.1 x.2.1 x.2.2.2.1 && x.2.2.2.2.1, ())), ())⟩
noncomputable abbrev cxSlEqIns : Cx := mkCx T0 pr11 [(0, lsSlEqIns)] [] 26
theorem rSlEqIns (a b : List (Int × Int × ByteArray × Unit)) (n : Int) (i : Int) (r : Bool) : roundK cxSlEqIns 0 (loopIn Go.Proofs.Try.f60 0) lsSlEqIns (a, b, n, i, r, ()) =
  (if Decidable.decide (i < n) = Bool.true then
    if Decidable.decide ((0 : Int) ≤ i) = Bool.true then
      if Decidable.decide (i < (↑(List.length a) : Int)) = Bool.true then
        if Decidable.decide ((0 : Int) ≤ i) = Bool.true then
          if Decidable.decide (i < (↑(List.length b) : Int)) = Bool.true then
            if
                (!(Decidable.decide
                        ((List.getD a (Int.toNat i) ((0 : Int), (0 : Int), ByteArray.empty, PUnit.unit)).1 =
                          (List.getD b (Int.toNat i) ((0 : Int), (0 : Int), ByteArray.empty, PUnit.unit)).1) &&
                      (Decidable.decide
                          ((List.getD a (Int.toNat i) ((0 : Int), (0 : Int), ByteArray.empty, PUnit.unit)).2.1 =
                            (List.getD b (Int.toNat i) ((0 : Int), (0 : Int), ByteArray.empty, PUnit.unit)).2.1) &&
                        (Go.Rx.strEq (List.getD a (Int.toNat i) ((0 : Int), (0 : Int), ByteArray.empty, PUnit.unit)).2.2.1
                            (List.getD b (Int.toNat i) ((0 : Int), (0 : Int), ByteArray.empty, PUnit.unit)).2.2.1 &&
                          Bool.true)))) =
                  Bool.true then
              Option.some (Go.Rx.LRes.stop (1 : Nat) (Bool.false, PUnit.unit) PUnit.unit)
            else Option.some (Go.Rx.LRes.go (a, b, n, Go.IntKind.wrap Go.IntKind.i64 (i + (1 : Int)), r, PUnit.unit))
          else Option.none
        else Option.none
      else Option.none
    else Option.none
  else Option.some (Go.Rx.LRes.stop (0 : Nat) (r, PUnit.unit) PUnit.unit)) := by kernel_rfl
noncomputable abbrev muSlEqIns : PKs.den lsSlEqIns.ins → Nat := fun x => x.1.length - x.2.2.2.1.toNat
theorem stSlEqIns (a b : List (Int × Int × ByteArray × Unit)) (n : Int) (i : Int) (r : Bool) (h : G.eqPreR a b n i = true) : StepOk lsSlEqIns (eqInv lsSlEqIns) muSlEqIns (a, b, n, i, r, ()) (roundK cxSlEqIns 0 (loopIn Go.Proofs.Try.f60 0) lsSlEqIns (a, b, n, i, r, ())) := by
  obtain ⟨h0, h1, h2, h3, h4⟩ := eqPreR_iff.1 h
  rw [rSlEqIns]
  by_cases hi : i < (a.length : Int)
  · have hb : i < (b.length : Int) := by omega
    have hn : i < n := by omega
    have hw : IntKind.i64.wrap (i + 1) = i + 1 := w64 (by omega) (by omega)
    have he := eqFrom_step (((0 : Int), (0 : Int), ByteArray.empty, ()) : Int × Int × ByteArray × Unit) h0 hi hb
    simp only [hi, hb, h0, decide_true, if_true, hw, hn]
    generalize a.getD i.toNat (((0 : Int), (0 : Int), ByteArray.empty, ()) : Int × Int × ByteArray × Unit) = x at *
    generalize b.getD i.toNat (((0 : Int), (0 : Int), ByteArray.empty, ()) : Int × Int × ByteArray × Unit) = y at *
    by_cases hc : x = y
    · subst hc
      simp at he
      simp [strEq_iff]
      refine ⟨(show G.eqPreR a b n (i + 1) = true from eqPreR_iff.2 ⟨by omega, by omega, h2, h3, h4⟩), ?_, ?_⟩
      · show a.length - (i + 1).toNat < a.length - i.toNat
        omega
      · show ((_, _), _) = ((_, _), _)
        simp only [he]
    · simp only [hc, decide_false, Bool.false_and] at he
      have hcc := ins_ne2 hc
      simp only [hcc, Bool.not_false, if_true]
      show ((_, _), _) = ((_, _), _)
      simp only [he]
      simp
  · have he : G.eqFrom a b i = true := eqFrom_end (by omega) (by omega)
    have hn : ¬ i < n := by omega
    simp only [hi, decide_false, hn]
    show ((_, _), _) = ((_, _), _)
    simp only [he]
    simp
theorem lpSlEqIns : LpOk Go.Proofs.Try.prog cxSlEqIns.ntmps 0 (loopIn Go.Proofs.Try.f60 0) lsSlEqIns :=
  lp_okB (cxOk T0_ok T0_eq pr11_ok) mixed (by kernel_rfl) (lps_none (by kernel_rfl)) (eqInv lsSlEqIns) muSlEqIns (fun _ h => h) (fun x h => stSlEqIns x.1 x.2.1 x.2.2.1 x.2.2.2.1 x.2.2.2.2.1 h)
/-! SlEqIns -/
noncomputable abbrev spSlEqIns : Spec := ⟨[.c (.dat (.sl insT)), .c (.dat (.sl insT))], .one (.c (.dat .bool)), false, fun x => G.few x.1.length, fun x => (G.sameS x.1 x.2.1, ())⟩
theorem eSlEqIns (a b : List (Int × Int × ByteArray × Unit)) : funK cxSlEqIns Go.Proofs.Try.f60 spSlEqIns.ins spSlEqIns.out (a, b, ()) =
  (if (!Decidable.decide ((↑(List.length a) : Int) = (↑(List.length b) : Int))) = Bool.true then Option.some (Bool.false, PUnit.unit)
  else
    if Go.Rx.G.eqPreR a b (↑(List.length a) : Int) (0 : Int) = Bool.true then
      if (if Go.Rx.G.eqFrom a b (0 : Int) = Bool.true then (0 : Nat) else (1 : Nat)) = (0 : Nat) then Option.some (Bool.true, PUnit.unit)
      else
        if (if Go.Rx.G.eqFrom a b (0 : Int) = Bool.true then (0 : Nat) else (1 : Nat)) = (1 : Nat) then Option.some (Go.Rx.G.eqFrom a b (0 : Int) && Bool.false, PUnit.unit)
        else Option.none
    else Option.none) := by kernel_rfl
theorem sfSlEqIns (a b : List (Int × Int × ByteArray × Unit)) (h : G.few a.length = true) : funK cxSlEqIns Go.Proofs.Try.f60 spSlEqIns.ins spSlEqIns.out (a, b, ()) = some (G.sameS a b, ()) := by
  rw [eSlEqIns]
  by_cases hl : a.length = b.length
  · have hp : G.eqPreR a b (a.length : Int) 0 = true := eqPreR_iff.2 ⟨by omega, by omega, hl, few_iff.1 h, rfl⟩
    skip
    have he : G.eqFrom a b 0 = G.sameS a b := eqFrom_zero a b
    simp only [hp, he]
    cases G.sameS a b <;> simp [hl]
  · have : G.sameS a b = false := by
      simp only [G.sameS, decide_eq_false_iff_not]
      intro e
      exact hl (by rw [e])
    simp only [this]
    rw [if_pos (by simp; omega)]
theorem okSlEqIns : SpecOk Go.Proofs.Try.prog 60 spSlEqIns :=
  fun_okB (cx := cxSlEqIns) (F := Go.Proofs.Try.f60) (cxOk T0_ok T0_eq pr11_ok) mixed (by kernel_rfl) (by decide) (by kernel_rfl) (lps_of (l := [(0, loopIn Go.Proofs.Try.f60 0)]) (by kernel_rfl) ⟨lp_at lpSlEqIns rfl, trivial⟩)
    (fun x h => sfSlEqIns x.1 x.2.1 h)
noncomputable abbrev pk1 : List (Nat × List Spec) := (60, [spSlEqIns]) :: pr11
theorem pk1_ok : PhiOk Go.Proofs.Try.prog pk1 := ⟨⟨okSlEqIns, trivial⟩, pr11_ok⟩
/-! FunSame -/
noncomputable abbrev spFunSame : Spec := ⟨[.agg FunK, .agg FunK], BoolR, false, fun x => G.few x.1.2.2.1.length, fun x => (decide (x.1 = x.2.1), ())⟩
noncomputable abbrev cxFunSame : Cx := mkCx T0 pk1 [] [] 24
theorem eFunSame (a b : Fun) : funK cxFunSame Go.Proofs.Try.f26 spFunSame.ins spFunSame.out (a, b, ()) =
  (if Go.Rx.strEq a.1 b.1 = Bool.true then
    if Decidable.decide (a.2.1 = b.2.1) = Bool.true then
      if Go.Rx.G.few (List.length a.2.2.1) = Bool.true then Option.some (Go.Rx.G.sameS a.2.2.1 b.2.2.1, PUnit.unit) else Option.none
    else Option.some (Bool.false, PUnit.unit)
  else Option.some (Bool.false, PUnit.unit)) := by kernel_rfl
theorem sfFunSame (a b : Fun) (h : G.few a.2.2.1.length = true) : funK cxFunSame Go.Proofs.Try.f26 spFunSame.ins spFunSame.out (a, b, ()) = some (decide (a = b), ()) := by
  rw [eFunSame, strEq_iff]
  obtain ⟨a1, a2, a3, _⟩ := a
  obtain ⟨b1, b2, b3, _⟩ := b
  have h : G.few a3.length = true := h
  dsimp only
  by_cases c1 : a1 = b1
  · by_cases c2 : a2 = b2
    · subst c1
      subst c2
      simp [h, G.sameS]
    · simp [c1, c2]
  · simp [c1]
theorem okFunSame : SpecOk Go.Proofs.Try.prog 26 spFunSame :=
  fun_okB (cx := cxFunSame) (F := Go.Proofs.Try.f26) (cxOk T0_ok T0_eq pk1_ok) mixed (by kernel_rfl) (by decide) (by kernel_rfl) (lps_none (by kernel_rfl)) (fun x h => sfFunSame x.1 x.2.1 h)
noncomputable abbrev pk2 : List (Nat × List Spec) := (26, [spFunSame]) :: pk1
theorem pk2_ok : PhiOk Go.Proofs.Try.prog pk2 := ⟨⟨okFunSame, trivial⟩, pk1_ok⟩
def G.sameAt (a b : Funs) (k : Nat) : Bool := decide (G.pAt a k = G.pAt b k)
/-! EqFunL: a search -/
def G.preEqFunL (b : Funs) (c : Unit) (a : Funs) (n : Int) (i : Int) : Bool := G.preA (a.length) i && (decide (n = ((a.length : Nat) : Int)) && ((decide (b.length = a.length) && G.smallP a)))
theorem preEqFunL_iff {b : Funs} {c : Unit} {a : Funs} {n : Int} {i : Int} : G.preEqFunL b c a n i = true ↔ (0 ≤ i ∧ i ≤ ((a.length : Nat) : Int) ∧ (a.length : Nat) ≤ 1099511627776) ∧ n = ((a.length : Nat) : Int) ∧ (decide (b.length = a.length) && G.smallP a) = true := by simp [G.preEqFunL, preA_iff]
def G.scEqFunL (b : Funs) (c : Unit) (a : Funs) (i : Int) : Option (Bool × Unit) := G.scan (G.bad (G.sameAt a b)) (a.length) i
noncomputable abbrev lsEqFunL : LSpec := ⟨[1, 2, 15, 16, 17, 6], [6], [FunSP, .fn 26 [], FunSP, IntP, IntP, BoolP], [BoolP], true, fun x => G.preEqFunL x.1 x.2.1 x.2.2.1 x.2.2.2.1 x.2.2.2.2.1,
  fun x => ((G.flag 1 (G.scEqFunL x.1 x.2.1 x.2.2.1 x.2.2.2.2.1), G.got (G.scEqFunL x.1 x.2.1 x.2.2.1 x.2.2.2.2.1) (x.2.2.2.2.2.1, ())), (x.2.1, ()))⟩
noncomputable abbrev clEqFunL : Cx := mkCx T0 pk2 [(0, lsEqFunL)] [] 32
theorem rEqFunL (b : Funs) (c : Unit) (a : Funs) (n : Int) (i : Int) (r : Bool) : roundK clEqFunL 0 (loopIn Go.Proofs.Try.f94 0) lsEqFunL (b, c, a, n, i, r, ()) =
  (if Decidable.decide (i < n) = Bool.true then
    if Decidable.decide ((0 : Int) ≤ i) = Bool.true then
      if Decidable.decide (i < (↑(List.length a) : Int)) = Bool.true then
        if Decidable.decide ((0 : Int) ≤ i) = Bool.true then
          if Decidable.decide (i < (↑(List.length b) : Int)) = Bool.true then
            if Go.Rx.G.few (List.length (List.getD a (Int.toNat i) (ByteArray.empty, Bool.false, [], PUnit.unit)).2.2.1) = Bool.true then
              if
                  (!Decidable.decide
                        (List.getD a (Int.toNat i) (ByteArray.empty, Bool.false, [], PUnit.unit) = List.getD b (Int.toNat i) (ByteArray.empty, Bool.false, [], PUnit.unit))) =
                    Bool.true then
                Option.some (Go.Rx.LRes.stop (1 : Nat) (Bool.false, PUnit.unit) (PUnit.unit, PUnit.unit))
              else Option.some (Go.Rx.LRes.go (b, PUnit.unit, a, n, Go.IntKind.wrap Go.IntKind.i64 (i + (1 : Int)), r, PUnit.unit))
            else Option.none
          else Option.none
        else Option.none
      else Option.none
    else Option.none
  else Option.some (Go.Rx.LRes.stop (0 : Nat) (r, PUnit.unit) (PUnit.unit, PUnit.unit))) := by kernel_rfl
noncomputable abbrev muEqFunL : PKs.den lsEqFunL.ins → Nat := fun x => (x.2.2.1.length) - x.2.2.2.2.1.toNat
theorem stEqFunL (b : Funs) (c : Unit) (a : Funs) (n : Int) (i : Int) (r : Bool) (h : G.preEqFunL b c a n i = true) : StepOk lsEqFunL (eqInv lsEqFunL) muEqFunL (b, c, a, n, i, r, ()) (roundK clEqFunL 0 (loopIn Go.Proofs.Try.f94 0) lsEqFunL (b, c, a, n, i, r, ())) := by
  obtain ⟨⟨h0, h1, h2⟩, hn, hc⟩ := preEqFunL_iff.1 h
  subst hn
  rw [rEqFunL]
  by_cases hi : i < ((a.length : Nat) : Int)
  · have hw : IntKind.i64.wrap (i + 1) = i + 1 := w64 (by omega) (by omega)
    have hs : G.scEqFunL b c a i = ((G.bad (G.sameAt a b)) i.toNat).or (G.scEqFunL b c a (i + 1)) := scan_step h0 (by omega)
    refine scan_stop (fl := 1) (eqInv lsEqFunL) muEqFunL (b, c, a, ((a.length : Nat) : Int), i + 1, r, ()) ((G.bad (G.sameAt a b)) i.toNat) (c, ()) ?_ (fun ho => ⟨(show G.preEqFunL b c a ((a.length : Nat) : Int) (i + 1) = true from preEqFunL_iff.2 ⟨⟨by omega, by omega, h2⟩, rfl, hc⟩), ?_, ?_⟩) (fun w ho => ?_)
    · rw [Bool.and_eq_true, decide_eq_true_iff] at hc
      obtain ⟨c1, c2⟩ := hc
      have hb := few_iff.2 (smallF_iff.1 (smallF_at (smallP_iff.1 c2).2 (show i.toNat < a.length by omega))).2.1
      rw [bad_match, hw, if_pos (decide_eq_true hi), if_pos (decide_eq_true h0), if_pos (decide_eq_true hi), if_pos (decide_eq_true h0), if_pos (decide_eq_true (show i < (b.length : Int) by omega)), pAt_eq, pAt_eq, if_pos hb]
      unfold G.sameAt
      cases decide (G.pAt a i.toNat = G.pAt b i.toNat) <;> rfl
    · show (a.length) - (i + 1).toNat < (a.length) - i.toNat
      omega
    · show ((_, _), _) = ((_, _), _)
      simp only [hs, ho, Option.none_or]
    · show ((_, _), _) = ((_, _), _)
      simp only [hs, ho, Option.some_or]
      rfl
  · have hs : G.scEqFunL b c a i = none := scan_end (by omega)
    skip
    rw [if_neg (by simpa using hi)]
    show ((_, _), _) = ((_, _), _)
    simp only [hs]
    rfl
theorem lpEqFunL : LpOk Go.Proofs.Try.prog clEqFunL.ntmps 0 (loopIn Go.Proofs.Try.f94 0) lsEqFunL :=
  lp_okB (cxOk T0_ok T0_eq pk2_ok) mixed (by kernel_rfl) (lps_none (by kernel_rfl)) (eqInv lsEqFunL) muEqFunL (fun _ h => h) (fun x h => stEqFunL x.1 x.2.1 x.2.2.1 x.2.2.2.1 x.2.2.2.2.1 x.2.2.2.2.2.1 h)
theorem all_same {α : Type} [DecidableEq α] (d : α) {a b : List α} (h : b.length = a.length) : G.allFrom a.length (fun k => decide (a.getD k d = b.getD k d)) 0 = G.sameS a b := by
  rw [Bool.eq_iff_iff, allFrom_zero]
  unfold G.sameS
  rw [decide_eq_true_iff]
  constructor
  · intro hs
    refine List.ext_getElem h.symm fun k h1 h2 => ?_
    have := of_decide_eq_true (hs k h1)
    rw [getD_lt _ _ h1, getD_lt _ _ h2] at this
    exact this
  · rintro rfl k _
    exact decide_eq_true rfl
theorem same_len {α : Type} [DecidableEq α] {a b : List α} (h : ¬ a.length = b.length) : G.sameS a b = false := decide_eq_false fun e => h (by rw [e])
/-! EqlFun -/
noncomputable abbrev spEqlFun : Spec := ⟨[FunSP, FunSP, .fn 26 []], BoolR, true, fun x => G.smallP x.1, fun x => (G.sameS x.1 x.2.1, (x.2.2.1, ()))⟩
noncomputable abbrev cxEqlFun : Cx := mkCx T0 pk2 [(0, lsEqFunL)] [] 32
theorem eEqlFun (a b : Funs) (c : Unit) : funK cxEqlFun Go.Proofs.Try.f94 spEqlFun.ins spEqlFun.out (a, b, c, ()) =
  (if (!Decidable.decide ((↑(List.length a) : Int) = (↑(List.length b) : Int))) = Bool.true then Option.some (Bool.false, PUnit.unit, PUnit.unit)
  else
    if Go.Rx.G.preEqFunL b PUnit.unit a (↑(List.length a) : Int) (0 : Int) = Bool.true then
      if Go.Rx.G.flag (1 : Nat) (Go.Rx.G.scEqFunL b PUnit.unit a (0 : Int)) = (0 : Nat) then Option.some (Bool.true, PUnit.unit, PUnit.unit)
      else
        if Go.Rx.G.flag (1 : Nat) (Go.Rx.G.scEqFunL b PUnit.unit a (0 : Int)) = (1 : Nat) then
          Option.some ((Go.Rx.G.got (Go.Rx.G.scEqFunL b PUnit.unit a (0 : Int)) (Bool.false, PUnit.unit)).1, PUnit.unit, PUnit.unit)
        else Option.none
    else Option.none) := by kernel_rfl
theorem sfEqlFun (a b : Funs) (c : Unit) (h : G.smallP a = true) : funK cxEqlFun Go.Proofs.Try.f94 spEqlFun.ins spEqlFun.out (a, b, c, ()) = some (G.sameS a b, (c, ())) := by
  have h1 := (smallP_iff.1 h).1
  rw [eEqlFun]
  by_cases hl : a.length = b.length
  · rw [if_neg (by simp [hl]), if_pos (preEqFunL_iff.2 ⟨⟨by omega, by omega, h1⟩, rfl, by rw [Bool.and_eq_true, decide_eq_true_iff]; exact ⟨hl.symm, h⟩⟩)]
    rw [show G.scEqFunL b c a 0 = _ from scan_bad _ _ _, ← all_same (ByteArray.empty, false, [], ()) hl.symm]
    show _ = some (G.allFrom a.length (G.sameAt a b) 0, (c, ()))
    cases G.allFrom a.length (G.sameAt a b) 0 <;> rfl
  · rw [if_pos (by simp; omega), same_len hl]
theorem okEqlFun : SpecOk Go.Proofs.Try.prog 94 spEqlFun :=
  fun_okB (cx := cxEqlFun) (F := Go.Proofs.Try.f94) (cxOk T0_ok T0_eq pk2_ok) mixed (by kernel_rfl) (by decide +kernel) (by kernel_rfl) (lps_of (l := [(0, loopIn Go.Proofs.Try.f94 0)]) (by kernel_rfl) ⟨lp_at lpEqFunL rfl, trivial⟩) (fun x h => sfEqlFun x.1 x.2.1 x.2.2.1 h)
noncomputable abbrev pk3 : List (Nat × List Spec) := (94, [spEqlFun]) :: pk2
theorem pk3_ok : PhiOk Go.Proofs.Try.prog pk3 := ⟨⟨okEqlFun, trivial⟩, pk2_ok⟩
/-! UnitSame -/
noncomputable abbrev spUnitSame : Spec := ⟨[FunSP, FunSP], BoolR, false, fun x => G.smallP x.1, fun x => (G.sameS x.1 x.2.1, ())⟩
noncomputable abbrev cxUnitSame : Cx := mkCx T0 pk3 [] [] 8
theorem eUnitSame (a b : Funs) : funK cxUnitSame Go.Proofs.Try.f56 spUnitSame.ins spUnitSame.out (a, b, ()) =
  (if Go.Rx.G.smallP a = Bool.true then Option.some (Go.Rx.G.sameS a b, PUnit.unit) else Option.none) := by kernel_rfl
theorem sfUnitSame (a b : Funs) (h : G.smallP a = true) : funK cxUnitSame Go.Proofs.Try.f56 spUnitSame.ins spUnitSame.out (a, b, ()) = some (G.sameS a b, ()) := by
  rw [eUnitSame, if_pos h]
theorem okUnitSame : SpecOk Go.Proofs.Try.prog 56 spUnitSame :=
  fun_okB (cx := cxUnitSame) (F := Go.Proofs.Try.f56) (cxOk T0_ok T0_eq pk3_ok) mixed (by kernel_rfl) (by decide) (by kernel_rfl) (lps_none (by kernel_rfl)) (fun x h => sfUnitSame x.1 x.2.1 h)
noncomputable abbrev pk4 : List (Nat × List Spec) := (56, [spUnitSame]) :: pk3
theorem pk4_ok : PhiOk Go.Proofs.Try.prog pk4 := ⟨⟨okUnitSame, trivial⟩, pk3_ok⟩
def G.smallU (u : Units) : Bool := G.few u.length && u.all fun x => G.smallP x.1
theorem smallU_iff {u : Units} : G.smallU u = true ↔ (u.length ≤ 1099511627776 ∧ u.all (fun x => G.smallP x.1) = true) := by
  unfold G.smallU
  rw [Bool.and_eq_true, few_iff]
def G.sameUAt (a b : Units) (k : Nat) : Bool := G.sameS (G.unitAt a k) (G.unitAt b k)
theorem unitAt_eq2 (a : Units) (i : Int) : (a.getD i.toNat ([], ())).1 = G.unitAt a i.toNat := rfl
/-! EqUniL: a search -/
def G.preEqUniL (b : Units) (c : Unit) (a : Units) (n : Int) (i : Int) : Bool := G.preA (a.length) i && (decide (n = ((a.length : Nat) : Int)) && ((decide (b.length = a.length) && G.smallU a)))
theorem preEqUniL_iff {b : Units} {c : Unit} {a : Units} {n : Int} {i : Int} : G.preEqUniL b c a n i = true ↔ (0 ≤ i ∧ i ≤ ((a.length : Nat) : Int) ∧ (a.length : Nat) ≤ 1099511627776) ∧ n = ((a.length : Nat) : Int) ∧ (decide (b.length = a.length) && G.smallU a) = true := by simp [G.preEqUniL, preA_iff]
def G.scEqUniL (b : Units) (c : Unit) (a : Units) (i : Int) : Option (Bool × Unit) := G.scan (G.bad (G.sameUAt a b)) (a.length) i
noncomputable abbrev lsEqUniL : LSpec := ⟨[1, 2, 15, 16, 17, 6], [6], [UnitsSP, .fn 56 [], UnitsSP, IntP, IntP, BoolP], [BoolP], true, fun x => G.preEqUniL x.1 x.2.1 x.2.2.1 x.2.2.2.1 x.2.2.2.2.1,
  fun x => ((G.flag 1 (G.scEqUniL x.1 x.2.1 x.2.2.1 x.2.2.2.2.1), G.got (G.scEqUniL x.1 x.2.1 x.2.2.1 x.2.2.2.2.1) (x.2.2.2.2.2.1, ())), (x.2.1, ()))⟩
noncomputable abbrev clEqUniL : Cx := mkCx T0 pk4 [(0, lsEqUniL)] [] 32
theorem rEqUniL (b : Units) (c : Unit) (a : Units) (n : Int) (i : Int) (r : Bool) : roundK clEqUniL 0 (loopIn Go.Proofs.Try.f55 0) lsEqUniL (b, c, a, n, i, r, ()) =
  (if Decidable.decide (i < n) = Bool.true then
    if Decidable.decide ((0 : Int) ≤ i) = Bool.true then
      if Decidable.decide (i < (↑(List.length a) : Int)) = Bool.true then
        if Decidable.decide ((0 : Int) ≤ i) = Bool.true then
          if Decidable.decide (i < (↑(List.length b) : Int)) = Bool.true then
            if Go.Rx.G.smallP (List.getD a (Int.toNat i) ([], PUnit.unit)).1 = Bool.true then
              if (!Go.Rx.G.sameS (List.getD a (Int.toNat i) ([], PUnit.unit)).1 (List.getD b (Int.toNat i) ([], PUnit.unit)).1) = Bool.true then
                Option.some (Go.Rx.LRes.stop (1 : Nat) (Bool.false, PUnit.unit) (PUnit.unit, PUnit.unit))
              else Option.some (Go.Rx.LRes.go (b, PUnit.unit, a, n, Go.IntKind.wrap Go.IntKind.i64 (i + (1 : Int)), r, PUnit.unit))
            else Option.none
          else Option.none
        else Option.none
      else Option.none
    else Option.none
  else Option.some (Go.Rx.LRes.stop (0 : Nat) (r, PUnit.unit) (PUnit.unit, PUnit.unit))) := by kernel_rfl
noncomputable abbrev muEqUniL : PKs.den lsEqUniL.ins → Nat := fun x => (x.2.2.1.length) - x.2.2.2.2.1.toNat
theorem stEqUniL (b : Units) (c : Unit) (a : Units) (n : Int) (i : Int) (r : Bool) (h : G.preEqUniL b c a n i = true) : StepOk lsEqUniL (eqInv lsEqUniL) muEqUniL (b, c, a, n, i, r, ()) (roundK clEqUniL 0 (loopIn Go.Proofs.Try.f55 0) lsEqUniL (b, c, a, n, i, r, ())) := by
  obtain ⟨⟨h0, h1, h2⟩, hn, hc⟩ := preEqUniL_iff.1 h
  subst hn
  rw [rEqUniL]
  by_cases hi : i < ((a.length : Nat) : Int)
  · have hw : IntKind.i64.wrap (i + 1) = i + 1 := w64 (by omega) (by omega)
    have hs : G.scEqUniL b c a i = ((G.bad (G.sameUAt a b)) i.toNat).or (G.scEqUniL b c a (i + 1)) := scan_step h0 (by omega)
    refine scan_stop (fl := 1) (eqInv lsEqUniL) muEqUniL (b, c, a, ((a.length : Nat) : Int), i + 1, r, ()) ((G.bad (G.sameUAt a b)) i.toNat) (c, ()) ?_ (fun ho => ⟨(show G.preEqUniL b c a ((a.length : Nat) : Int) (i + 1) = true from preEqUniL_iff.2 ⟨⟨by omega, by omega, h2⟩, rfl, hc⟩), ?_, ?_⟩) (fun w ho => ?_)
    · rw [Bool.and_eq_true, decide_eq_true_iff] at hc
      obtain ⟨c1, c2⟩ := hc
      have hb : G.smallP (G.unitAt a i.toNat) = true := all_getD (([], ()) : Funs × Unit) (smallU_iff.1 c2).2 (show i.toNat < a.length by omega)
      rw [bad_match, hw, if_pos (decide_eq_true hi), if_pos (decide_eq_true h0), if_pos (decide_eq_true hi), if_pos (decide_eq_true h0), if_pos (decide_eq_true (show i < (b.length : Int) by omega)), unitAt_eq2, unitAt_eq2, if_pos hb]
      unfold G.sameUAt
      cases G.sameS (G.unitAt a i.toNat) (G.unitAt b i.toNat) <;> rfl
    · show (a.length) - (i + 1).toNat < (a.length) - i.toNat
      omega
    · show ((_, _), _) = ((_, _), _)
      simp only [hs, ho, Option.none_or]
    · show ((_, _), _) = ((_, _), _)
      simp only [hs, ho, Option.some_or]
      rfl
  · have hs : G.scEqUniL b c a i = none := scan_end (by omega)
    skip
    rw [if_neg (by simpa using hi)]
    show ((_, _), _) = ((_, _), _)
    simp only [hs]
    rfl
theorem lpEqUniL : LpOk Go.Proofs.Try.prog clEqUniL.ntmps 0 (loopIn Go.Proofs.Try.f55 0) lsEqUniL :=
  lp_okB (cxOk T0_ok T0_eq pk4_ok) mixed (by kernel_rfl) (lps_none (by kernel_rfl)) (eqInv lsEqUniL) muEqUniL (fun _ h => h) (fun x h => stEqUniL x.1 x.2.1 x.2.2.1 x.2.2.2.1 x.2.2.2.2.1 x.2.2.2.2.2.1 h)
/-! EqlUni -/
noncomputable abbrev spEqlUni : Spec := ⟨[UnitsSP, UnitsSP, .fn 56 []], BoolR, true, fun x => G.smallU x.1, fun x => (G.sameS x.1 x.2.1, (x.2.2.1, ()))⟩
noncomputable abbrev cxEqlUni : Cx := mkCx T0 pk4 [(0, lsEqUniL)] [] 32
theorem eEqlUni (a b : Units) (c : Unit) : funK cxEqlUni Go.Proofs.Try.f55 spEqlUni.ins spEqlUni.out (a, b, c, ()) =
  (if (!Decidable.decide ((↑(List.length a) : Int) = (↑(List.length b) : Int))) = Bool.true then Option.some (Bool.false, PUnit.unit, PUnit.unit)
  else
    if Go.Rx.G.preEqUniL b PUnit.unit a (↑(List.length a) : Int) (0 : Int) = Bool.true then
      if Go.Rx.G.flag (1 : Nat) (Go.Rx.G.scEqUniL b PUnit.unit a (0 : Int)) = (0 : Nat) then Option.some (Bool.true, PUnit.unit, PUnit.unit)
      else
        if Go.Rx.G.flag (1 : Nat) (Go.Rx.G.scEqUniL b PUnit.unit a (0 : Int)) = (1 : Nat) then
          Option.some ((Go.Rx.G.got (Go.Rx.G.scEqUniL b PUnit.unit a (0 : Int)) (Bool.false, PUnit.unit)).1, PUnit.unit, PUnit.unit)
        else Option.none
    else Option.none) := by kernel_rfl
theorem sameU_all {a b : Units} (h : b.length = a.length) : G.allFrom a.length (G.sameUAt a b) 0 = G.sameS a b := by
  rw [← all_same ([], ()) h]
  congr 1
  funext k
  unfold G.sameUAt G.unitAt G.sameS
  rw [decide_eq_decide]
  exact ⟨fun e => Prod.ext e rfl, fun e => by rw [e]⟩
theorem sfEqlUni (a b : Units) (c : Unit) (h : G.smallU a = true) : funK cxEqlUni Go.Proofs.Try.f55 spEqlUni.ins spEqlUni.out (a, b, c, ()) = some (G.sameS a b, (c, ())) := by
  have h1 := (smallU_iff.1 h).1
  rw [eEqlUni]
  by_cases hl : a.length = b.length
  · rw [if_neg (by simp [hl]), if_pos (preEqUniL_iff.2 ⟨⟨by omega, by omega, h1⟩, rfl, by rw [Bool.and_eq_true, decide_eq_true_iff]; exact ⟨hl.symm, h⟩⟩)]
    rw [show G.scEqUniL b c a 0 = _ from scan_bad _ _ _, ← sameU_all hl.symm]
    cases G.allFrom a.length (G.sameUAt a b) 0 <;> rfl
  · rw [if_pos (by simp; omega), same_len hl]
theorem okEqlUni : SpecOk Go.Proofs.Try.prog 55 spEqlUni :=
  fun_okB (cx := cxEqlUni) (F := Go.Proofs.Try.f55) (cxOk T0_ok T0_eq pk4_ok) mixed (by kernel_rfl) (by decide +kernel) (by kernel_rfl) (lps_of (l := [(0, loopIn Go.Proofs.Try.f55 0)]) (by kernel_rfl) ⟨lp_at lpEqUniL rfl, trivial⟩) (fun x h => sfEqlUni x.1 x.2.1 x.2.2.1 h)
noncomputable abbrev pk5 : List (Nat × List Spec) := (55, [spEqlUni]) :: pk4
theorem pk5_ok : PhiOk Go.Proofs.Try.prog pk5 := ⟨⟨okEqlUni, trivial⟩, pk4_ok⟩
/-! PickSame -/
noncomputable abbrev spPickSame : Spec := ⟨[UnitsSP, UnitsSP], BoolR, false, fun x => G.smallU x.1, fun x => (G.sameS x.1 x.2.1, ())⟩
noncomputable abbrev cxPickSame : Cx := mkCx T0 pk5 [] [] 8
theorem ePickSame (a b : Units) : funK cxPickSame Go.Proofs.Try.f24 spPickSame.ins spPickSame.out (a, b, ()) =
  (if Go.Rx.G.smallU a = Bool.true then Option.some (Go.Rx.G.sameS a b, PUnit.unit) else Option.none) := by kernel_rfl
theorem sfPickSame (a b : Units) (h : G.smallU a = true) : funK cxPickSame Go.Proofs.Try.f24 spPickSame.ins spPickSame.out (a, b, ()) = some (G.sameS a b, ()) := by
  rw [ePickSame, if_pos h]
theorem okPickSame : SpecOk Go.Proofs.Try.prog 24 spPickSame :=
  fun_okB (cx := cxPickSame) (F := Go.Proofs.Try.f24) (cxOk T0_ok T0_eq pk5_ok) mixed (by kernel_rfl) (by decide) (by kernel_rfl) (lps_none (by kernel_rfl)) (fun x h => sfPickSame x.1 x.2.1 h)
/-! DrawKeepOnly -/
noncomputable abbrev cxDrawKeepOnly : Cx := mkCx T0 pdk [] [] 6
noncomputable def G.dDrawKeepOnly (x : PKs.den [BytesP]) : RK.den (.one FunsO) × Bxs.den [BytesP] := G.val (funK cxDrawKeepOnly Go.Proofs.Try.f21 [BytesP] (.one FunsO) x)
noncomputable abbrev spDrawKeepOnly : Spec := ⟨[BytesP], .one FunsO, true, fun x => x.1.all G.byteOk, fun x => G.dDrawKeepOnly x⟩
theorem eDrawKeepOnly (c : Bytes) : funK cxDrawKeepOnly Go.Proofs.Try.f21 [BytesP] (.one FunsO) (c, ()) =
  (if Go.Rx.G.rd (400000 : Int) (List.take (2000 : Nat) c, (0 : Int), PUnit.unit) = Bool.true then
    Option.some ((Go.Rx.G.dL4Bent ((List.take (2000 : Nat) c, (0 : Int), PUnit.unit), PUnit.unit)).1, PUnit.unit)
  else Option.none) := by kernel_rfl
theorem sfDrawKeepOnly (c : Bytes) (h : c.all G.byteOk = true) : ∃ r, funK cxDrawKeepOnly Go.Proofs.Try.f21 [BytesP] (.one FunsO) (c, ()) = some r ∧ DKPost (c, ()) r := by
  have h0 := open_rd h
  have h1 := rd_le h0 (show (0 : Int) ≤ 400000 by omega)
  obtain ⟨_, p1, p2⟩ := postL4Bent ((c.take 2000, 0, ()), ()) h1
  rw [eDrawKeepOnly, if_pos h1]
  exact ⟨_, rfl, p2⟩
theorem postDrawKeepOnly (x : PKs.den [BytesP]) (h : (x.1.all G.byteOk) = true) : funK cxDrawKeepOnly Go.Proofs.Try.f21 [BytesP] (.one FunsO) x = some (G.dDrawKeepOnly x) ∧ DKPost x (G.dDrawKeepOnly x) := val_of (sfDrawKeepOnly x.1 h)
theorem okDrawKeepOnly : SpecOk Go.Proofs.Try.prog 21 spDrawKeepOnly :=
  fun_okB (cx := cxDrawKeepOnly) (F := Go.Proofs.Try.f21) (cxOk T0_ok T0_eq pdk_ok) mixed (by kernel_rfl) (by decide) (by kernel_rfl) (lps_none (by kernel_rfl)) (fun x h => (postDrawKeepOnly x h).1)
noncomputable abbrev pk6 : List (Nat × List Spec) := (24, [spPickSame]) :: (26, [spFunSame]) :: (21, [spDrawKeepOnly]) :: (23, [spSpKeepOnly]) :: pl1
theorem pk6_ok : PhiOk Go.Proofs.Try.prog pk6 := ⟨⟨okPickSame, trivial⟩, ⟨okFunSame, trivial⟩, ⟨okDrawKeepOnly, trivial⟩, ⟨okSpKeepOnly, trivial⟩, pl1_ok⟩
end Go.Rx

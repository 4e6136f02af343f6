/-
  PROGRAMS: what the functions that compare and copy them compute.
-/
import Derived.Test.YteenlfeglffnoaaBd
namespace Go.Rx
open Go
set_option linter.unusedVariables false
set_option linter.unusedSimpArgs false
abbrev strT : Tys := .cons .str .nil
abbrev strsT : Tys := .cons (.sl strT) .nil
abbrev funT : Tys := .cons .str (.cons .bool (.cons (.sl insT) .nil))
abbrev layT : Tys := .cons (.sl intT) (.cons (.sl strsT) .nil)
abbrev Inss := List (Int × Int × ByteArray × Unit)
abbrev Strs := List (ByteArray × Unit)
abbrev Strss := List (List (ByteArray × Unit) × Unit)
abbrev Fun := ByteArray × Bool × List (Int × Int × ByteArray × Unit) × Unit
abbrev Funs := List (ByteArray × Bool × List (Int × Int × ByteArray × Unit) × Unit)
instance decIns : DecidableEq (Int × Int × ByteArray × Unit) := inferInstance
instance decFun : DecidableEq (ByteArray × Bool × List (Int × Int × ByteArray × Unit) × Unit) := inferInstance
instance decStrs : DecidableEq (List (ByteArray × Unit) × Unit) := inferInstance
abbrev Lay := Ints × Strss × Unit
abbrev StrP : PK := .c (.dat .str)
abbrev InsSP : PK := .c (.dat (.sl insT))
abbrev StrSP : PK := .c (.dat (.sl strT))
abbrev FunSP : PK := .c (.dat (.sl funT))
abbrev FunK : List CK := [.dat .str, .dat .bool, .dat (.sl insT)]
abbrev LayK : List CK := [.dat (.sl intT), .dat (.sl strsT)]
theorem strEq_iff (x y : ByteArray) : Go.Rx.strEq x y = decide (x = y) := by
  unfold strEq
  rw [decide_eq_decide]
  constructor
  · intro h
    cases x
    cases y
    simp at h
    rw [h]
  · intro h
    rw [h]
theorem str1_ne {x y : ByteArray × Unit} (h : ¬ x = y) : Go.Rx.strEq x.1 y.1 = false := by
  obtain ⟨x1, _⟩ := x
  obtain ⟨y1, _⟩ := y
  rw [strEq_iff]
  simp at h ⊢
  exact h
/-! eqIns -/
def G.eqIns (a b : Ins) : Bool := decide (a = b)
/-! EqIns -/
noncomputable abbrev spEqIns : Spec := ⟨[.agg InsK, .agg InsK], BoolR, false, fun x => true, fun x => (G.eqIns x.1 x.2.1, ())⟩
noncomputable abbrev cxEqIns : Cx := mkCx T0 ph9 [] [] 20
theorem eEqIns (a b : Ins) : funK cxEqIns Go.Proofs.Try.f127 spEqIns.ins spEqIns.out (a, b, ()) =
  (if (!Decidable.decide (a.1 = b.1)) = Bool.true then Option.some (Bool.false, PUnit.unit)
  else
    if (!Decidable.decide (a.2.1 = b.2.1)) = Bool.true then Option.some (Bool.false, PUnit.unit)
    else if (!Go.Rx.strEq a.2.2.1 b.2.2.1) = Bool.true then Option.some (Bool.false, PUnit.unit) else Option.some (Bool.true, PUnit.unit)) := by kernel_rfl
theorem sfEqIns (a b : Ins) : funK cxEqIns Go.Proofs.Try.f127 spEqIns.ins spEqIns.out (a, b, ()) = some (G.eqIns a b, ()) := by
  rw [eEqIns]
  obtain ⟨a1, a2, a3, _⟩ := a
  obtain ⟨b1, b2, b3, _⟩ := b
  simp only [G.eqIns, strEq_iff, Prod.mk.injEq]
  by_cases h1 : a1 = b1 <;> by_cases h2 : a2 = b2 <;> by_cases h3 : a3 = b3 <;> simp [h1, h2, h3]
theorem okEqIns : SpecOk Go.Proofs.Try.prog 127 spEqIns :=
  fun_okB (cx := cxEqIns) (F := Go.Proofs.Try.f127) (cxOk T0_ok T0_eq ph9_ok) mixed (by kernel_rfl) (by decide) (by kernel_rfl) (lps_none (by kernel_rfl)) (fun x h => sfEqIns x.1 x.2.1)
noncomputable abbrev pg1 : List (Nat × List Spec) := (127, [spEqIns]) :: ph16
theorem pg1_ok : PhiOk Go.Proofs.Try.prog pg1 := ⟨⟨okEqIns, trivial⟩, ph16_ok⟩
/-! EqInsS: its loop -/
noncomputable abbrev lsEqInsS : LSpec := ⟨[0, 1, 5, 4], [4], [.c (.dat (.sl insT)), .c (.dat (.sl insT)), .c (.dat I), .c (.dat .bool)], [.c (.dat .bool)], false, fun x => G.eqPre x.1 x.2.1 x.2.2.1,
  fun x => ((if G.eqFrom x.1 x.2.1 x.2.2.1 = true then 0 else 1, (G.eqFrom x.1 x.2.1 x.2.2.1 && x.2.2.2.1, ())), ())⟩
noncomputable abbrev cxEqInsS : Cx := mkCx T0 pg1 [(0, lsEqInsS)] [] 27
theorem rEqInsS (a b : List (Int × Int × ByteArray × Unit)) (i : Int) (r : Bool) : roundK cxEqInsS 0 (loopIn Go.Proofs.Try.f95 0) lsEqInsS (a, b, i, r, ()) =
  (if Decidable.decide (i < (↑(List.length a) : Int)) = Bool.true then
    if Decidable.decide ((0 : Int) ≤ i) = Bool.true then
      if Decidable.decide (i < (↑(List.length a) : Int)) = Bool.true then
        if Decidable.decide ((0 : Int) ≤ i) = Bool.true then
          if Decidable.decide (i < (↑(List.length b) : Int)) = Bool.true then
            if
                (!Go.Rx.G.eqIns (List.getD a (Int.toNat i) ((0 : Int), (0 : Int), ByteArray.empty, PUnit.unit))
                      (List.getD b (Int.toNat i) ((0 : Int), (0 : Int), ByteArray.empty, PUnit.unit))) =
                  Bool.true then
              Option.some (Go.Rx.LRes.stop (1 : Nat) (Bool.false, PUnit.unit) PUnit.unit)
            else Option.some (Go.Rx.LRes.go (a, b, Go.IntKind.wrap Go.IntKind.i64 (i + (1 : Int)), r, PUnit.unit))
          else Option.none
        else Option.none
      else Option.none
    else Option.none
  else Option.some (Go.Rx.LRes.stop (0 : Nat) (r, PUnit.unit) PUnit.unit)) := by kernel_rfl
noncomputable abbrev muEqInsS : PKs.den lsEqInsS.ins → Nat := fun x => x.1.length - x.2.2.1.toNat
theorem stEqInsS (a b : List (Int × Int × ByteArray × Unit)) (i : Int) (r : Bool) (h : G.eqPre a b i = true) : StepOk lsEqInsS (eqInv lsEqInsS) muEqInsS (a, b, i, r, ()) (roundK cxEqInsS 0 (loopIn Go.Proofs.Try.f95 0) lsEqInsS (a, b, i, r, ())) := by
  obtain ⟨h0, h1, h2, h3⟩ := eqPre_iff.1 h
  rw [rEqInsS]
  by_cases hi : i < (a.length : Int)
  · have hb : i < (b.length : Int) := by omega
    skip
    have hw : IntKind.i64.wrap (i + 1) = i + 1 := w64 (by omega) (by omega)
    have he := eqFrom_step (((0 : Int), (0 : Int), ByteArray.empty, ()) : Int × Int × ByteArray × Unit) h0 hi hb
    simp only [hi, hb, h0, decide_true, if_true, hw]
    generalize a.getD i.toNat (((0 : Int), (0 : Int), ByteArray.empty, ()) : Int × Int × ByteArray × Unit) = x at *
    generalize b.getD i.toNat (((0 : Int), (0 : Int), ByteArray.empty, ()) : Int × Int × ByteArray × Unit) = y at *
    by_cases hc : x = y
    · subst hc
      simp at he
      simp [G.eqIns]
      refine ⟨(show G.eqPre a b (i + 1) = true from eqPre_iff.2 ⟨by omega, by omega, h2, h3⟩), ?_, ?_⟩
      · show a.length - (i + 1).toNat < a.length - i.toNat
        omega
      · show ((_, _), _) = ((_, _), _)
        simp only [he]
    · simp only [hc, decide_false, Bool.false_and] at he
      have hcc : G.eqIns x y = false := by simp [G.eqIns, hc]
      simp only [hcc, Bool.not_false, if_true]
      show ((_, _), _) = ((_, _), _)
      simp only [he]
      simp
  · have he : G.eqFrom a b i = true := eqFrom_end (by omega) (by omega)
    skip
    simp only [hi, decide_false]
    show ((_, _), _) = ((_, _), _)
    simp only [he]
    simp
theorem lpEqInsS : LpOk Go.Proofs.Try.prog cxEqInsS.ntmps 0 (loopIn Go.Proofs.Try.f95 0) lsEqInsS :=
  lp_okB (cxOk T0_ok T0_eq pg1_ok) mixed (by kernel_rfl) (lps_none (by kernel_rfl)) (eqInv lsEqInsS) muEqInsS (fun _ h => h) (fun x h => stEqInsS x.1 x.2.1 x.2.2.1 x.2.2.2.1 h)
/-! EqInsS -/
noncomputable abbrev spEqInsS : Spec := ⟨[.c (.dat (.sl insT)), .c (.dat (.sl insT))], .one (.c (.dat .bool)), false, fun x => G.few x.1.length, fun x => (G.sameS x.1 x.2.1, ())⟩
theorem eEqInsS (a b : List (Int × Int × ByteArray × Unit)) : funK cxEqInsS Go.Proofs.Try.f95 spEqInsS.ins spEqInsS.out (a, b, ()) =
  (if (!Decidable.decide ((↑(List.length a) : Int) = (↑(List.length b) : Int))) = Bool.true then Option.some (Bool.false, PUnit.unit)
  else
    if Go.Rx.G.eqPre a b (0 : Int) = Bool.true then
      if (if Go.Rx.G.eqFrom a b (0 : Int) = Bool.true then (0 : Nat) else (1 : Nat)) = (0 : Nat) then Option.some (Bool.true, PUnit.unit)
      else
        if (if Go.Rx.G.eqFrom a b (0 : Int) = Bool.true then (0 : Nat) else (1 : Nat)) = (1 : Nat) then Option.some (Go.Rx.G.eqFrom a b (0 : Int) && Bool.false, PUnit.unit)
        else Option.none
    else Option.none) := by kernel_rfl
theorem sfEqInsS (a b : List (Int × Int × ByteArray × Unit)) (h : G.few a.length = true) : funK cxEqInsS Go.Proofs.Try.f95 spEqInsS.ins spEqInsS.out (a, b, ()) = some (G.sameS a b, ()) := by
  rw [eEqInsS]
  by_cases hl : a.length = b.length
  · have hp : G.eqPre a b 0 = true := eqPre_iff.2 ⟨by omega, by omega, hl, few_iff.1 h⟩
    skip
    have he : G.eqFrom a b 0 = G.sameS a b := eqFrom_zero a b
    simp only [hp, he]
    cases G.sameS a b <;> simp [hl]
  · have : G.sameS a b = false := by
      simp only [G.sameS, decide_eq_false_iff_not]
      intro e
      exact hl (by rw [e])
    simp only [this]
    rw [if_pos (by simp; omega)]
theorem okEqInsS : SpecOk Go.Proofs.Try.prog 95 spEqInsS :=
  fun_okB (cx := cxEqInsS) (F := Go.Proofs.Try.f95) (cxOk T0_ok T0_eq pg1_ok) mixed (by kernel_rfl) (by decide) (by kernel_rfl) (lps_of (l := [(0, loopIn Go.Proofs.Try.f95 0)]) (by kernel_rfl) ⟨lp_at lpEqInsS rfl, trivial⟩)
    (fun x h => sfEqInsS x.1 x.2.1 h)
/-! EqStrS: its loop -/
noncomputable abbrev lsEqStrS : LSpec := ⟨[0, 1, 5, 4], [4], [.c (.dat (.sl strT)), .c (.dat (.sl strT)), .c (.dat I), .c (.dat .bool)], [.c (.dat .bool)], false, fun x => G.eqPre x.1 x.2.1 x.2.2.1,
  fun x => ((if G.eqFrom x.1 x.2.1 x.2.2.1 = true then 0 else 1, (G.eqFrom x.1 x.2.1 x.2.2.1 && x.2.2.2.1, ())), ())⟩
noncomputable abbrev cxEqStrS : Cx := mkCx T0 pg1 [(0, lsEqStrS)] [] 26
theorem rEqStrS (a b : List (ByteArray × Unit)) (i : Int) (r : Bool) : roundK cxEqStrS 0 (loopIn Go.Proofs.Try.f96 0) lsEqStrS (a, b, i, r, ()) =
  (if Decidable.decide (i < (↑(List.length a) : Int)) = Bool.true then
    if Decidable.decide ((0 : Int) ≤ i) = Bool.true then
      if Decidable.decide (i < (↑(List.length a) : Int)) = Bool.true then
        if Decidable.decide ((0 : Int) ≤ i) = Bool.true then
          if Decidable.decide (i < (↑(List.length b) : Int)) = Bool.true then
            if (!Go.Rx.strEq (List.getD a (Int.toNat i) (ByteArray.empty, PUnit.unit)).1 (List.getD b (Int.toNat i) (ByteArray.empty, PUnit.unit)).1) = Bool.true then
              Option.some (Go.Rx.LRes.stop (1 : Nat) (Bool.false, PUnit.unit) PUnit.unit)
            else Option.some (Go.Rx.LRes.go (a, b, Go.IntKind.wrap Go.IntKind.i64 (i + (1 : Int)), r, PUnit.unit))
          else Option.none
        else Option.none
      else Option.none
    else Option.none
  else Option.some (Go.Rx.LRes.stop (0 : Nat) (r, PUnit.unit) PUnit.unit)) := by kernel_rfl
noncomputable abbrev muEqStrS : PKs.den lsEqStrS.ins → Nat := fun x => x.1.length - x.2.2.1.toNat
theorem stEqStrS (a b : List (ByteArray × Unit)) (i : Int) (r : Bool) (h : G.eqPre a b i = true) : StepOk lsEqStrS (eqInv lsEqStrS) muEqStrS (a, b, i, r, ()) (roundK cxEqStrS 0 (loopIn Go.Proofs.Try.f96 0) lsEqStrS (a, b, i, r, ())) := by
  obtain ⟨h0, h1, h2, h3⟩ := eqPre_iff.1 h
  rw [rEqStrS]
  by_cases hi : i < (a.length : Int)
  · have hb : i < (b.length : Int) := by omega
    skip
    have hw : IntKind.i64.wrap (i + 1) = i + 1 := w64 (by omega) (by omega)
    have he := eqFrom_step ((ByteArray.empty, ()) : ByteArray × Unit) h0 hi hb
    simp only [hi, hb, h0, decide_true, if_true, hw]
    generalize a.getD i.toNat ((ByteArray.empty, ()) : ByteArray × Unit) = x at *
    generalize b.getD i.toNat ((ByteArray.empty, ()) : ByteArray × Unit) = y at *
    by_cases hc : x = y
    · subst hc
      simp at he
      simp [strEq_iff]
      refine ⟨(show G.eqPre a b (i + 1) = true from eqPre_iff.2 ⟨by omega, by omega, h2, h3⟩), ?_, ?_⟩
      · show a.length - (i + 1).toNat < a.length - i.toNat
        omega
      · show ((_, _), _) = ((_, _), _)
        simp only [he]
    · simp only [hc, decide_false, Bool.false_and] at he
      have hcc : Go.Rx.strEq x.1 y.1 = false := str1_ne hc
      simp only [hcc, Bool.not_false, if_true]
      show ((_, _), _) = ((_, _), _)
      simp only [he]
      simp
  · have he : G.eqFrom a b i = true := eqFrom_end (by omega) (by omega)
    skip
    simp only [hi, decide_false]
    show ((_, _), _) = ((_, _), _)
    simp only [he]
    simp
theorem lpEqStrS : LpOk Go.Proofs.Try.prog cxEqStrS.ntmps 0 (loopIn Go.Proofs.Try.f96 0) lsEqStrS :=
  lp_okB (cxOk T0_ok T0_eq pg1_ok) mixed (by kernel_rfl) (lps_none (by kernel_rfl)) (eqInv lsEqStrS) muEqStrS (fun _ h => h) (fun x h => stEqStrS x.1 x.2.1 x.2.2.1 x.2.2.2.1 h)
/-! EqStrS -/
noncomputable abbrev spEqStrS : Spec := ⟨[.c (.dat (.sl strT)), .c (.dat (.sl strT))], .one (.c (.dat .bool)), false, fun x => G.few x.1.length, fun x => (G.sameS x.1 x.2.1, ())⟩
theorem eEqStrS (a b : List (ByteArray × Unit)) : funK cxEqStrS Go.Proofs.Try.f96 spEqStrS.ins spEqStrS.out (a, b, ()) =
  (if (!Decidable.decide ((↑(List.length a) : Int) = (↑(List.length b) : Int))) = Bool.true then Option.some (Bool.false, PUnit.unit)
  else
    if Go.Rx.G.eqPre a b (0 : Int) = Bool.true then
      if (if Go.Rx.G.eqFrom a b (0 : Int) = Bool.true then (0 : Nat) else (1 : Nat)) = (0 : Nat) then Option.some (Bool.true, PUnit.unit)
      else
        if (if Go.Rx.G.eqFrom a b (0 : Int) = Bool.true then (0 : Nat) else (1 : Nat)) = (1 : Nat) then Option.some (Go.Rx.G.eqFrom a b (0 : Int) && Bool.false, PUnit.unit)
        else Option.none
    else Option.none) := by kernel_rfl
theorem sfEqStrS (a b : List (ByteArray × Unit)) (h : G.few a.length = true) : funK cxEqStrS Go.Proofs.Try.f96 spEqStrS.ins spEqStrS.out (a, b, ()) = some (G.sameS a b, ()) := by
  rw [eEqStrS]
  by_cases hl : a.length = b.length
  · have hp : G.eqPre a b 0 = true := eqPre_iff.2 ⟨by omega, by omega, hl, few_iff.1 h⟩
    skip
    have he : G.eqFrom a b 0 = G.sameS a b := eqFrom_zero a b
    simp only [hp, he]
    cases G.sameS a b <;> simp [hl]
  · have : G.sameS a b = false := by
      simp only [G.sameS, decide_eq_false_iff_not]
      intro e
      exact hl (by rw [e])
    simp only [this]
    rw [if_pos (by simp; omega)]
theorem okEqStrS : SpecOk Go.Proofs.Try.prog 96 spEqStrS :=
  fun_okB (cx := cxEqStrS) (F := Go.Proofs.Try.f96) (cxOk T0_ok T0_eq pg1_ok) mixed (by kernel_rfl) (by decide) (by kernel_rfl) (lps_of (l := [(0, loopIn Go.Proofs.Try.f96 0)]) (by kernel_rfl) ⟨lp_at lpEqStrS rfl, trivial⟩)
    (fun x h => sfEqStrS x.1 x.2.1 h)
theorem all_getD {α : Type} {p : α → Bool} (d : α) {xs : List α} {i : Nat} (h : xs.all p = true) (hi : i < xs.length) : p (xs.getD i d) = true := by
  rw [List.all_eq_true] at h
  have e : xs.getD i d = xs[i] := by simp [List.getD, hi]
  rw [e]
  exact h _ (List.getElem_mem hi)
theorem strs1_ne {x y : List (ByteArray × Unit) × Unit} (h : ¬ x = y) : G.sameS x.1 y.1 = false := by
  obtain ⟨x1, _⟩ := x
  obtain ⟨y1, _⟩ := y
  simp at h
  simp [G.sameS, h]
noncomputable abbrev pg2 : List (Nat × List Spec) := (95, [spEqInsS]) :: (96, [spEqStrS]) :: pg1
theorem pg2_ok : PhiOk Go.Proofs.Try.prog pg2 := ⟨⟨okEqInsS, trivial⟩, ⟨okEqStrS, trivial⟩, pg1_ok⟩
def G.fewFun (f : Fun) : Bool := G.few f.2.2.1.length
def G.fewStrs (s : List (ByteArray × Unit) × Unit) : Bool := G.few s.1.length
def G.fewFuns (p : Funs) : Bool := G.few p.length && p.all G.fewFun
def G.fewLay (l : Lay) : Bool := G.few l.1.length && (G.few l.2.1.length && l.2.1.all G.fewStrs)
def G.eqFun (a b : Fun) : Bool := decide (a = b)
def G.eqLay (a b : Lay) : Bool := decide (a = b)
theorem eqLay_self (a : Lay) : G.eqLay a a = true := by simp [G.eqLay]
/-! EqFun -/
noncomputable abbrev spEqFun : Spec := ⟨[.agg FunK, .agg FunK], BoolR, false, fun x => G.fewFun x.1, fun x => (G.eqFun x.1 x.2.1, ())⟩
noncomputable abbrev cxEqFun : Cx := mkCx T0 pg2 [] [] 21
theorem eEqFun (a b : Fun) : funK cxEqFun Go.Proofs.Try.f57 spEqFun.ins spEqFun.out (a, b, ()) =
  (if (!Go.Rx.strEq a.1 b.1) = Bool.true then Option.some (Bool.false, PUnit.unit)
  else
    if (!Decidable.decide (a.2.1 = b.2.1)) = Bool.true then Option.some (Bool.false, PUnit.unit)
    else
      if Go.Rx.G.few (List.length a.2.2.1) = Bool.true then if (!Go.Rx.G.sameS a.2.2.1 b.2.2.1) = Bool.true then Option.some (Bool.false, PUnit.unit) else Option.some (Bool.true, PUnit.unit)
      else Option.none) := by kernel_rfl
theorem sfEqFun (a b : Fun) (h : G.fewFun a = true) : funK cxEqFun Go.Proofs.Try.f57 spEqFun.ins spEqFun.out (a, b, ()) = some (G.eqFun a b, ()) := by
  have h : G.few a.2.2.1.length = true := h
  rw [eEqFun, if_pos h]
  obtain ⟨a1, a2, a3, _⟩ := a
  obtain ⟨b1, b2, b3, _⟩ := b
  simp only [G.eqFun, strEq_iff, G.sameS, Prod.mk.injEq]
  by_cases h1 : a1 = b1 <;> by_cases h2 : a2 = b2 <;> by_cases h3 : a3 = b3 <;> simp [h1, h2, h3]
theorem okEqFun : SpecOk Go.Proofs.Try.prog 57 spEqFun :=
  fun_okB (cx := cxEqFun) (F := Go.Proofs.Try.f57) (cxOk T0_ok T0_eq pg2_ok) mixed (by kernel_rfl) (by decide) (by kernel_rfl) (lps_none (by kernel_rfl)) (fun x h => sfEqFun x.1 x.2.1 h)
noncomputable abbrev pg3 : List (Nat × List Spec) := (57, [spEqFun]) :: pg2
theorem pg3_ok : PhiOk Go.Proofs.Try.prog pg3 := ⟨⟨okEqFun, trivial⟩, pg2_ok⟩
/-! EqFunS: its loop -/
noncomputable abbrev lsEqFunS : LSpec := ⟨[0, 1, 5, 4], [4], [.c (.dat (.sl funT)), .c (.dat (.sl funT)), .c (.dat I), .c (.dat .bool)], [.c (.dat .bool)], false, fun x => (G.eqPre x.1 x.2.1 x.2.2.1 && x.1.all G.fewFun),
  fun x => ((if G.eqFrom x.1 x.2.1 x.2.2.1 = true then 0 else 1, (G.eqFrom x.1 x.2.1 x.2.2.1 && x.2.2.2.1, ())), ())⟩
noncomputable abbrev cxEqFunS : Cx := mkCx T0 pg3 [(0, lsEqFunS)] [] 27
theorem rEqFunS (a b : List (ByteArray × Bool × List (Int × Int × ByteArray × Unit) × Unit)) (i : Int) (r : Bool) : roundK cxEqFunS 0 (loopIn Go.Proofs.Try.f25 0) lsEqFunS (a, b, i, r, ()) =
  (if Decidable.decide (i < (↑(List.length a) : Int)) = Bool.true then
    if Decidable.decide ((0 : Int) ≤ i) = Bool.true then
      if Decidable.decide (i < (↑(List.length a) : Int)) = Bool.true then
        if Decidable.decide ((0 : Int) ≤ i) = Bool.true then
          if Decidable.decide (i < (↑(List.length b) : Int)) = Bool.true then
            if Go.Rx.G.fewFun (List.getD a (Int.toNat i) (ByteArray.empty, Bool.false, [], PUnit.unit)) = Bool.true then
              if
                  (!Go.Rx.G.eqFun (List.getD a (Int.toNat i) (ByteArray.empty, Bool.false, [], PUnit.unit)) (List.getD b (Int.toNat i) (ByteArray.empty, Bool.false, [], PUnit.unit))) =
                    Bool.true then
                Option.some (Go.Rx.LRes.stop (1 : Nat) (Bool.false, PUnit.unit) PUnit.unit)
              else Option.some (Go.Rx.LRes.go (a, b, Go.IntKind.wrap Go.IntKind.i64 (i + (1 : Int)), r, PUnit.unit))
            else Option.none
          else Option.none
        else Option.none
      else Option.none
    else Option.none
  else Option.some (Go.Rx.LRes.stop (0 : Nat) (r, PUnit.unit) PUnit.unit)) := by kernel_rfl
noncomputable abbrev muEqFunS : PKs.den lsEqFunS.ins → Nat := fun x => x.1.length - x.2.2.1.toNat
theorem stEqFunS (a b : List (ByteArray × Bool × List (Int × Int × ByteArray × Unit) × Unit)) (i : Int) (r : Bool) (h : (G.eqPre a b i && a.all G.fewFun) = true) : StepOk lsEqFunS (eqInv lsEqFunS) muEqFunS (a, b, i, r, ()) (roundK cxEqFunS 0 (loopIn Go.Proofs.Try.f25 0) lsEqFunS (a, b, i, r, ())) := by
  rw [Bool.and_eq_true] at h
  obtain ⟨h, hall⟩ := h
  obtain ⟨h0, h1, h2, h3⟩ := eqPre_iff.1 h
  rw [rEqFunS]
  by_cases hi : i < (a.length : Int)
  · have hb : i < (b.length : Int) := by omega
    skip
    have hw : IntKind.i64.wrap (i + 1) = i + 1 := w64 (by omega) (by omega)
    have he := eqFrom_step ((ByteArray.empty, false, [], ()) : ByteArray × Bool × List (Int × Int × ByteArray × Unit) × Unit) h0 hi hb
    have hfe := all_getD ((ByteArray.empty, false, [], ()) : ByteArray × Bool × List (Int × Int × ByteArray × Unit) × Unit) hall (show i.toNat < a.length by omega)
    skip
    simp only [hi, hb, h0, decide_true, if_true, hw, hfe]
    generalize a.getD i.toNat ((ByteArray.empty, false, [], ()) : ByteArray × Bool × List (Int × Int × ByteArray × Unit) × Unit) = x at *
    generalize b.getD i.toNat ((ByteArray.empty, false, [], ()) : ByteArray × Bool × List (Int × Int × ByteArray × Unit) × Unit) = y at *
    by_cases hc : x = y
    · subst hc
      simp at he
      simp [G.eqFun]
      refine ⟨(show (G.eqPre a b (i + 1) && a.all G.fewFun) = true by rw [Bool.and_eq_true]; exact ⟨eqPre_iff.2 ⟨by omega, by omega, h2, h3⟩, hall⟩), ?_, ?_⟩
      · show a.length - (i + 1).toNat < a.length - i.toNat
        omega
      · show ((_, _), _) = ((_, _), _)
        simp only [he]
    · simp only [hc, decide_false, Bool.false_and] at he
      have hcc : G.eqFun x y = false := by simp [G.eqFun, hc]
      simp only [hcc, Bool.not_false, if_true]
      show ((_, _), _) = ((_, _), _)
      simp only [he]
      simp
  · have he : G.eqFrom a b i = true := eqFrom_end (by omega) (by omega)
    skip
    simp only [hi, decide_false]
    show ((_, _), _) = ((_, _), _)
    simp only [he]
    simp
theorem lpEqFunS : LpOk Go.Proofs.Try.prog cxEqFunS.ntmps 0 (loopIn Go.Proofs.Try.f25 0) lsEqFunS :=
  lp_okB (cxOk T0_ok T0_eq pg3_ok) mixed (by kernel_rfl) (lps_none (by kernel_rfl)) (eqInv lsEqFunS) muEqFunS (fun _ h => h) (fun x h => stEqFunS x.1 x.2.1 x.2.2.1 x.2.2.2.1 h)
/-! EqFunS -/
noncomputable abbrev spEqFunS : Spec := ⟨[.c (.dat (.sl funT)), .c (.dat (.sl funT))], .one (.c (.dat .bool)), false, fun x => (G.few x.1.length && x.1.all G.fewFun), fun x => (G.sameS x.1 x.2.1, ())⟩
theorem eEqFunS (a b : List (ByteArray × Bool × List (Int × Int × ByteArray × Unit) × Unit)) : funK cxEqFunS Go.Proofs.Try.f25 spEqFunS.ins spEqFunS.out (a, b, ()) =
  (if (!Decidable.decide ((↑(List.length a) : Int) = (↑(List.length b) : Int))) = Bool.true then Option.some (Bool.false, PUnit.unit)
  else
    if (Go.Rx.G.eqPre a b (0 : Int) && List.all a Go.Rx.G.fewFun) = Bool.true then
      if (if Go.Rx.G.eqFrom a b (0 : Int) = Bool.true then (0 : Nat) else (1 : Nat)) = (0 : Nat) then Option.some (Bool.true, PUnit.unit)
      else
        if (if Go.Rx.G.eqFrom a b (0 : Int) = Bool.true then (0 : Nat) else (1 : Nat)) = (1 : Nat) then Option.some (Go.Rx.G.eqFrom a b (0 : Int) && Bool.false, PUnit.unit)
        else Option.none
    else Option.none) := by kernel_rfl
theorem sfEqFunS (a b : List (ByteArray × Bool × List (Int × Int × ByteArray × Unit) × Unit)) (h : (G.few a.length && a.all G.fewFun) = true) : funK cxEqFunS Go.Proofs.Try.f25 spEqFunS.ins spEqFunS.out (a, b, ()) = some (G.sameS a b, ()) := by
  rw [Bool.and_eq_true] at h
  obtain ⟨h, hall⟩ := h
  rw [eEqFunS]
  by_cases hl : a.length = b.length
  · have hp : G.eqPre a b 0 = true := eqPre_iff.2 ⟨by omega, by omega, hl, few_iff.1 h⟩
    skip
    have he : G.eqFrom a b 0 = G.sameS a b := eqFrom_zero a b
    simp only [hp, he, hall, Bool.and_self]
    cases G.sameS a b <;> simp [hl]
  · have : G.sameS a b = false := by
      simp only [G.sameS, decide_eq_false_iff_not]
      intro e
      exact hl (by rw [e])
    simp only [this]
    rw [if_pos (by simp; omega)]
theorem okEqFunS : SpecOk Go.Proofs.Try.prog 25 spEqFunS :=
  fun_okB (cx := cxEqFunS) (F := Go.Proofs.Try.f25) (cxOk T0_ok T0_eq pg3_ok) mixed (by kernel_rfl) (by decide) (by kernel_rfl) (lps_of (l := [(0, loopIn Go.Proofs.Try.f25 0)]) (by kernel_rfl) ⟨lp_at lpEqFunS rfl, trivial⟩)
    (fun x h => sfEqFunS x.1 x.2.1 h)
/-! EqStrSS: its loop -/
noncomputable abbrev lsEqStrSS : LSpec := ⟨[0, 1, 5, 4], [4], [.c (.dat (.sl strsT)), .c (.dat (.sl strsT)), .c (.dat I), .c (.dat .bool)], [.c (.dat .bool)], false, fun x => (G.eqPre x.1 x.2.1 x.2.2.1 && x.1.all G.fewStrs),
  fun x => ((if G.eqFrom x.1 x.2.1 x.2.2.1 = true then 0 else 1, (G.eqFrom x.1 x.2.1 x.2.2.1 && x.2.2.2.1, ())), ())⟩
noncomputable abbrev cxEqStrSS : Cx := mkCx T0 pg3 [(0, lsEqStrSS)] [] 27
theorem rEqStrSS (a b : List (List (ByteArray × Unit) × Unit)) (i : Int) (r : Bool) : roundK cxEqStrSS 0 (loopIn Go.Proofs.Try.f58 0) lsEqStrSS (a, b, i, r, ()) =
  (if Decidable.decide (i < (↑(List.length a) : Int)) = Bool.true then
    if Decidable.decide ((0 : Int) ≤ i) = Bool.true then
      if Decidable.decide (i < (↑(List.length a) : Int)) = Bool.true then
        if Decidable.decide ((0 : Int) ≤ i) = Bool.true then
          if Decidable.decide (i < (↑(List.length b) : Int)) = Bool.true then
            if Go.Rx.G.few (List.length (List.getD a (Int.toNat i) ([], PUnit.unit)).1) = Bool.true then
              if (!Go.Rx.G.sameS (List.getD a (Int.toNat i) ([], PUnit.unit)).1 (List.getD b (Int.toNat i) ([], PUnit.unit)).1) = Bool.true then
                Option.some (Go.Rx.LRes.stop (1 : Nat) (Bool.false, PUnit.unit) PUnit.unit)
              else Option.some (Go.Rx.LRes.go (a, b, Go.IntKind.wrap Go.IntKind.i64 (i + (1 : Int)), r, PUnit.unit))
            else Option.none
          else Option.none
        else Option.none
      else Option.none
    else Option.none
  else Option.some (Go.Rx.LRes.stop (0 : Nat) (r, PUnit.unit) PUnit.unit)) := by kernel_rfl
noncomputable abbrev muEqStrSS : PKs.den lsEqStrSS.ins → Nat := fun x => x.1.length - x.2.2.1.toNat
theorem stEqStrSS (a b : List (List (ByteArray × Unit) × Unit)) (i : Int) (r : Bool) (h : (G.eqPre a b i && a.all G.fewStrs) = true) : StepOk lsEqStrSS (eqInv lsEqStrSS) muEqStrSS (a, b, i, r, ()) (roundK cxEqStrSS 0 (loopIn Go.Proofs.Try.f58 0) lsEqStrSS (a, b, i, r, ())) := by
  rw [Bool.and_eq_true] at h
  obtain ⟨h, hall⟩ := h
  obtain ⟨h0, h1, h2, h3⟩ := eqPre_iff.1 h
  rw [rEqStrSS]
  by_cases hi : i < (a.length : Int)
  · have hb : i < (b.length : Int) := by omega
    skip
    have hw : IntKind.i64.wrap (i + 1) = i + 1 := w64 (by omega) (by omega)
    have he := eqFrom_step (([], ()) : List (ByteArray × Unit) × Unit) h0 hi hb
    have hfe := all_getD (([], ()) : List (ByteArray × Unit) × Unit) hall (show i.toNat < a.length by omega)
    unfold G.fewStrs at hfe
    simp only [hi, hb, h0, decide_true, if_true, hw, hfe]
    generalize a.getD i.toNat (([], ()) : List (ByteArray × Unit) × Unit) = x at *
    generalize b.getD i.toNat (([], ()) : List (ByteArray × Unit) × Unit) = y at *
    by_cases hc : x = y
    · subst hc
      simp at he
      simp [G.sameS]
      refine ⟨(show (G.eqPre a b (i + 1) && a.all G.fewStrs) = true by rw [Bool.and_eq_true]; exact ⟨eqPre_iff.2 ⟨by omega, by omega, h2, h3⟩, hall⟩), ?_, ?_⟩
      · show a.length - (i + 1).toNat < a.length - i.toNat
        omega
      · show ((_, _), _) = ((_, _), _)
        simp only [he]
    · simp only [hc, decide_false, Bool.false_and] at he
      have hcc : G.sameS x.1 y.1 = false := strs1_ne hc
      simp only [hcc, Bool.not_false, if_true]
      show ((_, _), _) = ((_, _), _)
      simp only [he]
      simp
  · have he : G.eqFrom a b i = true := eqFrom_end (by omega) (by omega)
    skip
    simp only [hi, decide_false]
    show ((_, _), _) = ((_, _), _)
    simp only [he]
    simp
theorem lpEqStrSS : LpOk Go.Proofs.Try.prog cxEqStrSS.ntmps 0 (loopIn Go.Proofs.Try.f58 0) lsEqStrSS :=
  lp_okB (cxOk T0_ok T0_eq pg3_ok) mixed (by kernel_rfl) (lps_none (by kernel_rfl)) (eqInv lsEqStrSS) muEqStrSS (fun _ h => h) (fun x h => stEqStrSS x.1 x.2.1 x.2.2.1 x.2.2.2.1 h)
/-! EqStrSS -/
noncomputable abbrev spEqStrSS : Spec := ⟨[.c (.dat (.sl strsT)), .c (.dat (.sl strsT))], .one (.c (.dat .bool)), false, fun x => (G.few x.1.length && x.1.all G.fewStrs), fun x => (G.sameS x.1 x.2.1, ())⟩
theorem eEqStrSS (a b : List (List (ByteArray × Unit) × Unit)) : funK cxEqStrSS Go.Proofs.Try.f58 spEqStrSS.ins spEqStrSS.out (a, b, ()) =
  (if (!Decidable.decide ((↑(List.length a) : Int) = (↑(List.length b) : Int))) = Bool.true then Option.some (Bool.false, PUnit.unit)
  else
    if (Go.Rx.G.eqPre a b (0 : Int) && List.all a Go.Rx.G.fewStrs) = Bool.true then
      if (if Go.Rx.G.eqFrom a b (0 : Int) = Bool.true then (0 : Nat) else (1 : Nat)) = (0 : Nat) then Option.some (Bool.true, PUnit.unit)
      else
        if (if Go.Rx.G.eqFrom a b (0 : Int) = Bool.true then (0 : Nat) else (1 : Nat)) = (1 : Nat) then Option.some (Go.Rx.G.eqFrom a b (0 : Int) && Bool.false, PUnit.unit)
        else Option.none
    else Option.none) := by kernel_rfl
theorem sfEqStrSS (a b : List (List (ByteArray × Unit) × Unit)) (h : (G.few a.length && a.all G.fewStrs) = true) : funK cxEqStrSS Go.Proofs.Try.f58 spEqStrSS.ins spEqStrSS.out (a, b, ()) = some (G.sameS a b, ()) := by
  rw [Bool.and_eq_true] at h
  obtain ⟨h, hall⟩ := h
  rw [eEqStrSS]
  by_cases hl : a.length = b.length
  · have hp : G.eqPre a b 0 = true := eqPre_iff.2 ⟨by omega, by omega, hl, few_iff.1 h⟩
    skip
    have he : G.eqFrom a b 0 = G.sameS a b := eqFrom_zero a b
    simp only [hp, he, hall, Bool.and_self]
    cases G.sameS a b <;> simp [hl]
  · have : G.sameS a b = false := by
      simp only [G.sameS, decide_eq_false_iff_not]
      intro e
      exact hl (by rw [e])
    simp only [this]
    rw [if_pos (by simp; omega)]
theorem okEqStrSS : SpecOk Go.Proofs.Try.prog 58 spEqStrSS :=
  fun_okB (cx := cxEqStrSS) (F := Go.Proofs.Try.f58) (cxOk T0_ok T0_eq pg3_ok) mixed (by kernel_rfl) (by decide) (by kernel_rfl) (lps_of (l := [(0, loopIn Go.Proofs.Try.f58 0)]) (by kernel_rfl) ⟨lp_at lpEqStrSS rfl, trivial⟩)
    (fun x h => sfEqStrSS x.1 x.2.1 h)
noncomputable abbrev pg4 : List (Nat × List Spec) := (25, [spEqFunS]) :: (58, [spEqStrSS]) :: (46, [spEqIntS]) :: pg3
theorem pg4_ok : PhiOk Go.Proofs.Try.prog pg4 := ⟨⟨okEqFunS, trivial⟩, ⟨okEqStrSS, trivial⟩, ⟨okEqIntS, trivial⟩, pg3_ok⟩
/-! EqLay -/
noncomputable abbrev spEqLay : Spec := ⟨[.agg LayK, .agg LayK], BoolR, false, fun x => G.fewLay x.1, fun x => (G.eqLay x.1 x.2.1, ())⟩
noncomputable abbrev cxEqLay : Cx := mkCx T0 pg4 [] [] 17
theorem eEqLay (a b : Lay) : funK cxEqLay Go.Proofs.Try.f26 spEqLay.ins spEqLay.out (a, b, ()) =
  (if Go.Rx.G.few (List.length a.1) = Bool.true then
    if (!Go.Rx.G.sameS a.1 b.1) = Bool.true then Option.some (Bool.false, PUnit.unit)
    else
      if (Go.Rx.G.few (List.length a.2.1) && List.all a.2.1 Go.Rx.G.fewStrs) = Bool.true then
        if (!Go.Rx.G.sameS a.2.1 b.2.1) = Bool.true then Option.some (Bool.false, PUnit.unit) else Option.some (Bool.true, PUnit.unit)
      else Option.none
  else Option.none) := by kernel_rfl
theorem sfEqLay (a b : Lay) (h : G.fewLay a = true) : funK cxEqLay Go.Proofs.Try.f26 spEqLay.ins spEqLay.out (a, b, ()) = some (G.eqLay a b, ()) := by
  unfold G.fewLay at h
  rw [Bool.and_eq_true] at h
  rw [eEqLay]
  simp only [h.1, h.2, if_true]
  obtain ⟨a1, a2, _⟩ := a
  obtain ⟨b1, b2, _⟩ := b
  simp only [G.eqLay, G.sameS, Prod.mk.injEq]
  by_cases h1 : a1 = b1 <;> by_cases h2 : a2 = b2 <;> simp [h1, h2]
theorem okEqLay : SpecOk Go.Proofs.Try.prog 26 spEqLay :=
  fun_okB (cx := cxEqLay) (F := Go.Proofs.Try.f26) (cxOk T0_ok T0_eq pg4_ok) mixed (by kernel_rfl) (by decide) (by kernel_rfl) (lps_none (by kernel_rfl)) (fun x h => sfEqLay x.1 x.2.1 h)
/-! copies -/
/-! ToIns -/
noncomputable abbrev spToIns : Spec := ⟨[.agg InsK], .one (.agg InsK), false, fun x => true, fun x => (x.1, ())⟩
noncomputable abbrev cxToIns : Cx := mkCx T0 pg4 [] [] 14
theorem eToIns (a : Ins) : funK cxToIns Go.Proofs.Try.f124 spToIns.ins spToIns.out (a, ()) =
  (Option.some (a, PUnit.unit)) := by kernel_rfl
theorem okToIns : SpecOk Go.Proofs.Try.prog 124 spToIns :=
  fun_okB (cx := cxToIns) (F := Go.Proofs.Try.f124) (cxOk T0_ok T0_eq pg4_ok) mixed (by kernel_rfl) (by decide) (by kernel_rfl) (lps_none (by kernel_rfl)) (fun x h => eToIns x.1)
noncomputable abbrev pg5 : List (Nat × List Spec) := (124, [spToIns]) :: (26, [spEqLay]) :: pg4
theorem pg5_ok : PhiOk Go.Proofs.Try.prog pg5 := ⟨⟨okToIns, trivial⟩, ⟨okEqLay, trivial⟩, pg4_ok⟩
/-! ToInsS: its loop -/
noncomputable abbrev lsToInsS : LSpec := ⟨[0, 3, 4], [3], [.c (.dat (.sl insT)), .c (.own insT), .c (.dat I)], [.c (.own insT)], false, fun x => G.cpPre x.1 x.2.1 x.2.2.1,
  fun x => ((0, (G.fill x.1 x.2.1 x.2.2.1, ())), ())⟩
noncomputable abbrev cxToInsS : Cx := mkCx T0 pg5 [(0, lsToInsS)] [] 23
theorem rToInsS (a b : List (Int × Int × ByteArray × Unit)) (i : Int) : roundK cxToInsS 0 (loopIn Go.Proofs.Try.f91 0) lsToInsS (a, b, i, ()) =
  (if Decidable.decide (i < (↑(List.length a) : Int)) = Bool.true then
    if Decidable.decide ((0 : Int) ≤ i) = Bool.true then
      if Decidable.decide (i < (↑(List.length a) : Int)) = Bool.true then
        if Decidable.decide ((0 : Int) ≤ i) = Bool.true then
          if Decidable.decide (i < (↑(List.length b) : Int)) = Bool.true then
            if Decidable.decide (Int.toNat i < List.length b) = Bool.true then
              Option.some
                (Go.Rx.LRes.go
                  (a,
                    List.set b (Int.toNat i)
                      ((List.getD a (Int.toNat i) ((0 : Int), (0 : Int), ByteArray.empty, PUnit.unit)).1,
                        (List.getD a (Int.toNat i) ((0 : Int), (0 : Int), ByteArray.empty, PUnit.unit)).2.1,
                        (List.getD a (Int.toNat i) ((0 : Int), (0 : Int), ByteArray.empty, PUnit.unit)).2.2.1,
                        (List.getD b (Int.toNat i) ((0 : Int), (0 : Int), ByteArray.empty, PUnit.unit)).2.2.2),
                    Go.IntKind.wrap Go.IntKind.i64 (i + (1 : Int)), PUnit.unit))
            else Option.none
          else Option.none
        else Option.none
      else Option.none
    else Option.none
  else Option.some (Go.Rx.LRes.stop (0 : Nat) (b, PUnit.unit) PUnit.unit)) := by kernel_rfl
noncomputable abbrev muToInsS : PKs.den lsToInsS.ins → Nat := fun x => x.1.length - x.2.2.1.toNat
theorem stToInsS (a b : List (Int × Int × ByteArray × Unit)) (i : Int) (h : G.cpPre a b i = true) : StepOk lsToInsS (eqInv lsToInsS) muToInsS (a, b, i, ()) (roundK cxToInsS 0 (loopIn Go.Proofs.Try.f91 0) lsToInsS (a, b, i, ())) := by
  obtain ⟨h0, h1, h2, h3⟩ := cpPre_iff.1 h
  rw [rToInsS]
  by_cases hi : i < (a.length : Int)
  · have hb : i < (b.length : Int) := by omega
    have hbn : i.toNat < b.length := by omega
    have hw : IntKind.i64.wrap (i + 1) = i + 1 := w64 (by omega) (by omega)
    have he := fill_step (((0 : Int), (0 : Int), ByteArray.empty, ()) : Int × Int × ByteArray × Unit) h0 hi hb
    simp only [hi, hb, hbn, h0, decide_true, if_true, hw]
    refine ⟨(show G.cpPre a (b.set i.toNat (a.getD i.toNat (((0 : Int), (0 : Int), ByteArray.empty, ()) : Int × Int × ByteArray × Unit))) (i + 1) = true from cpPre_iff.2 ⟨by omega, by omega, by simpa using h2, h3⟩), ?_, ?_⟩
    · show a.length - (i + 1).toNat < a.length - i.toNat
      omega
    · show ((0, (G.fill a (b.set i.toNat (a.getD i.toNat (((0 : Int), (0 : Int), ByteArray.empty, ()) : Int × Int × ByteArray × Unit))) (i + 1), ())), ()) = ((0, (G.fill a b i, ())), ())
      rw [he]
  · have he : G.fill a b i = b := fill_end (by omega) (by omega)
    simp only [hi, decide_false]
    show ((0, (G.fill a b i, ())), ()) = ((0, (b, ())), ())
    rw [he]
theorem lpToInsS : LpOk Go.Proofs.Try.prog cxToInsS.ntmps 0 (loopIn Go.Proofs.Try.f91 0) lsToInsS :=
  lp_okB (cxOk T0_ok T0_eq pg5_ok) mixed (by kernel_rfl) (lps_none (by kernel_rfl)) (eqInv lsToInsS) muToInsS (fun _ h => h) (fun x h => stToInsS x.1 x.2.1 x.2.2.1 h)
/-! ToInsS -/
noncomputable abbrev spToInsS : Spec := ⟨[.c (.dat (.sl insT))], .one (.c (.own insT)), false, fun x => G.few x.1.length, fun x => (x.1, ())⟩
theorem eToInsS (a : List (Int × Int × ByteArray × Unit)) : funK cxToInsS Go.Proofs.Try.f91 spToInsS.ins spToInsS.out (a, ()) =
  (if Decidable.decide ((0 : Int) ≤ (↑(List.length a) : Int)) = Bool.true then
    if Decidable.decide ((↑(List.length a) : Int) ≤ (↑(List.length a) : Int)) = Bool.true then
      if Decidable.decide ((↑(List.length a) : Int) * (32 : Int) ≤ (140737488355328 : Int)) = Bool.true then
        if Go.Rx.G.cpPre a (List.replicate (Int.toNat (↑(List.length a) : Int)) ((0 : Int), (0 : Int), ByteArray.empty, PUnit.unit)) (0 : Int) = Bool.true then
          Option.some (Go.Rx.G.fill a (List.replicate (Int.toNat (↑(List.length a) : Int)) ((0 : Int), (0 : Int), ByteArray.empty, PUnit.unit)) (0 : Int), PUnit.unit)
        else Option.none
      else Option.none
    else Option.none
  else Option.none) := by kernel_rfl
theorem sfToInsS (a : List (Int × Int × ByteArray × Unit)) (h : G.few a.length = true) : funK cxToInsS Go.Proofs.Try.f91 spToInsS.ins spToInsS.out (a, ()) = some (a, ()) := by
  have hf := few_iff.1 h
  rw [eToInsS]
  have hp : G.cpPre a (List.replicate (Int.toNat (a.length : Int)) (((0 : Int), (0 : Int), ByteArray.empty, ()) : Int × Int × ByteArray × Unit)) 0 = true := cpPre_iff.2 ⟨by omega, by omega, by simp, hf⟩
  have he : G.fill a (List.replicate (Int.toNat (a.length : Int)) (((0 : Int), (0 : Int), ByteArray.empty, ()) : Int × Int × ByteArray × Unit)) 0 = a := by simp [G.fill]
  simp only [hp, he, if_true]
  rw [if_pos (decide_eq_true (by omega)), if_pos (decide_eq_true (by omega)), if_pos (decide_eq_true (by omega))]
theorem okToInsS : SpecOk Go.Proofs.Try.prog 91 spToInsS :=
  fun_okB (cx := cxToInsS) (F := Go.Proofs.Try.f91) (cxOk T0_ok T0_eq pg5_ok) mixed (by kernel_rfl) (by decide) (by kernel_rfl) (lps_of (l := [(0, loopIn Go.Proofs.Try.f91 0)]) (by kernel_rfl) ⟨lp_at lpToInsS rfl, trivial⟩)
    (fun x h => sfToInsS x.1 h)
/-! ToStrS: its loop -/
noncomputable abbrev lsToStrS : LSpec := ⟨[0, 3, 4], [3], [.c (.dat (.sl strT)), .c (.own strT), .c (.dat I)], [.c (.own strT)], false, fun x => G.cpPre x.1 x.2.1 x.2.2.1,
  fun x => ((0, (G.fill x.1 x.2.1 x.2.2.1, ())), ())⟩
noncomputable abbrev cxToStrS : Cx := mkCx T0 pg5 [(0, lsToStrS)] [] 22
theorem rToStrS (a b : List (ByteArray × Unit)) (i : Int) : roundK cxToStrS 0 (loopIn Go.Proofs.Try.f92 0) lsToStrS (a, b, i, ()) =
  (if Decidable.decide (i < (↑(List.length a) : Int)) = Bool.true then
    if Decidable.decide ((0 : Int) ≤ i) = Bool.true then
      if Decidable.decide (i < (↑(List.length a) : Int)) = Bool.true then
        if Decidable.decide ((0 : Int) ≤ i) = Bool.true then
          if Decidable.decide (i < (↑(List.length b) : Int)) = Bool.true then
            if Decidable.decide (Int.toNat i < List.length b) = Bool.true then
              Option.some
                (Go.Rx.LRes.go
                  (a,
                    List.set b (Int.toNat i)
                      ((List.getD a (Int.toNat i) (ByteArray.empty, PUnit.unit)).1, (List.getD b (Int.toNat i) (ByteArray.empty, PUnit.unit)).2),
                    Go.IntKind.wrap Go.IntKind.i64 (i + (1 : Int)), PUnit.unit))
            else Option.none
          else Option.none
        else Option.none
      else Option.none
    else Option.none
  else Option.some (Go.Rx.LRes.stop (0 : Nat) (b, PUnit.unit) PUnit.unit)) := by kernel_rfl
noncomputable abbrev muToStrS : PKs.den lsToStrS.ins → Nat := fun x => x.1.length - x.2.2.1.toNat
theorem stToStrS (a b : List (ByteArray × Unit)) (i : Int) (h : G.cpPre a b i = true) : StepOk lsToStrS (eqInv lsToStrS) muToStrS (a, b, i, ()) (roundK cxToStrS 0 (loopIn Go.Proofs.Try.f92 0) lsToStrS (a, b, i, ())) := by
  obtain ⟨h0, h1, h2, h3⟩ := cpPre_iff.1 h
  rw [rToStrS]
  by_cases hi : i < (a.length : Int)
  · have hb : i < (b.length : Int) := by omega
    have hbn : i.toNat < b.length := by omega
    have hw : IntKind.i64.wrap (i + 1) = i + 1 := w64 (by omega) (by omega)
    have he := fill_step ((ByteArray.empty, ()) : ByteArray × Unit) h0 hi hb
    simp only [hi, hb, hbn, h0, decide_true, if_true, hw]
    refine ⟨(show G.cpPre a (b.set i.toNat (a.getD i.toNat ((ByteArray.empty, ()) : ByteArray × Unit))) (i + 1) = true from cpPre_iff.2 ⟨by omega, by omega, by simpa using h2, h3⟩), ?_, ?_⟩
    · show a.length - (i + 1).toNat < a.length - i.toNat
      omega
    · show ((0, (G.fill a (b.set i.toNat (a.getD i.toNat ((ByteArray.empty, ()) : ByteArray × Unit))) (i + 1), ())), ()) = ((0, (G.fill a b i, ())), ())
      rw [he]
  · have he : G.fill a b i = b := fill_end (by omega) (by omega)
    simp only [hi, decide_false]
    show ((0, (G.fill a b i, ())), ()) = ((0, (b, ())), ())
    rw [he]
theorem lpToStrS : LpOk Go.Proofs.Try.prog cxToStrS.ntmps 0 (loopIn Go.Proofs.Try.f92 0) lsToStrS :=
  lp_okB (cxOk T0_ok T0_eq pg5_ok) mixed (by kernel_rfl) (lps_none (by kernel_rfl)) (eqInv lsToStrS) muToStrS (fun _ h => h) (fun x h => stToStrS x.1 x.2.1 x.2.2.1 h)
/-! ToStrS -/
noncomputable abbrev spToStrS : Spec := ⟨[.c (.dat (.sl strT))], .one (.c (.own strT)), false, fun x => G.few x.1.length, fun x => (x.1, ())⟩
theorem eToStrS (a : List (ByteArray × Unit)) : funK cxToStrS Go.Proofs.Try.f92 spToStrS.ins spToStrS.out (a, ()) =
  (if Decidable.decide ((0 : Int) ≤ (↑(List.length a) : Int)) = Bool.true then
    if Decidable.decide ((↑(List.length a) : Int) ≤ (↑(List.length a) : Int)) = Bool.true then
      if Decidable.decide ((↑(List.length a) : Int) * (16 : Int) ≤ (140737488355328 : Int)) = Bool.true then
        if Go.Rx.G.cpPre a (List.replicate (Int.toNat (↑(List.length a) : Int)) (ByteArray.empty, PUnit.unit)) (0 : Int) = Bool.true then
          Option.some (Go.Rx.G.fill a (List.replicate (Int.toNat (↑(List.length a) : Int)) (ByteArray.empty, PUnit.unit)) (0 : Int), PUnit.unit)
        else Option.none
      else Option.none
    else Option.none
  else Option.none) := by kernel_rfl
theorem sfToStrS (a : List (ByteArray × Unit)) (h : G.few a.length = true) : funK cxToStrS Go.Proofs.Try.f92 spToStrS.ins spToStrS.out (a, ()) = some (a, ()) := by
  have hf := few_iff.1 h
  rw [eToStrS]
  have hp : G.cpPre a (List.replicate (Int.toNat (a.length : Int)) ((ByteArray.empty, ()) : ByteArray × Unit)) 0 = true := cpPre_iff.2 ⟨by omega, by omega, by simp, hf⟩
  have he : G.fill a (List.replicate (Int.toNat (a.length : Int)) ((ByteArray.empty, ()) : ByteArray × Unit)) 0 = a := by simp [G.fill]
  simp only [hp, he, if_true]
  rw [if_pos (decide_eq_true (by omega)), if_pos (decide_eq_true (by omega)), if_pos (decide_eq_true (by omega))]
theorem okToStrS : SpecOk Go.Proofs.Try.prog 92 spToStrS :=
  fun_okB (cx := cxToStrS) (F := Go.Proofs.Try.f92) (cxOk T0_ok T0_eq pg5_ok) mixed (by kernel_rfl) (by decide) (by kernel_rfl) (lps_of (l := [(0, loopIn Go.Proofs.Try.f92 0)]) (by kernel_rfl) ⟨lp_at lpToStrS rfl, trivial⟩)
    (fun x h => sfToStrS x.1 h)
noncomputable abbrev pg6 : List (Nat × List Spec) := (91, [spToInsS]) :: (92, [spToStrS]) :: (42, [spToIntS]) :: pg5
theorem pg6_ok : PhiOk Go.Proofs.Try.prog pg6 := ⟨⟨okToInsS, trivial⟩, ⟨okToStrS, trivial⟩, ⟨okToIntS, trivial⟩, pg5_ok⟩
/-! ToFun -/
noncomputable abbrev spToFun : Spec := ⟨[.agg FunK], .one (.agg FunK), true, fun x => G.fewFun x.1, fun x => (x.1, ())⟩
noncomputable abbrev cxToFun : Cx := mkCx T0 pg6 [] [] 15
theorem eToFun (a : Fun) : funK cxToFun Go.Proofs.Try.f53 spToFun.ins spToFun.out (a, ()) =
  (if Go.Rx.G.few (List.length a.2.2.1) = Bool.true then Option.some (a, PUnit.unit) else Option.none) := by kernel_rfl
theorem sfToFun (a : Fun) (h : G.fewFun a = true) : funK cxToFun Go.Proofs.Try.f53 spToFun.ins spToFun.out (a, ()) = some (a, ()) := by
  have h : G.few a.2.2.1.length = true := h
  rw [eToFun, if_pos h]
theorem okToFun : SpecOk Go.Proofs.Try.prog 53 spToFun :=
  fun_okB (cx := cxToFun) (F := Go.Proofs.Try.f53) (cxOk T0_ok T0_eq pg6_ok) mixed (by kernel_rfl) (by decide) (by kernel_rfl) (lps_none (by kernel_rfl)) (fun x h => sfToFun x.1 h)
noncomputable abbrev pg7 : List (Nat × List Spec) := (53, [spToFun]) :: pg6
theorem pg7_ok : PhiOk Go.Proofs.Try.prog pg7 := ⟨⟨okToFun, trivial⟩, pg6_ok⟩
/-! ToFunS: its loop -/
noncomputable abbrev lsToFunS : LSpec := ⟨[0, 3, 4], [3], [.c (.dat (.sl funT)), .c (.own funT), .c (.dat I)], [.c (.own funT)], true, fun x => (G.cpPre x.1 x.2.1 x.2.2.1 && x.1.all G.fewFun),
  fun x => ((0, (G.fill x.1 x.2.1 x.2.2.1, ())), ())⟩
noncomputable abbrev cxToFunS : Cx := mkCx T0 pg7 [(0, lsToFunS)] [] 23
theorem rToFunS (a b : List (ByteArray × Bool × List (Int × Int × ByteArray × Unit) × Unit)) (i : Int) : roundK cxToFunS 0 (loopIn Go.Proofs.Try.f22 0) lsToFunS (a, b, i, ()) =
  (if Decidable.decide (i < (↑(List.length a) : Int)) = Bool.true then
    if Decidable.decide ((0 : Int) ≤ i) = Bool.true then
      if Decidable.decide (i < (↑(List.length a) : Int)) = Bool.true then
        if Go.Rx.G.fewFun (List.getD a (Int.toNat i) (ByteArray.empty, Bool.false, [], PUnit.unit)) = Bool.true then
          if Decidable.decide ((0 : Int) ≤ i) = Bool.true then
            if Decidable.decide (i < (↑(List.length b) : Int)) = Bool.true then
              if Decidable.decide (Int.toNat i < List.length b) = Bool.true then
                Option.some
                  (Go.Rx.LRes.go
                    (a,
                      List.set b (Int.toNat i)
                        ((List.getD a (Int.toNat i) (ByteArray.empty, Bool.false, [], PUnit.unit)).1, (List.getD a (Int.toNat i) (ByteArray.empty, Bool.false, [], PUnit.unit)).2.1,
                          (List.getD a (Int.toNat i) (ByteArray.empty, Bool.false, [], PUnit.unit)).2.2.1,
                          (List.getD b (Int.toNat i) (ByteArray.empty, Bool.false, [], PUnit.unit)).2.2.2),
                      Go.IntKind.wrap Go.IntKind.i64 (i + (1 : Int)), PUnit.unit))
              else Option.none
            else Option.none
          else Option.none
        else Option.none
      else Option.none
    else Option.none
  else Option.some (Go.Rx.LRes.stop (0 : Nat) (b, PUnit.unit) PUnit.unit)) := by kernel_rfl
noncomputable abbrev muToFunS : PKs.den lsToFunS.ins → Nat := fun x => x.1.length - x.2.2.1.toNat
theorem stToFunS (a b : List (ByteArray × Bool × List (Int × Int × ByteArray × Unit) × Unit)) (i : Int) (h : (G.cpPre a b i && a.all G.fewFun) = true) : StepOk lsToFunS (eqInv lsToFunS) muToFunS (a, b, i, ()) (roundK cxToFunS 0 (loopIn Go.Proofs.Try.f22 0) lsToFunS (a, b, i, ())) := by
  rw [Bool.and_eq_true] at h
  obtain ⟨h, hall⟩ := h
  obtain ⟨h0, h1, h2, h3⟩ := cpPre_iff.1 h
  rw [rToFunS]
  by_cases hi : i < (a.length : Int)
  · have hb : i < (b.length : Int) := by omega
    have hbn : i.toNat < b.length := by omega
    have hw : IntKind.i64.wrap (i + 1) = i + 1 := w64 (by omega) (by omega)
    have he := fill_step ((ByteArray.empty, false, [], ()) : ByteArray × Bool × List (Int × Int × ByteArray × Unit) × Unit) h0 hi hb
    have hfe := all_getD ((ByteArray.empty, false, [], ()) : ByteArray × Bool × List (Int × Int × ByteArray × Unit) × Unit) hall (show i.toNat < a.length by omega)
    skip
    simp only [hi, hb, hbn, h0, decide_true, if_true, hw, hfe]
    refine ⟨(show (G.cpPre a (b.set i.toNat (a.getD i.toNat ((ByteArray.empty, false, [], ()) : ByteArray × Bool × List (Int × Int × ByteArray × Unit) × Unit))) (i + 1) && a.all G.fewFun) = true by rw [Bool.and_eq_true]; exact ⟨cpPre_iff.2 ⟨by omega, by omega, by simpa using h2, h3⟩, hall⟩), ?_, ?_⟩
    · show a.length - (i + 1).toNat < a.length - i.toNat
      omega
    · show ((0, (G.fill a (b.set i.toNat (a.getD i.toNat ((ByteArray.empty, false, [], ()) : ByteArray × Bool × List (Int × Int × ByteArray × Unit) × Unit))) (i + 1), ())), ()) = ((0, (G.fill a b i, ())), ())
      rw [he]
  · have he : G.fill a b i = b := fill_end (by omega) (by omega)
    simp only [hi, decide_false]
    show ((0, (G.fill a b i, ())), ()) = ((0, (b, ())), ())
    rw [he]
theorem lpToFunS : LpOk Go.Proofs.Try.prog cxToFunS.ntmps 0 (loopIn Go.Proofs.Try.f22 0) lsToFunS :=
  lp_okB (cxOk T0_ok T0_eq pg7_ok) mixed (by kernel_rfl) (lps_none (by kernel_rfl)) (eqInv lsToFunS) muToFunS (fun _ h => h) (fun x h => stToFunS x.1 x.2.1 x.2.2.1 h)
/-! ToFunS -/
noncomputable abbrev spToFunS : Spec := ⟨[.c (.dat (.sl funT))], .one (.c (.own funT)), true, fun x => (G.few x.1.length && x.1.all G.fewFun), fun x => (x.1, ())⟩
theorem eToFunS (a : List (ByteArray × Bool × List (Int × Int × ByteArray × Unit) × Unit)) : funK cxToFunS Go.Proofs.Try.f22 spToFunS.ins spToFunS.out (a, ()) =
  (if Decidable.decide ((0 : Int) ≤ (↑(List.length a) : Int)) = Bool.true then
    if Decidable.decide ((↑(List.length a) : Int) ≤ (↑(List.length a) : Int)) = Bool.true then
      if Decidable.decide ((↑(List.length a) : Int) * (48 : Int) ≤ (140737488355328 : Int)) = Bool.true then
        if (Go.Rx.G.cpPre a (List.replicate (Int.toNat (↑(List.length a) : Int)) (ByteArray.empty, Bool.false, [], PUnit.unit)) (0 : Int) && List.all a Go.Rx.G.fewFun) = Bool.true then
          Option.some (Go.Rx.G.fill a (List.replicate (Int.toNat (↑(List.length a) : Int)) (ByteArray.empty, Bool.false, [], PUnit.unit)) (0 : Int), PUnit.unit)
        else Option.none
      else Option.none
    else Option.none
  else Option.none) := by kernel_rfl
theorem sfToFunS (a : List (ByteArray × Bool × List (Int × Int × ByteArray × Unit) × Unit)) (h : (G.few a.length && a.all G.fewFun) = true) : funK cxToFunS Go.Proofs.Try.f22 spToFunS.ins spToFunS.out (a, ()) = some (a, ()) := by
  rw [Bool.and_eq_true] at h
  obtain ⟨h, hall⟩ := h
  have hf := few_iff.1 h
  rw [eToFunS]
  have hp : G.cpPre a (List.replicate (Int.toNat (a.length : Int)) ((ByteArray.empty, false, [], ()) : ByteArray × Bool × List (Int × Int × ByteArray × Unit) × Unit)) 0 = true := cpPre_iff.2 ⟨by omega, by omega, by simp, hf⟩
  have he : G.fill a (List.replicate (Int.toNat (a.length : Int)) ((ByteArray.empty, false, [], ()) : ByteArray × Bool × List (Int × Int × ByteArray × Unit) × Unit)) 0 = a := by simp [G.fill]
  simp only [hp, he, hall, Bool.and_self, if_true]
  rw [if_pos (decide_eq_true (by omega)), if_pos (decide_eq_true (by omega)), if_pos (decide_eq_true (by omega))]
theorem okToFunS : SpecOk Go.Proofs.Try.prog 22 spToFunS :=
  fun_okB (cx := cxToFunS) (F := Go.Proofs.Try.f22) (cxOk T0_ok T0_eq pg7_ok) mixed (by kernel_rfl) (by decide) (by kernel_rfl) (lps_of (l := [(0, loopIn Go.Proofs.Try.f22 0)]) (by kernel_rfl) ⟨lp_at lpToFunS rfl, trivial⟩)
    (fun x h => sfToFunS x.1 h)
/-! ToStrSS: its loop -/
noncomputable abbrev lsToStrSS : LSpec := ⟨[0, 3, 4], [3], [.c (.dat (.sl strsT)), .c (.own strsT), .c (.dat I)], [.c (.own strsT)], true, fun x => (G.cpPre x.1 x.2.1 x.2.2.1 && x.1.all G.fewStrs),
  fun x => ((0, (G.fill x.1 x.2.1 x.2.2.1, ())), ())⟩
noncomputable abbrev cxToStrSS : Cx := mkCx T0 pg7 [(0, lsToStrSS)] [] 23
theorem rToStrSS (a b : List (List (ByteArray × Unit) × Unit)) (i : Int) : roundK cxToStrSS 0 (loopIn Go.Proofs.Try.f54 0) lsToStrSS (a, b, i, ()) =
  (if Decidable.decide (i < (↑(List.length a) : Int)) = Bool.true then
    if Decidable.decide ((0 : Int) ≤ i) = Bool.true then
      if Decidable.decide (i < (↑(List.length a) : Int)) = Bool.true then
        if Go.Rx.G.few (List.length (List.getD a (Int.toNat i) ([], PUnit.unit)).1) = Bool.true then
          if Decidable.decide ((0 : Int) ≤ i) = Bool.true then
            if Decidable.decide (i < (↑(List.length b) : Int)) = Bool.true then
              if Decidable.decide (Int.toNat i < List.length b) = Bool.true then
                Option.some
                  (Go.Rx.LRes.go
                    (a,
                      List.set b (Int.toNat i) ((List.getD a (Int.toNat i) ([], PUnit.unit)).1, (List.getD b (Int.toNat i) ([], PUnit.unit)).2),
                      Go.IntKind.wrap Go.IntKind.i64 (i + (1 : Int)), PUnit.unit))
              else Option.none
            else Option.none
          else Option.none
        else Option.none
      else Option.none
    else Option.none
  else Option.some (Go.Rx.LRes.stop (0 : Nat) (b, PUnit.unit) PUnit.unit)) := by kernel_rfl
noncomputable abbrev muToStrSS : PKs.den lsToStrSS.ins → Nat := fun x => x.1.length - x.2.2.1.toNat
theorem stToStrSS (a b : List (List (ByteArray × Unit) × Unit)) (i : Int) (h : (G.cpPre a b i && a.all G.fewStrs) = true) : StepOk lsToStrSS (eqInv lsToStrSS) muToStrSS (a, b, i, ()) (roundK cxToStrSS 0 (loopIn Go.Proofs.Try.f54 0) lsToStrSS (a, b, i, ())) := by
  rw [Bool.and_eq_true] at h
  obtain ⟨h, hall⟩ := h
  obtain ⟨h0, h1, h2, h3⟩ := cpPre_iff.1 h
  rw [rToStrSS]
  by_cases hi : i < (a.length : Int)
  · have hb : i < (b.length : Int) := by omega
    have hbn : i.toNat < b.length := by omega
    have hw : IntKind.i64.wrap (i + 1) = i + 1 := w64 (by omega) (by omega)
    have he := fill_step (([], ()) : List (ByteArray × Unit) × Unit) h0 hi hb
    have hfe := all_getD (([], ()) : List (ByteArray × Unit) × Unit) hall (show i.toNat < a.length by omega)
    unfold G.fewStrs at hfe
    simp only [hi, hb, hbn, h0, decide_true, if_true, hw, hfe]
    refine ⟨(show (G.cpPre a (b.set i.toNat (a.getD i.toNat (([], ()) : List (ByteArray × Unit) × Unit))) (i + 1) && a.all G.fewStrs) = true by rw [Bool.and_eq_true]; exact ⟨cpPre_iff.2 ⟨by omega, by omega, by simpa using h2, h3⟩, hall⟩), ?_, ?_⟩
    · show a.length - (i + 1).toNat < a.length - i.toNat
      omega
    · show ((0, (G.fill a (b.set i.toNat (a.getD i.toNat (([], ()) : List (ByteArray × Unit) × Unit))) (i + 1), ())), ()) = ((0, (G.fill a b i, ())), ())
      rw [he]
  · have he : G.fill a b i = b := fill_end (by omega) (by omega)
    simp only [hi, decide_false]
    show ((0, (G.fill a b i, ())), ()) = ((0, (b, ())), ())
    rw [he]
theorem lpToStrSS : LpOk Go.Proofs.Try.prog cxToStrSS.ntmps 0 (loopIn Go.Proofs.Try.f54 0) lsToStrSS :=
  lp_okB (cxOk T0_ok T0_eq pg7_ok) mixed (by kernel_rfl) (lps_none (by kernel_rfl)) (eqInv lsToStrSS) muToStrSS (fun _ h => h) (fun x h => stToStrSS x.1 x.2.1 x.2.2.1 h)
/-! ToStrSS -/
noncomputable abbrev spToStrSS : Spec := ⟨[.c (.dat (.sl strsT))], .one (.c (.own strsT)), true, fun x => (G.few x.1.length && x.1.all G.fewStrs), fun x => (x.1, ())⟩
theorem eToStrSS (a : List (List (ByteArray × Unit) × Unit)) : funK cxToStrSS Go.Proofs.Try.f54 spToStrSS.ins spToStrSS.out (a, ()) =
  (if Decidable.decide ((0 : Int) ≤ (↑(List.length a) : Int)) = Bool.true then
    if Decidable.decide ((↑(List.length a) : Int) ≤ (↑(List.length a) : Int)) = Bool.true then
      if Decidable.decide ((↑(List.length a) : Int) * (24 : Int) ≤ (140737488355328 : Int)) = Bool.true then
        if (Go.Rx.G.cpPre a (List.replicate (Int.toNat (↑(List.length a) : Int)) ([], PUnit.unit)) (0 : Int) && List.all a Go.Rx.G.fewStrs) = Bool.true then
          Option.some (Go.Rx.G.fill a (List.replicate (Int.toNat (↑(List.length a) : Int)) ([], PUnit.unit)) (0 : Int), PUnit.unit)
        else Option.none
      else Option.none
    else Option.none
  else Option.none) := by kernel_rfl
theorem sfToStrSS (a : List (List (ByteArray × Unit) × Unit)) (h : (G.few a.length && a.all G.fewStrs) = true) : funK cxToStrSS Go.Proofs.Try.f54 spToStrSS.ins spToStrSS.out (a, ()) = some (a, ()) := by
  rw [Bool.and_eq_true] at h
  obtain ⟨h, hall⟩ := h
  have hf := few_iff.1 h
  rw [eToStrSS]
  have hp : G.cpPre a (List.replicate (Int.toNat (a.length : Int)) (([], ()) : List (ByteArray × Unit) × Unit)) 0 = true := cpPre_iff.2 ⟨by omega, by omega, by simp, hf⟩
  have he : G.fill a (List.replicate (Int.toNat (a.length : Int)) (([], ()) : List (ByteArray × Unit) × Unit)) 0 = a := by simp [G.fill]
  simp only [hp, he, hall, Bool.and_self, if_true]
  rw [if_pos (decide_eq_true (by omega)), if_pos (decide_eq_true (by omega)), if_pos (decide_eq_true (by omega))]
theorem okToStrSS : SpecOk Go.Proofs.Try.prog 54 spToStrSS :=
  fun_okB (cx := cxToStrSS) (F := Go.Proofs.Try.f54) (cxOk T0_ok T0_eq pg7_ok) mixed (by kernel_rfl) (by decide) (by kernel_rfl) (lps_of (l := [(0, loopIn Go.Proofs.Try.f54 0)]) (by kernel_rfl) ⟨lp_at lpToStrSS rfl, trivial⟩)
    (fun x h => sfToStrSS x.1 h)
noncomputable abbrev pg8 : List (Nat × List Spec) := (22, [spToFunS]) :: (54, [spToStrSS]) :: pg7
theorem pg8_ok : PhiOk Go.Proofs.Try.prog pg8 := ⟨⟨okToFunS, trivial⟩, ⟨okToStrSS, trivial⟩, pg7_ok⟩
/-! ToLay -/
noncomputable abbrev spToLay : Spec := ⟨[.agg LayK], .one (.agg LayK), true, fun x => G.fewLay x.1, fun x => (x.1, ())⟩
noncomputable abbrev cxToLay : Cx := mkCx T0 pg8 [] [] 13
theorem eToLay (a : Lay) : funK cxToLay Go.Proofs.Try.f23 spToLay.ins spToLay.out (a, ()) =
  (if Go.Rx.G.few (List.length a.1) = Bool.true then if (Go.Rx.G.few (List.length a.2.1) && List.all a.2.1 Go.Rx.G.fewStrs) = Bool.true then Option.some (a, PUnit.unit) else Option.none
  else Option.none) := by kernel_rfl
theorem sfToLay (a : Lay) (h : G.fewLay a = true) : funK cxToLay Go.Proofs.Try.f23 spToLay.ins spToLay.out (a, ()) = some (a, ()) := by
  unfold G.fewLay at h
  rw [Bool.and_eq_true] at h
  rw [eToLay, if_pos h.1, if_pos h.2]
theorem okToLay : SpecOk Go.Proofs.Try.prog 23 spToLay :=
  fun_okB (cx := cxToLay) (F := Go.Proofs.Try.f23) (cxOk T0_ok T0_eq pg8_ok) mixed (by kernel_rfl) (by decide) (by kernel_rfl) (lps_none (by kernel_rfl)) (fun x h => sfToLay x.1 h)
noncomputable abbrev pg9 : List (Nat × List Spec) := (23, [spToLay]) :: pg8
theorem pg9_ok : PhiOk Go.Proofs.Try.prog pg9 := ⟨⟨okToLay, trivial⟩, pg8_ok⟩
end Go.Rx

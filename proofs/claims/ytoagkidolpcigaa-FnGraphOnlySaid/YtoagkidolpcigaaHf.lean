/-
  DRAWS: what is reached in units; programs.
-/
import Derived.Test.YtoagkidolpcigaaHe
namespace Go.Rx
open Go
set_option linter.unusedVariables false
set_option linter.unusedSimpArgs false
/-! units closed -/
/-! CloseL: a loop -/
noncomputable abbrev ls0CloseL : LSpec := ⟨[0, 2, 6, 7, 8], [6, 7], [RdP, StrP, UnitsSP, UnitsO, IntP], [UnitsSP, UnitsSP], true, fun x => (G.rd (600000 + 100 * x.2.2.2.2.1) x.1 && G.nm x.2.1) && (decide (0 ≤ x.2.2.2.2.1 ∧ x.2.2.2.2.1 ≤ 7) && G.unitsD (60 + x.2.2.2.2.1.toNat) x.2.2.2.1), fun x => ((0, PKs.zero _), Bxs.zero _)⟩
noncomputable abbrev cxCloseL : Cx := mkCx T0 pd11 [] [] 44
theorem rCloseL (s : RdS) (e : ByteArray) (r6 out : Units) (n : Int) : roundK cxCloseL 0 (loopIn Go.Proofs.Try.f105 0) ls0CloseL (s, e, r6, out, n, ()) =
  (if Decidable.decide (n < (7 : Int)) = Bool.true then
    if (Go.Rx.G.unitsD (100 : Nat) out && Go.Rx.G.nm e) = Bool.true then
      if Decidable.decide ((↑(List.length (Go.Rx.G.dL3Wants (out, e, PUnit.unit)).1) : Int) = (0 : Int)) = Bool.true then
        Option.some (Go.Rx.LRes.stop (1 : Nat) (out, out, PUnit.unit) (s, PUnit.unit))
      else
        if Decidable.decide ((0 : Int) ≤ (0 : Int)) = Bool.true then
          if Decidable.decide ((0 : Int) < (↑(List.length (Go.Rx.G.dL3Wants (out, e, PUnit.unit)).1) : Int)) = Bool.true then
            if Decidable.decide (Int.toNat (0 : Int) < List.length (Go.Rx.G.dL3Wants (out, e, PUnit.unit)).1) = Bool.true then
              if Go.Rx.G.rd (900000 : Int) s = Bool.true then
                if Decidable.decide (n > (3 : Int)) = Bool.true then
                  if Decidable.decide ((0 : Int) ≤ (0 : Int)) = Bool.true then
                    if Decidable.decide ((0 : Int) < (↑(List.length (Go.Rx.G.dL3Wants (out, e, PUnit.unit)).1) : Int)) = Bool.true then
                      if Decidable.decide (Int.toNat (0 : Int) < List.length (Go.Rx.G.dL3Wants (out, e, PUnit.unit)).1) = Bool.true then
                        if Go.Rx.okSize (24 : Nat) (List.length out + (1 : Nat)) = Bool.true then
                          Option.some
                            (Go.Rx.LRes.go
                              ((Go.Rx.G.dL2Fun (s, List.getD (Go.Rx.G.dL3Wants (out, e, PUnit.unit)).1 (Int.toNat (0 : Int)) (ByteArray.empty, PUnit.unit))).2.1, e, r6,
                                out ++
                                  [([((List.getD (Go.Rx.G.dL3Wants (out, e, PUnit.unit)).1 (Int.toNat (0 : Int)) (ByteArray.empty, PUnit.unit)).1, Bool.false, [((6 : Int), (0 : Int), ByteArray.empty, PUnit.unit)],
                                          PUnit.unit)],
                                      PUnit.unit)],
                                Go.IntKind.wrap Go.IntKind.i64 (n + (1 : Int)), PUnit.unit))
                        else Option.none
                      else Option.none
                    else Option.none
                  else Option.none
                else
                  if Go.Rx.okSize (24 : Nat) (List.length out + (1 : Nat)) = Bool.true then
                    Option.some
                      (Go.Rx.LRes.go
                        ((Go.Rx.G.dL2Fun (s, List.getD (Go.Rx.G.dL3Wants (out, e, PUnit.unit)).1 (Int.toNat (0 : Int)) (ByteArray.empty, PUnit.unit))).2.1, e, r6,
                          out ++ [([(Go.Rx.G.dL2Fun (s, List.getD (Go.Rx.G.dL3Wants (out, e, PUnit.unit)).1 (Int.toNat (0 : Int)) (ByteArray.empty, PUnit.unit))).1], PUnit.unit)],
                          Go.IntKind.wrap Go.IntKind.i64 (n + (1 : Int)), PUnit.unit))
                  else Option.none
              else Option.none
            else Option.none
          else Option.none
        else Option.none
    else Option.none
  else Option.some (Go.Rx.LRes.stop (0 : Nat) (r6, out, PUnit.unit) (s, PUnit.unit))) := by kernel_rfl
noncomputable def G.dCloseL (x : PKs.den [RdP, StrP, UnitsSP, UnitsO, IntP]) : (Nat × PKs.den [UnitsSP, UnitsSP]) × Bxs.den [RdP, StrP, UnitsSP, UnitsO, IntP] := G.eps (roundK cxCloseL 0 (loopIn Go.Proofs.Try.f105 0) ls0CloseL) x
noncomputable abbrev lsCloseL : LSpec := ⟨[0, 2, 6, 7, 8], [6, 7], [RdP, StrP, UnitsSP, UnitsO, IntP], [UnitsSP, UnitsSP], true, fun x => (G.rd (600000 + 100 * x.2.2.2.2.1) x.1 && G.nm x.2.1) && (decide (0 ≤ x.2.2.2.2.1 ∧ x.2.2.2.2.1 ≤ 7) && G.unitsD (60 + x.2.2.2.2.1.toNat) x.2.2.2.1), fun x => G.dCloseL x⟩
/-! L4Close -/
noncomputable abbrev cxL4Close : Cx := mkCx T0 pd11 [(0, lsCloseL)] [] 44
noncomputable def G.dL4Close (x : PKs.den [RdP, UnitsSP, StrP]) : RK.den (.one UnitsSP) × Bxs.den [RdP, UnitsSP, StrP] := G.val (funK cxL4Close Go.Proofs.Try.f105 [RdP, UnitsSP, StrP] (.one UnitsSP) x)
noncomputable abbrev spL4Close : Spec := ⟨[RdP, UnitsSP, StrP], .one UnitsSP, true, fun x => G.rd 600000 x.1 && (G.unitsD 60 x.2.1 && G.nm x.2.2.1), fun x => G.dL4Close x⟩
theorem eL4Close (s : RdS) (us : Units) (e : ByteArray) : funK cxL4Close Go.Proofs.Try.f105 [RdP, UnitsSP, StrP] (.one UnitsSP) (s, us, e, ()) =
  (if Go.Rx.okSize (24 : Nat) ((0 : Nat) + List.length us) = Bool.true then
    if
        (Go.Rx.G.rd ((600000 : Int) + (100 : Int) * (0 : Int)) s && Go.Rx.G.nm e &&
            (Decidable.decide ((0 : Int) ≤ (0 : Int) ∧ (0 : Int) ≤ (7 : Int)) && Go.Rx.G.unitsD ((60 : Nat) + Int.toNat (0 : Int)) us)) =
          Bool.true then
      if (Go.Rx.G.dCloseL (s, e, [], us, (0 : Int), PUnit.unit)).1.1 = (0 : Nat) then
        Option.some ((Go.Rx.G.dCloseL (s, e, [], us, (0 : Int), PUnit.unit)).1.2.2.1, (Go.Rx.G.dCloseL (s, e, [], us, (0 : Int), PUnit.unit)).2)
      else
        if (Go.Rx.G.dCloseL (s, e, [], us, (0 : Int), PUnit.unit)).1.1 = (1 : Nat) then
          Option.some ((Go.Rx.G.dCloseL (s, e, [], us, (0 : Int), PUnit.unit)).1.2.1, (Go.Rx.G.dCloseL (s, e, [], us, (0 : Int), PUnit.unit)).2)
        else Option.none
    else Option.none
  else Option.none) := by kernel_rfl
/-! what is reached -/
def G.addOne (refs names : Strs) (k : Nat) : Strs := if G.hasS names (G.sAt refs k) = true then names else names ++ [(G.sAt refs k, ())]
theorem addOne_len (refs names : Strs) (k : Nat) : (G.addOne refs names k).length ≤ names.length + 1 := by
  unfold G.addOne
  split
  · omega
  · simp
/-! WalkL2: a gathering -/
def G.preWalkL2 (refs : Strs) (i : Int) (names : Strs) : Bool := G.preA (refs.length) i && (true && decide ((names.length : Int) ≤ 1048576 + i ∧ refs.length ≤ 1048576))
theorem preWalkL2_iff {refs : Strs} {i : Int} {names : Strs} : G.preWalkL2 refs i names = true ↔ (0 ≤ i ∧ i ≤ ((refs.length : Nat) : Int) ∧ (refs.length : Nat) ≤ 1099511627776) ∧ True ∧ decide ((names.length : Int) ≤ 1048576 + i ∧ refs.length ≤ 1048576) = true := by simp [G.preWalkL2, preA_iff]
def G.oneWalkL2 (refs : Strs) (a : Strs × Unit) (k : Nat) : Strs × Unit := (G.addOne refs a.1 k, ())
def G.fdWalkL2 (refs : Strs) (i : Int) (a : Strs × Unit) : Strs × Unit := G.fold (G.oneWalkL2 refs) (refs.length) i a
noncomputable abbrev lsWalkL2 : LSpec := ⟨[6, 13, 14], [6], [.c (.own strT), StrSP, IntP], [.c (.own strT)], false, fun x => G.preWalkL2 x.2.1 x.2.2.1 x.1,
  fun x => ((0, G.fdWalkL2 x.2.1 x.2.2.1 (x.1, ())), ())⟩
noncomputable abbrev clWalkL2 : Cx := mkCx T0 pd11 [(2, lsWalkL2)] [] 71
theorem rWalkL2 (names : Strs) (refs : Strs) (i : Int) : roundK clWalkL2 2 (loopIn Go.Proofs.Try.f42 2) lsWalkL2 (names, refs, i, ()) =
  (if Decidable.decide (i < (↑(List.length refs) : Int)) = Bool.true then
    if Decidable.decide ((0 : Int) ≤ i) = Bool.true then
      if Decidable.decide (i < (↑(List.length refs) : Int)) = Bool.true then
        if Go.Rx.G.few (List.length names) = Bool.true then
          if (!Go.Rx.G.hasS names (List.getD refs (Int.toNat i) (ByteArray.empty, PUnit.unit)).1) = Bool.true then
            if Decidable.decide ((0 : Int) ≤ i) = Bool.true then
              if Decidable.decide (i < (↑(List.length refs) : Int)) = Bool.true then
                if Go.Rx.okSize (16 : Nat) (List.length names + (1 : Nat)) = Bool.true then
                  Option.some
                    (Go.Rx.LRes.go
                      (names ++ [List.getD refs (Int.toNat i) (ByteArray.empty, PUnit.unit)], refs, Go.IntKind.wrap Go.IntKind.i64 (i + (1 : Int)), PUnit.unit))
                else Option.none
              else Option.none
            else Option.none
          else Option.some (Go.Rx.LRes.go (names, refs, Go.IntKind.wrap Go.IntKind.i64 (i + (1 : Int)), PUnit.unit))
        else Option.none
      else Option.none
    else Option.none
  else Option.some (Go.Rx.LRes.stop (0 : Nat) (names, PUnit.unit) PUnit.unit)) := by kernel_rfl
noncomputable abbrev muWalkL2 : PKs.den lsWalkL2.ins → Nat := fun x => (x.2.1.length) - x.2.2.1.toNat
theorem stWalkL2 (names : Strs) (refs : Strs) (i : Int) (h : G.preWalkL2 refs i names = true) : StepOk lsWalkL2 (eqInv lsWalkL2) muWalkL2 (names, refs, i, ()) (roundK clWalkL2 2 (loopIn Go.Proofs.Try.f42 2) lsWalkL2 (names, refs, i, ())) := by
  obtain ⟨⟨h0, h1, h2⟩, hn, hc⟩ := preWalkL2_iff.1 h
  rw [rWalkL2]
  by_cases hi : i < ((refs.length : Nat) : Int)
  · have hw : IntKind.i64.wrap (i + 1) = i + 1 := w64 (by omega) (by omega)
    have hs : G.fdWalkL2 refs i (names, ()) = G.fdWalkL2 refs (i + 1) (G.oneWalkL2 refs (names, ()) i.toNat) := fold_step h0 hi
    refine fold_go (eqInv lsWalkL2) muWalkL2 ((G.oneWalkL2 refs (names, ()) i.toNat).1, refs, i + 1, ()) ?_ (show G.preWalkL2 refs (i + 1) (G.oneWalkL2 refs (names, ()) i.toNat).1 = true from preWalkL2_iff.2 ⟨⟨by omega, by omega, h2⟩, trivial, ?_⟩) ?_ ?_
    · have hl := of_decide_eq_true hc
      rw [if_pos (decide_eq_true hi), if_pos (decide_eq_true h0), if_pos (decide_eq_true hi), if_pos (few_iff.2 (by omega)), hw, sAt_eq]
      unfold G.oneWalkL2 G.addOne
      cases hh : G.hasS names (G.sAt refs i.toNat) with
      | true => simp [hh]
      | false =>
        rw [if_pos (by rfl), if_pos (decide_eq_true h0), if_pos (decide_eq_true hi), if_pos (okSize_few (by omega) (by omega))]
        simp only [hh]
        rfl
    · have := addOne_len refs names i.toNat
      have hc := of_decide_eq_true hc
      exact decide_eq_true (show ((G.addOne refs names i.toNat).length : Int) ≤ 1048576 + (i + 1) ∧ refs.length ≤ 1048576 by omega)
    · show (refs.length) - (i + 1).toNat < (refs.length) - i.toNat
      omega
    · show ((_, _), _) = ((_, _), _)
      simp only [hs]
  · have hs : G.fdWalkL2 refs i (names, ()) = (names, ()) := fold_end (by omega)
    skip
    rw [if_neg (by simpa using hi)]
    show ((_, _), _) = ((_, _), _)
    simp only [hs]
theorem lpWalkL2 : LpOk Go.Proofs.Try.prog clWalkL2.ntmps 2 (loopIn Go.Proofs.Try.f42 2) lsWalkL2 :=
  lp_okB (cxOk T0_ok T0_eq pd11_ok) mixed (by kernel_rfl) (lps_none (by kernel_rfl)) (eqInv lsWalkL2) muWalkL2 (fun _ h => h) (fun x h => stWalkL2 x.1 x.2.1 x.2.2.1 h)
def G.addAll (refs names : Strs) : Strs := G.fold (G.addOne refs) refs.length 0 names
def G.walk (us : Units) : Nat → Strs → Funs → Nat → Funs × Bool
  | 0, _, out, _ => (out, true)
  | n + 1, names, out, i => if i < names.length then (if (G.at3 us (G.sAt names i)).2.2 = true then G.walk us n (G.addAll (G.refsOf (G.pAt (G.unitAt us (G.at3 us (G.sAt names i)).1.toNat) (G.at3 us (G.sAt names i)).2.1.toNat).2.2.1) names) (out ++ [G.pAt (G.unitAt us (G.at3 us (G.sAt names i)).1.toNat) (G.at3 us (G.sAt names i)).2.1.toNat]) (i + 1) else (out, false)) else (out, true)
def G.total (us : Units) : Nat := (us.map fun u => u.1.length).sum
def G.walkX (us : Units) (names : Strs) (out : Funs) (i : Nat) : Funs × Bool := G.walk us (G.total us + 1 - i) names out i
def G.wkPre (us : Units) (names : Strs) (out : Funs) (i : Int) : Bool := (G.fewU us && us.all (fun u => u.1.all (fun f => decide (f.2.2.1.length ≤ 16)))) && decide (G.total us ≤ 65536 ∧ 0 ≤ i ∧ i ≤ (names.length : Int) ∧ (out.length : Int) ≤ i ∧ (names.length : Int) ≤ 1 + 16 * i ∧ names.Nodup ∧ ∀ j, j < i.toNat → (G.at3 us (G.sAt names j)).2.2 = true)
noncomputable abbrev lsL4Walk : LSpec := ⟨[0, 4, 5, 6, 7, 8], [4, 5, 7], [UnitsSP, FunsO, BoolP, .c (.own strT), FunsO, IntP], [FunsO, BoolP, FunsO], true, fun x => G.wkPre x.1 x.2.2.2.1 x.2.2.2.2.1 x.2.2.2.2.2.1,
  fun x => ((if (G.walkX x.1 x.2.2.2.1 x.2.2.2.2.1 x.2.2.2.2.2.1.toNat).2 = true then 0 else 1, (if (G.walkX x.1 x.2.2.2.1 x.2.2.2.2.1 x.2.2.2.2.2.1.toNat).2 = true then x.2.1 else [], if (G.walkX x.1 x.2.2.2.1 x.2.2.2.2.1 x.2.2.2.2.2.1.toNat).2 = true then x.2.2.1 else false, (G.walkX x.1 x.2.2.2.1 x.2.2.2.2.1 x.2.2.2.2.2.1.toNat).1, ())), ())⟩
def G.thinU (us : Units) : Bool := (G.fewU us && us.all (fun u => u.1.all (fun f => decide (f.2.2.1.length ≤ 16)))) && decide (G.total us ≤ 65536)
def G.walkF (us : Units) (e : ByteArray) : Funs × Bool := G.walkX us [(e, ())] [] 0
noncomputable abbrev cxWalkL0 : Cx := mkCx T0 pd11 [(2, lsWalkL2)] [] 71
theorem rL4Walk (us : Units) (r4 : Funs) (r5 : Bool) (names : Strs) (out : Funs) (i : Int) : roundK cxWalkL0 0 (loopIn Go.Proofs.Try.f42 0) lsL4Walk (us, r4, r5, names, out, i, ()) =
  (if Decidable.decide (i < (↑(List.length names) : Int)) = Bool.true then
    if Decidable.decide ((0 : Int) ≤ i) = Bool.true then
      if Decidable.decide (i < (↑(List.length names) : Int)) = Bool.true then
        if Decidable.decide (Int.toNat i < List.length names) = Bool.true then
          if Go.Rx.G.fewU us = Bool.true then
            if (!(Go.Rx.G.at3 us (List.getD names (Int.toNat i) (ByteArray.empty, PUnit.unit)).1).2.2) = Bool.true then
              Option.some (Go.Rx.LRes.stop (1 : Nat) ([], Bool.false, out, PUnit.unit) PUnit.unit)
            else
              if Decidable.decide ((0 : Int) ≤ (Go.Rx.G.at3 us (List.getD names (Int.toNat i) (ByteArray.empty, PUnit.unit)).1).1) = Bool.true then
                if Decidable.decide ((Go.Rx.G.at3 us (List.getD names (Int.toNat i) (ByteArray.empty, PUnit.unit)).1).1 < (↑(List.length us) : Int)) = Bool.true then
                  if Decidable.decide ((0 : Int) ≤ (Go.Rx.G.at3 us (List.getD names (Int.toNat i) (ByteArray.empty, PUnit.unit)).1).2.1) = Bool.true then
                    if
                        Decidable.decide
                            ((Go.Rx.G.at3 us (List.getD names (Int.toNat i) (ByteArray.empty, PUnit.unit)).1).2.1 <
                              (↑(List.length (List.getD us (Int.toNat (Go.Rx.G.at3 us (List.getD names (Int.toNat i) (ByteArray.empty, PUnit.unit)).1).1) ([], PUnit.unit)).1) : Int)) =
                          Bool.true then
                      if Go.Rx.okSize (48 : Nat) (List.length out + (1 : Nat)) = Bool.true then
                        if
                            Go.Rx.G.few
                                (List.length
                                  (List.getD (List.getD us (Int.toNat (Go.Rx.G.at3 us (List.getD names (Int.toNat i) (ByteArray.empty, PUnit.unit)).1).1) ([], PUnit.unit)).1
                                          (Int.toNat (Go.Rx.G.at3 us (List.getD names (Int.toNat i) (ByteArray.empty, PUnit.unit)).1).2.1) (ByteArray.empty, Bool.false, [], PUnit.unit)).2.2.1) =
                              Bool.true then
                          if
                              Go.Rx.G.preWalkL2
                                  (Go.Rx.G.refsOf
                                    (List.getD (List.getD us (Int.toNat (Go.Rx.G.at3 us (List.getD names (Int.toNat i) (ByteArray.empty, PUnit.unit)).1).1) ([], PUnit.unit)).1
                                            (Int.toNat (Go.Rx.G.at3 us (List.getD names (Int.toNat i) (ByteArray.empty, PUnit.unit)).1).2.1) (ByteArray.empty, Bool.false, [], PUnit.unit)).2.2.1)
                                  (0 : Int) names =
                                Bool.true then
                            Option.some
                              (Go.Rx.LRes.go
                                (us, r4, r5,
                                  (Go.Rx.G.fdWalkL2
                                      (Go.Rx.G.refsOf
                                        (List.getD (List.getD us (Int.toNat (Go.Rx.G.at3 us (List.getD names (Int.toNat i) (ByteArray.empty, PUnit.unit)).1).1) ([], PUnit.unit)).1
                                                (Int.toNat (Go.Rx.G.at3 us (List.getD names (Int.toNat i) (ByteArray.empty, PUnit.unit)).1).2.1) (ByteArray.empty, Bool.false, [], PUnit.unit)).2.2.1)
                                      (0 : Int) (names, PUnit.unit)).1,
                                  out ++
                                    [List.getD (List.getD us (Int.toNat (Go.Rx.G.at3 us (List.getD names (Int.toNat i) (ByteArray.empty, PUnit.unit)).1).1) ([], PUnit.unit)).1
                                        (Int.toNat (Go.Rx.G.at3 us (List.getD names (Int.toNat i) (ByteArray.empty, PUnit.unit)).1).2.1) (ByteArray.empty, Bool.false, [], PUnit.unit)],
                                  Go.IntKind.wrap Go.IntKind.i64 (i + (1 : Int)), PUnit.unit))
                          else Option.none
                        else Option.none
                      else Option.none
                    else Option.none
                  else Option.none
                else Option.none
              else Option.none
          else Option.none
        else Option.none
      else Option.none
    else Option.none
  else Option.some (Go.Rx.LRes.stop (0 : Nat) (r4, r5, out, PUnit.unit) PUnit.unit)) := by kernel_rfl
/-! L4Walk -/
noncomputable abbrev spL4Walk : Spec := ⟨[UnitsSP, StrP], .tup [FunsO, BoolP], true, fun x => G.thinU x.1, fun x => ((if (G.walkF x.1 x.2.1).2 = true then (G.walkF x.1 x.2.1).1 else [], (G.walkF x.1 x.2.1).2, ()), ())⟩
noncomputable abbrev cxL4Walk : Cx := mkCx T0 pd11 [(0, lsL4Walk)] [] 71
theorem eL4Walk (us : Units) (e : ByteArray) : funK cxL4Walk Go.Proofs.Try.f42 spL4Walk.ins spL4Walk.out (us, e, ()) =
  (if Go.Rx.G.wkPre us [(e, PUnit.unit)] [] (0 : Int) = Bool.true then
    if (if (Go.Rx.G.walkX us [(e, PUnit.unit)] [] (Int.toNat (0 : Int))).2 = Bool.true then (0 : Nat) else (1 : Nat)) = (0 : Nat) then
      Option.some (((Go.Rx.G.walkX us [(e, PUnit.unit)] [] (Int.toNat (0 : Int))).1, Bool.true, PUnit.unit), PUnit.unit)
    else
      if (if (Go.Rx.G.walkX us [(e, PUnit.unit)] [] (Int.toNat (0 : Int))).2 = Bool.true then (0 : Nat) else (1 : Nat)) = (1 : Nat) then
        Option.some
          ((if (Go.Rx.G.walkX us [(e, PUnit.unit)] [] (Int.toNat (0 : Int))).2 = Bool.true then [] else [],
              if (Go.Rx.G.walkX us [(e, PUnit.unit)] [] (Int.toNat (0 : Int))).2 = Bool.true then Bool.false else Bool.false, PUnit.unit),
            PUnit.unit)
      else Option.none
  else Option.none) := by kernel_rfl
/-! units closed: proofs -/
abbrev CloseX := PKs.den [RdP, StrP, UnitsSP, UnitsO, IntP]
def CloseInv (x : CloseX) : Prop := (G.rd (600000 + 100 * x.2.2.2.2.1) x.1 = true ∧ G.nm x.2.1 = true) ∧ (0 ≤ x.2.2.2.2.1 ∧ x.2.2.2.2.1 ≤ 7) ∧ G.unitsD (60 + x.2.2.2.2.1.toNat) x.2.2.2.1 = true
def ClosePost (x : CloseX) (r : (Nat × PKs.den [UnitsSP, UnitsSP]) × Bxs.den [RdP, StrP, UnitsSP, UnitsO, IntP]) : Prop := (r.1.1 = 0 ∨ r.1.1 = 1) ∧ Adv (100 * (7 - x.2.2.2.2.1)) x.1 r.2.1 ∧ (r.1.1 = 0 → G.unitsD 67 r.1.2.2.1 = true) ∧ (r.1.1 = 1 → G.unitsD 67 r.1.2.1 = true)
theorem stCloseL (s : RdS) (e : ByteArray) (r6 out : Units) (n : Int) (h : CloseInv (s, e, r6, out, n, ())) : EpsOk CloseInv (fun x => (7 - x.2.2.2.2.1).toNat) ClosePost (s, e, r6, out, n, ()) (roundK cxCloseL 0 (loopIn Go.Proofs.Try.f105 0) ls0CloseL (s, e, r6, out, n, ())) := by
  obtain ⟨⟨h1, h2⟩, ⟨h3, h4⟩, h5⟩ := h
  have h1 : G.rd (600000 + 100 * n) s = true := h1
  have h2 : G.nm e = true := h2
  have h3 : 0 ≤ n := h3
  have h4 : n ≤ 7 := h4
  have h5 : G.unitsD (60 + n.toNat) out = true := h5
  have hul := (unitsD_iff.1 h5).1
  rw [rCloseL]
  by_cases hn : n < 7
  · have hp : (G.unitsD 100 out && G.nm e) = true := by rw [Bool.and_eq_true]; exact ⟨unitsD_le h5 (by omega), h2⟩
    rw [if_pos (decide_eq_true hn), if_pos hp, w64 (by omega) (by omega)]
    obtain ⟨_, w1, w2⟩ := postL3Wants (out, e, ()) hp
    generalize (G.dL3Wants (out, e, ())).1 = ws at w1 w2 ⊢
    have w1 : ws.length ≤ 1000000 := w1
    have w2 : G.allNm ws = true := w2
    by_cases hw : (ws.length : Int) = 0
    · rw [if_pos (decide_eq_true hw)]
      exact ⟨.inr rfl, (Adv.refl s).le (by show 0 ≤ 100 * (7 - n); omega), fun e => absurd (show (1 : Nat) = 0 from e) (by decide), fun _ => unitsD_le h5 (by omega)⟩
    · have hr := rd_le h1 (show 600000 + 100 * n ≤ 900000 by omega)
      have hw0 : (0 : Int) < (ws.length : Int) := by omega
      have hw1 : Int.toNat 0 < ws.length := by simp; omega
      have hok : Go.Rx.okSize 24 (out.length + 1) = true := okSize_few (by omega) (by omega)
      have hnm := allNm_at w2 hw1
      rw [if_neg (by simpa using hw), if_pos (by decide), if_pos (decide_eq_true hw0), if_pos (decide_eq_true hw1), if_pos hr]
      obtain ⟨_, a1, a2, a3, a4⟩ := postL2Fun (s, ws.getD (Int.toNat 0) (ByteArray.empty, ())) hr
      generalize G.dL2Fun (s, ws.getD (Int.toNat 0) (ByteArray.empty, ())) = f at a1 a2 a3 a4 ⊢
      have a2 : f.1.1 = G.sAt ws (Int.toNat 0) := a2
      have key : ∀ x : Fun, G.funD x = true → EpsOk CloseInv (fun x => (7 - x.2.2.2.2.1).toNat) ClosePost (s, e, r6, out, n, ()) (some (LRes.go (f.2.1, e, r6, out ++ [([x], ())], n + 1, ()))) := fun x hx => by
        refine ⟨⟨⟨rd_le (a1.rd h1) (by show 600000 + 100 * n + 40 ≤ 600000 + 100 * (n + 1); omega), h2⟩, ⟨by show 0 ≤ n + 1; omega, by show n + 1 ≤ 7; omega⟩, ?_⟩, ?_, ?_⟩
        · have := unitsD_snoc (x := [x]) h5 (by simp) (by unfold G.funsD; simp [hx])
          have e1 : 60 + n.toNat + 1 = 60 + (n + 1).toNat := by omega
          rw [e1] at this
          exact this
        · show (7 - (n + 1)).toNat < (7 - n).toNat
          omega
        · rintro r ⟨r1, r2, r3, r4⟩
          exact ⟨r1, (a1.trans r2).le (by show 40 + 100 * (7 - (n + 1)) ≤ 100 * (7 - n); omega), r3, r4⟩
      have k1 : G.funD (((ws.getD (Int.toNat 0) (ByteArray.empty, ())).1, false, [((6 : Int), (0 : Int), ByteArray.empty, ())], ()) : Fun) = true := (funD_iff _).2 ⟨hnm, ⟨by show 1 ≤ 1; omega, by show 1 ≤ 8; omega⟩, by kernel_rfl⟩
      have k2 : G.funD f.1 = true := (funD_iff _).2 ⟨by rw [a2]; exact hnm, a3, a4⟩
      by_cases h3n : n > 3
      · rw [if_pos (decide_eq_true h3n), if_pos (by decide), if_pos (decide_eq_true hw0), if_pos (decide_eq_true hw1), if_pos hok]
        exact key _ k1
      · rw [if_neg (by simpa using h3n), if_pos hok]
        exact key _ k2
  · rw [if_neg (by simpa using hn)]
    exact ⟨.inl rfl, (Adv.refl s).le (by show 0 ≤ 100 * (7 - n); omega), fun _ => unitsD_le h5 (by omega), fun e => absurd (show (0 : Nat) = 1 from e) (by decide)⟩
theorem inv_close {x : CloseX} (h : ((G.rd (600000 + 100 * x.2.2.2.2.1) x.1 && G.nm x.2.1) && (decide (0 ≤ x.2.2.2.2.1 ∧ x.2.2.2.2.1 ≤ 7) && G.unitsD (60 + x.2.2.2.2.1.toNat) x.2.2.2.1)) = true) : CloseInv x := by
  rw [Bool.and_eq_true, Bool.and_eq_true, Bool.and_eq_true, decide_eq_true_iff] at h
  exact h
theorem epsCloseL (x : PKs.den [RdP, StrP, UnitsSP, UnitsO, IntP]) (h : CloseInv x) : (∃ k, iter (roundK cxCloseL 0 (loopIn Go.Proofs.Try.f105 0) ls0CloseL) k x = some (G.dCloseL x)) ∧ ClosePost x (G.dCloseL x) := eps_ok (inv := CloseInv) (μ := (fun x => (7 - x.2.2.2.2.1).toNat)) (Post := ClosePost) (fun x h => stCloseL x.1 x.2.1 x.2.2.1 x.2.2.2.1 x.2.2.2.2.1 h) x h
theorem lpCloseL : LpOk Go.Proofs.Try.prog cxCloseL.ntmps 0 (loopIn Go.Proofs.Try.f105 0) lsCloseL :=
  lp_eps (cx := cxCloseL) (cxOk T0_ok T0_eq pd11_ok) mixed (by kernel_rfl) (lps_none (by kernel_rfl)) (inv := CloseInv) (μ := (fun x => (7 - x.2.2.2.2.1).toNat)) (Post := ClosePost) (fun x h => inv_close h) (fun x h => stCloseL x.1 x.2.1 x.2.2.1 x.2.2.2.1 x.2.2.2.2.1 h) (fun _ => rfl)
def ClosedPost (x : PKs.den [RdP, UnitsSP, StrP]) (r : RK.den (.one UnitsSP) × Bxs.den [RdP, UnitsSP, StrP]) : Prop := Adv 700 x.1 r.2.1 ∧ G.unitsD 67 r.1 = true
theorem sfL4Close (s : RdS) (us : Units) (e : ByteArray) (h : (G.rd 600000 s && (G.unitsD 60 us && G.nm e)) = true) : ∃ r, funK cxL4Close Go.Proofs.Try.f105 [RdP, UnitsSP, StrP] (.one UnitsSP) (s, us, e, ()) = some r ∧ ClosedPost (s, us, e, ()) r := by
  rw [Bool.and_eq_true, Bool.and_eq_true] at h
  obtain ⟨h1, h2, h3⟩ := h
  have hul := (unitsD_iff.1 h2).1
  have hp : ((G.rd (600000 + 100 * 0) s && G.nm e) && (decide ((0 : Int) ≤ 0 ∧ (0 : Int) ≤ 7) && G.unitsD (60 + Int.toNat 0) us)) = true := by
    rw [Bool.and_eq_true, Bool.and_eq_true, Bool.and_eq_true, decide_eq_true_iff]
    exact ⟨⟨h1, h3⟩, ⟨by omega, by omega⟩, h2⟩
  rw [eL4Close, if_pos (okSize_few (by omega) (by omega)), if_pos hp]
  obtain ⟨_, b1, b2, b3, b4⟩ := epsCloseL (s, e, [], us, 0, ()) (inv_close hp)
  generalize G.dCloseL (s, e, [], us, 0, ()) = q at b1 b2 b3 b4 ⊢
  have b2 : Adv (100 * (7 - 0)) s q.2.1 := b2
  rcases b1 with b1 | b1
  · rw [if_pos b1]
    exact ⟨_, rfl, b2.le (by omega), b3 b1⟩
  · rw [if_neg (by rw [b1]; decide), if_pos b1]
    exact ⟨_, rfl, b2.le (by omega), b4 b1⟩
theorem postL4Close (x : PKs.den [RdP, UnitsSP, StrP]) (h : (G.rd 600000 x.1 && (G.unitsD 60 x.2.1 && G.nm x.2.2.1)) = true) : funK cxL4Close Go.Proofs.Try.f105 [RdP, UnitsSP, StrP] (.one UnitsSP) x = some (G.dL4Close x) ∧ ClosedPost x (G.dL4Close x) := val_of (sfL4Close x.1 x.2.1 x.2.2.1 h)
theorem okL4Close : SpecOk Go.Proofs.Try.prog 105 spL4Close :=
  fun_okB (cx := cxL4Close) (F := Go.Proofs.Try.f105) (cxOk T0_ok T0_eq pd11_ok) mixed (by kernel_rfl) (by decide) (by kernel_rfl) (lps_of (l := [(0, loopIn Go.Proofs.Try.f105 0)]) (by kernel_rfl) ⟨lp_at lpCloseL rfl, trivial⟩) (fun x h => (postL4Close x h).1)
end Go.Rx

/-
  THE LAW on calls of programs: a call returns to where it came from.
-/
import Derived.Test.YtjnbmbhkgapcfaaGa
namespace Go.Rx
open Go
set_option linter.unusedVariables false
set_option linter.unusedSimpArgs false
/-! DrawSum -/
noncomputable abbrev cxDrawSum : Cx := mkCx T0 pd2 [] [] 17
noncomputable def G.dDrawSum (x : PKs.den [BytesP]) : RK.den (.tup [IntP, IntP]) × Bxs.den [BytesP] := G.val (funK cxDrawSum Go.Proofs.Try.f10 [BytesP] (.tup [IntP, IntP]) x)
noncomputable abbrev spDrawSum : Spec := ⟨[BytesP], .tup [IntP, IntP], true, fun x => x.1.all G.byteOk, fun x => G.dDrawSum x⟩
theorem eDrawSum (c : Bytes) : funK cxDrawSum Go.Proofs.Try.f10 [BytesP] (.tup [IntP, IntP]) (c, ()) =
  (if (Go.Rx.G.rd (999999 : Int) (List.take (2000 : Nat) c, (0 : Int), PUnit.unit) && Decidable.decide ((1 : Nat) ≤ (9 : Nat) ∧ (9 : Nat) ≤ (1000 : Nat))) = Bool.true then
    if
        (Go.Rx.G.rd (999999 : Int)
              (Go.Rx.G.dNum
                    ((List.take (2000 : Nat) c, (0 : Int), PUnit.unit),
                      [((0 : Int), PUnit.unit), ((1 : Int), PUnit.unit), ((-1 : Int), PUnit.unit), ((7 : Int), PUnit.unit), ((1000 : Int), PUnit.unit), ((-1000 : Int), PUnit.unit), ((1001 : Int), PUnit.unit),
                        ((9223372036854775807 : Int), PUnit.unit), ((-9223372036854775808 : Int), PUnit.unit)],
                      PUnit.unit)).2.1 &&
            Decidable.decide ((1 : Nat) ≤ (9 : Nat) ∧ (9 : Nat) ≤ (1000 : Nat))) =
          Bool.true then
      Option.some
        (((Go.Rx.G.dNum
                ((List.take (2000 : Nat) c, (0 : Int), PUnit.unit),
                  [((0 : Int), PUnit.unit), ((1 : Int), PUnit.unit), ((-1 : Int), PUnit.unit), ((7 : Int), PUnit.unit), ((1000 : Int), PUnit.unit), ((-1000 : Int), PUnit.unit), ((1001 : Int), PUnit.unit),
                    ((9223372036854775807 : Int), PUnit.unit), ((-9223372036854775808 : Int), PUnit.unit)],
                  PUnit.unit)).1,
            (Go.Rx.G.dNum
                ((Go.Rx.G.dNum
                        ((List.take (2000 : Nat) c, (0 : Int), PUnit.unit),
                          [((0 : Int), PUnit.unit), ((1 : Int), PUnit.unit), ((-1 : Int), PUnit.unit), ((7 : Int), PUnit.unit), ((1000 : Int), PUnit.unit), ((-1000 : Int), PUnit.unit), ((1001 : Int), PUnit.unit),
                            ((9223372036854775807 : Int), PUnit.unit), ((-9223372036854775808 : Int), PUnit.unit)],
                          PUnit.unit)).2.1,
                  [((0 : Int), PUnit.unit), ((1 : Int), PUnit.unit), ((-1 : Int), PUnit.unit), ((7 : Int), PUnit.unit), ((1000 : Int), PUnit.unit), ((-1000 : Int), PUnit.unit), ((1001 : Int), PUnit.unit),
                    ((9223372036854775807 : Int), PUnit.unit), ((-9223372036854775808 : Int), PUnit.unit)],
                  PUnit.unit)).1,
            PUnit.unit),
          PUnit.unit)
    else Option.none
  else Option.none) := by kernel_rfl
abbrev G.sumList : Ints := [((0 : Int), ()), (1, ()), (-1, ()), (7, ()), (1000, ()), (-1000, ()), (1001, ()), (9223372036854775807, ()), (-9223372036854775808, ())]
theorem sfDrawSum (c : Bytes) (h : c.all G.byteOk = true) : ∃ r, funK cxDrawSum Go.Proofs.Try.f10 [BytesP] (.tup [IntP, IntP]) (c, ()) = some r ∧ True := by
  have h0 := open_rd h
  have h1 : (G.rd 999999 (c.take 2000, 0, ()) && decide (1 ≤ G.sumList.length ∧ G.sumList.length ≤ 1000)) = true := by
    rw [Bool.and_eq_true]
    exact ⟨rd_le h0 (by omega), by decide⟩
  obtain ⟨_, a1, _⟩ := postNum ((c.take 2000, 0, ()), G.sumList, ()) h1
  rw [eDrawSum]
  refine ⟨_, (if_pos h1).trans (if_pos ?_), trivial⟩
  rw [Bool.and_eq_true]
  exact ⟨rd_le (a1.rd h0) (by omega), by decide⟩
theorem postDrawSum (x : PKs.den [BytesP]) (h : (x.1.all G.byteOk) = true) : funK cxDrawSum Go.Proofs.Try.f10 [BytesP] (.tup [IntP, IntP]) x = some (G.dDrawSum x) ∧ (fun _ _ => True) x (G.dDrawSum x) := val_of (sfDrawSum x.1 h)
theorem okDrawSum : SpecOk Go.Proofs.Try.prog 10 spDrawSum :=
  fun_okB (cx := cxDrawSum) (F := Go.Proofs.Try.f10) (cxOk T0_ok T0_eq pd2_ok) mixed (by kernel_rfl) (by decide) (by kernel_rfl) (lps_none (by kernel_rfl)) (fun x h => (postDrawSum x h).1)
noncomputable abbrev pd3 : List (Nat × List Spec) := (10, [spDrawSum]) :: (11, [spInsSum]) :: (12, [spKeepOk]) :: pd2
theorem pd3_ok : PhiOk Go.Proofs.Try.prog pd3 := ⟨⟨okDrawSum, trivial⟩, ⟨okInsSum, trivial⟩, ⟨okKeepOk, trivial⟩, pd2_ok⟩
abbrev G.sShow : ByteArray := G.B [115, 104, 111, 119]
def G.progL (a : Int) : Funs := [(G.sMain, false, [(2, a, ByteArray.empty, ()), (3, 0, G.sShow, ()), (7, 0, ByteArray.empty, ())], ()), (G.sShow, false, [(1, 0, ByteArray.empty, ()), (6, 0, ByteArray.empty, ())], ())]
theorem keepL (a : Int) (h : -1000 ≤ a ∧ a ≤ 1000) : G.keepOk (G.progL a) = true := by
  refine (keepOk_iff _).2 ⟨⟨by show 1 ≤ 2; omega, by show 2 ≤ 40; omega⟩, (funsOk_iff _).2 fun k hk => ?_, by kernel_rfl⟩
  have hk : k < 2 := hk
  match k, hk with
  | 0, _ =>
    refine ⟨(funOk_iff _).2 ⟨by kernel_rfl, ⟨by show 1 ≤ 3; omega, by show 3 ≤ 10; omega⟩, fun j hj => ?_, by kernel_rfl⟩, by kernel_rfl⟩
    have hj : j < 3 := hj
    match j, hj with
    | 0, _ =>
      show G.insOk ((2 : Int), a, ByteArray.empty, ()) = true
      unfold G.insOk
      rw [if_neg (by show ¬ ((2 : Int) = 1 ∨ (2 : Int) = 6 ∨ (2 : Int) = 7); omega), if_pos rfl, Bool.and_eq_true, decide_eq_true_iff, decide_eq_true_iff]
      exact ⟨h, rfl⟩
    | 1, _ =>
      show G.insOk ((3 : Int), (0 : Int), G.sShow, ()) = true
      kernel_rfl
    | 2, _ =>
      show G.insOk ((7 : Int), (0 : Int), ByteArray.empty, ()) = true
      kernel_rfl
  | 1, _ => exact ⟨by kernel_rfl, by kernel_rfl⟩
theorem run4 (a : Int) : G.runM (G.progL a) 4 G.zeroM = (0, 2, G.sum 0 a, [], [(G.sum 0 a, ())], 0, ()) := by kernel_rfl
theorem run5 (a : Int) (k : Nat) : G.runM (G.progL a) (5 + k) G.zeroM = (0, 2, G.sum 0 a, [], [(G.sum 0 a, ())], 1, ()) := by
  have : ∀ n m j, G.runM (G.progL a) (n + j) m = G.runM (G.progL a) j (G.runM (G.progL a) n m) := by
    intro n
    induction n with
    | zero =>
      intro m j
      rw [Nat.zero_add]
      rfl
    | succ n ih =>
      intro m j
      rw [show n + 1 + j = (n + j) + 1 by omega, runM_succ, runM_succ]
      by_cases h : m.2.2.2.2.2.1 = 0
      · rw [if_pos h, if_pos h, ih]
      · rw [if_neg h, if_neg h, runM_done h]
  rw [this 5]
  have e : G.runM (G.progL a) 5 G.zeroM = (0, 2, G.sum 0 a, [], [(G.sum 0 a, ())], 1, ()) := by kernel_rfl
  rw [e, runM_done (by show ¬ (1 : Int) = 0; omega)]
theorem smallL_ok (a : Int) : G.smallP (G.progL a) = true := by kernel_rfl
theorem sum_range (n : Int) : -1000 ≤ G.sum n 0 ∧ G.sum n 0 ≤ 1000 := by
  unfold G.sum G.cut
  split <;> split <;> omega
theorem sum_id {a : Int} (h : -1000 ≤ a ∧ a ≤ 1000) : G.sum 0 a = a := by
  unfold G.sum
  rw [(cut_iff a).2 h, (cut_iff 0).2 (by omega), Int.zero_add, (cut_iff a).2 h]
/-! LawMachLeaf -/
noncomputable abbrev spLawMachLeaf : Spec := ⟨[BytesP, BytesP], BoolR, false, fun x => x.1.all G.byteOk && decide (x.2.1.length ≤ 9223372036854775807), fun x => (true, ())⟩
noncomputable abbrev cxLawMachLeaf : Cx := mkCx T0 pd3 [] [] 101
theorem eLawMachLeaf (c d : Bytes) : funK cxLawMachLeaf Go.Proofs.Try.f4 spLawMachLeaf.ins spLawMachLeaf.out (c, d, ()) =
  (if Decidable.decide ((↑(List.length c) : Int) > (1048576 : Int)) = Bool.false then
    if Decidable.decide ((↑(List.length d) : Int) > (1048576 : Int)) = Bool.true then Option.some (Bool.true, PUnit.unit)
    else
      if List.all c Go.Rx.G.byteOk = Bool.true then
        if
            Go.Rx.G.smallP
                [((Go.Rx.G.B [109, 97, 105, 110]),
                    Bool.false,
                    [((2 : Int), Go.Rx.G.sum (Go.Rx.G.dDrawSum (c, PUnit.unit)).1.2.1 (0 : Int), ByteArray.empty, PUnit.unit),
                      ((3 : Int), (0 : Int),
                        (Go.Rx.G.B [115, 104, 111, 119]),
                        PUnit.unit),
                      ((7 : Int), (0 : Int), ByteArray.empty, PUnit.unit)],
                    PUnit.unit),
                  ((Go.Rx.G.B [115, 104, 111, 119]),
                    Bool.false, [((1 : Int), (0 : Int), ByteArray.empty, PUnit.unit), ((6 : Int), (0 : Int), ByteArray.empty, PUnit.unit)], PUnit.unit)] =
              Bool.true then
          if
              Go.Rx.G.smallP
                  [((Go.Rx.G.B [109, 97, 105, 110]),
                      Bool.false,
                      [((2 : Int), Go.Rx.G.sum (Go.Rx.G.dDrawSum (c, PUnit.unit)).1.2.1 (0 : Int), ByteArray.empty, PUnit.unit),
                        ((3 : Int), (0 : Int),
                          (Go.Rx.G.B [115, 104, 111, 119]),
                          PUnit.unit),
                        ((7 : Int), (0 : Int), ByteArray.empty, PUnit.unit)],
                      PUnit.unit),
                    ((Go.Rx.G.B [115, 104, 111, 119]),
                      Bool.false, [((1 : Int), (0 : Int), ByteArray.empty, PUnit.unit), ((6 : Int), (0 : Int), ByteArray.empty, PUnit.unit)], PUnit.unit)] =
                Bool.true then
            if
                Go.Rx.G.fewMach
                    (Go.Rx.G.machRun
                      [((Go.Rx.G.B [109, 97, 105, 110]),
                          Bool.false,
                          [((2 : Int), Go.Rx.G.sum (Go.Rx.G.dDrawSum (c, PUnit.unit)).1.2.1 (0 : Int), ByteArray.empty, PUnit.unit),
                            ((3 : Int), (0 : Int),
                              (Go.Rx.G.B [115, 104, 111, 119]),
                              PUnit.unit),
                            ((7 : Int), (0 : Int), ByteArray.empty, PUnit.unit)],
                          PUnit.unit),
                        ((Go.Rx.G.B [115, 104, 111, 119]),
                          Bool.false, [((1 : Int), (0 : Int), ByteArray.empty, PUnit.unit), ((6 : Int), (0 : Int), ByteArray.empty, PUnit.unit)], PUnit.unit)]
                      (4 : Int)) =
                  Bool.true then
              if
                  (!Go.Rx.G.sameM
                        (Go.Rx.G.machRun
                          [((Go.Rx.G.B [109, 97, 105, 110]),
                              Bool.false,
                              [((2 : Int), Go.Rx.G.sum (Go.Rx.G.dDrawSum (c, PUnit.unit)).1.2.1 (0 : Int), ByteArray.empty, PUnit.unit),
                                ((3 : Int), (0 : Int),
                                  (Go.Rx.G.B [115, 104, 111, 119]),
                                  PUnit.unit),
                                ((7 : Int), (0 : Int), ByteArray.empty, PUnit.unit)],
                              PUnit.unit),
                            ((Go.Rx.G.B [115, 104, 111, 119]),
                              Bool.false, [((1 : Int), (0 : Int), ByteArray.empty, PUnit.unit), ((6 : Int), (0 : Int), ByteArray.empty, PUnit.unit)], PUnit.unit)]
                          (4 : Int))
                        (Go.Rx.G.machRun
                          [((Go.Rx.G.B [109, 97, 105, 110]),
                              Bool.false,
                              [((2 : Int), Go.Rx.G.sum (Go.Rx.G.dDrawSum (c, PUnit.unit)).1.2.1 (0 : Int), ByteArray.empty, PUnit.unit),
                                ((3 : Int), (0 : Int),
                                  (Go.Rx.G.B [115, 104, 111, 119]),
                                  PUnit.unit),
                                ((7 : Int), (0 : Int), ByteArray.empty, PUnit.unit)],
                              PUnit.unit),
                            ((Go.Rx.G.B [115, 104, 111, 119]),
                              Bool.false, [((1 : Int), (0 : Int), ByteArray.empty, PUnit.unit), ((6 : Int), (0 : Int), ByteArray.empty, PUnit.unit)], PUnit.unit)]
                          (4 : Int))) =
                    Bool.false then
                if
                    Go.Rx.G.smallP
                        [((Go.Rx.G.B [109, 97, 105, 110]),
                            Bool.false,
                            [((2 : Int), Go.Rx.G.sum (Go.Rx.G.dDrawSum (c, PUnit.unit)).1.2.1 (0 : Int), ByteArray.empty, PUnit.unit),
                              ((3 : Int), (0 : Int),
                                (Go.Rx.G.B [115, 104, 111, 119]),
                                PUnit.unit),
                              ((7 : Int), (0 : Int), ByteArray.empty, PUnit.unit)],
                            PUnit.unit),
                          ((Go.Rx.G.B [115, 104, 111, 119]),
                            Bool.false, [((1 : Int), (0 : Int), ByteArray.empty, PUnit.unit), ((6 : Int), (0 : Int), ByteArray.empty, PUnit.unit)], PUnit.unit)] =
                      Bool.true then
                  if
                      (!Go.Rx.G.keepOk
                            [((Go.Rx.G.B [109, 97, 105, 110]),
                                Bool.false,
                                [((2 : Int), Go.Rx.G.sum (Go.Rx.G.dDrawSum (c, PUnit.unit)).1.2.1 (0 : Int), ByteArray.empty, PUnit.unit),
                                  ((3 : Int), (0 : Int),
                                    (Go.Rx.G.B [115, 104, 111, 119]),
                                    PUnit.unit),
                                  ((7 : Int), (0 : Int), ByteArray.empty, PUnit.unit)],
                                PUnit.unit),
                              ((Go.Rx.G.B [115, 104, 111, 119]),
                                Bool.false, [((1 : Int), (0 : Int), ByteArray.empty, PUnit.unit), ((6 : Int), (0 : Int), ByteArray.empty, PUnit.unit)], PUnit.unit)]) =
                        Bool.true then
                    Option.some (Bool.false, PUnit.unit)
                  else
                    if
                        (!(Decidable.decide
                                ((Go.Rx.G.machRun
                                      [((Go.Rx.G.B [109, 97, 105, 110]),
                                          Bool.false,
                                          [((2 : Int), Go.Rx.G.sum (Go.Rx.G.dDrawSum (c, PUnit.unit)).1.2.1 (0 : Int), ByteArray.empty, PUnit.unit),
                                            ((3 : Int), (0 : Int),
                                              (Go.Rx.G.B [115, 104, 111, 119]),
                                              PUnit.unit),
                                            ((7 : Int), (0 : Int), ByteArray.empty, PUnit.unit)],
                                          PUnit.unit),
                                        ((Go.Rx.G.B [115, 104, 111, 119]),
                                          Bool.false, [((1 : Int), (0 : Int), ByteArray.empty, PUnit.unit), ((6 : Int), (0 : Int), ByteArray.empty, PUnit.unit)], PUnit.unit)]
                                      (4 : Int)).1 =
                                  (0 : Int)) &&
                              (Decidable.decide
                                  ((Go.Rx.G.machRun
                                          [((Go.Rx.G.B [109, 97, 105, 110]),
                                              Bool.false,
                                              [((2 : Int), Go.Rx.G.sum (Go.Rx.G.dDrawSum (c, PUnit.unit)).1.2.1 (0 : Int), ByteArray.empty, PUnit.unit),
                                                ((3 : Int), (0 : Int),
                                                  (Go.Rx.G.B [115, 104, 111, 119]),
                                                  PUnit.unit),
                                                ((7 : Int), (0 : Int), ByteArray.empty, PUnit.unit)],
                                              PUnit.unit),
                                            ((Go.Rx.G.B [115, 104, 111, 119]),
                                              Bool.false, [((1 : Int), (0 : Int), ByteArray.empty, PUnit.unit), ((6 : Int), (0 : Int), ByteArray.empty, PUnit.unit)], PUnit.unit)]
                                          (4 : Int)).2.1 =
                                    (2 : Int)) &&
                                Bool.true))) =
                          Bool.false then
                      if
                          (!Decidable.decide
                                ((↑(List.length
                                        (Go.Rx.G.machRun
                                                  [((Go.Rx.G.B [109, 97, 105, 110]),
                                                      Bool.false,
                                                      [((2 : Int), Go.Rx.G.sum (Go.Rx.G.dDrawSum (c, PUnit.unit)).1.2.1 (0 : Int), ByteArray.empty, PUnit.unit),
                                                        ((3 : Int), (0 : Int),
                                                          (Go.Rx.G.B [115, 104, 111, 119]),
                                                          PUnit.unit),
                                                        ((7 : Int), (0 : Int), ByteArray.empty, PUnit.unit)],
                                                      PUnit.unit),
                                                    ((Go.Rx.G.B [115, 104, 111, 119]),
                                                      Bool.false, [((1 : Int), (0 : Int), ByteArray.empty, PUnit.unit), ((6 : Int), (0 : Int), ByteArray.empty, PUnit.unit)], PUnit.unit)]
                                                  (4 : Int)).2.2.2.1) :
                                    Int) =
                                  (0 : Int))) =
                            Bool.false then
                        if
                            (!Decidable.decide
                                  ((↑(List.length
                                          (Go.Rx.G.machRun
                                                      [((Go.Rx.G.B [109, 97, 105, 110]),
                                                          Bool.false,
                                                          [((2 : Int), Go.Rx.G.sum (Go.Rx.G.dDrawSum (c, PUnit.unit)).1.2.1 (0 : Int), ByteArray.empty, PUnit.unit),
                                                            ((3 : Int), (0 : Int),
                                                              (Go.Rx.G.B [115, 104, 111, 119]),
                                                              PUnit.unit),
                                                            ((7 : Int), (0 : Int), ByteArray.empty, PUnit.unit)],
                                                          PUnit.unit),
                                                        ((Go.Rx.G.B [115, 104, 111, 119]),
                                                          Bool.false, [((1 : Int), (0 : Int), ByteArray.empty, PUnit.unit), ((6 : Int), (0 : Int), ByteArray.empty, PUnit.unit)], PUnit.unit)]
                                                      (4 : Int)).2.2.2.2.1) :
                                      Int) =
                                    (1 : Int))) =
                              Bool.false then
                          if Decidable.decide ((0 : Int) ≤ (0 : Int)) = Bool.true then
                            if
                                Decidable.decide
                                    ((0 : Int) <
                                      (↑(List.length
                                            (Go.Rx.G.machRun
                                                        [((Go.Rx.G.B [109, 97, 105, 110]),
                                                            Bool.false,
                                                            [((2 : Int), Go.Rx.G.sum (Go.Rx.G.dDrawSum (c, PUnit.unit)).1.2.1 (0 : Int), ByteArray.empty, PUnit.unit),
                                                              ((3 : Int), (0 : Int),
                                                                (Go.Rx.G.B [115, 104, 111, 119]),
                                                                PUnit.unit),
                                                              ((7 : Int), (0 : Int), ByteArray.empty, PUnit.unit)],
                                                            PUnit.unit),
                                                          ((Go.Rx.G.B [115, 104, 111, 119]),
                                                            Bool.false, [((1 : Int), (0 : Int), ByteArray.empty, PUnit.unit), ((6 : Int), (0 : Int), ByteArray.empty, PUnit.unit)], PUnit.unit)]
                                                        (4 : Int)).2.2.2.2.1) :
                                        Int)) =
                                  Bool.true then
                              if
                                  Decidable.decide
                                      (Int.toNat (0 : Int) <
                                        List.length
                                          (Go.Rx.G.machRun
                                                      [((Go.Rx.G.B [109, 97, 105, 110]),
                                                          Bool.false,
                                                          [((2 : Int), Go.Rx.G.sum (Go.Rx.G.dDrawSum (c, PUnit.unit)).1.2.1 (0 : Int), ByteArray.empty, PUnit.unit),
                                                            ((3 : Int), (0 : Int),
                                                              (Go.Rx.G.B [115, 104, 111, 119]),
                                                              PUnit.unit),
                                                            ((7 : Int), (0 : Int), ByteArray.empty, PUnit.unit)],
                                                          PUnit.unit),
                                                        ((Go.Rx.G.B [115, 104, 111, 119]),
                                                          Bool.false, [((1 : Int), (0 : Int), ByteArray.empty, PUnit.unit), ((6 : Int), (0 : Int), ByteArray.empty, PUnit.unit)], PUnit.unit)]
                                                      (4 : Int)).2.2.2.2.1) =
                                    Bool.true then
                                if
                                    (!Decidable.decide
                                          ((List.getD
                                                (Go.Rx.G.machRun
                                                            [((Go.Rx.G.B [109, 97, 105, 110]),
                                                                Bool.false,
                                                                [((2 : Int), Go.Rx.G.sum (Go.Rx.G.dDrawSum (c, PUnit.unit)).1.2.1 (0 : Int), ByteArray.empty, PUnit.unit),
                                                                  ((3 : Int), (0 : Int),
                                                                    (Go.Rx.G.B [115, 104, 111, 119]),
                                                                    PUnit.unit),
                                                                  ((7 : Int), (0 : Int), ByteArray.empty, PUnit.unit)],
                                                                PUnit.unit),
                                                              ((Go.Rx.G.B [115, 104, 111, 119]),
                                                                Bool.false, [((1 : Int), (0 : Int), ByteArray.empty, PUnit.unit), ((6 : Int), (0 : Int), ByteArray.empty, PUnit.unit)], PUnit.unit)]
                                                            (4 : Int)).2.2.2.2.1
                                                (Int.toNat (0 : Int)) ((0 : Int), PUnit.unit)).1 =
                                            Go.Rx.G.sum (Go.Rx.G.dDrawSum (c, PUnit.unit)).1.2.1 (0 : Int))) =
                                      Bool.false then
                                  if
                                      (!Decidable.decide
                                            ((Go.Rx.G.machRun
                                                            [((Go.Rx.G.B [109, 97, 105, 110]),
                                                                Bool.false,
                                                                [((2 : Int), Go.Rx.G.sum (Go.Rx.G.dDrawSum (c, PUnit.unit)).1.2.1 (0 : Int), ByteArray.empty, PUnit.unit),
                                                                  ((3 : Int), (0 : Int),
                                                                    (Go.Rx.G.B [115, 104, 111, 119]),
                                                                    PUnit.unit),
                                                                  ((7 : Int), (0 : Int), ByteArray.empty, PUnit.unit)],
                                                                PUnit.unit),
                                                              ((Go.Rx.G.B [115, 104, 111, 119]),
                                                                Bool.false, [((1 : Int), (0 : Int), ByteArray.empty, PUnit.unit), ((6 : Int), (0 : Int), ByteArray.empty, PUnit.unit)], PUnit.unit)]
                                                            (4 : Int)).2.2.2.2.2.1 =
                                              (0 : Int))) =
                                        Bool.true then
                                    Option.some (Bool.false, PUnit.unit)
                                  else
                                    if (!Decidable.decide ((5 : Int) = (0 : Int))) = Bool.true then
                                      if
                                          Go.Rx.G.smallP
                                              [((Go.Rx.G.B [109, 97, 105, 110]),
                                                  Bool.false,
                                                  [((2 : Int), Go.Rx.G.sum (Go.Rx.G.dDrawSum (c, PUnit.unit)).1.2.1 (0 : Int), ByteArray.empty, PUnit.unit),
                                                    ((3 : Int), (0 : Int),
                                                      (Go.Rx.G.B [115, 104, 111, 119]),
                                                      PUnit.unit),
                                                    ((7 : Int), (0 : Int), ByteArray.empty, PUnit.unit)],
                                                  PUnit.unit),
                                                ((Go.Rx.G.B [115, 104, 111, 119]),
                                                  Bool.false, [((1 : Int), (0 : Int), ByteArray.empty, PUnit.unit), ((6 : Int), (0 : Int), ByteArray.empty, PUnit.unit)], PUnit.unit)] =
                                            Bool.true then
                                        if
                                            Decidable.decide
                                                ((Go.Rx.G.machRun
                                                                [((Go.Rx.G.B [109, 97, 105, 110]),
                                                                    Bool.false,
                                                                    [((2 : Int), Go.Rx.G.sum (Go.Rx.G.dDrawSum (c, PUnit.unit)).1.2.1 (0 : Int), ByteArray.empty, PUnit.unit),
                                                                      ((3 : Int), (0 : Int),
                                                                        (Go.Rx.G.B [115, 104, 111, 119]),
                                                                        PUnit.unit),
                                                                      ((7 : Int), (0 : Int), ByteArray.empty, PUnit.unit)],
                                                                    PUnit.unit),
                                                                  ((Go.Rx.G.B [115, 104, 111, 119]),
                                                                    Bool.false, [((1 : Int), (0 : Int), ByteArray.empty, PUnit.unit), ((6 : Int), (0 : Int), ByteArray.empty, PUnit.unit)], PUnit.unit)]
                                                                (Go.IntKind.wrap Go.IntKind.i64 ((5 : Int) + Int.tmod (↑(List.length d) : Int) (5 : Int)))).2.2.2.2.2.1 =
                                                  (1 : Int)) =
                                              Bool.true then
                                          if
                                              Decidable.decide
                                                  ((Go.Rx.G.machRun
                                                            [((Go.Rx.G.B [109, 97, 105, 110]),
                                                                Bool.false,
                                                                [((2 : Int), Go.Rx.G.sum (Go.Rx.G.dDrawSum (c, PUnit.unit)).1.2.1 (0 : Int), ByteArray.empty, PUnit.unit),
                                                                  ((3 : Int), (0 : Int),
                                                                    (Go.Rx.G.B [115, 104, 111, 119]),
                                                                    PUnit.unit),
                                                                  ((7 : Int), (0 : Int), ByteArray.empty, PUnit.unit)],
                                                                PUnit.unit),
                                                              ((Go.Rx.G.B [115, 104, 111, 119]),
                                                                Bool.false, [((1 : Int), (0 : Int), ByteArray.empty, PUnit.unit), ((6 : Int), (0 : Int), ByteArray.empty, PUnit.unit)], PUnit.unit)]
                                                            (Go.IntKind.wrap Go.IntKind.i64 ((5 : Int) + Int.tmod (↑(List.length d) : Int) (5 : Int)))).2.2.1 =
                                                    Go.Rx.G.sum (Go.Rx.G.dDrawSum (c, PUnit.unit)).1.2.1 (0 : Int)) =
                                                Bool.true then
                                            Option.some
                                              (Decidable.decide
                                                  ((↑(List.length
                                                          (Go.Rx.G.machRun
                                                                      [((Go.Rx.G.B [109, 97, 105, 110]),
                                                                          Bool.false,
                                                                          [((2 : Int), Go.Rx.G.sum (Go.Rx.G.dDrawSum (c, PUnit.unit)).1.2.1 (0 : Int), ByteArray.empty, PUnit.unit),
                                                                            ((3 : Int), (0 : Int),
                                                                              (Go.Rx.G.B [115, 104, 111, 119]),
                                                                              PUnit.unit),
                                                                            ((7 : Int), (0 : Int), ByteArray.empty, PUnit.unit)],
                                                                          PUnit.unit),
                                                                        ((Go.Rx.G.B [115, 104, 111, 119]),
                                                                          Bool.false, [((1 : Int), (0 : Int), ByteArray.empty, PUnit.unit), ((6 : Int), (0 : Int), ByteArray.empty, PUnit.unit)], PUnit.unit)]
                                                                      (Go.IntKind.wrap Go.IntKind.i64 ((5 : Int) + Int.tmod (↑(List.length d) : Int) (5 : Int)))).2.2.2.2.1) :
                                                      Int) =
                                                    (1 : Int)),
                                                PUnit.unit)
                                          else Option.some (Bool.false, PUnit.unit)
                                        else Option.some (Bool.false, PUnit.unit)
                                      else Option.none
                                    else Option.none
                                else Option.some (Bool.false, PUnit.unit)
                              else Option.none
                            else Option.none
                          else Option.none
                        else Option.some (Bool.false, PUnit.unit)
                      else Option.some (Bool.false, PUnit.unit)
                    else Option.some (Bool.false, PUnit.unit)
                else Option.none
              else Option.some (Bool.false, PUnit.unit)
            else Option.none
          else Option.none
        else Option.none
      else Option.none
  else Option.some (Bool.true, PUnit.unit)) := by kernel_rfl
theorem progL_eq (a : Int) : [((Go.Rx.G.B [109, 97, 105, 110]), false, [((2 : Int), a, ByteArray.empty, ()), ((3 : Int), (0 : Int), (Go.Rx.G.B [115, 104, 111, 119]), ()), ((7 : Int), (0 : Int), ByteArray.empty, ())], ()), ((Go.Rx.G.B [115, 104, 111, 119]), false, [((1 : Int), (0 : Int), ByteArray.empty, ()), ((6 : Int), (0 : Int), ByteArray.empty, ())], ())] = G.progL a := rfl
theorem sfLawMachLeaf (c d : Bytes) (h : (c.all G.byteOk && decide (d.length ≤ 9223372036854775807)) = true) : funK cxLawMachLeaf Go.Proofs.Try.f4 spLawMachLeaf.ins spLawMachLeaf.out (c, d, ()) = some (true, ()) := by
  rw [Bool.and_eq_true, decide_eq_true_iff] at h
  obtain ⟨hb, hd⟩ := h
  rw [eLawMachLeaf, progL_eq]
  by_cases h1 : (c.length : Int) > 1048576
  · rw [if_neg (by simpa using h1)]
  · rw [if_pos (decide_eq_false h1)]
    by_cases h2 : (d.length : Int) > 1048576
    · rw [if_pos (decide_eq_true h2)]
    · rw [if_neg (by simpa using h2), if_pos hb]
      have hr := sum_range (G.dDrawSum (c, ())).1.2.1
      generalize G.sum (G.dDrawSum (c, ())).1.2.1 0 = a at hr ⊢
      have e1 : IntKind.i64.wrap (5 + Int.tmod (d.length : Int) 5) = ((5 + d.length % 5 : Nat) : Int) := by
        have : Int.tmod (d.length : Int) 5 = ((d.length % 5 : Nat) : Int) := rfl
        have : d.length % 5 < 5 := Nat.mod_lt _ (by decide)
        rw [‹Int.tmod _ _ = _›, w64 (by omega) (by omega)]
        omega
      have hk : d.length % 5 < 5 := Nat.mod_lt _ (by decide)
      rw [e1]
      generalize d.length % 5 = k at hk ⊢
      have k0 := keepL a hr
      have s0 := sum_id hr
      have m4 : G.machRun (G.progL a) 4 = (0, 2, a, [], [(a, ())], 0, ()) := by
        unfold G.machRun
        rw [if_pos ⟨k0, by omega, by omega⟩]
        have := run4 a
        rw [s0] at this
        exact this
      have m5 : G.machRun (G.progL a) ((5 + k : Nat) : Int) = (0, 2, a, [], [(a, ())], 1, ()) := by
        unfold G.machRun
        rw [if_pos ⟨k0, by omega, by omega⟩]
        have := run5 a k
        rw [s0] at this
        exact this
      have f4 : G.fewMach (0, 2, a, [], [(a, ())], 0, ()) = true := by kernel_rfl
      simp only [smallL_ok, k0, m4, m5, f4, sameM_self, if_true]
      simp
theorem okLawMachLeaf : SpecOk Go.Proofs.Try.prog 4 spLawMachLeaf :=
  fun_okB (cx := cxLawMachLeaf) (F := Go.Proofs.Try.f4) (cxOk T0_ok T0_eq pd3_ok) mixed (by kernel_rfl) (by decide) (by kernel_rfl) (lps_none (by kernel_rfl)) (fun x h => sfLawMachLeaf x.1 x.2.1 h)
end Go.Rx

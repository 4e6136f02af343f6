/-
  THE LAW on the order of functions: it never matters.
-/
import Derived.Test.YtjnbmbhkgapcfaaGd
namespace Go.Rx
open Go
set_option linter.unusedVariables false
set_option linter.unusedSimpArgs false
def G.tailRev (p : Funs) (i : Int) (q : Funs) : Funs := q ++ (List.range i.toNat).map fun j => G.pAt p (i.toNat - j)
theorem tailRev_step (p : Funs) {i : Int} (q : Funs) (h : i > 0) : G.tailRev p (i - 1) (q ++ [G.pAt p i.toNat]) = G.tailRev p i q := by
  unfold G.tailRev
  have e : i.toNat = (i - 1).toNat + 1 := by omega
  rw [e, List.range_succ_eq_map, List.map_cons, List.map_map, List.append_assoc]
  congr 1
  show G.pAt p ((i - 1).toNat + 1) :: _ = G.pAt p ((i - 1).toNat + 1 - 0) :: _
  congr 1
  apply List.map_congr_left
  intro j hj
  show G.pAt p ((i - 1).toNat - j) = G.pAt p ((i - 1).toNat + 1 - (j + 1))
  congr 1
  omega
theorem tailRev_end (p : Funs) {i : Int} (q : Funs) (h : ¬ i > 0) : G.tailRev p i q = q := by
  unfold G.tailRev
  rw [show i.toNat = 0 by omega]
  simp
noncomputable abbrev pg41 : List (Nat × List Spec) := (12, [spKeepOk]) :: pd18
theorem pg41_ok : PhiOk Go.Proofs.Try.prog pg41 := ⟨⟨okKeepOk, trivial⟩, pd18_ok⟩
noncomputable abbrev lsOrd0 : LSpec := ⟨[3, 7, 8], [7], [FunSP, FunsO, IntP], [FunsO], true, fun x => decide (x.1.length ≤ 1000 ∧ x.2.1.length ≤ 1000 ∧ 0 ≤ x.2.2.1 ∧ (x.2.2.1 < (x.1.length : Int) ∨ x.2.2.1 = 0) ∧ (x.2.1.length : Int) + x.2.2.1 ≤ 2000), fun x => ((0, (G.tailRev x.1 x.2.2.1 x.2.1, ())), ())⟩
noncomputable abbrev cxOrd0 : Cx := mkCx T0 pg41 [] [] 119
theorem rOrd0 (p q : Funs) (i : Int) : roundK cxOrd0 0 (loopIn Go.Proofs.Try.f6 0) lsOrd0 (p, q, i, ()) =
  (if Decidable.decide (i > (0 : Int)) = Bool.true then
    if Decidable.decide ((0 : Int) ≤ i) = Bool.true then
      if Decidable.decide (i < (↑(List.length p) : Int)) = Bool.true then
        if Go.Rx.okSize (48 : Nat) (List.length q + (1 : Nat)) = Bool.true then
          Option.some (Go.Rx.LRes.go (p, q ++ [List.getD p (Int.toNat i) (ByteArray.empty, Bool.false, [], PUnit.unit)], Go.IntKind.wrap Go.IntKind.i64 (i - (1 : Int)), PUnit.unit))
        else Option.none
      else Option.none
    else Option.none
  else Option.some (Go.Rx.LRes.stop (0 : Nat) (q, PUnit.unit) PUnit.unit)) := by kernel_rfl
def G.sameOut (x z : Mach) (k : Nat) : Bool := decide ((z.2.2.2.2.1.getD k (0, ())).1 = (x.2.2.2.2.1.getD k (0, ())).1)
/-! Ord2: a search -/
def G.preOrd2 (x : Mach) (z : Mach) (i : Int) : Bool := G.preA (z.2.2.2.2.1.length) i && (true && (decide (x.2.2.2.2.1.length = z.2.2.2.2.1.length)))
theorem preOrd2_iff {x : Mach} {z : Mach} {i : Int} : G.preOrd2 x z i = true ↔ (0 ≤ i ∧ i ≤ ((z.2.2.2.2.1.length : Nat) : Int) ∧ (z.2.2.2.2.1.length : Nat) ≤ 1099511627776) ∧ True ∧ decide (x.2.2.2.2.1.length = z.2.2.2.2.1.length) = true := by simp [G.preOrd2, preA_iff]
def G.scOrd2 (x : Mach) (z : Mach) (i : Int) : Option (Bool × Unit) := G.scan (G.bad (G.sameOut x z)) (z.2.2.2.2.1.length) i
noncomputable abbrev lsOrd2 : LSpec := ⟨[5, 9, 10, 2], [2], [.box MachO, .box MachO, IntP, BoolP], [BoolP], false, fun x => G.preOrd2 x.1 x.2.1 x.2.2.1,
  fun x => ((G.flag 1 (G.scOrd2 x.1 x.2.1 x.2.2.1), G.got (G.scOrd2 x.1 x.2.1 x.2.2.1) (x.2.2.2.1, ())), (x.1, (x.2.1, ())))⟩
noncomputable abbrev clOrd2 : Cx := mkCx T0 pg41 [(2, lsOrd2)] [] 119
theorem rOrd2 (x : Mach) (z : Mach) (i : Int) (r : Bool) : roundK clOrd2 2 (loopIn Go.Proofs.Try.f6 2) lsOrd2 (x, z, i, r, ()) =
  (if Decidable.decide (i < (↑(List.length z.2.2.2.2.1) : Int)) = Bool.true then
    if Decidable.decide ((0 : Int) ≤ i) = Bool.true then
      if Decidable.decide (i < (↑(List.length z.2.2.2.2.1) : Int)) = Bool.true then
        if Decidable.decide (Int.toNat i < List.length z.2.2.2.2.1) = Bool.true then
          if Decidable.decide ((0 : Int) ≤ i) = Bool.true then
            if Decidable.decide (i < (↑(List.length x.2.2.2.2.1) : Int)) = Bool.true then
              if Decidable.decide (Int.toNat i < List.length x.2.2.2.2.1) = Bool.true then
                if (!Decidable.decide ((List.getD z.2.2.2.2.1 (Int.toNat i) ((0 : Int), PUnit.unit)).1 = (List.getD x.2.2.2.2.1 (Int.toNat i) ((0 : Int), PUnit.unit)).1)) = Bool.true then
                  Option.some (Go.Rx.LRes.stop (1 : Nat) (Bool.false, PUnit.unit) (x, z, PUnit.unit))
                else Option.some (Go.Rx.LRes.go (x, z, Go.IntKind.wrap Go.IntKind.i64 (i + (1 : Int)), r, PUnit.unit))
              else Option.none
            else Option.none
          else Option.none
        else Option.none
      else Option.none
    else Option.none
  else Option.some (Go.Rx.LRes.stop (0 : Nat) (r, PUnit.unit) (x, z, PUnit.unit))) := by kernel_rfl
noncomputable abbrev muOrd2 : PKs.den lsOrd2.ins → Nat := fun x => (x.2.1.2.2.2.2.1.length) - x.2.2.1.toNat
theorem stOrd2 (x : Mach) (z : Mach) (i : Int) (r : Bool) (h : G.preOrd2 x z i = true) : StepOk lsOrd2 (eqInv lsOrd2) muOrd2 (x, z, i, r, ()) (roundK clOrd2 2 (loopIn Go.Proofs.Try.f6 2) lsOrd2 (x, z, i, r, ())) := by
  obtain ⟨⟨h0, h1, h2⟩, hn, hc⟩ := preOrd2_iff.1 h
  rw [rOrd2]
  by_cases hi : i < ((z.2.2.2.2.1.length : Nat) : Int)
  · have hw : IntKind.i64.wrap (i + 1) = i + 1 := w64 (by omega) (by omega)
    have hs : G.scOrd2 x z i = ((G.bad (G.sameOut x z)) i.toNat).or (G.scOrd2 x z (i + 1)) := scan_step h0 (by omega)
    refine scan_stop (fl := 1) (eqInv lsOrd2) muOrd2 (x, z, i + 1, r, ()) ((G.bad (G.sameOut x z)) i.toNat) (x, (z, ())) ?_ (fun ho => ⟨(show G.preOrd2 x z (i + 1) = true from preOrd2_iff.2 ⟨⟨by omega, by omega, h2⟩, trivial, hc⟩), ?_, ?_⟩) (fun w ho => ?_)
    · have hl := of_decide_eq_true hc
      rw [bad_match, hw, if_pos (decide_eq_true hi), if_pos (decide_eq_true h0), if_pos (decide_eq_true hi), if_pos (decide_eq_true (by omega)), if_pos (decide_eq_true h0), if_pos (decide_eq_true (by omega)), if_pos (decide_eq_true (by omega))]
      unfold G.sameOut
      by_cases hq : (z.2.2.2.2.1.getD i.toNat ((0 : Int), ())).1 = (x.2.2.2.2.1.getD i.toNat ((0 : Int), ())).1 <;> simp [hq]
    · show (z.2.2.2.2.1.length) - (i + 1).toNat < (z.2.2.2.2.1.length) - i.toNat
      omega
    · show ((_, _), _) = ((_, _), _)
      simp only [hs, ho, Option.none_or]
    · show ((_, _), _) = ((_, _), _)
      simp only [hs, ho, Option.some_or]
      rfl
  · have hs : G.scOrd2 x z i = none := scan_end (by omega)
    skip
    rw [if_neg (by simpa using hi)]
    show ((_, _), _) = ((_, _), _)
    simp only [hs]
    rfl
theorem lpOrd2 : LpOk Go.Proofs.Try.prog clOrd2.ntmps 2 (loopIn Go.Proofs.Try.f6 2) lsOrd2 :=
  lp_okB (cxOk T0_ok T0_eq pg41_ok) mixed (by kernel_rfl) (lps_none (by kernel_rfl)) (eqInv lsOrd2) muOrd2 (fun _ h => h) (fun x h => stOrd2 x.1 x.2.1 x.2.2.1 x.2.2.2.1 h)
/-! LawMachOrder -/
noncomputable abbrev spLawMachOrder : Spec := ⟨[BytesP], BoolR, true, fun x => x.1.all G.byteOk, fun x => (true, ())⟩
noncomputable abbrev cxLawMachOrder : Cx := mkCx T0 pg41 [(0, lsOrd0), (2, lsOrd2)] [] 119
theorem eLawMachOrder (c : Bytes) : funK cxLawMachOrder Go.Proofs.Try.f6 spLawMachOrder.ins spLawMachOrder.out (c, ()) =
  (if Decidable.decide ((↑(List.length c) : Int) > (1048576 : Int)) = Bool.true then Option.some (Bool.true, PUnit.unit)
  else
    if List.all c Go.Rx.G.byteOk = Bool.true then
      if Go.Rx.G.smallP (Go.Rx.G.dDrawMachRun (c, PUnit.unit)).1.1 = Bool.true then
        if Go.Rx.G.smallP (Go.Rx.G.dDrawMachRun (c, PUnit.unit)).1.1 = Bool.true then
          if Go.Rx.G.fewMach (Go.Rx.G.machRun (Go.Rx.G.dDrawMachRun (c, PUnit.unit)).1.1 (Go.Rx.G.dDrawMachRun (c, PUnit.unit)).1.2.1) = Bool.true then
            if
                (!Go.Rx.G.sameM (Go.Rx.G.machRun (Go.Rx.G.dDrawMachRun (c, PUnit.unit)).1.1 (Go.Rx.G.dDrawMachRun (c, PUnit.unit)).1.2.1)
                      (Go.Rx.G.machRun (Go.Rx.G.dDrawMachRun (c, PUnit.unit)).1.1 (Go.Rx.G.dDrawMachRun (c, PUnit.unit)).1.2.1)) =
                  Bool.false then
              if Decidable.decide ((Go.Rx.G.machRun (Go.Rx.G.dDrawMachRun (c, PUnit.unit)).1.1 (Go.Rx.G.dDrawMachRun (c, PUnit.unit)).1.2.1).2.2.2.2.2.1 = (5 : Int)) = Bool.true then
                if Go.Rx.G.fewMach (Go.Rx.G.machRun (Go.Rx.G.dDrawMachRun (c, PUnit.unit)).1.1 (Go.Rx.G.dDrawMachRun (c, PUnit.unit)).1.2.1) = Bool.true then
                  Option.some
                    (Go.Rx.G.sameM (Go.Rx.G.machRun (Go.Rx.G.dDrawMachRun (c, PUnit.unit)).1.1 (Go.Rx.G.dDrawMachRun (c, PUnit.unit)).1.2.1)
                        (Go.Rx.G.machRun (Go.Rx.G.dDrawMachRun (c, PUnit.unit)).1.1 (Go.Rx.G.dDrawMachRun (c, PUnit.unit)).1.2.1),
                      PUnit.unit)
                else Option.none
              else
                if Decidable.decide ((0 : Int) ≤ (0 : Int)) = Bool.true then
                  if Decidable.decide ((0 : Int) < (↑(List.length (Go.Rx.G.dDrawMachRun (c, PUnit.unit)).1.1) : Int)) = Bool.true then
                    if
                        Decidable.decide
                            (List.length (Go.Rx.G.dDrawMachRun (c, PUnit.unit)).1.1 ≤ (1000 : Nat) ∧
                              (1 : Nat) ≤ (1000 : Nat) ∧
                                (0 : Int) ≤ Go.IntKind.wrap Go.IntKind.i64 ((↑(List.length (Go.Rx.G.dDrawMachRun (c, PUnit.unit)).1.1) : Int) - (1 : Int)) ∧
                                  (Go.IntKind.wrap Go.IntKind.i64 ((↑(List.length (Go.Rx.G.dDrawMachRun (c, PUnit.unit)).1.1) : Int) - (1 : Int)) <
                                        (↑(List.length (Go.Rx.G.dDrawMachRun (c, PUnit.unit)).1.1) : Int) ∨
                                      Go.IntKind.wrap Go.IntKind.i64 ((↑(List.length (Go.Rx.G.dDrawMachRun (c, PUnit.unit)).1.1) : Int) - (1 : Int)) = (0 : Int)) ∧
                                    (1 : Int) + Go.IntKind.wrap Go.IntKind.i64 ((↑(List.length (Go.Rx.G.dDrawMachRun (c, PUnit.unit)).1.1) : Int) - (1 : Int)) ≤ (2000 : Int)) =
                          Bool.true then
                      if
                          Go.Rx.G.smallP
                              (Go.Rx.G.tailRev (Go.Rx.G.dDrawMachRun (c, PUnit.unit)).1.1 (Go.IntKind.wrap Go.IntKind.i64 ((↑(List.length (Go.Rx.G.dDrawMachRun (c, PUnit.unit)).1.1) : Int) - (1 : Int)))
                                [List.getD (Go.Rx.G.dDrawMachRun (c, PUnit.unit)).1.1 (Int.toNat (0 : Int)) (ByteArray.empty, Bool.false, [], PUnit.unit)]) =
                            Bool.true then
                        if
                            Go.Rx.G.smallP
                                (Go.Rx.G.tailRev (Go.Rx.G.dDrawMachRun (c, PUnit.unit)).1.1
                                  (Go.IntKind.wrap Go.IntKind.i64 ((↑(List.length (Go.Rx.G.dDrawMachRun (c, PUnit.unit)).1.1) : Int) - (1 : Int)))
                                  [List.getD (Go.Rx.G.dDrawMachRun (c, PUnit.unit)).1.1 (Int.toNat (0 : Int)) (ByteArray.empty, Bool.false, [], PUnit.unit)]) =
                              Bool.true then
                          if
                              (!Go.Rx.G.keepOk
                                    (Go.Rx.G.tailRev (Go.Rx.G.dDrawMachRun (c, PUnit.unit)).1.1
                                      (Go.IntKind.wrap Go.IntKind.i64 ((↑(List.length (Go.Rx.G.dDrawMachRun (c, PUnit.unit)).1.1) : Int) - (1 : Int)))
                                      [List.getD (Go.Rx.G.dDrawMachRun (c, PUnit.unit)).1.1 (Int.toNat (0 : Int)) (ByteArray.empty, Bool.false, [], PUnit.unit)])) =
                                Bool.false then
                            if
                                (!Decidable.decide
                                      ((Go.Rx.G.machRun
                                                      (Go.Rx.G.tailRev (Go.Rx.G.dDrawMachRun (c, PUnit.unit)).1.1
                                                        (Go.IntKind.wrap Go.IntKind.i64 ((↑(List.length (Go.Rx.G.dDrawMachRun (c, PUnit.unit)).1.1) : Int) - (1 : Int)))
                                                        [List.getD (Go.Rx.G.dDrawMachRun (c, PUnit.unit)).1.1 (Int.toNat (0 : Int)) (ByteArray.empty, Bool.false, [], PUnit.unit)])
                                                      (Go.Rx.G.dDrawMachRun (c, PUnit.unit)).1.2.1).2.2.2.2.2.1 =
                                        (Go.Rx.G.machRun (Go.Rx.G.dDrawMachRun (c, PUnit.unit)).1.1 (Go.Rx.G.dDrawMachRun (c, PUnit.unit)).1.2.1).2.2.2.2.2.1)) =
                                  Bool.false then
                              if
                                  (!Decidable.decide
                                        ((Go.Rx.G.machRun
                                                  (Go.Rx.G.tailRev (Go.Rx.G.dDrawMachRun (c, PUnit.unit)).1.1
                                                    (Go.IntKind.wrap Go.IntKind.i64 ((↑(List.length (Go.Rx.G.dDrawMachRun (c, PUnit.unit)).1.1) : Int) - (1 : Int)))
                                                    [List.getD (Go.Rx.G.dDrawMachRun (c, PUnit.unit)).1.1 (Int.toNat (0 : Int)) (ByteArray.empty, Bool.false, [], PUnit.unit)])
                                                  (Go.Rx.G.dDrawMachRun (c, PUnit.unit)).1.2.1).2.2.1 =
                                          (Go.Rx.G.machRun (Go.Rx.G.dDrawMachRun (c, PUnit.unit)).1.1 (Go.Rx.G.dDrawMachRun (c, PUnit.unit)).1.2.1).2.2.1)) =
                                    Bool.false then
                                if
                                    (!Decidable.decide
                                          ((↑(List.length
                                                  (Go.Rx.G.machRun
                                                              (Go.Rx.G.tailRev (Go.Rx.G.dDrawMachRun (c, PUnit.unit)).1.1
                                                                (Go.IntKind.wrap Go.IntKind.i64 ((↑(List.length (Go.Rx.G.dDrawMachRun (c, PUnit.unit)).1.1) : Int) - (1 : Int)))
                                                                [List.getD (Go.Rx.G.dDrawMachRun (c, PUnit.unit)).1.1 (Int.toNat (0 : Int)) (ByteArray.empty, Bool.false, [], PUnit.unit)])
                                                              (Go.Rx.G.dDrawMachRun (c, PUnit.unit)).1.2.1).2.2.2.2.1) :
                                              Int) =
                                            (↑(List.length (Go.Rx.G.machRun (Go.Rx.G.dDrawMachRun (c, PUnit.unit)).1.1 (Go.Rx.G.dDrawMachRun (c, PUnit.unit)).1.2.1).2.2.2.2.1) : Int))) =
                                      Bool.false then
                                  if
                                      Decidable.decide
                                          ((0 : Int) ≤
                                            (Go.Rx.G.machRun
                                                (Go.Rx.G.tailRev (Go.Rx.G.dDrawMachRun (c, PUnit.unit)).1.1
                                                  (Go.IntKind.wrap Go.IntKind.i64 ((↑(List.length (Go.Rx.G.dDrawMachRun (c, PUnit.unit)).1.1) : Int) - (1 : Int)))
                                                  [List.getD (Go.Rx.G.dDrawMachRun (c, PUnit.unit)).1.1 (Int.toNat (0 : Int)) (ByteArray.empty, Bool.false, [], PUnit.unit)])
                                                (Go.Rx.G.dDrawMachRun (c, PUnit.unit)).1.2.1).1) =
                                        Bool.true then
                                    if
                                        Decidable.decide
                                            ((Go.Rx.G.machRun
                                                  (Go.Rx.G.tailRev (Go.Rx.G.dDrawMachRun (c, PUnit.unit)).1.1
                                                    (Go.IntKind.wrap Go.IntKind.i64 ((↑(List.length (Go.Rx.G.dDrawMachRun (c, PUnit.unit)).1.1) : Int) - (1 : Int)))
                                                    [List.getD (Go.Rx.G.dDrawMachRun (c, PUnit.unit)).1.1 (Int.toNat (0 : Int)) (ByteArray.empty, Bool.false, [], PUnit.unit)])
                                                  (Go.Rx.G.dDrawMachRun (c, PUnit.unit)).1.2.1).1 <
                                              (↑(List.length
                                                    (Go.Rx.G.tailRev (Go.Rx.G.dDrawMachRun (c, PUnit.unit)).1.1
                                                      (Go.IntKind.wrap Go.IntKind.i64 ((↑(List.length (Go.Rx.G.dDrawMachRun (c, PUnit.unit)).1.1) : Int) - (1 : Int)))
                                                      [List.getD (Go.Rx.G.dDrawMachRun (c, PUnit.unit)).1.1 (Int.toNat (0 : Int)) (ByteArray.empty, Bool.false, [], PUnit.unit)])) :
                                                Int)) =
                                          Bool.true then
                                      if
                                          Decidable.decide
                                              (Int.toNat
                                                  (Go.Rx.G.machRun
                                                      (Go.Rx.G.tailRev (Go.Rx.G.dDrawMachRun (c, PUnit.unit)).1.1
                                                        (Go.IntKind.wrap Go.IntKind.i64 ((↑(List.length (Go.Rx.G.dDrawMachRun (c, PUnit.unit)).1.1) : Int) - (1 : Int)))
                                                        [List.getD (Go.Rx.G.dDrawMachRun (c, PUnit.unit)).1.1 (Int.toNat (0 : Int)) (ByteArray.empty, Bool.false, [], PUnit.unit)])
                                                      (Go.Rx.G.dDrawMachRun (c, PUnit.unit)).1.2.1).1 <
                                                List.length
                                                  (Go.Rx.G.tailRev (Go.Rx.G.dDrawMachRun (c, PUnit.unit)).1.1
                                                    (Go.IntKind.wrap Go.IntKind.i64 ((↑(List.length (Go.Rx.G.dDrawMachRun (c, PUnit.unit)).1.1) : Int) - (1 : Int)))
                                                    [List.getD (Go.Rx.G.dDrawMachRun (c, PUnit.unit)).1.1 (Int.toNat (0 : Int)) (ByteArray.empty, Bool.false, [], PUnit.unit)])) =
                                            Bool.true then
                                        if Decidable.decide ((0 : Int) ≤ (Go.Rx.G.machRun (Go.Rx.G.dDrawMachRun (c, PUnit.unit)).1.1 (Go.Rx.G.dDrawMachRun (c, PUnit.unit)).1.2.1).1) = Bool.true then
                                          if
                                              Decidable.decide
                                                  ((Go.Rx.G.machRun (Go.Rx.G.dDrawMachRun (c, PUnit.unit)).1.1 (Go.Rx.G.dDrawMachRun (c, PUnit.unit)).1.2.1).1 <
                                                    (↑(List.length (Go.Rx.G.dDrawMachRun (c, PUnit.unit)).1.1) : Int)) =
                                                Bool.true then
                                            if
                                                (!Go.Rx.strEq
                                                      (List.getD
                                                          (Go.Rx.G.tailRev (Go.Rx.G.dDrawMachRun (c, PUnit.unit)).1.1
                                                            (Go.IntKind.wrap Go.IntKind.i64 ((↑(List.length (Go.Rx.G.dDrawMachRun (c, PUnit.unit)).1.1) : Int) - (1 : Int)))
                                                            [List.getD (Go.Rx.G.dDrawMachRun (c, PUnit.unit)).1.1 (Int.toNat (0 : Int)) (ByteArray.empty, Bool.false, [], PUnit.unit)])
                                                          (Int.toNat
                                                            (Go.Rx.G.machRun
                                                                (Go.Rx.G.tailRev (Go.Rx.G.dDrawMachRun (c, PUnit.unit)).1.1
                                                                  (Go.IntKind.wrap Go.IntKind.i64 ((↑(List.length (Go.Rx.G.dDrawMachRun (c, PUnit.unit)).1.1) : Int) - (1 : Int)))
                                                                  [List.getD (Go.Rx.G.dDrawMachRun (c, PUnit.unit)).1.1 (Int.toNat (0 : Int)) (ByteArray.empty, Bool.false, [], PUnit.unit)])
                                                                (Go.Rx.G.dDrawMachRun (c, PUnit.unit)).1.2.1).1)
                                                          (ByteArray.empty, Bool.false, [], PUnit.unit)).1
                                                      (List.getD (Go.Rx.G.dDrawMachRun (c, PUnit.unit)).1.1
                                                          (Int.toNat (Go.Rx.G.machRun (Go.Rx.G.dDrawMachRun (c, PUnit.unit)).1.1 (Go.Rx.G.dDrawMachRun (c, PUnit.unit)).1.2.1).1)
                                                          (ByteArray.empty, Bool.false, [], PUnit.unit)).1) =
                                                  Bool.true then
                                              Option.some (Bool.false, PUnit.unit)
                                            else
                                              if
                                                  Go.Rx.G.preOrd2 (Go.Rx.G.machRun (Go.Rx.G.dDrawMachRun (c, PUnit.unit)).1.1 (Go.Rx.G.dDrawMachRun (c, PUnit.unit)).1.2.1)
                                                      (Go.Rx.G.machRun
                                                        (Go.Rx.G.tailRev (Go.Rx.G.dDrawMachRun (c, PUnit.unit)).1.1
                                                          (Go.IntKind.wrap Go.IntKind.i64 ((↑(List.length (Go.Rx.G.dDrawMachRun (c, PUnit.unit)).1.1) : Int) - (1 : Int)))
                                                          [List.getD (Go.Rx.G.dDrawMachRun (c, PUnit.unit)).1.1 (Int.toNat (0 : Int)) (ByteArray.empty, Bool.false, [], PUnit.unit)])
                                                        (Go.Rx.G.dDrawMachRun (c, PUnit.unit)).1.2.1)
                                                      (0 : Int) =
                                                    Bool.true then
                                                if
                                                    Go.Rx.G.flag (1 : Nat)
                                                        (Go.Rx.G.scOrd2 (Go.Rx.G.machRun (Go.Rx.G.dDrawMachRun (c, PUnit.unit)).1.1 (Go.Rx.G.dDrawMachRun (c, PUnit.unit)).1.2.1)
                                                          (Go.Rx.G.machRun
                                                            (Go.Rx.G.tailRev (Go.Rx.G.dDrawMachRun (c, PUnit.unit)).1.1
                                                              (Go.IntKind.wrap Go.IntKind.i64 ((↑(List.length (Go.Rx.G.dDrawMachRun (c, PUnit.unit)).1.1) : Int) - (1 : Int)))
                                                              [List.getD (Go.Rx.G.dDrawMachRun (c, PUnit.unit)).1.1 (Int.toNat (0 : Int)) (ByteArray.empty, Bool.false, [], PUnit.unit)])
                                                            (Go.Rx.G.dDrawMachRun (c, PUnit.unit)).1.2.1)
                                                          (0 : Int)) =
                                                      (0 : Nat) then
                                                  Option.some (Bool.true, PUnit.unit)
                                                else
                                                  if
                                                      Go.Rx.G.flag (1 : Nat)
                                                          (Go.Rx.G.scOrd2 (Go.Rx.G.machRun (Go.Rx.G.dDrawMachRun (c, PUnit.unit)).1.1 (Go.Rx.G.dDrawMachRun (c, PUnit.unit)).1.2.1)
                                                            (Go.Rx.G.machRun
                                                              (Go.Rx.G.tailRev (Go.Rx.G.dDrawMachRun (c, PUnit.unit)).1.1
                                                                (Go.IntKind.wrap Go.IntKind.i64 ((↑(List.length (Go.Rx.G.dDrawMachRun (c, PUnit.unit)).1.1) : Int) - (1 : Int)))
                                                                [List.getD (Go.Rx.G.dDrawMachRun (c, PUnit.unit)).1.1 (Int.toNat (0 : Int)) (ByteArray.empty, Bool.false, [], PUnit.unit)])
                                                              (Go.Rx.G.dDrawMachRun (c, PUnit.unit)).1.2.1)
                                                            (0 : Int)) =
                                                        (1 : Nat) then
                                                    Option.some
                                                      (Go.Rx.G.got
                                                        (Go.Rx.G.scOrd2 (Go.Rx.G.machRun (Go.Rx.G.dDrawMachRun (c, PUnit.unit)).1.1 (Go.Rx.G.dDrawMachRun (c, PUnit.unit)).1.2.1)
                                                          (Go.Rx.G.machRun
                                                            (Go.Rx.G.tailRev (Go.Rx.G.dDrawMachRun (c, PUnit.unit)).1.1
                                                              (Go.IntKind.wrap Go.IntKind.i64 ((↑(List.length (Go.Rx.G.dDrawMachRun (c, PUnit.unit)).1.1) : Int) - (1 : Int)))
                                                              [List.getD (Go.Rx.G.dDrawMachRun (c, PUnit.unit)).1.1 (Int.toNat (0 : Int)) (ByteArray.empty, Bool.false, [], PUnit.unit)])
                                                            (Go.Rx.G.dDrawMachRun (c, PUnit.unit)).1.2.1)
                                                          (0 : Int))
                                                        (Bool.false, PUnit.unit))
                                                  else Option.none
                                              else Option.none
                                          else Option.none
                                        else Option.none
                                      else Option.none
                                    else Option.none
                                  else Option.none
                                else Option.some (Bool.false, PUnit.unit)
                              else Option.some (Bool.false, PUnit.unit)
                            else Option.some (Bool.false, PUnit.unit)
                          else Option.some (Bool.false, PUnit.unit)
                        else Option.none
                      else Option.none
                    else Option.none
                  else Option.none
                else Option.none
            else
              if Go.Rx.G.fewMach (Go.Rx.G.machRun (Go.Rx.G.dDrawMachRun (c, PUnit.unit)).1.1 (Go.Rx.G.dDrawMachRun (c, PUnit.unit)).1.2.1) = Bool.true then
                Option.some
                  (Go.Rx.G.sameM (Go.Rx.G.machRun (Go.Rx.G.dDrawMachRun (c, PUnit.unit)).1.1 (Go.Rx.G.dDrawMachRun (c, PUnit.unit)).1.2.1)
                      (Go.Rx.G.machRun (Go.Rx.G.dDrawMachRun (c, PUnit.unit)).1.1 (Go.Rx.G.dDrawMachRun (c, PUnit.unit)).1.2.1),
                    PUnit.unit)
              else Option.none
          else Option.none
        else Option.none
      else Option.none
    else Option.none) := by kernel_rfl
abbrev OrdInv : PKs.den lsOrd0.ins → Prop := fun x => (x.1.length ≤ 1000 ∧ x.2.1.length ≤ 2000 ∧ 0 ≤ x.2.2.1 ∧ (x.2.2.1 < (x.1.length : Int) ∨ x.2.2.1 = 0) ∧ (x.2.1.length : Int) + x.2.2.1 ≤ 2000)
theorem stOrd (p q : Funs) (i : Int) (h : OrdInv (p, q, i, ())) : StepOk lsOrd0 OrdInv (fun x => x.2.2.1.toNat) (p, q, i, ()) (roundK cxOrd0 0 (loopIn Go.Proofs.Try.f6 0) lsOrd0 (p, q, i, ())) := by
  obtain ⟨h1, h2, h3, h4, h5⟩ := h
  have h1 : p.length ≤ 1000 := h1
  have h2 : q.length ≤ 2000 := h2
  have h3 : 0 ≤ i := h3
  have h4 : i < (p.length : Int) ∨ i = 0 := h4
  have h5 : (q.length : Int) + i ≤ 2000 := h5
  rw [rOrd0]
  by_cases hi : i > 0
  · have hlt : i < (p.length : Int) := by omega
    rw [if_pos (decide_eq_true hi), if_pos (decide_eq_true h3), if_pos (decide_eq_true hlt), if_pos (okSize_few (by omega) (by omega)), w64 (by omega) (by omega), pAt_eq]
    refine ⟨⟨h1, ?_, by show 0 ≤ i - 1; omega, .inl (by show i - 1 < (p.length : Int); omega), ?_⟩, ?_, ?_⟩
    · show (q ++ [G.pAt p i.toNat]).length ≤ 2000
      simp
      omega
    · show ((q ++ [G.pAt p i.toNat]).length : Int) + (i - 1) ≤ 2000
      simp
      omega
    · show (i - 1).toNat < i.toNat
      omega
    · show ((0, (G.tailRev p (i - 1) (q ++ [G.pAt p i.toNat]), ())), ()) = ((0, (G.tailRev p i q, ())), ())
      rw [tailRev_step p q hi]
  · rw [if_neg (by simpa using hi)]
    show ((0, (G.tailRev p i q, ())), ()) = ((0, (q, ())), ())
    rw [tailRev_end p q hi]
theorem inv_ord {x : PKs.den lsOrd0.ins} (h : decide (x.1.length ≤ 1000 ∧ x.2.1.length ≤ 1000 ∧ 0 ≤ x.2.2.1 ∧ (x.2.2.1 < (x.1.length : Int) ∨ x.2.2.1 = 0) ∧ (x.2.1.length : Int) + x.2.2.1 ≤ 2000) = true) : OrdInv x := by
  have := of_decide_eq_true h
  exact ⟨this.1, by have := this.2.1; omega, this.2.2.1, this.2.2.2.1, this.2.2.2.2⟩
theorem lpOrd0 : LpOk Go.Proofs.Try.prog cxOrd0.ntmps 0 (loopIn Go.Proofs.Try.f6 0) lsOrd0 :=
  lp_okB (cx := cxOrd0) (cxOk T0_ok T0_eq pg41_ok) mixed (by kernel_rfl) (lps_none (by kernel_rfl)) OrdInv (fun x => x.2.2.1.toNat) (fun x h => inv_ord h) (fun x h => stOrd x.1 x.2.1 x.2.2.1 h)
/-! the other order -/
def G.orderQ (p : Funs) : Funs := G.tailRev p ((p.length : Int) - 1) [G.pAt p 0]
def G.orderS (n k : Nat) : Nat := if k = 0 then 0 else n - k
theorem orderQ_len {p : Funs} (h : 1 ≤ p.length) : (G.orderQ p).length = p.length := by
  unfold G.orderQ G.tailRev
  simp
  omega
theorem orderQ_at {p : Funs} {k : Nat} (hk : k < p.length) : G.pAt (G.orderQ p) k = G.pAt p (G.orderS p.length k) := by
  unfold G.orderQ G.tailRev G.orderS
  have e : ((p.length : Int) - 1).toNat = p.length - 1 := by omega
  rw [e]
  match k, hk with
  | 0, _ => rfl
  | k + 1, hk =>
    rw [if_neg (by omega)]
    show (([G.pAt p 0] ++ (List.range (p.length - 1)).map fun j => G.pAt p (p.length - 1 - j)).getD (k + 1) (ByteArray.empty, false, [], ())) = _
    rw [getD_lt _ _ (by simp; omega), List.getElem_append_right (by simp)]
    simp only [List.length_singleton, Nat.add_sub_cancel, List.getElem_map, List.getElem_range]
    congr 1
    omega
theorem orderS_lt {n k : Nat} (h : k < n) : G.orderS n k < n := by
  unfold G.orderS
  split <;> omega
theorem orderS_inv {n k : Nat} (h : k < n) : G.orderS n (G.orderS n k) = k := by
  unfold G.orderS
  by_cases h0 : k = 0
  · simp [h0]
  · rw [if_neg h0, if_neg (by omega)]
    omega
theorem order_sim {p : Funs} (h : G.keepOk p = true) : G.Sim p (G.orderQ p) (fun k => k < p.length) (G.orderS p.length) := by
  obtain ⟨⟨k1, k2⟩, k3, k4⟩ := (keepOk_iff p).1 h
  have hl := orderQ_len k1
  have hu := funsOk_uniq k3
  have fwd : ∀ k, k < p.length → G.pAt (G.orderQ p) (G.orderS p.length k) = G.pAt p k := fun k hk => by
    rw [orderQ_at (orderS_lt hk), orderS_inv hk]
  have huq : G.Uniq (G.orderQ p) := fun i j hi hj e => by
    rw [hl] at hi hj
    rw [orderQ_at hi, orderQ_at hj] at e
    have := hu _ _ (orderS_lt hi) (orderS_lt hj) e
    rw [← orderS_inv hi, ← orderS_inv hj, this]
  refine ⟨h, (keepOk_iff _).2 ⟨by omega, uniq_funsOk huq fun k hk => ?_, (closed_iff _).2 fun k hk c hc hr => ?_⟩, by show 0 < p.length; omega, rfl, fun k hk => ⟨hk, by rw [hl]; exact orderS_lt hk, fwd k hk⟩, fun k hk c hc hr => ?_⟩
  · rw [hl] at hk
    rw [orderQ_at hk]
    exact ((funsOk_iff p).1 k3 _ (orderS_lt hk)).1
  · rw [hl] at hk
    rw [orderQ_at hk] at hc hr ⊢
    have hf := (closed_iff p).1 k4 _ (orderS_lt hk) c hc hr
    obtain ⟨g1, g2, _, _⟩ := find_ok hf
    rw [← g2, ← fwd _ g1]
    exact find_some (by rw [hl]; exact orderS_lt g1)
  · exact (find_ok ((closed_iff p).1 k4 k hk c hc hr)).1
theorem order_small {p : Funs} (h1 : 1 ≤ p.length) (h : G.smallP p = true) : G.smallP (G.orderQ p) = true := by
  obtain ⟨s1, s2⟩ := smallP_iff.1 h
  have hl := orderQ_len h1
  refine smallP_iff.2 ⟨by omega, ?_⟩
  rw [List.all_eq_true]
  intro f hf
  obtain ⟨k, hk, rfl⟩ := List.getElem_of_mem hf
  have e : (G.orderQ p)[k] = G.pAt (G.orderQ p) k := by
    unfold G.pAt
    rw [getD_lt _ _ hk]
  rw [e, orderQ_at (by omega)]
  exact smallF_at s2 (orderS_lt (by omega))
theorem sc_same {x z : Mach} (h : z.2.2.2.2.1 = x.2.2.2.2.1) : G.scOrd2 x z 0 = none := by
  unfold G.scOrd2
  rw [scan_bad]
  have : G.allFrom z.2.2.2.2.1.length (G.sameOut x z) 0 = true := by
    rw [allFrom_zero]
    intro k hk
    unfold G.sameOut
    rw [h]
    exact decide_eq_true rfl
  rw [this]
  rfl
theorem machRun_form {p : Funs} {fuel : Int} (h : ¬ (G.machRun p fuel).2.2.2.2.2.1 = 5) : G.keepOk p = true ∧ 0 ≤ fuel ∧ fuel ≤ 200 := by
  unfold G.machRun at h
  split at h
  · assumption
  · exact absurd rfl h
theorem machRun_go {p : Funs} {fuel : Int} (hs : G.smallP p = true) (hk : G.keepOk p = true ∧ 0 ≤ fuel ∧ fuel ≤ 200) : G.goM p (G.machRun p fuel) = true := by
  unfold G.machRun
  rw [if_pos hk]
  exact runM_ok _ (zeroM_ok hs hk.1)
theorem formM_few : G.fewMach G.formM = true := by kernel_rfl
theorem machRun_few {p : Funs} {fuel : Int} (hs : G.smallP p = true) : G.fewMach (G.machRun p fuel) = true := by
  by_cases hk : G.keepOk p = true ∧ 0 ≤ fuel ∧ fuel ≤ 200
  · exact goM_few (machRun_go hs hk)
  · unfold G.machRun
    rw [if_neg hk]
    exact formM_few
theorem sfLawMachOrder (c : Bytes) (h : c.all G.byteOk = true) : funK cxLawMachOrder Go.Proofs.Try.f6 spLawMachOrder.ins spLawMachOrder.out (c, ()) = some (true, ()) := by
  rw [eLawMachOrder]
  by_cases h1 : (c.length : Int) > 1048576
  · rw [if_pos (decide_eq_true h1)]
  · rw [if_neg (by simpa using h1), if_pos h]
    obtain ⟨_, p1⟩ := postDrawMachRun (c, ()) h
    generalize G.dDrawMachRun (c, ()) = r at p1 ⊢
    obtain ⟨⟨p, (fuel : Int), u⟩, w⟩ := r
    have p1 : G.funsB p = true := p1
    have hs := funsB_small p1
    have hl := ((funsB_iff p).1 p1).1
    dsimp only
    have fx := machRun_few (fuel := fuel) hs
    rw [if_pos hs, if_pos hs, if_pos fx, sameM_self]
    by_cases hx : (G.machRun p fuel).2.2.2.2.2.1 = 5
    · simp [hx, fx]
    · have hk := machRun_form hx
      obtain ⟨⟨k1, k2⟩, _⟩ := (keepOk_iff p).1 hk.1
      have hsim := order_sim hk.1
      obtain ⟨z1, z2⟩ := sim_machRun hsim hs fuel hk.2
      have hsq := order_small k1 hs
      have hgx := machRun_go hs hk
      have hgz := machRun_go hsq ⟨hsim.qok, hk.2⟩
      have e1 : IntKind.i64.wrap ((p.length : Int) - 1) = (p.length : Int) - 1 := w64 (by omega) (by omega)
      have e2 : G.tailRev p ((p.length : Int) - 1) [p.getD (Int.toNat 0) (ByteArray.empty, false, [], ())] = G.orderQ p := rfl
      have hpre : decide (p.length ≤ 1000 ∧ 1 ≤ 1000 ∧ 0 ≤ (p.length : Int) - 1 ∧ ((p.length : Int) - 1 < (p.length : Int) ∨ (p.length : Int) - 1 = 0) ∧ (1 : Int) + ((p.length : Int) - 1) ≤ 2000) = true := decide_eq_true ⟨by omega, by omega, by omega, .inl (by omega), by omega⟩
      rw [e1, e2]
      obtain ⟨⟨a1, a2⟩, _⟩ := spotOk_iff.1 (goM_iff.1 hgx).2.1
      obtain ⟨⟨b1, b2⟩, _⟩ := spotOk_iff.1 (goM_iff.1 hgz).2.1
      have hq := hsim.qok
      have nm : (G.pAt (G.orderQ p) (G.machRun (G.orderQ p) fuel).1.toNat).1 = (G.pAt p (G.machRun p fuel).1.toNat).1 := by
        rw [z1]
        show (G.pAt (G.orderQ p) ((G.orderS p.length (G.machRun p fuel).1.toNat : Nat) : Int).toNat).1 = _
        rw [show ((G.orderS p.length (G.machRun p fuel).1.toNat : Nat) : Int).toNat = G.orderS p.length (G.machRun p fuel).1.toNat by omega, (hsim.fn _ z2).2.2]
      have c1 : (G.machRun (G.orderQ p) fuel).2.2.2.2.2.1 = (G.machRun p fuel).2.2.2.2.2.1 := by rw [z1]; rfl
      have c2 : (G.machRun (G.orderQ p) fuel).2.2.1 = (G.machRun p fuel).2.2.1 := by rw [z1]; rfl
      have c3 : (G.machRun (G.orderQ p) fuel).2.2.2.2.1 = (G.machRun p fuel).2.2.2.2.1 := by rw [z1]; rfl
      have c4 := sc_same c3
      have f30 := (goM_iff.1 hgx).2.2.1.2
      have c5 : G.preOrd2 (G.machRun p fuel) (G.machRun (G.orderQ p) fuel) 0 = true := preOrd2_iff.2 ⟨⟨by omega, by omega, by rw [c3]; omega⟩, trivial, decide_eq_true (by rw [c3])⟩
      clear z1 z2
      generalize G.machRun (G.orderQ p) fuel = z at *
      generalize G.machRun p fuel = x at *
      generalize G.orderQ p = q at *
      have b3 : z.1.toNat < q.length := by omega
      have k0 : 0 < p.length := by omega
      simp only [hx, hpre, hsq, hq, c1, c2, c3, a1, a2, b1, b2, b3, c4, c5, decide_true, decide_false, if_true, Bool.not_true]
      rw [pAt_eq, pAt_eq, nm, strEq_iff]
      simp [k0, G.flag]
theorem okLawMachOrder : SpecOk Go.Proofs.Try.prog 6 spLawMachOrder :=
  fun_okB (cx := cxLawMachOrder) (F := Go.Proofs.Try.f6) (cxOk T0_ok T0_eq pg41_ok) mixed (by kernel_rfl) (by decide) (by kernel_rfl) (lps_of (l := [(0, loopIn Go.Proofs.Try.f6 0), (2, loopIn Go.Proofs.Try.f6 2)]) (by kernel_rfl) ⟨lp_at lpOrd0 rfl, lp_at lpOrd2 rfl, trivial⟩) (fun x h => sfLawMachOrder x.1 h)
end Go.Rx

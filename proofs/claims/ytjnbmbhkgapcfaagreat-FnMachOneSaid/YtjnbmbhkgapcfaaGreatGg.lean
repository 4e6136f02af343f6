/-
  THE LAW on single instructions: each does what it says.
-/
import Derived.Test.YtjnbmbhkgapcfaaGreatGf
namespace Go.Rx
open Go
set_option linter.unusedVariables false
set_option linter.unusedSimpArgs false
noncomputable abbrev pg43 : List (Nat × List Spec) := (10, [spInsSum]) :: pg42
theorem pg43_ok : PhiOk Go.Proofs.Tryz.prog pg43 := ⟨⟨okInsSum, trivial⟩, pg42_ok⟩
/-! LawMachOne -/
noncomputable abbrev spLawMachOne : Spec := ⟨[BytesP], BoolR, true, fun x => x.1.all G.byteOk, fun x => (true, ())⟩
noncomputable abbrev cxLawMachOne : Cx := mkCx T0 pg43 [] [] 281
theorem eLawMachOne (c : Bytes) : funK cxLawMachOne Go.Proofs.Tryz.f3 spLawMachOne.ins spLawMachOne.out (c, ()) =
  (if Decidable.decide ((↑(List.length c) : Int) > (1048576 : Int)) = Bool.true then Option.some (Bool.true, PUnit.unit)
  else
    if List.all c Go.Rx.G.byteOk = Bool.true then
      if (Go.Rx.G.smallP (Go.Rx.G.dDrawMachStep (c, PUnit.unit)).1.1 && Go.Rx.G.fewMach (Go.Rx.G.dDrawMachStep (c, PUnit.unit)).1.2.1) = Bool.true then
        if (Go.Rx.G.smallP (Go.Rx.G.dDrawMachStep (c, PUnit.unit)).1.1 && Go.Rx.G.fewMach (Go.Rx.G.dDrawMachStep (c, PUnit.unit)).1.2.1) = Bool.true then
          if Go.Rx.G.fewMach (Go.Rx.G.mstep (Go.Rx.G.dDrawMachStep (c, PUnit.unit)).1.1 (Go.Rx.G.dDrawMachStep (c, PUnit.unit)).1.2.1) = Bool.true then
            if
                (!Go.Rx.G.sameM (Go.Rx.G.mstep (Go.Rx.G.dDrawMachStep (c, PUnit.unit)).1.1 (Go.Rx.G.dDrawMachStep (c, PUnit.unit)).1.2.1)
                      (Go.Rx.G.mstep (Go.Rx.G.dDrawMachStep (c, PUnit.unit)).1.1 (Go.Rx.G.dDrawMachStep (c, PUnit.unit)).1.2.1)) =
                  Bool.false then
              if (Go.Rx.G.smallP (Go.Rx.G.dDrawMachStep (c, PUnit.unit)).1.1 && Go.Rx.G.fewMach (Go.Rx.G.dDrawMachStep (c, PUnit.unit)).1.2.1) = Bool.true then
                if (!Go.Rx.G.machOk (Go.Rx.G.dDrawMachStep (c, PUnit.unit)).1.1 (Go.Rx.G.dDrawMachStep (c, PUnit.unit)).1.2.1) = Bool.false then
                  if (!Decidable.decide ((Go.Rx.G.dDrawMachStep (c, PUnit.unit)).1.2.1.2.2.2.2.2.1 = (0 : Int))) = Bool.true then
                    if (Go.Rx.G.smallP (Go.Rx.G.dDrawMachStep (c, PUnit.unit)).1.1 && Go.Rx.G.fewMach (Go.Rx.G.dDrawMachStep (c, PUnit.unit)).1.2.1) = Bool.true then
                      if Go.Rx.G.fewMach (Go.Rx.G.mstep (Go.Rx.G.dDrawMachStep (c, PUnit.unit)).1.1 (Go.Rx.G.dDrawMachStep (c, PUnit.unit)).1.2.1) = Bool.true then
                        Option.some
                          (Go.Rx.G.sameM (Go.Rx.G.mstep (Go.Rx.G.dDrawMachStep (c, PUnit.unit)).1.1 (Go.Rx.G.dDrawMachStep (c, PUnit.unit)).1.2.1)
                              (Go.Rx.G.mstep (Go.Rx.G.dDrawMachStep (c, PUnit.unit)).1.1 (Go.Rx.G.dDrawMachStep (c, PUnit.unit)).1.2.1),
                            PUnit.unit)
                      else Option.none
                    else Option.none
                  else
                    if Decidable.decide ((0 : Int) ≤ (Go.Rx.G.dDrawMachStep (c, PUnit.unit)).1.2.1.1) = Bool.true then
                      if Decidable.decide ((Go.Rx.G.dDrawMachStep (c, PUnit.unit)).1.2.1.1 < (↑(List.length (Go.Rx.G.dDrawMachStep (c, PUnit.unit)).1.1) : Int)) = Bool.true then
                        if Decidable.decide ((0 : Int) ≤ (Go.Rx.G.dDrawMachStep (c, PUnit.unit)).1.2.1.2.1) = Bool.true then
                          if
                              Decidable.decide
                                  ((Go.Rx.G.dDrawMachStep (c, PUnit.unit)).1.2.1.2.1 <
                                    (↑(List.length
                                          (List.getD (Go.Rx.G.dDrawMachStep (c, PUnit.unit)).1.1 (Int.toNat (Go.Rx.G.dDrawMachStep (c, PUnit.unit)).1.2.1.1)
                                                  (ByteArray.empty, Bool.false, [], PUnit.unit)).2.2.1) :
                                      Int)) =
                                Bool.true then
                            if
                                Decidable.decide
                                    ((List.getD
                                          (List.getD (Go.Rx.G.dDrawMachStep (c, PUnit.unit)).1.1 (Int.toNat (Go.Rx.G.dDrawMachStep (c, PUnit.unit)).1.2.1.1)
                                                  (ByteArray.empty, Bool.false, [], PUnit.unit)).2.2.1
                                          (Int.toNat (Go.Rx.G.dDrawMachStep (c, PUnit.unit)).1.2.1.2.1) ((0 : Int), (0 : Int), ByteArray.empty, PUnit.unit)).1 =
                                      (1 : Int)) =
                                  Bool.true then
                              if Decidable.decide ((Go.Rx.G.mstep (Go.Rx.G.dDrawMachStep (c, PUnit.unit)).1.1 (Go.Rx.G.dDrawMachStep (c, PUnit.unit)).1.2.1).2.2.2.2.2.1 = (4 : Int)) = Bool.true then
                                if
                                    Go.Rx.G.fewMach
                                        ((Go.Rx.G.dDrawMachStep (c, PUnit.unit)).1.2.1.1, (Go.Rx.G.dDrawMachStep (c, PUnit.unit)).1.2.1.2.1,
                                          (Go.Rx.G.dDrawMachStep (c, PUnit.unit)).1.2.1.2.2.1, (Go.Rx.G.dDrawMachStep (c, PUnit.unit)).1.2.1.2.2.2.1,
                                          (Go.Rx.G.dDrawMachStep (c, PUnit.unit)).1.2.1.2.2.2.2.1, (4 : Int), PUnit.unit) =
                                      Bool.true then
                                  if
                                      Go.Rx.G.sameM
                                          ((Go.Rx.G.dDrawMachStep (c, PUnit.unit)).1.2.1.1, (Go.Rx.G.dDrawMachStep (c, PUnit.unit)).1.2.1.2.1,
                                            (Go.Rx.G.dDrawMachStep (c, PUnit.unit)).1.2.1.2.2.1, (Go.Rx.G.dDrawMachStep (c, PUnit.unit)).1.2.1.2.2.2.1,
                                            (Go.Rx.G.dDrawMachStep (c, PUnit.unit)).1.2.1.2.2.2.2.1, (4 : Int), PUnit.unit)
                                          (Go.Rx.G.mstep (Go.Rx.G.dDrawMachStep (c, PUnit.unit)).1.1 (Go.Rx.G.dDrawMachStep (c, PUnit.unit)).1.2.1) =
                                        Bool.false then
                                    if
                                        (Decidable.decide
                                              ((Go.Rx.G.mstep (Go.Rx.G.dDrawMachStep (c, PUnit.unit)).1.1 (Go.Rx.G.dDrawMachStep (c, PUnit.unit)).1.2.1).1 =
                                                (Go.Rx.G.dDrawMachStep (c, PUnit.unit)).1.2.1.1) &&
                                            (Decidable.decide
                                                ((Go.Rx.G.mstep (Go.Rx.G.dDrawMachStep (c, PUnit.unit)).1.1 (Go.Rx.G.dDrawMachStep (c, PUnit.unit)).1.2.1).2.1 =
                                                  Go.IntKind.wrap Go.IntKind.i64 ((Go.Rx.G.dDrawMachStep (c, PUnit.unit)).1.2.1.2.1 + (1 : Int))) &&
                                              Bool.true)) =
                                          Bool.true then
                                      if
                                          Decidable.decide
                                              ((↑(List.length (Go.Rx.G.mstep (Go.Rx.G.dDrawMachStep (c, PUnit.unit)).1.1 (Go.Rx.G.dDrawMachStep (c, PUnit.unit)).1.2.1).2.2.2.2.1) : Int) =
                                                Go.IntKind.wrap Go.IntKind.i64 ((↑(List.length (Go.Rx.G.dDrawMachStep (c, PUnit.unit)).1.2.1.2.2.2.2.1) : Int) + (1 : Int))) =
                                            Bool.true then
                                        if Decidable.decide ((0 : Int) ≤ (↑(List.length (Go.Rx.G.dDrawMachStep (c, PUnit.unit)).1.2.1.2.2.2.2.1) : Int)) = Bool.true then
                                          if
                                              Decidable.decide
                                                  ((↑(List.length (Go.Rx.G.dDrawMachStep (c, PUnit.unit)).1.2.1.2.2.2.2.1) : Int) <
                                                    (↑(List.length (Go.Rx.G.mstep (Go.Rx.G.dDrawMachStep (c, PUnit.unit)).1.1 (Go.Rx.G.dDrawMachStep (c, PUnit.unit)).1.2.1).2.2.2.2.1) : Int)) =
                                                Bool.true then
                                            if
                                                Decidable.decide
                                                    (Int.toNat (↑(List.length (Go.Rx.G.dDrawMachStep (c, PUnit.unit)).1.2.1.2.2.2.2.1) : Int) <
                                                      List.length (Go.Rx.G.mstep (Go.Rx.G.dDrawMachStep (c, PUnit.unit)).1.1 (Go.Rx.G.dDrawMachStep (c, PUnit.unit)).1.2.1).2.2.2.2.1) =
                                                  Bool.true then
                                              Option.some
                                                (Decidable.decide
                                                    ((List.getD (Go.Rx.G.mstep (Go.Rx.G.dDrawMachStep (c, PUnit.unit)).1.1 (Go.Rx.G.dDrawMachStep (c, PUnit.unit)).1.2.1).2.2.2.2.1
                                                          (Int.toNat (↑(List.length (Go.Rx.G.dDrawMachStep (c, PUnit.unit)).1.2.1.2.2.2.2.1) : Int)) ((0 : Int), PUnit.unit)).1 =
                                                      (Go.Rx.G.dDrawMachStep (c, PUnit.unit)).1.2.1.2.2.1),
                                                  PUnit.unit)
                                            else Option.none
                                          else Option.none
                                        else Option.none
                                      else Option.some (Bool.false, PUnit.unit)
                                    else Option.some (Bool.false, PUnit.unit)
                                  else Option.some (Bool.true, PUnit.unit)
                                else Option.none
                              else
                                if
                                    (Decidable.decide
                                          ((Go.Rx.G.mstep (Go.Rx.G.dDrawMachStep (c, PUnit.unit)).1.1 (Go.Rx.G.dDrawMachStep (c, PUnit.unit)).1.2.1).1 =
                                            (Go.Rx.G.dDrawMachStep (c, PUnit.unit)).1.2.1.1) &&
                                        (Decidable.decide
                                            ((Go.Rx.G.mstep (Go.Rx.G.dDrawMachStep (c, PUnit.unit)).1.1 (Go.Rx.G.dDrawMachStep (c, PUnit.unit)).1.2.1).2.1 =
                                              Go.IntKind.wrap Go.IntKind.i64 ((Go.Rx.G.dDrawMachStep (c, PUnit.unit)).1.2.1.2.1 + (1 : Int))) &&
                                          Bool.true)) =
                                      Bool.true then
                                  if
                                      Decidable.decide
                                          ((↑(List.length (Go.Rx.G.mstep (Go.Rx.G.dDrawMachStep (c, PUnit.unit)).1.1 (Go.Rx.G.dDrawMachStep (c, PUnit.unit)).1.2.1).2.2.2.2.1) : Int) =
                                            Go.IntKind.wrap Go.IntKind.i64 ((↑(List.length (Go.Rx.G.dDrawMachStep (c, PUnit.unit)).1.2.1.2.2.2.2.1) : Int) + (1 : Int))) =
                                        Bool.true then
                                    if Decidable.decide ((0 : Int) ≤ (↑(List.length (Go.Rx.G.dDrawMachStep (c, PUnit.unit)).1.2.1.2.2.2.2.1) : Int)) = Bool.true then
                                      if
                                          Decidable.decide
                                              ((↑(List.length (Go.Rx.G.dDrawMachStep (c, PUnit.unit)).1.2.1.2.2.2.2.1) : Int) <
                                                (↑(List.length (Go.Rx.G.mstep (Go.Rx.G.dDrawMachStep (c, PUnit.unit)).1.1 (Go.Rx.G.dDrawMachStep (c, PUnit.unit)).1.2.1).2.2.2.2.1) : Int)) =
                                            Bool.true then
                                        if
                                            Decidable.decide
                                                (Int.toNat (↑(List.length (Go.Rx.G.dDrawMachStep (c, PUnit.unit)).1.2.1.2.2.2.2.1) : Int) <
                                                  List.length (Go.Rx.G.mstep (Go.Rx.G.dDrawMachStep (c, PUnit.unit)).1.1 (Go.Rx.G.dDrawMachStep (c, PUnit.unit)).1.2.1).2.2.2.2.1) =
                                              Bool.true then
                                          Option.some
                                            (Decidable.decide
                                                ((List.getD (Go.Rx.G.mstep (Go.Rx.G.dDrawMachStep (c, PUnit.unit)).1.1 (Go.Rx.G.dDrawMachStep (c, PUnit.unit)).1.2.1).2.2.2.2.1
                                                      (Int.toNat (↑(List.length (Go.Rx.G.dDrawMachStep (c, PUnit.unit)).1.2.1.2.2.2.2.1) : Int)) ((0 : Int), PUnit.unit)).1 =
                                                  (Go.Rx.G.dDrawMachStep (c, PUnit.unit)).1.2.1.2.2.1),
                                              PUnit.unit)
                                        else Option.none
                                      else Option.none
                                    else Option.none
                                  else Option.some (Bool.false, PUnit.unit)
                                else Option.some (Bool.false, PUnit.unit)
                            else
                              if
                                  Decidable.decide
                                      ((List.getD
                                            (List.getD (Go.Rx.G.dDrawMachStep (c, PUnit.unit)).1.1 (Int.toNat (Go.Rx.G.dDrawMachStep (c, PUnit.unit)).1.2.1.1)
                                                    (ByteArray.empty, Bool.false, [], PUnit.unit)).2.2.1
                                            (Int.toNat (Go.Rx.G.dDrawMachStep (c, PUnit.unit)).1.2.1.2.1) ((0 : Int), (0 : Int), ByteArray.empty, PUnit.unit)).1 =
                                        (2 : Int)) =
                                    Bool.true then
                                if
                                    (Decidable.decide
                                          ((Go.Rx.G.mstep (Go.Rx.G.dDrawMachStep (c, PUnit.unit)).1.1 (Go.Rx.G.dDrawMachStep (c, PUnit.unit)).1.2.1).1 =
                                            (Go.Rx.G.dDrawMachStep (c, PUnit.unit)).1.2.1.1) &&
                                        (Decidable.decide
                                            ((Go.Rx.G.mstep (Go.Rx.G.dDrawMachStep (c, PUnit.unit)).1.1 (Go.Rx.G.dDrawMachStep (c, PUnit.unit)).1.2.1).2.1 =
                                              Go.IntKind.wrap Go.IntKind.i64 ((Go.Rx.G.dDrawMachStep (c, PUnit.unit)).1.2.1.2.1 + (1 : Int))) &&
                                          Bool.true)) =
                                      Bool.true then
                                  if
                                      Decidable.decide
                                          ((Go.Rx.G.mstep (Go.Rx.G.dDrawMachStep (c, PUnit.unit)).1.1 (Go.Rx.G.dDrawMachStep (c, PUnit.unit)).1.2.1).2.2.1 =
                                            Go.Rx.G.sum (Go.Rx.G.dDrawMachStep (c, PUnit.unit)).1.2.1.2.2.1
                                              (List.getD
                                                    (List.getD (Go.Rx.G.dDrawMachStep (c, PUnit.unit)).1.1 (Int.toNat (Go.Rx.G.dDrawMachStep (c, PUnit.unit)).1.2.1.1)
                                                            (ByteArray.empty, Bool.false, [], PUnit.unit)).2.2.1
                                                    (Int.toNat (Go.Rx.G.dDrawMachStep (c, PUnit.unit)).1.2.1.2.1) ((0 : Int), (0 : Int), ByteArray.empty, PUnit.unit)).2.1) =
                                        Bool.true then
                                    Option.some
                                      (Decidable.decide ((Go.Rx.G.mstep (Go.Rx.G.dDrawMachStep (c, PUnit.unit)).1.1 (Go.Rx.G.dDrawMachStep (c, PUnit.unit)).1.2.1).2.2.2.2.2.1 = (0 : Int)), PUnit.unit)
                                  else Option.some (Bool.false, PUnit.unit)
                                else Option.some (Bool.false, PUnit.unit)
                              else
                                if
                                    Decidable.decide
                                        ((List.getD
                                              (List.getD (Go.Rx.G.dDrawMachStep (c, PUnit.unit)).1.1 (Int.toNat (Go.Rx.G.dDrawMachStep (c, PUnit.unit)).1.2.1.1)
                                                      (ByteArray.empty, Bool.false, [], PUnit.unit)).2.2.1
                                              (Int.toNat (Go.Rx.G.dDrawMachStep (c, PUnit.unit)).1.2.1.2.1) ((0 : Int), (0 : Int), ByteArray.empty, PUnit.unit)).1 =
                                          (3 : Int)) =
                                      Bool.true then
                                  if Decidable.decide ((Go.Rx.G.mstep (Go.Rx.G.dDrawMachStep (c, PUnit.unit)).1.1 (Go.Rx.G.dDrawMachStep (c, PUnit.unit)).1.2.1).2.2.2.2.2.1 = (2 : Int)) = Bool.true then
                                    if Decidable.decide ((↑(List.length (Go.Rx.G.dDrawMachStep (c, PUnit.unit)).1.2.1.2.2.2.1) : Int) = (5 : Int)) = Bool.false then
                                      if Decidable.decide ((0 : Int) ≤ (Go.Rx.G.mstep (Go.Rx.G.dDrawMachStep (c, PUnit.unit)).1.1 (Go.Rx.G.dDrawMachStep (c, PUnit.unit)).1.2.1).1) = Bool.true then
                                        if
                                            Decidable.decide
                                                ((Go.Rx.G.mstep (Go.Rx.G.dDrawMachStep (c, PUnit.unit)).1.1 (Go.Rx.G.dDrawMachStep (c, PUnit.unit)).1.2.1).1 <
                                                  (↑(List.length (Go.Rx.G.dDrawMachStep (c, PUnit.unit)).1.1) : Int)) =
                                              Bool.true then
                                          if
                                              Go.Rx.strEq
                                                  (List.getD (Go.Rx.G.dDrawMachStep (c, PUnit.unit)).1.1
                                                      (Int.toNat (Go.Rx.G.mstep (Go.Rx.G.dDrawMachStep (c, PUnit.unit)).1.1 (Go.Rx.G.dDrawMachStep (c, PUnit.unit)).1.2.1).1)
                                                      (ByteArray.empty, Bool.false, [], PUnit.unit)).1
                                                  (List.getD
                                                          (List.getD (Go.Rx.G.dDrawMachStep (c, PUnit.unit)).1.1 (Int.toNat (Go.Rx.G.dDrawMachStep (c, PUnit.unit)).1.2.1.1)
                                                                  (ByteArray.empty, Bool.false, [], PUnit.unit)).2.2.1
                                                          (Int.toNat (Go.Rx.G.dDrawMachStep (c, PUnit.unit)).1.2.1.2.1) ((0 : Int), (0 : Int), ByteArray.empty, PUnit.unit)).2.2.1 =
                                                Bool.true then
                                            if Decidable.decide ((Go.Rx.G.mstep (Go.Rx.G.dDrawMachStep (c, PUnit.unit)).1.1 (Go.Rx.G.dDrawMachStep (c, PUnit.unit)).1.2.1).2.1 = (0 : Int)) = Bool.true then
                                              if Decidable.decide ((0 : Int) ≤ (↑(List.length (Go.Rx.G.dDrawMachStep (c, PUnit.unit)).1.2.1.2.2.2.1) : Int)) = Bool.true then
                                                if
                                                    Decidable.decide
                                                        ((↑(List.length (Go.Rx.G.dDrawMachStep (c, PUnit.unit)).1.2.1.2.2.2.1) : Int) <
                                                          (↑(List.length (Go.Rx.G.mstep (Go.Rx.G.dDrawMachStep (c, PUnit.unit)).1.1 (Go.Rx.G.dDrawMachStep (c, PUnit.unit)).1.2.1).2.2.2.1) : Int)) =
                                                      Bool.true then
                                                  if
                                                      Decidable.decide
                                                          (Int.toNat (↑(List.length (Go.Rx.G.dDrawMachStep (c, PUnit.unit)).1.2.1.2.2.2.1) : Int) <
                                                            List.length (Go.Rx.G.mstep (Go.Rx.G.dDrawMachStep (c, PUnit.unit)).1.1 (Go.Rx.G.dDrawMachStep (c, PUnit.unit)).1.2.1).2.2.2.1) =
                                                        Bool.true then
                                                    Option.some
                                                      (Decidable.decide
                                                            ((List.getD (Go.Rx.G.mstep (Go.Rx.G.dDrawMachStep (c, PUnit.unit)).1.1 (Go.Rx.G.dDrawMachStep (c, PUnit.unit)).1.2.1).2.2.2.1
                                                                  (Int.toNat (↑(List.length (Go.Rx.G.dDrawMachStep (c, PUnit.unit)).1.2.1.2.2.2.1) : Int)) ((0 : Int), (0 : Int), PUnit.unit)).1 =
                                                              (Go.Rx.G.dDrawMachStep (c, PUnit.unit)).1.2.1.1) &&
                                                          (Decidable.decide
                                                              ((List.getD (Go.Rx.G.mstep (Go.Rx.G.dDrawMachStep (c, PUnit.unit)).1.1 (Go.Rx.G.dDrawMachStep (c, PUnit.unit)).1.2.1).2.2.2.1
                                                                      (Int.toNat (↑(List.length (Go.Rx.G.dDrawMachStep (c, PUnit.unit)).1.2.1.2.2.2.1) : Int)) ((0 : Int), (0 : Int), PUnit.unit)).2.1 =
                                                                Go.IntKind.wrap Go.IntKind.i64 ((Go.Rx.G.dDrawMachStep (c, PUnit.unit)).1.2.1.2.1 + (1 : Int))) &&
                                                            Bool.true),
                                                        PUnit.unit)
                                                  else Option.none
                                                else Option.none
                                              else Option.none
                                            else Option.some (Bool.false, PUnit.unit)
                                          else Option.some (Bool.false, PUnit.unit)
                                        else Option.none
                                      else Option.none
                                    else Option.some (Bool.true, PUnit.unit)
                                  else
                                    if Decidable.decide ((0 : Int) ≤ (Go.Rx.G.mstep (Go.Rx.G.dDrawMachStep (c, PUnit.unit)).1.1 (Go.Rx.G.dDrawMachStep (c, PUnit.unit)).1.2.1).1) = Bool.true then
                                      if
                                          Decidable.decide
                                              ((Go.Rx.G.mstep (Go.Rx.G.dDrawMachStep (c, PUnit.unit)).1.1 (Go.Rx.G.dDrawMachStep (c, PUnit.unit)).1.2.1).1 <
                                                (↑(List.length (Go.Rx.G.dDrawMachStep (c, PUnit.unit)).1.1) : Int)) =
                                            Bool.true then
                                        if
                                            Go.Rx.strEq
                                                (List.getD (Go.Rx.G.dDrawMachStep (c, PUnit.unit)).1.1
                                                    (Int.toNat (Go.Rx.G.mstep (Go.Rx.G.dDrawMachStep (c, PUnit.unit)).1.1 (Go.Rx.G.dDrawMachStep (c, PUnit.unit)).1.2.1).1)
                                                    (ByteArray.empty, Bool.false, [], PUnit.unit)).1
                                                (List.getD
                                                        (List.getD (Go.Rx.G.dDrawMachStep (c, PUnit.unit)).1.1 (Int.toNat (Go.Rx.G.dDrawMachStep (c, PUnit.unit)).1.2.1.1)
                                                                (ByteArray.empty, Bool.false, [], PUnit.unit)).2.2.1
                                                        (Int.toNat (Go.Rx.G.dDrawMachStep (c, PUnit.unit)).1.2.1.2.1) ((0 : Int), (0 : Int), ByteArray.empty, PUnit.unit)).2.2.1 =
                                              Bool.true then
                                          if Decidable.decide ((Go.Rx.G.mstep (Go.Rx.G.dDrawMachStep (c, PUnit.unit)).1.1 (Go.Rx.G.dDrawMachStep (c, PUnit.unit)).1.2.1).2.1 = (0 : Int)) = Bool.true then
                                            if Decidable.decide ((0 : Int) ≤ (↑(List.length (Go.Rx.G.dDrawMachStep (c, PUnit.unit)).1.2.1.2.2.2.1) : Int)) = Bool.true then
                                              if
                                                  Decidable.decide
                                                      ((↑(List.length (Go.Rx.G.dDrawMachStep (c, PUnit.unit)).1.2.1.2.2.2.1) : Int) <
                                                        (↑(List.length (Go.Rx.G.mstep (Go.Rx.G.dDrawMachStep (c, PUnit.unit)).1.1 (Go.Rx.G.dDrawMachStep (c, PUnit.unit)).1.2.1).2.2.2.1) : Int)) =
                                                    Bool.true then
                                                if
                                                    Decidable.decide
                                                        (Int.toNat (↑(List.length (Go.Rx.G.dDrawMachStep (c, PUnit.unit)).1.2.1.2.2.2.1) : Int) <
                                                          List.length (Go.Rx.G.mstep (Go.Rx.G.dDrawMachStep (c, PUnit.unit)).1.1 (Go.Rx.G.dDrawMachStep (c, PUnit.unit)).1.2.1).2.2.2.1) =
                                                      Bool.true then
                                                  Option.some
                                                    (Decidable.decide
                                                          ((List.getD (Go.Rx.G.mstep (Go.Rx.G.dDrawMachStep (c, PUnit.unit)).1.1 (Go.Rx.G.dDrawMachStep (c, PUnit.unit)).1.2.1).2.2.2.1
                                                                (Int.toNat (↑(List.length (Go.Rx.G.dDrawMachStep (c, PUnit.unit)).1.2.1.2.2.2.1) : Int)) ((0 : Int), (0 : Int), PUnit.unit)).1 =
                                                            (Go.Rx.G.dDrawMachStep (c, PUnit.unit)).1.2.1.1) &&
                                                        (Decidable.decide
                                                            ((List.getD (Go.Rx.G.mstep (Go.Rx.G.dDrawMachStep (c, PUnit.unit)).1.1 (Go.Rx.G.dDrawMachStep (c, PUnit.unit)).1.2.1).2.2.2.1
                                                                    (Int.toNat (↑(List.length (Go.Rx.G.dDrawMachStep (c, PUnit.unit)).1.2.1.2.2.2.1) : Int)) ((0 : Int), (0 : Int), PUnit.unit)).2.1 =
                                                              Go.IntKind.wrap Go.IntKind.i64 ((Go.Rx.G.dDrawMachStep (c, PUnit.unit)).1.2.1.2.1 + (1 : Int))) &&
                                                          Bool.true),
                                                      PUnit.unit)
                                                else Option.none
                                              else Option.none
                                            else Option.none
                                          else Option.some (Bool.false, PUnit.unit)
                                        else Option.some (Bool.false, PUnit.unit)
                                      else Option.none
                                    else Option.none
                                else
                                  if
                                      Decidable.decide
                                          ((List.getD
                                                (List.getD (Go.Rx.G.dDrawMachStep (c, PUnit.unit)).1.1 (Int.toNat (Go.Rx.G.dDrawMachStep (c, PUnit.unit)).1.2.1.1)
                                                        (ByteArray.empty, Bool.false, [], PUnit.unit)).2.2.1
                                                (Int.toNat (Go.Rx.G.dDrawMachStep (c, PUnit.unit)).1.2.1.2.1) ((0 : Int), (0 : Int), ByteArray.empty, PUnit.unit)).1 =
                                            (4 : Int)) =
                                        Bool.true then
                                    if Decidable.decide ((0 : Int) ≤ (Go.Rx.G.mstep (Go.Rx.G.dDrawMachStep (c, PUnit.unit)).1.1 (Go.Rx.G.dDrawMachStep (c, PUnit.unit)).1.2.1).1) = Bool.true then
                                      if
                                          Decidable.decide
                                              ((Go.Rx.G.mstep (Go.Rx.G.dDrawMachStep (c, PUnit.unit)).1.1 (Go.Rx.G.dDrawMachStep (c, PUnit.unit)).1.2.1).1 <
                                                (↑(List.length (Go.Rx.G.dDrawMachStep (c, PUnit.unit)).1.1) : Int)) =
                                            Bool.true then
                                        if
                                            Go.Rx.strEq
                                                (List.getD (Go.Rx.G.dDrawMachStep (c, PUnit.unit)).1.1
                                                    (Int.toNat (Go.Rx.G.mstep (Go.Rx.G.dDrawMachStep (c, PUnit.unit)).1.1 (Go.Rx.G.dDrawMachStep (c, PUnit.unit)).1.2.1).1)
                                                    (ByteArray.empty, Bool.false, [], PUnit.unit)).1
                                                (List.getD
                                                        (List.getD (Go.Rx.G.dDrawMachStep (c, PUnit.unit)).1.1 (Int.toNat (Go.Rx.G.dDrawMachStep (c, PUnit.unit)).1.2.1.1)
                                                                (ByteArray.empty, Bool.false, [], PUnit.unit)).2.2.1
                                                        (Int.toNat (Go.Rx.G.dDrawMachStep (c, PUnit.unit)).1.2.1.2.1) ((0 : Int), (0 : Int), ByteArray.empty, PUnit.unit)).2.2.1 =
                                              Bool.true then
                                          if Decidable.decide ((Go.Rx.G.mstep (Go.Rx.G.dDrawMachStep (c, PUnit.unit)).1.1 (Go.Rx.G.dDrawMachStep (c, PUnit.unit)).1.2.1).2.1 = (0 : Int)) = Bool.true then
                                            Option.some
                                              (Decidable.decide
                                                  ((↑(List.length (Go.Rx.G.mstep (Go.Rx.G.dDrawMachStep (c, PUnit.unit)).1.1 (Go.Rx.G.dDrawMachStep (c, PUnit.unit)).1.2.1).2.2.2.1) : Int) =
                                                    (↑(List.length (Go.Rx.G.dDrawMachStep (c, PUnit.unit)).1.2.1.2.2.2.1) : Int)),
                                                PUnit.unit)
                                          else Option.some (Bool.false, PUnit.unit)
                                        else Option.some (Bool.false, PUnit.unit)
                                      else Option.none
                                    else Option.none
                                  else
                                    if
                                        Decidable.decide
                                            ((List.getD
                                                  (List.getD (Go.Rx.G.dDrawMachStep (c, PUnit.unit)).1.1 (Int.toNat (Go.Rx.G.dDrawMachStep (c, PUnit.unit)).1.2.1.1)
                                                          (ByteArray.empty, Bool.false, [], PUnit.unit)).2.2.1
                                                  (Int.toNat (Go.Rx.G.dDrawMachStep (c, PUnit.unit)).1.2.1.2.1) ((0 : Int), (0 : Int), ByteArray.empty, PUnit.unit)).1 =
                                              (5 : Int)) =
                                          Bool.true then
                                      if Decidable.decide ((Go.Rx.G.dDrawMachStep (c, PUnit.unit)).1.2.1.2.2.1 > (0 : Int)) = Bool.true then
                                        if Decidable.decide ((0 : Int) ≤ (Go.Rx.G.mstep (Go.Rx.G.dDrawMachStep (c, PUnit.unit)).1.1 (Go.Rx.G.dDrawMachStep (c, PUnit.unit)).1.2.1).1) = Bool.true then
                                          if
                                              Decidable.decide
                                                  ((Go.Rx.G.mstep (Go.Rx.G.dDrawMachStep (c, PUnit.unit)).1.1 (Go.Rx.G.dDrawMachStep (c, PUnit.unit)).1.2.1).1 <
                                                    (↑(List.length (Go.Rx.G.dDrawMachStep (c, PUnit.unit)).1.1) : Int)) =
                                                Bool.true then
                                            if
                                                Go.Rx.strEq
                                                    (List.getD (Go.Rx.G.dDrawMachStep (c, PUnit.unit)).1.1
                                                        (Int.toNat (Go.Rx.G.mstep (Go.Rx.G.dDrawMachStep (c, PUnit.unit)).1.1 (Go.Rx.G.dDrawMachStep (c, PUnit.unit)).1.2.1).1)
                                                        (ByteArray.empty, Bool.false, [], PUnit.unit)).1
                                                    (List.getD
                                                            (List.getD (Go.Rx.G.dDrawMachStep (c, PUnit.unit)).1.1 (Int.toNat (Go.Rx.G.dDrawMachStep (c, PUnit.unit)).1.2.1.1)
                                                                    (ByteArray.empty, Bool.false, [], PUnit.unit)).2.2.1
                                                            (Int.toNat (Go.Rx.G.dDrawMachStep (c, PUnit.unit)).1.2.1.2.1) ((0 : Int), (0 : Int), ByteArray.empty, PUnit.unit)).2.2.1 =
                                                  Bool.true then
                                              if
                                                  Decidable.decide ((Go.Rx.G.mstep (Go.Rx.G.dDrawMachStep (c, PUnit.unit)).1.1 (Go.Rx.G.dDrawMachStep (c, PUnit.unit)).1.2.1).2.1 = (0 : Int)) =
                                                    Bool.false then
                                                if Decidable.decide ((Go.Rx.G.dDrawMachStep (c, PUnit.unit)).1.2.1.2.2.1 ≤ (0 : Int)) = Bool.true then
                                                  Option.some
                                                    (Decidable.decide
                                                          ((Go.Rx.G.mstep (Go.Rx.G.dDrawMachStep (c, PUnit.unit)).1.1 (Go.Rx.G.dDrawMachStep (c, PUnit.unit)).1.2.1).1 =
                                                            (Go.Rx.G.dDrawMachStep (c, PUnit.unit)).1.2.1.1) &&
                                                        (Decidable.decide
                                                            ((Go.Rx.G.mstep (Go.Rx.G.dDrawMachStep (c, PUnit.unit)).1.1 (Go.Rx.G.dDrawMachStep (c, PUnit.unit)).1.2.1).2.1 =
                                                              Go.IntKind.wrap Go.IntKind.i64 ((Go.Rx.G.dDrawMachStep (c, PUnit.unit)).1.2.1.2.1 + (1 : Int))) &&
                                                          Bool.true),
                                                      PUnit.unit)
                                                else Option.some (Bool.false, PUnit.unit)
                                              else Option.some (Bool.true, PUnit.unit)
                                            else
                                              if Decidable.decide ((Go.Rx.G.dDrawMachStep (c, PUnit.unit)).1.2.1.2.2.1 ≤ (0 : Int)) = Bool.true then
                                                Option.some
                                                  (Decidable.decide
                                                        ((Go.Rx.G.mstep (Go.Rx.G.dDrawMachStep (c, PUnit.unit)).1.1 (Go.Rx.G.dDrawMachStep (c, PUnit.unit)).1.2.1).1 =
                                                          (Go.Rx.G.dDrawMachStep (c, PUnit.unit)).1.2.1.1) &&
                                                      (Decidable.decide
                                                          ((Go.Rx.G.mstep (Go.Rx.G.dDrawMachStep (c, PUnit.unit)).1.1 (Go.Rx.G.dDrawMachStep (c, PUnit.unit)).1.2.1).2.1 =
                                                            Go.IntKind.wrap Go.IntKind.i64 ((Go.Rx.G.dDrawMachStep (c, PUnit.unit)).1.2.1.2.1 + (1 : Int))) &&
                                                        Bool.true),
                                                    PUnit.unit)
                                              else Option.some (Bool.false, PUnit.unit)
                                          else Option.none
                                        else Option.none
                                      else
                                        if Decidable.decide ((Go.Rx.G.dDrawMachStep (c, PUnit.unit)).1.2.1.2.2.1 ≤ (0 : Int)) = Bool.true then
                                          Option.some
                                            (Decidable.decide
                                                  ((Go.Rx.G.mstep (Go.Rx.G.dDrawMachStep (c, PUnit.unit)).1.1 (Go.Rx.G.dDrawMachStep (c, PUnit.unit)).1.2.1).1 =
                                                    (Go.Rx.G.dDrawMachStep (c, PUnit.unit)).1.2.1.1) &&
                                                (Decidable.decide
                                                    ((Go.Rx.G.mstep (Go.Rx.G.dDrawMachStep (c, PUnit.unit)).1.1 (Go.Rx.G.dDrawMachStep (c, PUnit.unit)).1.2.1).2.1 =
                                                      Go.IntKind.wrap Go.IntKind.i64 ((Go.Rx.G.dDrawMachStep (c, PUnit.unit)).1.2.1.2.1 + (1 : Int))) &&
                                                  Bool.true),
                                              PUnit.unit)
                                        else Option.some (Bool.false, PUnit.unit)
                                    else
                                      if
                                          Decidable.decide
                                              ((List.getD
                                                    (List.getD (Go.Rx.G.dDrawMachStep (c, PUnit.unit)).1.1 (Int.toNat (Go.Rx.G.dDrawMachStep (c, PUnit.unit)).1.2.1.1)
                                                            (ByteArray.empty, Bool.false, [], PUnit.unit)).2.2.1
                                                    (Int.toNat (Go.Rx.G.dDrawMachStep (c, PUnit.unit)).1.2.1.2.1) ((0 : Int), (0 : Int), ByteArray.empty, PUnit.unit)).1 =
                                                (6 : Int)) =
                                            Bool.true then
                                        if Decidable.decide ((↑(List.length (Go.Rx.G.dDrawMachStep (c, PUnit.unit)).1.2.1.2.2.2.1) : Int) = (0 : Int)) = Bool.true then
                                          if
                                              Decidable.decide ((Go.Rx.G.mstep (Go.Rx.G.dDrawMachStep (c, PUnit.unit)).1.1 (Go.Rx.G.dDrawMachStep (c, PUnit.unit)).1.2.1).2.2.2.2.2.1 = (3 : Int)) =
                                                Bool.false then
                                            if Decidable.decide ((↑(List.length (Go.Rx.G.dDrawMachStep (c, PUnit.unit)).1.2.1.2.2.2.1) : Int) > (0 : Int)) = Bool.true then
                                              if Decidable.decide ((0 : Int) ≤ Go.IntKind.wrap Go.IntKind.i64 ((↑(List.length (Go.Rx.G.dDrawMachStep (c, PUnit.unit)).1.2.1.2.2.2.1) : Int) - (1 : Int))) = Bool.true then
                                                if
                                                    Decidable.decide
                                                        (Go.IntKind.wrap Go.IntKind.i64 ((↑(List.length (Go.Rx.G.dDrawMachStep (c, PUnit.unit)).1.2.1.2.2.2.1) : Int) - (1 : Int)) <
                                                          (↑(List.length (Go.Rx.G.dDrawMachStep (c, PUnit.unit)).1.2.1.2.2.2.1) : Int)) =
                                                      Bool.true then
                                                  if
                                                      (Decidable.decide
                                                            ((Go.Rx.G.mstep (Go.Rx.G.dDrawMachStep (c, PUnit.unit)).1.1 (Go.Rx.G.dDrawMachStep (c, PUnit.unit)).1.2.1).1 =
                                                              (List.getD (Go.Rx.G.dDrawMachStep (c, PUnit.unit)).1.2.1.2.2.2.1
                                                                  (Int.toNat (Go.IntKind.wrap Go.IntKind.i64 ((↑(List.length (Go.Rx.G.dDrawMachStep (c, PUnit.unit)).1.2.1.2.2.2.1) : Int) - (1 : Int))))
                                                                  ((0 : Int), (0 : Int), PUnit.unit)).1) &&
                                                          (Decidable.decide
                                                              ((Go.Rx.G.mstep (Go.Rx.G.dDrawMachStep (c, PUnit.unit)).1.1 (Go.Rx.G.dDrawMachStep (c, PUnit.unit)).1.2.1).2.1 =
                                                                (List.getD (Go.Rx.G.dDrawMachStep (c, PUnit.unit)).1.2.1.2.2.2.1
                                                                      (Int.toNat (Go.IntKind.wrap Go.IntKind.i64 ((↑(List.length (Go.Rx.G.dDrawMachStep (c, PUnit.unit)).1.2.1.2.2.2.1) : Int) - (1 : Int))))
                                                                      ((0 : Int), (0 : Int), PUnit.unit)).2.1) &&
                                                            Bool.true)) =
                                                        Bool.true then
                                                    Option.some
                                                      (Decidable.decide
                                                          ((↑(List.length (Go.Rx.G.mstep (Go.Rx.G.dDrawMachStep (c, PUnit.unit)).1.1 (Go.Rx.G.dDrawMachStep (c, PUnit.unit)).1.2.1).2.2.2.1) : Int) =
                                                            Go.IntKind.wrap Go.IntKind.i64 ((↑(List.length (Go.Rx.G.dDrawMachStep (c, PUnit.unit)).1.2.1.2.2.2.1) : Int) - (1 : Int))),
                                                        PUnit.unit)
                                                  else Option.some (Bool.false, PUnit.unit)
                                                else Option.none
                                              else Option.none
                                            else Option.some (Bool.false, PUnit.unit)
                                          else Option.some (Bool.true, PUnit.unit)
                                        else
                                          if Decidable.decide ((↑(List.length (Go.Rx.G.dDrawMachStep (c, PUnit.unit)).1.2.1.2.2.2.1) : Int) > (0 : Int)) = Bool.true then
                                            if Decidable.decide ((0 : Int) ≤ Go.IntKind.wrap Go.IntKind.i64 ((↑(List.length (Go.Rx.G.dDrawMachStep (c, PUnit.unit)).1.2.1.2.2.2.1) : Int) - (1 : Int))) = Bool.true then
                                              if
                                                  Decidable.decide
                                                      (Go.IntKind.wrap Go.IntKind.i64 ((↑(List.length (Go.Rx.G.dDrawMachStep (c, PUnit.unit)).1.2.1.2.2.2.1) : Int) - (1 : Int)) <
                                                        (↑(List.length (Go.Rx.G.dDrawMachStep (c, PUnit.unit)).1.2.1.2.2.2.1) : Int)) =
                                                    Bool.true then
                                                if
                                                    (Decidable.decide
                                                          ((Go.Rx.G.mstep (Go.Rx.G.dDrawMachStep (c, PUnit.unit)).1.1 (Go.Rx.G.dDrawMachStep (c, PUnit.unit)).1.2.1).1 =
                                                            (List.getD (Go.Rx.G.dDrawMachStep (c, PUnit.unit)).1.2.1.2.2.2.1
                                                                (Int.toNat (Go.IntKind.wrap Go.IntKind.i64 ((↑(List.length (Go.Rx.G.dDrawMachStep (c, PUnit.unit)).1.2.1.2.2.2.1) : Int) - (1 : Int))))
                                                                ((0 : Int), (0 : Int), PUnit.unit)).1) &&
                                                        (Decidable.decide
                                                            ((Go.Rx.G.mstep (Go.Rx.G.dDrawMachStep (c, PUnit.unit)).1.1 (Go.Rx.G.dDrawMachStep (c, PUnit.unit)).1.2.1).2.1 =
                                                              (List.getD (Go.Rx.G.dDrawMachStep (c, PUnit.unit)).1.2.1.2.2.2.1
                                                                    (Int.toNat (Go.IntKind.wrap Go.IntKind.i64 ((↑(List.length (Go.Rx.G.dDrawMachStep (c, PUnit.unit)).1.2.1.2.2.2.1) : Int) - (1 : Int))))
                                                                    ((0 : Int), (0 : Int), PUnit.unit)).2.1) &&
                                                          Bool.true)) =
                                                      Bool.true then
                                                  Option.some
                                                    (Decidable.decide
                                                        ((↑(List.length (Go.Rx.G.mstep (Go.Rx.G.dDrawMachStep (c, PUnit.unit)).1.1 (Go.Rx.G.dDrawMachStep (c, PUnit.unit)).1.2.1).2.2.2.1) : Int) =
                                                          Go.IntKind.wrap Go.IntKind.i64 ((↑(List.length (Go.Rx.G.dDrawMachStep (c, PUnit.unit)).1.2.1.2.2.2.1) : Int) - (1 : Int))),
                                                      PUnit.unit)
                                                else Option.some (Bool.false, PUnit.unit)
                                              else Option.none
                                            else Option.none
                                          else Option.some (Bool.false, PUnit.unit)
                                      else
                                        if
                                            Decidable.decide ((Go.Rx.G.mstep (Go.Rx.G.dDrawMachStep (c, PUnit.unit)).1.1 (Go.Rx.G.dDrawMachStep (c, PUnit.unit)).1.2.1).2.2.2.2.2.1 = (1 : Int)) =
                                              Bool.true then
                                          Option.some
                                            (Decidable.decide
                                                  ((Go.Rx.G.mstep (Go.Rx.G.dDrawMachStep (c, PUnit.unit)).1.1 (Go.Rx.G.dDrawMachStep (c, PUnit.unit)).1.2.1).1 =
                                                    (Go.Rx.G.dDrawMachStep (c, PUnit.unit)).1.2.1.1) &&
                                                (Decidable.decide
                                                    ((Go.Rx.G.mstep (Go.Rx.G.dDrawMachStep (c, PUnit.unit)).1.1 (Go.Rx.G.dDrawMachStep (c, PUnit.unit)).1.2.1).2.1 =
                                                      (Go.Rx.G.dDrawMachStep (c, PUnit.unit)).1.2.1.2.1) &&
                                                  Bool.true),
                                              PUnit.unit)
                                        else Option.some (Bool.false, PUnit.unit)
                          else Option.none
                        else Option.none
                      else Option.none
                    else Option.none
                else
                  if (Go.Rx.G.smallP (Go.Rx.G.dDrawMachStep (c, PUnit.unit)).1.1 && Go.Rx.G.fewMach (Go.Rx.G.dDrawMachStep (c, PUnit.unit)).1.2.1) = Bool.true then
                    if Go.Rx.G.fewMach (Go.Rx.G.mstep (Go.Rx.G.dDrawMachStep (c, PUnit.unit)).1.1 (Go.Rx.G.dDrawMachStep (c, PUnit.unit)).1.2.1) = Bool.true then
                      Option.some
                        (Go.Rx.G.sameM (Go.Rx.G.mstep (Go.Rx.G.dDrawMachStep (c, PUnit.unit)).1.1 (Go.Rx.G.dDrawMachStep (c, PUnit.unit)).1.2.1)
                            (Go.Rx.G.mstep (Go.Rx.G.dDrawMachStep (c, PUnit.unit)).1.1 (Go.Rx.G.dDrawMachStep (c, PUnit.unit)).1.2.1),
                          PUnit.unit)
                    else Option.none
                  else Option.none
              else Option.none
            else
              if (Go.Rx.G.smallP (Go.Rx.G.dDrawMachStep (c, PUnit.unit)).1.1 && Go.Rx.G.fewMach (Go.Rx.G.dDrawMachStep (c, PUnit.unit)).1.2.1) = Bool.true then
                if Go.Rx.G.fewMach (Go.Rx.G.mstep (Go.Rx.G.dDrawMachStep (c, PUnit.unit)).1.1 (Go.Rx.G.dDrawMachStep (c, PUnit.unit)).1.2.1) = Bool.true then
                  Option.some
                    (Go.Rx.G.sameM (Go.Rx.G.mstep (Go.Rx.G.dDrawMachStep (c, PUnit.unit)).1.1 (Go.Rx.G.dDrawMachStep (c, PUnit.unit)).1.2.1)
                        (Go.Rx.G.mstep (Go.Rx.G.dDrawMachStep (c, PUnit.unit)).1.1 (Go.Rx.G.dDrawMachStep (c, PUnit.unit)).1.2.1),
                      PUnit.unit)
                else Option.none
              else Option.none
          else Option.none
        else Option.none
      else Option.none
    else Option.none) := by kernel_rfl
theorem sfLawMachOne (c : Bytes) (h : c.all G.byteOk = true) : funK cxLawMachOne Go.Proofs.Tryz.f3 spLawMachOne.ins spLawMachOne.out (c, ()) = some (true, ()) := by
  rw [eLawMachOne]
  by_cases h1 : (c.length : Int) > 1048576
  · rw [if_pos (decide_eq_true h1)]
  · rw [if_neg (by simpa using h1), if_pos h]
    obtain ⟨_, p1, p2, p3⟩ := postDrawMachStep (c, ()) h
    generalize G.dDrawMachStep (c, ()) = r at p1 p2 p3 ⊢
    obtain ⟨⟨p, m, u⟩, w⟩ := r
    have p1 : G.funsB p = true := p1
    have p2 : m.2.2.2.1.length ≤ 6 := p2
    have p3 : m.2.2.2.2.1.length ≤ 30 := p3
    have hs := funsB_small p1
    dsimp only
    obtain ⟨(m1 : Int), (m2 : Int), (m3 : Int), (m4 : Spots), (m5 : Ints), (m6 : Int), _⟩ := m
    have p2 : m4.length ≤ 6 := p2
    have p3 : m5.length ≤ 30 := p3
    have few : ∀ f : Int, G.fewMach (m1, m2, m3, m4, m5, f, ()) = true := fun f => fewMach_iff.2 ⟨by show m4.length ≤ _; omega, by show m5.length ≤ _; omega⟩
    have f1 : (G.smallP p && G.fewMach (m1, m2, m3, m4, m5, m6, ())) = true := by rw [Bool.and_eq_true]; exact ⟨hs, few m6⟩
    have fx := mstep_few hs (few m6)
    rw [if_pos f1, if_pos f1, if_pos fx, sameM_self, if_pos (by rfl), if_pos f1]
    cases hm : G.machOk p (m1, m2, m3, m4, m5, m6, ()) with
    | false => simp [f1, fx]
    | true =>
      rw [if_pos (by rfl)]
      by_cases h6 : m6 = 0
      · subst h6
        have hg := machOk_go hs hm
        have hx : G.mstep p (m1, m2, m3, m4, m5, 0, ()) = G.stepM p (m1, m2, m3, m4, m5, 0, ()) := by
          unfold G.mstep
          rw [if_pos hm, if_pos rfl]
        obtain ⟨⟨_, hk⟩, g2, ⟨g3, g4⟩, g5⟩ := goM_iff.1 hg
        obtain ⟨⟨s1, s2⟩, s3, s4⟩ := spotOk_iff.1 g2
        obtain ⟨i1, i2, i3⟩ := ins_facts hk g2
        obtain ⟨q0, q1, q2, q3, q4⟩ := goM_mid hg
        have s1 : 0 ≤ m1 := s1
        have s2 : m1 < (p.length : Int) := s2
        have s3 : 0 ≤ m2 := s3
        have s4 : m2 < ((G.pAt p m1.toNat).2.2.1.length : Int) := s4
        have g3 : m4.length ≤ 5 := g3
        have q2 : m2 ≤ 10 := q2
        have hw : IntKind.i64.wrap (m2 + 1) = m2 + 1 := w64 (by omega) (by omega)
        have hl5 : IntKind.i64.wrap ((m5.length : Int) + 1) = (m5.length : Int) + 1 := w64 (by omega) (by omega)
        have hl4 : IntKind.i64.wrap ((m4.length : Int) - 1) = (m4.length : Int) - 1 := w64 (by omega) (by omega)
        have hfd : (G.insOf p m1 m2).1 = 3 ∨ (G.insOf p m1 m2).1 = 4 ∨ (G.insOf p m1 m2).1 = 5 → 0 ≤ G.find p (G.insOf p m1 m2).2.2.1 ∧ G.find p (G.insOf p m1 m2).2.2.1 < (p.length : Int) ∧ (G.pAt p (G.find p (G.insOf p m1 m2).2.2.1).toNat).1 = (G.insOf p m1 m2).2.2.1 := fun e => by
          obtain ⟨e1, e2, e3, e4⟩ := find_ok (i2 e).1
          exact ⟨e3, e4, e2⟩
        rw [hx, pAt_eq, insAt_eq, show G.insAt (G.pAt p m1.toNat).2.2.1 m2.toNat = G.insOf p m1 m2 from rfl, if_neg (by show ¬ (!decide ((0 : Int) = 0)) = true; decide), if_pos (decide_eq_true s1), if_pos (decide_eq_true s2), if_pos (decide_eq_true s3), if_pos (decide_eq_true s4), hw, hl5, hl4]
        unfold G.stepM
        rw [show G.insOf p (m1, m2, m3, m4, m5, (0 : Int), ()).1 (m1, m2, m3, m4, m5, (0 : Int), ()).2.1 = G.insOf p m1 m2 from rfl]
        have i1 : (G.insOf p m1 m2).1 = 1 ∨ (G.insOf p m1 m2).1 = 2 ∨ (G.insOf p m1 m2).1 = 3 ∨ (G.insOf p m1 m2).1 = 4 ∨ (G.insOf p m1 m2).1 = 5 ∨ (G.insOf p m1 m2).1 = 6 ∨ (G.insOf p m1 m2).1 = 7 := i1
        clear i2 i3 hx fx f1 hm hg
        generalize G.insOf p m1 m2 = x at i1 hfd ⊢
        obtain ⟨op, n, s, us⟩ := x
        dsimp only at i1 hfd ⊢
        generalize G.find p s = t at hfd ⊢
        simp only [pAt_eq, strEq_iff]
        rcases i1 with rfl | rfl | rfl | rfl | rfl | rfl | rfl
        · by_cases c5 : 30 ≤ m5.length
          · have hX : G.stepI 1 n t (m1, m2, m3, m4, m5, 0, ()) = (m1, m2, m3, m4, m5, 4, ()) := if_pos c5
            rw [hX]
            simp [few, sameM_self]
          · have hX : G.stepI 1 n t (m1, m2, m3, m4, m5, 0, ()) = (m1, m2 + 1, m3, m4, m5 ++ [(m3, ())], 0, ()) := if_neg c5
            rw [hX]
            simp
            omega
        · have hX : G.stepI 2 n t (m1, m2, m3, m4, m5, 0, ()) = (m1, m2 + 1, G.sum m3 n, m4, m5, 0, ()) := rfl
          rw [hX]
          simp
        · obtain ⟨t1, t2, t3⟩ := hfd (by omega)
          by_cases c5 : 5 ≤ m4.length
          · have hX : G.stepI 3 n t (m1, m2, m3, m4, m5, 0, ()) = (m1, m2, m3, m4, m5, 2, ()) := if_pos c5
            have e5 : m4.length = 5 := by omega
            rw [hX]
            simp [e5]
          · have hX : G.stepI 3 n t (m1, m2, m3, m4, m5, 0, ()) = (t, 0, m3, m4 ++ [(m1, m2 + 1, ())], m5, 0, ()) := if_neg c5
            rw [hX]
            simp [t1, t2, t3]
            omega
        · obtain ⟨t1, t2, t3⟩ := hfd (by omega)
          have hX : G.stepI 4 n t (m1, m2, m3, m4, m5, 0, ()) = (t, 0, m3, m4, m5, 0, ()) := rfl
          rw [hX]
          simp [t1, t2, t3]
        · obtain ⟨t1, t2, t3⟩ := hfd (by omega)
          by_cases ca : m3 > 0
          · have hX : G.stepI 5 n t (m1, m2, m3, m4, m5, 0, ()) = (t, 0, m3, m4, m5, 0, ()) := if_pos ca
            rw [hX]
            simp [t1, t2, t3, ca]
          · have hX : G.stepI 5 n t (m1, m2, m3, m4, m5, 0, ()) = (m1, m2 + 1, m3, m4, m5, 0, ()) := if_neg ca
            have cb : m3 ≤ 0 := by omega
            rw [hX]
            simp [ca, cb]
        · by_cases cs : m4.length = 0
          · have hX : G.stepI 6 n t (m1, m2, m3, m4, m5, 0, ()) = (m1, m2, m3, m4, m5, 3, ()) := if_pos cs
            rw [hX]
            simp [cs]
          · have hX : G.stepI 6 n t (m1, m2, m3, m4, m5, 0, ()) = ((m4.getD (m4.length - 1) (0, 0, ())).1, (m4.getD (m4.length - 1) (0, 0, ())).2.1, m3, m4.take (m4.length - 1), m5, 0, ()) := if_neg cs
            rw [hX]
            have e1 : ((m4.length : Int) - 1).toNat = m4.length - 1 := by omega
            have e2 : (0 : Int) ≤ (m4.length : Int) - 1 := by omega
            have e3 : (m4.length : Int) - 1 < (m4.length : Int) := by omega
            have e4 : (m4.length : Int) > 0 := by omega
            have e5 : ¬ (m4.length : Int) = 0 := by omega
            have e6 : (((m4.take (m4.length - 1)).length : Nat) : Int) = (m4.length : Int) - 1 := by rw [List.length_take]; omega
            simp only [e1, e2, e3, e4, e5, e6, decide_true, decide_false, if_true]
            simp
        · have hX : G.stepI 7 n t (m1, m2, m3, m4, m5, 0, ()) = (m1, m2, m3, m4, m5, 1, ()) := rfl
          rw [hX]
          simp
      · rw [if_pos (by simpa using h6), if_pos f1, if_pos fx]
theorem okLawMachOne : SpecOk Go.Proofs.Tryz.prog 3 spLawMachOne :=
  fun_okB (cx := cxLawMachOne) (F := Go.Proofs.Tryz.f3) (cxOk T0_ok T0_eq pg43_ok) mixed (by kernel_rfl) (by decide) (by kernel_rfl) (lps_none (by kernel_rfl)) (fun x h => sfLawMachOne x.1 h)
end Go.Rx

/-
  DRAWS: units without names that are there already; where a name is; names put in order.
-/
import Derived.Test.YtoagkidolpcigaaHc
namespace Go.Rx
open Go
set_option linter.unusedVariables false
set_option linter.unusedSimpArgs false
/-! ThinL2: a loop -/
noncomputable abbrev ls0ThinL2 : LSpec := ⟨[0, 4, 5, 6, 7], [4, 6], [UnitsSP, .c (.own strT), IntP, FunsO, IntP], [.c (.own strT), FunsO], true, fun x => decide (x.1.length ≤ 100 ∧ 0 ≤ x.2.2.1 ∧ x.2.2.1 < (x.1.length : Int) ∧ 0 ≤ x.2.2.2.2.1 ∧ x.2.2.2.2.1 ≤ 3 ∧ (x.2.1.length : Int) ≤ 1000 + x.2.2.2.2.1 ∧ (x.2.2.2.1.length : Int) ≤ x.2.2.2.2.1) && x.1.all G.unitD, fun x => ((0, PKs.zero _), Bxs.zero _)⟩
noncomputable abbrev cxThinL2 : Cx := mkCx T0 pd9 [] [] 73
theorem rThinL2 (us : Units) (names : Strs) (i : Int) (u : Funs) (k : Int) : roundK cxThinL2 2 (loopIn Go.Proofs.Try.f106 2) ls0ThinL2 (us, names, i, u, k, ()) =
  (if Decidable.decide ((0 : Int) ≤ i) = Bool.true then
    if Decidable.decide (i < (↑(List.length us) : Int)) = Bool.true then
      if Decidable.decide (k < (↑(List.length (List.getD us (Int.toNat i) ([], PUnit.unit)).1) : Int)) = Bool.true then
        if Decidable.decide ((0 : Int) ≤ i) = Bool.true then
          if Decidable.decide (i < (↑(List.length us) : Int)) = Bool.true then
            if Decidable.decide ((0 : Int) ≤ k) = Bool.true then
              if Decidable.decide (k < (↑(List.length (List.getD us (Int.toNat i) ([], PUnit.unit)).1) : Int)) = Bool.true then
                if (List.getD (List.getD us (Int.toNat i) ([], PUnit.unit)).1 (Int.toNat k) (ByteArray.empty, Bool.false, [], PUnit.unit)).2.1 = Bool.false then
                  if Decidable.decide ((0 : Int) ≤ i) = Bool.true then
                    if Decidable.decide (i < (↑(List.length us) : Int)) = Bool.true then
                      if Decidable.decide ((0 : Int) ≤ k) = Bool.true then
                        if Decidable.decide (k < (↑(List.length (List.getD us (Int.toNat i) ([], PUnit.unit)).1) : Int)) = Bool.true then
                          if Go.Rx.G.few (List.length names) = Bool.true then
                            if
                                (!Go.Rx.G.hasS names (List.getD (List.getD us (Int.toNat i) ([], PUnit.unit)).1 (Int.toNat k) (ByteArray.empty, Bool.false, [], PUnit.unit)).1) =
                                  Bool.true then
                              if Decidable.decide ((0 : Int) ≤ i) = Bool.true then
                                if Decidable.decide (i < (↑(List.length us) : Int)) = Bool.true then
                                  if Decidable.decide ((0 : Int) ≤ k) = Bool.true then
                                    if Decidable.decide (k < (↑(List.length (List.getD us (Int.toNat i) ([], PUnit.unit)).1) : Int)) = Bool.true then
                                      if Go.Rx.okSize (48 : Nat) (List.length u + (1 : Nat)) = Bool.true then
                                        if Decidable.decide ((0 : Int) ≤ i) = Bool.true then
                                          if Decidable.decide (i < (↑(List.length us) : Int)) = Bool.true then
                                            if Decidable.decide ((0 : Int) ≤ k) = Bool.true then
                                              if Decidable.decide (k < (↑(List.length (List.getD us (Int.toNat i) ([], PUnit.unit)).1) : Int)) = Bool.true then
                                                if Go.Rx.okSize (16 : Nat) (List.length names + (1 : Nat)) = Bool.true then
                                                  Option.some
                                                    (Go.Rx.LRes.go
                                                      (us,
                                                        names ++
                                                          [((List.getD (List.getD us (Int.toNat i) ([], PUnit.unit)).1 (Int.toNat k) (ByteArray.empty, Bool.false, [], PUnit.unit)).1, PUnit.unit)],
                                                        i,
                                                        u ++ [List.getD (List.getD us (Int.toNat i) ([], PUnit.unit)).1 (Int.toNat k) (ByteArray.empty, Bool.false, [], PUnit.unit)],
                                                        Go.IntKind.wrap Go.IntKind.i64 (k + (1 : Int)), PUnit.unit))
                                                else Option.none
                                              else Option.none
                                            else Option.none
                                          else Option.none
                                        else Option.none
                                      else Option.none
                                    else Option.none
                                  else Option.none
                                else Option.none
                              else Option.none
                            else Option.some (Go.Rx.LRes.go (us, names, i, u, Go.IntKind.wrap Go.IntKind.i64 (k + (1 : Int)), PUnit.unit))
                          else Option.none
                        else Option.none
                      else Option.none
                    else Option.none
                  else Option.none
                else
                  if Decidable.decide ((0 : Int) ≤ i) = Bool.true then
                    if Decidable.decide (i < (↑(List.length us) : Int)) = Bool.true then
                      if Decidable.decide ((0 : Int) ≤ k) = Bool.true then
                        if Decidable.decide (k < (↑(List.length (List.getD us (Int.toNat i) ([], PUnit.unit)).1) : Int)) = Bool.true then
                          if Go.Rx.okSize (48 : Nat) (List.length u + (1 : Nat)) = Bool.true then
                            if Decidable.decide ((0 : Int) ≤ i) = Bool.true then
                              if Decidable.decide (i < (↑(List.length us) : Int)) = Bool.true then
                                if Decidable.decide ((0 : Int) ≤ k) = Bool.true then
                                  if Decidable.decide (k < (↑(List.length (List.getD us (Int.toNat i) ([], PUnit.unit)).1) : Int)) = Bool.true then
                                    if Go.Rx.okSize (16 : Nat) (List.length names + (1 : Nat)) = Bool.true then
                                      Option.some
                                        (Go.Rx.LRes.go
                                          (us,
                                            names ++
                                              [((List.getD (List.getD us (Int.toNat i) ([], PUnit.unit)).1 (Int.toNat k) (ByteArray.empty, Bool.false, [], PUnit.unit)).1, PUnit.unit)],
                                            i, u ++ [List.getD (List.getD us (Int.toNat i) ([], PUnit.unit)).1 (Int.toNat k) (ByteArray.empty, Bool.false, [], PUnit.unit)],
                                            Go.IntKind.wrap Go.IntKind.i64 (k + (1 : Int)), PUnit.unit))
                                    else Option.none
                                  else Option.none
                                else Option.none
                              else Option.none
                            else Option.none
                          else Option.none
                        else Option.none
                      else Option.none
                    else Option.none
                  else Option.none
              else Option.none
            else Option.none
          else Option.none
        else Option.none
      else Option.some (Go.Rx.LRes.stop (0 : Nat) (names, u, PUnit.unit) PUnit.unit)
    else Option.none
  else Option.none) := by kernel_rfl
noncomputable def G.dThinL2 (x : PKs.den [UnitsSP, .c (.own strT), IntP, FunsO, IntP]) : (Nat × PKs.den [.c (.own strT), FunsO]) × Bxs.den [UnitsSP, .c (.own strT), IntP, FunsO, IntP] := G.eps (roundK cxThinL2 2 (loopIn Go.Proofs.Try.f106 2) ls0ThinL2) x
noncomputable abbrev lsThinL2 : LSpec := ⟨[0, 4, 5, 6, 7], [4, 6], [UnitsSP, .c (.own strT), IntP, FunsO, IntP], [.c (.own strT), FunsO], true, fun x => decide (x.1.length ≤ 100 ∧ 0 ≤ x.2.2.1 ∧ x.2.2.1 < (x.1.length : Int) ∧ 0 ≤ x.2.2.2.2.1 ∧ x.2.2.2.2.1 ≤ 3 ∧ (x.2.1.length : Int) ≤ 1000 + x.2.2.2.2.1 ∧ (x.2.2.2.1.length : Int) ≤ x.2.2.2.2.1) && x.1.all G.unitD, fun x => G.dThinL2 x⟩
/-! ThinL0: a loop -/
noncomputable abbrev ls0ThinL0 : LSpec := ⟨[0, 3, 4, 5], [3], [UnitsSP, UnitsO, .c (.own strT), IntP], [UnitsO], true, fun x => decide (x.1.length ≤ 100 ∧ 0 ≤ x.2.2.2.1 ∧ x.2.2.2.1 ≤ (x.1.length : Int) ∧ (x.2.2.1.length : Int) ≤ 3 * x.2.2.2.1 ∧ (x.2.1.length : Int) ≤ x.2.2.2.1) && x.1.all G.unitD, fun x => ((0, PKs.zero _), Bxs.zero _)⟩
noncomputable abbrev cxThinL0 : Cx := mkCx T0 pd9 [(2, lsThinL2)] [] 73
theorem rThinL0 (us : Units) (out : Units) (names : Strs) (i : Int) : roundK cxThinL0 0 (loopIn Go.Proofs.Try.f106 0) ls0ThinL0 (us, out, names, i, ()) =
  (if Decidable.decide (i < (↑(List.length us) : Int)) = Bool.true then
    if
        (Decidable.decide
              (List.length us ≤ (100 : Nat) ∧
                (0 : Int) ≤ i ∧
                  i < (↑(List.length us) : Int) ∧ (0 : Int) ≤ (0 : Int) ∧ (0 : Int) ≤ (3 : Int) ∧ (↑(List.length names) : Int) ≤ (1000 : Int) + (0 : Int) ∧ (0 : Int) ≤ (0 : Int)) &&
            List.all us Go.Rx.G.unitD) =
          Bool.true then
      if (Go.Rx.G.dThinL2 (us, names, i, [], (0 : Int), PUnit.unit)).1.1 = (0 : Nat) then
        if Go.Rx.okSize (24 : Nat) (List.length out + (1 : Nat)) = Bool.true then
          Option.some
            (Go.Rx.LRes.go
              (us, out ++ [(Go.Rx.G.dThinL2 (us, names, i, [], (0 : Int), PUnit.unit)).1.2.2],
                (Go.Rx.G.dThinL2 (us, names, i, [], (0 : Int), PUnit.unit)).1.2.1, Go.IntKind.wrap Go.IntKind.i64 (i + (1 : Int)), PUnit.unit))
        else Option.none
      else
        if (Go.Rx.G.dThinL2 (us, names, i, [], (0 : Int), PUnit.unit)).1.1 = (1 : Nat) then Option.some (Go.Rx.LRes.stop (1 : Nat) (out, PUnit.unit) PUnit.unit)
        else
          bif Nat.beq ((Go.Rx.G.dThinL2 (us, names, i, [], (0 : Int), PUnit.unit)).1.1 - (2 : Nat)) (1 : Nat) then
            Option.some
              (Go.Rx.LRes.go
                (us, out, (Go.Rx.G.dThinL2 (us, names, i, [], (0 : Int), PUnit.unit)).1.2.1, Go.IntKind.wrap Go.IntKind.i64 (i + (1 : Int)), PUnit.unit))
          else
            bif Nat.beq ((Go.Rx.G.dThinL2 (us, names, i, [], (0 : Int), PUnit.unit)).1.1 - (2 : Nat)) (0 : Nat) then Option.some (Go.Rx.LRes.stop (0 : Nat) (out, PUnit.unit) PUnit.unit)
            else Option.some (Go.Rx.LRes.stop ((Go.Rx.G.dThinL2 (us, names, i, [], (0 : Int), PUnit.unit)).1.1 - (2 : Nat) + (2 : Nat)) (out, PUnit.unit) PUnit.unit)
    else Option.none
  else Option.some (Go.Rx.LRes.stop (0 : Nat) (out, PUnit.unit) PUnit.unit)) := by kernel_rfl
noncomputable def G.dThinL0 (x : PKs.den [UnitsSP, UnitsO, .c (.own strT), IntP]) : (Nat × PKs.den [UnitsO]) × Bxs.den [UnitsSP, UnitsO, .c (.own strT), IntP] := G.eps (roundK cxThinL0 0 (loopIn Go.Proofs.Try.f106 0) ls0ThinL0) x
noncomputable abbrev lsThinL0 : LSpec := ⟨[0, 3, 4, 5], [3], [UnitsSP, UnitsO, .c (.own strT), IntP], [UnitsO], true, fun x => decide (x.1.length ≤ 100 ∧ 0 ≤ x.2.2.2.1 ∧ x.2.2.2.1 ≤ (x.1.length : Int) ∧ (x.2.2.1.length : Int) ≤ 3 * x.2.2.2.1 ∧ (x.2.1.length : Int) ≤ x.2.2.2.1) && x.1.all G.unitD, fun x => G.dThinL0 x⟩
/-! L3Thin -/
noncomputable abbrev cxL3Thin : Cx := mkCx T0 pd9 [(0, lsThinL0)] [] 73
noncomputable def G.dL3Thin (x : PKs.den [UnitsSP]) : RK.den (.one UnitsO) × Bxs.den [UnitsSP] := G.val (funK cxL3Thin Go.Proofs.Try.f106 [UnitsSP] (.one UnitsO) x)
noncomputable abbrev spL3Thin : Spec := ⟨[UnitsSP], .one UnitsO, true, fun x => decide (x.1.length ≤ 100) && x.1.all G.unitD, fun x => G.dL3Thin x⟩
theorem eL3Thin (us : Units) : funK cxL3Thin Go.Proofs.Try.f106 [UnitsSP] (.one UnitsO) (us, ()) =
  (if
      (Decidable.decide (List.length us ≤ (100 : Nat) ∧ (0 : Int) ≤ (0 : Int) ∧ (0 : Int) ≤ (↑(List.length us) : Int) ∧ (0 : Int) ≤ (3 : Int) * (0 : Int) ∧ (0 : Int) ≤ (0 : Int)) &&
          List.all us Go.Rx.G.unitD) =
        Bool.true then
    if (Go.Rx.G.dThinL0 (us, [], [], (0 : Int), PUnit.unit)).1.1 = (0 : Nat) then Option.some (Go.Rx.G.dThinL0 (us, [], [], (0 : Int), PUnit.unit)).1.2
    else if (Go.Rx.G.dThinL0 (us, [], [], (0 : Int), PUnit.unit)).1.1 = (1 : Nat) then Option.some ([], PUnit.unit) else Option.none
  else Option.none) := by kernel_rfl
/-! where a name is -/
def G.unitAt (us : Units) (k : Nat) : Funs := (us.getD k ([], ())).1
def G.fewU (us : Units) : Bool := decide (us.length ≤ 1048576) && us.all (fun u => G.few u.1.length)
def G.at3L (name : ByteArray) : Units → Int → Int → Int → Option (Int × Int) × Int × Int
  | [], _, a, b => (none, a, b)
  | u :: r, i, a, b => if G.find u.1 name < 0 then G.at3L name r (i + 1) a b
    else if (G.pAt u.1 (G.find u.1 name).toNat).2.1 = false then (some (i, G.find u.1 name), a, b)
    else if a < 0 then G.at3L name r (i + 1) i (G.find u.1 name) else G.at3L name r (i + 1) a b
def G.at3F (name : ByteArray) (us : Units) (i a b : Int) : Option (Int × Int) × Int × Int := G.at3L name (us.drop i.toNat) i a b
def G.at3 (us : Units) (name : ByteArray) : Int × Int × Bool := match G.at3F name us 0 (-1) (-1) with
  | (some (x, y), _) => (x, y, true)
  | (none, a, b) => if a < 0 then (0, 0, false) else (a, b, true)
def G.gL3At (name : ByteArray) (us : Units) (i a b r4 r5 : Int) (r6 : Bool) : Nat × Int × Int × Bool × Int × Int × Unit := match G.at3F name us i a b with
    | (some (p, q), a, b) => (1, p, q, true, a, b, ())
    | (none, a, b) => (0, r4, r5, r6, a, b, ())
noncomputable abbrev lsL3At : LSpec := ⟨[0, 1, 4, 5, 6, 7, 8, 9], [4, 5, 6, 7, 8], [UnitsSP, StrP, IntP, IntP, BoolP, IntP, IntP, IntP], [IntP, IntP, BoolP, IntP, IntP], false, fun x => G.fewU x.1 && decide (0 ≤ x.2.2.2.2.2.2.2.1 ∧ x.2.2.2.2.2.2.2.1 ≤ (x.1.length : Int)),
  fun x => (((G.gL3At x.2.1 x.1 x.2.2.2.2.2.2.2.1 x.2.2.2.2.2.1 x.2.2.2.2.2.2.1 x.2.2.1 x.2.2.2.1 x.2.2.2.2.1).1, (G.gL3At x.2.1 x.1 x.2.2.2.2.2.2.2.1 x.2.2.2.2.2.1 x.2.2.2.2.2.2.1 x.2.2.1 x.2.2.2.1 x.2.2.2.2.1).2), ())⟩
/-! L3At -/
noncomputable abbrev spL3At : Spec := ⟨[UnitsSP, StrP], .tup [IntP, IntP, BoolP], false, fun x => G.fewU x.1, fun x => (((G.at3 x.1 x.2.1).1, (G.at3 x.1 x.2.1).2.1, (G.at3 x.1 x.2.1).2.2, ()), ())⟩
noncomputable abbrev cxL3At : Cx := mkCx T0 pd9 [(0, lsL3At)] [] 44
theorem eL3At (us : Units) (name : ByteArray) : funK cxL3At Go.Proofs.Try.f81 spL3At.ins spL3At.out (us, name, ()) =
  (if (Go.Rx.G.fewU us && Decidable.decide ((0 : Int) ≤ (0 : Int) ∧ (0 : Int) ≤ (↑(List.length us) : Int))) = Bool.true then
    if (Go.Rx.G.gL3At name us (0 : Int) (-1 : Int) (-1 : Int) (0 : Int) (0 : Int) Bool.false).1 = (0 : Nat) then
      if Decidable.decide ((Go.Rx.G.gL3At name us (0 : Int) (-1 : Int) (-1 : Int) (0 : Int) (0 : Int) Bool.false).2.2.2.2.1 < (0 : Int)) = Bool.true then
        Option.some (((0 : Int), (0 : Int), Bool.false, PUnit.unit), PUnit.unit)
      else
        Option.some
          (((Go.Rx.G.gL3At name us (0 : Int) (-1 : Int) (-1 : Int) (0 : Int) (0 : Int) Bool.false).2.2.2.2.1,
              (Go.Rx.G.gL3At name us (0 : Int) (-1 : Int) (-1 : Int) (0 : Int) (0 : Int) Bool.false).2.2.2.2.2.1, Bool.true, PUnit.unit),
            PUnit.unit)
    else
      if (Go.Rx.G.gL3At name us (0 : Int) (-1 : Int) (-1 : Int) (0 : Int) (0 : Int) Bool.false).1 = (1 : Nat) then
        Option.some
          (((Go.Rx.G.gL3At name us (0 : Int) (-1 : Int) (-1 : Int) (0 : Int) (0 : Int) Bool.false).2.1,
              (Go.Rx.G.gL3At name us (0 : Int) (-1 : Int) (-1 : Int) (0 : Int) (0 : Int) Bool.false).2.2.1,
              (Go.Rx.G.gL3At name us (0 : Int) (-1 : Int) (-1 : Int) (0 : Int) (0 : Int) Bool.false).2.2.2.1, PUnit.unit),
            PUnit.unit)
      else Option.none
  else Option.none) := by kernel_rfl
theorem rL3At (us : Units) (name : ByteArray) (r4 r5 : Int) (r6 : Bool) (a b i : Int) : roundK cxL3At 0 (loopIn Go.Proofs.Try.f81 0) lsL3At (us, name, r4, r5, r6, a, b, i, ()) =
  (if Decidable.decide (i < (↑(List.length us) : Int)) = Bool.true then
    if Decidable.decide ((0 : Int) ≤ i) = Bool.true then
      if Decidable.decide (i < (↑(List.length us) : Int)) = Bool.true then
        if Go.Rx.G.few (List.length (List.getD us (Int.toNat i) ([], PUnit.unit)).1) = Bool.true then
          if Decidable.decide (Go.Rx.G.find (List.getD us (Int.toNat i) ([], PUnit.unit)).1 name < (0 : Int)) = Bool.true then
            Option.some (Go.Rx.LRes.go (us, name, r4, r5, r6, a, b, Go.IntKind.wrap Go.IntKind.i64 (i + (1 : Int)), PUnit.unit))
          else
            if Decidable.decide ((0 : Int) ≤ i) = Bool.true then
              if Decidable.decide (i < (↑(List.length us) : Int)) = Bool.true then
                if Decidable.decide ((0 : Int) ≤ Go.Rx.G.find (List.getD us (Int.toNat i) ([], PUnit.unit)).1 name) = Bool.true then
                  if
                      Decidable.decide (Go.Rx.G.find (List.getD us (Int.toNat i) ([], PUnit.unit)).1 name < (↑(List.length (List.getD us (Int.toNat i) ([], PUnit.unit)).1) : Int)) =
                        Bool.true then
                    if
                        (!(List.getD (List.getD us (Int.toNat i) ([], PUnit.unit)).1 (Int.toNat (Go.Rx.G.find (List.getD us (Int.toNat i) ([], PUnit.unit)).1 name))
                                  (ByteArray.empty, Bool.false, [], PUnit.unit)).2.1) =
                          Bool.true then
                      Option.some
                        (Go.Rx.LRes.stop (1 : Nat) (i, Go.Rx.G.find (List.getD us (Int.toNat i) ([], PUnit.unit)).1 name, Bool.true, a, b, PUnit.unit) PUnit.unit)
                    else
                      if Decidable.decide (a < (0 : Int)) = Bool.true then
                        Option.some
                          (Go.Rx.LRes.go
                            (us, name, r4, r5, r6, i, Go.Rx.G.find (List.getD us (Int.toNat i) ([], PUnit.unit)).1 name,
                              Go.IntKind.wrap Go.IntKind.i64 (i + (1 : Int)), PUnit.unit))
                      else Option.some (Go.Rx.LRes.go (us, name, r4, r5, r6, a, b, Go.IntKind.wrap Go.IntKind.i64 (i + (1 : Int)), PUnit.unit))
                  else Option.none
                else Option.none
              else Option.none
            else Option.none
        else Option.none
      else Option.none
    else Option.none
  else Option.some (Go.Rx.LRes.stop (0 : Nat) (r4, r5, r6, a, b, PUnit.unit) PUnit.unit)) := by kernel_rfl
/-! names put in order -/
def G.skipL (s : ByteArray) : Strs → Int → Int
  | [], i => i
  | x :: r, i => if Go.Rx.strLt x.1 s = true then G.skipL s r (i + 1) else i
def G.skip (l : Strs) (s : ByteArray) (i : Int) : Int := G.skipL s (l.drop i.toNat) i
def G.put (l : Strs) (s : ByteArray) : Strs := if G.skip l s 0 < (l.length : Int) ∧ G.sAt l (G.skip l s 0).toNat = s then l else l.take (G.skip l s 0).toNat ++ [(s, ())] ++ l.drop (G.skip l s 0).toNat
noncomputable abbrev lsL2Put : LSpec := ⟨[0, 1, 5], [5], [StrSP, StrP, IntP], [IntP], false, fun x => decide (0 ≤ x.2.2.1 ∧ x.2.2.1 ≤ (x.1.length : Int) ∧ x.1.length ≤ 1099511627776), fun x => ((0, (G.skip x.1 x.2.1 x.2.2.1, ())), ())⟩
/-! L2Put -/
noncomputable abbrev spL2Put : Spec := ⟨[.c (.own strT), StrP], .one (.c (.own strT)), false, fun x => decide (x.1.length ≤ 1048576), fun x => (G.put x.1 x.2.1, ())⟩
noncomputable abbrev cxL2Put : Cx := mkCx T0 pd9 [(0, lsL2Put)] [41, 100037] 47
theorem eL2Put (l : Strs) (s : ByteArray) : funK cxL2Put Go.Proofs.Try.f43 spL2Put.ins spL2Put.out (l, s, ()) =
  (if Decidable.decide ((0 : Int) ≤ (0 : Int) ∧ (0 : Int) ≤ (↑(List.length l) : Int) ∧ List.length l ≤ (1099511627776 : Nat)) = Bool.true then
    if Decidable.decide (Go.Rx.G.skip l s (0 : Int) < (↑(List.length l) : Int)) = Bool.true then
      if Decidable.decide ((0 : Int) ≤ Go.Rx.G.skip l s (0 : Int)) = Bool.true then
        if Decidable.decide (Go.Rx.G.skip l s (0 : Int) < (↑(List.length l) : Int)) = Bool.true then
          if Decidable.decide (Int.toNat (Go.Rx.G.skip l s (0 : Int)) < List.length l) = Bool.true then
            if Go.Rx.strEq (List.getD l (Int.toNat (Go.Rx.G.skip l s (0 : Int))) (ByteArray.empty, PUnit.unit)).1 s = Bool.true then Option.some (l, PUnit.unit)
            else
              if Decidable.decide ((0 : Int) ≤ (↑(List.length l) : Int)) = Bool.true then
                if Decidable.decide ((↑(List.length l) : Int) ≤ (↑(List.length l) : Int)) = Bool.true then
                  if Decidable.decide ((0 : Int) ≤ Go.Rx.G.skip l s (0 : Int)) = Bool.true then
                    if Decidable.decide (Go.Rx.G.skip l s (0 : Int) ≤ (↑(List.length l) : Int)) = Bool.true then
                      if
                          Go.Rx.okSize (16 : Nat) ((0 : Nat) + List.length (List.drop (Int.toNat (Go.Rx.G.skip l s (0 : Int))) (List.take (Int.toNat (↑(List.length l) : Int)) l))) =
                            Bool.true then
                        if Decidable.decide ((0 : Int) ≤ Go.Rx.G.skip l s (0 : Int)) = Bool.true then
                          if Decidable.decide (Go.Rx.G.skip l s (0 : Int) ≤ (↑(List.length l) : Int)) = Bool.true then
                            if Go.Rx.okSize (16 : Nat) (List.length (List.take (Int.toNat (Go.Rx.G.skip l s (0 : Int))) l) + (1 : Nat)) = Bool.true then
                              if
                                  Go.Rx.okSize (16 : Nat)
                                      (List.length (List.take (Int.toNat (Go.Rx.G.skip l s (0 : Int))) l ++ [(s, PUnit.unit)]) +
                                        List.length (List.drop (Int.toNat (Go.Rx.G.skip l s (0 : Int))) (List.take (Int.toNat (↑(List.length l) : Int)) l))) =
                                    Bool.true then
                                Option.some
                                  (List.take (Int.toNat (Go.Rx.G.skip l s (0 : Int))) l ++ [(s, PUnit.unit)] ++
                                      List.drop (Int.toNat (Go.Rx.G.skip l s (0 : Int))) (List.take (Int.toNat (↑(List.length l) : Int)) l),
                                    PUnit.unit)
                              else Option.none
                            else Option.none
                          else Option.none
                        else Option.none
                      else Option.none
                    else Option.none
                  else Option.none
                else Option.none
              else Option.none
          else Option.none
        else Option.none
      else Option.none
    else
      if Decidable.decide ((0 : Int) ≤ (↑(List.length l) : Int)) = Bool.true then
        if Decidable.decide ((↑(List.length l) : Int) ≤ (↑(List.length l) : Int)) = Bool.true then
          if Decidable.decide ((0 : Int) ≤ Go.Rx.G.skip l s (0 : Int)) = Bool.true then
            if Decidable.decide (Go.Rx.G.skip l s (0 : Int) ≤ (↑(List.length l) : Int)) = Bool.true then
              if Go.Rx.okSize (16 : Nat) ((0 : Nat) + List.length (List.drop (Int.toNat (Go.Rx.G.skip l s (0 : Int))) (List.take (Int.toNat (↑(List.length l) : Int)) l))) = Bool.true then
                if Decidable.decide ((0 : Int) ≤ Go.Rx.G.skip l s (0 : Int)) = Bool.true then
                  if Decidable.decide (Go.Rx.G.skip l s (0 : Int) ≤ (↑(List.length l) : Int)) = Bool.true then
                    if Go.Rx.okSize (16 : Nat) (List.length (List.take (Int.toNat (Go.Rx.G.skip l s (0 : Int))) l) + (1 : Nat)) = Bool.true then
                      if
                          Go.Rx.okSize (16 : Nat)
                              (List.length (List.take (Int.toNat (Go.Rx.G.skip l s (0 : Int))) l ++ [(s, PUnit.unit)]) +
                                List.length (List.drop (Int.toNat (Go.Rx.G.skip l s (0 : Int))) (List.take (Int.toNat (↑(List.length l) : Int)) l))) =
                            Bool.true then
                        Option.some
                          (List.take (Int.toNat (Go.Rx.G.skip l s (0 : Int))) l ++ [(s, PUnit.unit)] ++
                              List.drop (Int.toNat (Go.Rx.G.skip l s (0 : Int))) (List.take (Int.toNat (↑(List.length l) : Int)) l),
                            PUnit.unit)
                      else Option.none
                    else Option.none
                  else Option.none
                else Option.none
              else Option.none
            else Option.none
          else Option.none
        else Option.none
      else Option.none
  else Option.none) := by kernel_rfl
theorem rL2Put (l : Strs) (s : ByteArray) (k : Int) : roundK cxL2Put 0 (loopIn Go.Proofs.Try.f43 0) lsL2Put (l, s, k, ()) =
  (if Decidable.decide (k < (↑(List.length l) : Int)) = Bool.true then
    if Decidable.decide ((0 : Int) ≤ k) = Bool.true then
      if Decidable.decide (k < (↑(List.length l) : Int)) = Bool.true then
        if Go.Rx.strLt (List.getD l (Int.toNat k) (ByteArray.empty, PUnit.unit)).1 s = Bool.true then
          Option.some (Go.Rx.LRes.go (l, s, Go.IntKind.wrap Go.IntKind.i64 (k + (1 : Int)), PUnit.unit))
        else Option.some (Go.Rx.LRes.stop (0 : Nat) (k, PUnit.unit) PUnit.unit)
      else Option.none
    else Option.none
  else Option.some (Go.Rx.LRes.stop (0 : Nat) (k, PUnit.unit) PUnit.unit)) := by kernel_rfl
/-! units without names that are there -/
abbrev ThinX2 := PKs.den [UnitsSP, .c (.own strT), IntP, FunsO, IntP]
def ThinInv2 (x : ThinX2) : Prop := (x.1.length ≤ 100 ∧ 0 ≤ x.2.2.1 ∧ x.2.2.1 < (x.1.length : Int) ∧ 0 ≤ x.2.2.2.2.1 ∧ x.2.2.2.2.1 ≤ 3 ∧ (x.2.1.length : Int) ≤ 1000 + x.2.2.2.2.1 ∧ (x.2.2.2.1.length : Int) ≤ x.2.2.2.2.1) ∧ x.1.all G.unitD = true
def ThinPost2 (x : ThinX2) (r : (Nat × PKs.den [.c (.own strT), FunsO]) × Bxs.den [UnitsSP, .c (.own strT), IntP, FunsO, IntP]) : Prop := r.1.1 = 0 ∧ (r.1.2.1.length : Int) ≤ (x.2.1.length : Int) + (3 - x.2.2.2.2.1) ∧ r.1.2.2.1.length ≤ 3 ∧ (G.funsD x.2.2.2.1 = true → G.funsD r.1.2.2.1 = true)
theorem stThinL2 (us : Units) (names : Strs) (i : Int) (u : Funs) (k : Int) (h : ThinInv2 (us, names, i, u, k, ())) : EpsOk ThinInv2 (fun x => (3 - x.2.2.2.2.1).toNat) ThinPost2 (us, names, i, u, k, ()) (roundK cxThinL2 2 (loopIn Go.Proofs.Try.f106 2) ls0ThinL2 (us, names, i, u, k, ())) := by
  obtain ⟨⟨h1, h2, h3, h4, h5, h6, h7⟩, hall⟩ := h
  have h1 : us.length ≤ 100 := h1
  have h2 : 0 ≤ i := h2
  have h3 : i < (us.length : Int) := h3
  have h4 : 0 ≤ k := h4
  have h5 : k ≤ 3 := h5
  have h6 : (names.length : Int) ≤ 1000 + k := h6
  have h7 : (u.length : Int) ≤ k := h7
  have hall : us.all G.unitD = true := hall
  have hu := all_getD ([], ()) hall (show i.toNat < us.length by omega)
  unfold G.unitD at hu
  rw [Bool.and_eq_true, decide_eq_true_iff] at hu
  obtain ⟨u1, u2⟩ := hu
  rw [rThinL2]
  generalize (us.getD i.toNat ([], ())).1 = v at u1 u2 ⊢
  rw [if_pos (decide_eq_true h2), if_pos (decide_eq_true h3), w64 (by omega) (by omega)]
  by_cases hk : k < (v.length : Int)
  · have hf := all_getD (ByteArray.empty, false, [], ()) u2 (show k.toNat < v.length by omega)
    have ok1 : Go.Rx.okSize 48 (u.length + 1) = true := okSize_few (by omega) (by omega)
    have ok2 : Go.Rx.okSize 16 (names.length + 1) = true := okSize_few (by omega) (by omega)
    have fw : G.few names.length = true := few_iff.2 (by omega)
    generalize v.getD k.toNat (ByteArray.empty, false, [], ()) = f at hf ⊢
    have go1 : EpsOk ThinInv2 (fun x => (3 - x.2.2.2.2.1).toNat) ThinPost2 (us, names, i, u, k, ()) (some (LRes.go (us, names ++ [(f.1, ())], i, u ++ [f], k + 1, ()))) := by
      refine ⟨⟨⟨h1, h2, h3, by show 0 ≤ k + 1; omega, by show k + 1 ≤ 3; omega, ?_, ?_⟩, hall⟩, ?_, ?_⟩
      · show ((names ++ [(f.1, ())]).length : Int) ≤ 1000 + (k + 1)
        simp
        omega
      · show ((u ++ [f]).length : Int) ≤ k + 1
        simp
        omega
      · show (3 - (k + 1)).toNat < (3 - k).toNat
        omega
      · rintro r ⟨r1, r2, r3, r4⟩
        refine ⟨r1, ?_, r3, fun hb => r4 (funsD_snoc hb hf)⟩
        have r2 : (r.1.2.1.length : Int) ≤ ((names ++ [(f.1, ())]).length : Int) + (3 - (k + 1)) := r2
        show (r.1.2.1.length : Int) ≤ (names.length : Int) + (3 - k)
        simp at r2
        omega
    have go2 : EpsOk ThinInv2 (fun x => (3 - x.2.2.2.2.1).toNat) ThinPost2 (us, names, i, u, k, ()) (some (LRes.go (us, names, i, u, k + 1, ()))) := by
      refine ⟨⟨⟨h1, h2, h3, by show 0 ≤ k + 1; omega, by show k + 1 ≤ 3; omega, by show (names.length : Int) ≤ 1000 + (k + 1); omega, by show (u.length : Int) ≤ k + 1; omega⟩, hall⟩, ?_, ?_⟩
      · show (3 - (k + 1)).toNat < (3 - k).toNat
        omega
      · rintro r ⟨r1, r2, r3, r4⟩
        refine ⟨r1, ?_, r3, r4⟩
        have r2 : (r.1.2.1.length : Int) ≤ (names.length : Int) + (3 - (k + 1)) := r2
        show (r.1.2.1.length : Int) ≤ (names.length : Int) + (3 - k)
        omega
    simp only [h2, h3, h4, hk, ok1, ok2, fw, decide_true, if_true]
    split
    · split
      · exact go1
      · exact go2
    · exact go1
  · rw [if_neg (by simpa using hk)]
    refine ⟨rfl, by show (names.length : Int) ≤ (names.length : Int) + (3 - k); omega, by show u.length ≤ 3; omega, fun hb => hb⟩
theorem inv_thin2 {x : ThinX2} (h : (decide (x.1.length ≤ 100 ∧ 0 ≤ x.2.2.1 ∧ x.2.2.1 < (x.1.length : Int) ∧ 0 ≤ x.2.2.2.2.1 ∧ x.2.2.2.2.1 ≤ 3 ∧ (x.2.1.length : Int) ≤ 1000 + x.2.2.2.2.1 ∧ (x.2.2.2.1.length : Int) ≤ x.2.2.2.2.1) && x.1.all G.unitD) = true) : ThinInv2 x := by
  rw [Bool.and_eq_true, decide_eq_true_iff] at h
  exact h
theorem epsThinL2 (x : PKs.den [UnitsSP, .c (.own strT), IntP, FunsO, IntP]) (h : ThinInv2 x) : (∃ k, iter (roundK cxThinL2 2 (loopIn Go.Proofs.Try.f106 2) ls0ThinL2) k x = some (G.dThinL2 x)) ∧ ThinPost2 x (G.dThinL2 x) := eps_ok (inv := ThinInv2) (μ := (fun x => (3 - x.2.2.2.2.1).toNat)) (Post := ThinPost2) (fun x h => stThinL2 x.1 x.2.1 x.2.2.1 x.2.2.2.1 x.2.2.2.2.1 h) x h
theorem lpThinL2 : LpOk Go.Proofs.Try.prog cxThinL2.ntmps 2 (loopIn Go.Proofs.Try.f106 2) lsThinL2 :=
  lp_eps (cx := cxThinL2) (cxOk T0_ok T0_eq pd9_ok) mixed (by kernel_rfl) (lps_none (by kernel_rfl)) (inv := ThinInv2) (μ := (fun x => (3 - x.2.2.2.2.1).toNat)) (Post := ThinPost2) (fun x h => inv_thin2 h) (fun x h => stThinL2 x.1 x.2.1 x.2.2.1 x.2.2.2.1 x.2.2.2.2.1 h) (fun _ => rfl)
abbrev ThinX0 := PKs.den [UnitsSP, UnitsO, .c (.own strT), IntP]
def ThinInv0 (x : ThinX0) : Prop := (x.1.length ≤ 100 ∧ 0 ≤ x.2.2.2.1 ∧ x.2.2.2.1 ≤ (x.1.length : Int) ∧ (x.2.2.1.length : Int) ≤ 3 * x.2.2.2.1 ∧ (x.2.1.length : Int) ≤ x.2.2.2.1) ∧ x.1.all G.unitD = true
def ThinPost0 (x : ThinX0) (r : (Nat × PKs.den [UnitsO]) × Bxs.den [UnitsSP, UnitsO, .c (.own strT), IntP]) : Prop := r.1.1 = 0 ∧ ∀ n : Nat, G.unitsD n x.2.1 = true → G.unitsD (n + ((x.1.length : Int) - x.2.2.2.1).toNat) r.1.2.1 = true
theorem stThinL0 (us : Units) (out : Units) (names : Strs) (i : Int) (h : ThinInv0 (us, out, names, i, ())) : EpsOk ThinInv0 (fun x => ((x.1.length : Int) - x.2.2.2.1).toNat) ThinPost0 (us, out, names, i, ()) (roundK cxThinL0 0 (loopIn Go.Proofs.Try.f106 0) ls0ThinL0 (us, out, names, i, ())) := by
  obtain ⟨⟨h1, h2, h3, h4, h5⟩, hall⟩ := h
  have h1 : us.length ≤ 100 := h1
  have h2 : 0 ≤ i := h2
  have h3 : i ≤ (us.length : Int) := h3
  have h4 : (names.length : Int) ≤ 3 * i := h4
  have h5 : (out.length : Int) ≤ i := h5
  have hall : us.all G.unitD = true := hall
  rw [rThinL0]
  by_cases hi : i < (us.length : Int)
  · have hp : (decide (us.length ≤ 100 ∧ 0 ≤ i ∧ i < (us.length : Int) ∧ (0 : Int) ≤ 0 ∧ (0 : Int) ≤ 3 ∧ (names.length : Int) ≤ 1000 + 0 ∧ (0 : Int) ≤ 0) && us.all G.unitD) = true := by
      rw [Bool.and_eq_true, decide_eq_true_iff]
      exact ⟨⟨h1, h2, hi, by omega, by omega, by omega, by omega⟩, hall⟩
    rw [if_pos (decide_eq_true hi), if_pos hp, w64 (by omega) (by omega)]
    obtain ⟨_, b1, b2, b3, b4⟩ := epsThinL2 (us, names, i, [], 0, ()) (inv_thin2 hp)
    generalize G.dThinL2 (us, names, i, [], 0, ()) = q at b1 b2 b3 b4 ⊢
    have b2 : (q.1.2.1.length : Int) ≤ (names.length : Int) + (3 - 0) := b2
    rw [if_pos b1, if_pos (okSize_few (by omega) (by omega))]
    refine ⟨⟨⟨h1, by show 0 ≤ i + 1; omega, by show i + 1 ≤ (us.length : Int); omega, by show (q.1.2.1.length : Int) ≤ 3 * (i + 1); omega, ?_⟩, hall⟩, ?_, ?_⟩
    · show ((out ++ [q.1.2.2]).length : Int) ≤ i + 1
      simp
      omega
    · show ((us.length : Int) - (i + 1)).toNat < ((us.length : Int) - i).toNat
      omega
    · rintro r ⟨r1, r5⟩
      refine ⟨r1, fun n hn => ?_⟩
      have := r5 (n + 1) (unitsD_snoc hn b3 (b4 rfl))
      have e : n + 1 + ((us.length : Int) - (i + 1)).toNat = n + ((us.length : Int) - i).toNat := by omega
      have this : G.unitsD (n + 1 + ((us.length : Int) - (i + 1)).toNat) r.1.2.1 = true := this
      rw [e] at this
      exact this
  · rw [if_neg (by simpa using hi)]
    refine ⟨rfl, fun n hn => ?_⟩
    have e : n + ((us.length : Int) - i).toNat = n := by omega
    show G.unitsD (n + ((us.length : Int) - i).toNat) out = true
    rw [e]
    exact hn
theorem inv_thin0 {x : ThinX0} (h : (decide (x.1.length ≤ 100 ∧ 0 ≤ x.2.2.2.1 ∧ x.2.2.2.1 ≤ (x.1.length : Int) ∧ (x.2.2.1.length : Int) ≤ 3 * x.2.2.2.1 ∧ (x.2.1.length : Int) ≤ x.2.2.2.1) && x.1.all G.unitD) = true) : ThinInv0 x := by
  rw [Bool.and_eq_true, decide_eq_true_iff] at h
  exact h
theorem epsThinL0 (x : PKs.den [UnitsSP, UnitsO, .c (.own strT), IntP]) (h : ThinInv0 x) : (∃ k, iter (roundK cxThinL0 0 (loopIn Go.Proofs.Try.f106 0) ls0ThinL0) k x = some (G.dThinL0 x)) ∧ ThinPost0 x (G.dThinL0 x) := eps_ok (inv := ThinInv0) (μ := (fun x => ((x.1.length : Int) - x.2.2.2.1).toNat)) (Post := ThinPost0) (fun x h => stThinL0 x.1 x.2.1 x.2.2.1 x.2.2.2.1 h) x h
theorem lpThinL0 : LpOk Go.Proofs.Try.prog cxThinL0.ntmps 0 (loopIn Go.Proofs.Try.f106 0) lsThinL0 :=
  lp_eps (cx := cxThinL0) (cxOk T0_ok T0_eq pd9_ok) mixed (by kernel_rfl) (lps_of (l := [(2, loopIn Go.Proofs.Try.f106 2)]) (by kernel_rfl) ⟨lp_at lpThinL2 rfl, trivial⟩) (inv := ThinInv0) (μ := (fun x => ((x.1.length : Int) - x.2.2.2.1).toNat)) (Post := ThinPost0) (fun x h => inv_thin0 h) (fun x h => stThinL0 x.1 x.2.1 x.2.2.1 x.2.2.2.1 h) (fun _ => rfl)
def ThinPost (x : PKs.den [UnitsSP]) (r : RK.den (.one UnitsO) × Bxs.den [UnitsSP]) : Prop := G.unitsD x.1.length r.1 = true
theorem sfL3Thin (us : Units) (h : (decide (us.length ≤ 100) && us.all G.unitD) = true) : ∃ r, funK cxL3Thin Go.Proofs.Try.f106 [UnitsSP] (.one UnitsO) (us, ()) = some r ∧ ThinPost (us, ()) r := by
  rw [Bool.and_eq_true, decide_eq_true_iff] at h
  have hp : (decide (us.length ≤ 100 ∧ (0 : Int) ≤ 0 ∧ (0 : Int) ≤ (us.length : Int) ∧ (0 : Int) ≤ 3 * 0 ∧ (0 : Int) ≤ 0) && us.all G.unitD) = true := by
    rw [Bool.and_eq_true, decide_eq_true_iff]
    exact ⟨⟨h.1, by omega, by omega, by omega, by omega⟩, h.2⟩
  rw [eL3Thin, if_pos hp]
  obtain ⟨_, b1, b2⟩ := epsThinL0 (us, [], [], 0, ()) (inv_thin0 hp)
  generalize G.dThinL0 (us, [], [], 0, ()) = q at b1 b2 ⊢
  rw [if_pos b1]
  have b2 : G.unitsD (0 + ((us.length : Int) - 0).toNat) q.1.2.1 = true := b2 0 rfl
  exact ⟨_, rfl, unitsD_le b2 (by show 0 + ((us.length : Int) - 0).toNat ≤ us.length; omega)⟩
theorem postL3Thin (x : PKs.den [UnitsSP]) (h : (decide (x.1.length ≤ 100) && x.1.all G.unitD) = true) : funK cxL3Thin Go.Proofs.Try.f106 [UnitsSP] (.one UnitsO) x = some (G.dL3Thin x) ∧ ThinPost x (G.dL3Thin x) := val_of (sfL3Thin x.1 h)
theorem okL3Thin : SpecOk Go.Proofs.Try.prog 106 spL3Thin :=
  fun_okB (cx := cxL3Thin) (F := Go.Proofs.Try.f106) (cxOk T0_ok T0_eq pd9_ok) mixed (by kernel_rfl) (by decide) (by kernel_rfl) (lps_of (l := [(0, loopIn Go.Proofs.Try.f106 0)]) (by kernel_rfl) ⟨lp_at lpThinL0 rfl, trivial⟩) (fun x h => (postL3Thin x h).1)
/-! where a name is: proofs -/
theorem at3F_step {name : ByteArray} {us : Units} {i a b : Int} (h0 : 0 ≤ i) (h : i < (us.length : Int)) : G.at3F name us i a b = (if G.find (G.unitAt us i.toNat) name < 0 then G.at3F name us (i + 1) a b
    else if (G.pAt (G.unitAt us i.toNat) (G.find (G.unitAt us i.toNat) name).toNat).2.1 = false then (some (i, G.find (G.unitAt us i.toNat) name), a, b)
    else if a < 0 then G.at3F name us (i + 1) i (G.find (G.unitAt us i.toNat) name) else G.at3F name us (i + 1) a b) := by
  unfold G.at3F
  rw [drop_cons ([], ()) (xs := us) (i := i.toNat) (by omega), toNat_succ h0]
  rfl
theorem at3F_end {name : ByteArray} {us : Units} {i a b : Int} (h : (us.length : Int) ≤ i) : G.at3F name us i a b = (none, a, b) := by
  unfold G.at3F
  rw [drop_nil (by omega)]
  rfl
theorem fewU_iff {us : Units} : G.fewU us = true ↔ (us.length ≤ 1048576 ∧ ∀ k, k < us.length → G.few (G.unitAt us k).length = true) := by
  unfold G.fewU
  rw [Bool.and_eq_true, decide_eq_true_iff, List.all_eq_true]
  refine and_congr_right fun _ => ⟨fun h k hk => ?_, fun h x hx => ?_⟩
  · unfold G.unitAt
    rw [getD_lt _ _ hk]
    exact h _ (List.getElem_mem hk)
  · obtain ⟨k, hk, rfl⟩ := List.getElem_of_mem hx
    have := h k hk
    unfold G.unitAt at this
    rw [getD_lt _ _ hk] at this
    exact this
noncomputable abbrev muL3At : PKs.den lsL3At.ins → Nat := fun x => x.1.length - x.2.2.2.2.2.2.2.1.toNat
theorem stL3At (us : Units) (name : ByteArray) (r4 r5 : Int) (r6 : Bool) (a b i : Int) (h : (G.fewU us && decide (0 ≤ i ∧ i ≤ (us.length : Int))) = true) : StepOk lsL3At (eqInv lsL3At) muL3At (us, name, r4, r5, r6, a, b, i, ()) (roundK cxL3At 0 (loopIn Go.Proofs.Try.f81 0) lsL3At (us, name, r4, r5, r6, a, b, i, ())) := by
  rw [Bool.and_eq_true, decide_eq_true_iff] at h
  obtain ⟨hf, h0, h1⟩ := h
  obtain ⟨f1, f2⟩ := fewU_iff.1 hf
  rw [rL3At]
  by_cases hi : i < (us.length : Int)
  · have hw : IntKind.i64.wrap (i + 1) = i + 1 := w64 (by omega) (by omega)
    have hs := at3F_step (name := name) (a := a) (b := b) h0 hi
    have fw := f2 i.toNat (by omega)
    have hpre : (G.fewU us && decide (0 ≤ i + 1 ∧ i + 1 ≤ (us.length : Int))) = true := by
      rw [Bool.and_eq_true, decide_eq_true_iff]
      exact ⟨hf, by omega, by omega⟩
    have hmu : us.length - (i + 1).toNat < us.length - i.toNat := by omega
    rw [show (us.getD i.toNat ([], ())).1 = G.unitAt us i.toNat from rfl, hw]
    generalize G.unitAt us i.toNat = u at hs fw ⊢
    rw [if_pos (decide_eq_true hi), if_pos (decide_eq_true h0), if_pos (decide_eq_true hi), if_pos fw]
    by_cases hk : G.find u name < 0
    · rw [if_pos hk] at hs
      rw [if_pos (decide_eq_true hk)]
      refine ⟨hpre, hmu, ?_⟩
      show (((G.gL3At name us (i + 1) a b r4 r5 r6).1, _), ()) = (((G.gL3At name us i a b r4 r5 r6).1, _), ())
      unfold G.gL3At
      rw [hs]
    · rw [if_neg hk] at hs
      obtain ⟨g1, g2, g3, g4⟩ := find_ok hk
      rw [if_neg (by simpa using hk), if_pos (decide_eq_true h0), if_pos (decide_eq_true hi), if_pos (decide_eq_true g3), if_pos (decide_eq_true g4)]
      rw [show u.getD (G.find u name).toNat (ByteArray.empty, false, [], ()) = G.pAt u (G.find u name).toNat from rfl]
      cases hw2 : (G.pAt u (G.find u name).toNat).2.1 with
      | false =>
        rw [if_pos hw2] at hs
        rw [if_pos (by rfl)]
        show (((G.gL3At name us i a b r4 r5 r6).1, (G.gL3At name us i a b r4 r5 r6).2), ()) = _
        unfold G.gL3At
        rw [hs]
      | true =>
        rw [if_neg (by rw [hw2]; decide)] at hs
        rw [if_neg (by decide)]
        by_cases ha : a < 0
        · rw [if_pos ha] at hs
          rw [if_pos (decide_eq_true ha)]
          refine ⟨hpre, hmu, ?_⟩
          show (((G.gL3At name us (i + 1) i (G.find u name) r4 r5 r6).1, _), ()) = (((G.gL3At name us i a b r4 r5 r6).1, _), ())
          unfold G.gL3At
          rw [hs]
        · rw [if_neg ha] at hs
          rw [if_neg (by simpa using ha)]
          refine ⟨hpre, hmu, ?_⟩
          show (((G.gL3At name us (i + 1) a b r4 r5 r6).1, _), ()) = (((G.gL3At name us i a b r4 r5 r6).1, _), ())
          unfold G.gL3At
          rw [hs]
  · rw [if_neg (by simpa using hi)]
    show (((G.gL3At name us i a b r4 r5 r6).1, (G.gL3At name us i a b r4 r5 r6).2), ()) = _
    unfold G.gL3At
    rw [at3F_end (by omega)]
theorem lpL3At : LpOk Go.Proofs.Try.prog cxL3At.ntmps 0 (loopIn Go.Proofs.Try.f81 0) lsL3At :=
  lp_okB (cxOk T0_ok T0_eq pd9_ok) mixed (by kernel_rfl) (lps_none (by kernel_rfl)) (eqInv lsL3At) muL3At (fun _ h => h) (fun x h => stL3At x.1 x.2.1 x.2.2.1 x.2.2.2.1 x.2.2.2.2.1 x.2.2.2.2.2.1 x.2.2.2.2.2.2.1 x.2.2.2.2.2.2.2.1 h)
theorem sfL3At (us : Units) (name : ByteArray) (h : G.fewU us = true) : funK cxL3At Go.Proofs.Try.f81 spL3At.ins spL3At.out (us, name, ()) = some (((G.at3 us name).1, (G.at3 us name).2.1, (G.at3 us name).2.2, ()), ()) := by
  have hp : (G.fewU us && decide ((0 : Int) ≤ 0 ∧ (0 : Int) ≤ (us.length : Int))) = true := by
    rw [Bool.and_eq_true, decide_eq_true_iff]
    exact ⟨h, by omega, by omega⟩
  rw [eL3At, if_pos hp]
  unfold G.gL3At G.at3
  rcases G.at3F name us 0 (-1) (-1) with ⟨_ | ⟨p, q⟩, a, b⟩
  · by_cases ha : a < 0 <;> simp [ha]
  · simp
theorem okL3At : SpecOk Go.Proofs.Try.prog 81 spL3At :=
  fun_okB (cx := cxL3At) (F := Go.Proofs.Try.f81) (cxOk T0_ok T0_eq pd9_ok) mixed (by kernel_rfl) (by decide) (by kernel_rfl) (lps_of (l := [(0, loopIn Go.Proofs.Try.f81 0)]) (by kernel_rfl) ⟨lp_at lpL3At rfl, trivial⟩) (fun x h => sfL3At x.1 x.2.1 h)
/-! names put in order: proofs -/
theorem skip_step {l : Strs} {s : ByteArray} {i : Int} (h0 : 0 ≤ i) (h : i < (l.length : Int)) : G.skip l s i = if Go.Rx.strLt (G.sAt l i.toNat) s = true then G.skip l s (i + 1) else i := by
  unfold G.skip
  rw [drop_cons (ByteArray.empty, ()) (xs := l) (i := i.toNat) (by omega), toNat_succ h0]
  rfl
theorem skip_end {l : Strs} {s : ByteArray} {i : Int} (h : (l.length : Int) ≤ i) : G.skip l s i = i := by
  unfold G.skip
  rw [drop_nil (by omega)]
  rfl
theorem skipL_bd (s : ByteArray) : ∀ (l : Strs) (i : Int), i ≤ G.skipL s l i ∧ G.skipL s l i ≤ i + (l.length : Int)
  | [], i => ⟨Int.le_refl _, by simp [G.skipL]⟩
  | x :: r, i => by
    unfold G.skipL
    have := skipL_bd s r (i + 1)
    simp only [List.length_cons]
    split <;> constructor <;> omega
theorem skip_bd (l : Strs) (s : ByteArray) : 0 ≤ G.skip l s 0 ∧ G.skip l s 0 ≤ (l.length : Int) := by
  have := skipL_bd s l 0
  unfold G.skip
  simp only [Int.toNat_zero, List.drop_zero]
  omega
theorem stL2Put (l : Strs) (s : ByteArray) (k : Int) (h : decide (0 ≤ k ∧ k ≤ (l.length : Int) ∧ l.length ≤ 1099511627776) = true) : StepOk lsL2Put (eqInv lsL2Put) (fun x => x.1.length - x.2.2.1.toNat) (l, s, k, ()) (roundK cxL2Put 0 (loopIn Go.Proofs.Try.f43 0) lsL2Put (l, s, k, ())) := by
  obtain ⟨h0, h1, h2⟩ := of_decide_eq_true h
  rw [rL2Put]
  by_cases hi : k < (l.length : Int)
  · have hs := skip_step (s := s) h0 hi
    rw [if_pos (decide_eq_true hi), if_pos (decide_eq_true h0), if_pos (decide_eq_true hi), w64 (by omega) (by omega), show (l.getD k.toNat (ByteArray.empty, ())).1 = G.sAt l k.toNat from rfl]
    by_cases hc : Go.Rx.strLt (G.sAt l k.toNat) s = true
    · rw [if_pos hc] at hs ⊢
      refine ⟨(show decide (0 ≤ k + 1 ∧ k + 1 ≤ (l.length : Int) ∧ l.length ≤ 1099511627776) = true from decide_eq_true ⟨by omega, by omega, h2⟩), ?_, ?_⟩
      · show l.length - (k + 1).toNat < l.length - k.toNat
        omega
      · show ((0, (G.skip l s (k + 1), ())), ()) = ((0, (G.skip l s k, ())), ())
        rw [hs]
    · rw [if_neg hc] at hs ⊢
      show ((0, (G.skip l s k, ())), ()) = ((0, (k, ())), ())
      rw [hs]
  · rw [if_neg (by simpa using hi)]
    show ((0, (G.skip l s k, ())), ()) = ((0, (k, ())), ())
    rw [skip_end (by omega)]
theorem lpL2Put : LpOk Go.Proofs.Try.prog cxL2Put.ntmps 0 (loopIn Go.Proofs.Try.f43 0) lsL2Put :=
  lp_okB (cxOk T0_ok T0_eq pd9_ok) mixed (by kernel_rfl) (lps_none (by kernel_rfl)) (eqInv lsL2Put) (fun x => x.1.length - x.2.2.1.toNat) (fun _ h => h) (fun x h => stL2Put x.1 x.2.1 x.2.2.1 h)
theorem sfL2Put (l : Strs) (s : ByteArray) (h : l.length ≤ 1048576) : funK cxL2Put Go.Proofs.Try.f43 spL2Put.ins spL2Put.out (l, s, ()) = some (G.put l s, ()) := by
  obtain ⟨b0, b1⟩ := skip_bd l s
  rw [eL2Put, if_pos (decide_eq_true ⟨by omega, by omega, by omega⟩), show (l.getD (G.skip l s 0).toNat (ByteArray.empty, ())).1 = G.sAt l (G.skip l s 0).toNat from rfl, strEq_iff]
  have e1 : ((l.length : Int)).toNat = l.length := by omega
  have e2 : l.take l.length = l := List.take_length
  have o1 : Go.Rx.okSize 16 (0 + (l.drop (G.skip l s 0).toNat).length) = true := okSize_few (by omega) (by simp; omega)
  have o2 : Go.Rx.okSize 16 ((l.take (G.skip l s 0).toNat).length + 1) = true := okSize_few (by omega) (by simp; omega)
  have o3 : Go.Rx.okSize 16 ((l.take (G.skip l s 0).toNat ++ [(s, ())]).length + (l.drop (G.skip l s 0).toNat).length) = true := okSize_few (by omega) (by simp; omega)
  rw [e1, e2]
  unfold G.put
  by_cases hk : G.skip l s 0 < (l.length : Int)
  · have hk2 : (G.skip l s 0).toNat < l.length := by omega
    by_cases he : G.sAt l (G.skip l s 0).toNat = s
    · rw [if_pos (show G.skip l s 0 < (l.length : Int) ∧ G.sAt l (G.skip l s 0).toNat = s from ⟨hk, he⟩)]
      simp only [hk, b0, hk2, he, decide_true, if_true]
    · rw [if_neg (show ¬ (G.skip l s 0 < (l.length : Int) ∧ G.sAt l (G.skip l s 0).toNat = s) from fun e => he e.2)]
      simp only [hk, b0, b1, hk2, he, o1, o2, o3, decide_true, decide_false, if_true]
      simp
  · rw [if_neg (show ¬ (G.skip l s 0 < (l.length : Int) ∧ G.sAt l (G.skip l s 0).toNat = s) from fun e => hk e.1)]
    simp only [hk, b0, b1, o1, o2, o3, decide_true, decide_false, if_true]
    simp
theorem okL2Put : SpecOk Go.Proofs.Try.prog 43 spL2Put :=
  fun_okB (cx := cxL2Put) (F := Go.Proofs.Try.f43) (cxOk T0_ok T0_eq pd9_ok) mixed (by kernel_rfl) (by decide) (by kernel_rfl) (lps_of (l := [(0, loopIn Go.Proofs.Try.f43 0)]) (by kernel_rfl) ⟨lp_at lpL2Put rfl, trivial⟩) (fun x h => sfL2Put x.1 x.2.1 (of_decide_eq_true h))
noncomputable abbrev pd10 : List (Nat × List Spec) := (106, [spL3Thin]) :: (81, [spL3At]) :: (43, [spL2Put]) :: pd9
theorem pd10_ok : PhiOk Go.Proofs.Try.prog pd10 := ⟨⟨okL3Thin, trivial⟩, ⟨okL3At, trivial⟩, ⟨okL2Put, trivial⟩, pd9_ok⟩
end Go.Rx

/-
  THE LAW on loops of programs: a number counted down is said as often as it must be.
-/
import Derived.Test.YtjnbmbhkgapcfaaHa
namespace Go.Rx
open Go
set_option linter.unusedVariables false
set_option linter.unusedSimpArgs false
abbrev G.sMain : ByteArray := G.B [109, 97, 105, 110]
abbrev G.sDown : ByteArray := G.B [100, 111, 119, 110]
def G.progC (n : Int) : Funs := [(G.sMain, false, [(2, n, ByteArray.empty, ()), (3, 0, G.sDown, ()), (7, 0, ByteArray.empty, ())], ()), (G.sDown, false, [(1, 0, ByteArray.empty, ()), (2, -1, ByteArray.empty, ()), (5, 0, G.sDown, ()), (6, 0, ByteArray.empty, ())], ())]
def G.countDown (n : Int) (k : Nat) : Int × Unit := (n - (k : Int), ())
def G.chkC (n : Nat) : Bool := G.smallP (G.progC (n : Int)) && (G.keepOk (G.progC (n : Int)) && decide (G.machRun (G.progC (n : Int)) 200 = (0, 2, 0, [], (List.range n).map (G.countDown (n : Int)), 1, ())))
theorem chkC_ok : ∀ k, k < 20 → G.chkC (k + 1) = true := by decide +kernel
/-! CountL: a search -/
def G.preCountL (z : Int) (m : Mach) (i : Int) : Bool := G.preA (z.toNat) i && (true && (decide (1 ≤ z ∧ z ≤ 20 ∧ m.2.2.2.2.1 = (List.range z.toNat).map (G.countDown z))))
theorem preCountL_iff {z : Int} {m : Mach} {i : Int} : G.preCountL z m i = true ↔ (0 ≤ i ∧ i ≤ ((z.toNat : Nat) : Int) ∧ (z.toNat : Nat) ≤ 1099511627776) ∧ True ∧ decide (1 ≤ z ∧ z ≤ 20 ∧ m.2.2.2.2.1 = (List.range z.toNat).map (G.countDown z)) = true := by simp [G.preCountL, preA_iff]
def G.scCountL (z : Int) (m : Mach) (i : Int) : Option (Bool × Unit) := G.scan (fun (k : Nat) => (none : Option (Bool × Unit))) (z.toNat) i
noncomputable abbrev lsCountL : LSpec := ⟨[3, 5, 6, 2], [2], [IntP, .box MachO, IntP, BoolP], [BoolP], false, fun x => G.preCountL x.1 x.2.1 x.2.2.1,
  fun x => ((G.flag 1 (G.scCountL x.1 x.2.1 x.2.2.1), G.got (G.scCountL x.1 x.2.1 x.2.2.1) (x.2.2.2.1, ())), (x.2.1, ()))⟩
noncomputable abbrev clCountL : Cx := mkCx T0 pm9 [(0, lsCountL)] [] 65
theorem rCountL (z : Int) (m : Mach) (i : Int) (r : Bool) : roundK clCountL 0 (loopIn Go.Proofs.Try.f3 0) lsCountL (z, m, i, r, ()) =
  (if Decidable.decide (i < z) = Bool.true then
    if Decidable.decide ((0 : Int) ≤ i) = Bool.true then
      if Decidable.decide (i < (↑(List.length m.2.2.2.2.1) : Int)) = Bool.true then
        if Decidable.decide (Int.toNat i < List.length m.2.2.2.2.1) = Bool.true then
          if (!Decidable.decide ((List.getD m.2.2.2.2.1 (Int.toNat i) ((0 : Int), PUnit.unit)).1 = Go.IntKind.wrap Go.IntKind.i64 (z - i))) = Bool.true then
            Option.some (Go.Rx.LRes.stop (1 : Nat) (Bool.false, PUnit.unit) (m, PUnit.unit))
          else Option.some (Go.Rx.LRes.go (z, m, Go.IntKind.wrap Go.IntKind.i64 (i + (1 : Int)), r, PUnit.unit))
        else Option.none
      else Option.none
    else Option.none
  else Option.some (Go.Rx.LRes.stop (0 : Nat) (r, PUnit.unit) (m, PUnit.unit))) := by kernel_rfl
noncomputable abbrev muCountL : PKs.den lsCountL.ins → Nat := fun x => (x.1.toNat) - x.2.2.1.toNat
theorem stCountL (z : Int) (m : Mach) (i : Int) (r : Bool) (h : G.preCountL z m i = true) : StepOk lsCountL (eqInv lsCountL) muCountL (z, m, i, r, ()) (roundK clCountL 0 (loopIn Go.Proofs.Try.f3 0) lsCountL (z, m, i, r, ())) := by
  obtain ⟨⟨h0, h1, h2⟩, hn, hc⟩ := preCountL_iff.1 h
  have hlt : ((z.toNat : Nat) : Int) = z := (by have := hc; simp at this; omega)
  rw [rCountL]
  by_cases hi : i < z
  · have hw : IntKind.i64.wrap (i + 1) = i + 1 := w64 (by omega) (by omega)
    have hs : G.scCountL z m i = ((fun (k : Nat) => (none : Option (Bool × Unit))) i.toNat).or (G.scCountL z m (i + 1)) := scan_step h0 (by omega)
    refine scan_stop (fl := 1) (eqInv lsCountL) muCountL (z, m, i + 1, r, ()) ((fun (k : Nat) => (none : Option (Bool × Unit))) i.toNat) (m, ()) ?_ (fun ho => ⟨(show G.preCountL z m (i + 1) = true from preCountL_iff.2 ⟨⟨by omega, by omega, h2⟩, trivial, hc⟩), ?_, ?_⟩) (fun w ho => ?_)
    · obtain ⟨g1, g2, g3⟩ := of_decide_eq_true hc
      have hl : m.2.2.2.2.1.length = z.toNat := by rw [g3]; simp
      have hg : (m.2.2.2.2.1.getD i.toNat ((0 : Int), ())).1 = z - i := by
        rw [g3, getD_lt _ _ (by simp; omega)]
        simp [G.countDown]
        omega
      rw [if_pos (decide_eq_true hi), if_pos (decide_eq_true h0), if_pos (decide_eq_true (by omega)), if_pos (decide_eq_true (by omega)), hg, w64 (by omega) (by omega), hw]
      simp [goStop]
    · show (z.toNat) - (i + 1).toNat < (z.toNat) - i.toNat
      omega
    · show ((_, _), _) = ((_, _), _)
      simp only [hs, ho, Option.none_or]
    · show ((_, _), _) = ((_, _), _)
      simp only [hs, ho, Option.some_or]
      rfl
  · have hs : G.scCountL z m i = none := scan_end (by omega)
    skip
    rw [if_neg (by simpa using hi)]
    show ((_, _), _) = ((_, _), _)
    simp only [hs]
    rfl
theorem lpCountL : LpOk Go.Proofs.Try.prog clCountL.ntmps 0 (loopIn Go.Proofs.Try.f3 0) lsCountL :=
  lp_okB (cxOk T0_ok T0_eq pm9_ok) mixed (by kernel_rfl) (lps_none (by kernel_rfl)) (eqInv lsCountL) muCountL (fun _ h => h) (fun x h => stCountL x.1 x.2.1 x.2.2.1 x.2.2.2.1 h)
/-! LawMachCount -/
noncomputable abbrev spLawMachCount : Spec := ⟨[BytesP], BoolR, false, fun x => decide (x.1.length ≤ 9223372036854775807), fun x => (true, ())⟩
noncomputable abbrev cxLawMachCount : Cx := mkCx T0 pm9 [(0, lsCountL)] [] 65
theorem eLawMachCount (c : Bytes) : funK cxLawMachCount Go.Proofs.Try.f3 spLawMachCount.ins spLawMachCount.out (c, ()) =
  (if Decidable.decide ((↑(List.length c) : Int) > (1048576 : Int)) = Bool.true then Option.some (Bool.true, PUnit.unit)
  else
    if (!Decidable.decide ((20 : Int) = (0 : Int))) = Bool.true then
      if
          Go.Rx.G.smallP
              [((Go.Rx.G.B [109, 97, 105, 110]),
                  Bool.false,
                  [((2 : Int), Go.IntKind.wrap Go.IntKind.i64 ((1 : Int) + Int.tmod (↑(List.length c) : Int) (20 : Int)), ByteArray.empty, PUnit.unit),
                    ((3 : Int), (0 : Int),
                      (Go.Rx.G.B [100, 111, 119, 110]),
                      PUnit.unit),
                    ((7 : Int), (0 : Int), ByteArray.empty, PUnit.unit)],
                  PUnit.unit),
                ((Go.Rx.G.B [100, 111, 119, 110]),
                  Bool.false,
                  [((1 : Int), (0 : Int), ByteArray.empty, PUnit.unit), ((2 : Int), (-1 : Int), ByteArray.empty, PUnit.unit),
                    ((5 : Int), (0 : Int),
                      (Go.Rx.G.B [100, 111, 119, 110]),
                      PUnit.unit),
                    ((6 : Int), (0 : Int), ByteArray.empty, PUnit.unit)],
                  PUnit.unit)] =
            Bool.true then
        if
            Go.Rx.G.smallP
                [((Go.Rx.G.B [109, 97, 105, 110]),
                    Bool.false,
                    [((2 : Int), Go.IntKind.wrap Go.IntKind.i64 ((1 : Int) + Int.tmod (↑(List.length c) : Int) (20 : Int)), ByteArray.empty, PUnit.unit),
                      ((3 : Int), (0 : Int),
                        (Go.Rx.G.B [100, 111, 119, 110]),
                        PUnit.unit),
                      ((7 : Int), (0 : Int), ByteArray.empty, PUnit.unit)],
                    PUnit.unit),
                  ((Go.Rx.G.B [100, 111, 119, 110]),
                    Bool.false,
                    [((1 : Int), (0 : Int), ByteArray.empty, PUnit.unit), ((2 : Int), (-1 : Int), ByteArray.empty, PUnit.unit),
                      ((5 : Int), (0 : Int),
                        (Go.Rx.G.B [100, 111, 119, 110]),
                        PUnit.unit),
                      ((6 : Int), (0 : Int), ByteArray.empty, PUnit.unit)],
                    PUnit.unit)] =
              Bool.true then
          if
              Go.Rx.G.fewMach
                  (Go.Rx.G.machRun
                    [((Go.Rx.G.B [109, 97, 105, 110]),
                        Bool.false,
                        [((2 : Int), Go.IntKind.wrap Go.IntKind.i64 ((1 : Int) + Int.tmod (↑(List.length c) : Int) (20 : Int)), ByteArray.empty, PUnit.unit),
                          ((3 : Int), (0 : Int),
                            (Go.Rx.G.B [100, 111, 119, 110]),
                            PUnit.unit),
                          ((7 : Int), (0 : Int), ByteArray.empty, PUnit.unit)],
                        PUnit.unit),
                      ((Go.Rx.G.B [100, 111, 119, 110]),
                        Bool.false,
                        [((1 : Int), (0 : Int), ByteArray.empty, PUnit.unit), ((2 : Int), (-1 : Int), ByteArray.empty, PUnit.unit),
                          ((5 : Int), (0 : Int),
                            (Go.Rx.G.B [100, 111, 119, 110]),
                            PUnit.unit),
                          ((6 : Int), (0 : Int), ByteArray.empty, PUnit.unit)],
                        PUnit.unit)]
                    (200 : Int)) =
                Bool.true then
            if
                (!Go.Rx.G.sameM
                      (Go.Rx.G.machRun
                        [((Go.Rx.G.B [109, 97, 105, 110]),
                            Bool.false,
                            [((2 : Int), Go.IntKind.wrap Go.IntKind.i64 ((1 : Int) + Int.tmod (↑(List.length c) : Int) (20 : Int)), ByteArray.empty, PUnit.unit),
                              ((3 : Int), (0 : Int),
                                (Go.Rx.G.B [100, 111, 119, 110]),
                                PUnit.unit),
                              ((7 : Int), (0 : Int), ByteArray.empty, PUnit.unit)],
                            PUnit.unit),
                          ((Go.Rx.G.B [100, 111, 119, 110]),
                            Bool.false,
                            [((1 : Int), (0 : Int), ByteArray.empty, PUnit.unit), ((2 : Int), (-1 : Int), ByteArray.empty, PUnit.unit),
                              ((5 : Int), (0 : Int),
                                (Go.Rx.G.B [100, 111, 119, 110]),
                                PUnit.unit),
                              ((6 : Int), (0 : Int), ByteArray.empty, PUnit.unit)],
                            PUnit.unit)]
                        (200 : Int))
                      (Go.Rx.G.machRun
                        [((Go.Rx.G.B [109, 97, 105, 110]),
                            Bool.false,
                            [((2 : Int), Go.IntKind.wrap Go.IntKind.i64 ((1 : Int) + Int.tmod (↑(List.length c) : Int) (20 : Int)), ByteArray.empty, PUnit.unit),
                              ((3 : Int), (0 : Int),
                                (Go.Rx.G.B [100, 111, 119, 110]),
                                PUnit.unit),
                              ((7 : Int), (0 : Int), ByteArray.empty, PUnit.unit)],
                            PUnit.unit),
                          ((Go.Rx.G.B [100, 111, 119, 110]),
                            Bool.false,
                            [((1 : Int), (0 : Int), ByteArray.empty, PUnit.unit), ((2 : Int), (-1 : Int), ByteArray.empty, PUnit.unit),
                              ((5 : Int), (0 : Int),
                                (Go.Rx.G.B [100, 111, 119, 110]),
                                PUnit.unit),
                              ((6 : Int), (0 : Int), ByteArray.empty, PUnit.unit)],
                            PUnit.unit)]
                        (200 : Int))) =
                  Bool.false then
              if
                  (!Decidable.decide
                        ((Go.Rx.G.machRun
                                        [((Go.Rx.G.B [109, 97, 105, 110]),
                                            Bool.false,
                                            [((2 : Int), Go.IntKind.wrap Go.IntKind.i64 ((1 : Int) + Int.tmod (↑(List.length c) : Int) (20 : Int)), ByteArray.empty, PUnit.unit),
                                              ((3 : Int), (0 : Int),
                                                (Go.Rx.G.B [100, 111, 119, 110]),
                                                PUnit.unit),
                                              ((7 : Int), (0 : Int), ByteArray.empty, PUnit.unit)],
                                            PUnit.unit),
                                          ((Go.Rx.G.B [100, 111, 119, 110]),
                                            Bool.false,
                                            [((1 : Int), (0 : Int), ByteArray.empty, PUnit.unit), ((2 : Int), (-1 : Int), ByteArray.empty, PUnit.unit),
                                              ((5 : Int), (0 : Int),
                                                (Go.Rx.G.B [100, 111, 119, 110]),
                                                PUnit.unit),
                                              ((6 : Int), (0 : Int), ByteArray.empty, PUnit.unit)],
                                            PUnit.unit)]
                                        (200 : Int)).2.2.2.2.2.1 =
                          (1 : Int))) =
                    Bool.false then
                if
                    (!Decidable.decide
                          ((Go.Rx.G.machRun
                                    [((Go.Rx.G.B [109, 97, 105, 110]),
                                        Bool.false,
                                        [((2 : Int), Go.IntKind.wrap Go.IntKind.i64 ((1 : Int) + Int.tmod (↑(List.length c) : Int) (20 : Int)), ByteArray.empty, PUnit.unit),
                                          ((3 : Int), (0 : Int),
                                            (Go.Rx.G.B [100, 111, 119, 110]),
                                            PUnit.unit),
                                          ((7 : Int), (0 : Int), ByteArray.empty, PUnit.unit)],
                                        PUnit.unit),
                                      ((Go.Rx.G.B [100, 111, 119, 110]),
                                        Bool.false,
                                        [((1 : Int), (0 : Int), ByteArray.empty, PUnit.unit), ((2 : Int), (-1 : Int), ByteArray.empty, PUnit.unit),
                                          ((5 : Int), (0 : Int),
                                            (Go.Rx.G.B [100, 111, 119, 110]),
                                            PUnit.unit),
                                          ((6 : Int), (0 : Int), ByteArray.empty, PUnit.unit)],
                                        PUnit.unit)]
                                    (200 : Int)).2.2.1 =
                            (0 : Int))) =
                      Bool.false then
                  if
                      (!Decidable.decide
                            ((↑(List.length
                                    (Go.Rx.G.machRun
                                                [((Go.Rx.G.B [109, 97, 105, 110]),
                                                    Bool.false,
                                                    [((2 : Int), Go.IntKind.wrap Go.IntKind.i64 ((1 : Int) + Int.tmod (↑(List.length c) : Int) (20 : Int)), ByteArray.empty, PUnit.unit),
                                                      ((3 : Int), (0 : Int),
                                                        (Go.Rx.G.B [100, 111, 119, 110]),
                                                        PUnit.unit),
                                                      ((7 : Int), (0 : Int), ByteArray.empty, PUnit.unit)],
                                                    PUnit.unit),
                                                  ((Go.Rx.G.B [100, 111, 119, 110]),
                                                    Bool.false,
                                                    [((1 : Int), (0 : Int), ByteArray.empty, PUnit.unit), ((2 : Int), (-1 : Int), ByteArray.empty, PUnit.unit),
                                                      ((5 : Int), (0 : Int),
                                                        (Go.Rx.G.B [100, 111, 119, 110]),
                                                        PUnit.unit),
                                                      ((6 : Int), (0 : Int), ByteArray.empty, PUnit.unit)],
                                                    PUnit.unit)]
                                                (200 : Int)).2.2.2.2.1) :
                                Int) =
                              Go.IntKind.wrap Go.IntKind.i64 ((1 : Int) + Int.tmod (↑(List.length c) : Int) (20 : Int)))) =
                        Bool.true then
                    Option.some (Bool.false, PUnit.unit)
                  else
                    if
                        Go.Rx.G.preCountL (Go.IntKind.wrap Go.IntKind.i64 ((1 : Int) + Int.tmod (↑(List.length c) : Int) (20 : Int)))
                            (Go.Rx.G.machRun
                              [((Go.Rx.G.B [109, 97, 105, 110]),
                                  Bool.false,
                                  [((2 : Int), Go.IntKind.wrap Go.IntKind.i64 ((1 : Int) + Int.tmod (↑(List.length c) : Int) (20 : Int)), ByteArray.empty, PUnit.unit),
                                    ((3 : Int), (0 : Int),
                                      (Go.Rx.G.B [100, 111, 119, 110]),
                                      PUnit.unit),
                                    ((7 : Int), (0 : Int), ByteArray.empty, PUnit.unit)],
                                  PUnit.unit),
                                ((Go.Rx.G.B [100, 111, 119, 110]),
                                  Bool.false,
                                  [((1 : Int), (0 : Int), ByteArray.empty, PUnit.unit), ((2 : Int), (-1 : Int), ByteArray.empty, PUnit.unit),
                                    ((5 : Int), (0 : Int),
                                      (Go.Rx.G.B [100, 111, 119, 110]),
                                      PUnit.unit),
                                    ((6 : Int), (0 : Int), ByteArray.empty, PUnit.unit)],
                                  PUnit.unit)]
                              (200 : Int))
                            (0 : Int) =
                          Bool.true then
                      if
                          Go.Rx.G.flag (1 : Nat)
                              (Go.Rx.G.scCountL (Go.IntKind.wrap Go.IntKind.i64 ((1 : Int) + Int.tmod (↑(List.length c) : Int) (20 : Int)))
                                (Go.Rx.G.machRun
                                  [((Go.Rx.G.B [109, 97, 105, 110]),
                                      Bool.false,
                                      [((2 : Int), Go.IntKind.wrap Go.IntKind.i64 ((1 : Int) + Int.tmod (↑(List.length c) : Int) (20 : Int)), ByteArray.empty, PUnit.unit),
                                        ((3 : Int), (0 : Int),
                                          (Go.Rx.G.B [100, 111, 119, 110]),
                                          PUnit.unit),
                                        ((7 : Int), (0 : Int), ByteArray.empty, PUnit.unit)],
                                      PUnit.unit),
                                    ((Go.Rx.G.B [100, 111, 119, 110]),
                                      Bool.false,
                                      [((1 : Int), (0 : Int), ByteArray.empty, PUnit.unit), ((2 : Int), (-1 : Int), ByteArray.empty, PUnit.unit),
                                        ((5 : Int), (0 : Int),
                                          (Go.Rx.G.B [100, 111, 119, 110]),
                                          PUnit.unit),
                                        ((6 : Int), (0 : Int), ByteArray.empty, PUnit.unit)],
                                      PUnit.unit)]
                                  (200 : Int))
                                (0 : Int)) =
                            (0 : Nat) then
                        Option.some (Bool.true, PUnit.unit)
                      else
                        if
                            Go.Rx.G.flag (1 : Nat)
                                (Go.Rx.G.scCountL (Go.IntKind.wrap Go.IntKind.i64 ((1 : Int) + Int.tmod (↑(List.length c) : Int) (20 : Int)))
                                  (Go.Rx.G.machRun
                                    [((Go.Rx.G.B [109, 97, 105, 110]),
                                        Bool.false,
                                        [((2 : Int), Go.IntKind.wrap Go.IntKind.i64 ((1 : Int) + Int.tmod (↑(List.length c) : Int) (20 : Int)), ByteArray.empty, PUnit.unit),
                                          ((3 : Int), (0 : Int),
                                            (Go.Rx.G.B [100, 111, 119, 110]),
                                            PUnit.unit),
                                          ((7 : Int), (0 : Int), ByteArray.empty, PUnit.unit)],
                                        PUnit.unit),
                                      ((Go.Rx.G.B [100, 111, 119, 110]),
                                        Bool.false,
                                        [((1 : Int), (0 : Int), ByteArray.empty, PUnit.unit), ((2 : Int), (-1 : Int), ByteArray.empty, PUnit.unit),
                                          ((5 : Int), (0 : Int),
                                            (Go.Rx.G.B [100, 111, 119, 110]),
                                            PUnit.unit),
                                          ((6 : Int), (0 : Int), ByteArray.empty, PUnit.unit)],
                                        PUnit.unit)]
                                    (200 : Int))
                                  (0 : Int)) =
                              (1 : Nat) then
                          Option.some
                            (Go.Rx.G.got
                              (Go.Rx.G.scCountL (Go.IntKind.wrap Go.IntKind.i64 ((1 : Int) + Int.tmod (↑(List.length c) : Int) (20 : Int)))
                                (Go.Rx.G.machRun
                                  [((Go.Rx.G.B [109, 97, 105, 110]),
                                      Bool.false,
                                      [((2 : Int), Go.IntKind.wrap Go.IntKind.i64 ((1 : Int) + Int.tmod (↑(List.length c) : Int) (20 : Int)), ByteArray.empty, PUnit.unit),
                                        ((3 : Int), (0 : Int),
                                          (Go.Rx.G.B [100, 111, 119, 110]),
                                          PUnit.unit),
                                        ((7 : Int), (0 : Int), ByteArray.empty, PUnit.unit)],
                                      PUnit.unit),
                                    ((Go.Rx.G.B [100, 111, 119, 110]),
                                      Bool.false,
                                      [((1 : Int), (0 : Int), ByteArray.empty, PUnit.unit), ((2 : Int), (-1 : Int), ByteArray.empty, PUnit.unit),
                                        ((5 : Int), (0 : Int),
                                          (Go.Rx.G.B [100, 111, 119, 110]),
                                          PUnit.unit),
                                        ((6 : Int), (0 : Int), ByteArray.empty, PUnit.unit)],
                                      PUnit.unit)]
                                  (200 : Int))
                                (0 : Int))
                              (Bool.false, PUnit.unit))
                        else Option.none
                    else Option.none
                else Option.some (Bool.false, PUnit.unit)
              else Option.some (Bool.false, PUnit.unit)
            else Option.some (Bool.false, PUnit.unit)
          else Option.none
        else Option.none
      else Option.none
    else Option.none) := by kernel_rfl
theorem progC_eq (n : Int) : [((Go.Rx.G.B [109, 97, 105, 110]), false, [((2 : Int), n, ByteArray.empty, ()), ((3 : Int), (0 : Int), (Go.Rx.G.B [100, 111, 119, 110]), ()), ((7 : Int), (0 : Int), ByteArray.empty, ())], ()), ((Go.Rx.G.B [100, 111, 119, 110]), false, [((1 : Int), (0 : Int), ByteArray.empty, ()), ((2 : Int), (-1 : Int), ByteArray.empty, ()), ((5 : Int), (0 : Int), (Go.Rx.G.B [100, 111, 119, 110]), ()), ((6 : Int), (0 : Int), ByteArray.empty, ())], ())] = G.progC n := rfl
theorem scan_none {α : Type} (n : Nat) (i : Int) : G.scan (fun (k : Nat) => (none : Option α)) n i = none := by
  unfold G.scan
  generalize List.range' i.toNat (n - i.toNat) = l
  induction l with
  | nil => rfl
  | cons a l ih => exact ih
theorem sfLawMachCount (c : Bytes) (h : c.length ≤ 9223372036854775807) : funK cxLawMachCount Go.Proofs.Try.f3 spLawMachCount.ins spLawMachCount.out (c, ()) = some (true, ()) := by
  rw [eLawMachCount]
  by_cases h1 : (c.length : Int) > 1048576
  · rw [if_pos (decide_eq_true h1)]
  · rw [if_neg (by simpa using h1), if_pos (by decide)]
    have hk : c.length % 20 < 20 := Nat.mod_lt _ (by decide)
    have e : IntKind.i64.wrap (1 + Int.tmod (c.length : Int) 20) = ((c.length % 20 + 1 : Nat) : Int) := by
      have : Int.tmod (c.length : Int) 20 = ((c.length % 20 : Nat) : Int) := rfl
      rw [this, w64 (by omega) (by omega)]
      omega
    rw [e, progC_eq]
    have hc := chkC_ok _ hk
    have hn : 1 ≤ c.length % 20 + 1 ∧ c.length % 20 + 1 ≤ 20 := by omega
    generalize c.length % 20 + 1 = n at hc hn
    unfold G.chkC at hc
    rw [Bool.and_eq_true, Bool.and_eq_true, decide_eq_true_iff] at hc
    obtain ⟨c1, c2, c3⟩ := hc
    have f : G.fewMach (0, 2, 0, [], (List.range n).map (G.countDown (n : Int)), 1, ()) = true := fewMach_iff.2 ⟨Nat.zero_le _, by simp; omega⟩
    have p : G.preCountL (n : Int) (0, 2, 0, [], (List.range n).map (G.countDown (n : Int)), 1, ()) 0 = true := preCountL_iff.2 ⟨⟨by omega, by omega, by simp; omega⟩, trivial, decide_eq_true ⟨by omega, by omega, by simp⟩⟩
    have s : G.scCountL (n : Int) (0, 2, 0, [], (List.range n).map (G.countDown (n : Int)), 1, ()) 0 = none := scan_none _ _
    simp only [c1, c3, f, p, s, sameM_self, List.length_map, List.length_range, if_true, decide_true, Bool.not_true, G.flag]
    rfl
theorem okLawMachCount : SpecOk Go.Proofs.Try.prog 3 spLawMachCount :=
  fun_okB (cx := cxLawMachCount) (F := Go.Proofs.Try.f3) (cxOk T0_ok T0_eq pm9_ok) mixed (by kernel_rfl) (by decide) (by kernel_rfl) (lps_of (l := [(0, loopIn Go.Proofs.Try.f3 0)]) (by kernel_rfl) ⟨lp_at lpCountL rfl, trivial⟩) (fun x h => sfLawMachCount x.1 (of_decide_eq_true h))
end Go.Rx

/-
  DRAWS: names, instructions, functions, units.
-/
import Derived.Test.YtoagkidolpcigaaHa
namespace Go.Rx
open Go
set_option linter.unusedVariables false
set_option linter.unusedSimpArgs false
abbrev G.nmList : Strs := [(G.B [97], ()), (G.B [98], ()), (G.B [99], ()), (G.B [100], ()), (G.B [109, 97, 105, 110], ()), (G.B [101], ())]
def G.nm (s : ByteArray) : Bool := G.hasS G.nmList s
theorem nm_iff (s : ByteArray) : G.nm s = true ↔ (s, ()) ∈ G.nmList := hasS_iff _ _
def G.insD (i : Ins) : Bool := if G.refs i.1 = true then G.nm i.2.2.1 else decide (i.2.2.1 = ByteArray.empty)
def G.insD0 (i : Ins) : Bool := if i.1 = 3 ∨ i.1 = 5 then G.nm i.2.2.1 else decide (i.2.2.1 = ByteArray.empty)
/-! L1Name -/
noncomputable abbrev cxL1Name : Cx := mkCx T0 pd2 [] [] 6
noncomputable def G.dL1Name (x : PKs.den [RdP]) : RK.den (StrR) × Bxs.den [RdP] := G.val (funK cxL1Name Go.Proofs.Try.f38 [RdP] (StrR) x)
noncomputable abbrev spL1Name : Spec := ⟨[RdP], StrR, true, fun x => G.rd 999990 x.1, fun x => G.dL1Name x⟩
theorem eL1Name (s : RdS) : funK cxL1Name Go.Proofs.Try.f38 [RdP] (StrR) (s, ()) =
  (if (Go.Rx.G.rd (999999 : Int) s && Decidable.decide ((1 : Nat) ≤ (6 : Nat) ∧ (6 : Nat) ≤ (1000 : Nat))) = Bool.true then
    Option.some
      (Go.Rx.G.dOf
        (s,
          [((Go.Rx.G.B [97]), PUnit.unit),
            ((Go.Rx.G.B [98]), PUnit.unit),
            ((Go.Rx.G.B [99]), PUnit.unit),
            ((Go.Rx.G.B [100]), PUnit.unit),
            ((Go.Rx.G.B [109, 97, 105, 110]),
              PUnit.unit),
            ((Go.Rx.G.B [101]), PUnit.unit)],
          PUnit.unit))
  else Option.none) := by kernel_rfl
def NamePost (x : PKs.den [RdP]) (r : RK.den StrR × Bxs.den [RdP]) : Prop := Adv 1 x.1 r.2.1 ∧ G.nm r.1 = true
theorem sfL1Name (s : RdS) (h : G.rd 999990 s = true) : ∃ r, funK cxL1Name Go.Proofs.Try.f38 [RdP] (StrR) (s, ()) = some r ∧ NamePost (s, ()) r := by
  have h1 : (G.rd 999999 s && decide (1 ≤ G.nmList.length ∧ G.nmList.length ≤ 1000)) = true := by
    rw [Bool.and_eq_true]
    exact ⟨rd_le h (by omega), by decide⟩
  obtain ⟨_, a1, a2⟩ := postOf (s, G.nmList, ()) h1
  rw [eL1Name]
  exact ⟨_, if_pos h1, a1, (nm_iff _).2 a2⟩
theorem postL1Name (x : PKs.den [RdP]) (h : (G.rd 999990 x.1) = true) : funK cxL1Name Go.Proofs.Try.f38 [RdP] (StrR) x = some (G.dL1Name x) ∧ NamePost x (G.dL1Name x) := val_of (sfL1Name x.1 h)
theorem okL1Name : SpecOk Go.Proofs.Try.prog 38 spL1Name :=
  fun_okB (cx := cxL1Name) (F := Go.Proofs.Try.f38) (cxOk T0_ok T0_eq pd2_ok) mixed (by kernel_rfl) (by decide) (by kernel_rfl) (lps_none (by kernel_rfl)) (fun x h => (postL1Name x h).1)
noncomputable abbrev pd4 : List (Nat × List Spec) := (38, [spL1Name]) :: pd2
theorem pd4_ok : PhiOk Go.Proofs.Try.prog pd4 := ⟨⟨okL1Name, trivial⟩, pd2_ok⟩
abbrev InsR : RK := .one (.agg InsK)
/-! L1Ins -/
noncomputable abbrev cxL1Ins : Cx := mkCx T0 pd4 [] [] 31
noncomputable def G.dL1Ins (x : PKs.den [RdP]) : RK.den (InsR) × Bxs.den [RdP] := G.val (funK cxL1Ins Go.Proofs.Try.f136 [RdP] (InsR) x)
noncomputable abbrev spL1Ins : Spec := ⟨[RdP], InsR, true, fun x => G.rd 999980 x.1, fun x => G.dL1Ins x⟩
theorem eL1Ins (s : RdS) : funK cxL1Ins Go.Proofs.Try.f136 [RdP] (InsR) (s, ()) =
  (if Go.Rx.G.rd (1000000 : Int) s = Bool.true then
    if Decidable.decide ((Go.Rx.G.dPick (s, (8 : Int), PUnit.unit)).1 = (0 : Int)) = Bool.true then
      if Decidable.decide ((Go.Rx.G.dPick (s, (8 : Int), PUnit.unit)).1 = (0 : Int)) = Bool.true then Option.some (((1 : Int), (0 : Int), ByteArray.empty, PUnit.unit), (Go.Rx.G.dPick (s, (8 : Int), PUnit.unit)).2)
      else
        if Decidable.decide ((Go.Rx.G.dPick (s, (8 : Int), PUnit.unit)).1 = (2 : Int)) = Bool.true then
          if Decidable.decide ((Go.Rx.G.dPick (s, (8 : Int), PUnit.unit)).1 = (2 : Int)) = Bool.true then
            if (Go.Rx.G.rd (999999 : Int) (Go.Rx.G.dPick (s, (8 : Int), PUnit.unit)).2.1 && Decidable.decide ((1 : Nat) ≤ (5 : Nat) ∧ (5 : Nat) ≤ (1000 : Nat))) = Bool.true then
              Option.some
                (((2 : Int),
                    (Go.Rx.G.dNum ((Go.Rx.G.dPick (s, (8 : Int), PUnit.unit)).2.1, [((1 : Int), PUnit.unit), ((-1 : Int), PUnit.unit), ((2 : Int), PUnit.unit), ((5 : Int), PUnit.unit), ((-3 : Int), PUnit.unit)], PUnit.unit)).1,
                    ByteArray.empty, PUnit.unit),
                  (Go.Rx.G.dNum ((Go.Rx.G.dPick (s, (8 : Int), PUnit.unit)).2.1, [((1 : Int), PUnit.unit), ((-1 : Int), PUnit.unit), ((2 : Int), PUnit.unit), ((5 : Int), PUnit.unit), ((-3 : Int), PUnit.unit)], PUnit.unit)).2)
            else Option.none
          else
            if Decidable.decide ((Go.Rx.G.dPick (s, (8 : Int), PUnit.unit)).1 = (4 : Int)) = Bool.true then
              if Decidable.decide ((Go.Rx.G.dPick (s, (8 : Int), PUnit.unit)).1 = (4 : Int)) = Bool.true then
                if Go.Rx.G.rd (999990 : Int) (Go.Rx.G.dPick (s, (8 : Int), PUnit.unit)).2.1 = Bool.true then
                  Option.some (((3 : Int), (0 : Int), (Go.Rx.G.dL1Name (Go.Rx.G.dPick (s, (8 : Int), PUnit.unit)).2).1, PUnit.unit), (Go.Rx.G.dL1Name (Go.Rx.G.dPick (s, (8 : Int), PUnit.unit)).2).2)
                else Option.none
              else
                if Decidable.decide ((Go.Rx.G.dPick (s, (8 : Int), PUnit.unit)).1 = (6 : Int)) = Bool.true then
                  if Go.Rx.G.rd (999990 : Int) (Go.Rx.G.dPick (s, (8 : Int), PUnit.unit)).2.1 = Bool.true then
                    Option.some (((5 : Int), (0 : Int), (Go.Rx.G.dL1Name (Go.Rx.G.dPick (s, (8 : Int), PUnit.unit)).2).1, PUnit.unit), (Go.Rx.G.dL1Name (Go.Rx.G.dPick (s, (8 : Int), PUnit.unit)).2).2)
                  else Option.none
                else
                  if (Go.Rx.G.rd (999999 : Int) (Go.Rx.G.dPick (s, (8 : Int), PUnit.unit)).2.1 && Decidable.decide ((1 : Nat) ≤ (4 : Nat) ∧ (4 : Nat) ≤ (1000 : Nat))) = Bool.true then
                    Option.some
                      (((Go.Rx.G.dNum ((Go.Rx.G.dPick (s, (8 : Int), PUnit.unit)).2.1, [((6 : Int), PUnit.unit), ((6 : Int), PUnit.unit), ((7 : Int), PUnit.unit), ((4 : Int), PUnit.unit)], PUnit.unit)).1, (0 : Int),
                          { data := { toList := [] } }, PUnit.unit),
                        (Go.Rx.G.dNum ((Go.Rx.G.dPick (s, (8 : Int), PUnit.unit)).2.1, [((6 : Int), PUnit.unit), ((6 : Int), PUnit.unit), ((7 : Int), PUnit.unit), ((4 : Int), PUnit.unit)], PUnit.unit)).2)
                  else Option.none
            else
              if Decidable.decide ((Go.Rx.G.dPick (s, (8 : Int), PUnit.unit)).1 = (5 : Int)) = Bool.true then
                if Go.Rx.G.rd (999990 : Int) (Go.Rx.G.dPick (s, (8 : Int), PUnit.unit)).2.1 = Bool.true then
                  Option.some (((3 : Int), (0 : Int), (Go.Rx.G.dL1Name (Go.Rx.G.dPick (s, (8 : Int), PUnit.unit)).2).1, PUnit.unit), (Go.Rx.G.dL1Name (Go.Rx.G.dPick (s, (8 : Int), PUnit.unit)).2).2)
                else Option.none
              else
                if Decidable.decide ((Go.Rx.G.dPick (s, (8 : Int), PUnit.unit)).1 = (6 : Int)) = Bool.true then
                  if Go.Rx.G.rd (999990 : Int) (Go.Rx.G.dPick (s, (8 : Int), PUnit.unit)).2.1 = Bool.true then
                    Option.some (((5 : Int), (0 : Int), (Go.Rx.G.dL1Name (Go.Rx.G.dPick (s, (8 : Int), PUnit.unit)).2).1, PUnit.unit), (Go.Rx.G.dL1Name (Go.Rx.G.dPick (s, (8 : Int), PUnit.unit)).2).2)
                  else Option.none
                else
                  if (Go.Rx.G.rd (999999 : Int) (Go.Rx.G.dPick (s, (8 : Int), PUnit.unit)).2.1 && Decidable.decide ((1 : Nat) ≤ (4 : Nat) ∧ (4 : Nat) ≤ (1000 : Nat))) = Bool.true then
                    Option.some
                      (((Go.Rx.G.dNum ((Go.Rx.G.dPick (s, (8 : Int), PUnit.unit)).2.1, [((6 : Int), PUnit.unit), ((6 : Int), PUnit.unit), ((7 : Int), PUnit.unit), ((4 : Int), PUnit.unit)], PUnit.unit)).1, (0 : Int),
                          { data := { toList := [] } }, PUnit.unit),
                        (Go.Rx.G.dNum ((Go.Rx.G.dPick (s, (8 : Int), PUnit.unit)).2.1, [((6 : Int), PUnit.unit), ((6 : Int), PUnit.unit), ((7 : Int), PUnit.unit), ((4 : Int), PUnit.unit)], PUnit.unit)).2)
                  else Option.none
        else
          if Decidable.decide ((Go.Rx.G.dPick (s, (8 : Int), PUnit.unit)).1 = (3 : Int)) = Bool.true then
            if (Go.Rx.G.rd (999999 : Int) (Go.Rx.G.dPick (s, (8 : Int), PUnit.unit)).2.1 && Decidable.decide ((1 : Nat) ≤ (5 : Nat) ∧ (5 : Nat) ≤ (1000 : Nat))) = Bool.true then
              Option.some
                (((2 : Int),
                    (Go.Rx.G.dNum ((Go.Rx.G.dPick (s, (8 : Int), PUnit.unit)).2.1, [((1 : Int), PUnit.unit), ((-1 : Int), PUnit.unit), ((2 : Int), PUnit.unit), ((5 : Int), PUnit.unit), ((-3 : Int), PUnit.unit)], PUnit.unit)).1,
                    ByteArray.empty, PUnit.unit),
                  (Go.Rx.G.dNum ((Go.Rx.G.dPick (s, (8 : Int), PUnit.unit)).2.1, [((1 : Int), PUnit.unit), ((-1 : Int), PUnit.unit), ((2 : Int), PUnit.unit), ((5 : Int), PUnit.unit), ((-3 : Int), PUnit.unit)], PUnit.unit)).2)
            else Option.none
          else
            if Decidable.decide ((Go.Rx.G.dPick (s, (8 : Int), PUnit.unit)).1 = (4 : Int)) = Bool.true then
              if Decidable.decide ((Go.Rx.G.dPick (s, (8 : Int), PUnit.unit)).1 = (4 : Int)) = Bool.true then
                if Go.Rx.G.rd (999990 : Int) (Go.Rx.G.dPick (s, (8 : Int), PUnit.unit)).2.1 = Bool.true then
                  Option.some (((3 : Int), (0 : Int), (Go.Rx.G.dL1Name (Go.Rx.G.dPick (s, (8 : Int), PUnit.unit)).2).1, PUnit.unit), (Go.Rx.G.dL1Name (Go.Rx.G.dPick (s, (8 : Int), PUnit.unit)).2).2)
                else Option.none
              else
                if Decidable.decide ((Go.Rx.G.dPick (s, (8 : Int), PUnit.unit)).1 = (6 : Int)) = Bool.true then
                  if Go.Rx.G.rd (999990 : Int) (Go.Rx.G.dPick (s, (8 : Int), PUnit.unit)).2.1 = Bool.true then
                    Option.some (((5 : Int), (0 : Int), (Go.Rx.G.dL1Name (Go.Rx.G.dPick (s, (8 : Int), PUnit.unit)).2).1, PUnit.unit), (Go.Rx.G.dL1Name (Go.Rx.G.dPick (s, (8 : Int), PUnit.unit)).2).2)
                  else Option.none
                else
                  if (Go.Rx.G.rd (999999 : Int) (Go.Rx.G.dPick (s, (8 : Int), PUnit.unit)).2.1 && Decidable.decide ((1 : Nat) ≤ (4 : Nat) ∧ (4 : Nat) ≤ (1000 : Nat))) = Bool.true then
                    Option.some
                      (((Go.Rx.G.dNum ((Go.Rx.G.dPick (s, (8 : Int), PUnit.unit)).2.1, [((6 : Int), PUnit.unit), ((6 : Int), PUnit.unit), ((7 : Int), PUnit.unit), ((4 : Int), PUnit.unit)], PUnit.unit)).1, (0 : Int),
                          { data := { toList := [] } }, PUnit.unit),
                        (Go.Rx.G.dNum ((Go.Rx.G.dPick (s, (8 : Int), PUnit.unit)).2.1, [((6 : Int), PUnit.unit), ((6 : Int), PUnit.unit), ((7 : Int), PUnit.unit), ((4 : Int), PUnit.unit)], PUnit.unit)).2)
                  else Option.none
            else
              if Decidable.decide ((Go.Rx.G.dPick (s, (8 : Int), PUnit.unit)).1 = (5 : Int)) = Bool.true then
                if Go.Rx.G.rd (999990 : Int) (Go.Rx.G.dPick (s, (8 : Int), PUnit.unit)).2.1 = Bool.true then
                  Option.some (((3 : Int), (0 : Int), (Go.Rx.G.dL1Name (Go.Rx.G.dPick (s, (8 : Int), PUnit.unit)).2).1, PUnit.unit), (Go.Rx.G.dL1Name (Go.Rx.G.dPick (s, (8 : Int), PUnit.unit)).2).2)
                else Option.none
              else
                if Decidable.decide ((Go.Rx.G.dPick (s, (8 : Int), PUnit.unit)).1 = (6 : Int)) = Bool.true then
                  if Go.Rx.G.rd (999990 : Int) (Go.Rx.G.dPick (s, (8 : Int), PUnit.unit)).2.1 = Bool.true then
                    Option.some (((5 : Int), (0 : Int), (Go.Rx.G.dL1Name (Go.Rx.G.dPick (s, (8 : Int), PUnit.unit)).2).1, PUnit.unit), (Go.Rx.G.dL1Name (Go.Rx.G.dPick (s, (8 : Int), PUnit.unit)).2).2)
                  else Option.none
                else
                  if (Go.Rx.G.rd (999999 : Int) (Go.Rx.G.dPick (s, (8 : Int), PUnit.unit)).2.1 && Decidable.decide ((1 : Nat) ≤ (4 : Nat) ∧ (4 : Nat) ≤ (1000 : Nat))) = Bool.true then
                    Option.some
                      (((Go.Rx.G.dNum ((Go.Rx.G.dPick (s, (8 : Int), PUnit.unit)).2.1, [((6 : Int), PUnit.unit), ((6 : Int), PUnit.unit), ((7 : Int), PUnit.unit), ((4 : Int), PUnit.unit)], PUnit.unit)).1, (0 : Int),
                          { data := { toList := [] } }, PUnit.unit),
                        (Go.Rx.G.dNum ((Go.Rx.G.dPick (s, (8 : Int), PUnit.unit)).2.1, [((6 : Int), PUnit.unit), ((6 : Int), PUnit.unit), ((7 : Int), PUnit.unit), ((4 : Int), PUnit.unit)], PUnit.unit)).2)
                  else Option.none
    else
      if Decidable.decide ((Go.Rx.G.dPick (s, (8 : Int), PUnit.unit)).1 = (1 : Int)) = Bool.true then Option.some (((1 : Int), (0 : Int), ByteArray.empty, PUnit.unit), (Go.Rx.G.dPick (s, (8 : Int), PUnit.unit)).2)
      else
        if Decidable.decide ((Go.Rx.G.dPick (s, (8 : Int), PUnit.unit)).1 = (2 : Int)) = Bool.true then
          if Decidable.decide ((Go.Rx.G.dPick (s, (8 : Int), PUnit.unit)).1 = (2 : Int)) = Bool.true then
            if (Go.Rx.G.rd (999999 : Int) (Go.Rx.G.dPick (s, (8 : Int), PUnit.unit)).2.1 && Decidable.decide ((1 : Nat) ≤ (5 : Nat) ∧ (5 : Nat) ≤ (1000 : Nat))) = Bool.true then
              Option.some
                (((2 : Int),
                    (Go.Rx.G.dNum ((Go.Rx.G.dPick (s, (8 : Int), PUnit.unit)).2.1, [((1 : Int), PUnit.unit), ((-1 : Int), PUnit.unit), ((2 : Int), PUnit.unit), ((5 : Int), PUnit.unit), ((-3 : Int), PUnit.unit)], PUnit.unit)).1,
                    ByteArray.empty, PUnit.unit),
                  (Go.Rx.G.dNum ((Go.Rx.G.dPick (s, (8 : Int), PUnit.unit)).2.1, [((1 : Int), PUnit.unit), ((-1 : Int), PUnit.unit), ((2 : Int), PUnit.unit), ((5 : Int), PUnit.unit), ((-3 : Int), PUnit.unit)], PUnit.unit)).2)
            else Option.none
          else
            if Decidable.decide ((Go.Rx.G.dPick (s, (8 : Int), PUnit.unit)).1 = (4 : Int)) = Bool.true then
              if Decidable.decide ((Go.Rx.G.dPick (s, (8 : Int), PUnit.unit)).1 = (4 : Int)) = Bool.true then
                if Go.Rx.G.rd (999990 : Int) (Go.Rx.G.dPick (s, (8 : Int), PUnit.unit)).2.1 = Bool.true then
                  Option.some (((3 : Int), (0 : Int), (Go.Rx.G.dL1Name (Go.Rx.G.dPick (s, (8 : Int), PUnit.unit)).2).1, PUnit.unit), (Go.Rx.G.dL1Name (Go.Rx.G.dPick (s, (8 : Int), PUnit.unit)).2).2)
                else Option.none
              else
                if Decidable.decide ((Go.Rx.G.dPick (s, (8 : Int), PUnit.unit)).1 = (6 : Int)) = Bool.true then
                  if Go.Rx.G.rd (999990 : Int) (Go.Rx.G.dPick (s, (8 : Int), PUnit.unit)).2.1 = Bool.true then
                    Option.some (((5 : Int), (0 : Int), (Go.Rx.G.dL1Name (Go.Rx.G.dPick (s, (8 : Int), PUnit.unit)).2).1, PUnit.unit), (Go.Rx.G.dL1Name (Go.Rx.G.dPick (s, (8 : Int), PUnit.unit)).2).2)
                  else Option.none
                else
                  if (Go.Rx.G.rd (999999 : Int) (Go.Rx.G.dPick (s, (8 : Int), PUnit.unit)).2.1 && Decidable.decide ((1 : Nat) ≤ (4 : Nat) ∧ (4 : Nat) ≤ (1000 : Nat))) = Bool.true then
                    Option.some
                      (((Go.Rx.G.dNum ((Go.Rx.G.dPick (s, (8 : Int), PUnit.unit)).2.1, [((6 : Int), PUnit.unit), ((6 : Int), PUnit.unit), ((7 : Int), PUnit.unit), ((4 : Int), PUnit.unit)], PUnit.unit)).1, (0 : Int),
                          { data := { toList := [] } }, PUnit.unit),
                        (Go.Rx.G.dNum ((Go.Rx.G.dPick (s, (8 : Int), PUnit.unit)).2.1, [((6 : Int), PUnit.unit), ((6 : Int), PUnit.unit), ((7 : Int), PUnit.unit), ((4 : Int), PUnit.unit)], PUnit.unit)).2)
                  else Option.none
            else
              if Decidable.decide ((Go.Rx.G.dPick (s, (8 : Int), PUnit.unit)).1 = (5 : Int)) = Bool.true then
                if Go.Rx.G.rd (999990 : Int) (Go.Rx.G.dPick (s, (8 : Int), PUnit.unit)).2.1 = Bool.true then
                  Option.some (((3 : Int), (0 : Int), (Go.Rx.G.dL1Name (Go.Rx.G.dPick (s, (8 : Int), PUnit.unit)).2).1, PUnit.unit), (Go.Rx.G.dL1Name (Go.Rx.G.dPick (s, (8 : Int), PUnit.unit)).2).2)
                else Option.none
              else
                if Decidable.decide ((Go.Rx.G.dPick (s, (8 : Int), PUnit.unit)).1 = (6 : Int)) = Bool.true then
                  if Go.Rx.G.rd (999990 : Int) (Go.Rx.G.dPick (s, (8 : Int), PUnit.unit)).2.1 = Bool.true then
                    Option.some (((5 : Int), (0 : Int), (Go.Rx.G.dL1Name (Go.Rx.G.dPick (s, (8 : Int), PUnit.unit)).2).1, PUnit.unit), (Go.Rx.G.dL1Name (Go.Rx.G.dPick (s, (8 : Int), PUnit.unit)).2).2)
                  else Option.none
                else
                  if (Go.Rx.G.rd (999999 : Int) (Go.Rx.G.dPick (s, (8 : Int), PUnit.unit)).2.1 && Decidable.decide ((1 : Nat) ≤ (4 : Nat) ∧ (4 : Nat) ≤ (1000 : Nat))) = Bool.true then
                    Option.some
                      (((Go.Rx.G.dNum ((Go.Rx.G.dPick (s, (8 : Int), PUnit.unit)).2.1, [((6 : Int), PUnit.unit), ((6 : Int), PUnit.unit), ((7 : Int), PUnit.unit), ((4 : Int), PUnit.unit)], PUnit.unit)).1, (0 : Int),
                          { data := { toList := [] } }, PUnit.unit),
                        (Go.Rx.G.dNum ((Go.Rx.G.dPick (s, (8 : Int), PUnit.unit)).2.1, [((6 : Int), PUnit.unit), ((6 : Int), PUnit.unit), ((7 : Int), PUnit.unit), ((4 : Int), PUnit.unit)], PUnit.unit)).2)
                  else Option.none
        else
          if Decidable.decide ((Go.Rx.G.dPick (s, (8 : Int), PUnit.unit)).1 = (3 : Int)) = Bool.true then
            if (Go.Rx.G.rd (999999 : Int) (Go.Rx.G.dPick (s, (8 : Int), PUnit.unit)).2.1 && Decidable.decide ((1 : Nat) ≤ (5 : Nat) ∧ (5 : Nat) ≤ (1000 : Nat))) = Bool.true then
              Option.some
                (((2 : Int),
                    (Go.Rx.G.dNum ((Go.Rx.G.dPick (s, (8 : Int), PUnit.unit)).2.1, [((1 : Int), PUnit.unit), ((-1 : Int), PUnit.unit), ((2 : Int), PUnit.unit), ((5 : Int), PUnit.unit), ((-3 : Int), PUnit.unit)], PUnit.unit)).1,
                    ByteArray.empty, PUnit.unit),
                  (Go.Rx.G.dNum ((Go.Rx.G.dPick (s, (8 : Int), PUnit.unit)).2.1, [((1 : Int), PUnit.unit), ((-1 : Int), PUnit.unit), ((2 : Int), PUnit.unit), ((5 : Int), PUnit.unit), ((-3 : Int), PUnit.unit)], PUnit.unit)).2)
            else Option.none
          else
            if Decidable.decide ((Go.Rx.G.dPick (s, (8 : Int), PUnit.unit)).1 = (4 : Int)) = Bool.true then
              if Decidable.decide ((Go.Rx.G.dPick (s, (8 : Int), PUnit.unit)).1 = (4 : Int)) = Bool.true then
                if Go.Rx.G.rd (999990 : Int) (Go.Rx.G.dPick (s, (8 : Int), PUnit.unit)).2.1 = Bool.true then
                  Option.some (((3 : Int), (0 : Int), (Go.Rx.G.dL1Name (Go.Rx.G.dPick (s, (8 : Int), PUnit.unit)).2).1, PUnit.unit), (Go.Rx.G.dL1Name (Go.Rx.G.dPick (s, (8 : Int), PUnit.unit)).2).2)
                else Option.none
              else
                if Decidable.decide ((Go.Rx.G.dPick (s, (8 : Int), PUnit.unit)).1 = (6 : Int)) = Bool.true then
                  if Go.Rx.G.rd (999990 : Int) (Go.Rx.G.dPick (s, (8 : Int), PUnit.unit)).2.1 = Bool.true then
                    Option.some (((5 : Int), (0 : Int), (Go.Rx.G.dL1Name (Go.Rx.G.dPick (s, (8 : Int), PUnit.unit)).2).1, PUnit.unit), (Go.Rx.G.dL1Name (Go.Rx.G.dPick (s, (8 : Int), PUnit.unit)).2).2)
                  else Option.none
                else
                  if (Go.Rx.G.rd (999999 : Int) (Go.Rx.G.dPick (s, (8 : Int), PUnit.unit)).2.1 && Decidable.decide ((1 : Nat) ≤ (4 : Nat) ∧ (4 : Nat) ≤ (1000 : Nat))) = Bool.true then
                    Option.some
                      (((Go.Rx.G.dNum ((Go.Rx.G.dPick (s, (8 : Int), PUnit.unit)).2.1, [((6 : Int), PUnit.unit), ((6 : Int), PUnit.unit), ((7 : Int), PUnit.unit), ((4 : Int), PUnit.unit)], PUnit.unit)).1, (0 : Int),
                          { data := { toList := [] } }, PUnit.unit),
                        (Go.Rx.G.dNum ((Go.Rx.G.dPick (s, (8 : Int), PUnit.unit)).2.1, [((6 : Int), PUnit.unit), ((6 : Int), PUnit.unit), ((7 : Int), PUnit.unit), ((4 : Int), PUnit.unit)], PUnit.unit)).2)
                  else Option.none
            else
              if Decidable.decide ((Go.Rx.G.dPick (s, (8 : Int), PUnit.unit)).1 = (5 : Int)) = Bool.true then
                if Go.Rx.G.rd (999990 : Int) (Go.Rx.G.dPick (s, (8 : Int), PUnit.unit)).2.1 = Bool.true then
                  Option.some (((3 : Int), (0 : Int), (Go.Rx.G.dL1Name (Go.Rx.G.dPick (s, (8 : Int), PUnit.unit)).2).1, PUnit.unit), (Go.Rx.G.dL1Name (Go.Rx.G.dPick (s, (8 : Int), PUnit.unit)).2).2)
                else Option.none
              else
                if Decidable.decide ((Go.Rx.G.dPick (s, (8 : Int), PUnit.unit)).1 = (6 : Int)) = Bool.true then
                  if Go.Rx.G.rd (999990 : Int) (Go.Rx.G.dPick (s, (8 : Int), PUnit.unit)).2.1 = Bool.true then
                    Option.some (((5 : Int), (0 : Int), (Go.Rx.G.dL1Name (Go.Rx.G.dPick (s, (8 : Int), PUnit.unit)).2).1, PUnit.unit), (Go.Rx.G.dL1Name (Go.Rx.G.dPick (s, (8 : Int), PUnit.unit)).2).2)
                  else Option.none
                else
                  if (Go.Rx.G.rd (999999 : Int) (Go.Rx.G.dPick (s, (8 : Int), PUnit.unit)).2.1 && Decidable.decide ((1 : Nat) ≤ (4 : Nat) ∧ (4 : Nat) ≤ (1000 : Nat))) = Bool.true then
                    Option.some
                      (((Go.Rx.G.dNum ((Go.Rx.G.dPick (s, (8 : Int), PUnit.unit)).2.1, [((6 : Int), PUnit.unit), ((6 : Int), PUnit.unit), ((7 : Int), PUnit.unit), ((4 : Int), PUnit.unit)], PUnit.unit)).1, (0 : Int),
                          { data := { toList := [] } }, PUnit.unit),
                        (Go.Rx.G.dNum ((Go.Rx.G.dPick (s, (8 : Int), PUnit.unit)).2.1, [((6 : Int), PUnit.unit), ((6 : Int), PUnit.unit), ((7 : Int), PUnit.unit), ((4 : Int), PUnit.unit)], PUnit.unit)).2)
                  else Option.none
  else Option.none) := by kernel_rfl
def InsPost0 (x : PKs.den [RdP]) (r : RK.den InsR × Bxs.den [RdP]) : Prop := Adv 2 x.1 r.2.1 ∧ G.insD0 r.1 = true
theorem sfL1Ins (s : RdS) (h : G.rd 999980 s = true) : ∃ r, funK cxL1Ins Go.Proofs.Try.f136 [RdP] (InsR) (s, ()) = some r ∧ InsPost0 (s, ()) r := by
  obtain ⟨_, p1, p2, p3⟩ := postPick (s, 8, ()) (rd_le h (by omega))
  have hp := rd_le h (show (999980 : Int) ≤ 1000000 by omega)
  rw [eL1Ins, if_pos hp]
  generalize G.dPick (s, (8 : Int), ()) = q at p1 p2 p3 ⊢
  have hq : G.rd 999981 q.2.1 = true := p1.rd h
  have n1 : G.rd 999990 q.2.1 = true := rd_le hq (by omega)
  have n5 : (G.rd 999999 q.2.1 && decide ((1 : Nat) ≤ 5 ∧ (5 : Nat) ≤ 1000)) = true := by rw [Bool.and_eq_true]; exact ⟨rd_le hq (by omega), by decide⟩
  have n4 : (G.rd 999999 q.2.1 && decide ((1 : Nat) ≤ 4 ∧ (4 : Nat) ≤ 1000)) = true := by rw [Bool.and_eq_true]; exact ⟨rd_le hq (by omega), by decide⟩
  have kSay : ∃ r, (some (((1 : Int), (0 : Int), ByteArray.empty, ()), q.2) : Option (RK.den InsR × Bxs.den [RdP])) = some r ∧ InsPost0 (s, ()) r := ⟨_, rfl, p1.le (by omega), by kernel_rfl⟩
  obtain ⟨_, l1, l2⟩ := postL1Name q.2 n1
  have kName : ∀ op : Int, op = 3 ∨ op = 5 → ∃ r, (some ((op, (0 : Int), (G.dL1Name q.2).1, ()), (G.dL1Name q.2).2) : Option (RK.den InsR × Bxs.den [RdP])) = some r ∧ InsPost0 (s, ()) r := fun op ho => ⟨_, rfl, p1.trans l1, by
    unfold G.insD0
    rw [if_pos ho]
    exact l2⟩
  have kAdd : ∀ l : Ints, l.length = 5 → ∃ r, (some (((2 : Int), (G.dNum (q.2.1, l, ())).1, ByteArray.empty, ()), (G.dNum (q.2.1, l, ())).2) : Option (RK.den InsR × Bxs.den [RdP])) = some r ∧ InsPost0 (s, ()) r := fun l hl => by
    obtain ⟨_, m1, m2⟩ := postNum (q.2.1, l, ()) (by show (G.rd 999999 q.2.1 && decide (1 ≤ l.length ∧ l.length ≤ 1000)) = true; rw [hl]; exact n5)
    refine ⟨_, rfl, p1.trans m1, ?_⟩
    unfold G.insD0
    rw [if_neg (by show ¬ ((2 : Int) = 3 ∨ (2 : Int) = 5); omega)]
    exact decide_eq_true rfl
  have kEnd : ∀ l : Ints, l = [(6, ()), (6, ()), (7, ()), (4, ())] → ∃ r, (some (((G.dNum (q.2.1, l, ())).1, (0 : Int), ({ data := { toList := [] } } : ByteArray), ()), (G.dNum (q.2.1, l, ())).2) : Option (RK.den InsR × Bxs.den [RdP])) = some r ∧ InsPost0 (s, ()) r := fun l hl => by
    obtain ⟨_, m1, m2⟩ := postNum (q.2.1, l, ()) (by show (G.rd 999999 q.2.1 && decide (1 ≤ l.length ∧ l.length ≤ 1000)) = true; rw [hl]; exact n4)
    refine ⟨_, rfl, p1.trans m1, ?_⟩
    unfold G.insD0
    obtain ⟨v, hv⟩ : ∃ v : Int, v = (G.dNum (q.2.1, l, ())).1 := ⟨_, rfl⟩
    have m2 : (v, ()) ∈ l := by rw [hv]; exact m2
    rw [← hv]
    subst hl
    simp at m2
    rw [if_neg (by show ¬ (v = 3 ∨ v = 5); omega)]
    exact decide_eq_true rfl
  simp only [n1, n4, n5, if_true]
  repeat' split
  all_goals first
    | exact kSay
    | exact kName 3 (.inl rfl)
    | exact kName 5 (.inr rfl)
    | exact kAdd _ rfl
    | exact kEnd _ rfl
theorem postL1Ins (x : PKs.den [RdP]) (h : (G.rd 999980 x.1) = true) : funK cxL1Ins Go.Proofs.Try.f136 [RdP] (InsR) x = some (G.dL1Ins x) ∧ InsPost0 x (G.dL1Ins x) := val_of (sfL1Ins x.1 h)
theorem okL1Ins : SpecOk Go.Proofs.Try.prog 136 spL1Ins :=
  fun_okB (cx := cxL1Ins) (F := Go.Proofs.Try.f136) (cxOk T0_ok T0_eq pd4_ok) mixed (by kernel_rfl) (by decide) (by kernel_rfl) (lps_none (by kernel_rfl)) (fun x h => (postL1Ins x h).1)
noncomputable abbrev pd5 : List (Nat × List Spec) := (136, [spL1Ins]) :: pd4
theorem pd5_ok : PhiOk Go.Proofs.Try.prog pd5 := ⟨⟨okL1Ins, trivial⟩, pd4_ok⟩
/-! L1Right -/
noncomputable abbrev cxL1Right : Cx := mkCx T0 pd5 [] [] 13
noncomputable def G.dL1Right (x : PKs.den [RdP]) : RK.den (InsR) × Bxs.den [RdP] := G.val (funK cxL1Right Go.Proofs.Try.f124 [RdP] (InsR) x)
noncomputable abbrev spL1Right : Spec := ⟨[RdP], InsR, true, fun x => G.rd 999970 x.1, fun x => G.dL1Right x⟩
theorem eL1Right (s : RdS) : funK cxL1Right Go.Proofs.Try.f124 [RdP] (InsR) (s, ()) =
  (if Go.Rx.G.rd (999980 : Int) s = Bool.true then
    if Decidable.decide ((Go.Rx.G.dL1Ins (s, PUnit.unit)).1.1 = (4 : Int)) = Bool.true then
      if Go.Rx.G.rd (999990 : Int) (Go.Rx.G.dL1Ins (s, PUnit.unit)).2.1 = Bool.true then
        Option.some
          (((Go.Rx.G.dL1Ins (s, PUnit.unit)).1.1, (Go.Rx.G.dL1Ins (s, PUnit.unit)).1.2.1, (Go.Rx.G.dL1Name (Go.Rx.G.dL1Ins (s, PUnit.unit)).2).1, PUnit.unit),
            (Go.Rx.G.dL1Name (Go.Rx.G.dL1Ins (s, PUnit.unit)).2).2)
      else Option.none
    else Option.some (Go.Rx.G.dL1Ins (s, PUnit.unit))
  else Option.none) := by kernel_rfl
def InsPost (x : PKs.den [RdP]) (r : RK.den InsR × Bxs.den [RdP]) : Prop := Adv 3 x.1 r.2.1 ∧ G.insD r.1 = true
theorem sfL1Right (s : RdS) (h : G.rd 999970 s = true) : ∃ r, funK cxL1Right Go.Proofs.Try.f124 [RdP] (InsR) (s, ()) = some r ∧ InsPost (s, ()) r := by
  have hp := rd_le h (show (999970 : Int) ≤ 999980 by omega)
  obtain ⟨_, p1, p2⟩ := postL1Ins (s, ()) hp
  rw [eL1Right, if_pos hp]
  generalize G.dL1Ins (s, ()) = q at p1 p2 ⊢
  have n1 : G.rd 999990 q.2.1 = true := rd_le (p1.rd h) (by omega)
  obtain ⟨_, l1, l2⟩ := postL1Name q.2 n1
  have p2 : G.insD0 q.1 = true := p2
  unfold G.insD0 at p2
  by_cases h4 : q.1.1 = 4
  · rw [if_pos (decide_eq_true h4), if_pos n1]
    refine ⟨_, rfl, p1.trans l1, ?_⟩
    unfold G.insD
    rw [if_pos (by show G.refs q.1.1 = true; rw [h4]; rfl)]
    exact l2
  · rw [if_neg (by simpa using h4)]
    refine ⟨_, rfl, p1.le (by omega), ?_⟩
    unfold G.insD
    by_cases hr : G.refs q.1.1 = true
    · rw [if_pos hr]
      rw [refs_iff] at hr
      rw [if_pos (hr.elim .inl fun e => e.elim (fun e => absurd e h4) .inr)] at p2
      exact p2
    · rw [if_neg hr]
      rw [refs_iff] at hr
      rw [if_neg (fun e => hr (e.elim .inl fun e => .inr (.inr e)))] at p2
      exact p2
theorem postL1Right (x : PKs.den [RdP]) (h : (G.rd 999970 x.1) = true) : funK cxL1Right Go.Proofs.Try.f124 [RdP] (InsR) x = some (G.dL1Right x) ∧ InsPost x (G.dL1Right x) := val_of (sfL1Right x.1 h)
theorem okL1Right : SpecOk Go.Proofs.Try.prog 124 spL1Right :=
  fun_okB (cx := cxL1Right) (F := Go.Proofs.Try.f124) (cxOk T0_ok T0_eq pd5_ok) mixed (by kernel_rfl) (by decide) (by kernel_rfl) (lps_none (by kernel_rfl)) (fun x h => (postL1Right x h).1)
noncomputable abbrev pd6 : List (Nat × List Spec) := (124, [spL1Right]) :: pd5
theorem pd6_ok : PhiOk Go.Proofs.Try.prog pd6 := ⟨⟨okL1Right, trivial⟩, pd5_ok⟩
abbrev FunO : List CK := [.dat .str, .dat .bool, .own insT]
abbrev FunOP : PK := .box FunO
/-! L2FunL: a loop -/
noncomputable abbrev ls0L2FunL : LSpec := ⟨[0, 5, 6], [], [RdP, FunOP, IntP], [], true, fun x => G.rd (999900 - 3 * x.2.2.1) x.1 && decide (0 ≤ x.2.2.1 ∧ x.2.2.1 ≤ 10 ∧ x.2.1.2.2.1.length ≤ 1000), fun x => ((0, PKs.zero _), Bxs.zero _)⟩
noncomputable abbrev cxL2FunL : Cx := mkCx T0 pd6 [] [] 49
theorem rL2FunL (s : RdS) (f : Fun) (i : Int) : roundK cxL2FunL 0 (loopIn Go.Proofs.Try.f117 0) ls0L2FunL (s, f, i, ()) =
  (if Decidable.decide (i > (0 : Int)) = Bool.true then
    if Go.Rx.G.rd (999970 : Int) s = Bool.true then
      if (!Go.Rx.G.last (Go.Rx.G.dL1Right (s, PUnit.unit)).1.1) = Bool.true then
        if Go.Rx.okSize (32 : Nat) (List.length f.2.2.1 + (1 : Nat)) = Bool.true then
          Option.some
            (Go.Rx.LRes.go
              ((Go.Rx.G.dL1Right (s, PUnit.unit)).2.1, (f.1, f.2.1, f.2.2.1 ++ [(Go.Rx.G.dL1Right (s, PUnit.unit)).1], PUnit.unit),
                Go.IntKind.wrap Go.IntKind.i64 (i - (1 : Int)), PUnit.unit))
        else Option.none
      else Option.some (Go.Rx.LRes.go ((Go.Rx.G.dL1Right (s, PUnit.unit)).2.1, f, Go.IntKind.wrap Go.IntKind.i64 (i - (1 : Int)), PUnit.unit))
    else Option.none
  else Option.some (Go.Rx.LRes.stop (0 : Nat) PUnit.unit (s, f, PUnit.unit))) := by kernel_rfl
noncomputable def G.dL2FunL (x : PKs.den [RdP, FunOP, IntP]) : (Nat × PKs.den []) × Bxs.den [RdP, FunOP, IntP] := G.eps (roundK cxL2FunL 0 (loopIn Go.Proofs.Try.f117 0) ls0L2FunL) x
noncomputable abbrev lsL2FunL : LSpec := ⟨[0, 5, 6], [], [RdP, FunOP, IntP], [], true, fun x => G.rd (999900 - 3 * x.2.2.1) x.1 && decide (0 ≤ x.2.2.1 ∧ x.2.2.1 ≤ 10 ∧ x.2.1.2.2.1.length ≤ 1000), fun x => G.dL2FunL x⟩
/-! L2Fun -/
noncomputable abbrev cxL2Fun : Cx := mkCx T0 pd6 [(0, lsL2FunL)] [] 49
noncomputable def G.dL2Fun (x : PKs.den [RdP, StrP]) : RK.den (.one (.agg FunO)) × Bxs.den [RdP, StrP] := G.val (funK cxL2Fun Go.Proofs.Try.f117 [RdP, StrP] (.one (.agg FunO)) x)
noncomputable abbrev spL2Fun : Spec := ⟨[RdP, StrP], .one (.agg FunO), true, fun x => G.rd 900000 x.1, fun x => G.dL2Fun x⟩
theorem eL2Fun (s : RdS) (name : ByteArray) : funK cxL2Fun Go.Proofs.Try.f117 [RdP, StrP] (.one (.agg FunO)) (s, name, ()) =
  (if Go.Rx.G.rd (1000000 : Int) s = Bool.true then
    if Go.Rx.G.rd (1000000 : Int) (Go.Rx.G.dPick (s, (5 : Int), PUnit.unit)).2.1 = Bool.true then
      if
          (Go.Rx.G.rd ((999900 : Int) - (3 : Int) * (Go.Rx.G.dPick ((Go.Rx.G.dPick (s, (5 : Int), PUnit.unit)).2.1, (5 : Int), PUnit.unit)).1)
                (Go.Rx.G.dPick ((Go.Rx.G.dPick (s, (5 : Int), PUnit.unit)).2.1, (5 : Int), PUnit.unit)).2.1 &&
              Decidable.decide
                ((0 : Int) ≤ (Go.Rx.G.dPick ((Go.Rx.G.dPick (s, (5 : Int), PUnit.unit)).2.1, (5 : Int), PUnit.unit)).1 ∧
                  (Go.Rx.G.dPick ((Go.Rx.G.dPick (s, (5 : Int), PUnit.unit)).2.1, (5 : Int), PUnit.unit)).1 ≤ (10 : Int) ∧ (0 : Nat) ≤ (1000 : Nat))) =
            Bool.true then
        if
            (Go.Rx.G.dL2FunL
                    ((Go.Rx.G.dPick ((Go.Rx.G.dPick (s, (5 : Int), PUnit.unit)).2.1, (5 : Int), PUnit.unit)).2.1,
                      (name, Decidable.decide ((Go.Rx.G.dPick (s, (5 : Int), PUnit.unit)).1 = (0 : Int)), [], PUnit.unit),
                      (Go.Rx.G.dPick ((Go.Rx.G.dPick (s, (5 : Int), PUnit.unit)).2.1, (5 : Int), PUnit.unit)).1, PUnit.unit)).1.1 =
              (0 : Nat) then
          if
              Go.Rx.G.rd (1000000 : Int)
                  (Go.Rx.G.dL2FunL
                        ((Go.Rx.G.dPick ((Go.Rx.G.dPick (s, (5 : Int), PUnit.unit)).2.1, (5 : Int), PUnit.unit)).2.1,
                          (name, Decidable.decide ((Go.Rx.G.dPick (s, (5 : Int), PUnit.unit)).1 = (0 : Int)), [], PUnit.unit),
                          (Go.Rx.G.dPick ((Go.Rx.G.dPick (s, (5 : Int), PUnit.unit)).2.1, (5 : Int), PUnit.unit)).1, PUnit.unit)).2.1 =
                Bool.true then
            if
                Decidable.decide
                    ((Go.Rx.G.dPick
                          ((Go.Rx.G.dL2FunL
                                  ((Go.Rx.G.dPick ((Go.Rx.G.dPick (s, (5 : Int), PUnit.unit)).2.1, (5 : Int), PUnit.unit)).2.1,
                                    (name, Decidable.decide ((Go.Rx.G.dPick (s, (5 : Int), PUnit.unit)).1 = (0 : Int)), [], PUnit.unit),
                                    (Go.Rx.G.dPick ((Go.Rx.G.dPick (s, (5 : Int), PUnit.unit)).2.1, (5 : Int), PUnit.unit)).1, PUnit.unit)).2.1,
                            (6 : Int), PUnit.unit)).1 =
                      (0 : Int)) =
                  Bool.true then
              if
                  Go.Rx.G.rd (999990 : Int)
                      (Go.Rx.G.dPick
                            ((Go.Rx.G.dL2FunL
                                    ((Go.Rx.G.dPick ((Go.Rx.G.dPick (s, (5 : Int), PUnit.unit)).2.1, (5 : Int), PUnit.unit)).2.1,
                                      (name, Decidable.decide ((Go.Rx.G.dPick (s, (5 : Int), PUnit.unit)).1 = (0 : Int)), [], PUnit.unit),
                                      (Go.Rx.G.dPick ((Go.Rx.G.dPick (s, (5 : Int), PUnit.unit)).2.1, (5 : Int), PUnit.unit)).1, PUnit.unit)).2.1,
                              (6 : Int), PUnit.unit)).2.1 =
                    Bool.true then
                if
                    Go.Rx.okSize (32 : Nat)
                        (List.length
                            (Go.Rx.G.dL2FunL
                                          ((Go.Rx.G.dPick ((Go.Rx.G.dPick (s, (5 : Int), PUnit.unit)).2.1, (5 : Int), PUnit.unit)).2.1,
                                            (name, Decidable.decide ((Go.Rx.G.dPick (s, (5 : Int), PUnit.unit)).1 = (0 : Int)), [], PUnit.unit),
                                            (Go.Rx.G.dPick ((Go.Rx.G.dPick (s, (5 : Int), PUnit.unit)).2.1, (5 : Int), PUnit.unit)).1, PUnit.unit)).2.2.1.2.2.1 +
                          (1 : Nat)) =
                      Bool.true then
                  Option.some
                    (((Go.Rx.G.dL2FunL
                                  ((Go.Rx.G.dPick ((Go.Rx.G.dPick (s, (5 : Int), PUnit.unit)).2.1, (5 : Int), PUnit.unit)).2.1,
                                    (name, Decidable.decide ((Go.Rx.G.dPick (s, (5 : Int), PUnit.unit)).1 = (0 : Int)), [], PUnit.unit),
                                    (Go.Rx.G.dPick ((Go.Rx.G.dPick (s, (5 : Int), PUnit.unit)).2.1, (5 : Int), PUnit.unit)).1, PUnit.unit)).2.2.1.1,
                        (Go.Rx.G.dL2FunL
                                    ((Go.Rx.G.dPick ((Go.Rx.G.dPick (s, (5 : Int), PUnit.unit)).2.1, (5 : Int), PUnit.unit)).2.1,
                                      (name, Decidable.decide ((Go.Rx.G.dPick (s, (5 : Int), PUnit.unit)).1 = (0 : Int)), [], PUnit.unit),
                                      (Go.Rx.G.dPick ((Go.Rx.G.dPick (s, (5 : Int), PUnit.unit)).2.1, (5 : Int), PUnit.unit)).1, PUnit.unit)).2.2.1.2.1,
                        (Go.Rx.G.dL2FunL
                                        ((Go.Rx.G.dPick ((Go.Rx.G.dPick (s, (5 : Int), PUnit.unit)).2.1, (5 : Int), PUnit.unit)).2.1,
                                          (name, Decidable.decide ((Go.Rx.G.dPick (s, (5 : Int), PUnit.unit)).1 = (0 : Int)), [], PUnit.unit),
                                          (Go.Rx.G.dPick ((Go.Rx.G.dPick (s, (5 : Int), PUnit.unit)).2.1, (5 : Int), PUnit.unit)).1, PUnit.unit)).2.2.1.2.2.1 ++
                          [((4 : Int), (0 : Int),
                              (Go.Rx.G.dL1Name
                                  (Go.Rx.G.dPick
                                      ((Go.Rx.G.dL2FunL
                                              ((Go.Rx.G.dPick ((Go.Rx.G.dPick (s, (5 : Int), PUnit.unit)).2.1, (5 : Int), PUnit.unit)).2.1,
                                                (name, Decidable.decide ((Go.Rx.G.dPick (s, (5 : Int), PUnit.unit)).1 = (0 : Int)), [], PUnit.unit),
                                                (Go.Rx.G.dPick ((Go.Rx.G.dPick (s, (5 : Int), PUnit.unit)).2.1, (5 : Int), PUnit.unit)).1, PUnit.unit)).2.1,
                                        (6 : Int), PUnit.unit)).2).1,
                              PUnit.unit)],
                        PUnit.unit),
                      (Go.Rx.G.dL1Name
                          (Go.Rx.G.dPick
                              ((Go.Rx.G.dL2FunL
                                      ((Go.Rx.G.dPick ((Go.Rx.G.dPick (s, (5 : Int), PUnit.unit)).2.1, (5 : Int), PUnit.unit)).2.1,
                                        (name, Decidable.decide ((Go.Rx.G.dPick (s, (5 : Int), PUnit.unit)).1 = (0 : Int)), [], PUnit.unit),
                                        (Go.Rx.G.dPick ((Go.Rx.G.dPick (s, (5 : Int), PUnit.unit)).2.1, (5 : Int), PUnit.unit)).1, PUnit.unit)).2.1,
                                (6 : Int), PUnit.unit)).2).2)
                else Option.none
              else Option.none
            else
              if
                  Decidable.decide
                      ((Go.Rx.G.dPick
                            ((Go.Rx.G.dL2FunL
                                    ((Go.Rx.G.dPick ((Go.Rx.G.dPick (s, (5 : Int), PUnit.unit)).2.1, (5 : Int), PUnit.unit)).2.1,
                                      (name, Decidable.decide ((Go.Rx.G.dPick (s, (5 : Int), PUnit.unit)).1 = (0 : Int)), [], PUnit.unit),
                                      (Go.Rx.G.dPick ((Go.Rx.G.dPick (s, (5 : Int), PUnit.unit)).2.1, (5 : Int), PUnit.unit)).1, PUnit.unit)).2.1,
                              (6 : Int), PUnit.unit)).1 =
                        (1 : Int)) =
                    Bool.true then
                if
                    Go.Rx.okSize (32 : Nat)
                        (List.length
                            (Go.Rx.G.dL2FunL
                                          ((Go.Rx.G.dPick ((Go.Rx.G.dPick (s, (5 : Int), PUnit.unit)).2.1, (5 : Int), PUnit.unit)).2.1,
                                            (name, Decidable.decide ((Go.Rx.G.dPick (s, (5 : Int), PUnit.unit)).1 = (0 : Int)), [], PUnit.unit),
                                            (Go.Rx.G.dPick ((Go.Rx.G.dPick (s, (5 : Int), PUnit.unit)).2.1, (5 : Int), PUnit.unit)).1, PUnit.unit)).2.2.1.2.2.1 +
                          (1 : Nat)) =
                      Bool.true then
                  Option.some
                    (((Go.Rx.G.dL2FunL
                                  ((Go.Rx.G.dPick ((Go.Rx.G.dPick (s, (5 : Int), PUnit.unit)).2.1, (5 : Int), PUnit.unit)).2.1,
                                    (name, Decidable.decide ((Go.Rx.G.dPick (s, (5 : Int), PUnit.unit)).1 = (0 : Int)), [], PUnit.unit),
                                    (Go.Rx.G.dPick ((Go.Rx.G.dPick (s, (5 : Int), PUnit.unit)).2.1, (5 : Int), PUnit.unit)).1, PUnit.unit)).2.2.1.1,
                        (Go.Rx.G.dL2FunL
                                    ((Go.Rx.G.dPick ((Go.Rx.G.dPick (s, (5 : Int), PUnit.unit)).2.1, (5 : Int), PUnit.unit)).2.1,
                                      (name, Decidable.decide ((Go.Rx.G.dPick (s, (5 : Int), PUnit.unit)).1 = (0 : Int)), [], PUnit.unit),
                                      (Go.Rx.G.dPick ((Go.Rx.G.dPick (s, (5 : Int), PUnit.unit)).2.1, (5 : Int), PUnit.unit)).1, PUnit.unit)).2.2.1.2.1,
                        (Go.Rx.G.dL2FunL
                                        ((Go.Rx.G.dPick ((Go.Rx.G.dPick (s, (5 : Int), PUnit.unit)).2.1, (5 : Int), PUnit.unit)).2.1,
                                          (name, Decidable.decide ((Go.Rx.G.dPick (s, (5 : Int), PUnit.unit)).1 = (0 : Int)), [], PUnit.unit),
                                          (Go.Rx.G.dPick ((Go.Rx.G.dPick (s, (5 : Int), PUnit.unit)).2.1, (5 : Int), PUnit.unit)).1, PUnit.unit)).2.2.1.2.2.1 ++
                          [((7 : Int), (0 : Int), ByteArray.empty, PUnit.unit)],
                        PUnit.unit),
                      (Go.Rx.G.dPick
                          ((Go.Rx.G.dL2FunL
                                  ((Go.Rx.G.dPick ((Go.Rx.G.dPick (s, (5 : Int), PUnit.unit)).2.1, (5 : Int), PUnit.unit)).2.1,
                                    (name, Decidable.decide ((Go.Rx.G.dPick (s, (5 : Int), PUnit.unit)).1 = (0 : Int)), [], PUnit.unit),
                                    (Go.Rx.G.dPick ((Go.Rx.G.dPick (s, (5 : Int), PUnit.unit)).2.1, (5 : Int), PUnit.unit)).1, PUnit.unit)).2.1,
                            (6 : Int), PUnit.unit)).2)
                else Option.none
              else
                if
                    Go.Rx.okSize (32 : Nat)
                        (List.length
                            (Go.Rx.G.dL2FunL
                                          ((Go.Rx.G.dPick ((Go.Rx.G.dPick (s, (5 : Int), PUnit.unit)).2.1, (5 : Int), PUnit.unit)).2.1,
                                            (name, Decidable.decide ((Go.Rx.G.dPick (s, (5 : Int), PUnit.unit)).1 = (0 : Int)), [], PUnit.unit),
                                            (Go.Rx.G.dPick ((Go.Rx.G.dPick (s, (5 : Int), PUnit.unit)).2.1, (5 : Int), PUnit.unit)).1, PUnit.unit)).2.2.1.2.2.1 +
                          (1 : Nat)) =
                      Bool.true then
                  Option.some
                    (((Go.Rx.G.dL2FunL
                                  ((Go.Rx.G.dPick ((Go.Rx.G.dPick (s, (5 : Int), PUnit.unit)).2.1, (5 : Int), PUnit.unit)).2.1,
                                    (name, Decidable.decide ((Go.Rx.G.dPick (s, (5 : Int), PUnit.unit)).1 = (0 : Int)), [], PUnit.unit),
                                    (Go.Rx.G.dPick ((Go.Rx.G.dPick (s, (5 : Int), PUnit.unit)).2.1, (5 : Int), PUnit.unit)).1, PUnit.unit)).2.2.1.1,
                        (Go.Rx.G.dL2FunL
                                    ((Go.Rx.G.dPick ((Go.Rx.G.dPick (s, (5 : Int), PUnit.unit)).2.1, (5 : Int), PUnit.unit)).2.1,
                                      (name, Decidable.decide ((Go.Rx.G.dPick (s, (5 : Int), PUnit.unit)).1 = (0 : Int)), [], PUnit.unit),
                                      (Go.Rx.G.dPick ((Go.Rx.G.dPick (s, (5 : Int), PUnit.unit)).2.1, (5 : Int), PUnit.unit)).1, PUnit.unit)).2.2.1.2.1,
                        (Go.Rx.G.dL2FunL
                                        ((Go.Rx.G.dPick ((Go.Rx.G.dPick (s, (5 : Int), PUnit.unit)).2.1, (5 : Int), PUnit.unit)).2.1,
                                          (name, Decidable.decide ((Go.Rx.G.dPick (s, (5 : Int), PUnit.unit)).1 = (0 : Int)), [], PUnit.unit),
                                          (Go.Rx.G.dPick ((Go.Rx.G.dPick (s, (5 : Int), PUnit.unit)).2.1, (5 : Int), PUnit.unit)).1, PUnit.unit)).2.2.1.2.2.1 ++
                          [((6 : Int), (0 : Int), ByteArray.empty, PUnit.unit)],
                        PUnit.unit),
                      (Go.Rx.G.dPick
                          ((Go.Rx.G.dL2FunL
                                  ((Go.Rx.G.dPick ((Go.Rx.G.dPick (s, (5 : Int), PUnit.unit)).2.1, (5 : Int), PUnit.unit)).2.1,
                                    (name, Decidable.decide ((Go.Rx.G.dPick (s, (5 : Int), PUnit.unit)).1 = (0 : Int)), [], PUnit.unit),
                                    (Go.Rx.G.dPick ((Go.Rx.G.dPick (s, (5 : Int), PUnit.unit)).2.1, (5 : Int), PUnit.unit)).1, PUnit.unit)).2.1,
                            (6 : Int), PUnit.unit)).2)
                else Option.none
          else Option.none
        else
          if
              (Go.Rx.G.dL2FunL
                      ((Go.Rx.G.dPick ((Go.Rx.G.dPick (s, (5 : Int), PUnit.unit)).2.1, (5 : Int), PUnit.unit)).2.1,
                        (name, Decidable.decide ((Go.Rx.G.dPick (s, (5 : Int), PUnit.unit)).1 = (0 : Int)), [], PUnit.unit),
                        (Go.Rx.G.dPick ((Go.Rx.G.dPick (s, (5 : Int), PUnit.unit)).2.1, (5 : Int), PUnit.unit)).1, PUnit.unit)).1.1 =
                (1 : Nat) then
            Option.some
              ((ByteArray.empty, Bool.false, [], PUnit.unit),
                (Go.Rx.G.dL2FunL
                      ((Go.Rx.G.dPick ((Go.Rx.G.dPick (s, (5 : Int), PUnit.unit)).2.1, (5 : Int), PUnit.unit)).2.1,
                        (name, Decidable.decide ((Go.Rx.G.dPick (s, (5 : Int), PUnit.unit)).1 = (0 : Int)), [], PUnit.unit),
                        (Go.Rx.G.dPick ((Go.Rx.G.dPick (s, (5 : Int), PUnit.unit)).2.1, (5 : Int), PUnit.unit)).1, PUnit.unit)).2.1,
                PUnit.unit)
          else Option.none
      else Option.none
    else Option.none
  else Option.none) := by kernel_rfl
def G.insDs (b : Inss) : Bool := b.all G.insD
def G.funD (f : Fun) : Bool := G.nm f.1 && (decide (1 ≤ f.2.2.1.length ∧ f.2.2.1.length ≤ 8) && G.insDs f.2.2.1)
theorem funD_iff (f : Fun) : G.funD f = true ↔ (G.nm f.1 = true ∧ (1 ≤ f.2.2.1.length ∧ f.2.2.1.length ≤ 8) ∧ G.insDs f.2.2.1 = true) := by
  unfold G.funD
  rw [Bool.and_eq_true, Bool.and_eq_true, decide_eq_true_iff]
theorem insDs_snoc {b : Inss} {i : Ins} (hb : G.insDs b = true) (hi : G.insD i = true) : G.insDs (b ++ [i]) = true := by
  unfold G.insDs at hb ⊢
  rw [List.all_append, hb]
  simp [hi]
abbrev FunLX := PKs.den [RdP, FunOP, IntP]
def FunLInv (x : FunLX) : Prop := G.rd (999900 - 3 * x.2.2.1) x.1 = true ∧ (0 ≤ x.2.2.1 ∧ x.2.2.1 ≤ 10 ∧ x.2.1.2.2.1.length ≤ 1000 + (10 - x.2.2.1).toNat)
def FunLPost (x : FunLX) (r : (Nat × PKs.den []) × Bxs.den [RdP, FunOP, IntP]) : Prop := r.1.1 = 0 ∧ Adv (3 * x.2.2.1) x.1 r.2.1 ∧ r.2.2.1.1 = x.2.1.1 ∧ ((r.2.2.1.2.2.1.length : Int) ≤ (x.2.1.2.2.1.length : Int) + x.2.2.1) ∧ (G.insDs x.2.1.2.2.1 = true → G.insDs r.2.2.1.2.2.1 = true)
theorem stL2FunL (s : RdS) (f : Fun) (i : Int) (h : FunLInv (s, f, i, ())) : EpsOk FunLInv (fun x => x.2.2.1.toNat) FunLPost (s, f, i, ()) (roundK cxL2FunL 0 (loopIn Go.Proofs.Try.f117 0) ls0L2FunL (s, f, i, ())) := by
  obtain ⟨h1, h2, h3, h4⟩ := h
  have h1 : G.rd (999900 - 3 * i) s = true := h1
  have h2 : 0 ≤ i := h2
  have h3 : i ≤ 10 := h3
  have h4 : f.2.2.1.length ≤ 1000 + (10 - i).toNat := h4
  rw [rL2FunL]
  by_cases hi : i > 0
  · have hp := rd_le h1 (show 999900 - 3 * i ≤ 999970 by omega)
    obtain ⟨_, p1, p2⟩ := postL1Right (s, ()) hp
    rw [if_pos (decide_eq_true hi), if_pos hp, w64 (by omega) (by omega)]
    generalize G.dL1Right (s, ()) = q at p1 p2 ⊢
    have hr : G.rd (999900 - 3 * (i - 1)) q.2.1 = true := rd_le (p1.rd h1) (by omega)
    by_cases hl : (!G.last q.1.1) = true
    · rw [if_pos hl, if_pos (okSize_few (by omega) (by omega))]
      refine ⟨⟨hr, by show 0 ≤ i - 1; omega, by show i - 1 ≤ 10; omega, ?_⟩, ?_, ?_⟩
      · show (f.2.2.1 ++ [q.1]).length ≤ 1000 + (10 - (i - 1)).toNat
        simp
        omega
      · show (i - 1).toNat < i.toNat
        omega
      · rintro r ⟨r1, r2, r3, r4, r5⟩
        refine ⟨r1, (p1.trans r2).le (by show 3 + 3 * (i - 1) ≤ 3 * i; omega), r3, ?_, fun hb => r5 (insDs_snoc hb p2)⟩
        have r4 : (r.2.2.1.2.2.1.length : Int) ≤ ((f.2.2.1 ++ [q.1]).length : Int) + (i - 1) := r4
        show (r.2.2.1.2.2.1.length : Int) ≤ (f.2.2.1.length : Int) + i
        simp at r4
        omega
    · rw [if_neg hl]
      refine ⟨⟨hr, by show 0 ≤ i - 1; omega, by show i - 1 ≤ 10; omega, ?_⟩, ?_, ?_⟩
      · show f.2.2.1.length ≤ 1000 + (10 - (i - 1)).toNat
        omega
      · show (i - 1).toNat < i.toNat
        omega
      · rintro r ⟨r1, r2, r3, r4, r5⟩
        refine ⟨r1, (p1.trans r2).le (by show 3 + 3 * (i - 1) ≤ 3 * i; omega), r3, ?_, r5⟩
        have r4 : (r.2.2.1.2.2.1.length : Int) ≤ (f.2.2.1.length : Int) + (i - 1) := r4
        show (r.2.2.1.2.2.1.length : Int) ≤ (f.2.2.1.length : Int) + i
        omega
  · rw [if_neg (by simpa using hi)]
    refine ⟨rfl, (Adv.refl s).le (by show 0 ≤ 3 * i; omega), rfl, ?_, fun hb => hb⟩
    show (f.2.2.1.length : Int) ≤ (f.2.2.1.length : Int) + i
    omega
theorem inv_fun {x : FunLX} (h : (G.rd (999900 - 3 * x.2.2.1) x.1 && decide (0 ≤ x.2.2.1 ∧ x.2.2.1 ≤ 10 ∧ x.2.1.2.2.1.length ≤ 1000)) = true) : FunLInv x := by
  rw [Bool.and_eq_true, decide_eq_true_iff] at h
  exact ⟨h.1, h.2.1, h.2.2.1, Nat.le_add_right_of_le h.2.2.2⟩
theorem epsL2FunL (x : PKs.den [RdP, FunOP, IntP]) (h : FunLInv x) : (∃ k, iter (roundK cxL2FunL 0 (loopIn Go.Proofs.Try.f117 0) ls0L2FunL) k x = some (G.dL2FunL x)) ∧ FunLPost x (G.dL2FunL x) := eps_ok (inv := FunLInv) (μ := (fun x => x.2.2.1.toNat)) (Post := FunLPost) (fun x h => stL2FunL x.1 x.2.1 x.2.2.1 h) x h
theorem lpL2FunL : LpOk Go.Proofs.Try.prog cxL2FunL.ntmps 0 (loopIn Go.Proofs.Try.f117 0) lsL2FunL :=
  lp_eps (cx := cxL2FunL) (cxOk T0_ok T0_eq pd6_ok) mixed (by kernel_rfl) (lps_none (by kernel_rfl)) (inv := FunLInv) (μ := (fun x => x.2.2.1.toNat)) (Post := FunLPost) (fun x h => inv_fun h) (fun x h => stL2FunL x.1 x.2.1 x.2.2.1 h) (fun _ => rfl)
def FunPost (x : PKs.den [RdP, StrP]) (r : RK.den (.one (.agg FunO)) × Bxs.den [RdP, StrP]) : Prop := Adv 40 x.1 r.2.1 ∧ r.1.1 = x.2.1 ∧ (1 ≤ r.1.2.2.1.length ∧ r.1.2.2.1.length ≤ 8) ∧ G.insDs r.1.2.2.1 = true
theorem sfL2Fun (s : RdS) (name : ByteArray) (h : G.rd 900000 s = true) : ∃ r, funK cxL2Fun Go.Proofs.Try.f117 [RdP, StrP] (.one (.agg FunO)) (s, name, ()) = some r ∧ FunPost (s, name, ()) r := by
  have h1 := rd_le h (show (900000 : Int) ≤ 1000000 by omega)
  obtain ⟨_, p1, p2, p3⟩ := postPick (s, 5, ()) h1
  rw [eL2Fun, if_pos h1]
  generalize G.dPick (s, (5 : Int), ()) = q1 at p1 p2 p3 ⊢
  have r1 : G.rd 900001 q1.2.1 = true := p1.rd h
  have h2 := rd_le r1 (show (900001 : Int) ≤ 1000000 by omega)
  obtain ⟨_, a1, a2, a3⟩ := postPick (q1.2.1, 5, ()) h2
  rw [if_pos h2]
  generalize G.dPick (q1.2.1, (5 : Int), ()) = q2 at a1 a2 a3 ⊢
  have r2 : G.rd 900002 q2.2.1 = true := a1.rd r1
  obtain ⟨i, hi⟩ : ∃ i : Int, i = q2.1 := ⟨_, rfl⟩
  have a2 : 0 ≤ i := by rw [hi]; exact a2
  have a3 : i < 5 := by rw [hi]; exact a3 (by show (1 : Int) ≤ 5; omega)
  rw [← hi]
  have h3 : (G.rd (999900 - 3 * i) q2.2.1 && decide (0 ≤ i ∧ i ≤ 10 ∧ 0 ≤ 1000)) = true := by
    rw [Bool.and_eq_true]
    exact ⟨rd_le r2 (by omega), decide_eq_true ⟨a2, by omega, by omega⟩⟩
  rw [if_pos h3]
  obtain ⟨_, b1, b2, b3, b4, b5⟩ := epsL2FunL (q2.2.1, (name, decide (q1.1 = (0 : Int)), [], ()), i, ()) (inv_fun h3)
  generalize G.dL2FunL (q2.2.1, (name, decide (q1.1 = (0 : Int)), [], ()), i, ()) = q3 at b1 b2 b3 b4 b5 ⊢
  have b5 := b5 rfl
  have b4 : (q3.2.2.1.2.2.1.length : Int) ≤ 0 + i := b4
  have b3 : q3.2.2.1.1 = name := b3
  have b2 : Adv (3 * i) q2.2.1 q3.2.1 := b2
  have r3 : G.rd 900017 q3.2.1 = true := rd_le (b2.rd r2) (by omega)
  have h4 := rd_le r3 (show (900017 : Int) ≤ 1000000 by omega)
  rw [if_pos b1, if_pos h4]
  obtain ⟨_, c1, c2, c3⟩ := postPick (q3.2.1, 6, ()) h4
  generalize G.dPick (q3.2.1, (6 : Int), ()) = q4 at c1 c2 c3 ⊢
  have r4 : G.rd 900018 q4.2.1 = true := c1.rd r3
  have h5 := rd_le r4 (show (900018 : Int) ≤ 999990 by omega)
  obtain ⟨_, d1, d2⟩ := postL1Name q4.2 h5
  have adv : Adv (1 + 1 + 3 * i + 1) s q4.2.1 := ((p1.trans a1).trans b2).trans c1
  have ok : Go.Rx.okSize 32 (q3.2.2.1.2.2.1.length + 1) = true := okSize_few (by omega) (by omega)
  have fin : ∀ (x : Ins) (t : RdS), Adv 1 q4.2.1 t → G.insD x = true → ∃ r, (some ((q3.2.2.1.1, q3.2.2.1.2.1, q3.2.2.1.2.2.1 ++ [x], ()), t, ()) : Option (RK.den (.one (.agg FunO)) × Bxs.den [RdP, StrP])) = some r ∧ FunPost (s, name, ()) r := fun x t ht hx => by
    refine ⟨_, rfl, (adv.trans ht).le (by omega), b3, ⟨?_, ?_⟩, insDs_snoc b5 hx⟩
    · show 1 ≤ (q3.2.2.1.2.2.1 ++ [x]).length
      simp
    · show (q3.2.2.1.2.2.1 ++ [x]).length ≤ 8
      simp
      omega
  simp only [h5, ok, if_true]
  split
  · exact fin _ _ d1 (by unfold G.insD; rw [if_pos (by rfl)]; exact d2)
  · split
    · exact fin _ _ ((Adv.refl _).le (by omega)) (by kernel_rfl)
    · exact fin _ _ ((Adv.refl _).le (by omega)) (by kernel_rfl)
theorem postL2Fun (x : PKs.den [RdP, StrP]) (h : (G.rd 900000 x.1) = true) : funK cxL2Fun Go.Proofs.Try.f117 [RdP, StrP] (.one (.agg FunO)) x = some (G.dL2Fun x) ∧ FunPost x (G.dL2Fun x) := val_of (sfL2Fun x.1 x.2.1 h)
theorem okL2Fun : SpecOk Go.Proofs.Try.prog 117 spL2Fun :=
  fun_okB (cx := cxL2Fun) (F := Go.Proofs.Try.f117) (cxOk T0_ok T0_eq pd6_ok) mixed (by kernel_rfl) (by decide) (by kernel_rfl) (lps_of (l := [(0, loopIn Go.Proofs.Try.f117 0)]) (by kernel_rfl) ⟨lp_at lpL2FunL rfl, trivial⟩) (fun x h => (postL2Fun x h).1)
noncomputable abbrev pd7 : List (Nat × List Spec) := (117, [spL2Fun]) :: pd6
theorem pd7_ok : PhiOk Go.Proofs.Try.prog pd7 := ⟨⟨okL2Fun, trivial⟩, pd6_ok⟩
end Go.Rx

/-
  DRAWS: units.
-/
import Derived.Test.YtoagkidolpcigaaHb
namespace Go.Rx
open Go
set_option linter.unusedVariables false
set_option linter.unusedSimpArgs false
/-! units -/
abbrev FunsO : PK := .c (.own funT)
def G.funsD (u : Funs) : Bool := u.all G.funD
theorem funsD_snoc {u : Funs} {f : Fun} (hu : G.funsD u = true) (hf : G.funD f = true) : G.funsD (u ++ [f]) = true := by
  unfold G.funsD at hu ⊢
  rw [List.all_append, hu]
  simp [hf]
/-! L2UnitL: a loop -/
noncomputable abbrev ls0L2UnitL : LSpec := ⟨[0, 3, 4], [3], [RdP, FunsO, IntP], [FunsO], true, fun x => G.rd (890000 - 50 * x.2.2.1) x.1 && decide (0 ≤ x.2.2.1 ∧ x.2.2.1 ≤ 10 ∧ x.2.1.length ≤ 1000), fun x => ((0, PKs.zero _), Bxs.zero _)⟩
noncomputable abbrev cxL2UnitL : Cx := mkCx T0 pd7 [] [] 27
theorem rL2UnitL (s : RdS) (u : Funs) (i : Int) : roundK cxL2UnitL 0 (loopIn Go.Proofs.Try.f118 0) ls0L2UnitL (s, u, i, ()) =
  (if Decidable.decide (i > (0 : Int)) = Bool.true then
    if Go.Rx.G.rd (999990 : Int) s = Bool.true then
      if Go.Rx.G.few (List.length u) = Bool.true then
        if Decidable.decide (Go.Rx.G.find u (Go.Rx.G.dL1Name (s, PUnit.unit)).1 < (0 : Int)) = Bool.true then
          if Go.Rx.G.rd (900000 : Int) (Go.Rx.G.dL1Name (s, PUnit.unit)).2.1 = Bool.true then
            if Go.Rx.okSize (48 : Nat) (List.length u + (1 : Nat)) = Bool.true then
              Option.some
                (Go.Rx.LRes.go
                  ((Go.Rx.G.dL2Fun ((Go.Rx.G.dL1Name (s, PUnit.unit)).2.1, (Go.Rx.G.dL1Name (s, PUnit.unit)).1, PUnit.unit)).2.1,
                    u ++ [(Go.Rx.G.dL2Fun ((Go.Rx.G.dL1Name (s, PUnit.unit)).2.1, (Go.Rx.G.dL1Name (s, PUnit.unit)).1, PUnit.unit)).1],
                    Go.IntKind.wrap Go.IntKind.i64 (i - (1 : Int)), PUnit.unit))
            else Option.none
          else Option.none
        else Option.some (Go.Rx.LRes.go ((Go.Rx.G.dL1Name (s, PUnit.unit)).2.1, u, Go.IntKind.wrap Go.IntKind.i64 (i - (1 : Int)), PUnit.unit))
      else Option.none
    else Option.none
  else Option.some (Go.Rx.LRes.stop (0 : Nat) (u, PUnit.unit) (s, PUnit.unit))) := by kernel_rfl
noncomputable def G.dL2UnitL (x : PKs.den [RdP, FunsO, IntP]) : (Nat × PKs.den [FunsO]) × Bxs.den [RdP, FunsO, IntP] := G.eps (roundK cxL2UnitL 0 (loopIn Go.Proofs.Try.f118 0) ls0L2UnitL) x
noncomputable abbrev lsL2UnitL : LSpec := ⟨[0, 3, 4], [3], [RdP, FunsO, IntP], [FunsO], true, fun x => G.rd (890000 - 50 * x.2.2.1) x.1 && decide (0 ≤ x.2.2.1 ∧ x.2.2.1 ≤ 10 ∧ x.2.1.length ≤ 1000), fun x => G.dL2UnitL x⟩
/-! L2Unit -/
noncomputable abbrev cxL2Unit : Cx := mkCx T0 pd7 [(0, lsL2UnitL)] [] 27
noncomputable def G.dL2Unit (x : PKs.den [RdP]) : RK.den (.one FunsO) × Bxs.den [RdP] := G.val (funK cxL2Unit Go.Proofs.Try.f118 [RdP] (.one FunsO) x)
noncomputable abbrev spL2Unit : Spec := ⟨[RdP], .one FunsO, true, fun x => G.rd 880000 x.1, fun x => G.dL2Unit x⟩
theorem eL2Unit (s : RdS) : funK cxL2Unit Go.Proofs.Try.f118 [RdP] (.one FunsO) (s, ()) =
  (if Go.Rx.G.rd (1000000 : Int) s = Bool.true then
    if
        (Go.Rx.G.rd ((890000 : Int) - (50 : Int) * Go.IntKind.wrap Go.IntKind.i64 ((1 : Int) + (Go.Rx.G.dPick (s, (3 : Int), PUnit.unit)).1)) (Go.Rx.G.dPick (s, (3 : Int), PUnit.unit)).2.1 &&
            Decidable.decide
              ((0 : Int) ≤ Go.IntKind.wrap Go.IntKind.i64 ((1 : Int) + (Go.Rx.G.dPick (s, (3 : Int), PUnit.unit)).1) ∧
                Go.IntKind.wrap Go.IntKind.i64 ((1 : Int) + (Go.Rx.G.dPick (s, (3 : Int), PUnit.unit)).1) ≤ (10 : Int) ∧ (0 : Nat) ≤ (1000 : Nat))) =
          Bool.true then
      if (Go.Rx.G.dL2UnitL ((Go.Rx.G.dPick (s, (3 : Int), PUnit.unit)).2.1, [], Go.IntKind.wrap Go.IntKind.i64 ((1 : Int) + (Go.Rx.G.dPick (s, (3 : Int), PUnit.unit)).1), PUnit.unit)).1.1 = (0 : Nat) then
        Option.some
          ((Go.Rx.G.dL2UnitL ((Go.Rx.G.dPick (s, (3 : Int), PUnit.unit)).2.1, [], Go.IntKind.wrap Go.IntKind.i64 ((1 : Int) + (Go.Rx.G.dPick (s, (3 : Int), PUnit.unit)).1), PUnit.unit)).1.2.1,
            (Go.Rx.G.dL2UnitL ((Go.Rx.G.dPick (s, (3 : Int), PUnit.unit)).2.1, [], Go.IntKind.wrap Go.IntKind.i64 ((1 : Int) + (Go.Rx.G.dPick (s, (3 : Int), PUnit.unit)).1), PUnit.unit)).2)
      else
        if (Go.Rx.G.dL2UnitL ((Go.Rx.G.dPick (s, (3 : Int), PUnit.unit)).2.1, [], Go.IntKind.wrap Go.IntKind.i64 ((1 : Int) + (Go.Rx.G.dPick (s, (3 : Int), PUnit.unit)).1), PUnit.unit)).1.1 = (1 : Nat) then
          Option.some ([], (Go.Rx.G.dL2UnitL ((Go.Rx.G.dPick (s, (3 : Int), PUnit.unit)).2.1, [], Go.IntKind.wrap Go.IntKind.i64 ((1 : Int) + (Go.Rx.G.dPick (s, (3 : Int), PUnit.unit)).1), PUnit.unit)).2)
        else Option.none
    else Option.none
  else Option.none) := by kernel_rfl
abbrev UnitLX := PKs.den [RdP, FunsO, IntP]
def UnitLInv (x : UnitLX) : Prop := G.rd (890000 - 50 * x.2.2.1) x.1 = true ∧ (0 ≤ x.2.2.1 ∧ x.2.2.1 ≤ 10 ∧ x.2.1.length ≤ 1000 + (10 - x.2.2.1).toNat)
def UnitLPost (x : UnitLX) (r : (Nat × PKs.den [FunsO]) × Bxs.den [RdP, FunsO, IntP]) : Prop := r.1.1 = 0 ∧ Adv (50 * x.2.2.1) x.1 r.2.1 ∧ ((r.1.2.1.length : Int) ≤ (x.2.1.length : Int) + x.2.2.1) ∧ (G.funsD x.2.1 = true → G.funsD r.1.2.1 = true)
theorem stL2UnitL (s : RdS) (u : Funs) (i : Int) (h : UnitLInv (s, u, i, ())) : EpsOk UnitLInv (fun x => x.2.2.1.toNat) UnitLPost (s, u, i, ()) (roundK cxL2UnitL 0 (loopIn Go.Proofs.Try.f118 0) ls0L2UnitL (s, u, i, ())) := by
  obtain ⟨h1, h2, h3, h4⟩ := h
  have h1 : G.rd (890000 - 50 * i) s = true := h1
  have h2 : 0 ≤ i := h2
  have h3 : i ≤ 10 := h3
  have h4 : u.length ≤ 1000 + (10 - i).toNat := h4
  rw [rL2UnitL]
  by_cases hi : i > 0
  · have hp := rd_le h1 (show 890000 - 50 * i ≤ 999990 by omega)
    obtain ⟨_, p1, p2⟩ := postL1Name (s, ()) hp
    rw [if_pos (decide_eq_true hi), if_pos hp, if_pos (few_iff.2 (by omega)), w64 (by omega) (by omega)]
    generalize G.dL1Name (s, ()) = q at p1 p2 ⊢
    by_cases hf : G.find u q.1 < 0
    · have hr := rd_le (p1.rd h1) (show 890000 - 50 * i + 1 ≤ 900000 by omega)
      obtain ⟨_, a1, a2, a3, a4⟩ := postL2Fun (q.2.1, q.1, ()) hr
      rw [if_pos (decide_eq_true hf), if_pos hr, if_pos (okSize_few (by omega) (by omega))]
      generalize G.dL2Fun (q.2.1, q.1, ()) = f at a1 a2 a3 a4 ⊢
      have a2 : f.1.1 = q.1 := a2
      have hD : G.funD f.1 = true := (funD_iff _).2 ⟨by rw [a2]; exact p2, a3, a4⟩
      refine ⟨⟨rd_le ((p1.trans a1).rd h1) (by show 890000 - 50 * i + (1 + 40) ≤ 890000 - 50 * (i - 1); omega), by show 0 ≤ i - 1; omega, by show i - 1 ≤ 10; omega, ?_⟩, ?_, ?_⟩
      · show (u ++ [f.1]).length ≤ 1000 + (10 - (i - 1)).toNat
        simp
        omega
      · show (i - 1).toNat < i.toNat
        omega
      · rintro r ⟨r1, r2, r4, r5⟩
        refine ⟨r1, ((p1.trans a1).trans r2).le (by show 1 + 40 + 50 * (i - 1) ≤ 50 * i; omega), ?_, fun hb => r5 (funsD_snoc hb hD)⟩
        have r4 : (r.1.2.1.length : Int) ≤ ((u ++ [f.1]).length : Int) + (i - 1) := r4
        show (r.1.2.1.length : Int) ≤ (u.length : Int) + i
        simp at r4
        omega
    · rw [if_neg (by simpa using hf)]
      refine ⟨⟨rd_le (p1.rd h1) (by show 890000 - 50 * i + 1 ≤ 890000 - 50 * (i - 1); omega), by show 0 ≤ i - 1; omega, by show i - 1 ≤ 10; omega, ?_⟩, ?_, ?_⟩
      · show u.length ≤ 1000 + (10 - (i - 1)).toNat
        omega
      · show (i - 1).toNat < i.toNat
        omega
      · rintro r ⟨r1, r2, r4, r5⟩
        refine ⟨r1, (p1.trans r2).le (by show 1 + 50 * (i - 1) ≤ 50 * i; omega), ?_, r5⟩
        have r4 : (r.1.2.1.length : Int) ≤ (u.length : Int) + (i - 1) := r4
        show (r.1.2.1.length : Int) ≤ (u.length : Int) + i
        omega
  · rw [if_neg (by simpa using hi)]
    refine ⟨rfl, (Adv.refl s).le (by show 0 ≤ 50 * i; omega), ?_, fun hb => hb⟩
    show (u.length : Int) ≤ (u.length : Int) + i
    omega
theorem inv_unit {x : UnitLX} (h : (G.rd (890000 - 50 * x.2.2.1) x.1 && decide (0 ≤ x.2.2.1 ∧ x.2.2.1 ≤ 10 ∧ x.2.1.length ≤ 1000)) = true) : UnitLInv x := by
  rw [Bool.and_eq_true, decide_eq_true_iff] at h
  exact ⟨h.1, h.2.1, h.2.2.1, Nat.le_add_right_of_le h.2.2.2⟩
theorem epsL2UnitL (x : PKs.den [RdP, FunsO, IntP]) (h : UnitLInv x) : (∃ k, iter (roundK cxL2UnitL 0 (loopIn Go.Proofs.Try.f118 0) ls0L2UnitL) k x = some (G.dL2UnitL x)) ∧ UnitLPost x (G.dL2UnitL x) := eps_ok (inv := UnitLInv) (μ := (fun x => x.2.2.1.toNat)) (Post := UnitLPost) (fun x h => stL2UnitL x.1 x.2.1 x.2.2.1 h) x h
theorem lpL2UnitL : LpOk Go.Proofs.Try.prog cxL2UnitL.ntmps 0 (loopIn Go.Proofs.Try.f118 0) lsL2UnitL :=
  lp_eps (cx := cxL2UnitL) (cxOk T0_ok T0_eq pd7_ok) mixed (by kernel_rfl) (lps_none (by kernel_rfl)) (inv := UnitLInv) (μ := (fun x => x.2.2.1.toNat)) (Post := UnitLPost) (fun x h => inv_unit h) (fun x h => stL2UnitL x.1 x.2.1 x.2.2.1 h) (fun _ => rfl)
def UnitPost (x : PKs.den [RdP]) (r : RK.den (.one FunsO) × Bxs.den [RdP]) : Prop := Adv 200 x.1 r.2.1 ∧ r.1.length ≤ 3 ∧ G.funsD r.1 = true
theorem sfL2Unit (s : RdS) (h : G.rd 880000 s = true) : ∃ r, funK cxL2Unit Go.Proofs.Try.f118 [RdP] (.one FunsO) (s, ()) = some r ∧ UnitPost (s, ()) r := by
  have h1 := rd_le h (show (880000 : Int) ≤ 1000000 by omega)
  obtain ⟨_, p1, p2, p3⟩ := postPick (s, 3, ()) h1
  rw [eL2Unit, if_pos h1]
  generalize G.dPick (s, (3 : Int), ()) = q1 at p1 p2 p3 ⊢
  have r1 : G.rd 880001 q1.2.1 = true := p1.rd h
  obtain ⟨v, hv⟩ : ∃ v : Int, v = q1.1 := ⟨_, rfl⟩
  have p2 : 0 ≤ v := by rw [hv]; exact p2
  have p3 : v < 3 := by rw [hv]; exact p3 (by show (1 : Int) ≤ 3; omega)
  rw [← hv, w64 (by omega) (by omega)]
  have h3 : (G.rd (890000 - 50 * (1 + v)) q1.2.1 && decide (0 ≤ 1 + v ∧ 1 + v ≤ 10 ∧ 0 ≤ 1000)) = true := by
    rw [Bool.and_eq_true]
    exact ⟨rd_le r1 (by omega), decide_eq_true ⟨by omega, by omega, by omega⟩⟩
  rw [if_pos h3]
  obtain ⟨_, b1, b2, b4, b5⟩ := epsL2UnitL (q1.2.1, [], 1 + v, ()) (inv_unit h3)
  generalize G.dL2UnitL (q1.2.1, [], 1 + v, ()) = q at b1 b2 b4 b5 ⊢
  rw [if_pos b1]
  have b2 : Adv (50 * (1 + v)) q1.2.1 q.2.1 := b2
  have b4 : (q.1.2.1.length : Int) ≤ 0 + (1 + v) := b4
  exact ⟨_, rfl, (p1.trans b2).le (by omega), by show q.1.2.1.length ≤ 3; omega, b5 rfl⟩
theorem postL2Unit (x : PKs.den [RdP]) (h : (G.rd 880000 x.1) = true) : funK cxL2Unit Go.Proofs.Try.f118 [RdP] (.one FunsO) x = some (G.dL2Unit x) ∧ UnitPost x (G.dL2Unit x) := val_of (sfL2Unit x.1 h)
theorem okL2Unit : SpecOk Go.Proofs.Try.prog 118 spL2Unit :=
  fun_okB (cx := cxL2Unit) (F := Go.Proofs.Try.f118) (cxOk T0_ok T0_eq pd7_ok) mixed (by kernel_rfl) (by decide) (by kernel_rfl) (lps_of (l := [(0, loopIn Go.Proofs.Try.f118 0)]) (by kernel_rfl) ⟨lp_at lpL2UnitL rfl, trivial⟩) (fun x h => (postL2Unit x h).1)
noncomputable abbrev pd8 : List (Nat × List Spec) := (118, [spL2Unit]) :: pd7
theorem pd8_ok : PhiOk Go.Proofs.Try.prog pd8 := ⟨⟨okL2Unit, trivial⟩, pd7_ok⟩
/-! several units -/
abbrev unitsT : Tys := .cons (.sl funT) .nil
abbrev Units := List (List (ByteArray × Bool × List (Int × Int × ByteArray × Unit) × Unit) × Unit)
abbrev UnitsSP : PK := .c (.dat (.sl unitsT))
abbrev UnitsO : PK := .c (.own unitsT)
def G.unitD (u : Funs × Unit) : Bool := decide (u.1.length ≤ 3) && G.funsD u.1
def G.unitsD (n : Nat) (u : Units) : Bool := decide (u.length ≤ n) && u.all G.unitD
theorem unitsD_iff {n : Nat} {u : Units} : G.unitsD n u = true ↔ (u.length ≤ n ∧ ∀ x ∈ u, x.1.length ≤ 3 ∧ G.funsD x.1 = true) := by
  unfold G.unitsD
  rw [Bool.and_eq_true, decide_eq_true_iff, List.all_eq_true]
  refine and_congr_right fun _ => forall_congr' fun x => forall_congr' fun _ => ?_
  unfold G.unitD
  rw [Bool.and_eq_true, decide_eq_true_iff]
theorem unitsD_snoc {n : Nat} {u : Units} {x : Funs} (hu : G.unitsD n u = true) (h1 : x.length ≤ 3) (h2 : G.funsD x = true) : G.unitsD (n + 1) (u ++ [(x, ())]) = true := by
  obtain ⟨g1, g2⟩ := unitsD_iff.1 hu
  refine unitsD_iff.2 ⟨by simp; omega, fun y hy => ?_⟩
  rcases List.mem_append.1 hy with hy | hy
  · exact g2 y hy
  · rw [List.mem_singleton.1 hy]
    exact ⟨h1, h2⟩
/-! L3UnitsL: a loop -/
noncomputable abbrev ls0L3UnitsL : LSpec := ⟨[0, 5, 6], [5], [RdP, UnitsO, IntP], [UnitsO], true, fun x => G.rd (870000 - 200 * x.2.2.1) x.1 && decide (0 ≤ x.2.2.1 ∧ x.2.2.1 ≤ 10 ∧ x.2.1.length ≤ 1000), fun x => ((0, PKs.zero _), Bxs.zero _)⟩
noncomputable abbrev cxL3UnitsL : Cx := mkCx T0 pd8 [] [] 22
theorem rL3UnitsL (s : RdS) (u : Units) (i : Int) : roundK cxL3UnitsL 0 (loopIn Go.Proofs.Try.f107 0) ls0L3UnitsL (s, u, i, ()) =
  (if Decidable.decide (i > (0 : Int)) = Bool.true then
    if Go.Rx.G.rd (880000 : Int) s = Bool.true then
      if Go.Rx.okSize (24 : Nat) (List.length u + (1 : Nat)) = Bool.true then
        Option.some
          (Go.Rx.LRes.go
            ((Go.Rx.G.dL2Unit (s, PUnit.unit)).2.1, u ++ [((Go.Rx.G.dL2Unit (s, PUnit.unit)).1, PUnit.unit)], Go.IntKind.wrap Go.IntKind.i64 (i - (1 : Int)), PUnit.unit))
      else Option.none
    else Option.none
  else Option.some (Go.Rx.LRes.stop (0 : Nat) (u, PUnit.unit) (s, PUnit.unit))) := by kernel_rfl
noncomputable def G.dL3UnitsL (x : PKs.den [RdP, UnitsO, IntP]) : (Nat × PKs.den [UnitsO]) × Bxs.den [RdP, UnitsO, IntP] := G.eps (roundK cxL3UnitsL 0 (loopIn Go.Proofs.Try.f107 0) ls0L3UnitsL) x
noncomputable abbrev lsL3UnitsL : LSpec := ⟨[0, 5, 6], [5], [RdP, UnitsO, IntP], [UnitsO], true, fun x => G.rd (870000 - 200 * x.2.2.1) x.1 && decide (0 ≤ x.2.2.1 ∧ x.2.2.1 ≤ 10 ∧ x.2.1.length ≤ 1000), fun x => G.dL3UnitsL x⟩
/-! L3Units -/
noncomputable abbrev cxL3Units : Cx := mkCx T0 pd8 [(0, lsL3UnitsL)] [] 22
noncomputable def G.dL3Units (x : PKs.den [RdP, IntP]) : RK.den (.one UnitsO) × Bxs.den [RdP, IntP] := G.val (funK cxL3Units Go.Proofs.Try.f107 [RdP, IntP] (.one UnitsO) x)
noncomputable abbrev spL3Units : Spec := ⟨[RdP, IntP], .one UnitsO, true, fun x => G.rd 860000 x.1 && decide (0 ≤ x.2.1 ∧ x.2.1 ≤ 9), fun x => G.dL3Units x⟩
theorem eL3Units (s : RdS) (n : Int) : funK cxL3Units Go.Proofs.Try.f107 [RdP, IntP] (.one UnitsO) (s, n, ()) =
  (if Go.Rx.G.rd (1000000 : Int) s = Bool.true then
    if
        (Go.Rx.G.rd ((870000 : Int) - (200 : Int) * (Go.Rx.G.dPick (s, Go.IntKind.wrap Go.IntKind.i64 (n + (1 : Int)), PUnit.unit)).1)
              (Go.Rx.G.dPick (s, Go.IntKind.wrap Go.IntKind.i64 (n + (1 : Int)), PUnit.unit)).2.1 &&
            Decidable.decide
              ((0 : Int) ≤ (Go.Rx.G.dPick (s, Go.IntKind.wrap Go.IntKind.i64 (n + (1 : Int)), PUnit.unit)).1 ∧
                (Go.Rx.G.dPick (s, Go.IntKind.wrap Go.IntKind.i64 (n + (1 : Int)), PUnit.unit)).1 ≤ (10 : Int) ∧ (0 : Nat) ≤ (1000 : Nat))) =
          Bool.true then
      if
          (Go.Rx.G.dL3UnitsL
                  ((Go.Rx.G.dPick (s, Go.IntKind.wrap Go.IntKind.i64 (n + (1 : Int)), PUnit.unit)).2.1, [],
                    (Go.Rx.G.dPick (s, Go.IntKind.wrap Go.IntKind.i64 (n + (1 : Int)), PUnit.unit)).1, PUnit.unit)).1.1 =
            (0 : Nat) then
        Option.some
          ((Go.Rx.G.dL3UnitsL
                    ((Go.Rx.G.dPick (s, Go.IntKind.wrap Go.IntKind.i64 (n + (1 : Int)), PUnit.unit)).2.1, [],
                      (Go.Rx.G.dPick (s, Go.IntKind.wrap Go.IntKind.i64 (n + (1 : Int)), PUnit.unit)).1, PUnit.unit)).1.2.1,
            (Go.Rx.G.dL3UnitsL
                ((Go.Rx.G.dPick (s, Go.IntKind.wrap Go.IntKind.i64 (n + (1 : Int)), PUnit.unit)).2.1, [],
                  (Go.Rx.G.dPick (s, Go.IntKind.wrap Go.IntKind.i64 (n + (1 : Int)), PUnit.unit)).1, PUnit.unit)).2)
      else
        if
            (Go.Rx.G.dL3UnitsL
                    ((Go.Rx.G.dPick (s, Go.IntKind.wrap Go.IntKind.i64 (n + (1 : Int)), PUnit.unit)).2.1, [],
                      (Go.Rx.G.dPick (s, Go.IntKind.wrap Go.IntKind.i64 (n + (1 : Int)), PUnit.unit)).1, PUnit.unit)).1.1 =
              (1 : Nat) then
          Option.some
            ([],
              (Go.Rx.G.dL3UnitsL
                  ((Go.Rx.G.dPick (s, Go.IntKind.wrap Go.IntKind.i64 (n + (1 : Int)), PUnit.unit)).2.1, [],
                    (Go.Rx.G.dPick (s, Go.IntKind.wrap Go.IntKind.i64 (n + (1 : Int)), PUnit.unit)).1, PUnit.unit)).2)
        else Option.none
    else Option.none
  else Option.none) := by kernel_rfl
abbrev UnitsLX := PKs.den [RdP, UnitsO, IntP]
def UnitsLInv (x : UnitsLX) : Prop := G.rd (870000 - 200 * x.2.2.1) x.1 = true ∧ (0 ≤ x.2.2.1 ∧ x.2.2.1 ≤ 10 ∧ x.2.1.length ≤ 1000 + (10 - x.2.2.1).toNat)
def UnitsLPost (x : UnitsLX) (r : (Nat × PKs.den [UnitsO]) × Bxs.den [RdP, UnitsO, IntP]) : Prop := r.1.1 = 0 ∧ Adv (200 * x.2.2.1) x.1 r.2.1 ∧ ∀ n : Nat, G.unitsD n x.2.1 = true → G.unitsD (n + x.2.2.1.toNat) r.1.2.1 = true
theorem stL3UnitsL (s : RdS) (u : Units) (i : Int) (h : UnitsLInv (s, u, i, ())) : EpsOk UnitsLInv (fun x => x.2.2.1.toNat) UnitsLPost (s, u, i, ()) (roundK cxL3UnitsL 0 (loopIn Go.Proofs.Try.f107 0) ls0L3UnitsL (s, u, i, ())) := by
  obtain ⟨h1, h2, h3, h4⟩ := h
  have h1 : G.rd (870000 - 200 * i) s = true := h1
  have h2 : 0 ≤ i := h2
  have h3 : i ≤ 10 := h3
  have h4 : u.length ≤ 1000 + (10 - i).toNat := h4
  rw [rL3UnitsL]
  by_cases hi : i > 0
  · have hp := rd_le h1 (show 870000 - 200 * i ≤ 880000 by omega)
    obtain ⟨_, p1, p2, p3⟩ := postL2Unit (s, ()) hp
    rw [if_pos (decide_eq_true hi), if_pos hp, if_pos (okSize_few (by omega) (by omega)), w64 (by omega) (by omega)]
    generalize G.dL2Unit (s, ()) = q at p1 p2 p3 ⊢
    refine ⟨⟨rd_le (p1.rd h1) (by show 870000 - 200 * i + 200 ≤ 870000 - 200 * (i - 1); omega), by show 0 ≤ i - 1; omega, by show i - 1 ≤ 10; omega, ?_⟩, ?_, ?_⟩
    · show (u ++ [(q.1, ())]).length ≤ 1000 + (10 - (i - 1)).toNat
      simp
      omega
    · show (i - 1).toNat < i.toNat
      omega
    · rintro r ⟨r1, r2, r5⟩
      refine ⟨r1, (p1.trans r2).le (by show 200 + 200 * (i - 1) ≤ 200 * i; omega), fun n hn => ?_⟩
      have := r5 (n + 1) (unitsD_snoc hn p2 p3)
      have e : n + 1 + (i - 1).toNat = n + i.toNat := by omega
      have this : G.unitsD (n + 1 + (i - 1).toNat) r.1.2.1 = true := this
      rw [e] at this
      exact this
  · rw [if_neg (by simpa using hi)]
    refine ⟨rfl, (Adv.refl s).le (by show 0 ≤ 200 * i; omega), fun n hn => ?_⟩
    have e : n + i.toNat = n := by omega
    show G.unitsD (n + i.toNat) u = true
    rw [e]
    exact hn
theorem inv_units {x : UnitsLX} (h : (G.rd (870000 - 200 * x.2.2.1) x.1 && decide (0 ≤ x.2.2.1 ∧ x.2.2.1 ≤ 10 ∧ x.2.1.length ≤ 1000)) = true) : UnitsLInv x := by
  rw [Bool.and_eq_true, decide_eq_true_iff] at h
  exact ⟨h.1, h.2.1, h.2.2.1, Nat.le_add_right_of_le h.2.2.2⟩
theorem epsL3UnitsL (x : PKs.den [RdP, UnitsO, IntP]) (h : UnitsLInv x) : (∃ k, iter (roundK cxL3UnitsL 0 (loopIn Go.Proofs.Try.f107 0) ls0L3UnitsL) k x = some (G.dL3UnitsL x)) ∧ UnitsLPost x (G.dL3UnitsL x) := eps_ok (inv := UnitsLInv) (μ := (fun x => x.2.2.1.toNat)) (Post := UnitsLPost) (fun x h => stL3UnitsL x.1 x.2.1 x.2.2.1 h) x h
theorem lpL3UnitsL : LpOk Go.Proofs.Try.prog cxL3UnitsL.ntmps 0 (loopIn Go.Proofs.Try.f107 0) lsL3UnitsL :=
  lp_eps (cx := cxL3UnitsL) (cxOk T0_ok T0_eq pd8_ok) mixed (by kernel_rfl) (lps_none (by kernel_rfl)) (inv := UnitsLInv) (μ := (fun x => x.2.2.1.toNat)) (Post := UnitsLPost) (fun x h => inv_units h) (fun x h => stL3UnitsL x.1 x.2.1 x.2.2.1 h) (fun _ => rfl)
def UnitsPost (x : PKs.den [RdP, IntP]) (r : RK.den (.one UnitsO) × Bxs.den [RdP, IntP]) : Prop := Adv 3000 x.1 r.2.1 ∧ G.unitsD x.2.1.toNat r.1 = true
theorem unitsD_le {n m : Nat} {u : Units} (h : G.unitsD n u = true) (hm : n ≤ m) : G.unitsD m u = true := by
  obtain ⟨g1, g2⟩ := unitsD_iff.1 h
  exact unitsD_iff.2 ⟨by omega, g2⟩
theorem sfL3Units (s : RdS) (n : Int) (h : (G.rd 860000 s && decide (0 ≤ n ∧ n ≤ 9)) = true) : ∃ r, funK cxL3Units Go.Proofs.Try.f107 [RdP, IntP] (.one UnitsO) (s, n, ()) = some r ∧ UnitsPost (s, n, ()) r := by
  rw [Bool.and_eq_true, decide_eq_true_iff] at h
  obtain ⟨h, hn0, hn⟩ := h
  have h1 := rd_le h (show (860000 : Int) ≤ 1000000 by omega)
  rw [eL3Units, if_pos h1, w64 (by omega) (by omega)]
  obtain ⟨_, p1, p2, p3⟩ := postPick (s, n + 1, ()) h1
  generalize G.dPick (s, n + 1, ()) = q1 at p1 p2 p3 ⊢
  have r1 : G.rd 860001 q1.2.1 = true := p1.rd h
  obtain ⟨v, hv⟩ : ∃ v : Int, v = q1.1 := ⟨_, rfl⟩
  have p2 : 0 ≤ v := by rw [hv]; exact p2
  have p3 : v < n + 1 := by rw [hv]; exact p3 (by show (1 : Int) ≤ n + 1; omega)
  rw [← hv]
  have h3 : (G.rd (870000 - 200 * v) q1.2.1 && decide (0 ≤ v ∧ v ≤ 10 ∧ 0 ≤ 1000)) = true := by
    rw [Bool.and_eq_true]
    exact ⟨rd_le r1 (by omega), decide_eq_true ⟨by omega, by omega, by omega⟩⟩
  rw [if_pos h3]
  obtain ⟨_, b1, b2, b5⟩ := epsL3UnitsL (q1.2.1, [], v, ()) (inv_units h3)
  generalize G.dL3UnitsL (q1.2.1, [], v, ()) = q at b1 b2 b5 ⊢
  rw [if_pos b1]
  have b2 : Adv (200 * v) q1.2.1 q.2.1 := b2
  have b5 : G.unitsD (0 + v.toNat) q.1.2.1 = true := b5 0 rfl
  exact ⟨_, rfl, (p1.trans b2).le (by omega), unitsD_le b5 (by show 0 + v.toNat ≤ n.toNat; omega)⟩
theorem postL3Units (x : PKs.den [RdP, IntP]) (h : (G.rd 860000 x.1 && decide (0 ≤ x.2.1 ∧ x.2.1 ≤ 9)) = true) : funK cxL3Units Go.Proofs.Try.f107 [RdP, IntP] (.one UnitsO) x = some (G.dL3Units x) ∧ UnitsPost x (G.dL3Units x) := val_of (sfL3Units x.1 x.2.1 h)
theorem okL3Units : SpecOk Go.Proofs.Try.prog 107 spL3Units :=
  fun_okB (cx := cxL3Units) (F := Go.Proofs.Try.f107) (cxOk T0_ok T0_eq pd8_ok) mixed (by kernel_rfl) (by decide) (by kernel_rfl) (lps_of (l := [(0, loopIn Go.Proofs.Try.f107 0)]) (by kernel_rfl) ⟨lp_at lpL3UnitsL rfl, trivial⟩) (fun x h => (postL3Units x h).1)
noncomputable abbrev pd9 : List (Nat × List Spec) := (107, [spL3Units]) :: pd8
theorem pd9_ok : PhiOk Go.Proofs.Try.prog pd9 := ⟨⟨okL3Units, trivial⟩, pd8_ok⟩
end Go.Rx

/-
  DRAWS: machines.
-/
import Derived.Test.YtjnbmbhkgapcfaaGreatHh
namespace Go.Rx
open Go
set_option linter.unusedVariables false
set_option linter.unusedSimpArgs false
def G.mrun (p : Funs) (i : Int) (m : Mach) : Mach := if G.keepOk p = true then G.runM p i.toNat m else m
def G.mrPre (p : Funs) (m : Mach) (i : Int) : Bool := decide (0 ≤ i ∧ i ≤ 20) && (G.smallP p && (!G.keepOk p || G.goM p m))
theorem mrPre_iff {p : Funs} {m : Mach} {i : Int} : G.mrPre p m i = true ↔ ((0 ≤ i ∧ i ≤ 20) ∧ G.smallP p = true ∧ (G.keepOk p = true → G.goM p m = true)) := by
  unfold G.mrPre
  rw [Bool.and_eq_true, Bool.and_eq_true, decide_eq_true_iff, Bool.or_eq_true]
  refine and_congr_right fun _ => and_congr_right fun _ => ?_
  cases G.keepOk p <;> simp
noncomputable abbrev lsL5Mach : LSpec := ⟨[1, 5, 6], [], [FunSP, .box MachO, IntP], [], false, fun x => G.mrPre x.1 x.2.1 x.2.2.1, fun x => ((0, ()), (G.mrun x.1 x.2.2.1 x.2.1, ()))⟩
noncomputable abbrev pd15 : List (Nat × List Spec) := (22, [spL5Do]) :: (21, [spL5Copy]) :: (14, [spSpKeepOk]) :: pd14
theorem pd15_ok : PhiOk Go.Proofs.Tryz.prog pd15 := ⟨⟨okL5Do, trivial⟩, ⟨okL5Copy, trivial⟩, ⟨okSpKeepOk, trivial⟩, pd14_ok⟩
noncomputable abbrev cxMachL : Cx := mkCx T0 pd15 [] [] 64
theorem rL5Mach (p : Funs) (m : Mach) (i : Int) : roundK cxMachL 0 (loopIn Go.Proofs.Tryz.f34 0) lsL5Mach (p, m, i, ()) =
  (if Decidable.decide (i > (0 : Int)) = Bool.true then
    if Go.Rx.G.smallP p = Bool.true then
      if Go.Rx.G.keepOk p = Bool.true then
        if Decidable.decide (m.2.2.2.2.2.1 = (0 : Int)) = Bool.true then
          if Go.Rx.G.fewMach m = Bool.true then
            if Go.Rx.G.goM p m = Bool.true then Option.some (Go.Rx.LRes.go (p, Go.Rx.G.stepM p m, Go.IntKind.wrap Go.IntKind.i64 (i - (1 : Int)), PUnit.unit))
            else Option.none
          else Option.none
        else Option.some (Go.Rx.LRes.stop (0 : Nat) PUnit.unit (m, PUnit.unit))
      else Option.some (Go.Rx.LRes.stop (0 : Nat) PUnit.unit (m, PUnit.unit))
    else Option.none
  else Option.some (Go.Rx.LRes.stop (0 : Nat) PUnit.unit (m, PUnit.unit))) := by kernel_rfl
/-! L5Mach -/
noncomputable abbrev cxL5Mach : Cx := mkCx T0 pd15 [(0, lsL5Mach)] [] 64
noncomputable def G.dL5Mach (x : PKs.den [RdP, FunSP]) : RK.den (.one (.agg MachO)) × Bxs.den [RdP, FunSP] := G.val (funK cxL5Mach Go.Proofs.Tryz.f34 [RdP, FunSP] (.one (.agg MachO)) x)
noncomputable abbrev spL5Mach : Spec := ⟨[RdP, FunSP], .one (.agg MachO), true, fun x => G.rd 450000 x.1 && G.smallP x.2.1, fun x => G.dL5Mach x⟩
theorem eL5Mach (s : RdS) (p : Funs) : funK cxL5Mach Go.Proofs.Tryz.f34 [RdP, FunSP] (.one (.agg MachO)) (s, p, ()) =
  (if Go.Rx.G.rd (1000000 : Int) s = Bool.true then
    if Go.Rx.G.mrPre p ((0 : Int), (0 : Int), (0 : Int), [], [], (0 : Int), PUnit.unit) (Go.Rx.G.dPick (s, (20 : Int), PUnit.unit)).1 = Bool.true then
      if Go.Rx.G.rd (1000000 : Int) (Go.Rx.G.dPick (s, (20 : Int), PUnit.unit)).2.1 = Bool.true then
        if Decidable.decide ((Go.Rx.G.dPick ((Go.Rx.G.dPick (s, (20 : Int), PUnit.unit)).2.1, (40 : Int), PUnit.unit)).1 = (0 : Int)) = Bool.true then
          if (Go.Rx.G.rd (999999 : Int) (Go.Rx.G.dPick ((Go.Rx.G.dPick (s, (20 : Int), PUnit.unit)).2.1, (40 : Int), PUnit.unit)).2.1 && Decidable.decide ((1 : Nat) ≤ (3 : Nat) ∧ (3 : Nat) ≤ (1000 : Nat))) = Bool.true then
            Option.some
              (((Go.Rx.G.mrun p (Go.Rx.G.dPick (s, (20 : Int), PUnit.unit)).1 ((0 : Int), (0 : Int), (0 : Int), [], [], (0 : Int), PUnit.unit)).1,
                  Go.IntKind.wrap Go.IntKind.i64
                    ((Go.Rx.G.mrun p (Go.Rx.G.dPick (s, (20 : Int), PUnit.unit)).1 ((0 : Int), (0 : Int), (0 : Int), [], [], (0 : Int), PUnit.unit)).2.1 +
                      (Go.Rx.G.dNum ((Go.Rx.G.dPick ((Go.Rx.G.dPick (s, (20 : Int), PUnit.unit)).2.1, (40 : Int), PUnit.unit)).2.1, [((-9 : Int), PUnit.unit), ((1 : Int), PUnit.unit), ((9 : Int), PUnit.unit)], PUnit.unit)).1),
                  (Go.Rx.G.mrun p (Go.Rx.G.dPick (s, (20 : Int), PUnit.unit)).1 ((0 : Int), (0 : Int), (0 : Int), [], [], (0 : Int), PUnit.unit)).2.2),
                (Go.Rx.G.dNum ((Go.Rx.G.dPick ((Go.Rx.G.dPick (s, (20 : Int), PUnit.unit)).2.1, (40 : Int), PUnit.unit)).2.1, [((-9 : Int), PUnit.unit), ((1 : Int), PUnit.unit), ((9 : Int), PUnit.unit)], PUnit.unit)).2)
          else Option.none
        else
          if Decidable.decide ((Go.Rx.G.dPick ((Go.Rx.G.dPick (s, (20 : Int), PUnit.unit)).2.1, (40 : Int), PUnit.unit)).1 = (1 : Int)) = Bool.true then
            if (Go.Rx.G.rd (999999 : Int) (Go.Rx.G.dPick ((Go.Rx.G.dPick (s, (20 : Int), PUnit.unit)).2.1, (40 : Int), PUnit.unit)).2.1 && Decidable.decide ((1 : Nat) ≤ (3 : Nat) ∧ (3 : Nat) ≤ (1000 : Nat))) = Bool.true then
              Option.some
                (((Go.Rx.G.mrun p (Go.Rx.G.dPick (s, (20 : Int), PUnit.unit)).1 ((0 : Int), (0 : Int), (0 : Int), [], [], (0 : Int), PUnit.unit)).1,
                    (Go.Rx.G.mrun p (Go.Rx.G.dPick (s, (20 : Int), PUnit.unit)).1 ((0 : Int), (0 : Int), (0 : Int), [], [], (0 : Int), PUnit.unit)).2.1,
                    (Go.Rx.G.dNum ((Go.Rx.G.dPick ((Go.Rx.G.dPick (s, (20 : Int), PUnit.unit)).2.1, (40 : Int), PUnit.unit)).2.1, [((1000 : Int), PUnit.unit), ((1001 : Int), PUnit.unit), ((3 : Int), PUnit.unit)], PUnit.unit)).1,
                    (Go.Rx.G.mrun p (Go.Rx.G.dPick (s, (20 : Int), PUnit.unit)).1 ((0 : Int), (0 : Int), (0 : Int), [], [], (0 : Int), PUnit.unit)).2.2.2),
                  (Go.Rx.G.dNum ((Go.Rx.G.dPick ((Go.Rx.G.dPick (s, (20 : Int), PUnit.unit)).2.1, (40 : Int), PUnit.unit)).2.1, [((1000 : Int), PUnit.unit), ((1001 : Int), PUnit.unit), ((3 : Int), PUnit.unit)], PUnit.unit)).2)
            else Option.none
          else
            if Decidable.decide ((Go.Rx.G.dPick ((Go.Rx.G.dPick (s, (20 : Int), PUnit.unit)).2.1, (40 : Int), PUnit.unit)).1 = (2 : Int)) = Bool.true then
              if (Go.Rx.G.rd (999999 : Int) (Go.Rx.G.dPick ((Go.Rx.G.dPick (s, (20 : Int), PUnit.unit)).2.1, (40 : Int), PUnit.unit)).2.1 && Decidable.decide ((1 : Nat) ≤ (3 : Nat) ∧ (3 : Nat) ≤ (1000 : Nat))) = Bool.true then
                Option.some
                  (((Go.Rx.G.mrun p (Go.Rx.G.dPick (s, (20 : Int), PUnit.unit)).1 ((0 : Int), (0 : Int), (0 : Int), [], [], (0 : Int), PUnit.unit)).1,
                      (Go.Rx.G.mrun p (Go.Rx.G.dPick (s, (20 : Int), PUnit.unit)).1 ((0 : Int), (0 : Int), (0 : Int), [], [], (0 : Int), PUnit.unit)).2.1,
                      (Go.Rx.G.mrun p (Go.Rx.G.dPick (s, (20 : Int), PUnit.unit)).1 ((0 : Int), (0 : Int), (0 : Int), [], [], (0 : Int), PUnit.unit)).2.2.1,
                      (Go.Rx.G.mrun p (Go.Rx.G.dPick (s, (20 : Int), PUnit.unit)).1 ((0 : Int), (0 : Int), (0 : Int), [], [], (0 : Int), PUnit.unit)).2.2.2.1,
                      (Go.Rx.G.mrun p (Go.Rx.G.dPick (s, (20 : Int), PUnit.unit)).1 ((0 : Int), (0 : Int), (0 : Int), [], [], (0 : Int), PUnit.unit)).2.2.2.2.1,
                      (Go.Rx.G.dNum ((Go.Rx.G.dPick ((Go.Rx.G.dPick (s, (20 : Int), PUnit.unit)).2.1, (40 : Int), PUnit.unit)).2.1, [((-1 : Int), PUnit.unit), ((6 : Int), PUnit.unit), ((1 : Int), PUnit.unit)], PUnit.unit)).1,
                      PUnit.unit),
                    (Go.Rx.G.dNum ((Go.Rx.G.dPick ((Go.Rx.G.dPick (s, (20 : Int), PUnit.unit)).2.1, (40 : Int), PUnit.unit)).2.1, [((-1 : Int), PUnit.unit), ((6 : Int), PUnit.unit), ((1 : Int), PUnit.unit)], PUnit.unit)).2)
              else Option.none
            else
              if Decidable.decide ((Go.Rx.G.dPick ((Go.Rx.G.dPick (s, (20 : Int), PUnit.unit)).2.1, (40 : Int), PUnit.unit)).1 = (3 : Int)) = Bool.true then
                if Go.Rx.G.rd (1000000 : Int) (Go.Rx.G.dPick ((Go.Rx.G.dPick (s, (20 : Int), PUnit.unit)).2.1, (40 : Int), PUnit.unit)).2.1 = Bool.true then
                  if
                      Go.Rx.okSize (16 : Nat) (List.length (Go.Rx.G.mrun p (Go.Rx.G.dPick (s, (20 : Int), PUnit.unit)).1 ((0 : Int), (0 : Int), (0 : Int), [], [], (0 : Int), PUnit.unit)).2.2.2.1 + (1 : Nat)) =
                        Bool.true then
                    Option.some
                      (((Go.Rx.G.mrun p (Go.Rx.G.dPick (s, (20 : Int), PUnit.unit)).1 ((0 : Int), (0 : Int), (0 : Int), [], [], (0 : Int), PUnit.unit)).1,
                          (Go.Rx.G.mrun p (Go.Rx.G.dPick (s, (20 : Int), PUnit.unit)).1 ((0 : Int), (0 : Int), (0 : Int), [], [], (0 : Int), PUnit.unit)).2.1,
                          (Go.Rx.G.mrun p (Go.Rx.G.dPick (s, (20 : Int), PUnit.unit)).1 ((0 : Int), (0 : Int), (0 : Int), [], [], (0 : Int), PUnit.unit)).2.2.1,
                          (Go.Rx.G.mrun p (Go.Rx.G.dPick (s, (20 : Int), PUnit.unit)).1 ((0 : Int), (0 : Int), (0 : Int), [], [], (0 : Int), PUnit.unit)).2.2.2.1 ++
                            [(Go.IntKind.wrap Go.IntKind.i64 ((Go.Rx.G.dPick ((Go.Rx.G.dPick ((Go.Rx.G.dPick (s, (20 : Int), PUnit.unit)).2.1, (40 : Int), PUnit.unit)).2.1, (3 : Int), PUnit.unit)).1 - (1 : Int)), (0 : Int),
                                PUnit.unit)],
                          (Go.Rx.G.mrun p (Go.Rx.G.dPick (s, (20 : Int), PUnit.unit)).1 ((0 : Int), (0 : Int), (0 : Int), [], [], (0 : Int), PUnit.unit)).2.2.2.2),
                        (Go.Rx.G.dPick ((Go.Rx.G.dPick ((Go.Rx.G.dPick (s, (20 : Int), PUnit.unit)).2.1, (40 : Int), PUnit.unit)).2.1, (3 : Int), PUnit.unit)).2)
                  else Option.none
                else Option.none
              else
                Option.some
                  (Go.Rx.G.mrun p (Go.Rx.G.dPick (s, (20 : Int), PUnit.unit)).1 ((0 : Int), (0 : Int), (0 : Int), [], [], (0 : Int), PUnit.unit),
                    (Go.Rx.G.dPick ((Go.Rx.G.dPick (s, (20 : Int), PUnit.unit)).2.1, (40 : Int), PUnit.unit)).2)
      else Option.none
    else Option.none
  else Option.none) := by kernel_rfl
noncomputable abbrev muL5Mach : PKs.den lsL5Mach.ins → Nat := fun x => x.2.2.1.toNat
theorem stL5Mach (p : Funs) (m : Mach) (i : Int) (h : G.mrPre p m i = true) : StepOk lsL5Mach (eqInv lsL5Mach) muL5Mach (p, m, i, ()) (roundK cxMachL 0 (loopIn Go.Proofs.Tryz.f34 0) lsL5Mach (p, m, i, ())) := by
  obtain ⟨⟨h0, h1⟩, h2, h3⟩ := mrPre_iff.1 h
  have stop : ∀ e : G.mrun p i m = m, StepOk lsL5Mach (eqInv lsL5Mach) muL5Mach (p, m, i, ()) (some (LRes.stop 0 () (m, ()))) := fun e => by
    show ((0, ()), (G.mrun p i m, ())) = ((0, ()), (m, ()))
    rw [e]
  rw [rL5Mach]
  by_cases hi : i > 0
  · rw [if_pos (decide_eq_true hi), if_pos h2]
    cases hk : G.keepOk p with
    | false =>
      rw [if_neg (by decide)]
      exact stop (by unfold G.mrun; rw [hk]; rfl)
    | true =>
      have hg := h3 hk
      rw [if_pos rfl]
      by_cases hm : m.2.2.2.2.2.1 = 0
      · rw [if_pos (decide_eq_true hm), if_pos (goM_few hg), if_pos hg, w64 (by omega) (by omega)]
        have e : i.toNat = (i - 1).toNat + 1 := by omega
        refine ⟨(show G.mrPre p (G.stepM p m) (i - 1) = true from mrPre_iff.2 ⟨by omega, h2, fun _ => stepM_ok hg⟩), ?_, ?_⟩
        · show (i - 1).toNat < i.toNat
          omega
        · show ((0, ()), (G.mrun p (i - 1) (G.stepM p m), ())) = ((0, ()), (G.mrun p i m, ()))
          unfold G.mrun
          rw [hk, if_pos rfl, if_pos rfl, e, runM_succ, if_pos hm]
      · rw [if_neg (by simpa using hm)]
        exact stop (by unfold G.mrun; rw [hk, if_pos rfl, runM_done hm])
  · rw [if_neg (by simpa using hi)]
    exact stop (by unfold G.mrun; rw [show i.toNat = 0 by omega]; split <;> rfl)
theorem lpL5Mach : LpOk Go.Proofs.Tryz.prog cxMachL.ntmps 0 (loopIn Go.Proofs.Tryz.f34 0) lsL5Mach :=
  lp_okB (cx := cxMachL) (cxOk T0_ok T0_eq pd15_ok) mixed (by kernel_rfl) (lps_none (by kernel_rfl)) (eqInv lsL5Mach) muL5Mach (fun _ h => h) (fun x h => stL5Mach x.1 x.2.1 x.2.2.1 h)
theorem mrun_len {p : Funs} {i : Int} (hs : G.smallP p = true) : (G.mrun p i (0, 0, 0, [], [], 0, ())).2.2.2.1.length ≤ 5 ∧ (G.mrun p i (0, 0, 0, [], [], 0, ())).2.2.2.2.1.length ≤ 30 := by
  unfold G.mrun
  cases hk : G.keepOk p with
  | false => exact ⟨by show 0 ≤ 5; omega, by show 0 ≤ 30; omega⟩
  | true =>
    rw [if_pos rfl]
    exact (goM_iff.1 (runM_ok i.toNat (zeroM_ok hs hk))).2.2.1
def MachPost (x : PKs.den [RdP, FunSP]) (r : RK.den (.one (.agg MachO)) × Bxs.den [RdP, FunSP]) : Prop := r.1.2.2.2.1.length ≤ 6 ∧ r.1.2.2.2.2.1.length ≤ 30
theorem sfL5Mach (s : RdS) (p : Funs) (h : (G.rd 450000 s && G.smallP p) = true) : ∃ r, funK cxL5Mach Go.Proofs.Tryz.f34 [RdP, FunSP] (.one (.agg MachO)) (s, p, ()) = some r ∧ MachPost (s, p, ()) r := by
  rw [Bool.and_eq_true] at h
  obtain ⟨h, hs⟩ := h
  have h1 := rd_le h (show (450000 : Int) ≤ 1000000 by omega)
  obtain ⟨_, p1, p2, p3⟩ := postPick (s, 20, ()) h1
  rw [eL5Mach, if_pos h1]
  generalize G.dPick (s, (20 : Int), ()) = q at p1 p2 p3 ⊢
  obtain ⟨(i : Int), t, u⟩ := q
  have p1 : Adv 1 s t := p1
  have p2 : 0 ≤ i := p2
  have p3 : i < 20 := p3 (by show (1 : Int) ≤ 20; omega)
  have hz : G.mrPre p (0, 0, 0, [], [], 0, ()) i = true := mrPre_iff.2 ⟨⟨p2, Int.le_of_lt p3⟩, hs, fun hk => zeroM_ok hs hk⟩
  obtain ⟨l1, l2⟩ := mrun_len (i := i) hs
  have r1 : G.rd 450001 t = true := p1.rd h
  have h2 := rd_le r1 (show (450001 : Int) ≤ 1000000 by omega)
  dsimp only
  rw [if_pos hz, if_pos h2]
  generalize G.mrun p i (0, 0, 0, [], [], 0, ()) = m at l1 l2 ⊢
  obtain ⟨_, a1, a2, a3⟩ := postPick (t, 40, ()) h2
  generalize G.dPick (t, (40 : Int), ()) = q1 at a1 a2 a3 ⊢
  obtain ⟨v1, t1, u1⟩ := q1
  have a1 : Adv 1 t t1 := a1
  have r2 : G.rd 450002 t1 = true := a1.rd r1
  have n3 : (G.rd 999999 t1 && decide (1 ≤ 3 ∧ 3 ≤ 1000)) = true := by rw [Bool.and_eq_true]; exact ⟨rd_le r2 (by omega), by decide⟩
  have n4 : G.rd 1000000 t1 = true := rd_le r2 (by omega)
  have ok : Go.Rx.okSize 16 (m.2.2.2.1.length + 1) = true := okSize_few (by omega) (by omega)
  have fin : ∀ (x : Mach) (b : Bxs.den [RdP, FunSP]), x.2.2.2.1.length ≤ 6 → x.2.2.2.2.1.length ≤ 30 → ∃ r, (some (x, b) : Option (RK.den (.one (.agg MachO)) × Bxs.den [RdP, FunSP])) = some r ∧ MachPost (s, p, ()) r := fun x b x1 x2 => ⟨_, rfl, x1, x2⟩
  dsimp only
  simp only [n3, n4, ok, if_true]
  have l3 : m.2.2.2.1.length ≤ 6 := by omega
  repeat' split
  · exact fin _ _ l3 l2
  · exact fin _ _ l3 l2
  · exact fin _ _ l3 l2
  · exact fin _ _ (by simp; omega) l2
  · exact fin _ _ l3 l2
theorem postL5Mach (x : PKs.den [RdP, FunSP]) (h : (G.rd 450000 x.1 && G.smallP x.2.1) = true) : funK cxL5Mach Go.Proofs.Tryz.f34 [RdP, FunSP] (.one (.agg MachO)) x = some (G.dL5Mach x) ∧ MachPost x (G.dL5Mach x) := val_of (sfL5Mach x.1 x.2.1 h)
theorem okL5Mach : SpecOk Go.Proofs.Tryz.prog 34 spL5Mach :=
  fun_okB (cx := cxL5Mach) (F := Go.Proofs.Tryz.f34) (cxOk T0_ok T0_eq pd15_ok) mixed (by kernel_rfl) (by decide) (by kernel_rfl) (lps_of (l := [(0, loopIn Go.Proofs.Tryz.f34 0)]) (by kernel_rfl) ⟨lp_at lpL5Mach rfl, trivial⟩) (fun x h => (postL5Mach x h).1)
theorem funB_small {f : Fun} (h : G.funB f = true) : G.smallF f = true := by
  unfold G.funB at h
  rw [Bool.and_eq_true, Bool.and_eq_true, Bool.or_eq_true, Bool.or_eq_true, decide_eq_true_iff, decide_eq_true_iff, decide_eq_true_iff, List.all_eq_true] at h
  obtain ⟨h1, h2, h3⟩ := h
  refine smallF_iff.2 ⟨?_, by omega, ?_⟩
  · rcases h1 with h1 | h1 | h1
    · have := nm_size h1
      omega
    · rw [h1]
      decide +kernel
    · rw [h1]
      decide +kernel
  · rw [List.all_eq_true]
    intro i hi
    have := of_decide_eq_true (h3 i hi)
    exact lenS_iff.2 (by omega)
theorem funsB_small {p : Funs} (h : G.funsB p = true) : G.smallP p = true := by
  obtain ⟨h1, h2⟩ := (funsB_iff p).1 h
  refine smallP_iff.2 ⟨by omega, ?_⟩
  rw [List.all_eq_true]
  exact fun f hf => funB_small (h2 f hf)
noncomputable abbrev pd16 : List (Nat × List Spec) := (34, [spL5Mach]) :: pd14
theorem pd16_ok : PhiOk Go.Proofs.Tryz.prog pd16 := ⟨⟨okL5Mach, trivial⟩, pd14_ok⟩
/-! what is drawn of a code -/
/-! DrawMachOk -/
noncomputable abbrev cxDrawMachOk : Cx := mkCx T0 pd16 [] [] 14
noncomputable def G.dDrawMachOk (x : PKs.den [BytesP]) : RK.den (.tup [FunSP, .agg MachK]) × Bxs.den [BytesP] := G.val (funK cxDrawMachOk Go.Proofs.Tryz.f15 [BytesP] (.tup [FunSP, .agg MachK]) x)
noncomputable abbrev spDrawMachOk : Spec := ⟨[BytesP], .tup [FunSP, .agg MachK], true, fun x => x.1.all G.byteOk, fun x => G.dDrawMachOk x⟩
theorem eDrawMachOk (c : Bytes) : funK cxDrawMachOk Go.Proofs.Tryz.f15 [BytesP] (.tup [FunSP, .agg MachK]) (c, ()) =
  (if Go.Rx.G.rd (400000 : Int) (List.take (2000 : Nat) c, (0 : Int), PUnit.unit) = Bool.true then
    if
        (Go.Rx.G.rd (450000 : Int) (Go.Rx.G.dL4Bent ((List.take (2000 : Nat) c, (0 : Int), PUnit.unit), PUnit.unit)).2.1 &&
            Go.Rx.G.smallP (Go.Rx.G.dL4Bent ((List.take (2000 : Nat) c, (0 : Int), PUnit.unit), PUnit.unit)).1) =
          Bool.true then
      Option.some
        (((Go.Rx.G.dL4Bent ((List.take (2000 : Nat) c, (0 : Int), PUnit.unit), PUnit.unit)).1,
            (Go.Rx.G.dL5Mach
                ((Go.Rx.G.dL4Bent ((List.take (2000 : Nat) c, (0 : Int), PUnit.unit), PUnit.unit)).2.1, (Go.Rx.G.dL4Bent ((List.take (2000 : Nat) c, (0 : Int), PUnit.unit), PUnit.unit)).1, PUnit.unit)).1,
            PUnit.unit),
          PUnit.unit)
    else Option.none
  else Option.none) := by kernel_rfl
/-! DrawMachRun -/
noncomputable abbrev cxDrawMachRun : Cx := mkCx T0 pd16 [] [] 14
noncomputable def G.dDrawMachRun (x : PKs.den [BytesP]) : RK.den (.tup [FunSP, IntP]) × Bxs.den [BytesP] := G.val (funK cxDrawMachRun Go.Proofs.Tryz.f11 [BytesP] (.tup [FunSP, IntP]) x)
noncomputable abbrev spDrawMachRun : Spec := ⟨[BytesP], .tup [FunSP, IntP], true, fun x => x.1.all G.byteOk, fun x => G.dDrawMachRun x⟩
theorem eDrawMachRun (c : Bytes) : funK cxDrawMachRun Go.Proofs.Tryz.f11 [BytesP] (.tup [FunSP, IntP]) (c, ()) =
  (if Go.Rx.G.rd (400000 : Int) (List.take (2000 : Nat) c, (0 : Int), PUnit.unit) = Bool.true then
    if (Go.Rx.G.rd (999999 : Int) (Go.Rx.G.dL4Bent ((List.take (2000 : Nat) c, (0 : Int), PUnit.unit), PUnit.unit)).2.1 && Decidable.decide ((1 : Nat) ≤ (7 : Nat) ∧ (7 : Nat) ≤ (1000 : Nat))) = Bool.true then
      Option.some
        (((Go.Rx.G.dL4Bent ((List.take (2000 : Nat) c, (0 : Int), PUnit.unit), PUnit.unit)).1,
            (Go.Rx.G.dNum
                ((Go.Rx.G.dL4Bent ((List.take (2000 : Nat) c, (0 : Int), PUnit.unit), PUnit.unit)).2.1,
                  [((200 : Int), PUnit.unit), ((50 : Int), PUnit.unit), ((10 : Int), PUnit.unit), ((3 : Int), PUnit.unit), ((0 : Int), PUnit.unit), ((-1 : Int), PUnit.unit), ((201 : Int), PUnit.unit)], PUnit.unit)).1,
            PUnit.unit),
          PUnit.unit)
    else Option.none
  else Option.none) := by kernel_rfl
/-! DrawKeepOk -/
def DMPost (x : PKs.den [BytesP]) (r : RK.den (.tup [FunSP, .agg MachK]) × Bxs.den [BytesP]) : Prop := G.funsB r.1.1 = true ∧ r.1.2.1.2.2.2.1.length ≤ 6 ∧ r.1.2.1.2.2.2.2.1.length ≤ 30
def DRPost (x : PKs.den [BytesP]) (r : RK.den (.tup [FunSP, IntP]) × Bxs.den [BytesP]) : Prop := G.funsB r.1.1 = true
def DKPost (x : PKs.den [BytesP]) (r : RK.den (.one FunsO) × Bxs.den [BytesP]) : Prop := G.funsB r.1 = true
theorem sfDrawMachOk (c : Bytes) (h : c.all G.byteOk = true) : ∃ r, funK cxDrawMachOk Go.Proofs.Tryz.f15 [BytesP] (.tup [FunSP, .agg MachK]) (c, ()) = some r ∧ DMPost (c, ()) r := by
  have h0 := open_rd h
  have h1 := rd_le h0 (show (0 : Int) ≤ 400000 by omega)
  obtain ⟨_, p1, p2⟩ := postL4Bent ((c.take 2000, 0, ()), ()) h1
  rw [eDrawMachOk, if_pos h1]
  generalize G.dL4Bent ((c.take 2000, 0, ()), ()) = q at p1 p2 ⊢
  have p2 : G.funsB q.1 = true := p2
  have h2 : (G.rd 450000 q.2.1 && G.smallP q.1) = true := by
    rw [Bool.and_eq_true]
    exact ⟨rd_le (p1.rd h0) (by omega), funsB_small p2⟩
  rw [if_pos h2]
  obtain ⟨_, a1, a2⟩ := postL5Mach (q.2.1, q.1, ()) h2
  exact ⟨_, rfl, p2, a1, a2⟩
theorem postDrawMachOk (x : PKs.den [BytesP]) (h : (x.1.all G.byteOk) = true) : funK cxDrawMachOk Go.Proofs.Tryz.f15 [BytesP] (.tup [FunSP, .agg MachK]) x = some (G.dDrawMachOk x) ∧ DMPost x (G.dDrawMachOk x) := val_of (sfDrawMachOk x.1 h)
theorem okDrawMachOk : SpecOk Go.Proofs.Tryz.prog 15 spDrawMachOk :=
  fun_okB (cx := cxDrawMachOk) (F := Go.Proofs.Tryz.f15) (cxOk T0_ok T0_eq pd16_ok) mixed (by kernel_rfl) (by decide) (by kernel_rfl) (lps_none (by kernel_rfl)) (fun x h => (postDrawMachOk x h).1)
theorem sfDrawMachRun (c : Bytes) (h : c.all G.byteOk = true) : ∃ r, funK cxDrawMachRun Go.Proofs.Tryz.f11 [BytesP] (.tup [FunSP, IntP]) (c, ()) = some r ∧ DRPost (c, ()) r := by
  have h0 := open_rd h
  have h1 := rd_le h0 (show (0 : Int) ≤ 400000 by omega)
  obtain ⟨_, p1, p2⟩ := postL4Bent ((c.take 2000, 0, ()), ()) h1
  rw [eDrawMachRun, if_pos h1]
  generalize G.dL4Bent ((c.take 2000, 0, ()), ()) = q at p1 p2 ⊢
  have p2 : G.funsB q.1 = true := p2
  have r1 := rd_le (p1.rd h0) (show (0 : Int) + 6000 ≤ 999999 by omega)
  refine ⟨_, if_pos (by rw [Bool.and_eq_true]; exact ⟨r1, by decide⟩), p2⟩
theorem postDrawMachRun (x : PKs.den [BytesP]) (h : (x.1.all G.byteOk) = true) : funK cxDrawMachRun Go.Proofs.Tryz.f11 [BytesP] (.tup [FunSP, IntP]) x = some (G.dDrawMachRun x) ∧ DRPost x (G.dDrawMachRun x) := val_of (sfDrawMachRun x.1 h)
theorem okDrawMachRun : SpecOk Go.Proofs.Tryz.prog 11 spDrawMachRun :=
  fun_okB (cx := cxDrawMachRun) (F := Go.Proofs.Tryz.f11) (cxOk T0_ok T0_eq pd16_ok) mixed (by kernel_rfl) (by decide) (by kernel_rfl) (lps_none (by kernel_rfl)) (fun x h => (postDrawMachRun x h).1)
noncomputable abbrev pd17 : List (Nat × List Spec) := (15, [spDrawMachOk]) :: (11, [spDrawMachRun]) :: pd16
theorem pd17_ok : PhiOk Go.Proofs.Tryz.prog pd17 := ⟨⟨okDrawMachOk, trivial⟩, ⟨okDrawMachRun, trivial⟩, pd16_ok⟩
/-! DrawMachStep -/
noncomputable abbrev cxDrawMachStep : Cx := mkCx T0 pd17 [] [] 8
noncomputable def G.dDrawMachStep (x : PKs.den [BytesP]) : RK.den (.tup [FunSP, .agg MachK]) × Bxs.den [BytesP] := G.val (funK cxDrawMachStep Go.Proofs.Tryz.f5 [BytesP] (.tup [FunSP, .agg MachK]) x)
noncomputable abbrev spDrawMachStep : Spec := ⟨[BytesP], .tup [FunSP, .agg MachK], true, fun x => x.1.all G.byteOk, fun x => G.dDrawMachStep x⟩
theorem eDrawMachStep (c : Bytes) : funK cxDrawMachStep Go.Proofs.Tryz.f5 [BytesP] (.tup [FunSP, .agg MachK]) (c, ()) =
  (if List.all c Go.Rx.G.byteOk = Bool.true then Option.some (Go.Rx.G.dDrawMachOk (c, PUnit.unit)) else Option.none) := by kernel_rfl
theorem sfDrawMachStep (c : Bytes) (h : c.all G.byteOk = true) : ∃ r, funK cxDrawMachStep Go.Proofs.Tryz.f5 [BytesP] (.tup [FunSP, .agg MachK]) (c, ()) = some r ∧ DMPost (c, ()) r := by
  obtain ⟨_, p⟩ := postDrawMachOk (c, ()) h
  rw [eDrawMachStep, if_pos h]
  exact ⟨_, rfl, p⟩
theorem postDrawMachStep (x : PKs.den [BytesP]) (h : (x.1.all G.byteOk) = true) : funK cxDrawMachStep Go.Proofs.Tryz.f5 [BytesP] (.tup [FunSP, .agg MachK]) x = some (G.dDrawMachStep x) ∧ DMPost x (G.dDrawMachStep x) := val_of (sfDrawMachStep x.1 h)
theorem okDrawMachStep : SpecOk Go.Proofs.Tryz.prog 5 spDrawMachStep :=
  fun_okB (cx := cxDrawMachStep) (F := Go.Proofs.Tryz.f5) (cxOk T0_ok T0_eq pd17_ok) mixed (by kernel_rfl) (by decide) (by kernel_rfl) (lps_none (by kernel_rfl)) (fun x h => (postDrawMachStep x h).1)
noncomputable abbrev pd18 : List (Nat × List Spec) := (5, [spDrawMachStep]) :: pd17
theorem pd18_ok : PhiOk Go.Proofs.Tryz.prog pd18 := ⟨⟨okDrawMachStep, trivial⟩, pd17_ok⟩
end Go.Rx

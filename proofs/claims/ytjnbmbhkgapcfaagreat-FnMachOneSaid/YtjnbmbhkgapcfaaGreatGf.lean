/-
  THE LAW on runs of programs: they are iterated steps.
-/
import Derived.Test.YtjnbmbhkgapcfaaGreatGe
namespace Go.Rx
open Go
set_option linter.unusedVariables false
set_option linter.unusedSimpArgs false
def G.iterM (p : Funs) : Nat → Mach → Mach
  | 0, m => m
  | n + 1, m => G.iterM p n (G.mstep p m)
theorem mstep_few {p : Funs} {m : Mach} (hs : G.smallP p = true) (h : G.fewMach m = true) : G.fewMach (G.mstep p m) = true := by
  unfold G.mstep
  split
  · rename_i ho
    split
    · exact goM_few (stepM_ok (machOk_go hs ho))
    · exact h
  · exact formM_few
def G.Bd (m : Mach) : Prop := (-1000 ≤ m.2.2.1 ∧ m.2.2.1 ≤ 1000) ∧ G.allCut m.2.2.2.2.1 0 = true ∧ (0 ≤ m.2.2.2.2.2.1 ∧ m.2.2.2.2.2.1 ≤ 5)
theorem allL_append' {p : Int → Bool} {xs : Ints} {v : Int} (h : G.allL p xs 0 = true) (hv : p v = true) : G.allL p (xs ++ [(v, ())]) 0 = true := by
  unfold G.allL at h ⊢
  simp at h ⊢
  exact ⟨h, hv⟩
theorem allL_take' {p : Int → Bool} {xs : Ints} {n : Nat} (h : G.allL p xs 0 = true) : G.allL p (xs.take n) 0 = true := by
  unfold G.allL at h ⊢
  simp only [Int.toNat_zero, List.drop_zero, List.all_eq_true] at h ⊢
  exact fun x hx => h x (List.mem_of_mem_take hx)
theorem bd_step (op n t : Int) {m : Mach} (h : G.Bd m) : G.Bd (G.stepI op n t m) := by
  obtain ⟨⟨k4, k5⟩, k8, k9, k10⟩ := h
  obtain ⟨a1, a2, a3, a4, a5, a6, a7⟩ := m
  have code : ∀ c : Int, 0 ≤ c → c ≤ 5 → G.Bd (a1, a2, a3, a4, a5, c, ()) := fun c h0 h1 => ⟨⟨k4, k5⟩, k8, h0, h1⟩
  have keep : ∀ (x y : Int) (s : Spots), G.Bd (x, y, a3, s, a5, a6, ()) := fun x y s => ⟨⟨k4, k5⟩, k8, k9, k10⟩
  unfold G.stepI
  split
  · unfold G.sayM
    split
    · exact code 4 (by omega) (by omega)
    · exact ⟨⟨k4, k5⟩, allL_append' k8 (inR_iff.2 ⟨k4, k5⟩), k9, k10⟩
  · split
    · refine ⟨?_, k8, k9, k10⟩
      show -1000 ≤ G.sum a3 n ∧ G.sum a3 n ≤ 1000
      unfold G.sum G.cut
      constructor <;> (repeat' split) <;> omega
    · split
      · unfold G.callM
        split
        · exact code 2 (by omega) (by omega)
        · exact keep _ _ _
      · split
        · exact keep _ _ _
        · split
          · split
            · exact keep _ _ _
            · exact keep _ _ _
          · split
            · unfold G.retM
              split
              · exact code 3 (by omega) (by omega)
              · exact keep _ _ _
            · exact code 1 (by omega) (by omega)
/-- A step leads from what is right to what is right. -/
theorem machOk_step {p : Funs} {m : Mach} (hs : G.smallP p = true) (h : G.machOk p m = true) : G.machOk p (G.stepM p m) = true := by
  obtain ⟨g1, g2, g3, g4⟩ := goM_iff.1 (stepM_ok (machOk_go hs h))
  obtain ⟨k1, k2, k3, k4, k5, k6, k7, k8, k9, k10⟩ := (machOk_iff p m).1 h
  obtain ⟨h1, h2, h3⟩ : G.Bd (G.stepM p m) := bd_step _ _ _ ⟨⟨k4, k5⟩, k8, k9, k10⟩
  exact (machOk_iff _ _).2 ⟨k1, g2, g4, h1.1, h1.2, by omega, by omega, h2, h3.1, h3.2⟩
theorem iterM_run {p : Funs} (hs : G.smallP p = true) : ∀ (n : Nat) {m : Mach}, G.machOk p m = true → G.iterM p n m = G.runM p n m
  | 0, _, _ => rfl
  | n + 1, m, h => by
    show G.iterM p n (G.mstep p m) = _
    rw [runM_succ]
    unfold G.mstep
    rw [if_pos h]
    by_cases hm : m.2.2.2.2.2.1 = 0
    · rw [if_pos hm, if_pos hm]
      exact iterM_run hs n (machOk_step hs h)
    · rw [if_neg hm, if_neg hm, iterM_run hs n h, runM_done hm]
theorem runM_last (p : Funs) : ∀ (n : Nat) (m : Mach), G.runM p (n + 1) m = if (G.runM p n m).2.2.2.2.2.1 = 0 then G.stepM p (G.runM p n m) else G.runM p n m
  | 0, m => by
    rw [runM_succ]
    rfl
  | n + 1, m => by
    by_cases hm : m.2.2.2.2.2.1 = 0
    · have e1 : G.runM p (n + 1 + 1) m = G.runM p (n + 1) (G.stepM p m) := by rw [runM_succ, if_pos hm]
      have e2 : G.runM p (n + 1) m = G.runM p n (G.stepM p m) := by rw [runM_succ, if_pos hm]
      rw [e1, e2]
      exact runM_last p n _
    · rw [runM_done hm, runM_done hm, if_neg hm]
theorem step_code (op n t : Int) {m : Mach} (h : m.2.2.2.2.2.1 ≤ 4) : (G.stepI op n t m).2.2.2.2.2.1 ≤ 4 := by
  unfold G.stepI G.sayM G.callM G.retM
  (repeat' split) <;> first | exact h | (show (4 : Int) ≤ 4; omega) | (show (2 : Int) ≤ 4; omega) | (show (3 : Int) ≤ 4; omega) | (show (1 : Int) ≤ 4; omega)
theorem run_code (p : Funs) : ∀ (n : Nat) {m : Mach}, m.2.2.2.2.2.1 ≤ 4 → (G.runM p n m).2.2.2.2.2.1 ≤ 4
  | 0, _, h => h
  | n + 1, m, h => by
    rw [runM_succ]
    split
    · exact run_code p n (step_code _ _ _ h)
    · exact h
theorem zero_machOk {p : Funs} (hs : G.smallP p = true) (h : G.keepOk p = true) : G.machOk p G.zeroM = true := by
  obtain ⟨_, g2, _, g4⟩ := goM_iff.1 (zeroM_ok hs h)
  exact (machOk_iff _ _).2 ⟨h, g2, g4, by decide, by decide, by decide, by decide, rfl, by decide, by decide⟩
theorem runM_machOk {p : Funs} (hs : G.smallP p = true) : ∀ (n : Nat) {m : Mach}, G.machOk p m = true → G.machOk p (G.runM p n m) = true
  | 0, _, h => h
  | n + 1, m, h => by
    rw [runM_succ]
    split
    · exact runM_machOk hs n (machOk_step hs h)
    · exact h
def G.itPre (p : Funs) (fuel i : Int) (m : Mach) : Bool := decide (0 ≤ i ∧ i ≤ fuel ∧ fuel ≤ 200) && (G.smallP p && G.fewMach m)
theorem itPre_iff {p : Funs} {fuel i : Int} {m : Mach} : G.itPre p fuel i m = true ↔ ((0 ≤ i ∧ i ≤ fuel ∧ fuel ≤ 200) ∧ G.smallP p = true ∧ G.fewMach m = true) := by
  unfold G.itPre
  rw [Bool.and_eq_true, Bool.and_eq_true, decide_eq_true_iff]
noncomputable abbrev lsItM : LSpec := ⟨[3, 4, 6, 7], [], [FunSP, IntP, .box MachO, IntP], [], false, fun x => G.itPre x.1 x.2.1 x.2.2.2.1 x.2.2.1, fun x => ((0, ()), (G.iterM x.1 (x.2.1 - x.2.2.2.1).toNat x.2.2.1, ()))⟩
noncomputable abbrev pg42 : List (Nat × List Spec) := (29, [spKeepOk]) :: pd18
theorem pg42_ok : PhiOk Go.Proofs.Tryz.prog pg42 := ⟨⟨okKeepOk, trivial⟩, pd18_ok⟩
noncomputable abbrev cxItM : Cx := mkCx T0 pg42 [] [] 67
theorem rItM (p : Funs) (fuel : Int) (m : Mach) (i : Int) : roundK cxItM 0 (loopIn Go.Proofs.Tryz.f4 0) lsItM (p, fuel, m, i, ()) =
  (if Decidable.decide (i < fuel) = Bool.true then
    if (Go.Rx.G.smallP p && Go.Rx.G.fewMach m) = Bool.true then
      Option.some (Go.Rx.LRes.go (p, fuel, Go.Rx.G.mstep p m, Go.IntKind.wrap Go.IntKind.i64 (i + (1 : Int)), PUnit.unit))
    else Option.none
  else Option.some (Go.Rx.LRes.stop (0 : Nat) PUnit.unit (m, PUnit.unit))) := by kernel_rfl
theorem stItM (p : Funs) (fuel : Int) (m : Mach) (i : Int) (h : G.itPre p fuel i m = true) : StepOk lsItM (eqInv lsItM) (fun x => (x.2.1 - x.2.2.2.1).toNat) (p, fuel, m, i, ()) (roundK cxItM 0 (loopIn Go.Proofs.Tryz.f4 0) lsItM (p, fuel, m, i, ())) := by
  obtain ⟨⟨h0, h1, h2⟩, h3, h4⟩ := itPre_iff.1 h
  rw [rItM]
  by_cases hi : i < fuel
  · have hc : (G.smallP p && G.fewMach m) = true := by rw [Bool.and_eq_true]; exact ⟨h3, h4⟩
    have e : (fuel - i).toNat = (fuel - (i + 1)).toNat + 1 := by omega
    rw [if_pos (decide_eq_true hi), if_pos hc, w64 (by omega) (by omega)]
    refine ⟨(show G.itPre p fuel (i + 1) (G.mstep p m) = true from itPre_iff.2 ⟨by omega, h3, mstep_few h3 h4⟩), ?_, ?_⟩
    · show (fuel - (i + 1)).toNat < (fuel - i).toNat
      omega
    · show ((0, ()), (G.iterM p (fuel - (i + 1)).toNat (G.mstep p m), ())) = ((0, ()), (G.iterM p (fuel - i).toNat m, ()))
      rw [e]
      rfl
  · rw [if_neg (by simpa using hi)]
    show ((0, ()), (G.iterM p (fuel - i).toNat m, ())) = ((0, ()), (m, ()))
    rw [show (fuel - i).toNat = 0 by omega]
    rfl
theorem lpItM : LpOk Go.Proofs.Tryz.prog cxItM.ntmps 0 (loopIn Go.Proofs.Tryz.f4 0) lsItM :=
  lp_okB (cx := cxItM) (cxOk T0_ok T0_eq pg42_ok) mixed (by kernel_rfl) (lps_none (by kernel_rfl)) (eqInv lsItM) (fun x => (x.2.1 - x.2.2.2.1).toNat) (fun _ h => h) (fun x h => stItM x.1 x.2.1 x.2.2.1 x.2.2.2.1 h)
/-! LawMachRun -/
noncomputable abbrev spLawMachRun : Spec := ⟨[BytesP], BoolR, true, fun x => x.1.all G.byteOk, fun x => (true, ())⟩
noncomputable abbrev cxLawMachRun : Cx := mkCx T0 pg42 [(0, lsItM)] [] 67
theorem eLawMachRun (c : Bytes) : funK cxLawMachRun Go.Proofs.Tryz.f4 spLawMachRun.ins spLawMachRun.out (c, ()) =
  (if Decidable.decide ((↑(List.length c) : Int) > (1048576 : Int)) = Bool.true then Option.some (Bool.true, PUnit.unit)
  else
    if List.all c Go.Rx.G.byteOk = Bool.true then
      if Go.Rx.G.smallP (Go.Rx.G.dDrawMachRun (c, PUnit.unit)).1.1 = Bool.true then
        if Go.Rx.G.smallP (Go.Rx.G.dDrawMachRun (c, PUnit.unit)).1.1 = Bool.true then
          if Go.Rx.G.fewMach (Go.Rx.G.machRun (Go.Rx.G.dDrawMachRun (c, PUnit.unit)).1.1 (Go.Rx.G.dDrawMachRun (c, PUnit.unit)).1.2.1) = Bool.true then
            if
                (!Go.Rx.G.sameM (Go.Rx.G.machRun (Go.Rx.G.dDrawMachRun (c, PUnit.unit)).1.1 (Go.Rx.G.dDrawMachRun (c, PUnit.unit)).1.2.1)
                      (Go.Rx.G.machRun (Go.Rx.G.dDrawMachRun (c, PUnit.unit)).1.1 (Go.Rx.G.dDrawMachRun (c, PUnit.unit)).1.2.1)) =
                  Bool.true then
              Option.some (Bool.false, PUnit.unit)
            else
              if Decidable.decide ((Go.Rx.G.machRun (Go.Rx.G.dDrawMachRun (c, PUnit.unit)).1.1 (Go.Rx.G.dDrawMachRun (c, PUnit.unit)).1.2.1).2.2.2.2.2.1 = (5 : Int)) = Bool.true then
                if Go.Rx.G.smallP (Go.Rx.G.dDrawMachRun (c, PUnit.unit)).1.1 = Bool.true then
                  if (!Go.Rx.G.keepOk (Go.Rx.G.dDrawMachRun (c, PUnit.unit)).1.1) = Bool.false then
                    if Decidable.decide ((Go.Rx.G.dDrawMachRun (c, PUnit.unit)).1.2.1 < (0 : Int)) = Bool.false then
                      Option.some (Decidable.decide ((Go.Rx.G.dDrawMachRun (c, PUnit.unit)).1.2.1 > (200 : Int)), PUnit.unit)
                    else Option.some (Bool.true, PUnit.unit)
                  else Option.some (Bool.true, PUnit.unit)
                else Option.none
              else
                if
                    Go.Rx.G.itPre (Go.Rx.G.dDrawMachRun (c, PUnit.unit)).1.1 (Go.Rx.G.dDrawMachRun (c, PUnit.unit)).1.2.1 (0 : Int) ((0 : Int), (0 : Int), (0 : Int), [], [], (0 : Int), PUnit.unit) =
                      Bool.true then
                  if
                      Go.Rx.G.fewMach
                          (Go.Rx.G.iterM (Go.Rx.G.dDrawMachRun (c, PUnit.unit)).1.1 (Int.toNat ((Go.Rx.G.dDrawMachRun (c, PUnit.unit)).1.2.1 - (0 : Int)))
                            ((0 : Int), (0 : Int), (0 : Int), [], [], (0 : Int), PUnit.unit)) =
                        Bool.true then
                    if
                        (!Go.Rx.G.sameM
                              (Go.Rx.G.iterM (Go.Rx.G.dDrawMachRun (c, PUnit.unit)).1.1 (Int.toNat ((Go.Rx.G.dDrawMachRun (c, PUnit.unit)).1.2.1 - (0 : Int)))
                                ((0 : Int), (0 : Int), (0 : Int), [], [], (0 : Int), PUnit.unit))
                              (Go.Rx.G.machRun (Go.Rx.G.dDrawMachRun (c, PUnit.unit)).1.1 (Go.Rx.G.dDrawMachRun (c, PUnit.unit)).1.2.1)) =
                          Bool.false then
                      if Decidable.decide ((Go.Rx.G.dDrawMachRun (c, PUnit.unit)).1.2.1 ≥ (200 : Int)) = Bool.true then
                        if
                            Go.Rx.G.fewMach
                                (Go.Rx.G.iterM (Go.Rx.G.dDrawMachRun (c, PUnit.unit)).1.1 (Int.toNat ((Go.Rx.G.dDrawMachRun (c, PUnit.unit)).1.2.1 - (0 : Int)))
                                  ((0 : Int), (0 : Int), (0 : Int), [], [], (0 : Int), PUnit.unit)) =
                              Bool.true then
                          Option.some
                            (Go.Rx.G.sameM
                                (Go.Rx.G.iterM (Go.Rx.G.dDrawMachRun (c, PUnit.unit)).1.1 (Int.toNat ((Go.Rx.G.dDrawMachRun (c, PUnit.unit)).1.2.1 - (0 : Int)))
                                  ((0 : Int), (0 : Int), (0 : Int), [], [], (0 : Int), PUnit.unit))
                                (Go.Rx.G.machRun (Go.Rx.G.dDrawMachRun (c, PUnit.unit)).1.1 (Go.Rx.G.dDrawMachRun (c, PUnit.unit)).1.2.1),
                              PUnit.unit)
                        else Option.none
                      else
                        if Go.Rx.G.smallP (Go.Rx.G.dDrawMachRun (c, PUnit.unit)).1.1 = Bool.true then
                          if
                              (Go.Rx.G.smallP (Go.Rx.G.dDrawMachRun (c, PUnit.unit)).1.1 &&
                                  Go.Rx.G.fewMach (Go.Rx.G.machRun (Go.Rx.G.dDrawMachRun (c, PUnit.unit)).1.1 (Go.Rx.G.dDrawMachRun (c, PUnit.unit)).1.2.1)) =
                                Bool.true then
                            if
                                Go.Rx.G.fewMach (Go.Rx.G.machRun (Go.Rx.G.dDrawMachRun (c, PUnit.unit)).1.1 (Go.IntKind.wrap Go.IntKind.i64 ((Go.Rx.G.dDrawMachRun (c, PUnit.unit)).1.2.1 + (1 : Int)))) =
                                  Bool.true then
                              Option.some
                                (Go.Rx.G.sameM (Go.Rx.G.machRun (Go.Rx.G.dDrawMachRun (c, PUnit.unit)).1.1 (Go.IntKind.wrap Go.IntKind.i64 ((Go.Rx.G.dDrawMachRun (c, PUnit.unit)).1.2.1 + (1 : Int))))
                                    (Go.Rx.G.mstep (Go.Rx.G.dDrawMachRun (c, PUnit.unit)).1.1
                                      (Go.Rx.G.machRun (Go.Rx.G.dDrawMachRun (c, PUnit.unit)).1.1 (Go.Rx.G.dDrawMachRun (c, PUnit.unit)).1.2.1)),
                                  PUnit.unit)
                            else Option.none
                          else Option.none
                        else Option.none
                    else
                      if
                          Go.Rx.G.fewMach
                              (Go.Rx.G.iterM (Go.Rx.G.dDrawMachRun (c, PUnit.unit)).1.1 (Int.toNat ((Go.Rx.G.dDrawMachRun (c, PUnit.unit)).1.2.1 - (0 : Int)))
                                ((0 : Int), (0 : Int), (0 : Int), [], [], (0 : Int), PUnit.unit)) =
                            Bool.true then
                        Option.some
                          (Go.Rx.G.sameM
                              (Go.Rx.G.iterM (Go.Rx.G.dDrawMachRun (c, PUnit.unit)).1.1 (Int.toNat ((Go.Rx.G.dDrawMachRun (c, PUnit.unit)).1.2.1 - (0 : Int)))
                                ((0 : Int), (0 : Int), (0 : Int), [], [], (0 : Int), PUnit.unit))
                              (Go.Rx.G.machRun (Go.Rx.G.dDrawMachRun (c, PUnit.unit)).1.1 (Go.Rx.G.dDrawMachRun (c, PUnit.unit)).1.2.1),
                            PUnit.unit)
                      else Option.none
                  else Option.none
                else Option.none
          else Option.none
        else Option.none
      else Option.none
    else Option.none) := by kernel_rfl
theorem sfLawMachRun (c : Bytes) (h : c.all G.byteOk = true) : funK cxLawMachRun Go.Proofs.Tryz.f4 spLawMachRun.ins spLawMachRun.out (c, ()) = some (true, ()) := by
  rw [eLawMachRun]
  by_cases h1 : (c.length : Int) > 1048576
  · rw [if_pos (decide_eq_true h1)]
  · rw [if_neg (by simpa using h1), if_pos h]
    obtain ⟨_, p1⟩ := postDrawMachRun (c, ()) h
    generalize G.dDrawMachRun (c, ()) = r at p1 ⊢
    obtain ⟨⟨p, (fuel : Int), u⟩, w⟩ := r
    have p1 : G.funsB p = true := p1
    have hs := funsB_small p1
    dsimp only
    have fx := machRun_few (fuel := fuel) hs
    rw [if_pos hs, if_pos hs, if_pos fx, sameM_self]
    by_cases hx : (G.machRun p fuel).2.2.2.2.2.1 = 5
    · have hk : ¬ (G.keepOk p = true ∧ 0 ≤ fuel ∧ fuel ≤ 200) := fun hk => by
        have := run_code p fuel.toNat (m := G.zeroM) (by show (0 : Int) ≤ 4; omega)
        unfold G.machRun at hx
        rw [if_pos hk] at hx
        omega
      rw [if_neg (by decide), if_pos (decide_eq_true hx), if_pos hs]
      cases hkp : G.keepOk p with
      | false => simp
      | true =>
        have : fuel < 0 ∨ fuel > 200 := by
          rcases Int.lt_or_le fuel 0 with h | h
          · exact .inl h
          · right
            rcases Int.lt_or_le 200 fuel with h' | h'
            · exact h'
            · exact absurd ⟨hkp, h, h'⟩ hk
        by_cases hf : fuel < 0
        · simp [hf]
        · have : fuel > 200 := by omega
          simp [hf, this]
    · have hk := machRun_form hx
      obtain ⟨hk0, hk1, hk2⟩ := hk
      have hz := zero_machOk hs hk0
      have e0 : G.iterM p fuel.toNat (0, 0, 0, [], [], 0, ()) = G.machRun p fuel := by
        show G.iterM p fuel.toNat G.zeroM = _
        rw [iterM_run hs _ hz]
        unfold G.machRun
        rw [if_pos ⟨hk0, hk1, hk2⟩]
      have hit : G.itPre p fuel 0 (0, 0, 0, [], [], 0, ()) = true := itPre_iff.2 ⟨by omega, hs, by show G.fewMach G.zeroM = true; kernel_rfl⟩
      have hsx : (G.smallP p && G.fewMach (G.machRun p fuel)) = true := by rw [Bool.and_eq_true]; exact ⟨hs, fx⟩
      by_cases hf : fuel ≥ 200
      · simp [hx, hit, e0, fx, hf, sameM_self]
      · have e1 : IntKind.i64.wrap (fuel + 1) = fuel + 1 := w64 (by omega) (by omega)
        have fx1 := machRun_few (fuel := fuel + 1) hs
        have m1 : G.machRun p fuel = G.runM p fuel.toNat G.zeroM := by
          unfold G.machRun
          rw [if_pos ⟨hk0, hk1, hk2⟩]
        have m2 : G.machRun p (fuel + 1) = G.runM p (fuel.toNat + 1) G.zeroM := by
          unfold G.machRun
          rw [if_pos ⟨hk0, by omega, by omega⟩, show (fuel + 1).toNat = fuel.toNat + 1 by omega]
        have e2 : G.machRun p (fuel + 1) = G.mstep p (G.machRun p fuel) := by
          rw [m2, m1, runM_last]
          unfold G.mstep
          rw [if_pos (runM_machOk hs fuel.toNat hz)]
        rw [e2] at fx1
        simp [hx, hit, e0, fx, hf, sameM_self, e1, hs, hsx, e2, fx1]
theorem okLawMachRun : SpecOk Go.Proofs.Tryz.prog 4 spLawMachRun :=
  fun_okB (cx := cxLawMachRun) (F := Go.Proofs.Tryz.f4) (cxOk T0_ok T0_eq pg42_ok) mixed (by kernel_rfl) (by decide) (by kernel_rfl) (lps_of (l := [(0, loopIn Go.Proofs.Tryz.f4 0)]) (by kernel_rfl) ⟨lp_at lpItM rfl, trivial⟩) (fun x h => sfLawMachRun x.1 h)
end Go.Rx

/-
  DRAWS: programs.
-/
import Derived.Test.YtoagkidolpcigaaHg
namespace Go.Rx
open Go
set_option linter.unusedVariables false
set_option linter.unusedSimpArgs false
theorem walk_all (us : Units) (P : Fun → Prop) (hP : ∀ u ∈ us, ∀ f ∈ u.1, P f) : ∀ (n : Nat) (names : Strs) (out : Funs) (i : Nat), (∀ f ∈ out, P f) → ∀ f ∈ (G.walk us n names out i).1, P f
  | 0, _, out, _, h => h
  | n + 1, names, out, i, h => by
    rw [walk_succ]
    split
    · split
      · rename_i ho
        refine walk_all us P hP n _ _ _ fun f hf => ?_
        rcases List.mem_append.1 hf with hf | hf
        · exact h f hf
        · rw [List.mem_singleton] at hf
          subst hf
          obtain ⟨g1, g2, g3, g4, g5⟩ := at3_ok ho
          have hx : (G.at3 us (G.sAt names i)).1.toNat < us.length := by omega
          have hy : (G.at3 us (G.sAt names i)).2.1.toNat < (G.unitAt us (G.at3 us (G.sAt names i)).1.toNat).length := by omega
          unfold G.pAt
          rw [getD_lt _ _ hy]
          refine hP (us[(G.at3 us (G.sAt names i)).1.toNat]) (List.getElem_mem hx) _ ?_
          have e : G.unitAt us (G.at3 us (G.sAt names i)).1.toNat = (us[(G.at3 us (G.sAt names i)).1.toNat]).1 := by
            unfold G.unitAt
            rw [getD_lt _ _ hx]
          rw [← e]
          exact List.getElem_mem hy
      · exact h
    · exact h
theorem walk_len (us : Units) : ∀ (n : Nat) (names : Strs) (out : Funs) (i : Nat), out.length ≤ (G.walk us n names out i).1.length ∧ (G.walk us n names out i).1.length ≤ out.length + n
  | 0, _, out, _ => ⟨Nat.le_refl _, by show out.length ≤ _; omega⟩
  | n + 1, names, out, i => by
    rw [walk_succ]
    split
    · split
      · have := walk_len us n (G.addAll (G.refsOf (G.pAt (G.unitAt us (G.at3 us (G.sAt names i)).1.toNat) (G.at3 us (G.sAt names i)).2.1.toNat).2.2.1) names) (out ++ [G.pAt (G.unitAt us (G.at3 us (G.sAt names i)).1.toNat) (G.at3 us (G.sAt names i)).2.1.toNat]) (i + 1)
        rw [List.length_append, List.length_singleton] at this
        omega
      · exact ⟨Nat.le_refl _, by show out.length ≤ _; omega⟩
    · exact ⟨Nat.le_refl _, by show out.length ≤ _; omega⟩
theorem walkF_head (us : Units) (e : ByteArray) (h : (G.walkF us e).2 = true) : 1 ≤ (G.walkF us e).1.length := by
  unfold G.walkF G.walkX at h ⊢
  rw [show G.total us + 1 - 0 = G.total us + 1 by omega] at h ⊢
  rw [walk_succ] at h ⊢
  rw [if_pos (by simp)] at h ⊢
  split at h
  · rename_i ho
    rw [if_pos ho]
    have := (walk_len us (G.total us) (G.addAll (G.refsOf (G.pAt (G.unitAt us (G.at3 us (G.sAt [(e, ())] 0)).1.toNat) (G.at3 us (G.sAt [(e, ())] 0)).2.1.toNat).2.2.1) [(e, ())]) ([] ++ [G.pAt (G.unitAt us (G.at3 us (G.sAt [(e, ())] 0)).1.toNat) (G.at3 us (G.sAt [(e, ())] 0)).2.1.toNat]) (0 + 1)).1
    simpa using this
  · cases h
theorem total_le {us : Units} {n : Nat} (h : ∀ u ∈ us, u.1.length ≤ n) : G.total us ≤ n * us.length := by
  unfold G.total
  induction us with
  | nil => simp
  | cons u us ih =>
    have h1 := h u (List.mem_cons_self ..)
    have h2 := ih fun v hv => h v (List.mem_cons_of_mem _ hv)
    simp only [List.map_cons, List.sum_cons, List.length_cons]
    rw [Nat.mul_add, Nat.mul_one]
    omega
theorem unitsD_thin {n : Nat} {us : Units} (h : G.unitsD n us = true) (hn : n ≤ 1000) : G.thinU us = true := by
  obtain ⟨h1, h2⟩ := unitsD_iff.1 h
  refine thinU_iff.2 ⟨⟨unitsD_few h hn, ?_⟩, ?_⟩
  · rw [List.all_eq_true]
    intro u hu
    rw [List.all_eq_true]
    intro f hf
    have := (h2 u hu).2
    unfold G.funsD at this
    rw [List.all_eq_true] at this
    have := (funD_iff _).1 (this f hf)
    exact decide_eq_true (by omega)
  · have := total_le fun u hu => (h2 u hu).1
    omega
/-! programs -/
abbrev G.bMain : ByteArray := G.B [109, 97, 105, 110]
/-! L4Prog -/
noncomputable abbrev cxL4Prog : Cx := mkCx T0 pd12 [] [] 25
noncomputable def G.dL4Prog (x : PKs.den [RdP]) : RK.den (.one FunsO) × Bxs.den [RdP] := G.val (funK cxL4Prog Go.Proofs.Try.f77 [RdP] (.one FunsO) x)
noncomputable abbrev spL4Prog : Spec := ⟨[RdP], .one FunsO, true, fun x => G.rd 500000 x.1, fun x => G.dL4Prog x⟩
theorem eL4Prog (s : RdS) : funK cxL4Prog Go.Proofs.Try.f77 [RdP] (.one FunsO) (s, ()) =
  (if (Go.Rx.G.rd (860000 : Int) s && Decidable.decide ((0 : Int) ≤ (3 : Int) ∧ (3 : Int) ≤ (9 : Int))) = Bool.true then
    if (Decidable.decide (List.length (Go.Rx.G.dL3Units (s, (3 : Int), PUnit.unit)).1 ≤ (100 : Nat)) && List.all (Go.Rx.G.dL3Units (s, (3 : Int), PUnit.unit)).1 Go.Rx.G.unitD) = Bool.true then
      if
          (Go.Rx.G.rd (600000 : Int) (Go.Rx.G.dL3Units (s, (3 : Int), PUnit.unit)).2.1 &&
              (Go.Rx.G.unitsD (60 : Nat) (Go.Rx.G.dL3Thin ((Go.Rx.G.dL3Units (s, (3 : Int), PUnit.unit)).1, PUnit.unit)).1 &&
                Go.Rx.G.nm
                  (Go.Rx.G.B [109, 97, 105, 110]))) =
            Bool.true then
        if
            Go.Rx.G.thinU
                (Go.Rx.G.dL4Close
                    ((Go.Rx.G.dL3Units (s, (3 : Int), PUnit.unit)).2.1, (Go.Rx.G.dL3Thin ((Go.Rx.G.dL3Units (s, (3 : Int), PUnit.unit)).1, PUnit.unit)).1,
                      (Go.Rx.G.B [109, 97, 105, 110]),
                      PUnit.unit)).1 =
              Bool.true then
          if
              (!(Go.Rx.G.walkF
                      (Go.Rx.G.dL4Close
                          ((Go.Rx.G.dL3Units (s, (3 : Int), PUnit.unit)).2.1, (Go.Rx.G.dL3Thin ((Go.Rx.G.dL3Units (s, (3 : Int), PUnit.unit)).1, PUnit.unit)).1,
                            (Go.Rx.G.B [109, 97, 105, 110]),
                            PUnit.unit)).1
                      (Go.Rx.G.B [109, 97, 105, 110])).2) =
                Bool.true then
            Option.some
              ([((Go.Rx.G.B [109, 97, 105, 110]),
                    Bool.false, [((2 : Int), (1 : Int), ByteArray.empty, PUnit.unit), ((1 : Int), (0 : Int), ByteArray.empty, PUnit.unit), ((7 : Int), (0 : Int), ByteArray.empty, PUnit.unit)], PUnit.unit)],
                (Go.Rx.G.dL4Close
                    ((Go.Rx.G.dL3Units (s, (3 : Int), PUnit.unit)).2.1, (Go.Rx.G.dL3Thin ((Go.Rx.G.dL3Units (s, (3 : Int), PUnit.unit)).1, PUnit.unit)).1,
                      (Go.Rx.G.B [109, 97, 105, 110]),
                      PUnit.unit)).2)
          else
            Option.some
              (if
                    (Go.Rx.G.walkF
                          (Go.Rx.G.dL4Close
                              ((Go.Rx.G.dL3Units (s, (3 : Int), PUnit.unit)).2.1, (Go.Rx.G.dL3Thin ((Go.Rx.G.dL3Units (s, (3 : Int), PUnit.unit)).1, PUnit.unit)).1,
                                (Go.Rx.G.B [109, 97, 105, 110]),
                                PUnit.unit)).1
                          (Go.Rx.G.B [109, 97, 105, 110])).2 =
                      Bool.true then
                  (Go.Rx.G.walkF
                      (Go.Rx.G.dL4Close
                          ((Go.Rx.G.dL3Units (s, (3 : Int), PUnit.unit)).2.1, (Go.Rx.G.dL3Thin ((Go.Rx.G.dL3Units (s, (3 : Int), PUnit.unit)).1, PUnit.unit)).1,
                            (Go.Rx.G.B [109, 97, 105, 110]),
                            PUnit.unit)).1
                      (Go.Rx.G.B [109, 97, 105, 110])).1
                else [],
                (Go.Rx.G.dL4Close
                    ((Go.Rx.G.dL3Units (s, (3 : Int), PUnit.unit)).2.1, (Go.Rx.G.dL3Thin ((Go.Rx.G.dL3Units (s, (3 : Int), PUnit.unit)).1, PUnit.unit)).1,
                      (Go.Rx.G.B [109, 97, 105, 110]),
                      PUnit.unit)).2)
        else Option.none
      else Option.none
    else Option.none
  else Option.none) := by kernel_rfl
def ProgPost (x : PKs.den [RdP]) (r : RK.den (.one FunsO) × Bxs.den [RdP]) : Prop := Adv 5000 x.1 r.2.1 ∧ (1 ≤ r.1.length ∧ r.1.length ≤ 300) ∧ G.funsD r.1 = true
theorem walk_prog {us : Units} (h : G.unitsD 67 us = true) {e : ByteArray} (hw : (G.walkF us e).2 = true) : (1 ≤ (G.walkF us e).1.length ∧ (G.walkF us e).1.length ≤ 300) ∧ G.funsD (G.walkF us e).1 = true := by
  obtain ⟨u1, u2⟩ := unitsD_iff.1 h
  have hh := walkF_head _ _ hw
  have hl2 := (walk_len us (G.total us + 1 - 0) [(e, ())] [] 0).2
  have hl2 : (G.walkF us e).1.length ≤ 0 + (G.total us + 1 - 0) := hl2
  have ht := total_le fun u hu => (u2 u hu).1
  have hall := walk_all us (fun f => G.funD f = true) (fun u hu f hf => by
    have := (u2 u hu).2
    unfold G.funsD at this
    rw [List.all_eq_true] at this
    exact this f hf) (G.total us + 1 - 0) [(e, ())] [] 0 (fun f hf => by cases hf)
  refine ⟨⟨hh, by omega⟩, ?_⟩
  unfold G.funsD
  rw [List.all_eq_true]
  exact hall
theorem nm_main : G.nm (G.B [109, 97, 105, 110]) = true := by decide +kernel
theorem sfL4Prog (s : RdS) (h : G.rd 500000 s = true) : ∃ r, funK cxL4Prog Go.Proofs.Try.f77 [RdP] (.one FunsO) (s, ()) = some r ∧ ProgPost (s, ()) r := by
  have h1 : (G.rd 860000 s && decide ((0 : Int) ≤ 3 ∧ (3 : Int) ≤ 9)) = true := by
    rw [Bool.and_eq_true]
    exact ⟨rd_le h (by omega), by decide⟩
  obtain ⟨_, p1, p2⟩ := postL3Units (s, 3, ()) h1
  rw [eL4Prog, if_pos h1]
  clear h1
  generalize G.dL3Units (s, 3, ()) = q1 at p1 p2 ⊢
  have p2 : G.unitsD 3 q1.1 = true := p2
  have h2 : (decide (q1.1.length ≤ 100) && q1.1.all G.unitD) = true := by
    rw [Bool.and_eq_true, decide_eq_true_iff]
    unfold G.unitsD at p2
    rw [Bool.and_eq_true, decide_eq_true_iff] at p2
    exact ⟨by omega, p2.2⟩
  obtain ⟨_, a1⟩ := postL3Thin (q1.1, ()) h2
  rw [if_pos h2]
  have hl : q1.1.length ≤ 3 := (unitsD_iff.1 p2).1
  have a1 : G.unitsD q1.1.length (G.dL3Thin (q1.1, ())).1 = true := a1
  generalize (G.dL3Thin (q1.1, ())).1 = ts at a1 ⊢
  have a1 : G.unitsD 60 ts = true := unitsD_le a1 (by omega)
  have r1 : G.rd 600000 q1.2.1 = true := rd_le (p1.rd h) (by omega)
  have hm := nm_main
  generalize G.B [109, 97, 105, 110] = e at hm ⊢
  have h3 : (G.rd 600000 q1.2.1 && (G.unitsD 60 ts && G.nm e)) = true := by
    rw [Bool.and_eq_true, Bool.and_eq_true]
    exact ⟨r1, a1, hm⟩
  obtain ⟨_, b1, b2⟩ := postL4Close (q1.2.1, ts, e, ()) h3
  rw [if_pos h3]
  generalize G.dL4Close (q1.2.1, ts, e, ()) = q2 at b1 b2 ⊢
  have b2 : G.unitsD 67 q2.1 = true := b2
  have h4 : G.thinU q2.1 = true := unitsD_thin b2 (by omega)
  have adv : Adv 5000 s q2.2.1 := (p1.trans b1).le (by omega)
  rw [if_pos h4]
  cases hw : (G.walkF q2.1 e).2 with
  | true =>
    obtain ⟨w1, w2⟩ := walk_prog b2 hw
    exact ⟨_, rfl, adv, w1, w2⟩
  | false => exact ⟨_, rfl, adv, ⟨by show 1 ≤ 1; omega, by show 1 ≤ 300; omega⟩, by
    show G.funsD [(e, false, [((2 : Int), (1 : Int), ByteArray.empty, ()), ((1 : Int), (0 : Int), ByteArray.empty, ()), ((7 : Int), (0 : Int), ByteArray.empty, ())], ())] = true
    unfold G.funsD
    simp only [List.all_cons, List.all_nil, Bool.and_true]
    exact (funD_iff _).2 ⟨hm, ⟨by show 1 ≤ 3; omega, by show 3 ≤ 8; omega⟩, by kernel_rfl⟩⟩
theorem postL4Prog (x : PKs.den [RdP]) (h : (G.rd 500000 x.1) = true) : funK cxL4Prog Go.Proofs.Try.f77 [RdP] (.one FunsO) x = some (G.dL4Prog x) ∧ ProgPost x (G.dL4Prog x) := val_of (sfL4Prog x.1 h)
theorem okL4Prog : SpecOk Go.Proofs.Try.prog 77 spL4Prog :=
  fun_okB (cx := cxL4Prog) (F := Go.Proofs.Try.f77) (cxOk T0_ok T0_eq pd12_ok) mixed (by kernel_rfl) (by decide) (by kernel_rfl) (lps_none (by kernel_rfl)) (fun x h => (postL4Prog x h).1)
noncomputable abbrev pd13 : List (Nat × List Spec) := (77, [spL4Prog]) :: pd12
theorem pd13_ok : PhiOk Go.Proofs.Try.prog pd13 := ⟨⟨okL4Prog, trivial⟩, pd12_ok⟩
/-! L4Bent -/
noncomputable abbrev cxL4Bent : Cx := mkCx T0 pd13 [] [46] 53
noncomputable def G.dL4Bent (x : PKs.den [RdP]) : RK.den (.one FunsO) × Bxs.den [RdP] := G.val (funK cxL4Bent Go.Proofs.Try.f36 [RdP] (.one FunsO) x)
noncomputable abbrev spL4Bent : Spec := ⟨[RdP], .one FunsO, true, fun x => G.rd 400000 x.1, fun x => G.dL4Bent x⟩
theorem eL4Bent (s : RdS) : funK cxL4Bent Go.Proofs.Try.f36 [RdP] (.one FunsO) (s, ()) =
  (if Go.Rx.G.rd (500000 : Int) s = Bool.true then
    if Go.Rx.G.rd (1000000 : Int) (Go.Rx.G.dL4Prog (s, PUnit.unit)).2.1 = Bool.true then
      if Decidable.decide ((Go.Rx.G.dPick ((Go.Rx.G.dL4Prog (s, PUnit.unit)).2.1, (3 : Int), PUnit.unit)).1 = (0 : Int)) = Bool.true then
        if Go.Rx.G.few (List.length (Go.Rx.G.dL4Prog (s, PUnit.unit)).1) = Bool.true then
          if
              Decidable.decide
                  (Go.Rx.G.find (Go.Rx.G.dL4Prog (s, PUnit.unit)).1
                      (Go.Rx.G.B [122, 122]) <
                    (0 : Int)) =
                Bool.true then
            if Decidable.decide ((0 : Int) ≤ (0 : Int)) = Bool.true then
              if Decidable.decide ((0 : Int) < (↑(List.length (Go.Rx.G.dL4Prog (s, PUnit.unit)).1) : Int)) = Bool.true then
                if Decidable.decide (Int.toNat (0 : Int) < List.length (Go.Rx.G.dL4Prog (s, PUnit.unit)).1) = Bool.true then
                  if Go.Rx.okSize (48 : Nat) (List.length (Go.Rx.G.dL4Prog (s, PUnit.unit)).1 + (1 : Nat)) = Bool.true then
                    if Go.Rx.G.rd (1000000 : Int) (Go.Rx.G.dPick ((Go.Rx.G.dL4Prog (s, PUnit.unit)).2.1, (3 : Int), PUnit.unit)).2.1 = Bool.true then
                      if Decidable.decide ((Go.Rx.G.dPick ((Go.Rx.G.dPick ((Go.Rx.G.dL4Prog (s, PUnit.unit)).2.1, (3 : Int), PUnit.unit)).2.1, (40 : Int), PUnit.unit)).1 = (0 : Int)) = Bool.true then
                        if
                            Go.Rx.okSize (48 : Nat)
                                (List.length
                                    ((Go.Rx.G.dL4Prog (s, PUnit.unit)).1 ++
                                      [((Go.Rx.G.B [122, 122]),
                                          Bool.false,
                                          [((3 : Int), (0 : Int), (List.getD (Go.Rx.G.dL4Prog (s, PUnit.unit)).1 (Int.toNat (0 : Int)) (ByteArray.empty, Bool.false, [], PUnit.unit)).1, PUnit.unit),
                                            ((6 : Int), (0 : Int), ByteArray.empty, PUnit.unit)],
                                          PUnit.unit)]) +
                                  (1 : Nat)) =
                              Bool.true then
                          Option.some
                            ((Go.Rx.G.dL4Prog (s, PUnit.unit)).1 ++
                                  [((Go.Rx.G.B [122, 122]),
                                      Bool.false,
                                      [((3 : Int), (0 : Int), (List.getD (Go.Rx.G.dL4Prog (s, PUnit.unit)).1 (Int.toNat (0 : Int)) (ByteArray.empty, Bool.false, [], PUnit.unit)).1, PUnit.unit),
                                        ((6 : Int), (0 : Int), ByteArray.empty, PUnit.unit)],
                                      PUnit.unit)] ++
                                [((Go.Rx.G.B [122, 120]),
                                    Bool.false,
                                    [((4 : Int), (0 : Int),
                                        (Go.Rx.G.B [110, 111, 119, 104]),
                                        PUnit.unit)],
                                    PUnit.unit)],
                              (Go.Rx.G.dPick ((Go.Rx.G.dPick ((Go.Rx.G.dL4Prog (s, PUnit.unit)).2.1, (3 : Int), PUnit.unit)).2.1, (40 : Int), PUnit.unit)).2)
                        else Option.none
                      else
                        if Decidable.decide ((Go.Rx.G.dPick ((Go.Rx.G.dPick ((Go.Rx.G.dL4Prog (s, PUnit.unit)).2.1, (3 : Int), PUnit.unit)).2.1, (40 : Int), PUnit.unit)).1 = (1 : Int)) = Bool.true then
                          if Decidable.decide ((0 : Int) ≤ (0 : Int)) = Bool.true then
                            if
                                Decidable.decide
                                    ((0 : Int) <
                                      (↑(List.length
                                            ((Go.Rx.G.dL4Prog (s, PUnit.unit)).1 ++
                                              [((Go.Rx.G.B [122, 122]),
                                                  Bool.false,
                                                  [((3 : Int), (0 : Int), (List.getD (Go.Rx.G.dL4Prog (s, PUnit.unit)).1 (Int.toNat (0 : Int)) (ByteArray.empty, Bool.false, [], PUnit.unit)).1, PUnit.unit),
                                                    ((6 : Int), (0 : Int), ByteArray.empty, PUnit.unit)],
                                                  PUnit.unit)])) :
                                        Int)) =
                                  Bool.true then
                              if
                                  Decidable.decide
                                      (Int.toNat (0 : Int) <
                                        List.length
                                          ((Go.Rx.G.dL4Prog (s, PUnit.unit)).1 ++
                                            [((Go.Rx.G.B [122, 122]),
                                                Bool.false,
                                                [((3 : Int), (0 : Int), (List.getD (Go.Rx.G.dL4Prog (s, PUnit.unit)).1 (Int.toNat (0 : Int)) (ByteArray.empty, Bool.false, [], PUnit.unit)).1, PUnit.unit),
                                                  ((6 : Int), (0 : Int), ByteArray.empty, PUnit.unit)],
                                                PUnit.unit)])) =
                                    Bool.true then
                                if
                                    Go.Rx.okSize (48 : Nat)
                                        (List.length
                                            ((Go.Rx.G.dL4Prog (s, PUnit.unit)).1 ++
                                              [((Go.Rx.G.B [122, 122]),
                                                  Bool.false,
                                                  [((3 : Int), (0 : Int), (List.getD (Go.Rx.G.dL4Prog (s, PUnit.unit)).1 (Int.toNat (0 : Int)) (ByteArray.empty, Bool.false, [], PUnit.unit)).1, PUnit.unit),
                                                    ((6 : Int), (0 : Int), ByteArray.empty, PUnit.unit)],
                                                  PUnit.unit)]) +
                                          (1 : Nat)) =
                                      Bool.true then
                                  Option.some
                                    ((Go.Rx.G.dL4Prog (s, PUnit.unit)).1 ++
                                          [((Go.Rx.G.B [122, 122]),
                                              Bool.false,
                                              [((3 : Int), (0 : Int), (List.getD (Go.Rx.G.dL4Prog (s, PUnit.unit)).1 (Int.toNat (0 : Int)) (ByteArray.empty, Bool.false, [], PUnit.unit)).1, PUnit.unit),
                                                ((6 : Int), (0 : Int), ByteArray.empty, PUnit.unit)],
                                              PUnit.unit)] ++
                                        [List.getD
                                            ((Go.Rx.G.dL4Prog (s, PUnit.unit)).1 ++
                                              [((Go.Rx.G.B [122, 122]),
                                                  Bool.false,
                                                  [((3 : Int), (0 : Int), (List.getD (Go.Rx.G.dL4Prog (s, PUnit.unit)).1 (Int.toNat (0 : Int)) (ByteArray.empty, Bool.false, [], PUnit.unit)).1, PUnit.unit),
                                                    ((6 : Int), (0 : Int), ByteArray.empty, PUnit.unit)],
                                                  PUnit.unit)])
                                            (Int.toNat (0 : Int)) (ByteArray.empty, Bool.false, [], PUnit.unit)],
                                      (Go.Rx.G.dPick ((Go.Rx.G.dPick ((Go.Rx.G.dL4Prog (s, PUnit.unit)).2.1, (3 : Int), PUnit.unit)).2.1, (40 : Int), PUnit.unit)).2)
                                else Option.none
                              else Option.none
                            else Option.none
                          else Option.none
                        else
                          if Decidable.decide ((Go.Rx.G.dPick ((Go.Rx.G.dPick ((Go.Rx.G.dL4Prog (s, PUnit.unit)).2.1, (3 : Int), PUnit.unit)).2.1, (40 : Int), PUnit.unit)).1 = (2 : Int)) = Bool.true then
                            if Decidable.decide ((0 : Int) ≤ (0 : Int)) = Bool.true then
                              if
                                  Decidable.decide
                                      ((0 : Int) ≤
                                        (↑(List.length
                                              ((Go.Rx.G.dL4Prog (s, PUnit.unit)).1 ++
                                                [((Go.Rx.G.B [122, 122]),
                                                    Bool.false,
                                                    [((3 : Int), (0 : Int), (List.getD (Go.Rx.G.dL4Prog (s, PUnit.unit)).1 (Int.toNat (0 : Int)) (ByteArray.empty, Bool.false, [], PUnit.unit)).1, PUnit.unit),
                                                      ((6 : Int), (0 : Int), ByteArray.empty, PUnit.unit)],
                                                    PUnit.unit)])) :
                                          Int)) =
                                    Bool.true then
                                Option.some
                                  (List.take (Int.toNat (0 : Int))
                                      ((Go.Rx.G.dL4Prog (s, PUnit.unit)).1 ++
                                        [((Go.Rx.G.B [122, 122]),
                                            Bool.false,
                                            [((3 : Int), (0 : Int), (List.getD (Go.Rx.G.dL4Prog (s, PUnit.unit)).1 (Int.toNat (0 : Int)) (ByteArray.empty, Bool.false, [], PUnit.unit)).1, PUnit.unit),
                                              ((6 : Int), (0 : Int), ByteArray.empty, PUnit.unit)],
                                            PUnit.unit)]),
                                    (Go.Rx.G.dPick ((Go.Rx.G.dPick ((Go.Rx.G.dL4Prog (s, PUnit.unit)).2.1, (3 : Int), PUnit.unit)).2.1, (40 : Int), PUnit.unit)).2)
                              else Option.none
                            else Option.none
                          else
                            if Decidable.decide ((Go.Rx.G.dPick ((Go.Rx.G.dPick ((Go.Rx.G.dL4Prog (s, PUnit.unit)).2.1, (3 : Int), PUnit.unit)).2.1, (40 : Int), PUnit.unit)).1 = (3 : Int)) = Bool.true then
                              if Decidable.decide ((0 : Int) ≤ (0 : Int)) = Bool.true then
                                if
                                    Decidable.decide
                                        ((0 : Int) <
                                          (↑(List.length
                                                ((Go.Rx.G.dL4Prog (s, PUnit.unit)).1 ++
                                                  [((Go.Rx.G.B [122, 122]),
                                                      Bool.false,
                                                      [((3 : Int), (0 : Int), (List.getD (Go.Rx.G.dL4Prog (s, PUnit.unit)).1 (Int.toNat (0 : Int)) (ByteArray.empty, Bool.false, [], PUnit.unit)).1, PUnit.unit),
                                                        ((6 : Int), (0 : Int), ByteArray.empty, PUnit.unit)],
                                                      PUnit.unit)])) :
                                            Int)) =
                                      Bool.true then
                                  if
                                      Decidable.decide
                                          (Int.toNat (0 : Int) <
                                            List.length
                                              ((Go.Rx.G.dL4Prog (s, PUnit.unit)).1 ++
                                                [((Go.Rx.G.B [122, 122]),
                                                    Bool.false,
                                                    [((3 : Int), (0 : Int), (List.getD (Go.Rx.G.dL4Prog (s, PUnit.unit)).1 (Int.toNat (0 : Int)) (ByteArray.empty, Bool.false, [], PUnit.unit)).1, PUnit.unit),
                                                      ((6 : Int), (0 : Int), ByteArray.empty, PUnit.unit)],
                                                    PUnit.unit)])) =
                                        Bool.true then
                                    Option.some
                                      (List.set
                                          ((Go.Rx.G.dL4Prog (s, PUnit.unit)).1 ++
                                            [((Go.Rx.G.B [122, 122]),
                                                Bool.false,
                                                [((3 : Int), (0 : Int), (List.getD (Go.Rx.G.dL4Prog (s, PUnit.unit)).1 (Int.toNat (0 : Int)) (ByteArray.empty, Bool.false, [], PUnit.unit)).1, PUnit.unit),
                                                  ((6 : Int), (0 : Int), ByteArray.empty, PUnit.unit)],
                                                PUnit.unit)])
                                          (Int.toNat (0 : Int))
                                          ((List.getD
                                                ((Go.Rx.G.dL4Prog (s, PUnit.unit)).1 ++
                                                  [((Go.Rx.G.B [122, 122]),
                                                      Bool.false,
                                                      [((3 : Int), (0 : Int), (List.getD (Go.Rx.G.dL4Prog (s, PUnit.unit)).1 (Int.toNat (0 : Int)) (ByteArray.empty, Bool.false, [], PUnit.unit)).1, PUnit.unit),
                                                        ((6 : Int), (0 : Int), ByteArray.empty, PUnit.unit)],
                                                      PUnit.unit)])
                                                (Int.toNat (0 : Int)) (ByteArray.empty, Bool.false, [], PUnit.unit)).1,
                                            (List.getD
                                                  ((Go.Rx.G.dL4Prog (s, PUnit.unit)).1 ++
                                                    [((Go.Rx.G.B [122, 122]),
                                                        Bool.false,
                                                        [((3 : Int), (0 : Int), (List.getD (Go.Rx.G.dL4Prog (s, PUnit.unit)).1 (Int.toNat (0 : Int)) (ByteArray.empty, Bool.false, [], PUnit.unit)).1, PUnit.unit),
                                                          ((6 : Int), (0 : Int), ByteArray.empty, PUnit.unit)],
                                                        PUnit.unit)])
                                                  (Int.toNat (0 : Int)) (ByteArray.empty, Bool.false, [], PUnit.unit)).2.1,
                                            [],
                                            (List.getD
                                                    ((Go.Rx.G.dL4Prog (s, PUnit.unit)).1 ++
                                                      [((Go.Rx.G.B [122, 122]),
                                                          Bool.false,
                                                          [((3 : Int), (0 : Int), (List.getD (Go.Rx.G.dL4Prog (s, PUnit.unit)).1 (Int.toNat (0 : Int)) (ByteArray.empty, Bool.false, [], PUnit.unit)).1, PUnit.unit),
                                                            ((6 : Int), (0 : Int), ByteArray.empty, PUnit.unit)],
                                                          PUnit.unit)])
                                                    (Int.toNat (0 : Int)) (ByteArray.empty, Bool.false, [], PUnit.unit)).2.2.2),
                                        (Go.Rx.G.dPick ((Go.Rx.G.dPick ((Go.Rx.G.dL4Prog (s, PUnit.unit)).2.1, (3 : Int), PUnit.unit)).2.1, (40 : Int), PUnit.unit)).2)
                                  else Option.none
                                else Option.none
                              else Option.none
                            else
                              Option.some
                                ((Go.Rx.G.dL4Prog (s, PUnit.unit)).1 ++
                                    [((Go.Rx.G.B [122, 122]),
                                        Bool.false,
                                        [((3 : Int), (0 : Int), (List.getD (Go.Rx.G.dL4Prog (s, PUnit.unit)).1 (Int.toNat (0 : Int)) (ByteArray.empty, Bool.false, [], PUnit.unit)).1, PUnit.unit),
                                          ((6 : Int), (0 : Int), ByteArray.empty, PUnit.unit)],
                                        PUnit.unit)],
                                  (Go.Rx.G.dPick ((Go.Rx.G.dPick ((Go.Rx.G.dL4Prog (s, PUnit.unit)).2.1, (3 : Int), PUnit.unit)).2.1, (40 : Int), PUnit.unit)).2)
                    else Option.none
                  else Option.none
                else Option.none
              else Option.none
            else Option.none
          else
            if Go.Rx.G.rd (1000000 : Int) (Go.Rx.G.dPick ((Go.Rx.G.dL4Prog (s, PUnit.unit)).2.1, (3 : Int), PUnit.unit)).2.1 = Bool.true then
              if Decidable.decide ((Go.Rx.G.dPick ((Go.Rx.G.dPick ((Go.Rx.G.dL4Prog (s, PUnit.unit)).2.1, (3 : Int), PUnit.unit)).2.1, (40 : Int), PUnit.unit)).1 = (0 : Int)) = Bool.true then
                if Go.Rx.okSize (48 : Nat) (List.length (Go.Rx.G.dL4Prog (s, PUnit.unit)).1 + (1 : Nat)) = Bool.true then
                  Option.some
                    ((Go.Rx.G.dL4Prog (s, PUnit.unit)).1 ++
                        [((Go.Rx.G.B [122, 120]),
                            Bool.false,
                            [((4 : Int), (0 : Int),
                                (Go.Rx.G.B [110, 111, 119, 104]),
                                PUnit.unit)],
                            PUnit.unit)],
                      (Go.Rx.G.dPick ((Go.Rx.G.dPick ((Go.Rx.G.dL4Prog (s, PUnit.unit)).2.1, (3 : Int), PUnit.unit)).2.1, (40 : Int), PUnit.unit)).2)
                else Option.none
              else
                if Decidable.decide ((Go.Rx.G.dPick ((Go.Rx.G.dPick ((Go.Rx.G.dL4Prog (s, PUnit.unit)).2.1, (3 : Int), PUnit.unit)).2.1, (40 : Int), PUnit.unit)).1 = (1 : Int)) = Bool.true then
                  if Decidable.decide ((0 : Int) ≤ (0 : Int)) = Bool.true then
                    if Decidable.decide ((0 : Int) < (↑(List.length (Go.Rx.G.dL4Prog (s, PUnit.unit)).1) : Int)) = Bool.true then
                      if Decidable.decide (Int.toNat (0 : Int) < List.length (Go.Rx.G.dL4Prog (s, PUnit.unit)).1) = Bool.true then
                        if Go.Rx.okSize (48 : Nat) (List.length (Go.Rx.G.dL4Prog (s, PUnit.unit)).1 + (1 : Nat)) = Bool.true then
                          Option.some
                            ((Go.Rx.G.dL4Prog (s, PUnit.unit)).1 ++ [List.getD (Go.Rx.G.dL4Prog (s, PUnit.unit)).1 (Int.toNat (0 : Int)) (ByteArray.empty, Bool.false, [], PUnit.unit)],
                              (Go.Rx.G.dPick ((Go.Rx.G.dPick ((Go.Rx.G.dL4Prog (s, PUnit.unit)).2.1, (3 : Int), PUnit.unit)).2.1, (40 : Int), PUnit.unit)).2)
                        else Option.none
                      else Option.none
                    else Option.none
                  else Option.none
                else
                  if Decidable.decide ((Go.Rx.G.dPick ((Go.Rx.G.dPick ((Go.Rx.G.dL4Prog (s, PUnit.unit)).2.1, (3 : Int), PUnit.unit)).2.1, (40 : Int), PUnit.unit)).1 = (2 : Int)) = Bool.true then
                    if Decidable.decide ((0 : Int) ≤ (0 : Int)) = Bool.true then
                      if Decidable.decide ((0 : Int) ≤ (↑(List.length (Go.Rx.G.dL4Prog (s, PUnit.unit)).1) : Int)) = Bool.true then
                        Option.some
                          (List.take (Int.toNat (0 : Int)) (Go.Rx.G.dL4Prog (s, PUnit.unit)).1,
                            (Go.Rx.G.dPick ((Go.Rx.G.dPick ((Go.Rx.G.dL4Prog (s, PUnit.unit)).2.1, (3 : Int), PUnit.unit)).2.1, (40 : Int), PUnit.unit)).2)
                      else Option.none
                    else Option.none
                  else
                    if Decidable.decide ((Go.Rx.G.dPick ((Go.Rx.G.dPick ((Go.Rx.G.dL4Prog (s, PUnit.unit)).2.1, (3 : Int), PUnit.unit)).2.1, (40 : Int), PUnit.unit)).1 = (3 : Int)) = Bool.true then
                      if Decidable.decide ((0 : Int) ≤ (0 : Int)) = Bool.true then
                        if Decidable.decide ((0 : Int) < (↑(List.length (Go.Rx.G.dL4Prog (s, PUnit.unit)).1) : Int)) = Bool.true then
                          if Decidable.decide (Int.toNat (0 : Int) < List.length (Go.Rx.G.dL4Prog (s, PUnit.unit)).1) = Bool.true then
                            Option.some
                              (List.set (Go.Rx.G.dL4Prog (s, PUnit.unit)).1 (Int.toNat (0 : Int))
                                  ((List.getD (Go.Rx.G.dL4Prog (s, PUnit.unit)).1 (Int.toNat (0 : Int)) (ByteArray.empty, Bool.false, [], PUnit.unit)).1,
                                    (List.getD (Go.Rx.G.dL4Prog (s, PUnit.unit)).1 (Int.toNat (0 : Int)) (ByteArray.empty, Bool.false, [], PUnit.unit)).2.1, [],
                                    (List.getD (Go.Rx.G.dL4Prog (s, PUnit.unit)).1 (Int.toNat (0 : Int)) (ByteArray.empty, Bool.false, [], PUnit.unit)).2.2.2),
                                (Go.Rx.G.dPick ((Go.Rx.G.dPick ((Go.Rx.G.dL4Prog (s, PUnit.unit)).2.1, (3 : Int), PUnit.unit)).2.1, (40 : Int), PUnit.unit)).2)
                          else Option.none
                        else Option.none
                      else Option.none
                    else Option.some ((Go.Rx.G.dL4Prog (s, PUnit.unit)).1, (Go.Rx.G.dPick ((Go.Rx.G.dPick ((Go.Rx.G.dL4Prog (s, PUnit.unit)).2.1, (3 : Int), PUnit.unit)).2.1, (40 : Int), PUnit.unit)).2)
            else Option.none
        else Option.none
      else
        if Go.Rx.G.rd (1000000 : Int) (Go.Rx.G.dPick ((Go.Rx.G.dL4Prog (s, PUnit.unit)).2.1, (3 : Int), PUnit.unit)).2.1 = Bool.true then
          if Decidable.decide ((Go.Rx.G.dPick ((Go.Rx.G.dPick ((Go.Rx.G.dL4Prog (s, PUnit.unit)).2.1, (3 : Int), PUnit.unit)).2.1, (40 : Int), PUnit.unit)).1 = (0 : Int)) = Bool.true then
            if Go.Rx.okSize (48 : Nat) (List.length (Go.Rx.G.dL4Prog (s, PUnit.unit)).1 + (1 : Nat)) = Bool.true then
              Option.some
                ((Go.Rx.G.dL4Prog (s, PUnit.unit)).1 ++
                    [((Go.Rx.G.B [122, 120]),
                        Bool.false,
                        [((4 : Int), (0 : Int),
                            (Go.Rx.G.B [110, 111, 119, 104]),
                            PUnit.unit)],
                        PUnit.unit)],
                  (Go.Rx.G.dPick ((Go.Rx.G.dPick ((Go.Rx.G.dL4Prog (s, PUnit.unit)).2.1, (3 : Int), PUnit.unit)).2.1, (40 : Int), PUnit.unit)).2)
            else Option.none
          else
            if Decidable.decide ((Go.Rx.G.dPick ((Go.Rx.G.dPick ((Go.Rx.G.dL4Prog (s, PUnit.unit)).2.1, (3 : Int), PUnit.unit)).2.1, (40 : Int), PUnit.unit)).1 = (1 : Int)) = Bool.true then
              if Decidable.decide ((0 : Int) ≤ (0 : Int)) = Bool.true then
                if Decidable.decide ((0 : Int) < (↑(List.length (Go.Rx.G.dL4Prog (s, PUnit.unit)).1) : Int)) = Bool.true then
                  if Decidable.decide (Int.toNat (0 : Int) < List.length (Go.Rx.G.dL4Prog (s, PUnit.unit)).1) = Bool.true then
                    if Go.Rx.okSize (48 : Nat) (List.length (Go.Rx.G.dL4Prog (s, PUnit.unit)).1 + (1 : Nat)) = Bool.true then
                      Option.some
                        ((Go.Rx.G.dL4Prog (s, PUnit.unit)).1 ++ [List.getD (Go.Rx.G.dL4Prog (s, PUnit.unit)).1 (Int.toNat (0 : Int)) (ByteArray.empty, Bool.false, [], PUnit.unit)],
                          (Go.Rx.G.dPick ((Go.Rx.G.dPick ((Go.Rx.G.dL4Prog (s, PUnit.unit)).2.1, (3 : Int), PUnit.unit)).2.1, (40 : Int), PUnit.unit)).2)
                    else Option.none
                  else Option.none
                else Option.none
              else Option.none
            else
              if Decidable.decide ((Go.Rx.G.dPick ((Go.Rx.G.dPick ((Go.Rx.G.dL4Prog (s, PUnit.unit)).2.1, (3 : Int), PUnit.unit)).2.1, (40 : Int), PUnit.unit)).1 = (2 : Int)) = Bool.true then
                if Decidable.decide ((0 : Int) ≤ (0 : Int)) = Bool.true then
                  if Decidable.decide ((0 : Int) ≤ (↑(List.length (Go.Rx.G.dL4Prog (s, PUnit.unit)).1) : Int)) = Bool.true then
                    Option.some
                      (List.take (Int.toNat (0 : Int)) (Go.Rx.G.dL4Prog (s, PUnit.unit)).1,
                        (Go.Rx.G.dPick ((Go.Rx.G.dPick ((Go.Rx.G.dL4Prog (s, PUnit.unit)).2.1, (3 : Int), PUnit.unit)).2.1, (40 : Int), PUnit.unit)).2)
                  else Option.none
                else Option.none
              else
                if Decidable.decide ((Go.Rx.G.dPick ((Go.Rx.G.dPick ((Go.Rx.G.dL4Prog (s, PUnit.unit)).2.1, (3 : Int), PUnit.unit)).2.1, (40 : Int), PUnit.unit)).1 = (3 : Int)) = Bool.true then
                  if Decidable.decide ((0 : Int) ≤ (0 : Int)) = Bool.true then
                    if Decidable.decide ((0 : Int) < (↑(List.length (Go.Rx.G.dL4Prog (s, PUnit.unit)).1) : Int)) = Bool.true then
                      if Decidable.decide (Int.toNat (0 : Int) < List.length (Go.Rx.G.dL4Prog (s, PUnit.unit)).1) = Bool.true then
                        Option.some
                          (List.set (Go.Rx.G.dL4Prog (s, PUnit.unit)).1 (Int.toNat (0 : Int))
                              ((List.getD (Go.Rx.G.dL4Prog (s, PUnit.unit)).1 (Int.toNat (0 : Int)) (ByteArray.empty, Bool.false, [], PUnit.unit)).1,
                                (List.getD (Go.Rx.G.dL4Prog (s, PUnit.unit)).1 (Int.toNat (0 : Int)) (ByteArray.empty, Bool.false, [], PUnit.unit)).2.1, [],
                                (List.getD (Go.Rx.G.dL4Prog (s, PUnit.unit)).1 (Int.toNat (0 : Int)) (ByteArray.empty, Bool.false, [], PUnit.unit)).2.2.2),
                            (Go.Rx.G.dPick ((Go.Rx.G.dPick ((Go.Rx.G.dL4Prog (s, PUnit.unit)).2.1, (3 : Int), PUnit.unit)).2.1, (40 : Int), PUnit.unit)).2)
                      else Option.none
                    else Option.none
                  else Option.none
                else Option.some ((Go.Rx.G.dL4Prog (s, PUnit.unit)).1, (Go.Rx.G.dPick ((Go.Rx.G.dPick ((Go.Rx.G.dL4Prog (s, PUnit.unit)).2.1, (3 : Int), PUnit.unit)).2.1, (40 : Int), PUnit.unit)).2)
        else Option.none
    else Option.none
  else Option.none) := by kernel_rfl
/-! programs, some bent -/
def G.insB (i : Ins) : Bool := decide (i.2.2.1.size ≤ 8)
def G.funB (f : Fun) : Bool := (G.nm f.1 || (decide (f.1 = G.B [122, 122]) || decide (f.1 = G.B [122, 120]))) && (decide (f.2.2.1.length ≤ 8) && f.2.2.1.all G.insB)
def G.funsB (p : Funs) : Bool := decide (p.length ≤ 400) && p.all G.funB
theorem nm_size {s : ByteArray} (h : G.nm s = true) : s.size ≤ 8 := by
  have := (nm_iff s).1 h
  simp only [List.mem_cons, List.not_mem_nil, or_false, Prod.mk.injEq, and_true] at this
  rcases this with h | h | h | h | h | h <;> (have h := h.1; subst h; decide +kernel)
theorem insB_of {i : Ins} (h : G.insD i = true) : G.insB i = true := by
  unfold G.insD at h
  unfold G.insB
  split at h
  · exact decide_eq_true (nm_size h)
  · rw [of_decide_eq_true h]
    decide +kernel
theorem funB_of {f : Fun} (h : G.funD f = true) : G.funB f = true := by
  obtain ⟨h1, h2, h3⟩ := (funD_iff f).1 h
  unfold G.funB
  rw [Bool.and_eq_true, Bool.and_eq_true, Bool.or_eq_true, decide_eq_true_iff, List.all_eq_true]
  unfold G.insDs at h3
  rw [List.all_eq_true] at h3
  exact ⟨.inl h1, h2.2, fun i hi => insB_of (h3 i hi)⟩
theorem funsB_iff (p : Funs) : G.funsB p = true ↔ (p.length ≤ 400 ∧ ∀ f ∈ p, G.funB f = true) := by
  unfold G.funsB
  rw [Bool.and_eq_true, decide_eq_true_iff, List.all_eq_true]
def G.funsBn (n : Nat) (p : Funs) : Prop := (1 ≤ p.length ∧ p.length ≤ n) ∧ ∀ f ∈ p, G.funB f = true
theorem bent_snoc {n : Nat} {p : Funs} {f : Fun} (h : G.funsBn n p) (hf : G.funB f = true) : G.funsBn (n + 1) (p ++ [f]) := by
  obtain ⟨⟨h1, h2⟩, h3⟩ := h
  refine ⟨⟨by simp, by simp; omega⟩, fun x hx => ?_⟩
  rcases List.mem_append.1 hx with hx | hx
  · exact h3 x hx
  · rw [List.mem_singleton.1 hx]
    exact hf
theorem bent_head {n : Nat} {p : Funs} (h : G.funsBn n p) : G.funB (p.getD (Int.toNat 0) (ByteArray.empty, false, [], ())) = true := by
  obtain ⟨⟨h1, h2⟩, h3⟩ := h
  have e : Int.toNat 0 = 0 := rfl
  rw [e, getD_lt _ _ (show 0 < p.length by omega)]
  exact h3 _ (List.getElem_mem _)
def BentPost (x : PKs.den [RdP]) (r : RK.den (.one FunsO) × Bxs.den [RdP]) : Prop := Adv 6000 x.1 r.2.1 ∧ G.funsB r.1 = true
theorem sfL4Bent (s : RdS) (h : G.rd 400000 s = true) : ∃ r, funK cxL4Bent Go.Proofs.Try.f36 [RdP] (.one FunsO) (s, ()) = some r ∧ BentPost (s, ()) r := by
  have h1 := rd_le h (show (400000 : Int) ≤ 500000 by omega)
  obtain ⟨_, p1, p2, p3⟩ := postL4Prog (s, ()) h1
  rw [eL4Bent, if_pos h1]
  generalize G.dL4Prog (s, ()) = q at p1 p2 p3 ⊢
  obtain ⟨p, t, u⟩ := q
  have p1 : Adv 5000 s t := p1
  have p2 : 1 ≤ p.length ∧ p.length ≤ 300 := p2
  have p3 : G.funsD p = true := p3
  have hp : G.funsBn 300 p := ⟨p2, fun f hf => funB_of (by unfold G.funsD at p3; rw [List.all_eq_true] at p3; exact p3 f hf)⟩
  have r1 : G.rd 405000 t = true := rd_le (p1.rd h) (by omega)
  have h2 := rd_le r1 (show (405000 : Int) ≤ 1000000 by omega)
  dsimp only
  obtain ⟨_, a1, a2, a3⟩ := postPick (t, 3, ()) h2
  rw [if_pos h2]
  generalize G.dPick (t, (3 : Int), ()) = q1 at a1 a2 a3 ⊢
  obtain ⟨v1, t1, u1⟩ := q1
  have a1 : Adv 1 t t1 := a1
  have r2 : G.rd 405001 t1 = true := a1.rd r1
  have h3 := rd_le r2 (show (405001 : Int) ≤ 1000000 by omega)
  dsimp only
  obtain ⟨_, b1, b2, b3⟩ := postPick (t1, 40, ()) h3
  rw [if_pos h3]
  generalize G.dPick (t1, (40 : Int), ()) = q2 at b1 b2 b3 ⊢
  obtain ⟨v2, t2, u2⟩ := q2
  have b1 : Adv 1 t1 t2 := b1
  have adv : Adv 6000 s t2 := ((p1.trans a1).trans b1).le (by omega)
  have hf : G.few p.length = true := few_iff.2 (by omega)
  dsimp only
  have fin : ∀ (x : Funs), G.funsB x = true → ∃ r, (some (x, t2, u2) : Option (RK.den (.one FunsO) × Bxs.den [RdP])) = some r ∧ BentPost (s, ()) r := fun x hx => ⟨_, rfl, adv, hx⟩
  have z1 : G.funB (G.B [122, 120], false, [((4 : Int), (0 : Int), G.B [110, 111, 119, 104], ())], ()) = true := by kernel_rfl
  have nul : ∀ x : Fun, G.funB x = true → G.funB (x.1, x.2.1, [], x.2.2.2) = true := fun x hx => by
    unfold G.funB at hx ⊢
    rw [Bool.and_eq_true] at hx ⊢
    exact ⟨hx.1, rfl⟩
  have key : ∀ (n : Nat) (w : Funs), n ≤ 390 → G.funsBn n w →
      G.funsB (w ++ [(G.B [122, 120], false, [((4 : Int), (0 : Int), G.B [110, 111, 119, 104], ())], ())]) = true ∧ G.funsB (w ++ [w.getD (Int.toNat 0) (ByteArray.empty, false, [], ())]) = true ∧ G.funsB (w.take (Int.toNat 0)) = true ∧
      G.funsB (w.set (Int.toNat 0) ((w.getD (Int.toNat 0) (ByteArray.empty, false, [], ())).1, (w.getD (Int.toNat 0) (ByteArray.empty, false, [], ())).2.1, [], (w.getD (Int.toNat 0) (ByteArray.empty, false, [], ())).2.2.2)) = true ∧ G.funsB w = true ∧
      (0 : Int) < (w.length : Int) ∧ Int.toNat 0 < w.length ∧ (0 : Int) ≤ (w.length : Int) ∧ Go.Rx.okSize 48 (w.length + 1) = true := fun n w hn hw => by
    have hh := bent_head hw
    have s1 := bent_snoc hw z1
    have s2 := bent_snoc hw hh
    obtain ⟨⟨g1, g2⟩, g3⟩ := hw
    have e0 : Int.toNat 0 = 0 := rfl
    refine ⟨(funsB_iff _).2 ⟨by have := s1.1.2; omega, s1.2⟩, (funsB_iff _).2 ⟨by have := s2.1.2; omega, s2.2⟩, (funsB_iff _).2 ⟨by rw [e0]; simp, fun f hf => by rw [e0] at hf; simp at hf⟩, (funsB_iff _).2 ⟨by simp; omega, fun f hf => ?_⟩, (funsB_iff _).2 ⟨by omega, g3⟩, by omega, by rw [e0]; omega, by omega, okSize_few (by omega) (by omega)⟩
    rcases List.mem_or_eq_of_mem_set hf with hf | hf
    · exact g3 f hf
    · rw [hf]
      exact nul _ hh
  obtain ⟨k1, k2, k3, k4, k5, k6, k7, k8, k9⟩ := key 300 p (by omega) hp
  have z2 : G.funB (G.B [122, 122], false, [((3 : Int), (0 : Int), (p.getD (Int.toNat 0) (ByteArray.empty, false, [], ())).1, ()), ((6 : Int), (0 : Int), ByteArray.empty, ())], ()) = true := by
    have hh := bent_head hp
    unfold G.funB at hh ⊢
    rw [Bool.and_eq_true] at hh ⊢
    refine ⟨by kernel_rfl, ?_⟩
    rw [Bool.and_eq_true]
    refine ⟨by kernel_rfl, ?_⟩
    rw [List.all_cons, Bool.and_eq_true]
    refine ⟨?_, by kernel_rfl⟩
    have h1 := hh.1
    generalize (p.getD (Int.toNat 0) (ByteArray.empty, false, [], ())).1 = w at h1 ⊢
    refine decide_eq_true (show w.size ≤ 8 from ?_)
    rw [Bool.or_eq_true, Bool.or_eq_true, decide_eq_true_iff, decide_eq_true_iff] at h1
    rcases h1 with h1 | h1 | h1
    · exact nm_size h1
    · rw [h1]
      decide +kernel
    · rw [h1]
      decide +kernel
  obtain ⟨l1, l2, l3, l4, l5, l6, l7, l8, l9⟩ := key 301 _ (by omega) (bent_snoc hp z2)
  simp only [hf, k6, k7, k8, k9, l6, l7, l8, l9, decide_true, if_true, show decide ((0 : Int) ≤ 0) = true from rfl]
  repeat' split
  all_goals first
    | exact fin _ k1
    | exact fin _ k2
    | exact fin _ k3
    | exact fin _ k4
    | exact fin _ k5
    | exact fin _ l1
    | exact fin _ l2
    | exact fin _ l3
    | exact fin _ l4
    | exact fin _ l5
theorem postL4Bent (x : PKs.den [RdP]) (h : (G.rd 400000 x.1) = true) : funK cxL4Bent Go.Proofs.Try.f36 [RdP] (.one FunsO) x = some (G.dL4Bent x) ∧ BentPost x (G.dL4Bent x) := val_of (sfL4Bent x.1 h)
theorem okL4Bent : SpecOk Go.Proofs.Try.prog 36 spL4Bent :=
  fun_okB (cx := cxL4Bent) (F := Go.Proofs.Try.f36) (cxOk T0_ok T0_eq pd13_ok) mixed (by kernel_rfl) (by decide) (by kernel_rfl) (lps_none (by kernel_rfl)) (fun x h => (postL4Bent x h).1)
noncomputable abbrev pd14 : List (Nat × List Spec) := (36, [spL4Bent]) :: pd13
theorem pd14_ok : PhiOk Go.Proofs.Try.prog pd14 := ⟨⟨okL4Bent, trivial⟩, pd13_ok⟩
theorem funB_small {f : Fun} (h : G.funB f = true) : G.smallF f = true := by
  unfold G.funB at h
  rw [Bool.and_eq_true, Bool.and_eq_true, Bool.or_eq_true, Bool.or_eq_true, decide_eq_true_iff, decide_eq_true_iff, decide_eq_true_iff, List.all_eq_true] at h
  obtain ⟨h1, h2, h3⟩ := h
  refine smallF_iff.2 ⟨?_, by omega, ?_⟩
  · rcases h1 with h1 | h1 | h1
    · have := nm_size h1
      omega
    · rw [h1]
      decide +kernel
    · rw [h1]
      decide +kernel
  · rw [List.all_eq_true]
    intro i hi
    have := of_decide_eq_true (h3 i hi)
    exact lenS_iff.2 (by omega)
theorem funsB_small {p : Funs} (h : G.funsB p = true) : G.smallP p = true := by
  obtain ⟨h1, h2⟩ := (funsB_iff p).1 h
  refine smallP_iff.2 ⟨by omega, ?_⟩
  rw [List.all_eq_true]
  exact fun f hf => funB_small (h2 f hf)
/-! DrawKeepOk -/
def DKPost (x : PKs.den [BytesP]) (r : RK.den (.one FunsO) × Bxs.den [BytesP]) : Prop := G.funsB r.1 = true
noncomputable abbrev pdk : List (Nat × List Spec) := pd14
theorem pdk_ok : PhiOk Go.Proofs.Try.prog pdk := pd14_ok
end Go.Rx

/-
  THE LAW on malformed states of programs.
-/
import Derived.Test.YtjnbmbhkgapcfaaHi
namespace Go.Rx
open Go
set_option linter.unusedVariables false
set_option linter.unusedSimpArgs false
abbrev MachM : List CK := [.dat I, .dat I, .dat I, .own spotT, .dat (.sl intT), .dat I]
def G.pad (s : Spots) : Spots := s ++ List.replicate (6 - s.length) (0, 0, ())
theorem pad_len (s : Spots) : 6 ≤ (G.pad s).length ∧ (G.pad s).length ≤ s.length + 6 := by
  unfold G.pad
  simp
  omega
theorem pad_step {s : Spots} (h : s.length ≤ 5) : G.pad (s ++ [(0, 0, ())]) = G.pad s := by
  unfold G.pad
  rw [List.length_append, List.length_singleton, List.append_assoc]
  have e : 6 - s.length = (6 - (s.length + 1)) + 1 := by omega
  rw [e, List.replicate_succ]
  rfl
theorem pad_end {s : Spots} (h : ¬ s.length ≤ 5) : G.pad s = s := by
  unfold G.pad
  rw [show 6 - s.length = 0 by omega]
  simp
noncomputable abbrev pg40 : List (Nat × List Spec) := (14, [spMachOk]) :: pd18
theorem pg40_ok : PhiOk Go.Proofs.Try.prog pg40 := ⟨⟨okMachOk, trivial⟩, pd18_ok⟩
noncomputable abbrev lsPad : LSpec := ⟨[7], [], [.box MachM], [], true, fun x => decide (x.1.2.2.2.1.length ≤ 100), fun x => ((0, ()), ((x.1.1, x.1.2.1, x.1.2.2.1, G.pad x.1.2.2.2.1, x.1.2.2.2.2), ()))⟩
noncomputable abbrev cxPad : Cx := mkCx T0 pg40 [] [] 97
theorem rPad (m : Mach) : roundK cxPad 0 (loopIn Go.Proofs.Try.f5 0) lsPad (m, ()) =
  (if Decidable.decide ((↑(List.length m.2.2.2.1) : Int) ≤ (5 : Int)) = Bool.true then
    if Go.Rx.okSize (16 : Nat) (List.length m.2.2.2.1 + (1 : Nat)) = Bool.true then
      Option.some (Go.Rx.LRes.go ((m.1, m.2.1, m.2.2.1, m.2.2.2.1 ++ [((0 : Int), (0 : Int), PUnit.unit)], m.2.2.2.2), PUnit.unit))
    else Option.none
  else Option.some (Go.Rx.LRes.stop (0 : Nat) PUnit.unit (m, PUnit.unit))) := by kernel_rfl
theorem stPad (m : Mach) (h : decide (m.2.2.2.1.length ≤ 100) = true) : StepOk lsPad (eqInv lsPad) (fun x => 6 - x.1.2.2.2.1.length) (m, ()) (roundK cxPad 0 (loopIn Go.Proofs.Try.f5 0) lsPad (m, ())) := by
  have h := of_decide_eq_true h
  rw [rPad]
  by_cases hi : m.2.2.2.1.length ≤ 5
  · rw [if_pos (decide_eq_true (by omega)), if_pos (okSize_few (by omega) (by omega))]
    refine ⟨(show decide ((m.2.2.2.1 ++ [((0 : Int), (0 : Int), ())]).length ≤ 100) = true from decide_eq_true (by simp; omega)), ?_, ?_⟩
    · show 6 - (m.2.2.2.1 ++ [((0 : Int), (0 : Int), ())]).length < 6 - m.2.2.2.1.length
      simp
      omega
    · show ((0, ()), ((m.1, m.2.1, m.2.2.1, G.pad (m.2.2.2.1 ++ [((0 : Int), (0 : Int), ())]), m.2.2.2.2), ())) = ((0, ()), ((m.1, m.2.1, m.2.2.1, G.pad m.2.2.2.1, m.2.2.2.2), ()))
      rw [pad_step hi]
  · rw [if_neg (by simp; omega)]
    show ((0, ()), ((m.1, m.2.1, m.2.2.1, G.pad m.2.2.2.1, m.2.2.2.2), ())) = ((0, ()), (m, ()))
    rw [pad_end hi]
theorem lpPad : LpOk Go.Proofs.Try.prog cxPad.ntmps 0 (loopIn Go.Proofs.Try.f5 0) lsPad :=
  lp_okB (cx := cxPad) (cxOk T0_ok T0_eq pg40_ok) mixed (by kernel_rfl) (lps_none (by kernel_rfl)) (eqInv lsPad) (fun x => 6 - x.1.2.2.2.1.length) (fun _ h => h) (fun x h => stPad x.1 h)
/-! LawMachBent -/
noncomputable abbrev spLawMachBent : Spec := ⟨[BytesP], BoolR, true, fun x => x.1.all G.byteOk, fun x => (true, ())⟩
noncomputable abbrev cxLawMachBent : Cx := mkCx T0 pg40 [(0, lsPad)] [] 97
theorem eLawMachBent (c : Bytes) : funK cxLawMachBent Go.Proofs.Try.f5 spLawMachBent.ins spLawMachBent.out (c, ()) =
  (if Decidable.decide ((↑(List.length c) : Int) > (1048576 : Int)) = Bool.true then Option.some (Bool.true, PUnit.unit)
  else
    if List.all c Go.Rx.G.byteOk = Bool.true then
      if (Go.Rx.G.smallP (Go.Rx.G.dDrawMachOk (c, PUnit.unit)).1.1 && Go.Rx.G.fewMach (Go.Rx.G.dDrawMachOk (c, PUnit.unit)).1.2.1) = Bool.true then
        if (Go.Rx.G.smallP (Go.Rx.G.dDrawMachOk (c, PUnit.unit)).1.1 && Go.Rx.G.fewMach (Go.Rx.G.dDrawMachOk (c, PUnit.unit)).1.2.1) = Bool.true then
          if
              (!Decidable.decide
                    (Go.Rx.G.machOk (Go.Rx.G.dDrawMachOk (c, PUnit.unit)).1.1 (Go.Rx.G.dDrawMachOk (c, PUnit.unit)).1.2.1 =
                      Go.Rx.G.machOk (Go.Rx.G.dDrawMachOk (c, PUnit.unit)).1.1 (Go.Rx.G.dDrawMachOk (c, PUnit.unit)).1.2.1)) =
                Bool.false then
            if (Go.Rx.G.smallP (Go.Rx.G.dDrawMachOk (c, PUnit.unit)).1.1 && Go.Rx.G.fewMach (Go.Rx.G.dDrawMachOk (c, PUnit.unit)).1.2.1) = Bool.true then
              if (!Go.Rx.G.machOk (Go.Rx.G.dDrawMachOk (c, PUnit.unit)).1.1 (Go.Rx.G.dDrawMachOk (c, PUnit.unit)).1.2.1) = Bool.true then
                if (Go.Rx.G.smallP (Go.Rx.G.dDrawMachOk (c, PUnit.unit)).1.1 && Go.Rx.G.fewMach (Go.Rx.G.dDrawMachOk (c, PUnit.unit)).1.2.1) = Bool.true then
                  if (Go.Rx.G.smallP (Go.Rx.G.dDrawMachOk (c, PUnit.unit)).1.1 && Go.Rx.G.fewMach (Go.Rx.G.dDrawMachOk (c, PUnit.unit)).1.2.1) = Bool.true then
                    Option.some
                      (Decidable.decide
                          (Go.Rx.G.machOk (Go.Rx.G.dDrawMachOk (c, PUnit.unit)).1.1 (Go.Rx.G.dDrawMachOk (c, PUnit.unit)).1.2.1 =
                            Go.Rx.G.machOk (Go.Rx.G.dDrawMachOk (c, PUnit.unit)).1.1 (Go.Rx.G.dDrawMachOk (c, PUnit.unit)).1.2.1),
                        PUnit.unit)
                  else Option.none
                else Option.none
              else
                if Decidable.decide ((0 : Int) ≤ (Go.Rx.G.dDrawMachOk (c, PUnit.unit)).1.2.1.1) = Bool.true then
                  if Decidable.decide ((Go.Rx.G.dDrawMachOk (c, PUnit.unit)).1.2.1.1 < (↑(List.length (Go.Rx.G.dDrawMachOk (c, PUnit.unit)).1.1) : Int)) = Bool.true then
                    if Go.Rx.okSize (16 : Nat) ((0 : Nat) + List.length (Go.Rx.G.dDrawMachOk (c, PUnit.unit)).1.2.1.2.2.2.1) = Bool.true then
                      if Decidable.decide (List.length (Go.Rx.G.dDrawMachOk (c, PUnit.unit)).1.2.1.2.2.2.1 ≤ (100 : Nat)) = Bool.true then
                        if
                            (Go.Rx.G.smallP (Go.Rx.G.dDrawMachOk (c, PUnit.unit)).1.1 &&
                                Go.Rx.G.fewMach
                                  ((Go.Rx.G.dDrawMachOk (c, PUnit.unit)).1.2.1.1,
                                    (↑(List.length
                                          (List.getD (Go.Rx.G.dDrawMachOk (c, PUnit.unit)).1.1 (Int.toNat (Go.Rx.G.dDrawMachOk (c, PUnit.unit)).1.2.1.1)
                                                  (ByteArray.empty, Bool.false, [], PUnit.unit)).2.2.1) :
                                      Int),
                                    (Go.Rx.G.dDrawMachOk (c, PUnit.unit)).1.2.1.2.2)) =
                              Bool.true then
                          if
                              (!Go.Rx.G.machOk (Go.Rx.G.dDrawMachOk (c, PUnit.unit)).1.1
                                    ((Go.Rx.G.dDrawMachOk (c, PUnit.unit)).1.2.1.1,
                                      (↑(List.length
                                            (List.getD (Go.Rx.G.dDrawMachOk (c, PUnit.unit)).1.1 (Int.toNat (Go.Rx.G.dDrawMachOk (c, PUnit.unit)).1.2.1.1)
                                                    (ByteArray.empty, Bool.false, [], PUnit.unit)).2.2.1) :
                                        Int),
                                      (Go.Rx.G.dDrawMachOk (c, PUnit.unit)).1.2.1.2.2)) =
                                Bool.true then
                            if
                                (Go.Rx.G.smallP (Go.Rx.G.dDrawMachOk (c, PUnit.unit)).1.1 &&
                                    Go.Rx.G.fewMach
                                      ((Go.Rx.G.dDrawMachOk (c, PUnit.unit)).1.2.1.1, (Go.Rx.G.dDrawMachOk (c, PUnit.unit)).1.2.1.2.1, (1001 : Int),
                                        (Go.Rx.G.dDrawMachOk (c, PUnit.unit)).1.2.1.2.2.2)) =
                                  Bool.true then
                              if
                                  (!Go.Rx.G.machOk (Go.Rx.G.dDrawMachOk (c, PUnit.unit)).1.1
                                        ((Go.Rx.G.dDrawMachOk (c, PUnit.unit)).1.2.1.1, (Go.Rx.G.dDrawMachOk (c, PUnit.unit)).1.2.1.2.1, (1001 : Int),
                                          (Go.Rx.G.dDrawMachOk (c, PUnit.unit)).1.2.1.2.2.2)) =
                                    Bool.true then
                                if
                                    (Go.Rx.G.smallP (Go.Rx.G.dDrawMachOk (c, PUnit.unit)).1.1 &&
                                        Go.Rx.G.fewMach
                                          ((Go.Rx.G.dDrawMachOk (c, PUnit.unit)).1.2.1.1, (Go.Rx.G.dDrawMachOk (c, PUnit.unit)).1.2.1.2.1,
                                            (Go.Rx.G.dDrawMachOk (c, PUnit.unit)).1.2.1.2.2.1, Go.Rx.G.pad (Go.Rx.G.dDrawMachOk (c, PUnit.unit)).1.2.1.2.2.2.1,
                                            (Go.Rx.G.dDrawMachOk (c, PUnit.unit)).1.2.1.2.2.2.2)) =
                                      Bool.true then
                                  if
                                      (!Go.Rx.G.machOk (Go.Rx.G.dDrawMachOk (c, PUnit.unit)).1.1
                                            ((Go.Rx.G.dDrawMachOk (c, PUnit.unit)).1.2.1.1, (Go.Rx.G.dDrawMachOk (c, PUnit.unit)).1.2.1.2.1,
                                              (Go.Rx.G.dDrawMachOk (c, PUnit.unit)).1.2.1.2.2.1, Go.Rx.G.pad (Go.Rx.G.dDrawMachOk (c, PUnit.unit)).1.2.1.2.2.2.1,
                                              (Go.Rx.G.dDrawMachOk (c, PUnit.unit)).1.2.1.2.2.2.2)) =
                                        Bool.true then
                                    if
                                        (Go.Rx.G.smallP (Go.Rx.G.dDrawMachOk (c, PUnit.unit)).1.1 &&
                                            Go.Rx.G.fewMach
                                              ((Go.Rx.G.dDrawMachOk (c, PUnit.unit)).1.2.1.1, (Go.Rx.G.dDrawMachOk (c, PUnit.unit)).1.2.1.2.1,
                                                (Go.Rx.G.dDrawMachOk (c, PUnit.unit)).1.2.1.2.2.1, (Go.Rx.G.dDrawMachOk (c, PUnit.unit)).1.2.1.2.2.2.1,
                                                (Go.Rx.G.dDrawMachOk (c, PUnit.unit)).1.2.1.2.2.2.2.1, (6 : Int), PUnit.unit)) =
                                          Bool.true then
                                      if
                                          (!Go.Rx.G.machOk (Go.Rx.G.dDrawMachOk (c, PUnit.unit)).1.1
                                                ((Go.Rx.G.dDrawMachOk (c, PUnit.unit)).1.2.1.1, (Go.Rx.G.dDrawMachOk (c, PUnit.unit)).1.2.1.2.1,
                                                  (Go.Rx.G.dDrawMachOk (c, PUnit.unit)).1.2.1.2.2.1, (Go.Rx.G.dDrawMachOk (c, PUnit.unit)).1.2.1.2.2.2.1,
                                                  (Go.Rx.G.dDrawMachOk (c, PUnit.unit)).1.2.1.2.2.2.2.1, (6 : Int), PUnit.unit)) =
                                            Bool.true then
                                        if
                                            (Go.Rx.G.smallP (Go.Rx.G.dDrawMachOk (c, PUnit.unit)).1.1 &&
                                                Go.Rx.G.fewMach
                                                  ((Go.Rx.G.dDrawMachOk (c, PUnit.unit)).1.2.1.1,
                                                    (↑(List.length
                                                          (List.getD (Go.Rx.G.dDrawMachOk (c, PUnit.unit)).1.1 (Int.toNat (Go.Rx.G.dDrawMachOk (c, PUnit.unit)).1.2.1.1)
                                                                  (ByteArray.empty, Bool.false, [], PUnit.unit)).2.2.1) :
                                                      Int),
                                                    (Go.Rx.G.dDrawMachOk (c, PUnit.unit)).1.2.1.2.2)) =
                                              Bool.true then
                                          Option.some
                                            (Decidable.decide
                                                ((Go.Rx.G.mstep (Go.Rx.G.dDrawMachOk (c, PUnit.unit)).1.1
                                                                ((Go.Rx.G.dDrawMachOk (c, PUnit.unit)).1.2.1.1,
                                                                  (↑(List.length
                                                                        (List.getD (Go.Rx.G.dDrawMachOk (c, PUnit.unit)).1.1 (Int.toNat (Go.Rx.G.dDrawMachOk (c, PUnit.unit)).1.2.1.1)
                                                                                (ByteArray.empty, Bool.false, [], PUnit.unit)).2.2.1) :
                                                                    Int),
                                                                  (Go.Rx.G.dDrawMachOk (c, PUnit.unit)).1.2.1.2.2)).2.2.2.2.2.1 =
                                                  (5 : Int)),
                                              PUnit.unit)
                                        else Option.none
                                      else Option.some (Bool.false, PUnit.unit)
                                    else Option.none
                                  else Option.some (Bool.false, PUnit.unit)
                                else Option.none
                              else Option.some (Bool.false, PUnit.unit)
                            else Option.none
                          else Option.some (Bool.false, PUnit.unit)
                        else Option.none
                      else Option.none
                    else Option.none
                  else Option.none
                else Option.none
            else Option.none
          else
            if (Go.Rx.G.smallP (Go.Rx.G.dDrawMachOk (c, PUnit.unit)).1.1 && Go.Rx.G.fewMach (Go.Rx.G.dDrawMachOk (c, PUnit.unit)).1.2.1) = Bool.true then
              if (Go.Rx.G.smallP (Go.Rx.G.dDrawMachOk (c, PUnit.unit)).1.1 && Go.Rx.G.fewMach (Go.Rx.G.dDrawMachOk (c, PUnit.unit)).1.2.1) = Bool.true then
                Option.some
                  (Decidable.decide
                      (Go.Rx.G.machOk (Go.Rx.G.dDrawMachOk (c, PUnit.unit)).1.1 (Go.Rx.G.dDrawMachOk (c, PUnit.unit)).1.2.1 =
                        Go.Rx.G.machOk (Go.Rx.G.dDrawMachOk (c, PUnit.unit)).1.1 (Go.Rx.G.dDrawMachOk (c, PUnit.unit)).1.2.1),
                    PUnit.unit)
              else Option.none
            else Option.none
        else Option.none
      else Option.none
    else Option.none) := by kernel_rfl
theorem sfLawMachBent (c : Bytes) (h : c.all G.byteOk = true) : funK cxLawMachBent Go.Proofs.Try.f5 spLawMachBent.ins spLawMachBent.out (c, ()) = some (true, ()) := by
  rw [eLawMachBent]
  by_cases h1 : (c.length : Int) > 1048576
  · rw [if_pos (decide_eq_true h1)]
  · rw [if_neg (by simpa using h1), if_pos h]
    obtain ⟨_, p1, p2, p3⟩ := postDrawMachOk (c, ()) h
    generalize G.dDrawMachOk (c, ()) = r at p1 p2 p3 ⊢
    obtain ⟨⟨p, m, u⟩, w⟩ := r
    have p1 : G.funsB p = true := p1
    have p2 : m.2.2.2.1.length ≤ 6 := p2
    have p3 : m.2.2.2.2.1.length ≤ 30 := p3
    have hs := funsB_small p1
    dsimp only
    obtain ⟨m1, m2, m3, m4, m5, m6, m7⟩ := m
    dsimp only at p2 p3 ⊢
    have few : ∀ (a b d : Int) (e : Spots) (f : Int), e.length ≤ 12 → (G.smallP p && G.fewMach (a, b, d, e, m5, f, ())) = true := fun a b d e f he => by
      rw [Bool.and_eq_true]
      exact ⟨hs, fewMach_iff.2 ⟨by show e.length ≤ _; omega, by show m5.length ≤ _; omega⟩⟩
    have hp := pad_len m4
    have f1 := few m1 m2 m3 m4 m6 (by omega)
    cases hm : G.machOk p (m1, m2, m3, m4, m5, m6, m7) with
    | false => simp [f1, hm]
    | true =>
      obtain ⟨k1, k2, k3, k4, k5, k6, k7, k8, k9, k10⟩ := (machOk_iff _ _).1 hm
      obtain ⟨⟨s1, s2⟩, s3, s4⟩ := spotOk_iff.1 k2
      have k6 : (m4.length : Int) ≤ 5 := k6
      have s1 : 0 ≤ m1 := s1
      have s2 : m1 < (p.length : Int) := s2
      have a1 : G.machOk p (m1, ((G.pAt p m1.toNat).2.2.1.length : Int), m3, m4, m5, m6, m7) = false := by
        rw [Bool.eq_false_iff]
        intro e
        obtain ⟨_, _, q⟩ := spotOk_iff.1 ((machOk_iff _ _).1 e).2.1
        have q : ((G.pAt p m1.toNat).2.2.1.length : Int) < ((G.pAt p m1.toNat).2.2.1.length : Int) := q
        omega
      have a2 : G.machOk p (m1, m2, 1001, m4, m5, m6, m7) = false := by
        rw [Bool.eq_false_iff]
        intro e
        have q : (1001 : Int) ≤ 1000 := ((machOk_iff _ _).1 e).2.2.2.2.1
        omega
      have a3 : G.machOk p (m1, m2, m3, G.pad m4, m5, m6, m7) = false := by
        rw [Bool.eq_false_iff]
        intro e
        have q : ((G.pad m4).length : Int) ≤ 5 := ((machOk_iff _ _).1 e).2.2.2.2.2.1
        omega
      have a4 : G.machOk p (m1, m2, m3, m4, m5, 6, ()) = false := by
        rw [Bool.eq_false_iff]
        intro e
        have q : (6 : Int) ≤ 5 := ((machOk_iff _ _).1 e).2.2.2.2.2.2.2.2.2
        omega
      have b1 := few m1 ((G.pAt p m1.toNat).2.2.1.length : Int) m3 m4 m6 (by omega)
      have b2 := few m1 m2 1001 m4 m6 (by omega)
      have b3 := few m1 m2 m3 (G.pad m4) m6 (by omega)
      have b4 := few m1 m2 m3 m4 6 (by omega)
      have b5 : Go.Rx.okSize 16 (0 + m4.length) = true := okSize_few (by omega) (by omega)
      have b6 : m4.length ≤ 100 := by omega
      have b7 : G.mstep p (m1, ((G.pAt p m1.toNat).2.2.1.length : Int), m3, m4, m5, m6, m7) = G.formM := by
        unfold G.mstep
        rw [a1]
        rfl
      rw [pAt_eq]
      simp [f1, hm, s1, s2, a1, a2, a3, a4, b1, b2, b3, b4, b5, b6, b7]
      exact ⟨by simpa using b5, rfl⟩
theorem okLawMachBent : SpecOk Go.Proofs.Try.prog 5 spLawMachBent :=
  fun_okB (cx := cxLawMachBent) (F := Go.Proofs.Try.f5) (cxOk T0_ok T0_eq pg40_ok) mixed (by kernel_rfl) (by decide) (by kernel_rfl) (lps_of (l := [(0, loopIn Go.Proofs.Try.f5 0)]) (by kernel_rfl) ⟨lp_at lpPad rfl, trivial⟩) (fun x h => sfLawMachBent x.1 h)
end Go.Rx

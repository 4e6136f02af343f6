/-
  THE LAW on programs and units: what is kept is the same.
-/
import Derived.Test.YtoagkidolpcigaaIp
namespace Go.Rx
open Go
set_option linter.unusedVariables false
set_option linter.unusedSimpArgs false
/-! LawKeepSame -/
noncomputable abbrev spLawKeepSame : Spec := ⟨[BytesP], BoolR, true, fun x => x.1.all G.byteOk, fun x => (true, ())⟩
noncomputable abbrev cxLawKeepSame : Cx := mkCx T0 pk14 [] [] 75
theorem eLawKeepSame (c : Bytes) : funK cxLawKeepSame Go.Proofs.Try.f8 spLawKeepSame.ins spLawKeepSame.out (c, ()) =
  (if Decidable.decide ((↑(List.length c) : Int) > (1048576 : Int)) = Bool.true then Option.some (Bool.true, PUnit.unit)
  else
    if List.all c Go.Rx.G.byteOk = Bool.true then
      if Go.Rx.G.smallP (Go.Rx.G.dDrawKeepOnly (c, PUnit.unit)).1 = Bool.true then
        if Go.Rx.G.smallP (Go.Rx.G.dDrawKeepOnly (c, PUnit.unit)).1 = Bool.true then
          if Go.Rx.G.smallU [(Go.Rx.G.keepOnly (Go.Rx.G.dDrawKeepOnly (c, PUnit.unit)).1, PUnit.unit)] = Bool.true then
            if (!Go.Rx.G.sameS [(Go.Rx.G.keepOnly (Go.Rx.G.dDrawKeepOnly (c, PUnit.unit)).1, PUnit.unit)] [(Go.Rx.G.keepOnly (Go.Rx.G.dDrawKeepOnly (c, PUnit.unit)).1, PUnit.unit)]) = Bool.false then
              if Go.Rx.G.smallP (Go.Rx.G.dDrawKeepOnly (c, PUnit.unit)).1 = Bool.true then
                if (!Go.Rx.G.keepOk (Go.Rx.G.dDrawKeepOnly (c, PUnit.unit)).1) = Bool.true then
                  if Go.Rx.G.smallP (Go.Rx.G.dDrawKeepOnly (c, PUnit.unit)).1 = Bool.true then
                    if Go.Rx.G.smallU [(Go.Rx.G.keepOnly (Go.Rx.G.dDrawKeepOnly (c, PUnit.unit)).1, PUnit.unit)] = Bool.true then
                      Option.some
                        (Go.Rx.G.sameS [(Go.Rx.G.keepOnly (Go.Rx.G.dDrawKeepOnly (c, PUnit.unit)).1, PUnit.unit)] [(Go.Rx.G.keepOnly (Go.Rx.G.dDrawKeepOnly (c, PUnit.unit)).1, PUnit.unit)], PUnit.unit)
                    else Option.none
                  else Option.none
                else
                  if Decidable.decide ((↑(List.length (Go.Rx.G.dDrawKeepOnly (c, PUnit.unit)).1) : Int) > (5 : Int)) = Bool.true then
                    if Decidable.decide ((0 : Int) ≤ (0 : Int)) = Bool.true then
                      if Decidable.decide ((0 : Int) < (↑(List.length (Go.Rx.G.dDrawKeepOnly (c, PUnit.unit)).1) : Int)) = Bool.true then
                        if Go.Rx.G.smallP (Go.Rx.G.dDrawKeepOnly (c, PUnit.unit)).1 = Bool.true then
                          Option.some
                            (Decidable.decide
                                ((↑(List.length
                                        (Go.Rx.G.keepReach (Go.Rx.G.dDrawKeepOnly (c, PUnit.unit)).1
                                          (List.getD (Go.Rx.G.dDrawKeepOnly (c, PUnit.unit)).1 (Int.toNat (0 : Int)) (ByteArray.empty, Bool.false, [], PUnit.unit)).1)) :
                                    Int) =
                                  (↑(List.length (Go.Rx.G.keepOnly (Go.Rx.G.dDrawKeepOnly (c, PUnit.unit)).1)) : Int)),
                              PUnit.unit)
                        else Option.none
                      else Option.none
                    else Option.none
                  else
                    if Decidable.decide ((0 : Int) ≤ (0 : Int)) = Bool.true then
                      if Decidable.decide ((0 : Int) < (↑(List.length (Go.Rx.G.dDrawKeepOnly (c, PUnit.unit)).1) : Int)) = Bool.true then
                        if
                            (Go.Rx.G.smallU [Go.Rx.G.dDrawKeepOnly (c, PUnit.unit)] &&
                                Go.Rx.G.lenS (List.getD (Go.Rx.G.dDrawKeepOnly (c, PUnit.unit)).1 (Int.toNat (0 : Int)) (ByteArray.empty, Bool.false, [], PUnit.unit)).1) =
                              Bool.true then
                          if
                              (Go.Rx.G.keepAll [Go.Rx.G.dDrawKeepOnly (c, PUnit.unit)]
                                    (List.getD (Go.Rx.G.dDrawKeepOnly (c, PUnit.unit)).1 (Int.toNat (0 : Int)) (ByteArray.empty, Bool.false, [], PUnit.unit)).1).2 =
                                Bool.true then
                            if
                                Go.Rx.G.smallU
                                    [((Go.Rx.G.keepAll [Go.Rx.G.dDrawKeepOnly (c, PUnit.unit)]
                                            (List.getD (Go.Rx.G.dDrawKeepOnly (c, PUnit.unit)).1 (Int.toNat (0 : Int)) (ByteArray.empty, Bool.false, [], PUnit.unit)).1).1,
                                        PUnit.unit)] =
                                  Bool.true then
                              if
                                  Go.Rx.G.sameS
                                      [((Go.Rx.G.keepAll [Go.Rx.G.dDrawKeepOnly (c, PUnit.unit)]
                                              (List.getD (Go.Rx.G.dDrawKeepOnly (c, PUnit.unit)).1 (Int.toNat (0 : Int)) (ByteArray.empty, Bool.false, [], PUnit.unit)).1).1,
                                          PUnit.unit)]
                                      [(Go.Rx.G.keepOnly (Go.Rx.G.dDrawKeepOnly (c, PUnit.unit)).1, PUnit.unit)] =
                                    Bool.true then
                                if Decidable.decide ((0 : Int) ≤ (0 : Int)) = Bool.true then
                                  if Decidable.decide ((0 : Int) < (↑(List.length (Go.Rx.G.dDrawKeepOnly (c, PUnit.unit)).1) : Int)) = Bool.true then
                                    if Go.Rx.G.smallP (Go.Rx.G.dDrawKeepOnly (c, PUnit.unit)).1 = Bool.true then
                                      Option.some
                                        (Decidable.decide
                                            ((↑(List.length
                                                    (Go.Rx.G.keepReach (Go.Rx.G.dDrawKeepOnly (c, PUnit.unit)).1
                                                      (List.getD (Go.Rx.G.dDrawKeepOnly (c, PUnit.unit)).1 (Int.toNat (0 : Int)) (ByteArray.empty, Bool.false, [], PUnit.unit)).1)) :
                                                Int) =
                                              (↑(List.length (Go.Rx.G.keepOnly (Go.Rx.G.dDrawKeepOnly (c, PUnit.unit)).1)) : Int)),
                                          PUnit.unit)
                                    else Option.none
                                  else Option.none
                                else Option.none
                              else Option.some (Bool.false, PUnit.unit)
                            else Option.none
                          else Option.some (Bool.false, PUnit.unit)
                        else Option.none
                      else Option.none
                    else Option.none
              else Option.none
            else
              if Go.Rx.G.smallP (Go.Rx.G.dDrawKeepOnly (c, PUnit.unit)).1 = Bool.true then
                if Go.Rx.G.smallU [(Go.Rx.G.keepOnly (Go.Rx.G.dDrawKeepOnly (c, PUnit.unit)).1, PUnit.unit)] = Bool.true then
                  Option.some
                    (Go.Rx.G.sameS [(Go.Rx.G.keepOnly (Go.Rx.G.dDrawKeepOnly (c, PUnit.unit)).1, PUnit.unit)] [(Go.Rx.G.keepOnly (Go.Rx.G.dDrawKeepOnly (c, PUnit.unit)).1, PUnit.unit)], PUnit.unit)
                else Option.none
              else Option.none
          else Option.none
        else Option.none
      else Option.none
    else Option.none) := by kernel_rfl
theorem rch_flag {p : Funs} {s : ByteArray} (hk : G.closed p = true) (hs : G.hasF p s = true) : (G.rch p s).2 = true := by
  have inv : RInv p s [(s, ())] [] 0 := ⟨by simp, rfl, by simp, fun x hx => by
    rw [List.mem_singleton] at hx
    subst hx
    exact ⟨hs, .refl⟩, fun j hj => absurd hj (by omega)⟩
  obtain ⟨N, d1, _⟩ := rwalk_run hk (p.length + 1 - 0) _ _ _ inv (by omega)
  unfold G.rch G.rchX
  rw [d1]
theorem keepAll_one {p : Funs} (hk : G.keepOk p = true) (h5 : p.length ≤ 5) : G.keepAll [(p, ())] (G.pAt p 0).1 = (G.keepOnly p, true) := by
  obtain ⟨⟨k1, k2⟩, k3, k4⟩ := (keepOk_iff p).1 hk
  have hu : G.unitsOkI [(p, ())] 8 = true := unitsOkI_iff.2 ⟨by simp, fun k hk => by
    have : k = 0 := by simpa using hk
    subst this
    exact ⟨h5, k3⟩⟩
  have hn : G.nameOk (G.pAt p 0).1 = true := by
    have := ((funsOk_iff p).1 k3 0 k1).1
    unfold G.funOk at this
    rw [Bool.and_eq_true, Bool.and_eq_true, Bool.and_eq_true] at this
    exact this.1.1.1
  have hf := rch_flag k4 (getF_self hk k1).1
  unfold G.keepAll G.keepOnly G.rchL
  rw [hu, hn, walkF_one, hf, hk]
  rfl
theorem sfLawKeepSame (c : Bytes) (h : c.all G.byteOk = true) : funK cxLawKeepSame Go.Proofs.Try.f8 spLawKeepSame.ins spLawKeepSame.out (c, ()) = some (true, ()) := by
  obtain ⟨_, p1⟩ := postDrawKeepOnly (c, ()) h
  rw [eLawKeepSame]
  by_cases hl : ((c.length : Nat) : Int) > 1048576
  · rw [if_pos (decide_eq_true hl)]
  · rw [if_neg (by simpa using hl), if_pos h]
    generalize G.dDrawKeepOnly (c, ()) = d at p1 ⊢
    have hf : G.funsB d.1 = true := p1
    obtain ⟨p, (u : Unit)⟩ := d
    cases u
    have hf : G.funsB p = true := hf
    have hs := funsB_small hf
    have hq := keepOnly_small hs
    have hU : ∀ q, G.smallP q = true → G.smallU [(q, ())] = true := fun q h => smallU_iff.2 ⟨by simp, by simpa using h⟩
    have hsame : ∀ a : Units, G.sameS a a = true := fun a => decide_eq_true rfl
    have e0 : ∀ w : Funs, w.getD (Int.toNat 0) (ByteArray.empty, false, [], ()) = G.pAt w 0 := fun w => rfl
    dsimp only
    rw [if_pos hs, if_pos hs, if_pos (hU _ hq), hsame, if_pos (by rfl), if_pos hs]
    cases hk : G.keepOk p with
    | false => rw [if_pos (by rfl), if_pos hs, if_pos (hU _ hq)]
    | true =>
      obtain ⟨N, ko⟩ := ko_of hk
      have hpos := keepOk_pos hk
      have hsm := (smallF_iff.1 (smallF_at (smallP_iff.1 hs).2 hpos)).1
      rw [if_neg (by decide)]
      by_cases h5 : (p.length : Int) > 5
      · rw [if_pos (decide_eq_true h5), if_pos (by decide), if_pos (decide_eq_true (show (0 : Int) < (p.length : Int) by omega)), if_pos hs]
        simp only [e0, ko.reach, decide_true]
      · have hpre : (G.smallU [(p, ())] && G.lenS (G.pAt p 0).1) = true := by
          rw [Bool.and_eq_true]
          exact ⟨hU _ hs, lenS_iff.2 hsm⟩
        rw [if_neg (by simpa using h5), if_pos (by decide), if_pos (decide_eq_true (show (0 : Int) < (p.length : Int) by omega))]
        simp only [e0, ko.reach, keepAll_one hk (show p.length ≤ 5 by omega), hpre, hU _ hq, hsame, hs, decide_true, if_true, show (0 : Int) < (p.length : Int) by omega]
        rfl
theorem okLawKeepSame : SpecOk Go.Proofs.Try.prog 8 spLawKeepSame :=
  fun_okB (cx := cxLawKeepSame) (F := Go.Proofs.Try.f8) (cxOk T0_ok T0_eq pk14_ok) mixed (by kernel_rfl) (by decide) (by kernel_rfl) (lps_none (by kernel_rfl)) (fun x h => sfLawKeepSame x.1 h)
end Go.Rx

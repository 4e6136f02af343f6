/-
  DRAWS: names that are wanted; units closed.
-/
import Derived.Test.YtoagkidolpcigaaHd
namespace Go.Rx
open Go
set_option linter.unusedVariables false
set_option linter.unusedSimpArgs false
abbrev StrsO : PK := .c (.own strT)
theorem mem_put {l : Strs} {s : ByteArray} {x : ByteArray × Unit} : x ∈ G.put l s ↔ (x ∈ l ∨ x = (s, ())) := by
  unfold G.put
  by_cases h : G.skip l s 0 < (l.length : Int) ∧ G.sAt l (G.skip l s 0).toNat = s
  · rw [if_pos h]
    constructor
    · exact .inl
    · rintro (h' | rfl)
      · exact h'
      · obtain ⟨h1, h2⟩ := h
        obtain ⟨b0, _⟩ := skip_bd l s
        have hk : (G.skip l s 0).toNat < l.length := by omega
        unfold G.sAt at h2
        rw [getD_lt _ _ hk] at h2
        have e : l[(G.skip l s 0).toNat] = (s, ()) := Prod.ext h2 rfl
        rw [← e]
        exact List.getElem_mem hk
  · rw [if_neg h]
    have hl : x ∈ l ↔ (x ∈ l.take (G.skip l s 0).toNat ∨ x ∈ l.drop (G.skip l s 0).toNat) := by
      rw [← List.mem_append, List.take_append_drop]
    rw [List.mem_append, List.mem_append, List.mem_singleton, hl]
    constructor
    · rintro ((h | h) | h)
      · exact .inl (.inl h)
      · exact .inr h
      · exact .inl (.inr h)
    · rintro ((h | h) | h)
      · exact .inl (.inl h)
      · exact .inr h
      · exact .inl (.inr h)
theorem put_len (l : Strs) (s : ByteArray) : (G.put l s).length ≤ l.length + 1 := by
  unfold G.put
  split
  · omega
  · obtain ⟨b0, b1⟩ := skip_bd l s
    simp
    omega
def G.allNm (l : Strs) : Bool := l.all fun x => G.nm x.1
theorem allNm_iff (l : Strs) : G.allNm l = true ↔ ∀ s, (s, ()) ∈ l → G.nm s = true := by
  unfold G.allNm
  rw [List.all_eq_true]
  exact ⟨fun h s hs => h _ hs, fun h x hx => h x.1 hx⟩
theorem allNm_put {l : Strs} {s : ByteArray} (h : G.allNm l = true) (hs : G.nm s = true) : G.allNm (G.put l s) = true := by
  rw [allNm_iff] at h ⊢
  intro t ht
  rcases mem_put.1 ht with ht | ht
  · exact h t ht
  · have e : t = s := (Prod.ext_iff.1 ht).1
    rw [e]
    exact hs
theorem allNm_refs {b : Inss} (h : G.insDs b = true) : G.allNm (G.refsOf b) = true := by
  rw [allNm_iff]
  intro s hs
  obtain ⟨c, hc, hr, rfl⟩ := (mem_refsOf b s).1 hs
  unfold G.insDs at h
  have := all_getD ((0 : Int), (0 : Int), ByteArray.empty, ()) h hc
  unfold G.insD at this
  have e : b.getD c ((0 : Int), (0 : Int), ByteArray.empty, ()) = G.insAt b c := rfl
  rw [e, if_pos hr] at this
  exact this
theorem allNm_at {l : Strs} (h : G.allNm l = true) {k : Nat} (hk : k < l.length) : G.nm (G.sAt l k) = true := all_getD (ByteArray.empty, ()) h hk
/-! WantL4: a loop -/
noncomputable abbrev ls0WantL4 : LSpec := ⟨[5, 8, 9], [5], [StrsO, StrSP, IntP], [StrsO], false, fun x => decide (0 ≤ x.2.2.1 ∧ x.2.2.1 ≤ (x.2.1.length : Int) ∧ x.2.1.length ≤ 1000 ∧ (x.1.length : Int) + ((x.2.1.length : Int) - x.2.2.1) ≤ 1000000), fun x => ((0, PKs.zero _), Bxs.zero _)⟩
noncomputable abbrev cxWantL4 : Cx := mkCx T0 pd10 [] [] 84
theorem rWantL4 (out refs : Strs) (j : Int) : roundK cxWantL4 4 (loopIn Go.Proofs.Try.f116 4) ls0WantL4 (out, refs, j, ()) =
  (if Decidable.decide (j < (↑(List.length refs) : Int)) = Bool.true then
    if Decidable.decide ((0 : Int) ≤ j) = Bool.true then
      if Decidable.decide (j < (↑(List.length refs) : Int)) = Bool.true then
        if Decidable.decide (List.length out ≤ (1048576 : Nat)) = Bool.true then
          Option.some
            (Go.Rx.LRes.go
              (Go.Rx.G.put out (List.getD refs (Int.toNat j) (ByteArray.empty, PUnit.unit)).1, refs, Go.IntKind.wrap Go.IntKind.i64 (j + (1 : Int)), PUnit.unit))
        else Option.none
      else Option.none
    else Option.none
  else Option.some (Go.Rx.LRes.stop (0 : Nat) (out, PUnit.unit) PUnit.unit)) := by kernel_rfl
noncomputable def G.dWantL4 (x : PKs.den [StrsO, StrSP, IntP]) : (Nat × PKs.den [StrsO]) × Bxs.den [StrsO, StrSP, IntP] := G.eps (roundK cxWantL4 4 (loopIn Go.Proofs.Try.f116 4) ls0WantL4) x
noncomputable abbrev lsWantL4 : LSpec := ⟨[5, 8, 9], [5], [StrsO, StrSP, IntP], [StrsO], false, fun x => decide (0 ≤ x.2.2.1 ∧ x.2.2.1 ≤ (x.2.1.length : Int) ∧ x.2.1.length ≤ 1000 ∧ (x.1.length : Int) + ((x.2.1.length : Int) - x.2.2.1) ≤ 1000000), fun x => G.dWantL4 x⟩
/-! WantL2: a loop -/
noncomputable abbrev ls0WantL2 : LSpec := ⟨[0, 5, 6, 7], [5], [UnitsSP, StrsO, IntP, IntP], [StrsO], false, fun x => G.unitsD 100 x.1 && decide (0 ≤ x.2.2.1 ∧ x.2.2.1 < (x.1.length : Int) ∧ 0 ≤ x.2.2.2.1 ∧ x.2.2.2.1 ≤ 3 ∧ (x.2.1.length : Int) + 10 * (3 - x.2.2.2.1) ≤ 900000), fun x => ((0, PKs.zero _), Bxs.zero _)⟩
noncomputable abbrev cxWantL2 : Cx := mkCx T0 pd10 [(4, lsWantL4)] [] 84
theorem rWantL2 (us : Units) (out : Strs) (i k : Int) : roundK cxWantL2 2 (loopIn Go.Proofs.Try.f116 2) ls0WantL2 (us, out, i, k, ()) =
  (if Decidable.decide ((0 : Int) ≤ i) = Bool.true then
    if Decidable.decide (i < (↑(List.length us) : Int)) = Bool.true then
      if Decidable.decide (k < (↑(List.length (List.getD us (Int.toNat i) ([], PUnit.unit)).1) : Int)) = Bool.true then
        if Decidable.decide ((0 : Int) ≤ i) = Bool.true then
          if Decidable.decide (i < (↑(List.length us) : Int)) = Bool.true then
            if Decidable.decide ((0 : Int) ≤ k) = Bool.true then
              if Decidable.decide (k < (↑(List.length (List.getD us (Int.toNat i) ([], PUnit.unit)).1) : Int)) = Bool.true then
                if Go.Rx.G.few (List.length (List.getD (List.getD us (Int.toNat i) ([], PUnit.unit)).1 (Int.toNat k) (ByteArray.empty, Bool.false, [], PUnit.unit)).2.2.1) = Bool.true then
                  if
                      Decidable.decide
                          ((0 : Int) ≤ (0 : Int) ∧
                            (0 : Int) ≤
                                (↑(List.length (Go.Rx.G.refsOf (List.getD (List.getD us (Int.toNat i) ([], PUnit.unit)).1 (Int.toNat k) (ByteArray.empty, Bool.false, [], PUnit.unit)).2.2.1)) : Int) ∧
                              List.length (Go.Rx.G.refsOf (List.getD (List.getD us (Int.toNat i) ([], PUnit.unit)).1 (Int.toNat k) (ByteArray.empty, Bool.false, [], PUnit.unit)).2.2.1) ≤
                                  (1000 : Nat) ∧
                                (↑(List.length out) : Int) +
                                    ((↑(List.length (Go.Rx.G.refsOf (List.getD (List.getD us (Int.toNat i) ([], PUnit.unit)).1 (Int.toNat k) (ByteArray.empty, Bool.false, [], PUnit.unit)).2.2.1)) :
                                        Int) -
                                      (0 : Int)) ≤
                                  (1000000 : Int)) =
                        Bool.true then
                    if
                        (Go.Rx.G.dWantL4
                                (out, Go.Rx.G.refsOf (List.getD (List.getD us (Int.toNat i) ([], PUnit.unit)).1 (Int.toNat k) (ByteArray.empty, Bool.false, [], PUnit.unit)).2.2.1,
                                  (0 : Int), PUnit.unit)).1.1 =
                          (0 : Nat) then
                      Option.some
                        (Go.Rx.LRes.go
                          (us,
                            (Go.Rx.G.dWantL4
                                    (out, Go.Rx.G.refsOf (List.getD (List.getD us (Int.toNat i) ([], PUnit.unit)).1 (Int.toNat k) (ByteArray.empty, Bool.false, [], PUnit.unit)).2.2.1,
                                      (0 : Int), PUnit.unit)).1.2.1,
                            i, Go.IntKind.wrap Go.IntKind.i64 (k + (1 : Int)), PUnit.unit))
                    else
                      if
                          (Go.Rx.G.dWantL4
                                  (out, Go.Rx.G.refsOf (List.getD (List.getD us (Int.toNat i) ([], PUnit.unit)).1 (Int.toNat k) (ByteArray.empty, Bool.false, [], PUnit.unit)).2.2.1,
                                    (0 : Int), PUnit.unit)).1.1 =
                            (1 : Nat) then
                        Option.some
                          (Go.Rx.LRes.stop (1 : Nat)
                            (Go.Rx.G.dWantL4
                                  (out, Go.Rx.G.refsOf (List.getD (List.getD us (Int.toNat i) ([], PUnit.unit)).1 (Int.toNat k) (ByteArray.empty, Bool.false, [], PUnit.unit)).2.2.1,
                                    (0 : Int), PUnit.unit)).1.2
                            PUnit.unit)
                      else
                        bif
                            Nat.beq
                              ((Go.Rx.G.dWantL4
                                      (out, Go.Rx.G.refsOf (List.getD (List.getD us (Int.toNat i) ([], PUnit.unit)).1 (Int.toNat k) (ByteArray.empty, Bool.false, [], PUnit.unit)).2.2.1,
                                        (0 : Int), PUnit.unit)).1.1 -
                                (2 : Nat))
                              (3 : Nat) then
                          Option.some
                            (Go.Rx.LRes.go
                              (us,
                                (Go.Rx.G.dWantL4
                                        (out,
                                          Go.Rx.G.refsOf (List.getD (List.getD us (Int.toNat i) ([], PUnit.unit)).1 (Int.toNat k) (ByteArray.empty, Bool.false, [], PUnit.unit)).2.2.1, (0 : Int),
                                          PUnit.unit)).1.2.1,
                                i, Go.IntKind.wrap Go.IntKind.i64 (k + (1 : Int)), PUnit.unit))
                        else
                          bif
                              Nat.beq
                                ((Go.Rx.G.dWantL4
                                        (out,
                                          Go.Rx.G.refsOf (List.getD (List.getD us (Int.toNat i) ([], PUnit.unit)).1 (Int.toNat k) (ByteArray.empty, Bool.false, [], PUnit.unit)).2.2.1, (0 : Int),
                                          PUnit.unit)).1.1 -
                                  (2 : Nat))
                                (2 : Nat) then
                            Option.some
                              (Go.Rx.LRes.stop (0 : Nat)
                                (Go.Rx.G.dWantL4
                                      (out, Go.Rx.G.refsOf (List.getD (List.getD us (Int.toNat i) ([], PUnit.unit)).1 (Int.toNat k) (ByteArray.empty, Bool.false, [], PUnit.unit)).2.2.1,
                                        (0 : Int), PUnit.unit)).1.2
                                PUnit.unit)
                          else
                            Option.some
                              (Go.Rx.LRes.stop
                                ((Go.Rx.G.dWantL4
                                          (out,
                                            Go.Rx.G.refsOf (List.getD (List.getD us (Int.toNat i) ([], PUnit.unit)).1 (Int.toNat k) (ByteArray.empty, Bool.false, [], PUnit.unit)).2.2.1, (0 : Int),
                                            PUnit.unit)).1.1 -
                                    (2 : Nat) +
                                  (2 : Nat))
                                (Go.Rx.G.dWantL4
                                      (out, Go.Rx.G.refsOf (List.getD (List.getD us (Int.toNat i) ([], PUnit.unit)).1 (Int.toNat k) (ByteArray.empty, Bool.false, [], PUnit.unit)).2.2.1,
                                        (0 : Int), PUnit.unit)).1.2
                                PUnit.unit)
                  else Option.none
                else Option.none
              else Option.none
            else Option.none
          else Option.none
        else Option.none
      else Option.some (Go.Rx.LRes.stop (0 : Nat) (out, PUnit.unit) PUnit.unit)
    else Option.none
  else Option.none) := by kernel_rfl
noncomputable def G.dWantL2 (x : PKs.den [UnitsSP, StrsO, IntP, IntP]) : (Nat × PKs.den [StrsO]) × Bxs.den [UnitsSP, StrsO, IntP, IntP] := G.eps (roundK cxWantL2 2 (loopIn Go.Proofs.Try.f116 2) ls0WantL2) x
noncomputable abbrev lsWantL2 : LSpec := ⟨[0, 5, 6, 7], [5], [UnitsSP, StrsO, IntP, IntP], [StrsO], false, fun x => G.unitsD 100 x.1 && decide (0 ≤ x.2.2.1 ∧ x.2.2.1 < (x.1.length : Int) ∧ 0 ≤ x.2.2.2.1 ∧ x.2.2.2.1 ≤ 3 ∧ (x.2.1.length : Int) + 10 * (3 - x.2.2.2.1) ≤ 900000), fun x => G.dWantL2 x⟩
/-! WantL0: a loop -/
noncomputable abbrev ls0WantL0 : LSpec := ⟨[0, 5, 6], [5], [UnitsSP, StrsO, IntP], [StrsO], false, fun x => G.unitsD 100 x.1 && decide (0 ≤ x.2.2.1 ∧ x.2.2.1 ≤ (x.1.length : Int) ∧ (x.2.1.length : Int) + 30 * ((x.1.length : Int) - x.2.2.1) ≤ 800000), fun x => ((0, PKs.zero _), Bxs.zero _)⟩
noncomputable abbrev cxWantL0 : Cx := mkCx T0 pd10 [(2, lsWantL2)] [] 84
theorem rWantL0 (us : Units) (out : Strs) (i : Int) : roundK cxWantL0 0 (loopIn Go.Proofs.Try.f116 0) ls0WantL0 (us, out, i, ()) =
  (if Decidable.decide (i < (↑(List.length us) : Int)) = Bool.true then
    if
        (Go.Rx.G.unitsD (100 : Nat) us &&
            Decidable.decide
              ((0 : Int) ≤ i ∧
                i < (↑(List.length us) : Int) ∧ (0 : Int) ≤ (0 : Int) ∧ (0 : Int) ≤ (3 : Int) ∧ (↑(List.length out) : Int) + (10 : Int) * ((3 : Int) - (0 : Int)) ≤ (900000 : Int))) =
          Bool.true then
      if (Go.Rx.G.dWantL2 (us, out, i, (0 : Int), PUnit.unit)).1.1 = (0 : Nat) then
        Option.some (Go.Rx.LRes.go (us, (Go.Rx.G.dWantL2 (us, out, i, (0 : Int), PUnit.unit)).1.2.1, Go.IntKind.wrap Go.IntKind.i64 (i + (1 : Int)), PUnit.unit))
      else
        if (Go.Rx.G.dWantL2 (us, out, i, (0 : Int), PUnit.unit)).1.1 = (1 : Nat) then
          Option.some (Go.Rx.LRes.stop (1 : Nat) (Go.Rx.G.dWantL2 (us, out, i, (0 : Int), PUnit.unit)).1.2 PUnit.unit)
        else
          bif Nat.beq ((Go.Rx.G.dWantL2 (us, out, i, (0 : Int), PUnit.unit)).1.1 - (2 : Nat)) (1 : Nat) then
            Option.some (Go.Rx.LRes.go (us, (Go.Rx.G.dWantL2 (us, out, i, (0 : Int), PUnit.unit)).1.2.1, Go.IntKind.wrap Go.IntKind.i64 (i + (1 : Int)), PUnit.unit))
          else
            bif Nat.beq ((Go.Rx.G.dWantL2 (us, out, i, (0 : Int), PUnit.unit)).1.1 - (2 : Nat)) (0 : Nat) then
              Option.some (Go.Rx.LRes.stop (0 : Nat) (Go.Rx.G.dWantL2 (us, out, i, (0 : Int), PUnit.unit)).1.2 PUnit.unit)
            else
              Option.some
                (Go.Rx.LRes.stop ((Go.Rx.G.dWantL2 (us, out, i, (0 : Int), PUnit.unit)).1.1 - (2 : Nat) + (2 : Nat))
                  (Go.Rx.G.dWantL2 (us, out, i, (0 : Int), PUnit.unit)).1.2 PUnit.unit)
    else Option.none
  else Option.some (Go.Rx.LRes.stop (0 : Nat) (out, PUnit.unit) PUnit.unit)) := by kernel_rfl
noncomputable def G.dWantL0 (x : PKs.den [UnitsSP, StrsO, IntP]) : (Nat × PKs.den [StrsO]) × Bxs.den [UnitsSP, StrsO, IntP] := G.eps (roundK cxWantL0 0 (loopIn Go.Proofs.Try.f116 0) ls0WantL0) x
noncomputable abbrev lsWantL0 : LSpec := ⟨[0, 5, 6], [5], [UnitsSP, StrsO, IntP], [StrsO], false, fun x => G.unitsD 100 x.1 && decide (0 ≤ x.2.2.1 ∧ x.2.2.1 ≤ (x.1.length : Int) ∧ (x.2.1.length : Int) + 30 * ((x.1.length : Int) - x.2.2.1) ≤ 800000), fun x => G.dWantL0 x⟩
/-! WantL6: a loop -/
noncomputable abbrev ls0WantL6 : LSpec := ⟨[0, 5, 10, 11], [10], [UnitsSP, StrSP, StrsO, IntP], [StrsO], false, fun x => G.fewU x.1 && decide (0 ≤ x.2.2.2.1 ∧ x.2.2.2.1 ≤ (x.2.1.length : Int) ∧ x.2.1.length ≤ 1000000 ∧ (x.2.2.1.length : Int) ≤ x.2.2.2.1), fun x => ((0, PKs.zero _), Bxs.zero _)⟩
noncomputable abbrev cxWantL6 : Cx := mkCx T0 pd10 [] [] 84
theorem rWantL6 (us : Units) (out want : Strs) (i : Int) : roundK cxWantL6 6 (loopIn Go.Proofs.Try.f116 6) ls0WantL6 (us, out, want, i, ()) =
  (if Decidable.decide (i < (↑(List.length out) : Int)) = Bool.true then
    if Decidable.decide ((0 : Int) ≤ i) = Bool.true then
      if Decidable.decide (i < (↑(List.length out) : Int)) = Bool.true then
        if Go.Rx.G.fewU us = Bool.true then
          if (!(Go.Rx.G.at3 us (List.getD out (Int.toNat i) (ByteArray.empty, PUnit.unit)).1).2.2) = Bool.true then
            if Decidable.decide ((0 : Int) ≤ i) = Bool.true then
              if Decidable.decide (i < (↑(List.length out) : Int)) = Bool.true then
                if Go.Rx.okSize (16 : Nat) (List.length want + (1 : Nat)) = Bool.true then
                  Option.some
                    (Go.Rx.LRes.go
                      (us, out, want ++ [List.getD out (Int.toNat i) (ByteArray.empty, PUnit.unit)], Go.IntKind.wrap Go.IntKind.i64 (i + (1 : Int)),
                        PUnit.unit))
                else Option.none
              else Option.none
            else Option.none
          else Option.some (Go.Rx.LRes.go (us, out, want, Go.IntKind.wrap Go.IntKind.i64 (i + (1 : Int)), PUnit.unit))
        else Option.none
      else Option.none
    else Option.none
  else Option.some (Go.Rx.LRes.stop (0 : Nat) (want, PUnit.unit) PUnit.unit)) := by kernel_rfl
noncomputable def G.dWantL6 (x : PKs.den [UnitsSP, StrSP, StrsO, IntP]) : (Nat × PKs.den [StrsO]) × Bxs.den [UnitsSP, StrSP, StrsO, IntP] := G.eps (roundK cxWantL6 6 (loopIn Go.Proofs.Try.f116 6) ls0WantL6) x
noncomputable abbrev lsWantL6 : LSpec := ⟨[0, 5, 10, 11], [10], [UnitsSP, StrSP, StrsO, IntP], [StrsO], false, fun x => G.fewU x.1 && decide (0 ≤ x.2.2.2.1 ∧ x.2.2.2.1 ≤ (x.2.1.length : Int) ∧ x.2.1.length ≤ 1000000 ∧ (x.2.2.1.length : Int) ≤ x.2.2.2.1), fun x => G.dWantL6 x⟩
/-! L3Wants -/
noncomputable abbrev cxL3Wants : Cx := mkCx T0 pd10 [(0, lsWantL0), (6, lsWantL6)] [] 84
noncomputable def G.dL3Wants (x : PKs.den [UnitsSP, StrP]) : RK.den (.one StrsO) × Bxs.den [UnitsSP, StrP] := G.val (funK cxL3Wants Go.Proofs.Try.f116 [UnitsSP, StrP] (.one StrsO) x)
noncomputable abbrev spL3Wants : Spec := ⟨[UnitsSP, StrP], .one StrsO, false, fun x => G.unitsD 100 x.1 && G.nm x.2.1, fun x => G.dL3Wants x⟩
theorem eL3Wants (us : Units) (name : ByteArray) : funK cxL3Wants Go.Proofs.Try.f116 [UnitsSP, StrP] (.one StrsO) (us, name, ()) =
  (if (!Go.Rx.strEq name { data := { toList := [] } }) = Bool.true then
    if
        (Go.Rx.G.unitsD (100 : Nat) us &&
            Decidable.decide
              ((0 : Int) ≤ (0 : Int) ∧
                (0 : Int) ≤ (↑(List.length us) : Int) ∧ (↑(List.length (Go.Rx.G.put [] name)) : Int) + (30 : Int) * ((↑(List.length us) : Int) - (0 : Int)) ≤ (800000 : Int))) =
          Bool.true then
      if (Go.Rx.G.dWantL0 (us, Go.Rx.G.put [] name, (0 : Int), PUnit.unit)).1.1 = (0 : Nat) then
        if
            (Go.Rx.G.fewU us &&
                Decidable.decide
                  ((0 : Int) ≤ (0 : Int) ∧
                    (0 : Int) ≤ (↑(List.length (Go.Rx.G.dWantL0 (us, Go.Rx.G.put [] name, (0 : Int), PUnit.unit)).1.2.1) : Int) ∧
                      List.length (Go.Rx.G.dWantL0 (us, Go.Rx.G.put [] name, (0 : Int), PUnit.unit)).1.2.1 ≤ (1000000 : Nat) ∧ (0 : Int) ≤ (0 : Int))) =
              Bool.true then
          if (Go.Rx.G.dWantL6 (us, (Go.Rx.G.dWantL0 (us, Go.Rx.G.put [] name, (0 : Int), PUnit.unit)).1.2.1, [], (0 : Int), PUnit.unit)).1.1 = (0 : Nat) then
            Option.some (Go.Rx.G.dWantL6 (us, (Go.Rx.G.dWantL0 (us, Go.Rx.G.put [] name, (0 : Int), PUnit.unit)).1.2.1, [], (0 : Int), PUnit.unit)).1.2
          else
            if (Go.Rx.G.dWantL6 (us, (Go.Rx.G.dWantL0 (us, Go.Rx.G.put [] name, (0 : Int), PUnit.unit)).1.2.1, [], (0 : Int), PUnit.unit)).1.1 = (1 : Nat) then Option.some ([], PUnit.unit)
            else Option.none
        else Option.none
      else if (Go.Rx.G.dWantL0 (us, Go.Rx.G.put [] name, (0 : Int), PUnit.unit)).1.1 = (1 : Nat) then Option.some ([], PUnit.unit) else Option.none
    else Option.none
  else
    if
        (Go.Rx.G.unitsD (100 : Nat) us &&
            Decidable.decide ((0 : Int) ≤ (0 : Int) ∧ (0 : Int) ≤ (↑(List.length us) : Int) ∧ (0 : Int) + (30 : Int) * ((↑(List.length us) : Int) - (0 : Int)) ≤ (800000 : Int))) =
          Bool.true then
      if (Go.Rx.G.dWantL0 (us, [], (0 : Int), PUnit.unit)).1.1 = (0 : Nat) then
        if
            (Go.Rx.G.fewU us &&
                Decidable.decide
                  ((0 : Int) ≤ (0 : Int) ∧
                    (0 : Int) ≤ (↑(List.length (Go.Rx.G.dWantL0 (us, [], (0 : Int), PUnit.unit)).1.2.1) : Int) ∧
                      List.length (Go.Rx.G.dWantL0 (us, [], (0 : Int), PUnit.unit)).1.2.1 ≤ (1000000 : Nat) ∧ (0 : Int) ≤ (0 : Int))) =
              Bool.true then
          if (Go.Rx.G.dWantL6 (us, (Go.Rx.G.dWantL0 (us, [], (0 : Int), PUnit.unit)).1.2.1, [], (0 : Int), PUnit.unit)).1.1 = (0 : Nat) then
            Option.some (Go.Rx.G.dWantL6 (us, (Go.Rx.G.dWantL0 (us, [], (0 : Int), PUnit.unit)).1.2.1, [], (0 : Int), PUnit.unit)).1.2
          else if (Go.Rx.G.dWantL6 (us, (Go.Rx.G.dWantL0 (us, [], (0 : Int), PUnit.unit)).1.2.1, [], (0 : Int), PUnit.unit)).1.1 = (1 : Nat) then Option.some ([], PUnit.unit) else Option.none
        else Option.none
      else if (Go.Rx.G.dWantL0 (us, [], (0 : Int), PUnit.unit)).1.1 = (1 : Nat) then Option.some ([], PUnit.unit) else Option.none
    else Option.none) := by kernel_rfl
abbrev WantX4 := PKs.den [StrsO, StrSP, IntP]
def WantInv4 (x : WantX4) : Prop := 0 ≤ x.2.2.1 ∧ x.2.2.1 ≤ (x.2.1.length : Int) ∧ x.2.1.length ≤ 1000 ∧ (x.1.length : Int) + ((x.2.1.length : Int) - x.2.2.1) ≤ 1000000
def WantPost4 (x : WantX4) (r : (Nat × PKs.den [StrsO]) × Bxs.den [StrsO, StrSP, IntP]) : Prop := r.1.1 = 0 ∧ (r.1.2.1.length : Int) ≤ (x.1.length : Int) + ((x.2.1.length : Int) - x.2.2.1) ∧ (G.allNm x.1 = true → G.allNm x.2.1 = true → G.allNm r.1.2.1 = true)
theorem stWantL4 (out refs : Strs) (j : Int) (h : WantInv4 (out, refs, j, ())) : EpsOk WantInv4 (fun x => ((x.2.1.length : Int) - x.2.2.1).toNat) WantPost4 (out, refs, j, ()) (roundK cxWantL4 4 (loopIn Go.Proofs.Try.f116 4) ls0WantL4 (out, refs, j, ())) := by
  obtain ⟨h1, h2, h4, h3⟩ := h
  have h1 : 0 ≤ j := h1
  have h2 : j ≤ (refs.length : Int) := h2
  have h4 : refs.length ≤ 1000 := h4
  have h3 : (out.length : Int) + ((refs.length : Int) - j) ≤ 1000000 := h3
  rw [rWantL4]
  by_cases hi : j < (refs.length : Int)
  · have hl := put_len out (G.sAt refs j.toNat)
    rw [if_pos (decide_eq_true hi), if_pos (decide_eq_true h1), if_pos (decide_eq_true hi), if_pos (decide_eq_true (by omega)), w64 (by omega) (by omega), sAt_eq]
    refine ⟨⟨by show 0 ≤ j + 1; omega, by show j + 1 ≤ (refs.length : Int); omega, h4, by show ((G.put out (G.sAt refs j.toNat)).length : Int) + ((refs.length : Int) - (j + 1)) ≤ 1000000; omega⟩, ?_, ?_⟩
    · show ((refs.length : Int) - (j + 1)).toNat < ((refs.length : Int) - j).toNat
      omega
    · rintro r ⟨r1, r2, r3⟩
      refine ⟨r1, ?_, fun ho hr => r3 (allNm_put ho (allNm_at hr (show j.toNat < refs.length by omega))) hr⟩
      have r2 : (r.1.2.1.length : Int) ≤ ((G.put out (G.sAt refs j.toNat)).length : Int) + ((refs.length : Int) - (j + 1)) := r2
      show (r.1.2.1.length : Int) ≤ (out.length : Int) + ((refs.length : Int) - j)
      omega
  · rw [if_neg (by simpa using hi)]
    exact ⟨rfl, by show (out.length : Int) ≤ (out.length : Int) + ((refs.length : Int) - j); omega, fun ho _ => ho⟩
theorem inv_want4 {x : WantX4} (h : decide (0 ≤ x.2.2.1 ∧ x.2.2.1 ≤ (x.2.1.length : Int) ∧ x.2.1.length ≤ 1000 ∧ (x.1.length : Int) + ((x.2.1.length : Int) - x.2.2.1) ≤ 1000000) = true) : WantInv4 x := by
  have := of_decide_eq_true h
  exact this
theorem epsWantL4 (x : PKs.den [StrsO, StrSP, IntP]) (h : WantInv4 x) : (∃ k, iter (roundK cxWantL4 4 (loopIn Go.Proofs.Try.f116 4) ls0WantL4) k x = some (G.dWantL4 x)) ∧ WantPost4 x (G.dWantL4 x) := eps_ok (inv := WantInv4) (μ := (fun x => ((x.2.1.length : Int) - x.2.2.1).toNat)) (Post := WantPost4) (fun x h => stWantL4 x.1 x.2.1 x.2.2.1 h) x h
theorem lpWantL4 : LpOk Go.Proofs.Try.prog cxWantL4.ntmps 4 (loopIn Go.Proofs.Try.f116 4) lsWantL4 :=
  lp_eps (cx := cxWantL4) (cxOk T0_ok T0_eq pd10_ok) mixed (by kernel_rfl) (lps_none (by kernel_rfl)) (inv := WantInv4) (μ := (fun x => ((x.2.1.length : Int) - x.2.2.1).toNat)) (Post := WantPost4) (fun x h => inv_want4 h) (fun x h => stWantL4 x.1 x.2.1 x.2.2.1 h) (fun _ => rfl)
abbrev WantX2 := PKs.den [UnitsSP, StrsO, IntP, IntP]
def WantInv2 (x : WantX2) : Prop := G.unitsD 100 x.1 = true ∧ (0 ≤ x.2.2.1 ∧ x.2.2.1 < (x.1.length : Int) ∧ 0 ≤ x.2.2.2.1 ∧ x.2.2.2.1 ≤ 3 ∧ (x.2.1.length : Int) + 10 * (3 - x.2.2.2.1) ≤ 900000)
def WantPost2 (x : WantX2) (r : (Nat × PKs.den [StrsO]) × Bxs.den [UnitsSP, StrsO, IntP, IntP]) : Prop := r.1.1 = 0 ∧ (r.1.2.1.length : Int) ≤ (x.2.1.length : Int) + 10 * (3 - x.2.2.2.1) ∧ (G.allNm x.2.1 = true → G.allNm r.1.2.1 = true)
theorem unit_at {n : Nat} {us : Units} (h : G.unitsD n us = true) {k : Nat} (hk : k < us.length) : (G.unitAt us k).length ≤ 3 ∧ G.funsD (G.unitAt us k) = true := by
  obtain ⟨h1, h2⟩ := unitsD_iff.1 h
  unfold G.unitAt
  rw [getD_lt _ _ hk]
  exact h2 _ (List.getElem_mem hk)
theorem stWantL2 (us : Units) (out : Strs) (i k : Int) (h : WantInv2 (us, out, i, k, ())) : EpsOk WantInv2 (fun x => (3 - x.2.2.2.1).toNat) WantPost2 (us, out, i, k, ()) (roundK cxWantL2 2 (loopIn Go.Proofs.Try.f116 2) ls0WantL2 (us, out, i, k, ())) := by
  obtain ⟨hu, h1, h2, h3, h4, h5⟩ := h
  have hu : G.unitsD 100 us = true := hu
  have h1 : 0 ≤ i := h1
  have h2 : i < (us.length : Int) := h2
  have h3 : 0 ≤ k := h3
  have h4 : k ≤ 3 := h4
  have h5 : (out.length : Int) + 10 * (3 - k) ≤ 900000 := h5
  obtain ⟨u1, u2⟩ := unit_at hu (show i.toNat < us.length by omega)
  rw [rWantL2, show (us.getD i.toNat ([], ())).1 = G.unitAt us i.toNat from rfl, if_pos (decide_eq_true h1), if_pos (decide_eq_true h2), w64 (by omega) (by omega)]
  generalize G.unitAt us i.toNat = v at u1 u2 ⊢
  by_cases hk : k < (v.length : Int)
  · have hf := all_getD (ByteArray.empty, false, [], ()) u2 (show k.toNat < v.length by omega)
    obtain ⟨_, f2, f3⟩ := (funD_iff _).1 hf
    rw [if_pos (decide_eq_true hk), if_pos (decide_eq_true h1), if_pos (decide_eq_true h2), if_pos (decide_eq_true h3), if_pos (decide_eq_true hk)]
    generalize (v.getD k.toNat (ByteArray.empty, false, [], ())).2.2.1 = b at f2 f3 ⊢
    have hl := refsOf_len b
    have hp : 0 ≤ (0 : Int) ∧ 0 ≤ ((G.refsOf b).length : Int) ∧ (G.refsOf b).length ≤ 1000 ∧ (out.length : Int) + (((G.refsOf b).length : Int) - 0) ≤ 1000000 := by omega
    rw [if_pos (few_iff.2 (by omega)), if_pos (decide_eq_true hp)]
    obtain ⟨_, b1, b2, b3⟩ := epsWantL4 (out, G.refsOf b, 0, ()) hp
    generalize G.dWantL4 (out, G.refsOf b, 0, ()) = q at b1 b2 b3 ⊢
    have b2 : (q.1.2.1.length : Int) ≤ (out.length : Int) + (((G.refsOf b).length : Int) - 0) := b2
    rw [if_pos b1]
    refine ⟨⟨hu, h1, h2, by show 0 ≤ k + 1; omega, by show k + 1 ≤ 3; omega, by show (q.1.2.1.length : Int) + 10 * (3 - (k + 1)) ≤ 900000; omega⟩, ?_, ?_⟩
    · show (3 - (k + 1)).toNat < (3 - k).toNat
      omega
    · rintro r ⟨r1, r2, r3⟩
      refine ⟨r1, ?_, fun ho => r3 (b3 ho (allNm_refs f3))⟩
      have r2 : (r.1.2.1.length : Int) ≤ (q.1.2.1.length : Int) + 10 * (3 - (k + 1)) := r2
      show (r.1.2.1.length : Int) ≤ (out.length : Int) + 10 * (3 - k)
      omega
  · rw [if_neg (by simpa using hk)]
    exact ⟨rfl, by show (out.length : Int) ≤ (out.length : Int) + 10 * (3 - k); omega, fun ho => ho⟩
theorem inv_want2 {x : WantX2} (h : (G.unitsD 100 x.1 && decide (0 ≤ x.2.2.1 ∧ x.2.2.1 < (x.1.length : Int) ∧ 0 ≤ x.2.2.2.1 ∧ x.2.2.2.1 ≤ 3 ∧ (x.2.1.length : Int) + 10 * (3 - x.2.2.2.1) ≤ 900000)) = true) : WantInv2 x := by
  rw [Bool.and_eq_true, decide_eq_true_iff] at h
  exact h
theorem epsWantL2 (x : PKs.den [UnitsSP, StrsO, IntP, IntP]) (h : WantInv2 x) : (∃ k, iter (roundK cxWantL2 2 (loopIn Go.Proofs.Try.f116 2) ls0WantL2) k x = some (G.dWantL2 x)) ∧ WantPost2 x (G.dWantL2 x) := eps_ok (inv := WantInv2) (μ := (fun x => (3 - x.2.2.2.1).toNat)) (Post := WantPost2) (fun x h => stWantL2 x.1 x.2.1 x.2.2.1 x.2.2.2.1 h) x h
theorem lpWantL2 : LpOk Go.Proofs.Try.prog cxWantL2.ntmps 2 (loopIn Go.Proofs.Try.f116 2) lsWantL2 :=
  lp_eps (cx := cxWantL2) (cxOk T0_ok T0_eq pd10_ok) mixed (by kernel_rfl) (lps_of (l := [(4, loopIn Go.Proofs.Try.f116 4)]) (by kernel_rfl) ⟨lp_at lpWantL4 rfl, trivial⟩) (inv := WantInv2) (μ := (fun x => (3 - x.2.2.2.1).toNat)) (Post := WantPost2) (fun x h => inv_want2 h) (fun x h => stWantL2 x.1 x.2.1 x.2.2.1 x.2.2.2.1 h) (fun _ => rfl)
abbrev WantX0 := PKs.den [UnitsSP, StrsO, IntP]
def WantInv0 (x : WantX0) : Prop := G.unitsD 100 x.1 = true ∧ (0 ≤ x.2.2.1 ∧ x.2.2.1 ≤ (x.1.length : Int) ∧ (x.2.1.length : Int) + 30 * ((x.1.length : Int) - x.2.2.1) ≤ 800000)
def WantPost0 (x : WantX0) (r : (Nat × PKs.den [StrsO]) × Bxs.den [UnitsSP, StrsO, IntP]) : Prop := r.1.1 = 0 ∧ (r.1.2.1.length : Int) ≤ (x.2.1.length : Int) + 30 * ((x.1.length : Int) - x.2.2.1) ∧ (G.allNm x.2.1 = true → G.allNm r.1.2.1 = true)
theorem stWantL0 (us : Units) (out : Strs) (i : Int) (h : WantInv0 (us, out, i, ())) : EpsOk WantInv0 (fun x => ((x.1.length : Int) - x.2.2.1).toNat) WantPost0 (us, out, i, ()) (roundK cxWantL0 0 (loopIn Go.Proofs.Try.f116 0) ls0WantL0 (us, out, i, ())) := by
  obtain ⟨hu, h1, h2, h3⟩ := h
  have hu : G.unitsD 100 us = true := hu
  have h1 : 0 ≤ i := h1
  have h2 : i ≤ (us.length : Int) := h2
  have h3 : (out.length : Int) + 30 * ((us.length : Int) - i) ≤ 800000 := h3
  have hul := (unitsD_iff.1 hu).1
  rw [rWantL0]
  by_cases hi : i < (us.length : Int)
  · have hp : (G.unitsD 100 us && decide (0 ≤ i ∧ i < (us.length : Int) ∧ (0 : Int) ≤ 0 ∧ (0 : Int) ≤ 3 ∧ (out.length : Int) + 10 * (3 - 0) ≤ 900000)) = true := by
      rw [Bool.and_eq_true, decide_eq_true_iff]
      exact ⟨hu, h1, hi, by omega, by omega, by omega⟩
    rw [if_pos (decide_eq_true hi), if_pos hp, w64 (by omega) (by omega)]
    obtain ⟨_, b1, b2, b3⟩ := epsWantL2 (us, out, i, 0, ()) (inv_want2 hp)
    generalize G.dWantL2 (us, out, i, 0, ()) = q at b1 b2 b3 ⊢
    have b2 : (q.1.2.1.length : Int) ≤ (out.length : Int) + 10 * (3 - 0) := b2
    rw [if_pos b1]
    refine ⟨⟨hu, by show 0 ≤ i + 1; omega, by show i + 1 ≤ (us.length : Int); omega, by show (q.1.2.1.length : Int) + 30 * ((us.length : Int) - (i + 1)) ≤ 800000; omega⟩, ?_, ?_⟩
    · show ((us.length : Int) - (i + 1)).toNat < ((us.length : Int) - i).toNat
      omega
    · rintro r ⟨r1, r2, r3⟩
      refine ⟨r1, ?_, fun ho => r3 (b3 ho)⟩
      have r2 : (r.1.2.1.length : Int) ≤ (q.1.2.1.length : Int) + 30 * ((us.length : Int) - (i + 1)) := r2
      show (r.1.2.1.length : Int) ≤ (out.length : Int) + 30 * ((us.length : Int) - i)
      omega
  · rw [if_neg (by simpa using hi)]
    exact ⟨rfl, by show (out.length : Int) ≤ (out.length : Int) + 30 * ((us.length : Int) - i); omega, fun ho => ho⟩
theorem inv_want0 {x : WantX0} (h : (G.unitsD 100 x.1 && decide (0 ≤ x.2.2.1 ∧ x.2.2.1 ≤ (x.1.length : Int) ∧ (x.2.1.length : Int) + 30 * ((x.1.length : Int) - x.2.2.1) ≤ 800000)) = true) : WantInv0 x := by
  rw [Bool.and_eq_true, decide_eq_true_iff] at h
  exact h
theorem epsWantL0 (x : PKs.den [UnitsSP, StrsO, IntP]) (h : WantInv0 x) : (∃ k, iter (roundK cxWantL0 0 (loopIn Go.Proofs.Try.f116 0) ls0WantL0) k x = some (G.dWantL0 x)) ∧ WantPost0 x (G.dWantL0 x) := eps_ok (inv := WantInv0) (μ := (fun x => ((x.1.length : Int) - x.2.2.1).toNat)) (Post := WantPost0) (fun x h => stWantL0 x.1 x.2.1 x.2.2.1 h) x h
theorem lpWantL0 : LpOk Go.Proofs.Try.prog cxWantL0.ntmps 0 (loopIn Go.Proofs.Try.f116 0) lsWantL0 :=
  lp_eps (cx := cxWantL0) (cxOk T0_ok T0_eq pd10_ok) mixed (by kernel_rfl) (lps_of (l := [(2, loopIn Go.Proofs.Try.f116 2)]) (by kernel_rfl) ⟨lp_at lpWantL2 rfl, trivial⟩) (inv := WantInv0) (μ := (fun x => ((x.1.length : Int) - x.2.2.1).toNat)) (Post := WantPost0) (fun x h => inv_want0 h) (fun x h => stWantL0 x.1 x.2.1 x.2.2.1 h) (fun _ => rfl)
abbrev WantX6 := PKs.den [UnitsSP, StrSP, StrsO, IntP]
def WantInv6 (x : WantX6) : Prop := G.fewU x.1 = true ∧ (0 ≤ x.2.2.2.1 ∧ x.2.2.2.1 ≤ (x.2.1.length : Int) ∧ x.2.1.length ≤ 1000000 ∧ (x.2.2.1.length : Int) ≤ x.2.2.2.1)
def WantPost6 (x : WantX6) (r : (Nat × PKs.den [StrsO]) × Bxs.den [UnitsSP, StrSP, StrsO, IntP]) : Prop := r.1.1 = 0 ∧ (r.1.2.1.length : Int) ≤ (x.2.1.length : Int) ∧ (G.allNm x.2.1 = true → G.allNm x.2.2.1 = true → G.allNm r.1.2.1 = true)
theorem allNm_snoc {l : Strs} {s : ByteArray × Unit} (h : G.allNm l = true) (hs : G.nm s.1 = true) : G.allNm (l ++ [s]) = true := by
  unfold G.allNm at h ⊢
  rw [List.all_append, h]
  simp [hs]
theorem stWantL6 (us : Units) (out want : Strs) (i : Int) (h : WantInv6 (us, out, want, i, ())) : EpsOk WantInv6 (fun x => ((x.2.1.length : Int) - x.2.2.2.1).toNat) WantPost6 (us, out, want, i, ()) (roundK cxWantL6 6 (loopIn Go.Proofs.Try.f116 6) ls0WantL6 (us, out, want, i, ())) := by
  obtain ⟨hu, h1, h2, h3, h4⟩ := h
  have hu : G.fewU us = true := hu
  have h1 : 0 ≤ i := h1
  have h2 : i ≤ (out.length : Int) := h2
  have h3 : out.length ≤ 1000000 := h3
  have h4 : (want.length : Int) ≤ i := h4
  rw [rWantL6]
  by_cases hi : i < (out.length : Int)
  · rw [if_pos (decide_eq_true hi), if_pos (decide_eq_true h1), if_pos (decide_eq_true hi), if_pos hu, w64 (by omega) (by omega)]
    have mu : ((out.length : Int) - (i + 1)).toNat < ((out.length : Int) - i).toNat := by omega
    split
    · rw [if_pos (decide_eq_true h1), if_pos (decide_eq_true hi), if_pos (okSize_few (by omega) (by omega))]
      refine ⟨⟨hu, by show 0 ≤ i + 1; omega, by show i + 1 ≤ (out.length : Int); omega, h3, ?_⟩, mu, ?_⟩
      · show ((want ++ [out.getD i.toNat (ByteArray.empty, ())]).length : Int) ≤ i + 1
        simp
        omega
      · rintro r ⟨r1, r2, r3⟩
        exact ⟨r1, r2, fun ho hw => r3 ho (allNm_snoc hw (allNm_at ho (show i.toNat < out.length by omega)))⟩
    · refine ⟨⟨hu, by show 0 ≤ i + 1; omega, by show i + 1 ≤ (out.length : Int); omega, h3, by show (want.length : Int) ≤ i + 1; omega⟩, mu, ?_⟩
      rintro r ⟨r1, r2, r3⟩
      exact ⟨r1, r2, r3⟩
  · rw [if_neg (by simpa using hi)]
    exact ⟨rfl, by show (want.length : Int) ≤ (out.length : Int); omega, fun _ hw => hw⟩
theorem inv_want6 {x : WantX6} (h : (G.fewU x.1 && decide (0 ≤ x.2.2.2.1 ∧ x.2.2.2.1 ≤ (x.2.1.length : Int) ∧ x.2.1.length ≤ 1000000 ∧ (x.2.2.1.length : Int) ≤ x.2.2.2.1)) = true) : WantInv6 x := by
  rw [Bool.and_eq_true, decide_eq_true_iff] at h
  exact h
theorem epsWantL6 (x : PKs.den [UnitsSP, StrSP, StrsO, IntP]) (h : WantInv6 x) : (∃ k, iter (roundK cxWantL6 6 (loopIn Go.Proofs.Try.f116 6) ls0WantL6) k x = some (G.dWantL6 x)) ∧ WantPost6 x (G.dWantL6 x) := eps_ok (inv := WantInv6) (μ := (fun x => ((x.2.1.length : Int) - x.2.2.2.1).toNat)) (Post := WantPost6) (fun x h => stWantL6 x.1 x.2.1 x.2.2.1 x.2.2.2.1 h) x h
theorem lpWantL6 : LpOk Go.Proofs.Try.prog cxWantL6.ntmps 6 (loopIn Go.Proofs.Try.f116 6) lsWantL6 :=
  lp_eps (cx := cxWantL6) (cxOk T0_ok T0_eq pd10_ok) mixed (by kernel_rfl) (lps_none (by kernel_rfl)) (inv := WantInv6) (μ := (fun x => ((x.2.1.length : Int) - x.2.2.2.1).toNat)) (Post := WantPost6) (fun x h => inv_want6 h) (fun x h => stWantL6 x.1 x.2.1 x.2.2.1 x.2.2.2.1 h) (fun _ => rfl)
def WantPost (x : PKs.den [UnitsSP, StrP]) (r : RK.den (.one StrsO) × Bxs.den [UnitsSP, StrP]) : Prop := r.1.length ≤ 1000000 ∧ G.allNm r.1 = true
theorem unitsD_few {n : Nat} {us : Units} (h : G.unitsD n us = true) (hn : n ≤ 1000) : G.fewU us = true := by
  refine fewU_iff.2 ⟨by have := (unitsD_iff.1 h).1; omega, fun k hk => few_iff.2 ?_⟩
  have := (unit_at h hk).1
  omega
theorem nm_ne {s : ByteArray} (h : G.nm s = true) : ¬ s = ByteArray.empty := by
  intro e
  subst e
  exact absurd h (by decide +kernel)
theorem sfL3Wants (us : Units) (name : ByteArray) (h : (G.unitsD 100 us && G.nm name) = true) : ∃ r, funK cxL3Wants Go.Proofs.Try.f116 [UnitsSP, StrP] (.one StrsO) (us, name, ()) = some r ∧ WantPost (us, name, ()) r := by
  rw [Bool.and_eq_true] at h
  obtain ⟨hu, hn⟩ := h
  have hul := (unitsD_iff.1 hu).1
  have hl := put_len [] name
  have hl : (G.put [] name).length ≤ 1 := hl
  have hpn : G.allNm (G.put [] name) = true := allNm_put rfl hn
  have hp : (G.unitsD 100 us && decide ((0 : Int) ≤ 0 ∧ (0 : Int) ≤ (us.length : Int) ∧ ((G.put [] name).length : Int) + 30 * ((us.length : Int) - 0) ≤ 800000)) = true := by
    rw [Bool.and_eq_true, decide_eq_true_iff]
    exact ⟨hu, by omega, by omega, by omega⟩
  rw [eL3Wants, strEq_e, decide_eq_false (nm_ne hn), if_pos (by rfl), if_pos hp]
  obtain ⟨_, b1, b2, b3⟩ := epsWantL0 (us, G.put [] name, 0, ()) (inv_want0 hp)
  generalize G.dWantL0 (us, G.put [] name, 0, ()) = q at b1 b2 b3 ⊢
  have b2 : (q.1.2.1.length : Int) ≤ ((G.put [] name).length : Int) + 30 * ((us.length : Int) - 0) := b2
  have hq : (G.fewU us && decide ((0 : Int) ≤ 0 ∧ (0 : Int) ≤ (q.1.2.1.length : Int) ∧ q.1.2.1.length ≤ 1000000 ∧ (0 : Int) ≤ 0)) = true := by
    rw [Bool.and_eq_true, decide_eq_true_iff]
    exact ⟨unitsD_few hu (by omega), by omega, by omega, by omega, by omega⟩
  rw [if_pos b1, if_pos hq]
  obtain ⟨_, c1, c2, c3⟩ := epsWantL6 (us, q.1.2.1, [], 0, ()) (inv_want6 hq)
  generalize G.dWantL6 (us, q.1.2.1, [], 0, ()) = t at c1 c2 c3 ⊢
  have c2 : (t.1.2.1.length : Int) ≤ (q.1.2.1.length : Int) := c2
  rw [if_pos c1]
  exact ⟨_, rfl, by show t.1.2.1.length ≤ 1000000; omega, c3 (b3 hpn) rfl⟩
theorem postL3Wants (x : PKs.den [UnitsSP, StrP]) (h : (G.unitsD 100 x.1 && G.nm x.2.1) = true) : funK cxL3Wants Go.Proofs.Try.f116 [UnitsSP, StrP] (.one StrsO) x = some (G.dL3Wants x) ∧ WantPost x (G.dL3Wants x) := val_of (sfL3Wants x.1 x.2.1 h)
theorem okL3Wants : SpecOk Go.Proofs.Try.prog 116 spL3Wants :=
  fun_okB (cx := cxL3Wants) (F := Go.Proofs.Try.f116) (cxOk T0_ok T0_eq pd10_ok) mixed (by kernel_rfl) (by decide) (by kernel_rfl) (lps_of (l := [(0, loopIn Go.Proofs.Try.f116 0), (6, loopIn Go.Proofs.Try.f116 6)]) (by kernel_rfl) ⟨lp_at lpWantL0 rfl, lp_at lpWantL6 rfl, trivial⟩) (fun x h => (postL3Wants x h).1)
noncomputable abbrev pd11 : List (Nat × List Spec) := (116, [spL3Wants]) :: pd10
theorem pd11_ok : PhiOk Go.Proofs.Try.prog pd11 := ⟨⟨okL3Wants, trivial⟩, pd10_ok⟩
end Go.Rx

/-
  THE LAW on what is kept of a program: kept again it stays.
-/
import Derived.Test.YtoagkidolpcigaaIm
namespace Go.Rx
open Go
set_option linter.unusedVariables false
set_option linter.unusedSimpArgs false
def G.lastOne (p : Funs) (s : ByteArray) (ix : Int) (k : Nat) : Int := if (G.pAt p k).1 = s then (k : Int) else ix
def G.lastIx (p : Funs) (s : ByteArray) : Int := G.fold (G.lastOne p s) p.length 0 (-1)
theorem pAt_nameK {p : Funs} (hk : G.keepOk p = true) {i j : Nat} (hi : i < p.length) (hj : j < p.length) (e : (G.pAt p i).1 = (G.pAt p j).1) : i = j := funsOk_uniq ((keepOk_iff p).1 hk).2.1 i j hi hj e
theorem last_fold (p : Funs) (s : ByteArray) : ∀ n, (G.fold (G.lastOne p s) n 0 (-1) = -1 ∧ ∀ j, j < n → ¬ (G.pAt p j).1 = s) ∨ ∃ k, k < n ∧ G.fold (G.lastOne p s) n 0 (-1) = (k : Int) ∧ (G.pAt p k).1 = s
  | 0 => .inl ⟨rfl, fun j hj => absurd hj (by omega)⟩
  | n + 1 => by
    rw [fold_succ]
    by_cases c : (G.pAt p n).1 = s
    · exact .inr ⟨n, by omega, if_pos c, c⟩
    · rw [show G.lastOne p s (G.fold (G.lastOne p s) n 0 (-1)) n = G.fold (G.lastOne p s) n 0 (-1) from if_neg c]
      rcases last_fold p s n with ⟨h1, h2⟩ | ⟨k, h1, h2, h3⟩
      · refine .inl ⟨h1, fun j hj => ?_⟩
        by_cases d : j = n
        · rw [d]
          exact c
        · exact h2 j (by omega)
      · exact .inr ⟨k, by omega, h2, h3⟩
def G.koOk (p q : Funs) : Bool := decide (∀ k, k < q.length → 0 ≤ G.lastIx p (G.pAt q k).1 ∧ G.lastIx p (G.pAt q k).1 < (p.length : Int) ∧ G.pAt p (G.lastIx p (G.pAt q k).1).toNat = G.pAt q k)
theorem koOk_of {p : Funs} {N : Strs} (h : KO p N) : G.koOk p (G.keepOnly p) = true := by
  refine decide_eq_true fun j hj => ?_
  rw [h.len] at hj
  obtain ⟨k, k1, k2, _⟩ := h.mem_p hj
  rcases last_fold p (G.pAt (G.keepOnly p) j).1 p.length with ⟨_, h2⟩ | ⟨m, m1, m2, m3⟩
  · exact absurd (by rw [k2]) (h2 k k1)
  · have e : m = k := pAt_nameK h.ok m1 k1 (m3.trans (by rw [k2]))
    subst e
    have m2 : G.lastIx p (G.pAt (G.keepOnly p) j).1 = (m : Int) := m2
    rw [m2]
    exact ⟨by omega, by omega, by rw [k2]; rfl⟩
theorem body_fewK {p : Funs} (h : G.smallP p = true) {k : Nat} (hk : k < p.length) : G.few (G.pAt p k).2.2.1.length = true := few_iff.2 (smallF_iff.1 (smallF_at (smallP_iff.1 h).2 hk)).2.1
/-! KoL2: a gathering -/
def G.preKoL2 (p : Funs) (q : Funs) (m : Int) (i : Int) (ix : Int) : Bool := G.preA (p.length) i && (true && decide (0 ≤ m ∧ m < (q.length : Int)))
theorem preKoL2_iff {p : Funs} {q : Funs} {m : Int} {i : Int} {ix : Int} : G.preKoL2 p q m i ix = true ↔ (0 ≤ i ∧ i ≤ ((p.length : Nat) : Int) ∧ (p.length : Nat) ≤ 1099511627776) ∧ True ∧ decide (0 ≤ m ∧ m < (q.length : Int)) = true := by simp [G.preKoL2, preA_iff]
def G.oneKoL2 (p : Funs) (q : Funs) (m : Int) (a : Int × Unit) (k : Nat) : Int × Unit := (G.lastOne p (G.pAt q m.toNat).1 a.1 k, ())
def G.fdKoL2 (p : Funs) (q : Funs) (m : Int) (i : Int) (a : Int × Unit) : Int × Unit := G.fold (G.oneKoL2 p q m) (p.length) i a
noncomputable abbrev lsKoL2 : LSpec := ⟨[3, 4, 8, 9, 10], [9], [FunSP, FunSP, IntP, IntP, IntP], [IntP], false, fun x => G.preKoL2 x.1 x.2.1 x.2.2.1 x.2.2.2.2.1 x.2.2.2.1,
  fun x => ((0, G.fdKoL2 x.1 x.2.1 x.2.2.1 x.2.2.2.2.1 (x.2.2.2.1, ())), ())⟩
noncomputable abbrev clKoL2 : Cx := mkCx T0 pk6 [(2, lsKoL2)] [] 117
theorem rKoL2 (p : Funs) (q : Funs) (m : Int) (ix : Int) (i : Int) : roundK clKoL2 2 (loopIn Go.Proofs.Try.f6 2) lsKoL2 (p, q, m, ix, i, ()) =
  (if Decidable.decide (i < (↑(List.length p) : Int)) = Bool.true then
    if Decidable.decide ((0 : Int) ≤ i) = Bool.true then
      if Decidable.decide (i < (↑(List.length p) : Int)) = Bool.true then
        if Decidable.decide ((0 : Int) ≤ m) = Bool.true then
          if Decidable.decide (m < (↑(List.length q) : Int)) = Bool.true then
            if
                Go.Rx.strEq (List.getD p (Int.toNat i) (ByteArray.empty, Bool.false, [], PUnit.unit)).1 (List.getD q (Int.toNat m) (ByteArray.empty, Bool.false, [], PUnit.unit)).1 =
                  Bool.true then
              Option.some (Go.Rx.LRes.go (p, q, m, i, Go.IntKind.wrap Go.IntKind.i64 (i + (1 : Int)), PUnit.unit))
            else Option.some (Go.Rx.LRes.go (p, q, m, ix, Go.IntKind.wrap Go.IntKind.i64 (i + (1 : Int)), PUnit.unit))
          else Option.none
        else Option.none
      else Option.none
    else Option.none
  else Option.some (Go.Rx.LRes.stop (0 : Nat) (ix, PUnit.unit) PUnit.unit)) := by kernel_rfl
noncomputable abbrev muKoL2 : PKs.den lsKoL2.ins → Nat := fun x => (x.1.length) - x.2.2.2.2.1.toNat
theorem stKoL2 (p : Funs) (q : Funs) (m : Int) (ix : Int) (i : Int) (h : G.preKoL2 p q m i ix = true) : StepOk lsKoL2 (eqInv lsKoL2) muKoL2 (p, q, m, ix, i, ()) (roundK clKoL2 2 (loopIn Go.Proofs.Try.f6 2) lsKoL2 (p, q, m, ix, i, ())) := by
  obtain ⟨⟨h0, h1, h2⟩, hn, hc⟩ := preKoL2_iff.1 h
  rw [rKoL2]
  by_cases hi : i < ((p.length : Nat) : Int)
  · have hw : IntKind.i64.wrap (i + 1) = i + 1 := w64 (by omega) (by omega)
    have hs : G.fdKoL2 p q m i (ix, ()) = G.fdKoL2 p q m (i + 1) (G.oneKoL2 p q m (ix, ()) i.toNat) := fold_step h0 hi
    refine fold_go (eqInv lsKoL2) muKoL2 (p, q, m, (G.oneKoL2 p q m (ix, ()) i.toNat).1, i + 1, ()) ?_ (show G.preKoL2 p q m (i + 1) (G.oneKoL2 p q m (ix, ()) i.toNat).1 = true from preKoL2_iff.2 ⟨⟨by omega, by omega, h2⟩, trivial, ?_⟩) ?_ ?_
    · obtain ⟨m0, m1⟩ := of_decide_eq_true hc
      rw [if_pos (decide_eq_true hi), if_pos (decide_eq_true h0), if_pos (decide_eq_true hi), if_pos (decide_eq_true m0), if_pos (decide_eq_true m1), pAt_eq, pAt_eq, strEq_iff, hw]
      by_cases hq : (G.pAt p i.toNat).1 = (G.pAt q m.toNat).1
      · rw [if_pos (decide_eq_true hq), show G.oneKoL2 p q m (ix, ()) i.toNat = (i, ()) from congrArg (fun z : Int => (z, ())) ((if_pos hq).trans (nat_int h0))]
      · rw [if_neg (by simpa using hq), show G.oneKoL2 p q m (ix, ()) i.toNat = (ix, ()) from congrArg (fun z : Int => (z, ())) (if_neg hq)]
    · exact hc
    · show (p.length) - (i + 1).toNat < (p.length) - i.toNat
      omega
    · show ((_, _), _) = ((_, _), _)
      simp only [hs]
  · have hs : G.fdKoL2 p q m i (ix, ()) = (ix, ()) := fold_end (by omega)
    skip
    rw [if_neg (by simpa using hi)]
    show ((_, _), _) = ((_, _), _)
    simp only [hs]
theorem lpKoL2 : LpOk Go.Proofs.Try.prog clKoL2.ntmps 2 (loopIn Go.Proofs.Try.f6 2) lsKoL2 :=
  lp_okB (cxOk T0_ok T0_eq pk6_ok) mixed (by kernel_rfl) (lps_none (by kernel_rfl)) (eqInv lsKoL2) muKoL2 (fun _ h => h) (fun x h => stKoL2 x.1 x.2.1 x.2.2.1 x.2.2.2.1 x.2.2.2.2.1 h)
/-! KoL0: a gathering -/
def G.preKoL0 (p : Funs) (q : Funs) (i : Int)  : Bool := G.preA (q.length) i && (true && (G.smallP p && G.koOk p q))
theorem preKoL0_iff {p : Funs} {q : Funs} {i : Int}  : G.preKoL0 p q i  = true ↔ (0 ≤ i ∧ i ≤ ((q.length : Nat) : Int) ∧ (q.length : Nat) ≤ 1099511627776) ∧ True ∧ (G.smallP p && G.koOk p q) = true := by simp [G.preKoL0, preA_iff]
def G.oneKoL0 (p : Funs) (q : Funs) (a : Unit) (k : Nat) : Unit := ()
def G.fdKoL0 (p : Funs) (q : Funs) (i : Int) (a : Unit) : Unit := G.fold (G.oneKoL0 p q) (q.length) i a
noncomputable abbrev lsKoL0 : LSpec := ⟨[3, 4, 8], [], [FunSP, FunSP, IntP], [], false, fun x => G.preKoL0 x.1 x.2.1 x.2.2.1 ,
  fun x => ((0, G.fdKoL0 x.1 x.2.1 x.2.2.1 (())), ())⟩
noncomputable abbrev clKoL0 : Cx := mkCx T0 pk6 [(2, lsKoL2), (0, lsKoL0)] [] 117
theorem rKoL0 (p : Funs) (q : Funs) (i : Int) : roundK clKoL0 0 (loopIn Go.Proofs.Try.f6 0) lsKoL0 (p, q, i, ()) =
  (if Decidable.decide (i < (↑(List.length q) : Int)) = Bool.true then
    if Go.Rx.G.preKoL2 p q i (0 : Int) (-1 : Int) = Bool.true then
      if Decidable.decide ((Go.Rx.G.fdKoL2 p q i (0 : Int) ((-1 : Int), PUnit.unit)).1 < (0 : Int)) = Bool.false then
        if Decidable.decide ((0 : Int) ≤ (Go.Rx.G.fdKoL2 p q i (0 : Int) ((-1 : Int), PUnit.unit)).1) = Bool.true then
          if Decidable.decide ((Go.Rx.G.fdKoL2 p q i (0 : Int) ((-1 : Int), PUnit.unit)).1 < (↑(List.length p) : Int)) = Bool.true then
            if Decidable.decide ((0 : Int) ≤ i) = Bool.true then
              if Decidable.decide (i < (↑(List.length q) : Int)) = Bool.true then
                if
                    Go.Rx.G.few (List.length (List.getD p (Int.toNat (Go.Rx.G.fdKoL2 p q i (0 : Int) ((-1 : Int), PUnit.unit)).1) (ByteArray.empty, Bool.false, [], PUnit.unit)).2.2.1) =
                      Bool.true then
                  if
                      (!Decidable.decide
                            (List.getD p (Int.toNat (Go.Rx.G.fdKoL2 p q i (0 : Int) ((-1 : Int), PUnit.unit)).1) (ByteArray.empty, Bool.false, [], PUnit.unit) =
                              List.getD q (Int.toNat i) (ByteArray.empty, Bool.false, [], PUnit.unit))) =
                        Bool.true then
                    Option.some (Go.Rx.LRes.stop (1 : Nat) PUnit.unit PUnit.unit)
                  else Option.some (Go.Rx.LRes.go (p, q, Go.IntKind.wrap Go.IntKind.i64 (i + (1 : Int)), PUnit.unit))
                else Option.none
              else Option.none
            else Option.none
          else Option.none
        else Option.none
      else Option.some (Go.Rx.LRes.stop (1 : Nat) PUnit.unit PUnit.unit)
    else Option.none
  else Option.some (Go.Rx.LRes.stop (0 : Nat) PUnit.unit PUnit.unit)) := by kernel_rfl
noncomputable abbrev muKoL0 : PKs.den lsKoL0.ins → Nat := fun x => (x.2.1.length) - x.2.2.1.toNat
theorem stKoL0 (p : Funs) (q : Funs) (i : Int) (h : G.preKoL0 p q i  = true) : StepOk lsKoL0 (eqInv lsKoL0) muKoL0 (p, q, i, ()) (roundK clKoL0 0 (loopIn Go.Proofs.Try.f6 0) lsKoL0 (p, q, i, ())) := by
  obtain ⟨⟨h0, h1, h2⟩, hn, hc⟩ := preKoL0_iff.1 h
  rw [rKoL0]
  by_cases hi : i < ((q.length : Nat) : Int)
  · have hw : IntKind.i64.wrap (i + 1) = i + 1 := w64 (by omega) (by omega)
    have hs : G.fdKoL0 p q i (()) = G.fdKoL0 p q (i + 1) (G.oneKoL0 p q (()) i.toNat) := fold_step h0 hi
    refine fold_go (eqInv lsKoL0) muKoL0 (p, q, i + 1, ()) ?_ (show G.preKoL0 p q (i + 1)  = true from preKoL0_iff.2 ⟨⟨by omega, by omega, h2⟩, trivial, ?_⟩) ?_ ?_
    · rw [Bool.and_eq_true] at hc
      obtain ⟨c1, c2⟩ := hc
      obtain ⟨d1, d2, d3⟩ := of_decide_eq_true c2 i.toNat (by omega)
      have hpl := (smallP_iff.1 c1).1
      have hpre : G.preKoL2 p q i 0 (-1) = true := preKoL2_iff.2 ⟨⟨by omega, by omega, by omega⟩, trivial, decide_eq_true ⟨h0, hi⟩⟩
      have e : G.fdKoL2 p q i 0 (-1, ()) = (G.lastIx p (G.pAt q i.toNat).1, ()) := fold_unit (G.lastOne p (G.pAt q i.toNat).1) p.length 0 (-1)
      have hb : G.few (G.pAt q i.toNat).2.2.1.length = true := by rw [← d3]; exact body_fewK c1 (by omega)
      rw [if_pos (decide_eq_true hi), if_pos hpre, e]
      dsimp only
      rw [if_pos (decide_eq_false (by omega)), if_pos (decide_eq_true d1), if_pos (decide_eq_true d2), if_pos (decide_eq_true h0), if_pos (decide_eq_true hi), pAt_eq, pAt_eq, d3, if_pos hb, hw, if_neg (by simp)]
    · exact hc
    · show (q.length) - (i + 1).toNat < (q.length) - i.toNat
      omega
    · show ((_, _), _) = ((_, _), _)
      simp only [hs]
  · have hs : G.fdKoL0 p q i (()) = (()) := fold_end (by omega)
    skip
    rw [if_neg (by simpa using hi)]
    show ((_, _), _) = ((_, _), _)
    simp only [hs]
theorem lpKoL0 : LpOk Go.Proofs.Try.prog clKoL0.ntmps 0 (loopIn Go.Proofs.Try.f6 0) lsKoL0 :=
  lp_okB (cxOk T0_ok T0_eq pk6_ok) mixed (by kernel_rfl) (lps_of (l := [(2, loopIn Go.Proofs.Try.f6 2)]) (by kernel_rfl) ⟨lp_at lpKoL2 rfl, trivial⟩) (eqInv lsKoL0) muKoL0 (fun _ h => h) (fun x h => stKoL0 x.1 x.2.1 x.2.2.1 h)
/-! LawKeepOnly -/
noncomputable abbrev spLawKeepOnly : Spec := ⟨[BytesP], BoolR, true, fun x => x.1.all G.byteOk, fun x => (true, ())⟩
noncomputable abbrev cxLawKeepOnly : Cx := mkCx T0 pk6 [(0, lsKoL0)] [] 117
theorem eLawKeepOnly (c : Bytes) : funK cxLawKeepOnly Go.Proofs.Try.f6 spLawKeepOnly.ins spLawKeepOnly.out (c, ()) =
  (if Decidable.decide ((↑(List.length c) : Int) > (1048576 : Int)) = Bool.true then Option.some (Bool.true, PUnit.unit)
  else
    if List.all c Go.Rx.G.byteOk = Bool.true then
      if Go.Rx.G.smallP (Go.Rx.G.dDrawKeepOnly (c, PUnit.unit)).1 = Bool.true then
        if Go.Rx.G.smallP (Go.Rx.G.dDrawKeepOnly (c, PUnit.unit)).1 = Bool.true then
          if Go.Rx.G.smallU [(Go.Rx.G.keepOnly (Go.Rx.G.dDrawKeepOnly (c, PUnit.unit)).1, PUnit.unit)] = Bool.true then
            if (!Go.Rx.G.sameS [(Go.Rx.G.keepOnly (Go.Rx.G.dDrawKeepOnly (c, PUnit.unit)).1, PUnit.unit)] [(Go.Rx.G.keepOnly (Go.Rx.G.dDrawKeepOnly (c, PUnit.unit)).1, PUnit.unit)]) = Bool.false then
              if Go.Rx.G.smallP (Go.Rx.G.dDrawKeepOnly (c, PUnit.unit)).1 = Bool.true then
                if Go.Rx.G.smallP (Go.Rx.G.dDrawKeepOnly (c, PUnit.unit)).1 = Bool.true then
                  if (!Decidable.decide (Go.Rx.G.keepOk (Go.Rx.G.dDrawKeepOnly (c, PUnit.unit)).1 = Go.Rx.G.keepOk (Go.Rx.G.dDrawKeepOnly (c, PUnit.unit)).1)) = Bool.true then
                    Option.some (Bool.false, PUnit.unit)
                  else
                    if Go.Rx.G.smallP (Go.Rx.G.dDrawKeepOnly (c, PUnit.unit)).1 = Bool.true then
                      if (!Go.Rx.G.keepOk (Go.Rx.G.dDrawKeepOnly (c, PUnit.unit)).1) = Bool.true then
                        Option.some (Decidable.decide ((↑(List.length (Go.Rx.G.keepOnly (Go.Rx.G.dDrawKeepOnly (c, PUnit.unit)).1)) : Int) = (0 : Int)), PUnit.unit)
                      else
                        if Go.Rx.G.smallP (Go.Rx.G.keepOnly (Go.Rx.G.dDrawKeepOnly (c, PUnit.unit)).1) = Bool.true then
                          if Decidable.decide ((0 : Int) ≤ (0 : Int)) = Bool.true then
                            if Decidable.decide ((0 : Int) < (↑(List.length (Go.Rx.G.dDrawKeepOnly (c, PUnit.unit)).1) : Int)) = Bool.true then
                              if Go.Rx.G.smallP (Go.Rx.G.dDrawKeepOnly (c, PUnit.unit)).1 = Bool.true then
                                if Go.Rx.G.preKoL0 (Go.Rx.G.dDrawKeepOnly (c, PUnit.unit)).1 (Go.Rx.G.keepOnly (Go.Rx.G.dDrawKeepOnly (c, PUnit.unit)).1) (0 : Int) = Bool.true then
                                  if Go.Rx.G.smallP (Go.Rx.G.keepOnly (Go.Rx.G.dDrawKeepOnly (c, PUnit.unit)).1) = Bool.true then
                                    if Go.Rx.G.keepOk (Go.Rx.G.keepOnly (Go.Rx.G.dDrawKeepOnly (c, PUnit.unit)).1) = Bool.true then
                                      if Decidable.decide ((0 : Int) ≤ (0 : Int)) = Bool.true then
                                        if Decidable.decide ((0 : Int) < (↑(List.length (Go.Rx.G.keepOnly (Go.Rx.G.dDrawKeepOnly (c, PUnit.unit)).1)) : Int)) = Bool.true then
                                          if Decidable.decide ((0 : Int) ≤ (0 : Int)) = Bool.true then
                                            if Decidable.decide ((0 : Int) < (↑(List.length (Go.Rx.G.dDrawKeepOnly (c, PUnit.unit)).1) : Int)) = Bool.true then
                                              if
                                                  Go.Rx.G.few
                                                      (List.length (List.getD (Go.Rx.G.keepOnly (Go.Rx.G.dDrawKeepOnly (c, PUnit.unit)).1) (Int.toNat (0 : Int)) (ByteArray.empty, Bool.false, [], PUnit.unit)).2.2.1) =
                                                    Bool.true then
                                                if
                                                    Decidable.decide
                                                        (List.getD (Go.Rx.G.keepOnly (Go.Rx.G.dDrawKeepOnly (c, PUnit.unit)).1) (Int.toNat (0 : Int)) (ByteArray.empty, Bool.false, [], PUnit.unit) =
                                                          List.getD (Go.Rx.G.dDrawKeepOnly (c, PUnit.unit)).1 (Int.toNat (0 : Int)) (ByteArray.empty, Bool.false, [], PUnit.unit)) =
                                                      Bool.true then
                                                  if
                                                      Decidable.decide
                                                          ((↑(List.length (Go.Rx.G.keepOnly (Go.Rx.G.dDrawKeepOnly (c, PUnit.unit)).1)) : Int) ≤
                                                            (↑(List.length (Go.Rx.G.dDrawKeepOnly (c, PUnit.unit)).1) : Int)) =
                                                        Bool.true then
                                                    if
                                                        Decidable.decide
                                                            ((↑(List.length
                                                                    (Go.Rx.G.keepReach (Go.Rx.G.dDrawKeepOnly (c, PUnit.unit)).1
                                                                      (List.getD (Go.Rx.G.dDrawKeepOnly (c, PUnit.unit)).1 (Int.toNat (0 : Int)) (ByteArray.empty, Bool.false, [], PUnit.unit)).1)) :
                                                                Int) =
                                                              (↑(List.length (Go.Rx.G.keepOnly (Go.Rx.G.dDrawKeepOnly (c, PUnit.unit)).1)) : Int)) =
                                                          Bool.true then
                                                      if Go.Rx.G.smallU [(Go.Rx.G.keepOnly (Go.Rx.G.keepOnly (Go.Rx.G.dDrawKeepOnly (c, PUnit.unit)).1), PUnit.unit)] = Bool.true then
                                                        Option.some
                                                          (Go.Rx.G.sameS [(Go.Rx.G.keepOnly (Go.Rx.G.keepOnly (Go.Rx.G.dDrawKeepOnly (c, PUnit.unit)).1), PUnit.unit)]
                                                              [(Go.Rx.G.keepOnly (Go.Rx.G.dDrawKeepOnly (c, PUnit.unit)).1, PUnit.unit)],
                                                            PUnit.unit)
                                                      else Option.none
                                                    else Option.some (Bool.false, PUnit.unit)
                                                  else Option.some (Bool.false, PUnit.unit)
                                                else Option.some (Bool.false, PUnit.unit)
                                              else Option.none
                                            else Option.none
                                          else Option.none
                                        else Option.none
                                      else Option.none
                                    else Option.some (Bool.false, PUnit.unit)
                                  else Option.none
                                else Option.none
                              else Option.none
                            else Option.none
                          else Option.none
                        else Option.none
                    else Option.none
                else Option.none
              else Option.none
            else Option.some (Bool.false, PUnit.unit)
          else Option.none
        else Option.none
      else Option.none
    else Option.none) := by kernel_rfl
theorem sfLawKeepOnly (c : Bytes) (h : c.all G.byteOk = true) : funK cxLawKeepOnly Go.Proofs.Try.f6 spLawKeepOnly.ins spLawKeepOnly.out (c, ()) = some (true, ()) := by
  obtain ⟨_, p1⟩ := postDrawKeepOnly (c, ()) h
  rw [eLawKeepOnly]
  by_cases hl : ((c.length : Nat) : Int) > 1048576
  · rw [if_pos (decide_eq_true hl)]
  · rw [if_neg (by simpa using hl), if_pos h]
    generalize G.dDrawKeepOnly (c, ()) = d at p1 ⊢
    have hf : G.funsB d.1 = true := p1
    obtain ⟨p, _⟩ := d
    have hf : G.funsB p = true := hf
    have hs := funsB_small hf
    have hq := keepOnly_small hs
    have hU : ∀ q, G.smallP q = true → G.smallU [(q, ())] = true := fun q h => smallU_iff.2 ⟨by simp, by simpa using h⟩
    have hsame : ∀ a : Units, G.sameS a a = true := fun a => decide_eq_true rfl
    dsimp only
    rw [if_pos hs, if_pos hs, if_pos (hU _ hq), hsame, if_pos (by rfl), if_pos hs, if_pos hs, if_neg (by simp), if_pos hs]
    cases hk : G.keepOk p with
    | false =>
      have e : G.keepOnly p = [] := by
        unfold G.keepOnly
        rw [if_neg (by rw [hk]; decide)]
      rw [if_pos (by rfl), e]
      rfl
    | true =>
      obtain ⟨N, ko⟩ := ko_of hk
      have hlen := ko.len
      have hle := ko.le
      have hpos := ko.pos
      have hp40 := ((keepOk_iff p).1 hk).1.2
      have hb : G.few (G.pAt p 0).2.2.1.length = true := body_fewK hs (by omega)
      have e0 : ∀ w : Funs, w.getD (Int.toNat 0) (ByteArray.empty, false, [], ()) = G.pAt w 0 := fun w => rfl
      have hpre : G.preKoL0 p (G.keepOnly p) 0 = true := preKoL0_iff.2 ⟨⟨by omega, by omega, by omega⟩, trivial, by rw [Bool.and_eq_true]; exact ⟨hs, koOk_of ko⟩⟩
      rw [if_neg (by decide), if_pos hq, if_pos (by decide), if_pos (decide_eq_true (show (0 : Int) < (p.length : Int) by omega)), if_pos hs, if_pos hpre, if_pos hq, if_pos ko.qok, if_pos (by decide), if_pos (decide_eq_true (show (0 : Int) < ((G.keepOnly p).length : Int) by omega)), if_pos (by decide), if_pos (decide_eq_true (show (0 : Int) < (p.length : Int) by omega))]
      simp only [e0, ko.first, ko.reach, ko.again]
      rw [if_pos hb, if_pos (decide_eq_true trivial), if_pos (decide_eq_true (by omega)), if_pos (decide_eq_true trivial), if_pos (hU _ hq), hsame]
theorem okLawKeepOnly : SpecOk Go.Proofs.Try.prog 6 spLawKeepOnly :=
  fun_okB (cx := cxLawKeepOnly) (F := Go.Proofs.Try.f6) (cxOk T0_ok T0_eq pk6_ok) mixed (by kernel_rfl) (by decide) (by kernel_rfl) (lps_of (l := [(0, loopIn Go.Proofs.Try.f6 0)]) (by kernel_rfl) ⟨lp_at lpKoL0 rfl, trivial⟩) (fun x h => sfLawKeepOnly x.1 h)
end Go.Rx

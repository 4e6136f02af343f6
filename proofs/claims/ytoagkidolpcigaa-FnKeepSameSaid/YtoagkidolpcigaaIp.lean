/-
  UNITS: what is kept of units, by the program.
-/
import Derived.Test.YtoagkidolpcigaaIm
namespace Go.Rx
open Go
set_option linter.unusedVariables false
set_option linter.unusedSimpArgs false
abbrev boolT : Tys := .cons .bool .nil
abbrev Bools := List (Bool × Unit)
/-! what is picked -/
abbrev PickR := Int × Int × Bool × Unit
def G.pickAt (w : Bool) (us : Units) (s : ByteArray) (k : Nat) : Option PickR := if (¬ G.find (G.unitAt us k) s < 0) ∧ (G.pAt (G.unitAt us k) (G.find (G.unitAt us k) s).toNat).2.1 = w then some ((k : Int), G.find (G.unitAt us k) s, true, ()) else none
theorem fewU_iff2 {us : Units} : G.fewU us = true ↔ (us.length ≤ 1048576 ∧ us.all (fun u => G.few u.1.length) = true) := by
  unfold G.fewU
  rw [Bool.and_eq_true, decide_eq_true_iff]
theorem fewU_at {us : Units} (h : G.fewU us = true) {k : Nat} (hk : k < us.length) : G.few (G.unitAt us k).length = true := all_getD (([], ()) : Funs × Unit) (fewU_iff2.1 h).2 hk
theorem fewU_len {us : Units} (h : G.fewU us = true) : us.length ≤ 1099511627776 := by
  have := (fewU_iff2.1 h).1
  omega
/-! PickL2: a search -/
def G.prePickL2 (s : ByteArray) (w : Bool) (us : Units) (n : Int) (i : Int) : Bool := G.preA (us.length) i && (decide (n = ((us.length : Nat) : Int)) && (G.fewU us))
theorem prePickL2_iff {s : ByteArray} {w : Bool} {us : Units} {n : Int} {i : Int} : G.prePickL2 s w us n i = true ↔ (0 ≤ i ∧ i ≤ ((us.length : Nat) : Int) ∧ (us.length : Nat) ≤ 1099511627776) ∧ n = ((us.length : Nat) : Int) ∧ G.fewU us = true := by simp [G.prePickL2, preA_iff]
def G.scPickL2 (s : ByteArray) (w : Bool) (us : Units) (i : Int) : Option (Int × Int × Bool × Unit) := G.scan (G.pickAt w us s) (us.length) i
noncomputable abbrev lsPickL2 : LSpec := ⟨[1, 8, 18, 19, 20, 4, 5, 6], [4, 5, 6], [StrP, BoolP, UnitsSP, IntP, IntP, IntP, IntP, BoolP], [IntP, IntP, BoolP], false, fun x => G.prePickL2 x.1 x.2.1 x.2.2.1 x.2.2.2.1 x.2.2.2.2.1,
  fun x => ((G.flag 1 (G.scPickL2 x.1 x.2.1 x.2.2.1 x.2.2.2.2.1), G.got (G.scPickL2 x.1 x.2.1 x.2.2.1 x.2.2.2.2.1) (x.2.2.2.2.2.1, x.2.2.2.2.2.2.1, x.2.2.2.2.2.2.2.1, ())), ())⟩
noncomputable abbrev clPickL2 : Cx := mkCx T0 pk4 [(2, lsPickL2)] [] 43
theorem rPickL2 (s : ByteArray) (w : Bool) (us : Units) (n : Int) (i : Int) (r4 : Int) (r5 : Int) (r6 : Bool) : roundK clPickL2 2 (loopIn Go.Proofs.Try.f67 2) lsPickL2 (s, w, us, n, i, r4, r5, r6, ()) =
  (if Decidable.decide (i < n) = Bool.true then
    if Decidable.decide ((0 : Int) ≤ i) = Bool.true then
      if Decidable.decide (i < (↑(List.length us) : Int)) = Bool.true then
        if Go.Rx.G.few (List.length (List.getD us (Int.toNat i) ([], PUnit.unit)).1) = Bool.true then
          if Decidable.decide (Go.Rx.G.find (List.getD us (Int.toNat i) ([], PUnit.unit)).1 s ≥ (0 : Int)) = Bool.true then
            if Decidable.decide ((0 : Int) ≤ Go.Rx.G.find (List.getD us (Int.toNat i) ([], PUnit.unit)).1 s) = Bool.true then
              if
                  Decidable.decide
                      (Go.Rx.G.find (List.getD us (Int.toNat i) ([], PUnit.unit)).1 s < (↑(List.length (List.getD us (Int.toNat i) ([], PUnit.unit)).1) : Int)) =
                    Bool.true then
                if
                    Decidable.decide
                        ((List.getD (List.getD us (Int.toNat i) ([], PUnit.unit)).1 (Int.toNat (Go.Rx.G.find (List.getD us (Int.toNat i) ([], PUnit.unit)).1 s))
                                (ByteArray.empty, Bool.false, [], PUnit.unit)).2.1 =
                          w) =
                      Bool.true then
                  Option.some (Go.Rx.LRes.stop (1 : Nat) (i, Go.Rx.G.find (List.getD us (Int.toNat i) ([], PUnit.unit)).1 s, Bool.true, PUnit.unit) PUnit.unit)
                else
                  Option.some
                    (Go.Rx.LRes.go (s, w, us, n, Go.IntKind.wrap Go.IntKind.i64 (i + (1 : Int)), r4, r5, r6, PUnit.unit))
              else Option.none
            else Option.none
          else Option.some (Go.Rx.LRes.go (s, w, us, n, Go.IntKind.wrap Go.IntKind.i64 (i + (1 : Int)), r4, r5, r6, PUnit.unit))
        else Option.none
      else Option.none
    else Option.none
  else Option.some (Go.Rx.LRes.stop (0 : Nat) (r4, r5, r6, PUnit.unit) PUnit.unit)) := by kernel_rfl
noncomputable abbrev muPickL2 : PKs.den lsPickL2.ins → Nat := fun x => (x.2.2.1.length) - x.2.2.2.2.1.toNat
theorem stPickL2 (s : ByteArray) (w : Bool) (us : Units) (n : Int) (i : Int) (r4 : Int) (r5 : Int) (r6 : Bool) (h : G.prePickL2 s w us n i = true) : StepOk lsPickL2 (eqInv lsPickL2) muPickL2 (s, w, us, n, i, r4, r5, r6, ()) (roundK clPickL2 2 (loopIn Go.Proofs.Try.f67 2) lsPickL2 (s, w, us, n, i, r4, r5, r6, ())) := by
  obtain ⟨⟨h0, h1, h2⟩, hn, hc⟩ := prePickL2_iff.1 h
  subst hn
  rw [rPickL2]
  by_cases hi : i < ((us.length : Nat) : Int)
  · have hw : IntKind.i64.wrap (i + 1) = i + 1 := w64 (by omega) (by omega)
    have hs : G.scPickL2 s w us i = ((G.pickAt w us s) i.toNat).or (G.scPickL2 s w us (i + 1)) := scan_step h0 (by omega)
    refine scan_stop (fl := 1) (eqInv lsPickL2) muPickL2 (s, w, us, ((us.length : Nat) : Int), i + 1, r4, r5, r6, ()) ((G.pickAt w us s) i.toNat) () ?_ (fun ho => ⟨(show G.prePickL2 s w us ((us.length : Nat) : Int) (i + 1) = true from prePickL2_iff.2 ⟨⟨by omega, by omega, h2⟩, rfl, hc⟩), ?_, ?_⟩) (fun w ho => ?_)
    · have hf := fewU_at hc (show i.toNat < us.length by omega)
      rw [hw, if_pos (decide_eq_true hi), if_pos (decide_eq_true h0), if_pos (decide_eq_true hi), unitAt_eq2, if_pos hf]
      by_cases c : G.find (G.unitAt us i.toNat) s < 0
      · rw [if_neg (by simpa using c), show G.pickAt w us s i.toNat = none from if_neg fun e => e.1 c]
        rfl
      · obtain ⟨f1, f2, f3, f4⟩ := find_ok c
        rw [if_pos (decide_eq_true (by omega)), if_pos (decide_eq_true f3), if_pos (decide_eq_true f4), pAt_eq]
        by_cases c2 : (G.pAt (G.unitAt us i.toNat) (G.find (G.unitAt us i.toNat) s).toNat).2.1 = w
        · rw [if_pos (decide_eq_true c2), show G.pickAt w us s i.toNat = some ((i.toNat : Int), G.find (G.unitAt us i.toNat) s, true, ()) from if_pos ⟨c, c2⟩, nat_int h0]
          rfl
        · rw [if_neg (by simpa using c2), show G.pickAt w us s i.toNat = none from if_neg fun e => c2 e.2]
          rfl
    · show (us.length) - (i + 1).toNat < (us.length) - i.toNat
      omega
    · show ((_, _), _) = ((_, _), _)
      simp only [hs, ho, Option.none_or]
    · show ((_, _), _) = ((_, _), _)
      simp only [hs, ho, Option.some_or]
      rfl
  · have hs : G.scPickL2 s w us i = none := scan_end (by omega)
    skip
    rw [if_neg (by simpa using hi)]
    show ((_, _), _) = ((_, _), _)
    simp only [hs]
    rfl
theorem lpPickL2 : LpOk Go.Proofs.Try.prog clPickL2.ntmps 2 (loopIn Go.Proofs.Try.f67 2) lsPickL2 :=
  lp_okB (cxOk T0_ok T0_eq pk4_ok) mixed (by kernel_rfl) (lps_none (by kernel_rfl)) (eqInv lsPickL2) muPickL2 (fun _ h => h) (fun x h => stPickL2 x.1 x.2.1 x.2.2.1 x.2.2.2.1 x.2.2.2.2.1 x.2.2.2.2.2.1 x.2.2.2.2.2.2.1 x.2.2.2.2.2.2.2.1 h)
def G.wAt (ws : Bools) (k : Nat) : Bool := (ws.getD k (false, ())).1
def G.pickW (us : Units) (s : ByteArray) (ws : Bools) (k : Nat) : Option PickR := G.scPickL2 s (G.wAt ws k) us 0
/-! PickL0: a search -/
def G.prePickL0 (us : Units) (s : ByteArray) (ws : Bools) (n : Int) (i : Int) : Bool := G.preA (ws.length) i && (decide (n = ((ws.length : Nat) : Int)) && (G.fewU us))
theorem prePickL0_iff {us : Units} {s : ByteArray} {ws : Bools} {n : Int} {i : Int} : G.prePickL0 us s ws n i = true ↔ (0 ≤ i ∧ i ≤ ((ws.length : Nat) : Int) ∧ (ws.length : Nat) ≤ 1099511627776) ∧ n = ((ws.length : Nat) : Int) ∧ G.fewU us = true := by simp [G.prePickL0, preA_iff]
def G.scPickL0 (us : Units) (s : ByteArray) (ws : Bools) (i : Int) : Option (Int × Int × Bool × Unit) := G.scan (G.pickW us s ws) (ws.length) i
noncomputable abbrev lsPickL0 : LSpec := ⟨[0, 1, 12, 13, 14, 4, 5, 6], [4, 5, 6], [UnitsSP, StrP, .c (.dat (.sl boolT)), IntP, IntP, IntP, IntP, BoolP], [IntP, IntP, BoolP], false, fun x => G.prePickL0 x.1 x.2.1 x.2.2.1 x.2.2.2.1 x.2.2.2.2.1,
  fun x => ((G.flag 1 (G.scPickL0 x.1 x.2.1 x.2.2.1 x.2.2.2.2.1), G.got (G.scPickL0 x.1 x.2.1 x.2.2.1 x.2.2.2.2.1) (x.2.2.2.2.2.1, x.2.2.2.2.2.2.1, x.2.2.2.2.2.2.2.1, ())), ())⟩
noncomputable abbrev clPickL0 : Cx := mkCx T0 pk4 [(2, lsPickL2), (0, lsPickL0)] [] 43
theorem rPickL0 (us : Units) (s : ByteArray) (ws : Bools) (n : Int) (i : Int) (r4 : Int) (r5 : Int) (r6 : Bool) : roundK clPickL0 0 (loopIn Go.Proofs.Try.f67 0) lsPickL0 (us, s, ws, n, i, r4, r5, r6, ()) =
  (if Decidable.decide (i < n) = Bool.true then
    if Decidable.decide ((0 : Int) ≤ i) = Bool.true then
      if Decidable.decide (i < (↑(List.length ws) : Int)) = Bool.true then
        if Go.Rx.G.prePickL2 s (List.getD ws (Int.toNat i) (Bool.false, PUnit.unit)).1 us (↑(List.length us) : Int) (0 : Int) = Bool.true then
          if Go.Rx.G.flag (1 : Nat) (Go.Rx.G.scPickL2 s (List.getD ws (Int.toNat i) (Bool.false, PUnit.unit)).1 us (0 : Int)) = (0 : Nat) then
            Option.some
              (Go.Rx.LRes.go
                (us, s, ws, n, Go.IntKind.wrap Go.IntKind.i64 (i + (1 : Int)),
                  Go.Rx.G.got (Go.Rx.G.scPickL2 s (List.getD ws (Int.toNat i) (Bool.false, PUnit.unit)).1 us (0 : Int))
                    (r4, r5, r6, PUnit.unit)))
          else
            if Go.Rx.G.flag (1 : Nat) (Go.Rx.G.scPickL2 s (List.getD ws (Int.toNat i) (Bool.false, PUnit.unit)).1 us (0 : Int)) = (1 : Nat) then
              Option.some
                (Go.Rx.LRes.stop (1 : Nat)
                  (Go.Rx.G.got (Go.Rx.G.scPickL2 s (List.getD ws (Int.toNat i) (Bool.false, PUnit.unit)).1 us (0 : Int))
                    (r4, r5, r6, PUnit.unit))
                  PUnit.unit)
            else
              bif Nat.beq (Go.Rx.G.flag (1 : Nat) (Go.Rx.G.scPickL2 s (List.getD ws (Int.toNat i) (Bool.false, PUnit.unit)).1 us (0 : Int)) - (2 : Nat)) (1 : Nat) then
                Option.some
                  (Go.Rx.LRes.go
                    (us, s, ws, n, Go.IntKind.wrap Go.IntKind.i64 (i + (1 : Int)),
                      Go.Rx.G.got (Go.Rx.G.scPickL2 s (List.getD ws (Int.toNat i) (Bool.false, PUnit.unit)).1 us (0 : Int))
                        (r4, r5, r6, PUnit.unit)))
              else
                bif Nat.beq (Go.Rx.G.flag (1 : Nat) (Go.Rx.G.scPickL2 s (List.getD ws (Int.toNat i) (Bool.false, PUnit.unit)).1 us (0 : Int)) - (2 : Nat)) (0 : Nat) then
                  Option.some
                    (Go.Rx.LRes.stop (0 : Nat)
                      (Go.Rx.G.got (Go.Rx.G.scPickL2 s (List.getD ws (Int.toNat i) (Bool.false, PUnit.unit)).1 us (0 : Int))
                        (r4, r5, r6, PUnit.unit))
                      PUnit.unit)
                else
                  Option.some
                    (Go.Rx.LRes.stop (Go.Rx.G.flag (1 : Nat) (Go.Rx.G.scPickL2 s (List.getD ws (Int.toNat i) (Bool.false, PUnit.unit)).1 us (0 : Int)) - (2 : Nat) + (2 : Nat))
                      (Go.Rx.G.got (Go.Rx.G.scPickL2 s (List.getD ws (Int.toNat i) (Bool.false, PUnit.unit)).1 us (0 : Int))
                        (r4, r5, r6, PUnit.unit))
                      PUnit.unit)
        else Option.none
      else Option.none
    else Option.none
  else Option.some (Go.Rx.LRes.stop (0 : Nat) (r4, r5, r6, PUnit.unit) PUnit.unit)) := by kernel_rfl
noncomputable abbrev muPickL0 : PKs.den lsPickL0.ins → Nat := fun x => (x.2.2.1.length) - x.2.2.2.2.1.toNat
theorem stPickL0 (us : Units) (s : ByteArray) (ws : Bools) (n : Int) (i : Int) (r4 : Int) (r5 : Int) (r6 : Bool) (h : G.prePickL0 us s ws n i = true) : StepOk lsPickL0 (eqInv lsPickL0) muPickL0 (us, s, ws, n, i, r4, r5, r6, ()) (roundK clPickL0 0 (loopIn Go.Proofs.Try.f67 0) lsPickL0 (us, s, ws, n, i, r4, r5, r6, ())) := by
  obtain ⟨⟨h0, h1, h2⟩, hn, hc⟩ := prePickL0_iff.1 h
  subst hn
  rw [rPickL0]
  by_cases hi : i < ((ws.length : Nat) : Int)
  · have hw : IntKind.i64.wrap (i + 1) = i + 1 := w64 (by omega) (by omega)
    have hs : G.scPickL0 us s ws i = ((G.pickW us s ws) i.toNat).or (G.scPickL0 us s ws (i + 1)) := scan_step h0 (by omega)
    refine scan_stop (fl := 1) (eqInv lsPickL0) muPickL0 (us, s, ws, ((ws.length : Nat) : Int), i + 1, r4, r5, r6, ()) ((G.pickW us s ws) i.toNat) () ?_ (fun ho => ⟨(show G.prePickL0 us s ws ((ws.length : Nat) : Int) (i + 1) = true from prePickL0_iff.2 ⟨⟨by omega, by omega, h2⟩, rfl, hc⟩), ?_, ?_⟩) (fun w ho => ?_)
    · have hpre : G.prePickL2 s (G.wAt ws i.toNat) us (us.length : Int) 0 = true := prePickL2_iff.2 ⟨⟨by omega, by omega, fewU_len hc⟩, rfl, hc⟩
      rw [hw, if_pos (decide_eq_true hi), if_pos (decide_eq_true h0), if_pos (decide_eq_true hi), show (List.getD ws i.toNat (false, ())).1 = G.wAt ws i.toNat from rfl, if_pos hpre]
      unfold G.pickW
      cases G.scPickL2 s (G.wAt ws i.toNat) us 0 <;> rfl
    · show (ws.length) - (i + 1).toNat < (ws.length) - i.toNat
      omega
    · show ((_, _), _) = ((_, _), _)
      simp only [hs, ho, Option.none_or]
    · show ((_, _), _) = ((_, _), _)
      simp only [hs, ho, Option.some_or]
      rfl
  · have hs : G.scPickL0 us s ws i = none := scan_end (by omega)
    skip
    rw [if_neg (by simpa using hi)]
    show ((_, _), _) = ((_, _), _)
    simp only [hs]
    rfl
theorem lpPickL0 : LpOk Go.Proofs.Try.prog clPickL0.ntmps 0 (loopIn Go.Proofs.Try.f67 0) lsPickL0 :=
  lp_okB (cxOk T0_ok T0_eq pk4_ok) mixed (by kernel_rfl) (lps_of (l := [(2, loopIn Go.Proofs.Try.f67 2)]) (by kernel_rfl) ⟨lp_at lpPickL2 rfl, trivial⟩) (eqInv lsPickL0) muPickL0 (fun _ h => h) (fun x h => stPickL0 x.1 x.2.1 x.2.2.1 x.2.2.2.1 x.2.2.2.2.1 x.2.2.2.2.2.1 x.2.2.2.2.2.2.1 x.2.2.2.2.2.2.2.1 h)
def G.at3' (us : Units) (s : ByteArray) : Int × Int × Bool × Unit := ((G.at3 us s).1, (G.at3 us s).2.1, (G.at3 us s).2.2, ())
def G.optL (o : Option (Int × Int)) (a b : Int) : Int × Int × Bool := match o with
  | some (x, y) => (x, y, true)
  | none => if a < 0 then (0, 0, false) else (a, b, true)
def G.pickRes (o : Option PickR) : Int × Int × Bool := match o with
  | some (x, y, z, _) => (x, y, z)
  | none => (0, 0, false)
theorem at3_pick (s : ByteArray) : ∀ (n : Nat) (us : Units) (i : Nat) (a b : Int), us.length - i ≤ n → ((a < 0 → G.optL (G.at3F s us (i : Int) a b).1 (G.at3F s us (i : Int) a b).2.1 (G.at3F s us (i : Int) a b).2.2 = G.pickRes ((G.scPickL2 s false us (i : Int)).or (G.scPickL2 s true us (i : Int)))) ∧
    (0 ≤ a → G.optL (G.at3F s us (i : Int) a b).1 (G.at3F s us (i : Int) a b).2.1 (G.at3F s us (i : Int) a b).2.2 = G.pickRes ((G.scPickL2 s false us (i : Int)).or (some (a, b, true, ())))))
  | 0, us, i, a, b, hn => by
    have e1 : ∀ w, G.scPickL2 s w us (i : Int) = none := fun w => scan_end (by omega)
    rw [at3F_end (by omega), e1, e1]
    constructor
    · intro ha
      show (if a < 0 then _ else _) = _
      rw [if_pos ha]
      rfl
    · intro ha
      show (if a < 0 then _ else _) = _
      rw [if_neg (by omega)]
      rfl
  | n + 1, us, i, a, b, hn => by
    by_cases hi : i < us.length
    · have e1 : ∀ w, G.scPickL2 s w us (i : Int) = (G.pickAt w us s i).or (G.scPickL2 s w us ((i + 1 : Nat) : Int)) := fun w => scan_step (by omega) (by omega)
      rw [at3F_step (by omega) (by omega), e1, e1, show ((i : Nat) : Int).toNat = i by omega]
      have ih := at3_pick s n us (i + 1)
      by_cases c : G.find (G.unitAt us i) s < 0
      · have e2 : ∀ w, G.pickAt w us s i = none := fun w => if_neg fun e => e.1 c
        rw [if_pos c, e2, e2, Option.none_or, Option.none_or]
        exact ih a b (by omega)
      · rw [if_neg c]
        by_cases c2 : (G.pAt (G.unitAt us i) (G.find (G.unitAt us i) s).toNat).2.1 = false
        · have e2 : G.pickAt false us s i = some ((i : Int), G.find (G.unitAt us i) s, true, ()) := if_pos ⟨c, c2⟩
          rw [if_pos c2, e2]
          exact ⟨fun _ => rfl, fun _ => rfl⟩
        · have e2 : G.pickAt false us s i = none := if_neg fun e => c2 e.2
          have e3 : G.pickAt true us s i = some ((i : Int), G.find (G.unitAt us i) s, true, ()) := if_pos ⟨c, by simpa using c2⟩
          rw [if_neg c2, e2, e3, Option.none_or]
          constructor
          · intro ha
            rw [if_pos ha]
            have := (ih (i : Int) (G.find (G.unitAt us i) s) (by omega)).2 (by omega)
            rw [Option.some_or]
            exact this
          · intro ha
            rw [if_neg (by omega)]
            exact (ih a b (by omega)).2 ha
    · have e1 : ∀ w, G.scPickL2 s w us (i : Int) = none := fun w => scan_end (by omega)
      rw [at3F_end (by omega), e1, e1]
      constructor
      · intro ha
        show (if a < 0 then _ else _) = _
        rw [if_pos ha]
        rfl
      · intro ha
        show (if a < 0 then _ else _) = _
        rw [if_neg (by omega)]
        rfl
theorem at3_opt (us : Units) (s : ByteArray) : G.at3 us s = G.optL (G.at3F s us 0 (-1) (-1)).1 (G.at3F s us 0 (-1) (-1)).2.1 (G.at3F s us 0 (-1) (-1)).2.2 := by
  unfold G.at3 G.optL
  rcases G.at3F s us 0 (-1) (-1) with ⟨_ | ⟨p, q⟩, a, b⟩ <;> rfl
/-! Pick2 -/
noncomputable abbrev spPick2 : Spec := ⟨[UnitsSP, StrP], .tup [IntP, IntP, BoolP], false, fun x => G.fewU x.1, fun x => (((G.at3 x.1 x.2.1).1, (G.at3 x.1 x.2.1).2.1, (G.at3 x.1 x.2.1).2.2, ()), ())⟩
noncomputable abbrev cxPick2 : Cx := mkCx T0 pk4 [(0, lsPickL0)] [] 43
theorem ePick2 (us : Units) (s : ByteArray) : funK cxPick2 Go.Proofs.Try.f67 spPick2.ins spPick2.out (us, s, ()) =
  (if Go.Rx.G.prePickL0 us s [(Bool.false, PUnit.unit), (Bool.true, PUnit.unit)] (2 : Int) (0 : Int) = Bool.true then
    if Go.Rx.G.flag (1 : Nat) (Go.Rx.G.scPickL0 us s [(Bool.false, PUnit.unit), (Bool.true, PUnit.unit)] (0 : Int)) = (0 : Nat) then Option.some (((0 : Int), (0 : Int), Bool.false, PUnit.unit), PUnit.unit)
    else
      if Go.Rx.G.flag (1 : Nat) (Go.Rx.G.scPickL0 us s [(Bool.false, PUnit.unit), (Bool.true, PUnit.unit)] (0 : Int)) = (1 : Nat) then
        Option.some (Go.Rx.G.got (Go.Rx.G.scPickL0 us s [(Bool.false, PUnit.unit), (Bool.true, PUnit.unit)] (0 : Int)) ((0 : Int), (0 : Int), Bool.false, PUnit.unit), PUnit.unit)
      else Option.none
  else Option.none) := by kernel_rfl
theorem sfPick2 (us : Units) (s : ByteArray) (h : G.fewU us = true) : funK cxPick2 Go.Proofs.Try.f67 spPick2.ins spPick2.out (us, s, ()) = some (((G.at3 us s).1, (G.at3 us s).2.1, (G.at3 us s).2.2, ()), ()) := by
  have e : G.scPickL0 us s [(false, ()), (true, ())] 0 = (G.scPickL2 s false us 0).or (G.scPickL2 s true us 0) := by
    show G.scan (G.pickW us s [(false, ()), (true, ())]) 2 0 = _
    rw [scan_step (by omega) (by omega), scan_step (by omega) (by omega), scan_end (by omega), Option.or_none]
    rfl
  have h3 := (at3_pick s us.length us 0 (-1) (-1) (by omega)).1 (by omega)
  have h3 : G.at3 us s = _ := (at3_opt us s).trans h3
  have hpre : G.prePickL0 us s [(false, ()), (true, ())] 2 0 = true := prePickL0_iff.2 ⟨⟨by omega, by simp, by simp⟩, rfl, h⟩
  rw [ePick2, if_pos hpre, e, h3]
  generalize (G.scPickL2 s false us 0).or (G.scPickL2 s true us 0) = o at h3 ⊢
  rcases o with _ | ⟨x, y, z, u⟩ <;> rfl
theorem okPick2 : SpecOk Go.Proofs.Try.prog 67 spPick2 :=
  fun_okB (cx := cxPick2) (F := Go.Proofs.Try.f67) (cxOk T0_ok T0_eq pk4_ok) mixed (by kernel_rfl) (by decide) (by kernel_rfl) (lps_of (l := [(0, loopIn Go.Proofs.Try.f67 0)]) (by kernel_rfl) ⟨lp_at lpPickL0 rfl, trivial⟩) (fun x h => sfPick2 x.1 x.2.1 h)
noncomputable abbrev pk7 : List (Nat × List Spec) := (67, [spPick2]) :: pk4
theorem pk7_ok : PhiOk Go.Proofs.Try.prog pk7 := ⟨⟨okPick2, trivial⟩, pk4_ok⟩
def G.getU (us : Units) (s : ByteArray) : Fun := if (G.at3 us s).2.2 = true then G.pAt (G.unitAt us (G.at3 us s).1.toNat) (G.at3 us s).2.1.toNat else G.noFun
theorem getU_eq {us : Units} {s : ByteArray} (h : (G.at3 us s).2.2 = true) : G.getU us s = G.pAt (G.unitAt us (G.at3 us s).1.toNat) (G.at3 us s).2.1.toNat := if_pos h
theorem unitAt_mem {us : Units} {k : Nat} (h : k < us.length) : (G.unitAt us k, ()) ∈ us := by
  unfold G.unitAt
  rw [getD_lt _ _ h]
  exact List.getElem_mem h
theorem getU_body {us : Units} (h : G.thinU us = true) (s : ByteArray) : (G.getU us s).2.2.1.length ≤ 16 := by
  unfold G.getU
  split
  · rename_i c
    obtain ⟨g1, g2, g3, g4, _⟩ := at3_ok c
    have h2 := (thinU_iff.1 h).1.2
    rw [List.all_eq_true] at h2
    have h3 := h2 _ (unitAt_mem (show (G.at3 us s).1.toNat < us.length by omega))
    rw [List.all_eq_true] at h3
    exact of_decide_eq_true (h3 _ (pAt_mem (show (G.at3 us s).2.1.toNat < (G.unitAt us (G.at3 us s).1.toNat).length by omega)))
  · exact Nat.zero_le _
/-! KeepGet -/
noncomputable abbrev spKeepGet : Spec := ⟨[StrP, .box [.dat (.sl unitsT)]], .tup [.agg FunK, BoolP], true, fun x => G.fewU x.2.1.1, fun x => ((G.getU x.2.1.1 x.1, (G.at3 x.2.1.1 x.1).2.2, ()), (x.2.1, ()))⟩
noncomputable abbrev cxKeepGet : Cx := mkCx T0 pk7 [] [] 25
theorem eKeepGet (s : ByteArray) (us : Units) : funK cxKeepGet Go.Proofs.Try.f66 spKeepGet.ins spKeepGet.out (s, (us, ()), ()) =
  (if Go.Rx.G.fewU us = Bool.true then
    if (!(Go.Rx.G.at3 us s).2.2) = Bool.true then Option.some (((ByteArray.empty, Bool.false, [], PUnit.unit), Bool.false, PUnit.unit), (us, PUnit.unit), PUnit.unit)
    else
      if Decidable.decide ((0 : Int) ≤ (Go.Rx.G.at3 us s).1) = Bool.true then
        if Decidable.decide ((Go.Rx.G.at3 us s).1 < (↑(List.length us) : Int)) = Bool.true then
          if Decidable.decide ((0 : Int) ≤ (Go.Rx.G.at3 us s).2.1) = Bool.true then
            if Decidable.decide ((Go.Rx.G.at3 us s).2.1 < (↑(List.length (List.getD us (Int.toNat (Go.Rx.G.at3 us s).1) ([], PUnit.unit)).1) : Int)) = Bool.true then
              Option.some
                ((List.getD (List.getD us (Int.toNat (Go.Rx.G.at3 us s).1) ([], PUnit.unit)).1 (Int.toNat (Go.Rx.G.at3 us s).2.1)
                      (ByteArray.empty, Bool.false, [], PUnit.unit),
                    Bool.true, PUnit.unit),
                  (us, PUnit.unit), PUnit.unit)
            else Option.none
          else Option.none
        else Option.none
      else Option.none
  else Option.none) := by kernel_rfl
theorem sfKeepGet (s : ByteArray) (us : Units) (h : G.fewU us = true) : funK cxKeepGet Go.Proofs.Try.f66 spKeepGet.ins spKeepGet.out (s, (us, ()), ()) = some ((G.getU us s, (G.at3 us s).2.2, ()), ((us, ()), ())) := by
  rw [eKeepGet, if_pos h]
  unfold G.getU
  cases c : (G.at3 us s).2.2 with
  | false => rfl
  | true =>
    obtain ⟨g1, g2, g3, g4, _⟩ := at3_ok c
    rw [if_neg (by decide), if_pos (decide_eq_true g1), if_pos (decide_eq_true g2), unitAt_eq2, if_pos (decide_eq_true g3), if_pos (decide_eq_true g4)]
    rfl
theorem okKeepGet : SpecOk Go.Proofs.Try.prog 66 spKeepGet :=
  fun_okB (cx := cxKeepGet) (F := Go.Proofs.Try.f66) (cxOk T0_ok T0_eq pk7_ok) mixed (by kernel_rfl) (by decide) (by kernel_rfl) (lps_none (by kernel_rfl)) (fun x h => sfKeepGet x.1 x.2.1.1 h)
noncomputable abbrev pk8 : List (Nat × List Spec) := (66, [spKeepGet]) :: pk7
theorem pk8_ok : PhiOk Go.Proofs.Try.prog pk8 := ⟨⟨okKeepGet, trivial⟩, pk7_ok⟩
abbrev GetU : PK := .fn 66 [[.dat (.sl unitsT)]]
def G.rkPreU (us : Units) (names : Strs) (there : List ByteArray) (out : Funs) (i : Int) : Bool := G.thinU us && decide (there = names.map (fun x => x.1) ∧ 0 ≤ i ∧ i ≤ (names.length : Int) ∧ (out.length : Int) ≤ i ∧ (names.length : Int) ≤ 1 + 16 * i ∧ names.Nodup ∧ ∀ j, j < i.toNat → (G.at3 us (G.sAt names j)).2.2 = true)
noncomputable abbrev lsRchU : LSpec := ⟨[1, 4, 5, 6, 7, 8, 9], [4, 5, 8], [GetU, FunsO, BoolP, .c (.own strT), .c .map, FunsO, IntP], [FunsO, BoolP, FunsO], true, fun x => G.rkPreU x.1.1.1 x.2.2.2.1 x.2.2.2.2.1 x.2.2.2.2.2.1 x.2.2.2.2.2.2.1,
  fun x => ((if (G.walkX x.1.1.1 x.2.2.2.1 x.2.2.2.2.2.1 x.2.2.2.2.2.2.1.toNat).2 = true then 0 else 1, (if (G.walkX x.1.1.1 x.2.2.2.1 x.2.2.2.2.2.1 x.2.2.2.2.2.2.1.toNat).2 = true then x.2.1 else [], if (G.walkX x.1.1.1 x.2.2.2.1 x.2.2.2.2.2.1 x.2.2.2.2.2.2.1.toNat).2 = true then x.2.2.1 else false, (G.walkX x.1.1.1 x.2.2.2.1 x.2.2.2.2.2.1 x.2.2.2.2.2.2.1.toNat).1, ())), (x.1, ()))⟩
noncomputable abbrev cxRchUL : Cx := mkCx T0 pk8 [(2, lsRchL2)] [] 60
theorem rRchU (us : Units) (r4 : Funs) (r5 : Bool) (names : Strs) (there : List ByteArray) (out : Funs) (i : Int) : roundK cxRchUL 0 (loopIn Go.Proofs.Try.f65 0) lsRchU (((us, ()), ()), r4, r5, names, there, out, i, ()) =
  (if Decidable.decide (i < (↑(List.length names) : Int)) = Bool.true then
    if Decidable.decide ((0 : Int) ≤ i) = Bool.true then
      if Decidable.decide (i < (↑(List.length names) : Int)) = Bool.true then
        if Decidable.decide (Int.toNat i < List.length names) = Bool.true then
          if Go.Rx.G.fewU us = Bool.true then
            if (!(Go.Rx.G.at3 us (List.getD names (Int.toNat i) (ByteArray.empty, PUnit.unit)).1).2.2) = Bool.true then
              Option.some (Go.Rx.LRes.stop (1 : Nat) ([], Bool.false, out, PUnit.unit) (((us, PUnit.unit), PUnit.unit), PUnit.unit))
            else
              if Go.Rx.G.few (List.length (Go.Rx.G.getU us (List.getD names (Int.toNat i) (ByteArray.empty, PUnit.unit)).1).2.2.1) = Bool.true then
                if Go.Rx.okSize (48 : Nat) (List.length out + (1 : Nat)) = Bool.true then
                  if Go.Rx.G.few (List.length (Go.Rx.G.getU us (List.getD names (Int.toNat i) (ByteArray.empty, PUnit.unit)).1).2.2.1) = Bool.true then
                    if
                        Go.Rx.G.preRchL2 (Go.Rx.G.refsOf (Go.Rx.G.getU us (List.getD names (Int.toNat i) (ByteArray.empty, PUnit.unit)).1).2.2.1)
                            (↑(List.length (Go.Rx.G.refsOf (Go.Rx.G.getU us (List.getD names (Int.toNat i) (ByteArray.empty, PUnit.unit)).1).2.2.1)) : Int) (0 : Int) names there =
                          Bool.true then
                      Option.some
                        (Go.Rx.LRes.go
                          (((us, PUnit.unit), PUnit.unit), r4, r5,
                            (Go.Rx.G.fdRchL2 (Go.Rx.G.refsOf (Go.Rx.G.getU us (List.getD names (Int.toNat i) (ByteArray.empty, PUnit.unit)).1).2.2.1) (0 : Int)
                                (names, there, PUnit.unit)).1,
                            (Go.Rx.G.fdRchL2 (Go.Rx.G.refsOf (Go.Rx.G.getU us (List.getD names (Int.toNat i) (ByteArray.empty, PUnit.unit)).1).2.2.1) (0 : Int)
                                  (names, there, PUnit.unit)).2.1,
                            out ++ [Go.Rx.G.getU us (List.getD names (Int.toNat i) (ByteArray.empty, PUnit.unit)).1], Go.IntKind.wrap Go.IntKind.i64 (i + (1 : Int)), PUnit.unit))
                    else Option.none
                  else Option.none
                else Option.none
              else Option.none
          else Option.none
        else Option.none
      else Option.none
    else Option.none
  else Option.some (Go.Rx.LRes.stop (0 : Nat) (r4, r5, out, PUnit.unit) (((us, PUnit.unit), PUnit.unit), PUnit.unit))) := by kernel_rfl
noncomputable abbrev muRchU : PKs.den lsRchU.ins → Nat := fun x => G.total x.1.1.1 + 1 - x.2.2.2.2.2.2.1.toNat
theorem rkPreU_iff {us : Units} {names : Strs} {there : List ByteArray} {out : Funs} {i : Int} : G.rkPreU us names there out i = true ↔ (G.thinU us = true ∧ there = names.map (fun x => x.1) ∧ 0 ≤ i ∧ i ≤ (names.length : Int) ∧ (out.length : Int) ≤ i ∧ (names.length : Int) ≤ 1 + 16 * i ∧ names.Nodup ∧ ∀ j, j < i.toNat → (G.at3 us (G.sAt names j)).2.2 = true) := by
  unfold G.rkPreU
  rw [Bool.and_eq_true, decide_eq_true_iff]
theorem stRchU (us : Units) (r4 : Funs) (r5 : Bool) (names : Strs) (there : List ByteArray) (out : Funs) (i : Int) (h : G.rkPreU us names there out i = true) : StepOk lsRchU (eqInv lsRchU) muRchU (((us, ()), ()), r4, r5, names, there, out, i, ()) (roundK cxRchUL 0 (loopIn Go.Proofs.Try.f65 0) lsRchU (((us, ()), ()), r4, r5, names, there, out, i, ())) := by
  obtain ⟨h1, rfl, h4, h5, h6, h7, h8, h9⟩ := rkPreU_iff.1 h
  have hlen := (thinU_iff.1 h1).2
  have hle := found_le h8 (show i.toNat ≤ names.length by omega) h9
  have hw : G.walkX us names out i.toNat = G.walk us ((G.total us - i.toNat) + 1) names out i.toNat := by
    unfold G.walkX
    rw [show G.total us + 1 - i.toNat = (G.total us - i.toNat) + 1 by omega]
  rw [walk_succ] at hw
  have hfu := (thinU_iff.1 h1).1.1
  rw [rRchU, sAt_eq]
  by_cases hi : i < (names.length : Int)
  · have hin : i.toNat < names.length := by omega
    rw [if_pos hin] at hw
    rw [if_pos (decide_eq_true hi), if_pos (decide_eq_true h4), if_pos (decide_eq_true hi), if_pos (decide_eq_true hin), if_pos hfu]
    cases ho : (G.at3 us (G.sAt names i.toNat)).2.2 with
    | false =>
      rw [ho, if_neg (by decide)] at hw
      rw [if_pos (by rfl)]
      show ((if (G.walkX us names out i.toNat).2 = true then 0 else 1, (if (G.walkX us names out i.toNat).2 = true then r4 else [], if (G.walkX us names out i.toNat).2 = true then r5 else false, (G.walkX us names out i.toNat).1, ())), (((us, ()), ()), ())) = _
      rw [hw]
      rfl
    | true =>
      rw [ho, if_pos rfl] at hw
      have hb := getU_body h1 (G.sAt names i.toNat)
      rw [if_neg (by decide)]
      rw [← getU_eq ho] at hw
      generalize G.getU us (G.sAt names i.toNat) = f at hw hb ⊢
      have hrl := refsOf_len f.2.2.1
      have hle1 := found_le (i := i.toNat + 1) h8 (by omega) fun j hj => by
        by_cases hji : j = i.toNat
        · rw [hji]
          exact ho
        · exact h9 j (by omega)
      have hp2 : G.preRchL2 (G.refsOf f.2.2.1) ((G.refsOf f.2.2.1).length : Int) 0 names (names.map fun x => x.1) = true := preRchL2_iff.2 ⟨⟨by omega, by omega, by omega⟩, rfl, decide_eq_true ⟨by omega, by omega⟩⟩
      rw [if_pos (few_iff.2 (by omega)), if_pos (okSize_few (by omega) (by omega)), if_pos (few_iff.2 (by omega)), if_pos hp2, w64 (by omega) (by omega), rch_all]
      obtain ⟨ext, x1, x2, x3⟩ := addAll_ext (G.refsOf f.2.2.1) names
      have e1 : (i + 1).toNat = i.toNat + 1 := by omega
      refine ⟨(show G.rkPreU us (G.addAll (G.refsOf f.2.2.1) names) ((G.addAll (G.refsOf f.2.2.1) names).map fun x => x.1) (out ++ [f]) (i + 1) = true from rkPreU_iff.2 ⟨h1, rfl, by omega, ?_, ?_, ?_, ?_, ?_⟩), ?_, ?_⟩
      · rw [x1, List.length_append]
        omega
      · simp
        omega
      · rw [x1, List.length_append]
        omega
      · rw [x1]
        exact x3 h8
      · intro j hj
        rw [e1] at hj
        rw [x1, sAt_append (by omega)]
        by_cases hji : j = i.toNat
        · rw [hji]
          exact ho
        · exact h9 j (by omega)
      · show G.total us + 1 - (i + 1).toNat < G.total us + 1 - i.toNat
        omega
      · have hx : G.walkX us (G.addAll (G.refsOf f.2.2.1) names) (out ++ [f]) (i + 1).toNat = G.walkX us names out i.toNat := by
          rw [hw, e1]
          unfold G.walkX
          rw [show G.total us + 1 - (i.toNat + 1) = G.total us - i.toNat by omega]
        show ((if (G.walkX us (G.addAll (G.refsOf f.2.2.1) names) (out ++ [f]) (i + 1).toNat).2 = true then 0 else 1, (if (G.walkX us (G.addAll (G.refsOf f.2.2.1) names) (out ++ [f]) (i + 1).toNat).2 = true then r4 else [], if (G.walkX us (G.addAll (G.refsOf f.2.2.1) names) (out ++ [f]) (i + 1).toNat).2 = true then r5 else false, (G.walkX us (G.addAll (G.refsOf f.2.2.1) names) (out ++ [f]) (i + 1).toNat).1, ())), (((us, ()), ()), ())) = _
        rw [hx]
  · rw [if_neg (by omega)] at hw
    rw [if_neg (by simpa using hi)]
    show ((if (G.walkX us names out i.toNat).2 = true then 0 else 1, (if (G.walkX us names out i.toNat).2 = true then r4 else [], if (G.walkX us names out i.toNat).2 = true then r5 else false, (G.walkX us names out i.toNat).1, ())), (((us, ()), ()), ())) = _
    rw [hw]
    rfl
theorem lpRchU : LpOk Go.Proofs.Try.prog cxRchUL.ntmps 0 (loopIn Go.Proofs.Try.f65 0) lsRchU :=
  lp_okB (cx := cxRchUL) (cxOk T0_ok T0_eq pk8_ok) mixed (by kernel_rfl) (lps_of (l := [(2, loopIn Go.Proofs.Try.f65 2)]) (by kernel_rfl) ⟨lp_at lpRchL2 rfl, trivial⟩) (eqInv lsRchU) muRchU (fun _ h => h) (fun x h => stRchU x.1.1.1 x.2.1 x.2.2.1 x.2.2.2.1 x.2.2.2.2.1 x.2.2.2.2.2.1 x.2.2.2.2.2.2.1 h)
/-! ReachedU -/
noncomputable abbrev spReachedU : Spec := ⟨[StrP, GetU], .tup [FunsO, BoolP], true, fun x => G.thinU x.2.1.1.1, fun x => ((if (G.walkF x.2.1.1.1 x.1).2 = true then (G.walkF x.2.1.1.1 x.1).1 else [], (G.walkF x.2.1.1.1 x.1).2, ()), (x.2.1, ()))⟩
noncomputable abbrev cxReachedU : Cx := mkCx T0 pk8 [(0, lsRchU)] [] 60
theorem eReachedU (s : ByteArray) (us : Units) : funK cxReachedU Go.Proofs.Try.f65 spReachedU.ins spReachedU.out (s, ((us, ()), ()), ()) =
  (if Go.Rx.G.rkPreU us [(s, PUnit.unit)] (bif Go.Rx.hasK s [] then [] else [s]) [] (0 : Int) = Bool.true then
    if (if (Go.Rx.G.walkX us [(s, PUnit.unit)] [] (Int.toNat (0 : Int))).2 = Bool.true then (0 : Nat) else (1 : Nat)) = (0 : Nat) then
      Option.some (((Go.Rx.G.walkX us [(s, PUnit.unit)] [] (Int.toNat (0 : Int))).1, Bool.true, PUnit.unit), ((us, PUnit.unit), PUnit.unit), PUnit.unit)
    else
      if (if (Go.Rx.G.walkX us [(s, PUnit.unit)] [] (Int.toNat (0 : Int))).2 = Bool.true then (0 : Nat) else (1 : Nat)) = (1 : Nat) then
        Option.some
          ((if (Go.Rx.G.walkX us [(s, PUnit.unit)] [] (Int.toNat (0 : Int))).2 = Bool.true then [] else [],
              if (Go.Rx.G.walkX us [(s, PUnit.unit)] [] (Int.toNat (0 : Int))).2 = Bool.true then Bool.false else Bool.false, PUnit.unit),
            ((us, PUnit.unit), PUnit.unit), PUnit.unit)
      else Option.none
  else Option.none) := by kernel_rfl
theorem sfReachedU (s : ByteArray) (us : Units) (h : G.thinU us = true) : funK cxReachedU Go.Proofs.Try.f65 spReachedU.ins spReachedU.out (s, ((us, ()), ()), ()) = some ((if (G.walkF us s).2 = true then (G.walkF us s).1 else [], (G.walkF us s).2, ()), (((us, ()), ()), ())) := by
  have hp : G.rkPreU us [(s, ())] [s] [] 0 = true := rkPreU_iff.2 ⟨h, rfl, by omega, by simp, by simp, by simp, by simp, fun j hj => absurd hj (by simp)⟩
  rw [eReachedU, show (bif Go.Rx.hasK s [] then [] else [s]) = [s] from rfl, if_pos hp, show Int.toNat 0 = 0 from rfl, show G.walkX us [(s, ())] [] 0 = G.walkF us s from rfl]
  cases (G.walkF us s).2 <;> rfl
theorem okReachedU : SpecOk Go.Proofs.Try.prog 65 spReachedU :=
  fun_okB (cx := cxReachedU) (F := Go.Proofs.Try.f65) (cxOk T0_ok T0_eq pk8_ok) mixed (by kernel_rfl) (by decide) (by kernel_rfl) (lps_of (l := [(0, loopIn Go.Proofs.Try.f65 0)]) (by kernel_rfl) ⟨lp_at lpRchU rfl, trivial⟩) (fun x h => sfReachedU x.1 x.2.1.1.1 h)
/-! units that are ok -/
def G.unitOkI (u : Funs) : Bool := decide (u.length ≤ 5) && G.funsOk u
/-! UnitOkI -/
noncomputable abbrev spUnitOkI : Spec := ⟨[FunSP], BoolR, false, fun x => G.smallP x.1, fun x => (G.unitOkI x.1, ())⟩
noncomputable abbrev cxUnitOkI : Cx := mkCx T0 pk8 [] [] 10
theorem eUnitOkI (u : Funs) : funK cxUnitOkI Go.Proofs.Try.f97 spUnitOkI.ins spUnitOkI.out (u, ()) =
  (if Decidable.decide ((↑(List.length u) : Int) ≤ (5 : Int)) = Bool.true then if Go.Rx.G.smallP u = Bool.true then Option.some (Go.Rx.G.funsOk u, PUnit.unit) else Option.none
  else Option.some (Bool.false, PUnit.unit)) := by kernel_rfl
theorem sfUnitOkI (u : Funs) (h : G.smallP u = true) : funK cxUnitOkI Go.Proofs.Try.f97 spUnitOkI.ins spUnitOkI.out (u, ()) = some (G.unitOkI u, ()) := by
  rw [eUnitOkI]
  unfold G.unitOkI
  by_cases c : u.length ≤ 5
  · rw [if_pos (decide_eq_true (by omega)), if_pos h, decide_eq_true c, Bool.true_and]
  · rw [if_neg (by simp; omega), decide_eq_false c]
    rfl
theorem okUnitOkI : SpecOk Go.Proofs.Try.prog 97 spUnitOkI :=
  fun_okB (cx := cxUnitOkI) (F := Go.Proofs.Try.f97) (cxOk T0_ok T0_eq pk8_ok) mixed (by kernel_rfl) (by decide) (by kernel_rfl) (lps_none (by kernel_rfl)) (fun x h => sfUnitOkI x.1 h)
noncomputable abbrev pk9 : List (Nat × List Spec) := (97, [spUnitOkI]) :: (65, [spReachedU]) :: pk8
theorem pk9_ok : PhiOk Go.Proofs.Try.prog pk9 := ⟨⟨okUnitOkI, trivial⟩, ⟨okReachedU, trivial⟩, pk8_ok⟩
/-! NotUnit -/
noncomputable abbrev spNotUnit : Spec := ⟨[FunSP], BoolR, false, fun x => G.smallP x.1, fun x => (!G.unitOkI x.1, ())⟩
noncomputable abbrev cxNotUnit : Cx := mkCx T0 pk9 [] [] 6
theorem eNotUnit (u : Funs) : funK cxNotUnit Go.Proofs.Try.f96 spNotUnit.ins spNotUnit.out (u, ()) =
  (if Go.Rx.G.smallP u = Bool.true then Option.some (!Go.Rx.G.unitOkI u, PUnit.unit) else Option.none) := by kernel_rfl
theorem sfNotUnit (u : Funs) (h : G.smallP u = true) : funK cxNotUnit Go.Proofs.Try.f96 spNotUnit.ins spNotUnit.out (u, ()) = some (!G.unitOkI u, ()) := by
  rw [eNotUnit, if_pos h]
theorem okNotUnit : SpecOk Go.Proofs.Try.prog 96 spNotUnit :=
  fun_okB (cx := cxNotUnit) (F := Go.Proofs.Try.f96) (cxOk T0_ok T0_eq pk9_ok) mixed (by kernel_rfl) (by decide) (by kernel_rfl) (lps_none (by kernel_rfl)) (fun x h => sfNotUnit x.1 h)
noncomputable abbrev pk10 : List (Nat × List Spec) := (96, [spNotUnit]) :: pk9
theorem pk10_ok : PhiOk Go.Proofs.Try.prog pk10 := ⟨⟨okNotUnit, trivial⟩, pk9_ok⟩
def G.unitBadAt (us : Units) (k : Nat) : Bool := !G.unitOkI (G.unitAt us k)
/-! IdxUL: a search -/
def G.preIdxUL (us : Units) (c : Unit) (n : Int) (i : Int) : Bool := G.preA (us.length) i && (decide (n = ((us.length : Nat) : Int)) && (G.smallU us))
theorem preIdxUL_iff {us : Units} {c : Unit} {n : Int} {i : Int} : G.preIdxUL us c n i = true ↔ (0 ≤ i ∧ i ≤ ((us.length : Nat) : Int) ∧ (us.length : Nat) ≤ 1099511627776) ∧ n = ((us.length : Nat) : Int) ∧ G.smallU us = true := by simp [G.preIdxUL, preA_iff]
def G.scIdxUL (us : Units) (c : Unit) (i : Int) : Option (Int × Unit) := G.scan (G.hit (G.unitBadAt us)) (us.length) i
noncomputable abbrev lsIdxUL : LSpec := ⟨[0, 1, 7, 8, 4], [4], [UnitsSP, .fn 96 [], IntP, IntP, IntP], [IntP], true, fun x => G.preIdxUL x.1 x.2.1 x.2.2.1 x.2.2.2.1,
  fun x => ((G.flag 1 (G.scIdxUL x.1 x.2.1 x.2.2.2.1), G.got (G.scIdxUL x.1 x.2.1 x.2.2.2.1) (x.2.2.2.2.1, ())), (x.2.1, ()))⟩
noncomputable abbrev clIdxUL : Cx := mkCx T0 pk10 [(0, lsIdxUL)] [] 19
theorem rIdxUL (us : Units) (c : Unit) (n : Int) (i : Int) (r : Int) : roundK clIdxUL 0 (loopIn Go.Proofs.Try.f113 0) lsIdxUL (us, c, n, i, r, ()) =
  (if Decidable.decide (i < n) = Bool.true then
    if Decidable.decide ((0 : Int) ≤ i) = Bool.true then
      if Decidable.decide (i < (↑(List.length us) : Int)) = Bool.true then
        if Go.Rx.G.smallP (List.getD us (Int.toNat i) ([], PUnit.unit)).1 = Bool.true then
          if (!Go.Rx.G.unitOkI (List.getD us (Int.toNat i) ([], PUnit.unit)).1) = Bool.true then Option.some (Go.Rx.LRes.stop (1 : Nat) (i, PUnit.unit) (PUnit.unit, PUnit.unit))
          else Option.some (Go.Rx.LRes.go (us, PUnit.unit, n, Go.IntKind.wrap Go.IntKind.i64 (i + (1 : Int)), r, PUnit.unit))
        else Option.none
      else Option.none
    else Option.none
  else Option.some (Go.Rx.LRes.stop (0 : Nat) (r, PUnit.unit) (PUnit.unit, PUnit.unit))) := by kernel_rfl
noncomputable abbrev muIdxUL : PKs.den lsIdxUL.ins → Nat := fun x => (x.1.length) - x.2.2.2.1.toNat
theorem stIdxUL (us : Units) (c : Unit) (n : Int) (i : Int) (r : Int) (h : G.preIdxUL us c n i = true) : StepOk lsIdxUL (eqInv lsIdxUL) muIdxUL (us, c, n, i, r, ()) (roundK clIdxUL 0 (loopIn Go.Proofs.Try.f113 0) lsIdxUL (us, c, n, i, r, ())) := by
  obtain ⟨⟨h0, h1, h2⟩, hn, hc⟩ := preIdxUL_iff.1 h
  subst hn
  rw [rIdxUL]
  by_cases hi : i < ((us.length : Nat) : Int)
  · have hw : IntKind.i64.wrap (i + 1) = i + 1 := w64 (by omega) (by omega)
    have hs : G.scIdxUL us c i = ((G.hit (G.unitBadAt us)) i.toNat).or (G.scIdxUL us c (i + 1)) := scan_step h0 (by omega)
    refine scan_stop (fl := 1) (eqInv lsIdxUL) muIdxUL (us, c, ((us.length : Nat) : Int), i + 1, r, ()) ((G.hit (G.unitBadAt us)) i.toNat) (c, ()) ?_ (fun ho => ⟨(show G.preIdxUL us c ((us.length : Nat) : Int) (i + 1) = true from preIdxUL_iff.2 ⟨⟨by omega, by omega, h2⟩, rfl, hc⟩), ?_, ?_⟩) (fun w ho => ?_)
    · have hb : G.smallP (G.unitAt us i.toNat) = true := all_getD (([], ()) : Funs × Unit) (smallU_iff.1 hc).2 (show i.toNat < us.length by omega)
      rw [hit_match, hw, if_pos (decide_eq_true hi), if_pos (decide_eq_true h0), if_pos (decide_eq_true hi), unitAt_eq2, if_pos hb, nat_int h0]
      rfl
    · show (us.length) - (i + 1).toNat < (us.length) - i.toNat
      omega
    · show ((_, _), _) = ((_, _), _)
      simp only [hs, ho, Option.none_or]
    · show ((_, _), _) = ((_, _), _)
      simp only [hs, ho, Option.some_or]
      rfl
  · have hs : G.scIdxUL us c i = none := scan_end (by omega)
    skip
    rw [if_neg (by simpa using hi)]
    show ((_, _), _) = ((_, _), _)
    simp only [hs]
    rfl
theorem lpIdxUL : LpOk Go.Proofs.Try.prog clIdxUL.ntmps 0 (loopIn Go.Proofs.Try.f113 0) lsIdxUL :=
  lp_okB (cxOk T0_ok T0_eq pk10_ok) mixed (by kernel_rfl) (lps_none (by kernel_rfl)) (eqInv lsIdxUL) muIdxUL (fun _ h => h) (fun x h => stIdxUL x.1 x.2.1 x.2.2.1 x.2.2.2.1 x.2.2.2.2.1 h)
/-! IdxU -/
noncomputable abbrev spIdxU : Spec := ⟨[UnitsSP, .fn 96 []], IntR, true, fun x => G.smallU x.1, fun x => (G.idx (G.unitBadAt x.1) x.1.length, (x.2.1, ()))⟩
noncomputable abbrev cxIdxU : Cx := mkCx T0 pk10 [(0, lsIdxUL)] [] 19
theorem eIdxU (us : Units) (c : Unit) : funK cxIdxU Go.Proofs.Try.f113 spIdxU.ins spIdxU.out (us, c, ()) =
  (if Go.Rx.G.preIdxUL us PUnit.unit (↑(List.length us) : Int) (0 : Int) = Bool.true then
    if Go.Rx.G.flag (1 : Nat) (Go.Rx.G.scIdxUL us PUnit.unit (0 : Int)) = (0 : Nat) then Option.some ((-1 : Int), PUnit.unit, PUnit.unit)
    else
      if Go.Rx.G.flag (1 : Nat) (Go.Rx.G.scIdxUL us PUnit.unit (0 : Int)) = (1 : Nat) then Option.some ((Go.Rx.G.got (Go.Rx.G.scIdxUL us PUnit.unit (0 : Int)) ((0 : Int), PUnit.unit)).1, PUnit.unit, PUnit.unit)
      else Option.none
  else Option.none) := by kernel_rfl
theorem sfIdxU (us : Units) (c : Unit) (h : G.smallU us = true) : funK cxIdxU Go.Proofs.Try.f113 spIdxU.ins spIdxU.out (us, c, ()) = some (G.idx (G.unitBadAt us) us.length, (c, ())) := by
  have h1 := (smallU_iff.1 h).1
  rw [eIdxU, if_pos (preIdxUL_iff.2 ⟨⟨by omega, by omega, h1⟩, rfl, h⟩)]
  exact idx_end (fun i => (i, c, ())) rfl
theorem okIdxU : SpecOk Go.Proofs.Try.prog 113 spIdxU :=
  fun_okB (cx := cxIdxU) (F := Go.Proofs.Try.f113) (cxOk T0_ok T0_eq pk10_ok) mixed (by kernel_rfl) (by decide +kernel) (by kernel_rfl) (lps_of (l := [(0, loopIn Go.Proofs.Try.f113 0)]) (by kernel_rfl) ⟨lp_at lpIdxUL rfl, trivial⟩) (fun x h => sfIdxU x.1 x.2.1 h)
noncomputable abbrev pk11 : List (Nat × List Spec) := (113, [spIdxU]) :: pk10
theorem pk11_ok : PhiOk Go.Proofs.Try.prog pk11 := ⟨⟨okIdxU, trivial⟩, pk10_ok⟩
/-! ContU -/
noncomputable abbrev spContU : Spec := ⟨[UnitsSP, .fn 96 []], BoolR, true, fun x => G.smallU x.1, fun x => (G.anyFrom x.1.length (G.unitBadAt x.1) 0, (x.2.1, ()))⟩
noncomputable abbrev cxContU : Cx := mkCx T0 pk11 [] [] 9
theorem eContU (us : Units) (c : Unit) : funK cxContU Go.Proofs.Try.f95 spContU.ins spContU.out (us, c, ()) =
  (if Go.Rx.G.smallU us = Bool.true then Option.some (Decidable.decide (Go.Rx.G.idx (Go.Rx.G.unitBadAt us) (List.length us) ≥ (0 : Int)), PUnit.unit, PUnit.unit) else Option.none) := by kernel_rfl
theorem sfContU (us : Units) (c : Unit) (h : G.smallU us = true) : funK cxContU Go.Proofs.Try.f95 spContU.ins spContU.out (us, c, ()) = some (G.anyFrom us.length (G.unitBadAt us) 0, (c, ())) := by
  rw [eContU, if_pos h]
  have e : decide (G.idx (G.unitBadAt us) us.length ≥ 0) = G.anyFrom us.length (G.unitBadAt us) 0 := by
    have := idx_none (G.unitBadAt us) us.length
    cases ha : G.anyFrom us.length (G.unitBadAt us) 0 with
    | false => have := this.2 ha; exact decide_eq_false (by omega)
    | true =>
      have : ¬ G.idx (G.unitBadAt us) us.length < 0 := fun e => by rw [this.1 e] at ha; cases ha
      exact decide_eq_true (by omega)
  rw [e]
theorem okContU : SpecOk Go.Proofs.Try.prog 95 spContU :=
  fun_okB (cx := cxContU) (F := Go.Proofs.Try.f95) (cxOk T0_ok T0_eq pk11_ok) mixed (by kernel_rfl) (by decide +kernel) (by kernel_rfl) (lps_none (by kernel_rfl)) (fun x h => sfContU x.1 x.2.1 h)
noncomputable abbrev pk12 : List (Nat × List Spec) := (95, [spContU]) :: pk11
theorem pk12_ok : PhiOk Go.Proofs.Try.prog pk12 := ⟨⟨okContU, trivial⟩, pk11_ok⟩
def G.unitsOkI (us : Units) (m : Int) : Bool := decide ((us.length : Int) ≤ m) && !G.anyFrom us.length (G.unitBadAt us) 0
/-! UnitsOkI -/
noncomputable abbrev spUnitsOkI : Spec := ⟨[UnitsSP, IntP], BoolR, false, fun x => G.smallU x.1, fun x => (G.unitsOkI x.1 x.2.1, ())⟩
noncomputable abbrev cxUnitsOkI : Cx := mkCx T0 pk12 [] [] 14
theorem eUnitsOkI (us : Units) (m : Int) : funK cxUnitsOkI Go.Proofs.Try.f63 spUnitsOkI.ins spUnitsOkI.out (us, m, ()) =
  (if Decidable.decide ((↑(List.length us) : Int) ≤ m) = Bool.true then
    if Go.Rx.G.smallU us = Bool.true then Option.some (!Go.Rx.G.anyFrom (List.length us) (Go.Rx.G.unitBadAt us) (0 : Int), PUnit.unit) else Option.none
  else Option.some (Bool.false, PUnit.unit)) := by kernel_rfl
theorem sfUnitsOkI (us : Units) (m : Int) (h : G.smallU us = true) : funK cxUnitsOkI Go.Proofs.Try.f63 spUnitsOkI.ins spUnitsOkI.out (us, m, ()) = some (G.unitsOkI us m, ()) := by
  rw [eUnitsOkI]
  unfold G.unitsOkI
  by_cases c : (us.length : Int) ≤ m
  · rw [if_pos (decide_eq_true c), if_pos h, decide_eq_true c, Bool.true_and]
  · rw [if_neg (by simpa using c), decide_eq_false c]
    rfl
theorem okUnitsOkI : SpecOk Go.Proofs.Try.prog 63 spUnitsOkI :=
  fun_okB (cx := cxUnitsOkI) (F := Go.Proofs.Try.f63) (cxOk T0_ok T0_eq pk12_ok) mixed (by kernel_rfl) (by decide) (by kernel_rfl) (lps_none (by kernel_rfl)) (fun x h => sfUnitsOkI x.1 x.2.1 h)
noncomputable abbrev pk13 : List (Nat × List Spec) := (63, [spUnitsOkI]) :: pk12
theorem pk13_ok : PhiOk Go.Proofs.Try.prog pk13 := ⟨⟨okUnitsOkI, trivial⟩, pk12_ok⟩
theorem unitsOkI_iff {us : Units} {m : Int} : G.unitsOkI us m = true ↔ ((us.length : Int) ≤ m ∧ ∀ k, k < us.length → (G.unitAt us k).length ≤ 5 ∧ G.funsOk (G.unitAt us k) = true) := by
  unfold G.unitsOkI
  rw [Bool.and_eq_true, decide_eq_true_iff]
  refine and_congr_right fun _ => ?_
  rw [Bool.not_eq_true', Bool.eq_false_iff, Ne, anyFrom_zero]
  have key : ∀ k, G.unitBadAt us k = true ↔ ¬ ((G.unitAt us k).length ≤ 5 ∧ G.funsOk (G.unitAt us k) = true) := fun k => by
    unfold G.unitBadAt G.unitOkI
    rw [Bool.not_eq_true', Bool.eq_false_iff, Ne, Bool.and_eq_true, decide_eq_true_iff]
  constructor
  · intro h k hk
    by_cases c : (G.unitAt us k).length ≤ 5 ∧ G.funsOk (G.unitAt us k) = true
    · exact c
    · exact absurd ⟨k, hk, (key k).2 c⟩ h
  · rintro h ⟨k, hk, e⟩
    exact (key k).1 e (h k hk)
theorem unitsOkI_thin {us : Units} {m : Int} (hm : m ≤ 100) (h : G.unitsOkI us m = true) : G.thinU us = true := by
  obtain ⟨h1, h2⟩ := unitsOkI_iff.1 h
  have h3 : ∀ u ∈ us, u.1.length ≤ 5 ∧ G.funsOk u.1 = true := fun u hu => by
    obtain ⟨k, hk, rfl⟩ := List.getElem_of_mem hu
    have := h2 k hk
    unfold G.unitAt at this
    rw [getD_lt _ _ hk] at this
    exact this
  refine thinU_iff.2 ⟨⟨fewU_iff2.2 ⟨by omega, ?_⟩, ?_⟩, ?_⟩
  · rw [List.all_eq_true]
    exact fun u hu => few_iff.2 (by have := (h3 u hu).1; omega)
  · rw [List.all_eq_true]
    intro u hu
    rw [List.all_eq_true]
    intro f hf
    have ht := (thin_iff.1 (funsOk_thin (by have := (h3 u hu).1; omega) (h3 u hu).2)).2
    obtain ⟨k, hk, rfl⟩ := List.getElem_of_mem hf
    have := ht k hk
    unfold G.pAt at this
    rw [getD_lt _ _ hk] at this
    exact decide_eq_true this
  · have := total_le (us := us) (n := 5) fun u hu => (h3 u hu).1
    omega
def G.keepAll (us : Units) (e : ByteArray) : Funs × Bool := if (G.unitsOkI us 8 && G.nameOk e) = true then (if (G.walkF us e).2 = true then (G.walkF us e).1 else [], (G.walkF us e).2) else ([], false)
/-! KeepAll -/
noncomputable abbrev spKeepAll : Spec := ⟨[UnitsSP, StrP], .tup [FunsO, BoolP], true, fun x => G.smallU x.1 && G.lenS x.2.1, fun x => (((G.keepAll x.1 x.2.1).1, (G.keepAll x.1 x.2.1).2, ()), ())⟩
noncomputable abbrev cxKeepAll : Cx := mkCx T0 pk13 [] [] 19
theorem eKeepAll (us : Units) (e : ByteArray) : funK cxKeepAll Go.Proofs.Try.f29 spKeepAll.ins spKeepAll.out (us, e, ()) =
  (if Go.Rx.G.smallU us = Bool.true then
    if (!Go.Rx.G.unitsOkI us (8 : Int)) = Bool.false then
      if Go.Rx.G.lenS e = Bool.true then
        if (!Go.Rx.G.nameOk e) = Bool.true then Option.some (([], Bool.false, PUnit.unit), PUnit.unit)
        else
          if Go.Rx.G.thinU us = Bool.true then
            Option.some ((if (Go.Rx.G.walkF us e).2 = Bool.true then (Go.Rx.G.walkF us e).1 else [], (Go.Rx.G.walkF us e).2, PUnit.unit), PUnit.unit)
          else Option.none
      else Option.none
    else Option.some (([], Bool.false, PUnit.unit), PUnit.unit)
  else Option.none) := by kernel_rfl
theorem sfKeepAll (us : Units) (e : ByteArray) (h : (G.smallU us && G.lenS e) = true) : funK cxKeepAll Go.Proofs.Try.f29 spKeepAll.ins spKeepAll.out (us, e, ()) = some (((G.keepAll us e).1, (G.keepAll us e).2, ()), ()) := by
  rw [Bool.and_eq_true] at h
  rw [eKeepAll, if_pos h.1]
  unfold G.keepAll
  cases c1 : G.unitsOkI us 8 with
  | false => rfl
  | true =>
    cases c2 : G.nameOk e with
    | false =>
      simp only [h.2, c2]
      rfl
    | true =>
      have ht := unitsOkI_thin (by omega) c1
      simp only [h.2, c2, ht]
      rfl
theorem okKeepAll : SpecOk Go.Proofs.Try.prog 29 spKeepAll :=
  fun_okB (cx := cxKeepAll) (F := Go.Proofs.Try.f29) (cxOk T0_ok T0_eq pk13_ok) mixed (by kernel_rfl) (by decide) (by kernel_rfl) (lps_none (by kernel_rfl)) (fun x h => sfKeepAll x.1 x.2.1 h)
noncomputable abbrev pk14 : List (Nat × List Spec) := (29, [spKeepAll]) :: pk6
theorem pk14_ok : PhiOk Go.Proofs.Try.prog pk14 := ⟨⟨okKeepAll, trivial⟩, pk6_ok⟩
end Go.Rx

/-
  MACHINES OF IMAGES: marks and what holds them; places.
-/
import Derived.Test.YteenlfeglffnoaaBd
namespace Go.Rx
open Go
set_option linter.unusedVariables false
set_option linter.unusedSimpArgs false
/-! lists marked -/
def G.mk {α : Type} (f : Int → α) (w : Int) (n : Nat) (k : Int) : List α := (List.range n).map fun (j : Nat) => f (k + w * (j : Int))
def G.mkFrom {α : Type} (f : Int → α) (w : Int) (a : List α) (k i : Int) : List α := a.take i.toNat ++ G.mk f w (a.length - i.toNat) k
theorem mk_succ {α : Type} (f : Int → α) (w : Int) (n : Nat) (k : Int) : G.mk f w (n + 1) k = f k :: G.mk f w n (k + w) := by
  unfold G.mk
  rw [List.range_succ_eq_map, List.map_cons, List.map_map]
  congr 1
  · congr 1
    simp
  · apply List.map_congr_left
    intro j _
    show f (k + w * ((j + 1 : Nat) : Int)) = f (k + w + w * (j : Int))
    congr 1
    rw [Int.natCast_add, Int.mul_add]
    simp
    omega
theorem mkFrom_step {α : Type} (f : Int → α) (w : Int) {a : List α} {k i : Int} (h0 : 0 ≤ i) (h : i < (a.length : Int)) : G.mkFrom f w (a.set i.toNat (f k)) (k + w) (i + 1) = G.mkFrom f w a k i := by
  unfold G.mkFrom
  have hi : i.toNat < a.length := by omega
  have e : a.length - i.toNat = (a.length - (i + 1).toNat) + 1 := by omega
  rw [e, mk_succ, toNat_succ h0, take_succ (f k) (xs := a.set i.toNat (f k)) (by simpa using hi), List.take_set_of_le (by omega)]
  have h1 : (a.set i.toNat (f k)).getD i.toNat (f k) = f k := by simp [List.getD, hi]
  rw [h1]
  simp [List.append_assoc, toNat_succ h0]
theorem mkFrom_end {α : Type} (f : Int → α) (w : Int) {a : List α} {k i : Int} (h : (a.length : Int) ≤ i) : G.mkFrom f w a k i = a := by
  unfold G.mkFrom
  have e : a.length - i.toNat = 0 := by omega
  rw [e, List.take_of_length_le (by omega)]
  simp [G.mk]
theorem mkFrom_zero {α : Type} (f : Int → α) (w : Int) (a : List α) (k : Int) : G.mkFrom f w a k 0 = G.mk f w a.length k := by simp [G.mkFrom]
def G.mInt (k : Int) : Int × Unit := (k, ())
def G.mCell (k : Int) : Cell := (k, k + 1, ())
def G.mkPre {α : Type} (a : List α) (k i : Int) : Bool := decide (0 ≤ i ∧ i ≤ (a.length : Int) ∧ a.length ≤ 1099511627776 ∧ 0 ≤ k ∧ k + 8 * ((a.length : Int) - i) ≤ 1152921504606846976)
theorem mkPre_iff {α : Type} {a : List α} {k i : Int} : G.mkPre a k i = true ↔ (0 ≤ i ∧ i ≤ (a.length : Int) ∧ a.length ≤ 1099511627776 ∧ 0 ≤ k ∧ k + 8 * ((a.length : Int) - i) ≤ 1152921504606846976) := by simp [G.mkPre]
abbrev IntsW : PK := .wr false [.own intT]
abbrev CellsW : PK := .wr false [.own cellT]
/-! markIntS -/
noncomputable abbrev lsMarkIntS : LSpec := ⟨[0, 1, 5], [1], [IntsW, IntP, IntP], [IntP], false, fun x => G.mkPre x.1.1 x.2.1 x.2.2.1,
  fun x => ((0, (x.2.1 + ((x.1.1.length : Int) - x.2.2.1), ())), ((G.mkFrom G.mInt 1 x.1.1 x.2.1 x.2.2.1, ()), ()))⟩
/-! MarkIntS -/
noncomputable abbrev spMarkIntS : Spec := ⟨[IntsW, IntP], IntR, false, fun x => G.mkPre x.1.1 x.2.1 0, fun x => (x.2.1 + (x.1.1.length : Int), ((G.mk G.mInt 1 x.1.1.length x.2.1, ()), ()))⟩
noncomputable abbrev cxMarkIntS : Cx := mkCx T0 ph17 [(0, lsMarkIntS)] [] 19
theorem eMarkIntS (a : Ints) (k : Int) : funK cxMarkIntS Go.Proofs.Try.f48 spMarkIntS.ins spMarkIntS.out ((a, ()), k, ()) =
  (if Go.Rx.G.mkPre a k (0 : Int) = Bool.true then
    Option.some (k + ((↑(List.length a) : Int) - (0 : Int)), (Go.Rx.G.mkFrom Go.Rx.G.mInt (1 : Int) a k (0 : Int), PUnit.unit), PUnit.unit)
  else Option.none) := by kernel_rfl
theorem rMarkIntS (a : Ints) (k i : Int) : roundK cxMarkIntS 0 (loopIn Go.Proofs.Try.f48 0) lsMarkIntS ((a, ()), k, i, ()) =
  (if Decidable.decide (i < (↑(List.length a) : Int)) = Bool.true then
    if Decidable.decide ((0 : Int) ≤ i) = Bool.true then
      if Decidable.decide (i < (↑(List.length a) : Int)) = Bool.true then
        if Decidable.decide (Int.toNat i < List.length a) = Bool.true then
          Option.some
            (Go.Rx.LRes.go
              ((List.set a (Int.toNat i) (k, (List.getD a (Int.toNat i) ((0 : Int), PUnit.unit)).2), PUnit.unit),
                Go.IntKind.wrap Go.IntKind.i64 (k + (1 : Int)), Go.IntKind.wrap Go.IntKind.i64 (i + (1 : Int)), PUnit.unit))
        else Option.none
      else Option.none
    else Option.none
  else Option.some (Go.Rx.LRes.stop (0 : Nat) (k, PUnit.unit) ((a, PUnit.unit), PUnit.unit))) := by kernel_rfl
/-! markCellS -/
noncomputable abbrev lsMarkCellS : LSpec := ⟨[0, 1, 5], [1], [CellsW, IntP, IntP], [IntP], false, fun x => G.mkPre x.1.1 x.2.1 x.2.2.1,
  fun x => ((0, (x.2.1 + 2 * ((x.1.1.length : Int) - x.2.2.1), ())), ((G.mkFrom G.mCell 2 x.1.1 x.2.1 x.2.2.1, ()), ()))⟩
/-! MarkCellS -/
noncomputable abbrev spMarkCellS : Spec := ⟨[CellsW, IntP], IntR, false, fun x => G.mkPre x.1.1 x.2.1 0, fun x => (x.2.1 + 2 * (x.1.1.length : Int), ((G.mk G.mCell 2 x.1.1.length x.2.1, ()), ()))⟩
noncomputable abbrev cxMarkCellS : Cx := mkCx T0 ph17 [(0, lsMarkCellS)] [] 27
theorem eMarkCellS (a : Cells) (k : Int) : funK cxMarkCellS Go.Proofs.Try.f16 spMarkCellS.ins spMarkCellS.out ((a, ()), k, ()) =
  (if Go.Rx.G.mkPre a k (0 : Int) = Bool.true then
    Option.some (k + (2 : Int) * ((↑(List.length a) : Int) - (0 : Int)), (Go.Rx.G.mkFrom Go.Rx.G.mCell (2 : Int) a k (0 : Int), PUnit.unit), PUnit.unit)
  else Option.none) := by kernel_rfl
theorem rMarkCellS (a : Cells) (k i : Int) : roundK cxMarkCellS 0 (loopIn Go.Proofs.Try.f16 0) lsMarkCellS ((a, ()), k, i, ()) =
  (if Decidable.decide (i < (↑(List.length a) : Int)) = Bool.true then
    if Decidable.decide ((0 : Int) ≤ i) = Bool.true then
      if Decidable.decide (i < (↑(List.length a) : Int)) = Bool.true then
        if Decidable.decide (Int.toNat i < List.length a) = Bool.true then
          if Decidable.decide ((0 : Int) ≤ i) = Bool.true then
            if
                Decidable.decide
                    (i <
                      (↑(List.length (List.set a (Int.toNat i) (k, (List.getD a (Int.toNat i) ((0 : Int), (0 : Int), PUnit.unit)).2))) : Int)) =
                  Bool.true then
              if
                  Decidable.decide
                      (Int.toNat i <
                        List.length (List.set a (Int.toNat i) (k, (List.getD a (Int.toNat i) ((0 : Int), (0 : Int), PUnit.unit)).2))) =
                    Bool.true then
                Option.some
                  (Go.Rx.LRes.go
                    ((List.set (List.set a (Int.toNat i) (k, (List.getD a (Int.toNat i) ((0 : Int), (0 : Int), PUnit.unit)).2))
                          (Int.toNat i)
                          ((List.getD (List.set a (Int.toNat i) (k, (List.getD a (Int.toNat i) ((0 : Int), (0 : Int), PUnit.unit)).2))
                                (Int.toNat i) ((0 : Int), (0 : Int), PUnit.unit)).1,
                            Go.IntKind.wrap Go.IntKind.i64 (k + (1 : Int)),
                            (List.getD (List.set a (Int.toNat i) (k, (List.getD a (Int.toNat i) ((0 : Int), (0 : Int), PUnit.unit)).2))
                                  (Int.toNat i) ((0 : Int), (0 : Int), PUnit.unit)).2.2),
                        PUnit.unit),
                      Go.IntKind.wrap Go.IntKind.i64 (Go.IntKind.wrap Go.IntKind.i64 (k + (1 : Int)) + (1 : Int)), Go.IntKind.wrap Go.IntKind.i64 (i + (1 : Int)), PUnit.unit))
              else Option.none
            else Option.none
          else Option.none
        else Option.none
      else Option.none
    else Option.none
  else Option.some (Go.Rx.LRes.stop (0 : Nat) (k, PUnit.unit) ((a, PUnit.unit), PUnit.unit))) := by kernel_rfl
/-! heldIntS -/
def G.heldFrom (a : Ints) (k i : Int) : Bool := decide (a.drop i.toNat = G.mk G.mInt 1 (a.length - i.toNat) k)
/-- How far the marks go on. -/
def G.heldC (a : Ints) (k : Int) : Int := match a with
  | [] => k
  | x :: r => if x.1 = k then G.heldC r (k + 1) else k
def G.heldK (a : Ints) (k i : Int) : Int := G.heldC (a.drop i.toNat) k
noncomputable abbrev lsHeldIntS : LSpec := ⟨[0, 1, 5, 4], [1, 4], [IntSP, IntP, IntP, IntP], [IntP, IntP], false, fun x => G.mkPre x.1 x.2.1 x.2.2.1,
  fun x => ((if G.heldFrom x.1 x.2.1 x.2.2.1 = true then 0 else 1, (G.heldK x.1 x.2.1 x.2.2.1, (if G.heldFrom x.1 x.2.1 x.2.2.1 = true then x.2.2.2.1 else -1, ()))), ())⟩
/-! HeldIntS -/
noncomputable abbrev spHeldIntS : Spec := ⟨[IntSP, IntP], IntR, false, fun x => G.mkPre x.1 x.2.1 0, fun x => (if G.heldFrom x.1 x.2.1 0 = true then x.2.1 + (x.1.length : Int) else -1, ())⟩
noncomputable abbrev cxHeldIntS : Cx := mkCx T0 ph17 [(0, lsHeldIntS)] [] 21
theorem eHeldIntS (a : Ints) (k : Int) : funK cxHeldIntS Go.Proofs.Try.f49 spHeldIntS.ins spHeldIntS.out (a, k, ()) =
  (if Go.Rx.G.mkPre a k (0 : Int) = Bool.true then
    if (if Go.Rx.G.heldFrom a k (0 : Int) = Bool.true then (0 : Nat) else (1 : Nat)) = (0 : Nat) then Option.some (Go.Rx.G.heldK a k (0 : Int), PUnit.unit)
    else
      if (if Go.Rx.G.heldFrom a k (0 : Int) = Bool.true then (0 : Nat) else (1 : Nat)) = (1 : Nat) then
        Option.some (if Go.Rx.G.heldFrom a k (0 : Int) = Bool.true then (0 : Int) else (-1 : Int), PUnit.unit)
      else Option.none
  else Option.none) := by kernel_rfl
theorem rHeldIntS (a : Ints) (k i r : Int) : roundK cxHeldIntS 0 (loopIn Go.Proofs.Try.f49 0) lsHeldIntS (a, k, i, r, ()) =
  (if Decidable.decide (i < (↑(List.length a) : Int)) = Bool.true then
    if Decidable.decide ((0 : Int) ≤ i) = Bool.true then
      if Decidable.decide (i < (↑(List.length a) : Int)) = Bool.true then
        if (!Decidable.decide ((List.getD a (Int.toNat i) ((0 : Int), PUnit.unit)).1 = k)) = Bool.true then
          Option.some (Go.Rx.LRes.stop (1 : Nat) (k, (-1 : Int), PUnit.unit) PUnit.unit)
        else Option.some (Go.Rx.LRes.go (a, Go.IntKind.wrap Go.IntKind.i64 (k + (1 : Int)), Go.IntKind.wrap Go.IntKind.i64 (i + (1 : Int)), r, PUnit.unit))
      else Option.none
    else Option.none
  else Option.some (Go.Rx.LRes.stop (0 : Nat) (k, r, PUnit.unit) PUnit.unit)) := by kernel_rfl
/-! markIntS -/
noncomputable abbrev muMarkIntS : PKs.den lsMarkIntS.ins → Nat := fun x => x.1.1.length - x.2.2.1.toNat
theorem stMarkIntS (a : Ints) (k i : Int) (h : G.mkPre a k i = true) : StepOk lsMarkIntS (eqInv lsMarkIntS) muMarkIntS ((a, ()), k, i, ()) (roundK cxMarkIntS 0 (loopIn Go.Proofs.Try.f48 0) lsMarkIntS ((a, ()), k, i, ())) := by
  obtain ⟨h0, h1, h2, h3, h4⟩ := mkPre_iff.1 h
  rw [rMarkIntS]
  by_cases hi : i < (a.length : Int)
  · have hw : IntKind.i64.wrap (i + 1) = i + 1 := w64 (by omega) (by omega)
    have hk : IntKind.i64.wrap (k + 1) = k + 1 := w64 (by omega) (by omega)
    have he := mkFrom_step G.mInt 1 (k := k) h0 hi
    rw [if_pos (decide_eq_true hi), if_pos (decide_eq_true h0), if_pos (decide_eq_true hi), if_pos (decide_eq_true (show i.toNat < a.length by omega)), hw, hk]
    refine ⟨(show G.mkPre (a.set i.toNat (G.mInt k)) (k + 1) (i + 1) = true from mkPre_iff.2 (by rw [List.length_set]; omega)), ?_, ?_⟩
    · show (a.set i.toNat (G.mInt k)).length - (i + 1).toNat < a.length - i.toNat
      rw [List.length_set]
      omega
    · show ((0, (k + 1 + (((a.set i.toNat (G.mInt k)).length : Int) - (i + 1)), ())), ((G.mkFrom G.mInt 1 (a.set i.toNat (G.mInt k)) (k + 1) (i + 1), ()), ())) = ((0, (k + ((a.length : Int) - i), ())), ((G.mkFrom G.mInt 1 a k i, ()), ()))
      rw [he, List.length_set, show k + 1 + ((a.length : Int) - (i + 1)) = k + ((a.length : Int) - i) by omega]
  · rw [if_neg (by simpa using hi)]
    show ((0, (k + ((a.length : Int) - i), ())), ((G.mkFrom G.mInt 1 a k i, ()), ())) = ((0, (k, ())), ((a, ()), ()))
    rw [mkFrom_end G.mInt 1 (by omega), show k + ((a.length : Int) - i) = k by omega]
theorem lpMarkIntS : LpOk Go.Proofs.Try.prog cxMarkIntS.ntmps 0 (loopIn Go.Proofs.Try.f48 0) lsMarkIntS :=
  lp_okB (cxOk T0_ok T0_eq ph17_ok) mixed (by kernel_rfl) (lps_none (by kernel_rfl)) (eqInv lsMarkIntS) muMarkIntS (fun _ h => h) (fun x h => stMarkIntS x.1.1 x.2.1 x.2.2.1 h)
theorem sfMarkIntS (a : Ints) (k : Int) (h : G.mkPre a k 0 = true) : funK cxMarkIntS Go.Proofs.Try.f48 spMarkIntS.ins spMarkIntS.out ((a, ()), k, ()) = some (k + (a.length : Int), ((G.mk G.mInt 1 a.length k, ()), ())) := by
  rw [eMarkIntS, if_pos h, mkFrom_zero, show k + ((a.length : Int) - 0) = k + (a.length : Int) by omega]
theorem okMarkIntS : SpecOk Go.Proofs.Try.prog 48 spMarkIntS :=
  fun_okB (cx := cxMarkIntS) (F := Go.Proofs.Try.f48) (cxOk T0_ok T0_eq ph17_ok) mixed (by kernel_rfl) (by decide) (by kernel_rfl) (lps_of (l := [(0, loopIn Go.Proofs.Try.f48 0)]) (by kernel_rfl) ⟨lp_at lpMarkIntS rfl, trivial⟩) (fun x h => sfMarkIntS x.1.1 x.2.1 h)
/-! markCellS -/
noncomputable abbrev muMarkCellS : PKs.den lsMarkCellS.ins → Nat := fun x => x.1.1.length - x.2.2.1.toNat
theorem stMarkCellS (a : Cells) (k i : Int) (h : G.mkPre a k i = true) : StepOk lsMarkCellS (eqInv lsMarkCellS) muMarkCellS ((a, ()), k, i, ()) (roundK cxMarkCellS 0 (loopIn Go.Proofs.Try.f16 0) lsMarkCellS ((a, ()), k, i, ())) := by
  obtain ⟨h0, h1, h2, h3, h4⟩ := mkPre_iff.1 h
  rw [rMarkCellS]
  by_cases hi : i < (a.length : Int)
  · have hw : IntKind.i64.wrap (i + 1) = i + 1 := w64 (by omega) (by omega)
    have hk : IntKind.i64.wrap (k + 1) = k + 1 := w64 (by omega) (by omega)
    have hk2 : IntKind.i64.wrap (k + 1 + 1) = k + 2 := by rw [w64 (by omega) (by omega)]; omega
    have hn : i.toNat < a.length := by omega
    have he := mkFrom_step G.mCell 2 (k := k) h0 hi
    have hg : ∀ (u : Cell) d, (a.set i.toNat u).getD i.toNat d = u := fun u d => by simp [List.getD, hn]
    simp only [List.length_set, List.set_set, hg, decide_eq_true hi, decide_eq_true h0, decide_eq_true hn, if_true, hw, hk, hk2]
    refine ⟨(show G.mkPre (a.set i.toNat (G.mCell k)) (k + 2) (i + 1) = true from mkPre_iff.2 (by rw [List.length_set]; omega)), ?_, ?_⟩
    · show (a.set i.toNat (G.mCell k)).length - (i + 1).toNat < a.length - i.toNat
      rw [List.length_set]
      omega
    · show ((0, (k + 2 + 2 * (((a.set i.toNat (G.mCell k)).length : Int) - (i + 1)), ())), ((G.mkFrom G.mCell 2 (a.set i.toNat (G.mCell k)) (k + 2) (i + 1), ()), ())) = ((0, (k + 2 * ((a.length : Int) - i), ())), ((G.mkFrom G.mCell 2 a k i, ()), ()))
      rw [he, List.length_set, show k + 2 + 2 * ((a.length : Int) - (i + 1)) = k + 2 * ((a.length : Int) - i) by omega]
  · rw [if_neg (by simpa using hi)]
    show ((0, (k + 2 * ((a.length : Int) - i), ())), ((G.mkFrom G.mCell 2 a k i, ()), ())) = ((0, (k, ())), ((a, ()), ()))
    rw [mkFrom_end G.mCell 2 (by omega), show k + 2 * ((a.length : Int) - i) = k by omega]
theorem lpMarkCellS : LpOk Go.Proofs.Try.prog cxMarkCellS.ntmps 0 (loopIn Go.Proofs.Try.f16 0) lsMarkCellS :=
  lp_okB (cxOk T0_ok T0_eq ph17_ok) mixed (by kernel_rfl) (lps_none (by kernel_rfl)) (eqInv lsMarkCellS) muMarkCellS (fun _ h => h) (fun x h => stMarkCellS x.1.1 x.2.1 x.2.2.1 h)
theorem sfMarkCellS (a : Cells) (k : Int) (h : G.mkPre a k 0 = true) : funK cxMarkCellS Go.Proofs.Try.f16 spMarkCellS.ins spMarkCellS.out ((a, ()), k, ()) = some (k + 2 * (a.length : Int), ((G.mk G.mCell 2 a.length k, ()), ())) := by
  rw [eMarkCellS, if_pos h, mkFrom_zero, show k + 2 * ((a.length : Int) - 0) = k + 2 * (a.length : Int) by omega]
theorem okMarkCellS : SpecOk Go.Proofs.Try.prog 16 spMarkCellS :=
  fun_okB (cx := cxMarkCellS) (F := Go.Proofs.Try.f16) (cxOk T0_ok T0_eq ph17_ok) mixed (by kernel_rfl) (by decide) (by kernel_rfl) (lps_of (l := [(0, loopIn Go.Proofs.Try.f16 0)]) (by kernel_rfl) ⟨lp_at lpMarkCellS rfl, trivial⟩) (fun x h => sfMarkCellS x.1.1 x.2.1 h)
/-! heldIntS -/
theorem heldFrom_step {a : Ints} {k i : Int} (h0 : 0 ≤ i) (h : i < (a.length : Int)) : G.heldFrom a k i = (decide ((a.getD i.toNat (0, ())).1 = k) && G.heldFrom a (k + 1) (i + 1)) := by
  unfold G.heldFrom
  have e : a.length - i.toNat = (a.length - (i + 1).toNat) + 1 := by omega
  rw [e, mk_succ, drop_cons ((0 : Int), ()) (xs := a) (i := i.toNat) (by omega), toNat_succ h0]
  rw [← Bool.decide_and, decide_eq_decide, List.cons.injEq]
  constructor
  · rintro ⟨h1, h2⟩
    exact ⟨by rw [h1]; rfl, h2⟩
  · rintro ⟨h1, h2⟩
    refine ⟨?_, h2⟩
    generalize a.getD i.toNat ((0 : Int), ()) = x at h1 ⊢
    obtain ⟨x1, u⟩ := x
    show (x1, u) = (k, ())
    rw [show x1 = k from h1]
theorem heldFrom_end {a : Ints} {k i : Int} (h : (a.length : Int) ≤ i) : G.heldFrom a k i = true := by
  unfold G.heldFrom
  have e : a.length - i.toNat = 0 := by omega
  rw [e, drop_nil (by omega)]
  rfl
theorem heldK_step {a : Ints} {k i : Int} (h0 : 0 ≤ i) (h : i < (a.length : Int)) : G.heldK a k i = if (a.getD i.toNat (0, ())).1 = k then G.heldK a (k + 1) (i + 1) else k := by
  unfold G.heldK
  rw [drop_cons ((0 : Int), ()) (xs := a) (i := i.toNat) (by omega), toNat_succ h0]
  rfl
theorem heldK_end {a : Ints} {k i : Int} (h : (a.length : Int) ≤ i) : G.heldK a k i = k := by
  unfold G.heldK
  rw [drop_nil (by omega)]
  rfl
theorem heldK_all (n : Nat) : ∀ (l : Ints) (k : Int), l = G.mk G.mInt 1 n k → G.heldC l k = k + (n : Int) := by
  induction n with
  | zero =>
    intro l k h
    rw [h]
    simp [G.mk, G.heldC]
  | succ n ih =>
    intro l k h
    rw [h, mk_succ]
    show (if k = k then G.heldC _ (k + 1) else k) = _
    rw [if_pos rfl, ih _ (k + 1) rfl]
    simp
    omega
noncomputable abbrev muHeldIntS : PKs.den lsHeldIntS.ins → Nat := fun x => x.1.length - x.2.2.1.toNat
theorem stHeldIntS (a : Ints) (k i r : Int) (h : G.mkPre a k i = true) : StepOk lsHeldIntS (eqInv lsHeldIntS) muHeldIntS (a, k, i, r, ()) (roundK cxHeldIntS 0 (loopIn Go.Proofs.Try.f49 0) lsHeldIntS (a, k, i, r, ())) := by
  obtain ⟨h0, h1, h2, h3, h4⟩ := mkPre_iff.1 h
  rw [rHeldIntS]
  by_cases hi : i < (a.length : Int)
  · have hw : IntKind.i64.wrap (i + 1) = i + 1 := w64 (by omega) (by omega)
    have hk : IntKind.i64.wrap (k + 1) = k + 1 := w64 (by omega) (by omega)
    have he := heldFrom_step (k := k) h0 hi
    have hK := heldK_step (k := k) h0 hi
    rw [if_pos (decide_eq_true hi), if_pos (decide_eq_true h0), if_pos (decide_eq_true hi), hw, hk]
    generalize a.getD i.toNat ((0 : Int), ()) = x at *
    by_cases hc : x.1 = k
    · rw [if_pos hc] at hK
      rw [decide_eq_true hc, Bool.true_and] at he
      rw [if_neg (by simpa using hc)]
      refine ⟨(show G.mkPre a (k + 1) (i + 1) = true from mkPre_iff.2 (by omega)), ?_, ?_⟩
      · show a.length - (i + 1).toNat < a.length - i.toNat
        omega
      · show ((_, _), _) = ((_, _), _)
        simp only [he, hK]
    · rw [if_neg hc] at hK
      rw [decide_eq_false hc, Bool.false_and] at he
      rw [if_pos (by simpa using hc)]
      show ((_, _), _) = ((_, _), _)
      simp only [he, hK]
      rfl
  · have he : G.heldFrom a k i = true := heldFrom_end (by omega)
    have hK : G.heldK a k i = k := heldK_end (by omega)
    rw [if_neg (by simpa using hi)]
    show ((_, _), _) = ((_, _), _)
    simp only [he, hK]
    rfl
theorem lpHeldIntS : LpOk Go.Proofs.Try.prog cxHeldIntS.ntmps 0 (loopIn Go.Proofs.Try.f49 0) lsHeldIntS :=
  lp_okB (cxOk T0_ok T0_eq ph17_ok) mixed (by kernel_rfl) (lps_none (by kernel_rfl)) (eqInv lsHeldIntS) muHeldIntS (fun _ h => h) (fun x h => stHeldIntS x.1 x.2.1 x.2.2.1 x.2.2.2.1 h)
theorem sfHeldIntS (a : Ints) (k : Int) (h : G.mkPre a k 0 = true) : funK cxHeldIntS Go.Proofs.Try.f49 spHeldIntS.ins spHeldIntS.out (a, k, ()) = some (if G.heldFrom a k 0 = true then k + (a.length : Int) else -1, ()) := by
  rw [eHeldIntS, if_pos h]
  by_cases hc : G.heldFrom a k 0 = true
  · have : G.heldK a k 0 = k + (a.length : Int) := by
      unfold G.heldK
      exact heldK_all a.length _ k (by simpa [G.heldFrom] using hc)
    simp [hc, this]
  · simp [hc]
theorem okHeldIntS : SpecOk Go.Proofs.Try.prog 49 spHeldIntS :=
  fun_okB (cx := cxHeldIntS) (F := Go.Proofs.Try.f49) (cxOk T0_ok T0_eq ph17_ok) mixed (by kernel_rfl) (by decide) (by kernel_rfl) (lps_of (l := [(0, loopIn Go.Proofs.Try.f49 0)]) (by kernel_rfl) ⟨lp_at lpHeldIntS rfl, trivial⟩) (fun x h => sfHeldIntS x.1 x.2.1 h)
theorem heldFrom_mk (n : Nat) (k : Int) : G.heldFrom (G.mk G.mInt 1 n k) k 0 = true := by simp [G.heldFrom, G.mk]
noncomputable abbrev ph18 : List (Nat × List Spec) := (48, [spMarkIntS]) :: (16, [spMarkCellS]) :: (49, [spHeldIntS]) :: ph17
theorem ph18_ok : PhiOk Go.Proofs.Try.prog ph18 := ⟨⟨okMarkIntS, trivial⟩, ⟨okMarkCellS, trivial⟩, ⟨okHeldIntS, trivial⟩, ph17_ok⟩
abbrev CpuO : List CK := [.dat I, .dat I, .own intT, .own intT, .dat I]
abbrev CpuW : PK := .wr true CpuO
def G.mkPre2 (m : Cpu) (k : Int) : Bool := decide (m.2.2.1.length ≤ 1048576 ∧ m.2.2.2.1.length ≤ 1048576 ∧ 0 ≤ k ∧ k ≤ 1073741824)
theorem mkPre2_iff {m : Cpu} {k : Int} : G.mkPre2 m k = true ↔ (m.2.2.1.length ≤ 1048576 ∧ m.2.2.2.1.length ≤ 1048576 ∧ 0 ≤ k ∧ k ≤ 1073741824) := by simp [G.mkPre2]
/-! MarkCpu -/
noncomputable abbrev spMarkCpu : Spec := ⟨[CpuW, IntP], IntR, false, fun x => G.mkPre2 x.1 x.2.1, fun x => (x.2.1 + (x.1.2.2.1.length : Int) + (x.1.2.2.2.1.length : Int), ((G.mk G.mInt 1 x.1.2.2.1.length x.2.1, G.mk G.mInt 1 x.1.2.2.2.1.length (x.2.1 + (x.1.2.2.1.length : Int)), ()), ()))⟩
noncomputable abbrev cxMarkCpu : Cx := mkCx T0 ph18 [] [] 14
theorem eMarkCpu (m : Cpu) (k : Int) : funK cxMarkCpu Go.Proofs.Try.f17 spMarkCpu.ins spMarkCpu.out (m, k, ()) =
  (if Go.Rx.G.mkPre m.2.2.1 k (0 : Int) = Bool.true then
    if Go.Rx.G.mkPre m.2.2.2.1 (k + (↑(List.length m.2.2.1) : Int)) (0 : Int) = Bool.true then
      Option.some
        (k + (↑(List.length m.2.2.1) : Int) + (↑(List.length m.2.2.2.1) : Int),
          (Go.Rx.G.mk Go.Rx.G.mInt (1 : Int) (List.length m.2.2.1) k, Go.Rx.G.mk Go.Rx.G.mInt (1 : Int) (List.length m.2.2.2.1) (k + (↑(List.length m.2.2.1) : Int)),
            PUnit.unit),
          PUnit.unit)
    else Option.none
  else Option.none) := by kernel_rfl
def G.heldCpu (m : Cpu) (k : Int) : Int := if G.heldFrom m.2.2.1 k 0 = true then (if G.heldFrom m.2.2.2.1 (k + (m.2.2.1.length : Int)) 0 = true then k + (m.2.2.1.length : Int) + (m.2.2.2.1.length : Int) else -1) else -1
/-! HeldCpu -/
noncomputable abbrev spHeldCpu : Spec := ⟨[.agg CpuK, IntP], IntR, false, fun x => G.mkPre2 x.1 x.2.1, fun x => (G.heldCpu x.1 x.2.1, ())⟩
noncomputable abbrev cxHeldCpu : Cx := mkCx T0 ph18 [] [] 18
theorem eHeldCpu (m : Cpu) (k : Int) : funK cxHeldCpu Go.Proofs.Try.f18 spHeldCpu.ins spHeldCpu.out (m, k, ()) =
  (if Go.Rx.G.mkPre m.2.2.1 k (0 : Int) = Bool.true then
    if Decidable.decide ((if Go.Rx.G.heldFrom m.2.2.1 k (0 : Int) = Bool.true then k + (↑(List.length m.2.2.1) : Int) else (-1 : Int)) < (0 : Int)) = Bool.true then
      Option.some ((-1 : Int), PUnit.unit)
    else
      if
          Go.Rx.G.mkPre m.2.2.2.1 (if Go.Rx.G.heldFrom m.2.2.1 k (0 : Int) = Bool.true then k + (↑(List.length m.2.2.1) : Int) else (-1 : Int)) (0 : Int) =
            Bool.true then
        if
            Decidable.decide
                ((if
                      Go.Rx.G.heldFrom m.2.2.2.1 (if Go.Rx.G.heldFrom m.2.2.1 k (0 : Int) = Bool.true then k + (↑(List.length m.2.2.1) : Int) else (-1 : Int))
                          (0 : Int) =
                        Bool.true then
                    (if Go.Rx.G.heldFrom m.2.2.1 k (0 : Int) = Bool.true then k + (↑(List.length m.2.2.1) : Int) else (-1 : Int)) + (↑(List.length m.2.2.2.1) : Int)
                  else (-1 : Int)) <
                  (0 : Int)) =
              Bool.true then
          Option.some ((-1 : Int), PUnit.unit)
        else
          Option.some
            (if
                  Go.Rx.G.heldFrom m.2.2.2.1 (if Go.Rx.G.heldFrom m.2.2.1 k (0 : Int) = Bool.true then k + (↑(List.length m.2.2.1) : Int) else (-1 : Int)) (0 : Int) =
                    Bool.true then
                (if Go.Rx.G.heldFrom m.2.2.1 k (0 : Int) = Bool.true then k + (↑(List.length m.2.2.1) : Int) else (-1 : Int)) + (↑(List.length m.2.2.2.1) : Int)
              else (-1 : Int),
              PUnit.unit)
      else Option.none
  else Option.none) := by kernel_rfl
theorem sfMarkCpu (m : Cpu) (k : Int) (h : G.mkPre2 m k = true) : funK cxMarkCpu Go.Proofs.Try.f17 spMarkCpu.ins spMarkCpu.out (m, k, ()) = some (k + (m.2.2.1.length : Int) + (m.2.2.2.1.length : Int), ((G.mk G.mInt 1 m.2.2.1.length k, G.mk G.mInt 1 m.2.2.2.1.length (k + (m.2.2.1.length : Int)), ()), ())) := by
  obtain ⟨h1, h2, h3, h4⟩ := mkPre2_iff.1 h
  rw [eMarkCpu, if_pos (mkPre_iff.2 (by omega)), if_pos (mkPre_iff.2 (by omega))]
theorem okMarkCpu : SpecOk Go.Proofs.Try.prog 17 spMarkCpu :=
  fun_okB (cx := cxMarkCpu) (F := Go.Proofs.Try.f17) (cxOk T0_ok T0_eq ph18_ok) mixed (by kernel_rfl) (by decide) (by kernel_rfl) (lps_none (by kernel_rfl)) (fun x h => sfMarkCpu x.1 x.2.1 h)
theorem sfHeldCpu (m : Cpu) (k : Int) (h : G.mkPre2 m k = true) : funK cxHeldCpu Go.Proofs.Try.f18 spHeldCpu.ins spHeldCpu.out (m, k, ()) = some (G.heldCpu m k, ()) := by
  obtain ⟨h1, h2, h3, h4⟩ := mkPre2_iff.1 h
  rw [eHeldCpu, if_pos (mkPre_iff.2 (by omega))]
  unfold G.heldCpu
  by_cases c1 : G.heldFrom m.2.2.1 k 0 = true
  · simp only [c1, if_true]
    rw [if_neg (by simp; omega), if_pos (mkPre_iff.2 (by omega))]
    by_cases c2 : G.heldFrom m.2.2.2.1 (k + (m.2.2.1.length : Int)) 0 = true
    · simp only [c2, if_true]
      rw [if_neg (by simp; omega)]
    · simp [c2]
  · simp [c1]
theorem okHeldCpu : SpecOk Go.Proofs.Try.prog 18 spHeldCpu :=
  fun_okB (cx := cxHeldCpu) (F := Go.Proofs.Try.f18) (cxOk T0_ok T0_eq ph18_ok) mixed (by kernel_rfl) (by decide) (by kernel_rfl) (lps_none (by kernel_rfl)) (fun x h => sfHeldCpu x.1 x.2.1 h)
noncomputable abbrev ph19 : List (Nat × List Spec) := (17, [spMarkCpu]) :: (18, [spHeldCpu]) :: ph18
theorem ph19_ok : PhiOk Go.Proofs.Try.prog ph19 := ⟨⟨okMarkCpu, trivial⟩, ⟨okHeldCpu, trivial⟩, ph18_ok⟩
end Go.Rx

/-
  PROGRAMS: how much they hold.
-/
import Derived.Test.YteenlfeglffnoaaCa
namespace Go.Rx
open Go
set_option linter.unusedVariables false
set_option linter.unusedSimpArgs false
def G.szW (w : Nat) (l : Int) : Int := if (w : Int) ≤ l then l - (w : Int) else -1
theorem szW_pos {w : Nat} {l : Int} (h : (w : Int) ≤ l) : G.szW w l = l - (w : Int) := if_pos h
theorem szW_neg {w : Nat} {l : Int} (h : ¬ (w : Int) ≤ l) : G.szW w l = -1 := if_neg h
def G.szP (l : Int) : Bool := decide (0 ≤ l ∧ l ≤ 1048576)
theorem szP_iff {l : Int} : G.szP l = true ↔ (0 ≤ l ∧ l ≤ 1048576) := by simp [G.szP]
def G.szQ (n : Nat) (l i : Int) : Bool := decide (0 ≤ i ∧ i ≤ (n : Int) ∧ n ≤ 1048576 ∧ 0 ≤ l ∧ l ≤ 1048576)
theorem szQ_iff {n : Nat} {l i : Int} : G.szQ n l i = true ↔ (0 ≤ i ∧ i ≤ (n : Int) ∧ n ≤ 1048576 ∧ 0 ≤ l ∧ l ≤ 1048576) := by simp [G.szQ]
def G.szRun (neg : Bool) : List Nat → Int → Bool × Int
  | [], l => (true, l)
  | w :: r, l => if (w : Int) ≤ l then G.szRun neg r (l - (w : Int)) else (false, if neg = true then -1 else l - (w : Int))
theorem szRun_sum (neg : Bool) : ∀ (ws : List Nat) (l : Int), 0 ≤ l → (((ws.sum : Nat) : Int) ≤ l → G.szRun neg ws l = (true, l - ((ws.sum : Nat) : Int))) ∧ (¬ ((ws.sum : Nat) : Int) ≤ l → (G.szRun neg ws l).1 = false)
  | [], l, h => by simp [G.szRun, h]
  | w :: r, l, h => by
    unfold G.szRun
    rw [List.sum_cons]
    by_cases hc : (w : Int) ≤ l
    · obtain ⟨h1, h2⟩ := szRun_sum neg r (l - (w : Int)) (by omega)
      rw [if_pos hc]
      refine ⟨fun e => ?_, fun e => h2 (by omega)⟩
      rw [h1 (by omega)]
      congr 1
      omega
    · rw [if_neg hc]
      exact ⟨fun e => by omega, fun _ => rfl⟩
theorem szRun_end (neg : Bool) (n : Nat) (ws : List Nat) (l : Int) (h : (n : Int) ≤ l) :
    (if (if (G.szRun neg ws (l - (n : Int))).1 = true then 0 else 1) = 0 then some ((G.szRun neg ws (l - (n : Int))).2, ())
     else if (if (G.szRun neg ws (l - (n : Int))).1 = true then 0 else 1) = 1 then some (if (G.szRun neg ws (l - (n : Int))).1 = true then 0 else -1, ()) else none) = some (G.szW (n + ws.sum) l, ()) := by
  obtain ⟨h1, h2⟩ := szRun_sum neg ws (l - (n : Int)) (by omega)
  by_cases hc : ((ws.sum : Nat) : Int) ≤ l - (n : Int)
  · rw [h1 hc, szW_pos (by omega)]
    simp
    omega
  · rw [szW_neg (by omega)]
    simp [h2 hc]
def G.lenN (n : Nat) : Bool := decide (n ≤ 9223372036854775807)
theorem lenN_iff {n : Nat} : G.lenN n = true ↔ n ≤ 9223372036854775807 := by simp [G.lenN]
def G.wIns (i : Ins) : Nat := i.2.2.1.size
def G.lenIns (i : Ins) : Bool := G.lenN i.2.2.1.size
def G.lenInss (b : Inss) : Bool := decide (b.length ≤ 9223372036854775807) && b.all G.lenIns
/-! SzIns -/
noncomputable abbrev spSzIns : Spec := ⟨[.agg InsK, IntP], IntR, false, fun x => G.szP x.2.1 && G.lenIns x.1, fun x => (G.szW (G.wIns x.1) x.2.1, ())⟩
noncomputable abbrev cxSzIns : Cx := mkCx T0 pg9 [] [] 13
theorem eSzIns (a : Ins) (l : Int) : funK cxSzIns Go.Proofs.Try.f123 spSzIns.ins spSzIns.out (a, l, ()) =
  (if Decidable.decide (Go.IntKind.wrap Go.IntKind.i64 (l - (↑(ByteArray.size a.2.2.1) : Int)) < (0 : Int)) = Bool.true then Option.some ((-1 : Int), PUnit.unit)
  else Option.some (Go.IntKind.wrap Go.IntKind.i64 (l - (↑(ByteArray.size a.2.2.1) : Int)), PUnit.unit)) := by kernel_rfl
theorem sfSzIns (a : Ins) (l : Int) (h : (G.szP l && G.lenIns a) = true) : funK cxSzIns Go.Proofs.Try.f123 spSzIns.ins spSzIns.out (a, l, ()) = some (G.szW (G.wIns a) l, ()) := by
  rw [Bool.and_eq_true] at h
  obtain ⟨h0, h1⟩ := szP_iff.1 h.1
  have hs : a.2.2.1.size ≤ 9223372036854775807 := lenN_iff.1 h.2
  rw [eSzIns, w64 (by omega) (by omega)]
  unfold G.szW G.wIns
  by_cases hc : (a.2.2.1.size : Int) ≤ l
  · rw [if_neg (by simp; omega), if_pos hc]
  · rw [if_pos (by simp; omega), if_neg hc]
theorem okSzIns : SpecOk Go.Proofs.Try.prog 123 spSzIns :=
  fun_okB (cx := cxSzIns) (F := Go.Proofs.Try.f123) (cxOk T0_ok T0_eq pg9_ok) mixed (by kernel_rfl) (by decide) (by kernel_rfl) (lps_none (by kernel_rfl)) (fun x h => sfSzIns x.1 x.2.1 h)
noncomputable abbrev pg10 : List (Nat × List Spec) := (123, [spSzIns]) :: pg9
theorem pg10_ok : PhiOk Go.Proofs.Try.prog pg10 := ⟨⟨okSzIns, trivial⟩, pg9_ok⟩
/-! SzInsS: its loop -/
noncomputable abbrev lsSzInsS : LSpec := ⟨[0, 1, 5, 4], [1, 4], [.c (.dat (.sl insT)), IntP, IntP, IntP], [IntP, IntP], false, fun x => (G.szQ x.1.length x.2.1 x.2.2.1 && x.1.all G.lenIns),
  fun x => ((if (G.szRun true ((x.1.drop x.2.2.1.toNat).map G.wIns) x.2.1).1 = true then 0 else 1, ((G.szRun true ((x.1.drop x.2.2.1.toNat).map G.wIns) x.2.1).2, (if (G.szRun true ((x.1.drop x.2.2.1.toNat).map G.wIns) x.2.1).1 = true then x.2.2.2.1 else -1, ()))), ())⟩
noncomputable abbrev cxSzInsS : Cx := mkCx T0 pg10 [(0, lsSzInsS)] [] 27
theorem rSzInsS (a : List (Int × Int × ByteArray × Unit)) (l i r : Int) : roundK cxSzInsS 0 (loopIn Go.Proofs.Try.f88 0) lsSzInsS (a, l, i, r, ()) =
  (if Decidable.decide (i < (↑(List.length a) : Int)) = Bool.true then
    if Decidable.decide ((0 : Int) ≤ i) = Bool.true then
      if Decidable.decide (i < (↑(List.length a) : Int)) = Bool.true then
        if (Go.Rx.G.szP l && Go.Rx.G.lenIns (List.getD a (Int.toNat i) ((0 : Int), (0 : Int), ByteArray.empty, PUnit.unit))) = Bool.true then
          if Decidable.decide (Go.Rx.G.szW (Go.Rx.G.wIns (List.getD a (Int.toNat i) ((0 : Int), (0 : Int), ByteArray.empty, PUnit.unit))) l < (0 : Int)) = Bool.true then
            Option.some (Go.Rx.LRes.stop (1 : Nat) (Go.Rx.G.szW (Go.Rx.G.wIns (List.getD a (Int.toNat i) ((0 : Int), (0 : Int), ByteArray.empty, PUnit.unit))) l, (-1 : Int), PUnit.unit) PUnit.unit)
          else
            Option.some
              (Go.Rx.LRes.go
                (a, Go.Rx.G.szW (Go.Rx.G.wIns (List.getD a (Int.toNat i) ((0 : Int), (0 : Int), ByteArray.empty, PUnit.unit))) l,
                  Go.IntKind.wrap Go.IntKind.i64 (i + (1 : Int)), r, PUnit.unit))
        else Option.none
      else Option.none
    else Option.none
  else Option.some (Go.Rx.LRes.stop (0 : Nat) (l, r, PUnit.unit) PUnit.unit)) := by kernel_rfl
noncomputable abbrev muSzInsS : PKs.den lsSzInsS.ins → Nat := fun x => x.1.length - x.2.2.1.toNat
theorem stSzInsS (a : List (Int × Int × ByteArray × Unit)) (l i r : Int) (h : (G.szQ a.length l i && a.all G.lenIns) = true) : StepOk lsSzInsS (eqInv lsSzInsS) muSzInsS (a, l, i, r, ()) (roundK cxSzInsS 0 (loopIn Go.Proofs.Try.f88 0) lsSzInsS (a, l, i, r, ())) := by
  rw [Bool.and_eq_true] at h
  obtain ⟨h, hall⟩ := h
  obtain ⟨h0, h1, h2, h3, h4⟩ := szQ_iff.1 h
  rw [rSzInsS]
  by_cases hi : i < (a.length : Int)
  · have hw : IntKind.i64.wrap (i + 1) = i + 1 := w64 (by omega) (by omega)
    have hfe := all_getD (((0 : Int), (0 : Int), ByteArray.empty, ()) : Int × Int × ByteArray × Unit) hall (show i.toNat < a.length by omega)
    have hd := drop_cons (((0 : Int), (0 : Int), ByteArray.empty, ()) : Int × Int × ByteArray × Unit) (xs := a) (i := i.toNat) (by omega)
    have hsp : G.szP l = true := szP_iff.2 ⟨h3, h4⟩
    simp only [hi, h0, decide_true, if_true, hw, hfe, hsp, Bool.and_self]
    generalize a.getD i.toNat (((0 : Int), (0 : Int), ByteArray.empty, ()) : Int × Int × ByteArray × Unit) = x at *
    by_cases hc : (G.wIns x : Int) ≤ l
    · have hr : G.szRun true ((a.drop i.toNat).map G.wIns) l = G.szRun true ((a.drop (i + 1).toNat).map G.wIns) (l - (G.wIns x : Int)) := by
        rw [hd, List.map_cons, toNat_succ h0]
        show (if (G.wIns x : Int) ≤ l then _ else _) = _
        rw [if_pos hc]
      rw [szW_pos hc, if_neg (by simp; omega)]
      refine ⟨(show (G.szQ a.length (l - (G.wIns x : Int)) (i + 1) && a.all G.lenIns) = true by rw [Bool.and_eq_true]; exact ⟨szQ_iff.2 (by omega), hall⟩), ?_, ?_⟩
      · show a.length - (i + 1).toNat < a.length - i.toNat
        omega
      · show ((_, _), _) = ((_, _), _)
        simp only [hr]
    · have hr : G.szRun true ((a.drop i.toNat).map G.wIns) l = (false, if true = true then -1 else l - (G.wIns x : Int)) := by
        rw [hd, List.map_cons]
        show (if (G.wIns x : Int) ≤ l then _ else _) = _
        rw [if_neg hc]
      rw [szW_neg hc, if_pos (by simp)]
      show ((_, _), _) = ((_, _), _)
      simp only [hr]
      rfl
  · have hr : G.szRun true ((a.drop i.toNat).map G.wIns) l = (true, l) := by
      rw [drop_nil (by omega)]
      rfl
    rw [if_neg (by simpa using hi)]
    show ((_, _), _) = ((_, _), _)
    simp only [hr]
    rfl
theorem lpSzInsS : LpOk Go.Proofs.Try.prog cxSzInsS.ntmps 0 (loopIn Go.Proofs.Try.f88 0) lsSzInsS :=
  lp_okB (cxOk T0_ok T0_eq pg10_ok) mixed (by kernel_rfl) (lps_none (by kernel_rfl)) (eqInv lsSzInsS) muSzInsS (fun _ h => h) (fun x h => stSzInsS x.1 x.2.1 x.2.2.1 x.2.2.2.1 h)
def G.wInss (a : List (Int × Int × ByteArray × Unit)) : Nat := a.length + (a.map G.wIns).sum
noncomputable abbrev spSzInsS : Spec := ⟨[.c (.dat (.sl insT)), IntP], IntR, false, fun x => (G.szP x.2.1 && G.lenInss x.1), fun x => (G.szW (G.wInss x.1) x.2.1, ())⟩
theorem eSzInsS (a : List (Int × Int × ByteArray × Unit)) (l : Int) : funK cxSzInsS Go.Proofs.Try.f88 spSzInsS.ins spSzInsS.out (a, l, ()) =
  (if Decidable.decide (Go.IntKind.wrap Go.IntKind.i64 (l - (↑(List.length a) : Int)) < (0 : Int)) = Bool.true then Option.some ((-1 : Int), PUnit.unit)
  else
    if (Go.Rx.G.szQ (List.length a) (Go.IntKind.wrap Go.IntKind.i64 (l - (↑(List.length a) : Int))) (0 : Int) && List.all a Go.Rx.G.lenIns) = Bool.true then
      if
          (if (Go.Rx.G.szRun Bool.true (List.map Go.Rx.G.wIns (List.drop (Int.toNat (0 : Int)) a)) (Go.IntKind.wrap Go.IntKind.i64 (l - (↑(List.length a) : Int)))).1 = Bool.true then (0 : Nat)
            else (1 : Nat)) =
            (0 : Nat) then
        Option.some ((Go.Rx.G.szRun Bool.true (List.map Go.Rx.G.wIns (List.drop (Int.toNat (0 : Int)) a)) (Go.IntKind.wrap Go.IntKind.i64 (l - (↑(List.length a) : Int)))).2, PUnit.unit)
      else
        if
            (if (Go.Rx.G.szRun Bool.true (List.map Go.Rx.G.wIns (List.drop (Int.toNat (0 : Int)) a)) (Go.IntKind.wrap Go.IntKind.i64 (l - (↑(List.length a) : Int)))).1 = Bool.true then (0 : Nat)
              else (1 : Nat)) =
              (1 : Nat) then
          Option.some
            (if (Go.Rx.G.szRun Bool.true (List.map Go.Rx.G.wIns (List.drop (Int.toNat (0 : Int)) a)) (Go.IntKind.wrap Go.IntKind.i64 (l - (↑(List.length a) : Int)))).1 = Bool.true then (0 : Int)
              else (-1 : Int),
              PUnit.unit)
        else Option.none
    else Option.none) := by kernel_rfl
theorem sfSzInsS (a : List (Int × Int × ByteArray × Unit)) (l : Int) (h : (G.szP l && G.lenInss a) = true) : funK cxSzInsS Go.Proofs.Try.f88 spSzInsS.ins spSzInsS.out (a, l, ()) = some (G.szW (G.wInss a) l, ()) := by
  unfold G.lenInss at h
  rw [Bool.and_eq_true, Bool.and_eq_true] at h
  obtain ⟨hp, hl, hall⟩ := h
  have hl := of_decide_eq_true hl
  obtain ⟨h0, h1⟩ := szP_iff.1 hp
  rw [eSzInsS, w64 (by omega) (by omega)]
  by_cases hc : (a.length : Int) ≤ l
  · rw [if_neg (by simp; omega), if_pos (show (G.szQ a.length (l - (a.length : Int)) 0 && a.all G.lenIns) = true by rw [Bool.and_eq_true]; exact ⟨szQ_iff.2 (by omega), hall⟩)]
    rw [show List.drop (Int.toNat 0) a = a from rfl]
    exact szRun_end true a.length (a.map G.wIns) l (by omega)
  · rw [if_pos (by simp; omega), szW_neg (by unfold G.wInss; omega)]
theorem okSzInsS : SpecOk Go.Proofs.Try.prog 88 spSzInsS :=
  fun_okB (cx := cxSzInsS) (F := Go.Proofs.Try.f88) (cxOk T0_ok T0_eq pg10_ok) mixed (by kernel_rfl) (by decide) (by kernel_rfl) (lps_of (l := [(0, loopIn Go.Proofs.Try.f88 0)]) (by kernel_rfl) ⟨lp_at lpSzInsS rfl, trivial⟩) (fun x h => sfSzInsS x.1 x.2.1 h)
noncomputable abbrev pg11 : List (Nat × List Spec) := (88, [spSzInsS]) :: (37, [spSzIntS]) :: pg10
theorem pg11_ok : PhiOk Go.Proofs.Try.prog pg11 := ⟨⟨okSzInsS, trivial⟩, ⟨okSzIntS, trivial⟩, pg10_ok⟩
def G.wFun (f : Fun) : Nat := f.1.size + G.wInss f.2.2.1
def G.lenFun (f : Fun) : Bool := G.lenN f.1.size && G.lenInss f.2.2.1
def G.lenFuns (p : Funs) : Bool := decide (p.length ≤ 9223372036854775807) && p.all G.lenFun
theorem szW_add {v w : Nat} {l : Int} (h : (v : Int) ≤ l) : G.szW w (l - (v : Int)) = G.szW (v + w) l := by
  unfold G.szW
  by_cases hc : (w : Int) ≤ l - (v : Int)
  · rw [if_pos hc, if_pos (by omega)]
    omega
  · rw [if_neg hc, if_neg (by omega)]
theorem szW_id {w : Nat} {l : Int} : (if decide (G.szW w l < 0) = true then some ((-1 : Int), ()) else some (G.szW w l, ())) = some (G.szW w l, ()) := by
  unfold G.szW
  by_cases hc : (w : Int) ≤ l
  · rw [if_pos hc, if_neg (by simp; omega)]
  · rw [if_neg hc, if_pos (by simp)]
/-! SzFun -/
noncomputable abbrev spSzFun : Spec := ⟨[.agg FunK, IntP], IntR, false, fun x => G.szP x.2.1 && G.lenFun x.1, fun x => (G.szW (G.wFun x.1) x.2.1, ())⟩
noncomputable abbrev cxSzFun : Cx := mkCx T0 pg11 [] [] 19
theorem eSzFun (a : Fun) (l : Int) : funK cxSzFun Go.Proofs.Try.f50 spSzFun.ins spSzFun.out (a, l, ()) =
  (if Decidable.decide (Go.IntKind.wrap Go.IntKind.i64 (l - (↑(ByteArray.size a.1) : Int)) < (0 : Int)) = Bool.true then Option.some ((-1 : Int), PUnit.unit)
  else
    if (Go.Rx.G.szP (Go.IntKind.wrap Go.IntKind.i64 (l - (↑(ByteArray.size a.1) : Int))) && Go.Rx.G.lenInss a.2.2.1) = Bool.true then
      if Decidable.decide (Go.Rx.G.szW (Go.Rx.G.wInss a.2.2.1) (Go.IntKind.wrap Go.IntKind.i64 (l - (↑(ByteArray.size a.1) : Int))) < (0 : Int)) = Bool.true then Option.some ((-1 : Int), PUnit.unit)
      else Option.some (Go.Rx.G.szW (Go.Rx.G.wInss a.2.2.1) (Go.IntKind.wrap Go.IntKind.i64 (l - (↑(ByteArray.size a.1) : Int))), PUnit.unit)
    else Option.none) := by kernel_rfl
theorem sfSzFun (a : Fun) (l : Int) (h : (G.szP l && G.lenFun a) = true) : funK cxSzFun Go.Proofs.Try.f50 spSzFun.ins spSzFun.out (a, l, ()) = some (G.szW (G.wFun a) l, ()) := by
  unfold G.lenFun at h
  rw [Bool.and_eq_true, Bool.and_eq_true] at h
  obtain ⟨hp, hs, hb⟩ := h
  obtain ⟨h0, h1⟩ := szP_iff.1 hp
  have hs := lenN_iff.1 hs
  rw [eSzFun, w64 (by omega) (by omega)]
  by_cases hc : (a.1.size : Int) ≤ l
  · rw [if_neg (by simp; omega), if_pos (by rw [Bool.and_eq_true]; exact ⟨szP_iff.2 (by omega), hb⟩), szW_id, szW_add hc]
    rfl
  · rw [if_pos (by simp; omega), szW_neg (by unfold G.wFun; omega)]
theorem okSzFun : SpecOk Go.Proofs.Try.prog 50 spSzFun :=
  fun_okB (cx := cxSzFun) (F := Go.Proofs.Try.f50) (cxOk T0_ok T0_eq pg11_ok) mixed (by kernel_rfl) (by decide) (by kernel_rfl) (lps_none (by kernel_rfl)) (fun x h => sfSzFun x.1 x.2.1 h)
noncomputable abbrev pg12 : List (Nat × List Spec) := (50, [spSzFun]) :: pg11
theorem pg12_ok : PhiOk Go.Proofs.Try.prog pg12 := ⟨⟨okSzFun, trivial⟩, pg11_ok⟩
/-! SzFunS: its loop -/
noncomputable abbrev lsSzFunS : LSpec := ⟨[0, 1, 5, 4], [1, 4], [.c (.dat (.sl funT)), IntP, IntP, IntP], [IntP, IntP], false, fun x => (G.szQ x.1.length x.2.1 x.2.2.1 && x.1.all G.lenFun),
  fun x => ((if (G.szRun true ((x.1.drop x.2.2.1.toNat).map G.wFun) x.2.1).1 = true then 0 else 1, ((G.szRun true ((x.1.drop x.2.2.1.toNat).map G.wFun) x.2.1).2, (if (G.szRun true ((x.1.drop x.2.2.1.toNat).map G.wFun) x.2.1).1 = true then x.2.2.2.1 else -1, ()))), ())⟩
noncomputable abbrev cxSzFunS : Cx := mkCx T0 pg12 [(0, lsSzFunS)] [] 27
theorem rSzFunS (a : List (ByteArray × Bool × List (Int × Int × ByteArray × Unit) × Unit)) (l i r : Int) : roundK cxSzFunS 0 (loopIn Go.Proofs.Try.f19 0) lsSzFunS (a, l, i, r, ()) =
  (if Decidable.decide (i < (↑(List.length a) : Int)) = Bool.true then
    if Decidable.decide ((0 : Int) ≤ i) = Bool.true then
      if Decidable.decide (i < (↑(List.length a) : Int)) = Bool.true then
        if (Go.Rx.G.szP l && Go.Rx.G.lenFun (List.getD a (Int.toNat i) (ByteArray.empty, Bool.false, [], PUnit.unit))) = Bool.true then
          if Decidable.decide (Go.Rx.G.szW (Go.Rx.G.wFun (List.getD a (Int.toNat i) (ByteArray.empty, Bool.false, [], PUnit.unit))) l < (0 : Int)) = Bool.true then
            Option.some (Go.Rx.LRes.stop (1 : Nat) (Go.Rx.G.szW (Go.Rx.G.wFun (List.getD a (Int.toNat i) (ByteArray.empty, Bool.false, [], PUnit.unit))) l, (-1 : Int), PUnit.unit) PUnit.unit)
          else
            Option.some
              (Go.Rx.LRes.go
                (a, Go.Rx.G.szW (Go.Rx.G.wFun (List.getD a (Int.toNat i) (ByteArray.empty, Bool.false, [], PUnit.unit))) l, Go.IntKind.wrap Go.IntKind.i64 (i + (1 : Int)),
                  r, PUnit.unit))
        else Option.none
      else Option.none
    else Option.none
  else Option.some (Go.Rx.LRes.stop (0 : Nat) (l, r, PUnit.unit) PUnit.unit)) := by kernel_rfl
noncomputable abbrev muSzFunS : PKs.den lsSzFunS.ins → Nat := fun x => x.1.length - x.2.2.1.toNat
theorem stSzFunS (a : List (ByteArray × Bool × List (Int × Int × ByteArray × Unit) × Unit)) (l i r : Int) (h : (G.szQ a.length l i && a.all G.lenFun) = true) : StepOk lsSzFunS (eqInv lsSzFunS) muSzFunS (a, l, i, r, ()) (roundK cxSzFunS 0 (loopIn Go.Proofs.Try.f19 0) lsSzFunS (a, l, i, r, ())) := by
  rw [Bool.and_eq_true] at h
  obtain ⟨h, hall⟩ := h
  obtain ⟨h0, h1, h2, h3, h4⟩ := szQ_iff.1 h
  rw [rSzFunS]
  by_cases hi : i < (a.length : Int)
  · have hw : IntKind.i64.wrap (i + 1) = i + 1 := w64 (by omega) (by omega)
    have hfe := all_getD ((ByteArray.empty, false, [], ()) : ByteArray × Bool × List (Int × Int × ByteArray × Unit) × Unit) hall (show i.toNat < a.length by omega)
    have hd := drop_cons ((ByteArray.empty, false, [], ()) : ByteArray × Bool × List (Int × Int × ByteArray × Unit) × Unit) (xs := a) (i := i.toNat) (by omega)
    have hsp : G.szP l = true := szP_iff.2 ⟨h3, h4⟩
    simp only [hi, h0, decide_true, if_true, hw, hfe, hsp, Bool.and_self]
    generalize a.getD i.toNat ((ByteArray.empty, false, [], ()) : ByteArray × Bool × List (Int × Int × ByteArray × Unit) × Unit) = x at *
    by_cases hc : (G.wFun x : Int) ≤ l
    · have hr : G.szRun true ((a.drop i.toNat).map G.wFun) l = G.szRun true ((a.drop (i + 1).toNat).map G.wFun) (l - (G.wFun x : Int)) := by
        rw [hd, List.map_cons, toNat_succ h0]
        show (if (G.wFun x : Int) ≤ l then _ else _) = _
        rw [if_pos hc]
      rw [szW_pos hc, if_neg (by simp; omega)]
      refine ⟨(show (G.szQ a.length (l - (G.wFun x : Int)) (i + 1) && a.all G.lenFun) = true by rw [Bool.and_eq_true]; exact ⟨szQ_iff.2 (by omega), hall⟩), ?_, ?_⟩
      · show a.length - (i + 1).toNat < a.length - i.toNat
        omega
      · show ((_, _), _) = ((_, _), _)
        simp only [hr]
    · have hr : G.szRun true ((a.drop i.toNat).map G.wFun) l = (false, if true = true then -1 else l - (G.wFun x : Int)) := by
        rw [hd, List.map_cons]
        show (if (G.wFun x : Int) ≤ l then _ else _) = _
        rw [if_neg hc]
      rw [szW_neg hc, if_pos (by simp)]
      show ((_, _), _) = ((_, _), _)
      simp only [hr]
      rfl
  · have hr : G.szRun true ((a.drop i.toNat).map G.wFun) l = (true, l) := by
      rw [drop_nil (by omega)]
      rfl
    rw [if_neg (by simpa using hi)]
    show ((_, _), _) = ((_, _), _)
    simp only [hr]
    rfl
theorem lpSzFunS : LpOk Go.Proofs.Try.prog cxSzFunS.ntmps 0 (loopIn Go.Proofs.Try.f19 0) lsSzFunS :=
  lp_okB (cxOk T0_ok T0_eq pg12_ok) mixed (by kernel_rfl) (lps_none (by kernel_rfl)) (eqInv lsSzFunS) muSzFunS (fun _ h => h) (fun x h => stSzFunS x.1 x.2.1 x.2.2.1 x.2.2.2.1 h)
def G.wFuns (a : List (ByteArray × Bool × List (Int × Int × ByteArray × Unit) × Unit)) : Nat := a.length + (a.map G.wFun).sum
noncomputable abbrev spSzFunS : Spec := ⟨[.c (.dat (.sl funT)), IntP], IntR, false, fun x => (G.szP x.2.1 && G.lenFuns x.1), fun x => (G.szW (G.wFuns x.1) x.2.1, ())⟩
theorem eSzFunS (a : List (ByteArray × Bool × List (Int × Int × ByteArray × Unit) × Unit)) (l : Int) : funK cxSzFunS Go.Proofs.Try.f19 spSzFunS.ins spSzFunS.out (a, l, ()) =
  (if Decidable.decide (Go.IntKind.wrap Go.IntKind.i64 (l - (↑(List.length a) : Int)) < (0 : Int)) = Bool.true then Option.some ((-1 : Int), PUnit.unit)
  else
    if (Go.Rx.G.szQ (List.length a) (Go.IntKind.wrap Go.IntKind.i64 (l - (↑(List.length a) : Int))) (0 : Int) && List.all a Go.Rx.G.lenFun) = Bool.true then
      if
          (if (Go.Rx.G.szRun Bool.true (List.map Go.Rx.G.wFun (List.drop (Int.toNat (0 : Int)) a)) (Go.IntKind.wrap Go.IntKind.i64 (l - (↑(List.length a) : Int)))).1 = Bool.true then (0 : Nat)
            else (1 : Nat)) =
            (0 : Nat) then
        Option.some ((Go.Rx.G.szRun Bool.true (List.map Go.Rx.G.wFun (List.drop (Int.toNat (0 : Int)) a)) (Go.IntKind.wrap Go.IntKind.i64 (l - (↑(List.length a) : Int)))).2, PUnit.unit)
      else
        if
            (if (Go.Rx.G.szRun Bool.true (List.map Go.Rx.G.wFun (List.drop (Int.toNat (0 : Int)) a)) (Go.IntKind.wrap Go.IntKind.i64 (l - (↑(List.length a) : Int)))).1 = Bool.true then (0 : Nat)
              else (1 : Nat)) =
              (1 : Nat) then
          Option.some
            (if (Go.Rx.G.szRun Bool.true (List.map Go.Rx.G.wFun (List.drop (Int.toNat (0 : Int)) a)) (Go.IntKind.wrap Go.IntKind.i64 (l - (↑(List.length a) : Int)))).1 = Bool.true then (0 : Int)
              else (-1 : Int),
              PUnit.unit)
        else Option.none
    else Option.none) := by kernel_rfl
theorem sfSzFunS (a : List (ByteArray × Bool × List (Int × Int × ByteArray × Unit) × Unit)) (l : Int) (h : (G.szP l && G.lenFuns a) = true) : funK cxSzFunS Go.Proofs.Try.f19 spSzFunS.ins spSzFunS.out (a, l, ()) = some (G.szW (G.wFuns a) l, ()) := by
  unfold G.lenFuns at h
  rw [Bool.and_eq_true, Bool.and_eq_true] at h
  obtain ⟨hp, hl, hall⟩ := h
  have hl := of_decide_eq_true hl
  obtain ⟨h0, h1⟩ := szP_iff.1 hp
  rw [eSzFunS, w64 (by omega) (by omega)]
  by_cases hc : (a.length : Int) ≤ l
  · rw [if_neg (by simp; omega), if_pos (show (G.szQ a.length (l - (a.length : Int)) 0 && a.all G.lenFun) = true by rw [Bool.and_eq_true]; exact ⟨szQ_iff.2 (by omega), hall⟩)]
    rw [show List.drop (Int.toNat 0) a = a from rfl]
    exact szRun_end true a.length (a.map G.wFun) l (by omega)
  · rw [if_pos (by simp; omega), szW_neg (by unfold G.wFuns; omega)]
theorem okSzFunS : SpecOk Go.Proofs.Try.prog 19 spSzFunS :=
  fun_okB (cx := cxSzFunS) (F := Go.Proofs.Try.f19) (cxOk T0_ok T0_eq pg12_ok) mixed (by kernel_rfl) (by decide) (by kernel_rfl) (lps_of (l := [(0, loopIn Go.Proofs.Try.f19 0)]) (by kernel_rfl) ⟨lp_at lpSzFunS rfl, trivial⟩) (fun x h => sfSzFunS x.1 x.2.1 h)
def G.wStr (s : ByteArray × Unit) : Nat := s.1.size
def G.lenStr (s : ByteArray × Unit) : Bool := G.lenN s.1.size
def G.lenStrs (b : Strs) : Bool := decide (b.length ≤ 9223372036854775807) && b.all G.lenStr
/-! SzStrS: its loop -/
noncomputable abbrev lsSzStrS : LSpec := ⟨[0, 1, 5, 4], [1, 4], [.c (.dat (.sl strT)), IntP, IntP, IntP], [IntP, IntP], false, fun x => (G.szQ x.1.length x.2.1 x.2.2.1 && x.1.all G.lenStr),
  fun x => ((if (G.szRun false ((x.1.drop x.2.2.1.toNat).map G.wStr) x.2.1).1 = true then 0 else 1, ((G.szRun false ((x.1.drop x.2.2.1.toNat).map G.wStr) x.2.1).2, (if (G.szRun false ((x.1.drop x.2.2.1.toNat).map G.wStr) x.2.1).1 = true then x.2.2.2.1 else -1, ()))), ())⟩
noncomputable abbrev cxSzStrS : Cx := mkCx T0 pg12 [(0, lsSzStrS)] [] 28
theorem rSzStrS (a : List (ByteArray × Unit)) (l i r : Int) : roundK cxSzStrS 0 (loopIn Go.Proofs.Try.f89 0) lsSzStrS (a, l, i, r, ()) =
  (if Decidable.decide (i < (↑(List.length a) : Int)) = Bool.true then
    if Decidable.decide ((0 : Int) ≤ i) = Bool.true then
      if Decidable.decide (i < (↑(List.length a) : Int)) = Bool.true then
        if Decidable.decide (Go.IntKind.wrap Go.IntKind.i64 (l - (↑(ByteArray.size (List.getD a (Int.toNat i) (ByteArray.empty, PUnit.unit)).1) : Int)) < (0 : Int)) = Bool.true then
          Option.some
            (Go.Rx.LRes.stop (1 : Nat) (Go.IntKind.wrap Go.IntKind.i64 (l - (↑(ByteArray.size (List.getD a (Int.toNat i) (ByteArray.empty, PUnit.unit)).1) : Int)), (-1 : Int), PUnit.unit) PUnit.unit)
        else
          Option.some
            (Go.Rx.LRes.go
              (a, Go.IntKind.wrap Go.IntKind.i64 (l - (↑(ByteArray.size (List.getD a (Int.toNat i) (ByteArray.empty, PUnit.unit)).1) : Int)),
                Go.IntKind.wrap Go.IntKind.i64 (i + (1 : Int)), r, PUnit.unit))
      else Option.none
    else Option.none
  else Option.some (Go.Rx.LRes.stop (0 : Nat) (l, r, PUnit.unit) PUnit.unit)) := by kernel_rfl
noncomputable abbrev muSzStrS : PKs.den lsSzStrS.ins → Nat := fun x => x.1.length - x.2.2.1.toNat
theorem stSzStrS (a : List (ByteArray × Unit)) (l i r : Int) (h : (G.szQ a.length l i && a.all G.lenStr) = true) : StepOk lsSzStrS (eqInv lsSzStrS) muSzStrS (a, l, i, r, ()) (roundK cxSzStrS 0 (loopIn Go.Proofs.Try.f89 0) lsSzStrS (a, l, i, r, ())) := by
  rw [Bool.and_eq_true] at h
  obtain ⟨h, hall⟩ := h
  obtain ⟨h0, h1, h2, h3, h4⟩ := szQ_iff.1 h
  rw [rSzStrS]
  by_cases hi : i < (a.length : Int)
  · have hw : IntKind.i64.wrap (i + 1) = i + 1 := w64 (by omega) (by omega)
    have hfe := all_getD ((ByteArray.empty, ()) : ByteArray × Unit) hall (show i.toNat < a.length by omega)
    have hd := drop_cons ((ByteArray.empty, ()) : ByteArray × Unit) (xs := a) (i := i.toNat) (by omega)
    have hle := lenN_iff.1 (show G.lenN (a.getD i.toNat ((ByteArray.empty, ()) : ByteArray × Unit)).1.size = true from hfe)
    simp only [hi, h0, decide_true, if_true, hw, hfe]
    generalize a.getD i.toNat ((ByteArray.empty, ()) : ByteArray × Unit) = x at *
    by_cases hc : (G.wStr x : Int) ≤ l
    · have hr : G.szRun false ((a.drop i.toNat).map G.wStr) l = G.szRun false ((a.drop (i + 1).toNat).map G.wStr) (l - (G.wStr x : Int)) := by
        rw [hd, List.map_cons, toNat_succ h0]
        show (if (G.wStr x : Int) ≤ l then _ else _) = _
        rw [if_pos hc]
      rw [show (x.1.size : Int) = (G.wStr x : Int) from rfl, w64 (by omega) (by omega), if_neg (by simp; omega)]
      refine ⟨(show (G.szQ a.length (l - (G.wStr x : Int)) (i + 1) && a.all G.lenStr) = true by rw [Bool.and_eq_true]; exact ⟨szQ_iff.2 (by omega), hall⟩), ?_, ?_⟩
      · show a.length - (i + 1).toNat < a.length - i.toNat
        omega
      · show ((_, _), _) = ((_, _), _)
        simp only [hr]
    · have hr : G.szRun false ((a.drop i.toNat).map G.wStr) l = (false, if false = true then -1 else l - (G.wStr x : Int)) := by
        rw [hd, List.map_cons]
        show (if (G.wStr x : Int) ≤ l then _ else _) = _
        rw [if_neg hc]
      rw [show (x.1.size : Int) = (G.wStr x : Int) from rfl, w64 (by unfold G.wStr at hc ⊢; omega) (by omega), if_pos (by simp; omega)]
      show ((_, _), _) = ((_, _), _)
      simp only [hr]
      rfl
  · have hr : G.szRun false ((a.drop i.toNat).map G.wStr) l = (true, l) := by
      rw [drop_nil (by omega)]
      rfl
    rw [if_neg (by simpa using hi)]
    show ((_, _), _) = ((_, _), _)
    simp only [hr]
    rfl
theorem lpSzStrS : LpOk Go.Proofs.Try.prog cxSzStrS.ntmps 0 (loopIn Go.Proofs.Try.f89 0) lsSzStrS :=
  lp_okB (cxOk T0_ok T0_eq pg12_ok) mixed (by kernel_rfl) (lps_none (by kernel_rfl)) (eqInv lsSzStrS) muSzStrS (fun _ h => h) (fun x h => stSzStrS x.1 x.2.1 x.2.2.1 x.2.2.2.1 h)
def G.wStrs (a : List (ByteArray × Unit)) : Nat := a.length + (a.map G.wStr).sum
noncomputable abbrev spSzStrS : Spec := ⟨[.c (.dat (.sl strT)), IntP], IntR, false, fun x => (G.szP x.2.1 && G.lenStrs x.1), fun x => (G.szW (G.wStrs x.1) x.2.1, ())⟩
theorem eSzStrS (a : List (ByteArray × Unit)) (l : Int) : funK cxSzStrS Go.Proofs.Try.f89 spSzStrS.ins spSzStrS.out (a, l, ()) =
  (if Decidable.decide (Go.IntKind.wrap Go.IntKind.i64 (l - (↑(List.length a) : Int)) < (0 : Int)) = Bool.true then Option.some ((-1 : Int), PUnit.unit)
  else
    if (Go.Rx.G.szQ (List.length a) (Go.IntKind.wrap Go.IntKind.i64 (l - (↑(List.length a) : Int))) (0 : Int) && List.all a Go.Rx.G.lenStr) = Bool.true then
      if
          (if (Go.Rx.G.szRun Bool.false (List.map Go.Rx.G.wStr (List.drop (Int.toNat (0 : Int)) a)) (Go.IntKind.wrap Go.IntKind.i64 (l - (↑(List.length a) : Int)))).1 = Bool.true then (0 : Nat)
            else (1 : Nat)) =
            (0 : Nat) then
        Option.some ((Go.Rx.G.szRun Bool.false (List.map Go.Rx.G.wStr (List.drop (Int.toNat (0 : Int)) a)) (Go.IntKind.wrap Go.IntKind.i64 (l - (↑(List.length a) : Int)))).2, PUnit.unit)
      else
        if
            (if (Go.Rx.G.szRun Bool.false (List.map Go.Rx.G.wStr (List.drop (Int.toNat (0 : Int)) a)) (Go.IntKind.wrap Go.IntKind.i64 (l - (↑(List.length a) : Int)))).1 = Bool.true then (0 : Nat)
              else (1 : Nat)) =
              (1 : Nat) then
          Option.some
            (if (Go.Rx.G.szRun Bool.false (List.map Go.Rx.G.wStr (List.drop (Int.toNat (0 : Int)) a)) (Go.IntKind.wrap Go.IntKind.i64 (l - (↑(List.length a) : Int)))).1 = Bool.true then (0 : Int)
              else (-1 : Int),
              PUnit.unit)
        else Option.none
    else Option.none) := by kernel_rfl
theorem sfSzStrS (a : List (ByteArray × Unit)) (l : Int) (h : (G.szP l && G.lenStrs a) = true) : funK cxSzStrS Go.Proofs.Try.f89 spSzStrS.ins spSzStrS.out (a, l, ()) = some (G.szW (G.wStrs a) l, ()) := by
  unfold G.lenStrs at h
  rw [Bool.and_eq_true, Bool.and_eq_true] at h
  obtain ⟨hp, hl, hall⟩ := h
  have hl := of_decide_eq_true hl
  obtain ⟨h0, h1⟩ := szP_iff.1 hp
  rw [eSzStrS, w64 (by omega) (by omega)]
  by_cases hc : (a.length : Int) ≤ l
  · rw [if_neg (by simp; omega), if_pos (show (G.szQ a.length (l - (a.length : Int)) 0 && a.all G.lenStr) = true by rw [Bool.and_eq_true]; exact ⟨szQ_iff.2 (by omega), hall⟩)]
    rw [show List.drop (Int.toNat 0) a = a from rfl]
    exact szRun_end false a.length (a.map G.wStr) l (by omega)
  · rw [if_pos (by simp; omega), szW_neg (by unfold G.wStrs; omega)]
theorem okSzStrS : SpecOk Go.Proofs.Try.prog 89 spSzStrS :=
  fun_okB (cx := cxSzStrS) (F := Go.Proofs.Try.f89) (cxOk T0_ok T0_eq pg12_ok) mixed (by kernel_rfl) (by decide) (by kernel_rfl) (lps_of (l := [(0, loopIn Go.Proofs.Try.f89 0)]) (by kernel_rfl) ⟨lp_at lpSzStrS rfl, trivial⟩) (fun x h => sfSzStrS x.1 x.2.1 h)
noncomputable abbrev pg13 : List (Nat × List Spec) := (19, [spSzFunS]) :: (89, [spSzStrS]) :: pg12
theorem pg13_ok : PhiOk Go.Proofs.Try.prog pg13 := ⟨⟨okSzFunS, trivial⟩, ⟨okSzStrS, trivial⟩, pg12_ok⟩
def G.wStrsE (s : List (ByteArray × Unit) × Unit) : Nat := G.wStrs s.1
def G.lenStrsE (s : List (ByteArray × Unit) × Unit) : Bool := G.lenStrs s.1
def G.lenStrss (b : Strss) : Bool := decide (b.length ≤ 9223372036854775807) && b.all G.lenStrsE
/-! SzStrSS: its loop -/
noncomputable abbrev lsSzStrSS : LSpec := ⟨[0, 1, 5, 4], [1, 4], [.c (.dat (.sl strsT)), IntP, IntP, IntP], [IntP, IntP], false, fun x => (G.szQ x.1.length x.2.1 x.2.2.1 && x.1.all G.lenStrsE),
  fun x => ((if (G.szRun true ((x.1.drop x.2.2.1.toNat).map G.wStrsE) x.2.1).1 = true then 0 else 1, ((G.szRun true ((x.1.drop x.2.2.1.toNat).map G.wStrsE) x.2.1).2, (if (G.szRun true ((x.1.drop x.2.2.1.toNat).map G.wStrsE) x.2.1).1 = true then x.2.2.2.1 else -1, ()))), ())⟩
noncomputable abbrev cxSzStrSS : Cx := mkCx T0 pg13 [(0, lsSzStrSS)] [] 27
theorem rSzStrSS (a : List (List (ByteArray × Unit) × Unit)) (l i r : Int) : roundK cxSzStrSS 0 (loopIn Go.Proofs.Try.f51 0) lsSzStrSS (a, l, i, r, ()) =
  (if Decidable.decide (i < (↑(List.length a) : Int)) = Bool.true then
    if Decidable.decide ((0 : Int) ≤ i) = Bool.true then
      if Decidable.decide (i < (↑(List.length a) : Int)) = Bool.true then
        if (Go.Rx.G.szP l && Go.Rx.G.lenStrs (List.getD a (Int.toNat i) ([], PUnit.unit)).1) = Bool.true then
          if Decidable.decide (Go.Rx.G.szW (Go.Rx.G.wStrs (List.getD a (Int.toNat i) ([], PUnit.unit)).1) l < (0 : Int)) = Bool.true then
            Option.some (Go.Rx.LRes.stop (1 : Nat) (Go.Rx.G.szW (Go.Rx.G.wStrs (List.getD a (Int.toNat i) ([], PUnit.unit)).1) l, (-1 : Int), PUnit.unit) PUnit.unit)
          else
            Option.some
              (Go.Rx.LRes.go
                (a, Go.Rx.G.szW (Go.Rx.G.wStrs (List.getD a (Int.toNat i) ([], PUnit.unit)).1) l, Go.IntKind.wrap Go.IntKind.i64 (i + (1 : Int)), r,
                  PUnit.unit))
        else Option.none
      else Option.none
    else Option.none
  else Option.some (Go.Rx.LRes.stop (0 : Nat) (l, r, PUnit.unit) PUnit.unit)) := by kernel_rfl
noncomputable abbrev muSzStrSS : PKs.den lsSzStrSS.ins → Nat := fun x => x.1.length - x.2.2.1.toNat
theorem stSzStrSS (a : List (List (ByteArray × Unit) × Unit)) (l i r : Int) (h : (G.szQ a.length l i && a.all G.lenStrsE) = true) : StepOk lsSzStrSS (eqInv lsSzStrSS) muSzStrSS (a, l, i, r, ()) (roundK cxSzStrSS 0 (loopIn Go.Proofs.Try.f51 0) lsSzStrSS (a, l, i, r, ())) := by
  rw [Bool.and_eq_true] at h
  obtain ⟨h, hall⟩ := h
  obtain ⟨h0, h1, h2, h3, h4⟩ := szQ_iff.1 h
  rw [rSzStrSS]
  by_cases hi : i < (a.length : Int)
  · have hw : IntKind.i64.wrap (i + 1) = i + 1 := w64 (by omega) (by omega)
    have hfe := all_getD (([], ()) : List (ByteArray × Unit) × Unit) hall (show i.toNat < a.length by omega)
    have hd := drop_cons (([], ()) : List (ByteArray × Unit) × Unit) (xs := a) (i := i.toNat) (by omega)
    have hsp : G.szP l = true := szP_iff.2 ⟨h3, h4⟩; simp only [G.lenStrsE] at hfe
    simp only [hi, h0, decide_true, if_true, hw, hfe, hsp, Bool.and_self]
    generalize a.getD i.toNat (([], ()) : List (ByteArray × Unit) × Unit) = x at *
    by_cases hc : (G.wStrsE x : Int) ≤ l
    · have hr : G.szRun true ((a.drop i.toNat).map G.wStrsE) l = G.szRun true ((a.drop (i + 1).toNat).map G.wStrsE) (l - (G.wStrsE x : Int)) := by
        rw [hd, List.map_cons, toNat_succ h0]
        show (if (G.wStrsE x : Int) ≤ l then _ else _) = _
        rw [if_pos hc]
      rw [show G.szW (G.wStrs x.1) l = G.szW (G.wStrsE x) l from rfl, szW_pos hc, if_neg (by simp; omega)]
      refine ⟨(show (G.szQ a.length (l - (G.wStrsE x : Int)) (i + 1) && a.all G.lenStrsE) = true by rw [Bool.and_eq_true]; exact ⟨szQ_iff.2 (by omega), hall⟩), ?_, ?_⟩
      · show a.length - (i + 1).toNat < a.length - i.toNat
        omega
      · show ((_, _), _) = ((_, _), _)
        simp only [hr]
    · have hr : G.szRun true ((a.drop i.toNat).map G.wStrsE) l = (false, if true = true then -1 else l - (G.wStrsE x : Int)) := by
        rw [hd, List.map_cons]
        show (if (G.wStrsE x : Int) ≤ l then _ else _) = _
        rw [if_neg hc]
      rw [show G.szW (G.wStrs x.1) l = G.szW (G.wStrsE x) l from rfl, szW_neg hc, if_pos (by simp)]
      show ((_, _), _) = ((_, _), _)
      simp only [hr]
      rfl
  · have hr : G.szRun true ((a.drop i.toNat).map G.wStrsE) l = (true, l) := by
      rw [drop_nil (by omega)]
      rfl
    rw [if_neg (by simpa using hi)]
    show ((_, _), _) = ((_, _), _)
    simp only [hr]
    rfl
theorem lpSzStrSS : LpOk Go.Proofs.Try.prog cxSzStrSS.ntmps 0 (loopIn Go.Proofs.Try.f51 0) lsSzStrSS :=
  lp_okB (cxOk T0_ok T0_eq pg13_ok) mixed (by kernel_rfl) (lps_none (by kernel_rfl)) (eqInv lsSzStrSS) muSzStrSS (fun _ h => h) (fun x h => stSzStrSS x.1 x.2.1 x.2.2.1 x.2.2.2.1 h)
def G.wStrss (a : List (List (ByteArray × Unit) × Unit)) : Nat := a.length + (a.map G.wStrsE).sum
noncomputable abbrev spSzStrSS : Spec := ⟨[.c (.dat (.sl strsT)), IntP], IntR, false, fun x => (G.szP x.2.1 && G.lenStrss x.1), fun x => (G.szW (G.wStrss x.1) x.2.1, ())⟩
theorem eSzStrSS (a : List (List (ByteArray × Unit) × Unit)) (l : Int) : funK cxSzStrSS Go.Proofs.Try.f51 spSzStrSS.ins spSzStrSS.out (a, l, ()) =
  (if Decidable.decide (Go.IntKind.wrap Go.IntKind.i64 (l - (↑(List.length a) : Int)) < (0 : Int)) = Bool.true then Option.some ((-1 : Int), PUnit.unit)
  else
    if (Go.Rx.G.szQ (List.length a) (Go.IntKind.wrap Go.IntKind.i64 (l - (↑(List.length a) : Int))) (0 : Int) && List.all a Go.Rx.G.lenStrsE) = Bool.true then
      if
          (if (Go.Rx.G.szRun Bool.true (List.map Go.Rx.G.wStrsE (List.drop (Int.toNat (0 : Int)) a)) (Go.IntKind.wrap Go.IntKind.i64 (l - (↑(List.length a) : Int)))).1 = Bool.true then (0 : Nat)
            else (1 : Nat)) =
            (0 : Nat) then
        Option.some ((Go.Rx.G.szRun Bool.true (List.map Go.Rx.G.wStrsE (List.drop (Int.toNat (0 : Int)) a)) (Go.IntKind.wrap Go.IntKind.i64 (l - (↑(List.length a) : Int)))).2, PUnit.unit)
      else
        if
            (if (Go.Rx.G.szRun Bool.true (List.map Go.Rx.G.wStrsE (List.drop (Int.toNat (0 : Int)) a)) (Go.IntKind.wrap Go.IntKind.i64 (l - (↑(List.length a) : Int)))).1 = Bool.true then (0 : Nat)
              else (1 : Nat)) =
              (1 : Nat) then
          Option.some
            (if (Go.Rx.G.szRun Bool.true (List.map Go.Rx.G.wStrsE (List.drop (Int.toNat (0 : Int)) a)) (Go.IntKind.wrap Go.IntKind.i64 (l - (↑(List.length a) : Int)))).1 = Bool.true then (0 : Int)
              else (-1 : Int),
              PUnit.unit)
        else Option.none
    else Option.none) := by kernel_rfl
theorem sfSzStrSS (a : List (List (ByteArray × Unit) × Unit)) (l : Int) (h : (G.szP l && G.lenStrss a) = true) : funK cxSzStrSS Go.Proofs.Try.f51 spSzStrSS.ins spSzStrSS.out (a, l, ()) = some (G.szW (G.wStrss a) l, ()) := by
  unfold G.lenStrss at h
  rw [Bool.and_eq_true, Bool.and_eq_true] at h
  obtain ⟨hp, hl, hall⟩ := h
  have hl := of_decide_eq_true hl
  obtain ⟨h0, h1⟩ := szP_iff.1 hp
  rw [eSzStrSS, w64 (by omega) (by omega)]
  by_cases hc : (a.length : Int) ≤ l
  · rw [if_neg (by simp; omega), if_pos (show (G.szQ a.length (l - (a.length : Int)) 0 && a.all G.lenStrsE) = true by rw [Bool.and_eq_true]; exact ⟨szQ_iff.2 (by omega), hall⟩)]
    rw [show List.drop (Int.toNat 0) a = a from rfl]
    exact szRun_end true a.length (a.map G.wStrsE) l (by omega)
  · rw [if_pos (by simp; omega), szW_neg (by unfold G.wStrss; omega)]
theorem okSzStrSS : SpecOk Go.Proofs.Try.prog 51 spSzStrSS :=
  fun_okB (cx := cxSzStrSS) (F := Go.Proofs.Try.f51) (cxOk T0_ok T0_eq pg13_ok) mixed (by kernel_rfl) (by decide) (by kernel_rfl) (lps_of (l := [(0, loopIn Go.Proofs.Try.f51 0)]) (by kernel_rfl) ⟨lp_at lpSzStrSS rfl, trivial⟩) (fun x h => sfSzStrSS x.1 x.2.1 h)
noncomputable abbrev pg14 : List (Nat × List Spec) := (51, [spSzStrSS]) :: pg13
theorem pg14_ok : PhiOk Go.Proofs.Try.prog pg14 := ⟨⟨okSzStrSS, trivial⟩, pg13_ok⟩
def G.wLay (l : Lay) : Nat := l.1.length + G.wStrss l.2.1
def G.lenLay (l : Lay) : Bool := G.lenN l.1.length && G.lenStrss l.2.1
/-! SzLay -/
noncomputable abbrev spSzLay : Spec := ⟨[.agg LayK, IntP], IntR, false, fun x => G.szP x.2.1 && G.lenLay x.1, fun x => (G.szW (G.wLay x.1) x.2.1, ())⟩
noncomputable abbrev cxSzLay : Cx := mkCx T0 pg14 [] [] 18
theorem eSzLay (a : Lay) (l : Int) : funK cxSzLay Go.Proofs.Try.f20 spSzLay.ins spSzLay.out (a, l, ()) =
  (if Decidable.decide (Go.Rx.G.szS (List.length a.1) l < (0 : Int)) = Bool.true then Option.some ((-1 : Int), PUnit.unit)
  else
    if (Go.Rx.G.szP (Go.Rx.G.szS (List.length a.1) l) && Go.Rx.G.lenStrss a.2.1) = Bool.true then
      if Decidable.decide (Go.Rx.G.szW (Go.Rx.G.wStrss a.2.1) (Go.Rx.G.szS (List.length a.1) l) < (0 : Int)) = Bool.true then Option.some ((-1 : Int), PUnit.unit)
      else Option.some (Go.Rx.G.szW (Go.Rx.G.wStrss a.2.1) (Go.Rx.G.szS (List.length a.1) l), PUnit.unit)
    else Option.none) := by kernel_rfl
theorem szS_W {n : Nat} {l : Int} (h0 : 0 ≤ l) (h1 : l ≤ 1048576) (hn : n ≤ 9223372036854775807) : G.szS n l = G.szW n l := by
  unfold G.szS G.szW
  rw [w64 (by omega) (by omega)]
  by_cases hc : (n : Int) ≤ l
  · rw [if_neg (by omega), if_pos hc]
  · rw [if_pos (by omega), if_neg hc]
theorem sfSzLay (a : Lay) (l : Int) (h : (G.szP l && G.lenLay a) = true) : funK cxSzLay Go.Proofs.Try.f20 spSzLay.ins spSzLay.out (a, l, ()) = some (G.szW (G.wLay a) l, ()) := by
  unfold G.lenLay at h
  rw [Bool.and_eq_true, Bool.and_eq_true] at h
  obtain ⟨hp, hs, hb⟩ := h
  obtain ⟨h0, h1⟩ := szP_iff.1 hp
  have hs := lenN_iff.1 hs
  rw [eSzLay, szS_W h0 h1 hs]
  by_cases hc : (a.1.length : Int) ≤ l
  · rw [szW_pos hc, if_neg (by simp; omega), if_pos (by rw [Bool.and_eq_true]; exact ⟨szP_iff.2 (by omega), hb⟩), szW_id, szW_add hc]
    rfl
  · rw [szW_neg hc, if_pos (by simp), szW_neg (by unfold G.wLay; omega)]
theorem okSzLay : SpecOk Go.Proofs.Try.prog 20 spSzLay :=
  fun_okB (cx := cxSzLay) (F := Go.Proofs.Try.f20) (cxOk T0_ok T0_eq pg14_ok) mixed (by kernel_rfl) (by decide) (by kernel_rfl) (lps_none (by kernel_rfl)) (fun x h => sfSzLay x.1 x.2.1 h)
noncomputable abbrev pg15 : List (Nat × List Spec) := (20, [spSzLay]) :: pg14
theorem pg15_ok : PhiOk Go.Proofs.Try.prog pg15 := ⟨⟨okSzLay, trivial⟩, pg14_ok⟩
/-! what is small enough -/
theorem sum_mem {α : Type} {w : α → Nat} : ∀ {l : List α} {x : α}, x ∈ l → w x ≤ (l.map w).sum
  | y :: l, x, h => by
    rw [List.map_cons, List.sum_cons]
    rcases List.mem_cons.1 h with rfl | h
    · omega
    · have := sum_mem (w := w) h
      omega
theorem wInss_few {b : Inss} (h : G.wInss b ≤ 1048576) : G.few b.length = true := few_iff.2 (by unfold G.wInss at h; omega)
theorem wFuns_few {p : Funs} (h : G.wFuns p ≤ 1048576) : G.fewFuns p = true := by
  unfold G.wFuns at h
  unfold G.fewFuns
  rw [Bool.and_eq_true]
  refine ⟨few_iff.2 (by omega), ?_⟩
  rw [List.all_eq_true]
  intro f hf
  have := sum_mem (w := G.wFun) hf
  have e : G.wFun f = f.1.size + (f.2.2.1.length + (f.2.2.1.map G.wIns).sum) := rfl
  exact few_iff.2 (by omega)
theorem wLay_few {l : Lay} (h : G.wLay l ≤ 1048576) : G.fewLay l = true := by
  unfold G.wLay G.wStrss at h
  unfold G.fewLay
  rw [Bool.and_eq_true, Bool.and_eq_true]
  refine ⟨few_iff.2 (by omega), few_iff.2 (by omega), ?_⟩
  rw [List.all_eq_true]
  intro s hs
  have := sum_mem (w := G.wStrsE) hs
  have e : G.wStrsE s = s.1.length + (s.1.map G.wStr).sum := rfl
  exact few_iff.2 (by omega)
theorem szW_ok {w : Nat} {l : Int} (h : ¬ G.szW w l < 0) : (w : Int) ≤ l ∧ G.szW w l = l - (w : Int) := by
  unfold G.szW at h ⊢
  by_cases hc : (w : Int) ≤ l
  · rw [if_pos hc]
    exact ⟨hc, rfl⟩
  · rw [if_neg hc] at h
    omega
end Go.Rx

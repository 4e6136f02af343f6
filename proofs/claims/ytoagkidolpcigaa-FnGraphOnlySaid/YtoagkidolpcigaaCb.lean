/-
  PROGRAMS: how much they hold.
-/
import Derived.Test.YtoagkidolpcigaaCa
namespace Go.Rx
open Go
set_option linter.unusedVariables false
set_option linter.unusedSimpArgs false
def G.szW (w : Nat) (l : Int) : Int := if (w : Int) ≤ l then l - (w : Int) else -1
theorem szW_pos {w : Nat} {l : Int} (h : (w : Int) ≤ l) : G.szW w l = l - (w : Int) := if_pos h
theorem szW_neg {w : Nat} {l : Int} (h : ¬ (w : Int) ≤ l) : G.szW w l = -1 := if_neg h
def G.szP (l : Int) : Bool := decide (0 ≤ l ∧ l ≤ 1048576)
theorem szP_iff {l : Int} : G.szP l = true ↔ (0 ≤ l ∧ l ≤ 1048576) := by simp [G.szP]
def G.szQ (n : Nat) (l i : Int) : Bool := decide (0 ≤ i ∧ i ≤ (n : Int) ∧ n ≤ 1048576 ∧ 0 ≤ l ∧ l ≤ 1048576)
theorem szQ_iff {n : Nat} {l i : Int} : G.szQ n l i = true ↔ (0 ≤ i ∧ i ≤ (n : Int) ∧ n ≤ 1048576 ∧ 0 ≤ l ∧ l ≤ 1048576) := by simp [G.szQ]
def G.szRun (neg : Bool) : List Nat → Int → Bool × Int
  | [], l => (true, l)
  | w :: r, l => if (w : Int) ≤ l then G.szRun neg r (l - (w : Int)) else (false, if neg = true then -1 else l - (w : Int))
theorem szRun_sum (neg : Bool) : ∀ (ws : List Nat) (l : Int), 0 ≤ l → (((ws.sum : Nat) : Int) ≤ l → G.szRun neg ws l = (true, l - ((ws.sum : Nat) : Int))) ∧ (¬ ((ws.sum : Nat) : Int) ≤ l → (G.szRun neg ws l).1 = false)
  | [], l, h => by simp [G.szRun, h]
  | w :: r, l, h => by
    unfold G.szRun
    rw [List.sum_cons]
    by_cases hc : (w : Int) ≤ l
    · obtain ⟨h1, h2⟩ := szRun_sum neg r (l - (w : Int)) (by omega)
      rw [if_pos hc]
      refine ⟨fun e => ?_, fun e => h2 (by omega)⟩
      rw [h1 (by omega)]
      congr 1
      omega
    · rw [if_neg hc]
      exact ⟨fun e => by omega, fun _ => rfl⟩
theorem szRun_end (neg : Bool) (n : Nat) (ws : List Nat) (l : Int) (h : (n : Int) ≤ l) :
    (if (if (G.szRun neg ws (l - (n : Int))).1 = true then 0 else 1) = 0 then some ((G.szRun neg ws (l - (n : Int))).2, ())
     else if (if (G.szRun neg ws (l - (n : Int))).1 = true then 0 else 1) = 1 then some (if (G.szRun neg ws (l - (n : Int))).1 = true then 0 else -1, ()) else none) = some (G.szW (n + ws.sum) l, ()) := by
  obtain ⟨h1, h2⟩ := szRun_sum neg ws (l - (n : Int)) (by omega)
  by_cases hc : ((ws.sum : Nat) : Int) ≤ l - (n : Int)
  · rw [h1 hc, szW_pos (by omega)]
    simp
    omega
  · rw [szW_neg (by omega)]
    simp [h2 hc]
def G.lenN (n : Nat) : Bool := decide (n ≤ 9223372036854775807)
theorem lenN_iff {n : Nat} : G.lenN n = true ↔ n ≤ 9223372036854775807 := by simp [G.lenN]
def G.wIns (i : Ins) : Nat := i.2.2.1.size
def G.lenIns (i : Ins) : Bool := G.lenN i.2.2.1.size
def G.lenInss (b : Inss) : Bool := decide (b.length ≤ 9223372036854775807) && b.all G.lenIns
/-! SzIns -/
noncomputable abbrev spSzIns : Spec := ⟨[.agg InsK, IntP], IntR, false, fun x => G.szP x.2.1 && G.lenIns x.1, fun x => (G.szW (G.wIns x.1) x.2.1, ())⟩
noncomputable abbrev pg10 : List (Nat × List Spec) := pg9
theorem pg10_ok : PhiOk Go.Proofs.Try.prog pg10 := pg9_ok
/-! SzInsS: its loop -/
noncomputable abbrev lsSzInsS : LSpec := ⟨[0, 1, 5, 4], [1, 4], [.c (.dat (.sl insT)), IntP, IntP, IntP], [IntP, IntP], false, fun x => (G.szQ x.1.length x.2.1 x.2.2.1 && x.1.all G.lenIns),
  fun x => ((if (G.szRun true ((x.1.drop x.2.2.1.toNat).map G.wIns) x.2.1).1 = true then 0 else 1, ((G.szRun true ((x.1.drop x.2.2.1.toNat).map G.wIns) x.2.1).2, (if (G.szRun true ((x.1.drop x.2.2.1.toNat).map G.wIns) x.2.1).1 = true then x.2.2.2.1 else -1, ()))), ())⟩
noncomputable abbrev muSzInsS : PKs.den lsSzInsS.ins → Nat := fun x => x.1.length - x.2.2.1.toNat
def G.wInss (a : List (Int × Int × ByteArray × Unit)) : Nat := a.length + (a.map G.wIns).sum
noncomputable abbrev spSzInsS : Spec := ⟨[.c (.dat (.sl insT)), IntP], IntR, false, fun x => (G.szP x.2.1 && G.lenInss x.1), fun x => (G.szW (G.wInss x.1) x.2.1, ())⟩
noncomputable abbrev pg11 : List (Nat × List Spec) := pg10
theorem pg11_ok : PhiOk Go.Proofs.Try.prog pg11 := pg10_ok
def G.wFun (f : Fun) : Nat := f.1.size + G.wInss f.2.2.1
def G.lenFun (f : Fun) : Bool := G.lenN f.1.size && G.lenInss f.2.2.1
def G.lenFuns (p : Funs) : Bool := decide (p.length ≤ 9223372036854775807) && p.all G.lenFun
theorem szW_add {v w : Nat} {l : Int} (h : (v : Int) ≤ l) : G.szW w (l - (v : Int)) = G.szW (v + w) l := by
  unfold G.szW
  by_cases hc : (w : Int) ≤ l - (v : Int)
  · rw [if_pos hc, if_pos (by omega)]
    omega
  · rw [if_neg hc, if_neg (by omega)]
theorem szW_id {w : Nat} {l : Int} : (if decide (G.szW w l < 0) = true then some ((-1 : Int), ()) else some (G.szW w l, ())) = some (G.szW w l, ()) := by
  unfold G.szW
  by_cases hc : (w : Int) ≤ l
  · rw [if_pos hc, if_neg (by simp; omega)]
  · rw [if_neg hc, if_pos (by simp)]
/-! SzFun -/
noncomputable abbrev spSzFun : Spec := ⟨[.agg FunK, IntP], IntR, false, fun x => G.szP x.2.1 && G.lenFun x.1, fun x => (G.szW (G.wFun x.1) x.2.1, ())⟩
noncomputable abbrev pg12 : List (Nat × List Spec) := pg11
theorem pg12_ok : PhiOk Go.Proofs.Try.prog pg12 := pg11_ok
/-! SzFunS: its loop -/
noncomputable abbrev lsSzFunS : LSpec := ⟨[0, 1, 5, 4], [1, 4], [.c (.dat (.sl funT)), IntP, IntP, IntP], [IntP, IntP], false, fun x => (G.szQ x.1.length x.2.1 x.2.2.1 && x.1.all G.lenFun),
  fun x => ((if (G.szRun true ((x.1.drop x.2.2.1.toNat).map G.wFun) x.2.1).1 = true then 0 else 1, ((G.szRun true ((x.1.drop x.2.2.1.toNat).map G.wFun) x.2.1).2, (if (G.szRun true ((x.1.drop x.2.2.1.toNat).map G.wFun) x.2.1).1 = true then x.2.2.2.1 else -1, ()))), ())⟩
noncomputable abbrev muSzFunS : PKs.den lsSzFunS.ins → Nat := fun x => x.1.length - x.2.2.1.toNat
def G.wFuns (a : List (ByteArray × Bool × List (Int × Int × ByteArray × Unit) × Unit)) : Nat := a.length + (a.map G.wFun).sum
noncomputable abbrev spSzFunS : Spec := ⟨[.c (.dat (.sl funT)), IntP], IntR, false, fun x => (G.szP x.2.1 && G.lenFuns x.1), fun x => (G.szW (G.wFuns x.1) x.2.1, ())⟩
def G.wStr (s : ByteArray × Unit) : Nat := s.1.size
def G.lenStr (s : ByteArray × Unit) : Bool := G.lenN s.1.size
def G.lenStrs (b : Strs) : Bool := decide (b.length ≤ 9223372036854775807) && b.all G.lenStr
/-! SzStrS: its loop -/
noncomputable abbrev lsSzStrS : LSpec := ⟨[0, 1, 5, 4], [1, 4], [.c (.dat (.sl strT)), IntP, IntP, IntP], [IntP, IntP], false, fun x => (G.szQ x.1.length x.2.1 x.2.2.1 && x.1.all G.lenStr),
  fun x => ((if (G.szRun false ((x.1.drop x.2.2.1.toNat).map G.wStr) x.2.1).1 = true then 0 else 1, ((G.szRun false ((x.1.drop x.2.2.1.toNat).map G.wStr) x.2.1).2, (if (G.szRun false ((x.1.drop x.2.2.1.toNat).map G.wStr) x.2.1).1 = true then x.2.2.2.1 else -1, ()))), ())⟩
noncomputable abbrev muSzStrS : PKs.den lsSzStrS.ins → Nat := fun x => x.1.length - x.2.2.1.toNat
def G.wStrs (a : List (ByteArray × Unit)) : Nat := a.length + (a.map G.wStr).sum
noncomputable abbrev spSzStrS : Spec := ⟨[.c (.dat (.sl strT)), IntP], IntR, false, fun x => (G.szP x.2.1 && G.lenStrs x.1), fun x => (G.szW (G.wStrs x.1) x.2.1, ())⟩
noncomputable abbrev pg13 : List (Nat × List Spec) := pg12
theorem pg13_ok : PhiOk Go.Proofs.Try.prog pg13 := pg12_ok
def G.wStrsE (s : List (ByteArray × Unit) × Unit) : Nat := G.wStrs s.1
def G.lenStrsE (s : List (ByteArray × Unit) × Unit) : Bool := G.lenStrs s.1
def G.lenStrss (b : Strss) : Bool := decide (b.length ≤ 9223372036854775807) && b.all G.lenStrsE
/-! SzStrSS: its loop -/
noncomputable abbrev lsSzStrSS : LSpec := ⟨[0, 1, 5, 4], [1, 4], [.c (.dat (.sl strsT)), IntP, IntP, IntP], [IntP, IntP], false, fun x => (G.szQ x.1.length x.2.1 x.2.2.1 && x.1.all G.lenStrsE),
  fun x => ((if (G.szRun true ((x.1.drop x.2.2.1.toNat).map G.wStrsE) x.2.1).1 = true then 0 else 1, ((G.szRun true ((x.1.drop x.2.2.1.toNat).map G.wStrsE) x.2.1).2, (if (G.szRun true ((x.1.drop x.2.2.1.toNat).map G.wStrsE) x.2.1).1 = true then x.2.2.2.1 else -1, ()))), ())⟩
noncomputable abbrev muSzStrSS : PKs.den lsSzStrSS.ins → Nat := fun x => x.1.length - x.2.2.1.toNat
def G.wStrss (a : List (List (ByteArray × Unit) × Unit)) : Nat := a.length + (a.map G.wStrsE).sum
noncomputable abbrev spSzStrSS : Spec := ⟨[.c (.dat (.sl strsT)), IntP], IntR, false, fun x => (G.szP x.2.1 && G.lenStrss x.1), fun x => (G.szW (G.wStrss x.1) x.2.1, ())⟩
noncomputable abbrev pg14 : List (Nat × List Spec) := pg13
theorem pg14_ok : PhiOk Go.Proofs.Try.prog pg14 := pg13_ok
def G.wLay (l : Lay) : Nat := l.1.length + G.wStrss l.2.1
def G.lenLay (l : Lay) : Bool := G.lenN l.1.length && G.lenStrss l.2.1
/-! SzLay -/
noncomputable abbrev spSzLay : Spec := ⟨[.agg LayK, IntP], IntR, false, fun x => G.szP x.2.1 && G.lenLay x.1, fun x => (G.szW (G.wLay x.1) x.2.1, ())⟩
theorem szS_W {n : Nat} {l : Int} (h0 : 0 ≤ l) (h1 : l ≤ 1048576) (hn : n ≤ 9223372036854775807) : G.szS n l = G.szW n l := by
  unfold G.szS G.szW
  rw [w64 (by omega) (by omega)]
  by_cases hc : (n : Int) ≤ l
  · rw [if_neg (by omega), if_pos hc]
  · rw [if_pos (by omega), if_neg hc]
noncomputable abbrev pg15 : List (Nat × List Spec) := pg14
theorem pg15_ok : PhiOk Go.Proofs.Try.prog pg15 := pg14_ok
/-! what is small enough -/
theorem sum_mem {α : Type} {w : α → Nat} : ∀ {l : List α} {x : α}, x ∈ l → w x ≤ (l.map w).sum
  | y :: l, x, h => by
    rw [List.map_cons, List.sum_cons]
    rcases List.mem_cons.1 h with rfl | h
    · omega
    · have := sum_mem (w := w) h
      omega
theorem wInss_few {b : Inss} (h : G.wInss b ≤ 1048576) : G.few b.length = true := few_iff.2 (by unfold G.wInss at h; omega)
theorem wFuns_few {p : Funs} (h : G.wFuns p ≤ 1048576) : G.fewFuns p = true := by
  unfold G.wFuns at h
  unfold G.fewFuns
  rw [Bool.and_eq_true]
  refine ⟨few_iff.2 (by omega), ?_⟩
  rw [List.all_eq_true]
  intro f hf
  have := sum_mem (w := G.wFun) hf
  have e : G.wFun f = f.1.size + (f.2.2.1.length + (f.2.2.1.map G.wIns).sum) := rfl
  exact few_iff.2 (by omega)
theorem wLay_few {l : Lay} (h : G.wLay l ≤ 1048576) : G.fewLay l = true := by
  unfold G.wLay G.wStrss at h
  unfold G.fewLay
  rw [Bool.and_eq_true, Bool.and_eq_true]
  refine ⟨few_iff.2 (by omega), few_iff.2 (by omega), ?_⟩
  rw [List.all_eq_true]
  intro s hs
  have := sum_mem (w := G.wStrsE) hs
  have e : G.wStrsE s = s.1.length + (s.1.map G.wStr).sum := rfl
  exact few_iff.2 (by omega)
theorem szW_ok {w : Nat} {l : Int} (h : ¬ G.szW w l < 0) : (w : Int) ≤ l ∧ G.szW w l = l - (w : Int) := by
  unfold G.szW at h ⊢
  by_cases hc : (w : Int) ≤ l
  · rw [if_pos hc]
    exact ⟨hc, rfl⟩
  · rw [if_neg hc] at h
    omega
end Go.Rx

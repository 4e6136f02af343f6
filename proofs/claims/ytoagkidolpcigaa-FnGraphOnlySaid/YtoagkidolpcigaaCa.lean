/-
  PROGRAMS: what the functions that compare and copy them compute.
-/
import Derived.Test.YtoagkidolpcigaaBs
namespace Go.Rx
open Go
set_option linter.unusedVariables false
set_option linter.unusedSimpArgs false
abbrev strT : Tys := .cons .str .nil
abbrev strsT : Tys := .cons (.sl strT) .nil
abbrev funT : Tys := .cons .str (.cons .bool (.cons (.sl insT) .nil))
abbrev layT : Tys := .cons (.sl intT) (.cons (.sl strsT) .nil)
abbrev Inss := List (Int × Int × ByteArray × Unit)
abbrev Strs := List (ByteArray × Unit)
abbrev Strss := List (List (ByteArray × Unit) × Unit)
abbrev Fun := ByteArray × Bool × List (Int × Int × ByteArray × Unit) × Unit
abbrev Funs := List (ByteArray × Bool × List (Int × Int × ByteArray × Unit) × Unit)
instance decIns : DecidableEq (Int × Int × ByteArray × Unit) := inferInstance
instance decFun : DecidableEq (ByteArray × Bool × List (Int × Int × ByteArray × Unit) × Unit) := inferInstance
instance decStrs : DecidableEq (List (ByteArray × Unit) × Unit) := inferInstance
abbrev Lay := Ints × Strss × Unit
abbrev StrP : PK := .c (.dat .str)
abbrev InsSP : PK := .c (.dat (.sl insT))
abbrev StrSP : PK := .c (.dat (.sl strT))
abbrev FunSP : PK := .c (.dat (.sl funT))
abbrev FunK : List CK := [.dat .str, .dat .bool, .dat (.sl insT)]
abbrev LayK : List CK := [.dat (.sl intT), .dat (.sl strsT)]
abbrev SpotK : List CK := [.dat I, .dat I]
theorem strEq_iff (x y : ByteArray) : Go.Rx.strEq x y = decide (x = y) := by
  unfold strEq
  rw [decide_eq_decide]
  constructor
  · intro h
    cases x
    cases y
    simp at h
    rw [h]
  · intro h
    rw [h]
theorem str1_ne {x y : ByteArray × Unit} (h : ¬ x = y) : Go.Rx.strEq x.1 y.1 = false := by
  obtain ⟨x1, _⟩ := x
  obtain ⟨y1, _⟩ := y
  rw [strEq_iff]
  simp at h ⊢
  exact h
/-! eqIns -/
def G.eqIns (a b : Ins) : Bool := decide (a = b)
/-! EqIns -/
noncomputable abbrev spEqIns : Spec := ⟨[.agg InsK, .agg InsK], BoolR, false, fun x => true, fun x => (G.eqIns x.1 x.2.1, ())⟩
noncomputable abbrev pg1 : List (Nat × List Spec) := phs2
theorem pg1_ok : PhiOk Go.Proofs.Try.prog pg1 := phs2_ok
/-! EqInsS: its loop -/
noncomputable abbrev lsEqInsS : LSpec := ⟨[0, 1, 5, 4], [4], [.c (.dat (.sl insT)), .c (.dat (.sl insT)), .c (.dat I), .c (.dat .bool)], [.c (.dat .bool)], false, fun x => G.eqPre x.1 x.2.1 x.2.2.1,
  fun x => ((if G.eqFrom x.1 x.2.1 x.2.2.1 = true then 0 else 1, (G.eqFrom x.1 x.2.1 x.2.2.1 && x.2.2.2.1, ())), ())⟩
noncomputable abbrev muEqInsS : PKs.den lsEqInsS.ins → Nat := fun x => x.1.length - x.2.2.1.toNat
/-! EqInsS -/
noncomputable abbrev spEqInsS : Spec := ⟨[.c (.dat (.sl insT)), .c (.dat (.sl insT))], .one (.c (.dat .bool)), false, fun x => G.few x.1.length, fun x => (G.sameS x.1 x.2.1, ())⟩
/-! EqStrS: its loop -/
noncomputable abbrev lsEqStrS : LSpec := ⟨[0, 1, 5, 4], [4], [.c (.dat (.sl strT)), .c (.dat (.sl strT)), .c (.dat I), .c (.dat .bool)], [.c (.dat .bool)], false, fun x => G.eqPre x.1 x.2.1 x.2.2.1,
  fun x => ((if G.eqFrom x.1 x.2.1 x.2.2.1 = true then 0 else 1, (G.eqFrom x.1 x.2.1 x.2.2.1 && x.2.2.2.1, ())), ())⟩
noncomputable abbrev muEqStrS : PKs.den lsEqStrS.ins → Nat := fun x => x.1.length - x.2.2.1.toNat
/-! EqStrS -/
noncomputable abbrev spEqStrS : Spec := ⟨[.c (.dat (.sl strT)), .c (.dat (.sl strT))], .one (.c (.dat .bool)), false, fun x => G.few x.1.length, fun x => (G.sameS x.1 x.2.1, ())⟩
theorem all_getD {α : Type} {p : α → Bool} (d : α) {xs : List α} {i : Nat} (h : xs.all p = true) (hi : i < xs.length) : p (xs.getD i d) = true := by
  rw [List.all_eq_true] at h
  have e : xs.getD i d = xs[i] := by simp [List.getD, hi]
  rw [e]
  exact h _ (List.getElem_mem hi)
theorem strs1_ne {x y : List (ByteArray × Unit) × Unit} (h : ¬ x = y) : G.sameS x.1 y.1 = false := by
  obtain ⟨x1, _⟩ := x
  obtain ⟨y1, _⟩ := y
  simp at h
  simp [G.sameS, h]
noncomputable abbrev pg2 : List (Nat × List Spec) := pg1
theorem pg2_ok : PhiOk Go.Proofs.Try.prog pg2 := pg1_ok
def G.fewFun (f : Fun) : Bool := G.few f.2.2.1.length
def G.fewStrs (s : List (ByteArray × Unit) × Unit) : Bool := G.few s.1.length
def G.fewFuns (p : Funs) : Bool := G.few p.length && p.all G.fewFun
def G.fewLay (l : Lay) : Bool := G.few l.1.length && (G.few l.2.1.length && l.2.1.all G.fewStrs)
def G.eqFun (a b : Fun) : Bool := decide (a = b)
def G.eqLay (a b : Lay) : Bool := decide (a = b)
theorem eqLay_self (a : Lay) : G.eqLay a a = true := by simp [G.eqLay]
/-! EqFun -/
noncomputable abbrev spEqFun : Spec := ⟨[.agg FunK, .agg FunK], BoolR, false, fun x => G.fewFun x.1, fun x => (G.eqFun x.1 x.2.1, ())⟩
noncomputable abbrev pg3 : List (Nat × List Spec) := pg2
theorem pg3_ok : PhiOk Go.Proofs.Try.prog pg3 := pg2_ok
/-! EqFunS: its loop -/
noncomputable abbrev lsEqFunS : LSpec := ⟨[0, 1, 5, 4], [4], [.c (.dat (.sl funT)), .c (.dat (.sl funT)), .c (.dat I), .c (.dat .bool)], [.c (.dat .bool)], false, fun x => (G.eqPre x.1 x.2.1 x.2.2.1 && x.1.all G.fewFun),
  fun x => ((if G.eqFrom x.1 x.2.1 x.2.2.1 = true then 0 else 1, (G.eqFrom x.1 x.2.1 x.2.2.1 && x.2.2.2.1, ())), ())⟩
noncomputable abbrev muEqFunS : PKs.den lsEqFunS.ins → Nat := fun x => x.1.length - x.2.2.1.toNat
/-! EqFunS -/
noncomputable abbrev spEqFunS : Spec := ⟨[.c (.dat (.sl funT)), .c (.dat (.sl funT))], .one (.c (.dat .bool)), false, fun x => (G.few x.1.length && x.1.all G.fewFun), fun x => (G.sameS x.1 x.2.1, ())⟩
/-! EqStrSS: its loop -/
noncomputable abbrev lsEqStrSS : LSpec := ⟨[0, 1, 5, 4], [4], [.c (.dat (.sl strsT)), .c (.dat (.sl strsT)), .c (.dat I), .c (.dat .bool)], [.c (.dat .bool)], false, fun x => (G.eqPre x.1 x.2.1 x.2.2.1 && x.1.all G.fewStrs),
  fun x => ((if G.eqFrom x.1 x.2.1 x.2.2.1 = true then 0 else 1, (G.eqFrom x.1 x.2.1 x.2.2.1 && x.2.2.2.1, ())), ())⟩
noncomputable abbrev muEqStrSS : PKs.den lsEqStrSS.ins → Nat := fun x => x.1.length - x.2.2.1.toNat
/-! EqStrSS -/
noncomputable abbrev spEqStrSS : Spec := ⟨[.c (.dat (.sl strsT)), .c (.dat (.sl strsT))], .one (.c (.dat .bool)), false, fun x => (G.few x.1.length && x.1.all G.fewStrs), fun x => (G.sameS x.1 x.2.1, ())⟩
noncomputable abbrev pg4 : List (Nat × List Spec) := pg3
theorem pg4_ok : PhiOk Go.Proofs.Try.prog pg4 := pg3_ok
/-! EqLay -/
noncomputable abbrev spEqLay : Spec := ⟨[.agg LayK, .agg LayK], BoolR, false, fun x => G.fewLay x.1, fun x => (G.eqLay x.1 x.2.1, ())⟩
/-! copies -/
/-! ToIns -/
noncomputable abbrev spToIns : Spec := ⟨[.agg InsK], .one (.agg InsK), false, fun x => true, fun x => (x.1, ())⟩
noncomputable abbrev pg5 : List (Nat × List Spec) := pg4
theorem pg5_ok : PhiOk Go.Proofs.Try.prog pg5 := pg4_ok
/-! ToInsS: its loop -/
noncomputable abbrev lsToInsS : LSpec := ⟨[0, 3, 4], [3], [.c (.dat (.sl insT)), .c (.own insT), .c (.dat I)], [.c (.own insT)], false, fun x => G.cpPre x.1 x.2.1 x.2.2.1,
  fun x => ((0, (G.fill x.1 x.2.1 x.2.2.1, ())), ())⟩
noncomputable abbrev muToInsS : PKs.den lsToInsS.ins → Nat := fun x => x.1.length - x.2.2.1.toNat
/-! ToInsS -/
noncomputable abbrev spToInsS : Spec := ⟨[.c (.dat (.sl insT))], .one (.c (.own insT)), false, fun x => G.few x.1.length, fun x => (x.1, ())⟩
/-! ToStrS: its loop -/
noncomputable abbrev lsToStrS : LSpec := ⟨[0, 3, 4], [3], [.c (.dat (.sl strT)), .c (.own strT), .c (.dat I)], [.c (.own strT)], false, fun x => G.cpPre x.1 x.2.1 x.2.2.1,
  fun x => ((0, (G.fill x.1 x.2.1 x.2.2.1, ())), ())⟩
noncomputable abbrev muToStrS : PKs.den lsToStrS.ins → Nat := fun x => x.1.length - x.2.2.1.toNat
/-! ToStrS -/
noncomputable abbrev spToStrS : Spec := ⟨[.c (.dat (.sl strT))], .one (.c (.own strT)), false, fun x => G.few x.1.length, fun x => (x.1, ())⟩
noncomputable abbrev pg6 : List (Nat × List Spec) := pg5
theorem pg6_ok : PhiOk Go.Proofs.Try.prog pg6 := pg5_ok
/-! ToFun -/
noncomputable abbrev spToFun : Spec := ⟨[.agg FunK], .one (.agg FunK), true, fun x => G.fewFun x.1, fun x => (x.1, ())⟩
noncomputable abbrev pg7 : List (Nat × List Spec) := pg6
theorem pg7_ok : PhiOk Go.Proofs.Try.prog pg7 := pg6_ok
/-! ToFunS: its loop -/
noncomputable abbrev lsToFunS : LSpec := ⟨[0, 3, 4], [3], [.c (.dat (.sl funT)), .c (.own funT), .c (.dat I)], [.c (.own funT)], true, fun x => (G.cpPre x.1 x.2.1 x.2.2.1 && x.1.all G.fewFun),
  fun x => ((0, (G.fill x.1 x.2.1 x.2.2.1, ())), ())⟩
noncomputable abbrev muToFunS : PKs.den lsToFunS.ins → Nat := fun x => x.1.length - x.2.2.1.toNat
/-! ToFunS -/
noncomputable abbrev spToFunS : Spec := ⟨[.c (.dat (.sl funT))], .one (.c (.own funT)), true, fun x => (G.few x.1.length && x.1.all G.fewFun), fun x => (x.1, ())⟩
/-! ToStrSS: its loop -/
noncomputable abbrev lsToStrSS : LSpec := ⟨[0, 3, 4], [3], [.c (.dat (.sl strsT)), .c (.own strsT), .c (.dat I)], [.c (.own strsT)], true, fun x => (G.cpPre x.1 x.2.1 x.2.2.1 && x.1.all G.fewStrs),
  fun x => ((0, (G.fill x.1 x.2.1 x.2.2.1, ())), ())⟩
noncomputable abbrev muToStrSS : PKs.den lsToStrSS.ins → Nat := fun x => x.1.length - x.2.2.1.toNat
/-! ToStrSS -/
noncomputable abbrev spToStrSS : Spec := ⟨[.c (.dat (.sl strsT))], .one (.c (.own strsT)), true, fun x => (G.few x.1.length && x.1.all G.fewStrs), fun x => (x.1, ())⟩
noncomputable abbrev pg8 : List (Nat × List Spec) := pg7
theorem pg8_ok : PhiOk Go.Proofs.Try.prog pg8 := pg7_ok
/-! ToLay -/
noncomputable abbrev spToLay : Spec := ⟨[.agg LayK], .one (.agg LayK), true, fun x => G.fewLay x.1, fun x => (x.1, ())⟩
noncomputable abbrev pg9 : List (Nat × List Spec) := pg8
theorem pg9_ok : PhiOk Go.Proofs.Try.prog pg9 := pg8_ok
end Go.Rx

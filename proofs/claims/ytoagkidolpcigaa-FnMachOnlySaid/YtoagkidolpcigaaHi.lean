/-
  DRAWS: machines.
-/
import Derived.Test.YtoagkidolpcigaaHh
import Derived.Test.YtoagkidolpcigaaFc
namespace Go.Rx
open Go
set_option linter.unusedVariables false
set_option linter.unusedSimpArgs false
noncomputable abbrev pdm : List (Nat × List Spec) := (34, [spMachSame]) :: (115, [spL1Cut]) :: (33, [spSpMachRun]) :: (32, [spMachRun]) :: (75, [spSlEqSpot]) :: (76, [spSlEqInt]) :: (73, [spL5Do]) :: (71, [spMStep]) :: (74, [spL5Copy]) :: (72, [spMClone]) :: (101, [spL5Say]) :: (103, [spL5Call]) :: (104, [spL5Ret]) :: (100, [spMCore]) :: pdk
theorem pdm_ok : PhiOk Go.Proofs.Try.prog pdm := ⟨⟨okMachSame, trivial⟩, ⟨okL1Cut, trivial⟩, ⟨okSpMachRun, trivial⟩, ⟨okMachRun, trivial⟩, ⟨okSlEqSpot, trivial⟩, ⟨okSlEqInt, trivial⟩, ⟨okL5Do, trivial⟩, ⟨okMStep, trivial⟩, ⟨okL5Copy, trivial⟩, ⟨okMClone, trivial⟩, ⟨okL5Say, trivial⟩, ⟨okL5Call, trivial⟩, ⟨okL5Ret, trivial⟩, ⟨okMCore, trivial⟩, pdk_ok⟩
def G.mrun (p : Funs) (i : Int) (m : Mach) : Mach := if G.keepOk p = true then G.runM p i.toNat m else m
def G.mrPre (p : Funs) (m : Mach) (i : Int) : Bool := decide (0 ≤ i ∧ i ≤ 20) && (G.smallP p && (!G.keepOk p || G.goM p m))
theorem mrPre_iff {p : Funs} {m : Mach} {i : Int} : G.mrPre p m i = true ↔ ((0 ≤ i ∧ i ≤ 20) ∧ G.smallP p = true ∧ (G.keepOk p = true → G.goM p m = true)) := by
  unfold G.mrPre
  rw [Bool.and_eq_true, Bool.and_eq_true, decide_eq_true_iff, Bool.or_eq_true]
  refine and_congr_right fun _ => and_congr_right fun _ => ?_
  cases G.keepOk p <;> simp
noncomputable abbrev lsL5Mach : LSpec := ⟨[1, 5, 6], [], [FunSP, .box MachO, IntP], [], false, fun x => G.mrPre x.1 x.2.1 x.2.2.1, fun x => ((0, ()), (G.mrun x.1 x.2.2.1 x.2.1, ()))⟩
noncomputable abbrev pd15 : List (Nat × List Spec) := (73, [spL5Do]) :: (74, [spL5Copy]) :: (20, [spSpKeepOk]) :: pdm
theorem pd15_ok : PhiOk Go.Proofs.Try.prog pd15 := ⟨⟨okL5Do, trivial⟩, ⟨okL5Copy, trivial⟩, ⟨okSpKeepOk, trivial⟩, pdm_ok⟩
/-! L5Mach -/
noncomputable abbrev muL5Mach : PKs.den lsL5Mach.ins → Nat := fun x => x.2.2.1.toNat
theorem mrun_len {p : Funs} {i : Int} (hs : G.smallP p = true) : (G.mrun p i (0, 0, 0, [], [], 0, ())).2.2.2.1.length ≤ 5 ∧ (G.mrun p i (0, 0, 0, [], [], 0, ())).2.2.2.2.1.length ≤ 30 := by
  unfold G.mrun
  cases hk : G.keepOk p with
  | false => exact ⟨by show 0 ≤ 5; omega, by show 0 ≤ 30; omega⟩
  | true =>
    rw [if_pos rfl]
    exact (goM_iff.1 (runM_ok i.toNat (zeroM_ok hs hk))).2.2.1
def MachPost (x : PKs.den [RdP, FunSP]) (r : RK.den (.one (.agg MachO)) × Bxs.den [RdP, FunSP]) : Prop := r.1.2.2.2.1.length ≤ 6 ∧ r.1.2.2.2.2.1.length ≤ 30
noncomputable abbrev pd16 : List (Nat × List Spec) := pdm
theorem pd16_ok : PhiOk Go.Proofs.Try.prog pd16 := pdm_ok
/-! what is drawn of a code -/
/-! DrawMachOk -/
/-! DrawMachRun -/
noncomputable abbrev cxDrawMachRun : Cx := mkCx T0 pd16 [] [] 14
noncomputable def G.dDrawMachRun (x : PKs.den [BytesP]) : RK.den (.tup [FunSP, IntP]) × Bxs.den [BytesP] := G.val (funK cxDrawMachRun Go.Proofs.Try.f31 [BytesP] (.tup [FunSP, IntP]) x)
noncomputable abbrev spDrawMachRun : Spec := ⟨[BytesP], .tup [FunSP, IntP], true, fun x => x.1.all G.byteOk, fun x => G.dDrawMachRun x⟩
theorem eDrawMachRun (c : Bytes) : funK cxDrawMachRun Go.Proofs.Try.f31 [BytesP] (.tup [FunSP, IntP]) (c, ()) =
  (if Go.Rx.G.rd (400000 : Int) (List.take (2000 : Nat) c, (0 : Int), PUnit.unit) = Bool.true then
    if (Go.Rx.G.rd (999999 : Int) (Go.Rx.G.dL4Bent ((List.take (2000 : Nat) c, (0 : Int), PUnit.unit), PUnit.unit)).2.1 && Decidable.decide ((1 : Nat) ≤ (7 : Nat) ∧ (7 : Nat) ≤ (1000 : Nat))) = Bool.true then
      Option.some
        (((Go.Rx.G.dL4Bent ((List.take (2000 : Nat) c, (0 : Int), PUnit.unit), PUnit.unit)).1,
            (Go.Rx.G.dNum
                ((Go.Rx.G.dL4Bent ((List.take (2000 : Nat) c, (0 : Int), PUnit.unit), PUnit.unit)).2.1,
                  [((200 : Int), PUnit.unit), ((50 : Int), PUnit.unit), ((10 : Int), PUnit.unit), ((3 : Int), PUnit.unit), ((0 : Int), PUnit.unit), ((-1 : Int), PUnit.unit), ((201 : Int), PUnit.unit)], PUnit.unit)).1,
            PUnit.unit),
          PUnit.unit)
    else Option.none
  else Option.none) := by kernel_rfl
def DMPost (x : PKs.den [BytesP]) (r : RK.den (.tup [FunSP, .agg MachK]) × Bxs.den [BytesP]) : Prop := G.funsB r.1.1 = true ∧ r.1.2.1.2.2.2.1.length ≤ 6 ∧ r.1.2.1.2.2.2.2.1.length ≤ 30
def DRPost (x : PKs.den [BytesP]) (r : RK.den (.tup [FunSP, IntP]) × Bxs.den [BytesP]) : Prop := G.funsB r.1.1 = true
theorem sfDrawMachRun (c : Bytes) (h : c.all G.byteOk = true) : ∃ r, funK cxDrawMachRun Go.Proofs.Try.f31 [BytesP] (.tup [FunSP, IntP]) (c, ()) = some r ∧ DRPost (c, ()) r := by
  have h0 := open_rd h
  have h1 := rd_le h0 (show (0 : Int) ≤ 400000 by omega)
  obtain ⟨_, p1, p2⟩ := postL4Bent ((c.take 2000, 0, ()), ()) h1
  rw [eDrawMachRun, if_pos h1]
  generalize G.dL4Bent ((c.take 2000, 0, ()), ()) = q at p1 p2 ⊢
  have p2 : G.funsB q.1 = true := p2
  have r1 := rd_le (p1.rd h0) (show (0 : Int) + 6000 ≤ 999999 by omega)
  refine ⟨_, if_pos (by rw [Bool.and_eq_true]; exact ⟨r1, by decide⟩), p2⟩
theorem postDrawMachRun (x : PKs.den [BytesP]) (h : (x.1.all G.byteOk) = true) : funK cxDrawMachRun Go.Proofs.Try.f31 [BytesP] (.tup [FunSP, IntP]) x = some (G.dDrawMachRun x) ∧ DRPost x (G.dDrawMachRun x) := val_of (sfDrawMachRun x.1 h)
theorem okDrawMachRun : SpecOk Go.Proofs.Try.prog 31 spDrawMachRun :=
  fun_okB (cx := cxDrawMachRun) (F := Go.Proofs.Try.f31) (cxOk T0_ok T0_eq pd16_ok) mixed (by kernel_rfl) (by decide) (by kernel_rfl) (lps_none (by kernel_rfl)) (fun x h => (postDrawMachRun x h).1)
noncomputable abbrev pd17 : List (Nat × List Spec) := (31, [spDrawMachRun]) :: pd16
theorem pd17_ok : PhiOk Go.Proofs.Try.prog pd17 := ⟨⟨okDrawMachRun, trivial⟩, pd16_ok⟩
/-! DrawMachStep -/
noncomputable abbrev pd18 : List (Nat × List Spec) := pd17
theorem pd18_ok : PhiOk Go.Proofs.Try.prog pd18 := pd17_ok
end Go.Rx

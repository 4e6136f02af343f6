/-
  DRAWS: machines.
-/
import Derived.Test.YtjnbmbhkgapcfabHh
namespace Go.Rx
open Go
set_option linter.unusedVariables false
set_option linter.unusedSimpArgs false
def G.mrun (p : Funs) (i : Int) (m : Mach) : Mach := if G.keepOk p = true then G.runM p i.toNat m else m
def G.mrPre (p : Funs) (m : Mach) (i : Int) : Bool := decide (0 ≤ i ∧ i ≤ 20) && (G.smallP p && (!G.keepOk p || G.goM p m))
theorem mrPre_iff {p : Funs} {m : Mach} {i : Int} : G.mrPre p m i = true ↔ ((0 ≤ i ∧ i ≤ 20) ∧ G.smallP p = true ∧ (G.keepOk p = true → G.goM p m = true)) := by
  unfold G.mrPre
  rw [Bool.and_eq_true, Bool.and_eq_true, decide_eq_true_iff, Bool.or_eq_true]
  refine and_congr_right fun _ => and_congr_right fun _ => ?_
  cases G.keepOk p <;> simp
noncomputable abbrev lsL5Mach : LSpec := ⟨[1, 5, 6], [], [FunSP, .box MachO, IntP], [], false, fun x => G.mrPre x.1 x.2.1 x.2.2.1, fun x => ((0, ()), (G.mrun x.1 x.2.2.1 x.2.1, ()))⟩
noncomputable abbrev pd15 : List (Nat × List Spec) := (6, [spSpKeepOk]) :: pd14
theorem pd15_ok : PhiOk Go.Proofs.Try.prog pd15 := ⟨⟨okSpKeepOk, trivial⟩, pd14_ok⟩
/-! L5Mach -/
noncomputable abbrev muL5Mach : PKs.den lsL5Mach.ins → Nat := fun x => x.2.2.1.toNat
theorem mrun_len {p : Funs} {i : Int} (hs : G.smallP p = true) : (G.mrun p i (0, 0, 0, [], [], 0, ())).2.2.2.1.length ≤ 5 ∧ (G.mrun p i (0, 0, 0, [], [], 0, ())).2.2.2.2.1.length ≤ 30 := by
  unfold G.mrun
  cases hk : G.keepOk p with
  | false => exact ⟨by show 0 ≤ 5; omega, by show 0 ≤ 30; omega⟩
  | true =>
    rw [if_pos rfl]
    exact (goM_iff.1 (runM_ok i.toNat (zeroM_ok hs hk))).2.2.1
def MachPost (x : PKs.den [RdP, FunSP]) (r : RK.den (.one (.agg MachO)) × Bxs.den [RdP, FunSP]) : Prop := r.1.2.2.2.1.length ≤ 6 ∧ r.1.2.2.2.2.1.length ≤ 30
theorem funB_small {f : Fun} (h : G.funB f = true) : G.smallF f = true := by
  unfold G.funB at h
  rw [Bool.and_eq_true, Bool.and_eq_true, Bool.or_eq_true, Bool.or_eq_true, decide_eq_true_iff, decide_eq_true_iff, decide_eq_true_iff, List.all_eq_true] at h
  obtain ⟨h1, h2, h3⟩ := h
  refine smallF_iff.2 ⟨?_, by omega, ?_⟩
  · rcases h1 with h1 | h1 | h1
    · have := nm_size h1
      omega
    · rw [h1]
      decide +kernel
    · rw [h1]
      decide +kernel
  · rw [List.all_eq_true]
    intro i hi
    have := of_decide_eq_true (h3 i hi)
    exact lenS_iff.2 (by omega)
theorem funsB_small {p : Funs} (h : G.funsB p = true) : G.smallP p = true := by
  obtain ⟨h1, h2⟩ := (funsB_iff p).1 h
  refine smallP_iff.2 ⟨by omega, ?_⟩
  rw [List.all_eq_true]
  exact fun f hf => funB_small (h2 f hf)
noncomputable abbrev pd16 : List (Nat × List Spec) := pd14
theorem pd16_ok : PhiOk Go.Proofs.Try.prog pd16 := pd14_ok
/-! what is drawn of a code -/
/-! DrawMachOk -/
/-! DrawMachRun -/
/-! DrawKeepOk -/
noncomputable abbrev cxDrawKeepOk : Cx := mkCx T0 pd16 [] [] 6
noncomputable def G.dDrawKeepOk (x : PKs.den [BytesP]) : RK.den (.one FunsO) × Bxs.den [BytesP] := G.val (funK cxDrawKeepOk Go.Proofs.Try.f4 [BytesP] (.one FunsO) x)
noncomputable abbrev spDrawKeepOk : Spec := ⟨[BytesP], .one FunsO, true, fun x => x.1.all G.byteOk, fun x => G.dDrawKeepOk x⟩
theorem eDrawKeepOk (c : Bytes) : funK cxDrawKeepOk Go.Proofs.Try.f4 [BytesP] (.one FunsO) (c, ()) =
  (if Go.Rx.G.rd (400000 : Int) (List.take (2000 : Nat) c, (0 : Int), PUnit.unit) = Bool.true then
    Option.some ((Go.Rx.G.dL4Bent ((List.take (2000 : Nat) c, (0 : Int), PUnit.unit), PUnit.unit)).1, PUnit.unit)
  else Option.none) := by kernel_rfl
def DMPost (x : PKs.den [BytesP]) (r : RK.den (.tup [FunSP, .agg MachK]) × Bxs.den [BytesP]) : Prop := G.funsB r.1.1 = true ∧ r.1.2.1.2.2.2.1.length ≤ 6 ∧ r.1.2.1.2.2.2.2.1.length ≤ 30
def DRPost (x : PKs.den [BytesP]) (r : RK.den (.tup [FunSP, IntP]) × Bxs.den [BytesP]) : Prop := G.funsB r.1.1 = true
def DKPost (x : PKs.den [BytesP]) (r : RK.den (.one FunsO) × Bxs.den [BytesP]) : Prop := G.funsB r.1 = true
theorem sfDrawKeepOk (c : Bytes) (h : c.all G.byteOk = true) : ∃ r, funK cxDrawKeepOk Go.Proofs.Try.f4 [BytesP] (.one FunsO) (c, ()) = some r ∧ DKPost (c, ()) r := by
  have h0 := open_rd h
  have h1 := rd_le h0 (show (0 : Int) ≤ 400000 by omega)
  obtain ⟨_, p1, p2⟩ := postL4Bent ((c.take 2000, 0, ()), ()) h1
  rw [eDrawKeepOk, if_pos h1]
  exact ⟨_, rfl, p2⟩
theorem postDrawKeepOk (x : PKs.den [BytesP]) (h : (x.1.all G.byteOk) = true) : funK cxDrawKeepOk Go.Proofs.Try.f4 [BytesP] (.one FunsO) x = some (G.dDrawKeepOk x) ∧ DKPost x (G.dDrawKeepOk x) := val_of (sfDrawKeepOk x.1 h)
theorem okDrawKeepOk : SpecOk Go.Proofs.Try.prog 4 spDrawKeepOk :=
  fun_okB (cx := cxDrawKeepOk) (F := Go.Proofs.Try.f4) (cxOk T0_ok T0_eq pd16_ok) mixed (by kernel_rfl) (by decide) (by kernel_rfl) (lps_none (by kernel_rfl)) (fun x h => (postDrawKeepOk x h).1)
noncomputable abbrev pd17 : List (Nat × List Spec) := (4, [spDrawKeepOk]) :: pd16
theorem pd17_ok : PhiOk Go.Proofs.Try.prog pd17 := ⟨⟨okDrawKeepOk, trivial⟩, pd16_ok⟩
/-! DrawMachStep -/
noncomputable abbrev pd18 : List (Nat × List Spec) := pd17
theorem pd18_ok : PhiOk Go.Proofs.Try.prog pd18 := pd17_ok
end Go.Rx

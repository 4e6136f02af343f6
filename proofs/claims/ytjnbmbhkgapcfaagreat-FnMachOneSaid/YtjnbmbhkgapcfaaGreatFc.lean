/-
  MACHINES OF PROGRAMS: which are right, and one step of whatever machine.
-/
import Derived.Test.YtjnbmbhkgapcfaaGreatFb
namespace Go.Rx
open Go
set_option linter.unusedVariables false
set_option linter.unusedSimpArgs false
/-! IsSpot -/
noncomputable abbrev spIsSpot : Spec := ⟨[FunSP, .agg SpotK], BoolR, false, fun x => G.smallP x.1, fun x => (G.spotOk x.1 x.2.1.1 x.2.1.2.1, ())⟩
noncomputable abbrev cxIsSpot : Cx := mkCx T0 pm3 [] [] 24
theorem eIsSpot (p : Funs) (f c : Int) : funK cxIsSpot Go.Proofs.Tryz.f35 spIsSpot.ins spIsSpot.out (p, (f, c, ()), ()) =
  (if Go.Rx.G.inR f (0 : Int) (Go.IntKind.wrap Go.IntKind.i64 ((↑(List.length p) : Int) - (1 : Int))) = Bool.true then
    if Decidable.decide ((0 : Int) ≤ f) = Bool.true then
      if Decidable.decide (f < (↑(List.length p) : Int)) = Bool.true then
        Option.some
          (Go.Rx.G.inR c (0 : Int) (Go.IntKind.wrap Go.IntKind.i64 ((↑(List.length (List.getD p (Int.toNat f) (ByteArray.empty, Bool.false, [], PUnit.unit)).2.2.1) : Int) - (1 : Int))), PUnit.unit)
      else Option.none
    else Option.none
  else Option.some (Bool.false, PUnit.unit)) := by kernel_rfl
/-! L5Spot -/
noncomputable abbrev spL5Spot : Spec := ⟨[FunSP, .agg SpotK], BoolR, false, fun x => G.smallP x.1, fun x => (G.spotOk x.1 x.2.1.1 x.2.1.2.1, ())⟩
noncomputable abbrev cxL5Spot : Cx := mkCx T0 pm3 [] [] 32
theorem eL5Spot (p : Funs) (f c : Int) : funK cxL5Spot Go.Proofs.Tryz.f23 spL5Spot.ins spL5Spot.out (p, (f, c, ()), ()) =
  (if Decidable.decide (f ≥ (0 : Int)) = Bool.true then
    if Decidable.decide (f < (↑(List.length p) : Int)) = Bool.true then
      if Decidable.decide (c ≥ (0 : Int)) = Bool.true then
        if Decidable.decide ((0 : Int) ≤ f) = Bool.true then
          if Decidable.decide (f < (↑(List.length p) : Int)) = Bool.true then
            Option.some (Decidable.decide (c < (↑(List.length (List.getD p (Int.toNat f) (ByteArray.empty, Bool.false, [], PUnit.unit)).2.2.1) : Int)), PUnit.unit)
          else Option.none
        else Option.none
      else Option.some (Bool.false, PUnit.unit)
    else Option.some (Bool.false, PUnit.unit)
  else Option.some (Bool.false, PUnit.unit)) := by kernel_rfl
theorem small_body {p : Funs} (h : G.smallP p = true) {k : Nat} (hk : k < p.length) : (G.pAt p k).2.2.1.length ≤ 1099511627776 := (smallF_iff.1 (smallF_at (smallP_iff.1 h).2 hk)).2.1
theorem sfIsSpot (p : Funs) (f c : Int) (h : G.smallP p = true) : funK cxIsSpot Go.Proofs.Tryz.f35 spIsSpot.ins spIsSpot.out (p, (f, c, ()), ()) = some (G.spotOk p f c, ()) := by
  have hl := (smallP_iff.1 h).1
  rw [eIsSpot, w64 (by omega) (by omega)]
  unfold G.spotOk
  by_cases h1 : 0 ≤ f ∧ f < (p.length : Int)
  · have hb := small_body h (show f.toNat < p.length by omega)
    have e : G.inR f 0 ((p.length : Int) - 1) = true := inR_iff.2 (by omega)
    rw [pAt_eq, w64 (by omega) (by omega), e, if_pos rfl, if_pos (decide_eq_true h1.1), if_pos (decide_eq_true h1.2), decide_eq_true h1, Bool.true_and]
    refine someB ?_
    rw [inR_iff, decide_eq_true_iff]
    omega
  · have e : G.inR f 0 ((p.length : Int) - 1) = false := inR_not.2 (by omega)
    rw [e, decide_eq_false h1]
    rfl
theorem okIsSpot : SpecOk Go.Proofs.Tryz.prog 35 spIsSpot :=
  fun_okB (cx := cxIsSpot) (F := Go.Proofs.Tryz.f35) (cxOk T0_ok T0_eq pm3_ok) mixed (by kernel_rfl) (by decide) (by kernel_rfl) (lps_none (by kernel_rfl)) (fun x h => sfIsSpot x.1 x.2.1.1 x.2.1.2.1 h)
theorem sfL5Spot (p : Funs) (f c : Int) (h : G.smallP p = true) : funK cxL5Spot Go.Proofs.Tryz.f23 spL5Spot.ins spL5Spot.out (p, (f, c, ()), ()) = some (G.spotOk p f c, ()) := by
  rw [eL5Spot]
  unfold G.spotOk
  rw [pAt_eq]
  by_cases h1 : 0 ≤ f <;> by_cases h2 : f < (p.length : Int) <;> by_cases h3 : 0 ≤ c <;> simp [h1, h2, h3]
theorem okL5Spot : SpecOk Go.Proofs.Tryz.prog 23 spL5Spot :=
  fun_okB (cx := cxL5Spot) (F := Go.Proofs.Tryz.f23) (cxOk T0_ok T0_eq pm3_ok) mixed (by kernel_rfl) (by decide) (by kernel_rfl) (lps_none (by kernel_rfl)) (fun x h => sfL5Spot x.1 x.2.1.1 x.2.1.2.1 h)
noncomputable abbrev pm4 : List (Nat × List Spec) := (35, [spIsSpot]) :: (23, [spL5Spot]) :: pm3
theorem pm4_ok : PhiOk Go.Proofs.Tryz.prog pm4 := ⟨⟨okIsSpot, trivial⟩, ⟨okL5Spot, trivial⟩, pm3_ok⟩
/-! NoSpot -/
noncomputable abbrev spNoSpot : Spec := ⟨[.agg SpotK, .box [.dat (.sl funT)]], BoolR, true, fun x => G.smallP x.2.1.1, fun x => (!G.spotOk x.2.1.1 x.1.1 x.1.2.1, x.2.1, ())⟩
noncomputable abbrev cxNoSpot : Cx := mkCx T0 pm4 [] [] 8
theorem eNoSpot (f c : Int) (p : Funs) : funK cxNoSpot Go.Proofs.Tryz.f37 spNoSpot.ins spNoSpot.out ((f, c, ()), (p, ()), ()) =
  (if Go.Rx.G.smallP p = Bool.true then Option.some (!Go.Rx.G.spotOk p f c, (p, PUnit.unit), PUnit.unit) else Option.none) := by kernel_rfl
theorem sfNoSpot (f c : Int) (p : Funs) (h : G.smallP p = true) : funK cxNoSpot Go.Proofs.Tryz.f37 spNoSpot.ins spNoSpot.out ((f, c, ()), (p, ()), ()) = some (!G.spotOk p f c, ((p, ()), ())) := by
  rw [eNoSpot, if_pos h]
theorem okNoSpot : SpecOk Go.Proofs.Tryz.prog 37 spNoSpot :=
  fun_okB (cx := cxNoSpot) (F := Go.Proofs.Tryz.f37) (cxOk T0_ok T0_eq pm4_ok) mixed (by kernel_rfl) (by decide) (by kernel_rfl) (lps_none (by kernel_rfl)) (fun x h => sfNoSpot x.1.1 x.1.2.1 x.2.1.1 h)
noncomputable abbrev pm5 : List (Nat × List Spec) := (37, [spNoSpot]) :: pm4
theorem pm5_ok : PhiOk Go.Proofs.Tryz.prog pm5 := ⟨⟨okNoSpot, trivial⟩, pm4_ok⟩
abbrev SpotD := (Funs × Unit) × Unit
def G.noSpotAt (p : Funs) (s : Spots) (k : Nat) : Bool := !G.spotOk p (s.getD k (0, 0, ())).1 (s.getD k (0, 0, ())).2.1
def G.spotAt (p : Funs) (s : Spots) (k : Nat) : Bool := G.spotOk p (s.getD k (0, 0, ())).1 (s.getD k (0, 0, ())).2.1
/-! IdxSpL: a search -/
def G.preIdxSpL (s : Spots) (k : (Funs × Unit) × Unit) (n : Int) (i : Int) : Bool := G.preA (s.length) i && (decide (n = ((s.length : Nat) : Int)) && (G.smallP k.1.1))
theorem preIdxSpL_iff {s : Spots} {k : (Funs × Unit) × Unit} {n : Int} {i : Int} : G.preIdxSpL s k n i = true ↔ (0 ≤ i ∧ i ≤ ((s.length : Nat) : Int) ∧ (s.length : Nat) ≤ 1099511627776) ∧ n = ((s.length : Nat) : Int) ∧ G.smallP k.1.1 = true := by simp [G.preIdxSpL, preA_iff]
def G.scIdxSpL (s : Spots) (k : (Funs × Unit) × Unit) (i : Int) : Option (Int × Unit) := G.scan (G.hit (G.noSpotAt k.1.1 s)) (s.length) i
noncomputable abbrev lsIdxSpL : LSpec := ⟨[0, 1, 7, 8, 4], [4], [SpotSP, .fn 37 [[.dat (.sl funT)]], IntP, IntP, IntP], [IntP], true, fun x => G.preIdxSpL x.1 x.2.1 x.2.2.1 x.2.2.2.1,
  fun x => ((G.flag 1 (G.scIdxSpL x.1 x.2.1 x.2.2.2.1), G.got (G.scIdxSpL x.1 x.2.1 x.2.2.2.1) (x.2.2.2.2.1, ())), (x.2.1, ()))⟩
noncomputable abbrev clIdxSpL : Cx := mkCx T0 pm5 [(0, lsIdxSpL)] [] 19
theorem rIdxSpL (s : Spots) (k : (Funs × Unit) × Unit) (n : Int) (i : Int) (r : Int) : roundK clIdxSpL 0 (loopIn Go.Proofs.Tryz.f56 0) lsIdxSpL (s, k, n, i, r, ()) =
  (if Decidable.decide (i < n) = Bool.true then
    if Decidable.decide ((0 : Int) ≤ i) = Bool.true then
      if Decidable.decide (i < (↑(List.length s) : Int)) = Bool.true then
        if Go.Rx.G.smallP k.1.1 = Bool.true then
          if
              (!Go.Rx.G.spotOk k.1.1 (List.getD s (Int.toNat i) ((0 : Int), (0 : Int), PUnit.unit)).1 (List.getD s (Int.toNat i) ((0 : Int), (0 : Int), PUnit.unit)).2.1) =
                Bool.true then
            Option.some (Go.Rx.LRes.stop (1 : Nat) (i, PUnit.unit) (k, PUnit.unit))
          else Option.some (Go.Rx.LRes.go (s, k, n, Go.IntKind.wrap Go.IntKind.i64 (i + (1 : Int)), r, PUnit.unit))
        else Option.none
      else Option.none
    else Option.none
  else Option.some (Go.Rx.LRes.stop (0 : Nat) (r, PUnit.unit) (k, PUnit.unit))) := by kernel_rfl
noncomputable abbrev muIdxSpL : PKs.den lsIdxSpL.ins → Nat := fun x => (x.1.length) - x.2.2.2.1.toNat
theorem stIdxSpL (s : Spots) (k : (Funs × Unit) × Unit) (n : Int) (i : Int) (r : Int) (h : G.preIdxSpL s k n i = true) : StepOk lsIdxSpL (eqInv lsIdxSpL) muIdxSpL (s, k, n, i, r, ()) (roundK clIdxSpL 0 (loopIn Go.Proofs.Tryz.f56 0) lsIdxSpL (s, k, n, i, r, ())) := by
  obtain ⟨⟨h0, h1, h2⟩, hn, hc⟩ := preIdxSpL_iff.1 h
  subst hn
  rw [rIdxSpL]
  by_cases hi : i < ((s.length : Nat) : Int)
  · have hw : IntKind.i64.wrap (i + 1) = i + 1 := w64 (by omega) (by omega)
    have hs : G.scIdxSpL s k i = ((G.hit (G.noSpotAt k.1.1 s)) i.toNat).or (G.scIdxSpL s k (i + 1)) := scan_step h0 (by omega)
    refine scan_stop (fl := 1) (eqInv lsIdxSpL) muIdxSpL (s, k, ((s.length : Nat) : Int), i + 1, r, ()) ((G.hit (G.noSpotAt k.1.1 s)) i.toNat) (k, ()) ?_ (fun ho => ⟨(show G.preIdxSpL s k ((s.length : Nat) : Int) (i + 1) = true from preIdxSpL_iff.2 ⟨⟨by omega, by omega, h2⟩, rfl, hc⟩), ?_, ?_⟩) (fun w ho => ?_)
    · rw [hit_match, hw, if_pos (decide_eq_true hi), if_pos (decide_eq_true h0), if_pos (decide_eq_true hi), if_pos hc, nat_int h0]
      rfl
    · show (s.length) - (i + 1).toNat < (s.length) - i.toNat
      omega
    · show ((_, _), _) = ((_, _), _)
      simp only [hs, ho, Option.none_or]
    · show ((_, _), _) = ((_, _), _)
      simp only [hs, ho, Option.some_or]
      rfl
  · have hs : G.scIdxSpL s k i = none := scan_end (by omega)
    skip
    rw [if_neg (by simpa using hi)]
    show ((_, _), _) = ((_, _), _)
    simp only [hs]
    rfl
theorem lpIdxSpL : LpOk Go.Proofs.Tryz.prog clIdxSpL.ntmps 0 (loopIn Go.Proofs.Tryz.f56 0) lsIdxSpL :=
  lp_okB (cxOk T0_ok T0_eq pm5_ok) mixed (by kernel_rfl) (lps_none (by kernel_rfl)) (eqInv lsIdxSpL) muIdxSpL (fun _ h => h) (fun x h => stIdxSpL x.1 x.2.1 x.2.2.1 x.2.2.2.1 x.2.2.2.2.1 h)
/-! IdxSp -/
noncomputable abbrev spIdxSp : Spec := ⟨[SpotSP, .fn 37 [[.dat (.sl funT)]]], IntR, true, fun x => G.few x.1.length && G.smallP x.2.1.1.1, fun x => (G.idx (G.noSpotAt x.2.1.1.1 x.1) x.1.length, (x.2.1, ()))⟩
noncomputable abbrev cxIdxSp : Cx := mkCx T0 pm5 [(0, lsIdxSpL)] [] 19
theorem eIdxSp (s : Spots) (k : SpotD) : funK cxIdxSp Go.Proofs.Tryz.f56 spIdxSp.ins spIdxSp.out (s, k, ()) =
  (if Go.Rx.G.preIdxSpL s k (↑(List.length s) : Int) (0 : Int) = Bool.true then
    if Go.Rx.G.flag (1 : Nat) (Go.Rx.G.scIdxSpL s k (0 : Int)) = (0 : Nat) then Option.some ((-1 : Int), k, PUnit.unit)
    else
      if Go.Rx.G.flag (1 : Nat) (Go.Rx.G.scIdxSpL s k (0 : Int)) = (1 : Nat) then
        Option.some ((Go.Rx.G.got (Go.Rx.G.scIdxSpL s k (0 : Int)) ((0 : Int), PUnit.unit)).1, k, PUnit.unit)
      else Option.none
  else Option.none) := by kernel_rfl
theorem sfIdxSp (s : Spots) (k : SpotD) (h : (G.few s.length && G.smallP k.1.1) = true) : funK cxIdxSp Go.Proofs.Tryz.f56 spIdxSp.ins spIdxSp.out (s, k, ()) = some (G.idx (G.noSpotAt k.1.1 s) s.length, (k, ())) := by
  rw [Bool.and_eq_true] at h
  have hf := few_iff.1 h.1
  rw [eIdxSp, if_pos (preIdxSpL_iff.2 ⟨⟨by omega, by omega, hf⟩, rfl, h.2⟩)]
  exact idx_end (fun i => (i, k, ())) rfl
theorem okIdxSp : SpecOk Go.Proofs.Tryz.prog 56 spIdxSp :=
  fun_okB (cx := cxIdxSp) (F := Go.Proofs.Tryz.f56) (cxOk T0_ok T0_eq pm5_ok) mixed (by kernel_rfl) (by decide) (by kernel_rfl) (lps_of (l := [(0, loopIn Go.Proofs.Tryz.f56 0)]) (by kernel_rfl) ⟨lp_at lpIdxSpL rfl, trivial⟩) (fun x h => sfIdxSp x.1 x.2.1 h)
noncomputable abbrev pm6 : List (Nat × List Spec) := (56, [spIdxSp]) :: pm5
theorem pm6_ok : PhiOk Go.Proofs.Tryz.prog pm6 := ⟨⟨okIdxSp, trivial⟩, pm5_ok⟩
/-! ContSp -/
noncomputable abbrev spContSp : Spec := ⟨[SpotSP, .fn 37 [[.dat (.sl funT)]]], BoolR, true, fun x => G.few x.1.length && G.smallP x.2.1.1.1, fun x => (!G.spotsOk x.2.1.1.1 x.1, (x.2.1, ()))⟩
noncomputable abbrev cxContSp : Cx := mkCx T0 pm6 [] [] 9
theorem eContSp (s : Spots) (k : SpotD) : funK cxContSp Go.Proofs.Tryz.f36 spContSp.ins spContSp.out (s, k, ()) =
  (if (Go.Rx.G.few (List.length s) && Go.Rx.G.smallP k.1.1) = Bool.true then
    Option.some (Decidable.decide (Go.Rx.G.idx (Go.Rx.G.noSpotAt k.1.1 s) (List.length s) ≥ (0 : Int)), k, PUnit.unit)
  else Option.none) := by kernel_rfl
theorem spotsOk_at (p : Funs) (s : Spots) : G.spotsOk p s = true ↔ ∀ k, k < s.length → G.spotAt p s k = true := by
  rw [spotsOk_iff]
  constructor
  · intro h k hk
    unfold G.spotAt
    rw [getD_lt _ _ hk]
    exact h _ (List.getElem_mem hk)
  · intro h x hx
    obtain ⟨k, hk, rfl⟩ := List.getElem_of_mem hx
    have := h k hk
    unfold G.spotAt at this
    rw [getD_lt _ _ hk] at this
    exact this
theorem idx_spots (p : Funs) (s : Spots) : decide (G.idx (G.noSpotAt p s) s.length ≥ 0) = !G.spotsOk p s := by
  have h1 := idx_none (G.noSpotAt p s) s.length
  have h2 := spotsOk_at p s
  have h3 : G.anyFrom s.length (G.noSpotAt p s) 0 = false ↔ ∀ k, k < s.length → G.spotAt p s k = true := by
    rw [Bool.eq_false_iff, ne_eq, anyFrom_zero]
    constructor
    · intro h k hk
      cases hq : G.spotAt p s k with
      | true => rfl
      | false => exact absurd ⟨k, hk, by show (!G.spotAt p s k) = true; rw [hq]; rfl⟩ h
    · rintro h ⟨k, hk, hq⟩
      have hq : (!G.spotAt p s k) = true := hq
      rw [h k hk] at hq
      cases hq
  cases hs : G.spotsOk p s with
  | true =>
    have := h1.2 (h3.2 (h2.1 hs))
    exact decide_eq_false (by omega)
  | false =>
    refine decide_eq_true ?_
    have : ¬ G.idx (G.noSpotAt p s) s.length < 0 := fun e => by
      have := h2.2 (h3.1 (h1.1 e))
      rw [hs] at this
      cases this
    omega
theorem sfContSp (s : Spots) (k : SpotD) (h : (G.few s.length && G.smallP k.1.1) = true) : funK cxContSp Go.Proofs.Tryz.f36 spContSp.ins spContSp.out (s, k, ()) = some (!G.spotsOk k.1.1 s, (k, ())) := by
  rw [eContSp, if_pos h, idx_spots]
theorem okContSp : SpecOk Go.Proofs.Tryz.prog 36 spContSp :=
  fun_okB (cx := cxContSp) (F := Go.Proofs.Tryz.f36) (cxOk T0_ok T0_eq pm6_ok) mixed (by kernel_rfl) (by decide) (by kernel_rfl) (lps_none (by kernel_rfl)) (fun x h => sfContSp x.1 x.2.1 h)
noncomputable abbrev pm7 : List (Nat × List Spec) := (36, [spContSp]) :: (38, [spStateOk]) :: (24, [spL1Cut]) :: pm6
theorem pm7_ok : PhiOk Go.Proofs.Tryz.prog pm7 := ⟨⟨okContSp, trivial⟩, ⟨okStateOk, trivial⟩, ⟨okL1Cut, trivial⟩, pm6_ok⟩
def G.machOk (p : Funs) (m : Mach) : Bool := G.keepOk p && (G.spotOk p m.1 m.2.1 && (G.spotsOk p m.2.2.2.1 && G.stateOk m.2.2.1 (m.2.2.2.1.length : Int) m.2.2.2.2.1 m.2.2.2.2.2.1))
/-! MachOk -/
noncomputable abbrev spMachOk : Spec := ⟨[FunSP, .agg MachK], BoolR, false, fun x => G.smallP x.1 && G.fewMach x.2.1, fun x => (G.machOk x.1 x.2.1, ())⟩
noncomputable abbrev cxMachOk : Cx := mkCx T0 pm7 [] [] 32
theorem eMachOk (p : Funs) (m : Mach) : funK cxMachOk Go.Proofs.Tryz.f16 spMachOk.ins spMachOk.out (p, m, ()) =
  (if Go.Rx.G.smallP p = Bool.true then
    if Go.Rx.G.keepOk p = Bool.true then
      if Go.Rx.G.smallP p = Bool.true then
        if Go.Rx.G.spotOk p m.1 m.2.1 = Bool.true then
          if (Go.Rx.G.few (List.length m.2.2.2.1) && Go.Rx.G.smallP p) = Bool.true then
            if (!!Go.Rx.G.spotsOk p m.2.2.2.1) = Bool.true then
              if Go.Rx.G.few (List.length m.2.2.2.2.1) = Bool.true then
                Option.some (Go.Rx.G.stateOk m.2.2.1 (↑(List.length m.2.2.2.1) : Int) m.2.2.2.2.1 m.2.2.2.2.2.1, PUnit.unit)
              else Option.none
            else Option.some (Bool.false, PUnit.unit)
          else Option.none
        else Option.some (Bool.false, PUnit.unit)
      else Option.none
    else Option.some (Bool.false, PUnit.unit)
  else Option.none) := by kernel_rfl
theorem sfMachOk (p : Funs) (m : Mach) (h : (G.smallP p && G.fewMach m) = true) : funK cxMachOk Go.Proofs.Tryz.f16 spMachOk.ins spMachOk.out (p, m, ()) = some (G.machOk p m, ()) := by
  rw [Bool.and_eq_true, fewMach_iff] at h
  obtain ⟨h1, h2, h3⟩ := h
  rw [eMachOk]
  simp only [h1, few_iff.2 h2, few_iff.2 h3, Bool.and_self, Bool.not_not, if_true]
  unfold G.machOk
  cases G.keepOk p <;> cases G.spotOk p m.1 m.2.1 <;> cases G.spotsOk p m.2.2.2.1 <;> simp
theorem okMachOk : SpecOk Go.Proofs.Tryz.prog 16 spMachOk :=
  fun_okB (cx := cxMachOk) (F := Go.Proofs.Tryz.f16) (cxOk T0_ok T0_eq pm7_ok) mixed (by kernel_rfl) (by decide) (by kernel_rfl) (lps_none (by kernel_rfl)) (fun x h => sfMachOk x.1 x.2.1 h)
theorem machOk_iff (p : Funs) (m : Mach) : G.machOk p m = true ↔ (G.keepOk p = true ∧ G.spotOk p m.1 m.2.1 = true ∧ G.spotsOk p m.2.2.2.1 = true ∧ -1000 ≤ m.2.2.1 ∧ m.2.2.1 ≤ 1000 ∧ (m.2.2.2.1.length : Int) ≤ 5 ∧ m.2.2.2.2.1.length ≤ 30 ∧ G.allCut m.2.2.2.2.1 0 = true ∧ 0 ≤ m.2.2.2.2.2.1 ∧ m.2.2.2.2.2.1 ≤ 5) := by
  unfold G.machOk G.stateOk
  simp only [Bool.and_eq_true, inR_iff, decide_eq_true_iff]
  have : G.allNum m.2.2.2.2.1 = G.allCut m.2.2.2.2.1 0 := rfl
  rw [this]
  constructor
  · rintro ⟨h1, h2, h3, ⟨⟨⟨⟨h5, h6⟩, h7⟩, h8⟩, h9⟩, h10, h11⟩
    exact ⟨h1, h2, h3, h5, h6, h7, h8, h9, h10, h11⟩
  · rintro ⟨h1, h2, h3, h5, h6, h7, h8, h9, h10, h11⟩
    exact ⟨h1, h2, h3, ⟨⟨⟨⟨h5, h6⟩, h7⟩, h8⟩, h9⟩, h10, h11⟩
def G.cutAt (xs : Ints) (k : Nat) : Bool := G.inR (xs.getD k (0, ())).1 (-1000) 1000
/-! MOkL0: a search -/
def G.preMOkL0 (p : Funs) (m : Mach) (i : Int) : Bool := G.preA (m.2.2.2.1.length) i && (true && (G.smallP p))
theorem preMOkL0_iff {p : Funs} {m : Mach} {i : Int} : G.preMOkL0 p m i = true ↔ (0 ≤ i ∧ i ≤ ((m.2.2.2.1.length : Nat) : Int) ∧ (m.2.2.2.1.length : Nat) ≤ 1099511627776) ∧ True ∧ G.smallP p = true := by simp [G.preMOkL0, preA_iff]
def G.scMOkL0 (p : Funs) (m : Mach) (i : Int) : Option (Bool × Unit) := G.scan (G.bad (G.spotAt p m.2.2.2.1)) (m.2.2.2.1.length) i
noncomputable abbrev lsMOkL0 : LSpec := ⟨[0, 3, 5, 4], [4], [FunSP, .box MachK, IntP, BoolP], [BoolP], true, fun x => G.preMOkL0 x.1 x.2.1 x.2.2.1,
  fun x => ((G.flag 1 (G.scMOkL0 x.1 x.2.1 x.2.2.1), G.got (G.scMOkL0 x.1 x.2.1 x.2.2.1) (x.2.2.2.1, ())), (x.2.1, ()))⟩
noncomputable abbrev clMOkL0 : Cx := mkCx T0 pm7 [(0, lsMOkL0)] [] 81
theorem rMOkL0 (p : Funs) (m : Mach) (i : Int) (r : Bool) : roundK clMOkL0 0 (loopIn Go.Proofs.Tryz.f9 0) lsMOkL0 (p, m, i, r, ()) =
  (if Decidable.decide (i < (↑(List.length m.2.2.2.1) : Int)) = Bool.true then
    if Decidable.decide ((0 : Int) ≤ i) = Bool.true then
      if Decidable.decide (i < (↑(List.length m.2.2.2.1) : Int)) = Bool.true then
        if Go.Rx.G.smallP p = Bool.true then
          if
              (!Go.Rx.G.spotOk p (List.getD m.2.2.2.1 (Int.toNat i) ((0 : Int), (0 : Int), PUnit.unit)).1
                    (List.getD m.2.2.2.1 (Int.toNat i) ((0 : Int), (0 : Int), PUnit.unit)).2.1) =
                Bool.true then
            Option.some (Go.Rx.LRes.stop (1 : Nat) (Bool.false, PUnit.unit) (m, PUnit.unit))
          else Option.some (Go.Rx.LRes.go (p, m, Go.IntKind.wrap Go.IntKind.i64 (i + (1 : Int)), r, PUnit.unit))
        else Option.none
      else Option.none
    else Option.none
  else Option.some (Go.Rx.LRes.stop (0 : Nat) (r, PUnit.unit) (m, PUnit.unit))) := by kernel_rfl
noncomputable abbrev muMOkL0 : PKs.den lsMOkL0.ins → Nat := fun x => (x.2.1.2.2.2.1.length) - x.2.2.1.toNat
theorem stMOkL0 (p : Funs) (m : Mach) (i : Int) (r : Bool) (h : G.preMOkL0 p m i = true) : StepOk lsMOkL0 (eqInv lsMOkL0) muMOkL0 (p, m, i, r, ()) (roundK clMOkL0 0 (loopIn Go.Proofs.Tryz.f9 0) lsMOkL0 (p, m, i, r, ())) := by
  obtain ⟨⟨h0, h1, h2⟩, hn, hc⟩ := preMOkL0_iff.1 h
  rw [rMOkL0]
  by_cases hi : i < ((m.2.2.2.1.length : Nat) : Int)
  · have hw : IntKind.i64.wrap (i + 1) = i + 1 := w64 (by omega) (by omega)
    have hs : G.scMOkL0 p m i = ((G.bad (G.spotAt p m.2.2.2.1)) i.toNat).or (G.scMOkL0 p m (i + 1)) := scan_step h0 (by omega)
    refine scan_stop (fl := 1) (eqInv lsMOkL0) muMOkL0 (p, m, i + 1, r, ()) ((G.bad (G.spotAt p m.2.2.2.1)) i.toNat) (m, ()) ?_ (fun ho => ⟨(show G.preMOkL0 p m (i + 1) = true from preMOkL0_iff.2 ⟨⟨by omega, by omega, h2⟩, trivial, hc⟩), ?_, ?_⟩) (fun w ho => ?_)
    · rw [bad_match, hw, if_pos (decide_eq_true hi), if_pos (decide_eq_true h0), if_pos (decide_eq_true hi), if_pos hc]
      unfold G.spotAt
      cases G.spotOk p (m.2.2.2.1.getD i.toNat (0, 0, ())).1 (m.2.2.2.1.getD i.toNat (0, 0, ())).2.1 <;> rfl
    · show (m.2.2.2.1.length) - (i + 1).toNat < (m.2.2.2.1.length) - i.toNat
      omega
    · show ((_, _), _) = ((_, _), _)
      simp only [hs, ho, Option.none_or]
    · show ((_, _), _) = ((_, _), _)
      simp only [hs, ho, Option.some_or]
      rfl
  · have hs : G.scMOkL0 p m i = none := scan_end (by omega)
    skip
    rw [if_neg (by simpa using hi)]
    show ((_, _), _) = ((_, _), _)
    simp only [hs]
    rfl
theorem lpMOkL0 : LpOk Go.Proofs.Tryz.prog clMOkL0.ntmps 0 (loopIn Go.Proofs.Tryz.f9 0) lsMOkL0 :=
  lp_okB (cxOk T0_ok T0_eq pm7_ok) mixed (by kernel_rfl) (lps_none (by kernel_rfl)) (eqInv lsMOkL0) muMOkL0 (fun _ h => h) (fun x h => stMOkL0 x.1 x.2.1 x.2.2.1 x.2.2.2.1 h)
/-! MOkL2: a search -/
def G.preMOkL2 (m : Mach) (i : Int) : Bool := G.preA (m.2.2.2.2.1.length) i && (true && (true))
theorem preMOkL2_iff {m : Mach} {i : Int} : G.preMOkL2 m i = true ↔ (0 ≤ i ∧ i ≤ ((m.2.2.2.2.1.length : Nat) : Int) ∧ (m.2.2.2.2.1.length : Nat) ≤ 1099511627776) ∧ True ∧ true = true := by simp [G.preMOkL2, preA_iff]
def G.scMOkL2 (m : Mach) (i : Int) : Option (Bool × Unit) := G.scan (G.bad (G.cutAt m.2.2.2.2.1)) (m.2.2.2.2.1.length) i
noncomputable abbrev lsMOkL2 : LSpec := ⟨[3, 6, 4], [4], [.box MachK, IntP, BoolP], [BoolP], true, fun x => G.preMOkL2 x.1 x.2.1,
  fun x => ((G.flag 1 (G.scMOkL2 x.1 x.2.1), G.got (G.scMOkL2 x.1 x.2.1) (x.2.2.1, ())), (x.1, ()))⟩
noncomputable abbrev clMOkL2 : Cx := mkCx T0 pm7 [(2, lsMOkL2)] [] 81
theorem rMOkL2 (m : Mach) (i : Int) (r : Bool) : roundK clMOkL2 2 (loopIn Go.Proofs.Tryz.f9 2) lsMOkL2 (m, i, r, ()) =
  (if Decidable.decide (i < (↑(List.length m.2.2.2.2.1) : Int)) = Bool.true then
    if Decidable.decide ((0 : Int) ≤ i) = Bool.true then
      if Decidable.decide (i < (↑(List.length m.2.2.2.2.1) : Int)) = Bool.true then
        if Decidable.decide ((0 : Int) ≤ i) = Bool.true then
          if Decidable.decide (i < (↑(List.length m.2.2.2.2.1) : Int)) = Bool.true then
            if
                (!Decidable.decide (Go.Rx.G.cut (List.getD m.2.2.2.2.1 (Int.toNat i) ((0 : Int), PUnit.unit)).1 = (List.getD m.2.2.2.2.1 (Int.toNat i) ((0 : Int), PUnit.unit)).1)) =
                  Bool.true then
              Option.some (Go.Rx.LRes.stop (1 : Nat) (Bool.false, PUnit.unit) (m, PUnit.unit))
            else Option.some (Go.Rx.LRes.go (m, Go.IntKind.wrap Go.IntKind.i64 (i + (1 : Int)), r, PUnit.unit))
          else Option.none
        else Option.none
      else Option.none
    else Option.none
  else Option.some (Go.Rx.LRes.stop (0 : Nat) (r, PUnit.unit) (m, PUnit.unit))) := by kernel_rfl
noncomputable abbrev muMOkL2 : PKs.den lsMOkL2.ins → Nat := fun x => (x.1.2.2.2.2.1.length) - x.2.1.toNat
theorem stMOkL2 (m : Mach) (i : Int) (r : Bool) (h : G.preMOkL2 m i = true) : StepOk lsMOkL2 (eqInv lsMOkL2) muMOkL2 (m, i, r, ()) (roundK clMOkL2 2 (loopIn Go.Proofs.Tryz.f9 2) lsMOkL2 (m, i, r, ())) := by
  obtain ⟨⟨h0, h1, h2⟩, hn, hc⟩ := preMOkL2_iff.1 h
  rw [rMOkL2]
  by_cases hi : i < ((m.2.2.2.2.1.length : Nat) : Int)
  · have hw : IntKind.i64.wrap (i + 1) = i + 1 := w64 (by omega) (by omega)
    have hs : G.scMOkL2 m i = ((G.bad (G.cutAt m.2.2.2.2.1)) i.toNat).or (G.scMOkL2 m (i + 1)) := scan_step h0 (by omega)
    refine scan_stop (fl := 1) (eqInv lsMOkL2) muMOkL2 (m, i + 1, r, ()) ((G.bad (G.cutAt m.2.2.2.2.1)) i.toNat) (m, ()) ?_ (fun ho => ⟨(show G.preMOkL2 m (i + 1) = true from preMOkL2_iff.2 ⟨⟨by omega, by omega, h2⟩, trivial, hc⟩), ?_, ?_⟩) (fun w ho => ?_)
    · rw [bad_match, hw, if_pos (decide_eq_true hi), if_pos (decide_eq_true h0), if_pos (decide_eq_true hi), if_pos (decide_eq_true h0), if_pos (decide_eq_true hi)]
      unfold G.cutAt
      generalize (m.2.2.2.2.1.getD i.toNat ((0 : Int), ())).1 = v
      have e : (G.cut v = v) = (G.inR v (-1000) 1000 = true) := by rw [cut_iff, inR_iff]
      simp only [e]
      cases G.inR v (-1000) 1000 <;> rfl
    · show (m.2.2.2.2.1.length) - (i + 1).toNat < (m.2.2.2.2.1.length) - i.toNat
      omega
    · show ((_, _), _) = ((_, _), _)
      simp only [hs, ho, Option.none_or]
    · show ((_, _), _) = ((_, _), _)
      simp only [hs, ho, Option.some_or]
      rfl
  · have hs : G.scMOkL2 m i = none := scan_end (by omega)
    skip
    rw [if_neg (by simpa using hi)]
    show ((_, _), _) = ((_, _), _)
    simp only [hs]
    rfl
theorem lpMOkL2 : LpOk Go.Proofs.Tryz.prog clMOkL2.ntmps 2 (loopIn Go.Proofs.Tryz.f9 2) lsMOkL2 :=
  lp_okB (cxOk T0_ok T0_eq pm7_ok) mixed (by kernel_rfl) (lps_none (by kernel_rfl)) (eqInv lsMOkL2) muMOkL2 (fun _ h => h) (fun x h => stMOkL2 x.1 x.2.1 x.2.2.1 h)
/-! SpMachOk -/
noncomputable abbrev spSpMachOk : Spec := ⟨[FunSP, .agg MachK], BoolR, false, fun x => G.smallP x.1 && G.fewMach x.2.1, fun x => (G.machOk x.1 x.2.1, ())⟩
noncomputable abbrev cxSpMachOk : Cx := mkCx T0 pm7 [(0, lsMOkL0), (2, lsMOkL2)] [] 81
theorem eSpMachOk (p : Funs) (m : Mach) : funK cxSpMachOk Go.Proofs.Tryz.f9 spSpMachOk.ins spSpMachOk.out (p, m, ()) =
  (if Go.Rx.G.smallP p = Bool.true then
    if (!Go.Rx.G.keepOk p) = Bool.false then
      if Go.Rx.G.smallP p = Bool.true then
        if (!Go.Rx.G.spotOk p m.1 m.2.1) = Bool.false then
          if (!Decidable.decide (Go.Rx.G.cut m.2.2.1 = m.2.2.1)) = Bool.false then
            if Decidable.decide ((↑(List.length m.2.2.2.1) : Int) > (5 : Int)) = Bool.false then
              if Decidable.decide ((↑(List.length m.2.2.2.2.1) : Int) > (30 : Int)) = Bool.false then
                if Decidable.decide (m.2.2.2.2.2.1 < (0 : Int)) = Bool.false then
                  if Decidable.decide (m.2.2.2.2.2.1 > (5 : Int)) = Bool.true then Option.some (Bool.false, PUnit.unit)
                  else
                    if Go.Rx.G.preMOkL0 p m (0 : Int) = Bool.true then
                      if Go.Rx.G.flag (1 : Nat) (Go.Rx.G.scMOkL0 p m (0 : Int)) = (0 : Nat) then
                        if Go.Rx.G.preMOkL2 m (0 : Int) = Bool.true then
                          if Go.Rx.G.flag (1 : Nat) (Go.Rx.G.scMOkL2 m (0 : Int)) = (0 : Nat) then Option.some (Bool.true, PUnit.unit)
                          else
                            if Go.Rx.G.flag (1 : Nat) (Go.Rx.G.scMOkL2 m (0 : Int)) = (1 : Nat) then
                              Option.some (Go.Rx.G.got (Go.Rx.G.scMOkL2 m (0 : Int)) (Go.Rx.G.got (Go.Rx.G.scMOkL0 p m (0 : Int)) (Bool.false, PUnit.unit)))
                            else Option.none
                        else Option.none
                      else
                        if Go.Rx.G.flag (1 : Nat) (Go.Rx.G.scMOkL0 p m (0 : Int)) = (1 : Nat) then
                          Option.some (Go.Rx.G.got (Go.Rx.G.scMOkL0 p m (0 : Int)) (Bool.false, PUnit.unit))
                        else Option.none
                    else Option.none
                else Option.some (Bool.false, PUnit.unit)
              else Option.some (Bool.false, PUnit.unit)
            else Option.some (Bool.false, PUnit.unit)
          else Option.some (Bool.false, PUnit.unit)
        else Option.some (Bool.false, PUnit.unit)
      else Option.none
    else Option.some (Bool.false, PUnit.unit)
  else Option.none) := by kernel_rfl
theorem sc0_eq (p : Funs) (m : Mach) : G.scMOkL0 p m 0 = if G.spotsOk p m.2.2.2.1 = true then none else some (false, ()) := by
  unfold G.scMOkL0
  rw [scan_bad]
  have : G.allFrom m.2.2.2.1.length (G.spotAt p m.2.2.2.1) 0 = G.spotsOk p m.2.2.2.1 := by
    rw [Bool.eq_iff_iff, allFrom_zero, spotsOk_at]
  rw [this]
theorem allCut_at (xs : Ints) : G.allFrom xs.length (G.cutAt xs) 0 = G.allCut xs 0 := by
  rw [Bool.eq_iff_iff, allFrom_zero]
  unfold G.allCut
  constructor
  · intro h
    unfold G.allL
    rw [List.all_eq_true]
    intro x hx
    rw [Int.toNat_zero, List.drop_zero] at hx
    obtain ⟨k, hk, rfl⟩ := List.getElem_of_mem hx
    have := h k hk
    unfold G.cutAt at this
    rw [getD_lt _ _ hk] at this
    exact this
  · intro h k hk
    exact allL_get h hk
theorem sc2_eq (m : Mach) : G.scMOkL2 m 0 = if G.allCut m.2.2.2.2.1 0 = true then none else some (false, ()) := by
  unfold G.scMOkL2
  rw [scan_bad, allCut_at]
theorem sfSpMachOk (p : Funs) (m : Mach) (h : (G.smallP p && G.fewMach m) = true) : funK cxSpMachOk Go.Proofs.Tryz.f9 spSpMachOk.ins spSpMachOk.out (p, m, ()) = some (G.machOk p m, ()) := by
  rw [Bool.and_eq_true, fewMach_iff] at h
  obtain ⟨h1, h2, h3⟩ := h
  have p0 : G.preMOkL0 p m 0 = true := preMOkL0_iff.2 ⟨⟨by omega, by omega, h2⟩, trivial, h1⟩
  have p2 : G.preMOkL2 m 0 = true := preMOkL2_iff.2 ⟨⟨by omega, by omega, h3⟩, trivial, rfl⟩
  rw [eSpMachOk]
  simp only [h1, p0, p2, sc0_eq, sc2_eq, if_true]
  have hm := machOk_iff p m
  by_cases c1 : G.keepOk p = true
  · by_cases c2 : G.spotOk p m.1 m.2.1 = true
    · by_cases c3 : G.cut m.2.2.1 = m.2.2.1
      · have c3' := (cut_iff _).1 c3
        by_cases c4 : (m.2.2.2.1.length : Int) > 5
        · have : G.machOk p m = false := by rw [Bool.eq_false_iff]; intro e; have := hm.1 e; omega
          simp [c1, c2, c3, c4, this]
        · by_cases c5 : (m.2.2.2.2.1.length : Int) > 30
          · have : G.machOk p m = false := by rw [Bool.eq_false_iff]; intro e; have := hm.1 e; omega
            simp [c1, c2, c3, c4, c5, this]
          · by_cases c6 : m.2.2.2.2.2.1 < 0
            · have : G.machOk p m = false := by rw [Bool.eq_false_iff]; intro e; have := hm.1 e; omega
              simp [c1, c2, c3, c4, c5, c6, this]
            · by_cases c7 : m.2.2.2.2.2.1 > 5
              · have : G.machOk p m = false := by rw [Bool.eq_false_iff]; intro e; have := hm.1 e; omega
                simp [c1, c2, c3, c4, c5, c6, c7, this]
              · by_cases c8 : G.spotsOk p m.2.2.2.1 = true
                · by_cases c9 : G.allCut m.2.2.2.2.1 0 = true
                  · have : G.machOk p m = true := hm.2 ⟨c1, c2, c8, by omega, by omega, by omega, by omega, c9, by omega, by omega⟩
                    simp [c1, c2, c3, c4, c5, c6, c7, c8, c9, this, G.flag, G.got]
                  · have : G.machOk p m = false := by rw [Bool.eq_false_iff]; intro e; exact c9 (hm.1 e).2.2.2.2.2.2.2.1
                    simp [c1, c2, c3, c4, c5, c6, c7, c8, c9, this, G.flag, G.got]
                · have : G.machOk p m = false := by rw [Bool.eq_false_iff]; intro e; exact c8 (hm.1 e).2.2.1
                  simp [c1, c2, c3, c4, c5, c6, c7, c8, this, G.flag, G.got]
      · have : G.machOk p m = false := by rw [Bool.eq_false_iff]; intro e; exact c3 ((cut_iff _).2 ⟨(hm.1 e).2.2.2.1, (hm.1 e).2.2.2.2.1⟩)
        simp [c1, c2, c3, this]
    · have : G.machOk p m = false := by rw [Bool.eq_false_iff]; intro e; exact c2 (hm.1 e).2.1
      simp [c1, c2, this]
  · have : G.machOk p m = false := by rw [Bool.eq_false_iff]; intro e; exact c1 (hm.1 e).1
    simp [c1, this]
theorem okSpMachOk : SpecOk Go.Proofs.Tryz.prog 9 spSpMachOk :=
  fun_okB (cx := cxSpMachOk) (F := Go.Proofs.Tryz.f9) (cxOk T0_ok T0_eq pm7_ok) mixed (by kernel_rfl) (by decide) (by kernel_rfl) (lps_of (l := [(0, loopIn Go.Proofs.Tryz.f9 0), (2, loopIn Go.Proofs.Tryz.f9 2)]) (by kernel_rfl) ⟨lp_at lpMOkL0 rfl, lp_at lpMOkL2 rfl, trivial⟩) (fun x h => sfSpMachOk x.1 x.2.1 h)
noncomputable abbrev pm8 : List (Nat × List Spec) := (16, [spMachOk]) :: (9, [spSpMachOk]) :: pm7
theorem pm8_ok : PhiOk Go.Proofs.Tryz.prog pm8 := ⟨⟨okMachOk, trivial⟩, ⟨okSpMachOk, trivial⟩, pm7_ok⟩
/-! one step of whatever machine -/
def G.mstep (p : Funs) (m : Mach) : Mach := if G.machOk p m = true then (if m.2.2.2.2.2.1 = 0 then G.stepM p m else m) else G.formM
theorem machOk_go {p : Funs} {m : Mach} (hs : G.smallP p = true) (h : G.machOk p m = true) : G.goM p m = true := by
  have := (machOk_iff p m).1 h
  exact goM_iff.2 ⟨⟨hs, this.1⟩, this.2.1, by omega, this.2.2.1⟩
/-! MachStep -/
noncomputable abbrev spMachStep : Spec := ⟨[FunSP, .agg MachK], .one (.agg MachO), false, fun x => G.smallP x.1 && G.fewMach x.2.1, fun x => (G.mstep x.1 x.2.1, ())⟩
noncomputable abbrev cxMachStep : Cx := mkCx T0 pm8 [] [] 21
theorem eMachStep (p : Funs) (m : Mach) : funK cxMachStep Go.Proofs.Tryz.f6 spMachStep.ins spMachStep.out (p, m, ()) =
  (if (Go.Rx.G.smallP p && Go.Rx.G.fewMach m) = Bool.true then
    if (!Go.Rx.G.machOk p m) = Bool.true then Option.some (((0 : Int), (0 : Int), (0 : Int), [], [], (5 : Int), PUnit.unit), PUnit.unit)
    else
      if Go.Rx.G.fewMach m = Bool.true then
        if Decidable.decide (m.2.2.2.2.2.1 = (0 : Int)) = Bool.true then
          if Go.Rx.G.goM p m = Bool.true then
            if Go.Rx.G.fewMach (Go.Rx.G.stepM p m) = Bool.true then Option.some (Go.Rx.G.stepM p m, PUnit.unit) else Option.none
          else Option.none
        else if Go.Rx.G.fewMach m = Bool.true then Option.some (m, PUnit.unit) else Option.none
      else Option.none
  else Option.none) := by kernel_rfl
theorem sfMachStep (p : Funs) (m : Mach) (h : (G.smallP p && G.fewMach m) = true) : funK cxMachStep Go.Proofs.Tryz.f6 spMachStep.ins spMachStep.out (p, m, ()) = some (G.mstep p m, ()) := by
  rw [eMachStep]
  unfold G.mstep
  have h' := h
  rw [Bool.and_eq_true] at h'
  by_cases hc : G.machOk p m = true
  · have hg := machOk_go h'.1 hc
    have f1 := goM_few hg
    have f2 := goM_few (stepM_ok hg)
    by_cases hm : m.2.2.2.2.2.1 = 0
    · simp [h, h'.1, h'.2, hc, hm, hg, f1, f2]
    · simp [h, h'.1, h'.2, hc, hm, f1]
  · simp only [Bool.not_eq_true] at hc
    simp [h, h'.1, h'.2, hc, G.formM]
theorem okMachStep : SpecOk Go.Proofs.Tryz.prog 6 spMachStep :=
  fun_okB (cx := cxMachStep) (F := Go.Proofs.Tryz.f6) (cxOk T0_ok T0_eq pm8_ok) mixed (by kernel_rfl) (by decide) (by kernel_rfl) (lps_none (by kernel_rfl)) (fun x h => sfMachStep x.1 x.2.1 h)
/-! SpMachStep -/
noncomputable abbrev spSpMachStep : Spec := ⟨[FunSP, .agg MachK], .one (.agg MachO), false, fun x => G.smallP x.1 && G.fewMach x.2.1, fun x => (G.mstep x.1 x.2.1, ())⟩
noncomputable abbrev cxSpMachStep : Cx := mkCx T0 pm8 [] [] 20
theorem eSpMachStep (p : Funs) (m : Mach) : funK cxSpMachStep Go.Proofs.Tryz.f8 spSpMachStep.ins spSpMachStep.out (p, m, ()) =
  (if (Go.Rx.G.smallP p && Go.Rx.G.fewMach m) = Bool.true then
    if (!Go.Rx.G.machOk p m) = Bool.true then Option.some (((0 : Int), (0 : Int), (0 : Int), [], [], (5 : Int), PUnit.unit), PUnit.unit)
    else
      if (!Decidable.decide (m.2.2.2.2.2.1 = (0 : Int))) = Bool.true then if Go.Rx.G.fewMach m = Bool.true then Option.some (m, PUnit.unit) else Option.none
      else
        if Go.Rx.G.fewMach m = Bool.true then
          if Go.Rx.G.goM p m = Bool.true then
            if Go.Rx.G.fewMach (Go.Rx.G.stepM p m) = Bool.true then Option.some (Go.Rx.G.stepM p m, PUnit.unit) else Option.none
          else Option.none
        else Option.none
  else Option.none) := by kernel_rfl
theorem sfSpMachStep (p : Funs) (m : Mach) (h : (G.smallP p && G.fewMach m) = true) : funK cxSpMachStep Go.Proofs.Tryz.f8 spSpMachStep.ins spSpMachStep.out (p, m, ()) = some (G.mstep p m, ()) := by
  rw [eSpMachStep]
  unfold G.mstep
  have h' := h
  rw [Bool.and_eq_true] at h'
  by_cases hc : G.machOk p m = true
  · have hg := machOk_go h'.1 hc
    have f1 := goM_few hg
    have f2 := goM_few (stepM_ok hg)
    by_cases hm : m.2.2.2.2.2.1 = 0
    · simp [h, h'.1, h'.2, hc, hm, hg, f1, f2]
    · simp [h, h'.1, h'.2, hc, hm, f1]
  · simp only [Bool.not_eq_true] at hc
    simp [h, h'.1, h'.2, hc, G.formM]
theorem okSpMachStep : SpecOk Go.Proofs.Tryz.prog 8 spSpMachStep :=
  fun_okB (cx := cxSpMachStep) (F := Go.Proofs.Tryz.f8) (cxOk T0_ok T0_eq pm8_ok) mixed (by kernel_rfl) (by decide) (by kernel_rfl) (lps_none (by kernel_rfl)) (fun x h => sfSpMachStep x.1 x.2.1 h)
noncomputable abbrev pm9 : List (Nat × List Spec) := (6, [spMachStep]) :: (8, [spSpMachStep]) :: (7, [spMachSame]) :: pm8
theorem pm9_ok : PhiOk Go.Proofs.Tryz.prog pm9 := ⟨⟨okMachStep, trivial⟩, ⟨okSpMachStep, trivial⟩, ⟨okMachSame, trivial⟩, pm8_ok⟩
end Go.Rx

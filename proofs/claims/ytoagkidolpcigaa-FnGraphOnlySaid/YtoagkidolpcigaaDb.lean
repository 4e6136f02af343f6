/-
  FUNCTIONS: which names they hold, and whether they are right.
-/
import Derived.Test.YtoagkidolpcigaaDa
namespace Go.Rx
open Go
set_option linter.unusedVariables false
set_option linter.unusedSimpArgs false
theorem idx_ge (p : Nat → Bool) (n : Nat) : decide (G.idx p n ≥ 0) = G.anyFrom n p 0 := by
  have := idx_none p n
  cases h : G.anyFrom n p 0 with
  | false => exact decide_eq_false (by have := this.2 h; omega)
  | true =>
    refine decide_eq_true ?_
    have : ¬ G.idx p n < 0 := fun e => by rw [this.1 e] at h; cases h
    omega
theorem sfContI (b : Inss) (k : Unit) (h : G.smallI b = true) : funK cxContI Go.Proofs.Try.f82 spContI.ins spContI.out (b, k, ()) = some (!G.allFrom b.length (G.insOkAt b) 0, (k, ())) := by
  rw [eContI, if_pos h, idx_ge]
  have e : G.allFrom b.length (G.insOkAt b) 0 = !G.anyFrom b.length (G.insBadAt b) 0 := by
    rw [← allFrom_not]
    unfold G.insBadAt G.insOkAt
    simp
  rw [e, Bool.not_not]
theorem okContI : SpecOk Go.Proofs.Try.prog 82 spContI :=
  fun_okB (cx := cxContI) (F := Go.Proofs.Try.f82) (cxOk T0_ok T0_eq pg19_ok) mixed (by kernel_rfl) (by decide) (by kernel_rfl) (lps_none (by kernel_rfl)) (fun x h => sfContI x.1 x.2.1 h)
theorem sfContS (l : Strs) (s : ByteArray) (h : G.few l.length = true) : funK cxContS Go.Proofs.Try.f86 spContS.ins spContS.out (l, s, ()) = some (G.hasS l s, ()) := by
  rw [eContS, if_pos h, idx_ge]
  rfl
theorem okContS : SpecOk Go.Proofs.Try.prog 86 spContS :=
  fun_okB (cx := cxContS) (F := Go.Proofs.Try.f86) (cxOk T0_ok T0_eq pg19_ok) mixed (by kernel_rfl) (by decide) (by kernel_rfl) (lps_none (by kernel_rfl)) (fun x h => sfContS x.1 x.2.1 h)
theorem sfFindIs (f : Fun) (s : ByteArray) : funK cxFindIs Go.Proofs.Try.f90 spFindIs.ins spFindIs.out (f, (s, ()), ()) = some (decide (f.1 = s), ((s, ()), ())) := by
  rw [eFindIs, strEq_iff]
theorem okFindIs : SpecOk Go.Proofs.Try.prog 90 spFindIs :=
  fun_okB (cx := cxFindIs) (F := Go.Proofs.Try.f90) (cxOk T0_ok T0_eq pg18_ok) mixed (by kernel_rfl) (by decide) (by kernel_rfl) (lps_none (by kernel_rfl)) (fun x h => sfFindIs x.1 x.2.1.1)
noncomputable abbrev pg20 : List (Nat × List Spec) := (82, [spContI]) :: (86, [spContS]) :: (90, [spFindIs]) :: pg19
theorem pg20_ok : PhiOk Go.Proofs.Try.prog pg20 := ⟨⟨okContI, trivial⟩, ⟨okContS, trivial⟩, ⟨okFindIs, trivial⟩, pg19_ok⟩
/-! IdxFL: a search -/
def G.preIdxFL (u : Funs) (s : (ByteArray × Unit) × Unit) (n : Int) (i : Int) : Bool := G.preA (u.length) i && (decide (n = ((u.length : Nat) : Int)) && (true))
theorem preIdxFL_iff {u : Funs} {s : (ByteArray × Unit) × Unit} {n : Int} {i : Int} : G.preIdxFL u s n i = true ↔ (0 ≤ i ∧ i ≤ ((u.length : Nat) : Int) ∧ (u.length : Nat) ≤ 1099511627776) ∧ n = ((u.length : Nat) : Int) ∧ true = true := by simp [G.preIdxFL, preA_iff]
def G.scIdxFL (u : Funs) (s : (ByteArray × Unit) × Unit) (i : Int) : Option (Int × Unit) := G.scan (G.hit (G.funAt u s.1.1)) (u.length) i
noncomputable abbrev lsIdxFL : LSpec := ⟨[0, 1, 7, 8, 4], [4], [FunSP, .fn 90 [[.dat .str]], IntP, IntP, IntP], [IntP], true, fun x => G.preIdxFL x.1 x.2.1 x.2.2.1 x.2.2.2.1,
  fun x => ((G.flag 1 (G.scIdxFL x.1 x.2.1 x.2.2.2.1), G.got (G.scIdxFL x.1 x.2.1 x.2.2.2.1) (x.2.2.2.2.1, ())), (x.2.1, ()))⟩
noncomputable abbrev clIdxFL : Cx := mkCx T0 pg20 [(0, lsIdxFL)] [] 19
theorem rIdxFL (u : Funs) (s : (ByteArray × Unit) × Unit) (n : Int) (i : Int) (r : Int) : roundK clIdxFL 0 (loopIn Go.Proofs.Try.f89 0) lsIdxFL (u, s, n, i, r, ()) =
  (if Decidable.decide (i < n) = Bool.true then
    if Decidable.decide ((0 : Int) ≤ i) = Bool.true then
      if Decidable.decide (i < (↑(List.length u) : Int)) = Bool.true then
        if Decidable.decide ((List.getD u (Int.toNat i) (ByteArray.empty, Bool.false, [], PUnit.unit)).1 = s.1.1) = Bool.true then
          Option.some (Go.Rx.LRes.stop (1 : Nat) (i, PUnit.unit) (s, PUnit.unit))
        else Option.some (Go.Rx.LRes.go (u, s, n, Go.IntKind.wrap Go.IntKind.i64 (i + (1 : Int)), r, PUnit.unit))
      else Option.none
    else Option.none
  else Option.some (Go.Rx.LRes.stop (0 : Nat) (r, PUnit.unit) (s, PUnit.unit))) := by kernel_rfl
noncomputable abbrev muIdxFL : PKs.den lsIdxFL.ins → Nat := fun x => (x.1.length) - x.2.2.2.1.toNat
theorem stIdxFL (u : Funs) (s : (ByteArray × Unit) × Unit) (n : Int) (i : Int) (r : Int) (h : G.preIdxFL u s n i = true) : StepOk lsIdxFL (eqInv lsIdxFL) muIdxFL (u, s, n, i, r, ()) (roundK clIdxFL 0 (loopIn Go.Proofs.Try.f89 0) lsIdxFL (u, s, n, i, r, ())) := by
  obtain ⟨⟨h0, h1, h2⟩, hn, hc⟩ := preIdxFL_iff.1 h
  subst hn
  rw [rIdxFL]
  by_cases hi : i < ((u.length : Nat) : Int)
  · have hw : IntKind.i64.wrap (i + 1) = i + 1 := w64 (by omega) (by omega)
    have hs : G.scIdxFL u s i = ((G.hit (G.funAt u s.1.1)) i.toNat).or (G.scIdxFL u s (i + 1)) := scan_step h0 (by omega)
    refine scan_stop (fl := 1) (eqInv lsIdxFL) muIdxFL (u, s, ((u.length : Nat) : Int), i + 1, r, ()) ((G.hit (G.funAt u s.1.1)) i.toNat) (s, ()) ?_ (fun ho => ⟨(show G.preIdxFL u s ((u.length : Nat) : Int) (i + 1) = true from preIdxFL_iff.2 ⟨⟨by omega, by omega, h2⟩, rfl, hc⟩), ?_, ?_⟩) (fun w ho => ?_)
    · rw [hit_match, hw, if_pos (decide_eq_true hi), if_pos (decide_eq_true h0), if_pos (decide_eq_true hi), nat_int h0]
      rfl
    · show (u.length) - (i + 1).toNat < (u.length) - i.toNat
      omega
    · show ((_, _), _) = ((_, _), _)
      simp only [hs, ho, Option.none_or]
    · show ((_, _), _) = ((_, _), _)
      simp only [hs, ho, Option.some_or]
      rfl
  · have hs : G.scIdxFL u s i = none := scan_end (by omega)
    skip
    rw [if_neg (by simpa using hi)]
    show ((_, _), _) = ((_, _), _)
    simp only [hs]
    rfl
theorem lpIdxFL : LpOk Go.Proofs.Try.prog clIdxFL.ntmps 0 (loopIn Go.Proofs.Try.f89 0) lsIdxFL :=
  lp_okB (cxOk T0_ok T0_eq pg20_ok) mixed (by kernel_rfl) (lps_none (by kernel_rfl)) (eqInv lsIdxFL) muIdxFL (fun _ h => h) (fun x h => stIdxFL x.1 x.2.1 x.2.2.1 x.2.2.2.1 x.2.2.2.2.1 h)
/-! IdxF -/
noncomputable abbrev spIdxF : Spec := ⟨[FunSP, .fn 90 [[.dat .str]]], IntR, true, fun x => G.few x.1.length, fun x => (G.find x.1 x.2.1.1.1, (x.2.1, ()))⟩
noncomputable abbrev cxIdxF : Cx := mkCx T0 pg20 [(0, lsIdxFL)] [] 19
theorem eIdxF (u : Funs) (s : (ByteArray × Unit) × Unit) : funK cxIdxF Go.Proofs.Try.f89 spIdxF.ins spIdxF.out (u, s, ()) =
  (if Go.Rx.G.preIdxFL u s (↑(List.length u) : Int) (0 : Int) = Bool.true then
    if Go.Rx.G.flag (1 : Nat) (Go.Rx.G.scIdxFL u s (0 : Int)) = (0 : Nat) then Option.some ((-1 : Int), s, PUnit.unit)
    else
      if Go.Rx.G.flag (1 : Nat) (Go.Rx.G.scIdxFL u s (0 : Int)) = (1 : Nat) then Option.some ((Go.Rx.G.got (Go.Rx.G.scIdxFL u s (0 : Int)) ((0 : Int), PUnit.unit)).1, s, PUnit.unit)
      else Option.none
  else Option.none) := by kernel_rfl
/-! FunOk -/
noncomputable abbrev spFunOk : Spec := ⟨[.agg FunK], BoolR, false, fun x => G.smallF x.1, fun x => (G.funOk x.1, ())⟩
noncomputable abbrev cxFunOk : Cx := mkCx T0 pg20 [] [] 29
theorem eFunOk (a : Fun) : funK cxFunOk Go.Proofs.Try.f44 spFunOk.ins spFunOk.out (a, ()) =
  (if Go.Rx.G.lenS a.1 = Bool.true then
    if Go.Rx.G.nameOk a.1 = Bool.true then
      if Go.Rx.G.inR (↑(List.length a.2.2.1) : Int) (1 : Int) (10 : Int) = Bool.true then
        if Go.Rx.G.smallI a.2.2.1 = Bool.true then
          if (!!Go.Rx.G.allFrom (List.length a.2.2.1) (Go.Rx.G.insOkAt a.2.2.1) (0 : Int)) = Bool.true then
            if Decidable.decide ((0 : Int) ≤ Go.IntKind.wrap Go.IntKind.i64 ((↑(List.length a.2.2.1) : Int) - (1 : Int))) = Bool.true then
              if Decidable.decide (Go.IntKind.wrap Go.IntKind.i64 ((↑(List.length a.2.2.1) : Int) - (1 : Int)) < (↑(List.length a.2.2.1) : Int)) = Bool.true then
                Option.some
                  (Go.Rx.G.last (List.getD a.2.2.1 (Int.toNat (Go.IntKind.wrap Go.IntKind.i64 ((↑(List.length a.2.2.1) : Int) - (1 : Int)))) ((0 : Int), (0 : Int), ByteArray.empty, PUnit.unit)).1, PUnit.unit)
              else Option.none
            else Option.none
          else Option.some (Bool.false, PUnit.unit)
        else Option.none
      else Option.some (Bool.false, PUnit.unit)
    else Option.some (Bool.false, PUnit.unit)
  else Option.none) := by kernel_rfl
theorem sfIdxF (u : Funs) (s : (ByteArray × Unit) × Unit) (h : G.few u.length = true) : funK cxIdxF Go.Proofs.Try.f89 spIdxF.ins spIdxF.out (u, s, ()) = some (G.find u s.1.1, (s, ())) := by
  have h := few_iff.1 h
  rw [eIdxF, if_pos (preIdxFL_iff.2 ⟨⟨by omega, by omega, h⟩, rfl, rfl⟩)]
  exact idx_end (fun i => (i, s, ())) rfl
theorem okIdxF : SpecOk Go.Proofs.Try.prog 89 spIdxF :=
  fun_okB (cx := cxIdxF) (F := Go.Proofs.Try.f89) (cxOk T0_ok T0_eq pg20_ok) mixed (by kernel_rfl) (by decide) (by kernel_rfl) (lps_of (l := [(0, loopIn Go.Proofs.Try.f89 0)]) (by kernel_rfl) ⟨lp_at lpIdxFL rfl, trivial⟩) (fun x h => sfIdxF x.1 x.2.1 h)
theorem sfFunOk (a : Fun) (h : G.smallF a = true) : funK cxFunOk Go.Proofs.Try.f44 spFunOk.ins spFunOk.out (a, ()) = some (G.funOk a, ()) := by
  obtain ⟨h1, h2, h3⟩ := smallF_iff.1 h
  rw [eFunOk, if_pos (lenS_iff.2 h1), w64 (by omega) (by omega)]
  unfold G.funOk
  cases G.nameOk a.1 with
  | false => rfl
  | true =>
    rw [if_pos rfl, Bool.true_and, Bool.not_not]
    by_cases c1 : 1 ≤ a.2.2.1.length ∧ a.2.2.1.length ≤ 10
    · rw [if_pos (inR_iff.2 (by omega)), if_pos (smallI_iff.2 ⟨h2, h3⟩), if_pos (decide_eq_true (by omega)), if_pos (decide_eq_true (by omega)), decide_eq_true c1, Bool.true_and]
      rw [insAt_eq, show ((a.2.2.1.length : Int) - 1).toNat = a.2.2.1.length - 1 by omega, show G.last (G.insAt a.2.2.1 (a.2.2.1.length - 1)).1 = G.lastOk a.2.2.1 from rfl]
      cases G.allFrom a.2.2.1.length (G.insOkAt a.2.2.1) 0 <;> rfl
    · rw [if_neg (fun e => c1 (by have := inR_iff.1 e; omega)), decide_eq_false c1]
      rfl
theorem okFunOk : SpecOk Go.Proofs.Try.prog 44 spFunOk :=
  fun_okB (cx := cxFunOk) (F := Go.Proofs.Try.f44) (cxOk T0_ok T0_eq pg20_ok) mixed (by kernel_rfl) (by decide) (by kernel_rfl) (lps_none (by kernel_rfl)) (fun x h => sfFunOk x.1 h)
/-! InsRefs -/
noncomputable abbrev spInsRefs : Spec := ⟨[.agg InsK], BoolR, false, fun x => true, fun x => (G.refs x.1.1, ())⟩
noncomputable abbrev cxInsRefs : Cx := mkCx T0 pg20 [] [] 6
theorem eInsRefs (a : Ins) : funK cxInsRefs Go.Proofs.Try.f68 spInsRefs.ins spInsRefs.out (a, ()) =
  (Option.some (Go.Rx.G.inR a.1 (3 : Int) (5 : Int), PUnit.unit)) := by kernel_rfl
theorem sfInsRefs (a : Ins) : funK cxInsRefs Go.Proofs.Try.f68 spInsRefs.ins spInsRefs.out (a, ()) = some (G.refs a.1, ()) := by
  rw [eInsRefs, refs_inR]
theorem okInsRefs : SpecOk Go.Proofs.Try.prog 68 spInsRefs :=
  fun_okB (cx := cxInsRefs) (F := Go.Proofs.Try.f68) (cxOk T0_ok T0_eq pg20_ok) mixed (by kernel_rfl) (by decide) (by kernel_rfl) (lps_none (by kernel_rfl)) (fun x h => sfInsRefs x.1)
noncomputable abbrev pg21 : List (Nat × List Spec) := (68, [spInsRefs]) :: (44, [spFunOk]) :: (89, [spIdxF]) :: pg20
theorem pg21_ok : PhiOk Go.Proofs.Try.prog pg21 := ⟨⟨okInsRefs, trivial⟩, ⟨okFunOk, trivial⟩, ⟨okIdxF, trivial⟩, pg20_ok⟩
/-! Find -/
noncomputable abbrev spFind : Spec := ⟨[FunSP, StrP], IntR, false, fun x => G.few x.1.length, fun x => (G.find x.1 x.2.1, ())⟩
noncomputable abbrev cxFind : Cx := mkCx T0 pg21 [] [] 8
theorem eFind (u : Funs) (s : ByteArray) : funK cxFind Go.Proofs.Try.f52 spFind.ins spFind.out (u, s, ()) =
  (if Go.Rx.G.few (List.length u) = Bool.true then Option.some (Go.Rx.G.find u s, PUnit.unit) else Option.none) := by kernel_rfl
theorem sfFind (u : Funs) (s : ByteArray) (h : G.few u.length = true) : funK cxFind Go.Proofs.Try.f52 spFind.ins spFind.out (u, s, ()) = some (G.find u s, ()) := by
  rw [eFind, if_pos h]
theorem okFind : SpecOk Go.Proofs.Try.prog 52 spFind :=
  fun_okB (cx := cxFind) (F := Go.Proofs.Try.f52) (cxOk T0_ok T0_eq pg21_ok) mixed (by kernel_rfl) (by decide) (by kernel_rfl) (lps_none (by kernel_rfl)) (fun x h => sfFind x.1 x.2.1 h)
noncomputable abbrev pg22 : List (Nat × List Spec) := (52, [spFind]) :: pg21
theorem pg22_ok : PhiOk Go.Proofs.Try.prog pg22 := ⟨⟨okFind, trivial⟩, pg21_ok⟩
/-! the names in a body -/
def G.refsOne (b : Inss) (out : Strs) (k : Nat) : Strs := if G.refs (G.insAt b k).1 = true then (if G.hasS out (G.insAt b k).2.2.1 = true then out else out ++ [((G.insAt b k).2.2.1, ())]) else out
theorem refsOne_len (b : Inss) (out : Strs) (k : Nat) : (G.refsOne b out k).length ≤ out.length + 1 := by
  unfold G.refsOne
  split
  · split
    · omega
    · simp
  · omega
/-! L2RefsL: a gathering -/
def G.preL2RefsL (b : Inss) (i : Int) (out : Strs) : Bool := G.preA (b.length) i && (true && decide ((out.length : Int) ≤ i))
theorem preL2RefsL_iff {b : Inss} {i : Int} {out : Strs} : G.preL2RefsL b i out = true ↔ (0 ≤ i ∧ i ≤ ((b.length : Nat) : Int) ∧ (b.length : Nat) ≤ 1099511627776) ∧ True ∧ decide ((out.length : Int) ≤ i) = true := by simp [G.preL2RefsL, preA_iff]
def G.oneL2RefsL (b : Inss) (a : Strs × Unit) (k : Nat) : Strs × Unit := (G.refsOne b a.1 k, ())
def G.fdL2RefsL (b : Inss) (i : Int) (a : Strs × Unit) : Strs × Unit := G.fold (G.oneL2RefsL b) (b.length) i a
noncomputable abbrev lsL2RefsL : LSpec := ⟨[0, 3, 4], [3], [InsSP, .c (.own strT), IntP], [.c (.own strT)], false, fun x => G.preL2RefsL x.1 x.2.2.1 x.2.1,
  fun x => ((0, G.fdL2RefsL x.1 x.2.2.1 (x.2.1, ())), ())⟩
noncomputable abbrev clL2RefsL : Cx := mkCx T0 pg22 [(0, lsL2RefsL)] [] 36
theorem rL2RefsL (b : Inss) (out : Strs) (i : Int) : roundK clL2RefsL 0 (loopIn Go.Proofs.Try.f48 0) lsL2RefsL (b, out, i, ()) =
  (if Decidable.decide (i < (↑(List.length b) : Int)) = Bool.true then
    if Decidable.decide ((0 : Int) ≤ i) = Bool.true then
      if Decidable.decide (i < (↑(List.length b) : Int)) = Bool.true then
        if Go.Rx.G.refs (List.getD b (Int.toNat i) ((0 : Int), (0 : Int), ByteArray.empty, PUnit.unit)).1 = Bool.true then
          if Decidable.decide ((0 : Int) ≤ i) = Bool.true then
            if Decidable.decide (i < (↑(List.length b) : Int)) = Bool.true then
              if Go.Rx.G.few (List.length out) = Bool.true then
                if (!Go.Rx.G.hasS out (List.getD b (Int.toNat i) ((0 : Int), (0 : Int), ByteArray.empty, PUnit.unit)).2.2.1) = Bool.true then
                  if Decidable.decide ((0 : Int) ≤ i) = Bool.true then
                    if Decidable.decide (i < (↑(List.length b) : Int)) = Bool.true then
                      if Go.Rx.okSize (16 : Nat) (List.length out + (1 : Nat)) = Bool.true then
                        Option.some
                          (Go.Rx.LRes.go
                            (b, out ++ [(List.getD b (Int.toNat i) ((0 : Int), (0 : Int), ByteArray.empty, PUnit.unit)).2.2],
                              Go.IntKind.wrap Go.IntKind.i64 (i + (1 : Int)), PUnit.unit))
                      else Option.none
                    else Option.none
                  else Option.none
                else Option.some (Go.Rx.LRes.go (b, out, Go.IntKind.wrap Go.IntKind.i64 (i + (1 : Int)), PUnit.unit))
              else Option.none
            else Option.none
          else Option.none
        else Option.some (Go.Rx.LRes.go (b, out, Go.IntKind.wrap Go.IntKind.i64 (i + (1 : Int)), PUnit.unit))
      else Option.none
    else Option.none
  else Option.some (Go.Rx.LRes.stop (0 : Nat) (out, PUnit.unit) PUnit.unit)) := by kernel_rfl
noncomputable abbrev muL2RefsL : PKs.den lsL2RefsL.ins → Nat := fun x => (x.1.length) - x.2.2.1.toNat
theorem stL2RefsL (b : Inss) (out : Strs) (i : Int) (h : G.preL2RefsL b i out = true) : StepOk lsL2RefsL (eqInv lsL2RefsL) muL2RefsL (b, out, i, ()) (roundK clL2RefsL 0 (loopIn Go.Proofs.Try.f48 0) lsL2RefsL (b, out, i, ())) := by
  obtain ⟨⟨h0, h1, h2⟩, hn, hc⟩ := preL2RefsL_iff.1 h
  rw [rL2RefsL]
  by_cases hi : i < ((b.length : Nat) : Int)
  · have hw : IntKind.i64.wrap (i + 1) = i + 1 := w64 (by omega) (by omega)
    have hs : G.fdL2RefsL b i (out, ()) = G.fdL2RefsL b (i + 1) (G.oneL2RefsL b (out, ()) i.toNat) := fold_step h0 hi
    refine fold_go (eqInv lsL2RefsL) muL2RefsL (b, (G.oneL2RefsL b (out, ()) i.toNat).1, i + 1, ()) ?_ (show G.preL2RefsL b (i + 1) (G.oneL2RefsL b (out, ()) i.toNat).1 = true from preL2RefsL_iff.2 ⟨⟨by omega, by omega, h2⟩, trivial, ?_⟩) ?_ ?_
    · have hc := of_decide_eq_true hc
      simp only [hi, h0, decide_true, if_true, hw, insAt_eq, few_iff.2 (show out.length ≤ 1099511627776 by omega), okSize_few (show 16 ≤ 64 by omega) (show out.length + 1 ≤ 1099511627777 by omega)]
      unfold G.oneL2RefsL G.refsOne
      cases G.refs (G.insAt b i.toNat).1 <;> cases G.hasS out (G.insAt b i.toNat).2.2.1 <;> rfl
    · have := refsOne_len b out i.toNat
      have hc := of_decide_eq_true hc
      exact decide_eq_true (show (((G.refsOne b out i.toNat).length : Nat) : Int) ≤ i + 1 by omega)
    · show (b.length) - (i + 1).toNat < (b.length) - i.toNat
      omega
    · show ((_, _), _) = ((_, _), _)
      simp only [hs]
  · have hs : G.fdL2RefsL b i (out, ()) = (out, ()) := fold_end (by omega)
    skip
    rw [if_neg (by simpa using hi)]
    show ((_, _), _) = ((_, _), _)
    simp only [hs]
theorem lpL2RefsL : LpOk Go.Proofs.Try.prog clL2RefsL.ntmps 0 (loopIn Go.Proofs.Try.f48 0) lsL2RefsL :=
  lp_okB (cxOk T0_ok T0_eq pg22_ok) mixed (by kernel_rfl) (lps_none (by kernel_rfl)) (eqInv lsL2RefsL) muL2RefsL (fun _ h => h) (fun x h => stL2RefsL x.1 x.2.1 x.2.2.1 h)
/-! RefsL: a gathering -/
def G.preRefsL (b : Inss) (n : Int) (i : Int) (out : Strs) : Bool := G.preA (b.length) i && (decide (n = ((b.length : Nat) : Int)) && decide ((out.length : Int) ≤ i))
theorem preRefsL_iff {b : Inss} {n : Int} {i : Int} {out : Strs} : G.preRefsL b n i out = true ↔ (0 ≤ i ∧ i ≤ ((b.length : Nat) : Int) ∧ (b.length : Nat) ≤ 1099511627776) ∧ n = ((b.length : Nat) : Int) ∧ decide ((out.length : Int) ≤ i) = true := by simp [G.preRefsL, preA_iff]
def G.oneRefsL (b : Inss) (a : Strs × Unit) (k : Nat) : Strs × Unit := (G.refsOne b a.1 k, ())
def G.fdRefsL (b : Inss) (i : Int) (a : Strs × Unit) : Strs × Unit := G.fold (G.oneRefsL b) (b.length) i a
noncomputable abbrev lsRefsL : LSpec := ⟨[3, 7, 8, 9], [3], [.c (.own strT), InsSP, IntP, IntP], [.c (.own strT)], false, fun x => G.preRefsL x.2.1 x.2.2.1 x.2.2.2.1 x.1,
  fun x => ((0, G.fdRefsL x.2.1 x.2.2.2.1 (x.1, ())), ())⟩
noncomputable abbrev clRefsL : Cx := mkCx T0 pg22 [(0, lsRefsL)] [] 29
theorem rRefsL (out : Strs) (b : Inss) (n : Int) (i : Int) : roundK clRefsL 0 (loopIn Go.Proofs.Try.f45 0) lsRefsL (out, b, n, i, ()) =
  (if Decidable.decide (i < n) = Bool.true then
    if Decidable.decide ((0 : Int) ≤ i) = Bool.true then
      if Decidable.decide (i < (↑(List.length b) : Int)) = Bool.true then
        if Go.Rx.G.refs (List.getD b (Int.toNat i) ((0 : Int), (0 : Int), ByteArray.empty, PUnit.unit)).1 = Bool.true then
          if Go.Rx.G.few (List.length out) = Bool.true then
            if (!Go.Rx.G.hasS out (List.getD b (Int.toNat i) ((0 : Int), (0 : Int), ByteArray.empty, PUnit.unit)).2.2.1) = Bool.true then
              if Go.Rx.okSize (16 : Nat) (List.length out + (1 : Nat)) = Bool.true then
                Option.some
                  (Go.Rx.LRes.go
                    (out ++ [(List.getD b (Int.toNat i) ((0 : Int), (0 : Int), ByteArray.empty, PUnit.unit)).2.2], b, n,
                      Go.IntKind.wrap Go.IntKind.i64 (i + (1 : Int)), PUnit.unit))
              else Option.none
            else Option.some (Go.Rx.LRes.go (out, b, n, Go.IntKind.wrap Go.IntKind.i64 (i + (1 : Int)), PUnit.unit))
          else Option.none
        else Option.some (Go.Rx.LRes.go (out, b, n, Go.IntKind.wrap Go.IntKind.i64 (i + (1 : Int)), PUnit.unit))
      else Option.none
    else Option.none
  else Option.some (Go.Rx.LRes.stop (0 : Nat) (out, PUnit.unit) PUnit.unit)) := by kernel_rfl
noncomputable abbrev muRefsL : PKs.den lsRefsL.ins → Nat := fun x => (x.2.1.length) - x.2.2.2.1.toNat
theorem stRefsL (out : Strs) (b : Inss) (n : Int) (i : Int) (h : G.preRefsL b n i out = true) : StepOk lsRefsL (eqInv lsRefsL) muRefsL (out, b, n, i, ()) (roundK clRefsL 0 (loopIn Go.Proofs.Try.f45 0) lsRefsL (out, b, n, i, ())) := by
  obtain ⟨⟨h0, h1, h2⟩, hn, hc⟩ := preRefsL_iff.1 h
  subst hn
  rw [rRefsL]
  by_cases hi : i < ((b.length : Nat) : Int)
  · have hw : IntKind.i64.wrap (i + 1) = i + 1 := w64 (by omega) (by omega)
    have hs : G.fdRefsL b i (out, ()) = G.fdRefsL b (i + 1) (G.oneRefsL b (out, ()) i.toNat) := fold_step h0 hi
    refine fold_go (eqInv lsRefsL) muRefsL ((G.oneRefsL b (out, ()) i.toNat).1, b, ((b.length : Nat) : Int), i + 1, ()) ?_ (show G.preRefsL b ((b.length : Nat) : Int) (i + 1) (G.oneRefsL b (out, ()) i.toNat).1 = true from preRefsL_iff.2 ⟨⟨by omega, by omega, h2⟩, rfl, ?_⟩) ?_ ?_
    · have hc := of_decide_eq_true hc
      simp only [hi, h0, decide_true, if_true, hw, insAt_eq, few_iff.2 (show out.length ≤ 1099511627776 by omega), okSize_few (show 16 ≤ 64 by omega) (show out.length + 1 ≤ 1099511627777 by omega)]
      unfold G.oneRefsL G.refsOne
      cases G.refs (G.insAt b i.toNat).1 <;> cases G.hasS out (G.insAt b i.toNat).2.2.1 <;> rfl
    · have := refsOne_len b out i.toNat
      have hc := of_decide_eq_true hc
      exact decide_eq_true (show (((G.refsOne b out i.toNat).length : Nat) : Int) ≤ i + 1 by omega)
    · show (b.length) - (i + 1).toNat < (b.length) - i.toNat
      omega
    · show ((_, _), _) = ((_, _), _)
      simp only [hs]
  · have hs : G.fdRefsL b i (out, ()) = (out, ()) := fold_end (by omega)
    skip
    rw [if_neg (by simpa using hi)]
    show ((_, _), _) = ((_, _), _)
    simp only [hs]
theorem lpRefsL : LpOk Go.Proofs.Try.prog clRefsL.ntmps 0 (loopIn Go.Proofs.Try.f45 0) lsRefsL :=
  lp_okB (cxOk T0_ok T0_eq pg22_ok) mixed (by kernel_rfl) (lps_none (by kernel_rfl)) (eqInv lsRefsL) muRefsL (fun _ h => h) (fun x h => stRefsL x.1 x.2.1 x.2.2.1 x.2.2.2.1 h)
def G.refsOf (b : Inss) : Strs := G.fold (G.refsOne b) b.length 0 []
theorem fold_unit {α : Type} (f : α → Nat → α) (n : Nat) (i : Int) (a : α) : G.fold (fun (q : α × Unit) k => (f q.1 k, ())) n i (a, ()) = (G.fold f n i a, ()) := by
  unfold G.fold
  generalize List.range' i.toNat (n - i.toNat) = l
  induction l generalizing a with
  | nil => rfl
  | cons x r ih => exact ih _
/-! L2Refs -/
noncomputable abbrev spL2Refs : Spec := ⟨[InsSP], .one (.c (.own strT)), false, fun x => G.few x.1.length, fun x => (G.refsOf x.1, ())⟩
noncomputable abbrev cxL2Refs : Cx := mkCx T0 pg22 [(0, lsL2RefsL)] [] 36
theorem eL2Refs (b : Inss) : funK cxL2Refs Go.Proofs.Try.f48 spL2Refs.ins spL2Refs.out (b, ()) =
  (if Go.Rx.G.preL2RefsL b (0 : Int) [] = Bool.true then Option.some (Go.Rx.G.fdL2RefsL b (0 : Int) ([], PUnit.unit)) else Option.none) := by kernel_rfl
theorem sfL2Refs (b : Inss) (h : G.few b.length = true) : funK cxL2Refs Go.Proofs.Try.f48 spL2Refs.ins spL2Refs.out (b, ()) = some (G.refsOf b, ()) := by
  have h := few_iff.1 h
  rw [eL2Refs, if_pos (preL2RefsL_iff.2 ⟨⟨by omega, by omega, h⟩, trivial, rfl⟩)]
  exact congrArg some (fold_unit _ _ _ _)
theorem okL2Refs : SpecOk Go.Proofs.Try.prog 48 spL2Refs :=
  fun_okB (cx := cxL2Refs) (F := Go.Proofs.Try.f48) (cxOk T0_ok T0_eq pg22_ok) mixed (by kernel_rfl) (by decide) (by kernel_rfl) (lps_of (l := [(0, loopIn Go.Proofs.Try.f48 0)]) (by kernel_rfl) ⟨lp_at lpL2RefsL rfl, trivial⟩) (fun x h => sfL2Refs x.1 h)
/-! Refs -/
noncomputable abbrev spRefs : Spec := ⟨[.agg FunK], .one (.c (.own strT)), false, fun x => G.few x.1.2.2.1.length, fun x => (G.refsOf x.1.2.2.1, ())⟩
noncomputable abbrev cxRefs : Cx := mkCx T0 pg22 [(0, lsRefsL)] [] 29
theorem eRefs (a : Fun) : funK cxRefs Go.Proofs.Try.f45 spRefs.ins spRefs.out (a, ()) =
  (if Go.Rx.G.preRefsL a.2.2.1 (↑(List.length a.2.2.1) : Int) (0 : Int) [] = Bool.true then Option.some (Go.Rx.G.fdRefsL a.2.2.1 (0 : Int) ([], PUnit.unit)) else Option.none) := by kernel_rfl
theorem sfRefs (a : Fun) (h : G.few a.2.2.1.length = true) : funK cxRefs Go.Proofs.Try.f45 spRefs.ins spRefs.out (a, ()) = some (G.refsOf a.2.2.1, ()) := by
  have h := few_iff.1 h
  rw [eRefs, if_pos (preRefsL_iff.2 ⟨⟨by omega, by omega, h⟩, rfl, rfl⟩)]
  exact congrArg some (fold_unit _ _ _ _)
theorem okRefs : SpecOk Go.Proofs.Try.prog 45 spRefs :=
  fun_okB (cx := cxRefs) (F := Go.Proofs.Try.f45) (cxOk T0_ok T0_eq pg22_ok) mixed (by kernel_rfl) (by decide) (by kernel_rfl) (lps_of (l := [(0, loopIn Go.Proofs.Try.f45 0)]) (by kernel_rfl) ⟨lp_at lpRefsL rfl, trivial⟩) (fun x h => sfRefs x.1 h)
noncomputable abbrev pg23 : List (Nat × List Spec) := (48, [spL2Refs]) :: (45, [spRefs]) :: pg22
theorem pg23_ok : PhiOk Go.Proofs.Try.prog pg23 := ⟨⟨okL2Refs, trivial⟩, ⟨okRefs, trivial⟩, pg22_ok⟩
/-! programs -/
def G.pAt (p : Funs) (k : Nat) : Fun := p.getD k (ByteArray.empty, false, [], ())
def G.smallP (p : Funs) : Bool := G.few p.length && p.all G.smallF
def G.okAt (p : Funs) (k : Nat) : Bool := G.funOk (G.pAt p k) && decide (G.find p (G.pAt p k).1 = (k : Int))
def G.sAt (l : Strs) (k : Nat) : ByteArray := (l.getD k (ByteArray.empty, ())).1
def G.knownAt (p : Funs) (l : Strs) (k : Nat) : Bool := !decide (G.find p (G.sAt l k) < 0)
def G.known (p : Funs) (l : Strs) : Bool := G.allFrom l.length (G.knownAt p l) 0
def G.closedAt (p : Funs) (k : Nat) : Bool := G.known p (G.refsOf (G.pAt p k).2.2.1)
theorem pAt_eq (p : Funs) (i : Int) : p.getD i.toNat (ByteArray.empty, false, [], ()) = G.pAt p i.toNat := rfl
theorem sAt_eq (l : Strs) (i : Int) : (l.getD i.toNat (ByteArray.empty, ())).1 = G.sAt l i.toNat := rfl
theorem smallF_at {p : Funs} (h : p.all G.smallF = true) {k : Nat} (hk : k < p.length) : G.smallF (G.pAt p k) = true := all_getD _ h hk
theorem foldl_len {α : Type} {f : List α → Nat → List α} (hf : ∀ a k, (f a k).length ≤ a.length + 1) : ∀ (l : List Nat) (a : List α), (l.foldl f a).length ≤ a.length + l.length
  | [], a => by simp
  | x :: r, a => by
    have h1 := hf a x
    have h2 := foldl_len hf r (f a x)
    simp only [List.foldl_cons, List.length_cons]
    omega
theorem fold_len {α : Type} {f : List α → Nat → List α} (hf : ∀ a k, (f a k).length ≤ a.length + 1) (n : Nat) (a : List α) : (G.fold f n 0 a).length ≤ a.length + n := by
  have := foldl_len hf (List.range' (0 : Int).toNat (n - (0 : Int).toNat)) a
  unfold G.fold
  rw [List.length_range'] at this
  exact this
theorem refsOf_len (b : Inss) : (G.refsOf b).length ≤ b.length := by
  have := fold_len (refsOne_len b) b.length []
  unfold G.refsOf
  simpa using this
/-! KeepL4: a search -/
def G.preKeepL4 (p : Funs) (l : Strs) (i : Int) : Bool := G.preA (l.length) i && (true && (G.few p.length))
theorem preKeepL4_iff {p : Funs} {l : Strs} {i : Int} : G.preKeepL4 p l i = true ↔ (0 ≤ i ∧ i ≤ ((l.length : Nat) : Int) ∧ (l.length : Nat) ≤ 1099511627776) ∧ True ∧ G.few p.length = true := by simp [G.preKeepL4, preA_iff]
def G.scKeepL4 (p : Funs) (l : Strs) (i : Int) : Option (Bool × Unit) := G.scan (G.bad (G.knownAt p l)) (l.length) i
noncomputable abbrev lsKeepL4 : LSpec := ⟨[0, 5, 6, 2], [2], [FunSP, StrSP, IntP, BoolP], [BoolP], false, fun x => G.preKeepL4 x.1 x.2.1 x.2.2.1,
  fun x => ((G.flag 1 (G.scKeepL4 x.1 x.2.1 x.2.2.1), G.got (G.scKeepL4 x.1 x.2.1 x.2.2.1) (x.2.2.2.1, ())), ())⟩
noncomputable abbrev clKeepL4 : Cx := mkCx T0 pg23 [(4, lsKeepL4)] [] 63
theorem rKeepL4 (p : Funs) (l : Strs) (i : Int) (r : Bool) : roundK clKeepL4 4 (loopIn Go.Proofs.Try.f20 4) lsKeepL4 (p, l, i, r, ()) =
  (if Decidable.decide (i < (↑(List.length l) : Int)) = Bool.true then
    if Decidable.decide ((0 : Int) ≤ i) = Bool.true then
      if Decidable.decide (i < (↑(List.length l) : Int)) = Bool.true then
        if Go.Rx.G.few (List.length p) = Bool.true then
          if Decidable.decide (Go.Rx.G.find p (List.getD l (Int.toNat i) (ByteArray.empty, PUnit.unit)).1 < (0 : Int)) = Bool.true then
            Option.some (Go.Rx.LRes.stop (1 : Nat) (Bool.false, PUnit.unit) PUnit.unit)
          else Option.some (Go.Rx.LRes.go (p, l, Go.IntKind.wrap Go.IntKind.i64 (i + (1 : Int)), r, PUnit.unit))
        else Option.none
      else Option.none
    else Option.none
  else Option.some (Go.Rx.LRes.stop (0 : Nat) (r, PUnit.unit) PUnit.unit)) := by kernel_rfl
noncomputable abbrev muKeepL4 : PKs.den lsKeepL4.ins → Nat := fun x => (x.2.1.length) - x.2.2.1.toNat
theorem stKeepL4 (p : Funs) (l : Strs) (i : Int) (r : Bool) (h : G.preKeepL4 p l i = true) : StepOk lsKeepL4 (eqInv lsKeepL4) muKeepL4 (p, l, i, r, ()) (roundK clKeepL4 4 (loopIn Go.Proofs.Try.f20 4) lsKeepL4 (p, l, i, r, ())) := by
  obtain ⟨⟨h0, h1, h2⟩, hn, hc⟩ := preKeepL4_iff.1 h
  rw [rKeepL4]
  by_cases hi : i < ((l.length : Nat) : Int)
  · have hw : IntKind.i64.wrap (i + 1) = i + 1 := w64 (by omega) (by omega)
    have hs : G.scKeepL4 p l i = ((G.bad (G.knownAt p l)) i.toNat).or (G.scKeepL4 p l (i + 1)) := scan_step h0 (by omega)
    refine scan_stop (fl := 1) (eqInv lsKeepL4) muKeepL4 (p, l, i + 1, r, ()) ((G.bad (G.knownAt p l)) i.toNat) () ?_ (fun ho => ⟨(show G.preKeepL4 p l (i + 1) = true from preKeepL4_iff.2 ⟨⟨by omega, by omega, h2⟩, trivial, hc⟩), ?_, ?_⟩) (fun w ho => ?_)
    · rw [bad_match, hw, if_pos (decide_eq_true hi), if_pos (decide_eq_true h0), if_pos (decide_eq_true hi), if_pos hc, sAt_eq]
      unfold G.knownAt
      cases decide (G.find p (G.sAt l i.toNat) < 0) <;> rfl
    · show (l.length) - (i + 1).toNat < (l.length) - i.toNat
      omega
    · show ((_, _), _) = ((_, _), _)
      simp only [hs, ho, Option.none_or]
    · show ((_, _), _) = ((_, _), _)
      simp only [hs, ho, Option.some_or]
      rfl
  · have hs : G.scKeepL4 p l i = none := scan_end (by omega)
    skip
    rw [if_neg (by simpa using hi)]
    show ((_, _), _) = ((_, _), _)
    simp only [hs]
    rfl
theorem lpKeepL4 : LpOk Go.Proofs.Try.prog clKeepL4.ntmps 4 (loopIn Go.Proofs.Try.f20 4) lsKeepL4 :=
  lp_okB (cxOk T0_ok T0_eq pg23_ok) mixed (by kernel_rfl) (lps_none (by kernel_rfl)) (eqInv lsKeepL4) muKeepL4 (fun _ h => h) (fun x h => stKeepL4 x.1 x.2.1 x.2.2.1 x.2.2.2.1 h)
/-! KeepL2: a search -/
def G.preKeepL2 (p : Funs) (i : Int) : Bool := G.preA (p.length) i && (true && (p.all G.smallF))
theorem preKeepL2_iff {p : Funs} {i : Int} : G.preKeepL2 p i = true ↔ (0 ≤ i ∧ i ≤ ((p.length : Nat) : Int) ∧ (p.length : Nat) ≤ 1099511627776) ∧ True ∧ p.all G.smallF = true := by simp [G.preKeepL2, preA_iff]
def G.scKeepL2 (p : Funs) (i : Int) : Option (Bool × Unit) := G.scan (G.bad (G.closedAt p)) (p.length) i
noncomputable abbrev lsKeepL2 : LSpec := ⟨[0, 4, 2], [2], [FunSP, IntP, BoolP], [BoolP], false, fun x => G.preKeepL2 x.1 x.2.1,
  fun x => ((G.flag 1 (G.scKeepL2 x.1 x.2.1), G.got (G.scKeepL2 x.1 x.2.1) (x.2.2.1, ())), ())⟩
noncomputable abbrev clKeepL2 : Cx := mkCx T0 pg23 [(4, lsKeepL4), (2, lsKeepL2)] [] 63
theorem rKeepL2 (p : Funs) (i : Int) (r : Bool) : roundK clKeepL2 2 (loopIn Go.Proofs.Try.f20 2) lsKeepL2 (p, i, r, ()) =
  (if Decidable.decide (i < (↑(List.length p) : Int)) = Bool.true then
    if Decidable.decide ((0 : Int) ≤ i) = Bool.true then
      if Decidable.decide (i < (↑(List.length p) : Int)) = Bool.true then
        if Go.Rx.G.few (List.length (List.getD p (Int.toNat i) (ByteArray.empty, Bool.false, [], PUnit.unit)).2.2.1) = Bool.true then
          if Go.Rx.G.preKeepL4 p (Go.Rx.G.refsOf (List.getD p (Int.toNat i) (ByteArray.empty, Bool.false, [], PUnit.unit)).2.2.1) (0 : Int) = Bool.true then
            if Go.Rx.G.flag (1 : Nat) (Go.Rx.G.scKeepL4 p (Go.Rx.G.refsOf (List.getD p (Int.toNat i) (ByteArray.empty, Bool.false, [], PUnit.unit)).2.2.1) (0 : Int)) = (0 : Nat) then
              Option.some
                (Go.Rx.LRes.go
                  (p, Go.IntKind.wrap Go.IntKind.i64 (i + (1 : Int)),
                    Go.Rx.G.got (Go.Rx.G.scKeepL4 p (Go.Rx.G.refsOf (List.getD p (Int.toNat i) (ByteArray.empty, Bool.false, [], PUnit.unit)).2.2.1) (0 : Int)) (r, PUnit.unit)))
            else
              if Go.Rx.G.flag (1 : Nat) (Go.Rx.G.scKeepL4 p (Go.Rx.G.refsOf (List.getD p (Int.toNat i) (ByteArray.empty, Bool.false, [], PUnit.unit)).2.2.1) (0 : Int)) = (1 : Nat) then
                Option.some
                  (Go.Rx.LRes.stop (1 : Nat)
                    (Go.Rx.G.got (Go.Rx.G.scKeepL4 p (Go.Rx.G.refsOf (List.getD p (Int.toNat i) (ByteArray.empty, Bool.false, [], PUnit.unit)).2.2.1) (0 : Int)) (r, PUnit.unit))
                    PUnit.unit)
              else
                bif
                    Nat.beq (Go.Rx.G.flag (1 : Nat) (Go.Rx.G.scKeepL4 p (Go.Rx.G.refsOf (List.getD p (Int.toNat i) (ByteArray.empty, Bool.false, [], PUnit.unit)).2.2.1) (0 : Int)) - (2 : Nat))
                      (3 : Nat) then
                  Option.some
                    (Go.Rx.LRes.go
                      (p, Go.IntKind.wrap Go.IntKind.i64 (i + (1 : Int)),
                        Go.Rx.G.got (Go.Rx.G.scKeepL4 p (Go.Rx.G.refsOf (List.getD p (Int.toNat i) (ByteArray.empty, Bool.false, [], PUnit.unit)).2.2.1) (0 : Int)) (r, PUnit.unit)))
                else
                  bif
                      Nat.beq (Go.Rx.G.flag (1 : Nat) (Go.Rx.G.scKeepL4 p (Go.Rx.G.refsOf (List.getD p (Int.toNat i) (ByteArray.empty, Bool.false, [], PUnit.unit)).2.2.1) (0 : Int)) - (2 : Nat))
                        (2 : Nat) then
                    Option.some
                      (Go.Rx.LRes.stop (0 : Nat)
                        (Go.Rx.G.got (Go.Rx.G.scKeepL4 p (Go.Rx.G.refsOf (List.getD p (Int.toNat i) (ByteArray.empty, Bool.false, [], PUnit.unit)).2.2.1) (0 : Int)) (r, PUnit.unit))
                        PUnit.unit)
                  else
                    Option.some
                      (Go.Rx.LRes.stop
                        (Go.Rx.G.flag (1 : Nat) (Go.Rx.G.scKeepL4 p (Go.Rx.G.refsOf (List.getD p (Int.toNat i) (ByteArray.empty, Bool.false, [], PUnit.unit)).2.2.1) (0 : Int)) - (2 : Nat) + (2 : Nat))
                        (Go.Rx.G.got (Go.Rx.G.scKeepL4 p (Go.Rx.G.refsOf (List.getD p (Int.toNat i) (ByteArray.empty, Bool.false, [], PUnit.unit)).2.2.1) (0 : Int)) (r, PUnit.unit))
                        PUnit.unit)
          else Option.none
        else Option.none
      else Option.none
    else Option.none
  else Option.some (Go.Rx.LRes.stop (0 : Nat) (r, PUnit.unit) PUnit.unit)) := by kernel_rfl
noncomputable abbrev muKeepL2 : PKs.den lsKeepL2.ins → Nat := fun x => (x.1.length) - x.2.1.toNat
theorem stKeepL2 (p : Funs) (i : Int) (r : Bool) (h : G.preKeepL2 p i = true) : StepOk lsKeepL2 (eqInv lsKeepL2) muKeepL2 (p, i, r, ()) (roundK clKeepL2 2 (loopIn Go.Proofs.Try.f20 2) lsKeepL2 (p, i, r, ())) := by
  obtain ⟨⟨h0, h1, h2⟩, hn, hc⟩ := preKeepL2_iff.1 h
  rw [rKeepL2]
  by_cases hi : i < ((p.length : Nat) : Int)
  · have hw : IntKind.i64.wrap (i + 1) = i + 1 := w64 (by omega) (by omega)
    have hs : G.scKeepL2 p i = ((G.bad (G.closedAt p)) i.toNat).or (G.scKeepL2 p (i + 1)) := scan_step h0 (by omega)
    refine scan_stop (fl := 1) (eqInv lsKeepL2) muKeepL2 (p, i + 1, r, ()) ((G.bad (G.closedAt p)) i.toNat) () ?_ (fun ho => ⟨(show G.preKeepL2 p (i + 1) = true from preKeepL2_iff.2 ⟨⟨by omega, by omega, h2⟩, trivial, hc⟩), ?_, ?_⟩) (fun w ho => ?_)
    · have hf := (smallF_iff.1 (smallF_at hc (show i.toNat < p.length by omega))).2.1
      have hr := refsOf_len (G.pAt p i.toNat).2.2.1
      rw [bad_match, hw, if_pos (decide_eq_true hi), if_pos (decide_eq_true h0), if_pos (decide_eq_true hi), pAt_eq, if_pos (few_iff.2 hf), if_pos (preKeepL4_iff.2 ⟨⟨by omega, by omega, by omega⟩, trivial, few_iff.2 h2⟩), show G.scKeepL4 p (G.refsOf (G.pAt p i.toNat).2.2.1) 0 = _ from scan_bad _ _ _]
      unfold G.closedAt G.known
      cases G.allFrom (G.refsOf (G.pAt p i.toNat).2.2.1).length (G.knownAt p (G.refsOf (G.pAt p i.toNat).2.2.1)) 0 <;> rfl
    · show (p.length) - (i + 1).toNat < (p.length) - i.toNat
      omega
    · show ((_, _), _) = ((_, _), _)
      simp only [hs, ho, Option.none_or]
    · show ((_, _), _) = ((_, _), _)
      simp only [hs, ho, Option.some_or]
      rfl
  · have hs : G.scKeepL2 p i = none := scan_end (by omega)
    skip
    rw [if_neg (by simpa using hi)]
    show ((_, _), _) = ((_, _), _)
    simp only [hs]
    rfl
theorem lpKeepL2 : LpOk Go.Proofs.Try.prog clKeepL2.ntmps 2 (loopIn Go.Proofs.Try.f20 2) lsKeepL2 :=
  lp_okB (cxOk T0_ok T0_eq pg23_ok) mixed (by kernel_rfl) (lps_of (l := [(4, loopIn Go.Proofs.Try.f20 4)]) (by kernel_rfl) ⟨lp_at lpKeepL4 rfl, trivial⟩) (eqInv lsKeepL2) muKeepL2 (fun _ h => h) (fun x h => stKeepL2 x.1 x.2.1 x.2.2.1 h)
/-! KeepL0: a search -/
def G.preKeepL0 (p : Funs) (i : Int) : Bool := G.preA (p.length) i && (true && (p.all G.smallF))
theorem preKeepL0_iff {p : Funs} {i : Int} : G.preKeepL0 p i = true ↔ (0 ≤ i ∧ i ≤ ((p.length : Nat) : Int) ∧ (p.length : Nat) ≤ 1099511627776) ∧ True ∧ p.all G.smallF = true := by simp [G.preKeepL0, preA_iff]
def G.scKeepL0 (p : Funs) (i : Int) : Option (Bool × Unit) := G.scan (G.bad (G.okAt p)) (p.length) i
noncomputable abbrev lsKeepL0 : LSpec := ⟨[0, 3, 2], [2], [FunSP, IntP, BoolP], [BoolP], true, fun x => G.preKeepL0 x.1 x.2.1,
  fun x => ((G.flag 1 (G.scKeepL0 x.1 x.2.1), G.got (G.scKeepL0 x.1 x.2.1) (x.2.2.1, ())), ())⟩
noncomputable abbrev clKeepL0 : Cx := mkCx T0 pg23 [(0, lsKeepL0)] [] 63
theorem rKeepL0 (p : Funs) (i : Int) (r : Bool) : roundK clKeepL0 0 (loopIn Go.Proofs.Try.f20 0) lsKeepL0 (p, i, r, ()) =
  (if Decidable.decide (i < (↑(List.length p) : Int)) = Bool.true then
    if Decidable.decide ((0 : Int) ≤ i) = Bool.true then
      if Decidable.decide (i < (↑(List.length p) : Int)) = Bool.true then
        if Go.Rx.G.smallF (List.getD p (Int.toNat i) (ByteArray.empty, Bool.false, [], PUnit.unit)) = Bool.true then
          if (!Go.Rx.G.funOk (List.getD p (Int.toNat i) (ByteArray.empty, Bool.false, [], PUnit.unit))) = Bool.false then
            if Decidable.decide ((0 : Int) ≤ i) = Bool.true then
              if Decidable.decide (i < (↑(List.length p) : Int)) = Bool.true then
                if Go.Rx.G.few (List.length p) = Bool.true then
                  if (!Decidable.decide (Go.Rx.G.find p (List.getD p (Int.toNat i) (ByteArray.empty, Bool.false, [], PUnit.unit)).1 = i)) = Bool.true then
                    Option.some (Go.Rx.LRes.stop (1 : Nat) (Bool.false, PUnit.unit) PUnit.unit)
                  else Option.some (Go.Rx.LRes.go (p, Go.IntKind.wrap Go.IntKind.i64 (i + (1 : Int)), r, PUnit.unit))
                else Option.none
              else Option.none
            else Option.none
          else Option.some (Go.Rx.LRes.stop (1 : Nat) (Bool.false, PUnit.unit) PUnit.unit)
        else Option.none
      else Option.none
    else Option.none
  else Option.some (Go.Rx.LRes.stop (0 : Nat) (r, PUnit.unit) PUnit.unit)) := by kernel_rfl
noncomputable abbrev muKeepL0 : PKs.den lsKeepL0.ins → Nat := fun x => (x.1.length) - x.2.1.toNat
theorem stKeepL0 (p : Funs) (i : Int) (r : Bool) (h : G.preKeepL0 p i = true) : StepOk lsKeepL0 (eqInv lsKeepL0) muKeepL0 (p, i, r, ()) (roundK clKeepL0 0 (loopIn Go.Proofs.Try.f20 0) lsKeepL0 (p, i, r, ())) := by
  obtain ⟨⟨h0, h1, h2⟩, hn, hc⟩ := preKeepL0_iff.1 h
  rw [rKeepL0]
  by_cases hi : i < ((p.length : Nat) : Int)
  · have hw : IntKind.i64.wrap (i + 1) = i + 1 := w64 (by omega) (by omega)
    have hs : G.scKeepL0 p i = ((G.bad (G.okAt p)) i.toNat).or (G.scKeepL0 p (i + 1)) := scan_step h0 (by omega)
    refine scan_stop (fl := 1) (eqInv lsKeepL0) muKeepL0 (p, i + 1, r, ()) ((G.bad (G.okAt p)) i.toNat) () ?_ (fun ho => ⟨(show G.preKeepL0 p (i + 1) = true from preKeepL0_iff.2 ⟨⟨by omega, by omega, h2⟩, trivial, hc⟩), ?_, ?_⟩) (fun w ho => ?_)
    · rw [bad_match, hw, if_pos (decide_eq_true hi), if_pos (decide_eq_true h0), if_pos (decide_eq_true hi), pAt_eq, if_pos (smallF_at hc (show i.toNat < p.length by omega)), if_pos (decide_eq_true h0), if_pos (decide_eq_true hi), if_pos (few_iff.2 h2)]
      unfold G.okAt
      rw [nat_int h0]
      cases G.funOk (G.pAt p i.toNat) <;> cases decide (G.find p (G.pAt p i.toNat).1 = i) <;> rfl
    · show (p.length) - (i + 1).toNat < (p.length) - i.toNat
      omega
    · show ((_, _), _) = ((_, _), _)
      simp only [hs, ho, Option.none_or]
    · show ((_, _), _) = ((_, _), _)
      simp only [hs, ho, Option.some_or]
      rfl
  · have hs : G.scKeepL0 p i = none := scan_end (by omega)
    skip
    rw [if_neg (by simpa using hi)]
    show ((_, _), _) = ((_, _), _)
    simp only [hs]
    rfl
theorem lpKeepL0 : LpOk Go.Proofs.Try.prog clKeepL0.ntmps 0 (loopIn Go.Proofs.Try.f20 0) lsKeepL0 :=
  lp_okB (cxOk T0_ok T0_eq pg23_ok) mixed (by kernel_rfl) (lps_none (by kernel_rfl)) (eqInv lsKeepL0) muKeepL0 (fun _ h => h) (fun x h => stKeepL0 x.1 x.2.1 x.2.2.1 h)
/-! FunsOkL: a search -/
def G.preFunsOkL (p : Funs) (q : Funs) (n : Int) (i : Int) : Bool := G.preA (q.length) i && (decide (n = ((q.length : Nat) : Int)) && ((decide (p = q) && q.all G.smallF)))
theorem preFunsOkL_iff {p : Funs} {q : Funs} {n : Int} {i : Int} : G.preFunsOkL p q n i = true ↔ (0 ≤ i ∧ i ≤ ((q.length : Nat) : Int) ∧ (q.length : Nat) ≤ 1099511627776) ∧ n = ((q.length : Nat) : Int) ∧ (decide (p = q) && q.all G.smallF) = true := by simp [G.preFunsOkL, preA_iff]
def G.scFunsOkL (p : Funs) (q : Funs) (i : Int) : Option (Bool × Unit) := G.scan (G.bad (G.okAt q)) (q.length) i
noncomputable abbrev lsFunsOkL : LSpec := ⟨[0, 5, 6, 7, 2], [2], [FunSP, FunSP, IntP, IntP, BoolP], [BoolP], false, fun x => G.preFunsOkL x.1 x.2.1 x.2.2.1 x.2.2.2.1,
  fun x => ((G.flag 1 (G.scFunsOkL x.1 x.2.1 x.2.2.2.1), G.got (G.scFunsOkL x.1 x.2.1 x.2.2.2.1) (x.2.2.2.2.1, ())), ())⟩
noncomputable abbrev clFunsOkL : Cx := mkCx T0 pg23 [(0, lsFunsOkL)] [] 24
theorem rFunsOkL (p : Funs) (q : Funs) (n : Int) (i : Int) (r : Bool) : roundK clFunsOkL 0 (loopIn Go.Proofs.Try.f58 0) lsFunsOkL (p, q, n, i, r, ()) =
  (if Decidable.decide (i < n) = Bool.true then
    if Decidable.decide ((0 : Int) ≤ i) = Bool.true then
      if Decidable.decide (i < (↑(List.length q) : Int)) = Bool.true then
        if Go.Rx.G.smallF (List.getD q (Int.toNat i) (ByteArray.empty, Bool.false, [], PUnit.unit)) = Bool.true then
          if (!Go.Rx.G.funOk (List.getD q (Int.toNat i) (ByteArray.empty, Bool.false, [], PUnit.unit))) = Bool.false then
            if Go.Rx.G.few (List.length p) = Bool.true then
              if (!Decidable.decide (Go.Rx.G.find p (List.getD q (Int.toNat i) (ByteArray.empty, Bool.false, [], PUnit.unit)).1 = i)) = Bool.true then
                Option.some (Go.Rx.LRes.stop (1 : Nat) (Bool.false, PUnit.unit) PUnit.unit)
              else Option.some (Go.Rx.LRes.go (p, q, n, Go.IntKind.wrap Go.IntKind.i64 (i + (1 : Int)), r, PUnit.unit))
            else Option.none
          else Option.some (Go.Rx.LRes.stop (1 : Nat) (Bool.false, PUnit.unit) PUnit.unit)
        else Option.none
      else Option.none
    else Option.none
  else Option.some (Go.Rx.LRes.stop (0 : Nat) (r, PUnit.unit) PUnit.unit)) := by kernel_rfl
noncomputable abbrev muFunsOkL : PKs.den lsFunsOkL.ins → Nat := fun x => (x.2.1.length) - x.2.2.2.1.toNat
theorem stFunsOkL (p : Funs) (q : Funs) (n : Int) (i : Int) (r : Bool) (h : G.preFunsOkL p q n i = true) : StepOk lsFunsOkL (eqInv lsFunsOkL) muFunsOkL (p, q, n, i, r, ()) (roundK clFunsOkL 0 (loopIn Go.Proofs.Try.f58 0) lsFunsOkL (p, q, n, i, r, ())) := by
  obtain ⟨⟨h0, h1, h2⟩, hn, hc⟩ := preFunsOkL_iff.1 h
  subst hn
  rw [rFunsOkL]
  by_cases hi : i < ((q.length : Nat) : Int)
  · have hw : IntKind.i64.wrap (i + 1) = i + 1 := w64 (by omega) (by omega)
    have hs : G.scFunsOkL p q i = ((G.bad (G.okAt q)) i.toNat).or (G.scFunsOkL p q (i + 1)) := scan_step h0 (by omega)
    refine scan_stop (fl := 1) (eqInv lsFunsOkL) muFunsOkL (p, q, ((q.length : Nat) : Int), i + 1, r, ()) ((G.bad (G.okAt q)) i.toNat) () ?_ (fun ho => ⟨(show G.preFunsOkL p q ((q.length : Nat) : Int) (i + 1) = true from preFunsOkL_iff.2 ⟨⟨by omega, by omega, h2⟩, rfl, hc⟩), ?_, ?_⟩) (fun w ho => ?_)
    · rw [Bool.and_eq_true, decide_eq_true_iff] at hc
      obtain ⟨rfl, hc⟩ := hc
      rw [bad_match, hw, if_pos (decide_eq_true hi), if_pos (decide_eq_true h0), if_pos (decide_eq_true hi), pAt_eq, if_pos (smallF_at hc (show i.toNat < p.length by omega)), if_pos (few_iff.2 h2)]
      unfold G.okAt
      rw [nat_int h0]
      cases G.funOk (G.pAt p i.toNat) <;> cases decide (G.find p (G.pAt p i.toNat).1 = i) <;> rfl
    · show (q.length) - (i + 1).toNat < (q.length) - i.toNat
      omega
    · show ((_, _), _) = ((_, _), _)
      simp only [hs, ho, Option.none_or]
    · show ((_, _), _) = ((_, _), _)
      simp only [hs, ho, Option.some_or]
      rfl
  · have hs : G.scFunsOkL p q i = none := scan_end (by omega)
    skip
    rw [if_neg (by simpa using hi)]
    show ((_, _), _) = ((_, _), _)
    simp only [hs]
    rfl
theorem lpFunsOkL : LpOk Go.Proofs.Try.prog clFunsOkL.ntmps 0 (loopIn Go.Proofs.Try.f58 0) lsFunsOkL :=
  lp_okB (cxOk T0_ok T0_eq pg23_ok) mixed (by kernel_rfl) (lps_none (by kernel_rfl)) (eqInv lsFunsOkL) muFunsOkL (fun _ h => h) (fun x h => stFunsOkL x.1 x.2.1 x.2.2.1 x.2.2.2.1 x.2.2.2.2.1 h)
def G.funsOk (p : Funs) : Bool := G.allFrom p.length (G.okAt p) 0
def G.closed (p : Funs) : Bool := G.allFrom p.length (G.closedAt p) 0
def G.keepOk (p : Funs) : Bool := decide (1 ≤ p.length ∧ p.length ≤ 40) && (G.funsOk p && G.closed p)
theorem smallP_iff {p : Funs} : G.smallP p = true ↔ (p.length ≤ 1099511627776 ∧ p.all G.smallF = true) := by
  unfold G.smallP
  rw [Bool.and_eq_true, few_iff]
/-! SpKeepOk -/
noncomputable abbrev spSpKeepOk : Spec := ⟨[FunSP], BoolR, false, fun x => G.smallP x.1, fun x => (G.keepOk x.1, ())⟩
noncomputable abbrev cxSpKeepOk : Cx := mkCx T0 pg23 [(0, lsKeepL0), (2, lsKeepL2), (4, lsKeepL4)] [] 63
theorem eSpKeepOk (p : Funs) : funK cxSpKeepOk Go.Proofs.Try.f20 spSpKeepOk.ins spSpKeepOk.out (p, ()) =
  (if Decidable.decide ((↑(List.length p) : Int) < (1 : Int)) = Bool.false then
    if Decidable.decide ((↑(List.length p) : Int) > (40 : Int)) = Bool.true then Option.some (Bool.false, PUnit.unit)
    else
      if Go.Rx.G.preKeepL0 p (0 : Int) = Bool.true then
        if Go.Rx.G.flag (1 : Nat) (Go.Rx.G.scKeepL0 p (0 : Int)) = (0 : Nat) then
          if Go.Rx.G.preKeepL2 p (0 : Int) = Bool.true then
            if Go.Rx.G.flag (1 : Nat) (Go.Rx.G.scKeepL2 p (0 : Int)) = (0 : Nat) then Option.some (Bool.true, PUnit.unit)
            else
              if Go.Rx.G.flag (1 : Nat) (Go.Rx.G.scKeepL2 p (0 : Int)) = (1 : Nat) then
                Option.some (Go.Rx.G.got (Go.Rx.G.scKeepL2 p (0 : Int)) (Go.Rx.G.got (Go.Rx.G.scKeepL0 p (0 : Int)) (Bool.false, PUnit.unit)))
              else Option.none
          else Option.none
        else if Go.Rx.G.flag (1 : Nat) (Go.Rx.G.scKeepL0 p (0 : Int)) = (1 : Nat) then Option.some (Go.Rx.G.got (Go.Rx.G.scKeepL0 p (0 : Int)) (Bool.false, PUnit.unit)) else Option.none
      else Option.none
  else Option.some (Bool.false, PUnit.unit)) := by kernel_rfl
theorem sfSpKeepOk (p : Funs) (h : G.smallP p = true) : funK cxSpKeepOk Go.Proofs.Try.f20 spSpKeepOk.ins spSpKeepOk.out (p, ()) = some (G.keepOk p, ()) := by
  obtain ⟨h1, h2⟩ := smallP_iff.1 h
  rw [eSpKeepOk]
  unfold G.keepOk
  by_cases c1 : 1 ≤ p.length
  · rw [if_pos (decide_eq_false (by omega))]
    by_cases c2 : p.length ≤ 40
    · rw [if_neg (by simp; omega), decide_eq_true (⟨c1, c2⟩ : 1 ≤ p.length ∧ p.length ≤ 40), Bool.true_and]
      rw [if_pos (preKeepL0_iff.2 ⟨⟨by omega, by omega, h1⟩, trivial, h2⟩), show G.scKeepL0 p 0 = _ from scan_bad _ _ _]
      rw [if_pos (preKeepL2_iff.2 ⟨⟨by omega, by omega, h1⟩, trivial, h2⟩), show G.scKeepL2 p 0 = _ from scan_bad _ _ _]
      unfold G.funsOk G.closed
      cases G.allFrom p.length (G.okAt p) 0 <;> cases G.allFrom p.length (G.closedAt p) 0 <;> rfl
    · rw [if_pos (by simp; omega), decide_eq_false (by omega)]
      rfl
  · rw [if_neg (by simp; omega), decide_eq_false (by omega)]
    rfl
theorem okSpKeepOk : SpecOk Go.Proofs.Try.prog 20 spSpKeepOk :=
  fun_okB (cx := cxSpKeepOk) (F := Go.Proofs.Try.f20) (cxOk T0_ok T0_eq pg23_ok) mixed (by kernel_rfl) (by decide) (by kernel_rfl) (lps_of (l := [(0, loopIn Go.Proofs.Try.f20 0), (2, loopIn Go.Proofs.Try.f20 2)]) (by kernel_rfl) ⟨lp_at lpKeepL0 rfl, lp_at lpKeepL2 rfl, trivial⟩) (fun x h => sfSpKeepOk x.1 h)
/-! FunsOk -/
noncomputable abbrev spFunsOk : Spec := ⟨[FunSP], BoolR, false, fun x => G.smallP x.1, fun x => (G.funsOk x.1, ())⟩
noncomputable abbrev cxFunsOk : Cx := mkCx T0 pg23 [(0, lsFunsOkL)] [] 24
theorem eFunsOk (p : Funs) : funK cxFunsOk Go.Proofs.Try.f58 spFunsOk.ins spFunsOk.out (p, ()) =
  (if Go.Rx.G.preFunsOkL p p (↑(List.length p) : Int) (0 : Int) = Bool.true then
    if Go.Rx.G.flag (1 : Nat) (Go.Rx.G.scFunsOkL p p (0 : Int)) = (0 : Nat) then Option.some (Bool.true, PUnit.unit)
    else
      if Go.Rx.G.flag (1 : Nat) (Go.Rx.G.scFunsOkL p p (0 : Int)) = (1 : Nat) then Option.some (Go.Rx.G.got (Go.Rx.G.scFunsOkL p p (0 : Int)) (Bool.false, PUnit.unit)) else Option.none
  else Option.none) := by kernel_rfl
theorem sfFunsOk (p : Funs) (h : G.smallP p = true) : funK cxFunsOk Go.Proofs.Try.f58 spFunsOk.ins spFunsOk.out (p, ()) = some (G.funsOk p, ()) := by
  obtain ⟨h1, h2⟩ := smallP_iff.1 h
  rw [eFunsOk, if_pos (preFunsOkL_iff.2 ⟨⟨by omega, by omega, h1⟩, rfl, by rw [Bool.and_eq_true, decide_eq_true_iff]; exact ⟨rfl, h2⟩⟩), show G.scFunsOkL p p 0 = _ from scan_bad _ _ _]
  unfold G.funsOk
  cases G.allFrom p.length (G.okAt p) 0 <;> rfl
theorem okFunsOk : SpecOk Go.Proofs.Try.prog 58 spFunsOk :=
  fun_okB (cx := cxFunsOk) (F := Go.Proofs.Try.f58) (cxOk T0_ok T0_eq pg23_ok) mixed (by kernel_rfl) (by decide) (by kernel_rfl) (lps_of (l := [(0, loopIn Go.Proofs.Try.f58 0)]) (by kernel_rfl) ⟨lp_at lpFunsOkL rfl, trivial⟩) (fun x h => sfFunsOk x.1 h)
noncomputable abbrev pg24 : List (Nat × List Spec) := (20, [spSpKeepOk]) :: (58, [spFunsOk]) :: pg23
theorem pg24_ok : PhiOk Go.Proofs.Try.prog pg24 := ⟨⟨okSpKeepOk, trivial⟩, ⟨okFunsOk, trivial⟩, pg23_ok⟩
/-! names that are nowhere -/
def G.lackOne (p : Funs) (l : Strs) (out : Strs) (k : Nat) : Strs := if G.find p (G.sAt l k) < 0 then out ++ [(G.sAt l k, ())] else out
def G.lackIn (p : Funs) (out : Strs) (k : Nat) : Strs := G.fold (G.lackOne p (G.refsOf (G.pAt p k).2.2.1)) (G.refsOf (G.pAt p k).2.2.1).length 0 out
def G.lackOf (p : Funs) : Strs := G.fold (G.lackIn p) p.length 0 []
def G.thin (p : Funs) : Bool := decide (p.length ≤ 4096) && p.all (fun f => decide (f.2.2.1.length ≤ 16))
theorem thin_iff {p : Funs} : G.thin p = true ↔ (p.length ≤ 4096 ∧ ∀ k, k < p.length → (G.pAt p k).2.2.1.length ≤ 16) := by
  unfold G.thin
  rw [Bool.and_eq_true, decide_eq_true_iff, List.all_eq_true]
  refine and_congr_right fun _ => ⟨fun h k hk => ?_, fun h f hf => ?_⟩
  · have := h (G.pAt p k) (by unfold G.pAt; simp [List.getD, hk])
    simpa using this
  · obtain ⟨k, hk, rfl⟩ := List.getElem_of_mem hf
    have := h k hk
    unfold G.pAt at this
    simp [List.getD, hk] at this
    simpa using this
theorem lackOne_len (p : Funs) (l out : Strs) (k : Nat) : (G.lackOne p l out k).length ≤ out.length + 1 := by
  unfold G.lackOne
  split
  · simp
  · omega
theorem lackIn_len (p : Funs) (out : Strs) (k : Nat) (h : (G.pAt p k).2.2.1.length ≤ 16) : (G.lackIn p out k).length ≤ out.length + 16 := by
  have h1 := fold_len (lackOne_len p (G.refsOf (G.pAt p k).2.2.1)) (G.refsOf (G.pAt p k).2.2.1).length out
  have h2 := refsOf_len (G.pAt p k).2.2.1
  unfold G.lackIn
  omega
def G.lackPre (p : Funs) (l out : Strs) (i : Int) : Bool := decide (p.length ≤ 4096 ∧ l.length ≤ 16 ∧ (out.length : Int) ≤ 1048576 + i)
theorem lackPre_iff {p : Funs} {l out : Strs} {i : Int} : G.lackPre p l out i = true ↔ (p.length ≤ 4096 ∧ l.length ≤ 16 ∧ (out.length : Int) ≤ 1048576 + i) := by simp [G.lackPre]
/-! LackL2: a gathering -/
def G.preLackL2 (p : Funs) (l : Strs) (n : Int) (i : Int) (out : Strs) : Bool := G.preA (l.length) i && (decide (n = ((l.length : Nat) : Int)) && G.lackPre p l out i)
theorem preLackL2_iff {p : Funs} {l : Strs} {n : Int} {i : Int} {out : Strs} : G.preLackL2 p l n i out = true ↔ (0 ≤ i ∧ i ≤ ((l.length : Nat) : Int) ∧ (l.length : Nat) ≤ 1099511627776) ∧ n = ((l.length : Nat) : Int) ∧ G.lackPre p l out i = true := by simp [G.preLackL2, preA_iff]
def G.oneLackL2 (p : Funs) (l : Strs) (a : Strs × Unit) (k : Nat) : Strs × Unit := (G.lackOne p l a.1 k, ())
def G.fdLackL2 (p : Funs) (l : Strs) (i : Int) (a : Strs × Unit) : Strs × Unit := G.fold (G.oneLackL2 p l) (l.length) i a
noncomputable abbrev lsLackL2 : LSpec := ⟨[0, 3, 15, 16, 17], [3], [FunSP, .c (.own strT), StrSP, IntP, IntP], [.c (.own strT)], false, fun x => G.preLackL2 x.1 x.2.2.1 x.2.2.2.1 x.2.2.2.2.1 x.2.1,
  fun x => ((0, G.fdLackL2 x.1 x.2.2.1 x.2.2.2.2.1 (x.2.1, ())), ())⟩
noncomputable abbrev clLackL2 : Cx := mkCx T0 pg24 [(2, lsLackL2)] [] 33
theorem rLackL2 (p : Funs) (out : Strs) (l : Strs) (n : Int) (i : Int) : roundK clLackL2 2 (loopIn Go.Proofs.Try.f59 2) lsLackL2 (p, out, l, n, i, ()) =
  (if Decidable.decide (i < n) = Bool.true then
    if Decidable.decide ((0 : Int) ≤ i) = Bool.true then
      if Decidable.decide (i < (↑(List.length l) : Int)) = Bool.true then
        if Go.Rx.G.few (List.length p) = Bool.true then
          if Decidable.decide (Go.Rx.G.find p (List.getD l (Int.toNat i) (ByteArray.empty, PUnit.unit)).1 < (0 : Int)) = Bool.true then
            if Go.Rx.okSize (16 : Nat) (List.length out + (1 : Nat)) = Bool.true then
              Option.some
                (Go.Rx.LRes.go
                  (p, out ++ [List.getD l (Int.toNat i) (ByteArray.empty, PUnit.unit)], l, n, Go.IntKind.wrap Go.IntKind.i64 (i + (1 : Int)),
                    PUnit.unit))
            else Option.none
          else Option.some (Go.Rx.LRes.go (p, out, l, n, Go.IntKind.wrap Go.IntKind.i64 (i + (1 : Int)), PUnit.unit))
        else Option.none
      else Option.none
    else Option.none
  else Option.some (Go.Rx.LRes.stop (0 : Nat) (out, PUnit.unit) PUnit.unit)) := by kernel_rfl
noncomputable abbrev muLackL2 : PKs.den lsLackL2.ins → Nat := fun x => (x.2.2.1.length) - x.2.2.2.2.1.toNat
theorem stLackL2 (p : Funs) (out : Strs) (l : Strs) (n : Int) (i : Int) (h : G.preLackL2 p l n i out = true) : StepOk lsLackL2 (eqInv lsLackL2) muLackL2 (p, out, l, n, i, ()) (roundK clLackL2 2 (loopIn Go.Proofs.Try.f59 2) lsLackL2 (p, out, l, n, i, ())) := by
  obtain ⟨⟨h0, h1, h2⟩, hn, hc⟩ := preLackL2_iff.1 h
  subst hn
  rw [rLackL2]
  by_cases hi : i < ((l.length : Nat) : Int)
  · have hw : IntKind.i64.wrap (i + 1) = i + 1 := w64 (by omega) (by omega)
    have hs : G.fdLackL2 p l i (out, ()) = G.fdLackL2 p l (i + 1) (G.oneLackL2 p l (out, ()) i.toNat) := fold_step h0 hi
    refine fold_go (eqInv lsLackL2) muLackL2 (p, (G.oneLackL2 p l (out, ()) i.toNat).1, l, ((l.length : Nat) : Int), i + 1, ()) ?_ (show G.preLackL2 p l ((l.length : Nat) : Int) (i + 1) (G.oneLackL2 p l (out, ()) i.toNat).1 = true from preLackL2_iff.2 ⟨⟨by omega, by omega, h2⟩, rfl, ?_⟩) ?_ ?_
    · obtain ⟨g1, g2, g3⟩ := lackPre_iff.1 hc
      rw [if_pos (decide_eq_true hi), if_pos (decide_eq_true h0), if_pos (decide_eq_true hi), if_pos (few_iff.2 (by omega)), sAt_eq, if_pos (okSize_few (by omega) (by omega)), hw]
      unfold G.oneLackL2 G.lackOne
      by_cases c : G.find p (G.sAt l i.toNat) < 0
      · rw [if_pos (decide_eq_true c), if_pos c]
        rfl
      · rw [if_neg (by simpa using c), if_neg c]
    · obtain ⟨g1, g2, g3⟩ := lackPre_iff.1 hc
      have := lackOne_len p l out i.toNat
      exact lackPre_iff.2 ⟨g1, g2, show (((G.lackOne p l out i.toNat).length : Nat) : Int) ≤ 1048576 + (i + 1) by omega⟩
    · show (l.length) - (i + 1).toNat < (l.length) - i.toNat
      omega
    · show ((_, _), _) = ((_, _), _)
      simp only [hs]
  · have hs : G.fdLackL2 p l i (out, ()) = (out, ()) := fold_end (by omega)
    skip
    rw [if_neg (by simpa using hi)]
    show ((_, _), _) = ((_, _), _)
    simp only [hs]
theorem lpLackL2 : LpOk Go.Proofs.Try.prog clLackL2.ntmps 2 (loopIn Go.Proofs.Try.f59 2) lsLackL2 :=
  lp_okB (cxOk T0_ok T0_eq pg24_ok) mixed (by kernel_rfl) (lps_none (by kernel_rfl)) (eqInv lsLackL2) muLackL2 (fun _ h => h) (fun x h => stLackL2 x.1 x.2.1 x.2.2.1 x.2.2.2.1 x.2.2.2.2.1 h)
def G.lackPre0 (p q : Funs) (out : Strs) (i : Int) : Bool := decide (p = q) && (G.thin q && decide ((out.length : Int) ≤ 16 * i))
theorem lackPre0_iff {p q : Funs} {out : Strs} {i : Int} : G.lackPre0 p q out i = true ↔ (p = q ∧ (q.length ≤ 4096 ∧ ∀ k, k < q.length → (G.pAt q k).2.2.1.length ≤ 16) ∧ (out.length : Int) ≤ 16 * i) := by
  unfold G.lackPre0
  rw [Bool.and_eq_true, Bool.and_eq_true, decide_eq_true_iff, decide_eq_true_iff, thin_iff]
/-! LackL0: a gathering -/
def G.preLackL0 (p : Funs) (q : Funs) (n : Int) (i : Int) (out : Strs) : Bool := G.preA (q.length) i && (decide (n = ((q.length : Nat) : Int)) && G.lackPre0 p q out i)
theorem preLackL0_iff {p : Funs} {q : Funs} {n : Int} {i : Int} {out : Strs} : G.preLackL0 p q n i out = true ↔ (0 ≤ i ∧ i ≤ ((q.length : Nat) : Int) ∧ (q.length : Nat) ≤ 1099511627776) ∧ n = ((q.length : Nat) : Int) ∧ G.lackPre0 p q out i = true := by simp [G.preLackL0, preA_iff]
def G.oneLackL0 (p : Funs) (q : Funs) (a : Strs × Unit) (k : Nat) : Strs × Unit := (G.lackIn q a.1 k, ())
def G.fdLackL0 (p : Funs) (q : Funs) (i : Int) (a : Strs × Unit) : Strs × Unit := G.fold (G.oneLackL0 p q) (q.length) i a
noncomputable abbrev lsLackL0 : LSpec := ⟨[0, 3, 8, 9, 10], [3], [FunSP, .c (.own strT), FunSP, IntP, IntP], [.c (.own strT)], false, fun x => G.preLackL0 x.1 x.2.2.1 x.2.2.2.1 x.2.2.2.2.1 x.2.1,
  fun x => ((0, G.fdLackL0 x.1 x.2.2.1 x.2.2.2.2.1 (x.2.1, ())), ())⟩
noncomputable abbrev clLackL0 : Cx := mkCx T0 pg24 [(2, lsLackL2), (0, lsLackL0)] [] 33
theorem rLackL0 (p : Funs) (out : Strs) (q : Funs) (n : Int) (i : Int) : roundK clLackL0 0 (loopIn Go.Proofs.Try.f59 0) lsLackL0 (p, out, q, n, i, ()) =
  (if Decidable.decide (i < n) = Bool.true then
    if Decidable.decide ((0 : Int) ≤ i) = Bool.true then
      if Decidable.decide (i < (↑(List.length q) : Int)) = Bool.true then
        if Go.Rx.G.few (List.length (List.getD q (Int.toNat i) (ByteArray.empty, Bool.false, [], PUnit.unit)).2.2.1) = Bool.true then
          if
              Go.Rx.G.preLackL2 p (Go.Rx.G.refsOf (List.getD q (Int.toNat i) (ByteArray.empty, Bool.false, [], PUnit.unit)).2.2.1)
                  (↑(List.length (Go.Rx.G.refsOf (List.getD q (Int.toNat i) (ByteArray.empty, Bool.false, [], PUnit.unit)).2.2.1)) : Int) (0 : Int) out =
                Bool.true then
            Option.some
              (Go.Rx.LRes.go
                (p, (Go.Rx.G.fdLackL2 p (Go.Rx.G.refsOf (List.getD q (Int.toNat i) (ByteArray.empty, Bool.false, [], PUnit.unit)).2.2.1) (0 : Int) (out, PUnit.unit)).1,
                  q, n, Go.IntKind.wrap Go.IntKind.i64 (i + (1 : Int)), PUnit.unit))
          else Option.none
        else Option.none
      else Option.none
    else Option.none
  else Option.some (Go.Rx.LRes.stop (0 : Nat) (out, PUnit.unit) PUnit.unit)) := by kernel_rfl
noncomputable abbrev muLackL0 : PKs.den lsLackL0.ins → Nat := fun x => (x.2.2.1.length) - x.2.2.2.2.1.toNat
theorem stLackL0 (p : Funs) (out : Strs) (q : Funs) (n : Int) (i : Int) (h : G.preLackL0 p q n i out = true) : StepOk lsLackL0 (eqInv lsLackL0) muLackL0 (p, out, q, n, i, ()) (roundK clLackL0 0 (loopIn Go.Proofs.Try.f59 0) lsLackL0 (p, out, q, n, i, ())) := by
  obtain ⟨⟨h0, h1, h2⟩, hn, hc⟩ := preLackL0_iff.1 h
  subst hn
  rw [rLackL0]
  by_cases hi : i < ((q.length : Nat) : Int)
  · have hw : IntKind.i64.wrap (i + 1) = i + 1 := w64 (by omega) (by omega)
    have hs : G.fdLackL0 p q i (out, ()) = G.fdLackL0 p q (i + 1) (G.oneLackL0 p q (out, ()) i.toNat) := fold_step h0 hi
    refine fold_go (eqInv lsLackL0) muLackL0 (p, (G.oneLackL0 p q (out, ()) i.toNat).1, q, ((q.length : Nat) : Int), i + 1, ()) ?_ (show G.preLackL0 p q ((q.length : Nat) : Int) (i + 1) (G.oneLackL0 p q (out, ()) i.toNat).1 = true from preLackL0_iff.2 ⟨⟨by omega, by omega, h2⟩, rfl, ?_⟩) ?_ ?_
    · obtain ⟨rfl, ⟨g2, g3⟩, g4⟩ := lackPre0_iff.1 hc
      have g5 := g3 i.toNat (by omega)
      have g6 := refsOf_len (G.pAt p i.toNat).2.2.1
      rw [if_pos (decide_eq_true hi), if_pos (decide_eq_true h0), if_pos (decide_eq_true hi), pAt_eq, if_pos (few_iff.2 (by omega)), if_pos (preLackL2_iff.2 ⟨⟨by omega, by omega, by omega⟩, rfl, lackPre_iff.2 ⟨g2, by omega, by omega⟩⟩), hw]
      unfold G.oneLackL0 G.lackIn G.fdLackL2 G.oneLackL2
      rw [fold_unit]
    · obtain ⟨g1, ⟨g2, g3⟩, g4⟩ := lackPre0_iff.1 hc
      have := lackIn_len q out i.toNat (g3 _ (by omega))
      exact lackPre0_iff.2 ⟨g1, ⟨g2, g3⟩, show (((G.lackIn q out i.toNat).length : Nat) : Int) ≤ 16 * (i + 1) by omega⟩
    · show (q.length) - (i + 1).toNat < (q.length) - i.toNat
      omega
    · show ((_, _), _) = ((_, _), _)
      simp only [hs]
  · have hs : G.fdLackL0 p q i (out, ()) = (out, ()) := fold_end (by omega)
    skip
    rw [if_neg (by simpa using hi)]
    show ((_, _), _) = ((_, _), _)
    simp only [hs]
theorem lpLackL0 : LpOk Go.Proofs.Try.prog clLackL0.ntmps 0 (loopIn Go.Proofs.Try.f59 0) lsLackL0 :=
  lp_okB (cxOk T0_ok T0_eq pg24_ok) mixed (by kernel_rfl) (lps_of (l := [(2, loopIn Go.Proofs.Try.f59 2)]) (by kernel_rfl) ⟨lp_at lpLackL2 rfl, trivial⟩) (eqInv lsLackL0) muLackL0 (fun _ h => h) (fun x h => stLackL0 x.1 x.2.1 x.2.2.1 x.2.2.2.1 x.2.2.2.2.1 h)
end Go.Rx

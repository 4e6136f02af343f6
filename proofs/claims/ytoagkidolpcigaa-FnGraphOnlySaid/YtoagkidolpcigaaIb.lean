/-
  REACHED: the program's functions over what is reached.
-/
import Derived.Test.YtoagkidolpcigaaIa
namespace Go.Rx
open Go
set_option linter.unusedVariables false
set_option linter.unusedSimpArgs false
def G.rchL (p : Funs) (s : ByteArray) : Funs := if (G.rch p s).2 = true then (G.rch p s).1 else []
theorem rwalk_len (q : ByteArray → Bool) (f : ByteArray → Fun) : ∀ (n : Nat) (names : Strs) (out : Funs) (i : Nat), (G.rwalk q f n names out i).1.length ≤ out.length + n
  | 0, _, out, _ => by show out.length ≤ _; omega
  | n + 1, names, out, i => by
    rw [rwalk_succ]
    split
    · split
      · have := rwalk_len q f n (G.addAll (G.refsOf (f (G.sAt names i)).2.2.1) names) (out ++ [f (G.sAt names i)]) (i + 1)
        rw [List.length_append, List.length_singleton] at this
        omega
      · show out.length ≤ _
        omega
    · show out.length ≤ _
      omega
theorem rchL_len (p : Funs) (s : ByteArray) : (G.rchL p s).length ≤ p.length + 1 := by
  unfold G.rchL
  split
  · have := rwalk_len (G.hasF p) (G.getF p) (p.length + 1 - 0) [(s, ())] [] 0
    simp only [List.length_nil] at this
    show (G.rwalk (G.hasF p) (G.getF p) (p.length + 1 - 0) [(s, ())] [] 0).1.length ≤ _
    omega
  · exact Nat.zero_le _
theorem keepOk_thin {p : Funs} (h : G.keepOk p = true) : G.thin p = true := by
  unfold G.keepOk at h
  rw [Bool.and_eq_true, Bool.and_eq_true, decide_eq_true_iff] at h
  exact funsOk_thin (by omega) h.2.1
/-! Reach -/
noncomputable abbrev spReach : Spec := ⟨[FunSP, StrP], .one FunsO, true, fun x => G.thin x.1, fun x => (G.rchL x.1 x.2.1, ())⟩
noncomputable abbrev cxReach : Cx := mkCx T0 pr2 [] [] 14
theorem eReach (p : Funs) (s : ByteArray) : funK cxReach Go.Proofs.Try.f40 spReach.ins spReach.out (p, s, ()) =
  (if Go.Rx.G.thin p = Bool.true then Option.some (if (Go.Rx.G.rch p s).2 = Bool.true then (Go.Rx.G.rch p s).1 else [], PUnit.unit) else Option.none) := by kernel_rfl
theorem sfReach (p : Funs) (s : ByteArray) (h : G.thin p = true) : funK cxReach Go.Proofs.Try.f40 spReach.ins spReach.out (p, s, ()) = some (G.rchL p s, ()) := by
  rw [eReach, if_pos h]
  rfl
theorem okReach : SpecOk Go.Proofs.Try.prog 40 spReach :=
  fun_okB (cx := cxReach) (F := Go.Proofs.Try.f40) (cxOk T0_ok T0_eq pr2_ok) mixed (by kernel_rfl) (by decide) (by kernel_rfl) (lps_none (by kernel_rfl)) (fun x h => sfReach x.1 x.2.1 h)
noncomputable abbrev pr3 : List (Nat × List Spec) := (40, [spReach]) :: pr2
theorem pr3_ok : PhiOk Go.Proofs.Try.prog pr3 := ⟨⟨okReach, trivial⟩, pr2_ok⟩
/-! names -/
/-! NamesL: a gathering -/
def G.preNamesL (l : Funs) (n : Int) (i : Int) (out : Strs) : Bool := G.preA (l.length) i && (decide (n = ((l.length : Nat) : Int)) && decide ((out.length : Int) ≤ i))
theorem preNamesL_iff {l : Funs} {n : Int} {i : Int} {out : Strs} : G.preNamesL l n i out = true ↔ (0 ≤ i ∧ i ≤ ((l.length : Nat) : Int) ∧ (l.length : Nat) ≤ 1099511627776) ∧ n = ((l.length : Nat) : Int) ∧ decide ((out.length : Int) ≤ i) = true := by simp [G.preNamesL, preA_iff]
def G.oneNamesL (l : Funs) (a : Strs × Unit) (k : Nat) : Strs × Unit := (a.1 ++ [((G.pAt l k).1, ())], ())
def G.fdNamesL (l : Funs) (i : Int) (a : Strs × Unit) : Strs × Unit := G.fold (G.oneNamesL l) (l.length) i a
noncomputable abbrev lsNamesL : LSpec := ⟨[3, 6, 7, 8], [3], [.c (.own strT), FunSP, IntP, IntP], [.c (.own strT)], false, fun x => G.preNamesL x.2.1 x.2.2.1 x.2.2.2.1 x.1,
  fun x => ((0, G.fdNamesL x.2.1 x.2.2.2.1 (x.1, ())), ())⟩
noncomputable abbrev clNamesL : Cx := mkCx T0 pr3 [(0, lsNamesL)] [] 20
theorem rNamesL (out : Strs) (l : Funs) (n : Int) (i : Int) : roundK clNamesL 0 (loopIn Go.Proofs.Try.f39 0) lsNamesL (out, l, n, i, ()) =
  (if Decidable.decide (i < n) = Bool.true then
    if Decidable.decide ((0 : Int) ≤ i) = Bool.true then
      if Decidable.decide (i < (↑(List.length l) : Int)) = Bool.true then
        if Go.Rx.okSize (16 : Nat) (List.length out + (1 : Nat)) = Bool.true then
          Option.some
            (Go.Rx.LRes.go
              (out ++ [((List.getD l (Int.toNat i) (ByteArray.empty, Bool.false, [], PUnit.unit)).1, PUnit.unit)], l, n,
                Go.IntKind.wrap Go.IntKind.i64 (i + (1 : Int)), PUnit.unit))
        else Option.none
      else Option.none
    else Option.none
  else Option.some (Go.Rx.LRes.stop (0 : Nat) (out, PUnit.unit) PUnit.unit)) := by kernel_rfl
noncomputable abbrev muNamesL : PKs.den lsNamesL.ins → Nat := fun x => (x.2.1.length) - x.2.2.2.1.toNat
theorem stNamesL (out : Strs) (l : Funs) (n : Int) (i : Int) (h : G.preNamesL l n i out = true) : StepOk lsNamesL (eqInv lsNamesL) muNamesL (out, l, n, i, ()) (roundK clNamesL 0 (loopIn Go.Proofs.Try.f39 0) lsNamesL (out, l, n, i, ())) := by
  obtain ⟨⟨h0, h1, h2⟩, hn, hc⟩ := preNamesL_iff.1 h
  subst hn
  rw [rNamesL]
  by_cases hi : i < ((l.length : Nat) : Int)
  · have hw : IntKind.i64.wrap (i + 1) = i + 1 := w64 (by omega) (by omega)
    have hs : G.fdNamesL l i (out, ()) = G.fdNamesL l (i + 1) (G.oneNamesL l (out, ()) i.toNat) := fold_step h0 hi
    refine fold_go (eqInv lsNamesL) muNamesL ((G.oneNamesL l (out, ()) i.toNat).1, l, ((l.length : Nat) : Int), i + 1, ()) ?_ (show G.preNamesL l ((l.length : Nat) : Int) (i + 1) (G.oneNamesL l (out, ()) i.toNat).1 = true from preNamesL_iff.2 ⟨⟨by omega, by omega, h2⟩, rfl, ?_⟩) ?_ ?_
    · have hl := of_decide_eq_true hc
      rw [if_pos (decide_eq_true hi), if_pos (decide_eq_true h0), if_pos (decide_eq_true hi), if_pos (okSize_few (by omega) (by omega)), hw]
      rfl
    · have hc := of_decide_eq_true hc
      exact decide_eq_true (show (((out ++ [((G.pAt l i.toNat).1, ())]).length : Nat) : Int) ≤ i + 1 by simp; omega)
    · show (l.length) - (i + 1).toNat < (l.length) - i.toNat
      omega
    · show ((_, _), _) = ((_, _), _)
      simp only [hs]
  · have hs : G.fdNamesL l i (out, ()) = (out, ()) := fold_end (by omega)
    skip
    rw [if_neg (by simpa using hi)]
    show ((_, _), _) = ((_, _), _)
    simp only [hs]
theorem lpNamesL : LpOk Go.Proofs.Try.prog clNamesL.ntmps 0 (loopIn Go.Proofs.Try.f39 0) lsNamesL :=
  lp_okB (cxOk T0_ok T0_eq pr3_ok) mixed (by kernel_rfl) (lps_none (by kernel_rfl)) (eqInv lsNamesL) muNamesL (fun _ h => h) (fun x h => stNamesL x.1 x.2.1 x.2.2.1 x.2.2.2.1 h)
def G.namesL (l : Funs) : Strs := G.fold (fun (out : Strs) k => out ++ [((G.pAt l k).1, ())]) l.length 0 []
/-! NamesOf -/
noncomputable abbrev spNamesOf : Spec := ⟨[FunSP], .one (.c (.own strT)), false, fun x => G.few x.1.length, fun x => (G.ordered (G.namesL x.1), ())⟩
noncomputable abbrev cxNamesOf : Cx := mkCx T0 pr3 [(0, lsNamesL)] [] 20
theorem eNamesOf (l : Funs) : funK cxNamesOf Go.Proofs.Try.f39 spNamesOf.ins spNamesOf.out (l, ()) =
  (if Go.Rx.G.preNamesL l (↑(List.length l) : Int) (0 : Int) [] = Bool.true then
    if Go.Rx.G.few (List.length (Go.Rx.G.fdNamesL l (0 : Int) ([], PUnit.unit)).1) = Bool.true then Option.some (Go.Rx.G.ordered (Go.Rx.G.fdNamesL l (0 : Int) ([], PUnit.unit)).1, PUnit.unit) else Option.none
  else Option.none) := by kernel_rfl
theorem namesL_map (l : Funs) : G.namesL l = l.map fun f => (f.1, ()) := by
  unfold G.namesL G.fold
  rw [range_zero]
  have key : ∀ (n : Nat), n ≤ l.length → (List.range n).foldl (fun (out : Strs) k => out ++ [((G.pAt l k).1, ())]) [] = (l.take n).map fun f => (f.1, ()) := by
    intro n
    induction n with
    | zero => intro _; rfl
    | succ n ih =>
      intro hn
      rw [List.range_succ, List.foldl_append, ih (by omega), List.take_succ_eq_append_getElem (show n < l.length by omega), List.map_append, List.foldl_cons, List.foldl_nil]
      unfold G.pAt
      rw [getD_lt l _ (show n < l.length by omega)]
      rfl
  rw [key l.length (Nat.le_refl _), List.take_length]
theorem sfNamesOf (l : Funs) (h : G.few l.length = true) : funK cxNamesOf Go.Proofs.Try.f39 spNamesOf.ins spNamesOf.out (l, ()) = some (G.ordered (G.namesL l), ()) := by
  have h := few_iff.1 h
  have e : (G.fdNamesL l 0 ([], ())).1 = G.namesL l := by
    exact congrArg (fun q : Strs × Unit => q.1) (fold_unit (fun (out : Strs) k => out ++ [((G.pAt l k).1, ())]) l.length 0 [])
  have hl : (G.namesL l).length = l.length := by rw [namesL_map]; simp
  rw [eNamesOf, if_pos (preNamesL_iff.2 ⟨⟨by omega, by omega, h⟩, rfl, decide_eq_true (by simp)⟩), e, if_pos (few_iff.2 (by omega))]
theorem okNamesOf : SpecOk Go.Proofs.Try.prog 39 spNamesOf :=
  fun_okB (cx := cxNamesOf) (F := Go.Proofs.Try.f39) (cxOk T0_ok T0_eq pr3_ok) mixed (by kernel_rfl) (by decide) (by kernel_rfl) (lps_of (l := [(0, loopIn Go.Proofs.Try.f39 0)]) (by kernel_rfl) ⟨lp_at lpNamesL rfl, trivial⟩) (fun x h => sfNamesOf x.1 h)
noncomputable abbrev pr4 : List (Nat × List Spec) := (39, [spNamesOf]) :: (25, [spKeepOk]) :: pr3
theorem pr4_ok : PhiOk Go.Proofs.Try.prog pr4 := ⟨⟨okNamesOf, trivial⟩, ⟨okKeepOk, trivial⟩, pr3_ok⟩
def G.keepReach (p : Funs) (s : ByteArray) : Strs := if G.keepOk p = true then G.ordered (G.namesL (G.rchL p s)) else []
/-! KeepReach -/
noncomputable abbrev spKeepReach : Spec := ⟨[FunSP, StrP], .one (.c (.own strT)), false, fun x => G.smallP x.1, fun x => (G.keepReach x.1 x.2.1, ())⟩
noncomputable abbrev cxKeepReach : Cx := mkCx T0 pr4 [] [] 12
theorem eKeepReach (p : Funs) (s : ByteArray) : funK cxKeepReach Go.Proofs.Try.f12 spKeepReach.ins spKeepReach.out (p, s, ()) =
  (if Go.Rx.G.smallP p = Bool.true then
    if (!Go.Rx.G.keepOk p) = Bool.true then Option.some ([], PUnit.unit)
    else
      if Go.Rx.G.thin p = Bool.true then
        if Go.Rx.G.few (List.length (Go.Rx.G.rchL p s)) = Bool.true then Option.some (Go.Rx.G.ordered (Go.Rx.G.namesL (Go.Rx.G.rchL p s)), PUnit.unit) else Option.none
      else Option.none
  else Option.none) := by kernel_rfl
theorem sfKeepReach (p : Funs) (s : ByteArray) (h : G.smallP p = true) : funK cxKeepReach Go.Proofs.Try.f12 spKeepReach.ins spKeepReach.out (p, s, ()) = some (G.keepReach p s, ()) := by
  rw [eKeepReach, if_pos h]
  unfold G.keepReach
  cases hk : G.keepOk p with
  | false => rfl
  | true =>
    have ht := keepOk_thin hk
    have := rchL_len p s
    have := (thin_iff.1 ht).1
    rw [if_neg (by decide), if_pos ht, if_pos (few_iff.2 (by omega))]
    rfl
theorem okKeepReach : SpecOk Go.Proofs.Try.prog 12 spKeepReach :=
  fun_okB (cx := cxKeepReach) (F := Go.Proofs.Try.f12) (cxOk T0_ok T0_eq pr4_ok) mixed (by kernel_rfl) (by decide) (by kernel_rfl) (lps_none (by kernel_rfl)) (fun x h => sfKeepReach x.1 x.2.1 h)
def G.keepOnly (p : Funs) : Funs := if G.keepOk p = true then G.rchL p (G.pAt p 0).1 else []
/-! KeepOnly -/
noncomputable abbrev spKeepOnly : Spec := ⟨[FunSP], .one FunsO, true, fun x => G.smallP x.1, fun x => (G.keepOnly x.1, ())⟩
noncomputable abbrev cxKeepOnly : Cx := mkCx T0 pr4 [] [] 12
theorem eKeepOnly (p : Funs) : funK cxKeepOnly Go.Proofs.Try.f22 spKeepOnly.ins spKeepOnly.out (p, ()) =
  (if Go.Rx.G.smallP p = Bool.true then
    if (!Go.Rx.G.keepOk p) = Bool.true then Option.some ([], PUnit.unit)
    else
      if Decidable.decide ((0 : Int) ≤ (0 : Int)) = Bool.true then
        if Decidable.decide ((0 : Int) < (↑(List.length p) : Int)) = Bool.true then
          if Go.Rx.G.thin p = Bool.true then Option.some (Go.Rx.G.rchL p (List.getD p (Int.toNat (0 : Int)) (ByteArray.empty, Bool.false, [], PUnit.unit)).1, PUnit.unit) else Option.none
        else Option.none
      else Option.none
  else Option.none) := by kernel_rfl
theorem sfKeepOnly (p : Funs) (h : G.smallP p = true) : funK cxKeepOnly Go.Proofs.Try.f22 spKeepOnly.ins spKeepOnly.out (p, ()) = some (G.keepOnly p, ()) := by
  rw [eKeepOnly, if_pos h]
  unfold G.keepOnly
  cases hk : G.keepOk p with
  | false => rfl
  | true =>
    have ht := keepOk_thin hk
    have h1 : 1 ≤ p.length := by
      unfold G.keepOk at hk
      rw [Bool.and_eq_true, decide_eq_true_iff] at hk
      exact hk.1.1
    rw [if_neg (by decide)]
    simp only [show (0 : Int) < (p.length : Int) by omega, show Int.toNat 0 < p.length by simp; omega, decide_true, if_true, ht]
    rfl
theorem okKeepOnly : SpecOk Go.Proofs.Try.prog 22 spKeepOnly :=
  fun_okB (cx := cxKeepOnly) (F := Go.Proofs.Try.f22) (cxOk T0_ok T0_eq pr4_ok) mixed (by kernel_rfl) (by decide) (by kernel_rfl) (lps_none (by kernel_rfl)) (fun x h => sfKeepOnly x.1 h)
/-! functions for which something holds -/
def G.leafF (f : Fun) : Bool := decide (((G.refsOf f.2.2.1).length : Int) = 0)
/-! LeafIs -/
noncomputable abbrev spLeafIs : Spec := ⟨[.agg FunK], BoolR, false, fun x => G.few x.1.2.2.1.length, fun x => (G.leafF x.1, ())⟩
noncomputable abbrev cxLeafIs : Cx := mkCx T0 pr4 [] [] 7
theorem eLeafIs (f : Fun) : funK cxLeafIs Go.Proofs.Try.f47 spLeafIs.ins spLeafIs.out (f, ()) =
  (if Go.Rx.G.few (List.length f.2.2.1) = Bool.true then Option.some (Decidable.decide ((↑(List.length (Go.Rx.G.refsOf f.2.2.1)) : Int) = (0 : Int)), PUnit.unit) else Option.none) := by kernel_rfl
theorem sfLeafIs (f : Fun) (h : G.few f.2.2.1.length = true) : funK cxLeafIs Go.Proofs.Try.f47 spLeafIs.ins spLeafIs.out (f, ()) = some (G.leafF f, ()) := by
  rw [eLeafIs, if_pos h]
  rfl
theorem okLeafIs : SpecOk Go.Proofs.Try.prog 47 spLeafIs :=
  fun_okB (cx := cxLeafIs) (F := Go.Proofs.Try.f47) (cxOk T0_ok T0_eq pr4_ok) mixed (by kernel_rfl) (by decide) (by kernel_rfl) (lps_none (by kernel_rfl)) (fun x h => sfLeafIs x.1 h)
def G.backQ (p : Funs) (nm s : ByteArray) : Bool := decide (G.find (G.rchL p s) nm ≥ 0)
/-! BackQ -/
noncomputable abbrev spBackQ : Spec := ⟨[StrP, .box [.dat (.sl funT)], .box FunK], BoolR, true, fun x => G.thin x.2.1.1, fun x => (G.backQ x.2.1.1 x.2.2.1.1 x.1, (x.2.1, (x.2.2.1, ())))⟩
noncomputable abbrev cxBackQ : Cx := mkCx T0 pr4 [] [] 12
theorem eBackQ (s : ByteArray) (p : Funs) (f : Fun) : funK cxBackQ Go.Proofs.Try.f51 spBackQ.ins spBackQ.out (s, (p, ()), f, ()) =
  (if Go.Rx.G.thin p = Bool.true then
    if Go.Rx.G.few (List.length (Go.Rx.G.rchL p s)) = Bool.true then
      Option.some (Decidable.decide (Go.Rx.G.find (Go.Rx.G.rchL p s) f.1 ≥ (0 : Int)), (p, PUnit.unit), f, PUnit.unit)
    else Option.none
  else Option.none) := by kernel_rfl
theorem sfBackQ (s : ByteArray) (p : Funs) (f : Fun) (h : G.thin p = true) : funK cxBackQ Go.Proofs.Try.f51 spBackQ.ins spBackQ.out (s, (p, ()), f, ()) = some (G.backQ p f.1 s, ((p, ()), (f, ()))) := by
  have := rchL_len p s
  have := (thin_iff.1 h).1
  rw [eBackQ, if_pos h, if_pos (few_iff.2 (by omega))]
  rfl
theorem okBackQ : SpecOk Go.Proofs.Try.prog 51 spBackQ :=
  fun_okB (cx := cxBackQ) (F := Go.Proofs.Try.f51) (cxOk T0_ok T0_eq pr4_ok) mixed (by kernel_rfl) (by decide) (by kernel_rfl) (lps_none (by kernel_rfl)) (fun x h => sfBackQ x.1 x.2.1.1 x.2.2.1 h)
noncomputable abbrev pr5 : List (Nat × List Spec) := (47, [spLeafIs]) :: (51, [spBackQ]) :: pr4
theorem pr5_ok : PhiOk Go.Proofs.Try.prog pr5 := ⟨⟨okLeafIs, trivial⟩, ⟨okBackQ, trivial⟩, pr4_ok⟩
def G.backAt (p : Funs) (nm : ByteArray) (l : Strs) (k : Nat) : Bool := G.backQ p nm (G.sAt l k)
/-! IdxBL: a search -/
def G.preIdxBL (l : Strs) (c : (Funs × Unit) × Fun × Unit) (n : Int) (i : Int) : Bool := G.preA (l.length) i && (decide (n = ((l.length : Nat) : Int)) && (G.thin c.1.1))
theorem preIdxBL_iff {l : Strs} {c : (Funs × Unit) × Fun × Unit} {n : Int} {i : Int} : G.preIdxBL l c n i = true ↔ (0 ≤ i ∧ i ≤ ((l.length : Nat) : Int) ∧ (l.length : Nat) ≤ 1099511627776) ∧ n = ((l.length : Nat) : Int) ∧ G.thin c.1.1 = true := by simp [G.preIdxBL, preA_iff]
def G.scIdxBL (l : Strs) (c : (Funs × Unit) × Fun × Unit) (i : Int) : Option (Int × Unit) := G.scan (G.hit (G.backAt c.1.1 c.2.1.1 l)) (l.length) i
noncomputable abbrev lsIdxBL : LSpec := ⟨[0, 1, 7, 8, 4], [4], [StrSP, .fn 51 [[.dat (.sl funT)], FunK], IntP, IntP, IntP], [IntP], true, fun x => G.preIdxBL x.1 x.2.1 x.2.2.1 x.2.2.2.1,
  fun x => ((G.flag 1 (G.scIdxBL x.1 x.2.1 x.2.2.2.1), G.got (G.scIdxBL x.1 x.2.1 x.2.2.2.1) (x.2.2.2.2.1, ())), (x.2.1, ()))⟩
noncomputable abbrev clIdxBL : Cx := mkCx T0 pr5 [(0, lsIdxBL)] [] 19
theorem rIdxBL (l : Strs) (c : (Funs × Unit) × Fun × Unit) (n : Int) (i : Int) (r : Int) : roundK clIdxBL 0 (loopIn Go.Proofs.Try.f88 0) lsIdxBL (l, c, n, i, r, ()) =
  (if Decidable.decide (i < n) = Bool.true then
    if Decidable.decide ((0 : Int) ≤ i) = Bool.true then
      if Decidable.decide (i < (↑(List.length l) : Int)) = Bool.true then
        if Go.Rx.G.thin c.1.1 = Bool.true then
          if Go.Rx.G.backQ c.1.1 c.2.1.1 (List.getD l (Int.toNat i) (ByteArray.empty, PUnit.unit)).1 = Bool.true then
            Option.some (Go.Rx.LRes.stop (1 : Nat) (i, PUnit.unit) (c, PUnit.unit))
          else Option.some (Go.Rx.LRes.go (l, c, n, Go.IntKind.wrap Go.IntKind.i64 (i + (1 : Int)), r, PUnit.unit))
        else Option.none
      else Option.none
    else Option.none
  else Option.some (Go.Rx.LRes.stop (0 : Nat) (r, PUnit.unit) (c, PUnit.unit))) := by kernel_rfl
noncomputable abbrev muIdxBL : PKs.den lsIdxBL.ins → Nat := fun x => (x.1.length) - x.2.2.2.1.toNat
theorem stIdxBL (l : Strs) (c : (Funs × Unit) × Fun × Unit) (n : Int) (i : Int) (r : Int) (h : G.preIdxBL l c n i = true) : StepOk lsIdxBL (eqInv lsIdxBL) muIdxBL (l, c, n, i, r, ()) (roundK clIdxBL 0 (loopIn Go.Proofs.Try.f88 0) lsIdxBL (l, c, n, i, r, ())) := by
  obtain ⟨⟨h0, h1, h2⟩, hn, hc⟩ := preIdxBL_iff.1 h
  subst hn
  rw [rIdxBL]
  by_cases hi : i < ((l.length : Nat) : Int)
  · have hw : IntKind.i64.wrap (i + 1) = i + 1 := w64 (by omega) (by omega)
    have hs : G.scIdxBL l c i = ((G.hit (G.backAt c.1.1 c.2.1.1 l)) i.toNat).or (G.scIdxBL l c (i + 1)) := scan_step h0 (by omega)
    refine scan_stop (fl := 1) (eqInv lsIdxBL) muIdxBL (l, c, ((l.length : Nat) : Int), i + 1, r, ()) ((G.hit (G.backAt c.1.1 c.2.1.1 l)) i.toNat) (c, ()) ?_ (fun ho => ⟨(show G.preIdxBL l c ((l.length : Nat) : Int) (i + 1) = true from preIdxBL_iff.2 ⟨⟨by omega, by omega, h2⟩, rfl, hc⟩), ?_, ?_⟩) (fun w ho => ?_)
    · rw [hit_match, hw, if_pos (decide_eq_true hi), if_pos (decide_eq_true h0), if_pos (decide_eq_true hi), if_pos hc, nat_int h0]
      rfl
    · show (l.length) - (i + 1).toNat < (l.length) - i.toNat
      omega
    · show ((_, _), _) = ((_, _), _)
      simp only [hs, ho, Option.none_or]
    · show ((_, _), _) = ((_, _), _)
      simp only [hs, ho, Option.some_or]
      rfl
  · have hs : G.scIdxBL l c i = none := scan_end (by omega)
    skip
    rw [if_neg (by simpa using hi)]
    show ((_, _), _) = ((_, _), _)
    simp only [hs]
    rfl
theorem lpIdxBL : LpOk Go.Proofs.Try.prog clIdxBL.ntmps 0 (loopIn Go.Proofs.Try.f88 0) lsIdxBL :=
  lp_okB (cxOk T0_ok T0_eq pr5_ok) mixed (by kernel_rfl) (lps_none (by kernel_rfl)) (eqInv lsIdxBL) muIdxBL (fun _ h => h) (fun x h => stIdxBL x.1 x.2.1 x.2.2.1 x.2.2.2.1 x.2.2.2.2.1 h)
/-! IdxB -/
noncomputable abbrev spIdxB : Spec := ⟨[StrSP, .fn 51 [[.dat (.sl funT)], FunK]], IntR, true, fun x => G.few x.1.length && G.thin x.2.1.1.1, fun x => (G.idx (G.backAt x.2.1.1.1 x.2.1.2.1.1 x.1) x.1.length, (x.2.1, ()))⟩
noncomputable abbrev cxIdxB : Cx := mkCx T0 pr5 [(0, lsIdxBL)] [] 19
theorem eIdxB (l : Strs) (c : (Funs × Unit) × Fun × Unit) : funK cxIdxB Go.Proofs.Try.f88 spIdxB.ins spIdxB.out (l, c, ()) =
  (if Go.Rx.G.preIdxBL l c (↑(List.length l) : Int) (0 : Int) = Bool.true then
    if Go.Rx.G.flag (1 : Nat) (Go.Rx.G.scIdxBL l c (0 : Int)) = (0 : Nat) then Option.some ((-1 : Int), c, PUnit.unit)
    else
      if Go.Rx.G.flag (1 : Nat) (Go.Rx.G.scIdxBL l c (0 : Int)) = (1 : Nat) then Option.some ((Go.Rx.G.got (Go.Rx.G.scIdxBL l c (0 : Int)) ((0 : Int), PUnit.unit)).1, c, PUnit.unit)
      else Option.none
  else Option.none) := by kernel_rfl
theorem sfIdxB (l : Strs) (c : (Funs × Unit) × Fun × Unit) (h : (G.few l.length && G.thin c.1.1) = true) : funK cxIdxB Go.Proofs.Try.f88 spIdxB.ins spIdxB.out (l, c, ()) = some (G.idx (G.backAt c.1.1 c.2.1.1 l) l.length, (c, ())) := by
  rw [Bool.and_eq_true] at h
  have h1 := few_iff.1 h.1
  rw [eIdxB, if_pos (preIdxBL_iff.2 ⟨⟨by omega, by omega, h1⟩, rfl, h.2⟩)]
  exact idx_end (fun i => (i, c, ())) rfl
theorem okIdxB : SpecOk Go.Proofs.Try.prog 88 spIdxB :=
  fun_okB (cx := cxIdxB) (F := Go.Proofs.Try.f88) (cxOk T0_ok T0_eq pr5_ok) mixed (by kernel_rfl) (by decide) (by kernel_rfl) (lps_of (l := [(0, loopIn Go.Proofs.Try.f88 0)]) (by kernel_rfl) ⟨lp_at lpIdxBL rfl, trivial⟩) (fun x h => sfIdxB x.1 x.2.1 h)
noncomputable abbrev pr6 : List (Nat × List Spec) := (88, [spIdxB]) :: pr5
theorem pr6_ok : PhiOk Go.Proofs.Try.prog pr6 := ⟨⟨okIdxB, trivial⟩, pr5_ok⟩
/-! ContB -/
noncomputable abbrev spContB : Spec := ⟨[StrSP, .fn 51 [[.dat (.sl funT)], FunK]], BoolR, true, fun x => G.few x.1.length && G.thin x.2.1.1.1, fun x => (G.anyFrom x.1.length (G.backAt x.2.1.1.1 x.2.1.2.1.1 x.1) 0, (x.2.1, ()))⟩
noncomputable abbrev cxContB : Cx := mkCx T0 pr6 [] [] 9
theorem eContB (l : Strs) (c : (Funs × Unit) × Fun × Unit) : funK cxContB Go.Proofs.Try.f50 spContB.ins spContB.out (l, c, ()) =
  (if (Go.Rx.G.few (List.length l) && Go.Rx.G.thin c.1.1) = Bool.true then
    Option.some (Decidable.decide (Go.Rx.G.idx (Go.Rx.G.backAt c.1.1 c.2.1.1 l) (List.length l) ≥ (0 : Int)), c, PUnit.unit)
  else Option.none) := by kernel_rfl
theorem sfContB (l : Strs) (c : (Funs × Unit) × Fun × Unit) (h : (G.few l.length && G.thin c.1.1) = true) : funK cxContB Go.Proofs.Try.f50 spContB.ins spContB.out (l, c, ()) = some (G.anyFrom l.length (G.backAt c.1.1 c.2.1.1 l) 0, (c, ())) := by
  rw [eContB, if_pos h]
  have e : decide (G.idx (G.backAt c.1.1 c.2.1.1 l) l.length ≥ 0) = G.anyFrom l.length (G.backAt c.1.1 c.2.1.1 l) 0 := by
    have := idx_none (G.backAt c.1.1 c.2.1.1 l) l.length
    cases ha : G.anyFrom l.length (G.backAt c.1.1 c.2.1.1 l) 0 with
    | false => have := this.2 ha; exact decide_eq_false (by omega)
    | true =>
      have : ¬ G.idx (G.backAt c.1.1 c.2.1.1 l) l.length < 0 := fun e => by rw [this.1 e] at ha; cases ha
      exact decide_eq_true (by omega)
  rw [e]
theorem okContB : SpecOk Go.Proofs.Try.prog 50 spContB :=
  fun_okB (cx := cxContB) (F := Go.Proofs.Try.f50) (cxOk T0_ok T0_eq pr6_ok) mixed (by kernel_rfl) (by decide) (by kernel_rfl) (lps_none (by kernel_rfl)) (fun x h => sfContB x.1 x.2.1 h)
noncomputable abbrev pr7 : List (Nat × List Spec) := (50, [spContB]) :: pr6
theorem pr7_ok : PhiOk Go.Proofs.Try.prog pr7 := ⟨⟨okContB, trivial⟩, pr6_ok⟩
def G.backF (p : Funs) (f : Fun) : Bool := G.anyFrom (G.refsOf f.2.2.1).length (G.backAt p f.1 (G.refsOf f.2.2.1)) 0
/-! BackIs -/
noncomputable abbrev spBackIs : Spec := ⟨[.agg FunK, .box [.dat (.sl funT)]], BoolR, true, fun x => G.few x.1.2.2.1.length && G.thin x.2.1.1, fun x => (G.backF x.2.1.1 x.1, (x.2.1, ()))⟩
noncomputable abbrev cxBackIs : Cx := mkCx T0 pr7 [] [] 8
theorem eBackIs (f : Fun) (p : Funs) : funK cxBackIs Go.Proofs.Try.f49 spBackIs.ins spBackIs.out (f, (p, ()), ()) =
  (if Go.Rx.G.few (List.length f.2.2.1) = Bool.true then
    if (Go.Rx.G.few (List.length (Go.Rx.G.refsOf f.2.2.1)) && Go.Rx.G.thin p) = Bool.true then
      Option.some (Go.Rx.G.anyFrom (List.length (Go.Rx.G.refsOf f.2.2.1)) (Go.Rx.G.backAt p f.1 (Go.Rx.G.refsOf f.2.2.1)) (0 : Int), (p, PUnit.unit), PUnit.unit)
    else Option.none
  else Option.none) := by kernel_rfl
theorem sfBackIs (f : Fun) (p : Funs) (h : (G.few f.2.2.1.length && G.thin p) = true) : funK cxBackIs Go.Proofs.Try.f49 spBackIs.ins spBackIs.out (f, (p, ()), ()) = some (G.backF p f, ((p, ()), ())) := by
  rw [Bool.and_eq_true] at h
  have h1 := few_iff.1 h.1
  have := refsOf_len f.2.2.1
  rw [eBackIs, if_pos h.1]
  simp only [few_iff.2 (show (G.refsOf f.2.2.1).length ≤ 1099511627776 by omega), h.2, Bool.and_self, if_true]
  rfl
theorem okBackIs : SpecOk Go.Proofs.Try.prog 49 spBackIs :=
  fun_okB (cx := cxBackIs) (F := Go.Proofs.Try.f49) (cxOk T0_ok T0_eq pr7_ok) mixed (by kernel_rfl) (by decide) (by kernel_rfl) (lps_none (by kernel_rfl)) (fun x h => sfBackIs x.1 x.2.1.1 h)
noncomputable abbrev pr8 : List (Nat × List Spec) := (49, [spBackIs]) :: pr7
theorem pr8_ok : PhiOk Go.Proofs.Try.prog pr8 := ⟨⟨okBackIs, trivial⟩, pr7_ok⟩
def G.nameIf (q : Fun → Bool) (p : Funs) (out : Strs) (k : Nat) : Strs := if q (G.pAt p k) = true then out ++ [((G.pAt p k).1, ())] else out
theorem nameIf_len (q : Fun → Bool) (p : Funs) (out : Strs) (k : Nat) : (G.nameIf q p out k).length ≤ out.length + 1 := by
  unfold G.nameIf
  split <;> simp
def G.namesIf (q : Fun → Bool) (p : Funs) : Strs := G.fold (G.nameIf q p) p.length 0 []
/-! NamedLL: a gathering -/
def G.preNamedLL (c : Unit) (p : Funs) (n : Int) (i : Int) (out : Strs) : Bool := G.preA (p.length) i && (decide (n = ((p.length : Nat) : Int)) && (G.thin p && decide ((out.length : Int) ≤ i)))
theorem preNamedLL_iff {c : Unit} {p : Funs} {n : Int} {i : Int} {out : Strs} : G.preNamedLL c p n i out = true ↔ (0 ≤ i ∧ i ≤ ((p.length : Nat) : Int) ∧ (p.length : Nat) ≤ 1099511627776) ∧ n = ((p.length : Nat) : Int) ∧ (G.thin p && decide ((out.length : Int) ≤ i)) = true := by simp [G.preNamedLL, preA_iff]
def G.oneNamedLL (c : Unit) (p : Funs) (a : Strs × Unit) (k : Nat) : Strs × Unit := (G.nameIf G.leafF p a.1 k, ())
def G.fdNamedLL (c : Unit) (p : Funs) (i : Int) (a : Strs × Unit) : Strs × Unit := G.fold (G.oneNamedLL c p) (p.length) i a
noncomputable abbrev lsNamedLL : LSpec := ⟨[1, 5, 11, 12, 13], [5], [.fn 47 [], .c (.own strT), FunSP, IntP, IntP], [.c (.own strT)], false, fun x => G.preNamedLL x.1 x.2.2.1 x.2.2.2.1 x.2.2.2.2.1 x.2.1,
  fun x => ((0, G.fdNamedLL x.1 x.2.2.1 x.2.2.2.2.1 (x.2.1, ())), (x.1, ()))⟩
noncomputable abbrev clNamedLL : Cx := mkCx T0 pr8 [(0, lsNamedLL)] [] 28
theorem rNamedLL (c : Unit) (out : Strs) (p : Funs) (n : Int) (i : Int) : roundK clNamedLL 0 (loopIn Go.Proofs.Try.f46 0) lsNamedLL (c, out, p, n, i, ()) =
  (if Decidable.decide (i < n) = Bool.true then
    if Decidable.decide ((0 : Int) ≤ i) = Bool.true then
      if Decidable.decide (i < (↑(List.length p) : Int)) = Bool.true then
        if Go.Rx.G.few (List.length (List.getD p (Int.toNat i) (ByteArray.empty, Bool.false, [], PUnit.unit)).2.2.1) = Bool.true then
          if Go.Rx.G.leafF (List.getD p (Int.toNat i) (ByteArray.empty, Bool.false, [], PUnit.unit)) = Bool.true then
            if Go.Rx.okSize (16 : Nat) (List.length out + (1 : Nat)) = Bool.true then
              Option.some
                (Go.Rx.LRes.go
                  (PUnit.unit, out ++ [((List.getD p (Int.toNat i) (ByteArray.empty, Bool.false, [], PUnit.unit)).1, PUnit.unit)], p, n,
                    Go.IntKind.wrap Go.IntKind.i64 (i + (1 : Int)), PUnit.unit))
            else Option.none
          else Option.some (Go.Rx.LRes.go (PUnit.unit, out, p, n, Go.IntKind.wrap Go.IntKind.i64 (i + (1 : Int)), PUnit.unit))
        else Option.none
      else Option.none
    else Option.none
  else Option.some (Go.Rx.LRes.stop (0 : Nat) (out, PUnit.unit) (PUnit.unit, PUnit.unit))) := by kernel_rfl
noncomputable abbrev muNamedLL : PKs.den lsNamedLL.ins → Nat := fun x => (x.2.2.1.length) - x.2.2.2.2.1.toNat
theorem stNamedLL (c : Unit) (out : Strs) (p : Funs) (n : Int) (i : Int) (h : G.preNamedLL c p n i out = true) : StepOk lsNamedLL (eqInv lsNamedLL) muNamedLL (c, out, p, n, i, ()) (roundK clNamedLL 0 (loopIn Go.Proofs.Try.f46 0) lsNamedLL (c, out, p, n, i, ())) := by
  obtain ⟨⟨h0, h1, h2⟩, hn, hc⟩ := preNamedLL_iff.1 h
  subst hn
  rw [rNamedLL]
  by_cases hi : i < ((p.length : Nat) : Int)
  · have hw : IntKind.i64.wrap (i + 1) = i + 1 := w64 (by omega) (by omega)
    have hs : G.fdNamedLL c p i (out, ()) = G.fdNamedLL c p (i + 1) (G.oneNamedLL c p (out, ()) i.toNat) := fold_step h0 hi
    refine fold_go (eqInv lsNamedLL) muNamedLL (c, (G.oneNamedLL c p (out, ()) i.toNat).1, p, ((p.length : Nat) : Int), i + 1, ()) ?_ (show G.preNamedLL c p ((p.length : Nat) : Int) (i + 1) (G.oneNamedLL c p (out, ()) i.toNat).1 = true from preNamedLL_iff.2 ⟨⟨by omega, by omega, h2⟩, rfl, ?_⟩) ?_ ?_
    · rw [Bool.and_eq_true, decide_eq_true_iff] at hc
      obtain ⟨hc1, hc2⟩ := hc
      have hb := (thin_iff.1 hc1).2 i.toNat (by omega)
      rw [if_pos (decide_eq_true hi), if_pos (decide_eq_true h0), if_pos (decide_eq_true hi), pAt_eq, if_pos (few_iff.2 (by omega)), hw]
      unfold G.oneNamedLL G.nameIf
      dsimp only
      cases G.leafF (G.pAt p i.toNat) with
      | true =>
        rw [if_pos rfl, if_pos (okSize_few (by omega) (by omega))]
        rfl
      | false => rfl
    · rw [Bool.and_eq_true, decide_eq_true_iff] at hc ⊢
      have hq := nameIf_len G.leafF p out i.toNat
      exact ⟨hc.1, show (((G.nameIf G.leafF p out i.toNat).length : Nat) : Int) ≤ i + 1 by omega⟩
    · show (p.length) - (i + 1).toNat < (p.length) - i.toNat
      omega
    · show ((_, _), _) = ((_, _), _)
      simp only [hs]
  · have hs : G.fdNamedLL c p i (out, ()) = (out, ()) := fold_end (by omega)
    skip
    rw [if_neg (by simpa using hi)]
    show ((_, _), _) = ((_, _), _)
    simp only [hs]
theorem lpNamedLL : LpOk Go.Proofs.Try.prog clNamedLL.ntmps 0 (loopIn Go.Proofs.Try.f46 0) lsNamedLL :=
  lp_okB (cxOk T0_ok T0_eq pr8_ok) mixed (by kernel_rfl) (lps_none (by kernel_rfl)) (eqInv lsNamedLL) muNamedLL (fun _ h => h) (fun x h => stNamedLL x.1 x.2.1 x.2.2.1 x.2.2.2.1 x.2.2.2.2.1 h)
/-! NamedBL: a gathering -/
def G.preNamedBL (c : (Funs × Unit) × Unit) (p : Funs) (n : Int) (i : Int) (out : Strs) : Bool := G.preA (p.length) i && (decide (n = ((p.length : Nat) : Int)) && ((G.thin p && G.thin c.1.1) && decide ((out.length : Int) ≤ i)))
theorem preNamedBL_iff {c : (Funs × Unit) × Unit} {p : Funs} {n : Int} {i : Int} {out : Strs} : G.preNamedBL c p n i out = true ↔ (0 ≤ i ∧ i ≤ ((p.length : Nat) : Int) ∧ (p.length : Nat) ≤ 1099511627776) ∧ n = ((p.length : Nat) : Int) ∧ ((G.thin p && G.thin c.1.1) && decide ((out.length : Int) ≤ i)) = true := by simp [G.preNamedBL, preA_iff]
def G.oneNamedBL (c : (Funs × Unit) × Unit) (p : Funs) (a : Strs × Unit) (k : Nat) : Strs × Unit := (G.nameIf (G.backF c.1.1) p a.1 k, ())
def G.fdNamedBL (c : (Funs × Unit) × Unit) (p : Funs) (i : Int) (a : Strs × Unit) : Strs × Unit := G.fold (G.oneNamedBL c p) (p.length) i a
noncomputable abbrev lsNamedBL : LSpec := ⟨[1, 5, 11, 12, 13], [5], [.fn 49 [[.dat (.sl funT)]], .c (.own strT), FunSP, IntP, IntP], [.c (.own strT)], true, fun x => G.preNamedBL x.1 x.2.2.1 x.2.2.2.1 x.2.2.2.2.1 x.2.1,
  fun x => ((0, G.fdNamedBL x.1 x.2.2.1 x.2.2.2.2.1 (x.2.1, ())), (x.1, ()))⟩
noncomputable abbrev clNamedBL : Cx := mkCx T0 pr8 [(0, lsNamedBL)] [] 28
theorem rNamedBL (c : (Funs × Unit) × Unit) (out : Strs) (p : Funs) (n : Int) (i : Int) : roundK clNamedBL 0 (loopIn Go.Proofs.Try.f46 0) lsNamedBL (c, out, p, n, i, ()) =
  (if Decidable.decide (i < n) = Bool.true then
    if Decidable.decide ((0 : Int) ≤ i) = Bool.true then
      if Decidable.decide (i < (↑(List.length p) : Int)) = Bool.true then
        if (Go.Rx.G.few (List.length (List.getD p (Int.toNat i) (ByteArray.empty, Bool.false, [], PUnit.unit)).2.2.1) && Go.Rx.G.thin c.1.1) = Bool.true then
          if Go.Rx.G.backF c.1.1 (List.getD p (Int.toNat i) (ByteArray.empty, Bool.false, [], PUnit.unit)) = Bool.true then
            if Go.Rx.okSize (16 : Nat) (List.length out + (1 : Nat)) = Bool.true then
              Option.some
                (Go.Rx.LRes.go
                  (c, out ++ [((List.getD p (Int.toNat i) (ByteArray.empty, Bool.false, [], PUnit.unit)).1, PUnit.unit)], p, n,
                    Go.IntKind.wrap Go.IntKind.i64 (i + (1 : Int)), PUnit.unit))
            else Option.none
          else Option.some (Go.Rx.LRes.go (c, out, p, n, Go.IntKind.wrap Go.IntKind.i64 (i + (1 : Int)), PUnit.unit))
        else Option.none
      else Option.none
    else Option.none
  else Option.some (Go.Rx.LRes.stop (0 : Nat) (out, PUnit.unit) (c, PUnit.unit))) := by kernel_rfl
noncomputable abbrev muNamedBL : PKs.den lsNamedBL.ins → Nat := fun x => (x.2.2.1.length) - x.2.2.2.2.1.toNat
theorem stNamedBL (c : (Funs × Unit) × Unit) (out : Strs) (p : Funs) (n : Int) (i : Int) (h : G.preNamedBL c p n i out = true) : StepOk lsNamedBL (eqInv lsNamedBL) muNamedBL (c, out, p, n, i, ()) (roundK clNamedBL 0 (loopIn Go.Proofs.Try.f46 0) lsNamedBL (c, out, p, n, i, ())) := by
  obtain ⟨⟨h0, h1, h2⟩, hn, hc⟩ := preNamedBL_iff.1 h
  subst hn
  rw [rNamedBL]
  by_cases hi : i < ((p.length : Nat) : Int)
  · have hw : IntKind.i64.wrap (i + 1) = i + 1 := w64 (by omega) (by omega)
    have hs : G.fdNamedBL c p i (out, ()) = G.fdNamedBL c p (i + 1) (G.oneNamedBL c p (out, ()) i.toNat) := fold_step h0 hi
    refine fold_go (eqInv lsNamedBL) muNamedBL (c, (G.oneNamedBL c p (out, ()) i.toNat).1, p, ((p.length : Nat) : Int), i + 1, ()) ?_ (show G.preNamedBL c p ((p.length : Nat) : Int) (i + 1) (G.oneNamedBL c p (out, ()) i.toNat).1 = true from preNamedBL_iff.2 ⟨⟨by omega, by omega, h2⟩, rfl, ?_⟩) ?_ ?_
    · rw [Bool.and_eq_true, decide_eq_true_iff] at hc
      obtain ⟨hc1, hc2⟩ := hc
      have hb := (thin_iff.1 (Bool.and_eq_true _ _ ▸ hc1 : G.thin p = true ∧ G.thin c.1.1 = true).1).2 i.toNat (by omega)
      rw [if_pos (decide_eq_true hi), if_pos (decide_eq_true h0), if_pos (decide_eq_true hi), pAt_eq, if_pos (by rw [Bool.and_eq_true]; exact ⟨few_iff.2 (by omega), (Bool.and_eq_true _ _ ▸ hc1 : G.thin p = true ∧ G.thin c.1.1 = true).2⟩), hw]
      unfold G.oneNamedBL G.nameIf
      dsimp only
      cases (G.backF c.1.1) (G.pAt p i.toNat) with
      | true =>
        rw [if_pos rfl, if_pos (okSize_few (by omega) (by omega))]
        rfl
      | false => rfl
    · rw [Bool.and_eq_true, decide_eq_true_iff] at hc ⊢
      have hq := nameIf_len (G.backF c.1.1) p out i.toNat
      exact ⟨hc.1, show (((G.nameIf (G.backF c.1.1) p out i.toNat).length : Nat) : Int) ≤ i + 1 by omega⟩
    · show (p.length) - (i + 1).toNat < (p.length) - i.toNat
      omega
    · show ((_, _), _) = ((_, _), _)
      simp only [hs]
  · have hs : G.fdNamedBL c p i (out, ()) = (out, ()) := fold_end (by omega)
    skip
    rw [if_neg (by simpa using hi)]
    show ((_, _), _) = ((_, _), _)
    simp only [hs]
theorem lpNamedBL : LpOk Go.Proofs.Try.prog clNamedBL.ntmps 0 (loopIn Go.Proofs.Try.f46 0) lsNamedBL :=
  lp_okB (cxOk T0_ok T0_eq pr8_ok) mixed (by kernel_rfl) (lps_none (by kernel_rfl)) (eqInv lsNamedBL) muNamedBL (fun _ h => h) (fun x h => stNamedBL x.1 x.2.1 x.2.2.1 x.2.2.2.1 x.2.2.2.2.1 h)
def G.named (q : Fun → Bool) (p : Funs) : Strs := if G.keepOk p = true then G.ordered (G.namesIf q p) else []
theorem namesIf_len (q : Fun → Bool) (p : Funs) : (G.namesIf q p).length ≤ p.length := by
  unfold G.namesIf G.fold
  rw [range_zero]
  have key : ∀ (l : List Nat) (a : Strs), (l.foldl (G.nameIf q p) a).length ≤ a.length + l.length := by
    intro l
    induction l with
    | nil => intro a; simp
    | cons k l ih =>
      intro a
      have h1 := ih (G.nameIf q p a k)
      have h2 := nameIf_len q p a k
      rw [List.foldl_cons, List.length_cons]
      omega
  have := key (List.range p.length) []
  simpa using this
/-! NamedL -/
noncomputable abbrev spNamedL : Spec := ⟨[FunSP, .fn 47 []], .one (.c (.own strT)), false, fun x => G.smallP x.1, fun x => (G.named G.leafF x.1, (x.2.1, ()))⟩
noncomputable abbrev cxNamedL : Cx := mkCx T0 pr8 [(0, lsNamedLL)] [] 28
theorem eNamedL (p : Funs) (c : Unit) : funK cxNamedL Go.Proofs.Try.f46 spNamedL.ins spNamedL.out (p, c, ()) =
  (if Go.Rx.G.smallP p = Bool.true then
    if (!Go.Rx.G.keepOk p) = Bool.true then Option.some ([], PUnit.unit, PUnit.unit)
    else
      if Go.Rx.G.preNamedLL PUnit.unit p (↑(List.length p) : Int) (0 : Int) [] = Bool.true then
        if Go.Rx.G.few (List.length (Go.Rx.G.fdNamedLL PUnit.unit p (0 : Int) ([], PUnit.unit)).1) = Bool.true then
          Option.some (Go.Rx.G.ordered (Go.Rx.G.fdNamedLL PUnit.unit p (0 : Int) ([], PUnit.unit)).1, PUnit.unit, PUnit.unit)
        else Option.none
      else Option.none
  else Option.none) := by kernel_rfl
theorem sfNamedL (p : Funs) (c : Unit) (h : G.smallP p = true) : funK cxNamedL Go.Proofs.Try.f46 spNamedL.ins spNamedL.out (p, c, ()) = some (G.named G.leafF p, (c, ())) := by
  rw [eNamedL, if_pos h]
  unfold G.named
  cases hk : G.keepOk p with
  | false => rfl
  | true =>
    have ht := keepOk_thin hk
    have hl := (thin_iff.1 ht).1
    have hn := namesIf_len G.leafF p
    have e : (G.fdNamedLL c p 0 ([], ())).1 = G.namesIf G.leafF p := congrArg (fun q : Strs × Unit => q.1) (fold_unit (G.nameIf G.leafF p) p.length 0 [])
    rw [if_neg (by decide), if_pos (preNamedLL_iff.2 ⟨⟨by omega, by omega, by omega⟩, rfl, by rw [Bool.and_eq_true]; exact ⟨ht, decide_eq_true (by simp)⟩⟩)]
    first | rw [e] | skip
    first | rw [show (G.fdNamedLL () p 0 ([], ())).1 = G.namesIf G.leafF p from e] | skip
    rw [if_pos (few_iff.2 (by omega))]
    rfl
theorem okNamedL : SpecOk Go.Proofs.Try.prog 46 spNamedL :=
  fun_okB (cx := cxNamedL) (F := Go.Proofs.Try.f46) (cxOk T0_ok T0_eq pr8_ok) mixed (by kernel_rfl) (by decide) (by kernel_rfl) (lps_of (l := [(0, loopIn Go.Proofs.Try.f46 0)]) (by kernel_rfl) ⟨lp_at lpNamedLL rfl, trivial⟩) (fun x h => sfNamedL x.1 x.2.1 h)
/-! NamedB -/
noncomputable abbrev spNamedB : Spec := ⟨[FunSP, .fn 49 [[.dat (.sl funT)]]], .one (.c (.own strT)), true, fun x => G.smallP x.1 && decide (x.2.1.1.1 = x.1), fun x => (G.named (G.backF x.1) x.1, (x.2.1, ()))⟩
noncomputable abbrev cxNamedB : Cx := mkCx T0 pr8 [(0, lsNamedBL)] [] 28
theorem eNamedB (p : Funs) (c : (Funs × Unit) × Unit) : funK cxNamedB Go.Proofs.Try.f46 spNamedB.ins spNamedB.out (p, c, ()) =
  (if Go.Rx.G.smallP p = Bool.true then
    if (!Go.Rx.G.keepOk p) = Bool.true then Option.some ([], c, PUnit.unit)
    else
      if Go.Rx.G.preNamedBL c p (↑(List.length p) : Int) (0 : Int) [] = Bool.true then
        if Go.Rx.G.few (List.length (Go.Rx.G.fdNamedBL c p (0 : Int) ([], PUnit.unit)).1) = Bool.true then
          Option.some (Go.Rx.G.ordered (Go.Rx.G.fdNamedBL c p (0 : Int) ([], PUnit.unit)).1, c, PUnit.unit)
        else Option.none
      else Option.none
  else Option.none) := by kernel_rfl
theorem sfNamedB (p : Funs) (c : (Funs × Unit) × Unit) (h : (G.smallP p && decide (c.1.1 = p)) = true) : funK cxNamedB Go.Proofs.Try.f46 spNamedB.ins spNamedB.out (p, c, ()) = some (G.named (G.backF p) p, (c, ())) := by
  rw [Bool.and_eq_true, decide_eq_true_iff] at h
  obtain ⟨h1, h2⟩ := h
  rw [eNamedB, if_pos h1]
  unfold G.named
  cases hk : G.keepOk p with
  | false => rfl
  | true =>
    have ht := keepOk_thin hk
    have hl := (thin_iff.1 ht).1
    have hn := namesIf_len (G.backF p) p
    have e : (G.fdNamedBL c p 0 ([], ())).1 = G.namesIf (G.backF p) p := by
      rw [← congrArg G.backF h2]
      exact congrArg (fun q : Strs × Unit => q.1) (fold_unit (G.nameIf (G.backF c.1.1) p) p.length 0 [])
    rw [if_neg (by decide), if_pos (preNamedBL_iff.2 ⟨⟨by omega, by omega, by omega⟩, rfl, by rw [Bool.and_eq_true, Bool.and_eq_true]; exact ⟨⟨ht, by rw [h2]; exact ht⟩, decide_eq_true (by simp)⟩⟩), e, if_pos (few_iff.2 (by omega))]
    rfl
theorem okNamedB : SpecOk Go.Proofs.Try.prog 46 spNamedB :=
  fun_okB (cx := cxNamedB) (F := Go.Proofs.Try.f46) (cxOk T0_ok T0_eq pr8_ok) mixed (by kernel_rfl) (by decide) (by kernel_rfl) (lps_of (l := [(0, loopIn Go.Proofs.Try.f46 0)]) (by kernel_rfl) ⟨lp_at lpNamedBL rfl, trivial⟩) (fun x h => sfNamedB x.1 x.2.1 h)
noncomputable abbrev pr9 : List (Nat × List Spec) := (46, [spNamedL, spNamedB]) :: pr8
theorem pr9_ok : PhiOk Go.Proofs.Try.prog pr9 := ⟨⟨okNamedL, okNamedB, trivial⟩, pr8_ok⟩
/-! GraphLeaf -/
noncomputable abbrev spGraphLeaf : Spec := ⟨[FunSP], .one (.c (.own strT)), false, fun x => G.smallP x.1, fun x => (G.named G.leafF x.1, ())⟩
noncomputable abbrev cxGraphLeaf : Cx := mkCx T0 pr9 [] [] 5
theorem eGraphLeaf (p : Funs) : funK cxGraphLeaf Go.Proofs.Try.f17 spGraphLeaf.ins spGraphLeaf.out (p, ()) =
  (if Go.Rx.G.smallP p = Bool.true then Option.some (Go.Rx.G.named Go.Rx.G.leafF p, PUnit.unit) else Option.none) := by kernel_rfl
theorem sfGraphLeaf (p : Funs) (h : G.smallP p = true) : funK cxGraphLeaf Go.Proofs.Try.f17 spGraphLeaf.ins spGraphLeaf.out (p, ()) = some (G.named G.leafF p, ()) := by
  rw [eGraphLeaf, if_pos h]
theorem okGraphLeaf : SpecOk Go.Proofs.Try.prog 17 spGraphLeaf :=
  fun_okB (cx := cxGraphLeaf) (F := Go.Proofs.Try.f17) (cxOk T0_ok T0_eq pr9_ok) mixed (by kernel_rfl) (by decide) (by kernel_rfl) (lps_none (by kernel_rfl)) (fun x h => sfGraphLeaf x.1 h)
/-! GraphBack -/
noncomputable abbrev spGraphBack : Spec := ⟨[FunSP], .one (.c (.own strT)), true, fun x => G.smallP x.1, fun x => (G.named (G.backF x.1) x.1, ())⟩
noncomputable abbrev cxGraphBack : Cx := mkCx T0 pr9 [] [] 6
theorem eGraphBack (p : Funs) : funK cxGraphBack Go.Proofs.Try.f19 spGraphBack.ins spGraphBack.out (p, ()) =
  (if (Go.Rx.G.smallP p && Decidable.decide (p = p)) = Bool.true then Option.some (Go.Rx.G.named (Go.Rx.G.backF p) p, PUnit.unit) else Option.none) := by kernel_rfl
theorem sfGraphBack (p : Funs) (h : G.smallP p = true) : funK cxGraphBack Go.Proofs.Try.f19 spGraphBack.ins spGraphBack.out (p, ()) = some (G.named (G.backF p) p, ()) := by
  rw [eGraphBack, if_pos (by rw [h]; simp)]
theorem okGraphBack : SpecOk Go.Proofs.Try.prog 19 spGraphBack :=
  fun_okB (cx := cxGraphBack) (F := Go.Proofs.Try.f19) (cxOk T0_ok T0_eq pr9_ok) mixed (by kernel_rfl) (by decide) (by kernel_rfl) (lps_none (by kernel_rfl)) (fun x h => sfGraphBack x.1 h)
noncomputable abbrev pr10 : List (Nat × List Spec) := (17, [spGraphLeaf]) :: (19, [spGraphBack]) :: (12, [spKeepReach]) :: (22, [spKeepOnly]) :: pr9
theorem pr10_ok : PhiOk Go.Proofs.Try.prog pr10 := ⟨⟨okGraphLeaf, trivial⟩, ⟨okGraphBack, trivial⟩, ⟨okKeepReach, trivial⟩, ⟨okKeepOnly, trivial⟩, pr9_ok⟩
end Go.Rx

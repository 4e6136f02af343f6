/-
  REACHED: what is gathered from a name on, each function being looked up.
-/
import Derived.Test.YtoagkidolpcigaaHh
namespace Go.Rx
open Go
set_option linter.unusedVariables false
set_option linter.unusedSimpArgs false
/-! FClone -/
noncomputable abbrev spFClone : Spec := ⟨[.agg FunK], .one (.agg FunK), true, fun x => G.few x.1.2.2.1.length, fun x => (x.1, ())⟩
noncomputable abbrev cxFClone : Cx := mkCx T0 pdk [] [] 8
theorem eFClone (f : Fun) : funK cxFClone Go.Proofs.Try.f98 spFClone.ins spFClone.out (f, ()) =
  (if Go.Rx.okSize (32 : Nat) (List.length f.2.2.1) = Bool.true then Option.some (f, PUnit.unit) else Option.none) := by kernel_rfl
theorem sfFClone (f : Fun) (h : G.few f.2.2.1.length = true) : funK cxFClone Go.Proofs.Try.f98 spFClone.ins spFClone.out (f, ()) = some (f, ()) := by
  have h := few_iff.1 h
  rw [eFClone, if_pos (okSize_few (by omega) (by omega))]
theorem okFClone : SpecOk Go.Proofs.Try.prog 98 spFClone :=
  fun_okB (cx := cxFClone) (F := Go.Proofs.Try.f98) (cxOk T0_ok T0_eq pdk_ok) mixed (by kernel_rfl) (by decide) (by kernel_rfl) (lps_none (by kernel_rfl)) (fun x h => sfFClone x.1 h)
def G.noFun : Fun := (ByteArray.empty, false, [], ())
def G.getF (p : Funs) (s : ByteArray) : Fun := if G.find p s < 0 then G.noFun else G.pAt p (G.find p s).toNat
def G.hasF (p : Funs) (s : ByteArray) : Bool := !decide (G.find p s < 0)
/-! ReachGet -/
noncomputable abbrev spReachGet : Spec := ⟨[StrP, .box [.dat (.sl funT)]], .tup [.agg FunK, BoolP], true, fun x => G.few x.2.1.1.length, fun x => ((G.getF x.2.1.1 x.1, G.hasF x.2.1.1 x.1, ()), (x.2.1, ()))⟩
noncomputable abbrev cxReachGet : Cx := mkCx T0 pdk [] [] 16
theorem eReachGet (s : ByteArray) (p : Funs) : funK cxReachGet Go.Proofs.Try.f80 spReachGet.ins spReachGet.out (s, (p, ()), ()) =
  (if Go.Rx.G.few (List.length p) = Bool.true then
    if Decidable.decide (Go.Rx.G.find p s < (0 : Int)) = Bool.true then Option.some (((ByteArray.empty, Bool.false, [], PUnit.unit), Bool.false, PUnit.unit), (p, PUnit.unit), PUnit.unit)
    else
      if Decidable.decide ((0 : Int) ≤ Go.Rx.G.find p s) = Bool.true then
        if Decidable.decide (Go.Rx.G.find p s < (↑(List.length p) : Int)) = Bool.true then
          Option.some ((List.getD p (Int.toNat (Go.Rx.G.find p s)) (ByteArray.empty, Bool.false, [], PUnit.unit), Bool.true, PUnit.unit), (p, PUnit.unit), PUnit.unit)
        else Option.none
      else Option.none
  else Option.none) := by kernel_rfl
theorem sfReachGet (s : ByteArray) (p : Funs) (h : G.few p.length = true) : funK cxReachGet Go.Proofs.Try.f80 spReachGet.ins spReachGet.out (s, (p, ()), ()) = some ((G.getF p s, G.hasF p s, ()), ((p, ()), ())) := by
  rw [eReachGet, if_pos h]
  unfold G.getF G.hasF
  by_cases c : G.find p s < 0
  · rw [if_pos (decide_eq_true c), if_pos c, decide_eq_true c]
    rfl
  · obtain ⟨f1, f2, f3, f4⟩ := find_ok c
    rw [if_neg (by simpa using c), if_pos (decide_eq_true f3), if_pos (decide_eq_true f4), if_neg c, decide_eq_false c]
    rfl
theorem okReachGet : SpecOk Go.Proofs.Try.prog 80 spReachGet :=
  fun_okB (cx := cxReachGet) (F := Go.Proofs.Try.f80) (cxOk T0_ok T0_eq pdk_ok) mixed (by kernel_rfl) (by decide) (by kernel_rfl) (lps_none (by kernel_rfl)) (fun x h => sfReachGet x.1 x.2.1.1 h)
noncomputable abbrev pr1 : List (Nat × List Spec) := (98, [spFClone]) :: (80, [spReachGet]) :: pdk
theorem pr1_ok : PhiOk Go.Proofs.Try.prog pr1 := ⟨⟨okFClone, trivial⟩, ⟨okReachGet, trivial⟩, pdk_ok⟩
/-! RchL2: a gathering -/
def G.preRchL2 (refs : Strs) (n : Int) (i : Int) (names : Strs) (there : List ByteArray) : Bool := G.preA (refs.length) i && (decide (n = ((refs.length : Nat) : Int)) && decide ((names.length : Int) ≤ 1048576 + i ∧ refs.length ≤ 1048576))
theorem preRchL2_iff {refs : Strs} {n : Int} {i : Int} {names : Strs} {there : List ByteArray} : G.preRchL2 refs n i names there = true ↔ (0 ≤ i ∧ i ≤ ((refs.length : Nat) : Int) ∧ (refs.length : Nat) ≤ 1099511627776) ∧ n = ((refs.length : Nat) : Int) ∧ decide ((names.length : Int) ≤ 1048576 + i ∧ refs.length ≤ 1048576) = true := by simp [G.preRchL2, preA_iff]
def G.oneRchL2 (refs : Strs) (a : Strs × (List ByteArray) × Unit) (k : Nat) : Strs × (List ByteArray) × Unit := (if Go.Rx.hasK (G.sAt refs k) a.2.1 = true then a.1 else a.1 ++ [(G.sAt refs k, ())], if Go.Rx.hasK (G.sAt refs k) a.2.1 = true then a.2.1 else a.2.1 ++ [G.sAt refs k], ())
def G.fdRchL2 (refs : Strs) (i : Int) (a : Strs × (List ByteArray) × Unit) : Strs × (List ByteArray) × Unit := G.fold (G.oneRchL2 refs) (refs.length) i a
noncomputable abbrev lsRchL2 : LSpec := ⟨[6, 7, 42, 43, 44], [6, 7], [.c (.own strT), .c .map, StrSP, IntP, IntP], [.c (.own strT), .c .map], false, fun x => G.preRchL2 x.2.2.1 x.2.2.2.1 x.2.2.2.2.1 x.1 x.2.1,
  fun x => ((0, G.fdRchL2 x.2.2.1 x.2.2.2.2.1 (x.1, x.2.1, ())), ())⟩
noncomputable abbrev clRchL2 : Cx := mkCx T0 pr1 [(2, lsRchL2)] [] 60
theorem rRchL2 (names : Strs) (there : List ByteArray) (refs : Strs) (n : Int) (i : Int) : roundK clRchL2 2 (loopIn Go.Proofs.Try.f65 2) lsRchL2 (names, there, refs, n, i, ()) =
  (if Decidable.decide (i < n) = Bool.true then
    if Decidable.decide ((0 : Int) ≤ i) = Bool.true then
      if Decidable.decide (i < (↑(List.length refs) : Int)) = Bool.true then
        if (!Go.Rx.hasK (List.getD refs (Int.toNat i) (ByteArray.empty, PUnit.unit)).1 there) = Bool.true then
          if Go.Rx.okSize (16 : Nat) (List.length names + (1 : Nat)) = Bool.true then
            Option.some
              (Go.Rx.LRes.go
                (names ++ [List.getD refs (Int.toNat i) (ByteArray.empty, PUnit.unit)],
                  bif Go.Rx.hasK (List.getD refs (Int.toNat i) (ByteArray.empty, PUnit.unit)).1 there then there
                  else there ++ [(List.getD refs (Int.toNat i) (ByteArray.empty, PUnit.unit)).1],
                  refs, n, Go.IntKind.wrap Go.IntKind.i64 (i + (1 : Int)), PUnit.unit))
          else Option.none
        else Option.some (Go.Rx.LRes.go (names, there, refs, n, Go.IntKind.wrap Go.IntKind.i64 (i + (1 : Int)), PUnit.unit))
      else Option.none
    else Option.none
  else Option.some (Go.Rx.LRes.stop (0 : Nat) (names, there, PUnit.unit) PUnit.unit)) := by kernel_rfl
noncomputable abbrev muRchL2 : PKs.den lsRchL2.ins → Nat := fun x => (x.2.2.1.length) - x.2.2.2.2.1.toNat
theorem stRchL2 (names : Strs) (there : List ByteArray) (refs : Strs) (n : Int) (i : Int) (h : G.preRchL2 refs n i names there = true) : StepOk lsRchL2 (eqInv lsRchL2) muRchL2 (names, there, refs, n, i, ()) (roundK clRchL2 2 (loopIn Go.Proofs.Try.f65 2) lsRchL2 (names, there, refs, n, i, ())) := by
  obtain ⟨⟨h0, h1, h2⟩, hn, hc⟩ := preRchL2_iff.1 h
  subst hn
  rw [rRchL2]
  by_cases hi : i < ((refs.length : Nat) : Int)
  · have hw : IntKind.i64.wrap (i + 1) = i + 1 := w64 (by omega) (by omega)
    have hs : G.fdRchL2 refs i (names, there, ()) = G.fdRchL2 refs (i + 1) (G.oneRchL2 refs (names, there, ()) i.toNat) := fold_step h0 hi
    refine fold_go (eqInv lsRchL2) muRchL2 ((G.oneRchL2 refs (names, there, ()) i.toNat).1, (G.oneRchL2 refs (names, there, ()) i.toNat).2.1, refs, ((refs.length : Nat) : Int), i + 1, ()) ?_ (show G.preRchL2 refs ((refs.length : Nat) : Int) (i + 1) (G.oneRchL2 refs (names, there, ()) i.toNat).1 (G.oneRchL2 refs (names, there, ()) i.toNat).2.1 = true from preRchL2_iff.2 ⟨⟨by omega, by omega, h2⟩, rfl, ?_⟩) ?_ ?_
    · have hl := of_decide_eq_true hc
      rw [if_pos (decide_eq_true hi), if_pos (decide_eq_true h0), if_pos (decide_eq_true hi), sAt_eq, hw]
      unfold G.oneRchL2
      dsimp only
      cases hh : Go.Rx.hasK (G.sAt refs i.toNat) there with
      | true => simp
      | false =>
        rw [if_pos (by rfl), if_pos (okSize_few (by omega) (by omega))]
        rfl
    · have hc := of_decide_eq_true hc
      have hx : (G.oneRchL2 refs (names, there, ()) i.toNat).1.length ≤ names.length + 1 := by
        unfold G.oneRchL2
        dsimp only
        split <;> simp
      exact decide_eq_true (show (((G.oneRchL2 refs (names, there, ()) i.toNat).1.length : Nat) : Int) ≤ 1048576 + (i + 1) ∧ refs.length ≤ 1048576 by omega)
    · show (refs.length) - (i + 1).toNat < (refs.length) - i.toNat
      omega
    · show ((_, _), _) = ((_, _), _)
      simp only [hs]
  · have hs : G.fdRchL2 refs i (names, there, ()) = (names, there, ()) := fold_end (by omega)
    skip
    rw [if_neg (by simpa using hi)]
    show ((_, _), _) = ((_, _), _)
    simp only [hs]
theorem lpRchL2 : LpOk Go.Proofs.Try.prog clRchL2.ntmps 2 (loopIn Go.Proofs.Try.f65 2) lsRchL2 :=
  lp_okB (cxOk T0_ok T0_eq pr1_ok) mixed (by kernel_rfl) (lps_none (by kernel_rfl)) (eqInv lsRchL2) muRchL2 (fun _ h => h) (fun x h => stRchL2 x.1 x.2.1 x.2.2.1 x.2.2.2.1 x.2.2.2.2.1 h)
theorem hasK_mem {s : ByteArray} : ∀ {ks : List ByteArray}, Go.Rx.hasK s ks = true ↔ s ∈ ks
  | [] => by simp [Go.Rx.hasK]
  | k :: ks => by
    have ih := hasK_mem (s := s) (ks := ks)
    unfold Go.Rx.hasK
    rw [strEq_iff]
    by_cases c : s = k
    · simp [c]
    · simp [c, ih]
theorem hasK_map (names : Strs) (s : ByteArray) : Go.Rx.hasK s (names.map fun x => x.1) = G.hasS names s := by
  rw [Bool.eq_iff_iff, hasK_mem, hasS_iff, List.mem_map]
  constructor
  · rintro ⟨⟨a, u⟩, h, rfl⟩
    exact h
  · intro h
    exact ⟨_, h, rfl⟩
theorem rch_one (refs names : Strs) (k : Nat) : G.oneRchL2 refs (names, names.map (fun x => x.1), ()) k = (G.addOne refs names k, (G.addOne refs names k).map (fun x => x.1), ()) := by
  unfold G.oneRchL2 G.addOne
  dsimp only
  rw [hasK_map]
  cases G.hasS names (G.sAt refs k) with
  | true => simp
  | false => simp
theorem rch_fold (refs : Strs) : ∀ (l : List Nat) (names : Strs), l.foldl (G.oneRchL2 refs) (names, names.map (fun x => x.1), ()) = (l.foldl (G.addOne refs) names, (l.foldl (G.addOne refs) names).map (fun x => x.1), ())
  | [], _ => rfl
  | k :: l, names => by
    rw [List.foldl_cons, List.foldl_cons, rch_one, rch_fold refs l]
theorem rch_all (refs names : Strs) : G.fdRchL2 refs 0 (names, names.map (fun x => x.1), ()) = (G.addAll refs names, (G.addAll refs names).map (fun x => x.1), ()) := rch_fold refs _ names
/-! the walk, by any look-up -/
def G.rwalk (q : ByteArray → Bool) (f : ByteArray → Fun) : Nat → Strs → Funs → Nat → Funs × Bool
  | 0, _, out, _ => (out, true)
  | n + 1, names, out, i => if i < names.length then (if q (G.sAt names i) = true then G.rwalk q f n (G.addAll (G.refsOf (f (G.sAt names i)).2.2.1) names) (out ++ [f (G.sAt names i)]) (i + 1) else (out, false)) else (out, true)
theorem rwalk_succ (q : ByteArray → Bool) (f : ByteArray → Fun) (n : Nat) (names : Strs) (out : Funs) (i : Nat) : G.rwalk q f (n + 1) names out i = if i < names.length then (if q (G.sAt names i) = true then G.rwalk q f n (G.addAll (G.refsOf (f (G.sAt names i)).2.2.1) names) (out ++ [f (G.sAt names i)]) (i + 1) else (out, false)) else (out, true) := rfl
theorem walk_rwalk (us : Units) : ∀ (n : Nat) (names : Strs) (out : Funs) (i : Nat), G.walk us n names out i = G.rwalk (fun s => (G.at3 us s).2.2) (fun s => G.pAt (G.unitAt us (G.at3 us s).1.toNat) (G.at3 us s).2.1.toNat) n names out i
  | 0, _, _, _ => rfl
  | n + 1, names, out, i => by
    rw [walk_succ, rwalk_succ]
    rw [walk_rwalk us n]
theorem rwalk_congr {q q' : ByteArray → Bool} {f f' : ByteArray → Fun} (hq : ∀ s, q s = q' s) (hf : ∀ s, q s = true → f s = f' s) : ∀ (n : Nat) (names : Strs) (out : Funs) (i : Nat), G.rwalk q f n names out i = G.rwalk q' f' n names out i
  | 0, _, _, _ => rfl
  | n + 1, names, out, i => by
    rw [rwalk_succ, rwalk_succ, ← hq]
    cases h : q (G.sAt names i) with
    | true => rw [hf _ h, rwalk_congr hq hf n]
    | false => rfl
/-- In one unit alone. -/
theorem at3L_one (p : Funs) (s : ByteArray) : G.at3F s [(p, ())] 0 (-1) (-1) = if G.find p s < 0 then (none, -1, -1) else if (G.pAt p (G.find p s).toNat).2.1 = false then (some (0, G.find p s), -1, -1) else (none, 0, G.find p s) := rfl
theorem at3_some {p : Funs} {s : ByteArray} (c : ¬ G.find p s < 0) : G.at3 [(p, ())] s = (0, G.find p s, true) := by
  unfold G.at3
  rw [at3L_one, if_neg c]
  split
  · rename_i h
    split at h <;> cases h
    rfl
  · rename_i h
    split at h <;> cases h
    rfl
theorem at3_none {p : Funs} {s : ByteArray} (c : G.find p s < 0) : (G.at3 [(p, ())] s).2.2 = false := by
  unfold G.at3
  rw [at3L_one, if_pos c]
  rfl
theorem hasF_at3 (p : Funs) (s : ByteArray) : (G.at3 [(p, ())] s).2.2 = G.hasF p s := by
  unfold G.hasF
  by_cases c : G.find p s < 0
  · rw [at3_none c, decide_eq_true c]
    rfl
  · rw [at3_some c, decide_eq_false c]
    rfl
theorem getF_at3 {p : Funs} {s : ByteArray} (h : G.hasF p s = true) : G.pAt (G.unitAt [(p, ())] (G.at3 [(p, ())] s).1.toNat) (G.at3 [(p, ())] s).2.1.toNat = G.getF p s := by
  unfold G.hasF at h
  have c : ¬ G.find p s < 0 := by simpa using h
  unfold G.getF
  rw [at3_some c, if_neg c]
  rfl
theorem total_one (p : Funs) : G.total [(p, ())] = p.length := by simp [G.total]
abbrev GetK : PK := .fn 80 [[.dat (.sl funT)]]
def G.rchX (p : Funs) (names : Strs) (out : Funs) (i : Nat) : Funs × Bool := G.rwalk (G.hasF p) (G.getF p) (p.length + 1 - i) names out i
def G.rch (p : Funs) (s : ByteArray) : Funs × Bool := G.rchX p [(s, ())] [] 0
def G.rkPre (p : Funs) (names : Strs) (there : List ByteArray) (out : Funs) (i : Int) : Bool := G.thin p && decide (there = names.map (fun x => x.1) ∧ 0 ≤ i ∧ i ≤ (names.length : Int) ∧ (out.length : Int) ≤ i ∧ (names.length : Int) ≤ 1 + 16 * i ∧ names.Nodup ∧ ∀ j, j < i.toNat → G.hasF p (G.sAt names j) = true)
noncomputable abbrev lsRch : LSpec := ⟨[1, 4, 5, 6, 7, 8, 9], [4, 5, 8], [GetK, FunsO, BoolP, .c (.own strT), .c .map, FunsO, IntP], [FunsO, BoolP, FunsO], true, fun x => G.rkPre x.1.1.1 x.2.2.2.1 x.2.2.2.2.1 x.2.2.2.2.2.1 x.2.2.2.2.2.2.1,
  fun x => ((if (G.rchX x.1.1.1 x.2.2.2.1 x.2.2.2.2.2.1 x.2.2.2.2.2.2.1.toNat).2 = true then 0 else 1, (if (G.rchX x.1.1.1 x.2.2.2.1 x.2.2.2.2.2.1 x.2.2.2.2.2.2.1.toNat).2 = true then x.2.1 else [], if (G.rchX x.1.1.1 x.2.2.2.1 x.2.2.2.2.2.1 x.2.2.2.2.2.2.1.toNat).2 = true then x.2.2.1 else false, (G.rchX x.1.1.1 x.2.2.2.1 x.2.2.2.2.2.1 x.2.2.2.2.2.2.1.toNat).1, ())), (x.1, ()))⟩
noncomputable abbrev cxRchL0 : Cx := mkCx T0 pr1 [(2, lsRchL2)] [] 60
theorem rRch (p r4 : Funs) (r5 : Bool) (names : Strs) (there : List ByteArray) (out : Funs) (i : Int) : roundK cxRchL0 0 (loopIn Go.Proofs.Try.f65 0) lsRch (((p, ()), ()), r4, r5, names, there, out, i, ()) =
  (if Decidable.decide (i < (↑(List.length names) : Int)) = Bool.true then
    if Decidable.decide ((0 : Int) ≤ i) = Bool.true then
      if Decidable.decide (i < (↑(List.length names) : Int)) = Bool.true then
        if Decidable.decide (Int.toNat i < List.length names) = Bool.true then
          if Go.Rx.G.few (List.length p) = Bool.true then
            if (!Go.Rx.G.hasF p (List.getD names (Int.toNat i) (ByteArray.empty, PUnit.unit)).1) = Bool.true then
              Option.some (Go.Rx.LRes.stop (1 : Nat) ([], Bool.false, out, PUnit.unit) (((p, PUnit.unit), PUnit.unit), PUnit.unit))
            else
              if Go.Rx.G.few (List.length (Go.Rx.G.getF p (List.getD names (Int.toNat i) (ByteArray.empty, PUnit.unit)).1).2.2.1) = Bool.true then
                if Go.Rx.okSize (48 : Nat) (List.length out + (1 : Nat)) = Bool.true then
                  if Go.Rx.G.few (List.length (Go.Rx.G.getF p (List.getD names (Int.toNat i) (ByteArray.empty, PUnit.unit)).1).2.2.1) = Bool.true then
                    if
                        Go.Rx.G.preRchL2 (Go.Rx.G.refsOf (Go.Rx.G.getF p (List.getD names (Int.toNat i) (ByteArray.empty, PUnit.unit)).1).2.2.1)
                            (↑(List.length (Go.Rx.G.refsOf (Go.Rx.G.getF p (List.getD names (Int.toNat i) (ByteArray.empty, PUnit.unit)).1).2.2.1)) : Int) (0 : Int) names there =
                          Bool.true then
                      Option.some
                        (Go.Rx.LRes.go
                          (((p, PUnit.unit), PUnit.unit), r4, r5,
                            (Go.Rx.G.fdRchL2 (Go.Rx.G.refsOf (Go.Rx.G.getF p (List.getD names (Int.toNat i) (ByteArray.empty, PUnit.unit)).1).2.2.1) (0 : Int)
                                (names, there, PUnit.unit)).1,
                            (Go.Rx.G.fdRchL2 (Go.Rx.G.refsOf (Go.Rx.G.getF p (List.getD names (Int.toNat i) (ByteArray.empty, PUnit.unit)).1).2.2.1) (0 : Int)
                                  (names, there, PUnit.unit)).2.1,
                            out ++ [Go.Rx.G.getF p (List.getD names (Int.toNat i) (ByteArray.empty, PUnit.unit)).1], Go.IntKind.wrap Go.IntKind.i64 (i + (1 : Int)), PUnit.unit))
                    else Option.none
                  else Option.none
                else Option.none
              else Option.none
          else Option.none
        else Option.none
      else Option.none
    else Option.none
  else Option.some (Go.Rx.LRes.stop (0 : Nat) (r4, r5, out, PUnit.unit) (((p, PUnit.unit), PUnit.unit), PUnit.unit))) := by kernel_rfl
noncomputable abbrev muRch : PKs.den lsRch.ins → Nat := fun x => x.1.1.1.length + 1 - x.2.2.2.2.2.2.1.toNat
theorem rkPre_iff {p : Funs} {names : Strs} {there : List ByteArray} {out : Funs} {i : Int} : G.rkPre p names there out i = true ↔ (G.thin p = true ∧ there = names.map (fun x => x.1) ∧ 0 ≤ i ∧ i ≤ (names.length : Int) ∧ (out.length : Int) ≤ i ∧ (names.length : Int) ≤ 1 + 16 * i ∧ names.Nodup ∧ ∀ j, j < i.toNat → G.hasF p (G.sAt names j) = true) := by
  unfold G.rkPre
  rw [Bool.and_eq_true, decide_eq_true_iff]
theorem getF_body {p : Funs} (h : G.thin p = true) (s : ByteArray) : (G.getF p s).2.2.1.length ≤ 16 := by
  unfold G.getF
  split
  · exact Nat.zero_le _
  · rename_i c
    exact (thin_iff.1 h).2 _ (find_ok c).1
theorem rch_le {p : Funs} {names : Strs} {i : Nat} (hn : names.Nodup) (hi : i ≤ names.length) (hf : ∀ j, j < i → G.hasF p (G.sAt names j) = true) : i ≤ p.length := by
  have := found_le (us := [(p, ())]) hn hi fun j hj => by rw [hasF_at3]; exact hf j hj
  rwa [total_one] at this
theorem stRch (p r4 : Funs) (r5 : Bool) (names : Strs) (there : List ByteArray) (out : Funs) (i : Int) (h : G.rkPre p names there out i = true) : StepOk lsRch (eqInv lsRch) muRch (((p, ()), ()), r4, r5, names, there, out, i, ()) (roundK cxRchL0 0 (loopIn Go.Proofs.Try.f65 0) lsRch (((p, ()), ()), r4, r5, names, there, out, i, ())) := by
  obtain ⟨h1, rfl, h4, h5, h6, h7, h8, h9⟩ := rkPre_iff.1 h
  have hlen := (thin_iff.1 h1).1
  have hle := rch_le h8 (show i.toNat ≤ names.length by omega) h9
  have hw : G.rchX p names out i.toNat = G.rwalk (G.hasF p) (G.getF p) ((p.length - i.toNat) + 1) names out i.toNat := by
    unfold G.rchX
    rw [show p.length + 1 - i.toNat = (p.length - i.toNat) + 1 by omega]
  rw [rwalk_succ] at hw
  rw [rRch, sAt_eq]
  by_cases hi : i < (names.length : Int)
  · have hin : i.toNat < names.length := by omega
    rw [if_pos hin] at hw
    rw [if_pos (decide_eq_true hi), if_pos (decide_eq_true h4), if_pos (decide_eq_true hi), if_pos (decide_eq_true hin), if_pos (few_iff.2 (by omega))]
    cases ho : G.hasF p (G.sAt names i.toNat) with
    | false =>
      rw [ho, if_neg (by decide)] at hw
      rw [if_pos (by rfl)]
      show ((if (G.rchX p names out i.toNat).2 = true then 0 else 1, (if (G.rchX p names out i.toNat).2 = true then r4 else [], if (G.rchX p names out i.toNat).2 = true then r5 else false, (G.rchX p names out i.toNat).1, ())), (((p, ()), ()), ())) = _
      rw [hw]
      rfl
    | true =>
      rw [ho, if_pos rfl] at hw
      have hb := getF_body h1 (G.sAt names i.toNat)
      rw [if_neg (by decide)]
      generalize G.getF p (G.sAt names i.toNat) = f at hw hb ⊢
      have hrl := refsOf_len f.2.2.1
      have hle1 := rch_le (i := i.toNat + 1) h8 (by omega) fun j hj => by
        by_cases hji : j = i.toNat
        · rw [hji]
          exact ho
        · exact h9 j (by omega)
      have hp2 : G.preRchL2 (G.refsOf f.2.2.1) ((G.refsOf f.2.2.1).length : Int) 0 names (names.map fun x => x.1) = true := preRchL2_iff.2 ⟨⟨by omega, by omega, by omega⟩, rfl, decide_eq_true ⟨by omega, by omega⟩⟩
      rw [if_pos (few_iff.2 (by omega)), if_pos (okSize_few (by omega) (by omega)), if_pos (few_iff.2 (by omega)), if_pos hp2, w64 (by omega) (by omega), rch_all]
      obtain ⟨ext, x1, x2, x3⟩ := addAll_ext (G.refsOf f.2.2.1) names
      have e1 : (i + 1).toNat = i.toNat + 1 := by omega
      refine ⟨(show G.rkPre p (G.addAll (G.refsOf f.2.2.1) names) ((G.addAll (G.refsOf f.2.2.1) names).map fun x => x.1) (out ++ [f]) (i + 1) = true from rkPre_iff.2 ⟨h1, rfl, by omega, ?_, ?_, ?_, ?_, ?_⟩), ?_, ?_⟩
      · rw [x1, List.length_append]
        omega
      · simp
        omega
      · rw [x1, List.length_append]
        omega
      · rw [x1]
        exact x3 h8
      · intro j hj
        rw [e1] at hj
        rw [x1, sAt_append (by omega)]
        by_cases hji : j = i.toNat
        · rw [hji]
          exact ho
        · exact h9 j (by omega)
      · show p.length + 1 - (i + 1).toNat < p.length + 1 - i.toNat
        omega
      · have hx : G.rchX p (G.addAll (G.refsOf f.2.2.1) names) (out ++ [f]) (i + 1).toNat = G.rchX p names out i.toNat := by
          rw [hw, e1]
          unfold G.rchX
          rw [show p.length + 1 - (i.toNat + 1) = p.length - i.toNat by omega]
        show ((if (G.rchX p (G.addAll (G.refsOf f.2.2.1) names) (out ++ [f]) (i + 1).toNat).2 = true then 0 else 1, (if (G.rchX p (G.addAll (G.refsOf f.2.2.1) names) (out ++ [f]) (i + 1).toNat).2 = true then r4 else [], if (G.rchX p (G.addAll (G.refsOf f.2.2.1) names) (out ++ [f]) (i + 1).toNat).2 = true then r5 else false, (G.rchX p (G.addAll (G.refsOf f.2.2.1) names) (out ++ [f]) (i + 1).toNat).1, ())), (((p, ()), ()), ())) = _
        rw [hx]
  · rw [if_neg (by omega)] at hw
    rw [if_neg (by simpa using hi)]
    show ((if (G.rchX p names out i.toNat).2 = true then 0 else 1, (if (G.rchX p names out i.toNat).2 = true then r4 else [], if (G.rchX p names out i.toNat).2 = true then r5 else false, (G.rchX p names out i.toNat).1, ())), (((p, ()), ()), ())) = _
    rw [hw]
    rfl
theorem lpRch : LpOk Go.Proofs.Try.prog cxRchL0.ntmps 0 (loopIn Go.Proofs.Try.f65 0) lsRch :=
  lp_okB (cx := cxRchL0) (cxOk T0_ok T0_eq pr1_ok) mixed (by kernel_rfl) (lps_of (l := [(2, loopIn Go.Proofs.Try.f65 2)]) (by kernel_rfl) ⟨lp_at lpRchL2 rfl, trivial⟩) (eqInv lsRch) muRch (fun _ h => h) (fun x h => stRch x.1.1.1 x.2.1 x.2.2.1 x.2.2.2.1 x.2.2.2.2.1 x.2.2.2.2.2.1 x.2.2.2.2.2.2.1 h)
/-! Reached -/
noncomputable abbrev spReached : Spec := ⟨[StrP, GetK], .tup [FunsO, BoolP], true, fun x => G.thin x.2.1.1.1, fun x => ((if (G.rch x.2.1.1.1 x.1).2 = true then (G.rch x.2.1.1.1 x.1).1 else [], (G.rch x.2.1.1.1 x.1).2, ()), (x.2.1, ()))⟩
noncomputable abbrev cxReached : Cx := mkCx T0 pr1 [(0, lsRch)] [] 60
theorem eReached (s : ByteArray) (p : Funs) : funK cxReached Go.Proofs.Try.f65 spReached.ins spReached.out (s, ((p, ()), ()), ()) =
  (if Go.Rx.G.rkPre p [(s, PUnit.unit)] (bif Go.Rx.hasK s [] then [] else [s]) [] (0 : Int) = Bool.true then
    if (if (Go.Rx.G.rchX p [(s, PUnit.unit)] [] (Int.toNat (0 : Int))).2 = Bool.true then (0 : Nat) else (1 : Nat)) = (0 : Nat) then
      Option.some (((Go.Rx.G.rchX p [(s, PUnit.unit)] [] (Int.toNat (0 : Int))).1, Bool.true, PUnit.unit), ((p, PUnit.unit), PUnit.unit), PUnit.unit)
    else
      if (if (Go.Rx.G.rchX p [(s, PUnit.unit)] [] (Int.toNat (0 : Int))).2 = Bool.true then (0 : Nat) else (1 : Nat)) = (1 : Nat) then
        Option.some
          ((if (Go.Rx.G.rchX p [(s, PUnit.unit)] [] (Int.toNat (0 : Int))).2 = Bool.true then [] else [],
              if (Go.Rx.G.rchX p [(s, PUnit.unit)] [] (Int.toNat (0 : Int))).2 = Bool.true then Bool.false else Bool.false, PUnit.unit),
            ((p, PUnit.unit), PUnit.unit), PUnit.unit)
      else Option.none
  else Option.none) := by kernel_rfl
theorem sfReached (s : ByteArray) (p : Funs) (h : G.thin p = true) : funK cxReached Go.Proofs.Try.f65 spReached.ins spReached.out (s, ((p, ()), ()), ()) = some ((if (G.rch p s).2 = true then (G.rch p s).1 else [], (G.rch p s).2, ()), (((p, ()), ()), ())) := by
  have hp : G.rkPre p [(s, ())] [s] [] 0 = true := rkPre_iff.2 ⟨h, rfl, by omega, by simp, by simp, by simp, by simp, fun j hj => absurd hj (by simp)⟩
  rw [eReached, show (bif Go.Rx.hasK s [] then [] else [s]) = [s] from rfl, if_pos hp, show Int.toNat 0 = 0 from rfl, show G.rchX p [(s, ())] [] 0 = G.rch p s from rfl]
  cases (G.rch p s).2 <;> rfl
theorem okReached : SpecOk Go.Proofs.Try.prog 65 spReached :=
  fun_okB (cx := cxReached) (F := Go.Proofs.Try.f65) (cxOk T0_ok T0_eq pr1_ok) mixed (by kernel_rfl) (by decide) (by kernel_rfl) (lps_of (l := [(0, loopIn Go.Proofs.Try.f65 0)]) (by kernel_rfl) ⟨lp_at lpRch rfl, trivial⟩) (fun x h => sfReached x.1 x.2.1.1.1 h)
noncomputable abbrev pr2 : List (Nat × List Spec) := (65, [spReached]) :: pr1
theorem pr2_ok : PhiOk Go.Proofs.Try.prog pr2 := ⟨⟨okReached, trivial⟩, pr1_ok⟩
end Go.Rx

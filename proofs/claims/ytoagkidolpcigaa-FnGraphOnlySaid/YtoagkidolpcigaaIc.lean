/-
  REACHED: the reference's functions over what is reached.
-/
import Derived.Test.YtoagkidolpcigaaIb
namespace Go.Rx
open Go
set_option linter.unusedVariables false
set_option linter.unusedSimpArgs false
theorem walkF_one (p : Funs) (s : ByteArray) : G.walkF [(p, ())] s = G.rch p s := by
  unfold G.walkF G.walkX G.rch G.rchX
  rw [total_one, walk_rwalk]
  exact rwalk_congr (fun s => hasF_at3 p s) (fun s h => getF_at3 (by rw [← hasF_at3]; exact h)) _ _ _ _
theorem walkL_one (p : Funs) (s : ByteArray) : (if (G.walkF [(p, ())] s).2 = true then (G.walkF [(p, ())] s).1 else []) = G.rchL p s := by rw [walkF_one]; rfl
theorem thin_U {p : Funs} (h : G.thin p = true) : G.thinU [(p, ())] = true := by
  obtain ⟨h1, h2⟩ := thin_iff.1 h
  unfold G.thin at h
  rw [Bool.and_eq_true] at h
  refine thinU_iff.2 ⟨⟨?_, ?_⟩, by rw [total_one]; omega⟩
  · unfold G.fewU
    rw [Bool.and_eq_true]
    exact ⟨rfl, by simp [few_iff]; omega⟩
  · rw [List.all_cons, h.2]
    rfl
theorem rwalk_all (q : ByteArray → Bool) (f : ByteArray → Fun) (P : Fun → Prop) (hP : ∀ s, P (f s)) : ∀ (n : Nat) (names : Strs) (out : Funs) (i : Nat), (∀ x ∈ out, P x) → ∀ x ∈ (G.rwalk q f n names out i).1, P x
  | 0, _, out, _, h => h
  | n + 1, names, out, i, h => by
    rw [rwalk_succ]
    split
    · split
      · refine rwalk_all q f P hP n _ _ _ fun x hx => ?_
        rcases List.mem_append.1 hx with hx | hx
        · exact h x hx
        · rw [List.mem_singleton] at hx
          subst hx
          exact hP _
      · exact h
    · exact h
def G.thinP (p : Funs) : Bool := decide (p.length ≤ 65536) && p.all (fun f => decide (f.2.2.1.length ≤ 16))
theorem rchL_thin {p : Funs} (h : G.thin p = true) (s : ByteArray) : G.thinP (G.rchL p s) = true := by
  have h1 := (thin_iff.1 h).1
  have h2 := rchL_len p s
  unfold G.thinP
  rw [Bool.and_eq_true, List.all_eq_true]
  refine ⟨decide_eq_true (by omega), fun x hx => decide_eq_true ?_⟩
  unfold G.rchL at hx
  split at hx
  · exact rwalk_all _ _ (fun x => x.2.2.1.length ≤ 16) (fun s => getF_body h s) _ _ _ _ (fun x hx => by cases hx) x hx
  · cases hx
theorem thinP_iff {p : Funs} : G.thinP p = true ↔ (p.length ≤ 65536 ∧ ∀ k, k < p.length → (G.pAt p k).2.2.1.length ≤ 16) := by
  unfold G.thinP
  rw [Bool.and_eq_true, decide_eq_true_iff]
  constructor
  · rintro ⟨h1, h2⟩
    exact ⟨h1, fun k hk => of_decide_eq_true (all_getD (ByteArray.empty, false, [], ()) h2 hk)⟩
  · rintro ⟨h1, h2⟩
    refine ⟨h1, ?_⟩
    rw [List.all_eq_true]
    intro x hx
    obtain ⟨k, hk, rfl⟩ := List.getElem_of_mem hx
    have := h2 k hk
    unfold G.pAt at this
    rw [getD_lt _ _ hk] at this
    exact decide_eq_true this
/-! a copy -/
/-! CopyL: a gathering -/
def G.preCopyL (u : Funs) (i : Int) (out : Funs) : Bool := G.preA (u.length) i && (true && (G.thinP u && decide ((out.length : Int) ≤ i)))
theorem preCopyL_iff {u : Funs} {i : Int} {out : Funs} : G.preCopyL u i out = true ↔ (0 ≤ i ∧ i ≤ ((u.length : Nat) : Int) ∧ (u.length : Nat) ≤ 1099511627776) ∧ True ∧ (G.thinP u && decide ((out.length : Int) ≤ i)) = true := by simp [G.preCopyL, preA_iff]
def G.oneCopyL (u : Funs) (a : Funs × Unit) (k : Nat) : Funs × Unit := (a.1 ++ [G.pAt u k], ())
def G.fdCopyL (u : Funs) (i : Int) (a : Funs × Unit) : Funs × Unit := G.fold (G.oneCopyL u) (u.length) i a
noncomputable abbrev lsCopyL : LSpec := ⟨[0, 3, 4], [3], [FunSP, .c (.own funT), IntP], [.c (.own funT)], true, fun x => G.preCopyL x.1 x.2.2.1 x.2.1,
  fun x => ((0, G.fdCopyL x.1 x.2.2.1 (x.2.1, ())), ())⟩
noncomputable abbrev clCopyL : Cx := mkCx T0 pr10 [(0, lsCopyL)] [] 34
theorem rCopyL (u : Funs) (out : Funs) (i : Int) : roundK clCopyL 0 (loopIn Go.Proofs.Try.f54 0) lsCopyL (u, out, i, ()) =
  (if Decidable.decide (i < (↑(List.length u) : Int)) = Bool.true then
    if Decidable.decide ((0 : Int) ≤ i) = Bool.true then
      if Decidable.decide (i < (↑(List.length u) : Int)) = Bool.true then
        if Decidable.decide ((0 : Int) ≤ i) = Bool.true then
          if Decidable.decide (i < (↑(List.length u) : Int)) = Bool.true then
            if Decidable.decide ((0 : Int) ≤ i) = Bool.true then
              if Decidable.decide (i < (↑(List.length u) : Int)) = Bool.true then
                if Go.Rx.okSize (32 : Nat) ((0 : Nat) + List.length (List.getD u (Int.toNat i) (ByteArray.empty, Bool.false, [], PUnit.unit)).2.2.1) = Bool.true then
                  if Go.Rx.okSize (48 : Nat) (List.length out + (1 : Nat)) = Bool.true then
                    Option.some
                      (Go.Rx.LRes.go
                        (u, out ++ [List.getD u (Int.toNat i) (ByteArray.empty, Bool.false, [], PUnit.unit)], Go.IntKind.wrap Go.IntKind.i64 (i + (1 : Int)), PUnit.unit))
                  else Option.none
                else Option.none
              else Option.none
            else Option.none
          else Option.none
        else Option.none
      else Option.none
    else Option.none
  else Option.some (Go.Rx.LRes.stop (0 : Nat) (out, PUnit.unit) PUnit.unit)) := by kernel_rfl
noncomputable abbrev muCopyL : PKs.den lsCopyL.ins → Nat := fun x => (x.1.length) - x.2.2.1.toNat
theorem stCopyL (u : Funs) (out : Funs) (i : Int) (h : G.preCopyL u i out = true) : StepOk lsCopyL (eqInv lsCopyL) muCopyL (u, out, i, ()) (roundK clCopyL 0 (loopIn Go.Proofs.Try.f54 0) lsCopyL (u, out, i, ())) := by
  obtain ⟨⟨h0, h1, h2⟩, hn, hc⟩ := preCopyL_iff.1 h
  rw [rCopyL]
  by_cases hi : i < ((u.length : Nat) : Int)
  · have hw : IntKind.i64.wrap (i + 1) = i + 1 := w64 (by omega) (by omega)
    have hs : G.fdCopyL u i (out, ()) = G.fdCopyL u (i + 1) (G.oneCopyL u (out, ()) i.toNat) := fold_step h0 hi
    refine fold_go (eqInv lsCopyL) muCopyL (u, (G.oneCopyL u (out, ()) i.toNat).1, i + 1, ()) ?_ (show G.preCopyL u (i + 1) (G.oneCopyL u (out, ()) i.toNat).1 = true from preCopyL_iff.2 ⟨⟨by omega, by omega, h2⟩, trivial, ?_⟩) ?_ ?_
    · rw [Bool.and_eq_true, decide_eq_true_iff] at hc
      obtain ⟨hc1, hc2⟩ := hc
      have hb := (thinP_iff.1 hc1).2 i.toNat (by omega)
      have o1 : Go.Rx.okSize 32 (0 + (G.pAt u i.toNat).2.2.1.length) = true := okSize_few (by omega) (by omega)
      have o2 : Go.Rx.okSize 48 (out.length + 1) = true := okSize_few (by omega) (by omega)
      simp only [hi, h0, pAt_eq, o1, o2, hw, decide_true, if_true]
      rfl
    · rw [Bool.and_eq_true, decide_eq_true_iff] at hc ⊢
      exact ⟨hc.1, show (((out ++ [G.pAt u i.toNat]).length : Nat) : Int) ≤ i + 1 by have := hc.2; simp; omega⟩
    · show (u.length) - (i + 1).toNat < (u.length) - i.toNat
      omega
    · show ((_, _), _) = ((_, _), _)
      simp only [hs]
  · have hs : G.fdCopyL u i (out, ()) = (out, ()) := fold_end (by omega)
    skip
    rw [if_neg (by simpa using hi)]
    show ((_, _), _) = ((_, _), _)
    simp only [hs]
theorem lpCopyL : LpOk Go.Proofs.Try.prog clCopyL.ntmps 0 (loopIn Go.Proofs.Try.f54 0) lsCopyL :=
  lp_okB (cxOk T0_ok T0_eq pr10_ok) mixed (by kernel_rfl) (lps_none (by kernel_rfl)) (eqInv lsCopyL) muCopyL (fun _ h => h) (fun x h => stCopyL x.1 x.2.1 x.2.2.1 h)
def G.copyL (u : Funs) : Funs := G.fold (fun (out : Funs) k => out ++ [G.pAt u k]) u.length 0 []
theorem copyL_eq (l : Funs) : G.copyL l = l := by
  unfold G.copyL G.fold
  rw [range_zero]
  have key : ∀ (n : Nat), n ≤ l.length → (List.range n).foldl (fun (out : Funs) k => out ++ [G.pAt l k]) [] = l.take n := by
    intro n
    induction n with
    | zero => intro _; rfl
    | succ n ih =>
      intro hn
      rw [List.range_succ, List.foldl_append, ih (by omega), List.take_succ_eq_append_getElem (show n < l.length by omega), List.foldl_cons, List.foldl_nil]
      unfold G.pAt
      rw [getD_lt l _ (show n < l.length by omega)]
  rw [key l.length (Nat.le_refl _), List.take_length]
/-! L2Copy -/
noncomputable abbrev spL2Copy : Spec := ⟨[FunSP], .one FunsO, true, fun x => G.thinP x.1, fun x => (x.1, ())⟩
noncomputable abbrev cxL2Copy : Cx := mkCx T0 pr10 [(0, lsCopyL)] [] 34
theorem eL2Copy (u : Funs) : funK cxL2Copy Go.Proofs.Try.f54 spL2Copy.ins spL2Copy.out (u, ()) =
  (if Go.Rx.G.preCopyL u (0 : Int) [] = Bool.true then Option.some (Go.Rx.G.fdCopyL u (0 : Int) ([], PUnit.unit)) else Option.none) := by kernel_rfl
theorem sfL2Copy (u : Funs) (h : G.thinP u = true) : funK cxL2Copy Go.Proofs.Try.f54 spL2Copy.ins spL2Copy.out (u, ()) = some (u, ()) := by
  have h1 := (thinP_iff.1 h).1
  rw [eL2Copy, if_pos (preCopyL_iff.2 ⟨⟨by omega, by omega, by omega⟩, trivial, by rw [Bool.and_eq_true]; exact ⟨h, decide_eq_true (by simp)⟩⟩)]
  have e := fold_unit (fun (out : Funs) k => out ++ [G.pAt u k]) u.length 0 []
  rw [show G.fold (fun (out : Funs) k => out ++ [G.pAt u k]) u.length 0 [] = G.copyL u from rfl, copyL_eq] at e
  exact congrArg some e
theorem okL2Copy : SpecOk Go.Proofs.Try.prog 54 spL2Copy :=
  fun_okB (cx := cxL2Copy) (F := Go.Proofs.Try.f54) (cxOk T0_ok T0_eq pr10_ok) mixed (by kernel_rfl) (by decide) (by kernel_rfl) (lps_of (l := [(0, loopIn Go.Proofs.Try.f54 0)]) (by kernel_rfl) ⟨lp_at lpCopyL rfl, trivial⟩) (fun x h => sfL2Copy x.1 h)
noncomputable abbrev pr11 : List (Nat × List Spec) := (54, [spL2Copy]) :: (20, [spSpKeepOk]) :: pr10
theorem pr11_ok : PhiOk Go.Proofs.Try.prog pr11 := ⟨⟨okL2Copy, trivial⟩, ⟨okSpKeepOk, trivial⟩, pr10_ok⟩
/-! SpKeepOnly -/
noncomputable abbrev spSpKeepOnly : Spec := ⟨[FunSP], .one FunsO, true, fun x => G.smallP x.1, fun x => (G.keepOnly x.1, ())⟩
noncomputable abbrev cxSpKeepOnly : Cx := mkCx T0 pr11 [] [] 21
theorem eSpKeepOnly (p : Funs) : funK cxSpKeepOnly Go.Proofs.Try.f23 spSpKeepOnly.ins spSpKeepOnly.out (p, ()) =
  (if Go.Rx.G.smallP p = Bool.true then
    if (!Go.Rx.G.keepOk p) = Bool.true then Option.some ([], PUnit.unit)
    else
      if Decidable.decide ((0 : Int) ≤ (0 : Int)) = Bool.true then
        if Decidable.decide ((0 : Int) < (↑(List.length p) : Int)) = Bool.true then
          if Go.Rx.G.thinU [(p, PUnit.unit)] = Bool.true then
            if
                Go.Rx.G.thinP
                    (if (Go.Rx.G.walkF [(p, PUnit.unit)] (List.getD p (Int.toNat (0 : Int)) (ByteArray.empty, Bool.false, [], PUnit.unit)).1).2 = Bool.true then
                      (Go.Rx.G.walkF [(p, PUnit.unit)] (List.getD p (Int.toNat (0 : Int)) (ByteArray.empty, Bool.false, [], PUnit.unit)).1).1
                    else []) =
                  Bool.true then
              Option.some
                (if (Go.Rx.G.walkF [(p, PUnit.unit)] (List.getD p (Int.toNat (0 : Int)) (ByteArray.empty, Bool.false, [], PUnit.unit)).1).2 = Bool.true then
                    (Go.Rx.G.walkF [(p, PUnit.unit)] (List.getD p (Int.toNat (0 : Int)) (ByteArray.empty, Bool.false, [], PUnit.unit)).1).1
                  else [],
                  PUnit.unit)
            else Option.none
          else Option.none
        else Option.none
      else Option.none
  else Option.none) := by kernel_rfl
theorem sfSpKeepOnly (p : Funs) (h : G.smallP p = true) : funK cxSpKeepOnly Go.Proofs.Try.f23 spSpKeepOnly.ins spSpKeepOnly.out (p, ()) = some (G.keepOnly p, ()) := by
  rw [eSpKeepOnly, if_pos h]
  unfold G.keepOnly
  cases hk : G.keepOk p with
  | false => rfl
  | true =>
    have ht := keepOk_thin hk
    have h1 : 1 ≤ p.length := by
      unfold G.keepOk at hk
      rw [Bool.and_eq_true, decide_eq_true_iff] at hk
      exact hk.1.1
    rw [if_neg (by decide)]
    simp only [show (0 : Int) < (p.length : Int) by omega, show Int.toNat 0 < p.length by simp; omega, decide_true, if_true, thin_U ht, walkL_one, rchL_thin ht]
    rfl
theorem okSpKeepOnly : SpecOk Go.Proofs.Try.prog 23 spSpKeepOnly :=
  fun_okB (cx := cxSpKeepOnly) (F := Go.Proofs.Try.f23) (cxOk T0_ok T0_eq pr11_ok) mixed (by kernel_rfl) (by decide) (by kernel_rfl) (lps_none (by kernel_rfl)) (fun x h => sfSpKeepOnly x.1 h)
/-! names put in order -/
/-! SpRchL: a gathering -/
def G.preSpRchL (l : Funs) (i : Int) (out : Strs) : Bool := G.preA (l.length) i && (true && decide ((out.length : Int) ≤ i ∧ l.length ≤ 65536))
theorem preSpRchL_iff {l : Funs} {i : Int} {out : Strs} : G.preSpRchL l i out = true ↔ (0 ≤ i ∧ i ≤ ((l.length : Nat) : Int) ∧ (l.length : Nat) ≤ 1099511627776) ∧ True ∧ decide ((out.length : Int) ≤ i ∧ l.length ≤ 65536) = true := by simp [G.preSpRchL, preA_iff]
def G.oneSpRchL (l : Funs) (a : Strs × Unit) (k : Nat) : Strs × Unit := (G.put a.1 (G.pAt l k).1, ())
def G.fdSpRchL (l : Funs) (i : Int) (a : Strs × Unit) : Strs × Unit := G.fold (G.oneSpRchL l) (l.length) i a
noncomputable abbrev lsSpRchL : LSpec := ⟨[5, 7, 8], [7], [FunSP, .c (.own strT), IntP], [.c (.own strT)], false, fun x => G.preSpRchL x.1 x.2.2.1 x.2.1,
  fun x => ((0, G.fdSpRchL x.1 x.2.2.1 (x.2.1, ())), ())⟩
noncomputable abbrev clSpRchL : Cx := mkCx T0 pr11 [(0, lsSpRchL)] [] 41
theorem rSpRchL (l : Funs) (out : Strs) (i : Int) : roundK clSpRchL 0 (loopIn Go.Proofs.Try.f13 0) lsSpRchL (l, out, i, ()) =
  (if Decidable.decide (i < (↑(List.length l) : Int)) = Bool.true then
    if Decidable.decide ((0 : Int) ≤ i) = Bool.true then
      if Decidable.decide (i < (↑(List.length l) : Int)) = Bool.true then
        if Decidable.decide (List.length out ≤ (1048576 : Nat)) = Bool.true then
          Option.some
            (Go.Rx.LRes.go
              (l, Go.Rx.G.put out (List.getD l (Int.toNat i) (ByteArray.empty, Bool.false, [], PUnit.unit)).1, Go.IntKind.wrap Go.IntKind.i64 (i + (1 : Int)), PUnit.unit))
        else Option.none
      else Option.none
    else Option.none
  else Option.some (Go.Rx.LRes.stop (0 : Nat) (out, PUnit.unit) PUnit.unit)) := by kernel_rfl
noncomputable abbrev muSpRchL : PKs.den lsSpRchL.ins → Nat := fun x => (x.1.length) - x.2.2.1.toNat
theorem stSpRchL (l : Funs) (out : Strs) (i : Int) (h : G.preSpRchL l i out = true) : StepOk lsSpRchL (eqInv lsSpRchL) muSpRchL (l, out, i, ()) (roundK clSpRchL 0 (loopIn Go.Proofs.Try.f13 0) lsSpRchL (l, out, i, ())) := by
  obtain ⟨⟨h0, h1, h2⟩, hn, hc⟩ := preSpRchL_iff.1 h
  rw [rSpRchL]
  by_cases hi : i < ((l.length : Nat) : Int)
  · have hw : IntKind.i64.wrap (i + 1) = i + 1 := w64 (by omega) (by omega)
    have hs : G.fdSpRchL l i (out, ()) = G.fdSpRchL l (i + 1) (G.oneSpRchL l (out, ()) i.toNat) := fold_step h0 hi
    refine fold_go (eqInv lsSpRchL) muSpRchL (l, (G.oneSpRchL l (out, ()) i.toNat).1, i + 1, ()) ?_ (show G.preSpRchL l (i + 1) (G.oneSpRchL l (out, ()) i.toNat).1 = true from preSpRchL_iff.2 ⟨⟨by omega, by omega, h2⟩, trivial, ?_⟩) ?_ ?_
    · have hl := of_decide_eq_true hc
      simp only [hi, h0, pAt_eq, show out.length ≤ 1048576 by omega, hw, decide_true, if_true]
      rfl
    · have hc := of_decide_eq_true hc
      have hp := put_len out (G.pAt l i.toNat).1
      exact decide_eq_true (show (((G.put out (G.pAt l i.toNat).1).length : Nat) : Int) ≤ i + 1 ∧ l.length ≤ 65536 by omega)
    · show (l.length) - (i + 1).toNat < (l.length) - i.toNat
      omega
    · show ((_, _), _) = ((_, _), _)
      simp only [hs]
  · have hs : G.fdSpRchL l i (out, ()) = (out, ()) := fold_end (by omega)
    skip
    rw [if_neg (by simpa using hi)]
    show ((_, _), _) = ((_, _), _)
    simp only [hs]
theorem lpSpRchL : LpOk Go.Proofs.Try.prog clSpRchL.ntmps 0 (loopIn Go.Proofs.Try.f13 0) lsSpRchL :=
  lp_okB (cxOk T0_ok T0_eq pr11_ok) mixed (by kernel_rfl) (lps_none (by kernel_rfl)) (eqInv lsSpRchL) muSpRchL (fun _ h => h) (fun x h => stSpRchL x.1 x.2.1 x.2.2.1 h)
def G.putL (l : Funs) : Strs := G.fold (fun (out : Strs) k => G.put out (G.pAt l k).1) l.length 0 []
def G.spReach (p : Funs) (s : ByteArray) : Strs := if G.keepOk p = true ∧ ¬ G.find p s < 0 then G.putL (G.rchL p s) else []
/-! SpKeepReach -/
noncomputable abbrev spSpKeepReach : Spec := ⟨[FunSP, StrP], .one (.c (.own strT)), false, fun x => G.smallP x.1, fun x => (G.spReach x.1 x.2.1, ())⟩
noncomputable abbrev cxSpKeepReach : Cx := mkCx T0 pr11 [(0, lsSpRchL)] [] 41
theorem eSpKeepReach (p : Funs) (s : ByteArray) : funK cxSpKeepReach Go.Proofs.Try.f13 spSpKeepReach.ins spSpKeepReach.out (p, s, ()) =
  (if Go.Rx.G.smallP p = Bool.true then
    if (!Go.Rx.G.keepOk p) = Bool.false then
      if Go.Rx.G.few (List.length p) = Bool.true then
        if Decidable.decide (Go.Rx.G.find p s < (0 : Int)) = Bool.true then Option.some ([], PUnit.unit)
        else
          if Go.Rx.G.thinU [(p, PUnit.unit)] = Bool.true then
            if
                Go.Rx.G.preSpRchL (if (Go.Rx.G.walkF [(p, PUnit.unit)] s).2 = Bool.true then (Go.Rx.G.walkF [(p, PUnit.unit)] s).1 else []) (0 : Int) [] =
                  Bool.true then
              Option.some
                (Go.Rx.G.fdSpRchL (if (Go.Rx.G.walkF [(p, PUnit.unit)] s).2 = Bool.true then (Go.Rx.G.walkF [(p, PUnit.unit)] s).1 else []) (0 : Int)
                  ([], PUnit.unit))
            else Option.none
          else Option.none
      else Option.none
    else Option.some ([], PUnit.unit)
  else Option.none) := by kernel_rfl
theorem sfSpKeepReach (p : Funs) (s : ByteArray) (h : G.smallP p = true) : funK cxSpKeepReach Go.Proofs.Try.f13 spSpKeepReach.ins spSpKeepReach.out (p, s, ()) = some (G.spReach p s, ()) := by
  rw [eSpKeepReach, if_pos h]
  unfold G.spReach
  cases hk : G.keepOk p with
  | false => simp
  | true =>
    have ht := keepOk_thin hk
    have hl := (thin_iff.1 ht).1
    have hr := rchL_len p s
    rw [if_pos (by rfl), if_pos (few_iff.2 (by omega))]
    by_cases c : G.find p s < 0
    · rw [if_pos (decide_eq_true c), if_neg (fun e => e.2 c)]
    · rw [if_neg (by simpa using c), if_pos (thin_U ht), walkL_one, if_pos (preSpRchL_iff.2 ⟨⟨by omega, by omega, by omega⟩, trivial, decide_eq_true ⟨by simp, by omega⟩⟩), if_pos ⟨rfl, c⟩]
      exact congrArg some (fold_unit (fun (out : Strs) k => G.put out (G.pAt (G.rchL p s) k).1) (G.rchL p s).length 0 [])
theorem okSpKeepReach : SpecOk Go.Proofs.Try.prog 13 spSpKeepReach :=
  fun_okB (cx := cxSpKeepReach) (F := Go.Proofs.Try.f13) (cxOk T0_ok T0_eq pr11_ok) mixed (by kernel_rfl) (by decide) (by kernel_rfl) (lps_of (l := [(0, loopIn Go.Proofs.Try.f13 0)]) (by kernel_rfl) ⟨lp_at lpSpRchL rfl, trivial⟩) (fun x h => sfSpKeepReach x.1 x.2.1 h)
end Go.Rx

/-
  THE LAW on leaves: a leaf reaches itself alone, and does not come back.
-/
import Derived.Test.YtoagkidolpcigaaIg
namespace Go.Rx
open Go
set_option linter.unusedVariables false
set_option linter.unusedSimpArgs false
theorem mem_named {p : Funs} (hk : G.keepOk p = true) {q : Fun → Bool} {x : ByteArray × Unit} : x ∈ G.named q p ↔ ∃ k, k < p.length ∧ q (G.pAt p k) = true ∧ x = ((G.pAt p k).1, ()) := by
  unfold G.named
  rw [if_pos hk, (ordered_strict _).2]
  unfold G.namesIf
  rw [fold_mem (f := G.nameIf q p) (Q := fun k x => q (G.pAt p k) = true ∧ x = ((G.pAt p k).1, ())) (fun a k x => ?_)]
  · simp
  · unfold G.nameIf
    by_cases c : q (G.pAt p k) = true
    · simp [c]
    · simp [c]
theorem pAt_name {p : Funs} (hk : G.keepOk p = true) {i j : Nat} (hi : i < p.length) (hj : j < p.length) (e : (G.pAt p i).1 = (G.pAt p j).1) : i = j := funsOk_uniq ((keepOk_iff p).1 hk).2.1 i j hi hj e
theorem named_has {p : Funs} (hk : G.keepOk p = true) {q : Fun → Bool} {k : Nat} (h : k < p.length) : G.hasS (G.named q p) (G.pAt p k).1 = q (G.pAt p k) := by
  rw [Bool.eq_iff_iff, hasS_iff, mem_named hk]
  constructor
  · rintro ⟨j, hj, hq, e⟩
    rw [pAt_name hk h hj (congrArg (fun q : ByteArray × Unit => q.1) e)]
    exact hq
  · intro hq
    exact ⟨k, h, hq, rfl⟩
theorem leaf_refs {f : Fun} (h : G.leafF f = true) : G.refsOf f.2.2.1 = [] := by
  have := of_decide_eq_true h
  exact List.length_eq_zero_iff.1 (by omega)
theorem leaf_reach {p : Funs} (hk : G.keepOk p = true) {k : Nat} (h : k < p.length) (hq : G.leafF (G.pAt p k) = true) : G.keepReach p (G.pAt p k).1 = [((G.pAt p k).1, ())] := by
  obtain ⟨h1, h2⟩ := getF_self hk h
  refine strict_eq (reach_strict _ _) (List.pairwise_singleton _ _) fun x => ?_
  obtain ⟨t, u⟩ := x
  rw [mem_reach hk h1, Rc.unfold, h2, leaf_refs hq, List.mem_singleton]
  constructor
  · rintro (rfl | ⟨u, hu, _⟩)
    · rfl
    · cases hu
  · intro e
    exact .inl (congrArg (fun q : ByteArray × Unit => q.1) e)
theorem leaf_back {p : Funs} {f : Fun} (hq : G.leafF f = true) : G.backF p f = false := by
  unfold G.backF
  rw [leaf_refs hq]
  rfl
def G.leafOk (p : Funs) (l b : Strs) : Bool := decide (∀ k, k < l.length → G.keepReach p (G.sAt l k) = [(G.sAt l k, ())] ∧ G.hasS b (G.sAt l k) = false)
theorem leafOk_named (p : Funs) : G.leafOk p (G.named G.leafF p) (G.named (G.backF p) p) = true := by
  refine decide_eq_true fun k hk => ?_
  by_cases ho : G.keepOk p = true
  · have hm : (G.named G.leafF p)[k] ∈ G.named G.leafF p := List.getElem_mem hk
    rw [← sAt_get hk] at hm
    obtain ⟨j, hj, hq, e⟩ := (mem_named ho).1 hm
    have e : G.sAt (G.named G.leafF p) k = (G.pAt p j).1 := congrArg (fun q : ByteArray × Unit => q.1) e
    rw [e]
    exact ⟨leaf_reach ho hj hq, by rw [named_has ho hj]; exact leaf_back hq⟩
  · unfold G.named at hk
    rw [if_neg ho] at hk
    cases hk
theorem named_len (q : Fun → Bool) (p : Funs) : (G.named q p).length ≤ p.length := by
  unfold G.named
  split
  · exact Nat.le_trans (ordered_len _) (namesIf_len q p)
  · exact Nat.zero_le _
theorem sAt_one (s : ByteArray) : G.sAt [(s, ())] (Int.toNat 0) = s := rfl
def G.cntOne (q : Fun → Bool) (p : Funs) (c : Int) (k : Nat) : Int := if q (G.pAt p k) = true then c + 1 else c
def G.cnt (q : Fun → Bool) (p : Funs) : Int := G.fold (G.cntOne q p) (G.lenK p) 0 0
theorem namesIf_cnt {q : Fun → Bool} {p : Funs} (hk : G.keepOk p = true) : ∀ n, n ≤ p.length → G.fold (G.cntOne q p) n 0 0 = ((G.fold (G.nameIf q p) n 0 []).length : Int) ∧ (G.fold (G.nameIf q p) n 0 []).Nodup ∧ ∀ x ∈ G.fold (G.nameIf q p) n 0 [], ∃ j, j < n ∧ x = ((G.pAt p j).1, ())
  | 0, _ => ⟨rfl, List.nodup_nil, fun x hx => by cases hx⟩
  | n + 1, hn => by
    obtain ⟨h1, h2, h3⟩ := namesIf_cnt (q := q) hk n (by omega)
    rw [fold_succ, fold_succ]
    unfold G.cntOne G.nameIf
    by_cases c : q (G.pAt p n) = true
    · rw [if_pos c, if_pos c]
      refine ⟨by show G.fold (G.cntOne q p) n 0 0 + 1 = _; rw [h1]; show _ = (((G.fold (G.nameIf q p) n 0 []) ++ [((G.pAt p n).1, ())]).length : Int); simp, ?_, fun x hx => ?_⟩
      · refine List.nodup_append.2 ⟨h2, by simp, fun a ha b hb => ?_⟩
        rw [List.mem_singleton] at hb
        subst hb
        rintro rfl
        obtain ⟨j, hj, e⟩ := h3 _ ha
        have := pAt_name hk (show n < p.length by omega) (show j < p.length by omega) (congrArg (fun q : ByteArray × Unit => q.1) e)
        omega
      · rcases List.mem_append.1 hx with hx | hx
        · obtain ⟨j, hj, e⟩ := h3 _ hx
          exact ⟨j, by omega, e⟩
        · exact ⟨n, by omega, List.mem_singleton.1 hx⟩
    · rw [if_neg c, if_neg c]
      exact ⟨h1, h2, fun x hx => by
        obtain ⟨j, hj, e⟩ := h3 _ hx
        exact ⟨j, by omega, e⟩⟩
theorem named_cnt (q : Fun → Bool) (p : Funs) : G.cnt q p = ((G.named q p).length : Int) := by
  unfold G.cnt G.named G.lenK
  by_cases hk : G.keepOk p = true
  · rw [if_pos hk, if_pos hk]
    obtain ⟨h1, h2, _⟩ := namesIf_cnt (q := q) hk p.length (Nat.le_refl _)
    obtain ⟨o1, o2⟩ := ordered_strict (G.namesIf q p)
    rw [h1]
    exact congrArg (fun n : Nat => (n : Int)) (nd_len h2 (strict_nodup o1) fun x => (o2 x).symm)
  · rw [if_neg hk, if_neg hk]
    rfl
theorem funRefs_leaf {p : Funs} (hk : G.keepOk p = true) {k : Nat} (h : k < p.length) : decide (((G.funRefs (G.pAt p k)).length : Int) = 0) = G.leafF (G.pAt p k) := by
  rw [funRefs_of hk h]
  rfl
/-! GlL0: a gathering -/
def G.preGlL0 (p : Funs) (l : Strs) (w : Strs) (b : Strs) (i : Int)  : Bool := G.preA (l.length) i && (true && ((G.smallP p && G.few b.length) && (decide (l = w) && G.leafOk p l b)))
theorem preGlL0_iff {p : Funs} {l : Strs} {w : Strs} {b : Strs} {i : Int}  : G.preGlL0 p l w b i  = true ↔ (0 ≤ i ∧ i ≤ ((l.length : Nat) : Int) ∧ (l.length : Nat) ≤ 1099511627776) ∧ True ∧ ((G.smallP p && G.few b.length) && (decide (l = w) && G.leafOk p l b)) = true := by simp [G.preGlL0, preA_iff]
def G.oneGlL0 (p : Funs) (l : Strs) (w : Strs) (b : Strs) (a : Unit) (k : Nat) : Unit := ()
def G.fdGlL0 (p : Funs) (l : Strs) (w : Strs) (b : Strs) (i : Int) (a : Unit) : Unit := G.fold (G.oneGlL0 p l w b) (l.length) i a
noncomputable abbrev lsGlL0 : LSpec := ⟨[3, 4, 5, 6, 7], [], [FunSP, StrSP, StrSP, StrSP, IntP], [], false, fun x => G.preGlL0 x.1 x.2.1 x.2.2.1 x.2.2.2.1 x.2.2.2.2.1 ,
  fun x => ((0, G.fdGlL0 x.1 x.2.1 x.2.2.1 x.2.2.2.1 x.2.2.2.2.1 (())), ())⟩
noncomputable abbrev clGlL0 : Cx := mkCx T0 pg62 [(0, lsGlL0)] [] 94
theorem rGlL0 (p : Funs) (l : Strs) (w : Strs) (b : Strs) (i : Int) : roundK clGlL0 0 (loopIn Go.Proofs.Try.f5 0) lsGlL0 (p, l, w, b, i, ()) =
  (if Decidable.decide (i < (↑(List.length l) : Int)) = Bool.true then
    if Decidable.decide ((0 : Int) ≤ i) = Bool.true then
      if Decidable.decide (i < (↑(List.length l) : Int)) = Bool.true then
        if Go.Rx.G.smallP p = Bool.true then
          if Decidable.decide ((0 : Int) ≤ i) = Bool.true then
            if Decidable.decide (i < (↑(List.length l) : Int)) = Bool.true then
              if Decidable.decide ((0 : Int) ≤ i) = Bool.true then
                if Decidable.decide (i < (↑(List.length w) : Int)) = Bool.true then
                  if (!Go.Rx.strEq (List.getD l (Int.toNat i) (ByteArray.empty, PUnit.unit)).1 (List.getD w (Int.toNat i) (ByteArray.empty, PUnit.unit)).1) = Bool.false then
                    if (!Decidable.decide ((↑(List.length (Go.Rx.G.keepReach p (List.getD l (Int.toNat i) (ByteArray.empty, PUnit.unit)).1)) : Int) = (1 : Int))) = Bool.false then
                      if Decidable.decide ((0 : Int) ≤ (0 : Int)) = Bool.true then
                        if Decidable.decide ((0 : Int) < (↑(List.length (Go.Rx.G.keepReach p (List.getD l (Int.toNat i) (ByteArray.empty, PUnit.unit)).1)) : Int)) = Bool.true then
                          if Decidable.decide (Int.toNat (0 : Int) < List.length (Go.Rx.G.keepReach p (List.getD l (Int.toNat i) (ByteArray.empty, PUnit.unit)).1)) = Bool.true then
                            if Decidable.decide ((0 : Int) ≤ i) = Bool.true then
                              if Decidable.decide (i < (↑(List.length l) : Int)) = Bool.true then
                                if
                                    (!Go.Rx.strEq (List.getD (Go.Rx.G.keepReach p (List.getD l (Int.toNat i) (ByteArray.empty, PUnit.unit)).1) (Int.toNat (0 : Int)) (ByteArray.empty, PUnit.unit)).1
                                          (List.getD l (Int.toNat i) (ByteArray.empty, PUnit.unit)).1) =
                                      Bool.false then
                                  if Decidable.decide ((0 : Int) ≤ i) = Bool.true then
                                    if Decidable.decide (i < (↑(List.length l) : Int)) = Bool.true then
                                      if Go.Rx.G.few (List.length b) = Bool.true then
                                        if Go.Rx.G.hasS b (List.getD l (Int.toNat i) (ByteArray.empty, PUnit.unit)).1 = Bool.true then Option.some (Go.Rx.LRes.stop (1 : Nat) PUnit.unit PUnit.unit)
                                        else Option.some (Go.Rx.LRes.go (p, l, w, b, Go.IntKind.wrap Go.IntKind.i64 (i + (1 : Int)), PUnit.unit))
                                      else Option.none
                                    else Option.none
                                  else Option.none
                                else Option.some (Go.Rx.LRes.stop (1 : Nat) PUnit.unit PUnit.unit)
                              else Option.none
                            else Option.none
                          else Option.none
                        else Option.none
                      else Option.none
                    else Option.some (Go.Rx.LRes.stop (1 : Nat) PUnit.unit PUnit.unit)
                  else Option.some (Go.Rx.LRes.stop (1 : Nat) PUnit.unit PUnit.unit)
                else Option.none
              else Option.none
            else Option.none
          else Option.none
        else Option.none
      else Option.none
    else Option.none
  else Option.some (Go.Rx.LRes.stop (0 : Nat) PUnit.unit PUnit.unit)) := by kernel_rfl
noncomputable abbrev muGlL0 : PKs.den lsGlL0.ins → Nat := fun x => (x.2.1.length) - x.2.2.2.2.1.toNat
theorem stGlL0 (p : Funs) (l : Strs) (w : Strs) (b : Strs) (i : Int) (h : G.preGlL0 p l w b i  = true) : StepOk lsGlL0 (eqInv lsGlL0) muGlL0 (p, l, w, b, i, ()) (roundK clGlL0 0 (loopIn Go.Proofs.Try.f5 0) lsGlL0 (p, l, w, b, i, ())) := by
  obtain ⟨⟨h0, h1, h2⟩, hn, hc⟩ := preGlL0_iff.1 h
  rw [rGlL0]
  by_cases hi : i < ((l.length : Nat) : Int)
  · have hw : IntKind.i64.wrap (i + 1) = i + 1 := w64 (by omega) (by omega)
    have hs : G.fdGlL0 p l w b i (()) = G.fdGlL0 p l w b (i + 1) (G.oneGlL0 p l w b (()) i.toNat) := fold_step h0 hi
    refine fold_go (eqInv lsGlL0) muGlL0 (p, l, w, b, i + 1, ()) ?_ (show G.preGlL0 p l w b (i + 1)  = true from preGlL0_iff.2 ⟨⟨by omega, by omega, h2⟩, trivial, ?_⟩) ?_ ?_
    · rw [Bool.and_eq_true, Bool.and_eq_true, Bool.and_eq_true, decide_eq_true_iff] at hc
      obtain ⟨⟨c1, c2⟩, rfl, c4⟩ := hc
      obtain ⟨d1, d2⟩ := of_decide_eq_true c4 i.toNat (by omega)
      have e0 : Go.Rx.strEq (G.sAt l i.toNat) (G.sAt l i.toNat) = true := by rw [strEq_iff]; simp
      rw [if_pos (decide_eq_true hi), if_pos (decide_eq_true h0), if_pos (decide_eq_true hi), if_pos c1, sAt_eq, d1]
      have z0 : (!Go.Rx.strEq ([(G.sAt l i.toNat, ())].getD (Int.toNat 0) (ByteArray.empty, ())).1 (G.sAt l i.toNat)) = false := by
        rw [show ([(G.sAt l i.toNat, ())].getD (Int.toNat 0) (ByteArray.empty, ())).1 = G.sAt l i.toNat from rfl, e0]
        rfl
      simp only [h0, hi, c2, d2, e0, hw, decide_true, if_true, List.length_singleton]
      rw [if_pos (by rfl), if_pos (by rfl), if_pos (by decide), if_pos (by rfl), if_pos (by rfl), if_pos z0, if_neg (by decide)]
    · exact hc
    · show (l.length) - (i + 1).toNat < (l.length) - i.toNat
      omega
    · show ((_, _), _) = ((_, _), _)
      simp only [hs]
  · have hs : G.fdGlL0 p l w b i (()) = (()) := fold_end (by omega)
    skip
    rw [if_neg (by simpa using hi)]
    show ((_, _), _) = ((_, _), _)
    simp only [hs]
theorem lpGlL0 : LpOk Go.Proofs.Try.prog clGlL0.ntmps 0 (loopIn Go.Proofs.Try.f5 0) lsGlL0 :=
  lp_okB (cxOk T0_ok T0_eq pg62_ok) mixed (by kernel_rfl) (lps_none (by kernel_rfl)) (eqInv lsGlL0) muGlL0 (fun _ h => h) (fun x h => stGlL0 x.1 x.2.1 x.2.2.1 x.2.2.2.1 x.2.2.2.2.1 h)
/-! GlL2: a gathering -/
def G.preGlL2 (p : Funs) (i : Int) (cnt : Int) : Bool := G.preA (G.lenK p) i && (true && (G.smallP p && decide (p.length ≤ 65536 ∧ 0 ≤ cnt ∧ cnt ≤ i)))
theorem preGlL2_iff {p : Funs} {i : Int} {cnt : Int} : G.preGlL2 p i cnt = true ↔ (0 ≤ i ∧ i ≤ ((G.lenK p : Nat) : Int) ∧ (G.lenK p : Nat) ≤ 1099511627776) ∧ True ∧ (G.smallP p && decide (p.length ≤ 65536 ∧ 0 ≤ cnt ∧ cnt ≤ i)) = true := by simp [G.preGlL2, preA_iff]
def G.oneGlL2 (p : Funs) (a : Int × Unit) (k : Nat) : Int × Unit := (G.cntOne G.leafF p a.1 k, ())
def G.fdGlL2 (p : Funs) (i : Int) (a : Int × Unit) : Int × Unit := G.fold (G.oneGlL2 p) (G.lenK p) i a
noncomputable abbrev lsGlL2 : LSpec := ⟨[3, 9, 10], [9], [FunSP, IntP, IntP], [IntP], false, fun x => G.preGlL2 x.1 x.2.2.1 x.2.1,
  fun x => ((0, G.fdGlL2 x.1 x.2.2.1 (x.2.1, ())), ())⟩
noncomputable abbrev clGlL2 : Cx := mkCx T0 pg62 [(2, lsGlL2)] [] 94
theorem rGlL2 (p : Funs) (cnt : Int) (i : Int) : roundK clGlL2 2 (loopIn Go.Proofs.Try.f5 2) lsGlL2 (p, cnt, i, ()) =
  (if Decidable.decide (i < (↑(List.length p) : Int)) = Bool.true then
    if Go.Rx.G.smallP p = Bool.true then
      if Go.Rx.G.keepOk p = Bool.true then
        if Decidable.decide ((0 : Int) ≤ i) = Bool.true then
          if Decidable.decide (i < (↑(List.length p) : Int)) = Bool.true then
            if Go.Rx.G.smallF (List.getD p (Int.toNat i) (ByteArray.empty, Bool.false, [], PUnit.unit)) = Bool.true then
              if Decidable.decide ((↑(List.length (Go.Rx.G.funRefs (List.getD p (Int.toNat i) (ByteArray.empty, Bool.false, [], PUnit.unit)))) : Int) = (0 : Int)) = Bool.true then
                Option.some (Go.Rx.LRes.go (p, Go.IntKind.wrap Go.IntKind.i64 (cnt + (1 : Int)), Go.IntKind.wrap Go.IntKind.i64 (i + (1 : Int)), PUnit.unit))
              else Option.some (Go.Rx.LRes.go (p, cnt, Go.IntKind.wrap Go.IntKind.i64 (i + (1 : Int)), PUnit.unit))
            else Option.none
          else Option.none
        else Option.none
      else Option.some (Go.Rx.LRes.stop (0 : Nat) (cnt, PUnit.unit) PUnit.unit)
    else Option.none
  else Option.some (Go.Rx.LRes.stop (0 : Nat) (cnt, PUnit.unit) PUnit.unit)) := by kernel_rfl
noncomputable abbrev muGlL2 : PKs.den lsGlL2.ins → Nat := fun x => (G.lenK x.1) - x.2.2.1.toNat
theorem stGlL2 (p : Funs) (cnt : Int) (i : Int) (h : G.preGlL2 p i cnt = true) : StepOk lsGlL2 (eqInv lsGlL2) muGlL2 (p, cnt, i, ()) (roundK clGlL2 2 (loopIn Go.Proofs.Try.f5 2) lsGlL2 (p, cnt, i, ())) := by
  obtain ⟨⟨h0, h1, h2⟩, hn, hc⟩ := preGlL2_iff.1 h
  rw [rGlL2]
  by_cases hi : i < ((G.lenK p : Nat) : Int)
  · have hw : IntKind.i64.wrap (i + 1) = i + 1 := w64 (by omega) (by omega)
    have hs : G.fdGlL2 p i (cnt, ()) = G.fdGlL2 p (i + 1) (G.oneGlL2 p (cnt, ()) i.toNat) := fold_step h0 hi
    refine fold_go (eqInv lsGlL2) muGlL2 (p, (G.oneGlL2 p (cnt, ()) i.toNat).1, i + 1, ()) ?_ (show G.preGlL2 p (i + 1) (G.oneGlL2 p (cnt, ()) i.toNat).1 = true from preGlL2_iff.2 ⟨⟨by omega, by omega, h2⟩, trivial, ?_⟩) ?_ ?_
    · rw [Bool.and_eq_true, decide_eq_true_iff] at hc
      obtain ⟨c1, c2, c3, c4⟩ := hc
      obtain ⟨k1, k2, k3⟩ := lenK_lt hi h0
      have hsf := smallF_at (smallP_iff.1 c1).2 (show i.toNat < p.length by omega)
      have hw2 : IntKind.i64.wrap (cnt + 1) = cnt + 1 := w64 (by omega) (by omega)
      rw [if_pos (decide_eq_true k2), if_pos c1, if_pos k1, if_pos (decide_eq_true h0), if_pos (decide_eq_true k2), pAt_eq, if_pos hsf, funRefs_leaf k1 (by omega), hw, hw2]
      by_cases hq : G.leafF (G.pAt p i.toNat) = true
      · rw [if_pos hq, show G.oneGlL2 p (cnt, ()) i.toNat = (cnt + 1, ()) from congrArg (fun z : Int => (z, ())) (if_pos hq)]
      · rw [if_neg hq, show G.oneGlL2 p (cnt, ()) i.toNat = (cnt, ()) from congrArg (fun z : Int => (z, ())) (if_neg hq)]
    · rw [Bool.and_eq_true, decide_eq_true_iff] at hc ⊢
      refine ⟨hc.1, show p.length ≤ 65536 ∧ 0 ≤ G.cntOne G.leafF p cnt i.toNat ∧ G.cntOne G.leafF p cnt i.toNat ≤ i + 1 from ?_⟩
      unfold G.cntOne
      split <;> omega
    · show (G.lenK p) - (i + 1).toNat < (G.lenK p) - i.toNat
      omega
    · show ((_, _), _) = ((_, _), _)
      simp only [hs]
  · have hs : G.fdGlL2 p i (cnt, ()) = (cnt, ()) := fold_end (by omega)
    skip
    rw [Bool.and_eq_true] at hc
    rcases lenK_ge hi with hl |⟨hl, hk⟩
    · rw [if_neg (by simpa using hl)]
      show ((_, _), _) = ((_, _), _)
      simp only [hs]
    · rw [if_pos (decide_eq_true hl), if_pos hc.1, if_neg (by rw [hk]; decide)]
      show ((_, _), _) = ((_, _), _)
      simp only [hs]
theorem lpGlL2 : LpOk Go.Proofs.Try.prog clGlL2.ntmps 2 (loopIn Go.Proofs.Try.f5 2) lsGlL2 :=
  lp_okB (cxOk T0_ok T0_eq pg62_ok) mixed (by kernel_rfl) (lps_none (by kernel_rfl)) (eqInv lsGlL2) muGlL2 (fun _ h => h) (fun x h => stGlL2 x.1 x.2.1 x.2.2.1 h)
/-! LawGraphLeaf -/
noncomputable abbrev spLawGraphLeaf : Spec := ⟨[BytesP], BoolR, true, fun x => x.1.all G.byteOk, fun x => (true, ())⟩
noncomputable abbrev cxLawGraphLeaf : Cx := mkCx T0 pg62 [(0, lsGlL0), (2, lsGlL2)] [] 94
theorem eLawGraphLeaf (c : Bytes) : funK cxLawGraphLeaf Go.Proofs.Try.f5 spLawGraphLeaf.ins spLawGraphLeaf.out (c, ()) =
  (if Decidable.decide ((↑(List.length c) : Int) > (1048576 : Int)) = Bool.true then Option.some (Bool.true, PUnit.unit)
  else
    if List.all c Go.Rx.G.byteOk = Bool.true then
      if Go.Rx.G.smallP (Go.Rx.G.dDrawGraphLeaf (c, PUnit.unit)).1 = Bool.true then
        if Go.Rx.G.funsB (Go.Rx.G.dDrawGraphLeaf (c, PUnit.unit)).1 = Bool.true then
          if
              (!Decidable.decide
                    ((↑(List.length (Go.Rx.G.named Go.Rx.G.leafF (Go.Rx.G.dDrawGraphLeaf (c, PUnit.unit)).1)) : Int) =
                      (↑(List.length (Go.Rx.G.named Go.Rx.G.leafF (Go.Rx.G.dDrawGraphLeaf (c, PUnit.unit)).1)) : Int))) =
                Bool.true then
            Option.some (Bool.false, PUnit.unit)
          else
            if Go.Rx.G.smallP (Go.Rx.G.dDrawGraphLeaf (c, PUnit.unit)).1 = Bool.true then
              if
                  Go.Rx.G.preGlL0 (Go.Rx.G.dDrawGraphLeaf (c, PUnit.unit)).1 (Go.Rx.G.named Go.Rx.G.leafF (Go.Rx.G.dDrawGraphLeaf (c, PUnit.unit)).1)
                      (Go.Rx.G.named Go.Rx.G.leafF (Go.Rx.G.dDrawGraphLeaf (c, PUnit.unit)).1)
                      (Go.Rx.G.named (Go.Rx.G.backF (Go.Rx.G.dDrawGraphLeaf (c, PUnit.unit)).1) (Go.Rx.G.dDrawGraphLeaf (c, PUnit.unit)).1) (0 : Int) =
                    Bool.true then
                if Go.Rx.G.preGlL2 (Go.Rx.G.dDrawGraphLeaf (c, PUnit.unit)).1 (0 : Int) (0 : Int) = Bool.true then
                  Option.some
                    (Decidable.decide
                        ((Go.Rx.G.fdGlL2 (Go.Rx.G.dDrawGraphLeaf (c, PUnit.unit)).1 (0 : Int) ((0 : Int), PUnit.unit)).1 =
                          (↑(List.length (Go.Rx.G.named Go.Rx.G.leafF (Go.Rx.G.dDrawGraphLeaf (c, PUnit.unit)).1)) : Int)),
                      PUnit.unit)
                else Option.none
              else Option.none
            else Option.none
        else Option.none
      else Option.none
    else Option.none) := by kernel_rfl
theorem sfLawGraphLeaf (c : Bytes) (h : c.all G.byteOk = true) : funK cxLawGraphLeaf Go.Proofs.Try.f5 spLawGraphLeaf.ins spLawGraphLeaf.out (c, ()) = some (true, ()) := by
  obtain ⟨_, p1⟩ := postDrawGraphLeaf (c, ()) h
  rw [eLawGraphLeaf]
  by_cases hl : ((c.length : Nat) : Int) > 1048576
  · rw [if_pos (decide_eq_true hl)]
  · rw [if_neg (by simpa using hl), if_pos h]
    generalize G.dDrawGraphLeaf (c, ()) = d at p1 ⊢
    have hf : G.funsB d.1 = true := p1
    obtain ⟨p, _⟩ := d
    have hf : G.funsB p = true := hf
    have hs := funsB_small hf
    have hlen := ((funsB_iff p).1 hf).1
    have hl1 := named_len G.leafF p
    have hl2 := named_len (G.backF p) p
    have hk := lenK_le p
    have e : G.fdGlL2 p 0 (0, ()) = (G.cnt G.leafF p, ()) := fold_unit (G.cntOne G.leafF p) (G.lenK p) 0 0
    dsimp only
    rw [if_pos hs, if_pos hf, if_neg (by simp), if_pos hs]
    rw [if_pos (preGlL0_iff.2 ⟨⟨by omega, by omega, by omega⟩, trivial, by
      rw [Bool.and_eq_true, Bool.and_eq_true, Bool.and_eq_true]
      exact ⟨⟨hs, few_iff.2 (by omega)⟩, decide_eq_true rfl, leafOk_named p⟩⟩)]
    rw [if_pos (preGlL2_iff.2 ⟨⟨by omega, by omega, by omega⟩, trivial, by
      rw [Bool.and_eq_true, decide_eq_true_iff]
      exact ⟨hs, by omega, by omega, by omega⟩⟩), e, named_cnt]
    simp
theorem okLawGraphLeaf : SpecOk Go.Proofs.Try.prog 5 spLawGraphLeaf :=
  fun_okB (cx := cxLawGraphLeaf) (F := Go.Proofs.Try.f5) (cxOk T0_ok T0_eq pg62_ok) mixed (by kernel_rfl) (by decide) (by kernel_rfl) (lps_of (l := [(0, loopIn Go.Proofs.Try.f5 0), (2, loopIn Go.Proofs.Try.f5 2)]) (by kernel_rfl) ⟨lp_at lpGlL0 rfl, lp_at lpGlL2 rfl, trivial⟩) (fun x h => sfLawGraphLeaf x.1 h)
theorem fold_or (q : Nat → Bool) (b : Bool) : ∀ n, G.fold (fun (b : Bool) k => b || q k) n 0 b = (b || G.anyFrom n q 0)
  | 0 => by
    show b = (b || false)
    cases b <;> rfl
  | n + 1 => by
    rw [fold_succ, fold_or q b n, Bool.or_assoc]
    refine congrArg (fun z => b || z) ?_
    rw [Bool.eq_iff_iff, Bool.or_eq_true, anyFrom_zero, anyFrom_zero]
    constructor
    · rintro (⟨k, hk, e⟩ | e)
      · exact ⟨k, by omega, e⟩
      · exact ⟨n, by omega, e⟩
    · rintro ⟨k, hk, e⟩
      by_cases c : k = n
      · subst c
        exact .inr e
      · exact .inl ⟨k, by omega, e⟩
theorem has_any (r : Strs) (s : ByteArray) : G.hasS r s = G.anyFrom r.length (fun k => decide (G.sAt r k = s)) 0 := by
  rw [Bool.eq_iff_iff, hasS_iff, anyFrom_zero]
  constructor
  · intro h
    obtain ⟨k, hk, e⟩ := List.getElem_of_mem h
    rw [← sAt_get hk] at e
    exact ⟨k, hk, decide_eq_true (congrArg (fun q : ByteArray × Unit => q.1) e)⟩
  · rintro ⟨k, hk, e⟩
    have e := of_decide_eq_true e
    rw [← e, sAt_get hk]
    exact List.getElem_mem hk
def G.lawBackAt (p : Funs) (refs : Strs) (s : ByteArray) (k : Nat) : Bool := G.hasS (G.keepReach p (G.sAt refs k)) s
def G.lawBack (p : Funs) (f : Fun) : Bool := G.anyFrom (G.funRefs f).length (G.lawBackAt p (G.funRefs f) f.1) 0
theorem rchL_has {p : Funs} (hk : G.keepOk p = true) {s t : ByteArray} (hs : G.hasF p s = true) : (∃ j, j < (G.rchL p s).length ∧ (G.pAt (G.rchL p s) j).1 = t) ↔ Rc p s t := by
  obtain ⟨N, h1, h2, h3, h4⟩ := rch_spec ((keepOk_iff p).1 hk).2.2 hs
  rw [← h4, h1]
  have hn : ∀ j, j < N.length → (G.pAt (N.map fun x => G.getF p x.1) j).1 = G.sAt N j := fun j hj => by
    unfold G.pAt
    rw [getD_lt _ _ (by rw [List.length_map]; exact hj), List.getElem_map, (getF_at (h3 _ (List.getElem_mem hj))).2.2]
    exact (congrArg (fun q : ByteArray × Unit => q.1) (sAt_get hj)).symm
  rw [List.length_map]
  constructor
  · rintro ⟨j, hj, e⟩
    rw [hn j hj] at e
    rw [← e, sAt_get hj]
    exact List.getElem_mem hj
  · intro h
    obtain ⟨j, hj, e⟩ := List.getElem_of_mem h
    refine ⟨j, hj, ?_⟩
    rw [hn j hj]
    rw [← sAt_get hj] at e
    exact congrArg (fun q : ByteArray × Unit => q.1) e
theorem lawBack_eq {p : Funs} (hk : G.keepOk p = true) {k : Nat} (h : k < p.length) : G.lawBack p (G.pAt p k) = G.backF p (G.pAt p k) := by
  rw [Bool.eq_iff_iff, backF_iff]
  unfold G.lawBack
  rw [funRefs_of hk h, anyFrom_zero]
  refine exists_congr fun j => and_congr_right fun hj => ?_
  unfold G.lawBackAt
  have hm : (G.sAt (G.refsOf (G.pAt p k).2.2.1) j, ()) ∈ G.refsOf (G.getF p (G.pAt p k).1).2.2.1 := by
    rw [sAt_get hj, (getF_self hk h).2]
    exact List.getElem_mem _
  have hh := refs_has ((keepOk_iff p).1 hk).2.2 (getF_self hk h).1 hm
  rw [hasS_iff, mem_reach hk hh, rchL_has hk hh]
def G.backOk (p : Funs) (b : Strs) : Bool := decide (G.keepOk p = true → ∀ k, k < p.length → G.lawBack p (G.pAt p k) = G.hasS b (G.pAt p k).1)
theorem backOk_named (p : Funs) : G.backOk p (G.named (G.backF p) p) = true := decide_eq_true fun hk k h => by rw [lawBack_eq hk h, named_has hk h]
/-! GbL6: a gathering -/
def G.preGbL6 (p : Funs) (m : Int) (r : Strs) (i : Int) (back : Bool) : Bool := G.preA (r.length) i && (true && decide (0 ≤ m ∧ m < (p.length : Int)))
theorem preGbL6_iff {p : Funs} {m : Int} {r : Strs} {i : Int} {back : Bool} : G.preGbL6 p m r i back = true ↔ (0 ≤ i ∧ i ≤ ((r.length : Nat) : Int) ∧ (r.length : Nat) ≤ 1099511627776) ∧ True ∧ decide (0 ≤ m ∧ m < (p.length : Int)) = true := by simp [G.preGbL6, preA_iff]
def G.oneGbL6 (p : Funs) (m : Int) (r : Strs) (a : Bool × Unit) (k : Nat) : Bool × Unit := (a.1 || decide (G.sAt r k = (G.pAt p m.toNat).1), ())
def G.fdGbL6 (p : Funs) (m : Int) (r : Strs) (i : Int) (a : Bool × Unit) : Bool × Unit := G.fold (G.oneGbL6 p m r) (r.length) i a
noncomputable abbrev lsGbL6 : LSpec := ⟨[3, 7, 9, 11, 12], [9], [FunSP, IntP, BoolP, StrSP, IntP], [BoolP], false, fun x => G.preGbL6 x.1 x.2.1 x.2.2.2.1 x.2.2.2.2.1 x.2.2.1,
  fun x => ((0, G.fdGbL6 x.1 x.2.1 x.2.2.2.1 x.2.2.2.2.1 (x.2.2.1, ())), ())⟩
noncomputable abbrev clGbL6 : Cx := mkCx T0 pg62 [(6, lsGbL6)] [] 97
theorem rGbL6 (p : Funs) (m : Int) (back : Bool) (r : Strs) (i : Int) : roundK clGbL6 6 (loopIn Go.Proofs.Try.f7 6) lsGbL6 (p, m, back, r, i, ()) =
  (if Decidable.decide (i < (↑(List.length r) : Int)) = Bool.true then
    if back = Bool.false then
      if Decidable.decide ((0 : Int) ≤ i) = Bool.true then
        if Decidable.decide (i < (↑(List.length r) : Int)) = Bool.true then
          if Decidable.decide ((0 : Int) ≤ m) = Bool.true then
            if Decidable.decide (m < (↑(List.length p) : Int)) = Bool.true then
              Option.some
                (Go.Rx.LRes.go
                  (p, m,
                    Go.Rx.strEq (List.getD r (Int.toNat i) (ByteArray.empty, PUnit.unit)).1 (List.getD p (Int.toNat m) (ByteArray.empty, Bool.false, [], PUnit.unit)).1, r,
                    Go.IntKind.wrap Go.IntKind.i64 (i + (1 : Int)), PUnit.unit))
            else Option.none
          else Option.none
        else Option.none
      else Option.none
    else Option.some (Go.Rx.LRes.go (p, m, Bool.true, r, Go.IntKind.wrap Go.IntKind.i64 (i + (1 : Int)), PUnit.unit))
  else Option.some (Go.Rx.LRes.stop (0 : Nat) (back, PUnit.unit) PUnit.unit)) := by kernel_rfl
noncomputable abbrev muGbL6 : PKs.den lsGbL6.ins → Nat := fun x => (x.2.2.2.1.length) - x.2.2.2.2.1.toNat
theorem stGbL6 (p : Funs) (m : Int) (back : Bool) (r : Strs) (i : Int) (h : G.preGbL6 p m r i back = true) : StepOk lsGbL6 (eqInv lsGbL6) muGbL6 (p, m, back, r, i, ()) (roundK clGbL6 6 (loopIn Go.Proofs.Try.f7 6) lsGbL6 (p, m, back, r, i, ())) := by
  obtain ⟨⟨h0, h1, h2⟩, hn, hc⟩ := preGbL6_iff.1 h
  rw [rGbL6]
  by_cases hi : i < ((r.length : Nat) : Int)
  · have hw : IntKind.i64.wrap (i + 1) = i + 1 := w64 (by omega) (by omega)
    have hs : G.fdGbL6 p m r i (back, ()) = G.fdGbL6 p m r (i + 1) (G.oneGbL6 p m r (back, ()) i.toNat) := fold_step h0 hi
    refine fold_go (eqInv lsGbL6) muGbL6 (p, m, (G.oneGbL6 p m r (back, ()) i.toNat).1, r, i + 1, ()) ?_ (show G.preGbL6 p m r (i + 1) (G.oneGbL6 p m r (back, ()) i.toNat).1 = true from preGbL6_iff.2 ⟨⟨by omega, by omega, h2⟩, trivial, ?_⟩) ?_ ?_
    · obtain ⟨m0, m1⟩ := of_decide_eq_true hc
      rw [if_pos (decide_eq_true hi), sAt_eq, pAt_eq, strEq_iff, hw]
      unfold G.oneGbL6
      cases back with
      | true => rfl
      | false =>
        rw [if_pos rfl, if_pos (decide_eq_true h0), if_pos (decide_eq_true hi), if_pos (decide_eq_true m0), if_pos (decide_eq_true m1)]
        rfl
    · exact hc
    · show (r.length) - (i + 1).toNat < (r.length) - i.toNat
      omega
    · show ((_, _), _) = ((_, _), _)
      simp only [hs]
  · have hs : G.fdGbL6 p m r i (back, ()) = (back, ()) := fold_end (by omega)
    skip
    rw [if_neg (by simpa using hi)]
    show ((_, _), _) = ((_, _), _)
    simp only [hs]
theorem lpGbL6 : LpOk Go.Proofs.Try.prog clGbL6.ntmps 6 (loopIn Go.Proofs.Try.f7 6) lsGbL6 :=
  lp_okB (cxOk T0_ok T0_eq pg62_ok) mixed (by kernel_rfl) (lps_none (by kernel_rfl)) (eqInv lsGbL6) muGbL6 (fun _ h => h) (fun x h => stGbL6 x.1 x.2.1 x.2.2.1 x.2.2.2.1 x.2.2.2.2.1 h)
/-! GbL4: a gathering -/
def G.preGbL4 (p : Funs) (m : Int) (refs : Strs) (i : Int) (back : Bool) : Bool := G.preA (refs.length) i && (true && (G.smallP p && decide (p.length ≤ 400 ∧ 0 ≤ m ∧ m < (p.length : Int))))
theorem preGbL4_iff {p : Funs} {m : Int} {refs : Strs} {i : Int} {back : Bool} : G.preGbL4 p m refs i back = true ↔ (0 ≤ i ∧ i ≤ ((refs.length : Nat) : Int) ∧ (refs.length : Nat) ≤ 1099511627776) ∧ True ∧ (G.smallP p && decide (p.length ≤ 400 ∧ 0 ≤ m ∧ m < (p.length : Int))) = true := by simp [G.preGbL4, preA_iff]
def G.oneGbL4 (p : Funs) (m : Int) (refs : Strs) (a : Bool × Unit) (k : Nat) : Bool × Unit := (a.1 || G.lawBackAt p refs (G.pAt p m.toNat).1 k, ())
def G.fdGbL4 (p : Funs) (m : Int) (refs : Strs) (i : Int) (a : Bool × Unit) : Bool × Unit := G.fold (G.oneGbL4 p m refs) (refs.length) i a
noncomputable abbrev lsGbL4 : LSpec := ⟨[3, 7, 8, 9, 10], [9], [FunSP, IntP, StrSP, BoolP, IntP], [BoolP], false, fun x => G.preGbL4 x.1 x.2.1 x.2.2.1 x.2.2.2.2.1 x.2.2.2.1,
  fun x => ((0, G.fdGbL4 x.1 x.2.1 x.2.2.1 x.2.2.2.2.1 (x.2.2.2.1, ())), ())⟩
noncomputable abbrev clGbL4 : Cx := mkCx T0 pg62 [(6, lsGbL6), (4, lsGbL4)] [] 97
theorem rGbL4 (p : Funs) (m : Int) (refs : Strs) (back : Bool) (i : Int) : roundK clGbL4 4 (loopIn Go.Proofs.Try.f7 4) lsGbL4 (p, m, refs, back, i, ()) =
  (if Decidable.decide (i < (↑(List.length refs) : Int)) = Bool.true then
    if Decidable.decide ((0 : Int) ≤ i) = Bool.true then
      if Decidable.decide (i < (↑(List.length refs) : Int)) = Bool.true then
        if Go.Rx.G.smallP p = Bool.true then
          if Go.Rx.G.preGbL6 p m (Go.Rx.G.keepReach p (List.getD refs (Int.toNat i) (ByteArray.empty, PUnit.unit)).1) (0 : Int) back = Bool.true then
            Option.some
              (Go.Rx.LRes.go
                (p, m, refs,
                  (Go.Rx.G.fdGbL6 p m (Go.Rx.G.keepReach p (List.getD refs (Int.toNat i) (ByteArray.empty, PUnit.unit)).1) (0 : Int) (back, PUnit.unit)).1,
                  Go.IntKind.wrap Go.IntKind.i64 (i + (1 : Int)), PUnit.unit))
          else Option.none
        else Option.none
      else Option.none
    else Option.none
  else Option.some (Go.Rx.LRes.stop (0 : Nat) (back, PUnit.unit) PUnit.unit)) := by kernel_rfl
noncomputable abbrev muGbL4 : PKs.den lsGbL4.ins → Nat := fun x => (x.2.2.1.length) - x.2.2.2.2.1.toNat
theorem stGbL4 (p : Funs) (m : Int) (refs : Strs) (back : Bool) (i : Int) (h : G.preGbL4 p m refs i back = true) : StepOk lsGbL4 (eqInv lsGbL4) muGbL4 (p, m, refs, back, i, ()) (roundK clGbL4 4 (loopIn Go.Proofs.Try.f7 4) lsGbL4 (p, m, refs, back, i, ())) := by
  obtain ⟨⟨h0, h1, h2⟩, hn, hc⟩ := preGbL4_iff.1 h
  rw [rGbL4]
  by_cases hi : i < ((refs.length : Nat) : Int)
  · have hw : IntKind.i64.wrap (i + 1) = i + 1 := w64 (by omega) (by omega)
    have hs : G.fdGbL4 p m refs i (back, ()) = G.fdGbL4 p m refs (i + 1) (G.oneGbL4 p m refs (back, ()) i.toNat) := fold_step h0 hi
    refine fold_go (eqInv lsGbL4) muGbL4 (p, m, refs, (G.oneGbL4 p m refs (back, ()) i.toNat).1, i + 1, ()) ?_ (show G.preGbL4 p m refs (i + 1) (G.oneGbL4 p m refs (back, ()) i.toNat).1 = true from preGbL4_iff.2 ⟨⟨by omega, by omega, h2⟩, trivial, ?_⟩) ?_ ?_
    · rw [Bool.and_eq_true, decide_eq_true_iff] at hc
      obtain ⟨c1, c2, m0, m1⟩ := hc
      have hkl := keepReach_len p (G.sAt refs i.toNat)
      have hpre : G.preGbL6 p m (G.keepReach p (G.sAt refs i.toNat)) 0 back = true := preGbL6_iff.2 ⟨⟨by omega, by omega, by omega⟩, trivial, decide_eq_true ⟨m0, m1⟩⟩
      have e : G.fdGbL6 p m (G.keepReach p (G.sAt refs i.toNat)) 0 (back, ()) = ((back || G.lawBackAt p refs (G.pAt p m.toNat).1 i.toNat), ()) := (fold_unit (fun (b : Bool) k => b || decide (G.sAt (G.keepReach p (G.sAt refs i.toNat)) k = (G.pAt p m.toNat).1)) (G.keepReach p (G.sAt refs i.toNat)).length 0 back).trans (congrArg (fun z : Bool => (z, ())) (fold_or _ back _))
      rw [if_pos (decide_eq_true hi), if_pos (decide_eq_true h0), if_pos (decide_eq_true hi), if_pos c1, sAt_eq, if_pos hpre, hw, e]
      rfl
    · exact hc
    · show (refs.length) - (i + 1).toNat < (refs.length) - i.toNat
      omega
    · show ((_, _), _) = ((_, _), _)
      simp only [hs]
  · have hs : G.fdGbL4 p m refs i (back, ()) = (back, ()) := fold_end (by omega)
    skip
    rw [if_neg (by simpa using hi)]
    show ((_, _), _) = ((_, _), _)
    simp only [hs]
theorem lpGbL4 : LpOk Go.Proofs.Try.prog clGbL4.ntmps 4 (loopIn Go.Proofs.Try.f7 4) lsGbL4 :=
  lp_okB (cxOk T0_ok T0_eq pg62_ok) mixed (by kernel_rfl) (lps_of (l := [(6, loopIn Go.Proofs.Try.f7 6)]) (by kernel_rfl) ⟨lp_at lpGbL6 rfl, trivial⟩) (eqInv lsGbL4) muGbL4 (fun _ h => h) (fun x h => stGbL4 x.1 x.2.1 x.2.2.1 x.2.2.2.1 x.2.2.2.2.1 h)
/-! GbL2: a gathering -/
def G.preGbL2 (p : Funs) (b : Strs) (i : Int)  : Bool := G.preA (G.lenK p) i && (true && ((G.smallP p && G.few b.length) && (decide (p.length ≤ 400) && G.backOk p b)))
theorem preGbL2_iff {p : Funs} {b : Strs} {i : Int}  : G.preGbL2 p b i  = true ↔ (0 ≤ i ∧ i ≤ ((G.lenK p : Nat) : Int) ∧ (G.lenK p : Nat) ≤ 1099511627776) ∧ True ∧ ((G.smallP p && G.few b.length) && (decide (p.length ≤ 400) && G.backOk p b)) = true := by simp [G.preGbL2, preA_iff]
def G.oneGbL2 (p : Funs) (b : Strs) (a : Unit) (k : Nat) : Unit := ()
def G.fdGbL2 (p : Funs) (b : Strs) (i : Int) (a : Unit) : Unit := G.fold (G.oneGbL2 p b) (G.lenK p) i a
noncomputable abbrev lsGbL2 : LSpec := ⟨[3, 4, 7], [], [FunSP, StrSP, IntP], [], false, fun x => G.preGbL2 x.1 x.2.1 x.2.2.1 ,
  fun x => ((0, G.fdGbL2 x.1 x.2.1 x.2.2.1 (())), ())⟩
noncomputable abbrev clGbL2 : Cx := mkCx T0 pg62 [(4, lsGbL4), (2, lsGbL2)] [] 97
theorem rGbL2 (p : Funs) (b : Strs) (i : Int) : roundK clGbL2 2 (loopIn Go.Proofs.Try.f7 2) lsGbL2 (p, b, i, ()) =
  (if Decidable.decide (i < (↑(List.length p) : Int)) = Bool.true then
    if Go.Rx.G.smallP p = Bool.true then
      if Go.Rx.G.keepOk p = Bool.true then
        if Decidable.decide ((0 : Int) ≤ i) = Bool.true then
          if Decidable.decide (i < (↑(List.length p) : Int)) = Bool.true then
            if Go.Rx.G.smallF (List.getD p (Int.toNat i) (ByteArray.empty, Bool.false, [], PUnit.unit)) = Bool.true then
              if Go.Rx.G.preGbL4 p i (Go.Rx.G.funRefs (List.getD p (Int.toNat i) (ByteArray.empty, Bool.false, [], PUnit.unit))) (0 : Int) Bool.false = Bool.true then
                if Decidable.decide ((0 : Int) ≤ i) = Bool.true then
                  if Decidable.decide (i < (↑(List.length p) : Int)) = Bool.true then
                    if Go.Rx.G.few (List.length b) = Bool.true then
                      if
                          (!Decidable.decide
                                ((Go.Rx.G.fdGbL4 p i (Go.Rx.G.funRefs (List.getD p (Int.toNat i) (ByteArray.empty, Bool.false, [], PUnit.unit))) (0 : Int) (Bool.false, PUnit.unit)).1 =
                                  Go.Rx.G.hasS b (List.getD p (Int.toNat i) (ByteArray.empty, Bool.false, [], PUnit.unit)).1)) =
                            Bool.true then
                        Option.some (Go.Rx.LRes.stop (1 : Nat) PUnit.unit PUnit.unit)
                      else Option.some (Go.Rx.LRes.go (p, b, Go.IntKind.wrap Go.IntKind.i64 (i + (1 : Int)), PUnit.unit))
                    else Option.none
                  else Option.none
                else Option.none
              else Option.none
            else Option.none
          else Option.none
        else Option.none
      else Option.some (Go.Rx.LRes.stop (0 : Nat) PUnit.unit PUnit.unit)
    else Option.none
  else Option.some (Go.Rx.LRes.stop (0 : Nat) PUnit.unit PUnit.unit)) := by kernel_rfl
noncomputable abbrev muGbL2 : PKs.den lsGbL2.ins → Nat := fun x => (G.lenK x.1) - x.2.2.1.toNat
theorem stGbL2 (p : Funs) (b : Strs) (i : Int) (h : G.preGbL2 p b i  = true) : StepOk lsGbL2 (eqInv lsGbL2) muGbL2 (p, b, i, ()) (roundK clGbL2 2 (loopIn Go.Proofs.Try.f7 2) lsGbL2 (p, b, i, ())) := by
  obtain ⟨⟨h0, h1, h2⟩, hn, hc⟩ := preGbL2_iff.1 h
  rw [rGbL2]
  by_cases hi : i < ((G.lenK p : Nat) : Int)
  · have hw : IntKind.i64.wrap (i + 1) = i + 1 := w64 (by omega) (by omega)
    have hs : G.fdGbL2 p b i (()) = G.fdGbL2 p b (i + 1) (G.oneGbL2 p b (()) i.toNat) := fold_step h0 hi
    refine fold_go (eqInv lsGbL2) muGbL2 (p, b, i + 1, ()) ?_ (show G.preGbL2 p b (i + 1)  = true from preGbL2_iff.2 ⟨⟨by omega, by omega, h2⟩, trivial, ?_⟩) ?_ ?_
    · rw [Bool.and_eq_true, Bool.and_eq_true, Bool.and_eq_true, decide_eq_true_iff] at hc
      obtain ⟨⟨c1, c2⟩, c3, c4⟩ := hc
      obtain ⟨k1, k2, k3⟩ := lenK_lt hi h0
      have c4 := of_decide_eq_true c4 k1 i.toNat (by omega)
      have hsf := smallF_at (smallP_iff.1 c1).2 (show i.toNat < p.length by omega)
      have hr := funRefs_len (G.pAt p i.toNat)
      have hb := few_iff.1 (body_few c1 (show i.toNat < p.length by omega))
      have hpre : G.preGbL4 p i (G.funRefs (G.pAt p i.toNat)) 0 false = true := preGbL4_iff.2 ⟨⟨by omega, by omega, by omega⟩, trivial, by rw [Bool.and_eq_true, decide_eq_true_iff]; exact ⟨c1, c3, h0, k2⟩⟩
      have e : G.fdGbL4 p i (G.funRefs (G.pAt p i.toNat)) 0 (false, ()) = (G.lawBack p (G.pAt p i.toNat), ()) := (fold_unit (fun (b : Bool) k => b || G.lawBackAt p (G.funRefs (G.pAt p i.toNat)) (G.pAt p i.toNat).1 k) (G.funRefs (G.pAt p i.toNat)).length 0 false).trans (congrArg (fun z : Bool => (z, ())) ((fold_or _ false _).trans (Bool.false_or _)))
      rw [if_pos (decide_eq_true k2), if_pos c1, if_pos k1, if_pos (decide_eq_true h0), if_pos (decide_eq_true k2), pAt_eq, if_pos hsf, if_pos hpre, if_pos (decide_eq_true h0), if_pos (decide_eq_true k2), if_pos c2, e, c4, hw]
      rw [if_neg (by simp)]
    · exact hc
    · show (G.lenK p) - (i + 1).toNat < (G.lenK p) - i.toNat
      omega
    · show ((_, _), _) = ((_, _), _)
      simp only [hs]
  · have hs : G.fdGbL2 p b i (()) = (()) := fold_end (by omega)
    skip
    rw [Bool.and_eq_true, Bool.and_eq_true] at hc
    rcases lenK_ge hi with hl |⟨hl, hk⟩
    · rw [if_neg (by simpa using hl)]
      show ((_, _), _) = ((_, _), _)
      simp only [hs]
    · rw [if_pos (decide_eq_true hl), if_pos hc.1.1, if_neg (by rw [hk]; decide)]
      show ((_, _), _) = ((_, _), _)
      simp only [hs]
theorem lpGbL2 : LpOk Go.Proofs.Try.prog clGbL2.ntmps 2 (loopIn Go.Proofs.Try.f7 2) lsGbL2 :=
  lp_okB (cxOk T0_ok T0_eq pg62_ok) mixed (by kernel_rfl) (lps_of (l := [(4, loopIn Go.Proofs.Try.f7 4)]) (by kernel_rfl) ⟨lp_at lpGbL4 rfl, trivial⟩) (eqInv lsGbL2) muGbL2 (fun _ h => h) (fun x h => stGbL2 x.1 x.2.1 x.2.2.1 h)
/-! GbL0: a gathering -/
def G.preGbL0 (b : Strs) (w : Strs) (i : Int)  : Bool := G.preA (b.length) i && (true && decide (b = w))
theorem preGbL0_iff {b : Strs} {w : Strs} {i : Int}  : G.preGbL0 b w i  = true ↔ (0 ≤ i ∧ i ≤ ((b.length : Nat) : Int) ∧ (b.length : Nat) ≤ 1099511627776) ∧ True ∧ decide (b = w) = true := by simp [G.preGbL0, preA_iff]
def G.oneGbL0 (b : Strs) (w : Strs) (a : Unit) (k : Nat) : Unit := ()
def G.fdGbL0 (b : Strs) (w : Strs) (i : Int) (a : Unit) : Unit := G.fold (G.oneGbL0 b w) (b.length) i a
noncomputable abbrev lsGbL0 : LSpec := ⟨[4, 5, 6], [], [StrSP, StrSP, IntP], [], false, fun x => G.preGbL0 x.1 x.2.1 x.2.2.1 ,
  fun x => ((0, G.fdGbL0 x.1 x.2.1 x.2.2.1 (())), ())⟩
noncomputable abbrev clGbL0 : Cx := mkCx T0 pg62 [(0, lsGbL0)] [] 97
theorem rGbL0 (b : Strs) (w : Strs) (i : Int) : roundK clGbL0 0 (loopIn Go.Proofs.Try.f7 0) lsGbL0 (b, w, i, ()) =
  (if Decidable.decide (i < (↑(List.length b) : Int)) = Bool.true then
    if Decidable.decide ((0 : Int) ≤ i) = Bool.true then
      if Decidable.decide (i < (↑(List.length b) : Int)) = Bool.true then
        if Decidable.decide ((0 : Int) ≤ i) = Bool.true then
          if Decidable.decide (i < (↑(List.length w) : Int)) = Bool.true then
            if (!Go.Rx.strEq (List.getD b (Int.toNat i) (ByteArray.empty, PUnit.unit)).1 (List.getD w (Int.toNat i) (ByteArray.empty, PUnit.unit)).1) = Bool.true then
              Option.some (Go.Rx.LRes.stop (1 : Nat) PUnit.unit PUnit.unit)
            else Option.some (Go.Rx.LRes.go (b, w, Go.IntKind.wrap Go.IntKind.i64 (i + (1 : Int)), PUnit.unit))
          else Option.none
        else Option.none
      else Option.none
    else Option.none
  else Option.some (Go.Rx.LRes.stop (0 : Nat) PUnit.unit PUnit.unit)) := by kernel_rfl
noncomputable abbrev muGbL0 : PKs.den lsGbL0.ins → Nat := fun x => (x.1.length) - x.2.2.1.toNat
theorem stGbL0 (b : Strs) (w : Strs) (i : Int) (h : G.preGbL0 b w i  = true) : StepOk lsGbL0 (eqInv lsGbL0) muGbL0 (b, w, i, ()) (roundK clGbL0 0 (loopIn Go.Proofs.Try.f7 0) lsGbL0 (b, w, i, ())) := by
  obtain ⟨⟨h0, h1, h2⟩, hn, hc⟩ := preGbL0_iff.1 h
  rw [rGbL0]
  by_cases hi : i < ((b.length : Nat) : Int)
  · have hw : IntKind.i64.wrap (i + 1) = i + 1 := w64 (by omega) (by omega)
    have hs : G.fdGbL0 b w i (()) = G.fdGbL0 b w (i + 1) (G.oneGbL0 b w (()) i.toNat) := fold_step h0 hi
    refine fold_go (eqInv lsGbL0) muGbL0 (b, w, i + 1, ()) ?_ (show G.preGbL0 b w (i + 1)  = true from preGbL0_iff.2 ⟨⟨by omega, by omega, h2⟩, trivial, ?_⟩) ?_ ?_
    · have e := of_decide_eq_true hc
      subst e
      have e0 : Go.Rx.strEq (G.sAt b i.toNat) (G.sAt b i.toNat) = true := by rw [strEq_iff]; simp
      rw [if_pos (decide_eq_true hi), if_pos (decide_eq_true h0), if_pos (decide_eq_true hi), if_pos (decide_eq_true h0), if_pos (decide_eq_true hi), sAt_eq, e0, if_neg (by decide), hw]
    · exact hc
    · show (b.length) - (i + 1).toNat < (b.length) - i.toNat
      omega
    · show ((_, _), _) = ((_, _), _)
      simp only [hs]
  · have hs : G.fdGbL0 b w i (()) = (()) := fold_end (by omega)
    skip
    rw [if_neg (by simpa using hi)]
    show ((_, _), _) = ((_, _), _)
    simp only [hs]
theorem lpGbL0 : LpOk Go.Proofs.Try.prog clGbL0.ntmps 0 (loopIn Go.Proofs.Try.f7 0) lsGbL0 :=
  lp_okB (cxOk T0_ok T0_eq pg62_ok) mixed (by kernel_rfl) (lps_none (by kernel_rfl)) (eqInv lsGbL0) muGbL0 (fun _ h => h) (fun x h => stGbL0 x.1 x.2.1 x.2.2.1 h)
/-! LawGraphBack -/
noncomputable abbrev spLawGraphBack : Spec := ⟨[BytesP], BoolR, true, fun x => x.1.all G.byteOk, fun x => (true, ())⟩
noncomputable abbrev cxLawGraphBack : Cx := mkCx T0 pg62 [(0, lsGbL0), (2, lsGbL2)] [] 97
theorem eLawGraphBack (c : Bytes) : funK cxLawGraphBack Go.Proofs.Try.f7 spLawGraphBack.ins spLawGraphBack.out (c, ()) =
  (if Decidable.decide ((↑(List.length c) : Int) > (1048576 : Int)) = Bool.true then Option.some (Bool.true, PUnit.unit)
  else
    if List.all c Go.Rx.G.byteOk = Bool.true then
      if Go.Rx.G.smallP (Go.Rx.G.dDrawGraphBack (c, PUnit.unit)).1 = Bool.true then
        if Go.Rx.G.funsB (Go.Rx.G.dDrawGraphBack (c, PUnit.unit)).1 = Bool.true then
          if
              (!Decidable.decide
                    ((↑(List.length (Go.Rx.G.named (Go.Rx.G.backF (Go.Rx.G.dDrawGraphBack (c, PUnit.unit)).1) (Go.Rx.G.dDrawGraphBack (c, PUnit.unit)).1)) : Int) =
                      (↑(List.length (Go.Rx.G.named (Go.Rx.G.backF (Go.Rx.G.dDrawGraphBack (c, PUnit.unit)).1) (Go.Rx.G.dDrawGraphBack (c, PUnit.unit)).1)) : Int))) =
                Bool.true then
            Option.some (Bool.false, PUnit.unit)
          else
            if
                Go.Rx.G.preGbL0 (Go.Rx.G.named (Go.Rx.G.backF (Go.Rx.G.dDrawGraphBack (c, PUnit.unit)).1) (Go.Rx.G.dDrawGraphBack (c, PUnit.unit)).1)
                    (Go.Rx.G.named (Go.Rx.G.backF (Go.Rx.G.dDrawGraphBack (c, PUnit.unit)).1) (Go.Rx.G.dDrawGraphBack (c, PUnit.unit)).1) (0 : Int) =
                  Bool.true then
              if
                  Go.Rx.G.preGbL2 (Go.Rx.G.dDrawGraphBack (c, PUnit.unit)).1
                      (Go.Rx.G.named (Go.Rx.G.backF (Go.Rx.G.dDrawGraphBack (c, PUnit.unit)).1) (Go.Rx.G.dDrawGraphBack (c, PUnit.unit)).1) (0 : Int) =
                    Bool.true then
                Option.some (Bool.true, PUnit.unit)
              else Option.none
            else Option.none
        else Option.none
      else Option.none
    else Option.none) := by kernel_rfl
theorem sfLawGraphBack (c : Bytes) (h : c.all G.byteOk = true) : funK cxLawGraphBack Go.Proofs.Try.f7 spLawGraphBack.ins spLawGraphBack.out (c, ()) = some (true, ()) := by
  obtain ⟨_, p1⟩ := postDrawGraphBack (c, ()) h
  rw [eLawGraphBack]
  by_cases hl : ((c.length : Nat) : Int) > 1048576
  · rw [if_pos (decide_eq_true hl)]
  · rw [if_neg (by simpa using hl), if_pos h]
    generalize G.dDrawGraphBack (c, ()) = d at p1 ⊢
    have hf : G.funsB d.1 = true := p1
    obtain ⟨p, _⟩ := d
    have hf : G.funsB p = true := hf
    have hs := funsB_small hf
    have hlen := ((funsB_iff p).1 hf).1
    have hl2 := named_len (G.backF p) p
    have hk := lenK_le p
    dsimp only
    rw [if_pos hs, if_pos hf, if_neg (by simp)]
    rw [if_pos (preGbL0_iff.2 ⟨⟨by omega, by omega, by omega⟩, trivial, decide_eq_true rfl⟩)]
    rw [if_pos (preGbL2_iff.2 ⟨⟨by omega, by omega, by omega⟩, trivial, by
      rw [Bool.and_eq_true, Bool.and_eq_true, Bool.and_eq_true]
      exact ⟨⟨hs, few_iff.2 (by omega)⟩, decide_eq_true hlen, backOk_named p⟩⟩)]
theorem okLawGraphBack : SpecOk Go.Proofs.Try.prog 7 spLawGraphBack :=
  fun_okB (cx := cxLawGraphBack) (F := Go.Proofs.Try.f7) (cxOk T0_ok T0_eq pg62_ok) mixed (by kernel_rfl) (by decide) (by kernel_rfl) (lps_of (l := [(0, loopIn Go.Proofs.Try.f7 0), (2, loopIn Go.Proofs.Try.f7 2)]) (by kernel_rfl) ⟨lp_at lpGbL0 rfl, lp_at lpGbL2 rfl, trivial⟩) (fun x h => sfLawGraphBack x.1 h)
end Go.Rx

/-
  THE LAW on what is reached: it unfolds.
-/
import Derived.Test.YtoagkidolpcigaaIf
namespace Go.Rx
open Go
set_option linter.unusedVariables false
set_option linter.unusedSimpArgs false
/-! names that are there once -/
def G.Uniq (p : Funs) : Prop := ∀ i j, i < p.length → j < p.length → (G.pAt p i).1 = (G.pAt p j).1 → i = j
theorem find_some {p : Funs} {k : Nat} (hk : k < p.length) : ¬ G.find p (G.pAt p k).1 < 0 := by
  intro h
  have := (idx_none (G.funAt p (G.pAt p k).1) p.length).1 h
  rw [Bool.eq_false_iff] at this
  exact this (anyFrom_zero.2 ⟨k, hk, decide_eq_true rfl⟩)
theorem find_uniq {p : Funs} (hu : G.Uniq p) {k : Nat} (hk : k < p.length) {s : ByteArray} (hs : (G.pAt p k).1 = s) : G.find p s = (k : Int) := by
  subst hs
  obtain ⟨h1, h2, h3, h4⟩ := find_ok (find_some hk)
  have := hu _ _ h1 hk h2
  omega
theorem funsOk_uniq {p : Funs} (h : G.funsOk p = true) : G.Uniq p := fun i j hi hj e => by
  have h1 := ((funsOk_iff p).1 h i hi).2
  have h2 := ((funsOk_iff p).1 h j hj).2
  rw [e] at h1
  omega
theorem uniq_funsOk {p : Funs} (hu : G.Uniq p) (h : ∀ k, k < p.length → G.funOk (G.pAt p k) = true) : G.funsOk p = true := (funsOk_iff p).2 fun k hk => ⟨h k hk, find_uniq hu hk rfl⟩
theorem fold_succ {β : Type} (f : β → Nat → β) (n : Nat) (a : β) : G.fold f (n + 1) 0 a = f (G.fold f n 0 a) n := by
  unfold G.fold
  rw [range_zero, range_zero, List.range_succ, List.foldl_append]
  rfl
theorem fold_inv {β : Type} {f : β → Nat → β} {P : β → Prop} (h : ∀ b k, P b → P (f b k)) {a : β} (h0 : P a) : ∀ n, P (G.fold f n 0 a)
  | 0 => h0
  | n + 1 => by
    rw [fold_succ]
    exact h _ _ (fold_inv h h0 n)
theorem fold_mem {α : Type} {f : List α → Nat → List α} {Q : Nat → α → Prop} (h : ∀ a k x, x ∈ f a k ↔ (x ∈ a ∨ Q k x)) (a : List α) (x : α) : ∀ n, x ∈ G.fold f n 0 a ↔ (x ∈ a ∨ ∃ k, k < n ∧ Q k x)
  | 0 => by
    have e : G.fold f 0 0 a = a := rfl
    rw [e]
    simp
  | n + 1 => by
    rw [fold_succ, h, fold_mem h a x n]
    constructor
    · rintro ((h | ⟨k, hk, q⟩) | q)
      · exact .inl h
      · exact .inr ⟨k, by omega, q⟩
      · exact .inr ⟨n, by omega, q⟩
    · rintro (h | ⟨k, hk, q⟩)
      · exact .inl (.inl h)
      · by_cases e : k = n
        · subst e
          exact .inr q
        · exact .inl (.inr ⟨k, by omega, q⟩)
theorem fold_lenC {α : Type} {f : List α → Nat → List α} {c : Nat} (h : ∀ a k, (f a k).length ≤ a.length + c) (a : List α) : ∀ n, (G.fold f n 0 a).length ≤ a.length + c * n
  | 0 => Nat.le_refl _
  | n + 1 => by
    rw [fold_succ]
    have h1 := h (G.fold f n 0 a) n
    have h2 := fold_lenC h a n
    rw [Nat.mul_add, Nat.mul_one]
    omega
theorem addOne_nd {refs names : Strs} {k : Nat} (h : names.Nodup) : (G.addOne refs names k).Nodup := by
  unfold G.addOne
  by_cases c : G.hasS names (G.sAt refs k) = true
  · rw [if_pos c]
    exact h
  · rw [if_neg c, List.nodup_append]
    refine ⟨h, by simp, fun a ha b hb => ?_⟩
    rw [List.mem_singleton] at hb
    subst hb
    rintro rfl
    exact c ((hasS_iff _ _).2 ha)
theorem addAll_nd {refs names : Strs} (h : names.Nodup) : (G.addAll refs names).Nodup := fold_inv (P := fun a : Strs => a.Nodup) (fun _ _ => addOne_nd) h _
theorem addAll_len (refs names : Strs) : (G.addAll refs names).length ≤ names.length + refs.length := by
  have := fold_lenC (c := 1) (addOne_len refs) names refs.length
  unfold G.addAll
  omega
def G.uni2 (p : Funs) (refs : Strs) (a : Strs) : Strs := G.fold (fun (all : Strs) k => G.addAll (G.keepReach p (G.sAt refs k)) all) refs.length 0 a
def G.uniOne (p : Funs) (s : ByteArray) (all : Strs) (k : Nat) : Strs := if (G.pAt p k).1 = s then G.uni2 p (G.funRefs (G.pAt p k)) all else all
def G.uni0 (p : Funs) (s : ByteArray) (a : Strs) : Strs := G.fold (G.uniOne p s) p.length 0 a
theorem uni2_len (p : Funs) (refs a : Strs) : (G.uni2 p refs a).length ≤ a.length + (p.length + 1) * refs.length := fold_lenC (c := p.length + 1) (f := fun (all : Strs) k => G.addAll (G.keepReach p (G.sAt refs k)) all) (fun b k => by
  have h1 := addAll_len (G.keepReach p (G.sAt refs k)) b
  have h2 := keepReach_len p (G.sAt refs k)
  omega) a refs.length
theorem mem_uni2 {p : Funs} {refs a : Strs} {x : ByteArray × Unit} : x ∈ G.uni2 p refs a ↔ (x ∈ a ∨ ∃ k, k < refs.length ∧ x ∈ G.keepReach p (G.sAt refs k)) := fold_mem (f := fun (all : Strs) k => G.addAll (G.keepReach p (G.sAt refs k)) all) (Q := fun k x => x ∈ G.keepReach p (G.sAt refs k)) (fun b k x => mem_addAll) a x refs.length
theorem mem_uni0 {p : Funs} {s : ByteArray} {a : Strs} {x : ByteArray × Unit} : x ∈ G.uni0 p s a ↔ (x ∈ a ∨ ∃ k, k < p.length ∧ (G.pAt p k).1 = s ∧ ∃ j, j < (G.funRefs (G.pAt p k)).length ∧ x ∈ G.keepReach p (G.sAt (G.funRefs (G.pAt p k)) j)) := fold_mem (f := G.uniOne p s) (Q := fun k x => (G.pAt p k).1 = s ∧ ∃ j, j < (G.funRefs (G.pAt p k)).length ∧ x ∈ G.keepReach p (G.sAt (G.funRefs (G.pAt p k)) j)) (fun b k x => by
  unfold G.uniOne
  by_cases c : (G.pAt p k).1 = s
  · rw [if_pos c, mem_uni2]
    simp [c]
  · rw [if_neg c]
    simp [c]) a x p.length
theorem uni0_nd {p : Funs} {s : ByteArray} {a : Strs} (h : a.Nodup) : (G.uni0 p s a).Nodup := fold_inv (P := fun a : Strs => a.Nodup) (fun b k hb => by
  unfold G.uniOne
  split
  · exact fold_inv (P := fun a : Strs => a.Nodup) (fun c j hc => addAll_nd hc) hb _
  · exact hb) h _
theorem funRefs_of {p : Funs} (hk : G.keepOk p = true) {k : Nat} (h : k < p.length) : G.funRefs (G.pAt p k) = G.refsOf (G.pAt p k).2.2.1 := by
  unfold G.funRefs
  rw [if_pos ((funsOk_iff p).1 ((keepOk_iff p).1 hk).2.1 k h).1]
theorem Rc.unfold {p : Funs} {s t : ByteArray} : Rc p s t ↔ (t = s ∨ ∃ u, (u, ()) ∈ G.refsOf (G.getF p s).2.2.1 ∧ Rc p u t) := by
  constructor
  · intro h
    induction h with
    | refl => exact .inl rfl
    | step h1 h2 ih =>
      rcases ih with rfl | ⟨u, hu, hr⟩
      · exact .inr ⟨_, h2, .refl⟩
      · exact .inr ⟨u, hu, .step hr h2⟩
  · rintro (rfl | ⟨u, hu, hr⟩)
    · exact .refl
    · exact Rc.trans (.step .refl hu) hr
theorem uni_same {p : Funs} {s : ByteArray} (k1 : G.keepOk p = true) (k2 : G.hasF p s = true) (x : ByteArray × Unit) : x ∈ G.uni0 p s [(s, ())] ↔ x ∈ G.keepReach p s := by
  obtain ⟨t, u⟩ := x
  rw [mem_uni0, List.mem_singleton, mem_reach k1 k2, Rc.unfold]
  refine or_congr ⟨fun h => congrArg (fun q : ByteArray × Unit => q.1) h, fun h => by rw [h]⟩ ?_
  obtain ⟨g1, g2, g3⟩ := getF_at k2
  constructor
  · rintro ⟨k, hk, hs, j, hj, hx⟩
    have hself := getF_self k1 hk
    rw [hs] at hself
    rw [funRefs_of k1 hk] at hj hx
    have hm : (G.sAt (G.refsOf (G.pAt p k).2.2.1) j, ()) ∈ G.refsOf (G.getF p s).2.2.1 := by
      rw [sAt_get hj, hself.2]
      exact List.getElem_mem _
    have hh := refs_has ((keepOk_iff p).1 k1).2.2 k2 hm
    exact ⟨_, hm, (mem_reach k1 hh t).1 hx⟩
  · rintro ⟨v, hv, hr⟩
    have hh := refs_has ((keepOk_iff p).1 k1).2.2 k2 hv
    refine ⟨(G.find p s).toNat, g2, by rw [← g1]; exact g3, ?_⟩
    rw [funRefs_of k1 g2, ← g1]
    obtain ⟨j, hj, e⟩ := List.getElem_of_mem hv
    refine ⟨j, hj, ?_⟩
    rw [← sAt_get hj] at e
    rw [show G.sAt (G.refsOf (G.getF p s).2.2.1) j = v from congrArg (fun q : ByteArray × Unit => q.1) e]
    exact (mem_reach k1 hh t).2 hr
theorem nd_len {a b : Strs} (ha : a.Nodup) (hb : b.Nodup) (h : ∀ x, x ∈ a ↔ x ∈ b) : a.length = b.length := Nat.le_antisymm (nodup_len ha fun x => (h x).1) (nodup_len hb fun x => (h x).2)
theorem pAt_mem {p : Funs} {k : Nat} (h : k < p.length) : G.pAt p k ∈ p := by
  unfold G.pAt
  rw [getD_lt _ _ h]
  exact List.getElem_mem h
theorem funB_len {f : Fun} (h : G.funB f = true) : f.2.2.1.length ≤ 8 := by
  unfold G.funB at h
  rw [Bool.and_eq_true, Bool.and_eq_true, decide_eq_true_iff] at h
  exact h.2.1
theorem uniOne_len {p : Funs} {s : ByteArray} {a : Strs} {k : Nat} (h : p.length ≤ 400) (hb : (G.pAt p k).2.2.1.length ≤ 8) : (G.uniOne p s a k).length ≤ a.length + 4000 := by
  unfold G.uniOne
  split
  · have h1 := uni2_len p (G.funRefs (G.pAt p k)) a
    have h2 := funRefs_len (G.pAt p k)
    have h3 : (p.length + 1) * (G.funRefs (G.pAt p k)).length ≤ 401 * 8 := Nat.mul_le_mul (by omega) (by omega)
    omega
  · omega
/-! KuL4: a gathering -/
def G.preKuL4 (more : Strs) (i : Int) (all : Strs) : Bool := G.preA (more.length) i && (true && decide ((all.length : Int) ≤ 3000000 + i ∧ more.length ≤ 1000))
theorem preKuL4_iff {more : Strs} {i : Int} {all : Strs} : G.preKuL4 more i all = true ↔ (0 ≤ i ∧ i ≤ ((more.length : Nat) : Int) ∧ (more.length : Nat) ≤ 1099511627776) ∧ True ∧ decide ((all.length : Int) ≤ 3000000 + i ∧ more.length ≤ 1000) = true := by simp [G.preKuL4, preA_iff]
def G.oneKuL4 (more : Strs) (a : Strs × Unit) (k : Nat) : Strs × Unit := (G.addOne more a.1 k, ())
def G.fdKuL4 (more : Strs) (i : Int) (a : Strs × Unit) : Strs × Unit := G.fold (G.oneKuL4 more) (more.length) i a
noncomputable abbrev lsKuL4 : LSpec := ⟨[6, 10, 11], [6], [.c (.own strT), StrSP, IntP], [.c (.own strT)], false, fun x => G.preKuL4 x.2.1 x.2.2.1 x.1,
  fun x => ((0, G.fdKuL4 x.2.1 x.2.2.1 (x.1, ())), ())⟩
noncomputable abbrev clKuL4 : Cx := mkCx T0 pl1 [(4, lsKuL4)] [] 104
theorem rKuL4 (all : Strs) (more : Strs) (i : Int) : roundK clKuL4 4 (loopIn Go.Proofs.Try.f4 4) lsKuL4 (all, more, i, ()) =
  (if Decidable.decide (i < (↑(List.length more) : Int)) = Bool.true then
    if Decidable.decide ((0 : Int) ≤ i) = Bool.true then
      if Decidable.decide (i < (↑(List.length more) : Int)) = Bool.true then
        if Go.Rx.G.few (List.length all) = Bool.true then
          if (!Go.Rx.G.hasS all (List.getD more (Int.toNat i) (ByteArray.empty, PUnit.unit)).1) = Bool.true then
            if Decidable.decide ((0 : Int) ≤ i) = Bool.true then
              if Decidable.decide (i < (↑(List.length more) : Int)) = Bool.true then
                if Go.Rx.okSize (16 : Nat) (List.length all + (1 : Nat)) = Bool.true then
                  Option.some (Go.Rx.LRes.go (all ++ [List.getD more (Int.toNat i) (ByteArray.empty, PUnit.unit)], more, Go.IntKind.wrap Go.IntKind.i64 (i + (1 : Int)), PUnit.unit))
                else Option.none
              else Option.none
            else Option.none
          else Option.some (Go.Rx.LRes.go (all, more, Go.IntKind.wrap Go.IntKind.i64 (i + (1 : Int)), PUnit.unit))
        else Option.none
      else Option.none
    else Option.none
  else Option.some (Go.Rx.LRes.stop (0 : Nat) (all, PUnit.unit) PUnit.unit)) := by kernel_rfl
noncomputable abbrev muKuL4 : PKs.den lsKuL4.ins → Nat := fun x => (x.2.1.length) - x.2.2.1.toNat
theorem stKuL4 (all : Strs) (more : Strs) (i : Int) (h : G.preKuL4 more i all = true) : StepOk lsKuL4 (eqInv lsKuL4) muKuL4 (all, more, i, ()) (roundK clKuL4 4 (loopIn Go.Proofs.Try.f4 4) lsKuL4 (all, more, i, ())) := by
  obtain ⟨⟨h0, h1, h2⟩, hn, hc⟩ := preKuL4_iff.1 h
  rw [rKuL4]
  by_cases hi : i < ((more.length : Nat) : Int)
  · have hw : IntKind.i64.wrap (i + 1) = i + 1 := w64 (by omega) (by omega)
    have hs : G.fdKuL4 more i (all, ()) = G.fdKuL4 more (i + 1) (G.oneKuL4 more (all, ()) i.toNat) := fold_step h0 hi
    refine fold_go (eqInv lsKuL4) muKuL4 ((G.oneKuL4 more (all, ()) i.toNat).1, more, i + 1, ()) ?_ (show G.preKuL4 more (i + 1) (G.oneKuL4 more (all, ()) i.toNat).1 = true from preKuL4_iff.2 ⟨⟨by omega, by omega, h2⟩, trivial, ?_⟩) ?_ ?_
    · have hl := of_decide_eq_true hc
      rw [if_pos (decide_eq_true hi), if_pos (few_iff.2 (show all.length ≤ 1099511627776 by omega)), if_pos (decide_eq_true h0), if_pos (decide_eq_true hi), sAt_eq, hw]
      unfold G.oneKuL4 G.addOne
      dsimp only
      cases hh : G.hasS all (G.sAt more i.toNat) with
      | true => simp
      | false =>
        simp only [h0, hi, decide_true, if_true, okSize_few (show 16 ≤ 64 by omega) (show all.length + 1 ≤ 1099511627777 by omega)]
        rfl
    · have hc := of_decide_eq_true hc
      have hx := addOne_len more all i.toNat
      exact decide_eq_true (show (((G.addOne more all i.toNat).length : Nat) : Int) ≤ 3000000 + (i + 1) ∧ more.length ≤ 1000 by omega)
    · show (more.length) - (i + 1).toNat < (more.length) - i.toNat
      omega
    · show ((_, _), _) = ((_, _), _)
      simp only [hs]
  · have hs : G.fdKuL4 more i (all, ()) = (all, ()) := fold_end (by omega)
    skip
    rw [if_neg (by simpa using hi)]
    show ((_, _), _) = ((_, _), _)
    simp only [hs]
theorem lpKuL4 : LpOk Go.Proofs.Try.prog clKuL4.ntmps 4 (loopIn Go.Proofs.Try.f4 4) lsKuL4 :=
  lp_okB (cxOk T0_ok T0_eq pl1_ok) mixed (by kernel_rfl) (lps_none (by kernel_rfl)) (eqInv lsKuL4) muKuL4 (fun _ h => h) (fun x h => stKuL4 x.1 x.2.1 x.2.2.1 h)
/-! KuL2: a gathering -/
def G.preKuL2 (p : Funs) (refs : Strs) (i : Int) (all : Strs) : Bool := G.preA (refs.length) i && (true && (G.smallP p && decide (p.length ≤ 400 ∧ refs.length ≤ 100 ∧ (all.length : Int) ≤ 2000000 + 500 * i)))
theorem preKuL2_iff {p : Funs} {refs : Strs} {i : Int} {all : Strs} : G.preKuL2 p refs i all = true ↔ (0 ≤ i ∧ i ≤ ((refs.length : Nat) : Int) ∧ (refs.length : Nat) ≤ 1099511627776) ∧ True ∧ (G.smallP p && decide (p.length ≤ 400 ∧ refs.length ≤ 100 ∧ (all.length : Int) ≤ 2000000 + 500 * i)) = true := by simp [G.preKuL2, preA_iff]
def G.oneKuL2 (p : Funs) (refs : Strs) (a : Strs × Unit) (k : Nat) : Strs × Unit := (G.addAll (G.keepReach p (G.sAt refs k)) a.1, ())
def G.fdKuL2 (p : Funs) (refs : Strs) (i : Int) (a : Strs × Unit) : Strs × Unit := G.fold (G.oneKuL2 p refs) (refs.length) i a
noncomputable abbrev lsKuL2 : LSpec := ⟨[3, 6, 8, 9], [6], [FunSP, .c (.own strT), StrSP, IntP], [.c (.own strT)], false, fun x => G.preKuL2 x.1 x.2.2.1 x.2.2.2.1 x.2.1,
  fun x => ((0, G.fdKuL2 x.1 x.2.2.1 x.2.2.2.1 (x.2.1, ())), ())⟩
noncomputable abbrev clKuL2 : Cx := mkCx T0 pl1 [(4, lsKuL4), (2, lsKuL2)] [] 104
theorem rKuL2 (p : Funs) (all : Strs) (refs : Strs) (i : Int) : roundK clKuL2 2 (loopIn Go.Proofs.Try.f4 2) lsKuL2 (p, all, refs, i, ()) =
  (if Decidable.decide (i < (↑(List.length refs) : Int)) = Bool.true then
    if Decidable.decide ((0 : Int) ≤ i) = Bool.true then
      if Decidable.decide (i < (↑(List.length refs) : Int)) = Bool.true then
        if Go.Rx.G.smallP p = Bool.true then
          if Go.Rx.G.preKuL4 (Go.Rx.G.keepReach p (List.getD refs (Int.toNat i) (ByteArray.empty, PUnit.unit)).1) (0 : Int) all = Bool.true then
            Option.some
              (Go.Rx.LRes.go
                (p, (Go.Rx.G.fdKuL4 (Go.Rx.G.keepReach p (List.getD refs (Int.toNat i) (ByteArray.empty, PUnit.unit)).1) (0 : Int) (all, PUnit.unit)).1, refs,
                  Go.IntKind.wrap Go.IntKind.i64 (i + (1 : Int)), PUnit.unit))
          else Option.none
        else Option.none
      else Option.none
    else Option.none
  else Option.some (Go.Rx.LRes.stop (0 : Nat) (all, PUnit.unit) PUnit.unit)) := by kernel_rfl
noncomputable abbrev muKuL2 : PKs.den lsKuL2.ins → Nat := fun x => (x.2.2.1.length) - x.2.2.2.1.toNat
theorem stKuL2 (p : Funs) (all : Strs) (refs : Strs) (i : Int) (h : G.preKuL2 p refs i all = true) : StepOk lsKuL2 (eqInv lsKuL2) muKuL2 (p, all, refs, i, ()) (roundK clKuL2 2 (loopIn Go.Proofs.Try.f4 2) lsKuL2 (p, all, refs, i, ())) := by
  obtain ⟨⟨h0, h1, h2⟩, hn, hc⟩ := preKuL2_iff.1 h
  rw [rKuL2]
  by_cases hi : i < ((refs.length : Nat) : Int)
  · have hw : IntKind.i64.wrap (i + 1) = i + 1 := w64 (by omega) (by omega)
    have hs : G.fdKuL2 p refs i (all, ()) = G.fdKuL2 p refs (i + 1) (G.oneKuL2 p refs (all, ()) i.toNat) := fold_step h0 hi
    refine fold_go (eqInv lsKuL2) muKuL2 (p, (G.oneKuL2 p refs (all, ()) i.toNat).1, refs, i + 1, ()) ?_ (show G.preKuL2 p refs (i + 1) (G.oneKuL2 p refs (all, ()) i.toNat).1 = true from preKuL2_iff.2 ⟨⟨by omega, by omega, h2⟩, trivial, ?_⟩) ?_ ?_
    · rw [Bool.and_eq_true, decide_eq_true_iff] at hc
      obtain ⟨c1, c2⟩ := hc
      have hy := keepReach_len p (G.sAt refs i.toNat)
      rw [if_pos (decide_eq_true hi), if_pos (decide_eq_true h0), if_pos (decide_eq_true hi), if_pos c1, sAt_eq, if_pos (preKuL4_iff.2 ⟨⟨by omega, by omega, by omega⟩, trivial, decide_eq_true ⟨by omega, by omega⟩⟩), hw]
      have e := fold_unit (G.addOne (G.keepReach p (G.sAt refs i.toNat))) (G.keepReach p (G.sAt refs i.toNat)).length 0 all
      have e : G.fdKuL4 (G.keepReach p (G.sAt refs i.toNat)) 0 (all, ()) = (G.addAll (G.keepReach p (G.sAt refs i.toNat)) all, ()) := e
      rw [e]
      rfl
    · rw [Bool.and_eq_true, decide_eq_true_iff] at hc ⊢
      have hx := addAll_len (G.keepReach p (G.sAt refs i.toNat)) all
      have hy := keepReach_len p (G.sAt refs i.toNat)
      exact ⟨hc.1, show p.length ≤ 400 ∧ refs.length ≤ 100 ∧ (((G.addAll (G.keepReach p (G.sAt refs i.toNat)) all).length : Nat) : Int) ≤ 2000000 + 500 * (i + 1) by omega⟩
    · show (refs.length) - (i + 1).toNat < (refs.length) - i.toNat
      omega
    · show ((_, _), _) = ((_, _), _)
      simp only [hs]
  · have hs : G.fdKuL2 p refs i (all, ()) = (all, ()) := fold_end (by omega)
    skip
    rw [if_neg (by simpa using hi)]
    show ((_, _), _) = ((_, _), _)
    simp only [hs]
theorem lpKuL2 : LpOk Go.Proofs.Try.prog clKuL2.ntmps 2 (loopIn Go.Proofs.Try.f4 2) lsKuL2 :=
  lp_okB (cxOk T0_ok T0_eq pl1_ok) mixed (by kernel_rfl) (lps_of (l := [(4, loopIn Go.Proofs.Try.f4 4)]) (by kernel_rfl) ⟨lp_at lpKuL4 rfl, trivial⟩) (eqInv lsKuL2) muKuL2 (fun _ h => h) (fun x h => stKuL2 x.1 x.2.1 x.2.2.1 x.2.2.2.1 h)
/-! KuL0: a gathering -/
def G.preKuL0 (p : Funs) (s : ByteArray) (i : Int) (all : Strs) : Bool := G.preA (p.length) i && (true && (G.funsB p && decide ((all.length : Int) ≤ 1 + 4000 * i)))
theorem preKuL0_iff {p : Funs} {s : ByteArray} {i : Int} {all : Strs} : G.preKuL0 p s i all = true ↔ (0 ≤ i ∧ i ≤ ((p.length : Nat) : Int) ∧ (p.length : Nat) ≤ 1099511627776) ∧ True ∧ (G.funsB p && decide ((all.length : Int) ≤ 1 + 4000 * i)) = true := by simp [G.preKuL0, preA_iff]
def G.oneKuL0 (p : Funs) (s : ByteArray) (a : Strs × Unit) (k : Nat) : Strs × Unit := (G.uniOne p s a.1 k, ())
def G.fdKuL0 (p : Funs) (s : ByteArray) (i : Int) (a : Strs × Unit) : Strs × Unit := G.fold (G.oneKuL0 p s) (p.length) i a
noncomputable abbrev lsKuL0 : LSpec := ⟨[3, 4, 6, 7], [6], [FunSP, StrP, .c (.own strT), IntP], [.c (.own strT)], false, fun x => G.preKuL0 x.1 x.2.1 x.2.2.2.1 x.2.2.1,
  fun x => ((0, G.fdKuL0 x.1 x.2.1 x.2.2.2.1 (x.2.2.1, ())), ())⟩
noncomputable abbrev clKuL0 : Cx := mkCx T0 pl1 [(2, lsKuL2), (0, lsKuL0)] [] 104
theorem rKuL0 (p : Funs) (s : ByteArray) (all : Strs) (i : Int) : roundK clKuL0 0 (loopIn Go.Proofs.Try.f4 0) lsKuL0 (p, s, all, i, ()) =
  (if Decidable.decide (i < (↑(List.length p) : Int)) = Bool.true then
    if Decidable.decide ((0 : Int) ≤ i) = Bool.true then
      if Decidable.decide (i < (↑(List.length p) : Int)) = Bool.true then
        if (!Go.Rx.strEq (List.getD p (Int.toNat i) (ByteArray.empty, Bool.false, [], PUnit.unit)).1 s) = Bool.true then
          Option.some (Go.Rx.LRes.go (p, s, all, Go.IntKind.wrap Go.IntKind.i64 (i + (1 : Int)), PUnit.unit))
        else
          if Decidable.decide ((0 : Int) ≤ i) = Bool.true then
            if Decidable.decide (i < (↑(List.length p) : Int)) = Bool.true then
              if Go.Rx.G.smallF (List.getD p (Int.toNat i) (ByteArray.empty, Bool.false, [], PUnit.unit)) = Bool.true then
                if Go.Rx.G.preKuL2 p (Go.Rx.G.funRefs (List.getD p (Int.toNat i) (ByteArray.empty, Bool.false, [], PUnit.unit))) (0 : Int) all = Bool.true then
                  Option.some
                    (Go.Rx.LRes.go
                      (p, s, (Go.Rx.G.fdKuL2 p (Go.Rx.G.funRefs (List.getD p (Int.toNat i) (ByteArray.empty, Bool.false, [], PUnit.unit))) (0 : Int) (all, PUnit.unit)).1,
                        Go.IntKind.wrap Go.IntKind.i64 (i + (1 : Int)), PUnit.unit))
                else Option.none
              else Option.none
            else Option.none
          else Option.none
      else Option.none
    else Option.none
  else Option.some (Go.Rx.LRes.stop (0 : Nat) (all, PUnit.unit) PUnit.unit)) := by kernel_rfl
noncomputable abbrev muKuL0 : PKs.den lsKuL0.ins → Nat := fun x => (x.1.length) - x.2.2.2.1.toNat
theorem stKuL0 (p : Funs) (s : ByteArray) (all : Strs) (i : Int) (h : G.preKuL0 p s i all = true) : StepOk lsKuL0 (eqInv lsKuL0) muKuL0 (p, s, all, i, ()) (roundK clKuL0 0 (loopIn Go.Proofs.Try.f4 0) lsKuL0 (p, s, all, i, ())) := by
  obtain ⟨⟨h0, h1, h2⟩, hn, hc⟩ := preKuL0_iff.1 h
  rw [rKuL0]
  by_cases hi : i < ((p.length : Nat) : Int)
  · have hw : IntKind.i64.wrap (i + 1) = i + 1 := w64 (by omega) (by omega)
    have hs : G.fdKuL0 p s i (all, ()) = G.fdKuL0 p s (i + 1) (G.oneKuL0 p s (all, ()) i.toNat) := fold_step h0 hi
    refine fold_go (eqInv lsKuL0) muKuL0 (p, s, (G.oneKuL0 p s (all, ()) i.toNat).1, i + 1, ()) ?_ (show G.preKuL0 p s (i + 1) (G.oneKuL0 p s (all, ()) i.toNat).1 = true from preKuL0_iff.2 ⟨⟨by omega, by omega, h2⟩, trivial, ?_⟩) ?_ ?_
    · rw [Bool.and_eq_true, decide_eq_true_iff] at hc
      obtain ⟨c1, c2⟩ := hc
      obtain ⟨c3, c4⟩ := (funsB_iff p).1 c1
      have hb := funB_len (c4 _ (pAt_mem (show i.toNat < p.length by omega)))
      have hs1 := funsB_small c1
      have hs2 := funB_small (c4 _ (pAt_mem (show i.toNat < p.length by omega)))
      have hr := funRefs_len (G.pAt p i.toNat)
      rw [if_pos (decide_eq_true hi), if_pos (decide_eq_true h0), if_pos (decide_eq_true hi), pAt_eq, strEq_iff]
      unfold G.oneKuL0 G.uniOne
      dsimp only
      by_cases c : (G.pAt p i.toNat).1 = s
      · have e := fold_unit (fun (all : Strs) k => G.addAll (G.keepReach p (G.sAt (G.funRefs (G.pAt p i.toNat)) k)) all) (G.funRefs (G.pAt p i.toNat)).length 0 all
        have e : G.fdKuL2 p (G.funRefs (G.pAt p i.toNat)) 0 (all, ()) = (G.uni2 p (G.funRefs (G.pAt p i.toNat)) all, ()) := e
        have hpre : G.preKuL2 p (G.funRefs (G.pAt p i.toNat)) 0 all = true := preKuL2_iff.2 ⟨⟨by omega, by omega, by omega⟩, trivial, by rw [Bool.and_eq_true, decide_eq_true_iff]; exact ⟨hs1, by omega⟩⟩
        simp only [c, h0, hi, hs2, e, hw, hpre, decide_true, if_true, Bool.not_true]
        rfl
      · simp only [c, hw, decide_false, if_true, Bool.not_false, if_false]
    · rw [Bool.and_eq_true, decide_eq_true_iff] at hc ⊢
      obtain ⟨c1, c2⟩ := hc
      obtain ⟨c3, c4⟩ := (funsB_iff p).1 c1
      have hb := funB_len (c4 _ (pAt_mem (show i.toNat < p.length by omega)))
      refine ⟨c1, show (((G.uniOne p s all i.toNat).length : Nat) : Int) ≤ 1 + 4000 * (i + 1) from ?_⟩
      have hl := uniOne_len (p := p) (s := s) (a := all) (k := i.toNat) c3 hb
      omega
    · show (p.length) - (i + 1).toNat < (p.length) - i.toNat
      omega
    · show ((_, _), _) = ((_, _), _)
      simp only [hs]
  · have hs : G.fdKuL0 p s i (all, ()) = (all, ()) := fold_end (by omega)
    skip
    rw [if_neg (by simpa using hi)]
    show ((_, _), _) = ((_, _), _)
    simp only [hs]
theorem lpKuL0 : LpOk Go.Proofs.Try.prog clKuL0.ntmps 0 (loopIn Go.Proofs.Try.f4 0) lsKuL0 :=
  lp_okB (cxOk T0_ok T0_eq pl1_ok) mixed (by kernel_rfl) (lps_of (l := [(2, loopIn Go.Proofs.Try.f4 2)]) (by kernel_rfl) ⟨lp_at lpKuL2 rfl, trivial⟩) (eqInv lsKuL0) muKuL0 (fun _ h => h) (fun x h => stKuL0 x.1 x.2.1 x.2.2.1 x.2.2.2.1 h)
/-! KuL6: a gathering -/
def G.preKuL6 (r : Strs) (all : Strs) (i : Int)  : Bool := G.preA (r.length) i && (true && (G.few all.length && decide (∀ k, k < r.length → G.hasS all (G.sAt r k) = true)))
theorem preKuL6_iff {r : Strs} {all : Strs} {i : Int}  : G.preKuL6 r all i  = true ↔ (0 ≤ i ∧ i ≤ ((r.length : Nat) : Int) ∧ (r.length : Nat) ≤ 1099511627776) ∧ True ∧ (G.few all.length && decide (∀ k, k < r.length → G.hasS all (G.sAt r k) = true)) = true := by simp [G.preKuL6, preA_iff]
def G.oneKuL6 (r : Strs) (all : Strs) (a : Unit) (k : Nat) : Unit := ()
def G.fdKuL6 (r : Strs) (all : Strs) (i : Int) (a : Unit) : Unit := G.fold (G.oneKuL6 r all) (r.length) i a
noncomputable abbrev lsKuL6 : LSpec := ⟨[5, 6, 12], [], [StrSP, StrSP, IntP], [], false, fun x => G.preKuL6 x.1 x.2.1 x.2.2.1 ,
  fun x => ((0, G.fdKuL6 x.1 x.2.1 x.2.2.1 (())), ())⟩
noncomputable abbrev clKuL6 : Cx := mkCx T0 pl1 [(6, lsKuL6)] [] 104
theorem rKuL6 (r : Strs) (all : Strs) (i : Int) : roundK clKuL6 6 (loopIn Go.Proofs.Try.f4 6) lsKuL6 (r, all, i, ()) =
  (if Decidable.decide (i < (↑(List.length r) : Int)) = Bool.true then
    if Decidable.decide ((0 : Int) ≤ i) = Bool.true then
      if Decidable.decide (i < (↑(List.length r) : Int)) = Bool.true then
        if Go.Rx.G.few (List.length all) = Bool.true then
          if (!Go.Rx.G.hasS all (List.getD r (Int.toNat i) (ByteArray.empty, PUnit.unit)).1) = Bool.true then Option.some (Go.Rx.LRes.stop (1 : Nat) PUnit.unit PUnit.unit)
          else Option.some (Go.Rx.LRes.go (r, all, Go.IntKind.wrap Go.IntKind.i64 (i + (1 : Int)), PUnit.unit))
        else Option.none
      else Option.none
    else Option.none
  else Option.some (Go.Rx.LRes.stop (0 : Nat) PUnit.unit PUnit.unit)) := by kernel_rfl
noncomputable abbrev muKuL6 : PKs.den lsKuL6.ins → Nat := fun x => (x.1.length) - x.2.2.1.toNat
theorem stKuL6 (r : Strs) (all : Strs) (i : Int) (h : G.preKuL6 r all i  = true) : StepOk lsKuL6 (eqInv lsKuL6) muKuL6 (r, all, i, ()) (roundK clKuL6 6 (loopIn Go.Proofs.Try.f4 6) lsKuL6 (r, all, i, ())) := by
  obtain ⟨⟨h0, h1, h2⟩, hn, hc⟩ := preKuL6_iff.1 h
  rw [rKuL6]
  by_cases hi : i < ((r.length : Nat) : Int)
  · have hw : IntKind.i64.wrap (i + 1) = i + 1 := w64 (by omega) (by omega)
    have hs : G.fdKuL6 r all i (()) = G.fdKuL6 r all (i + 1) (G.oneKuL6 r all (()) i.toNat) := fold_step h0 hi
    refine fold_go (eqInv lsKuL6) muKuL6 (r, all, i + 1, ()) ?_ (show G.preKuL6 r all (i + 1)  = true from preKuL6_iff.2 ⟨⟨by omega, by omega, h2⟩, trivial, ?_⟩) ?_ ?_
    · rw [Bool.and_eq_true, decide_eq_true_iff] at hc
      rw [if_pos (decide_eq_true hi), if_pos hc.1, if_pos (decide_eq_true h0), if_pos (decide_eq_true hi), sAt_eq, hc.2 i.toNat (by omega), if_neg (by decide), hw]
    · exact hc
    · show (r.length) - (i + 1).toNat < (r.length) - i.toNat
      omega
    · show ((_, _), _) = ((_, _), _)
      simp only [hs]
  · have hs : G.fdKuL6 r all i (()) = (()) := fold_end (by omega)
    skip
    rw [if_neg (by simpa using hi)]
    show ((_, _), _) = ((_, _), _)
    simp only [hs]
theorem lpKuL6 : LpOk Go.Proofs.Try.prog clKuL6.ntmps 6 (loopIn Go.Proofs.Try.f4 6) lsKuL6 :=
  lp_okB (cxOk T0_ok T0_eq pl1_ok) mixed (by kernel_rfl) (lps_none (by kernel_rfl)) (eqInv lsKuL6) muKuL6 (fun _ h => h) (fun x h => stKuL6 x.1 x.2.1 x.2.2.1 h)
/-! LawKeepUnion -/
noncomputable abbrev spLawKeepUnion : Spec := ⟨[BytesP], BoolR, true, fun x => x.1.all G.byteOk, fun x => (true, ())⟩
noncomputable abbrev cxLawKeepUnion : Cx := mkCx T0 pl1 [(0, lsKuL0), (6, lsKuL6)] [] 104
theorem eLawKeepUnion (c : Bytes) : funK cxLawKeepUnion Go.Proofs.Try.f4 spLawKeepUnion.ins spLawKeepUnion.out (c, ()) =
  (if Decidable.decide ((↑(List.length c) : Int) > (1048576 : Int)) = Bool.true then Option.some (Bool.true, PUnit.unit)
  else
    if List.all c Go.Rx.G.byteOk = Bool.true then
      if Go.Rx.G.smallP (Go.Rx.G.dDrawKeepReach (c, PUnit.unit)).1.1 = Bool.true then
        if Go.Rx.G.smallP (Go.Rx.G.dDrawKeepReach (c, PUnit.unit)).1.1 = Bool.true then
          if
              (!Decidable.decide
                    ((↑(List.length (Go.Rx.G.keepReach (Go.Rx.G.dDrawKeepReach (c, PUnit.unit)).1.1 (Go.Rx.G.dDrawKeepReach (c, PUnit.unit)).1.2.1)) : Int) =
                      (↑(List.length (Go.Rx.G.spReach (Go.Rx.G.dDrawKeepReach (c, PUnit.unit)).1.1 (Go.Rx.G.dDrawKeepReach (c, PUnit.unit)).1.2.1)) : Int))) =
                Bool.true then
            Option.some (Bool.false, PUnit.unit)
          else
            if Decidable.decide ((↑(List.length (Go.Rx.G.keepReach (Go.Rx.G.dDrawKeepReach (c, PUnit.unit)).1.1 (Go.Rx.G.dDrawKeepReach (c, PUnit.unit)).1.2.1)) : Int) = (0 : Int)) = Bool.true then
              Option.some (Bool.true, PUnit.unit)
            else
              if
                  Go.Rx.G.preKuL0 (Go.Rx.G.dDrawKeepReach (c, PUnit.unit)).1.1 (Go.Rx.G.dDrawKeepReach (c, PUnit.unit)).1.2.1 (0 : Int)
                      [(Go.Rx.G.dDrawKeepReach (c, PUnit.unit)).1.2] =
                    Bool.true then
                if
                    Go.Rx.G.preKuL6 (Go.Rx.G.keepReach (Go.Rx.G.dDrawKeepReach (c, PUnit.unit)).1.1 (Go.Rx.G.dDrawKeepReach (c, PUnit.unit)).1.2.1)
                        (Go.Rx.G.fdKuL0 (Go.Rx.G.dDrawKeepReach (c, PUnit.unit)).1.1 (Go.Rx.G.dDrawKeepReach (c, PUnit.unit)).1.2.1 (0 : Int)
                            ([(Go.Rx.G.dDrawKeepReach (c, PUnit.unit)).1.2], PUnit.unit)).1
                        (0 : Int) =
                      Bool.true then
                  Option.some
                    (Decidable.decide
                        ((↑(List.length
                                (Go.Rx.G.fdKuL0 (Go.Rx.G.dDrawKeepReach (c, PUnit.unit)).1.1 (Go.Rx.G.dDrawKeepReach (c, PUnit.unit)).1.2.1 (0 : Int)
                                    ([(Go.Rx.G.dDrawKeepReach (c, PUnit.unit)).1.2], PUnit.unit)).1) :
                            Int) =
                          (↑(List.length (Go.Rx.G.keepReach (Go.Rx.G.dDrawKeepReach (c, PUnit.unit)).1.1 (Go.Rx.G.dDrawKeepReach (c, PUnit.unit)).1.2.1)) : Int)),
                      PUnit.unit)
                else Option.none
              else Option.none
        else Option.none
      else Option.none
    else Option.none) := by kernel_rfl
theorem sfLawKeepUnion (c : Bytes) (h : c.all G.byteOk = true) : funK cxLawKeepUnion Go.Proofs.Try.f4 spLawKeepUnion.ins spLawKeepUnion.out (c, ()) = some (true, ()) := by
  obtain ⟨_, p1⟩ := postDrawKeepReach (c, ()) h
  rw [eLawKeepUnion]
  by_cases hl : ((c.length : Nat) : Int) > 1048576
  · rw [if_pos (decide_eq_true hl)]
  · rw [if_neg (by simpa using hl), if_pos h]
    generalize G.dDrawKeepReach (c, ()) = d at p1 ⊢
    have hf : G.funsB d.1.1 = true := p1
    have hs := funsB_small hf
    rw [spReach_eq, if_pos hs, if_pos hs, if_neg (by simp)]
    obtain ⟨⟨p, s, _⟩, _⟩ := d
    have hs : G.smallP p = true := hs
    have hf : G.funsB p = true := hf
    dsimp only
    have hlen := ((funsB_iff p).1 hf).1
    have hrl := keepReach_len p s
    by_cases h0 : (((G.keepReach p s).length : Nat) : Int) = 0
    · rw [if_pos (decide_eq_true h0)]
    · obtain ⟨k1, k2⟩ := reach_some (p := p) (s := s) (by omega)
      have e : G.fdKuL0 p s 0 ([(s, ())], ()) = (G.uni0 p s [(s, ())], ()) := fold_unit (G.uniOne p s) p.length 0 [(s, ())]
      have el := nd_len (uni0_nd (by simp)) (strict_nodup (reach_strict p s)) (uni_same k1 k2)
      rw [if_neg (by simpa using h0), if_pos (preKuL0_iff.2 ⟨⟨by omega, by omega, by omega⟩, trivial, by rw [Bool.and_eq_true]; exact ⟨hf, decide_eq_true (by simp)⟩⟩), e]
      dsimp only
      rw [if_pos (preKuL6_iff.2 ⟨⟨by omega, by omega, by omega⟩, trivial, by
        rw [Bool.and_eq_true]
        refine ⟨few_iff.2 (by omega), decide_eq_true fun k hk => ?_⟩
        rw [hasS_iff, uni_same k1 k2, sAt_get hk]
        exact List.getElem_mem _⟩), el]
      simp
theorem okLawKeepUnion : SpecOk Go.Proofs.Try.prog 4 spLawKeepUnion :=
  fun_okB (cx := cxLawKeepUnion) (F := Go.Proofs.Try.f4) (cxOk T0_ok T0_eq pl1_ok) mixed (by kernel_rfl) (by decide) (by kernel_rfl) (lps_of (l := [(0, loopIn Go.Proofs.Try.f4 0), (6, loopIn Go.Proofs.Try.f4 6)]) (by kernel_rfl) ⟨lp_at lpKuL0 rfl, lp_at lpKuL6 rfl, trivial⟩) (fun x h => sfLawKeepUnion x.1 h)
end Go.Rx

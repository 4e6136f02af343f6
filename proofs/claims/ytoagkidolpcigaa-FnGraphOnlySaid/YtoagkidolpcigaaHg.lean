/-
  DRAWS: what is reached in units, proofs; programs.
-/
import Derived.Test.YtoagkidolpcigaaHf
namespace Go.Rx
open Go
set_option linter.unusedVariables false
set_option linter.unusedSimpArgs false
/-! lists without repetition -/
theorem nodup_len {α : Type} [DecidableEq α] : ∀ {l m : List α}, l.Nodup → (∀ x ∈ l, x ∈ m) → l.length ≤ m.length
  | [], _, _, _ => Nat.zero_le _
  | x :: l, m, hn, hs => by
    obtain ⟨h1, h2⟩ := List.nodup_cons.1 hn
    have hx := hs x (List.mem_cons_self ..)
    have := nodup_len (l := l) (m := m.erase x) h2 fun y hy => (List.mem_erase_of_ne (fun (e : y = x) => h1 (e ▸ hy))).2 (hs y (List.mem_cons_of_mem _ hy))
    rw [List.length_erase_of_mem hx] at this
    have hp : 0 < m.length := List.length_pos_of_mem hx
    simp only [List.length_cons]
    omega
/-! where a name is -/
def G.Good (us : Units) (name : ByteArray) (x y : Int) : Prop := 0 ≤ x ∧ x < (us.length : Int) ∧ 0 ≤ y ∧ y < ((G.unitAt us x.toNat).length : Int) ∧ (G.pAt (G.unitAt us x.toNat) y.toNat).1 = name
def G.At3Ok (us : Units) (name : ByteArray) : Option (Int × Int) × Int × Int → Prop
  | (some (x, y), _, _) => G.Good us name x y
  | (none, a, b) => a < 0 ∨ G.Good us name a b
theorem at3F_ok (us : Units) (name : ByteArray) : ∀ (n : Nat) (i a b : Int), ((us.length : Int) - i).toNat ≤ n → 0 ≤ i → (a < 0 ∨ G.Good us name a b) → G.At3Ok us name (G.at3F name us i a b)
  | 0, i, a, b, hn, h0, h => by
    rw [at3F_end (by omega)]
    exact h
  | n + 1, i, a, b, hn, h0, h => by
    by_cases hi : i < (us.length : Int)
    · rw [at3F_step h0 hi]
      by_cases hk : G.find (G.unitAt us i.toNat) name < 0
      · rw [if_pos hk]
        exact at3F_ok us name n (i + 1) a b (by omega) (by omega) h
      · have hg : G.Good us name i (G.find (G.unitAt us i.toNat) name) := by
          obtain ⟨g1, g2, g3, g4⟩ := find_ok hk
          exact ⟨h0, hi, g3, g4, g2⟩
        rw [if_neg hk]
        split
        · exact hg
        · split
          · exact at3F_ok us name n (i + 1) i _ (by omega) (by omega) (.inr hg)
          · exact at3F_ok us name n (i + 1) a b (by omega) (by omega) h
    · rw [at3F_end (by omega)]
      exact h
theorem at3_ok {us : Units} {name : ByteArray} (h : (G.at3 us name).2.2 = true) : G.Good us name (G.at3 us name).1 (G.at3 us name).2.1 := by
  have := at3F_ok us name _ 0 (-1) (-1) (Nat.le_refl _) (by omega) (.inl (by omega))
  unfold G.at3 at h ⊢
  rcases hq : G.at3F name us 0 (-1) (-1) with ⟨_ | ⟨p, q⟩, a, b⟩
  · rw [hq] at this h
    dsimp only at h ⊢
    by_cases ha : a < 0
    · rw [if_pos ha] at h
      cases h
    · rw [if_neg ha]
      exact this.resolve_left ha
  · rw [hq] at this
    exact this
/-! names gathered -/
theorem sAt_append {a b : Strs} {k : Nat} (h : k < a.length) : G.sAt (a ++ b) k = G.sAt a k := by
  unfold G.sAt
  rw [getD_lt _ _ (by simp; omega), getD_lt _ _ h, List.getElem_append_left h]
theorem addOne_ext (refs names : Strs) (k : Nat) : ∃ ext, G.addOne refs names k = names ++ ext ∧ ext.length ≤ 1 ∧ (names.Nodup → (names ++ ext).Nodup) := by
  unfold G.addOne
  by_cases h : G.hasS names (G.sAt refs k) = true
  · rw [if_pos h]
    exact ⟨[], by simp, by simp, by simp⟩
  · rw [if_neg h]
    refine ⟨_, rfl, by simp, fun hn => ?_⟩
    rw [hasS_iff] at h
    rw [List.nodup_append]
    refine ⟨hn, by simp, fun x hx y hy e => ?_⟩
    rw [List.mem_singleton] at hy
    subst hy
    subst e
    exact h hx
theorem addFold_ext (refs : Strs) : ∀ (l : List Nat) (names : Strs), ∃ ext, l.foldl (G.addOne refs) names = names ++ ext ∧ ext.length ≤ l.length ∧ (names.Nodup → (names ++ ext).Nodup)
  | [], names => ⟨[], by simp, by simp, by simp⟩
  | k :: l, names => by
    obtain ⟨e1, h1, h2, h3⟩ := addOne_ext refs names k
    obtain ⟨e2, g1, g2, g3⟩ := addFold_ext refs l (names ++ e1)
    refine ⟨e1 ++ e2, ?_, by simp; omega, fun hn => ?_⟩
    · rw [List.foldl_cons, h1, g1, List.append_assoc]
    · rw [← List.append_assoc]
      exact g3 (h3 hn)
theorem addAll_ext (refs names : Strs) : ∃ ext, G.addAll refs names = names ++ ext ∧ ext.length ≤ refs.length ∧ (names.Nodup → (names ++ ext).Nodup) := by
  unfold G.addAll G.fold
  rw [range_zero]
  obtain ⟨ext, h1, h2, h3⟩ := addFold_ext refs (List.range refs.length) names
  rw [List.length_range] at h2
  exact ⟨ext, h1, h2, h3⟩
/-! how many there are -/
def G.allNames (us : Units) : List ByteArray := us.flatMap fun u => u.1.map fun f => f.1
theorem allNames_len (us : Units) : (G.allNames us).length = G.total us := by
  unfold G.allNames G.total
  rw [List.length_flatMap]
  simp
theorem good_mem {us : Units} {name : ByteArray} {x y : Int} (h : G.Good us name x y) : name ∈ G.allNames us := by
  obtain ⟨h1, h2, h3, h4, h5⟩ := h
  unfold G.allNames
  rw [List.mem_flatMap]
  have hx : x.toNat < us.length := by omega
  refine ⟨us[x.toNat], List.getElem_mem hx, ?_⟩
  unfold G.unitAt at h4 h5
  rw [getD_lt _ _ hx] at h4 h5
  rw [List.mem_map]
  have hy : y.toNat < (us[x.toNat]).1.length := by omega
  refine ⟨((us[x.toNat]).1)[y.toNat], List.getElem_mem hy, ?_⟩
  unfold G.pAt at h5
  rw [getD_lt _ _ hy] at h5
  exact h5
theorem found_le {us : Units} {names : Strs} {i : Nat} (hn : names.Nodup) (hi : i ≤ names.length) (hf : ∀ j, j < i → (G.at3 us (G.sAt names j)).2.2 = true) : i ≤ G.total us := by
  have h1 : ((names.take i).map fun x => x.1).Nodup := by
    rw [List.Nodup, List.pairwise_map]
    refine List.Pairwise.imp (fun {a b} h e => h (Prod.ext e rfl)) (List.Nodup.sublist (List.take_sublist i names) hn)
  have h2 : ∀ x ∈ ((names.take i).map fun x => x.1), x ∈ G.allNames us := fun x hx => by
    obtain ⟨y, hy, rfl⟩ := List.mem_map.1 hx
    obtain ⟨k, hk, rfl⟩ := List.getElem_of_mem hy
    have hk' : k < i := by
      rw [List.length_take] at hk
      omega
    have := hf k hk'
    have e : G.sAt names k = ((names.take i)[k]).1 := by
      unfold G.sAt
      rw [getD_lt _ _ (by omega), List.getElem_take]
    rw [← e]
    exact good_mem (at3_ok this)
  have := nodup_len h1 h2
  rw [allNames_len] at this
  rw [List.length_map, List.length_take] at this
  omega
theorem walk_succ (us : Units) (n : Nat) (names : Strs) (out : Funs) (i : Nat) : G.walk us (n + 1) names out i = if i < names.length then (if (G.at3 us (G.sAt names i)).2.2 = true then G.walk us n (G.addAll (G.refsOf (G.pAt (G.unitAt us (G.at3 us (G.sAt names i)).1.toNat) (G.at3 us (G.sAt names i)).2.1.toNat).2.2.1) names) (out ++ [G.pAt (G.unitAt us (G.at3 us (G.sAt names i)).1.toNat) (G.at3 us (G.sAt names i)).2.1.toNat]) (i + 1) else (out, false)) else (out, true) := rfl
theorem wkPre_iff {us : Units} {names : Strs} {out : Funs} {i : Int} : G.wkPre us names out i = true ↔ ((G.fewU us = true ∧ us.all (fun u => u.1.all (fun f => decide (f.2.2.1.length ≤ 16))) = true) ∧ G.total us ≤ 65536 ∧ 0 ≤ i ∧ i ≤ (names.length : Int) ∧ (out.length : Int) ≤ i ∧ (names.length : Int) ≤ 1 + 16 * i ∧ names.Nodup ∧ ∀ j, j < i.toNat → (G.at3 us (G.sAt names j)).2.2 = true) := by
  unfold G.wkPre
  rw [Bool.and_eq_true, Bool.and_eq_true, decide_eq_true_iff]
theorem good_body {us : Units} (h : us.all (fun u => u.1.all (fun f => decide (f.2.2.1.length ≤ 16))) = true) {name : ByteArray} {x y : Int} (hg : G.Good us name x y) : (G.pAt (G.unitAt us x.toNat) y.toNat).2.2.1.length ≤ 16 := by
  obtain ⟨h1, h2, h3, h4, h5⟩ := hg
  have hu := all_getD ([], ()) h (show x.toNat < us.length by omega)
  exact of_decide_eq_true (all_getD (ByteArray.empty, false, [], ()) hu (show y.toNat < (G.unitAt us x.toNat).length by omega))
noncomputable abbrev muL4Walk : PKs.den lsL4Walk.ins → Nat := fun x => G.total x.1 + 1 - x.2.2.2.2.2.1.toNat
theorem stL4Walk (us : Units) (r4 : Funs) (r5 : Bool) (names : Strs) (out : Funs) (i : Int) (h : G.wkPre us names out i = true) : StepOk lsL4Walk (eqInv lsL4Walk) muL4Walk (us, r4, r5, names, out, i, ()) (roundK cxWalkL0 0 (loopIn Go.Proofs.Try.f42 0) lsL4Walk (us, r4, r5, names, out, i, ())) := by
  obtain ⟨⟨h1, h2⟩, h3, h4, h5, h6, h7, h8, h9⟩ := wkPre_iff.1 h
  have hle := found_le h8 (show i.toNat ≤ names.length by omega) h9
  have hfu : G.total us + 1 - i.toNat = (G.total us - i.toNat) + 1 := by omega
  have hw : G.walkX us names out i.toNat = G.walk us ((G.total us - i.toNat) + 1) names out i.toNat := by
    unfold G.walkX
    rw [hfu]
  rw [walk_succ] at hw
  rw [rL4Walk, sAt_eq]
  by_cases hi : i < (names.length : Int)
  · have hin : i.toNat < names.length := by omega
    rw [if_pos hin] at hw
    rw [if_pos (decide_eq_true hi), if_pos (decide_eq_true h4), if_pos (decide_eq_true hi), if_pos (decide_eq_true hin), if_pos h1]
    cases ho : (G.at3 us (G.sAt names i.toNat)).2.2 with
    | false =>
      rw [ho, if_neg (by decide)] at hw
      rw [if_pos (by rfl)]
      show ((if (G.walkX us names out i.toNat).2 = true then 0 else 1, (if (G.walkX us names out i.toNat).2 = true then r4 else [], if (G.walkX us names out i.toNat).2 = true then r5 else false, (G.walkX us names out i.toNat).1, ())), ()) = _
      rw [hw]
      rfl
    | true =>
      rw [ho, if_pos rfl] at hw
      have hg := at3_ok ho
      have hb := good_body h2 hg
      obtain ⟨g1, g2, g3, g4, g5⟩ := hg
      rw [if_neg (by decide), if_pos (decide_eq_true g1), if_pos (decide_eq_true g2), if_pos (decide_eq_true g3)]
      rw [show (us.getD (G.at3 us (G.sAt names i.toNat)).1.toNat ([], ())).1 = G.unitAt us (G.at3 us (G.sAt names i.toNat)).1.toNat from rfl, if_pos (decide_eq_true g4), pAt_eq]
      generalize G.pAt (G.unitAt us (G.at3 us (G.sAt names i.toNat)).1.toNat) (G.at3 us (G.sAt names i.toNat)).2.1.toNat = f at hw hb ⊢
      have hrl := refsOf_len f.2.2.1
      have hle1 := found_le (i := i.toNat + 1) h8 (by omega) fun j hj => by
        by_cases hji : j = i.toNat
        · rw [hji]
          exact ho
        · exact h9 j (by omega)
      have hp2 : G.preWalkL2 (G.refsOf f.2.2.1) 0 names = true := preWalkL2_iff.2 ⟨⟨by omega, by omega, by omega⟩, trivial, decide_eq_true ⟨by omega, by omega⟩⟩
      rw [if_pos (okSize_few (by omega) (by omega)), if_pos (few_iff.2 (by omega)), if_pos hp2, w64 (by omega) (by omega)]
      have hadd : (G.fdWalkL2 (G.refsOf f.2.2.1) 0 (names, ())).1 = G.addAll (G.refsOf f.2.2.1) names := by
        unfold G.fdWalkL2 G.addAll
        rw [show G.oneWalkL2 (G.refsOf f.2.2.1) = fun (q : Strs × Unit) k => (G.addOne (G.refsOf f.2.2.1) q.1 k, ()) from rfl, fold_unit]
      rw [hadd]
      obtain ⟨ext, x1, x2, x3⟩ := addAll_ext (G.refsOf f.2.2.1) names
      have e1 : (i + 1).toNat = i.toNat + 1 := by omega
      refine ⟨(show G.wkPre us (G.addAll (G.refsOf f.2.2.1) names) (out ++ [f]) (i + 1) = true from wkPre_iff.2 ⟨⟨h1, h2⟩, h3, by omega, ?_, ?_, ?_, ?_, ?_⟩), ?_, ?_⟩
      · rw [x1, List.length_append]
        omega
      · simp
        omega
      · rw [x1, List.length_append]
        omega
      · rw [x1]
        exact x3 h8
      · intro j hj
        rw [e1] at hj
        rw [x1, sAt_append (by omega)]
        by_cases hji : j = i.toNat
        · rw [hji]
          exact ho
        · exact h9 j (by omega)
      · show G.total us + 1 - (i + 1).toNat < G.total us + 1 - i.toNat
        omega
      · have hx : G.walkX us (G.addAll (G.refsOf f.2.2.1) names) (out ++ [f]) (i + 1).toNat = G.walkX us names out i.toNat := by
          rw [hw, e1]
          unfold G.walkX
          rw [show G.total us + 1 - (i.toNat + 1) = G.total us - i.toNat by omega]
        show ((if (G.walkX us (G.addAll (G.refsOf f.2.2.1) names) (out ++ [f]) (i + 1).toNat).2 = true then 0 else 1, (if (G.walkX us (G.addAll (G.refsOf f.2.2.1) names) (out ++ [f]) (i + 1).toNat).2 = true then r4 else [], if (G.walkX us (G.addAll (G.refsOf f.2.2.1) names) (out ++ [f]) (i + 1).toNat).2 = true then r5 else false, (G.walkX us (G.addAll (G.refsOf f.2.2.1) names) (out ++ [f]) (i + 1).toNat).1, ())), ()) = ((if (G.walkX us names out i.toNat).2 = true then 0 else 1, (if (G.walkX us names out i.toNat).2 = true then r4 else [], if (G.walkX us names out i.toNat).2 = true then r5 else false, (G.walkX us names out i.toNat).1, ())), ())
        rw [hx]
  · rw [if_neg (by omega)] at hw
    rw [if_neg (by simpa using hi)]
    show ((if (G.walkX us names out i.toNat).2 = true then 0 else 1, (if (G.walkX us names out i.toNat).2 = true then r4 else [], if (G.walkX us names out i.toNat).2 = true then r5 else false, (G.walkX us names out i.toNat).1, ())), ()) = _
    rw [hw]
    rfl
theorem lpL4Walk : LpOk Go.Proofs.Try.prog cxWalkL0.ntmps 0 (loopIn Go.Proofs.Try.f42 0) lsL4Walk :=
  lp_okB (cx := cxWalkL0) (cxOk T0_ok T0_eq pd11_ok) mixed (by kernel_rfl) (lps_of (l := [(2, loopIn Go.Proofs.Try.f42 2)]) (by kernel_rfl) ⟨lp_at lpWalkL2 rfl, trivial⟩) (eqInv lsL4Walk) muL4Walk (fun _ h => h) (fun x h => stL4Walk x.1 x.2.1 x.2.2.1 x.2.2.2.1 x.2.2.2.2.1 x.2.2.2.2.2.1 h)
theorem thinU_iff {us : Units} : G.thinU us = true ↔ ((G.fewU us = true ∧ us.all (fun u => u.1.all (fun f => decide (f.2.2.1.length ≤ 16))) = true) ∧ G.total us ≤ 65536) := by
  unfold G.thinU
  rw [Bool.and_eq_true, Bool.and_eq_true, decide_eq_true_iff]
theorem sfL4Walk (us : Units) (e : ByteArray) (h : G.thinU us = true) : funK cxL4Walk Go.Proofs.Try.f42 spL4Walk.ins spL4Walk.out (us, e, ()) = some ((if (G.walkF us e).2 = true then (G.walkF us e).1 else [], (G.walkF us e).2, ()), ()) := by
  obtain ⟨h1, h2⟩ := thinU_iff.1 h
  have hp : G.wkPre us [(e, ())] [] 0 = true := wkPre_iff.2 ⟨h1, h2, by omega, by simp, by simp, by simp, by simp, fun j hj => absurd hj (by simp)⟩
  rw [eL4Walk, if_pos hp, show Int.toNat 0 = 0 from rfl, show G.walkX us [(e, ())] [] 0 = G.walkF us e from rfl]
  cases (G.walkF us e).2 <;> rfl
theorem okL4Walk : SpecOk Go.Proofs.Try.prog 42 spL4Walk :=
  fun_okB (cx := cxL4Walk) (F := Go.Proofs.Try.f42) (cxOk T0_ok T0_eq pd11_ok) mixed (by kernel_rfl) (by decide) (by kernel_rfl) (lps_of (l := [(0, loopIn Go.Proofs.Try.f42 0)]) (by kernel_rfl) ⟨lp_at lpL4Walk rfl, trivial⟩) (fun x h => sfL4Walk x.1 x.2.1 h)
noncomputable abbrev pd12 : List (Nat × List Spec) := (105, [spL4Close]) :: (42, [spL4Walk]) :: pd11
theorem pd12_ok : PhiOk Go.Proofs.Try.prog pd12 := ⟨⟨okL4Close, trivial⟩, ⟨okL4Walk, trivial⟩, pd11_ok⟩
end Go.Rx

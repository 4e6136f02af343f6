/-
  REACHED: what is reached is closed, and no more than that.
-/
import Derived.Test.YtoagkidolpcigaaId
namespace Go.Rx
open Go
set_option linter.unusedVariables false
set_option linter.unusedSimpArgs false
inductive Rc (p : Funs) (s : ByteArray) : ByteArray → Prop
  | refl : Rc p s s
  | step {t u : ByteArray} : Rc p s t → (u, ()) ∈ G.refsOf (G.getF p t).2.2.1 → Rc p s u
theorem Rc.trans {p : Funs} {s t u : ByteArray} (h : Rc p s t) (h' : Rc p t u) : Rc p s u := by
  induction h' with
  | refl => exact h
  | step _ hr ih => exact .step ih hr
theorem hasF_iff {p : Funs} {s : ByteArray} : G.hasF p s = true ↔ ¬ G.find p s < 0 := by
  unfold G.hasF
  simp
theorem getF_at {p : Funs} {s : ByteArray} (h : G.hasF p s = true) : G.getF p s = G.pAt p (G.find p s).toNat ∧ (G.find p s).toNat < p.length ∧ (G.getF p s).1 = s := by
  have c := hasF_iff.1 h
  obtain ⟨f1, f2, f3, f4⟩ := find_ok c
  have e : G.getF p s = G.pAt p (G.find p s).toNat := by
    unfold G.getF
    rw [if_neg c]
  exact ⟨e, f1, by rw [e]; exact f2⟩
theorem refs_has {p : Funs} (hk : G.closed p = true) {t u : ByteArray} (ht : G.hasF p t = true) (hu : (u, ()) ∈ G.refsOf (G.getF p t).2.2.1) : G.hasF p u = true := by
  obtain ⟨e, h1, _⟩ := getF_at ht
  rw [e, mem_refsOf] at hu
  obtain ⟨c, h2, h3, h4⟩ := hu
  rw [hasF_iff, ← h4]
  exact (closed_iff p).1 hk _ h1 c h2 h3
theorem mem_addOne {refs names : Strs} {k : Nat} {x : ByteArray × Unit} : x ∈ G.addOne refs names k ↔ (x ∈ names ∨ x = (G.sAt refs k, ())) := by
  unfold G.addOne
  by_cases h : G.hasS names (G.sAt refs k) = true
  · rw [if_pos h]
    rw [hasS_iff] at h
    constructor
    · exact .inl
    · rintro (h' | rfl)
      · exact h'
      · exact h
  · rw [if_neg h, List.mem_append, List.mem_singleton]
theorem mem_addFold {refs : Strs} {x : ByteArray × Unit} : ∀ {l : List Nat} {names : Strs}, x ∈ l.foldl (G.addOne refs) names ↔ (x ∈ names ∨ ∃ k, k ∈ l ∧ x = (G.sAt refs k, ()))
  | [], names => by simp
  | k :: l, names => by
    rw [List.foldl_cons, mem_addFold, mem_addOne]
    constructor
    · rintro ((h | h) | ⟨j, hj, h⟩)
      · exact .inl h
      · exact .inr ⟨k, List.mem_cons_self .., h⟩
      · exact .inr ⟨j, List.mem_cons_of_mem _ hj, h⟩
    · rintro (h | ⟨j, hj, h⟩)
      · exact .inl (.inl h)
      · rcases List.mem_cons.1 hj with rfl | hj
        · exact .inl (.inr h)
        · exact .inr ⟨j, hj, h⟩
theorem mem_addAll {refs names : Strs} {x : ByteArray × Unit} : x ∈ G.addAll refs names ↔ (x ∈ names ∨ x ∈ refs) := by
  unfold G.addAll G.fold
  rw [range_zero, mem_addFold]
  refine or_congr_right ?_
  constructor
  · rintro ⟨k, hk, rfl⟩
    have hk : k < refs.length := by simpa using hk
    unfold G.sAt
    rw [getD_lt _ _ hk]
    exact List.getElem_mem hk
  · intro hx
    obtain ⟨k, hk, rfl⟩ := List.getElem_of_mem hx
    refine ⟨k, by simpa using hk, ?_⟩
    unfold G.sAt
    rw [getD_lt _ _ hk]
structure RInv (p : Funs) (s : ByteArray) (names : Strs) (out : Funs) (i : Nat) : Prop where
  le : i ≤ names.length
  out : out = (names.take i).map fun x => G.getF p x.1
  nd : names.Nodup
  has : ∀ x ∈ names, G.hasF p x.1 = true ∧ Rc p s x.1
  cl : ∀ j, j < i → ∀ u, (u, ()) ∈ G.refsOf (G.getF p (G.sAt names j)).2.2.1 → (u, ()) ∈ names
def RDone (p : Funs) (s : ByteArray) (names : Strs) (r : Funs × Bool) : Prop :=
  ∃ N : Strs, r = (N.map (fun x => G.getF p x.1), true) ∧ N.Nodup ∧ (∀ x ∈ N, G.hasF p x.1 = true ∧ Rc p s x.1) ∧ (∀ x ∈ N, ∀ u, (u, ()) ∈ G.refsOf (G.getF p x.1).2.2.1 → (u, ()) ∈ N) ∧ ∀ x ∈ names, x ∈ N
theorem sAt_get {names : Strs} {i : Nat} (h : i < names.length) : (G.sAt names i, ()) = names[i] := by
  unfold G.sAt
  rw [getD_lt _ _ h]
theorem rwalk_run {p : Funs} {s : ByteArray} (hk : G.closed p = true) : ∀ (n : Nat) (names : Strs) (out : Funs) (i : Nat), RInv p s names out i → p.length < n + i → RDone p s names (G.rwalk (G.hasF p) (G.getF p) n names out i)
  | 0, names, out, i, h, hn => by
    have := rch_le (p := p) h.nd h.le fun j hj => by
      have hjl : j < names.length := by have := h.le; omega
      have := h.has names[j] (List.getElem_mem hjl)
      rw [← sAt_get hjl] at this
      exact this.1
    omega
  | n + 1, names, out, i, h, hn => by
    rw [rwalk_succ]
    by_cases hi : i < names.length
    · have hx := h.has names[i] (List.getElem_mem hi)
      rw [← sAt_get hi] at hx
      obtain ⟨hx1, hx2⟩ := hx
      rw [if_pos hi, if_pos hx1]
      obtain ⟨ext, x1, x2, x3⟩ := addAll_ext (G.refsOf (G.getF p (G.sAt names i)).2.2.1) names
      have hmem : ∀ x, x ∈ G.addAll (G.refsOf (G.getF p (G.sAt names i)).2.2.1) names ↔ (x ∈ names ∨ x ∈ G.refsOf (G.getF p (G.sAt names i)).2.2.1) := fun x => mem_addAll
      have inv : RInv p s (G.addAll (G.refsOf (G.getF p (G.sAt names i)).2.2.1) names) (out ++ [G.getF p (G.sAt names i)]) (i + 1) := by
        refine ⟨?_, ?_, ?_, fun x hx => ?_, fun j hj u hu => ?_⟩
        · rw [x1, List.length_append]
          omega
        · rw [x1, List.take_append_of_le_length (by omega), List.take_succ_eq_append_getElem hi, List.map_append, h.out, ← sAt_get hi]
          rfl
        · rw [x1]
          exact x3 h.nd
        · rcases (hmem x).1 hx with hx | hx
          · exact h.has x hx
          · exact ⟨refs_has hk hx1 hx, .step hx2 hx⟩
        · rw [hmem]
          rw [x1, sAt_append (by omega)] at hu
          by_cases hji : j = i
          · subst hji
            exact .inr hu
          · exact .inl (h.cl j (by omega) u hu)
      obtain ⟨N, d1, d2, d3, d4, d5⟩ := rwalk_run hk n _ _ _ inv (by omega)
      exact ⟨N, d1, d2, d3, d4, fun x hx => d5 x ((hmem x).2 (.inl hx))⟩
    · rw [if_neg hi]
      have hl : i = names.length := by have := h.le; omega
      refine ⟨names, ?_, h.nd, h.has, fun x hx u hu => ?_, fun x hx => hx⟩
      · rw [h.out, hl, List.take_length]
      · obtain ⟨j, hj, rfl⟩ := List.getElem_of_mem hx
        rw [← sAt_get hj] at hu
        exact h.cl j (by omega) u hu
/-- What is reached, by its names. -/
theorem rch_spec {p : Funs} {s : ByteArray} (hk : G.closed p = true) (hs : G.hasF p s = true) :
    ∃ N : Strs, G.rchL p s = N.map (fun x => G.getF p x.1) ∧ N.Nodup ∧ (∀ x ∈ N, G.hasF p x.1 = true) ∧ (∀ t, (t, ()) ∈ N ↔ Rc p s t) := by
  have inv : RInv p s [(s, ())] [] 0 := ⟨by simp, rfl, by simp, fun x hx => by
    rw [List.mem_singleton] at hx
    subst hx
    exact ⟨hs, .refl⟩, fun j hj => absurd hj (by omega)⟩
  obtain ⟨N, d1, d2, d3, d4, d5⟩ := rwalk_run hk (p.length + 1 - 0) _ _ _ inv (by omega)
  refine ⟨N, ?_, d2, fun x hx => (d3 x hx).1, fun t => ⟨fun ht => (d3 _ ht).2, fun ht => ?_⟩⟩
  · unfold G.rchL G.rch G.rchX
    rw [d1]
    rfl
  · induction ht with
    | refl => exact d5 _ (List.mem_singleton.2 rfl)
    | step _ hr ih => exact d4 _ ih _ hr
theorem names_of {p : Funs} {N : Strs} (h : ∀ x ∈ N, G.hasF p x.1 = true) : G.namesL (N.map fun x => G.getF p x.1) = N := by
  rw [namesL_map, List.map_map]
  conv => rhs; rw [← List.map_id N]
  refine List.map_congr_left fun x hx => ?_
  show ((G.getF p x.1).1, ()) = x
  rw [(getF_at (h x hx)).2.2]
theorem mem_reach {p : Funs} {s : ByteArray} (hk : G.keepOk p = true) (hs : G.hasF p s = true) (t : ByteArray) : (t, ()) ∈ G.keepReach p s ↔ Rc p s t := by
  obtain ⟨N, h1, h2, h3, h4⟩ := rch_spec ((keepOk_iff p).1 hk).2.2 hs
  unfold G.keepReach
  rw [if_pos hk, (ordered_strict _).2, h1, names_of h3]
  exact h4 t
theorem reach_strict (p : Funs) (s : ByteArray) : Strict (G.keepReach p s) := by
  unfold G.keepReach
  split
  · exact (ordered_strict _).1
  · exact List.Pairwise.nil
theorem strict_nodup {l : Strs} (h : Strict l) : l.Nodup := by
  unfold List.Nodup
  refine List.Pairwise.imp (fun {x y} h => ?_) h
  intro e
  rw [e] at h
  exact List.lt_irrefl _ h
theorem reach_none {p : Funs} {s : ByteArray} (h : G.keepOk p = false ∨ G.hasF p s = false) : G.keepReach p s = [] := by
  unfold G.keepReach
  rcases h with h | h
  · rw [if_neg (by rw [h]; decide)]
  · have c : G.find p s < 0 := by
      unfold G.hasF at h
      simpa using h
    split
    · rw [rchL_none c]
      exact List.length_eq_zero_iff.1 ((ordered_nil _).2 rfl)
    · rfl
theorem reach_some {p : Funs} {s : ByteArray} (h : ¬ (G.keepReach p s).length = 0) : G.keepOk p = true ∧ G.hasF p s = true := by
  cases h1 : G.keepOk p with
  | false => exact absurd (by rw [reach_none (.inl h1)]; rfl) h
  | true =>
    cases h2 : G.hasF p s with
    | false => exact absurd (by rw [reach_none (.inr h2)]; rfl) h
    | true => exact ⟨rfl, rfl⟩
theorem reach_sub {p : Funs} {s t : ByteArray} (h : Rc p s t) (hs : G.hasF p s = true) : (G.keepReach p t).length ≤ (G.keepReach p s).length := by
  by_cases c : (G.keepReach p t).length = 0
  · omega
  · obtain ⟨h1, h2⟩ := reach_some c
    refine nodup_len (strict_nodup (reach_strict p t)) fun x hx => ?_
    exact (mem_reach h1 hs x.1).2 (h.trans ((mem_reach h1 h2 x.1).1 hx))
theorem Rc.has {p : Funs} {s t : ByteArray} (hk : G.closed p = true) (h : Rc p s t) (hs : G.hasF p s = true) : G.hasF p t = true := by
  induction h with
  | refl => exact hs
  | step _ hr ih => exact refs_has hk ih hr
end Go.Rx

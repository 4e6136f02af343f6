/-
  COLLECTED: what is kept of a program is a program, and keeps all of itself.
-/
import Derived.Test.YtoagkidolpcigaaIh
namespace Go.Rx
open Go
set_option linter.unusedVariables false
set_option linter.unusedSimpArgs false
theorem rwalk_out (q : ByteArray → Bool) (f : ByteArray → Fun) : ∀ (n : Nat) (names : Strs) (out : Funs) (i : Nat), ∃ e, (G.rwalk q f n names out i).1 = out ++ e
  | 0, _, out, _ => ⟨[], (List.append_nil out).symm⟩
  | n + 1, names, out, i => by
    rw [rwalk_succ]
    split
    · split
      · obtain ⟨e, h⟩ := rwalk_out q f n (G.addAll (G.refsOf (f (G.sAt names i)).2.2.1) names) (out ++ [f (G.sAt names i)]) (i + 1)
        exact ⟨f (G.sAt names i) :: e, by rw [h, List.append_assoc]; rfl⟩
      · exact ⟨[], (List.append_nil out).symm⟩
    · exact ⟨[], (List.append_nil out).symm⟩
theorem rch_head {p : Funs} {s : ByteArray} (hs : G.hasF p s = true) : ∃ e, (G.rch p s).1 = G.getF p s :: e := by
  unfold G.rch G.rchX
  rw [show p.length + 1 - 0 = p.length + 1 from rfl, rwalk_succ, if_pos (by simp), show G.sAt [(s, ())] 0 = s from rfl, if_pos hs]
  obtain ⟨e, h⟩ := rwalk_out (G.hasF p) (G.getF p) p.length (G.addAll (G.refsOf (G.getF p s).2.2.1) [(s, ())]) ([] ++ [G.getF p s]) (0 + 1)
  exact ⟨e, h⟩
theorem nd_inj {N : Strs} (h : N.Nodup) {i j : Nat} (hi : i < N.length) (hj : j < N.length) (e : N[i] = N[j]) : i = j := by
  have hp := List.pairwise_iff_getElem.1 h
  by_cases c : i < j
  · exact absurd e (hp i j hi hj c)
  · by_cases d : j < i
    · exact absurd e.symm (hp j i hj hi d)
    · omega
structure KO (p : Funs) (N : Strs) : Prop where
  ok : G.keepOk p = true
  q : G.keepOnly p = N.map fun x => G.getF p x.1
  nd : N.Nodup
  has : ∀ x ∈ N, G.hasF p x.1 = true
  mem : ∀ t, (t, ()) ∈ N ↔ Rc p (G.pAt p 0).1 t
  head : ∃ r, N = ((G.pAt p 0).1, ()) :: r
theorem keepOk_pos {p : Funs} (h : G.keepOk p = true) : 0 < p.length := by
  have := ((keepOk_iff p).1 h).1.1
  omega
theorem ko_of {p : Funs} (hk : G.keepOk p = true) : ∃ N, KO p N := by
  obtain ⟨s1, s2⟩ := getF_self hk (keepOk_pos hk)
  obtain ⟨N, h1, h2, h3, h4⟩ := rch_spec ((keepOk_iff p).1 hk).2.2 s1
  have hq : G.keepOnly p = N.map fun x => G.getF p x.1 := by
    unfold G.keepOnly
    rw [if_pos hk, h1]
  refine ⟨N, hk, hq, h2, h3, h4, ?_⟩
  have hm := (h4 (G.pAt p 0).1).2 .refl
  cases N with
  | nil => cases hm
  | cons x r =>
    refine ⟨r, ?_⟩
    obtain ⟨e, he⟩ := rch_head s1
    have e2 : G.rchL p (G.pAt p 0).1 = (G.rch p (G.pAt p 0).1).1 := by
      unfold G.rchL
      by_cases c : (G.rch p (G.pAt p 0).1).2 = true
      · rw [if_pos c]
      · unfold G.rchL at h1
        rw [if_neg c] at h1
        simp at h1
    rw [e2, he, List.map_cons] at h1
    have h5 : G.getF p (G.pAt p 0).1 = G.getF p x.1 := (List.cons.inj h1).1
    have h6 := (getF_at (h3 x (List.mem_cons_self ..))).2.2
    rw [← h5, (getF_at s1).2.2] at h6
    obtain ⟨t, u⟩ := x
    have h6 : (G.pAt p 0).1 = t := h6
    rw [h6]
theorem KO.len {p : Funs} {N : Strs} (h : KO p N) : (G.keepOnly p).length = N.length := by rw [h.q, List.length_map]
theorem KO.pos {p : Funs} {N : Strs} (h : KO p N) : 0 < N.length := by
  obtain ⟨r, e⟩ := h.head
  rw [e]
  simp
theorem KO.at {p : Funs} {N : Strs} (h : KO p N) {j : Nat} (hj : j < N.length) : G.pAt (G.keepOnly p) j = G.getF p (G.sAt N j) := by
  rw [h.q]
  unfold G.pAt
  rw [getD_lt _ _ (by rw [List.length_map]; exact hj), List.getElem_map]
  exact congrArg (fun x : ByteArray × Unit => G.getF p x.1) (sAt_get hj).symm
theorem KO.memAt {p : Funs} {N : Strs} (h : KO p N) {j : Nat} (hj : j < N.length) : (G.sAt N j, ()) ∈ N := by
  rw [sAt_get hj]
  exact List.getElem_mem hj
theorem KO.name {p : Funs} {N : Strs} (h : KO p N) {j : Nat} (hj : j < N.length) : (G.pAt (G.keepOnly p) j).1 = G.sAt N j := by
  rw [h.at hj]
  exact (getF_at (h.has _ (h.memAt hj))).2.2
theorem KO.first {p : Funs} {N : Strs} (h : KO p N) : G.pAt (G.keepOnly p) 0 = G.pAt p 0 := by
  rw [h.at h.pos]
  obtain ⟨r, e⟩ := h.head
  rw [show G.sAt N 0 = (G.pAt p 0).1 by rw [e]; rfl]
  exact (getF_self h.ok (keepOk_pos h.ok)).2
theorem KO.uniq {p : Funs} {N : Strs} (h : KO p N) : G.Uniq (G.keepOnly p) := fun i j hi hj e => by
  rw [h.len] at hi hj
  rw [h.name hi, h.name hj] at e
  refine nd_inj h.nd hi hj ?_
  rw [← sAt_get hi, ← sAt_get hj, e]
theorem KO.find {p : Funs} {N : Strs} (h : KO p N) {j : Nat} (hj : j < N.length) : G.find (G.keepOnly p) (G.sAt N j) = (j : Int) := find_uniq h.uniq (by rw [h.len]; exact hj) (h.name hj)
theorem KO.get {p : Funs} {N : Strs} (h : KO p N) {x : ByteArray × Unit} (hx : x ∈ N) : G.hasF (G.keepOnly p) x.1 = true ∧ G.getF (G.keepOnly p) x.1 = G.getF p x.1 := by
  obtain ⟨j, hj, rfl⟩ := List.getElem_of_mem hx
  rw [← sAt_get hj]
  have hf := h.find hj
  have h1 : G.hasF (G.keepOnly p) (G.sAt N j) = true := by
    rw [hasF_iff, hf]
    omega
  refine ⟨h1, ?_⟩
  rw [(getF_at h1).1, hf]
  exact h.at hj
theorem KO.step {p : Funs} {N : Strs} (h : KO p N) {x : ByteArray × Unit} (hx : x ∈ N) {u : ByteArray} (hu : (u, ()) ∈ G.refsOf (G.getF p x.1).2.2.1) : (u, ()) ∈ N := (h.mem u).2 (.step ((h.mem x.1).1 hx) hu)
theorem KO.le {p : Funs} {N : Strs} (h : KO p N) : N.length ≤ p.length := rch_le h.nd (Nat.le_refl _) fun j hj => h.has _ (h.memAt hj)
theorem KO.mem_p {p : Funs} {N : Strs} (h : KO p N) {j : Nat} (hj : j < N.length) : ∃ k, k < p.length ∧ G.pAt (G.keepOnly p) j = G.pAt p k ∧ G.find p (G.sAt N j) = (k : Int) := by
  have hs := h.has _ (h.memAt hj)
  obtain ⟨g1, g2, g3⟩ := getF_at hs
  have := hasF_iff.1 hs
  exact ⟨_, g2, by rw [h.at hj]; exact g1, by show G.find p (G.sAt N j) = ((G.find p (G.sAt N j)).toNat : Int); have h0 : ¬ G.find p (G.sAt N j) < 0 := this; omega⟩
theorem KO.qok {p : Funs} {N : Strs} (h : KO p N) : G.keepOk (G.keepOnly p) = true := by
  have h40 := ((keepOk_iff p).1 h.ok).1.2
  have hle := h.le
  have hpos := h.pos
  refine (keepOk_iff _).2 ⟨by rw [h.len]; omega, uniq_funsOk h.uniq fun k hk => ?_, (closed_iff _).2 fun k hk c hc hr => ?_⟩
  · rw [h.len] at hk
    obtain ⟨j, j1, j2, _⟩ := h.mem_p hk
    rw [j2]
    exact ((funsOk_iff p).1 ((keepOk_iff p).1 h.ok).2.1 j j1).1
  · rw [h.len] at hk
    rw [h.at hk] at hc hr ⊢
    have hm : ((G.insAt (G.getF p (G.sAt N k)).2.2.1 c).2.2.1, ()) ∈ G.refsOf (G.getF p (G.sAt N k)).2.2.1 := (mem_refsOf _ _).2 ⟨c, hc, hr, rfl⟩
    have := h.get (h.step (h.memAt hk) hm)
    exact hasF_iff.1 this.1
theorem rwalk_same {p q : Funs} {N : Strs} (hq : ∀ x ∈ N, G.hasF q x.1 = true ∧ G.getF q x.1 = G.getF p x.1) (hc : ∀ x ∈ N, G.hasF p x.1 = true ∧ ∀ u, (u, ()) ∈ G.refsOf (G.getF p x.1).2.2.1 → (u, ()) ∈ N) :
    ∀ (n n' : Nat) (names : Strs) (out : Funs) (i : Nat), names.Nodup → (∀ x ∈ names, x ∈ N) → i ≤ names.length → N.length < n + i → N.length < n' + i → G.rwalk (G.hasF q) (G.getF q) n names out i = G.rwalk (G.hasF p) (G.getF p) n' names out i
  | 0, n', names, out, i, h1, h2, h3, h4, h5 => by
    have := nodup_len h1 h2
    omega
  | n + 1, 0, names, out, i, h1, h2, h3, h4, h5 => by
    have := nodup_len h1 h2
    omega
  | n + 1, n' + 1, names, out, i, h1, h2, h3, h4, h5 => by
    rw [rwalk_succ, rwalk_succ]
    by_cases hi : i < names.length
    · have hx : (G.sAt names i, ()) ∈ N := by
        rw [sAt_get hi]
        exact h2 _ (List.getElem_mem hi)
      obtain ⟨q1, q2⟩ := hq _ hx
      obtain ⟨c1, c2⟩ := hc _ hx
      have q2 : G.getF q (G.sAt names i) = G.getF p (G.sAt names i) := q2
      obtain ⟨ext, x1, x2, x3⟩ := addAll_ext (G.refsOf (G.getF p (G.sAt names i)).2.2.1) names
      rw [if_pos hi, if_pos hi, if_pos q1, if_pos c1, q2]
      refine rwalk_same hq hc n n' _ _ _ (by rw [x1]; exact x3 h1) (fun x hx => ?_) (by rw [x1, List.length_append]; omega) (by omega) (by omega)
      rcases mem_addAll.1 hx with hx | hx
      · exact h2 x hx
      · exact c2 x.1 hx
    · rw [if_neg hi, if_neg hi]
theorem KO.again {p : Funs} {N : Strs} (h : KO p N) : G.keepOnly (G.keepOnly p) = G.keepOnly p := by
  have e : G.rch (G.keepOnly p) (G.pAt p 0).1 = G.rch p (G.pAt p 0).1 := by
    unfold G.rch G.rchX
    have hle := h.le
    have hh : ((G.pAt p 0).1, ()) ∈ N := (h.mem _).2 .refl
    exact rwalk_same (fun x hx => h.get hx) (fun x hx => ⟨h.has x hx, fun u hu => h.step hx hu⟩) _ _ _ _ _ (by simp) (fun x hx => by rw [List.mem_singleton] at hx; rw [hx]; exact hh) (by simp) (by rw [h.len]; omega) (by omega)
  have e2 : G.rchL (G.keepOnly p) (G.pAt p 0).1 = G.rchL p (G.pAt p 0).1 := by
    unfold G.rchL
    rw [e]
  have e3 : G.keepOnly p = G.rchL p (G.pAt p 0).1 := by
    unfold G.keepOnly
    rw [if_pos h.ok]
  have e4 : G.keepOnly (G.keepOnly p) = G.rchL (G.keepOnly p) (G.pAt (G.keepOnly p) 0).1 := by
    show (if G.keepOk (G.keepOnly p) = true then _ else _) = _
    rw [if_pos h.qok]
  rw [e4, h.first, e2, ← e3]
theorem KO.reach {p : Funs} {N : Strs} (h : KO p N) : (G.keepReach p (G.pAt p 0).1).length = (G.keepOnly p).length := by
  rw [h.len]
  refine nd_len (strict_nodup (reach_strict _ _)) h.nd fun x => ?_
  obtain ⟨t, u⟩ := x
  rw [mem_reach h.ok (getF_self h.ok (keepOk_pos h.ok)).1, h.mem]
theorem KO.small {p : Funs} {N : Strs} (h : KO p N) {P : Fun → Bool} (hp : p.all P = true) : (G.keepOnly p).all P = true := by
  rw [List.all_eq_true] at hp ⊢
  intro f hf
  obtain ⟨j, hj, rfl⟩ := List.getElem_of_mem hf
  have hj2 : j < N.length := by rw [← h.len]; exact hj
  obtain ⟨k, k1, k2, _⟩ := h.mem_p hj2
  unfold G.pAt at k2
  rw [getD_lt _ _ hj, getD_lt _ _ k1] at k2
  rw [k2]
  exact hp _ (List.getElem_mem k1)
theorem keepOnly_small {p : Funs} (h : G.smallP p = true) : G.smallP (G.keepOnly p) = true := by
  by_cases hk : G.keepOk p = true
  · obtain ⟨N, ko⟩ := ko_of hk
    obtain ⟨h1, h2⟩ := smallP_iff.1 h
    have := ko.le
    exact smallP_iff.2 ⟨by rw [ko.len]; omega, ko.small h2⟩
  · unfold G.keepOnly
    rw [if_neg hk]
    rfl
theorem keepOnly_len (p : Funs) : (G.keepOnly p).length ≤ p.length := by
  by_cases hk : G.keepOk p = true
  · obtain ⟨N, ko⟩ := ko_of hk
    have := ko.le
    rw [ko.len]
    omega
  · unfold G.keepOnly
    rw [if_neg hk]
    exact Nat.zero_le _
end Go.Rx

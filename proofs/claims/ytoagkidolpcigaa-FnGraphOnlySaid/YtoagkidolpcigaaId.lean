/-
  NAMES IN ORDER: sorted and compacted they are what is put in order one by one.
-/
import Derived.Test.YtoagkidolpcigaaIc
namespace Go.Rx
open Go
set_option linter.unusedVariables false
set_option linter.unusedSimpArgs false
abbrev Tx := List UInt8
theorem tx_lt {a b : Tx} (h : a ≤ b) (hn : a ≠ b) : a < b := by
  by_cases c : a < b
  · exact c
  · exact absurd (List.le_antisymm h (List.not_lt.1 c)) hn
theorem compUp (d : Array Tx) (hs : ∀ i j, i < j → j < d.size → d[i]! ≤ d[j]!) : ∀ m, m ≤ d.size → (Lib.compactUpTo d m).Pairwise (· < ·) ∧ ∀ x, x ∈ Lib.compactUpTo d m ↔ ∃ j, j < m ∧ d[j]! = x
  | 0, _ => ⟨List.Pairwise.nil, fun x => by
      constructor
      · intro h
        cases h
      · rintro ⟨j, h, _⟩
        omega⟩
  | m + 1, hm => by
    obtain ⟨h1, h2⟩ := compUp d hs m (by omega)
    rw [Lib.compactUpTo_succ]
    cases hk : Lib.keeps d m with
    | true =>
      rw [if_pos rfl]
      constructor
      · rw [List.pairwise_append]
        refine ⟨h1, List.pairwise_singleton _ _, fun a ha b hb => ?_⟩
        rw [List.mem_singleton] at hb
        subst hb
        obtain ⟨j, hj, rfl⟩ := (h2 a).1 ha
        have h3 : d[m - 1]! ≠ d[m]! := fun e => by
          rw [Lib.keeps_neg (by omega) e.symm] at hk
          cases hk
        have h4 : d[m - 1]! < d[m]! := tx_lt (hs _ _ (by omega) (by omega)) h3
        by_cases hj2 : j = m - 1
        · rw [hj2]
          exact h4
        · exact List.lt_of_le_of_lt (hs j (m - 1) (by omega) (by omega)) h4
      · intro x
        rw [List.mem_append, List.mem_singleton, h2]
        constructor
        · rintro (⟨j, hj, e⟩ | e)
          · exact ⟨j, by omega, e⟩
          · exact ⟨m, by omega, e.symm⟩
        · rintro ⟨j, hj, e⟩
          by_cases hjm : j = m
          · right
            rw [← e, hjm]
          · exact .inl ⟨j, by omega, e⟩
    | false =>
      rw [if_neg (by decide), List.append_nil]
      refine ⟨h1, fun x => ?_⟩
      rw [h2]
      have hm0 : m ≠ 0 := fun e => by
        subst e
        simp [Lib.keeps] at hk
      have he : d[m]! = d[m - 1]! := by
        by_cases e : d[m]! = d[m - 1]!
        · exact e
        · rw [Lib.keeps_pos e] at hk
          cases hk
      constructor
      · rintro ⟨j, hj, e⟩
        exact ⟨j, by omega, e⟩
      · rintro ⟨j, hj, e⟩
        by_cases hjm : j = m
        · exact ⟨m - 1, by omega, by rw [← e, hjm, he]⟩
        · exact ⟨j, by omega, e⟩
theorem comp_sorted {zs : List Tx} (h : zs.Pairwise (· ≤ ·)) : (Lib.compact zs).Pairwise (· < ·) ∧ ∀ x, x ∈ Lib.compact zs ↔ x ∈ zs := by
  have hs : ∀ i j, i < j → j < zs.toArray.size → zs.toArray[i]! ≤ zs.toArray[j]! := fun i j hij hj => by
    have hj : j < zs.length := by simpa using hj
    have hi : i < zs.length := by omega
    have := List.pairwise_iff_getElem.1 h i j hi hj hij
    simpa [hi, hj] using this
  obtain ⟨h1, h2⟩ := compUp zs.toArray hs zs.length (by simp)
  refine ⟨h1, fun x => ?_⟩
  unfold Lib.compact
  rw [h2, List.mem_iff_getElem]
  constructor
  · rintro ⟨j, hj, e⟩
    exact ⟨j, hj, by simpa [hj] using e⟩
  · rintro ⟨j, hj, e⟩
    exact ⟨j, hj, by simpa [hj] using e⟩
theorem txtL_inj {a b : ByteArray × Unit} (h : txtL a = txtL b) : a = b := by rw [← txtOf_L a, ← txtOf_L b, h]
/-- In strict order. -/
def Strict (l : Strs) : Prop := l.Pairwise fun a b => txtL a < txtL b
theorem txtL_of (x : Tx) : txtL (txtOf x) = x := by simp [txtL, txtOf]
theorem ordered_strict (l : Strs) : Strict (G.ordered l) ∧ ∀ x, x ∈ G.ordered l ↔ x ∈ l := by
  have hs : ((l.map txtL).mergeSort fun x y => decide (x ≤ y)).Pairwise (· ≤ ·) := by
    have := List.pairwise_mergeSort (le := fun x y : Tx => decide (x ≤ y)) (fun a b c h1 h2 => decide_eq_true (List.le_trans (of_decide_eq_true h1) (of_decide_eq_true h2))) (fun a b => by
      rcases List.le_total a b with h | h
      · simp [h]
      · simp [h]) (l.map txtL)
    exact this.imp fun h => of_decide_eq_true h
  have e : (G.sortS l).map txtL = (l.map txtL).mergeSort fun x y => decide (x ≤ y) := by
    unfold G.sortS
    rw [List.map_map]
    exact (List.map_congr_left fun x _ => txtL_of x).trans (List.map_id _)
  obtain ⟨h1, h2⟩ := comp_sorted hs
  unfold G.ordered G.compactS
  rw [e]
  constructor
  · unfold Strict
    rw [List.pairwise_map]
    exact h1.imp fun h => by rw [txtL_of, txtL_of]; exact h
  · intro x
    rw [List.mem_map]
    constructor
    · rintro ⟨y, hy, rfl⟩
      have := (List.mergeSort_perm _ _).mem_iff.1 ((h2 y).1 hy)
      obtain ⟨z, hz, rfl⟩ := List.mem_map.1 this
      rw [txtOf_L]
      exact hz
    · intro hx
      refine ⟨txtL x, (h2 _).2 ((List.mergeSort_perm _ _).mem_iff.2 (List.mem_map.2 ⟨x, hx, rfl⟩)), txtOf_L x⟩
theorem strLt_tx (x y : ByteArray) : Go.Rx.strLt x y = decide (txtL (x, ()) < txtL (y, ())) := by
  unfold Go.Rx.strLt txtL
  rw [Proofs.bytesLess_eq, Lib.toList_data, Lib.toList_data]
theorem skipL_spec (s : ByteArray) : ∀ (l : Strs) (i : Int), ∃ k : Nat, G.skipL s l i = i + k ∧ k ≤ l.length ∧ (∀ x ∈ l.take k, txtL x < txtL (s, ())) ∧ (∀ h : k < l.length, ¬ txtL l[k] < txtL (s, ()))
  | [], i => ⟨0, by simp [G.skipL], by simp, by simp, fun h => by simp at h⟩
  | x :: r, i => by
    unfold G.skipL
    rw [strLt_tx]
    by_cases c : txtL x < txtL (s, ())
    · obtain ⟨k, h1, h2, h3, h4⟩ := skipL_spec s r (i + 1)
      rw [if_pos (decide_eq_true c)]
      refine ⟨k + 1, by rw [h1]; omega, by simp; omega, fun y hy => ?_, fun h => ?_⟩
      · rw [List.take_succ_cons, List.mem_cons] at hy
        rcases hy with rfl | hy
        · exact c
        · exact h3 y hy
      · simpa using h4 (by simpa using h)
    · rw [if_neg (by simpa using c)]
      exact ⟨0, by simp, by simp, by simp, fun h => by simpa using c⟩
theorem put_strict {l : Strs} (h : Strict l) (s : ByteArray) : Strict (G.put l s) := by
  obtain ⟨k, h1, h2, h3, h4⟩ := skipL_spec s l 0
  have e : (G.skip l s 0).toNat = k := by
    unfold G.skip
    simp only [Int.toNat_zero, List.drop_zero]
    rw [h1]
    omega
  unfold G.put
  by_cases c : G.skip l s 0 < (l.length : Int) ∧ G.sAt l (G.skip l s 0).toNat = s
  · rw [if_pos c]
    exact h
  · rw [if_neg c, e]
    have hd : Strict (l.take k ++ l.drop k) := by rw [List.take_append_drop]; exact h
    unfold Strict at hd ⊢
    rw [List.pairwise_append] at hd
    obtain ⟨d1, d2, d3⟩ := hd
    have key : ∀ x ∈ l.drop k, txtL (s, ()) < txtL x := fun x hx => by
      have hk : k < l.length := by
        by_cases hk : k < l.length
        · exact hk
        · rw [List.drop_eq_nil_of_le (by omega)] at hx
          cases hx
      have hne : txtL (s, ()) ≠ txtL l[k] := fun e2 => by
        refine c ⟨?_, ?_⟩
        · have := h1
          unfold G.skip
          simp only [Int.toNat_zero, List.drop_zero]
          omega
        · rw [e]
          unfold G.sAt
          rw [getD_lt _ _ hk, ← txtL_inj e2]
      have hlt : txtL (s, ()) < txtL l[k] := tx_lt (List.not_lt.1 (h4 hk)) hne
      rw [List.drop_eq_getElem_cons hk] at hx d2
      rcases List.mem_cons.1 hx with rfl | hx
      · exact hlt
      · exact List.lt_trans hlt ((List.pairwise_cons.1 d2).1 x hx)
    rw [List.append_assoc, List.pairwise_append]
    refine ⟨d1, ?_, fun a ha b hb => ?_⟩
    · rw [List.singleton_append, List.pairwise_cons]
      exact ⟨key, d2⟩
    · rcases List.mem_append.1 hb with hb | hb
      · rw [List.mem_singleton] at hb
        subst hb
        exact h3 a ha
      · exact d3 a ha b hb
theorem strict_eq {a b : Strs} (ha : Strict a) (hb : Strict b) (h : ∀ x, x ∈ a ↔ x ∈ b) : a = b := by
  have nd : ∀ {l : Strs}, Strict l → l.Nodup := fun {l} hl => by
    unfold List.Nodup
    refine List.Pairwise.imp (fun {x y} h => ?_) hl
    intro e
    rw [e] at h
    exact List.lt_irrefl _ h
  refine List.Perm.eq_of_pairwise (le := fun x y => txtL x ≤ txtL y) (fun x y _ _ h1 h2 => txtL_inj (List.le_antisymm h1 h2)) (ha.imp fun h => ?_) (hb.imp fun h => ?_) ((List.perm_ext_iff_of_nodup (nd ha) (nd hb)).2 h)
  · exact fun h' => List.lt_irrefl _ (List.lt_trans h h')
  · exact fun h' => List.lt_irrefl _ (List.lt_trans h h')
/-- Put in order one by one. -/
def G.puts (l : Strs) (a : Strs) : Strs := l.foldl (fun a x => G.put a x.1) a
theorem puts_strict : ∀ {l a : Strs}, Strict a → Strict (G.puts l a) ∧ ∀ x, x ∈ G.puts l a ↔ (x ∈ a ∨ x ∈ l)
  | [], a, h => ⟨h, fun x => by simp [G.puts]⟩
  | y :: l, a, h => by
    obtain ⟨h1, h2⟩ := puts_strict (l := l) (put_strict h y.1)
    refine ⟨h1, fun x => ?_⟩
    show x ∈ G.puts l (G.put a y.1) ↔ _
    rw [h2, mem_put, List.mem_cons, or_assoc]
theorem puts_ordered (l : Strs) : G.puts l [] = G.ordered l := by
  obtain ⟨h1, h2⟩ := puts_strict (l := l) (a := []) List.Pairwise.nil
  obtain ⟨h3, h4⟩ := ordered_strict l
  refine strict_eq h1 h3 fun x => ?_
  rw [h2, h4]
  simp
theorem fold_list {α β : Type} (f : β → α → β) (d : α) (l : List α) (a : β) : G.fold (fun b k => f b (l.getD k d)) l.length 0 a = l.foldl f a := by
  unfold G.fold
  rw [range_zero]
  have key : ∀ (n : Nat), n ≤ l.length → (List.range n).foldl (fun b k => f b (l.getD k d)) a = (l.take n).foldl f a := by
    intro n
    induction n with
    | zero => intro _; rfl
    | succ n ih =>
      intro hn
      rw [List.range_succ, List.foldl_append, ih (by omega), List.take_succ_eq_append_getElem (show n < l.length by omega), List.foldl_append, List.foldl_cons, List.foldl_nil, getD_lt l _ (show n < l.length by omega)]
      rfl
  rw [key l.length (Nat.le_refl _), List.take_length]
theorem putL_ordered (l : Funs) : G.putL l = G.ordered (G.namesL l) := by
  rw [← puts_ordered, namesL_map]
  unfold G.putL G.puts
  rw [List.foldl_map]
  exact fold_list (fun (a : Strs) (f : Fun) => G.put a f.1) (ByteArray.empty, false, [], ()) l []
theorem rchL_none {p : Funs} {s : ByteArray} (c : G.find p s < 0) : G.rchL p s = [] := by
  have : (G.rch p s).2 = false := by
    unfold G.rch G.rchX
    rw [show p.length + 1 - 0 = p.length + 1 from rfl, rwalk_succ, if_pos (by simp)]
    have : G.hasF p (G.sAt [(s, ())] 0) = false := by
      show G.hasF p s = false
      unfold G.hasF
      rw [decide_eq_true c]
      rfl
    rw [if_neg (by rw [this]; decide)]
  unfold G.rchL
  rw [if_neg (by rw [this]; decide)]
theorem spReach_eq (p : Funs) (s : ByteArray) : G.spReach p s = G.keepReach p s := by
  unfold G.spReach G.keepReach
  cases hk : G.keepOk p with
  | false => simp
  | true =>
    by_cases c : G.find p s < 0
    · rw [if_neg (fun e => e.2 c), if_pos rfl, rchL_none c]
      exact (List.length_eq_zero_iff.1 ((ordered_nil _).2 (by rfl))).symm
    · rw [if_pos ⟨rfl, c⟩, if_pos rfl, putL_ordered]
end Go.Rx

/-
  PROGRAMS: names in order, names that are nowhere, and whether a program is right.
-/
import Derived.Test.YtoagkidolpcigaaDb
import Derived.Test.YtoagkidolpcigaaShelf
import Derived.Test.YtoagkidolpcigaaRxZe
namespace Go.Rx
open Go
set_option linter.unusedVariables false
set_option linter.unusedSimpArgs false
abbrev StrsW : PK := .wr false [.own strT]
noncomputable abbrev spSortS : Spec := ⟨[StrsW], .none, false, fun x => decide (x.1.1.length ≤ 1099511627776), fun x => ((), ((G.sortS x.1.1, ()), ()))⟩
noncomputable abbrev spCompactS : Spec := ⟨[.c (.own strT)], .one (.c (.own strT)), false, fun x => decide (x.1.length ≤ 1099511627776), fun x => (G.compactS x.1, ())⟩
theorem okSortS : SpecOk Go.Proofs.Try.prog 108 spSortS :=
  sort_ok ⟨Go.Proofs.Try.f108, by kernel_rfl, by decide, by kernel_rfl⟩ Go.Proofs.Try.slices_Sort_string Go.Proofs.Try.slices_Sort_string_none
theorem okCompactS : SpecOk Go.Proofs.Try.prog 109 spCompactS :=
  compact_ok ⟨Go.Proofs.Try.f109, by kernel_rfl, by decide, by kernel_rfl⟩ Go.Proofs.Try.slices_Compact_string Go.Proofs.Try.slices_Compact_string_empty
noncomputable abbrev pg25 : List (Nat × List Spec) := (108, [spSortS]) :: (109, [spCompactS]) :: pg24
theorem pg25_ok : PhiOk Go.Proofs.Try.prog pg25 := ⟨⟨okSortS, trivial⟩, ⟨okCompactS, trivial⟩, pg24_ok⟩
def G.ordered (l : Strs) : Strs := G.compactS (G.sortS l)
/-! Ordered -/
noncomputable abbrev spOrdered : Spec := ⟨[.c (.own strT)], .one (.c (.own strT)), false, fun x => G.few x.1.length, fun x => (G.ordered x.1, ())⟩
noncomputable abbrev cxOrdered : Cx := mkCx T0 pg25 [] [] 8
theorem eOrdered (l : Strs) : funK cxOrdered Go.Proofs.Try.f79 spOrdered.ins spOrdered.out (l, ()) =
  (if Decidable.decide (List.length l ≤ (1099511627776 : Nat)) = Bool.true then
    if Decidable.decide (List.length (Go.Rx.G.sortS l) ≤ (1099511627776 : Nat)) = Bool.true then
      if Go.Rx.okSize (16 : Nat) (List.length (Go.Rx.G.compactS (Go.Rx.G.sortS l))) = Bool.true then Option.some (Go.Rx.G.compactS (Go.Rx.G.sortS l), PUnit.unit) else Option.none
    else Option.none
  else Option.none) := by kernel_rfl
theorem compact_len_le (l : Strs) : (G.compactS l).length ≤ l.length := by
  unfold G.compactS
  rw [List.length_map]
  have := Lib.compact_length_le (l.map txtL)
  rw [List.length_map] at this
  exact this
theorem compact_nil (l : Strs) : (G.compactS l).length = 0 ↔ l.length = 0 := by
  constructor
  · intro h
    cases l with
    | nil => rfl
    | cons a r =>
      exfalso
      unfold G.compactS at h
      rw [List.length_map] at h
      have hm : (0 : Nat) ∈ (List.range ((a :: r).map txtL).length).filter (Lib.keeps ((a :: r).map txtL).toArray) := by
        rw [List.mem_filter]
        refine ⟨by simp, ?_⟩
        simp [Lib.keeps]
      have h : (((List.range ((a :: r).map txtL).length).filter (Lib.keeps ((a :: r).map txtL).toArray)).map (((a :: r).map txtL).toArray[·]!)).length = 0 := h
      rw [List.length_map, List.length_eq_zero_iff] at h
      rw [h] at hm
      cases hm
  · intro h
    have := compact_len_le l
    omega
theorem ordered_len (l : Strs) : (G.ordered l).length ≤ l.length := by
  have := compact_len_le (G.sortS l)
  rw [sortS_length] at this
  exact this
theorem ordered_nil (l : Strs) : (G.ordered l).length = 0 ↔ l.length = 0 := by
  have := compact_nil (G.sortS l)
  rw [sortS_length] at this
  exact this
theorem sfOrdered (l : Strs) (h : G.few l.length = true) : funK cxOrdered Go.Proofs.Try.f79 spOrdered.ins spOrdered.out (l, ()) = some (G.ordered l, ()) := by
  have h := few_iff.1 h
  have h2 := ordered_len l
  have h2 : (G.compactS (G.sortS l)).length ≤ l.length := h2
  rw [eOrdered, if_pos (decide_eq_true h), if_pos (decide_eq_true (by rw [sortS_length]; exact h)), if_pos (okSize_few (by omega) (by omega))]
  rfl
theorem okOrdered : SpecOk Go.Proofs.Try.prog 79 spOrdered :=
  fun_okB (cx := cxOrdered) (F := Go.Proofs.Try.f79) (cxOk T0_ok T0_eq pg25_ok) mixed (by kernel_rfl) (by decide) (by kernel_rfl) (lps_none (by kernel_rfl)) (fun x h => sfOrdered x.1 h)
noncomputable abbrev pg26 : List (Nat × List Spec) := (79, [spOrdered]) :: pg25
theorem pg26_ok : PhiOk Go.Proofs.Try.prog pg26 := ⟨⟨okOrdered, trivial⟩, pg25_ok⟩
/-! Lacking -/
noncomputable abbrev spLacking : Spec := ⟨[FunSP], .one (.c (.own strT)), false, fun x => G.thin x.1, fun x => (G.ordered (G.lackOf x.1), ())⟩
noncomputable abbrev cxLacking : Cx := mkCx T0 pg26 [(0, lsLackL0)] [] 33
theorem eLacking (p : Funs) : funK cxLacking Go.Proofs.Try.f59 spLacking.ins spLacking.out (p, ()) =
  (if Go.Rx.G.preLackL0 p p (↑(List.length p) : Int) (0 : Int) [] = Bool.true then
    if Go.Rx.G.few (List.length (Go.Rx.G.fdLackL0 p p (0 : Int) ([], PUnit.unit)).1) = Bool.true then
      Option.some (Go.Rx.G.ordered (Go.Rx.G.fdLackL0 p p (0 : Int) ([], PUnit.unit)).1, PUnit.unit)
    else Option.none
  else Option.none) := by kernel_rfl
theorem lackOf_len {p : Funs} (h : G.thin p = true) : (G.lackOf p).length ≤ 16 * p.length := by
  obtain ⟨h1, h2⟩ := thin_iff.1 h
  unfold G.lackOf G.fold
  rw [range_zero]
  have key : ∀ (l : List Nat) (a : Strs), (∀ k ∈ l, k < p.length) → (l.foldl (G.lackIn p) a).length ≤ a.length + 16 * l.length := by
    intro l
    induction l with
    | nil => intro a _; simp
    | cons x r ih =>
      intro a hk
      have h3 := lackIn_len p a x (h2 x (hk x (List.mem_cons_self ..)))
      have h4 := ih (G.lackIn p a x) fun k hk' => hk k (List.mem_cons_of_mem _ hk')
      simp only [List.foldl_cons, List.length_cons]
      omega
  have := key (List.range p.length) [] (by simp)
  simpa using this
theorem sfLacking (p : Funs) (h : G.thin p = true) : funK cxLacking Go.Proofs.Try.f59 spLacking.ins spLacking.out (p, ()) = some (G.ordered (G.lackOf p), ()) := by
  have hl := lackOf_len h
  have ht := thin_iff.1 h
  have h1 := ht.1
  rw [eLacking, if_pos (preLackL0_iff.2 ⟨⟨by omega, by omega, by omega⟩, rfl, lackPre0_iff.2 ⟨rfl, ht, by simp⟩⟩)]
  have e : (G.fdLackL0 p p 0 ([], ())).1 = G.lackOf p := by
    unfold G.fdLackL0 G.oneLackL0 G.lackOf
    rw [fold_unit]
  rw [e, if_pos (few_iff.2 (by omega))]
theorem okLacking : SpecOk Go.Proofs.Try.prog 59 spLacking :=
  fun_okB (cx := cxLacking) (F := Go.Proofs.Try.f59) (cxOk T0_ok T0_eq pg26_ok) mixed (by kernel_rfl) (by decide) (by kernel_rfl) (lps_of (l := [(0, loopIn Go.Proofs.Try.f59 0)]) (by kernel_rfl) ⟨lp_at lpLackL0 rfl, trivial⟩) (fun x h => sfLacking x.1 h)
noncomputable abbrev pg27 : List (Nat × List Spec) := (59, [spLacking]) :: pg26
theorem pg27_ok : PhiOk Go.Proofs.Try.prog pg27 := ⟨⟨okLacking, trivial⟩, pg26_ok⟩
theorem foldl_nil {α : Type} {f : List α → Nat → List α} {q : Nat → Bool} (hf : ∀ a k, (f a k).length = 0 ↔ (a.length = 0 ∧ q k = true)) : ∀ (l : List Nat) (a : List α), (l.foldl f a).length = 0 ↔ (a.length = 0 ∧ l.all q = true)
  | [], a => by simp
  | x :: r, a => by
    rw [List.foldl_cons, foldl_nil hf r, hf, List.all_cons, Bool.and_eq_true, and_assoc]
theorem lackOf_nil (p : Funs) : (G.lackOf p).length = 0 ↔ G.closed p = true := by
  have h1 : ∀ (l : Strs) (a : Strs) (k : Nat), (G.lackOne p l a k).length = 0 ↔ (a.length = 0 ∧ G.knownAt p l k = true) := by
    intro l a k
    unfold G.lackOne G.knownAt
    by_cases c : G.find p (G.sAt l k) < 0
    · rw [if_pos c, decide_eq_true c]
      simp
    · rw [if_neg c, decide_eq_false c]
      simp
  have h2 : ∀ (a : Strs) (k : Nat), (G.lackIn p a k).length = 0 ↔ (a.length = 0 ∧ G.closedAt p k = true) := by
    intro a k
    unfold G.lackIn G.fold G.closedAt G.known G.allFrom
    exact foldl_nil (h1 _) _ _
  unfold G.lackOf G.fold G.closed G.allFrom
  have := foldl_nil h2 (List.range' (Int.toNat 0) (p.length - Int.toNat 0)) []
  simpa using this
theorem funsOk_thin {p : Funs} (h0 : p.length ≤ 4096) (h : G.funsOk p = true) : G.thin p = true := by
  refine thin_iff.2 ⟨h0, fun k hk => ?_⟩
  have := allFrom_zero.1 h k hk
  unfold G.okAt G.funOk at this
  rw [Bool.and_eq_true, Bool.and_eq_true, Bool.and_eq_true, Bool.and_eq_true, decide_eq_true_iff] at this
  have := this.1.1.1.2.2
  omega
/-! KeepOk -/
noncomputable abbrev spKeepOk : Spec := ⟨[FunSP], BoolR, false, fun x => G.smallP x.1, fun x => (G.keepOk x.1, ())⟩
noncomputable abbrev cxKeepOk : Cx := mkCx T0 pg27 [] [] 16
theorem eKeepOk (p : Funs) : funK cxKeepOk Go.Proofs.Try.f25 spKeepOk.ins spKeepOk.out (p, ()) =
  (if Go.Rx.G.inR (↑(List.length p) : Int) (1 : Int) (40 : Int) = Bool.true then
    if Go.Rx.G.smallP p = Bool.true then
      if Go.Rx.G.funsOk p = Bool.true then
        if Go.Rx.G.thin p = Bool.true then Option.some (Decidable.decide ((↑(List.length (Go.Rx.G.ordered (Go.Rx.G.lackOf p))) : Int) = (0 : Int)), PUnit.unit) else Option.none
      else Option.some (Bool.false, PUnit.unit)
    else Option.none
  else Option.some (Bool.false, PUnit.unit)) := by kernel_rfl
theorem sfKeepOk (p : Funs) (h : G.smallP p = true) : funK cxKeepOk Go.Proofs.Try.f25 spKeepOk.ins spKeepOk.out (p, ()) = some (G.keepOk p, ()) := by
  rw [eKeepOk]
  unfold G.keepOk
  by_cases c1 : 1 ≤ p.length ∧ p.length ≤ 40
  · rw [if_pos (inR_iff.2 (by omega)), if_pos h, decide_eq_true c1, Bool.true_and]
    cases hf : G.funsOk p with
    | false => rfl
    | true =>
      rw [if_pos rfl, if_pos (funsOk_thin (by omega) hf), Bool.true_and]
      refine someB ?_
      rw [decide_eq_true_iff, ← lackOf_nil, ← ordered_nil]
      omega
  · rw [if_neg (fun e => c1 (by have := inR_iff.1 e; omega)), decide_eq_false c1]
    rfl
theorem okKeepOk : SpecOk Go.Proofs.Try.prog 25 spKeepOk :=
  fun_okB (cx := cxKeepOk) (F := Go.Proofs.Try.f25) (cxOk T0_ok T0_eq pg27_ok) mixed (by kernel_rfl) (by decide) (by kernel_rfl) (lps_none (by kernel_rfl)) (fun x h => sfKeepOk x.1 h)
noncomputable abbrev pg28 : List (Nat × List Spec) := (25, [spKeepOk]) :: pg27
theorem pg28_ok : PhiOk Go.Proofs.Try.prog pg28 := ⟨⟨okKeepOk, trivial⟩, pg27_ok⟩
end Go.Rx

/-
  DEPTH: the most calls on one way, by rounds.
-/
import Derived.Test.YtoagkidolpcigaaIj
import Derived.Test.YtoagkidolpcigaaIl
namespace Go.Rx
open Go
set_option linter.unusedVariables false
set_option linter.unusedSimpArgs false
abbrev intsT : Tys := .cons I .nil
abbrev IntsO : PK := .c (.own intsT)
def G.dAt (d : Ints) (k : Nat) : Int := (d.getD k (0, ())).1
theorem dAt_eq (d : Ints) (i : Int) : (d.getD i.toNat (0, ())).1 = G.dAt d i.toNat := rfl
def G.wOf (i : Ins) : Int := if i.1 = 3 then 1 else 0
def G.relax (p : Funs) (k : Nat) (st : Ints × Bool) (i : Ins) : Ints × Bool :=
  if G.refs i.1 = true then (if G.dAt st.1 k + G.wOf i > G.dAt st.1 (G.find p i.2.2.1).toNat then (st.1.set (G.find p i.2.2.1).toNat (G.dAt st.1 k + G.wOf i, ()), true) else st) else st
def G.dOk (n : Nat) (B : Int) (d : Ints) : Bool := decide (d.length = n) && d.all fun x => decide (-1 ≤ x.1 ∧ x.1 ≤ B)
def G.bodyIn (p : Funs) (b : Inss) : Bool := decide (∀ c, c < b.length → G.refs (G.insAt b c).1 = true → ¬ G.find p (G.insAt b c).2.2.1 < 0)
theorem dOk_iff {n : Nat} {B : Int} {d : Ints} : G.dOk n B d = true ↔ (d.length = n ∧ ∀ k, k < n → -1 ≤ G.dAt d k ∧ G.dAt d k ≤ B) := by
  unfold G.dOk
  rw [Bool.and_eq_true, decide_eq_true_iff, List.all_eq_true]
  constructor
  · rintro ⟨h1, h2⟩
    refine ⟨h1, fun k hk => ?_⟩
    have hk : k < d.length := by omega
    have := of_decide_eq_true (h2 _ (List.getElem_mem hk))
    unfold G.dAt
    rw [getD_lt _ _ hk]
    exact this
  · rintro ⟨h1, h2⟩
    refine ⟨h1, fun x hx => ?_⟩
    obtain ⟨k, hk, rfl⟩ := List.getElem_of_mem hx
    have := h2 k (by omega)
    unfold G.dAt at this
    rw [getD_lt _ _ hk] at this
    exact decide_eq_true this
theorem dAt_set (d : Ints) (j : Nat) (v : Int) (k : Nat) : G.dAt (d.set j (v, ())) k = if k = j ∧ j < d.length then v else G.dAt d k := by
  unfold G.dAt
  by_cases hj : j < d.length
  · by_cases hk : k = j
    · subst hk
      rw [if_pos ⟨rfl, hj⟩, getD_lt _ _ (by simpa using hj), List.getElem_set_self]
    · rw [if_neg fun e => hk e.1]
      simp [List.getD, List.getElem?_set_ne (Ne.symm hk)]
  · rw [if_neg fun e => hj e.2, List.set_eq_of_length_le (by omega)]
theorem dAt_out {d : Ints} {k : Nat} (h : d.length ≤ k) : G.dAt d k = 0 := by
  unfold G.dAt
  simp [List.getD, List.getElem?_eq_none h]
theorem wOf_bd (i : Ins) : 0 ≤ G.wOf i ∧ G.wOf i ≤ 1 := by
  unfold G.wOf
  split <;> omega
theorem relax_dOk {p : Funs} {k n : Nat} {st : Ints × Bool} {x : Ins} {B : Int} (hB : 0 ≤ B) (h : G.dOk n B st.1 = true) : G.dOk n (B + 1) (G.relax p k st x).1 = true := by
  obtain ⟨h1, h2⟩ := dOk_iff.1 h
  have hw := wOf_bd x
  have hv : -1 ≤ G.dAt st.1 k ∧ G.dAt st.1 k ≤ B := by
    by_cases c : k < n
    · exact h2 k c
    · rw [dAt_out (by omega)]
      omega
  have keep : G.dOk n (B + 1) st.1 = true := dOk_iff.2 ⟨h1, fun j hj => by have := h2 j hj; omega⟩
  unfold G.relax
  split
  · split
    · refine dOk_iff.2 ⟨by simpa using h1, fun j hj => ?_⟩
      show -1 ≤ G.dAt (st.1.set _ _) j ∧ G.dAt (st.1.set _ _) j ≤ _
      rw [dAt_set]
      have := h2 j hj
      split <;> omega
    · exact keep
  · exact keep
theorem dOk_le {n : Nat} {B B' : Int} {d : Ints} (h : G.dOk n B d = true) (hb : B ≤ B') : G.dOk n B' d = true := by
  obtain ⟨h1, h2⟩ := dOk_iff.1 h
  exact dOk_iff.2 ⟨h1, fun k hk => by have := h2 k hk; omega⟩
theorem fold_pair {α β : Type} (f : α × β → Nat → α × β) (n : Nat) (i : Int) (a : α) (b : β) : G.fold (fun (q : α × β × Unit) k => ((f (q.1, q.2.1) k).1, (f (q.1, q.2.1) k).2, ())) n i (a, b, ()) = ((G.fold f n i (a, b)).1, (G.fold f n i (a, b)).2, ()) := by
  unfold G.fold
  generalize List.range' i.toNat (n - i.toNat) = l
  induction l generalizing a b with
  | nil => rfl
  | cons x r ih => exact ih _ _
def G.bodyOne (p : Funs) (k : Nat) (b : Inss) (st : Ints × Bool) (c : Nat) : Ints × Bool := G.relax p k st (G.insAt b c)
def G.rowOne (p : Funs) (st : Ints × Bool) (k : Nat) : Ints × Bool := if G.dAt st.1 k < 0 then st else G.fold (G.bodyOne p k (G.pAt p k).2.2.1) (G.pAt p k).2.2.1.length 0 st
def G.round (p : Funs) (d : Ints) : Ints × Bool := G.fold (G.rowOne p) p.length 0 (d, false)
theorem fold_dOk {n : Nat} {f : Ints × Bool → Nat → Ints × Bool} {c : Int} (hc : 0 ≤ c) (hf : ∀ st k B, 0 ≤ B → G.dOk n B st.1 = true → G.dOk n (B + c) (f st k).1 = true) {B : Int} (hB : 0 ≤ B) {st : Ints × Bool} (h : G.dOk n B st.1 = true) : ∀ m : Nat, G.dOk n (B + c * m) (G.fold f m 0 st).1 = true
  | 0 => by
    show G.dOk n (B + c * ((0 : Nat) : Int)) st.1 = true
    rw [show B + c * ((0 : Nat) : Int) = B by simp]
    exact h
  | m + 1 => by
    rw [fold_succ]
    have h1 := fold_dOk hc hf hB h m
    have h2 : 0 ≤ c * (m : Int) := Int.mul_nonneg hc (by omega)
    have := hf _ m _ (by omega) h1
    rw [show B + c * ((m + 1 : Nat) : Int) = B + c * (m : Int) + c by rw [Int.natCast_add, Int.mul_add]; omega]
    exact this
theorem rowOne_dOk {p : Funs} {n k : Nat} (hb : ∀ k, (G.pAt p k).2.2.1.length ≤ 16) {st : Ints × Bool} {B : Int} (hB : 0 ≤ B) (h : G.dOk n B st.1 = true) : G.dOk n (B + 16) (G.rowOne p st k).1 = true := by
  unfold G.rowOne
  split
  · exact dOk_le h (by omega)
  · have := fold_dOk (n := n) (f := G.bodyOne p k (G.pAt p k).2.2.1) (c := 1) (by omega) (fun st c B hB h => relax_dOk hB h) hB h (G.pAt p k).2.2.1.length
    have := hb k
    exact dOk_le (by assumption) (by omega)
theorem body16 {p : Funs} (h : G.thin p = true) (k : Nat) : (G.pAt p k).2.2.1.length ≤ 16 := by
  by_cases c : k < p.length
  · exact (thin_iff.1 h).2 k c
  · unfold G.pAt
    simp [List.getD, List.getElem?_eq_none (Nat.le_of_not_lt c)]
theorem round_dOk {p : Funs} {n : Nat} (ht : G.thin p = true) {d : Ints} {B : Int} (hB : 0 ≤ B) (h : G.dOk n B d = true) : G.dOk n (B + 16 * p.length) (G.round p d).1 = true := fold_dOk (n := n) (f := G.rowOne p) (c := 16) (by omega) (fun st k B hB h => rowOne_dOk (body16 ht) hB h) hB (st := (d, false)) h p.length
theorem bodyIn_of {p : Funs} (h : G.keepOk p = true) {k : Nat} (hk : k < p.length) : G.bodyIn p (G.pAt p k).2.2.1 = true := decide_eq_true fun c hc hr => (closed_iff p).1 ((keepOk_iff p).1 h).2.2 k hk c hc hr
/-! DeepL6: a gathering -/
def G.preDeepL6 (p : Funs) (m : Int) (b : Inss) (n : Int) (i : Int) (deep : Ints) (chg : Bool) : Bool := G.preA (b.length) i && (decide (n = ((b.length : Nat) : Int)) && ((decide (0 ≤ m ∧ m < (p.length : Int) ∧ p.length ≤ 4096 ∧ b.length ≤ 16) && G.bodyIn p b) && G.dOk p.length (10000000 + i) deep))
theorem preDeepL6_iff {p : Funs} {m : Int} {b : Inss} {n : Int} {i : Int} {deep : Ints} {chg : Bool} : G.preDeepL6 p m b n i deep chg = true ↔ (0 ≤ i ∧ i ≤ ((b.length : Nat) : Int) ∧ (b.length : Nat) ≤ 1099511627776) ∧ n = ((b.length : Nat) : Int) ∧ ((decide (0 ≤ m ∧ m < (p.length : Int) ∧ p.length ≤ 4096 ∧ b.length ≤ 16) && G.bodyIn p b) && G.dOk p.length (10000000 + i) deep) = true := by simp [G.preDeepL6, preA_iff]
def G.oneDeepL6 (p : Funs) (m : Int) (b : Inss) (a : Ints × Bool × Unit) (k : Nat) : Ints × Bool × Unit := ((G.relax p m.toNat (a.1, a.2.1) (G.insAt b k)).1, (G.relax p m.toNat (a.1, a.2.1) (G.insAt b k)).2, ())
def G.fdDeepL6 (p : Funs) (m : Int) (b : Inss) (i : Int) (a : Ints × Bool × Unit) : Ints × Bool × Unit := G.fold (G.oneDeepL6 p m b) (b.length) i a
noncomputable abbrev lsDeepL6 : LSpec := ⟨[0, 3, 6, 7, 49, 50, 51], [3, 6], [FunSP, IntsO, BoolP, IntP, InsSP, IntP, IntP], [IntsO, BoolP], false, fun x => G.preDeepL6 x.1 x.2.2.2.1 x.2.2.2.2.1 x.2.2.2.2.2.1 x.2.2.2.2.2.2.1 x.2.1 x.2.2.1,
  fun x => ((0, G.fdDeepL6 x.1 x.2.2.2.1 x.2.2.2.2.1 x.2.2.2.2.2.2.1 (x.2.1, x.2.2.1, ())), ())⟩
noncomputable abbrev clDeepL6 : Cx := mkCx T0 pr11 [(6, lsDeepL6)] [] 87
theorem rDeepL6 (p : Funs) (deep : Ints) (chg : Bool) (m : Int) (b : Inss) (n : Int) (i : Int) : roundK clDeepL6 6 (loopIn Go.Proofs.Try.f30 6) lsDeepL6 (p, deep, chg, m, b, n, i, ()) =
  (if Decidable.decide (i < n) = Bool.true then
    if Decidable.decide ((0 : Int) ≤ i) = Bool.true then
      if Decidable.decide (i < (↑(List.length b) : Int)) = Bool.true then
        if (!Go.Rx.G.refs (List.getD b (Int.toNat i) ((0 : Int), (0 : Int), ByteArray.empty, PUnit.unit)).1) = Bool.true then
          Option.some (Go.Rx.LRes.go (p, deep, chg, m, b, n, Go.IntKind.wrap Go.IntKind.i64 (i + (1 : Int)), PUnit.unit))
        else
          if Go.Rx.G.few (List.length p) = Bool.true then
            if Decidable.decide ((0 : Int) ≤ m) = Bool.true then
              if Decidable.decide (m < (↑(List.length deep) : Int)) = Bool.true then
                if Decidable.decide (Int.toNat m < List.length deep) = Bool.true then
                  if Decidable.decide ((List.getD b (Int.toNat i) ((0 : Int), (0 : Int), ByteArray.empty, PUnit.unit)).1 = (3 : Int)) = Bool.true then
                    if Decidable.decide ((0 : Int) ≤ Go.Rx.G.find p (List.getD b (Int.toNat i) ((0 : Int), (0 : Int), ByteArray.empty, PUnit.unit)).2.2.1) = Bool.true then
                      if
                          Decidable.decide (Go.Rx.G.find p (List.getD b (Int.toNat i) ((0 : Int), (0 : Int), ByteArray.empty, PUnit.unit)).2.2.1 < (↑(List.length deep) : Int)) =
                            Bool.true then
                        if
                            Decidable.decide (Int.toNat (Go.Rx.G.find p (List.getD b (Int.toNat i) ((0 : Int), (0 : Int), ByteArray.empty, PUnit.unit)).2.2.1) < List.length deep) =
                              Bool.true then
                          if
                              Decidable.decide
                                  (Go.IntKind.wrap Go.IntKind.i64 ((List.getD deep (Int.toNat m) ((0 : Int), PUnit.unit)).1 + (1 : Int)) >
                                    (List.getD deep (Int.toNat (Go.Rx.G.find p (List.getD b (Int.toNat i) ((0 : Int), (0 : Int), ByteArray.empty, PUnit.unit)).2.2.1))
                                        ((0 : Int), PUnit.unit)).1) =
                                Bool.true then
                            if Decidable.decide ((0 : Int) ≤ Go.Rx.G.find p (List.getD b (Int.toNat i) ((0 : Int), (0 : Int), ByteArray.empty, PUnit.unit)).2.2.1) = Bool.true then
                              if
                                  Decidable.decide (Go.Rx.G.find p (List.getD b (Int.toNat i) ((0 : Int), (0 : Int), ByteArray.empty, PUnit.unit)).2.2.1 < (↑(List.length deep) : Int)) =
                                    Bool.true then
                                if
                                    Decidable.decide
                                        (Int.toNat (Go.Rx.G.find p (List.getD b (Int.toNat i) ((0 : Int), (0 : Int), ByteArray.empty, PUnit.unit)).2.2.1) < List.length deep) =
                                      Bool.true then
                                  Option.some
                                    (Go.Rx.LRes.go
                                      (p,
                                        List.set deep (Int.toNat (Go.Rx.G.find p (List.getD b (Int.toNat i) ((0 : Int), (0 : Int), ByteArray.empty, PUnit.unit)).2.2.1))
                                          (Go.IntKind.wrap Go.IntKind.i64 ((List.getD deep (Int.toNat m) ((0 : Int), PUnit.unit)).1 + (1 : Int)),
                                            (List.getD deep (Int.toNat (Go.Rx.G.find p (List.getD b (Int.toNat i) ((0 : Int), (0 : Int), ByteArray.empty, PUnit.unit)).2.2.1))
                                                ((0 : Int), PUnit.unit)).2),
                                        Bool.true, m, b, n, Go.IntKind.wrap Go.IntKind.i64 (i + (1 : Int)), PUnit.unit))
                                else Option.none
                              else Option.none
                            else Option.none
                          else Option.some (Go.Rx.LRes.go (p, deep, chg, m, b, n, Go.IntKind.wrap Go.IntKind.i64 (i + (1 : Int)), PUnit.unit))
                        else Option.none
                      else Option.none
                    else Option.none
                  else
                    if Decidable.decide ((0 : Int) ≤ Go.Rx.G.find p (List.getD b (Int.toNat i) ((0 : Int), (0 : Int), ByteArray.empty, PUnit.unit)).2.2.1) = Bool.true then
                      if
                          Decidable.decide (Go.Rx.G.find p (List.getD b (Int.toNat i) ((0 : Int), (0 : Int), ByteArray.empty, PUnit.unit)).2.2.1 < (↑(List.length deep) : Int)) =
                            Bool.true then
                        if
                            Decidable.decide (Int.toNat (Go.Rx.G.find p (List.getD b (Int.toNat i) ((0 : Int), (0 : Int), ByteArray.empty, PUnit.unit)).2.2.1) < List.length deep) =
                              Bool.true then
                          if
                              Decidable.decide
                                  ((List.getD deep (Int.toNat m) ((0 : Int), PUnit.unit)).1 >
                                    (List.getD deep (Int.toNat (Go.Rx.G.find p (List.getD b (Int.toNat i) ((0 : Int), (0 : Int), ByteArray.empty, PUnit.unit)).2.2.1))
                                        ((0 : Int), PUnit.unit)).1) =
                                Bool.true then
                            if Decidable.decide ((0 : Int) ≤ Go.Rx.G.find p (List.getD b (Int.toNat i) ((0 : Int), (0 : Int), ByteArray.empty, PUnit.unit)).2.2.1) = Bool.true then
                              if
                                  Decidable.decide (Go.Rx.G.find p (List.getD b (Int.toNat i) ((0 : Int), (0 : Int), ByteArray.empty, PUnit.unit)).2.2.1 < (↑(List.length deep) : Int)) =
                                    Bool.true then
                                if
                                    Decidable.decide
                                        (Int.toNat (Go.Rx.G.find p (List.getD b (Int.toNat i) ((0 : Int), (0 : Int), ByteArray.empty, PUnit.unit)).2.2.1) < List.length deep) =
                                      Bool.true then
                                  Option.some
                                    (Go.Rx.LRes.go
                                      (p,
                                        List.set deep (Int.toNat (Go.Rx.G.find p (List.getD b (Int.toNat i) ((0 : Int), (0 : Int), ByteArray.empty, PUnit.unit)).2.2.1))
                                          ((List.getD deep (Int.toNat m) ((0 : Int), PUnit.unit)).1,
                                            (List.getD deep (Int.toNat (Go.Rx.G.find p (List.getD b (Int.toNat i) ((0 : Int), (0 : Int), ByteArray.empty, PUnit.unit)).2.2.1))
                                                ((0 : Int), PUnit.unit)).2),
                                        Bool.true, m, b, n, Go.IntKind.wrap Go.IntKind.i64 (i + (1 : Int)), PUnit.unit))
                                else Option.none
                              else Option.none
                            else Option.none
                          else Option.some (Go.Rx.LRes.go (p, deep, chg, m, b, n, Go.IntKind.wrap Go.IntKind.i64 (i + (1 : Int)), PUnit.unit))
                        else Option.none
                      else Option.none
                    else Option.none
                else Option.none
              else Option.none
            else Option.none
          else Option.none
      else Option.none
    else Option.none
  else Option.some (Go.Rx.LRes.stop (0 : Nat) (deep, chg, PUnit.unit) PUnit.unit)) := by kernel_rfl
noncomputable abbrev muDeepL6 : PKs.den lsDeepL6.ins → Nat := fun x => (x.2.2.2.2.1.length) - x.2.2.2.2.2.2.1.toNat
theorem stDeepL6 (p : Funs) (deep : Ints) (chg : Bool) (m : Int) (b : Inss) (n : Int) (i : Int) (h : G.preDeepL6 p m b n i deep chg = true) : StepOk lsDeepL6 (eqInv lsDeepL6) muDeepL6 (p, deep, chg, m, b, n, i, ()) (roundK clDeepL6 6 (loopIn Go.Proofs.Try.f30 6) lsDeepL6 (p, deep, chg, m, b, n, i, ())) := by
  obtain ⟨⟨h0, h1, h2⟩, hn, hc⟩ := preDeepL6_iff.1 h
  subst hn
  rw [rDeepL6]
  by_cases hi : i < ((b.length : Nat) : Int)
  · have hw : IntKind.i64.wrap (i + 1) = i + 1 := w64 (by omega) (by omega)
    have hs : G.fdDeepL6 p m b i (deep, chg, ()) = G.fdDeepL6 p m b (i + 1) (G.oneDeepL6 p m b (deep, chg, ()) i.toNat) := fold_step h0 hi
    refine fold_go (eqInv lsDeepL6) muDeepL6 (p, (G.oneDeepL6 p m b (deep, chg, ()) i.toNat).1, (G.oneDeepL6 p m b (deep, chg, ()) i.toNat).2.1, m, b, ((b.length : Nat) : Int), i + 1, ()) ?_ (show G.preDeepL6 p m b ((b.length : Nat) : Int) (i + 1) (G.oneDeepL6 p m b (deep, chg, ()) i.toNat).1 (G.oneDeepL6 p m b (deep, chg, ()) i.toNat).2.1 = true from preDeepL6_iff.2 ⟨⟨by omega, by omega, h2⟩, rfl, ?_⟩) ?_ ?_
    · rw [Bool.and_eq_true, Bool.and_eq_true, decide_eq_true_iff] at hc
      obtain ⟨⟨⟨m0, m1, c1, c2⟩, c3⟩, c4⟩ := hc
      obtain ⟨d1, d2⟩ := dOk_iff.1 c4
      have hm := d2 m.toNat (by omega)
      rw [if_pos (decide_eq_true hi), if_pos (decide_eq_true h0), if_pos (decide_eq_true hi), insAt_eq, hw]
      by_cases hr : G.refs (G.insAt b i.toNat).1 = true
      · have hf := of_decide_eq_true c3 i.toNat (by omega) hr
        obtain ⟨f1, f2, f3, f4⟩ := find_ok hf
        have m3 : m < (deep.length : Int) := by omega
        have m4 : m.toNat < deep.length := by omega
        have f5 : G.find p (G.insAt b i.toNat).2.2.1 < (deep.length : Int) := by omega
        have f6 : (G.find p (G.insAt b i.toNat).2.2.1).toNat < deep.length := by omega
        have hw2 : IntKind.i64.wrap (G.dAt deep m.toNat + 1) = G.dAt deep m.toNat + 1 := w64 (by omega) (by omega)
        have hfew := few_iff.2 (show p.length ≤ 1099511627776 by omega)
        have e : G.relax p m.toNat (deep, chg) (G.insAt b i.toNat) = if G.dAt deep m.toNat + G.wOf (G.insAt b i.toNat) > G.dAt deep (G.find p (G.insAt b i.toNat).2.2.1).toNat then (deep.set (G.find p (G.insAt b i.toNat).2.2.1).toNat (G.dAt deep m.toNat + G.wOf (G.insAt b i.toNat), ()), true) else (deep, chg) := if_pos hr
        unfold G.oneDeepL6
        dsimp only
        rw [e, if_neg (by rw [hr]; decide)]
        by_cases h3 : (G.insAt b i.toNat).1 = 3
        · have w3 : G.wOf (G.insAt b i.toNat) = 1 := if_pos h3
          rw [w3]
          simp only [hfew, m0, m3, m4, f3, f5, f6, h3, dAt_eq, hw2, decide_true, if_true]
          by_cases hg : G.dAt deep m.toNat + 1 > G.dAt deep (G.find p (G.insAt b i.toNat).2.2.1).toNat
          · rw [if_pos (decide_eq_true hg), if_pos hg]
          · rw [if_neg (by simpa using hg), if_neg hg]
        · have w3 : G.wOf (G.insAt b i.toNat) = 0 := if_neg h3
          rw [w3, Int.add_zero, if_pos hfew]
          simp only [m0, m3, m4, f3, f5, f6, h3, dAt_eq, decide_true, decide_false, if_true]
          by_cases hg : G.dAt deep m.toNat > G.dAt deep (G.find p (G.insAt b i.toNat).2.2.1).toNat
          · rw [if_neg (by decide), if_pos hg]
            exact if_pos (decide_eq_true hg)
          · rw [if_neg (by decide), if_neg hg]
            exact if_neg (by simpa using hg)
      · have e : G.relax p m.toNat (deep, chg) (G.insAt b i.toNat) = (deep, chg) := if_neg hr
        unfold G.oneDeepL6
        dsimp only
        rw [e, if_pos (by simpa using hr)]
    · rw [Bool.and_eq_true] at hc ⊢
      refine ⟨hc.1, ?_⟩
      have := relax_dOk (p := p) (k := m.toNat) (x := G.insAt b i.toNat) (st := (deep, chg)) (show 0 ≤ 10000000 + i by omega) hc.2
      rw [show 10000000 + (i + 1) = 10000000 + i + 1 by omega]
      exact this
    · show (b.length) - (i + 1).toNat < (b.length) - i.toNat
      omega
    · show ((_, _), _) = ((_, _), _)
      simp only [hs]
  · have hs : G.fdDeepL6 p m b i (deep, chg, ()) = (deep, chg, ()) := fold_end (by omega)
    skip
    rw [if_neg (by simpa using hi)]
    show ((_, _), _) = ((_, _), _)
    simp only [hs]
theorem lpDeepL6 : LpOk Go.Proofs.Try.prog clDeepL6.ntmps 6 (loopIn Go.Proofs.Try.f30 6) lsDeepL6 :=
  lp_okB (cxOk T0_ok T0_eq pr11_ok) mixed (by kernel_rfl) (lps_none (by kernel_rfl)) (eqInv lsDeepL6) muDeepL6 (fun _ h => h) (fun x h => stDeepL6 x.1 x.2.1 x.2.2.1 x.2.2.2.1 x.2.2.2.2.1 x.2.2.2.2.2.1 x.2.2.2.2.2.2.1 h)
/-! DeepL4: a gathering -/
def G.preDeepL4 (p : Funs) (q : Funs) (n : Int) (i : Int) (deep : Ints) (chg : Bool) : Bool := G.preA (q.length) i && (decide (n = ((q.length : Nat) : Int)) && ((decide (q = p) && G.keepOk q) && G.dOk q.length (5000000 + 16 * i) deep))
theorem preDeepL4_iff {p : Funs} {q : Funs} {n : Int} {i : Int} {deep : Ints} {chg : Bool} : G.preDeepL4 p q n i deep chg = true ↔ (0 ≤ i ∧ i ≤ ((q.length : Nat) : Int) ∧ (q.length : Nat) ≤ 1099511627776) ∧ n = ((q.length : Nat) : Int) ∧ ((decide (q = p) && G.keepOk q) && G.dOk q.length (5000000 + 16 * i) deep) = true := by simp [G.preDeepL4, preA_iff]
def G.oneDeepL4 (p : Funs) (q : Funs) (a : Ints × Bool × Unit) (k : Nat) : Ints × Bool × Unit := ((G.rowOne q (a.1, a.2.1) k).1, (G.rowOne q (a.1, a.2.1) k).2, ())
def G.fdDeepL4 (p : Funs) (q : Funs) (i : Int) (a : Ints × Bool × Unit) : Ints × Bool × Unit := G.fold (G.oneDeepL4 p q) (q.length) i a
noncomputable abbrev lsDeepL4 : LSpec := ⟨[0, 3, 6, 36, 37, 38], [3, 6], [FunSP, IntsO, BoolP, FunSP, IntP, IntP], [IntsO, BoolP], false, fun x => G.preDeepL4 x.1 x.2.2.2.1 x.2.2.2.2.1 x.2.2.2.2.2.1 x.2.1 x.2.2.1,
  fun x => ((0, G.fdDeepL4 x.1 x.2.2.2.1 x.2.2.2.2.2.1 (x.2.1, x.2.2.1, ())), ())⟩
noncomputable abbrev clDeepL4 : Cx := mkCx T0 pr11 [(6, lsDeepL6), (4, lsDeepL4)] [] 87
theorem rDeepL4 (p : Funs) (deep : Ints) (chg : Bool) (q : Funs) (n : Int) (i : Int) : roundK clDeepL4 4 (loopIn Go.Proofs.Try.f30 4) lsDeepL4 (p, deep, chg, q, n, i, ()) =
  (if Decidable.decide (i < n) = Bool.true then
    if Decidable.decide ((0 : Int) ≤ i) = Bool.true then
      if Decidable.decide (i < (↑(List.length q) : Int)) = Bool.true then
        if Decidable.decide ((0 : Int) ≤ i) = Bool.true then
          if Decidable.decide (i < (↑(List.length deep) : Int)) = Bool.true then
            if Decidable.decide (Int.toNat i < List.length deep) = Bool.true then
              if Decidable.decide ((List.getD deep (Int.toNat i) ((0 : Int), PUnit.unit)).1 < (0 : Int)) = Bool.true then
                Option.some (Go.Rx.LRes.go (p, deep, chg, q, n, Go.IntKind.wrap Go.IntKind.i64 (i + (1 : Int)), PUnit.unit))
              else
                if
                    Go.Rx.G.preDeepL6 p i (List.getD q (Int.toNat i) (ByteArray.empty, Bool.false, [], PUnit.unit)).2.2.1
                        (↑(List.length (List.getD q (Int.toNat i) (ByteArray.empty, Bool.false, [], PUnit.unit)).2.2.1) : Int) (0 : Int) deep chg =
                      Bool.true then
                  Option.some
                    (Go.Rx.LRes.go
                      (p,
                        (Go.Rx.G.fdDeepL6 p i (List.getD q (Int.toNat i) (ByteArray.empty, Bool.false, [], PUnit.unit)).2.2.1 (0 : Int)
                            (deep, chg, PUnit.unit)).1,
                        (Go.Rx.G.fdDeepL6 p i (List.getD q (Int.toNat i) (ByteArray.empty, Bool.false, [], PUnit.unit)).2.2.1 (0 : Int)
                              (deep, chg, PUnit.unit)).2.1,
                        q, n, Go.IntKind.wrap Go.IntKind.i64 (i + (1 : Int)), PUnit.unit))
                else Option.none
            else Option.none
          else Option.none
        else Option.none
      else Option.none
    else Option.none
  else Option.some (Go.Rx.LRes.stop (0 : Nat) (deep, chg, PUnit.unit) PUnit.unit)) := by kernel_rfl
noncomputable abbrev muDeepL4 : PKs.den lsDeepL4.ins → Nat := fun x => (x.2.2.2.1.length) - x.2.2.2.2.2.1.toNat
theorem stDeepL4 (p : Funs) (deep : Ints) (chg : Bool) (q : Funs) (n : Int) (i : Int) (h : G.preDeepL4 p q n i deep chg = true) : StepOk lsDeepL4 (eqInv lsDeepL4) muDeepL4 (p, deep, chg, q, n, i, ()) (roundK clDeepL4 4 (loopIn Go.Proofs.Try.f30 4) lsDeepL4 (p, deep, chg, q, n, i, ())) := by
  obtain ⟨⟨h0, h1, h2⟩, hn, hc⟩ := preDeepL4_iff.1 h
  subst hn
  rw [rDeepL4]
  by_cases hi : i < ((q.length : Nat) : Int)
  · have hw : IntKind.i64.wrap (i + 1) = i + 1 := w64 (by omega) (by omega)
    have hs : G.fdDeepL4 p q i (deep, chg, ()) = G.fdDeepL4 p q (i + 1) (G.oneDeepL4 p q (deep, chg, ()) i.toNat) := fold_step h0 hi
    refine fold_go (eqInv lsDeepL4) muDeepL4 (p, (G.oneDeepL4 p q (deep, chg, ()) i.toNat).1, (G.oneDeepL4 p q (deep, chg, ()) i.toNat).2.1, q, ((q.length : Nat) : Int), i + 1, ()) ?_ (show G.preDeepL4 p q ((q.length : Nat) : Int) (i + 1) (G.oneDeepL4 p q (deep, chg, ()) i.toNat).1 (G.oneDeepL4 p q (deep, chg, ()) i.toNat).2.1 = true from preDeepL4_iff.2 ⟨⟨by omega, by omega, h2⟩, rfl, ?_⟩) ?_ ?_
    · rw [Bool.and_eq_true, Bool.and_eq_true, decide_eq_true_iff] at hc
      obtain ⟨⟨c1, c2⟩, c3⟩ := hc
      subst c1
      have ht := keepOk_thin c2
      obtain ⟨d1, d2⟩ := dOk_iff.1 c3
      have hq := (thin_iff.1 ht).1
      have hb := body16 ht i.toNat
      have k3 : i < (deep.length : Int) := by omega
      have k4 : i.toNat < deep.length := by omega
      have hpre : G.preDeepL6 q i (G.pAt q i.toNat).2.2.1 ((G.pAt q i.toNat).2.2.1.length : Int) 0 deep chg = true := preDeepL6_iff.2 ⟨⟨by omega, by omega, by omega⟩, rfl, by rw [Bool.and_eq_true, Bool.and_eq_true, decide_eq_true_iff]; exact ⟨⟨⟨h0, hi, hq, hb⟩, bodyIn_of c2 (by omega)⟩, dOk_le c3 (by omega)⟩⟩
      have e : G.fdDeepL6 q i (G.pAt q i.toNat).2.2.1 0 (deep, chg, ()) = ((G.fold (G.bodyOne q i.toNat (G.pAt q i.toNat).2.2.1) (G.pAt q i.toNat).2.2.1.length 0 (deep, chg)).1, (G.fold (G.bodyOne q i.toNat (G.pAt q i.toNat).2.2.1) (G.pAt q i.toNat).2.2.1.length 0 (deep, chg)).2, ()) := fold_pair (G.bodyOne q i.toNat (G.pAt q i.toNat).2.2.1) _ 0 deep chg
      have e2 : G.oneDeepL4 q q (deep, chg, ()) i.toNat = ((G.rowOne q (deep, chg) i.toNat).1, (G.rowOne q (deep, chg) i.toNat).2, ()) := rfl
      rw [e2, if_pos (decide_eq_true hi), if_pos (decide_eq_true h0), if_pos (decide_eq_true hi), if_pos (decide_eq_true h0), if_pos (decide_eq_true k3), if_pos (decide_eq_true k4), dAt_eq, pAt_eq]
      by_cases hn : G.dAt deep i.toNat < 0
      · rw [if_pos (decide_eq_true hn), hw, show G.rowOne q (deep, chg) i.toNat = (deep, chg) from if_pos hn]
      · rw [if_neg (by simpa using hn), if_pos hpre, hw, e, show G.rowOne q (deep, chg) i.toNat = G.fold (G.bodyOne q i.toNat (G.pAt q i.toNat).2.2.1) (G.pAt q i.toNat).2.2.1.length 0 (deep, chg) from if_neg hn]
    · rw [Bool.and_eq_true, Bool.and_eq_true] at hc ⊢
      have ht := keepOk_thin hc.1.2
      refine ⟨hc.1, ?_⟩
      have := rowOne_dOk (p := q) (k := i.toNat) (st := (deep, chg)) (body16 ht) (show 0 ≤ 5000000 + 16 * i by omega) hc.2
      rw [show 5000000 + 16 * (i + 1) = 5000000 + 16 * i + 16 by omega]
      exact this
    · show (q.length) - (i + 1).toNat < (q.length) - i.toNat
      omega
    · show ((_, _), _) = ((_, _), _)
      simp only [hs]
  · have hs : G.fdDeepL4 p q i (deep, chg, ()) = (deep, chg, ()) := fold_end (by omega)
    skip
    rw [if_neg (by simpa using hi)]
    show ((_, _), _) = ((_, _), _)
    simp only [hs]
theorem lpDeepL4 : LpOk Go.Proofs.Try.prog clDeepL4.ntmps 4 (loopIn Go.Proofs.Try.f30 4) lsDeepL4 :=
  lp_okB (cxOk T0_ok T0_eq pr11_ok) mixed (by kernel_rfl) (lps_of (l := [(6, loopIn Go.Proofs.Try.f30 6)]) (by kernel_rfl) ⟨lp_at lpDeepL6 rfl, trivial⟩) (eqInv lsDeepL4) muDeepL4 (fun _ h => h) (fun x h => stDeepL4 x.1 x.2.1 x.2.2.1 x.2.2.2.1 x.2.2.2.2.1 x.2.2.2.2.2.1 h)
/-! DeepL0: a gathering -/
def G.preDeepL0 (n2 : Int) (i : Int) (deep : Ints) : Bool := G.preA (n2.toNat) i && (true && decide ((deep.length : Int) = n2))
theorem preDeepL0_iff {n2 : Int} {i : Int} {deep : Ints} : G.preDeepL0 n2 i deep = true ↔ (0 ≤ i ∧ i ≤ ((n2.toNat : Nat) : Int) ∧ (n2.toNat : Nat) ≤ 1099511627776) ∧ True ∧ decide ((deep.length : Int) = n2) = true := by simp [G.preDeepL0, preA_iff]
def G.oneDeepL0 (n2 : Int) (a : Ints × Unit) (k : Nat) : Ints × Unit := (a.1.set k (-1, ()), ())
def G.fdDeepL0 (n2 : Int) (i : Int) (a : Ints × Unit) : Ints × Unit := G.fold (G.oneDeepL0 n2) (n2.toNat) i a
noncomputable abbrev lsDeepL0 : LSpec := ⟨[3, 20, 21], [3], [IntsO, IntP, IntP], [IntsO], false, fun x => G.preDeepL0 x.2.1 x.2.2.1 x.1,
  fun x => ((0, G.fdDeepL0 x.2.1 x.2.2.1 (x.1, ())), ())⟩
noncomputable abbrev clDeepL0 : Cx := mkCx T0 pr11 [(0, lsDeepL0)] [] 87
theorem rDeepL0 (deep : Ints) (n2 : Int) (i : Int) : roundK clDeepL0 0 (loopIn Go.Proofs.Try.f30 0) lsDeepL0 (deep, n2, i, ()) =
  (if Decidable.decide (i < n2) = Bool.true then
    if Decidable.decide ((0 : Int) ≤ i) = Bool.true then
      if Decidable.decide (i < (↑(List.length deep) : Int)) = Bool.true then
        if Decidable.decide (Int.toNat i < List.length deep) = Bool.true then
          Option.some
            (Go.Rx.LRes.go
              (List.set deep (Int.toNat i) ((-1 : Int), (List.getD deep (Int.toNat i) ((0 : Int), PUnit.unit)).2), n2,
                Go.IntKind.wrap Go.IntKind.i64 (i + (1 : Int)), PUnit.unit))
        else Option.none
      else Option.none
    else Option.none
  else Option.some (Go.Rx.LRes.stop (0 : Nat) (deep, PUnit.unit) PUnit.unit)) := by kernel_rfl
noncomputable abbrev muDeepL0 : PKs.den lsDeepL0.ins → Nat := fun x => (x.2.1.toNat) - x.2.2.1.toNat
theorem stDeepL0 (deep : Ints) (n2 : Int) (i : Int) (h : G.preDeepL0 n2 i deep = true) : StepOk lsDeepL0 (eqInv lsDeepL0) muDeepL0 (deep, n2, i, ()) (roundK clDeepL0 0 (loopIn Go.Proofs.Try.f30 0) lsDeepL0 (deep, n2, i, ())) := by
  obtain ⟨⟨h0, h1, h2⟩, hn, hc⟩ := preDeepL0_iff.1 h
  rw [rDeepL0]
  by_cases hi : i < ((n2.toNat : Nat) : Int)
  · have hw : IntKind.i64.wrap (i + 1) = i + 1 := w64 (by omega) (by omega)
    have hs : G.fdDeepL0 n2 i (deep, ()) = G.fdDeepL0 n2 (i + 1) (G.oneDeepL0 n2 (deep, ()) i.toNat) := fold_step h0 hi
    refine fold_go (eqInv lsDeepL0) muDeepL0 ((G.oneDeepL0 n2 (deep, ()) i.toNat).1, n2, i + 1, ()) ?_ (show G.preDeepL0 n2 (i + 1) (G.oneDeepL0 n2 (deep, ()) i.toNat).1 = true from preDeepL0_iff.2 ⟨⟨by omega, by omega, h2⟩, trivial, ?_⟩) ?_ ?_
    · have hc := of_decide_eq_true hc
      rw [if_pos (decide_eq_true (show i < n2 by omega)), if_pos (decide_eq_true h0), if_pos (decide_eq_true (show i < (deep.length : Int) by omega)), if_pos (decide_eq_true (show i.toNat < deep.length by omega)), hw]
      rfl
    · have hc := of_decide_eq_true hc
      exact decide_eq_true (show (((deep.set i.toNat (-1, ())).length : Nat) : Int) = n2 by simpa using hc)
    · show (n2.toNat) - (i + 1).toNat < (n2.toNat) - i.toNat
      omega
    · show ((_, _), _) = ((_, _), _)
      simp only [hs]
  · have hs : G.fdDeepL0 n2 i (deep, ()) = (deep, ()) := fold_end (by omega)
    skip
    rw [if_neg (by simp; omega)]
    show ((_, _), _) = ((_, _), _)
    simp only [hs]
theorem lpDeepL0 : LpOk Go.Proofs.Try.prog clDeepL0.ntmps 0 (loopIn Go.Proofs.Try.f30 0) lsDeepL0 :=
  lp_okB (cxOk T0_ok T0_eq pr11_ok) mixed (by kernel_rfl) (lps_none (by kernel_rfl)) (eqInv lsDeepL0) muDeepL0 (fun _ h => h) (fun x h => stDeepL0 x.1 x.2.1 x.2.2.1 h)
/-! the greatest -/
def G.maxOne (d : Ints) (m : Int) (k : Nat) : Int := if m < G.dAt d k then G.dAt d k else m
def G.maxL (d : Ints) : Int := G.fold (G.maxOne d) d.length 1 (G.dAt d 0)
/-! MaxL0: a gathering -/
def G.preMaxL0 (d : Ints) (i : Int) (m : Int) : Bool := G.preA (d.length) i && (true && true)
theorem preMaxL0_iff {d : Ints} {i : Int} {m : Int} : G.preMaxL0 d i m = true ↔ (0 ≤ i ∧ i ≤ ((d.length : Nat) : Int) ∧ (d.length : Nat) ≤ 1099511627776) ∧ True ∧ true = true := by simp [G.preMaxL0, preA_iff]
def G.oneMaxL0 (d : Ints) (a : Int × Unit) (k : Nat) : Int × Unit := (G.maxOne d a.1 k, ())
def G.fdMaxL0 (d : Ints) (i : Int) (a : Int × Unit) : Int × Unit := G.fold (G.oneMaxL0 d) (d.length) i a
noncomputable abbrev lsMaxL0 : LSpec := ⟨[0, 3, 4], [3], [IntSP, IntP, IntP], [IntP], false, fun x => G.preMaxL0 x.1 x.2.2.1 x.2.1,
  fun x => ((0, G.fdMaxL0 x.1 x.2.2.1 (x.2.1, ())), ())⟩
noncomputable abbrev clMaxL0 : Cx := mkCx T0 pr11 [(0, lsMaxL0)] [] 25
theorem rMaxL0 (d : Ints) (m : Int) (i : Int) : roundK clMaxL0 0 (loopIn Go.Proofs.Try.f69 0) lsMaxL0 (d, m, i, ()) =
  (if Decidable.decide (i < (↑(List.length d) : Int)) = Bool.true then
    if Decidable.decide ((0 : Int) ≤ i) = Bool.true then
      if Decidable.decide (i < (↑(List.length d) : Int)) = Bool.true then
        Option.some
          (Go.Rx.LRes.go
            (d, if (List.getD d (Int.toNat i) ((0 : Int), PUnit.unit)).1 > m then (List.getD d (Int.toNat i) ((0 : Int), PUnit.unit)).1 else m,
              Go.IntKind.wrap Go.IntKind.i64 (i + (1 : Int)), PUnit.unit))
      else Option.none
    else Option.none
  else Option.some (Go.Rx.LRes.stop (0 : Nat) (m, PUnit.unit) PUnit.unit)) := by kernel_rfl
noncomputable abbrev muMaxL0 : PKs.den lsMaxL0.ins → Nat := fun x => (x.1.length) - x.2.2.1.toNat
theorem stMaxL0 (d : Ints) (m : Int) (i : Int) (h : G.preMaxL0 d i m = true) : StepOk lsMaxL0 (eqInv lsMaxL0) muMaxL0 (d, m, i, ()) (roundK clMaxL0 0 (loopIn Go.Proofs.Try.f69 0) lsMaxL0 (d, m, i, ())) := by
  obtain ⟨⟨h0, h1, h2⟩, hn, hc⟩ := preMaxL0_iff.1 h
  rw [rMaxL0]
  by_cases hi : i < ((d.length : Nat) : Int)
  · have hw : IntKind.i64.wrap (i + 1) = i + 1 := w64 (by omega) (by omega)
    have hs : G.fdMaxL0 d i (m, ()) = G.fdMaxL0 d (i + 1) (G.oneMaxL0 d (m, ()) i.toNat) := fold_step h0 hi
    refine fold_go (eqInv lsMaxL0) muMaxL0 (d, (G.oneMaxL0 d (m, ()) i.toNat).1, i + 1, ()) ?_ (show G.preMaxL0 d (i + 1) (G.oneMaxL0 d (m, ()) i.toNat).1 = true from preMaxL0_iff.2 ⟨⟨by omega, by omega, h2⟩, trivial, ?_⟩) ?_ ?_
    · rw [if_pos (decide_eq_true hi), if_pos (decide_eq_true h0), if_pos (decide_eq_true hi), dAt_eq, hw]
      rfl
    · rfl
    · show (d.length) - (i + 1).toNat < (d.length) - i.toNat
      omega
    · show ((_, _), _) = ((_, _), _)
      simp only [hs]
  · have hs : G.fdMaxL0 d i (m, ()) = (m, ()) := fold_end (by omega)
    skip
    rw [if_neg (by simpa using hi)]
    show ((_, _), _) = ((_, _), _)
    simp only [hs]
theorem lpMaxL0 : LpOk Go.Proofs.Try.prog clMaxL0.ntmps 0 (loopIn Go.Proofs.Try.f69 0) lsMaxL0 :=
  lp_okB (cxOk T0_ok T0_eq pr11_ok) mixed (by kernel_rfl) (lps_none (by kernel_rfl)) (eqInv lsMaxL0) muMaxL0 (fun _ h => h) (fun x h => stMaxL0 x.1 x.2.1 x.2.2.1 h)
/-! SlMax -/
noncomputable abbrev spSlMax : Spec := ⟨[IntSP], IntR, false, fun x => decide (1 ≤ x.1.length ∧ x.1.length ≤ 1099511627776), fun x => (G.maxL x.1, ())⟩
noncomputable abbrev cxSlMax : Cx := mkCx T0 pr11 [(0, lsMaxL0)] [] 25
theorem eSlMax (d : Ints) : funK cxSlMax Go.Proofs.Try.f69 spSlMax.ins spSlMax.out (d, ()) =
  (if Decidable.decide ((↑(List.length d) : Int) < (1 : Int)) = Bool.true then Option.none
  else
    if Decidable.decide ((0 : Int) ≤ (0 : Int)) = Bool.true then
      if Decidable.decide ((0 : Int) < (↑(List.length d) : Int)) = Bool.true then
        if Go.Rx.G.preMaxL0 d (1 : Int) (List.getD d (Int.toNat (0 : Int)) ((0 : Int), PUnit.unit)).1 = Bool.true then
          Option.some (Go.Rx.G.fdMaxL0 d (1 : Int) (List.getD d (Int.toNat (0 : Int)) ((0 : Int), PUnit.unit)))
        else Option.none
      else Option.none
    else Option.none) := by kernel_rfl
theorem sfSlMax (d : Ints) (h : decide (1 ≤ d.length ∧ d.length ≤ 1099511627776) = true) : funK cxSlMax Go.Proofs.Try.f69 spSlMax.ins spSlMax.out (d, ()) = some (G.maxL d, ()) := by
  have h := of_decide_eq_true h
  rw [eSlMax, if_neg (by simp; omega), if_pos (by decide), if_pos (decide_eq_true (by omega)), if_pos (preMaxL0_iff.2 ⟨⟨by omega, by omega, h.2⟩, trivial, rfl⟩)]
  exact congrArg some (fold_unit (G.maxOne d) d.length 1 (G.dAt d 0))
theorem okSlMax : SpecOk Go.Proofs.Try.prog 69 spSlMax :=
  fun_okB (cx := cxSlMax) (F := Go.Proofs.Try.f69) (cxOk T0_ok T0_eq pr11_ok) mixed (by kernel_rfl) (by decide) (by kernel_rfl) (lps_of (l := [(0, loopIn Go.Proofs.Try.f69 0)]) (by kernel_rfl) ⟨lp_at lpMaxL0 rfl, trivial⟩) (fun x h => sfSlMax x.1 h)
noncomputable abbrev pz1 : List (Nat × List Spec) := (69, [spSlMax]) :: pr11
theorem pz1_ok : PhiOk Go.Proofs.Try.prog pz1 := ⟨⟨okSlMax, trivial⟩, pr11_ok⟩
/-! rounds -/
def G.rounds (p : Funs) : Nat → Ints → Option Ints
  | 0, d => if (G.round p d).2 = false then some (G.round p d).1 else none
  | n + 1, d => if (G.round p d).2 = false then some (G.round p d).1 else G.rounds p n (G.round p d).1
def G.rds (p : Funs) (d : Ints) (i : Int) : Option Ints := if i ≤ (p.length : Int) then G.rounds p (p.length - i.toNat) d else none
theorem rds_step {p : Funs} {d : Ints} {i : Int} (h0 : 0 ≤ i) (hi : i ≤ (p.length : Int)) : G.rds p d i = if (G.round p d).2 = false then some (G.round p d).1 else G.rds p (G.round p d).1 (i + 1) := by
  unfold G.rds
  rw [if_pos hi]
  by_cases c : i = (p.length : Int)
  · rw [show p.length - i.toNat = 0 by omega, if_neg (show ¬ i + 1 ≤ (p.length : Int) by omega)]
    rfl
  · rw [show p.length - i.toNat = (p.length - (i + 1).toNat) + 1 by omega, if_pos (show i + 1 ≤ (p.length : Int) by omega)]
    rfl
def G.rdFlag : Option Ints → Nat
  | some _ => 1
  | none => 0
def G.rdVal (r : Int) : Option Ints → Int
  | some d => G.maxL d
  | none => r
def G.rdPre (p : Funs) (d : Ints) (i : Int) : Bool := (G.keepOk p && G.smallP p) && (G.dOk p.length (1000 * i) d && decide (0 ≤ i ∧ i ≤ (p.length : Int) + 1))
theorem rdPre_iff {p : Funs} {d : Ints} {i : Int} : G.rdPre p d i = true ↔ ((G.keepOk p = true ∧ G.smallP p = true) ∧ G.dOk p.length (1000 * i) d = true ∧ 0 ≤ i ∧ i ≤ (p.length : Int) + 1) := by
  unfold G.rdPre
  rw [Bool.and_eq_true, Bool.and_eq_true, Bool.and_eq_true, decide_eq_true_iff]
noncomputable abbrev lsDeepL2 : LSpec := ⟨[0, 3, 5, 2], [2], [FunSP, IntsO, IntP, IntP], [IntP], false, fun x => G.rdPre x.1 x.2.1 x.2.2.1,
  fun x => ((G.rdFlag (G.rds x.1 x.2.1 x.2.2.1), (G.rdVal x.2.2.2.1 (G.rds x.1 x.2.1 x.2.2.1), ())), ())⟩
noncomputable abbrev cxDeepL2 : Cx := mkCx T0 pz1 [(4, lsDeepL4)] [] 87
theorem rDeepL2 (p : Funs) (d : Ints) (i r : Int) : roundK cxDeepL2 2 (loopIn Go.Proofs.Try.f30 2) lsDeepL2 (p, d, i, r, ()) =
  (if Decidable.decide (i ≤ (↑(List.length p) : Int)) = Bool.true then
    if Go.Rx.G.preDeepL4 p p (↑(List.length p) : Int) (0 : Int) d Bool.false = Bool.true then
      if (!(Go.Rx.G.fdDeepL4 p p (0 : Int) (d, Bool.false, PUnit.unit)).2.1) = Bool.true then
        if
            Decidable.decide
                ((1 : Nat) ≤ List.length (Go.Rx.G.fdDeepL4 p p (0 : Int) (d, Bool.false, PUnit.unit)).1 ∧
                  List.length (Go.Rx.G.fdDeepL4 p p (0 : Int) (d, Bool.false, PUnit.unit)).1 ≤ (1099511627776 : Nat)) =
              Bool.true then
          Option.some (Go.Rx.LRes.stop (1 : Nat) (Go.Rx.G.maxL (Go.Rx.G.fdDeepL4 p p (0 : Int) (d, Bool.false, PUnit.unit)).1, PUnit.unit) PUnit.unit)
        else Option.none
      else
        Option.some
          (Go.Rx.LRes.go (p, (Go.Rx.G.fdDeepL4 p p (0 : Int) (d, Bool.false, PUnit.unit)).1, Go.IntKind.wrap Go.IntKind.i64 (i + (1 : Int)), r, PUnit.unit))
    else Option.none
  else Option.some (Go.Rx.LRes.stop (0 : Nat) (r, PUnit.unit) PUnit.unit)) := by kernel_rfl
noncomputable abbrev muDeepL2 : PKs.den lsDeepL2.ins → Nat := fun x => x.1.length + 1 - x.2.2.1.toNat
theorem stDeepL2 (p : Funs) (d : Ints) (i r : Int) (h : G.rdPre p d i = true) : StepOk lsDeepL2 (eqInv lsDeepL2) muDeepL2 (p, d, i, r, ()) (roundK cxDeepL2 2 (loopIn Go.Proofs.Try.f30 2) lsDeepL2 (p, d, i, r, ())) := by
  obtain ⟨⟨h1, h2⟩, h3, h4, h5⟩ := rdPre_iff.1 h
  have hk := (keepOk_iff p).1 h1
  have ht := keepOk_thin h1
  have hd := (dOk_iff.1 h3).1
  have hpre : G.preDeepL4 p p (p.length : Int) 0 d false = true := preDeepL4_iff.2 ⟨⟨by omega, by omega, by omega⟩, rfl, by rw [Bool.and_eq_true, Bool.and_eq_true]; exact ⟨⟨decide_eq_true rfl, h1⟩, dOk_le h3 (by omega)⟩⟩
  have e : G.fdDeepL4 p p 0 (d, false, ()) = ((G.round p d).1, (G.round p d).2, ()) := fold_pair (G.rowOne p) p.length 0 d false
  rw [rDeepL2]
  by_cases hi : i ≤ (p.length : Int)
  · have hw : IntKind.i64.wrap (i + 1) = i + 1 := w64 (by omega) (by omega)
    have hr := round_dOk ht (show 0 ≤ 1000 * i by omega) h3
    have hrl := (dOk_iff.1 hr).1
    have hs := rds_step (d := d) h4 hi
    rw [if_pos (decide_eq_true hi), if_pos hpre, e, hw]
    dsimp only
    cases hc : (G.round p d).2 with
    | false =>
      rw [hc, if_pos rfl] at hs
      rw [if_pos (by rfl), if_pos (decide_eq_true ⟨by omega, by omega⟩)]
      show ((G.rdFlag (G.rds p d i), (G.rdVal r (G.rds p d i), ())), ()) = ((1, (G.maxL (G.round p d).1, ())), ())
      rw [hs]
      rfl
    | true =>
      rw [hc, if_neg (by decide)] at hs
      rw [if_neg (by decide)]
      refine ⟨(show G.rdPre p (G.round p d).1 (i + 1) = true from rdPre_iff.2 ⟨⟨h1, h2⟩, dOk_le hr (by omega), by omega, by omega⟩), ?_, ?_⟩
      · show p.length + 1 - (i + 1).toNat < p.length + 1 - i.toNat
        omega
      · show ((G.rdFlag (G.rds p (G.round p d).1 (i + 1)), (G.rdVal r (G.rds p (G.round p d).1 (i + 1)), ())), ()) = ((G.rdFlag (G.rds p d i), (G.rdVal r (G.rds p d i), ())), ())
        rw [hs]
  · have hs : G.rds p d i = none := if_neg hi
    rw [if_neg (by simpa using hi)]
    show ((G.rdFlag (G.rds p d i), (G.rdVal r (G.rds p d i), ())), ()) = ((0, (r, ())), ())
    rw [hs]
    rfl
theorem lpDeepL2 : LpOk Go.Proofs.Try.prog cxDeepL2.ntmps 2 (loopIn Go.Proofs.Try.f30 2) lsDeepL2 :=
  lp_okB (cx := cxDeepL2) (cxOk T0_ok T0_eq pz1_ok) mixed (by kernel_rfl) (lps_of (l := [(4, loopIn Go.Proofs.Try.f30 4)]) (by kernel_rfl) ⟨lp_at lpDeepL4 rfl, trivial⟩) (eqInv lsDeepL2) muDeepL2 (fun _ h => h) (fun x h => stDeepL2 x.1 x.2.1 x.2.2.1 x.2.2.2.1 h)
def G.deepZ (n : Nat) : Ints := (G.fold (fun (d : Ints) k => d.set k (-1, ())) n 0 (List.replicate n (0, ()))).set 0 (0, ())
theorem deepI_len : ∀ (m : Nat) (d : Ints), (G.fold (fun (d : Ints) k => d.set k (-1, ())) m 0 d).length = d.length ∧ ∀ k, k < m → k < d.length → G.dAt (G.fold (fun (d : Ints) k => d.set k (-1, ())) m 0 d) k = -1
  | 0, d => ⟨rfl, fun k hk => absurd hk (by omega)⟩
  | m + 1, d => by
    obtain ⟨h1, h2⟩ := deepI_len m d
    rw [fold_succ]
    refine ⟨by simpa using h1, fun k hk hl => ?_⟩
    show G.dAt (List.set _ m (-1, ())) k = -1
    rw [dAt_set]
    split
    · rfl
    · rename_i hne
      exact h2 k (by
        by_cases c : k = m
        · exact absurd ⟨c, by omega⟩ hne
        · omega) hl
theorem deepZ_spec {n : Nat} (hn : 0 < n) : (G.deepZ n).length = n ∧ G.dAt (G.deepZ n) 0 = 0 ∧ ∀ k, 0 < k → k < n → G.dAt (G.deepZ n) k = -1 := by
  obtain ⟨h1, h2⟩ := deepI_len n (List.replicate n (0, ()))
  rw [List.length_replicate] at h1 h2
  unfold G.deepZ
  refine ⟨by rw [List.length_set]; exact h1, ?_, fun k hk hl => ?_⟩
  · rw [dAt_set, if_pos ⟨rfl, by omega⟩]
  · rw [dAt_set, if_neg (by omega)]
    exact h2 k hl hl
def G.graphDeep (p : Funs) : Int := if G.keepOk p = true then G.rdVal (-1) (G.rds p (G.deepZ p.length) 0) else -1
/-! GraphDeep -/
noncomputable abbrev spGraphDeep : Spec := ⟨[FunSP], IntR, false, fun x => G.smallP x.1, fun x => (G.graphDeep x.1, ())⟩
noncomputable abbrev cxGraphDeep : Cx := mkCx T0 pz1 [(0, lsDeepL0), (2, lsDeepL2)] [] 87
theorem eGraphDeep (p : Funs) : funK cxGraphDeep Go.Proofs.Try.f30 spGraphDeep.ins spGraphDeep.out (p, ()) =
  (if Go.Rx.G.smallP p = Bool.true then
    if (!Go.Rx.G.keepOk p) = Bool.true then Option.some ((-1 : Int), ())
    else
      if Decidable.decide ((0 : Int) ≤ (↑(List.length p) : Int)) = Bool.true then
        if Decidable.decide ((↑(List.length p) : Int) ≤ (↑(List.length p) : Int)) = Bool.true then
          if Decidable.decide ((↑(List.length p) : Int) * (8 : Int) ≤ (140737488355328 : Int)) = Bool.true then
            if
                Go.Rx.G.preDeepL0 (↑(List.length (List.replicate (Int.toNat (↑(List.length p) : Int)) ((0 : Int), ()))) : Int) (0 : Int)
                    (List.replicate (Int.toNat (↑(List.length p) : Int)) ((0 : Int), ())) =
                  Bool.true then
              if Decidable.decide ((0 : Int) ≤ (0 : Int)) = Bool.true then
                if
                    Decidable.decide
                        ((0 : Int) <
                          (↑(List.length
                                (Go.Rx.G.fdDeepL0 (↑(List.length (List.replicate (Int.toNat (↑(List.length p) : Int)) ((0 : Int), ()))) : Int) (0 : Int)
                                    (List.replicate (Int.toNat (↑(List.length p) : Int)) ((0 : Int), ()), ())).1) :
                            Int)) =
                      Bool.true then
                  if
                      Decidable.decide
                          (Int.toNat (0 : Int) <
                            List.length
                              (Go.Rx.G.fdDeepL0 (↑(List.length (List.replicate (Int.toNat (↑(List.length p) : Int)) ((0 : Int), ()))) : Int) (0 : Int)
                                  (List.replicate (Int.toNat (↑(List.length p) : Int)) ((0 : Int), ()), ())).1) =
                        Bool.true then
                    if
                        Go.Rx.G.rdPre p
                            (List.set
                              (Go.Rx.G.fdDeepL0 (↑(List.length (List.replicate (Int.toNat (↑(List.length p) : Int)) ((0 : Int), ()))) : Int) (0 : Int)
                                  (List.replicate (Int.toNat (↑(List.length p) : Int)) ((0 : Int), ()), ())).1
                              (Int.toNat (0 : Int))
                              ((0 : Int),
                                (List.getD
                                    (Go.Rx.G.fdDeepL0 (↑(List.length (List.replicate (Int.toNat (↑(List.length p) : Int)) ((0 : Int), ()))) : Int) (0 : Int)
                                        (List.replicate (Int.toNat (↑(List.length p) : Int)) ((0 : Int), ()), ())).1
                                    (Int.toNat (0 : Int)) ((0 : Int), ())).2))
                            (0 : Int) =
                          Bool.true then
                      if
                          Go.Rx.G.rdFlag
                              (Go.Rx.G.rds p
                                (List.set
                                  (Go.Rx.G.fdDeepL0 (↑(List.length (List.replicate (Int.toNat (↑(List.length p) : Int)) ((0 : Int), ()))) : Int) (0 : Int)
                                      (List.replicate (Int.toNat (↑(List.length p) : Int)) ((0 : Int), ()), ())).1
                                  (Int.toNat (0 : Int))
                                  ((0 : Int),
                                    (List.getD
                                        (Go.Rx.G.fdDeepL0 (↑(List.length (List.replicate (Int.toNat (↑(List.length p) : Int)) ((0 : Int), ()))) : Int) (0 : Int)
                                            (List.replicate (Int.toNat (↑(List.length p) : Int)) ((0 : Int), ()), ())).1
                                        (Int.toNat (0 : Int)) ((0 : Int), ())).2))
                                (0 : Int)) =
                            (0 : Nat) then
                        Option.some ((-1 : Int), ())
                      else
                        if
                            Go.Rx.G.rdFlag
                                (Go.Rx.G.rds p
                                  (List.set
                                    (Go.Rx.G.fdDeepL0 (↑(List.length (List.replicate (Int.toNat (↑(List.length p) : Int)) ((0 : Int), ()))) : Int) (0 : Int)
                                        (List.replicate (Int.toNat (↑(List.length p) : Int)) ((0 : Int), ()), ())).1
                                    (Int.toNat (0 : Int))
                                    ((0 : Int),
                                      (List.getD
                                          (Go.Rx.G.fdDeepL0 (↑(List.length (List.replicate (Int.toNat (↑(List.length p) : Int)) ((0 : Int), ()))) : Int) (0 : Int)
                                              (List.replicate (Int.toNat (↑(List.length p) : Int)) ((0 : Int), ()), ())).1
                                          (Int.toNat (0 : Int)) ((0 : Int), ())).2))
                                  (0 : Int)) =
                              (1 : Nat) then
                          Option.some
                            (Go.Rx.G.rdVal (0 : Int)
                                (Go.Rx.G.rds p
                                  (List.set
                                    (Go.Rx.G.fdDeepL0 (↑(List.length (List.replicate (Int.toNat (↑(List.length p) : Int)) ((0 : Int), ()))) : Int) (0 : Int)
                                        (List.replicate (Int.toNat (↑(List.length p) : Int)) ((0 : Int), ()), ())).1
                                    (Int.toNat (0 : Int))
                                    ((0 : Int),
                                      (List.getD
                                          (Go.Rx.G.fdDeepL0 (↑(List.length (List.replicate (Int.toNat (↑(List.length p) : Int)) ((0 : Int), ()))) : Int) (0 : Int)
                                              (List.replicate (Int.toNat (↑(List.length p) : Int)) ((0 : Int), ()), ())).1
                                          (Int.toNat (0 : Int)) ((0 : Int), ())).2))
                                  (0 : Int)),
                              ())
                        else Option.none
                    else Option.none
                  else Option.none
                else Option.none
              else Option.none
            else Option.none
          else Option.none
        else Option.none
      else Option.none
  else Option.none) := by kernel_rfl
theorem sfGraphDeep (p : Funs) (h : G.smallP p = true) : funK cxGraphDeep Go.Proofs.Try.f30 spGraphDeep.ins spGraphDeep.out (p, ()) = some (G.graphDeep p, ()) := by
  rw [eGraphDeep, if_pos h]
  unfold G.graphDeep
  cases hk : G.keepOk p with
  | false => rfl
  | true =>
    have ho := (keepOk_iff p).1 hk
    have hpos := keepOk_pos hk
    obtain ⟨z1, z2, z3⟩ := deepZ_spec hpos
    have e : G.fdDeepL0 ((List.replicate (Int.toNat (p.length : Int)) ((0 : Int), ())).length : Int) 0 (List.replicate (Int.toNat (p.length : Int)) ((0 : Int), ()), ()) = (G.fold (fun (d : Ints) k => d.set k (-1, ())) p.length 0 (List.replicate p.length (0, ())), ()) := by
      rw [show Int.toNat (p.length : Int) = p.length by omega, List.length_replicate]
      show G.fold (G.oneDeepL0 (p.length : Int)) (Int.toNat (p.length : Int)) 0 (List.replicate p.length (0, ()), ()) = _
      rw [show Int.toNat (p.length : Int) = p.length by omega]
      exact fold_unit (fun (d : Ints) k => d.set k (-1, ())) p.length 0 _
    have hl := (deepI_len p.length (List.replicate p.length (0, ()))).1
    rw [List.length_replicate] at hl
    have hpre : G.preDeepL0 ((List.replicate (Int.toNat (p.length : Int)) ((0 : Int), ())).length : Int) 0 (List.replicate (Int.toNat (p.length : Int)) ((0 : Int), ())) = true := preDeepL0_iff.2 ⟨⟨by omega, by simp, by simp; omega⟩, trivial, decide_eq_true rfl⟩
    rw [if_neg (by decide), if_pos (decide_eq_true (by omega)), if_pos (decide_eq_true (by omega)), if_pos (decide_eq_true (by omega)), if_pos hpre, e, if_pos (by decide)]
    dsimp only
    rw [if_pos (decide_eq_true (by omega)), if_pos (decide_eq_true (show Int.toNat 0 < _ by rw [hl]; exact hpos))]
    have hz : G.rdPre p (G.deepZ p.length) 0 = true := rdPre_iff.2 ⟨⟨hk, h⟩, dOk_iff.2 ⟨z1, fun k hk => by
      by_cases c : k = 0
      · rw [c, z2]
        omega
      · rw [z3 k (by omega) hk]
        omega⟩, by omega, by omega⟩
    show (if G.rdPre p (G.deepZ p.length) 0 = true then (if G.rdFlag (G.rds p (G.deepZ p.length) 0) = 0 then some ((-1 : Int), ()) else if G.rdFlag (G.rds p (G.deepZ p.length) 0) = 1 then some (G.rdVal 0 (G.rds p (G.deepZ p.length) 0), ()) else none) else none) = _
    rw [if_pos hz]
    cases G.rds p (G.deepZ p.length) 0 <;> rfl
theorem okGraphDeep : SpecOk Go.Proofs.Try.prog 30 spGraphDeep :=
  fun_okB (cx := cxGraphDeep) (F := Go.Proofs.Try.f30) (cxOk T0_ok T0_eq pz1_ok) mixed (by kernel_rfl) (by decide) (by kernel_rfl) (lps_of (l := [(0, loopIn Go.Proofs.Try.f30 0), (2, loopIn Go.Proofs.Try.f30 2)]) (by kernel_rfl) ⟨lp_at lpDeepL0 rfl, lp_at lpDeepL2 rfl, trivial⟩) (fun x h => sfGraphDeep x.1 h)
inductive Wk (p : Funs) : Nat → Int → Prop
  | zero : Wk p 0 0
  | step {k c : Nat} {x : Int} : Wk p k x → k < p.length → c < (G.pAt p k).2.2.1.length → G.refs (G.insAt (G.pAt p k).2.2.1 c).1 = true → Wk p (G.find p (G.insAt (G.pAt p k).2.2.1 c).2.2.1).toNat (x + G.wOf (G.insAt (G.pAt p k).2.2.1 c))
theorem Wk.nonneg {p : Funs} {v : Nat} {x : Int} (h : Wk p v x) : 0 ≤ x := by
  induction h with
  | zero => omega
  | step _ _ _ _ ih =>
    have := wOf_bd
    rename_i k c x _ _ _ _
    have := wOf_bd (G.insAt (G.pAt p k).2.2.1 c)
    omega
theorem edge_to {p : Funs} (hk : G.keepOk p = true) {k c : Nat} (h1 : k < p.length) (h2 : c < (G.pAt p k).2.2.1.length) (h3 : G.refs (G.insAt (G.pAt p k).2.2.1 c).1 = true) : (G.find p (G.insAt (G.pAt p k).2.2.1 c).2.2.1).toNat < p.length := (find_ok ((closed_iff p).1 ((keepOk_iff p).1 hk).2.2 k h1 c h2 h3)).1
theorem Wk.lt {p : Funs} (hk : G.keepOk p = true) {v : Nat} {x : Int} (h : Wk p v x) : v < p.length := by
  induction h with
  | zero => exact keepOk_pos hk
  | step _ h1 h2 h3 _ => exact edge_to hk h1 h2 h3
theorem Wk.add {p : Funs} {v : Nat} {x y : Int} (h0 : Wk p 0 y) (h : Wk p v x) : Wk p v (y + x) := by
  induction h with
  | zero => simpa using h0
  | step _ h1 h2 h3 ih =>
    rw [← Int.add_assoc]
    exact .step ih h1 h2 h3
def LeD (d d' : Ints) : Prop := ∀ j, G.dAt d j ≤ G.dAt d' j
theorem LeD.refl (d : Ints) : LeD d d := fun _ => Int.le_refl _
theorem LeD.trans {a b c : Ints} (h : LeD a b) (k : LeD b c) : LeD a c := fun j => Int.le_trans (h j) (k j)
theorem relax_ge (p : Funs) (k : Nat) (st : Ints × Bool) (x : Ins) : LeD st.1 (G.relax p k st x).1 := fun j => by
  unfold G.relax
  split
  · split
    · rename_i hg
      show G.dAt st.1 j ≤ G.dAt (st.1.set _ _) j
      rw [dAt_set]
      split
      · rename_i hj
        rw [hj.1]
        omega
      · omega
    · exact Int.le_refl _
  · exact Int.le_refl _
theorem relax_same {p : Funs} {k : Nat} {st : Ints × Bool} {x : Ins} (h : (G.relax p k st x).2 = false) : G.relax p k st x = st := by
  unfold G.relax at h ⊢
  split
  · rename_i hr
    rw [if_pos hr] at h
    split
    · rename_i hg
      rw [if_pos hg] at h
      cases h
    · rfl
  · rfl
theorem relax_to {p : Funs} {k : Nat} {st : Ints × Bool} {x : Ins} (hr : G.refs x.1 = true) (hl : (G.find p x.2.2.1).toNat < st.1.length) : G.dAt st.1 k + G.wOf x ≤ G.dAt (G.relax p k st x).1 (G.find p x.2.2.1).toNat := by
  unfold G.relax
  rw [if_pos hr]
  split
  · show _ ≤ G.dAt (st.1.set _ _) _
    rw [dAt_set, if_pos ⟨rfl, hl⟩]
    omega
  · omega
theorem fold_invN {β : Type} {f : β → Nat → β} {P : β → Prop} {n : Nat} (h : ∀ k, k < n → ∀ b, P b → P (f b k)) {a : β} (h0 : P a) : ∀ m, m ≤ n → P (G.fold f m 0 a)
  | 0, _ => h0
  | m + 1, hm => by
    rw [fold_succ]
    exact h m (by omega) _ (fold_invN h h0 m (by omega))
theorem rowOne_inv {p : Funs} {k : Nat} {P : Ints × Bool → Prop} (h : ∀ st c, c < (G.pAt p k).2.2.1.length → P st → 0 ≤ G.dAt st.1 k → P (G.relax p k st (G.insAt (G.pAt p k).2.2.1 c))) {st : Ints × Bool} (h0 : P st) : P (G.rowOne p st k) := by
  unfold G.rowOne
  split
  · exact h0
  · rename_i hn
    exact (fold_invN (P := fun st : Ints × Bool => P st ∧ 0 ≤ G.dAt st.1 k) (f := G.bodyOne p k (G.pAt p k).2.2.1) (n := (G.pAt p k).2.2.1.length) (fun c hc b hb => ⟨h b c hc hb.1 hb.2, Int.le_trans hb.2 (relax_ge p k b _ k)⟩) ⟨h0, by omega⟩ _ (Nat.le_refl _)).1
theorem round_inv {p : Funs} {P : Ints × Bool → Prop} (h : ∀ k st c, k < p.length → c < (G.pAt p k).2.2.1.length → P st → 0 ≤ G.dAt st.1 k → P (G.relax p k st (G.insAt (G.pAt p k).2.2.1 c))) {d : Ints} (h0 : P (d, false)) : P (G.round p d) :=
  fold_invN (P := P) (f := G.rowOne p) (n := p.length) (fun k hk b hb => rowOne_inv (fun st c hc hs hn => h k st c hk hc hs hn) hb) h0 _ (Nat.le_refl _)
theorem rowOne_ge (p : Funs) (st : Ints × Bool) (k : Nat) : LeD st.1 (G.rowOne p st k).1 := rowOne_inv (P := fun s : Ints × Bool => LeD st.1 s.1) (fun s c _ hs _ => hs.trans (relax_ge p k s _)) (LeD.refl _)
theorem fold_ge {f : Ints × Bool → Nat → Ints × Bool} (h : ∀ st k, LeD st.1 (f st k).1) (a : Ints × Bool) (m : Nat) : ∀ n, LeD (G.fold f m 0 a).1 (G.fold f (m + n) 0 a).1
  | 0 => LeD.refl _
  | n + 1 => by
    rw [show m + (n + 1) = (m + n) + 1 by omega, fold_succ]
    exact (fold_ge h a m n).trans (h _ _)
theorem round_ge (p : Funs) (d : Ints) : LeD d (G.round p d).1 := round_inv (P := fun s : Ints × Bool => LeD d s.1) (fun k s c _ _ hs _ => hs.trans (relax_ge p k s _)) (LeD.refl _)
def Sd (p : Funs) (d : Ints) : Prop := d.length = p.length ∧ ∀ v, v < p.length → 0 ≤ G.dAt d v → Wk p v (G.dAt d v)
theorem relax_len (p : Funs) (k : Nat) (st : Ints × Bool) (x : Ins) : (G.relax p k st x).1.length = st.1.length := by
  unfold G.relax
  split
  · split
    · simp
    · rfl
  · rfl
theorem round_sd {p : Funs} {d : Ints} (h : Sd p d) : Sd p (G.round p d).1 := round_inv (P := fun s : Ints × Bool => Sd p s.1) (fun k st c hk hc hs hn => ⟨(relax_len p k st _).trans hs.1, fun v hv h0 => by
  unfold G.relax at h0 ⊢
  split
  · rename_i hr
    rw [if_pos hr] at h0
    split
    · rename_i hg
      rw [if_pos hg] at h0
      revert h0
      show 0 ≤ G.dAt (st.1.set _ _) v → Wk p v (G.dAt (st.1.set _ _) v)
      rw [dAt_set]
      split
      · rename_i hj
        intro h0
        rw [hj.1]
        exact .step (hs.2 k hk hn) hk hc hr
      · exact hs.2 v hv
    · rename_i hg
      rw [if_neg hg] at h0
      exact hs.2 v hv h0
  · rename_i hr
    rw [if_neg hr] at h0
    exact hs.2 v hv h0⟩) h
theorem round_fix {p : Funs} {d : Ints} (h : (G.round p d).2 = false) : (G.round p d).1 = d := round_inv (P := fun s : Ints × Bool => s.2 = false → s.1 = d) (fun k st c hk hc hs hn hf => by
  have e := relax_same hf
  rw [e] at hf ⊢
  exact hs hf) (d := d) (fun _ => rfl) h
theorem fold_len0 {p : Funs} {d : Ints} (m : Nat) (hm : m ≤ p.length) : (G.fold (G.rowOne p) m 0 (d, false)).1.length = d.length := fold_invN (P := fun s : Ints × Bool => s.1.length = d.length) (f := G.rowOne p) (n := p.length) (fun k _ b hb => rowOne_inv (P := fun s : Ints × Bool => s.1.length = d.length) (fun st c _ hs _ => (relax_len p k st _).trans hs) hb) rfl m hm
theorem touch {p : Funs} (hk : G.keepOk p = true) {d : Ints} (hl : d.length = p.length) {k c : Nat} (h1 : k < p.length) (h2 : c < (G.pAt p k).2.2.1.length) (h3 : G.refs (G.insAt (G.pAt p k).2.2.1 c).1 = true) (h0 : 0 ≤ G.dAt d k) :
    G.dAt d k + G.wOf (G.insAt (G.pAt p k).2.2.1 c) ≤ G.dAt (G.round p d).1 (G.find p (G.insAt (G.pAt p k).2.2.1 c).2.2.1).toNat := by
  have ht := edge_to hk h1 h2 h3
  have g1 := fold_ge (rowOne_ge p) (d, false) 0 k
  rw [Nat.zero_add] at g1
  have g1 : LeD d (G.fold (G.rowOne p) k 0 (d, false)).1 := g1
  have g2 := fold_ge (rowOne_ge p) (d, false) (k + 1) (p.length - (k + 1))
  rw [show k + 1 + (p.length - (k + 1)) = p.length by omega, fold_succ] at g2
  have hlen := fold_len0 (p := p) (d := d) k (by omega)
  generalize G.fold (G.rowOne p) k 0 (d, false) = st at g1 g2 hlen
  have hst := g1 k
  have e : G.rowOne p st k = G.fold (G.bodyOne p k (G.pAt p k).2.2.1) (G.pAt p k).2.2.1.length 0 st := if_neg (by omega)
  have bm : ∀ s c, LeD s.1 (G.bodyOne p k (G.pAt p k).2.2.1 s c).1 := fun s c => relax_ge p k s _
  have b1 := fold_ge bm st 0 c
  rw [Nat.zero_add] at b1
  have b1 : LeD st.1 (G.fold (G.bodyOne p k (G.pAt p k).2.2.1) c 0 st).1 := b1
  have b2 := fold_ge bm st (c + 1) ((G.pAt p k).2.2.1.length - (c + 1))
  rw [show c + 1 + ((G.pAt p k).2.2.1.length - (c + 1)) = (G.pAt p k).2.2.1.length by omega, fold_succ, ← e] at b2
  have hl2 : (G.fold (G.bodyOne p k (G.pAt p k).2.2.1) c 0 st).1.length = st.1.length := fold_invN (P := fun s : Ints × Bool => s.1.length = st.1.length) (f := G.bodyOne p k (G.pAt p k).2.2.1) (n := c) (fun j _ b hb => (relax_len p k b _).trans hb) rfl c (Nat.le_refl _)
  have r := relax_to (p := p) (k := k) (st := G.fold (G.bodyOne p k (G.pAt p k).2.2.1) c 0 st) h3 (by rw [hl2, hlen, hl]; exact ht)
  have x1 := b1 k
  have x2 := b2 (G.find p (G.insAt (G.pAt p k).2.2.1 c).2.2.1).toNat
  have x3 := g2 (G.find p (G.insAt (G.pAt p k).2.2.1 c).2.2.1).toNat
  have x2 : G.dAt (G.relax p k (G.fold (G.bodyOne p k (G.pAt p k).2.2.1) c 0 st) (G.insAt (G.pAt p k).2.2.1 c)).1 _ ≤ _ := x2
  have x3 : _ ≤ G.dAt (G.round p d).1 _ := x3
  omega
/-! at rest -/
structure Rest (p : Funs) (d : Ints) : Prop where
  sd : Sd p d
  z : 0 ≤ G.dAt d 0
  fx : ∀ k c, k < p.length → c < (G.pAt p k).2.2.1.length → G.refs (G.insAt (G.pAt p k).2.2.1 c).1 = true → 0 ≤ G.dAt d k → G.dAt d k + G.wOf (G.insAt (G.pAt p k).2.2.1 c) ≤ G.dAt d (G.find p (G.insAt (G.pAt p k).2.2.1 c).2.2.1).toNat
theorem Rest.bd {p : Funs} {d : Ints} (h : Rest p d) {v : Nat} {x : Int} (hw : Wk p v x) : x ≤ G.dAt d v := by
  induction hw with
  | zero => exact h.z
  | step h0 h1 h2 h3 ih =>
    have := h0.nonneg
    have := h.fx _ _ h1 h2 h3 (by omega)
    omega
theorem rounds_rest {p : Funs} (hk : G.keepOk p = true) : ∀ (n : Nat) (d D : Ints), Sd p d → 0 ≤ G.dAt d 0 → G.rounds p n d = some D → Rest p D := by
  have key : ∀ d D : Ints, Sd p d → 0 ≤ G.dAt d 0 → (G.round p d).2 = false → some (G.round p d).1 = some D → Rest p D := fun d D hs hz hf he => by
    have e := round_fix hf
    rw [e] at he
    cases he
    refine ⟨hs, hz, fun k c h1 h2 h3 h0 => ?_⟩
    have := touch hk hs.1 h1 h2 h3 h0
    rw [e] at this
    exact this
  intro n
  induction n with
  | zero =>
    intro d D hs hz h
    have h : (if (G.round p d).2 = false then some (G.round p d).1 else none) = some D := h
    cases hf : (G.round p d).2 with
    | false =>
      rw [hf, if_pos rfl] at h
      exact key d D hs hz hf h
    | true =>
      rw [hf, if_neg (by decide)] at h
      cases h
  | succ n ih =>
    intro d D hs hz h
    have h : (if (G.round p d).2 = false then some (G.round p d).1 else G.rounds p n (G.round p d).1) = some D := h
    cases hf : (G.round p d).2 with
    | false =>
      rw [hf, if_pos rfl] at h
      exact key d D hs hz hf h
    | true =>
      rw [hf, if_neg (by decide)] at h
      exact ih _ D (round_sd hs) (Int.le_trans hz (round_ge p d 0)) h
/-! it comes to rest, if the ways are bounded -/
theorem ex_max {P : Int → Prop} {B : Int} (hb : ∀ x, P x → x ≤ B) : ∀ (n : Nat) (x : Int), (B - x).toNat ≤ n → P x → ∃ m, P m ∧ ∀ y, P y → y ≤ m
  | 0, x, hn, hx => ⟨x, hx, fun y hy => by have := hb y hy; omega⟩
  | n + 1, x, hn, hx => by
    by_cases h : ∃ y, P y ∧ x < y
    · obtain ⟨y, hy, hl⟩ := h
      have := hb y hy
      exact ex_max hb n y (by omega) hy
    · exact ⟨x, hx, fun y hy => by
        by_cases c : y ≤ x
        · exact c
        · exact absurd ⟨y, hy, by omega⟩ h⟩
def Top (p : Funs) (D : Nat → Int) : Prop := ∀ v, (∃ x, Wk p v x) → Wk p v (D v) ∧ ∀ x, Wk p v x → x ≤ D v
theorem top_of {p : Funs} {B : Int} (hb : ∀ v x, Wk p v x → x ≤ B) : ∃ D, Top p D := by
  have : ∀ v, ∃ m : Int, (∃ x, Wk p v x) → Wk p v m ∧ ∀ x, Wk p v x → x ≤ m := fun v => by
    by_cases h : ∃ x, Wk p v x
    · obtain ⟨x, hx⟩ := h
      obtain ⟨m, h1, h2⟩ := ex_max (P := fun x => Wk p v x) (fun x hx => hb v x hx) _ x (Nat.le_refl _) hx
      exact ⟨m, fun _ => ⟨h1, h2⟩⟩
    · exact ⟨0, fun h' => absurd h' h⟩
  exact ⟨fun v => Classical.choose (this v), fun v => Classical.choose_spec (this v)⟩
def Good (p : Funs) (D : Nat → Int) (d : Ints) (v : Nat) : Prop := (∃ x, Wk p v x) → G.dAt d v = D v
open Classical in
noncomputable def badN (p : Funs) (D : Nat → Int) (d : Ints) : Nat := ((List.range p.length).filter fun v => decide (¬ Good p D d v)).length
theorem filt_lt {p1 p2 : Nat → Bool} : ∀ {l : List Nat} {v : Nat}, (∀ v ∈ l, p1 v = true → p2 v = true) → v ∈ l → p2 v = true → p1 v = false → (l.filter p1).length < (l.filter p2).length
  | [], v, _, hv, _, _ => by cases hv
  | a :: l, v, h, hv, h2, h1 => by
    have hle : ∀ {l : List Nat}, (∀ v ∈ l, p1 v = true → p2 v = true) → (l.filter p1).length ≤ (l.filter p2).length := fun {l} h => by
      induction l with
      | nil => simp
      | cons b l ih =>
        have := ih fun v hv => h v (List.mem_cons_of_mem _ hv)
        have hb := h b (List.mem_cons_self ..)
        cases c1 : p1 b with
        | true => simp [c1, hb c1]; exact this
        | false => cases c2 : p2 b <;> simp [c1, c2] <;> omega
    rcases List.mem_cons.1 hv with rfl | hv
    · have := hle (l := l) fun v hv => h v (List.mem_cons_of_mem _ hv)
      simp [h1, h2]
      omega
    · have := filt_lt (l := l) (fun v hv => h v (List.mem_cons_of_mem _ hv)) hv h2 h1
      have ha := h a (List.mem_cons_self ..)
      cases c1 : p1 a with
      | true => simp [c1, ha c1]; exact this
      | false => cases c2 : p2 a <;> simp [c1, c2] <;> omega
theorem good_step {p : Funs} (hk : G.keepOk p = true) {D : Nat → Int} (ht : Top p D) {d : Ints} (hs : Sd p d) {v : Nat} (h : Good p D d v) : Good p D (G.round p d).1 v := fun hx => by
  have e := h hx
  obtain ⟨h1, h2⟩ := ht v hx
  have h3 := round_ge p d v
  have h4 := h1.nonneg
  have h5 := h2 _ ((round_sd hs).2 v (h1.lt hk) (by omega))
  omega
theorem tight {p : Funs} {D : Nat → Int} (ht : Top p D) {d : Ints} (g0 : Good p D d 0) {v : Nat} {x : Int} (h : Wk p v x) : x = D v → ¬ Good p D d v → ∃ k c, k < p.length ∧ c < (G.pAt p k).2.2.1.length ∧ G.refs (G.insAt (G.pAt p k).2.2.1 c).1 = true ∧ (∃ y, Wk p k y) ∧ Good p D d k ∧ ¬ Good p D d (G.find p (G.insAt (G.pAt p k).2.2.1 c).2.2.1).toNat ∧ D (G.find p (G.insAt (G.pAt p k).2.2.1 c).2.2.1).toNat = D k + G.wOf (G.insAt (G.pAt p k).2.2.1 c) := by
  induction h with
  | zero => exact fun _ hg => absurd g0 hg
  | step h0 h1 h2 h3 ih =>
    rename_i k c x
    intro e hg
    obtain ⟨t1, t2⟩ := ht k ⟨x, h0⟩
    have t3 := t2 x h0
    have t4 := (ht _ ⟨_, .step h0 h1 h2 h3⟩).2 _ (.step t1 h1 h2 h3)
    have ex : x = D k := by omega
    by_cases gk : Good p D d k
    · exact ⟨k, c, h1, h2, h3, ⟨x, h0⟩, gk, hg, by omega⟩
    · exact ih ex gk
theorem zero_good {p : Funs} (hk : G.keepOk p = true) {D : Nat → Int} (ht : Top p D) {d : Ints} (hs : Sd p d) (hz : 0 ≤ G.dAt d 0) : Good p D d 0 := fun hx => by
  obtain ⟨h1, h2⟩ := ht 0 hx
  have h3 := h2 _ (h1.add h1)
  have h4 := h2 _ (hs.2 0 (keepOk_pos hk) hz)
  have h5 := h1.nonneg
  omega
theorem round_bad {p : Funs} (hk : G.keepOk p = true) {D : Nat → Int} (ht : Top p D) {d : Ints} (hs : Sd p d) (hz : 0 ≤ G.dAt d 0) : (G.round p d).2 = false ∨ badN p D (G.round p d).1 < badN p D d := by
  classical
  by_cases hb : ∃ v, v < p.length ∧ ¬ Good p D d v
  · right
    obtain ⟨v, hv, hg⟩ := hb
    have hx : ∃ x, Wk p v x := by
      by_cases c : ∃ x, Wk p v x
      · exact c
      · exact absurd (fun h => absurd h c) hg
    obtain ⟨k, c, h1, h2, h3, h4, h5, h6, h7⟩ := tight ht (zero_good hk ht hs hz) (ht v hx).1 rfl hg
    unfold badN
    refine filt_lt (v := (G.find p (G.insAt (G.pAt p k).2.2.1 c).2.2.1).toNat) (fun w hw hn => ?_) (List.mem_range.2 (edge_to hk h1 h2 h3)) (decide_eq_true h6) (decide_eq_false ?_)
    · have hn := of_decide_eq_true hn
      exact decide_eq_true fun hg => hn (good_step hk ht hs hg)
    · rw [Classical.not_not]
      intro hy
      have e := h5 h4
      obtain ⟨t1, t2⟩ := ht k h4
      have t3 := t1.nonneg
      have t4 := touch hk hs.1 h1 h2 h3 (by omega)
      have t5 := (wOf_bd (G.insAt (G.pAt p k).2.2.1 c)).1
      have t6 := (ht _ hy).2 _ ((round_sd hs).2 _ (edge_to hk h1 h2 h3) (by omega))
      omega
  · left
    have hall : ∀ v, v < p.length → Good p D d v := fun v hv => by
      by_cases c : Good p D d v
      · exact c
      · exact absurd ⟨v, hv, c⟩ hb
    have : G.round p d = (d, false) := round_inv (P := fun s : Ints × Bool => s = (d, false)) (fun k st c h1 h2 e h0 => by
      subst e
      by_cases hr : G.refs (G.insAt (G.pAt p k).2.2.1 c).1 = true
      · have hw : Wk p _ _ := .step (hs.2 k h1 h0) h1 h2 hr
        have hle := (ht _ ⟨_, hw⟩).2 _ hw
        have hg := hall _ (edge_to hk h1 h2 hr) ⟨_, hw⟩
        show G.relax p k (d, false) _ = _
        unfold G.relax
        rw [if_pos hr, if_neg (by show ¬ G.dAt d k + _ > G.dAt d _; omega)]
      · show G.relax p k (d, false) _ = _
        unfold G.relax
        rw [if_neg hr]) rfl
    rw [this]
theorem rounds_some {p : Funs} (hk : G.keepOk p = true) {D : Nat → Int} (ht : Top p D) : ∀ (n : Nat) (d : Ints), Sd p d → 0 ≤ G.dAt d 0 → badN p D d ≤ n → ∃ R, G.rounds p n d = some R := by
  intro n
  induction n with
  | zero =>
    intro d hs hz hn
    rcases round_bad hk ht hs hz with h | h
    · exact ⟨_, if_pos h⟩
    · omega
  | succ n ih =>
    intro d hs hz hn
    by_cases hf : (G.round p d).2 = false
    · exact ⟨_, if_pos hf⟩
    · rcases round_bad hk ht hs hz with h | h
      · exact absurd h hf
      · obtain ⟨R, hR⟩ := ih _ (round_sd hs) (Int.le_trans hz (round_ge p d 0)) (by omega)
        exact ⟨R, (if_neg hf).trans hR⟩
theorem badN_le (p : Funs) (D : Nat → Int) (d : Ints) : badN p D d ≤ p.length := by
  unfold badN
  exact Nat.le_trans (List.length_filter_le _ _) (by simp)
/-! the greatest -/
theorem maxL_spec {d : Ints} (h : 0 < d.length) : (∃ k, k < d.length ∧ G.maxL d = G.dAt d k) ∧ ∀ k, k < d.length → G.dAt d k ≤ G.maxL d := by
  have key : ∀ (j i : Nat) (m : Int), d.length - i = j → i ≤ d.length → (∃ k, k < i ∧ m = G.dAt d k) → (∀ k, k < i → G.dAt d k ≤ m) → (∃ k, k < d.length ∧ G.fold (G.maxOne d) d.length (i : Int) m = G.dAt d k) ∧ ∀ k, k < d.length → G.dAt d k ≤ G.fold (G.maxOne d) d.length (i : Int) m := by
    intro j
    induction j with
    | zero =>
      intro i m hj hi h1 h2
      have e : i = d.length := by omega
      rw [show G.fold (G.maxOne d) d.length (i : Int) m = m from fold_end (by omega), ← e]
      exact ⟨h1, h2⟩
    | succ j ih =>
      intro i m hj hi h1 h2
      rw [show G.fold (G.maxOne d) d.length (i : Int) m = G.fold (G.maxOne d) d.length ((i + 1 : Nat) : Int) (G.maxOne d m i) from fold_step (by omega) (by omega)]
      refine ih (i + 1) _ (by omega) (by omega) ?_ fun k hk => ?_
      · unfold G.maxOne
        split
        · exact ⟨i, by omega, rfl⟩
        · obtain ⟨k, hk, e⟩ := h1
          exact ⟨k, by omega, e⟩
      · unfold G.maxOne
        by_cases c : k = i
        · subst c
          split <;> omega
        · have := h2 k (by omega)
          split <;> omega
  exact key _ 1 (G.dAt d 0) rfl (by omega) ⟨0, by omega, rfl⟩ fun k hk => by
    rw [show k = 0 by omega]
    exact Int.le_refl _
def Greatest (p : Funs) (M : Int) : Prop := (∃ v, Wk p v M) ∧ ∀ v x, Wk p v x → x ≤ M
theorem rest_max {p : Funs} (hk : G.keepOk p = true) {d : Ints} (h : Rest p d) : Greatest p (G.maxL d) := by
  have hpos := keepOk_pos hk
  obtain ⟨⟨k, h1, h2⟩, h3⟩ := maxL_spec (d := d) (by rw [h.sd.1]; exact hpos)
  have h4 := h3 0 (by rw [h.sd.1]; exact hpos)
  have h5 := h.z
  refine ⟨⟨k, ?_⟩, fun v x hw => ?_⟩
  · rw [h2]
    exact h.sd.2 k (by rw [← h.sd.1]; exact h1) (by omega)
  · have := h.bd hw
    have := h3 v (by rw [h.sd.1]; exact hw.lt hk)
    omega
theorem deepZ_sd {p : Funs} (hk : G.keepOk p = true) : Sd p (G.deepZ p.length) ∧ 0 ≤ G.dAt (G.deepZ p.length) 0 := by
  obtain ⟨z1, z2, z3⟩ := deepZ_spec (keepOk_pos hk)
  refine ⟨⟨z1, fun v hv h0 => ?_⟩, by omega⟩
  by_cases c : v = 0
  · subst c
    rw [z2]
    exact .zero
  · have := z3 v (by omega) hv
    omega
theorem deep_some {p : Funs} (hk : G.keepOk p = true) {B : Int} (hb : ∀ v x, Wk p v x → x ≤ B) : ∃ M, G.graphDeep p = M ∧ Greatest p M := by
  obtain ⟨D, ht⟩ := top_of hb
  obtain ⟨s1, s2⟩ := deepZ_sd hk
  obtain ⟨R, hR⟩ := rounds_some hk ht p.length _ s1 s2 (badN_le _ _ _)
  have e : G.rds p (G.deepZ p.length) 0 = some R := by
    unfold G.rds
    rw [if_pos (by omega), show p.length - (0 : Int).toNat = p.length from rfl, hR]
  refine ⟨_, rfl, ?_⟩
  unfold G.graphDeep
  rw [if_pos hk, e]
  exact rest_max hk (rounds_rest hk _ _ R s1 s2 hR)
theorem deep_none {p : Funs} (hk : G.keepOk p = true) (hb : ¬ ∃ B : Int, ∀ v x, Wk p v x → x ≤ B) : G.graphDeep p = -1 := by
  obtain ⟨s1, s2⟩ := deepZ_sd hk
  have e : G.rds p (G.deepZ p.length) 0 = none := by
    unfold G.rds
    rw [if_pos (by omega), show p.length - (0 : Int).toNat = p.length from rfl]
    cases hR : G.rounds p p.length (G.deepZ p.length) with
    | none => rfl
    | some R => exact absurd ⟨_, (rest_max hk (rounds_rest hk _ _ R s1 s2 hR)).2⟩ hb
  unfold G.graphDeep
  rw [if_pos hk, e]
  rfl
theorem deep_eq {p q : Funs} (hp : G.keepOk p = true) (hq : G.keepOk q = true) (h : ∀ x, (∃ v, Wk p v x) ↔ ∃ v, Wk q v x) : G.graphDeep q = G.graphDeep p := by
  have tr : ∀ {a b : Funs}, (∀ x, (∃ v, Wk a v x) → ∃ v, Wk b v x) → ∀ {B : Int}, (∀ v x, Wk b v x → x ≤ B) → ∀ v x, Wk a v x → x ≤ B := fun {a b} hab {B} hb v x hw => by
    obtain ⟨u, hu⟩ := hab x ⟨v, hw⟩
    exact hb u x hu
  by_cases hb : ∃ B : Int, ∀ v x, Wk p v x → x ≤ B
  · obtain ⟨B, hb⟩ := hb
    obtain ⟨M, e1, ⟨v1, w1⟩, m1⟩ := deep_some hp hb
    obtain ⟨M', e2, ⟨v2, w2⟩, m2⟩ := deep_some hq (tr (fun x => (h x).2) hb)
    obtain ⟨u1, x1⟩ := (h M).1 ⟨v1, w1⟩
    obtain ⟨u2, x2⟩ := (h M').2 ⟨v2, w2⟩
    have y1 := m2 u1 M x1
    have y2 := m1 u2 M' x2
    omega
  · rw [deep_none hp hb, deep_none hq fun ⟨B, hB⟩ => hb ⟨B, tr (fun x => (h x).1) hB⟩]
/-! the ways in what is kept are the ways -/
def G.koT (p : Funs) (k : Nat) : Nat := (G.find (G.keepOnly p) (G.pAt p k).1).toNat
theorem KO.koT {p : Funs} {N : Strs} (h : KO p N) {j : Nat} (hj : j < N.length) {k : Nat} (e : G.sAt N j = (G.pAt p k).1) : G.koT p k = j := by
  unfold G.koT
  rw [← e, h.find hj]
  rfl
theorem KO.idx {p : Funs} {N : Strs} (h : KO p N) {u : ByteArray} (hu : (u, ()) ∈ N) : ∃ j, j < N.length ∧ G.sAt N j = u := by
  obtain ⟨j, hj, e⟩ := List.getElem_of_mem hu
  rw [← sAt_get hj] at e
  exact ⟨j, hj, congrArg (fun q : ByteArray × Unit => q.1) e⟩
theorem KO.zero {p : Funs} {N : Strs} (h : KO p N) : G.sAt N 0 = (G.pAt p 0).1 := by
  obtain ⟨r, e⟩ := h.head
  rw [e]
  rfl
theorem KO.wk {p : Funs} {N : Strs} (h : KO p N) {v : Nat} {x : Int} (hw : Wk p v x) : ((G.pAt p v).1, ()) ∈ N ∧ Wk (G.keepOnly p) (G.koT p v) x := by
  induction hw with
  | zero =>
    rw [h.koT h.pos h.zero]
    exact ⟨(h.mem _).2 .refl, .zero⟩
  | step h0 h1 h2 h3 ih =>
    rename_i k c x
    obtain ⟨i1, i2⟩ := ih
    obtain ⟨j, hj, e⟩ := h.idx i1
    rw [h.koT hj e] at i2
    have hself := getF_self h.ok h1
    have hat : G.pAt (G.keepOnly p) j = G.pAt p k := by rw [h.at hj, e, hself.2]
    have hm : ((G.insAt (G.pAt p k).2.2.1 c).2.2.1, ()) ∈ G.refsOf (G.getF p (G.pAt p k).1).2.2.1 := by
      rw [hself.2]
      exact (mem_refsOf _ _).2 ⟨c, h2, h3, rfl⟩
    have hn := h.step i1 hm
    obtain ⟨g1, g2, g3⟩ := getF_at (h.has _ hn)
    have nm : (G.pAt p (G.find p (G.insAt (G.pAt p k).2.2.1 c).2.2.1).toNat).1 = (G.insAt (G.pAt p k).2.2.1 c).2.2.1 := by
      rw [← g1]
      exact g3
    refine ⟨by rw [nm]; exact hn, ?_⟩
    have w := Wk.step (p := G.keepOnly p) (k := j) (c := c) i2 (by rw [h.len]; exact hj) (by rw [hat]; exact h2) (by rw [hat]; exact h3)
    rw [hat] at w
    unfold G.koT
    rw [nm]
    exact w
theorem KO.wk' {p : Funs} {N : Strs} (h : KO p N) {j : Nat} {x : Int} (hw : Wk (G.keepOnly p) j x) : j < N.length ∧ Wk p (G.find p (G.sAt N j)).toNat x := by
  induction hw with
  | zero =>
    refine ⟨h.pos, ?_⟩
    have := ((funsOk_iff p).1 ((keepOk_iff p).1 h.ok).2.1 0 (keepOk_pos h.ok)).2
    rw [h.zero, this]
    exact .zero
  | step h0 h1 h2 h3 ih =>
    rename_i k c x
    obtain ⟨i1, i2⟩ := ih
    have hh := h.has _ (h.memAt i1)
    obtain ⟨g1, g2, g3⟩ := getF_at hh
    have g1 : G.getF p (G.sAt N k) = G.pAt p (G.find p (G.sAt N k)).toNat := g1
    rw [h.at i1] at h2 h3 ⊢
    have hm : ((G.insAt (G.getF p (G.sAt N k)).2.2.1 c).2.2.1, ()) ∈ G.refsOf (G.getF p (G.sAt N k)).2.2.1 := (mem_refsOf _ _).2 ⟨c, h2, h3, rfl⟩
    have hn := h.step (h.memAt i1) hm
    obtain ⟨j, hj, e⟩ := h.idx hn
    rw [← e, h.find hj]
    refine ⟨hj, ?_⟩
    rw [g1] at h2 h3 e ⊢
    have w := Wk.step (p := p) (c := c) i2 g2 h2 h3
    rw [show ((j : Int)).toNat = j by omega, e]
    exact w
theorem KO.deep {p : Funs} {N : Strs} (h : KO p N) : G.graphDeep (G.keepOnly p) = G.graphDeep p := deep_eq h.ok h.qok fun x => ⟨fun ⟨v, hv⟩ => ⟨_, (h.wk hv).2⟩, fun ⟨v, hv⟩ => ⟨_, (h.wk' hv).2⟩⟩
/-! what comes back -/
theorem KO.rc {p : Funs} {N : Strs} (h : KO p N) {s t : ByteArray} (hs : (s, ()) ∈ N) : Rc (G.keepOnly p) s t ↔ Rc p s t := by
  constructor
  · intro hr
    have : (t, ()) ∈ N ∧ Rc p s t := by
      induction hr with
      | refl => exact ⟨hs, .refl⟩
      | step h1 h2 ih =>
        rw [(h.get ih.1).2] at h2
        exact ⟨h.step ih.1 h2, .step ih.2 h2⟩
    exact this.2
  · intro hr
    have : (t, ()) ∈ N ∧ Rc (G.keepOnly p) s t := by
      induction hr with
      | refl => exact ⟨hs, .refl⟩
      | step h1 h2 ih => exact ⟨h.step ih.1 h2, .step ih.2 (by rw [(h.get ih.1).2]; exact h2)⟩
    exact this.2
theorem KO.back {p : Funs} {N : Strs} (h : KO p N) {j : Nat} (hj : j < N.length) : G.backF (G.keepOnly p) (G.pAt (G.keepOnly p) j) = G.backF p (G.pAt (G.keepOnly p) j) := by
  rw [Bool.eq_iff_iff, backF_iff, backF_iff]
  refine exists_congr fun k => and_congr_right fun hk => ?_
  have hm : (G.sAt (G.refsOf (G.pAt (G.keepOnly p) j).2.2.1) k, ()) ∈ G.refsOf (G.getF p (G.sAt N j)).2.2.1 := by
    rw [← h.at hj, sAt_get hk]
    exact List.getElem_mem hk
  have hn := h.step (h.memAt hj) hm
  rw [rchL_has h.qok (h.get hn).1, rchL_has h.ok (h.has _ hn), h.rc hn]
/-! counts -/
def G.sumOne (g : Nat → Int) (c : Int) (k : Nat) : Int := c + g k
def G.sumN (g : Nat → Int) (n : Nat) : Int := G.fold (G.sumOne g) n 0 0
theorem sumN_succ (g : Nat → Int) (n : Nat) : G.sumN g (n + 1) = G.sumN g n + g n := fold_succ _ _ _
theorem sumN_congr {g g' : Nat → Int} : ∀ {n : Nat}, (∀ k, k < n → g k = g' k) → G.sumN g n = G.sumN g' n
  | 0, _ => rfl
  | n + 1, h => by rw [sumN_succ, sumN_succ, h n (by omega), sumN_congr (n := n) fun k hk => h k (by omega)]
theorem sumN_add (g g' : Nat → Int) : ∀ n, G.sumN (fun k => g k + g' k) n = G.sumN g n + G.sumN g' n
  | 0 => rfl
  | n + 1 => by
    rw [sumN_succ, sumN_succ, sumN_succ, sumN_add g g' n]
    omega
theorem sumN_zero : ∀ n, G.sumN (fun _ => 0) n = 0
  | 0 => rfl
  | n + 1 => by rw [sumN_succ, sumN_zero n]; rfl
def G.b01 (b : Bool) : Int := if b = true then 1 else 0
def G.eqOne (q : Funs) (s : ByteArray) (n : Int) (k : Nat) : Int := if (G.pAt q k).1 = s then n + 1 else n
def G.eqAll (q : Funs) (s : ByteArray) (n : Int) : Int := G.fold (G.eqOne q s) q.length 0 n
theorem eqAll_sum (q : Funs) (s : ByteArray) (n : Int) : G.eqAll q s n = n + G.sumN (fun k => G.b01 (decide ((G.pAt q k).1 = s))) q.length := by
  unfold G.eqAll
  have : ∀ m, G.fold (G.eqOne q s) m 0 n = n + G.sumN (fun k => G.b01 (decide ((G.pAt q k).1 = s))) m := fun m => by
    induction m with
    | zero => exact (Int.add_zero n).symm
    | succ m ih =>
      rw [fold_succ, ih, sumN_succ]
      unfold G.eqOne G.b01
      by_cases c : (G.pAt q m).1 = s
      · rw [if_pos c, decide_eq_true c, if_pos rfl]
        omega
      · rw [if_neg c, decide_eq_false c, if_neg (by decide)]
        omega
  exact this _
def G.eqEach (q : Funs) (b : Strs) (n : Int) (i : Nat) : Int := G.eqAll q (G.sAt b i) n
def G.eqTot (q : Funs) (b : Strs) : Int := G.fold (G.eqEach q b) b.length 0 0
theorem eqTot_sum {q : Funs} {b : Strs} (hb : b.Nodup) : ∀ m, m ≤ b.length → G.fold (G.eqEach q b) m 0 0 = G.sumN (fun k => G.b01 (G.hasS (b.take m) (G.pAt q k).1)) q.length
  | 0, _ => (sumN_zero q.length).symm
  | m + 1, hm => by
    rw [fold_succ, eqTot_sum hb m (by omega)]
    show G.eqAll q (G.sAt b m) _ = _
    rw [eqAll_sum, ← sumN_add]
    refine sumN_congr fun k _ => ?_
    have e : b.take (m + 1) = b.take m ++ [(G.sAt b m, ())] := by rw [List.take_succ_eq_append_getElem (show m < b.length by omega), sAt_get (show m < b.length by omega)]
    have hnot : (G.sAt b m, ()) ∉ b.take m := fun hmem => by
      have hd : (b.take (m + 1)).Nodup := List.Nodup.sublist (List.take_sublist _ _) hb
      rw [e, List.nodup_append] at hd
      exact hd.2.2 _ hmem _ (List.mem_singleton.2 rfl) rfl
    have h2 : G.hasS (b.take (m + 1)) (G.pAt q k).1 = (G.hasS (b.take m) (G.pAt q k).1 || decide ((G.pAt q k).1 = G.sAt b m)) := by
      rw [Bool.eq_iff_iff, Bool.or_eq_true, hasS_iff, hasS_iff, e, List.mem_append, List.mem_singleton, decide_eq_true_iff]
      exact or_congr_right ⟨fun h => congrArg (fun q : ByteArray × Unit => q.1) h, fun h => by rw [h]⟩
    rw [h2]
    by_cases c : (G.pAt q k).1 = G.sAt b m
    · have h3 : G.hasS (b.take m) (G.pAt q k).1 = false := by
        rw [Bool.eq_false_iff, Ne, hasS_iff, c]
        exact hnot
      rw [h3, decide_eq_true c]
      rfl
    · rw [decide_eq_false c, Bool.or_false]
      cases G.hasS (b.take m) (G.pAt q k).1 <;> rfl
theorem cnt_sum (f : Fun → Bool) {q : Funs} (hk : G.keepOk q = true) : G.cnt f q = G.sumN (fun k => G.b01 (f (G.pAt q k))) q.length := by
  unfold G.cnt G.lenK
  rw [if_pos hk]
  have : ∀ m, G.fold (G.cntOne f q) m 0 0 = G.sumN (fun k => G.b01 (f (G.pAt q k))) m := fun m => by
    induction m with
    | zero => rfl
    | succ m ih =>
      rw [fold_succ, ih, sumN_succ]
      unfold G.cntOne G.b01
      by_cases c : f (G.pAt q m) = true
      · rw [if_pos c, if_pos c]
      · rw [if_neg c, if_neg c]
        omega
  exact this _
theorem KO.hasB {p : Funs} {N : Strs} (h : KO p N) {j : Nat} (hj : j < N.length) : G.hasS (G.named (G.backF p) p) (G.pAt (G.keepOnly p) j).1 = G.backF (G.keepOnly p) (G.pAt (G.keepOnly p) j) := by
  obtain ⟨k, k1, k2, _⟩ := h.mem_p hj
  rw [h.back hj, k2, named_has h.ok k1]
theorem named_strict (f : Fun → Bool) (p : Funs) : Strict (G.named f p) := by
  unfold G.named
  split
  · exact (ordered_strict _).1
  · exact List.Pairwise.nil
theorem KO.count {p : Funs} {N : Strs} (h : KO p N) : G.eqTot (G.keepOnly p) (G.named (G.backF p) p) = ((G.named (G.backF (G.keepOnly p)) (G.keepOnly p)).length : Int) := by
  rw [← named_cnt, cnt_sum _ h.qok]
  unfold G.eqTot
  rw [eqTot_sum (strict_nodup (named_strict _ _)) _ (Nat.le_refl _), List.take_length]
  exact sumN_congr fun k hk => by rw [h.hasB (by rw [← h.len]; exact hk)]
def G.subOk (b c : Strs) : Bool := decide (∀ k, k < c.length → G.hasS b (G.sAt c k) = true)
theorem KO.sub {p : Funs} {N : Strs} (h : KO p N) : G.subOk (G.named (G.backF p) p) (G.named (G.backF (G.keepOnly p)) (G.keepOnly p)) = true := by
  refine decide_eq_true fun k hk => ?_
  have hm : (G.named (G.backF (G.keepOnly p)) (G.keepOnly p))[k] ∈ G.named (G.backF (G.keepOnly p)) (G.keepOnly p) := List.getElem_mem hk
  rw [← sAt_get hk] at hm
  obtain ⟨j, hj, hq, e⟩ := (mem_named h.qok).1 hm
  have e : G.sAt (G.named (G.backF (G.keepOnly p)) (G.keepOnly p)) k = (G.pAt (G.keepOnly p) j).1 := congrArg (fun q : ByteArray × Unit => q.1) e
  rw [e, h.hasB (by rw [← h.len]; exact hj)]
  exact hq
theorem eqOne_bd (q : Funs) (s : ByteArray) (n : Int) (k : Nat) : n ≤ G.eqOne q s n k ∧ G.eqOne q s n k ≤ n + 1 := by
  unfold G.eqOne
  split <;> omega
theorem eqAll_bd (q : Funs) (s : ByteArray) (n : Int) : n ≤ G.eqAll q s n ∧ G.eqAll q s n ≤ n + q.length := by
  have : ∀ m : Nat, n ≤ G.fold (G.eqOne q s) m 0 n ∧ G.fold (G.eqOne q s) m 0 n ≤ n + m := fun m => by
    induction m with
    | zero => exact ⟨Int.le_refl _, by show n ≤ n + ((0 : Nat) : Int); omega⟩
    | succ m ih =>
      rw [fold_succ]
      have := eqOne_bd q s (G.fold (G.eqOne q s) m 0 n) m
      omega
  exact this _
noncomputable abbrev pz2 : List (Nat × List Spec) := (30, [spGraphDeep]) :: pg62
theorem pz2_ok : PhiOk Go.Proofs.Try.prog pz2 := ⟨⟨okGraphDeep, trivial⟩, pg62_ok⟩
/-! GoL2: a gathering -/
def G.preGoL2 (b : Strs) (q : Funs) (m : Int) (i : Int) (cnt : Int) : Bool := G.preA (q.length) i && (true && decide (0 ≤ m ∧ m < (b.length : Int) ∧ 0 ≤ cnt ∧ cnt ≤ 10000000 + i ∧ q.length ≤ 4096))
theorem preGoL2_iff {b : Strs} {q : Funs} {m : Int} {i : Int} {cnt : Int} : G.preGoL2 b q m i cnt = true ↔ (0 ≤ i ∧ i ≤ ((q.length : Nat) : Int) ∧ (q.length : Nat) ≤ 1099511627776) ∧ True ∧ decide (0 ≤ m ∧ m < (b.length : Int) ∧ 0 ≤ cnt ∧ cnt ≤ 10000000 + i ∧ q.length ≤ 4096) = true := by simp [G.preGoL2, preA_iff]
def G.oneGoL2 (b : Strs) (q : Funs) (m : Int) (a : Int × Unit) (k : Nat) : Int × Unit := (G.eqOne q (G.sAt b m.toNat) a.1 k, ())
def G.fdGoL2 (b : Strs) (q : Funs) (m : Int) (i : Int) (a : Int × Unit) : Int × Unit := G.fold (G.oneGoL2 b q m) (q.length) i a
noncomputable abbrev lsGoL2 : LSpec := ⟨[4, 5, 7, 8, 9], [7], [StrSP, FunSP, IntP, IntP, IntP], [IntP], false, fun x => G.preGoL2 x.1 x.2.1 x.2.2.2.1 x.2.2.2.2.1 x.2.2.1,
  fun x => ((0, G.fdGoL2 x.1 x.2.1 x.2.2.2.1 x.2.2.2.2.1 (x.2.2.1, ())), ())⟩
noncomputable abbrev clGoL2 : Cx := mkCx T0 pz2 [(2, lsGoL2)] [] 87
theorem rGoL2 (b : Strs) (q : Funs) (cnt : Int) (m : Int) (i : Int) : roundK clGoL2 2 (loopIn Go.Proofs.Try.f9 2) lsGoL2 (b, q, cnt, m, i, ()) =
  (if Decidable.decide (i < (↑(List.length q) : Int)) = Bool.true then
    if Decidable.decide ((0 : Int) ≤ i) = Bool.true then
      if Decidable.decide (i < (↑(List.length q) : Int)) = Bool.true then
        if Decidable.decide ((0 : Int) ≤ m) = Bool.true then
          if Decidable.decide (m < (↑(List.length b) : Int)) = Bool.true then
            if Go.Rx.strEq (List.getD q (Int.toNat i) (ByteArray.empty, Bool.false, [], PUnit.unit)).1 (List.getD b (Int.toNat m) (ByteArray.empty, PUnit.unit)).1 = Bool.true then
              Option.some (Go.Rx.LRes.go (b, q, Go.IntKind.wrap Go.IntKind.i64 (cnt + (1 : Int)), m, Go.IntKind.wrap Go.IntKind.i64 (i + (1 : Int)), PUnit.unit))
            else Option.some (Go.Rx.LRes.go (b, q, cnt, m, Go.IntKind.wrap Go.IntKind.i64 (i + (1 : Int)), PUnit.unit))
          else Option.none
        else Option.none
      else Option.none
    else Option.none
  else Option.some (Go.Rx.LRes.stop (0 : Nat) (cnt, PUnit.unit) PUnit.unit)) := by kernel_rfl
noncomputable abbrev muGoL2 : PKs.den lsGoL2.ins → Nat := fun x => (x.2.1.length) - x.2.2.2.2.1.toNat
theorem stGoL2 (b : Strs) (q : Funs) (cnt : Int) (m : Int) (i : Int) (h : G.preGoL2 b q m i cnt = true) : StepOk lsGoL2 (eqInv lsGoL2) muGoL2 (b, q, cnt, m, i, ()) (roundK clGoL2 2 (loopIn Go.Proofs.Try.f9 2) lsGoL2 (b, q, cnt, m, i, ())) := by
  obtain ⟨⟨h0, h1, h2⟩, hn, hc⟩ := preGoL2_iff.1 h
  rw [rGoL2]
  by_cases hi : i < ((q.length : Nat) : Int)
  · have hw : IntKind.i64.wrap (i + 1) = i + 1 := w64 (by omega) (by omega)
    have hs : G.fdGoL2 b q m i (cnt, ()) = G.fdGoL2 b q m (i + 1) (G.oneGoL2 b q m (cnt, ()) i.toNat) := fold_step h0 hi
    refine fold_go (eqInv lsGoL2) muGoL2 (b, q, (G.oneGoL2 b q m (cnt, ()) i.toNat).1, m, i + 1, ()) ?_ (show G.preGoL2 b q m (i + 1) (G.oneGoL2 b q m (cnt, ()) i.toNat).1 = true from preGoL2_iff.2 ⟨⟨by omega, by omega, h2⟩, trivial, ?_⟩) ?_ ?_
    · obtain ⟨a1, a2, a3, a4, a5⟩ := of_decide_eq_true hc
      have hw2 : IntKind.i64.wrap (cnt + 1) = cnt + 1 := w64 (by omega) (by omega)
      rw [if_pos (decide_eq_true hi), if_pos (decide_eq_true h0), if_pos (decide_eq_true hi), if_pos (decide_eq_true a1), if_pos (decide_eq_true a2), pAt_eq, sAt_eq, strEq_iff, hw, hw2]
      by_cases hq : (G.pAt q i.toNat).1 = G.sAt b m.toNat
      · rw [if_pos (decide_eq_true hq), show G.oneGoL2 b q m (cnt, ()) i.toNat = (cnt + 1, ()) from congrArg (fun z : Int => (z, ())) (if_pos hq)]
      · rw [if_neg (by simpa using hq), show G.oneGoL2 b q m (cnt, ()) i.toNat = (cnt, ()) from congrArg (fun z : Int => (z, ())) (if_neg hq)]
    · obtain ⟨a1, a2, a3, a4, a5⟩ := of_decide_eq_true hc
      have hx := eqOne_bd q (G.sAt b m.toNat) cnt i.toNat
      exact decide_eq_true (show 0 ≤ m ∧ m < (b.length : Int) ∧ 0 ≤ G.eqOne q (G.sAt b m.toNat) cnt i.toNat ∧ G.eqOne q (G.sAt b m.toNat) cnt i.toNat ≤ 10000000 + (i + 1) ∧ q.length ≤ 4096 by omega)
    · show (q.length) - (i + 1).toNat < (q.length) - i.toNat
      omega
    · show ((_, _), _) = ((_, _), _)
      simp only [hs]
  · have hs : G.fdGoL2 b q m i (cnt, ()) = (cnt, ()) := fold_end (by omega)
    skip
    rw [if_neg (by simpa using hi)]
    show ((_, _), _) = ((_, _), _)
    simp only [hs]
theorem lpGoL2 : LpOk Go.Proofs.Try.prog clGoL2.ntmps 2 (loopIn Go.Proofs.Try.f9 2) lsGoL2 :=
  lp_okB (cxOk T0_ok T0_eq pz2_ok) mixed (by kernel_rfl) (lps_none (by kernel_rfl)) (eqInv lsGoL2) muGoL2 (fun _ h => h) (fun x h => stGoL2 x.1 x.2.1 x.2.2.1 x.2.2.2.1 x.2.2.2.2.1 h)
/-! GoL0: a gathering -/
def G.preGoL0 (b : Strs) (q : Funs) (i : Int) (cnt : Int) : Bool := G.preA (b.length) i && (true && decide (0 ≤ cnt ∧ cnt ≤ 1000 * i ∧ q.length ≤ 1000 ∧ b.length ≤ 1000))
theorem preGoL0_iff {b : Strs} {q : Funs} {i : Int} {cnt : Int} : G.preGoL0 b q i cnt = true ↔ (0 ≤ i ∧ i ≤ ((b.length : Nat) : Int) ∧ (b.length : Nat) ≤ 1099511627776) ∧ True ∧ decide (0 ≤ cnt ∧ cnt ≤ 1000 * i ∧ q.length ≤ 1000 ∧ b.length ≤ 1000) = true := by simp [G.preGoL0, preA_iff]
def G.oneGoL0 (b : Strs) (q : Funs) (a : Int × Unit) (k : Nat) : Int × Unit := (G.eqEach q b a.1 k, ())
def G.fdGoL0 (b : Strs) (q : Funs) (i : Int) (a : Int × Unit) : Int × Unit := G.fold (G.oneGoL0 b q) (b.length) i a
noncomputable abbrev lsGoL0 : LSpec := ⟨[4, 5, 7, 8], [7], [StrSP, FunSP, IntP, IntP], [IntP], false, fun x => G.preGoL0 x.1 x.2.1 x.2.2.2.1 x.2.2.1,
  fun x => ((0, G.fdGoL0 x.1 x.2.1 x.2.2.2.1 (x.2.2.1, ())), ())⟩
noncomputable abbrev clGoL0 : Cx := mkCx T0 pz2 [(2, lsGoL2), (0, lsGoL0)] [] 87
theorem rGoL0 (b : Strs) (q : Funs) (cnt : Int) (i : Int) : roundK clGoL0 0 (loopIn Go.Proofs.Try.f9 0) lsGoL0 (b, q, cnt, i, ()) =
  (if Decidable.decide (i < (↑(List.length b) : Int)) = Bool.true then
    if Go.Rx.G.preGoL2 b q i (0 : Int) cnt = Bool.true then
      Option.some (Go.Rx.LRes.go (b, q, (Go.Rx.G.fdGoL2 b q i (0 : Int) (cnt, PUnit.unit)).1, Go.IntKind.wrap Go.IntKind.i64 (i + (1 : Int)), PUnit.unit))
    else Option.none
  else Option.some (Go.Rx.LRes.stop (0 : Nat) (cnt, PUnit.unit) PUnit.unit)) := by kernel_rfl
noncomputable abbrev muGoL0 : PKs.den lsGoL0.ins → Nat := fun x => (x.1.length) - x.2.2.2.1.toNat
theorem stGoL0 (b : Strs) (q : Funs) (cnt : Int) (i : Int) (h : G.preGoL0 b q i cnt = true) : StepOk lsGoL0 (eqInv lsGoL0) muGoL0 (b, q, cnt, i, ()) (roundK clGoL0 0 (loopIn Go.Proofs.Try.f9 0) lsGoL0 (b, q, cnt, i, ())) := by
  obtain ⟨⟨h0, h1, h2⟩, hn, hc⟩ := preGoL0_iff.1 h
  rw [rGoL0]
  by_cases hi : i < ((b.length : Nat) : Int)
  · have hw : IntKind.i64.wrap (i + 1) = i + 1 := w64 (by omega) (by omega)
    have hs : G.fdGoL0 b q i (cnt, ()) = G.fdGoL0 b q (i + 1) (G.oneGoL0 b q (cnt, ()) i.toNat) := fold_step h0 hi
    refine fold_go (eqInv lsGoL0) muGoL0 (b, q, (G.oneGoL0 b q (cnt, ()) i.toNat).1, i + 1, ()) ?_ (show G.preGoL0 b q (i + 1) (G.oneGoL0 b q (cnt, ()) i.toNat).1 = true from preGoL0_iff.2 ⟨⟨by omega, by omega, h2⟩, trivial, ?_⟩) ?_ ?_
    · obtain ⟨a1, a2, a3, a4⟩ := of_decide_eq_true hc
      have hpre : G.preGoL2 b q i 0 cnt = true := preGoL2_iff.2 ⟨⟨by omega, by omega, by omega⟩, trivial, decide_eq_true ⟨h0, hi, a1, by omega, by omega⟩⟩
      have e : G.fdGoL2 b q i 0 (cnt, ()) = (G.eqAll q (G.sAt b i.toNat) cnt, ()) := fold_unit (G.eqOne q (G.sAt b i.toNat)) q.length 0 cnt
      rw [if_pos (decide_eq_true hi), if_pos hpre, e, hw]
      rfl
    · obtain ⟨a1, a2, a3, a4⟩ := of_decide_eq_true hc
      have hx := eqAll_bd q (G.sAt b i.toNat) cnt
      exact decide_eq_true (show 0 ≤ G.eqAll q (G.sAt b i.toNat) cnt ∧ G.eqAll q (G.sAt b i.toNat) cnt ≤ 1000 * (i + 1) ∧ q.length ≤ 1000 ∧ b.length ≤ 1000 by omega)
    · show (b.length) - (i + 1).toNat < (b.length) - i.toNat
      omega
    · show ((_, _), _) = ((_, _), _)
      simp only [hs]
  · have hs : G.fdGoL0 b q i (cnt, ()) = (cnt, ()) := fold_end (by omega)
    skip
    rw [if_neg (by simpa using hi)]
    show ((_, _), _) = ((_, _), _)
    simp only [hs]
theorem lpGoL0 : LpOk Go.Proofs.Try.prog clGoL0.ntmps 0 (loopIn Go.Proofs.Try.f9 0) lsGoL0 :=
  lp_okB (cxOk T0_ok T0_eq pz2_ok) mixed (by kernel_rfl) (lps_of (l := [(2, loopIn Go.Proofs.Try.f9 2)]) (by kernel_rfl) ⟨lp_at lpGoL2 rfl, trivial⟩) (eqInv lsGoL0) muGoL0 (fun _ h => h) (fun x h => stGoL0 x.1 x.2.1 x.2.2.1 x.2.2.2.1 h)
/-! GoL4: a gathering -/
def G.preGoL4 (b : Strs) (c : Strs) (i : Int)  : Bool := G.preA (c.length) i && (true && (G.few b.length && G.subOk b c))
theorem preGoL4_iff {b : Strs} {c : Strs} {i : Int}  : G.preGoL4 b c i  = true ↔ (0 ≤ i ∧ i ≤ ((c.length : Nat) : Int) ∧ (c.length : Nat) ≤ 1099511627776) ∧ True ∧ (G.few b.length && G.subOk b c) = true := by simp [G.preGoL4, preA_iff]
def G.oneGoL4 (b : Strs) (c : Strs) (a : Unit) (k : Nat) : Unit := ()
def G.fdGoL4 (b : Strs) (c : Strs) (i : Int) (a : Unit) : Unit := G.fold (G.oneGoL4 b c) (c.length) i a
noncomputable abbrev lsGoL4 : LSpec := ⟨[4, 6, 10], [], [StrSP, StrSP, IntP], [], false, fun x => G.preGoL4 x.1 x.2.1 x.2.2.1 ,
  fun x => ((0, G.fdGoL4 x.1 x.2.1 x.2.2.1 (())), ())⟩
noncomputable abbrev clGoL4 : Cx := mkCx T0 pz2 [(4, lsGoL4)] [] 87
theorem rGoL4 (b : Strs) (c : Strs) (i : Int) : roundK clGoL4 4 (loopIn Go.Proofs.Try.f9 4) lsGoL4 (b, c, i, ()) =
  (if Decidable.decide (i < (↑(List.length c) : Int)) = Bool.true then
    if Decidable.decide ((0 : Int) ≤ i) = Bool.true then
      if Decidable.decide (i < (↑(List.length c) : Int)) = Bool.true then
        if Go.Rx.G.few (List.length b) = Bool.true then
          if (!Go.Rx.G.hasS b (List.getD c (Int.toNat i) (ByteArray.empty, PUnit.unit)).1) = Bool.true then Option.some (Go.Rx.LRes.stop (1 : Nat) PUnit.unit PUnit.unit)
          else Option.some (Go.Rx.LRes.go (b, c, Go.IntKind.wrap Go.IntKind.i64 (i + (1 : Int)), PUnit.unit))
        else Option.none
      else Option.none
    else Option.none
  else Option.some (Go.Rx.LRes.stop (0 : Nat) PUnit.unit PUnit.unit)) := by kernel_rfl
noncomputable abbrev muGoL4 : PKs.den lsGoL4.ins → Nat := fun x => (x.2.1.length) - x.2.2.1.toNat
theorem stGoL4 (b : Strs) (c : Strs) (i : Int) (h : G.preGoL4 b c i  = true) : StepOk lsGoL4 (eqInv lsGoL4) muGoL4 (b, c, i, ()) (roundK clGoL4 4 (loopIn Go.Proofs.Try.f9 4) lsGoL4 (b, c, i, ())) := by
  obtain ⟨⟨h0, h1, h2⟩, hn, hc⟩ := preGoL4_iff.1 h
  rw [rGoL4]
  by_cases hi : i < ((c.length : Nat) : Int)
  · have hw : IntKind.i64.wrap (i + 1) = i + 1 := w64 (by omega) (by omega)
    have hs : G.fdGoL4 b c i (()) = G.fdGoL4 b c (i + 1) (G.oneGoL4 b c (()) i.toNat) := fold_step h0 hi
    refine fold_go (eqInv lsGoL4) muGoL4 (b, c, i + 1, ()) ?_ (show G.preGoL4 b c (i + 1)  = true from preGoL4_iff.2 ⟨⟨by omega, by omega, h2⟩, trivial, ?_⟩) ?_ ?_
    · rw [Bool.and_eq_true] at hc
      have h1 := of_decide_eq_true hc.2 i.toNat (by omega)
      rw [if_pos (decide_eq_true hi), if_pos (decide_eq_true h0), if_pos (decide_eq_true hi), if_pos hc.1, sAt_eq, h1, if_neg (by decide), hw]
    · exact hc
    · show (c.length) - (i + 1).toNat < (c.length) - i.toNat
      omega
    · show ((_, _), _) = ((_, _), _)
      simp only [hs]
  · have hs : G.fdGoL4 b c i (()) = (()) := fold_end (by omega)
    skip
    rw [if_neg (by simpa using hi)]
    show ((_, _), _) = ((_, _), _)
    simp only [hs]
theorem lpGoL4 : LpOk Go.Proofs.Try.prog clGoL4.ntmps 4 (loopIn Go.Proofs.Try.f9 4) lsGoL4 :=
  lp_okB (cxOk T0_ok T0_eq pz2_ok) mixed (by kernel_rfl) (lps_none (by kernel_rfl)) (eqInv lsGoL4) muGoL4 (fun _ h => h) (fun x h => stGoL4 x.1 x.2.1 x.2.2.1 h)
/-! LawGraphOnly -/
noncomputable abbrev spLawGraphOnly : Spec := ⟨[BytesP], BoolR, true, fun x => x.1.all G.byteOk, fun x => (true, ())⟩
noncomputable abbrev cxLawGraphOnly : Cx := mkCx T0 pz2 [(0, lsGoL0), (4, lsGoL4)] [] 87
theorem eLawGraphOnly (c : Bytes) : funK cxLawGraphOnly Go.Proofs.Try.f9 spLawGraphOnly.ins spLawGraphOnly.out (c, ()) =
  (if Decidable.decide ((↑(List.length c) : Int) > (1048576 : Int)) = Bool.true then Option.some (Bool.true, PUnit.unit)
  else
    if List.all c Go.Rx.G.byteOk = Bool.true then
      if Go.Rx.G.smallP (Go.Rx.G.dDrawGraphBack (c, PUnit.unit)).1 = Bool.true then
        if Go.Rx.G.funsB (Go.Rx.G.dDrawGraphBack (c, PUnit.unit)).1 = Bool.true then
          if
              (!Decidable.decide
                    ((↑(List.length (Go.Rx.G.named (Go.Rx.G.backF (Go.Rx.G.dDrawGraphBack (c, PUnit.unit)).1) (Go.Rx.G.dDrawGraphBack (c, PUnit.unit)).1)) : Int) =
                      (↑(List.length (Go.Rx.G.named (Go.Rx.G.backF (Go.Rx.G.dDrawGraphBack (c, PUnit.unit)).1) (Go.Rx.G.dDrawGraphBack (c, PUnit.unit)).1)) : Int))) =
                Bool.false then
            if Go.Rx.G.smallP (Go.Rx.G.dDrawGraphBack (c, PUnit.unit)).1 = Bool.true then
              if (!Go.Rx.G.keepOk (Go.Rx.G.dDrawGraphBack (c, PUnit.unit)).1) = Bool.true then
                if Go.Rx.G.funsB (Go.Rx.G.dDrawGraphBack (c, PUnit.unit)).1 = Bool.true then
                  Option.some
                    (Decidable.decide
                        ((↑(List.length (Go.Rx.G.named (Go.Rx.G.backF (Go.Rx.G.dDrawGraphBack (c, PUnit.unit)).1) (Go.Rx.G.dDrawGraphBack (c, PUnit.unit)).1)) : Int) =
                          (↑(List.length (Go.Rx.G.named (Go.Rx.G.backF (Go.Rx.G.dDrawGraphBack (c, PUnit.unit)).1) (Go.Rx.G.dDrawGraphBack (c, PUnit.unit)).1)) : Int)),
                      PUnit.unit)
                else Option.none
              else
                if Go.Rx.G.smallP (Go.Rx.G.dDrawGraphBack (c, PUnit.unit)).1 = Bool.true then
                  if Go.Rx.G.smallP (Go.Rx.G.keepOnly (Go.Rx.G.dDrawGraphBack (c, PUnit.unit)).1) = Bool.true then
                    if
                        Go.Rx.G.preGoL0 (Go.Rx.G.named (Go.Rx.G.backF (Go.Rx.G.dDrawGraphBack (c, PUnit.unit)).1) (Go.Rx.G.dDrawGraphBack (c, PUnit.unit)).1)
                            (Go.Rx.G.keepOnly (Go.Rx.G.dDrawGraphBack (c, PUnit.unit)).1) (0 : Int) (0 : Int) =
                          Bool.true then
                      if
                          Go.Rx.G.preGoL4 (Go.Rx.G.named (Go.Rx.G.backF (Go.Rx.G.dDrawGraphBack (c, PUnit.unit)).1) (Go.Rx.G.dDrawGraphBack (c, PUnit.unit)).1)
                              (Go.Rx.G.named (Go.Rx.G.backF (Go.Rx.G.keepOnly (Go.Rx.G.dDrawGraphBack (c, PUnit.unit)).1)) (Go.Rx.G.keepOnly (Go.Rx.G.dDrawGraphBack (c, PUnit.unit)).1)) (0 : Int) =
                            Bool.true then
                        if
                            Decidable.decide
                                ((Go.Rx.G.fdGoL0 (Go.Rx.G.named (Go.Rx.G.backF (Go.Rx.G.dDrawGraphBack (c, PUnit.unit)).1) (Go.Rx.G.dDrawGraphBack (c, PUnit.unit)).1)
                                      (Go.Rx.G.keepOnly (Go.Rx.G.dDrawGraphBack (c, PUnit.unit)).1) (0 : Int) ((0 : Int), PUnit.unit)).1 =
                                  (↑(List.length
                                        (Go.Rx.G.named (Go.Rx.G.backF (Go.Rx.G.keepOnly (Go.Rx.G.dDrawGraphBack (c, PUnit.unit)).1)) (Go.Rx.G.keepOnly (Go.Rx.G.dDrawGraphBack (c, PUnit.unit)).1))) :
                                    Int)) =
                              Bool.true then
                          if Go.Rx.G.smallP (Go.Rx.G.keepOnly (Go.Rx.G.dDrawGraphBack (c, PUnit.unit)).1) = Bool.true then
                            if Go.Rx.G.smallP (Go.Rx.G.dDrawGraphBack (c, PUnit.unit)).1 = Bool.true then
                              Option.some
                                (Decidable.decide (Go.Rx.G.graphDeep (Go.Rx.G.keepOnly (Go.Rx.G.dDrawGraphBack (c, PUnit.unit)).1) = Go.Rx.G.graphDeep (Go.Rx.G.dDrawGraphBack (c, PUnit.unit)).1),
                                  PUnit.unit)
                            else Option.none
                          else Option.none
                        else Option.some (Bool.false, PUnit.unit)
                      else Option.none
                    else Option.none
                  else Option.none
                else Option.none
            else Option.none
          else
            if Go.Rx.G.funsB (Go.Rx.G.dDrawGraphBack (c, PUnit.unit)).1 = Bool.true then
              Option.some
                (Decidable.decide
                    ((↑(List.length (Go.Rx.G.named (Go.Rx.G.backF (Go.Rx.G.dDrawGraphBack (c, PUnit.unit)).1) (Go.Rx.G.dDrawGraphBack (c, PUnit.unit)).1)) : Int) =
                      (↑(List.length (Go.Rx.G.named (Go.Rx.G.backF (Go.Rx.G.dDrawGraphBack (c, PUnit.unit)).1) (Go.Rx.G.dDrawGraphBack (c, PUnit.unit)).1)) : Int)),
                  PUnit.unit)
            else Option.none
        else Option.none
      else Option.none
    else Option.none) := by kernel_rfl
theorem sfLawGraphOnly (c : Bytes) (h : c.all G.byteOk = true) : funK cxLawGraphOnly Go.Proofs.Try.f9 spLawGraphOnly.ins spLawGraphOnly.out (c, ()) = some (true, ()) := by
  obtain ⟨_, p1⟩ := postDrawGraphBack (c, ()) h
  rw [eLawGraphOnly]
  by_cases hl : ((c.length : Nat) : Int) > 1048576
  · rw [if_pos (decide_eq_true hl)]
  · rw [if_neg (by simpa using hl), if_pos h]
    generalize G.dDrawGraphBack (c, ()) = d at p1 ⊢
    have hf : G.funsB d.1 = true := p1
    obtain ⟨p, (u : Unit)⟩ := d
    cases u
    have hf : G.funsB p = true := hf
    have hs := funsB_small hf
    have hq := keepOnly_small hs
    dsimp only
    rw [if_pos hs, if_pos hf, if_pos (by simp), if_pos hs]
    cases hk : G.keepOk p with
    | false =>
      rw [if_pos (by rfl), if_pos hf]
      simp
    | true =>
      obtain ⟨N, ko⟩ := ko_of hk
      have hlen := ((funsB_iff p).1 hf).1
      have hl1 := named_len (G.backF p) p
      have hl2 := named_len (G.backF (G.keepOnly p)) (G.keepOnly p)
      have hl3 := keepOnly_len p
      have hb := ko.sub
      have hn := ko.count
      have e : G.fdGoL0 (G.named (G.backF p) p) (G.keepOnly p) 0 (0, ()) = (G.eqTot (G.keepOnly p) (G.named (G.backF p) p), ()) := fold_unit (G.eqEach (G.keepOnly p) (G.named (G.backF p) p)) (G.named (G.backF p) p).length 0 0
      have hp0 : G.preGoL0 (G.named (G.backF p) p) (G.keepOnly p) 0 0 = true := preGoL0_iff.2 ⟨⟨by omega, by omega, by omega⟩, trivial, decide_eq_true ⟨by omega, by omega, by omega, by omega⟩⟩
      have hp4 : G.preGoL4 (G.named (G.backF p) p) (G.named (G.backF (G.keepOnly p)) (G.keepOnly p)) 0 = true := preGoL4_iff.2 ⟨⟨by omega, by omega, by omega⟩, trivial, by rw [Bool.and_eq_true]; exact ⟨few_iff.2 (by omega), hb⟩⟩
      rw [if_neg (by decide), if_pos hs, if_pos hq, if_pos hp0, e, hn]
      dsimp only
      rw [if_pos hp4, if_pos (decide_eq_true rfl), if_pos hq, if_pos hs, ko.deep]
      simp
theorem okLawGraphOnly : SpecOk Go.Proofs.Try.prog 9 spLawGraphOnly :=
  fun_okB (cx := cxLawGraphOnly) (F := Go.Proofs.Try.f9) (cxOk T0_ok T0_eq pz2_ok) mixed (by kernel_rfl) (by decide) (by kernel_rfl) (lps_of (l := [(0, loopIn Go.Proofs.Try.f9 0), (4, loopIn Go.Proofs.Try.f9 4)]) (by kernel_rfl) ⟨lp_at lpGoL0 rfl, lp_at lpGoL4 rfl, trivial⟩) (fun x h => sfLawGraphOnly x.1 h)
end Go.Rx

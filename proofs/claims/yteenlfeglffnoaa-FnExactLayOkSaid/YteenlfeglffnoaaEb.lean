/-
  LAYINGS: where one goes to from a place.
-/
import Derived.Test.YteenlfeglffnoaaEa
namespace Go.Rx
open Go
set_option linter.unusedVariables false
set_option linter.unusedSimpArgs false
theorem sfLaySize (p : Funs) (l : Lay) (h : (G.smallP p && G.smallL l) = true) : funK cxLaySize Go.Proofs.Try.f24 spLaySize.ins spLaySize.out (p, l, ()) = some (G.laySize p l, ()) := by
  have h0 := h
  rw [Bool.and_eq_true] at h0
  rw [eLaySize, if_pos h]
  unfold G.laySize
  cases hl : G.laid p l with
  | false => rfl
  | true =>
    rw [if_neg (by decide), if_pos (layOkP_iff.2 ⟨h0.1, h0.2, hl⟩)]
    rfl
theorem okLaySize : SpecOk Go.Proofs.Try.prog 24 spLaySize :=
  fun_okB (cx := cxLaySize) (F := Go.Proofs.Try.f24) (cxOk T0_ok T0_eq pg30_ok) mixed (by kernel_rfl) (by decide) (by kernel_rfl) (lps_none (by kernel_rfl)) (fun x h => sfLaySize x.1 x.2.1 h)
def G.stonePos (p : Funs) (l : Lay) (k : Nat) (n : Int) : Int := G.atOf l k + ((G.pAt p k).2.2.1.length : Int) + n
def G.stonePre (p : Funs) (l : Lay) (f n : Int) : Bool := G.layOkP p l && decide (0 ≤ f ∧ f < (p.length : Int) ∧ 0 ≤ n ∧ n ≤ 1048576)
theorem stonePre_iff {p : Funs} {l : Lay} {f n : Int} : G.stonePre p l f n = true ↔ (G.layOkP p l = true ∧ 0 ≤ f ∧ f < (p.length : Int) ∧ 0 ≤ n ∧ n ≤ 1048576) := by
  unfold G.stonePre
  rw [Bool.and_eq_true, decide_eq_true_iff]
/-! L7Stone -/
noncomputable abbrev spL7Stone : Spec := ⟨[FunSP, LayP, IntP, IntP], IntR, false, fun x => G.stonePre x.1 x.2.1 x.2.2.1 x.2.2.2.1, fun x => (G.stonePos x.1 x.2.1 x.2.2.1.toNat x.2.2.2.1, ())⟩
noncomputable abbrev cxL7Stone : Cx := mkCx T0 pg30 [] [] 23
theorem eL7Stone (p : Funs) (l : Lay) (f n : Int) : funK cxL7Stone Go.Proofs.Try.f98 spL7Stone.ins spL7Stone.out (p, l, f, n, ()) =
  (if Decidable.decide ((0 : Int) ≤ f) = Bool.true then
    if Decidable.decide (f < (↑(List.length l.1) : Int)) = Bool.true then
      if Decidable.decide ((0 : Int) ≤ f) = Bool.true then
        if Decidable.decide (f < (↑(List.length p) : Int)) = Bool.true then
          Option.some
            (Go.IntKind.wrap Go.IntKind.i64
                (Go.IntKind.wrap Go.IntKind.i64
                    ((List.getD l.1 (Int.toNat f) ((0 : Int), PUnit.unit)).1 +
                      (↑(List.length (List.getD p (Int.toNat f) (ByteArray.empty, Bool.false, [], PUnit.unit)).2.2.1) : Int)) +
                  n),
              PUnit.unit)
        else Option.none
      else Option.none
    else Option.none
  else Option.none) := by kernel_rfl
theorem stone_bd {p : Funs} {l : Lay} {f n : Int} (h : G.stonePre p l f n = true) : f < (l.1.length : Int) ∧ f < (l.2.1.length : Int) ∧ 0 ≤ G.stonePos p l f.toNat n ∧ G.stonePos p l f.toNat n ≤ 50000000 ∧
    IntKind.i64.wrap (IntKind.i64.wrap (G.atOf l f.toNat + ((G.pAt p f.toNat).2.2.1.length : Int)) + n) = G.stonePos p l f.toNat n := by
  obtain ⟨h1, h2, h3, h4, h5⟩ := stonePre_iff.1 h
  obtain ⟨g1, g2, g3⟩ := layOkP_iff.1 h1
  obtain ⟨⟨b1, b2, b3, b4⟩, b5⟩ := laid_bd g2 g3
  obtain ⟨c1, c2, c3, c4, c5⟩ := b5 f.toNat (by omega)
  unfold G.stonePos
  have e : IntKind.i64.wrap (G.posn p l f.toNat + ((G.pAt p f.toNat).2.2.1.length : Int)) = G.posn p l f.toNat + ((G.pAt p f.toNat).2.2.1.length : Int) := w64 (by omega) (by omega)
  rw [c1, e, w64 (by omega) (by omega)]
  exact ⟨by omega, by omega, by omega, by omega, rfl⟩
theorem sfL7Stone (p : Funs) (l : Lay) (f n : Int) (h : G.stonePre p l f n = true) : funK cxL7Stone Go.Proofs.Try.f98 spL7Stone.ins spL7Stone.out (p, l, f, n, ()) = some (G.stonePos p l f.toNat n, ()) := by
  obtain ⟨b1, b2, b3, b4, b5⟩ := stone_bd h
  obtain ⟨h1, h2, h3, h4, h5⟩ := stonePre_iff.1 h
  rw [eL7Stone]
  simp only [atOf_eq, pAt_eq, h2, h3, b1, decide_true, if_true, b5]
theorem okL7Stone : SpecOk Go.Proofs.Try.prog 98 spL7Stone :=
  fun_okB (cx := cxL7Stone) (F := Go.Proofs.Try.f98) (cxOk T0_ok T0_eq pg30_ok) mixed (by kernel_rfl) (by decide) (by kernel_rfl) (lps_none (by kernel_rfl)) (fun x h => sfL7Stone x.1 x.2.1 x.2.2.1 x.2.2.2.1 h)
noncomputable abbrev pg31 : List (Nat × List Spec) := (98, [spL7Stone]) :: (24, [spLaySize]) :: pg30
theorem pg31_ok : PhiOk Go.Proofs.Try.prog pg31 := ⟨⟨okL7Stone, trivial⟩, ⟨okLaySize, trivial⟩, pg30_ok⟩
/-! the nearest -/
def G.toCand (reach frm best c : Int) : Int := if G.far c frm ≤ reach then (if best < 0 then c else if G.far c frm < G.far best frm then c else best) else best
def G.toOne (p : Funs) (l : Lay) (reach frm : Int) (name : ByteArray) (a : Nat) (best : Int) (j : Nat) : Int := if G.sAt (G.stones l a) j = name then G.toCand reach frm best (G.stonePos p l a (j : Int)) else best
def G.toRow (p : Funs) (l : Lay) (reach frm : Int) (name : ByteArray) (best : Int) (a : Nat) : Int := G.fold (G.toOne p l reach frm name a) (G.stones l a).length 0 best
def G.toImp (p : Funs) (l : Lay) (reach frm : Int) (name : ByteArray) (best : Int) (a : Nat) : Int :=
  if G.idx (G.strAt (G.stones l a) name) (G.stones l a).length < 0 then best else G.toCand reach frm best (G.stonePos p l a (G.idx (G.strAt (G.stones l a) name) (G.stones l a).length))
def G.toPre (p : Funs) (l : Lay) (frm best : Int) : Bool := G.layOkP p l && (G.mid frm && decide (-1 ≤ best ∧ best ≤ 50000000))
theorem toPre_iff {p : Funs} {l : Lay} {frm best : Int} : G.toPre p l frm best = true ↔ (G.layOkP p l = true ∧ G.mid frm = true ∧ -1 ≤ best ∧ best ≤ 50000000) := by
  unfold G.toPre
  rw [Bool.and_eq_true, Bool.and_eq_true, decide_eq_true_iff]
def G.toPreI (p : Funs) (l : Lay) (frm a best : Int) : Bool := G.toPre p l frm best && decide (0 ≤ a ∧ a < (p.length : Int))
theorem toPreI_iff {p : Funs} {l : Lay} {frm a best : Int} : G.toPreI p l frm a best = true ↔ ((G.layOkP p l = true ∧ G.mid frm = true ∧ -1 ≤ best ∧ best ≤ 50000000) ∧ 0 ≤ a ∧ a < (p.length : Int)) := by
  unfold G.toPreI
  rw [Bool.and_eq_true, toPre_iff, decide_eq_true_iff]
theorem toCand_bd {reach frm best c : Int} (h : -1 ≤ best ∧ best ≤ 50000000) (h2 : 0 ≤ c ∧ c ≤ 50000000) : -1 ≤ G.toCand reach frm best c ∧ G.toCand reach frm best c ≤ 50000000 := by
  unfold G.toCand
  repeat' split
  all_goals omega
theorem layOkP_len {p : Funs} {l : Lay} (h : G.layOkP p l = true) : l.1.length = p.length ∧ l.2.1.length = p.length := by
  have := laid_iff.1 (layOkP_iff.1 h).2.2
  exact ⟨this.2.1, this.2.2.1⟩
theorem okP_bd {p : Funs} {l : Lay} (h : G.layOkP p l = true) {k : Nat} (hk : k < p.length) : l.1.length = p.length ∧ l.2.1.length = p.length ∧ (G.stones l k).length ≤ 1048576 ∧ G.stonesOk p (G.stones l k) = true ∧ p.length ≤ 40 ∧ 0 ≤ G.atOf l k ∧ G.atOf l k ≤ 42000000 ∧ (G.pAt p k).2.2.1.length ≤ 16 := by
  obtain ⟨h1, h2, h3⟩ := layOkP_iff.1 h
  obtain ⟨⟨b1, b2, b3, b4⟩, b5⟩ := laid_bd h2 h3
  obtain ⟨c1, c2, c3, c4, c5⟩ := b5 k hk
  exact ⟨b3, b4, c5, ((laid_iff.1 h3).2.2.2 k hk).2, b2, by omega, by omega, c4⟩
theorem stone_pre {p : Funs} {l : Lay} (h : G.layOkP p l = true) {k : Nat} (hk : k < p.length) {j : Int} (h0 : 0 ≤ j) (hj : j < ((G.stones l k).length : Int)) : G.stonePre p l (k : Int) j = true := by
  have := (okP_bd h hk).2.2.1
  exact stonePre_iff.2 ⟨h, by omega, by omega, h0, by omega⟩
theorem stonePos_bd {p : Funs} {l : Lay} (h : G.layOkP p l = true) {k : Nat} (hk : k < p.length) {j : Int} (h0 : 0 ≤ j) (hj : j < ((G.stones l k).length : Int)) : 0 ≤ G.stonePos p l k j ∧ G.stonePos p l k j ≤ 50000000 := by
  have := stone_bd (stone_pre h hk h0 hj)
  exact ⟨this.2.2.1, this.2.2.2.1⟩
theorem idx_stone {s : Strs} {name : ByteArray} (h : ¬ G.idx (G.strAt s name) s.length < 0) : (G.idx (G.strAt s name) s.length).toNat < s.length ∧ G.sAt s (G.idx (G.strAt s name) s.length).toNat = name ∧ 0 ≤ G.idx (G.strAt s name) s.length ∧ G.idx (G.strAt s name) s.length < (s.length : Int) := by
  obtain ⟨h1, h2, h3⟩ := idx_eq h
  refine ⟨h1, ?_, by omega, by omega⟩
  unfold G.strAt at h2
  exact of_decide_eq_true h2
theorem toOne_bd {p : Funs} {l : Lay} (h : G.layOkP p l = true) {k : Nat} (hk : k < p.length) {reach frm best : Int} {name : ByteArray} (hb : -1 ≤ best ∧ best ≤ 50000000) {j : Nat} (hj : j < (G.stones l k).length) : -1 ≤ G.toOne p l reach frm name k best j ∧ G.toOne p l reach frm name k best j ≤ 50000000 := by
  unfold G.toOne
  split
  · exact toCand_bd hb (stonePos_bd h hk (by omega) (by omega))
  · exact hb
theorem toImp_bd {p : Funs} {l : Lay} (h : G.layOkP p l = true) {k : Nat} (hk : k < p.length) {reach frm best : Int} {name : ByteArray} (hb : -1 ≤ best ∧ best ≤ 50000000) : -1 ≤ G.toImp p l reach frm name best k ∧ G.toImp p l reach frm name best k ≤ 50000000 := by
  unfold G.toImp
  split
  · exact hb
  · rename_i hc
    obtain ⟨h1, h2, h3, h4⟩ := idx_stone hc
    exact toCand_bd hb (stonePos_bd h hk h3 h4)
theorem stones_new {p : Funs} {s : Strs} (h : G.stonesOk p s = true) {j k : Nat} (hj : j < s.length) (hk : k < s.length) (e : G.sAt s j = G.sAt s k) : j = k := by
  have key : ∀ j k, j < k → k < s.length → ¬ G.sAt s j = G.sAt s k := by
    intro j k hjk hk e
    have h1 := allFrom_zero.1 h k hk
    unfold G.stoneOk at h1
    rw [Bool.and_eq_true] at h1
    have h2 := allFrom_zero.1 h1.2 j hjk
    simp [e] at h2
  rcases Nat.lt_trichotomy j k with h1 | h1 | h1
  · exact absurd e (key j k h1 hk)
  · exact h1
  · exact absurd e.symm (key k j h1 hj)
theorem foldl_one {α : Type} (g : α → Nat → α) (m N : Nat) (hg : ∀ a j, j < N → j ≠ m → g a j = a) : ∀ (n : Nat) (a : α), n ≤ N → (List.range n).foldl g a = if m < n then g a m else a
  | 0, a, _ => rfl
  | n + 1, a, hn => by
    rw [List.range_succ, List.foldl_append, foldl_one g m N hg n a (by omega)]
    show g _ n = _
    by_cases h1 : m < n
    · rw [if_pos h1, if_pos (by omega), hg _ n (by omega) (by omega)]
    · rw [if_neg h1]
      by_cases h2 : m = n
      · rw [if_pos (by omega), h2]
      · rw [if_neg (by omega), hg _ n (by omega) (by omega)]
theorem toRow_eq {p : Funs} {l : Lay} (h : G.layOkP p l = true) {k : Nat} (hk : k < p.length) (reach frm best : Int) (name : ByteArray) : G.toRow p l reach frm name best k = G.toImp p l reach frm name best k := by
  have hs := (okP_bd h hk).2.2.2.1
  unfold G.toRow G.toImp G.fold
  rw [range_zero]
  by_cases c : G.idx (G.strAt (G.stones l k) name) (G.stones l k).length < 0
  · rw [if_pos c, foldl_one _ (G.stones l k).length (G.stones l k).length ?_ _ _ (Nat.le_refl _), if_neg (by omega)]
    intro a j hj _
    unfold G.toOne
    have h1 := (idx_none _ _).1 c
    have h2 : G.allFrom (G.stones l k).length (fun j => !G.strAt (G.stones l k) name j) 0 = true := by rw [allFrom_not, h1]; rfl
    have h3 := allFrom_zero.1 h2 j hj
    have h3 : (!decide (G.sAt (G.stones l k) j = name)) = true := h3
    rw [if_neg (by simpa using h3)]
  · obtain ⟨h1, h2, h3, h4⟩ := idx_stone c
    rw [if_neg c, foldl_one _ (G.idx (G.strAt (G.stones l k) name) (G.stones l k).length).toNat (G.stones l k).length ?_ _ _ (Nat.le_refl _), if_pos h1]
    · unfold G.toOne
      rw [if_pos h2, nat_int h3]
    · intro a j hj hne
      unfold G.toOne
      rw [if_neg fun e => hne (stones_new hs hj h1 (e.trans h2.symm))]
/-! L7ToL2: a gathering -/
def G.preL7ToL2 (p : Funs) (reach : Int) (frm : Int) (name : ByteArray) (l : Lay) (f : Int) (i : Int) (best : Int) : Bool := G.preA ((G.stones l f.toNat).length) i && (true && G.toPreI p l frm f best)
theorem preL7ToL2_iff {p : Funs} {reach : Int} {frm : Int} {name : ByteArray} {l : Lay} {f : Int} {i : Int} {best : Int} : G.preL7ToL2 p reach frm name l f i best = true ↔ (0 ≤ i ∧ i ≤ (((G.stones l f.toNat).length : Nat) : Int) ∧ ((G.stones l f.toNat).length : Nat) ≤ 1099511627776) ∧ True ∧ G.toPreI p l frm f best = true := by simp [G.preL7ToL2, preA_iff]
def G.oneL7ToL2 (p : Funs) (reach : Int) (frm : Int) (name : ByteArray) (l : Lay) (f : Int) (a : Int × Unit) (k : Nat) : Int × Unit := (G.toOne p l reach frm name f.toNat a.1 k, ())
def G.fdL7ToL2 (p : Funs) (reach : Int) (frm : Int) (name : ByteArray) (l : Lay) (f : Int) (i : Int) (a : Int × Unit) : Int × Unit := G.fold (G.oneL7ToL2 p reach frm name l f) ((G.stones l f.toNat).length) i a
noncomputable abbrev lsL7ToL2 : LSpec := ⟨[0, 2, 3, 4, 6, 12, 13, 14], [12], [FunSP, IntP, IntP, StrP, .box LayK, IntP, IntP, IntP], [IntP], true, fun x => G.preL7ToL2 x.1 x.2.1 x.2.2.1 x.2.2.2.1 x.2.2.2.2.1 x.2.2.2.2.2.2.1 x.2.2.2.2.2.2.2.1 x.2.2.2.2.2.1,
  fun x => ((0, G.fdL7ToL2 x.1 x.2.1 x.2.2.1 x.2.2.2.1 x.2.2.2.2.1 x.2.2.2.2.2.2.1 x.2.2.2.2.2.2.2.1 (x.2.2.2.2.2.1, ())), (x.2.2.2.2.1, ()))⟩
noncomputable abbrev clL7ToL2 : Cx := mkCx T0 pg31 [(2, lsL7ToL2)] [] 88
theorem rL7ToL2 (p : Funs) (reach : Int) (frm : Int) (name : ByteArray) (l : Lay) (best : Int) (f : Int) (i : Int) : roundK clL7ToL2 2 (loopIn Go.Proofs.Try.f59 2) lsL7ToL2 (p, reach, frm, name, l, best, f, i, ()) =
  (if Decidable.decide ((0 : Int) ≤ f) = Bool.true then
    if Decidable.decide (f < (↑(List.length l.2.1) : Int)) = Bool.true then
      if Decidable.decide (i < (↑(List.length (List.getD l.2.1 (Int.toNat f) ([], PUnit.unit)).1) : Int)) = Bool.true then
        if Go.Rx.G.stonePre p l f i = Bool.true then
          if Decidable.decide ((0 : Int) ≤ f) = Bool.true then
            if Decidable.decide (f < (↑(List.length l.2.1) : Int)) = Bool.true then
              if Decidable.decide ((0 : Int) ≤ i) = Bool.true then
                if Decidable.decide (i < (↑(List.length (List.getD l.2.1 (Int.toNat f) ([], PUnit.unit)).1) : Int)) = Bool.true then
                  if Go.Rx.strEq (List.getD (List.getD l.2.1 (Int.toNat f) ([], PUnit.unit)).1 (Int.toNat i) (ByteArray.empty, PUnit.unit)).1 name = Bool.true then
                    if (Go.Rx.G.mid (Go.Rx.G.stonePos p l (Int.toNat f) i) && Go.Rx.G.mid frm) = Bool.true then
                      if Decidable.decide (Go.Rx.G.far (Go.Rx.G.stonePos p l (Int.toNat f) i) frm ≤ reach) = Bool.true then
                        if Decidable.decide (best < (0 : Int)) = Bool.false then
                          if (Go.Rx.G.mid (Go.Rx.G.stonePos p l (Int.toNat f) i) && Go.Rx.G.mid frm) = Bool.true then
                            if (Go.Rx.G.mid best && Go.Rx.G.mid frm) = Bool.true then
                              if
                                  Decidable.decide (Go.Rx.G.far (Go.Rx.G.stonePos p l (Int.toNat f) i) frm < Go.Rx.G.far best frm) =
                                    Bool.true then
                                Option.some
                                  (Go.Rx.LRes.go
                                    (p, reach, frm, name, l, Go.Rx.G.stonePos p l (Int.toNat f) i, f,
                                      Go.IntKind.wrap Go.IntKind.i64 (i + (1 : Int)), PUnit.unit))
                              else
                                Option.some
                                  (Go.Rx.LRes.go
                                    (p, reach, frm, name, l, best, f, Go.IntKind.wrap Go.IntKind.i64 (i + (1 : Int)), PUnit.unit))
                            else Option.none
                          else Option.none
                        else
                          Option.some
                            (Go.Rx.LRes.go
                              (p, reach, frm, name, l, Go.Rx.G.stonePos p l (Int.toNat f) i, f,
                                Go.IntKind.wrap Go.IntKind.i64 (i + (1 : Int)), PUnit.unit))
                      else
                        Option.some
                          (Go.Rx.LRes.go
                            (p, reach, frm, name, l, best, f, Go.IntKind.wrap Go.IntKind.i64 (i + (1 : Int)), PUnit.unit))
                    else Option.none
                  else
                    Option.some
                      (Go.Rx.LRes.go
                        (p, reach, frm, name, l, best, f, Go.IntKind.wrap Go.IntKind.i64 (i + (1 : Int)), PUnit.unit))
                else Option.none
              else Option.none
            else Option.none
          else Option.none
        else Option.none
      else Option.some (Go.Rx.LRes.stop (0 : Nat) (best, PUnit.unit) (l, PUnit.unit))
    else Option.none
  else Option.none) := by kernel_rfl
noncomputable abbrev muL7ToL2 : PKs.den lsL7ToL2.ins → Nat := fun x => ((G.stones x.2.2.2.2.1 x.2.2.2.2.2.2.1.toNat).length) - x.2.2.2.2.2.2.2.1.toNat
theorem stL7ToL2 (p : Funs) (reach : Int) (frm : Int) (name : ByteArray) (l : Lay) (best : Int) (f : Int) (i : Int) (h : G.preL7ToL2 p reach frm name l f i best = true) : StepOk lsL7ToL2 (eqInv lsL7ToL2) muL7ToL2 (p, reach, frm, name, l, best, f, i, ()) (roundK clL7ToL2 2 (loopIn Go.Proofs.Try.f59 2) lsL7ToL2 (p, reach, frm, name, l, best, f, i, ())) := by
  obtain ⟨⟨h0, h1, h2⟩, hn, hc⟩ := preL7ToL2_iff.1 h
  rw [rL7ToL2]
  by_cases hi : i < (((G.stones l f.toNat).length : Nat) : Int)
  · have hw : IntKind.i64.wrap (i + 1) = i + 1 := w64 (by omega) (by omega)
    have hs : G.fdL7ToL2 p reach frm name l f i (best, ()) = G.fdL7ToL2 p reach frm name l f (i + 1) (G.oneL7ToL2 p reach frm name l f (best, ()) i.toNat) := fold_step h0 hi
    refine fold_go (eqInv lsL7ToL2) muL7ToL2 (p, reach, frm, name, l, (G.oneL7ToL2 p reach frm name l f (best, ()) i.toNat).1, f, i + 1, ()) ?_ (show G.preL7ToL2 p reach frm name l f (i + 1) (G.oneL7ToL2 p reach frm name l f (best, ()) i.toNat).1 = true from preL7ToL2_iff.2 ⟨⟨by omega, by omega, h2⟩, trivial, ?_⟩) ?_ ?_
    · obtain ⟨⟨g1, g2, g3, g4⟩, g5, g6⟩ := toPreI_iff.1 hc
      obtain ⟨b1, b2, b3, b4, b5, b6, b7, b8⟩ := okP_bd g1 (show f.toNat < p.length by omega)
      have sp : G.stonePre p l f i = true := stonePre_iff.2 ⟨g1, g5, g6, h0, by omega⟩
      obtain ⟨s1, s2, s3, s4, _⟩ := stone_bd sp
      have mc : (G.mid (G.stonePos p l f.toNat i) && G.mid frm) = true := by rw [Bool.and_eq_true]; exact ⟨mid_iff.2 (by omega), g2⟩
      have mb : (G.mid best && G.mid frm) = true := by rw [Bool.and_eq_true]; exact ⟨mid_iff.2 (by omega), g2⟩
      simp only [stones_eq, sAt_eq, strEq_iff, hi, h0, g5, s2, sp, mc, mb, decide_true, if_true, hw]
      unfold G.oneL7ToL2 G.toOne G.toCand
      rw [nat_int h0]
      by_cases c0 : G.sAt (G.stones l f.toNat) i.toNat = name <;> by_cases c1 : G.far (G.stonePos p l f.toNat i) frm ≤ reach <;> by_cases c2 : best < 0 <;> by_cases c3 : G.far (G.stonePos p l f.toNat i) frm < G.far best frm <;> simp only [c0, c1, c2, c3, eq_self, decide_true, decide_false, if_true, if_false, Bool.false_eq_true, Bool.true_eq_false]
    · obtain ⟨⟨g1, g2, g3, g4⟩, g5, g6⟩ := toPreI_iff.1 hc
      obtain ⟨k1, k2⟩ := toOne_bd (reach := reach) (frm := frm) (name := name) g1 (show f.toNat < p.length by omega) ⟨g3, g4⟩ (show i.toNat < _ by omega)
      exact toPreI_iff.2 ⟨⟨g1, g2, k1, k2⟩, g5, g6⟩
    · show ((G.stones l f.toNat).length) - (i + 1).toNat < ((G.stones l f.toNat).length) - i.toNat
      omega
    · show ((_, _), _) = ((_, _), _)
      simp only [hs]
  · have hs : G.fdL7ToL2 p reach frm name l f i (best, ()) = (best, ()) := fold_end (by omega)
    obtain ⟨⟨g1, g2, g3, g4⟩, g5, g6⟩ := toPreI_iff.1 hc
    have b2 := (okP_bd g1 (show f.toNat < p.length by omega)).2.1
    rw [if_pos (decide_eq_true g5), if_pos (decide_eq_true (show f < (l.2.1.length : Int) by omega)), stones_eq]
    rw [if_neg (by simpa using hi)]
    show ((_, _), _) = ((_, _), _)
    simp only [hs]
theorem lpL7ToL2 : LpOk Go.Proofs.Try.prog clL7ToL2.ntmps 2 (loopIn Go.Proofs.Try.f59 2) lsL7ToL2 :=
  lp_okB (cxOk T0_ok T0_eq pg31_ok) mixed (by kernel_rfl) (lps_none (by kernel_rfl)) (eqInv lsL7ToL2) muL7ToL2 (fun _ h => h) (fun x h => stL7ToL2 x.1 x.2.1 x.2.2.1 x.2.2.2.1 x.2.2.2.2.1 x.2.2.2.2.2.1 x.2.2.2.2.2.2.1 x.2.2.2.2.2.2.2.1 h)
/-! L7ToL0: a gathering -/
def G.preL7ToL0 (p : Funs) (reach : Int) (frm : Int) (name : ByteArray) (l : Lay) (i : Int) (best : Int) : Bool := G.preA (p.length) i && (true && G.toPre p l frm best)
theorem preL7ToL0_iff {p : Funs} {reach : Int} {frm : Int} {name : ByteArray} {l : Lay} {i : Int} {best : Int} : G.preL7ToL0 p reach frm name l i best = true ↔ (0 ≤ i ∧ i ≤ ((p.length : Nat) : Int) ∧ (p.length : Nat) ≤ 1099511627776) ∧ True ∧ G.toPre p l frm best = true := by simp [G.preL7ToL0, preA_iff]
def G.oneL7ToL0 (p : Funs) (reach : Int) (frm : Int) (name : ByteArray) (l : Lay) (a : Int × Unit) (k : Nat) : Int × Unit := (G.toImp p l reach frm name a.1 k, ())
def G.fdL7ToL0 (p : Funs) (reach : Int) (frm : Int) (name : ByteArray) (l : Lay) (i : Int) (a : Int × Unit) : Int × Unit := G.fold (G.oneL7ToL0 p reach frm name l) (p.length) i a
noncomputable abbrev lsL7ToL0 : LSpec := ⟨[0, 2, 3, 4, 6, 12, 13], [12], [FunSP, IntP, IntP, StrP, .box LayK, IntP, IntP], [IntP], true, fun x => G.preL7ToL0 x.1 x.2.1 x.2.2.1 x.2.2.2.1 x.2.2.2.2.1 x.2.2.2.2.2.2.1 x.2.2.2.2.2.1,
  fun x => ((0, G.fdL7ToL0 x.1 x.2.1 x.2.2.1 x.2.2.2.1 x.2.2.2.2.1 x.2.2.2.2.2.2.1 (x.2.2.2.2.2.1, ())), (x.2.2.2.2.1, ()))⟩
noncomputable abbrev clL7ToL0 : Cx := mkCx T0 pg31 [(2, lsL7ToL2), (0, lsL7ToL0)] [] 88
theorem rL7ToL0 (p : Funs) (reach : Int) (frm : Int) (name : ByteArray) (l : Lay) (best : Int) (i : Int) : roundK clL7ToL0 0 (loopIn Go.Proofs.Try.f59 0) lsL7ToL0 (p, reach, frm, name, l, best, i, ()) =
  (if Decidable.decide (i < (↑(List.length p) : Int)) = Bool.true then
    if Go.Rx.G.preL7ToL2 p reach frm name l i (0 : Int) best = Bool.true then
      Option.some
        (Go.Rx.LRes.go
          (p, reach, frm, name, l,
            (Go.Rx.G.fdL7ToL2 p reach frm name l i (0 : Int) (best, PUnit.unit)).1,
            Go.IntKind.wrap Go.IntKind.i64 (i + (1 : Int)), PUnit.unit))
    else Option.none
  else Option.some (Go.Rx.LRes.stop (0 : Nat) (best, PUnit.unit) (l, PUnit.unit))) := by kernel_rfl
noncomputable abbrev muL7ToL0 : PKs.den lsL7ToL0.ins → Nat := fun x => (x.1.length) - x.2.2.2.2.2.2.1.toNat
theorem stL7ToL0 (p : Funs) (reach : Int) (frm : Int) (name : ByteArray) (l : Lay) (best : Int) (i : Int) (h : G.preL7ToL0 p reach frm name l i best = true) : StepOk lsL7ToL0 (eqInv lsL7ToL0) muL7ToL0 (p, reach, frm, name, l, best, i, ()) (roundK clL7ToL0 0 (loopIn Go.Proofs.Try.f59 0) lsL7ToL0 (p, reach, frm, name, l, best, i, ())) := by
  obtain ⟨⟨h0, h1, h2⟩, hn, hc⟩ := preL7ToL0_iff.1 h
  rw [rL7ToL0]
  by_cases hi : i < ((p.length : Nat) : Int)
  · have hw : IntKind.i64.wrap (i + 1) = i + 1 := w64 (by omega) (by omega)
    have hs : G.fdL7ToL0 p reach frm name l i (best, ()) = G.fdL7ToL0 p reach frm name l (i + 1) (G.oneL7ToL0 p reach frm name l (best, ()) i.toNat) := fold_step h0 hi
    refine fold_go (eqInv lsL7ToL0) muL7ToL0 (p, reach, frm, name, l, (G.oneL7ToL0 p reach frm name l (best, ()) i.toNat).1, i + 1, ()) ?_ (show G.preL7ToL0 p reach frm name l (i + 1) (G.oneL7ToL0 p reach frm name l (best, ()) i.toNat).1 = true from preL7ToL0_iff.2 ⟨⟨by omega, by omega, h2⟩, trivial, ?_⟩) ?_ ?_
    · obtain ⟨g1, g2, g3, g4⟩ := toPre_iff.1 hc
      obtain ⟨b1, b2, b3, b4, b5, b6, b7, b8⟩ := okP_bd g1 (show i.toNat < p.length by omega)
      have gp : G.preL7ToL2 p reach frm name l i 0 best = true := preL7ToL2_iff.2 ⟨⟨by omega, by omega, by omega⟩, trivial, toPreI_iff.2 ⟨⟨g1, g2, g3, g4⟩, h0, hi⟩⟩
      rw [if_pos (decide_eq_true hi), if_pos gp, hw]
      unfold G.fdL7ToL2 G.oneL7ToL2 G.oneL7ToL0
      rw [fold_unit, ← toRow_eq g1 (show i.toNat < p.length by omega)]
      rfl
    · obtain ⟨g1, g2, g3, g4⟩ := toPre_iff.1 hc
      obtain ⟨k1, k2⟩ := toImp_bd (reach := reach) (frm := frm) (name := name) g1 (show i.toNat < p.length by omega) ⟨g3, g4⟩
      exact toPre_iff.2 ⟨g1, g2, k1, k2⟩
    · show (p.length) - (i + 1).toNat < (p.length) - i.toNat
      omega
    · show ((_, _), _) = ((_, _), _)
      simp only [hs]
  · have hs : G.fdL7ToL0 p reach frm name l i (best, ()) = (best, ()) := fold_end (by omega)
    skip
    rw [if_neg (by simpa using hi)]
    show ((_, _), _) = ((_, _), _)
    simp only [hs]
theorem lpL7ToL0 : LpOk Go.Proofs.Try.prog clL7ToL0.ntmps 0 (loopIn Go.Proofs.Try.f59 0) lsL7ToL0 :=
  lp_okB (cxOk T0_ok T0_eq pg31_ok) mixed (by kernel_rfl) (lps_of (l := [(2, loopIn Go.Proofs.Try.f59 2)]) (by kernel_rfl) ⟨lp_at lpL7ToL2 rfl, trivial⟩) (eqInv lsL7ToL0) muL7ToL0 (fun _ h => h) (fun x h => stL7ToL0 x.1 x.2.1 x.2.2.1 x.2.2.2.1 x.2.2.2.2.1 x.2.2.2.2.2.1 x.2.2.2.2.2.2.1 h)
/-! ToL0: a gathering -/
def G.preToL0 (p : Funs) (reach : Int) (frm : Int) (name : ByteArray) (l : Lay) (ss : Strss) (n : Int) (i : Int) (best : Int) : Bool := G.preA (ss.length) i && (decide (n = ((ss.length : Nat) : Int)) && (decide (ss = l.2.1) && G.toPre p l frm best))
theorem preToL0_iff {p : Funs} {reach : Int} {frm : Int} {name : ByteArray} {l : Lay} {ss : Strss} {n : Int} {i : Int} {best : Int} : G.preToL0 p reach frm name l ss n i best = true ↔ (0 ≤ i ∧ i ≤ ((ss.length : Nat) : Int) ∧ (ss.length : Nat) ≤ 1099511627776) ∧ n = ((ss.length : Nat) : Int) ∧ (decide (ss = l.2.1) && G.toPre p l frm best) = true := by simp [G.preToL0, preA_iff]
def G.oneToL0 (p : Funs) (reach : Int) (frm : Int) (name : ByteArray) (l : Lay) (ss : Strss) (a : Int × Unit) (k : Nat) : Int × Unit := (G.toImp p l reach frm name a.1 k, ())
def G.fdToL0 (p : Funs) (reach : Int) (frm : Int) (name : ByteArray) (l : Lay) (ss : Strss) (i : Int) (a : Int × Unit) : Int × Unit := G.fold (G.oneToL0 p reach frm name l ss) (ss.length) i a
noncomputable abbrev lsToL0 : LSpec := ⟨[0, 2, 3, 4, 6, 12, 37, 38, 39], [12], [FunSP, IntP, IntP, StrP, .box LayK, IntP, .c (.dat (.sl strsT)), IntP, IntP], [IntP], true, fun x => G.preToL0 x.1 x.2.1 x.2.2.1 x.2.2.2.1 x.2.2.2.2.1 x.2.2.2.2.2.2.1 x.2.2.2.2.2.2.2.1 x.2.2.2.2.2.2.2.2.1 x.2.2.2.2.2.1,
  fun x => ((0, G.fdToL0 x.1 x.2.1 x.2.2.1 x.2.2.2.1 x.2.2.2.2.1 x.2.2.2.2.2.2.1 x.2.2.2.2.2.2.2.2.1 (x.2.2.2.2.2.1, ())), (x.2.2.2.2.1, ()))⟩
noncomputable abbrev clToL0 : Cx := mkCx T0 pg31 [(0, lsToL0)] [] 84
theorem rToL0 (p : Funs) (reach : Int) (frm : Int) (name : ByteArray) (l : Lay) (best : Int) (ss : Strss) (n : Int) (i : Int) : roundK clToL0 0 (loopIn Go.Proofs.Try.f62 0) lsToL0 (p, reach, frm, name, l, best, ss, n, i, ()) =
  (if Decidable.decide (i < n) = Bool.true then
    if Decidable.decide ((0 : Int) ≤ i) = Bool.true then
      if Decidable.decide (i < (↑(List.length ss) : Int)) = Bool.true then
        if Go.Rx.G.few (List.length (List.getD ss (Int.toNat i) ([], PUnit.unit)).1) = Bool.true then
          if
              Decidable.decide
                  (Go.Rx.G.idx (Go.Rx.G.strAt (List.getD ss (Int.toNat i) ([], PUnit.unit)).1 name) (List.length (List.getD ss (Int.toNat i) ([], PUnit.unit)).1) < (0 : Int)) =
                Bool.true then
            Option.some
              (Go.Rx.LRes.go (p, reach, frm, name, l, best, ss, n, Go.IntKind.wrap Go.IntKind.i64 (i + (1 : Int)), PUnit.unit))
          else
            if Decidable.decide ((0 : Int) ≤ i) = Bool.true then
              if Decidable.decide (i < (↑(List.length l.1) : Int)) = Bool.true then
                if Decidable.decide ((0 : Int) ≤ i) = Bool.true then
                  if Decidable.decide (i < (↑(List.length p) : Int)) = Bool.true then
                    if
                        (Go.Rx.G.mid
                              (Go.IntKind.wrap Go.IntKind.i64
                                (Go.IntKind.wrap Go.IntKind.i64
                                    ((List.getD l.1 (Int.toNat i) ((0 : Int), PUnit.unit)).1 +
                                      (↑(List.length (List.getD p (Int.toNat i) (ByteArray.empty, Bool.false, [], PUnit.unit)).2.2.1) : Int)) +
                                  Go.Rx.G.idx (Go.Rx.G.strAt (List.getD ss (Int.toNat i) ([], PUnit.unit)).1 name) (List.length (List.getD ss (Int.toNat i) ([], PUnit.unit)).1))) &&
                            Go.Rx.G.mid frm) =
                          Bool.true then
                      if
                          Decidable.decide
                              (Go.Rx.G.far
                                  (Go.IntKind.wrap Go.IntKind.i64
                                    (Go.IntKind.wrap Go.IntKind.i64
                                        ((List.getD l.1 (Int.toNat i) ((0 : Int), PUnit.unit)).1 +
                                          (↑(List.length (List.getD p (Int.toNat i) (ByteArray.empty, Bool.false, [], PUnit.unit)).2.2.1) : Int)) +
                                      Go.Rx.G.idx (Go.Rx.G.strAt (List.getD ss (Int.toNat i) ([], PUnit.unit)).1 name) (List.length (List.getD ss (Int.toNat i) ([], PUnit.unit)).1)))
                                  frm ≤
                                reach) =
                            Bool.true then
                        if Decidable.decide (best < (0 : Int)) = Bool.false then
                          if
                              (Go.Rx.G.mid
                                    (Go.IntKind.wrap Go.IntKind.i64
                                      (Go.IntKind.wrap Go.IntKind.i64
                                          ((List.getD l.1 (Int.toNat i) ((0 : Int), PUnit.unit)).1 +
                                            (↑(List.length (List.getD p (Int.toNat i) (ByteArray.empty, Bool.false, [], PUnit.unit)).2.2.1) : Int)) +
                                        Go.Rx.G.idx (Go.Rx.G.strAt (List.getD ss (Int.toNat i) ([], PUnit.unit)).1 name)
                                          (List.length (List.getD ss (Int.toNat i) ([], PUnit.unit)).1))) &&
                                  Go.Rx.G.mid frm) =
                                Bool.true then
                            if (Go.Rx.G.mid best && Go.Rx.G.mid frm) = Bool.true then
                              if
                                  Decidable.decide
                                      (Go.Rx.G.far
                                          (Go.IntKind.wrap Go.IntKind.i64
                                            (Go.IntKind.wrap Go.IntKind.i64
                                                ((List.getD l.1 (Int.toNat i) ((0 : Int), PUnit.unit)).1 +
                                                  (↑(List.length (List.getD p (Int.toNat i) (ByteArray.empty, Bool.false, [], PUnit.unit)).2.2.1) : Int)) +
                                              Go.Rx.G.idx (Go.Rx.G.strAt (List.getD ss (Int.toNat i) ([], PUnit.unit)).1 name)
                                                (List.length (List.getD ss (Int.toNat i) ([], PUnit.unit)).1)))
                                          frm <
                                        Go.Rx.G.far best frm) =
                                    Bool.true then
                                Option.some
                                  (Go.Rx.LRes.go
                                    (p, reach, frm, name, l,
                                      Go.IntKind.wrap Go.IntKind.i64
                                        (Go.IntKind.wrap Go.IntKind.i64
                                            ((List.getD l.1 (Int.toNat i) ((0 : Int), PUnit.unit)).1 +
                                              (↑(List.length (List.getD p (Int.toNat i) (ByteArray.empty, Bool.false, [], PUnit.unit)).2.2.1) : Int)) +
                                          Go.Rx.G.idx (Go.Rx.G.strAt (List.getD ss (Int.toNat i) ([], PUnit.unit)).1 name)
                                            (List.length (List.getD ss (Int.toNat i) ([], PUnit.unit)).1)),
                                      ss, n, Go.IntKind.wrap Go.IntKind.i64 (i + (1 : Int)), PUnit.unit))
                              else
                                Option.some
                                  (Go.Rx.LRes.go
                                    (p, reach, frm, name, l, best, ss, n, Go.IntKind.wrap Go.IntKind.i64 (i + (1 : Int)), PUnit.unit))
                            else Option.none
                          else Option.none
                        else
                          Option.some
                            (Go.Rx.LRes.go
                              (p, reach, frm, name, l,
                                Go.IntKind.wrap Go.IntKind.i64
                                  (Go.IntKind.wrap Go.IntKind.i64
                                      ((List.getD l.1 (Int.toNat i) ((0 : Int), PUnit.unit)).1 +
                                        (↑(List.length (List.getD p (Int.toNat i) (ByteArray.empty, Bool.false, [], PUnit.unit)).2.2.1) : Int)) +
                                    Go.Rx.G.idx (Go.Rx.G.strAt (List.getD ss (Int.toNat i) ([], PUnit.unit)).1 name) (List.length (List.getD ss (Int.toNat i) ([], PUnit.unit)).1)),
                                ss, n, Go.IntKind.wrap Go.IntKind.i64 (i + (1 : Int)), PUnit.unit))
                      else
                        Option.some
                          (Go.Rx.LRes.go
                            (p, reach, frm, name, l, best, ss, n, Go.IntKind.wrap Go.IntKind.i64 (i + (1 : Int)), PUnit.unit))
                    else Option.none
                  else Option.none
                else Option.none
              else Option.none
            else Option.none
        else Option.none
      else Option.none
    else Option.none
  else Option.some (Go.Rx.LRes.stop (0 : Nat) (best, PUnit.unit) (l, PUnit.unit))) := by kernel_rfl
noncomputable abbrev muToL0 : PKs.den lsToL0.ins → Nat := fun x => (x.2.2.2.2.2.2.1.length) - x.2.2.2.2.2.2.2.2.1.toNat
theorem stToL0 (p : Funs) (reach : Int) (frm : Int) (name : ByteArray) (l : Lay) (best : Int) (ss : Strss) (n : Int) (i : Int) (h : G.preToL0 p reach frm name l ss n i best = true) : StepOk lsToL0 (eqInv lsToL0) muToL0 (p, reach, frm, name, l, best, ss, n, i, ()) (roundK clToL0 0 (loopIn Go.Proofs.Try.f62 0) lsToL0 (p, reach, frm, name, l, best, ss, n, i, ())) := by
  obtain ⟨⟨h0, h1, h2⟩, hn, hc⟩ := preToL0_iff.1 h
  subst hn
  rw [rToL0]
  by_cases hi : i < ((ss.length : Nat) : Int)
  · have hw : IntKind.i64.wrap (i + 1) = i + 1 := w64 (by omega) (by omega)
    have hs : G.fdToL0 p reach frm name l ss i (best, ()) = G.fdToL0 p reach frm name l ss (i + 1) (G.oneToL0 p reach frm name l ss (best, ()) i.toNat) := fold_step h0 hi
    refine fold_go (eqInv lsToL0) muToL0 (p, reach, frm, name, l, (G.oneToL0 p reach frm name l ss (best, ()) i.toNat).1, ss, ((ss.length : Nat) : Int), i + 1, ()) ?_ (show G.preToL0 p reach frm name l ss ((ss.length : Nat) : Int) (i + 1) (G.oneToL0 p reach frm name l ss (best, ()) i.toNat).1 = true from preToL0_iff.2 ⟨⟨by omega, by omega, h2⟩, rfl, ?_⟩) ?_ ?_
    · rw [Bool.and_eq_true, decide_eq_true_iff] at hc
      obtain ⟨rfl, hc⟩ := hc
      obtain ⟨g1, g2, g3, g4⟩ := toPre_iff.1 hc
      have b2 := layOkP_len g1
      obtain ⟨b1, b3, b4, b5, b6, b7, b8, b9⟩ := okP_bd g1 (show i.toNat < p.length by omega)
      have hi1 : i < (l.1.length : Int) := by omega
      have hip : i < (p.length : Int) := by omega
      have fw : G.few (G.stones l i.toNat).length = true := few_iff.2 (by omega)
      have mb : (G.mid best && G.mid frm) = true := by rw [Bool.and_eq_true]; exact ⟨mid_iff.2 (by omega), g2⟩
      simp only [stones_eq, atOf_eq, pAt_eq, hi, h0, hi1, hip, fw, mb, decide_true, if_true, hw]
      unfold G.oneToL0 G.toImp
      by_cases c0 : G.idx (G.strAt (G.stones l i.toNat) name) (G.stones l i.toNat).length < 0
      · simp only [c0, eq_self, decide_true, decide_false, if_true, if_false, Bool.false_eq_true, Bool.true_eq_false]
      · obtain ⟨k1, k2, k3, k4⟩ := idx_stone c0
        have sp := stone_pre g1 (show i.toNat < p.length by omega) k3 k4
        rw [nat_int h0] at sp
        obtain ⟨s1, s2, s3, s4, s5⟩ := stone_bd sp
        have mc : (G.mid (G.stonePos p l i.toNat (G.idx (G.strAt (G.stones l i.toNat) name) (G.stones l i.toNat).length)) && G.mid frm) = true := by rw [Bool.and_eq_true]; exact ⟨mid_iff.2 (by omega), g2⟩
        simp only [s5, mc, c0, eq_self, decide_true, decide_false, if_true, if_false, Bool.false_eq_true, Bool.true_eq_false]
        unfold G.toCand
        by_cases c1 : G.far (G.stonePos p l i.toNat (G.idx (G.strAt (G.stones l i.toNat) name) (G.stones l i.toNat).length)) frm ≤ reach <;> by_cases c2 : best < 0 <;> by_cases c3 : G.far (G.stonePos p l i.toNat (G.idx (G.strAt (G.stones l i.toNat) name) (G.stones l i.toNat).length)) frm < G.far best frm <;> simp only [c1, c2, c3, eq_self, decide_true, decide_false, if_true, if_false, Bool.false_eq_true, Bool.true_eq_false]
    · rw [Bool.and_eq_true, decide_eq_true_iff] at hc ⊢
      obtain ⟨rfl, hc⟩ := hc
      obtain ⟨g1, g2, g3, g4⟩ := toPre_iff.1 hc
      have b2 := (layOkP_len g1).2
      obtain ⟨k1, k2⟩ := toImp_bd (reach := reach) (frm := frm) (name := name) g1 (show i.toNat < p.length by omega) ⟨g3, g4⟩
      exact ⟨rfl, toPre_iff.2 ⟨g1, g2, k1, k2⟩⟩
    · show (ss.length) - (i + 1).toNat < (ss.length) - i.toNat
      omega
    · show ((_, _), _) = ((_, _), _)
      simp only [hs]
  · have hs : G.fdToL0 p reach frm name l ss i (best, ()) = (best, ()) := fold_end (by omega)
    skip
    rw [if_neg (by simpa using hi)]
    show ((_, _), _) = ((_, _), _)
    simp only [hs]
theorem lpToL0 : LpOk Go.Proofs.Try.prog clToL0.ntmps 0 (loopIn Go.Proofs.Try.f62 0) lsToL0 :=
  lp_okB (cxOk T0_ok T0_eq pg31_ok) mixed (by kernel_rfl) (lps_none (by kernel_rfl)) (eqInv lsToL0) muToL0 (fun _ h => h) (fun x h => stToL0 x.1 x.2.1 x.2.2.1 x.2.2.2.1 x.2.2.2.2.1 x.2.2.2.2.2.1 x.2.2.2.2.2.2.1 x.2.2.2.2.2.2.2.1 x.2.2.2.2.2.2.2.2.1 h)
def G.to (p : Funs) (l : Lay) (reach frm : Int) (name : ByteArray) : Int :=
  if G.find p name < 0 then -1 else if G.far (G.atOf l (G.find p name).toNat) frm ≤ reach then G.atOf l (G.find p name).toNat else G.fold (G.toImp p l reach frm name) p.length 0 (-1)
def G.toP (p : Funs) (l : Lay) (frm : Int) : Bool := G.layOkP p l && G.mid frm
theorem toP_iff {p : Funs} {l : Lay} {frm : Int} : G.toP p l frm = true ↔ (G.layOkP p l = true ∧ G.mid frm = true) := by
  unfold G.toP
  rw [Bool.and_eq_true]
/-! L7To -/
noncomputable abbrev spL7To : Spec := ⟨[FunSP, LayP, IntP, IntP, StrP], IntR, false, fun x => G.toP x.1 x.2.1 x.2.2.2.1, fun x => (G.to x.1 x.2.1 x.2.2.1 x.2.2.2.1 x.2.2.2.2.1, ())⟩
noncomputable abbrev cxL7To : Cx := mkCx T0 pg31 [(0, lsL7ToL0)] [] 88
theorem eL7To (p : Funs) (l : Lay) (reach frm : Int) (name : ByteArray) : funK cxL7To Go.Proofs.Try.f59 spL7To.ins spL7To.out (p, l, reach, frm, name, ()) =
  (if Go.Rx.G.few (List.length p) = Bool.true then
    if Decidable.decide (Go.Rx.G.find p name < (0 : Int)) = Bool.true then Option.some ((-1 : Int), PUnit.unit)
    else
      if Decidable.decide ((0 : Int) ≤ Go.Rx.G.find p name) = Bool.true then
        if Decidable.decide (Go.Rx.G.find p name < (↑(List.length l.1) : Int)) = Bool.true then
          if (Go.Rx.G.mid (List.getD l.1 (Int.toNat (Go.Rx.G.find p name)) ((0 : Int), PUnit.unit)).1 && Go.Rx.G.mid frm) = Bool.true then
            if Decidable.decide (Go.Rx.G.far (List.getD l.1 (Int.toNat (Go.Rx.G.find p name)) ((0 : Int), PUnit.unit)).1 frm ≤ reach) = Bool.true then
              if Decidable.decide ((0 : Int) ≤ Go.Rx.G.find p name) = Bool.true then
                if Decidable.decide (Go.Rx.G.find p name < (↑(List.length l.1) : Int)) = Bool.true then
                  Option.some (List.getD l.1 (Int.toNat (Go.Rx.G.find p name)) ((0 : Int), PUnit.unit))
                else Option.none
              else Option.none
            else
              if Go.Rx.G.preL7ToL0 p reach frm name l (0 : Int) (-1 : Int) = Bool.true then
                Option.some (Go.Rx.G.fdL7ToL0 p reach frm name l (0 : Int) ((-1 : Int), PUnit.unit))
              else Option.none
          else Option.none
        else Option.none
      else Option.none
  else Option.none) := by kernel_rfl
/-! To -/
noncomputable abbrev spTo : Spec := ⟨[FunSP, LayP, IntP, IntP, StrP], IntR, false, fun x => G.toP x.1 x.2.1 x.2.2.2.1, fun x => (G.to x.1 x.2.1 x.2.2.1 x.2.2.2.1 x.2.2.2.2.1, ())⟩
noncomputable abbrev cxTo : Cx := mkCx T0 pg31 [(0, lsToL0)] [] 84
theorem eTo (p : Funs) (l : Lay) (reach frm : Int) (name : ByteArray) : funK cxTo Go.Proofs.Try.f62 spTo.ins spTo.out (p, l, reach, frm, name, ()) =
  (if Go.Rx.G.few (List.length p) = Bool.true then
    if Decidable.decide (Go.Rx.G.find p name < (0 : Int)) = Bool.true then Option.some ((-1 : Int), PUnit.unit)
    else
      if Decidable.decide ((0 : Int) ≤ Go.Rx.G.find p name) = Bool.true then
        if Decidable.decide (Go.Rx.G.find p name < (↑(List.length l.1) : Int)) = Bool.true then
          if (Go.Rx.G.mid (List.getD l.1 (Int.toNat (Go.Rx.G.find p name)) ((0 : Int), PUnit.unit)).1 && Go.Rx.G.mid frm) = Bool.true then
            if Decidable.decide (Go.Rx.G.far (List.getD l.1 (Int.toNat (Go.Rx.G.find p name)) ((0 : Int), PUnit.unit)).1 frm ≤ reach) = Bool.true then
              if Decidable.decide ((0 : Int) ≤ Go.Rx.G.find p name) = Bool.true then
                if Decidable.decide (Go.Rx.G.find p name < (↑(List.length l.1) : Int)) = Bool.true then
                  Option.some (List.getD l.1 (Int.toNat (Go.Rx.G.find p name)) ((0 : Int), PUnit.unit))
                else Option.none
              else Option.none
            else
              if Go.Rx.G.preToL0 p reach frm name l l.2.1 (↑(List.length l.2.1) : Int) (0 : Int) (-1 : Int) = Bool.true then
                Option.some (Go.Rx.G.fdToL0 p reach frm name l l.2.1 (0 : Int) ((-1 : Int), PUnit.unit))
              else Option.none
          else Option.none
        else Option.none
      else Option.none
  else Option.none) := by kernel_rfl
end Go.Rx

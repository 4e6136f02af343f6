/-
  GRAPHS: the reference's functions that name none, and that come back.
-/
import Derived.Test.YtoagkidolpcigaaIh
namespace Go.Rx
open Go
set_option linter.unusedVariables false
set_option linter.unusedSimpArgs false
def G.lenK (p : Funs) : Nat := if G.keepOk p = true then p.length else 0
theorem lenK_le (p : Funs) : G.lenK p ≤ p.length := by
  unfold G.lenK
  split <;> omega
theorem lenK_lt {p : Funs} {i : Int} (h : i < ((G.lenK p : Nat) : Int)) (h0 : 0 ≤ i) : G.keepOk p = true ∧ i < (p.length : Int) ∧ G.lenK p = p.length := by
  unfold G.lenK at h ⊢
  split at h
  · rename_i hk
    exact ⟨hk, h, if_pos hk⟩
  · omega
def G.putIf (q : Fun → Bool) (p : Funs) (out : Strs) (k : Nat) : Strs := if q (G.pAt p k) = true then G.put out (G.pAt p k).1 else out
theorem putIf_len (q : Fun → Bool) (p : Funs) (out : Strs) (k : Nat) : (G.putIf q p out k).length ≤ out.length + 1 := by
  unfold G.putIf
  split
  · exact put_len _ _
  · omega
def G.putsIf (q : Fun → Bool) (p : Funs) : Strs := G.fold (G.putIf q p) (G.lenK p) 0 []
theorem putsIf_eq (q : Fun → Bool) (p : Funs) : G.putsIf q p = G.named q p := by
  unfold G.putsIf G.named G.lenK
  by_cases hk : G.keepOk p = true
  · rw [if_pos hk, if_pos hk]
    obtain ⟨o1, o2⟩ := ordered_strict (G.namesIf q p)
    have hst : Strict (G.fold (G.putIf q p) p.length 0 []) := fold_inv (P := Strict) (fun b k hb => by
      unfold G.putIf
      split
      · exact put_strict hb _
      · exact hb) List.Pairwise.nil _
    refine strict_eq hst o1 fun x => ?_
    rw [o2]
    unfold G.namesIf
    rw [fold_mem (Q := fun k x => q (G.pAt p k) = true ∧ x = ((G.pAt p k).1, ())) (fun a k x => ?_), fold_mem (Q := fun k x => q (G.pAt p k) = true ∧ x = ((G.pAt p k).1, ())) (fun a k x => ?_)]
    · unfold G.nameIf
      by_cases c : q (G.pAt p k) = true
      · simp [c]
      · simp [c]
    · unfold G.putIf
      by_cases c : q (G.pAt p k) = true
      · rw [if_pos c, mem_put]
        simp [c]
      · simp [c]
  · rw [if_neg hk, if_neg hk]
    rfl
theorem lenK_ge {p : Funs} {i : Int} (h : ¬ i < ((G.lenK p : Nat) : Int)) : ¬ i < (p.length : Int) ∨ (i < (p.length : Int) ∧ G.keepOk p = false) := by
  unfold G.lenK at h
  by_cases hl : i < (p.length : Int)
  · cases hk : G.keepOk p with
    | true => exact absurd hl (by rw [if_pos hk] at h; exact h)
    | false => exact .inr ⟨hl, rfl⟩
  · exact .inl hl
theorem body_few {p : Funs} (h : G.smallP p = true) {k : Nat} (hk : k < p.length) : G.few (G.pAt p k).2.2.1.length = true := few_iff.2 (smallF_iff.1 (smallF_at (smallP_iff.1 h).2 hk)).2.1
/-! SpLeafL: a gathering -/
def G.preSpLeafL (p : Funs) (i : Int) (out : Strs) : Bool := G.preA (G.lenK p) i && (true && (G.smallP p && decide (p.length ≤ 65536 ∧ (out.length : Int) ≤ i)))
theorem preSpLeafL_iff {p : Funs} {i : Int} {out : Strs} : G.preSpLeafL p i out = true ↔ (0 ≤ i ∧ i ≤ ((G.lenK p : Nat) : Int) ∧ (G.lenK p : Nat) ≤ 1099511627776) ∧ True ∧ (G.smallP p && decide (p.length ≤ 65536 ∧ (out.length : Int) ≤ i)) = true := by simp [G.preSpLeafL, preA_iff]
def G.oneSpLeafL (p : Funs) (a : Strs × Unit) (k : Nat) : Strs × Unit := (G.putIf G.leafF p a.1 k, ())
def G.fdSpLeafL (p : Funs) (i : Int) (a : Strs × Unit) : Strs × Unit := G.fold (G.oneSpLeafL p) (G.lenK p) i a
noncomputable abbrev lsSpLeafL : LSpec := ⟨[0, 3, 4], [3], [FunSP, .c (.own strT), IntP], [.c (.own strT)], false, fun x => G.preSpLeafL x.1 x.2.2.1 x.2.1,
  fun x => ((0, G.fdSpLeafL x.1 x.2.2.1 (x.2.1, ())), ())⟩
noncomputable abbrev clSpLeafL : Cx := mkCx T0 pr11 [(0, lsSpLeafL)] [] 32
theorem rSpLeafL (p : Funs) (out : Strs) (i : Int) : roundK clSpLeafL 0 (loopIn Go.Proofs.Try.f18 0) lsSpLeafL (p, out, i, ()) =
  (if Decidable.decide (i < (↑(List.length p) : Int)) = Bool.true then
    if Go.Rx.G.smallP p = Bool.true then
      if Go.Rx.G.keepOk p = Bool.true then
        if Decidable.decide ((0 : Int) ≤ i) = Bool.true then
          if Decidable.decide (i < (↑(List.length p) : Int)) = Bool.true then
            if Go.Rx.G.few (List.length (List.getD p (Int.toNat i) (ByteArray.empty, Bool.false, [], PUnit.unit)).2.2.1) = Bool.true then
              if Decidable.decide ((↑(List.length (Go.Rx.G.refsOf (List.getD p (Int.toNat i) (ByteArray.empty, Bool.false, [], PUnit.unit)).2.2.1)) : Int) = (0 : Int)) = Bool.true then
                if Decidable.decide ((0 : Int) ≤ i) = Bool.true then
                  if Decidable.decide (i < (↑(List.length p) : Int)) = Bool.true then
                    if Decidable.decide (List.length out ≤ (1048576 : Nat)) = Bool.true then
                      Option.some
                        (Go.Rx.LRes.go
                          (p, Go.Rx.G.put out (List.getD p (Int.toNat i) (ByteArray.empty, Bool.false, [], PUnit.unit)).1,
                            Go.IntKind.wrap Go.IntKind.i64 (i + (1 : Int)), PUnit.unit))
                    else Option.none
                  else Option.none
                else Option.none
              else Option.some (Go.Rx.LRes.go (p, out, Go.IntKind.wrap Go.IntKind.i64 (i + (1 : Int)), PUnit.unit))
            else Option.none
          else Option.none
        else Option.none
      else Option.some (Go.Rx.LRes.stop (0 : Nat) (out, PUnit.unit) PUnit.unit)
    else Option.none
  else Option.some (Go.Rx.LRes.stop (0 : Nat) (out, PUnit.unit) PUnit.unit)) := by kernel_rfl
noncomputable abbrev muSpLeafL : PKs.den lsSpLeafL.ins → Nat := fun x => (G.lenK x.1) - x.2.2.1.toNat
theorem stSpLeafL (p : Funs) (out : Strs) (i : Int) (h : G.preSpLeafL p i out = true) : StepOk lsSpLeafL (eqInv lsSpLeafL) muSpLeafL (p, out, i, ()) (roundK clSpLeafL 0 (loopIn Go.Proofs.Try.f18 0) lsSpLeafL (p, out, i, ())) := by
  obtain ⟨⟨h0, h1, h2⟩, hn, hc⟩ := preSpLeafL_iff.1 h
  rw [rSpLeafL]
  by_cases hi : i < ((G.lenK p : Nat) : Int)
  · have hw : IntKind.i64.wrap (i + 1) = i + 1 := w64 (by omega) (by omega)
    have hs : G.fdSpLeafL p i (out, ()) = G.fdSpLeafL p (i + 1) (G.oneSpLeafL p (out, ()) i.toNat) := fold_step h0 hi
    refine fold_go (eqInv lsSpLeafL) muSpLeafL (p, (G.oneSpLeafL p (out, ()) i.toNat).1, i + 1, ()) ?_ (show G.preSpLeafL p (i + 1) (G.oneSpLeafL p (out, ()) i.toNat).1 = true from preSpLeafL_iff.2 ⟨⟨by omega, by omega, h2⟩, trivial, ?_⟩) ?_ ?_
    · rw [Bool.and_eq_true, decide_eq_true_iff] at hc
      obtain ⟨c1, c2, c3⟩ := hc
      obtain ⟨k1, k2, k3⟩ := lenK_lt hi h0
      have hb := body_few c1 (show i.toNat < p.length by omega)
      simp only [k1, k2, h0, c1, pAt_eq, hw, hb, decide_true, if_true, show out.length ≤ 1048576 by omega]
      by_cases hq : G.leafF (G.pAt p i.toNat) = true
      · refine (if_pos hq).trans ?_
        rw [show G.oneSpLeafL p (out, ()) i.toNat = (G.put out (G.pAt p i.toNat).1, ()) from congrArg (fun z : Strs => (z, ())) (if_pos hq)]
      · refine (if_neg hq).trans ?_
        rw [show G.oneSpLeafL p (out, ()) i.toNat = (out, ()) from congrArg (fun z : Strs => (z, ())) (if_neg hq)]
    · rw [Bool.and_eq_true, decide_eq_true_iff] at hc ⊢
      have hx := putIf_len G.leafF p out i.toNat
      exact ⟨hc.1, show p.length ≤ 65536 ∧ (((G.putIf G.leafF p out i.toNat).length : Nat) : Int) ≤ i + 1 by omega⟩
    · show (G.lenK p) - (i + 1).toNat < (G.lenK p) - i.toNat
      omega
    · show ((_, _), _) = ((_, _), _)
      simp only [hs]
  · have hs : G.fdSpLeafL p i (out, ()) = (out, ()) := fold_end (by omega)
    skip
    rw [Bool.and_eq_true] at hc
    rcases lenK_ge hi with hl |⟨hl, hk⟩
    · rw [if_neg (by simpa using hl)]
      show ((_, _), _) = ((_, _), _)
      simp only [hs]
    · rw [if_pos (decide_eq_true hl), if_pos hc.1, if_neg (by rw [hk]; decide)]
      show ((_, _), _) = ((_, _), _)
      simp only [hs]
theorem lpSpLeafL : LpOk Go.Proofs.Try.prog clSpLeafL.ntmps 0 (loopIn Go.Proofs.Try.f18 0) lsSpLeafL :=
  lp_okB (cxOk T0_ok T0_eq pr11_ok) mixed (by kernel_rfl) (lps_none (by kernel_rfl)) (eqInv lsSpLeafL) muSpLeafL (fun _ h => h) (fun x h => stSpLeafL x.1 x.2.1 x.2.2.1 h)
/-! SpGraphLeaf -/
noncomputable abbrev spSpGraphLeaf : Spec := ⟨[FunSP], .one (.c (.own strT)), false, fun x => G.funsB x.1, fun x => (G.named G.leafF x.1, ())⟩
noncomputable abbrev cxSpGraphLeaf : Cx := mkCx T0 pr11 [(0, lsSpLeafL)] [] 32
theorem eSpGraphLeaf (p : Funs) : funK cxSpGraphLeaf Go.Proofs.Try.f18 spSpGraphLeaf.ins spSpGraphLeaf.out (p, ()) =
  (if Go.Rx.G.preSpLeafL p (0 : Int) [] = Bool.true then Option.some (Go.Rx.G.fdSpLeafL p (0 : Int) ([], PUnit.unit)) else Option.none) := by kernel_rfl
theorem sfSpGraphLeaf (p : Funs) (h : G.funsB p = true) : funK cxSpGraphLeaf Go.Proofs.Try.f18 spSpGraphLeaf.ins spSpGraphLeaf.out (p, ()) = some (G.named G.leafF p, ()) := by
  have hl := ((funsB_iff p).1 h).1
  have hk := lenK_le p
  rw [eSpGraphLeaf, if_pos (preSpLeafL_iff.2 ⟨⟨by omega, by omega, by omega⟩, trivial, by rw [Bool.and_eq_true, decide_eq_true_iff]; exact ⟨funsB_small h, by omega, by simp⟩⟩)]
  have e : G.fdSpLeafL p 0 ([], ()) = (G.putsIf G.leafF p, ()) := fold_unit (G.putIf G.leafF p) (G.lenK p) 0 []
  rw [e, putsIf_eq]
theorem okSpGraphLeaf : SpecOk Go.Proofs.Try.prog 18 spSpGraphLeaf :=
  fun_okB (cx := cxSpGraphLeaf) (F := Go.Proofs.Try.f18) (cxOk T0_ok T0_eq pr11_ok) mixed (by kernel_rfl) (by decide) (by kernel_rfl) (lps_of (l := [(0, loopIn Go.Proofs.Try.f18 0)]) (by kernel_rfl) ⟨lp_at lpSpLeafL rfl, trivial⟩) (fun x h => sfSpGraphLeaf x.1 h)
/-! what is behind a function -/
def G.putsF (l : Funs) (a : Strs) : Strs := G.fold (fun (out : Strs) k => G.put out (G.pAt l k).1) l.length 0 a
theorem putsF_len (l : Funs) (a : Strs) : (G.putsF l a).length ≤ a.length + l.length := fold_len (fun b k => put_len b _) l.length a
theorem mem_putsF {l : Funs} {a : Strs} {x : ByteArray × Unit} : x ∈ G.putsF l a ↔ (x ∈ a ∨ ∃ k, k < l.length ∧ x = ((G.pAt l k).1, ())) := fold_mem (f := fun (out : Strs) k => G.put out (G.pAt l k).1) (Q := fun k x => x = ((G.pAt l k).1, ())) (fun b k x => mem_put) a x l.length
def G.behind (p : Funs) (refs : Strs) (a : Strs) : Strs := G.fold (fun (out : Strs) k => G.putsF (G.rchL p (G.sAt refs k)) out) refs.length 0 a
theorem mem_behind {p : Funs} {refs a : Strs} {x : ByteArray × Unit} : x ∈ G.behind p refs a ↔ (x ∈ a ∨ ∃ k, k < refs.length ∧ ∃ j, j < (G.rchL p (G.sAt refs k)).length ∧ x = ((G.pAt (G.rchL p (G.sAt refs k)) j).1, ())) := fold_mem (f := fun (out : Strs) k => G.putsF (G.rchL p (G.sAt refs k)) out) (Q := fun k x => ∃ j, j < (G.rchL p (G.sAt refs k)).length ∧ x = ((G.pAt (G.rchL p (G.sAt refs k)) j).1, ())) (fun b k x => mem_putsF) a x refs.length
theorem behind_len (p : Funs) (refs : Strs) (a : Strs) : (G.behind p refs a).length ≤ a.length + (p.length + 1) * refs.length := fold_lenC (c := p.length + 1) (f := fun (out : Strs) k => G.putsF (G.rchL p (G.sAt refs k)) out) (fun b k => by
  have h1 := putsF_len (G.rchL p (G.sAt refs k)) b
  have h2 := rchL_len p (G.sAt refs k)
  show (G.putsF (G.rchL p (G.sAt refs k)) b).length ≤ _
  omega) a refs.length
/-! BehL2: a gathering -/
def G.preBehL2 (l : Funs) (i : Int) (out : Strs) : Bool := G.preA (l.length) i && (true && decide ((out.length : Int) ≤ 500000 + i ∧ l.length ≤ 65536))
theorem preBehL2_iff {l : Funs} {i : Int} {out : Strs} : G.preBehL2 l i out = true ↔ (0 ≤ i ∧ i ≤ ((l.length : Nat) : Int) ∧ (l.length : Nat) ≤ 1099511627776) ∧ True ∧ decide ((out.length : Int) ≤ 500000 + i ∧ l.length ≤ 65536) = true := by simp [G.preBehL2, preA_iff]
def G.oneBehL2 (l : Funs) (a : Strs × Unit) (k : Nat) : Strs × Unit := (G.put a.1 (G.pAt l k).1, ())
def G.fdBehL2 (l : Funs) (i : Int) (a : Strs × Unit) : Strs × Unit := G.fold (G.oneBehL2 l) (l.length) i a
noncomputable abbrev lsBehL2 : LSpec := ⟨[5, 8, 10], [5], [.c (.own strT), FunSP, IntP], [.c (.own strT)], false, fun x => G.preBehL2 x.2.1 x.2.2.1 x.1,
  fun x => ((0, G.fdBehL2 x.2.1 x.2.2.1 (x.1, ())), ())⟩
noncomputable abbrev clBehL2 : Cx := mkCx T0 pr11 [(2, lsBehL2)] [] 48
theorem rBehL2 (out : Strs) (l : Funs) (i : Int) : roundK clBehL2 2 (loopIn Go.Proofs.Try.f62 2) lsBehL2 (out, l, i, ()) =
  (if Decidable.decide (i < (↑(List.length l) : Int)) = Bool.true then
    if Decidable.decide ((0 : Int) ≤ i) = Bool.true then
      if Decidable.decide (i < (↑(List.length l) : Int)) = Bool.true then
        if Decidable.decide (List.length out ≤ (1048576 : Nat)) = Bool.true then
          Option.some
            (Go.Rx.LRes.go
              (Go.Rx.G.put out (List.getD l (Int.toNat i) (ByteArray.empty, Bool.false, [], PUnit.unit)).1, l, Go.IntKind.wrap Go.IntKind.i64 (i + (1 : Int)), PUnit.unit))
        else Option.none
      else Option.none
    else Option.none
  else Option.some (Go.Rx.LRes.stop (0 : Nat) (out, PUnit.unit) PUnit.unit)) := by kernel_rfl
noncomputable abbrev muBehL2 : PKs.den lsBehL2.ins → Nat := fun x => (x.2.1.length) - x.2.2.1.toNat
theorem stBehL2 (out : Strs) (l : Funs) (i : Int) (h : G.preBehL2 l i out = true) : StepOk lsBehL2 (eqInv lsBehL2) muBehL2 (out, l, i, ()) (roundK clBehL2 2 (loopIn Go.Proofs.Try.f62 2) lsBehL2 (out, l, i, ())) := by
  obtain ⟨⟨h0, h1, h2⟩, hn, hc⟩ := preBehL2_iff.1 h
  rw [rBehL2]
  by_cases hi : i < ((l.length : Nat) : Int)
  · have hw : IntKind.i64.wrap (i + 1) = i + 1 := w64 (by omega) (by omega)
    have hs : G.fdBehL2 l i (out, ()) = G.fdBehL2 l (i + 1) (G.oneBehL2 l (out, ()) i.toNat) := fold_step h0 hi
    refine fold_go (eqInv lsBehL2) muBehL2 ((G.oneBehL2 l (out, ()) i.toNat).1, l, i + 1, ()) ?_ (show G.preBehL2 l (i + 1) (G.oneBehL2 l (out, ()) i.toNat).1 = true from preBehL2_iff.2 ⟨⟨by omega, by omega, h2⟩, trivial, ?_⟩) ?_ ?_
    · have hl := of_decide_eq_true hc
      simp only [hi, h0, pAt_eq, show out.length ≤ 1048576 by omega, hw, decide_true, if_true]
      rfl
    · have hc := of_decide_eq_true hc
      have hp := put_len out (G.pAt l i.toNat).1
      exact decide_eq_true (show (((G.put out (G.pAt l i.toNat).1).length : Nat) : Int) ≤ 500000 + (i + 1) ∧ l.length ≤ 65536 by omega)
    · show (l.length) - (i + 1).toNat < (l.length) - i.toNat
      omega
    · show ((_, _), _) = ((_, _), _)
      simp only [hs]
  · have hs : G.fdBehL2 l i (out, ()) = (out, ()) := fold_end (by omega)
    skip
    rw [if_neg (by simpa using hi)]
    show ((_, _), _) = ((_, _), _)
    simp only [hs]
theorem lpBehL2 : LpOk Go.Proofs.Try.prog clBehL2.ntmps 2 (loopIn Go.Proofs.Try.f62 2) lsBehL2 :=
  lp_okB (cxOk T0_ok T0_eq pr11_ok) mixed (by kernel_rfl) (lps_none (by kernel_rfl)) (eqInv lsBehL2) muBehL2 (fun _ h => h) (fun x h => stBehL2 x.1 x.2.1 x.2.2.1 h)
/-! BehL0: a gathering -/
def G.preBehL0 (p : Funs) (refs : Strs) (i : Int) (out : Strs) : Bool := G.preA (refs.length) i && (true && (G.thin p && decide ((out.length : Int) ≤ 5000 * i ∧ refs.length ≤ 16)))
theorem preBehL0_iff {p : Funs} {refs : Strs} {i : Int} {out : Strs} : G.preBehL0 p refs i out = true ↔ (0 ≤ i ∧ i ≤ ((refs.length : Nat) : Int) ∧ (refs.length : Nat) ≤ 1099511627776) ∧ True ∧ (G.thin p && decide ((out.length : Int) ≤ 5000 * i ∧ refs.length ≤ 16)) = true := by simp [G.preBehL0, preA_iff]
def G.oneBehL0 (p : Funs) (refs : Strs) (a : Strs × Unit) (k : Nat) : Strs × Unit := (G.putsF (G.rchL p (G.sAt refs k)) a.1, ())
def G.fdBehL0 (p : Funs) (refs : Strs) (i : Int) (a : Strs × Unit) : Strs × Unit := G.fold (G.oneBehL0 p refs) (refs.length) i a
noncomputable abbrev lsBehL0 : LSpec := ⟨[0, 5, 6, 7], [5], [FunSP, .c (.own strT), StrSP, IntP], [.c (.own strT)], false, fun x => G.preBehL0 x.1 x.2.2.1 x.2.2.2.1 x.2.1,
  fun x => ((0, G.fdBehL0 x.1 x.2.2.1 x.2.2.2.1 (x.2.1, ())), ())⟩
noncomputable abbrev clBehL0 : Cx := mkCx T0 pr11 [(2, lsBehL2), (0, lsBehL0)] [] 48
theorem rBehL0 (p : Funs) (out : Strs) (refs : Strs) (i : Int) : roundK clBehL0 0 (loopIn Go.Proofs.Try.f62 0) lsBehL0 (p, out, refs, i, ()) =
  (if Decidable.decide (i < (↑(List.length refs) : Int)) = Bool.true then
    if Decidable.decide ((0 : Int) ≤ i) = Bool.true then
      if Decidable.decide (i < (↑(List.length refs) : Int)) = Bool.true then
        if Go.Rx.G.thinU [(p, PUnit.unit)] = Bool.true then
          if
              Go.Rx.G.preBehL2
                  (if (Go.Rx.G.walkF [(p, PUnit.unit)] (List.getD refs (Int.toNat i) (ByteArray.empty, PUnit.unit)).1).2 = Bool.true then
                    (Go.Rx.G.walkF [(p, PUnit.unit)] (List.getD refs (Int.toNat i) (ByteArray.empty, PUnit.unit)).1).1
                  else [])
                  (0 : Int) out =
                Bool.true then
            Option.some
              (Go.Rx.LRes.go
                (p,
                  (Go.Rx.G.fdBehL2
                      (if (Go.Rx.G.walkF [(p, PUnit.unit)] (List.getD refs (Int.toNat i) (ByteArray.empty, PUnit.unit)).1).2 = Bool.true then
                        (Go.Rx.G.walkF [(p, PUnit.unit)] (List.getD refs (Int.toNat i) (ByteArray.empty, PUnit.unit)).1).1
                      else [])
                      (0 : Int) (out, PUnit.unit)).1,
                  refs, Go.IntKind.wrap Go.IntKind.i64 (i + (1 : Int)), PUnit.unit))
          else Option.none
        else Option.none
      else Option.none
    else Option.none
  else Option.some (Go.Rx.LRes.stop (0 : Nat) (out, PUnit.unit) PUnit.unit)) := by kernel_rfl
noncomputable abbrev muBehL0 : PKs.den lsBehL0.ins → Nat := fun x => (x.2.2.1.length) - x.2.2.2.1.toNat
theorem stBehL0 (p : Funs) (out : Strs) (refs : Strs) (i : Int) (h : G.preBehL0 p refs i out = true) : StepOk lsBehL0 (eqInv lsBehL0) muBehL0 (p, out, refs, i, ()) (roundK clBehL0 0 (loopIn Go.Proofs.Try.f62 0) lsBehL0 (p, out, refs, i, ())) := by
  obtain ⟨⟨h0, h1, h2⟩, hn, hc⟩ := preBehL0_iff.1 h
  rw [rBehL0]
  by_cases hi : i < ((refs.length : Nat) : Int)
  · have hw : IntKind.i64.wrap (i + 1) = i + 1 := w64 (by omega) (by omega)
    have hs : G.fdBehL0 p refs i (out, ()) = G.fdBehL0 p refs (i + 1) (G.oneBehL0 p refs (out, ()) i.toNat) := fold_step h0 hi
    refine fold_go (eqInv lsBehL0) muBehL0 (p, (G.oneBehL0 p refs (out, ()) i.toNat).1, refs, i + 1, ()) ?_ (show G.preBehL0 p refs (i + 1) (G.oneBehL0 p refs (out, ()) i.toNat).1 = true from preBehL0_iff.2 ⟨⟨by omega, by omega, h2⟩, trivial, ?_⟩) ?_ ?_
    · rw [Bool.and_eq_true, decide_eq_true_iff] at hc
      obtain ⟨c1, c2, c3⟩ := hc
      have hl := (thin_iff.1 c1).1
      have h4 := rchL_len p (G.sAt refs i.toNat)
      have hpre : G.preBehL2 (G.rchL p (G.sAt refs i.toNat)) 0 out = true := preBehL2_iff.2 ⟨⟨by omega, by omega, by omega⟩, trivial, decide_eq_true ⟨by omega, by omega⟩⟩
      have e : G.fdBehL2 (G.rchL p (G.sAt refs i.toNat)) 0 (out, ()) = (G.putsF (G.rchL p (G.sAt refs i.toNat)) out, ()) := fold_unit (fun (out : Strs) k => G.put out (G.pAt (G.rchL p (G.sAt refs i.toNat)) k).1) (G.rchL p (G.sAt refs i.toNat)).length 0 out
      rw [if_pos (decide_eq_true hi), if_pos (thin_U c1), if_pos (decide_eq_true h0), if_pos (decide_eq_true hi), sAt_eq, walkL_one, if_pos hpre, hw, e]
      rfl
    · rw [Bool.and_eq_true, decide_eq_true_iff] at hc ⊢
      obtain ⟨c1, c2, c3⟩ := hc
      have hl := (thin_iff.1 c1).1
      have h3 := putsF_len (G.rchL p (G.sAt refs i.toNat)) out
      have h4 := rchL_len p (G.sAt refs i.toNat)
      exact ⟨c1, show (((G.putsF (G.rchL p (G.sAt refs i.toNat)) out).length : Nat) : Int) ≤ 5000 * (i + 1) ∧ refs.length ≤ 16 by omega⟩
    · show (refs.length) - (i + 1).toNat < (refs.length) - i.toNat
      omega
    · show ((_, _), _) = ((_, _), _)
      simp only [hs]
  · have hs : G.fdBehL0 p refs i (out, ()) = (out, ()) := fold_end (by omega)
    skip
    rw [if_neg (by simpa using hi)]
    show ((_, _), _) = ((_, _), _)
    simp only [hs]
theorem lpBehL0 : LpOk Go.Proofs.Try.prog clBehL0.ntmps 0 (loopIn Go.Proofs.Try.f62 0) lsBehL0 :=
  lp_okB (cxOk T0_ok T0_eq pr11_ok) mixed (by kernel_rfl) (lps_of (l := [(2, loopIn Go.Proofs.Try.f62 2)]) (by kernel_rfl) ⟨lp_at lpBehL2 rfl, trivial⟩) (eqInv lsBehL0) muBehL0 (fun _ h => h) (fun x h => stBehL0 x.1 x.2.1 x.2.2.1 x.2.2.2.1 h)
/-! Behind -/
noncomputable abbrev spBehind : Spec := ⟨[FunSP, IntP], .one (.c (.own strT)), false, fun x => G.thin x.1 && decide (0 ≤ x.2.1 ∧ x.2.1 < x.1.length), fun x => (G.behind x.1 (G.refsOf (G.pAt x.1 x.2.1.toNat).2.2.1) [], ())⟩
noncomputable abbrev cxBehind : Cx := mkCx T0 pr11 [(0, lsBehL0)] [] 48
theorem eBehind (p : Funs) (k : Int) : funK cxBehind Go.Proofs.Try.f62 spBehind.ins spBehind.out (p, k, ()) =
  (if Decidable.decide ((0 : Int) ≤ k) = Bool.true then
    if Decidable.decide (k < (↑(List.length p) : Int)) = Bool.true then
      if Go.Rx.G.few (List.length (List.getD p (Int.toNat k) (ByteArray.empty, Bool.false, [], PUnit.unit)).2.2.1) = Bool.true then
        if Go.Rx.G.preBehL0 p (Go.Rx.G.refsOf (List.getD p (Int.toNat k) (ByteArray.empty, Bool.false, [], PUnit.unit)).2.2.1) (0 : Int) [] = Bool.true then
          Option.some (Go.Rx.G.fdBehL0 p (Go.Rx.G.refsOf (List.getD p (Int.toNat k) (ByteArray.empty, Bool.false, [], PUnit.unit)).2.2.1) (0 : Int) ([], PUnit.unit))
        else Option.none
      else Option.none
    else Option.none
  else Option.none) := by kernel_rfl
theorem sfBehind (p : Funs) (k : Int) (h : (G.thin p && decide (0 ≤ k ∧ k < p.length)) = true) : funK cxBehind Go.Proofs.Try.f62 spBehind.ins spBehind.out (p, k, ()) = some (G.behind p (G.refsOf (G.pAt p k.toNat).2.2.1) [], ()) := by
  rw [Bool.and_eq_true, decide_eq_true_iff] at h
  obtain ⟨h1, h2, h3⟩ := h
  obtain ⟨t1, t2⟩ := thin_iff.1 h1
  have hb := t2 k.toNat (by omega)
  have hr := refsOf_len (G.pAt p k.toNat).2.2.1
  rw [eBehind, if_pos (decide_eq_true h2), if_pos (decide_eq_true h3), pAt_eq, if_pos (few_iff.2 (by omega)), if_pos (preBehL0_iff.2 ⟨⟨by omega, by omega, by omega⟩, trivial, by rw [Bool.and_eq_true, decide_eq_true_iff]; exact ⟨h1, by simp, by omega⟩⟩)]
  exact congrArg some (fold_unit (fun (out : Strs) j => G.putsF (G.rchL p (G.sAt (G.refsOf (G.pAt p k.toNat).2.2.1) j)) out) (G.refsOf (G.pAt p k.toNat).2.2.1).length 0 [])
theorem okBehind : SpecOk Go.Proofs.Try.prog 62 spBehind :=
  fun_okB (cx := cxBehind) (F := Go.Proofs.Try.f62) (cxOk T0_ok T0_eq pr11_ok) mixed (by kernel_rfl) (by decide) (by kernel_rfl) (lps_of (l := [(0, loopIn Go.Proofs.Try.f62 0)]) (by kernel_rfl) ⟨lp_at lpBehL0 rfl, trivial⟩) (fun x h => sfBehind x.1 x.2.1 h)
noncomputable abbrev pg61 : List (Nat × List Spec) := (62, [spBehind]) :: pr11
theorem pg61_ok : PhiOk Go.Proofs.Try.prog pg61 := ⟨⟨okBehind, trivial⟩, pr11_ok⟩
def G.spBackF (p : Funs) (f : Fun) : Bool := G.hasS (G.behind p (G.refsOf f.2.2.1) []) f.1
theorem find_ge {l : Funs} {s : ByteArray} : G.find l s ≥ 0 ↔ ∃ j, j < l.length ∧ (G.pAt l j).1 = s := by
  constructor
  · intro h
    obtain ⟨h1, h2, _⟩ := find_ok (show ¬ G.find l s < 0 by omega)
    exact ⟨_, h1, h2⟩
  · rintro ⟨j, hj, rfl⟩
    have := find_some hj
    omega
theorem backF_iff {p : Funs} {f : Fun} : G.backF p f = true ↔ ∃ k, k < (G.refsOf f.2.2.1).length ∧ ∃ j, j < (G.rchL p (G.sAt (G.refsOf f.2.2.1) k)).length ∧ (G.pAt (G.rchL p (G.sAt (G.refsOf f.2.2.1) k)) j).1 = f.1 := by
  unfold G.backF
  rw [anyFrom_zero]
  refine exists_congr fun k => and_congr_right fun _ => ?_
  unfold G.backAt G.backQ
  rw [decide_eq_true_iff, find_ge]
theorem spBackF_eq (p : Funs) : G.spBackF p = G.backF p := by
  funext f
  rw [Bool.eq_iff_iff, backF_iff]
  unfold G.spBackF
  rw [hasS_iff, mem_behind]
  constructor
  · rintro (h | ⟨k, hk, j, hj, e⟩)
    · cases h
    · exact ⟨k, hk, j, hj, (congrArg (fun q : ByteArray × Unit => q.1) e).symm⟩
  · rintro ⟨k, hk, j, hj, e⟩
    exact .inr ⟨k, hk, j, hj, by rw [e]⟩
/-! SpBackL: a gathering -/
def G.preSpBackL (p : Funs) (i : Int) (out : Strs) : Bool := G.preA (G.lenK p) i && (true && (G.smallP p && decide (p.length ≤ 65536 ∧ (out.length : Int) ≤ i)))
theorem preSpBackL_iff {p : Funs} {i : Int} {out : Strs} : G.preSpBackL p i out = true ↔ (0 ≤ i ∧ i ≤ ((G.lenK p : Nat) : Int) ∧ (G.lenK p : Nat) ≤ 1099511627776) ∧ True ∧ (G.smallP p && decide (p.length ≤ 65536 ∧ (out.length : Int) ≤ i)) = true := by simp [G.preSpBackL, preA_iff]
def G.oneSpBackL (p : Funs) (a : Strs × Unit) (k : Nat) : Strs × Unit := (G.putIf (G.spBackF p) p a.1 k, ())
def G.fdSpBackL (p : Funs) (i : Int) (a : Strs × Unit) : Strs × Unit := G.fold (G.oneSpBackL p) (G.lenK p) i a
noncomputable abbrev lsSpBackL : LSpec := ⟨[0, 3, 4], [3], [FunSP, .c (.own strT), IntP], [.c (.own strT)], false, fun x => G.preSpBackL x.1 x.2.2.1 x.2.1,
  fun x => ((0, G.fdSpBackL x.1 x.2.2.1 (x.2.1, ())), ())⟩
noncomputable abbrev clSpBackL : Cx := mkCx T0 pg61 [(0, lsSpBackL)] [] 33
theorem rSpBackL (p : Funs) (out : Strs) (i : Int) : roundK clSpBackL 0 (loopIn Go.Proofs.Try.f28 0) lsSpBackL (p, out, i, ()) =
  (if Decidable.decide (i < (↑(List.length p) : Int)) = Bool.true then
    if Go.Rx.G.smallP p = Bool.true then
      if Go.Rx.G.keepOk p = Bool.true then
        if (Go.Rx.G.thin p && Decidable.decide ((0 : Int) ≤ i ∧ i < (↑(List.length p) : Int))) = Bool.true then
          if Decidable.decide ((0 : Int) ≤ i) = Bool.true then
            if Decidable.decide (i < (↑(List.length p) : Int)) = Bool.true then
              if Go.Rx.G.few (List.length (Go.Rx.G.behind p (Go.Rx.G.refsOf (Go.Rx.G.pAt p (Int.toNat i)).2.2.1) [])) = Bool.true then
                if
                    Go.Rx.G.hasS (Go.Rx.G.behind p (Go.Rx.G.refsOf (Go.Rx.G.pAt p (Int.toNat i)).2.2.1) [])
                        (List.getD p (Int.toNat i) (ByteArray.empty, Bool.false, [], PUnit.unit)).1 =
                      Bool.true then
                  if Decidable.decide ((0 : Int) ≤ i) = Bool.true then
                    if Decidable.decide (i < (↑(List.length p) : Int)) = Bool.true then
                      if Decidable.decide (List.length out ≤ (1048576 : Nat)) = Bool.true then
                        Option.some
                          (Go.Rx.LRes.go
                            (p, Go.Rx.G.put out (List.getD p (Int.toNat i) (ByteArray.empty, Bool.false, [], PUnit.unit)).1,
                              Go.IntKind.wrap Go.IntKind.i64 (i + (1 : Int)), PUnit.unit))
                      else Option.none
                    else Option.none
                  else Option.none
                else Option.some (Go.Rx.LRes.go (p, out, Go.IntKind.wrap Go.IntKind.i64 (i + (1 : Int)), PUnit.unit))
              else Option.none
            else Option.none
          else Option.none
        else Option.none
      else Option.some (Go.Rx.LRes.stop (0 : Nat) (out, PUnit.unit) PUnit.unit)
    else Option.none
  else Option.some (Go.Rx.LRes.stop (0 : Nat) (out, PUnit.unit) PUnit.unit)) := by kernel_rfl
noncomputable abbrev muSpBackL : PKs.den lsSpBackL.ins → Nat := fun x => (G.lenK x.1) - x.2.2.1.toNat
theorem stSpBackL (p : Funs) (out : Strs) (i : Int) (h : G.preSpBackL p i out = true) : StepOk lsSpBackL (eqInv lsSpBackL) muSpBackL (p, out, i, ()) (roundK clSpBackL 0 (loopIn Go.Proofs.Try.f28 0) lsSpBackL (p, out, i, ())) := by
  obtain ⟨⟨h0, h1, h2⟩, hn, hc⟩ := preSpBackL_iff.1 h
  rw [rSpBackL]
  by_cases hi : i < ((G.lenK p : Nat) : Int)
  · have hw : IntKind.i64.wrap (i + 1) = i + 1 := w64 (by omega) (by omega)
    have hs : G.fdSpBackL p i (out, ()) = G.fdSpBackL p (i + 1) (G.oneSpBackL p (out, ()) i.toNat) := fold_step h0 hi
    refine fold_go (eqInv lsSpBackL) muSpBackL (p, (G.oneSpBackL p (out, ()) i.toNat).1, i + 1, ()) ?_ (show G.preSpBackL p (i + 1) (G.oneSpBackL p (out, ()) i.toNat).1 = true from preSpBackL_iff.2 ⟨⟨by omega, by omega, h2⟩, trivial, ?_⟩) ?_ ?_
    · rw [Bool.and_eq_true, decide_eq_true_iff] at hc
      obtain ⟨c1, c2, c3⟩ := hc
      obtain ⟨k1, k2, k3⟩ := lenK_lt hi h0
      have ht := keepOk_thin k1
      have hp : (G.thin p && decide (0 ≤ i ∧ i < p.length)) = true := by rw [Bool.and_eq_true, decide_eq_true_iff]; exact ⟨ht, h0, k2⟩
      have hbl : G.few (G.behind p (G.refsOf (G.pAt p i.toNat).2.2.1) []).length = true := by
        obtain ⟨t1, t2⟩ := thin_iff.1 ht
        have t3 := t2 i.toNat (by omega)
        have hr := refsOf_len (G.pAt p i.toNat).2.2.1
        have hb := behind_len p (G.refsOf (G.pAt p i.toNat).2.2.1) []
        have hm : (p.length + 1) * (G.refsOf (G.pAt p i.toNat).2.2.1).length ≤ 4097 * 16 := Nat.mul_le_mul (by omega) (by omega)
        simp only [List.length_nil] at hb
        exact few_iff.2 (by omega)
      simp only [k1, k2, h0, c1, ht, pAt_eq, hbl, hw, decide_true, if_true, and_self, Bool.and_self, show out.length ≤ 1048576 by omega]
      by_cases hq : G.spBackF p (G.pAt p i.toNat) = true
      · refine (if_pos hq).trans ?_
        rw [show G.oneSpBackL p (out, ()) i.toNat = (G.put out (G.pAt p i.toNat).1, ()) from congrArg (fun z : Strs => (z, ())) (if_pos hq)]
      · refine (if_neg hq).trans ?_
        rw [show G.oneSpBackL p (out, ()) i.toNat = (out, ()) from congrArg (fun z : Strs => (z, ())) (if_neg hq)]
    · rw [Bool.and_eq_true, decide_eq_true_iff] at hc ⊢
      have hx := putIf_len (G.spBackF p) p out i.toNat
      exact ⟨hc.1, show p.length ≤ 65536 ∧ (((G.putIf (G.spBackF p) p out i.toNat).length : Nat) : Int) ≤ i + 1 by omega⟩
    · show (G.lenK p) - (i + 1).toNat < (G.lenK p) - i.toNat
      omega
    · show ((_, _), _) = ((_, _), _)
      simp only [hs]
  · have hs : G.fdSpBackL p i (out, ()) = (out, ()) := fold_end (by omega)
    skip
    rw [Bool.and_eq_true] at hc
    rcases lenK_ge hi with hl |⟨hl, hk⟩
    · rw [if_neg (by simpa using hl)]
      show ((_, _), _) = ((_, _), _)
      simp only [hs]
    · rw [if_pos (decide_eq_true hl), if_pos hc.1, if_neg (by rw [hk]; decide)]
      show ((_, _), _) = ((_, _), _)
      simp only [hs]
theorem lpSpBackL : LpOk Go.Proofs.Try.prog clSpBackL.ntmps 0 (loopIn Go.Proofs.Try.f28 0) lsSpBackL :=
  lp_okB (cxOk T0_ok T0_eq pg61_ok) mixed (by kernel_rfl) (lps_none (by kernel_rfl)) (eqInv lsSpBackL) muSpBackL (fun _ h => h) (fun x h => stSpBackL x.1 x.2.1 x.2.2.1 h)
/-! SpGraphBack -/
noncomputable abbrev spSpGraphBack : Spec := ⟨[FunSP], .one (.c (.own strT)), false, fun x => G.funsB x.1, fun x => (G.named (G.backF x.1) x.1, ())⟩
noncomputable abbrev cxSpGraphBack : Cx := mkCx T0 pg61 [(0, lsSpBackL)] [] 33
theorem eSpGraphBack (p : Funs) : funK cxSpGraphBack Go.Proofs.Try.f28 spSpGraphBack.ins spSpGraphBack.out (p, ()) =
  (if Go.Rx.G.preSpBackL p (0 : Int) [] = Bool.true then Option.some (Go.Rx.G.fdSpBackL p (0 : Int) ([], PUnit.unit)) else Option.none) := by kernel_rfl
theorem sfSpGraphBack (p : Funs) (h : G.funsB p = true) : funK cxSpGraphBack Go.Proofs.Try.f28 spSpGraphBack.ins spSpGraphBack.out (p, ()) = some (G.named (G.backF p) p, ()) := by
  have hl := ((funsB_iff p).1 h).1
  have hk := lenK_le p
  rw [eSpGraphBack, if_pos (preSpBackL_iff.2 ⟨⟨by omega, by omega, by omega⟩, trivial, by rw [Bool.and_eq_true, decide_eq_true_iff]; exact ⟨funsB_small h, by omega, by simp⟩⟩)]
  have e : G.fdSpBackL p 0 ([], ()) = (G.putsIf (G.spBackF p) p, ()) := fold_unit (G.putIf (G.spBackF p) p) (G.lenK p) 0 []
  rw [e, putsIf_eq, spBackF_eq]
theorem okSpGraphBack : SpecOk Go.Proofs.Try.prog 28 spSpGraphBack :=
  fun_okB (cx := cxSpGraphBack) (F := Go.Proofs.Try.f28) (cxOk T0_ok T0_eq pg61_ok) mixed (by kernel_rfl) (by decide) (by kernel_rfl) (lps_of (l := [(0, loopIn Go.Proofs.Try.f28 0)]) (by kernel_rfl) ⟨lp_at lpSpBackL rfl, trivial⟩) (fun x h => sfSpGraphBack x.1 h)
/-! what is drawn -/
/-! DrawGraphLeaf -/
noncomputable abbrev cxDrawGraphLeaf : Cx := mkCx T0 pdk [] [] 6
noncomputable def G.dDrawGraphLeaf (x : PKs.den [BytesP]) : RK.den (.one FunsO) × Bxs.den [BytesP] := G.val (funK cxDrawGraphLeaf Go.Proofs.Try.f16 [BytesP] (.one FunsO) x)
noncomputable abbrev spDrawGraphLeaf : Spec := ⟨[BytesP], .one FunsO, true, fun x => x.1.all G.byteOk, fun x => G.dDrawGraphLeaf x⟩
theorem eDrawGraphLeaf (c : Bytes) : funK cxDrawGraphLeaf Go.Proofs.Try.f16 [BytesP] (.one FunsO) (c, ()) =
  (if Go.Rx.G.rd (400000 : Int) (List.take (2000 : Nat) c, (0 : Int), PUnit.unit) = Bool.true then
    Option.some ((Go.Rx.G.dL4Bent ((List.take (2000 : Nat) c, (0 : Int), PUnit.unit), PUnit.unit)).1, PUnit.unit)
  else Option.none) := by kernel_rfl
theorem sfDrawGraphLeaf (c : Bytes) (h : c.all G.byteOk = true) : ∃ r, funK cxDrawGraphLeaf Go.Proofs.Try.f16 [BytesP] (.one FunsO) (c, ()) = some r ∧ DKPost (c, ()) r := by
  have h0 := open_rd h
  have h1 := rd_le h0 (show (0 : Int) ≤ 400000 by omega)
  obtain ⟨_, p1, p2⟩ := postL4Bent ((c.take 2000, 0, ()), ()) h1
  rw [eDrawGraphLeaf, if_pos h1]
  exact ⟨_, rfl, p2⟩
theorem postDrawGraphLeaf (x : PKs.den [BytesP]) (h : (x.1.all G.byteOk) = true) : funK cxDrawGraphLeaf Go.Proofs.Try.f16 [BytesP] (.one FunsO) x = some (G.dDrawGraphLeaf x) ∧ DKPost x (G.dDrawGraphLeaf x) := val_of (sfDrawGraphLeaf x.1 h)
theorem okDrawGraphLeaf : SpecOk Go.Proofs.Try.prog 16 spDrawGraphLeaf :=
  fun_okB (cx := cxDrawGraphLeaf) (F := Go.Proofs.Try.f16) (cxOk T0_ok T0_eq pdk_ok) mixed (by kernel_rfl) (by decide) (by kernel_rfl) (lps_none (by kernel_rfl)) (fun x h => (postDrawGraphLeaf x h).1)
/-! DrawGraphBack -/
noncomputable abbrev cxDrawGraphBack : Cx := mkCx T0 pdk [] [] 6
noncomputable def G.dDrawGraphBack (x : PKs.den [BytesP]) : RK.den (.one FunsO) × Bxs.den [BytesP] := G.val (funK cxDrawGraphBack Go.Proofs.Try.f27 [BytesP] (.one FunsO) x)
noncomputable abbrev spDrawGraphBack : Spec := ⟨[BytesP], .one FunsO, true, fun x => x.1.all G.byteOk, fun x => G.dDrawGraphBack x⟩
theorem eDrawGraphBack (c : Bytes) : funK cxDrawGraphBack Go.Proofs.Try.f27 [BytesP] (.one FunsO) (c, ()) =
  (if Go.Rx.G.rd (400000 : Int) (List.take (2000 : Nat) c, (0 : Int), PUnit.unit) = Bool.true then
    Option.some ((Go.Rx.G.dL4Bent ((List.take (2000 : Nat) c, (0 : Int), PUnit.unit), PUnit.unit)).1, PUnit.unit)
  else Option.none) := by kernel_rfl
theorem sfDrawGraphBack (c : Bytes) (h : c.all G.byteOk = true) : ∃ r, funK cxDrawGraphBack Go.Proofs.Try.f27 [BytesP] (.one FunsO) (c, ()) = some r ∧ DKPost (c, ()) r := by
  have h0 := open_rd h
  have h1 := rd_le h0 (show (0 : Int) ≤ 400000 by omega)
  obtain ⟨_, p1, p2⟩ := postL4Bent ((c.take 2000, 0, ()), ()) h1
  rw [eDrawGraphBack, if_pos h1]
  exact ⟨_, rfl, p2⟩
theorem postDrawGraphBack (x : PKs.den [BytesP]) (h : (x.1.all G.byteOk) = true) : funK cxDrawGraphBack Go.Proofs.Try.f27 [BytesP] (.one FunsO) x = some (G.dDrawGraphBack x) ∧ DKPost x (G.dDrawGraphBack x) := val_of (sfDrawGraphBack x.1 h)
theorem okDrawGraphBack : SpecOk Go.Proofs.Try.prog 27 spDrawGraphBack :=
  fun_okB (cx := cxDrawGraphBack) (F := Go.Proofs.Try.f27) (cxOk T0_ok T0_eq pdk_ok) mixed (by kernel_rfl) (by decide) (by kernel_rfl) (lps_none (by kernel_rfl)) (fun x h => (postDrawGraphBack x h).1)
noncomputable abbrev pg62 : List (Nat × List Spec) := (18, [spSpGraphLeaf]) :: (28, [spSpGraphBack]) :: (16, [spDrawGraphLeaf]) :: (27, [spDrawGraphBack]) :: pl1
theorem pg62_ok : PhiOk Go.Proofs.Try.prog pg62 := ⟨⟨okSpGraphLeaf, trivial⟩, ⟨okSpGraphBack, trivial⟩, ⟨okDrawGraphLeaf, trivial⟩, ⟨okDrawGraphBack, trivial⟩, pl1_ok⟩
end Go.Rx

/-
  LAYINGS: from where one cannot go; the laws' functions.
-/
import Derived.Test.YteenlfeglffnoaaEb
namespace Go.Rx
open Go
set_option linter.unusedVariables false
set_option linter.unusedSimpArgs false
theorem find_lt {p : Funs} {s : ByteArray} (h : ¬ G.find p s < 0) : 0 ≤ G.find p s ∧ G.find p s < (p.length : Int) := by
  obtain ⟨h1, h2, h3⟩ := idx_eq h
  have h1 : (G.find p s).toNat < p.length := h1
  have h3 : ((G.find p s).toNat : Int) = G.find p s := h3
  omega
theorem sfL7To (p : Funs) (l : Lay) (reach frm : Int) (name : ByteArray) (h : G.toP p l frm = true) : funK cxL7To Go.Proofs.Try.f59 spL7To.ins spL7To.out (p, l, reach, frm, name, ()) = some (G.to p l reach frm name, ()) := by
  obtain ⟨g1, g2⟩ := toP_iff.1 h
  obtain ⟨b1, b2⟩ := layOkP_len g1
  have b3 := (smallP_iff.1 (layOkP_iff.1 g1).1).1
  rw [eL7To, if_pos (few_iff.2 b3)]
  unfold G.to
  by_cases c1 : G.find p name < 0
  · rw [if_pos (decide_eq_true c1), if_pos c1]
  · obtain ⟨f1, f2⟩ := find_lt c1
    obtain ⟨k1, k2, k3, k4, k5, k6, k7, k8⟩ := okP_bd g1 (show (G.find p name).toNat < p.length by omega)
    have mc : (G.mid (G.atOf l (G.find p name).toNat) && G.mid frm) = true := by rw [Bool.and_eq_true]; exact ⟨mid_iff.2 (by omega), g2⟩
    have f3 : G.find p name < (l.1.length : Int) := by omega
    rw [if_neg (by simpa using c1), if_neg c1, atOf_eq, if_pos (decide_eq_true f1), if_pos (decide_eq_true f3), if_pos mc]
    by_cases c2 : G.far (G.atOf l (G.find p name).toNat) frm ≤ reach
    · rw [if_pos (decide_eq_true c2), if_pos (decide_eq_true f1), if_pos (decide_eq_true f3), if_pos c2]
      rfl
    · rw [if_neg (by simpa using c2), if_neg c2, if_pos (preL7ToL0_iff.2 ⟨⟨by omega, by omega, b3⟩, trivial, toPre_iff.2 ⟨g1, g2, by omega, by omega⟩⟩)]
      exact congrArg some (fold_unit _ _ _ _)
theorem okL7To : SpecOk Go.Proofs.Try.prog 59 spL7To :=
  fun_okB (cx := cxL7To) (F := Go.Proofs.Try.f59) (cxOk T0_ok T0_eq pg31_ok) mixed (by kernel_rfl) (by decide) (by kernel_rfl) (lps_of (l := [(0, loopIn Go.Proofs.Try.f59 0)]) (by kernel_rfl) ⟨lp_at lpL7ToL0 rfl, trivial⟩) (fun x h => sfL7To x.1 x.2.1 x.2.2.1 x.2.2.2.1 x.2.2.2.2.1 h)
theorem sfTo (p : Funs) (l : Lay) (reach frm : Int) (name : ByteArray) (h : G.toP p l frm = true) : funK cxTo Go.Proofs.Try.f62 spTo.ins spTo.out (p, l, reach, frm, name, ()) = some (G.to p l reach frm name, ()) := by
  obtain ⟨g1, g2⟩ := toP_iff.1 h
  obtain ⟨b1, b2⟩ := layOkP_len g1
  have b3 := (smallP_iff.1 (layOkP_iff.1 g1).1).1
  rw [eTo, if_pos (few_iff.2 b3)]
  unfold G.to
  by_cases c1 : G.find p name < 0
  · rw [if_pos (decide_eq_true c1), if_pos c1]
  · obtain ⟨f1, f2⟩ := find_lt c1
    obtain ⟨k1, k2, k3, k4, k5, k6, k7, k8⟩ := okP_bd g1 (show (G.find p name).toNat < p.length by omega)
    have mc : (G.mid (G.atOf l (G.find p name).toNat) && G.mid frm) = true := by rw [Bool.and_eq_true]; exact ⟨mid_iff.2 (by omega), g2⟩
    have f3 : G.find p name < (l.1.length : Int) := by omega
    rw [if_neg (by simpa using c1), if_neg c1, atOf_eq, if_pos (decide_eq_true f1), if_pos (decide_eq_true f3), if_pos mc]
    by_cases c2 : G.far (G.atOf l (G.find p name).toNat) frm ≤ reach
    · rw [if_pos (decide_eq_true c2), if_pos (decide_eq_true f1), if_pos (decide_eq_true f3), if_pos c2]
      rfl
    · rw [if_neg (by simpa using c2), if_neg c2, if_pos (preToL0_iff.2 ⟨⟨by omega, by omega, by omega⟩, rfl, by rw [Bool.and_eq_true, decide_eq_true_iff]; exact ⟨rfl, toPre_iff.2 ⟨g1, g2, by omega, by omega⟩⟩⟩)]
      unfold G.fdToL0
      rw [b2]
      exact congrArg some (fold_unit _ _ _ _)
theorem okTo : SpecOk Go.Proofs.Try.prog 62 spTo :=
  fun_okB (cx := cxTo) (F := Go.Proofs.Try.f62) (cxOk T0_ok T0_eq pg31_ok) mixed (by kernel_rfl) (by decide) (by kernel_rfl) (lps_of (l := [(0, loopIn Go.Proofs.Try.f62 0)]) (by kernel_rfl) ⟨lp_at lpToL0 rfl, trivial⟩) (fun x h => sfTo x.1 x.2.1 x.2.2.1 x.2.2.2.1 x.2.2.2.2.1 h)
noncomputable abbrev pg32 : List (Nat × List Spec) := (59, [spL7To]) :: (62, [spTo]) :: pg31
theorem pg32_ok : PhiOk Go.Proofs.Try.prog pg32 := ⟨⟨okL7To, trivial⟩, ⟨okTo, trivial⟩, pg31_ok⟩
/-! from where one cannot go -/
def G.lackAt (p : Funs) (l : Lay) (reach : Int) (f k : Nat) : Bool := G.refs (G.insAt (G.pAt p f).2.2.1 k).1 && decide (G.to p l reach (G.atOf l f + (k : Int)) (G.insAt (G.pAt p f).2.2.1 k).2.2.1 < 0)
def G.lackP (p : Funs) (l : Lay) (reach : Int) (f k : Nat) : Option (Int × ByteArray × Unit) := if G.lackAt p l reach f k = true then some ((f : Int), (G.insAt (G.pAt p f).2.2.1 k).2.2.1, ()) else none
def G.stuckP (p : Funs) (l : Lay) (reach : Int) (f k : Nat) : Option ((Bool × Unit) × (Lay × (Int × Int × Unit) × Unit)) := if G.lackAt p l reach f k = true then some ((true, ()), (l, ((f : Int), (k : Int), ()), ())) else none
def G.inP (p : Funs) (l : Lay) (f : Int) : Bool := G.layOkP p l && decide (0 ≤ f ∧ f < (p.length : Int))
theorem inP_iff {p : Funs} {l : Lay} {f : Int} : G.inP p l f = true ↔ (G.layOkP p l = true ∧ 0 ≤ f ∧ f < (p.length : Int)) := by
  unfold G.inP
  rw [Bool.and_eq_true, decide_eq_true_iff]
abbrev SpotK : List CK := [.dat I, .dat I]
/-! LackSL2: a search -/
def G.preLackSL2 (p : Funs) (reach : Int) (l : Lay) (f : Int) (i : Int) : Bool := G.preA ((G.pAt p f.toNat).2.2.1.length) i && (true && (G.inP p l f))
theorem preLackSL2_iff {p : Funs} {reach : Int} {l : Lay} {f : Int} {i : Int} : G.preLackSL2 p reach l f i = true ↔ (0 ≤ i ∧ i ≤ (((G.pAt p f.toNat).2.2.1.length : Nat) : Int) ∧ ((G.pAt p f.toNat).2.2.1.length : Nat) ≤ 1099511627776) ∧ True ∧ G.inP p l f = true := by simp [G.preLackSL2, preA_iff]
def G.scLackSL2 (p : Funs) (reach : Int) (l : Lay) (f : Int) (i : Int) : Option (Int × ByteArray × Unit) := G.scan (G.lackP p l reach f.toNat) ((G.pAt p f.toNat).2.2.1.length) i
noncomputable abbrev lsLackSL2 : LSpec := ⟨[0, 2, 4, 8, 9, 6, 7], [6, 7], [FunSP, IntP, .box LayK, IntP, IntP, IntP, StrP], [IntP, StrP], true, fun x => G.preLackSL2 x.1 x.2.1 x.2.2.1 x.2.2.2.1 x.2.2.2.2.1,
  fun x => ((G.flag 1 (G.scLackSL2 x.1 x.2.1 x.2.2.1 x.2.2.2.1 x.2.2.2.2.1), G.got (G.scLackSL2 x.1 x.2.1 x.2.2.1 x.2.2.2.1 x.2.2.2.2.1) (x.2.2.2.2.2.1, x.2.2.2.2.2.2.1, ())), (x.2.2.1, ()))⟩
noncomputable abbrev clLackSL2 : Cx := mkCx T0 pg32 [(2, lsLackSL2)] [] 56
theorem rLackSL2 (p : Funs) (reach : Int) (l : Lay) (f : Int) (i : Int) (r : Int) (s : ByteArray) : roundK clLackSL2 2 (loopIn Go.Proofs.Try.f63 2) lsLackSL2 (p, reach, l, f, i, r, s, ()) =
  (if Decidable.decide ((0 : Int) ≤ f) = Bool.true then
    if Decidable.decide (f < (↑(List.length p) : Int)) = Bool.true then
      if Decidable.decide (i < (↑(List.length (List.getD p (Int.toNat f) (ByteArray.empty, Bool.false, [], PUnit.unit)).2.2.1) : Int)) = Bool.true then
        if Decidable.decide ((0 : Int) ≤ f) = Bool.true then
          if Decidable.decide (f < (↑(List.length p) : Int)) = Bool.true then
            if Decidable.decide ((0 : Int) ≤ i) = Bool.true then
              if Decidable.decide (i < (↑(List.length (List.getD p (Int.toNat f) (ByteArray.empty, Bool.false, [], PUnit.unit)).2.2.1) : Int)) = Bool.true then
                if
                    Go.Rx.G.refs (List.getD (List.getD p (Int.toNat f) (ByteArray.empty, Bool.false, [], PUnit.unit)).2.2.1 (Int.toNat i) ((0 : Int), (0 : Int), ByteArray.empty, PUnit.unit)).1 =
                      Bool.true then
                  if Decidable.decide ((0 : Int) ≤ f) = Bool.true then
                    if Decidable.decide (f < (↑(List.length l.1) : Int)) = Bool.true then
                      if Go.Rx.G.toP p l (Go.IntKind.wrap Go.IntKind.i64 ((List.getD l.1 (Int.toNat f) ((0 : Int), PUnit.unit)).1 + i)) = Bool.true then
                        if
                            Decidable.decide
                                (Go.Rx.G.to p l reach (Go.IntKind.wrap Go.IntKind.i64 ((List.getD l.1 (Int.toNat f) ((0 : Int), PUnit.unit)).1 + i))
                                    (List.getD (List.getD p (Int.toNat f) (ByteArray.empty, Bool.false, [], PUnit.unit)).2.2.1 (Int.toNat i)
                                            ((0 : Int), (0 : Int), ByteArray.empty, PUnit.unit)).2.2.1 <
                                  (0 : Int)) =
                              Bool.true then
                          Option.some
                            (Go.Rx.LRes.stop (1 : Nat)
                              (f,
                                (List.getD (List.getD p (Int.toNat f) (ByteArray.empty, Bool.false, [], PUnit.unit)).2.2.1 (Int.toNat i) ((0 : Int), (0 : Int), ByteArray.empty, PUnit.unit)).2.2)
                              (l, PUnit.unit))
                        else
                          Option.some (Go.Rx.LRes.go (p, reach, l, f, Go.IntKind.wrap Go.IntKind.i64 (i + (1 : Int)), r, s, PUnit.unit))
                      else Option.none
                    else Option.none
                  else Option.none
                else Option.some (Go.Rx.LRes.go (p, reach, l, f, Go.IntKind.wrap Go.IntKind.i64 (i + (1 : Int)), r, s, PUnit.unit))
              else Option.none
            else Option.none
          else Option.none
        else Option.none
      else Option.some (Go.Rx.LRes.stop (0 : Nat) (r, s, PUnit.unit) (l, PUnit.unit))
    else Option.none
  else Option.none) := by kernel_rfl
noncomputable abbrev muLackSL2 : PKs.den lsLackSL2.ins → Nat := fun x => ((G.pAt x.1 x.2.2.2.1.toNat).2.2.1.length) - x.2.2.2.2.1.toNat
theorem stLackSL2 (p : Funs) (reach : Int) (l : Lay) (f : Int) (i : Int) (r : Int) (s : ByteArray) (h : G.preLackSL2 p reach l f i = true) : StepOk lsLackSL2 (eqInv lsLackSL2) muLackSL2 (p, reach, l, f, i, r, s, ()) (roundK clLackSL2 2 (loopIn Go.Proofs.Try.f63 2) lsLackSL2 (p, reach, l, f, i, r, s, ())) := by
  obtain ⟨⟨h0, h1, h2⟩, hn, hc⟩ := preLackSL2_iff.1 h
  rw [rLackSL2]
  by_cases hi : i < (((G.pAt p f.toNat).2.2.1.length : Nat) : Int)
  · have hw : IntKind.i64.wrap (i + 1) = i + 1 := w64 (by omega) (by omega)
    have hs : G.scLackSL2 p reach l f i = ((G.lackP p l reach f.toNat) i.toNat).or (G.scLackSL2 p reach l f (i + 1)) := scan_step h0 (by omega)
    refine scan_stop (fl := 1) (eqInv lsLackSL2) muLackSL2 (p, reach, l, f, i + 1, r, s, ()) ((G.lackP p l reach f.toNat) i.toNat) (l, ()) ?_ (fun ho => ⟨(show G.preLackSL2 p reach l f (i + 1) = true from preLackSL2_iff.2 ⟨⟨by omega, by omega, h2⟩, trivial, hc⟩), ?_, ?_⟩) (fun w ho => ?_)
    · obtain ⟨g1, g2, g3⟩ := inP_iff.1 hc
      unfold G.lackP
      obtain ⟨b1, b2, b3, b4, b5, b6, b7, b8⟩ := okP_bd g1 (show f.toNat < p.length by omega)
      have hf1 : f < (l.1.length : Int) := by omega
      have w1 : IntKind.i64.wrap (G.atOf l f.toNat + i) = G.atOf l f.toNat + i := w64 (by omega) (by omega)
      have tp : G.toP p l (G.atOf l f.toNat + i) = true := toP_iff.2 ⟨g1, mid_iff.2 (by omega)⟩
      simp only [pAt_eq, insAt_eq, atOf_eq, hi, h0, g2, g3, hf1, decide_true, if_true, hw, w1, tp]
      unfold G.lackAt
      rw [nat_int h0, nat_int g2]
      cases c : G.refs (G.insAt (G.pAt p f.toNat).2.2.1 i.toNat).1 <;> by_cases c2 : G.to p l reach (G.atOf l f.toNat + i) (G.insAt (G.pAt p f.toNat).2.2.1 i.toNat).2.2.1 < 0 <;> simp only [c2, decide_true, decide_false] <;> rfl
    · show ((G.pAt p f.toNat).2.2.1.length) - (i + 1).toNat < ((G.pAt p f.toNat).2.2.1.length) - i.toNat
      omega
    · show ((_, _), _) = ((_, _), _)
      simp only [hs, ho, Option.none_or]
    · show ((_, _), _) = ((_, _), _)
      simp only [hs, ho, Option.some_or]
      rfl
  · have hs : G.scLackSL2 p reach l f i = none := scan_end (by omega)
    obtain ⟨g1, g2, g3⟩ := inP_iff.1 hc
    rw [if_pos (decide_eq_true g2), if_pos (decide_eq_true g3), pAt_eq]
    rw [if_neg (by simpa using hi)]
    show ((_, _), _) = ((_, _), _)
    simp only [hs]
    rfl
theorem lpLackSL2 : LpOk Go.Proofs.Try.prog clLackSL2.ntmps 2 (loopIn Go.Proofs.Try.f63 2) lsLackSL2 :=
  lp_okB (cxOk T0_ok T0_eq pg32_ok) mixed (by kernel_rfl) (lps_none (by kernel_rfl)) (eqInv lsLackSL2) muLackSL2 (fun _ h => h) (fun x h => stLackSL2 x.1 x.2.1 x.2.2.1 x.2.2.2.1 x.2.2.2.2.1 x.2.2.2.2.2.1 x.2.2.2.2.2.2.1 h)
/-! LackSL0: a search -/
def G.preLackSL0 (p : Funs) (reach : Int) (l : Lay) (i : Int) : Bool := G.preA (p.length) i && (true && (G.layOkP p l))
theorem preLackSL0_iff {p : Funs} {reach : Int} {l : Lay} {i : Int} : G.preLackSL0 p reach l i = true ↔ (0 ≤ i ∧ i ≤ ((p.length : Nat) : Int) ∧ (p.length : Nat) ≤ 1099511627776) ∧ True ∧ G.layOkP p l = true := by simp [G.preLackSL0, preA_iff]
def G.scLackSL0 (p : Funs) (reach : Int) (l : Lay) (i : Int) : Option (Int × ByteArray × Unit) := G.scan (fun (f : Nat) => G.scLackSL2 p reach l (f : Int) 0) (p.length) i
noncomputable abbrev lsLackSL0 : LSpec := ⟨[0, 2, 4, 8, 6, 7], [6, 7], [FunSP, IntP, .box LayK, IntP, IntP, StrP], [IntP, StrP], true, fun x => G.preLackSL0 x.1 x.2.1 x.2.2.1 x.2.2.2.1,
  fun x => ((G.flag 1 (G.scLackSL0 x.1 x.2.1 x.2.2.1 x.2.2.2.1), G.got (G.scLackSL0 x.1 x.2.1 x.2.2.1 x.2.2.2.1) (x.2.2.2.2.1, x.2.2.2.2.2.1, ())), (x.2.2.1, ()))⟩
noncomputable abbrev clLackSL0 : Cx := mkCx T0 pg32 [(2, lsLackSL2), (0, lsLackSL0)] [] 56
theorem rLackSL0 (p : Funs) (reach : Int) (l : Lay) (i : Int) (r : Int) (s : ByteArray) : roundK clLackSL0 0 (loopIn Go.Proofs.Try.f63 0) lsLackSL0 (p, reach, l, i, r, s, ()) =
  (if Decidable.decide (i < (↑(List.length p) : Int)) = Bool.true then
    if Go.Rx.G.preLackSL2 p reach l i (0 : Int) = Bool.true then
      if Go.Rx.G.flag (1 : Nat) (Go.Rx.G.scLackSL2 p reach l i (0 : Int)) = (0 : Nat) then
        Option.some
          (Go.Rx.LRes.go
            (p, reach, l, Go.IntKind.wrap Go.IntKind.i64 (i + (1 : Int)),
              Go.Rx.G.got (Go.Rx.G.scLackSL2 p reach l i (0 : Int)) (r, s, PUnit.unit)))
      else
        if Go.Rx.G.flag (1 : Nat) (Go.Rx.G.scLackSL2 p reach l i (0 : Int)) = (1 : Nat) then
          Option.some
            (Go.Rx.LRes.stop (1 : Nat) (Go.Rx.G.got (Go.Rx.G.scLackSL2 p reach l i (0 : Int)) (r, s, PUnit.unit)) (l, PUnit.unit))
        else
          bif Nat.beq (Go.Rx.G.flag (1 : Nat) (Go.Rx.G.scLackSL2 p reach l i (0 : Int)) - (2 : Nat)) (1 : Nat) then
            Option.some
              (Go.Rx.LRes.go
                (p, reach, l, Go.IntKind.wrap Go.IntKind.i64 (i + (1 : Int)),
                  Go.Rx.G.got (Go.Rx.G.scLackSL2 p reach l i (0 : Int)) (r, s, PUnit.unit)))
          else
            bif Nat.beq (Go.Rx.G.flag (1 : Nat) (Go.Rx.G.scLackSL2 p reach l i (0 : Int)) - (2 : Nat)) (0 : Nat) then
              Option.some
                (Go.Rx.LRes.stop (0 : Nat) (Go.Rx.G.got (Go.Rx.G.scLackSL2 p reach l i (0 : Int)) (r, s, PUnit.unit)) (l, PUnit.unit))
            else
              Option.some
                (Go.Rx.LRes.stop (Go.Rx.G.flag (1 : Nat) (Go.Rx.G.scLackSL2 p reach l i (0 : Int)) - (2 : Nat) + (2 : Nat))
                  (Go.Rx.G.got (Go.Rx.G.scLackSL2 p reach l i (0 : Int)) (r, s, PUnit.unit)) (l, PUnit.unit))
    else Option.none
  else Option.some (Go.Rx.LRes.stop (0 : Nat) (r, s, PUnit.unit) (l, PUnit.unit))) := by kernel_rfl
noncomputable abbrev muLackSL0 : PKs.den lsLackSL0.ins → Nat := fun x => (x.1.length) - x.2.2.2.1.toNat
theorem stLackSL0 (p : Funs) (reach : Int) (l : Lay) (i : Int) (r : Int) (s : ByteArray) (h : G.preLackSL0 p reach l i = true) : StepOk lsLackSL0 (eqInv lsLackSL0) muLackSL0 (p, reach, l, i, r, s, ()) (roundK clLackSL0 0 (loopIn Go.Proofs.Try.f63 0) lsLackSL0 (p, reach, l, i, r, s, ())) := by
  obtain ⟨⟨h0, h1, h2⟩, hn, hc⟩ := preLackSL0_iff.1 h
  rw [rLackSL0]
  by_cases hi : i < ((p.length : Nat) : Int)
  · have hw : IntKind.i64.wrap (i + 1) = i + 1 := w64 (by omega) (by omega)
    have hs : G.scLackSL0 p reach l i = ((fun (f : Nat) => G.scLackSL2 p reach l (f : Int) 0) i.toNat).or (G.scLackSL0 p reach l (i + 1)) := scan_step h0 (by omega)
    refine scan_stop (fl := 1) (eqInv lsLackSL0) muLackSL0 (p, reach, l, i + 1, r, s, ()) ((fun (f : Nat) => G.scLackSL2 p reach l (f : Int) 0) i.toNat) (l, ()) ?_ (fun ho => ⟨(show G.preLackSL0 p reach l (i + 1) = true from preLackSL0_iff.2 ⟨⟨by omega, by omega, h2⟩, trivial, hc⟩), ?_, ?_⟩) (fun w ho => ?_)
    · have b8 := (okP_bd hc (show i.toNat < p.length by omega)).2.2.2.2.2.2.2
      have gp : G.preLackSL2 p reach l i 0 = true := preLackSL2_iff.2 ⟨⟨by omega, by omega, by omega⟩, trivial, inP_iff.2 ⟨hc, h0, hi⟩⟩
      rw [if_pos (decide_eq_true hi), if_pos gp, hw]
      show _ = goStop (G.scLackSL2 p reach l ((i.toNat : Nat) : Int) 0) _ _
      rw [nat_int h0]
      cases G.scLackSL2 p reach l i 0 <;> rfl
    · show (p.length) - (i + 1).toNat < (p.length) - i.toNat
      omega
    · show ((_, _), _) = ((_, _), _)
      simp only [hs, ho, Option.none_or]
    · show ((_, _), _) = ((_, _), _)
      simp only [hs, ho, Option.some_or]
      rfl
  · have hs : G.scLackSL0 p reach l i = none := scan_end (by omega)
    skip
    rw [if_neg (by simpa using hi)]
    show ((_, _), _) = ((_, _), _)
    simp only [hs]
    rfl
theorem lpLackSL0 : LpOk Go.Proofs.Try.prog clLackSL0.ntmps 0 (loopIn Go.Proofs.Try.f63 0) lsLackSL0 :=
  lp_okB (cxOk T0_ok T0_eq pg32_ok) mixed (by kernel_rfl) (lps_of (l := [(2, loopIn Go.Proofs.Try.f63 2)]) (by kernel_rfl) ⟨lp_at lpLackSL2 rfl, trivial⟩) (eqInv lsLackSL0) muLackSL0 (fun _ h => h) (fun x h => stLackSL0 x.1 x.2.1 x.2.2.1 x.2.2.2.1 x.2.2.2.2.1 x.2.2.2.2.2.1 h)
/-! StuckL2: a search -/
def G.preStuckL2 (p : Funs) (reach : Int) (l : Lay) (f : Int) (b : Inss) (n : Int) (i : Int) : Bool := G.preA (b.length) i && (decide (n = ((b.length : Nat) : Int)) && ((decide (b = (G.pAt p f.toNat).2.2.1) && G.inP p l f)))
theorem preStuckL2_iff {p : Funs} {reach : Int} {l : Lay} {f : Int} {b : Inss} {n : Int} {i : Int} : G.preStuckL2 p reach l f b n i = true ↔ (0 ≤ i ∧ i ≤ ((b.length : Nat) : Int) ∧ (b.length : Nat) ≤ 1099511627776) ∧ n = ((b.length : Nat) : Int) ∧ (decide (b = (G.pAt p f.toNat).2.2.1) && G.inP p l f) = true := by simp [G.preStuckL2, preA_iff]
def G.scStuckL2 (p : Funs) (reach : Int) (l : Lay) (f : Int) (b : Inss) (i : Int) : Option ((Bool × Unit) × (Lay × (Int × Int × Unit) × Unit)) := G.scan (G.stuckP p l reach f.toNat) (b.length) i
noncomputable abbrev lsStuckL2 : LSpec := ⟨[0, 2, 4, 6, 8, 20, 21, 22, 7], [7], [FunSP, IntP, .box LayK, .box SpotK, IntP, InsSP, IntP, IntP, BoolP], [BoolP], true, fun x => G.preStuckL2 x.1 x.2.1 x.2.2.1 x.2.2.2.2.1 x.2.2.2.2.2.1 x.2.2.2.2.2.2.1 x.2.2.2.2.2.2.2.1,
  fun x => ((G.flag 1 (G.scStuckL2 x.1 x.2.1 x.2.2.1 x.2.2.2.2.1 x.2.2.2.2.2.1 x.2.2.2.2.2.2.2.1), (G.got (G.scStuckL2 x.1 x.2.1 x.2.2.1 x.2.2.2.2.1 x.2.2.2.2.2.1 x.2.2.2.2.2.2.2.1) ((x.2.2.2.2.2.2.2.2.1, ()), (x.2.2.1, (x.2.2.2.1, ())))).1), (G.got (G.scStuckL2 x.1 x.2.1 x.2.2.1 x.2.2.2.2.1 x.2.2.2.2.2.1 x.2.2.2.2.2.2.2.1) ((x.2.2.2.2.2.2.2.2.1, ()), (x.2.2.1, (x.2.2.2.1, ())))).2)⟩
noncomputable abbrev clStuckL2 : Cx := mkCx T0 pg32 [(2, lsStuckL2)] [] 51
theorem rStuckL2 (p : Funs) (reach : Int) (l : Lay) (sp : Int × Int × Unit) (f : Int) (b : Inss) (n : Int) (i : Int) (r : Bool) : roundK clStuckL2 2 (loopIn Go.Proofs.Try.f64 2) lsStuckL2 (p, reach, l, sp, f, b, n, i, r, ()) =
  (if Decidable.decide (i < n) = Bool.true then
    if Decidable.decide ((0 : Int) ≤ i) = Bool.true then
      if Decidable.decide (i < (↑(List.length b) : Int)) = Bool.true then
        if Go.Rx.G.refs (List.getD b (Int.toNat i) ((0 : Int), (0 : Int), ByteArray.empty, PUnit.unit)).1 = Bool.true then
          if Decidable.decide ((0 : Int) ≤ f) = Bool.true then
            if Decidable.decide (f < (↑(List.length l.1) : Int)) = Bool.true then
              if Go.Rx.G.toP p l (Go.IntKind.wrap Go.IntKind.i64 ((List.getD l.1 (Int.toNat f) ((0 : Int), PUnit.unit)).1 + i)) = Bool.true then
                if
                    Decidable.decide
                        (Go.Rx.G.to p l reach (Go.IntKind.wrap Go.IntKind.i64 ((List.getD l.1 (Int.toNat f) ((0 : Int), PUnit.unit)).1 + i))
                            (List.getD b (Int.toNat i) ((0 : Int), (0 : Int), ByteArray.empty, PUnit.unit)).2.2.1 <
                          (0 : Int)) =
                      Bool.true then
                  Option.some (Go.Rx.LRes.stop (1 : Nat) (Bool.true, PUnit.unit) (l, (f, i, PUnit.unit), PUnit.unit))
                else
                  Option.some
                    (Go.Rx.LRes.go
                      (p, reach, l, sp, f, b, n, Go.IntKind.wrap Go.IntKind.i64 (i + (1 : Int)), r,
                        PUnit.unit))
              else Option.none
            else Option.none
          else Option.none
        else
          Option.some
            (Go.Rx.LRes.go
              (p, reach, l, sp, f, b, n, Go.IntKind.wrap Go.IntKind.i64 (i + (1 : Int)), r, PUnit.unit))
      else Option.none
    else Option.none
  else Option.some (Go.Rx.LRes.stop (0 : Nat) (r, PUnit.unit) (l, sp, PUnit.unit))) := by kernel_rfl
noncomputable abbrev muStuckL2 : PKs.den lsStuckL2.ins → Nat := fun x => (x.2.2.2.2.2.1.length) - x.2.2.2.2.2.2.2.1.toNat
theorem stStuckL2 (p : Funs) (reach : Int) (l : Lay) (sp : Int × Int × Unit) (f : Int) (b : Inss) (n : Int) (i : Int) (r : Bool) (h : G.preStuckL2 p reach l f b n i = true) : StepOk lsStuckL2 (eqInv lsStuckL2) muStuckL2 (p, reach, l, sp, f, b, n, i, r, ()) (roundK clStuckL2 2 (loopIn Go.Proofs.Try.f64 2) lsStuckL2 (p, reach, l, sp, f, b, n, i, r, ())) := by
  obtain ⟨⟨h0, h1, h2⟩, hn, hc⟩ := preStuckL2_iff.1 h
  subst hn
  rw [rStuckL2]
  by_cases hi : i < ((b.length : Nat) : Int)
  · have hw : IntKind.i64.wrap (i + 1) = i + 1 := w64 (by omega) (by omega)
    have hs : G.scStuckL2 p reach l f b i = ((G.stuckP p l reach f.toNat) i.toNat).or (G.scStuckL2 p reach l f b (i + 1)) := scan_step h0 (by omega)
    refine scan_stop2 (fl := 1) (eqInv lsStuckL2) muStuckL2 (p, reach, l, sp, f, b, ((b.length : Nat) : Int), i + 1, r, ()) ((G.stuckP p l reach f.toNat) i.toNat) ?_ (fun ho => ⟨(show G.preStuckL2 p reach l f b ((b.length : Nat) : Int) (i + 1) = true from preStuckL2_iff.2 ⟨⟨by omega, by omega, h2⟩, rfl, hc⟩), ?_, ?_⟩) (fun w ho => ?_)
    · rw [Bool.and_eq_true, decide_eq_true_iff] at hc
      obtain ⟨rfl, hc⟩ := hc
      obtain ⟨g1, g2, g3⟩ := inP_iff.1 hc
      unfold G.stuckP
      obtain ⟨b1, b2, b3, b4, b5, b6, b7, b8⟩ := okP_bd g1 (show f.toNat < p.length by omega)
      have hf1 : f < (l.1.length : Int) := by omega
      have w1 : IntKind.i64.wrap (G.atOf l f.toNat + i) = G.atOf l f.toNat + i := w64 (by omega) (by omega)
      have tp : G.toP p l (G.atOf l f.toNat + i) = true := toP_iff.2 ⟨g1, mid_iff.2 (by omega)⟩
      simp only [pAt_eq, insAt_eq, atOf_eq, hi, h0, g2, g3, hf1, decide_true, if_true, hw, w1, tp]
      unfold G.lackAt
      rw [nat_int h0, nat_int g2]
      cases c : G.refs (G.insAt (G.pAt p f.toNat).2.2.1 i.toNat).1 <;> by_cases c2 : G.to p l reach (G.atOf l f.toNat + i) (G.insAt (G.pAt p f.toNat).2.2.1 i.toNat).2.2.1 < 0 <;> simp only [c2, decide_true, decide_false] <;> rfl
    · show (b.length) - (i + 1).toNat < (b.length) - i.toNat
      omega
    · show ((_, _), _) = ((_, _), _)
      simp only [hs, ho, Option.none_or]
    · show ((_, _), _) = ((_, _), _)
      simp only [hs, ho, Option.some_or]
      rfl
  · have hs : G.scStuckL2 p reach l f b i = none := scan_end (by omega)
    skip
    rw [if_neg (by simpa using hi)]
    show ((_, _), _) = ((_, _), _)
    simp only [hs]
    rfl
theorem lpStuckL2 : LpOk Go.Proofs.Try.prog clStuckL2.ntmps 2 (loopIn Go.Proofs.Try.f64 2) lsStuckL2 :=
  lp_okB (cxOk T0_ok T0_eq pg32_ok) mixed (by kernel_rfl) (lps_none (by kernel_rfl)) (eqInv lsStuckL2) muStuckL2 (fun _ h => h) (fun x h => stStuckL2 x.1 x.2.1 x.2.2.1 x.2.2.2.1 x.2.2.2.2.1 x.2.2.2.2.2.1 x.2.2.2.2.2.2.1 x.2.2.2.2.2.2.2.1 x.2.2.2.2.2.2.2.2.1 h)
/-! StuckL0: a search -/
def G.preStuckL0 (p : Funs) (reach : Int) (l : Lay) (q : Funs) (n : Int) (i : Int) : Bool := G.preA (q.length) i && (decide (n = ((q.length : Nat) : Int)) && ((decide (p = q) && G.layOkP q l)))
theorem preStuckL0_iff {p : Funs} {reach : Int} {l : Lay} {q : Funs} {n : Int} {i : Int} : G.preStuckL0 p reach l q n i = true ↔ (0 ≤ i ∧ i ≤ ((q.length : Nat) : Int) ∧ (q.length : Nat) ≤ 1099511627776) ∧ n = ((q.length : Nat) : Int) ∧ (decide (p = q) && G.layOkP q l) = true := by simp [G.preStuckL0, preA_iff]
def G.scStuckL0 (p : Funs) (reach : Int) (l : Lay) (q : Funs) (i : Int) : Option ((Bool × Unit) × (Lay × (Int × Int × Unit) × Unit)) := G.scan (fun (f : Nat) => G.scStuckL2 q reach l (f : Int) (G.pAt q f).2.2.1 0) (q.length) i
noncomputable abbrev lsStuckL0 : LSpec := ⟨[0, 2, 4, 6, 12, 13, 14, 7], [7], [FunSP, IntP, .box LayK, .box SpotK, FunSP, IntP, IntP, BoolP], [BoolP], true, fun x => G.preStuckL0 x.1 x.2.1 x.2.2.1 x.2.2.2.2.1 x.2.2.2.2.2.1 x.2.2.2.2.2.2.1,
  fun x => ((G.flag 1 (G.scStuckL0 x.1 x.2.1 x.2.2.1 x.2.2.2.2.1 x.2.2.2.2.2.2.1), (G.got (G.scStuckL0 x.1 x.2.1 x.2.2.1 x.2.2.2.2.1 x.2.2.2.2.2.2.1) ((x.2.2.2.2.2.2.2.1, ()), (x.2.2.1, (x.2.2.2.1, ())))).1), (G.got (G.scStuckL0 x.1 x.2.1 x.2.2.1 x.2.2.2.2.1 x.2.2.2.2.2.2.1) ((x.2.2.2.2.2.2.2.1, ()), (x.2.2.1, (x.2.2.2.1, ())))).2)⟩
noncomputable abbrev clStuckL0 : Cx := mkCx T0 pg32 [(2, lsStuckL2), (0, lsStuckL0)] [] 51
theorem rStuckL0 (p : Funs) (reach : Int) (l : Lay) (sp : Int × Int × Unit) (q : Funs) (n : Int) (i : Int) (r : Bool) : roundK clStuckL0 0 (loopIn Go.Proofs.Try.f64 0) lsStuckL0 (p, reach, l, sp, q, n, i, r, ()) =
  (if Decidable.decide (i < n) = Bool.true then
    if Decidable.decide ((0 : Int) ≤ i) = Bool.true then
      if Decidable.decide (i < (↑(List.length q) : Int)) = Bool.true then
        if
            Go.Rx.G.preStuckL2 p reach l i (List.getD q (Int.toNat i) (ByteArray.empty, Bool.false, [], PUnit.unit)).2.2.1
                (↑(List.length (List.getD q (Int.toNat i) (ByteArray.empty, Bool.false, [], PUnit.unit)).2.2.1) : Int) (0 : Int) =
              Bool.true then
          if
              Go.Rx.G.flag (1 : Nat)
                  (Go.Rx.G.scStuckL2 p reach l i (List.getD q (Int.toNat i) (ByteArray.empty, Bool.false, [], PUnit.unit)).2.2.1 (0 : Int)) =
                (0 : Nat) then
            Option.some
              (Go.Rx.LRes.go
                (p, reach,
                  (Go.Rx.G.got (Go.Rx.G.scStuckL2 p reach l i (List.getD q (Int.toNat i) (ByteArray.empty, Bool.false, [], PUnit.unit)).2.2.1 (0 : Int))
                        ((r, PUnit.unit), l, sp, PUnit.unit)).2.1,
                  (Go.Rx.G.got (Go.Rx.G.scStuckL2 p reach l i (List.getD q (Int.toNat i) (ByteArray.empty, Bool.false, [], PUnit.unit)).2.2.1 (0 : Int))
                          ((r, PUnit.unit), l, sp, PUnit.unit)).2.2.1,
                  q, n, Go.IntKind.wrap Go.IntKind.i64 (i + (1 : Int)),
                  (Go.Rx.G.got (Go.Rx.G.scStuckL2 p reach l i (List.getD q (Int.toNat i) (ByteArray.empty, Bool.false, [], PUnit.unit)).2.2.1 (0 : Int))
                      ((r, PUnit.unit), l, sp, PUnit.unit)).1))
          else
            if
                Go.Rx.G.flag (1 : Nat)
                    (Go.Rx.G.scStuckL2 p reach l i (List.getD q (Int.toNat i) (ByteArray.empty, Bool.false, [], PUnit.unit)).2.2.1 (0 : Int)) =
                  (1 : Nat) then
              Option.some
                (Go.Rx.LRes.stop (1 : Nat)
                  (Go.Rx.G.got (Go.Rx.G.scStuckL2 p reach l i (List.getD q (Int.toNat i) (ByteArray.empty, Bool.false, [], PUnit.unit)).2.2.1 (0 : Int))
                      ((r, PUnit.unit), l, sp, PUnit.unit)).1
                  (Go.Rx.G.got (Go.Rx.G.scStuckL2 p reach l i (List.getD q (Int.toNat i) (ByteArray.empty, Bool.false, [], PUnit.unit)).2.2.1 (0 : Int))
                      ((r, PUnit.unit), l, sp, PUnit.unit)).2)
            else
              bif
                  Nat.beq
                    (Go.Rx.G.flag (1 : Nat)
                        (Go.Rx.G.scStuckL2 p reach l i (List.getD q (Int.toNat i) (ByteArray.empty, Bool.false, [], PUnit.unit)).2.2.1 (0 : Int)) -
                      (2 : Nat))
                    (1 : Nat) then
                Option.some
                  (Go.Rx.LRes.go
                    (p, reach,
                      (Go.Rx.G.got
                            (Go.Rx.G.scStuckL2 p reach l i (List.getD q (Int.toNat i) (ByteArray.empty, Bool.false, [], PUnit.unit)).2.2.1 (0 : Int))
                            ((r, PUnit.unit), l, sp, PUnit.unit)).2.1,
                      (Go.Rx.G.got
                              (Go.Rx.G.scStuckL2 p reach l i (List.getD q (Int.toNat i) (ByteArray.empty, Bool.false, [], PUnit.unit)).2.2.1 (0 : Int))
                              ((r, PUnit.unit), l, sp, PUnit.unit)).2.2.1,
                      q, n, Go.IntKind.wrap Go.IntKind.i64 (i + (1 : Int)),
                      (Go.Rx.G.got
                          (Go.Rx.G.scStuckL2 p reach l i (List.getD q (Int.toNat i) (ByteArray.empty, Bool.false, [], PUnit.unit)).2.2.1 (0 : Int))
                          ((r, PUnit.unit), l, sp, PUnit.unit)).1))
              else
                bif
                    Nat.beq
                      (Go.Rx.G.flag (1 : Nat)
                          (Go.Rx.G.scStuckL2 p reach l i (List.getD q (Int.toNat i) (ByteArray.empty, Bool.false, [], PUnit.unit)).2.2.1 (0 : Int)) -
                        (2 : Nat))
                      (0 : Nat) then
                  Option.some
                    (Go.Rx.LRes.stop (0 : Nat)
                      (Go.Rx.G.got
                          (Go.Rx.G.scStuckL2 p reach l i (List.getD q (Int.toNat i) (ByteArray.empty, Bool.false, [], PUnit.unit)).2.2.1 (0 : Int))
                          ((r, PUnit.unit), l, sp, PUnit.unit)).1
                      (Go.Rx.G.got
                          (Go.Rx.G.scStuckL2 p reach l i (List.getD q (Int.toNat i) (ByteArray.empty, Bool.false, [], PUnit.unit)).2.2.1 (0 : Int))
                          ((r, PUnit.unit), l, sp, PUnit.unit)).2)
                else
                  Option.some
                    (Go.Rx.LRes.stop
                      (Go.Rx.G.flag (1 : Nat)
                            (Go.Rx.G.scStuckL2 p reach l i (List.getD q (Int.toNat i) (ByteArray.empty, Bool.false, [], PUnit.unit)).2.2.1 (0 : Int)) -
                          (2 : Nat) +
                        (2 : Nat))
                      (Go.Rx.G.got
                          (Go.Rx.G.scStuckL2 p reach l i (List.getD q (Int.toNat i) (ByteArray.empty, Bool.false, [], PUnit.unit)).2.2.1 (0 : Int))
                          ((r, PUnit.unit), l, sp, PUnit.unit)).1
                      (Go.Rx.G.got
                          (Go.Rx.G.scStuckL2 p reach l i (List.getD q (Int.toNat i) (ByteArray.empty, Bool.false, [], PUnit.unit)).2.2.1 (0 : Int))
                          ((r, PUnit.unit), l, sp, PUnit.unit)).2)
        else Option.none
      else Option.none
    else Option.none
  else Option.some (Go.Rx.LRes.stop (0 : Nat) (r, PUnit.unit) (l, sp, PUnit.unit))) := by kernel_rfl
noncomputable abbrev muStuckL0 : PKs.den lsStuckL0.ins → Nat := fun x => (x.2.2.2.2.1.length) - x.2.2.2.2.2.2.1.toNat
theorem stStuckL0 (p : Funs) (reach : Int) (l : Lay) (sp : Int × Int × Unit) (q : Funs) (n : Int) (i : Int) (r : Bool) (h : G.preStuckL0 p reach l q n i = true) : StepOk lsStuckL0 (eqInv lsStuckL0) muStuckL0 (p, reach, l, sp, q, n, i, r, ()) (roundK clStuckL0 0 (loopIn Go.Proofs.Try.f64 0) lsStuckL0 (p, reach, l, sp, q, n, i, r, ())) := by
  obtain ⟨⟨h0, h1, h2⟩, hn, hc⟩ := preStuckL0_iff.1 h
  subst hn
  rw [rStuckL0]
  by_cases hi : i < ((q.length : Nat) : Int)
  · have hw : IntKind.i64.wrap (i + 1) = i + 1 := w64 (by omega) (by omega)
    have hs : G.scStuckL0 p reach l q i = ((fun (f : Nat) => G.scStuckL2 q reach l (f : Int) (G.pAt q f).2.2.1 0) i.toNat).or (G.scStuckL0 p reach l q (i + 1)) := scan_step h0 (by omega)
    refine scan_stop2 (fl := 1) (eqInv lsStuckL0) muStuckL0 (p, reach, l, sp, q, ((q.length : Nat) : Int), i + 1, r, ()) ((fun (f : Nat) => G.scStuckL2 q reach l (f : Int) (G.pAt q f).2.2.1 0) i.toNat) ?_ (fun ho => ⟨(show G.preStuckL0 p reach l q ((q.length : Nat) : Int) (i + 1) = true from preStuckL0_iff.2 ⟨⟨by omega, by omega, h2⟩, rfl, hc⟩), ?_, ?_⟩) (fun w ho => ?_)
    · rw [Bool.and_eq_true, decide_eq_true_iff] at hc
      obtain ⟨rfl, hc⟩ := hc
      have b8 := (okP_bd hc (show i.toNat < p.length by omega)).2.2.2.2.2.2.2
      have gp : G.preStuckL2 p reach l i (G.pAt p i.toNat).2.2.1 (((G.pAt p i.toNat).2.2.1.length : Nat) : Int) 0 = true := preStuckL2_iff.2 ⟨⟨by omega, by omega, by omega⟩, rfl, by rw [Bool.and_eq_true, decide_eq_true_iff]; exact ⟨rfl, inP_iff.2 ⟨hc, h0, hi⟩⟩⟩
      rw [if_pos (decide_eq_true hi), if_pos (decide_eq_true h0), if_pos (decide_eq_true hi), pAt_eq, if_pos gp, hw]
      show _ = goStop (G.scStuckL2 p reach l ((i.toNat : Nat) : Int) (G.pAt p i.toNat).2.2.1 0) _ _
      rw [nat_int h0]
      cases hq : G.scStuckL2 p reach l i (G.pAt p i.toNat).2.2.1 0 <;> rfl
    · show (q.length) - (i + 1).toNat < (q.length) - i.toNat
      omega
    · show ((_, _), _) = ((_, _), _)
      simp only [hs, ho, Option.none_or]
    · show ((_, _), _) = ((_, _), _)
      simp only [hs, ho, Option.some_or]
      rfl
  · have hs : G.scStuckL0 p reach l q i = none := scan_end (by omega)
    skip
    rw [if_neg (by simpa using hi)]
    show ((_, _), _) = ((_, _), _)
    simp only [hs]
    rfl
theorem lpStuckL0 : LpOk Go.Proofs.Try.prog clStuckL0.ntmps 0 (loopIn Go.Proofs.Try.f64 0) lsStuckL0 :=
  lp_okB (cxOk T0_ok T0_eq pg32_ok) mixed (by kernel_rfl) (lps_of (l := [(2, loopIn Go.Proofs.Try.f64 2)]) (by kernel_rfl) ⟨lp_at lpStuckL2 rfl, trivial⟩) (eqInv lsStuckL0) muStuckL0 (fun _ h => h) (fun x h => stStuckL0 x.1 x.2.1 x.2.2.1 x.2.2.2.1 x.2.2.2.2.1 x.2.2.2.2.2.1 x.2.2.2.2.2.2.1 x.2.2.2.2.2.2.2.1 h)
/-- The first place from which one cannot go. -/
def G.lackF (p : Funs) (l : Lay) (reach : Int) (f : Nat) : Option (Int × Int × ByteArray) := G.scan (fun k => if G.lackAt p l reach f k = true then some ((f : Int), (k : Int), (G.insAt (G.pAt p f).2.2.1 k).2.2.1) else none) (G.pAt p f).2.2.1.length 0
def G.lackAll (p : Funs) (l : Lay) (reach : Int) : Option (Int × Int × ByteArray) := G.scan (G.lackF p l reach) p.length 0
theorem findS_map {α β : Type} {p : Nat → Option α} {q : Nat → Option β} (g : α → β) (h : ∀ k, q k = (p k).map g) : ∀ l : List Nat, l.findSome? q = (l.findSome? p).map g
  | [] => rfl
  | a :: r => by
    rw [List.findSome?_cons, List.findSome?_cons, h, findS_map g h r]
    cases p a <;> rfl
theorem scan_map {α β : Type} {p : Nat → Option α} {q : Nat → Option β} (g : α → β) (h : ∀ k, q k = (p k).map g) (n : Nat) (i : Int) : G.scan q n i = (G.scan p n i).map g := findS_map g h _
def G.lackOut (o : Option (Int × Int × ByteArray)) : Int × ByteArray × Unit := match o with | some w => (w.1, w.2.2, ()) | none => (-1, ByteArray.empty, ())
theorem lackS_eq (p : Funs) (l : Lay) (reach : Int) : G.scLackSL0 p reach l 0 = (G.lackAll p l reach).map fun w => (w.1, w.2.2, ()) := by
  refine scan_map _ (fun f => ?_) _ _
  refine scan_map _ (fun k => ?_) _ _
  unfold G.lackP
  rw [show ((f : Int)).toNat = f from rfl]
  split <;> rfl
theorem stuck_eq (p : Funs) (l : Lay) (reach : Int) : G.scStuckL0 p reach l p 0 = (G.lackAll p l reach).map fun w => ((true, ()), (l, (w.1, w.2.1, ()), ())) := by
  refine scan_map _ (fun f => ?_) _ _
  refine scan_map _ (fun k => ?_) _ _
  unfold G.stuckP
  rw [show ((f : Int)).toNat = f from rfl]
  split <;> rfl
def G.stuckOut (o : Option (Int × Int × ByteArray)) : (Int × Int × Unit) × Bool × Unit := match o with | some w => ((w.1, w.2.1, ()), true, ()) | none => ((0, 0, ()), false, ())
/-! LackS -/
noncomputable abbrev spLackS : Spec := ⟨[FunSP, LayP, IntP], .tup [IntP, StrP], false, fun x => G.layOkP x.1 x.2.1, fun x => (G.lackOut (G.lackAll x.1 x.2.1 x.2.2.1), ())⟩
noncomputable abbrev cxLackS : Cx := mkCx T0 pg32 [(0, lsLackSL0)] [] 56
theorem eLackS (p : Funs) (l : Lay) (reach : Int) : funK cxLackS Go.Proofs.Try.f63 spLackS.ins spLackS.out (p, l, reach, ()) =
  (if Go.Rx.G.preLackSL0 p reach l (0 : Int) = Bool.true then
    if Go.Rx.G.flag (1 : Nat) (Go.Rx.G.scLackSL0 p reach l (0 : Int)) = (0 : Nat) then Option.some (((-1 : Int), { data := { toList := [] } }, PUnit.unit), PUnit.unit)
    else
      if Go.Rx.G.flag (1 : Nat) (Go.Rx.G.scLackSL0 p reach l (0 : Int)) = (1 : Nat) then
        Option.some (Go.Rx.G.got (Go.Rx.G.scLackSL0 p reach l (0 : Int)) ((0 : Int), { data := { toList := [] } }, PUnit.unit), PUnit.unit)
      else Option.none
  else Option.none) := by kernel_rfl
/-! Stuck -/
noncomputable abbrev spStuck : Spec := ⟨[FunSP, LayP, IntP], .tup [.agg SpotK, BoolP], false, fun x => G.layOkP x.1 x.2.1, fun x => (G.stuckOut (G.lackAll x.1 x.2.1 x.2.2.1), ())⟩
noncomputable abbrev cxStuck : Cx := mkCx T0 pg32 [(0, lsStuckL0)] [] 51
theorem eStuck (p : Funs) (l : Lay) (reach : Int) : funK cxStuck Go.Proofs.Try.f64 spStuck.ins spStuck.out (p, l, reach, ()) =
  (if Go.Rx.G.preStuckL0 p reach l p (↑(List.length p) : Int) (0 : Int) = Bool.true then
    if Go.Rx.G.flag (1 : Nat) (Go.Rx.G.scStuckL0 p reach l p (0 : Int)) = (0 : Nat) then Option.some ((((0 : Int), (0 : Int), PUnit.unit), Bool.false, PUnit.unit), PUnit.unit)
    else
      if Go.Rx.G.flag (1 : Nat) (Go.Rx.G.scStuckL0 p reach l p (0 : Int)) = (1 : Nat) then
        Option.some
          (((Go.Rx.G.got (Go.Rx.G.scStuckL0 p reach l p (0 : Int)) ((Bool.false, PUnit.unit), l, ((0 : Int), (0 : Int), PUnit.unit), PUnit.unit)).2.2.1,
              (Go.Rx.G.got (Go.Rx.G.scStuckL0 p reach l p (0 : Int)) ((Bool.false, PUnit.unit), l, ((0 : Int), (0 : Int), PUnit.unit), PUnit.unit)).1),
            PUnit.unit)
      else Option.none
  else Option.none) := by kernel_rfl
end Go.Rx

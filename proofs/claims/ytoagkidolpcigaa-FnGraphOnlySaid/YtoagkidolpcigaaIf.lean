/-
  THE LAW on what is reached: it is closed.
-/
import Derived.Test.YtoagkidolpcigaaIe
namespace Go.Rx
open Go
set_option linter.unusedVariables false
set_option linter.unusedSimpArgs false
/-! DrawKeepReach -/
noncomputable abbrev cxDrawKeepReach : Cx := mkCx T0 pdk [] [] 30
noncomputable def G.dDrawKeepReach (x : PKs.den [BytesP]) : RK.den (.tup [FunSP, StrP]) × Bxs.den [BytesP] := G.val (funK cxDrawKeepReach Go.Proofs.Try.f11 [BytesP] (.tup [FunSP, StrP]) x)
noncomputable abbrev spDrawKeepReach : Spec := ⟨[BytesP], .tup [FunSP, StrP], true, fun x => x.1.all G.byteOk, fun x => G.dDrawKeepReach x⟩
theorem eDrawKeepReach (c : Bytes) : funK cxDrawKeepReach Go.Proofs.Try.f11 [BytesP] (.tup [FunSP, StrP]) (c, ()) =
  (if Go.Rx.G.rd (400000 : Int) (List.take (2000 : Nat) c, (0 : Int), PUnit.unit) = Bool.true then
    if Decidable.decide ((↑(List.length (Go.Rx.G.dL4Bent ((List.take (2000 : Nat) c, (0 : Int), PUnit.unit), PUnit.unit)).1) : Int) > (0 : Int)) = Bool.true then
      if Go.Rx.G.rd (1000000 : Int) (Go.Rx.G.dL4Bent ((List.take (2000 : Nat) c, (0 : Int), PUnit.unit), PUnit.unit)).2.1 = Bool.true then
        if Decidable.decide ((Go.Rx.G.dPick ((Go.Rx.G.dL4Bent ((List.take (2000 : Nat) c, (0 : Int), PUnit.unit), PUnit.unit)).2.1, (4 : Int), PUnit.unit)).1 > (0 : Int)) = Bool.true then
          if Go.Rx.G.rd (1000000 : Int) (Go.Rx.G.dPick ((Go.Rx.G.dL4Bent ((List.take (2000 : Nat) c, (0 : Int), PUnit.unit), PUnit.unit)).2.1, (4 : Int), PUnit.unit)).2.1 = Bool.true then
            if
                Decidable.decide
                    ((0 : Int) ≤
                      (Go.Rx.G.dPick
                          ((Go.Rx.G.dPick ((Go.Rx.G.dL4Bent ((List.take (2000 : Nat) c, (0 : Int), PUnit.unit), PUnit.unit)).2.1, (4 : Int), PUnit.unit)).2.1,
                            (↑(List.length (Go.Rx.G.dL4Bent ((List.take (2000 : Nat) c, (0 : Int), PUnit.unit), PUnit.unit)).1) : Int), PUnit.unit)).1) =
                  Bool.true then
              if
                  Decidable.decide
                      ((Go.Rx.G.dPick
                            ((Go.Rx.G.dPick ((Go.Rx.G.dL4Bent ((List.take (2000 : Nat) c, (0 : Int), PUnit.unit), PUnit.unit)).2.1, (4 : Int), PUnit.unit)).2.1,
                              (↑(List.length (Go.Rx.G.dL4Bent ((List.take (2000 : Nat) c, (0 : Int), PUnit.unit), PUnit.unit)).1) : Int), PUnit.unit)).1 <
                        (↑(List.length (Go.Rx.G.dL4Bent ((List.take (2000 : Nat) c, (0 : Int), PUnit.unit), PUnit.unit)).1) : Int)) =
                    Bool.true then
                if
                    Decidable.decide
                        (Int.toNat
                            (Go.Rx.G.dPick
                                ((Go.Rx.G.dPick ((Go.Rx.G.dL4Bent ((List.take (2000 : Nat) c, (0 : Int), PUnit.unit), PUnit.unit)).2.1, (4 : Int), PUnit.unit)).2.1,
                                  (↑(List.length (Go.Rx.G.dL4Bent ((List.take (2000 : Nat) c, (0 : Int), PUnit.unit), PUnit.unit)).1) : Int), PUnit.unit)).1 <
                          List.length (Go.Rx.G.dL4Bent ((List.take (2000 : Nat) c, (0 : Int), PUnit.unit), PUnit.unit)).1) =
                      Bool.true then
                  Option.some
                    (((Go.Rx.G.dL4Bent ((List.take (2000 : Nat) c, (0 : Int), PUnit.unit), PUnit.unit)).1,
                        (List.getD (Go.Rx.G.dL4Bent ((List.take (2000 : Nat) c, (0 : Int), PUnit.unit), PUnit.unit)).1
                            (Int.toNat
                              (Go.Rx.G.dPick
                                  ((Go.Rx.G.dPick ((Go.Rx.G.dL4Bent ((List.take (2000 : Nat) c, (0 : Int), PUnit.unit), PUnit.unit)).2.1, (4 : Int), PUnit.unit)).2.1,
                                    (↑(List.length (Go.Rx.G.dL4Bent ((List.take (2000 : Nat) c, (0 : Int), PUnit.unit), PUnit.unit)).1) : Int), PUnit.unit)).1)
                            (ByteArray.empty, Bool.false, [], PUnit.unit)).1,
                        PUnit.unit),
                      PUnit.unit)
                else Option.none
              else Option.none
            else Option.none
          else Option.none
        else
          if Go.Rx.G.rd (999990 : Int) (Go.Rx.G.dPick ((Go.Rx.G.dL4Bent ((List.take (2000 : Nat) c, (0 : Int), PUnit.unit), PUnit.unit)).2.1, (4 : Int), PUnit.unit)).2.1 = Bool.true then
            Option.some
              (((Go.Rx.G.dL4Bent ((List.take (2000 : Nat) c, (0 : Int), PUnit.unit), PUnit.unit)).1,
                  (Go.Rx.G.dL1Name (Go.Rx.G.dPick ((Go.Rx.G.dL4Bent ((List.take (2000 : Nat) c, (0 : Int), PUnit.unit), PUnit.unit)).2.1, (4 : Int), PUnit.unit)).2).1, PUnit.unit),
                PUnit.unit)
          else Option.none
      else Option.none
    else
      if Go.Rx.G.rd (999990 : Int) (Go.Rx.G.dL4Bent ((List.take (2000 : Nat) c, (0 : Int), PUnit.unit), PUnit.unit)).2.1 = Bool.true then
        Option.some
          (((Go.Rx.G.dL4Bent ((List.take (2000 : Nat) c, (0 : Int), PUnit.unit), PUnit.unit)).1,
              (Go.Rx.G.dL1Name (Go.Rx.G.dL4Bent ((List.take (2000 : Nat) c, (0 : Int), PUnit.unit), PUnit.unit)).2).1, PUnit.unit),
            PUnit.unit)
      else Option.none
  else Option.none) := by kernel_rfl
def DPPost (x : PKs.den [BytesP]) (r : RK.den (.tup [FunSP, StrP]) × Bxs.den [BytesP]) : Prop := G.funsB r.1.1 = true
theorem sfDrawKeepReach (c : Bytes) (h : c.all G.byteOk = true) : ∃ r, funK cxDrawKeepReach Go.Proofs.Try.f11 [BytesP] (.tup [FunSP, StrP]) (c, ()) = some r ∧ DPPost (c, ()) r := by
  have h0 := open_rd h
  have h1 := rd_le h0 (show (0 : Int) ≤ 400000 by omega)
  obtain ⟨_, p1, p2⟩ := postL4Bent ((c.take 2000, 0, ()), ()) h1
  rw [eDrawKeepReach, if_pos h1]
  generalize G.dL4Bent ((c.take 2000, 0, ()), ()) = q at p1 p2 ⊢
  have p2 : G.funsB q.1 = true := p2
  have hq : G.rd (0 + 6000) q.2.1 = true := p1.rd h0
  by_cases hl : ((q.1.length : Nat) : Int) > 0
  · have hq1 := rd_le hq (show (0 : Int) + 6000 ≤ 1000000 by omega)
    rw [if_pos (decide_eq_true hl), if_pos hq1]
    obtain ⟨_, a1, a2, a3⟩ := postPick (q.2.1, 4, ()) hq1
    generalize G.dPick (q.2.1, 4, ()) = t at a1 a2 a3 ⊢
    have a1 : Adv 1 q.2.1 t.2.1 := a1
    have ht1 := a1.rd hq
    by_cases ht : t.1 > 0
    · have ht2 := rd_le ht1 (show (0 : Int) + 6000 + 1 ≤ 1000000 by omega)
      rw [if_pos (decide_eq_true ht), if_pos ht2]
      obtain ⟨_, b1, b2, b3⟩ := postPick (t.2.1, ((q.1.length : Nat) : Int), ()) ht2
      generalize G.dPick (t.2.1, ((q.1.length : Nat) : Int), ()) = u at b1 b2 b3 ⊢
      have b2 : 0 ≤ u.1 := b2
      have b3 : u.1 < ((q.1.length : Nat) : Int) := b3 (by show (1 : Int) ≤ ((q.1.length : Nat) : Int); omega)
      rw [if_pos (decide_eq_true b2), if_pos (decide_eq_true b3), if_pos (decide_eq_true ((Int.toNat_lt b2).2 b3))]
      exact ⟨_, rfl, p2⟩
    · rw [if_neg (by simpa using ht), if_pos (rd_le ht1 (by omega))]
      exact ⟨_, rfl, p2⟩
  · rw [if_neg (by simpa using hl), if_pos (rd_le hq (by omega))]
    exact ⟨_, rfl, p2⟩
theorem postDrawKeepReach (x : PKs.den [BytesP]) (h : (x.1.all G.byteOk) = true) : funK cxDrawKeepReach Go.Proofs.Try.f11 [BytesP] (.tup [FunSP, StrP]) x = some (G.dDrawKeepReach x) ∧ DPPost x (G.dDrawKeepReach x) := val_of (sfDrawKeepReach x.1 h)
theorem okDrawKeepReach : SpecOk Go.Proofs.Try.prog 11 spDrawKeepReach :=
  fun_okB (cx := cxDrawKeepReach) (F := Go.Proofs.Try.f11) (cxOk T0_ok T0_eq pdk_ok) mixed (by kernel_rfl) (by decide) (by kernel_rfl) (lps_none (by kernel_rfl)) (fun x h => (postDrawKeepReach x h).1)
/-! the law's own -/
/-! WpHasL: a search -/
def G.preWpHasL (l : Strs) (s : ByteArray) (i : Int) : Bool := G.preA (l.length) i && (true && (true))
theorem preWpHasL_iff {l : Strs} {s : ByteArray} {i : Int} : G.preWpHasL l s i = true ↔ (0 ≤ i ∧ i ≤ ((l.length : Nat) : Int) ∧ (l.length : Nat) ≤ 1099511627776) ∧ True ∧ true = true := by simp [G.preWpHasL, preA_iff]
def G.scWpHasL (l : Strs) (s : ByteArray) (i : Int) : Option (Bool × Unit) := G.scan (G.hitT (G.strAt l s)) (l.length) i
noncomputable abbrev lsWpHasL : LSpec := ⟨[0, 1, 5, 4], [4], [StrSP, StrP, IntP, BoolP], [BoolP], false, fun x => G.preWpHasL x.1 x.2.1 x.2.2.1,
  fun x => ((G.flag 1 (G.scWpHasL x.1 x.2.1 x.2.2.1), G.got (G.scWpHasL x.1 x.2.1 x.2.2.1) (x.2.2.2.1, ())), ())⟩
noncomputable abbrev clWpHasL : Cx := mkCx T0 pr11 [(0, lsWpHasL)] [] 18
theorem rWpHasL (l : Strs) (s : ByteArray) (i : Int) (r : Bool) : roundK clWpHasL 0 (loopIn Go.Proofs.Try.f14 0) lsWpHasL (l, s, i, r, ()) =
  (if Decidable.decide (i < (↑(List.length l) : Int)) = Bool.true then
    if Decidable.decide ((0 : Int) ≤ i) = Bool.true then
      if Decidable.decide (i < (↑(List.length l) : Int)) = Bool.true then
        if Go.Rx.strEq (List.getD l (Int.toNat i) (ByteArray.empty, PUnit.unit)).1 s = Bool.true then Option.some (Go.Rx.LRes.stop (1 : Nat) (Bool.true, PUnit.unit) PUnit.unit)
        else Option.some (Go.Rx.LRes.go (l, s, Go.IntKind.wrap Go.IntKind.i64 (i + (1 : Int)), r, PUnit.unit))
      else Option.none
    else Option.none
  else Option.some (Go.Rx.LRes.stop (0 : Nat) (r, PUnit.unit) PUnit.unit)) := by kernel_rfl
noncomputable abbrev muWpHasL : PKs.den lsWpHasL.ins → Nat := fun x => (x.1.length) - x.2.2.1.toNat
theorem stWpHasL (l : Strs) (s : ByteArray) (i : Int) (r : Bool) (h : G.preWpHasL l s i = true) : StepOk lsWpHasL (eqInv lsWpHasL) muWpHasL (l, s, i, r, ()) (roundK clWpHasL 0 (loopIn Go.Proofs.Try.f14 0) lsWpHasL (l, s, i, r, ())) := by
  obtain ⟨⟨h0, h1, h2⟩, hn, hc⟩ := preWpHasL_iff.1 h
  rw [rWpHasL]
  by_cases hi : i < ((l.length : Nat) : Int)
  · have hw : IntKind.i64.wrap (i + 1) = i + 1 := w64 (by omega) (by omega)
    have hs : G.scWpHasL l s i = ((G.hitT (G.strAt l s)) i.toNat).or (G.scWpHasL l s (i + 1)) := scan_step h0 (by omega)
    refine scan_stop (fl := 1) (eqInv lsWpHasL) muWpHasL (l, s, i + 1, r, ()) ((G.hitT (G.strAt l s)) i.toNat) () ?_ (fun ho => ⟨(show G.preWpHasL l s (i + 1) = true from preWpHasL_iff.2 ⟨⟨by omega, by omega, h2⟩, trivial, hc⟩), ?_, ?_⟩) (fun w ho => ?_)
    · rw [hitT_match, hw, if_pos (decide_eq_true hi), if_pos (decide_eq_true h0), if_pos (decide_eq_true hi), strEq_iff]
      rfl
    · show (l.length) - (i + 1).toNat < (l.length) - i.toNat
      omega
    · show ((_, _), _) = ((_, _), _)
      simp only [hs, ho, Option.none_or]
    · show ((_, _), _) = ((_, _), _)
      simp only [hs, ho, Option.some_or]
      rfl
  · have hs : G.scWpHasL l s i = none := scan_end (by omega)
    skip
    rw [if_neg (by simpa using hi)]
    show ((_, _), _) = ((_, _), _)
    simp only [hs]
    rfl
theorem lpWpHasL : LpOk Go.Proofs.Try.prog clWpHasL.ntmps 0 (loopIn Go.Proofs.Try.f14 0) lsWpHasL :=
  lp_okB (cxOk T0_ok T0_eq pr11_ok) mixed (by kernel_rfl) (lps_none (by kernel_rfl)) (eqInv lsWpHasL) muWpHasL (fun _ h => h) (fun x h => stWpHasL x.1 x.2.1 x.2.2.1 x.2.2.2.1 h)
/-! WpHas -/
noncomputable abbrev spWpHas : Spec := ⟨[StrSP, StrP], BoolR, false, fun x => G.few x.1.length, fun x => (G.hasS x.1 x.2.1, ())⟩
noncomputable abbrev cxWpHas : Cx := mkCx T0 pr11 [(0, lsWpHasL)] [] 18
theorem eWpHas (l : Strs) (s : ByteArray) : funK cxWpHas Go.Proofs.Try.f14 spWpHas.ins spWpHas.out (l, s, ()) =
  (if Go.Rx.G.preWpHasL l s (0 : Int) = Bool.true then
    if Go.Rx.G.flag (1 : Nat) (Go.Rx.G.scWpHasL l s (0 : Int)) = (0 : Nat) then Option.some (Bool.false, PUnit.unit)
    else if Go.Rx.G.flag (1 : Nat) (Go.Rx.G.scWpHasL l s (0 : Int)) = (1 : Nat) then Option.some (Go.Rx.G.got (Go.Rx.G.scWpHasL l s (0 : Int)) (Bool.false, PUnit.unit)) else Option.none
  else Option.none) := by kernel_rfl
theorem sfWpHas (l : Strs) (s : ByteArray) (h : G.few l.length = true) : funK cxWpHas Go.Proofs.Try.f14 spWpHas.ins spWpHas.out (l, s, ()) = some (G.hasS l s, ()) := by
  have h := few_iff.1 h
  rw [eWpHas, if_pos (preWpHasL_iff.2 ⟨⟨by omega, by omega, h⟩, trivial, rfl⟩), show G.scWpHasL l s 0 = _ from scan_hitT _ _ _]
  unfold G.hasS
  cases G.anyFrom l.length (G.strAt l s) 0 <;> rfl
theorem okWpHas : SpecOk Go.Proofs.Try.prog 14 spWpHas :=
  fun_okB (cx := cxWpHas) (F := Go.Proofs.Try.f14) (cxOk T0_ok T0_eq pr11_ok) mixed (by kernel_rfl) (by decide) (by kernel_rfl) (lps_of (l := [(0, loopIn Go.Proofs.Try.f14 0)]) (by kernel_rfl) ⟨lp_at lpWpHasL rfl, trivial⟩) (fun x h => sfWpHas x.1 x.2.1 h)
def G.funRefs (f : Fun) : Strs := if G.funOk f = true then G.refsOf f.2.2.1 else []
/-! FunRefs -/
noncomputable abbrev spFunRefs : Spec := ⟨[.agg FunK], .one (.c (.own strT)), false, fun x => G.smallF x.1, fun x => (G.funRefs x.1, ())⟩
noncomputable abbrev cxFunRefs : Cx := mkCx T0 pr11 [] [] 8
theorem eFunRefs (f : Fun) : funK cxFunRefs Go.Proofs.Try.f15 spFunRefs.ins spFunRefs.out (f, ()) =
  (if Go.Rx.G.smallF f = Bool.true then
    if (!Go.Rx.G.funOk f) = Bool.true then Option.some ([], PUnit.unit) else if Go.Rx.G.few (List.length f.2.2.1) = Bool.true then Option.some (Go.Rx.G.refsOf f.2.2.1, PUnit.unit) else Option.none
  else Option.none) := by kernel_rfl
theorem sfFunRefs (f : Fun) (h : G.smallF f = true) : funK cxFunRefs Go.Proofs.Try.f15 spFunRefs.ins spFunRefs.out (f, ()) = some (G.funRefs f, ()) := by
  obtain ⟨h1, h2, h3⟩ := smallF_iff.1 h
  rw [eFunRefs, if_pos h]
  unfold G.funRefs
  cases G.funOk f with
  | false => rfl
  | true =>
    rw [if_neg (by decide), if_pos (few_iff.2 h2)]
    rfl
theorem okFunRefs : SpecOk Go.Proofs.Try.prog 15 spFunRefs :=
  fun_okB (cx := cxFunRefs) (F := Go.Proofs.Try.f15) (cxOk T0_ok T0_eq pr11_ok) mixed (by kernel_rfl) (by decide) (by kernel_rfl) (lps_none (by kernel_rfl)) (fun x h => sfFunRefs x.1 h)
noncomputable abbrev pl1 : List (Nat × List Spec) := (11, [spDrawKeepReach]) :: (13, [spSpKeepReach]) :: (14, [spWpHas]) :: (15, [spFunRefs]) :: pr11
theorem pl1_ok : PhiOk Go.Proofs.Try.prog pl1 := ⟨⟨okDrawKeepReach, trivial⟩, ⟨okSpKeepReach, trivial⟩, ⟨okWpHas, trivial⟩, ⟨okFunRefs, trivial⟩, pr11_ok⟩
def G.strict (l : Strs) : Bool := decide (∀ k, k < l.length - 1 → Go.Rx.strLt (G.sAt l k) (G.sAt l (k + 1)) = true)
theorem strict_G {l : Strs} (h : Strict l) : G.strict l = true := by
  refine decide_eq_true fun k hk => ?_
  rw [strLt_tx, decide_eq_true_iff, sAt_get (show k < l.length by omega), sAt_get (show k + 1 < l.length by omega)]
  exact List.pairwise_iff_getElem.1 h k (k + 1) (by omega) (by omega) (by omega)
theorem strLt_not {a b : ByteArray} (h : Go.Rx.strLt a b = true) : (Go.Rx.strLt b a || Go.Rx.strEq b a) = false := by
  rw [strLt_tx, decide_eq_true_iff] at h
  rw [strLt_tx, strEq_iff, Bool.or_eq_false_iff]
  refine ⟨decide_eq_false fun h' => List.lt_irrefl _ (List.lt_trans h h'), decide_eq_false fun e => ?_⟩
  rw [e] at h
  exact List.lt_irrefl _ h
theorem funRefs_len (f : Fun) : (G.funRefs f).length ≤ f.2.2.1.length := by
  unfold G.funRefs
  split
  · exact refsOf_len _
  · exact Nat.zero_le _
/-! KrL0: a gathering -/
def G.preKrL0 (r : Strs) (w : Strs) (i : Int)  : Bool := G.preA (r.length) i && (true && (G.strict r && decide (r = w)))
theorem preKrL0_iff {r : Strs} {w : Strs} {i : Int}  : G.preKrL0 r w i  = true ↔ (0 ≤ i ∧ i ≤ ((r.length : Nat) : Int) ∧ (r.length : Nat) ≤ 1099511627776) ∧ True ∧ (G.strict r && decide (r = w)) = true := by simp [G.preKrL0, preA_iff]
def G.oneKrL0 (r : Strs) (w : Strs) (a : Unit) (k : Nat) : Unit := ()
def G.fdKrL0 (r : Strs) (w : Strs) (i : Int) (a : Unit) : Unit := G.fold (G.oneKrL0 r w) (r.length) i a
noncomputable abbrev lsKrL0 : LSpec := ⟨[5, 6, 7], [], [StrSP, StrSP, IntP], [], false, fun x => G.preKrL0 x.1 x.2.1 x.2.2.1 ,
  fun x => ((0, G.fdKrL0 x.1 x.2.1 x.2.2.1 (())), ())⟩
noncomputable abbrev clKrL0 : Cx := mkCx T0 pl1 [(0, lsKrL0)] [] 110
theorem rKrL0 (r : Strs) (w : Strs) (i : Int) : roundK clKrL0 0 (loopIn Go.Proofs.Try.f3 0) lsKrL0 (r, w, i, ()) =
  (if Decidable.decide (i < (↑(List.length r) : Int)) = Bool.true then
    if Decidable.decide ((0 : Int) ≤ i) = Bool.true then
      if Decidable.decide (i < (↑(List.length r) : Int)) = Bool.true then
        if Decidable.decide ((0 : Int) ≤ i) = Bool.true then
          if Decidable.decide (i < (↑(List.length w) : Int)) = Bool.true then
            if (!Go.Rx.strEq (List.getD r (Int.toNat i) (ByteArray.empty, PUnit.unit)).1 (List.getD w (Int.toNat i) (ByteArray.empty, PUnit.unit)).1) = Bool.false then
              if Decidable.decide (i > (0 : Int)) = Bool.true then
                if Decidable.decide ((0 : Int) ≤ i) = Bool.true then
                  if Decidable.decide (i < (↑(List.length r) : Int)) = Bool.true then
                    if Decidable.decide ((0 : Int) ≤ Go.IntKind.wrap Go.IntKind.i64 (i - (1 : Int))) = Bool.true then
                      if Decidable.decide (Go.IntKind.wrap Go.IntKind.i64 (i - (1 : Int)) < (↑(List.length r) : Int)) = Bool.true then
                        if
                            (Go.Rx.strLt (List.getD r (Int.toNat i) (ByteArray.empty, PUnit.unit)).1
                                  (List.getD r (Int.toNat (Go.IntKind.wrap Go.IntKind.i64 (i - (1 : Int)))) (ByteArray.empty, PUnit.unit)).1 ||
                                Go.Rx.strEq (List.getD r (Int.toNat i) (ByteArray.empty, PUnit.unit)).1
                                  (List.getD r (Int.toNat (Go.IntKind.wrap Go.IntKind.i64 (i - (1 : Int)))) (ByteArray.empty, PUnit.unit)).1) =
                              Bool.true then
                          Option.some (Go.Rx.LRes.stop (1 : Nat) PUnit.unit PUnit.unit)
                        else Option.some (Go.Rx.LRes.go (r, w, Go.IntKind.wrap Go.IntKind.i64 (i + (1 : Int)), PUnit.unit))
                      else Option.none
                    else Option.none
                  else Option.none
                else Option.none
              else Option.some (Go.Rx.LRes.go (r, w, Go.IntKind.wrap Go.IntKind.i64 (i + (1 : Int)), PUnit.unit))
            else Option.some (Go.Rx.LRes.stop (1 : Nat) PUnit.unit PUnit.unit)
          else Option.none
        else Option.none
      else Option.none
    else Option.none
  else Option.some (Go.Rx.LRes.stop (0 : Nat) PUnit.unit PUnit.unit)) := by kernel_rfl
noncomputable abbrev muKrL0 : PKs.den lsKrL0.ins → Nat := fun x => (x.1.length) - x.2.2.1.toNat
theorem stKrL0 (r : Strs) (w : Strs) (i : Int) (h : G.preKrL0 r w i  = true) : StepOk lsKrL0 (eqInv lsKrL0) muKrL0 (r, w, i, ()) (roundK clKrL0 0 (loopIn Go.Proofs.Try.f3 0) lsKrL0 (r, w, i, ())) := by
  obtain ⟨⟨h0, h1, h2⟩, hn, hc⟩ := preKrL0_iff.1 h
  rw [rKrL0]
  by_cases hi : i < ((r.length : Nat) : Int)
  · have hw : IntKind.i64.wrap (i + 1) = i + 1 := w64 (by omega) (by omega)
    have hs : G.fdKrL0 r w i (()) = G.fdKrL0 r w (i + 1) (G.oneKrL0 r w (()) i.toNat) := fold_step h0 hi
    refine fold_go (eqInv lsKrL0) muKrL0 (r, w, i + 1, ()) ?_ (show G.preKrL0 r w (i + 1)  = true from preKrL0_iff.2 ⟨⟨by omega, by omega, h2⟩, trivial, ?_⟩) ?_ ?_
    · rw [Bool.and_eq_true, decide_eq_true_iff] at hc
      obtain ⟨hc1, rfl⟩ := hc
      have e1 : Go.Rx.strEq (G.sAt r i.toNat) (G.sAt r i.toNat) = true := by rw [strEq_iff]; simp
      rw [if_pos (decide_eq_true hi), if_pos (decide_eq_true h0), if_pos (decide_eq_true hi), if_pos (decide_eq_true h0), if_pos (decide_eq_true hi), sAt_eq, e1, if_pos (by rfl)]
      by_cases hp : i > 0
      · have hw2 : IntKind.i64.wrap (i - 1) = i - 1 := w64 (by omega) (by omega)
        have hs1 := strLt_not (of_decide_eq_true hc1 (i - 1).toNat (by omega))
        rw [show (i - 1).toNat + 1 = i.toNat by omega] at hs1
        rw [if_pos (decide_eq_true hp), if_pos (decide_eq_true h0), if_pos (decide_eq_true hi), hw2, if_pos (decide_eq_true (show 0 ≤ i - 1 by omega)), if_pos (decide_eq_true (show i - 1 < (r.length : Int) by omega)), sAt_eq r (i - 1), hs1, if_neg (by decide), hw]
      · rw [if_neg (by simpa using hp), hw]
    · exact hc
    · show (r.length) - (i + 1).toNat < (r.length) - i.toNat
      omega
    · show ((_, _), _) = ((_, _), _)
      simp only [hs]
  · have hs : G.fdKrL0 r w i (()) = (()) := fold_end (by omega)
    skip
    rw [if_neg (by simpa using hi)]
    show ((_, _), _) = ((_, _), _)
    simp only [hs]
theorem lpKrL0 : LpOk Go.Proofs.Try.prog clKrL0.ntmps 0 (loopIn Go.Proofs.Try.f3 0) lsKrL0 :=
  lp_okB (cxOk T0_ok T0_eq pl1_ok) mixed (by kernel_rfl) (lps_none (by kernel_rfl)) (eqInv lsKrL0) muKrL0 (fun _ h => h) (fun x h => stKrL0 x.1 x.2.1 x.2.2.1 h)
/-! KrL4: a gathering -/
def G.preKrL4 (r : Strs) (refs : Strs) (i : Int)  : Bool := G.preA (refs.length) i && (true && (G.few r.length && decide (∀ k, k < refs.length → G.hasS r (G.sAt refs k) = true)))
theorem preKrL4_iff {r : Strs} {refs : Strs} {i : Int}  : G.preKrL4 r refs i  = true ↔ (0 ≤ i ∧ i ≤ ((refs.length : Nat) : Int) ∧ (refs.length : Nat) ≤ 1099511627776) ∧ True ∧ (G.few r.length && decide (∀ k, k < refs.length → G.hasS r (G.sAt refs k) = true)) = true := by simp [G.preKrL4, preA_iff]
def G.oneKrL4 (r : Strs) (refs : Strs) (a : Unit) (k : Nat) : Unit := ()
def G.fdKrL4 (r : Strs) (refs : Strs) (i : Int) (a : Unit) : Unit := G.fold (G.oneKrL4 r refs) (refs.length) i a
noncomputable abbrev lsKrL4 : LSpec := ⟨[5, 9, 10], [], [StrSP, StrSP, IntP], [], false, fun x => G.preKrL4 x.1 x.2.1 x.2.2.1 ,
  fun x => ((0, G.fdKrL4 x.1 x.2.1 x.2.2.1 (())), ())⟩
noncomputable abbrev clKrL4 : Cx := mkCx T0 pl1 [(4, lsKrL4)] [] 110
theorem rKrL4 (r : Strs) (refs : Strs) (i : Int) : roundK clKrL4 4 (loopIn Go.Proofs.Try.f3 4) lsKrL4 (r, refs, i, ()) =
  (if Decidable.decide (i < (↑(List.length refs) : Int)) = Bool.true then
    if Decidable.decide ((0 : Int) ≤ i) = Bool.true then
      if Decidable.decide (i < (↑(List.length refs) : Int)) = Bool.true then
        if Go.Rx.G.few (List.length r) = Bool.true then
          if (!Go.Rx.G.hasS r (List.getD refs (Int.toNat i) (ByteArray.empty, PUnit.unit)).1) = Bool.true then Option.some (Go.Rx.LRes.stop (1 : Nat) PUnit.unit PUnit.unit)
          else Option.some (Go.Rx.LRes.go (r, refs, Go.IntKind.wrap Go.IntKind.i64 (i + (1 : Int)), PUnit.unit))
        else Option.none
      else Option.none
    else Option.none
  else Option.some (Go.Rx.LRes.stop (0 : Nat) PUnit.unit PUnit.unit)) := by kernel_rfl
noncomputable abbrev muKrL4 : PKs.den lsKrL4.ins → Nat := fun x => (x.2.1.length) - x.2.2.1.toNat
theorem stKrL4 (r : Strs) (refs : Strs) (i : Int) (h : G.preKrL4 r refs i  = true) : StepOk lsKrL4 (eqInv lsKrL4) muKrL4 (r, refs, i, ()) (roundK clKrL4 4 (loopIn Go.Proofs.Try.f3 4) lsKrL4 (r, refs, i, ())) := by
  obtain ⟨⟨h0, h1, h2⟩, hn, hc⟩ := preKrL4_iff.1 h
  rw [rKrL4]
  by_cases hi : i < ((refs.length : Nat) : Int)
  · have hw : IntKind.i64.wrap (i + 1) = i + 1 := w64 (by omega) (by omega)
    have hs : G.fdKrL4 r refs i (()) = G.fdKrL4 r refs (i + 1) (G.oneKrL4 r refs (()) i.toNat) := fold_step h0 hi
    refine fold_go (eqInv lsKrL4) muKrL4 (r, refs, i + 1, ()) ?_ (show G.preKrL4 r refs (i + 1)  = true from preKrL4_iff.2 ⟨⟨by omega, by omega, h2⟩, trivial, ?_⟩) ?_ ?_
    · rw [Bool.and_eq_true, decide_eq_true_iff] at hc
      rw [if_pos (decide_eq_true hi), if_pos (decide_eq_true h0), if_pos (decide_eq_true hi), if_pos hc.1, sAt_eq, hc.2 i.toNat (by omega), if_neg (by decide), hw]
    · exact hc
    · show (refs.length) - (i + 1).toNat < (refs.length) - i.toNat
      omega
    · show ((_, _), _) = ((_, _), _)
      simp only [hs]
  · have hs : G.fdKrL4 r refs i (()) = (()) := fold_end (by omega)
    skip
    rw [if_neg (by simpa using hi)]
    show ((_, _), _) = ((_, _), _)
    simp only [hs]
theorem lpKrL4 : LpOk Go.Proofs.Try.prog clKrL4.ntmps 4 (loopIn Go.Proofs.Try.f3 4) lsKrL4 :=
  lp_okB (cxOk T0_ok T0_eq pl1_ok) mixed (by kernel_rfl) (lps_none (by kernel_rfl)) (eqInv lsKrL4) muKrL4 (fun _ h => h) (fun x h => stKrL4 x.1 x.2.1 x.2.2.1 h)
def G.krOk (p : Funs) (r : Strs) : Bool := decide (∀ k, k < p.length → G.hasS r (G.pAt p k).1 = true → (∀ j, j < (G.funRefs (G.pAt p k)).length → G.hasS r (G.sAt (G.funRefs (G.pAt p k)) j) = true) ∧ (G.keepReach p (G.pAt p k).1).length ≤ r.length)
/-! KrL2: a gathering -/
def G.preKrL2 (p : Funs) (r : Strs) (i : Int)  : Bool := G.preA (p.length) i && (true && (G.smallP p && (G.few r.length && G.krOk p r)))
theorem preKrL2_iff {p : Funs} {r : Strs} {i : Int}  : G.preKrL2 p r i  = true ↔ (0 ≤ i ∧ i ≤ ((p.length : Nat) : Int) ∧ (p.length : Nat) ≤ 1099511627776) ∧ True ∧ (G.smallP p && (G.few r.length && G.krOk p r)) = true := by simp [G.preKrL2, preA_iff]
def G.oneKrL2 (p : Funs) (r : Strs) (a : Unit) (k : Nat) : Unit := ()
def G.fdKrL2 (p : Funs) (r : Strs) (i : Int) (a : Unit) : Unit := G.fold (G.oneKrL2 p r) (p.length) i a
noncomputable abbrev lsKrL2 : LSpec := ⟨[3, 5, 8], [], [FunSP, StrSP, IntP], [], false, fun x => G.preKrL2 x.1 x.2.1 x.2.2.1 ,
  fun x => ((0, G.fdKrL2 x.1 x.2.1 x.2.2.1 (())), ())⟩
noncomputable abbrev clKrL2 : Cx := mkCx T0 pl1 [(4, lsKrL4), (2, lsKrL2)] [] 110
theorem rKrL2 (p : Funs) (r : Strs) (i : Int) : roundK clKrL2 2 (loopIn Go.Proofs.Try.f3 2) lsKrL2 (p, r, i, ()) =
  (if Decidable.decide (i < (↑(List.length p) : Int)) = Bool.true then
    if Decidable.decide ((0 : Int) ≤ i) = Bool.true then
      if Decidable.decide (i < (↑(List.length p) : Int)) = Bool.true then
        if Go.Rx.G.few (List.length r) = Bool.true then
          if (!Go.Rx.G.hasS r (List.getD p (Int.toNat i) (ByteArray.empty, Bool.false, [], PUnit.unit)).1) = Bool.true then
            Option.some (Go.Rx.LRes.go (p, r, Go.IntKind.wrap Go.IntKind.i64 (i + (1 : Int)), PUnit.unit))
          else
            if Decidable.decide ((0 : Int) ≤ i) = Bool.true then
              if Decidable.decide (i < (↑(List.length p) : Int)) = Bool.true then
                if Go.Rx.G.smallF (List.getD p (Int.toNat i) (ByteArray.empty, Bool.false, [], PUnit.unit)) = Bool.true then
                  if Go.Rx.G.preKrL4 r (Go.Rx.G.funRefs (List.getD p (Int.toNat i) (ByteArray.empty, Bool.false, [], PUnit.unit))) (0 : Int) = Bool.true then
                    if Decidable.decide ((0 : Int) ≤ i) = Bool.true then
                      if Decidable.decide (i < (↑(List.length p) : Int)) = Bool.true then
                        if Go.Rx.G.smallP p = Bool.true then
                          if
                              Decidable.decide
                                  ((↑(List.length (Go.Rx.G.keepReach p (List.getD p (Int.toNat i) (ByteArray.empty, Bool.false, [], PUnit.unit)).1)) : Int) > (↑(List.length r) : Int)) =
                                Bool.true then
                            Option.some (Go.Rx.LRes.stop (1 : Nat) PUnit.unit PUnit.unit)
                          else Option.some (Go.Rx.LRes.go (p, r, Go.IntKind.wrap Go.IntKind.i64 (i + (1 : Int)), PUnit.unit))
                        else Option.none
                      else Option.none
                    else Option.none
                  else Option.none
                else Option.none
              else Option.none
            else Option.none
        else Option.none
      else Option.none
    else Option.none
  else Option.some (Go.Rx.LRes.stop (0 : Nat) PUnit.unit PUnit.unit)) := by kernel_rfl
noncomputable abbrev muKrL2 : PKs.den lsKrL2.ins → Nat := fun x => (x.1.length) - x.2.2.1.toNat
theorem stKrL2 (p : Funs) (r : Strs) (i : Int) (h : G.preKrL2 p r i  = true) : StepOk lsKrL2 (eqInv lsKrL2) muKrL2 (p, r, i, ()) (roundK clKrL2 2 (loopIn Go.Proofs.Try.f3 2) lsKrL2 (p, r, i, ())) := by
  obtain ⟨⟨h0, h1, h2⟩, hn, hc⟩ := preKrL2_iff.1 h
  rw [rKrL2]
  by_cases hi : i < ((p.length : Nat) : Int)
  · have hw : IntKind.i64.wrap (i + 1) = i + 1 := w64 (by omega) (by omega)
    have hs : G.fdKrL2 p r i (()) = G.fdKrL2 p r (i + 1) (G.oneKrL2 p r (()) i.toNat) := fold_step h0 hi
    refine fold_go (eqInv lsKrL2) muKrL2 (p, r, i + 1, ()) ?_ (show G.preKrL2 p r (i + 1)  = true from preKrL2_iff.2 ⟨⟨by omega, by omega, h2⟩, trivial, ?_⟩) ?_ ?_
    · rw [Bool.and_eq_true, Bool.and_eq_true] at hc
      obtain ⟨c1, c2, c3⟩ := hc
      have c3 := of_decide_eq_true c3 i.toNat (by omega)
      have hsf : G.smallF (G.pAt p i.toNat) = true := all_getD (ByteArray.empty, false, [], ()) (smallP_iff.1 c1).2 (by omega)
      have hfl := funRefs_len (G.pAt p i.toNat)
      have hbl := (smallF_iff.1 hsf).2.1
      rw [if_pos (decide_eq_true hi), if_pos (decide_eq_true h0), if_pos (decide_eq_true hi), if_pos c2, pAt_eq]
      cases hh : G.hasS r (G.pAt p i.toNat).1 with
      | false => rw [if_pos (by rfl), hw]
      | true =>
        obtain ⟨d1, d2⟩ := c3 hh
        rw [if_neg (by decide), if_pos (decide_eq_true h0), if_pos (decide_eq_true hi), if_pos hsf, if_pos (preKrL4_iff.2 ⟨⟨by omega, by omega, by omega⟩, trivial, by rw [Bool.and_eq_true]; exact ⟨c2, decide_eq_true d1⟩⟩), if_pos (decide_eq_true h0), if_pos (decide_eq_true hi), if_pos c1, if_neg (by simp; omega), hw]
    · exact hc
    · show (p.length) - (i + 1).toNat < (p.length) - i.toNat
      omega
    · show ((_, _), _) = ((_, _), _)
      simp only [hs]
  · have hs : G.fdKrL2 p r i (()) = (()) := fold_end (by omega)
    skip
    rw [if_neg (by simpa using hi)]
    show ((_, _), _) = ((_, _), _)
    simp only [hs]
theorem lpKrL2 : LpOk Go.Proofs.Try.prog clKrL2.ntmps 2 (loopIn Go.Proofs.Try.f3 2) lsKrL2 :=
  lp_okB (cxOk T0_ok T0_eq pl1_ok) mixed (by kernel_rfl) (lps_of (l := [(4, loopIn Go.Proofs.Try.f3 4)]) (by kernel_rfl) ⟨lp_at lpKrL4 rfl, trivial⟩) (eqInv lsKrL2) muKrL2 (fun _ h => h) (fun x h => stKrL2 x.1 x.2.1 x.2.2.1 h)
/-! LawKeepReach -/
noncomputable abbrev spLawKeepReach : Spec := ⟨[BytesP], BoolR, true, fun x => x.1.all G.byteOk, fun x => (true, ())⟩
noncomputable abbrev cxLawKeepReach : Cx := mkCx T0 pl1 [(0, lsKrL0), (2, lsKrL2)] [] 110
theorem eLawKeepReach (c : Bytes) : funK cxLawKeepReach Go.Proofs.Try.f3 spLawKeepReach.ins spLawKeepReach.out (c, ()) =
  (if Decidable.decide ((↑(List.length c) : Int) > (1048576 : Int)) = Bool.true then Option.some (Bool.true, PUnit.unit)
  else
    if List.all c Go.Rx.G.byteOk = Bool.true then
      if Go.Rx.G.smallP (Go.Rx.G.dDrawKeepReach (c, PUnit.unit)).1.1 = Bool.true then
        if Go.Rx.G.smallP (Go.Rx.G.dDrawKeepReach (c, PUnit.unit)).1.1 = Bool.true then
          if
              (!Decidable.decide
                    ((↑(List.length (Go.Rx.G.keepReach (Go.Rx.G.dDrawKeepReach (c, PUnit.unit)).1.1 (Go.Rx.G.dDrawKeepReach (c, PUnit.unit)).1.2.1)) : Int) =
                      (↑(List.length (Go.Rx.G.spReach (Go.Rx.G.dDrawKeepReach (c, PUnit.unit)).1.1 (Go.Rx.G.dDrawKeepReach (c, PUnit.unit)).1.2.1)) : Int))) =
                Bool.true then
            Option.some (Bool.false, PUnit.unit)
          else
            if
                Go.Rx.G.preKrL0 (Go.Rx.G.keepReach (Go.Rx.G.dDrawKeepReach (c, PUnit.unit)).1.1 (Go.Rx.G.dDrawKeepReach (c, PUnit.unit)).1.2.1)
                    (Go.Rx.G.spReach (Go.Rx.G.dDrawKeepReach (c, PUnit.unit)).1.1 (Go.Rx.G.dDrawKeepReach (c, PUnit.unit)).1.2.1) (0 : Int) =
                  Bool.true then
              if Decidable.decide ((↑(List.length (Go.Rx.G.keepReach (Go.Rx.G.dDrawKeepReach (c, PUnit.unit)).1.1 (Go.Rx.G.dDrawKeepReach (c, PUnit.unit)).1.2.1)) : Int) = (0 : Int)) = Bool.true then
                Option.some (Bool.true, PUnit.unit)
              else
                if
                    Go.Rx.G.preKrL2 (Go.Rx.G.dDrawKeepReach (c, PUnit.unit)).1.1
                        (Go.Rx.G.keepReach (Go.Rx.G.dDrawKeepReach (c, PUnit.unit)).1.1 (Go.Rx.G.dDrawKeepReach (c, PUnit.unit)).1.2.1) (0 : Int) =
                      Bool.true then
                  if Go.Rx.G.few (List.length (Go.Rx.G.keepReach (Go.Rx.G.dDrawKeepReach (c, PUnit.unit)).1.1 (Go.Rx.G.dDrawKeepReach (c, PUnit.unit)).1.2.1)) = Bool.true then
                    Option.some
                      (Go.Rx.G.hasS (Go.Rx.G.keepReach (Go.Rx.G.dDrawKeepReach (c, PUnit.unit)).1.1 (Go.Rx.G.dDrawKeepReach (c, PUnit.unit)).1.2.1)
                          (Go.Rx.G.dDrawKeepReach (c, PUnit.unit)).1.2.1,
                        PUnit.unit)
                  else Option.none
                else Option.none
            else Option.none
        else Option.none
      else Option.none
    else Option.none) := by kernel_rfl
theorem keepReach_len (p : Funs) (s : ByteArray) : (G.keepReach p s).length ≤ p.length + 1 := by
  unfold G.keepReach
  split
  · have h1 := ordered_len (G.namesL (G.rchL p s))
    have h2 := rchL_len p s
    have h3 : (G.namesL (G.rchL p s)).length = (G.rchL p s).length := by rw [namesL_map, List.length_map]
    omega
  · exact Nat.zero_le _
theorem getF_self {p : Funs} (hk : G.keepOk p = true) {k : Nat} (h : k < p.length) : G.hasF p (G.pAt p k).1 = true ∧ G.getF p (G.pAt p k).1 = G.pAt p k := by
  have e := ((funsOk_iff p).1 ((keepOk_iff p).1 hk).2.1 k h).2
  have h1 : G.hasF p (G.pAt p k).1 = true := by
    rw [hasF_iff, e]
    omega
  refine ⟨h1, ?_⟩
  rw [(getF_at h1).1, e]
  rfl
theorem kr_ok {p : Funs} {s : ByteArray} (k1 : G.keepOk p = true) (k2 : G.hasF p s = true) : G.krOk p (G.keepReach p s) = true := by
  refine decide_eq_true fun k hk hh => ?_
  rw [hasS_iff, mem_reach k1 k2] at hh
  refine ⟨fun j hj => ?_, reach_sub hh k2⟩
  rw [hasS_iff, mem_reach k1 k2]
  refine .step hh ?_
  rw [(getF_self k1 hk).2]
  rw [sAt_get hj]
  unfold G.funRefs at hj ⊢
  split at hj
  · rename_i hf
    simp only [hf, if_true]
    exact List.getElem_mem _
  · simp at hj
theorem sfLawKeepReach (c : Bytes) (h : c.all G.byteOk = true) : funK cxLawKeepReach Go.Proofs.Try.f3 spLawKeepReach.ins spLawKeepReach.out (c, ()) = some (true, ()) := by
  obtain ⟨_, p1⟩ := postDrawKeepReach (c, ()) h
  rw [eLawKeepReach]
  by_cases hl : ((c.length : Nat) : Int) > 1048576
  · rw [if_pos (decide_eq_true hl)]
  · rw [if_neg (by simpa using hl), if_pos h]
    generalize G.dDrawKeepReach (c, ()) = d at p1 ⊢
    have hf : G.funsB d.1.1 = true := p1
    have hs := funsB_small hf
    rw [spReach_eq, if_pos hs, if_pos hs, if_neg (by simp)]
    generalize d.1.1 = p at hs hf ⊢
    generalize d.1.2.1 = s
    have hlen := ((funsB_iff p).1 hf).1
    have hrl := keepReach_len p s
    rw [if_pos (preKrL0_iff.2 ⟨⟨by omega, by omega, by omega⟩, trivial, by rw [Bool.and_eq_true]; exact ⟨strict_G (reach_strict p s), decide_eq_true rfl⟩⟩)]
    by_cases h0 : (((G.keepReach p s).length : Nat) : Int) = 0
    · rw [if_pos (decide_eq_true h0)]
    · obtain ⟨k1, k2⟩ := reach_some (p := p) (s := s) (by omega)
      rw [if_neg (by simpa using h0), if_pos (preKrL2_iff.2 ⟨⟨by omega, by omega, by omega⟩, trivial, by rw [Bool.and_eq_true, Bool.and_eq_true]; exact ⟨hs, few_iff.2 (by omega), kr_ok k1 k2⟩⟩), if_pos (few_iff.2 (by omega)), (hasS_iff _ _).2 ((mem_reach k1 k2 s).2 .refl)]
theorem okLawKeepReach : SpecOk Go.Proofs.Try.prog 3 spLawKeepReach :=
  fun_okB (cx := cxLawKeepReach) (F := Go.Proofs.Try.f3) (cxOk T0_ok T0_eq pl1_ok) mixed (by kernel_rfl) (by decide) (by kernel_rfl) (lps_of (l := [(0, loopIn Go.Proofs.Try.f3 0), (2, loopIn Go.Proofs.Try.f3 2)]) (by kernel_rfl) ⟨lp_at lpKrL0 rfl, lp_at lpKrL2 rfl, trivial⟩) (fun x h => sfLawKeepReach x.1 h)
end Go.Rx

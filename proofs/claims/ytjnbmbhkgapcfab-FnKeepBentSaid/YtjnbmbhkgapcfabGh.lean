/-
  THE LAW on malformed programs: they are never accepted.
-/
import Derived.Test.YtjnbmbhkgapcfabGd
namespace Go.Rx
open Go
set_option linter.unusedVariables false
set_option linter.unusedSimpArgs false
/-! KeepNone -/
noncomputable abbrev spKeepNone : Spec := ⟨[FunSP], .one FunsO, true, fun x => G.smallP x.1 && !G.keepOk x.1, fun x => ([], ())⟩
noncomputable abbrev cxKeepNone : Cx := mkCx T0 pd18 [] [] 12
theorem eKeepNone (p : Funs) : funK cxKeepNone Go.Proofs.Try.f7 spKeepNone.ins spKeepNone.out (p, ()) =
  (if Go.Rx.G.smallP p = Bool.true then
    if (!Go.Rx.G.keepOk p) = Bool.true then Option.some ([], PUnit.unit)
    else if Decidable.decide ((0 : Int) ≤ (0 : Int)) = Bool.true then if Decidable.decide ((0 : Int) < (↑(List.length p) : Int)) = Bool.true then Option.none else Option.none else Option.none
  else Option.none) := by kernel_rfl
theorem sfKeepNone (p : Funs) (h : (G.smallP p && !G.keepOk p) = true) : funK cxKeepNone Go.Proofs.Try.f7 spKeepNone.ins spKeepNone.out (p, ()) = some ([], ()) := by
  rw [Bool.and_eq_true] at h
  rw [eKeepNone, if_pos h.1, if_pos h.2]
theorem okKeepNone : SpecOk Go.Proofs.Try.prog 7 spKeepNone :=
  fun_okB (cx := cxKeepNone) (F := Go.Proofs.Try.f7) (cxOk T0_ok T0_eq pd18_ok) mixed (by kernel_rfl) (by decide) (by kernel_rfl) (lps_none (by kernel_rfl)) (fun x h => sfKeepNone x.1 h)
noncomputable abbrev pg44 : List (Nat × List Spec) := (7, [spKeepNone]) :: (5, [spKeepOk]) :: (6, [spSpKeepOk]) :: pd18
theorem pg44_ok : PhiOk Go.Proofs.Try.prog pg44 := ⟨⟨okKeepNone, trivial⟩, ⟨okKeepOk, trivial⟩, ⟨okSpKeepOk, trivial⟩, pd18_ok⟩
/-! LawKeepBent -/
noncomputable abbrev spLawKeepBent : Spec := ⟨[BytesP], BoolR, true, fun x => x.1.all G.byteOk, fun x => (true, ())⟩
noncomputable abbrev cxLawKeepBent : Cx := mkCx T0 pg44 [] [] 81
theorem eLawKeepBent (c : Bytes) : funK cxLawKeepBent Go.Proofs.Try.f3 spLawKeepBent.ins spLawKeepBent.out (c, ()) =
  (if Decidable.decide ((↑(List.length c) : Int) > (1048576 : Int)) = Bool.true then Option.some (Bool.true, PUnit.unit)
  else
    if List.all c Go.Rx.G.byteOk = Bool.true then
      if Go.Rx.G.smallP (Go.Rx.G.dDrawKeepOk (c, PUnit.unit)).1 = Bool.true then
        if Go.Rx.G.smallP (Go.Rx.G.dDrawKeepOk (c, PUnit.unit)).1 = Bool.true then
          if (!Decidable.decide (Go.Rx.G.keepOk (Go.Rx.G.dDrawKeepOk (c, PUnit.unit)).1 = Go.Rx.G.keepOk (Go.Rx.G.dDrawKeepOk (c, PUnit.unit)).1)) = Bool.false then
            if Go.Rx.G.smallP (Go.Rx.G.dDrawKeepOk (c, PUnit.unit)).1 = Bool.true then
              if (!Go.Rx.G.keepOk (Go.Rx.G.dDrawKeepOk (c, PUnit.unit)).1) = Bool.true then
                if Go.Rx.G.smallP (Go.Rx.G.dDrawKeepOk (c, PUnit.unit)).1 = Bool.true then
                  if Go.Rx.G.smallP (Go.Rx.G.dDrawKeepOk (c, PUnit.unit)).1 = Bool.true then
                    if Decidable.decide (Go.Rx.G.keepOk (Go.Rx.G.dDrawKeepOk (c, PUnit.unit)).1 = Go.Rx.G.keepOk (Go.Rx.G.dDrawKeepOk (c, PUnit.unit)).1) = Bool.true then
                      if Go.Rx.G.smallP (Go.Rx.G.dDrawKeepOk (c, PUnit.unit)).1 = Bool.true then
                        if Go.Rx.G.keepOk (Go.Rx.G.dDrawKeepOk (c, PUnit.unit)).1 = Bool.false then
                          if (Go.Rx.G.smallP (Go.Rx.G.dDrawKeepOk (c, PUnit.unit)).1 && !Go.Rx.G.keepOk (Go.Rx.G.dDrawKeepOk (c, PUnit.unit)).1) = Bool.true then Option.some (Bool.true, PUnit.unit)
                          else Option.none
                        else Option.some (Bool.true, PUnit.unit)
                      else Option.none
                    else Option.some (Bool.false, PUnit.unit)
                  else Option.none
                else Option.none
              else
                if Go.Rx.okSize (48 : Nat) ((0 : Nat) + List.length (Go.Rx.G.dDrawKeepOk (c, PUnit.unit)).1) = Bool.true then
                  if Go.Rx.okSize (48 : Nat) (List.length (Go.Rx.G.dDrawKeepOk (c, PUnit.unit)).1 + (1 : Nat)) = Bool.true then
                    if Go.Rx.okSize (48 : Nat) ((0 : Nat) + List.length (Go.Rx.G.dDrawKeepOk (c, PUnit.unit)).1) = Bool.true then
                      if Decidable.decide ((0 : Int) ≤ (0 : Int)) = Bool.true then
                        if Decidable.decide ((0 : Int) < (↑(List.length (Go.Rx.G.dDrawKeepOk (c, PUnit.unit)).1) : Int)) = Bool.true then
                          if Decidable.decide (Int.toNat (0 : Int) < List.length (Go.Rx.G.dDrawKeepOk (c, PUnit.unit)).1) = Bool.true then
                            if Go.Rx.okSize (48 : Nat) (List.length (Go.Rx.G.dDrawKeepOk (c, PUnit.unit)).1 + (1 : Nat)) = Bool.true then
                              if Go.Rx.okSize (48 : Nat) ((0 : Nat) + List.length (Go.Rx.G.dDrawKeepOk (c, PUnit.unit)).1) = Bool.true then
                                if Go.Rx.okSize (48 : Nat) (List.length (Go.Rx.G.dDrawKeepOk (c, PUnit.unit)).1 + (1 : Nat)) = Bool.true then
                                  if
                                      Go.Rx.G.smallP
                                          ((Go.Rx.G.dDrawKeepOk (c, PUnit.unit)).1 ++
                                            [((Go.Rx.G.B [122, 121]),
                                                Bool.false,
                                                [((4 : Int), (0 : Int),
                                                    (Go.Rx.G.B [110, 111, 119, 104]),
                                                    PUnit.unit)],
                                                PUnit.unit)]) =
                                        Bool.true then
                                    if
                                        (!Go.Rx.G.keepOk
                                              ((Go.Rx.G.dDrawKeepOk (c, PUnit.unit)).1 ++
                                                [((Go.Rx.G.B [122, 121]),
                                                    Bool.false,
                                                    [((4 : Int), (0 : Int),
                                                        (Go.Rx.G.B [110, 111, 119, 104]),
                                                        PUnit.unit)],
                                                    PUnit.unit)])) =
                                          Bool.true then
                                      if
                                          Go.Rx.G.smallP
                                              ((Go.Rx.G.dDrawKeepOk (c, PUnit.unit)).1 ++
                                                [List.getD (Go.Rx.G.dDrawKeepOk (c, PUnit.unit)).1 (Int.toNat (0 : Int)) (ByteArray.empty, Bool.false, [], PUnit.unit)]) =
                                            Bool.true then
                                        if
                                            (!Go.Rx.G.keepOk
                                                  ((Go.Rx.G.dDrawKeepOk (c, PUnit.unit)).1 ++
                                                    [List.getD (Go.Rx.G.dDrawKeepOk (c, PUnit.unit)).1 (Int.toNat (0 : Int)) (ByteArray.empty, Bool.false, [], PUnit.unit)])) =
                                              Bool.true then
                                          if
                                              Go.Rx.G.smallP
                                                  ((Go.Rx.G.dDrawKeepOk (c, PUnit.unit)).1 ++
                                                    [((Go.Rx.G.B [122, 121]),
                                                        Bool.false,
                                                        [((4 : Int), (0 : Int),
                                                            (Go.Rx.G.B [122, 121]),
                                                            PUnit.unit)],
                                                        PUnit.unit)]) =
                                                Bool.true then
                                            if
                                                Decidable.decide
                                                    (Go.Rx.G.keepOk
                                                        ((Go.Rx.G.dDrawKeepOk (c, PUnit.unit)).1 ++
                                                          [((Go.Rx.G.B [122, 121]),
                                                              Bool.false,
                                                              [((4 : Int), (0 : Int),
                                                                  (Go.Rx.G.B [122, 121]),
                                                                  PUnit.unit)],
                                                              PUnit.unit)]) =
                                                      Decidable.decide ((↑(List.length (Go.Rx.G.dDrawKeepOk (c, PUnit.unit)).1) : Int) < (40 : Int))) =
                                                  Bool.true then
                                              if Go.Rx.G.smallP [] = Bool.true then Option.some (!Go.Rx.G.keepOk [], PUnit.unit) else Option.none
                                            else Option.some (Bool.false, PUnit.unit)
                                          else Option.none
                                        else Option.some (Bool.false, PUnit.unit)
                                      else Option.none
                                    else Option.some (Bool.false, PUnit.unit)
                                  else Option.none
                                else Option.none
                              else Option.none
                            else Option.none
                          else Option.none
                        else Option.none
                      else Option.none
                    else Option.none
                  else Option.none
                else Option.none
            else Option.none
          else
            if Go.Rx.G.smallP (Go.Rx.G.dDrawKeepOk (c, PUnit.unit)).1 = Bool.true then
              if Go.Rx.G.smallP (Go.Rx.G.dDrawKeepOk (c, PUnit.unit)).1 = Bool.true then
                if Decidable.decide (Go.Rx.G.keepOk (Go.Rx.G.dDrawKeepOk (c, PUnit.unit)).1 = Go.Rx.G.keepOk (Go.Rx.G.dDrawKeepOk (c, PUnit.unit)).1) = Bool.true then
                  if Go.Rx.G.smallP (Go.Rx.G.dDrawKeepOk (c, PUnit.unit)).1 = Bool.true then
                    if Go.Rx.G.keepOk (Go.Rx.G.dDrawKeepOk (c, PUnit.unit)).1 = Bool.false then
                      if (Go.Rx.G.smallP (Go.Rx.G.dDrawKeepOk (c, PUnit.unit)).1 && !Go.Rx.G.keepOk (Go.Rx.G.dDrawKeepOk (c, PUnit.unit)).1) = Bool.true then Option.some (Bool.true, PUnit.unit)
                      else Option.none
                    else Option.some (Bool.true, PUnit.unit)
                  else Option.none
                else Option.some (Bool.false, PUnit.unit)
              else Option.none
            else Option.none
        else Option.none
      else Option.none
    else Option.none) := by kernel_rfl
theorem find_le {p : Funs} {k : Nat} (hk : k < p.length) {s : ByteArray} (hs : (G.pAt p k).1 = s) : G.find p s ≤ (k : Int) := by
  unfold G.find G.idx
  cases hf : (List.range p.length).find? (G.funAt p s) with
  | none => show (-1 : Int) ≤ (k : Int); omega
  | some j =>
    show (j : Int) ≤ (k : Int)
    rw [List.find?_range_eq_some] at hf
    obtain ⟨_, _, h3⟩ := hf
    rcases Nat.lt_or_ge k j with h | h
    · have := h3 k h
      have e : G.funAt p s k = true := decide_eq_true hs
      rw [e] at this
      cases this
    · omega
theorem find_neg {p : Funs} {s : ByteArray} (h : ∀ k, k < p.length → ¬ (G.pAt p k).1 = s) : G.find p s < 0 := by
  refine (idx_none (G.funAt p s) p.length).2 ?_
  rw [Bool.eq_false_iff]
  intro e
  obtain ⟨k, hk, hq⟩ := anyFrom_zero.1 e
  exact h k hk (of_decide_eq_true hq)
theorem snoc_at {p : Funs} {f : Fun} {k : Nat} (hk : k < p.length) : G.pAt (p ++ [f]) k = G.pAt p k := by
  unfold G.pAt
  rw [getD_lt _ _ (by simp; omega), getD_lt _ _ hk, List.getElem_append_left hk]
theorem snoc_last (p : Funs) (f : Fun) : G.pAt (p ++ [f]) p.length = f := by
  unfold G.pAt
  rw [getD_lt _ _ (by simp), List.getElem_append_right (by omega)]
  simp
theorem bent_name {p : Funs} (h : G.funsB p = true) {k : Nat} (hk : k < p.length) {s : ByteArray} (hs : (G.nm s || (decide (s = G.B [122, 122]) || decide (s = G.B [122, 120]))) = false) : ¬ (G.pAt p k).1 = s := by
  intro e
  obtain ⟨h1, h2⟩ := (funsB_iff p).1 h
  have := h2 (p[k]) (List.getElem_mem hk)
  have e2 : p[k] = G.pAt p k := by
    unfold G.pAt
    rw [getD_lt _ _ hk]
  rw [e2] at this
  unfold G.funB at this
  rw [Bool.and_eq_true, e] at this
  rw [hs] at this
  exact absurd this.1 (by decide)
abbrev G.zyNowh : Fun := (G.B [122, 121], false, [((4 : Int), (0 : Int), G.B [110, 111, 119, 104], ())], ())
abbrev G.zyZy : Fun := (G.B [122, 121], false, [((4 : Int), (0 : Int), G.B [122, 121], ())], ())
theorem nowh_no : (G.nm (G.B [110, 111, 119, 104]) || (decide (G.B [110, 111, 119, 104] = G.B [122, 122]) || decide (G.B [110, 111, 119, 104] = G.B [122, 120]))) = false := by decide +kernel
theorem zy_no : (G.nm (G.B [122, 121]) || (decide (G.B [122, 121] = G.B [122, 122]) || decide (G.B [122, 121] = G.B [122, 120]))) = false := by decide +kernel
theorem zy_ne : ¬ G.B [122, 121] = G.B [110, 111, 119, 104] := by decide +kernel
theorem bentA {p : Funs} (h : G.funsB p = true) : G.keepOk (p ++ [G.zyNowh]) = false := by
  rw [Bool.eq_false_iff]
  intro e
  obtain ⟨_, _, k4⟩ := (keepOk_iff _).1 e
  have hl : p.length < (p ++ [G.zyNowh]).length := by simp
  have hc := (closed_iff _).1 k4 p.length hl 0 (by rw [snoc_last]; show 0 < 1; omega) (by rw [snoc_last]; rfl)
  rw [snoc_last] at hc
  refine hc (find_neg fun k hk => ?_)
  show ¬ (G.pAt (p ++ [G.zyNowh]) k).1 = G.B [110, 111, 119, 104]
  by_cases hkl : k < p.length
  · rw [snoc_at hkl]
    exact bent_name h hkl nowh_no
  · have e : k = p.length := by
      simp at hk
      omega
    rw [e, snoc_last]
    exact zy_ne
theorem bentB {p : Funs} (h : 1 ≤ p.length) : G.keepOk (p ++ [G.pAt p 0]) = false := by
  rw [Bool.eq_false_iff]
  intro e
  obtain ⟨_, k3, _⟩ := (keepOk_iff _).1 e
  have hl : p.length < (p ++ [G.pAt p 0]).length := by simp
  have h1 := ((funsOk_iff _).1 k3 p.length hl).2
  rw [snoc_last] at h1
  have h2 := find_le (p := p ++ [G.pAt p 0]) (k := 0) (s := (G.pAt p 0).1) (by simp) (by rw [snoc_at (show 0 < p.length by omega)])
  omega
theorem bentC {p : Funs} (h : G.funsB p = true) (hk : G.keepOk p = true) : G.keepOk (p ++ [G.zyZy]) = decide (p.length < 40) := by
  obtain ⟨⟨k1, k2⟩, k3, k4⟩ := (keepOk_iff p).1 hk
  have hu := funsOk_uniq k3
  have hlen : (p ++ [G.zyZy]).length = p.length + 1 := by simp
  by_cases hl : p.length < 40
  · rw [decide_eq_true hl]
    have at_ : ∀ k, k < p.length + 1 → (k < p.length ∧ G.pAt (p ++ [G.zyZy]) k = G.pAt p k) ∨ (k = p.length ∧ G.pAt (p ++ [G.zyZy]) k = G.zyZy) := fun k hk => by
      by_cases hkl : k < p.length
      · exact .inl ⟨hkl, snoc_at hkl⟩
      · have e : k = p.length := by omega
        exact .inr ⟨e, by rw [e, snoc_last]⟩
    have huq : G.Uniq (p ++ [G.zyZy]) := fun i j hi hj e => by
      rw [hlen] at hi hj
      rcases at_ i hi with ⟨i1, i2⟩ | ⟨i1, i2⟩ <;> rcases at_ j hj with ⟨j1, j2⟩ | ⟨j1, j2⟩ <;> rw [i2, j2] at e
      · exact hu i j i1 j1 e
      · exact absurd e (bent_name h i1 zy_no)
      · exact absurd e.symm (bent_name h j1 zy_no)
      · omega
    refine (keepOk_iff _).2 ⟨by omega, uniq_funsOk huq fun k hk => ?_, (closed_iff _).2 fun k hk c hc hr => ?_⟩
    · rw [hlen] at hk
      rcases at_ k hk with ⟨i1, i2⟩ | ⟨i1, i2⟩
      · rw [i2]
        exact ((funsOk_iff p).1 k3 k i1).1
      · rw [i2]
        decide +kernel
    · rw [hlen] at hk
      rcases at_ k hk with ⟨i1, i2⟩ | ⟨i1, i2⟩
      · rw [i2] at hc hr ⊢
        obtain ⟨g1, g2, _, _⟩ := find_ok ((closed_iff p).1 k4 k i1 c hc hr)
        rw [← g2, ← snoc_at (f := G.zyZy) g1]
        exact find_some (by rw [hlen]; omega)
      · rw [i2] at hc hr ⊢
        have hc : c < 1 := hc
        have hc0 : c = 0 := by omega
        subst hc0
        have hf := find_some (p := p ++ [G.zyZy]) (k := p.length) (by rw [hlen]; omega)
        rw [snoc_last] at hf
        exact hf
  · rw [decide_eq_false hl, Bool.eq_false_iff]
    intro e
    have := ((keepOk_iff _).1 e).1.2
    omega
theorem small_snoc {p : Funs} {f : Fun} (hl : p.length ≤ 1000) (h : G.smallP p = true) (hf : G.smallF f = true) : G.smallP (p ++ [f]) = true := by
  obtain ⟨s1, s2⟩ := smallP_iff.1 h
  refine smallP_iff.2 ⟨by simp; omega, ?_⟩
  rw [List.all_append, s2]
  simp [hf]
theorem small_A : G.smallF G.zyNowh = true := by kernel_rfl
theorem small_C : G.smallF G.zyZy = true := by kernel_rfl
theorem small_nil : G.smallP [] = true := by kernel_rfl
theorem keep_nil : G.keepOk [] = false := by kernel_rfl
theorem sfLawKeepBent (c : Bytes) (h : c.all G.byteOk = true) : funK cxLawKeepBent Go.Proofs.Try.f3 spLawKeepBent.ins spLawKeepBent.out (c, ()) = some (true, ()) := by
  rw [eLawKeepBent]
  by_cases h1 : (c.length : Int) > 1048576
  · rw [if_pos (decide_eq_true h1)]
  · rw [if_neg (by simpa using h1), if_pos h]
    obtain ⟨_, p1⟩ := postDrawKeepOk (c, ()) h
    have p1 : G.funsB (G.dDrawKeepOk (c, ())).1 = true := p1
    generalize (G.dDrawKeepOk (c, ())).1 = p at p1 ⊢
    have hs := funsB_small p1
    have hl := ((funsB_iff p).1 p1).1
    cases hk : G.keepOk p with
    | false => simp [hs]
    | true =>
      obtain ⟨⟨k1, k2⟩, _⟩ := (keepOk_iff p).1 hk
      have o1 : Go.Rx.okSize 48 (0 + p.length) = true := okSize_few (by omega) (by omega)
      have o2 : Go.Rx.okSize 48 (p.length + 1) = true := okSize_few (by omega) (by omega)
      have z0 : (0 : Int) < (p.length : Int) := by omega
      have z1 : Int.toNat 0 < p.length := by simp; omega
      have sA := small_snoc (by omega) hs small_A
      have sB := small_snoc (f := G.pAt p 0) (by omega) hs (smallF_at (smallP_iff.1 hs).2 (by omega))
      have sC := small_snoc (by omega) hs small_C
      have kA := bentA p1
      have kB := bentB k1
      have kC := bentC p1 hk
      have eB : p.getD (Int.toNat 0) (ByteArray.empty, false, [], ()) = G.pAt p 0 := rfl
      have e40 : (decide ((p.length : Int) < 40)) = decide (p.length < 40) := by rw [decide_eq_decide]; omega
      rw [eB, e40]
      simp only [hs, o1, o2, z0, z1, sA, sB, sC, kA, kB, kC, small_nil, keep_nil, decide_true, if_true]
      rfl
theorem okLawKeepBent : SpecOk Go.Proofs.Try.prog 3 spLawKeepBent :=
  fun_okB (cx := cxLawKeepBent) (F := Go.Proofs.Try.f3) (cxOk T0_ok T0_eq pg44_ok) mixed (by kernel_rfl) (by decide) (by kernel_rfl) (lps_none (by kernel_rfl)) (fun x h => sfLawKeepBent x.1 h)
end Go.Rx

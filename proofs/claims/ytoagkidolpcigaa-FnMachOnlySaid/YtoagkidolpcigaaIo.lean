/-
  THE LAW on dead code: it never matters.
-/
import Derived.Test.YtoagkidolpcigaaHi
import Derived.Test.YtoagkidolpcigaaIl
namespace Go.Rx
open Go
set_option linter.unusedVariables false
set_option linter.unusedSimpArgs false
/-- The functions of D of p stand in q, where s tells. -/
structure G.Sim (p q : Funs) (D : Nat → Prop) (s : Nat → Nat) : Prop where
  pok : G.keepOk p = true
  qok : G.keepOk q = true
  d0 : D 0
  s0 : s 0 = 0
  fn : ∀ k, D k → k < p.length ∧ s k < q.length ∧ G.pAt q (s k) = G.pAt p k
  closed : ∀ k, D k → ∀ c, c < (G.pAt p k).2.2.1.length → G.refs (G.insAt (G.pAt p k).2.2.1 c).1 = true → D (G.find p (G.insAt (G.pAt p k).2.2.1 c).2.2.1).toNat
def G.sSpot (s : Nat → Nat) (x : Spot) : Spot := ((s x.1.toNat : Int), x.2.1, ())
def G.sMach (s : Nat → Nat) (m : Mach) : Mach := ((s m.1.toNat : Int), m.2.1, m.2.2.1, m.2.2.2.1.map (G.sSpot s), m.2.2.2.2.1, m.2.2.2.2.2.1, ())
def G.InD (D : Nat → Prop) (m : Mach) : Prop := D m.1.toNat ∧ ∀ x ∈ m.2.2.2.1, D x.1.toNat
theorem sim_find {p q : Funs} {D : Nat → Prop} {s : Nat → Nat} (h : G.Sim p q D s) {k c : Nat} (hk : D k) (hc : c < (G.pAt p k).2.2.1.length) (hr : G.refs (G.insAt (G.pAt p k).2.2.1 c).1 = true) :
    G.find q (G.insAt (G.pAt p k).2.2.1 c).2.2.1 = ((s (G.find p (G.insAt (G.pAt p k).2.2.1 c).2.2.1).toNat : Nat) : Int) := by
  have hd := h.closed k hk c hc hr
  obtain ⟨h1, h2, h3⟩ := h.fn _ hd
  have hf := (closed_iff p).1 ((keepOk_iff p).1 h.pok).2.2 k (h.fn k hk).1 c hc hr
  obtain ⟨g1, g2, g3, g4⟩ := find_ok hf
  exact find_uniq (funsOk_uniq ((keepOk_iff q).1 h.qok).2.1) h2 (by rw [h3]; exact g2)
theorem sim_step {p q : Funs} {D : Nat → Prop} {s : Nat → Nat} (h : G.Sim p q D s) {m : Mach} (hg : G.goM p m = true) (hd : G.InD D m) : G.InD D (G.stepM p m) ∧ G.stepM q (G.sMach s m) = G.sMach s (G.stepM p m) := by
  obtain ⟨d1, d2⟩ := hd
  obtain ⟨⟨_, hk⟩, h3, _, _⟩ := goM_iff.1 hg
  obtain ⟨⟨s1, s2⟩, s3, s4⟩ := spotOk_iff.1 h3
  have hc : m.2.1.toNat < (G.pAt p m.1.toNat).2.2.1.length := by omega
  have hi : G.insOf q (G.sMach s m).1 (G.sMach s m).2.1 = G.insOf p m.1 m.2.1 := by
    unfold G.insOf
    show G.insAt (G.pAt q ((s m.1.toNat : Nat) : Int).toNat).2.2.1 m.2.1.toNat = _
    rw [show ((s m.1.toNat : Nat) : Int).toNat = s m.1.toNat by omega, (h.fn _ d1).2.2]
  have hf : (G.insOf p m.1 m.2.1).1 = 3 ∨ (G.insOf p m.1 m.2.1).1 = 4 ∨ (G.insOf p m.1 m.2.1).1 = 5 → D (G.find p (G.insOf p m.1 m.2.1).2.2.1).toNat ∧ G.find q (G.insOf p m.1 m.2.1).2.2.1 = ((s (G.find p (G.insOf p m.1 m.2.1).2.2.1).toNat : Nat) : Int) := fun e =>
    ⟨h.closed _ d1 _ hc ((refs_iff _).2 e), sim_find h d1 hc ((refs_iff _).2 e)⟩
  unfold G.stepM
  rw [hi]
  obtain ⟨f1, _, _⟩ := ins_facts hk h3
  generalize G.insOf p m.1 m.2.1 = x at hf f1 ⊢
  obtain ⟨op, n, nm, u⟩ := x
  dsimp only at hf f1 ⊢
  generalize G.find p nm = t at hf ⊢
  generalize G.find q nm = t' at hf ⊢
  obtain ⟨a1, a2, a3, a4, a5, a6, a7⟩ := m
  dsimp only at d1 d2
  rcases f1 with rfl | rfl | rfl | rfl | rfl | rfl | rfl
  · show G.InD D (G.sayM _) ∧ G.sayM _ = G.sMach s (G.sayM _)
    unfold G.sayM G.sMach
    dsimp only
    split
    · exact ⟨⟨d1, d2⟩, rfl⟩
    · exact ⟨⟨d1, d2⟩, rfl⟩
  · exact ⟨⟨d1, d2⟩, rfl⟩
  · obtain ⟨g1, g2⟩ := hf (by omega)
    show G.InD D (G.callM t _) ∧ G.callM t' _ = G.sMach s (G.callM t _)
    unfold G.callM G.sMach
    dsimp only
    rw [List.length_map]
    split
    · exact ⟨⟨d1, d2⟩, rfl⟩
    · refine ⟨⟨g1, fun y hy => ?_⟩, ?_⟩
      · rcases List.mem_append.1 hy with hy | hy
        · exact d2 y hy
        · rw [List.mem_singleton.1 hy]
          exact d1
      · rw [g2, List.map_append]
        rfl
  · obtain ⟨g1, g2⟩ := hf (by omega)
    subst g2
    exact ⟨⟨g1, d2⟩, rfl⟩
  · obtain ⟨g1, g2⟩ := hf (by omega)
    subst g2
    show G.InD D (if a3 > 0 then _ else _) ∧ (if a3 > 0 then _ else _) = G.sMach s (if a3 > 0 then _ else _)
    split
    · exact ⟨⟨g1, d2⟩, rfl⟩
    · exact ⟨⟨d1, d2⟩, rfl⟩
  · show G.InD D (G.retM _) ∧ G.retM _ = G.sMach s (G.retM _)
    unfold G.retM G.sMach
    dsimp only
    rw [List.length_map]
    by_cases hl : a4.length = 0
    · rw [if_pos hl, if_pos hl]
      exact ⟨⟨d1, d2⟩, rfl⟩
    · rw [if_neg hl, if_neg hl]
      have hlt : a4.length - 1 < a4.length := by omega
      have e : (a4.map (G.sSpot s)).getD (a4.length - 1) (0, 0, ()) = G.sSpot s (a4.getD (a4.length - 1) (0, 0, ())) := by
        rw [getD_lt _ _ (by rw [List.length_map]; exact hlt), getD_lt _ _ hlt, List.getElem_map]
      refine ⟨⟨?_, fun y hy => d2 y (List.mem_of_mem_take hy)⟩, ?_⟩
      · show D (a4.getD (a4.length - 1) (0, 0, ())).1.toNat
        rw [getD_lt _ _ hlt]
        exact d2 _ (List.getElem_mem hlt)
      · rw [e, List.map_take]
        rfl
  · exact ⟨⟨d1, d2⟩, rfl⟩
theorem sim_run {p q : Funs} {D : Nat → Prop} {s : Nat → Nat} (h : G.Sim p q D s) : ∀ (n : Nat) {m : Mach}, G.goM p m = true → G.InD D m → G.InD D (G.runM p n m) ∧ G.runM q n (G.sMach s m) = G.sMach s (G.runM p n m)
  | 0, m, _, hd => ⟨hd, rfl⟩
  | n + 1, m, hg, hd => by
    rw [runM_succ, runM_succ]
    show G.InD D (if m.2.2.2.2.2.1 = 0 then _ else _) ∧ (if m.2.2.2.2.2.1 = 0 then _ else _) = _
    by_cases hm : m.2.2.2.2.2.1 = 0
    · rw [if_pos hm, if_pos hm]
      obtain ⟨h1, h2⟩ := sim_step h hg hd
      rw [h2]
      exact sim_run h n (stepM_ok hg) h1
    · rw [if_neg hm, if_neg hm]
      exact ⟨hd, rfl⟩
/-- The one program's run is the other's. -/
theorem sim_machRun {p q : Funs} {D : Nat → Prop} {s : Nat → Nat} (h : G.Sim p q D s) (hs : G.smallP p = true) (fuel : Int) (hf : 0 ≤ fuel ∧ fuel ≤ 200) :
    G.machRun q fuel = G.sMach s (G.machRun p fuel) ∧ D (G.machRun p fuel).1.toNat := by
  unfold G.machRun
  rw [if_pos ⟨h.qok, hf⟩, if_pos ⟨h.pok, hf⟩]
  have hz : G.InD D G.zeroM := ⟨h.d0, fun x hx => by cases hx⟩
  obtain ⟨h1, h2⟩ := sim_run h fuel.toNat (zeroM_ok hs h.pok) hz
  have e : G.sMach s G.zeroM = G.zeroM := by
    unfold G.sMach G.zeroM
    rw [show ((0 : Int)).toNat = 0 from rfl, h.s0]
    rfl
  rw [e] at h2
  exact ⟨h2, h1.1⟩
def G.koS (p : Funs) (k : Nat) : Nat := (G.find (G.keepOnly p) (G.pAt p k).1).toNat
theorem ko_sim {p : Funs} {N : Strs} (h : KO p N) : G.Sim p (G.keepOnly p) (fun k => k < p.length ∧ ((G.pAt p k).1, ()) ∈ N) (G.koS p) := by
  have hpos := keepOk_pos h.ok
  have key : ∀ k, k < p.length → ((G.pAt p k).1, ()) ∈ N → ∃ j, j < N.length ∧ G.sAt N j = (G.pAt p k).1 ∧ G.find (G.keepOnly p) (G.pAt p k).1 = (j : Int) := fun k hk hm => by
    obtain ⟨j, hj, e⟩ := List.getElem_of_mem hm
    rw [← sAt_get hj] at e
    have e : G.sAt N j = (G.pAt p k).1 := congrArg (fun q : ByteArray × Unit => q.1) e
    exact ⟨j, hj, e, by rw [← e]; exact h.find hj⟩
  refine ⟨h.ok, h.qok, ⟨hpos, (h.mem _).2 .refl⟩, ?_, fun k hk => ?_, fun k hk c hc hr => ?_⟩
  · unfold G.koS
    have : G.find (G.keepOnly p) (G.pAt p 0).1 = ((0 : Nat) : Int) := by
      rw [← h.first]
      exact find_uniq h.uniq (by rw [h.len]; exact h.pos) rfl
    rw [this]
    rfl
  · obtain ⟨j, hj, e1, e2⟩ := key k hk.1 hk.2
    unfold G.koS
    rw [e2, show ((j : Nat) : Int).toNat = j by omega, h.at hj, e1, h.len]
    exact ⟨hk.1, hj, (getF_self h.ok hk.1).2⟩
  · have hm : ((G.insAt (G.pAt p k).2.2.1 c).2.2.1, ()) ∈ G.refsOf (G.getF p (G.pAt p k).1).2.2.1 := by
      rw [(getF_self h.ok hk.1).2]
      exact (mem_refsOf _ _).2 ⟨c, hc, hr, rfl⟩
    have hn := h.step hk.2 hm
    have hh := h.has _ hn
    obtain ⟨g1, g2, g3⟩ := getF_at hh
    refine ⟨g2, ?_⟩
    rw [← g1, g3]
    exact hn
theorem machRun_form {p : Funs} {fuel : Int} (h : ¬ (G.machRun p fuel).2.2.2.2.2.1 = 5) : G.keepOk p = true ∧ 0 ≤ fuel ∧ fuel ≤ 200 := by
  unfold G.machRun at h
  split at h
  · assumption
  · exact absurd rfl h
theorem machRun_go {p : Funs} {fuel : Int} (hs : G.smallP p = true) (hk : G.keepOk p = true ∧ 0 ≤ fuel ∧ fuel ≤ 200) : G.goM p (G.machRun p fuel) = true := by
  unfold G.machRun
  rw [if_pos hk]
  exact runM_ok _ (zeroM_ok hs hk.1)
theorem formM_few : G.fewMach G.formM = true := by kernel_rfl
theorem machRun_few {p : Funs} {fuel : Int} (hs : G.smallP p = true) : G.fewMach (G.machRun p fuel) = true := by
  by_cases hk : G.keepOk p = true ∧ 0 ≤ fuel ∧ fuel ≤ 200
  · exact goM_few (machRun_go hs hk)
  · unfold G.machRun
    rw [if_neg hk]
    exact formM_few
def G.sameOut2 (x z : Mach) (k : Nat) : Bool := decide ((z.2.2.2.2.1.getD k (0, ())).1 = (x.2.2.2.2.1.getD k (0, ())).1)
noncomputable abbrev pg51 : List (Nat × List Spec) := (25, [spKeepOk]) :: (22, [spKeepOnly]) :: pd18
theorem pg51_ok : PhiOk Go.Proofs.Try.prog pg51 := ⟨⟨okKeepOk, trivial⟩, ⟨okKeepOnly, trivial⟩, pd18_ok⟩
/-! Mon0: a search -/
def G.preMon0 (x : Mach) (z : Mach) (i : Int) : Bool := G.preA (z.2.2.2.2.1.length) i && (true && (decide (x.2.2.2.2.1.length = z.2.2.2.2.1.length)))
theorem preMon0_iff {x : Mach} {z : Mach} {i : Int} : G.preMon0 x z i = true ↔ (0 ≤ i ∧ i ≤ ((z.2.2.2.2.1.length : Nat) : Int) ∧ (z.2.2.2.2.1.length : Nat) ≤ 1099511627776) ∧ True ∧ decide (x.2.2.2.2.1.length = z.2.2.2.2.1.length) = true := by simp [G.preMon0, preA_iff]
def G.scMon0 (x : Mach) (z : Mach) (i : Int) : Option (Bool × Unit) := G.scan (G.bad (G.sameOut2 x z)) (z.2.2.2.2.1.length) i
noncomputable abbrev lsMon0 : LSpec := ⟨[5, 8, 9, 2], [2], [.box MachO, .box MachO, IntP, BoolP], [BoolP], false, fun x => G.preMon0 x.1 x.2.1 x.2.2.1,
  fun x => ((G.flag 1 (G.scMon0 x.1 x.2.1 x.2.2.1), G.got (G.scMon0 x.1 x.2.1 x.2.2.1) (x.2.2.2.1, ())), (x.1, (x.2.1, ())))⟩
noncomputable abbrev clMon0 : Cx := mkCx T0 pg51 [(0, lsMon0)] [] 115
theorem rMon0 (x : Mach) (z : Mach) (i : Int) (r : Bool) : roundK clMon0 0 (loopIn Go.Proofs.Try.f10 0) lsMon0 (x, z, i, r, ()) =
  (if Decidable.decide (i < (↑(List.length z.2.2.2.2.1) : Int)) = Bool.true then
    if Decidable.decide ((0 : Int) ≤ i) = Bool.true then
      if Decidable.decide (i < (↑(List.length z.2.2.2.2.1) : Int)) = Bool.true then
        if Decidable.decide (Int.toNat i < List.length z.2.2.2.2.1) = Bool.true then
          if Decidable.decide ((0 : Int) ≤ i) = Bool.true then
            if Decidable.decide (i < (↑(List.length x.2.2.2.2.1) : Int)) = Bool.true then
              if Decidable.decide (Int.toNat i < List.length x.2.2.2.2.1) = Bool.true then
                if (!Decidable.decide ((List.getD z.2.2.2.2.1 (Int.toNat i) ((0 : Int), PUnit.unit)).1 = (List.getD x.2.2.2.2.1 (Int.toNat i) ((0 : Int), PUnit.unit)).1)) = Bool.true then
                  Option.some (Go.Rx.LRes.stop (1 : Nat) (Bool.false, PUnit.unit) (x, z, PUnit.unit))
                else Option.some (Go.Rx.LRes.go (x, z, Go.IntKind.wrap Go.IntKind.i64 (i + (1 : Int)), r, PUnit.unit))
              else Option.none
            else Option.none
          else Option.none
        else Option.none
      else Option.none
    else Option.none
  else Option.some (Go.Rx.LRes.stop (0 : Nat) (r, PUnit.unit) (x, z, PUnit.unit))) := by kernel_rfl
noncomputable abbrev muMon0 : PKs.den lsMon0.ins → Nat := fun x => (x.2.1.2.2.2.2.1.length) - x.2.2.1.toNat
theorem stMon0 (x : Mach) (z : Mach) (i : Int) (r : Bool) (h : G.preMon0 x z i = true) : StepOk lsMon0 (eqInv lsMon0) muMon0 (x, z, i, r, ()) (roundK clMon0 0 (loopIn Go.Proofs.Try.f10 0) lsMon0 (x, z, i, r, ())) := by
  obtain ⟨⟨h0, h1, h2⟩, hn, hc⟩ := preMon0_iff.1 h
  rw [rMon0]
  by_cases hi : i < ((z.2.2.2.2.1.length : Nat) : Int)
  · have hw : IntKind.i64.wrap (i + 1) = i + 1 := w64 (by omega) (by omega)
    have hs : G.scMon0 x z i = ((G.bad (G.sameOut2 x z)) i.toNat).or (G.scMon0 x z (i + 1)) := scan_step h0 (by omega)
    refine scan_stop (fl := 1) (eqInv lsMon0) muMon0 (x, z, i + 1, r, ()) ((G.bad (G.sameOut2 x z)) i.toNat) (x, (z, ())) ?_ (fun ho => ⟨(show G.preMon0 x z (i + 1) = true from preMon0_iff.2 ⟨⟨by omega, by omega, h2⟩, trivial, hc⟩), ?_, ?_⟩) (fun w ho => ?_)
    · have hl := of_decide_eq_true hc
      rw [bad_match, hw, if_pos (decide_eq_true hi), if_pos (decide_eq_true h0), if_pos (decide_eq_true hi), if_pos (decide_eq_true (by omega)), if_pos (decide_eq_true h0), if_pos (decide_eq_true (by omega)), if_pos (decide_eq_true (by omega))]
      unfold G.sameOut2
      by_cases hq : (z.2.2.2.2.1.getD i.toNat ((0 : Int), ())).1 = (x.2.2.2.2.1.getD i.toNat ((0 : Int), ())).1 <;> simp [hq]
    · show (z.2.2.2.2.1.length) - (i + 1).toNat < (z.2.2.2.2.1.length) - i.toNat
      omega
    · show ((_, _), _) = ((_, _), _)
      simp only [hs, ho, Option.none_or]
    · show ((_, _), _) = ((_, _), _)
      simp only [hs, ho, Option.some_or]
      rfl
  · have hs : G.scMon0 x z i = none := scan_end (by omega)
    skip
    rw [if_neg (by simpa using hi)]
    show ((_, _), _) = ((_, _), _)
    simp only [hs]
    rfl
theorem lpMon0 : LpOk Go.Proofs.Try.prog clMon0.ntmps 0 (loopIn Go.Proofs.Try.f10 0) lsMon0 :=
  lp_okB (cxOk T0_ok T0_eq pg51_ok) mixed (by kernel_rfl) (lps_none (by kernel_rfl)) (eqInv lsMon0) muMon0 (fun _ h => h) (fun x h => stMon0 x.1 x.2.1 x.2.2.1 x.2.2.2.1 h)
/-! LawMachOnly -/
noncomputable abbrev spLawMachOnly : Spec := ⟨[BytesP], BoolR, true, fun x => x.1.all G.byteOk, fun x => (true, ())⟩
noncomputable abbrev cxLawMachOnly : Cx := mkCx T0 pg51 [(0, lsMon0)] [] 115
theorem eLawMachOnly (c : Bytes) : funK cxLawMachOnly Go.Proofs.Try.f10 spLawMachOnly.ins spLawMachOnly.out (c, ()) =
  (if Decidable.decide ((↑(List.length c) : Int) > (1048576 : Int)) = Bool.true then Option.some (Bool.true, PUnit.unit)
  else
    if List.all c Go.Rx.G.byteOk = Bool.true then
      if Go.Rx.G.smallP (Go.Rx.G.dDrawMachRun (c, PUnit.unit)).1.1 = Bool.true then
        if Go.Rx.G.smallP (Go.Rx.G.dDrawMachRun (c, PUnit.unit)).1.1 = Bool.true then
          if Go.Rx.G.fewMach (Go.Rx.G.machRun (Go.Rx.G.dDrawMachRun (c, PUnit.unit)).1.1 (Go.Rx.G.dDrawMachRun (c, PUnit.unit)).1.2.1) = Bool.true then
            if
                (!Go.Rx.G.sameM (Go.Rx.G.machRun (Go.Rx.G.dDrawMachRun (c, PUnit.unit)).1.1 (Go.Rx.G.dDrawMachRun (c, PUnit.unit)).1.2.1)
                      (Go.Rx.G.machRun (Go.Rx.G.dDrawMachRun (c, PUnit.unit)).1.1 (Go.Rx.G.dDrawMachRun (c, PUnit.unit)).1.2.1)) =
                  Bool.false then
              if Decidable.decide ((Go.Rx.G.machRun (Go.Rx.G.dDrawMachRun (c, PUnit.unit)).1.1 (Go.Rx.G.dDrawMachRun (c, PUnit.unit)).1.2.1).2.2.2.2.2.1 = (5 : Int)) = Bool.true then
                if Go.Rx.G.fewMach (Go.Rx.G.machRun (Go.Rx.G.dDrawMachRun (c, PUnit.unit)).1.1 (Go.Rx.G.dDrawMachRun (c, PUnit.unit)).1.2.1) = Bool.true then
                  Option.some
                    (Go.Rx.G.sameM (Go.Rx.G.machRun (Go.Rx.G.dDrawMachRun (c, PUnit.unit)).1.1 (Go.Rx.G.dDrawMachRun (c, PUnit.unit)).1.2.1)
                        (Go.Rx.G.machRun (Go.Rx.G.dDrawMachRun (c, PUnit.unit)).1.1 (Go.Rx.G.dDrawMachRun (c, PUnit.unit)).1.2.1),
                      PUnit.unit)
                else Option.none
              else
                if Go.Rx.G.smallP (Go.Rx.G.dDrawMachRun (c, PUnit.unit)).1.1 = Bool.true then
                  if Go.Rx.G.smallP (Go.Rx.G.keepOnly (Go.Rx.G.dDrawMachRun (c, PUnit.unit)).1.1) = Bool.true then
                    if
                        (!Decidable.decide
                              ((Go.Rx.G.machRun (Go.Rx.G.keepOnly (Go.Rx.G.dDrawMachRun (c, PUnit.unit)).1.1) (Go.Rx.G.dDrawMachRun (c, PUnit.unit)).1.2.1).2.2.2.2.2.1 =
                                (Go.Rx.G.machRun (Go.Rx.G.dDrawMachRun (c, PUnit.unit)).1.1 (Go.Rx.G.dDrawMachRun (c, PUnit.unit)).1.2.1).2.2.2.2.2.1)) =
                          Bool.false then
                      if
                          (!Decidable.decide
                                ((Go.Rx.G.machRun (Go.Rx.G.keepOnly (Go.Rx.G.dDrawMachRun (c, PUnit.unit)).1.1) (Go.Rx.G.dDrawMachRun (c, PUnit.unit)).1.2.1).2.2.1 =
                                  (Go.Rx.G.machRun (Go.Rx.G.dDrawMachRun (c, PUnit.unit)).1.1 (Go.Rx.G.dDrawMachRun (c, PUnit.unit)).1.2.1).2.2.1)) =
                            Bool.false then
                        if
                            (!Decidable.decide
                                  ((↑(List.length (Go.Rx.G.machRun (Go.Rx.G.keepOnly (Go.Rx.G.dDrawMachRun (c, PUnit.unit)).1.1) (Go.Rx.G.dDrawMachRun (c, PUnit.unit)).1.2.1).2.2.2.2.1) : Int) =
                                    (↑(List.length (Go.Rx.G.machRun (Go.Rx.G.dDrawMachRun (c, PUnit.unit)).1.1 (Go.Rx.G.dDrawMachRun (c, PUnit.unit)).1.2.1).2.2.2.2.1) : Int))) =
                              Bool.false then
                          if
                              (!Decidable.decide
                                    ((↑(List.length (Go.Rx.G.machRun (Go.Rx.G.keepOnly (Go.Rx.G.dDrawMachRun (c, PUnit.unit)).1.1) (Go.Rx.G.dDrawMachRun (c, PUnit.unit)).1.2.1).2.2.2.1) : Int) =
                                      (↑(List.length (Go.Rx.G.machRun (Go.Rx.G.dDrawMachRun (c, PUnit.unit)).1.1 (Go.Rx.G.dDrawMachRun (c, PUnit.unit)).1.2.1).2.2.2.1) : Int))) =
                                Bool.false then
                            if
                                (!Decidable.decide
                                      ((Go.Rx.G.machRun (Go.Rx.G.keepOnly (Go.Rx.G.dDrawMachRun (c, PUnit.unit)).1.1) (Go.Rx.G.dDrawMachRun (c, PUnit.unit)).1.2.1).2.1 =
                                        (Go.Rx.G.machRun (Go.Rx.G.dDrawMachRun (c, PUnit.unit)).1.1 (Go.Rx.G.dDrawMachRun (c, PUnit.unit)).1.2.1).2.1)) =
                                  Bool.false then
                              if
                                  Decidable.decide ((0 : Int) ≤ (Go.Rx.G.machRun (Go.Rx.G.keepOnly (Go.Rx.G.dDrawMachRun (c, PUnit.unit)).1.1) (Go.Rx.G.dDrawMachRun (c, PUnit.unit)).1.2.1).1) =
                                    Bool.true then
                                if
                                    Decidable.decide
                                        ((Go.Rx.G.machRun (Go.Rx.G.keepOnly (Go.Rx.G.dDrawMachRun (c, PUnit.unit)).1.1) (Go.Rx.G.dDrawMachRun (c, PUnit.unit)).1.2.1).1 <
                                          (↑(List.length (Go.Rx.G.keepOnly (Go.Rx.G.dDrawMachRun (c, PUnit.unit)).1.1)) : Int)) =
                                      Bool.true then
                                  if
                                      Decidable.decide
                                          (Int.toNat (Go.Rx.G.machRun (Go.Rx.G.keepOnly (Go.Rx.G.dDrawMachRun (c, PUnit.unit)).1.1) (Go.Rx.G.dDrawMachRun (c, PUnit.unit)).1.2.1).1 <
                                            List.length (Go.Rx.G.keepOnly (Go.Rx.G.dDrawMachRun (c, PUnit.unit)).1.1)) =
                                        Bool.true then
                                    if Decidable.decide ((0 : Int) ≤ (Go.Rx.G.machRun (Go.Rx.G.dDrawMachRun (c, PUnit.unit)).1.1 (Go.Rx.G.dDrawMachRun (c, PUnit.unit)).1.2.1).1) = Bool.true then
                                      if
                                          Decidable.decide
                                              ((Go.Rx.G.machRun (Go.Rx.G.dDrawMachRun (c, PUnit.unit)).1.1 (Go.Rx.G.dDrawMachRun (c, PUnit.unit)).1.2.1).1 <
                                                (↑(List.length (Go.Rx.G.dDrawMachRun (c, PUnit.unit)).1.1) : Int)) =
                                            Bool.true then
                                        if
                                            (!Go.Rx.strEq
                                                  (List.getD (Go.Rx.G.keepOnly (Go.Rx.G.dDrawMachRun (c, PUnit.unit)).1.1)
                                                      (Int.toNat (Go.Rx.G.machRun (Go.Rx.G.keepOnly (Go.Rx.G.dDrawMachRun (c, PUnit.unit)).1.1) (Go.Rx.G.dDrawMachRun (c, PUnit.unit)).1.2.1).1)
                                                      (ByteArray.empty, Bool.false, [], PUnit.unit)).1
                                                  (List.getD (Go.Rx.G.dDrawMachRun (c, PUnit.unit)).1.1
                                                      (Int.toNat (Go.Rx.G.machRun (Go.Rx.G.dDrawMachRun (c, PUnit.unit)).1.1 (Go.Rx.G.dDrawMachRun (c, PUnit.unit)).1.2.1).1)
                                                      (ByteArray.empty, Bool.false, [], PUnit.unit)).1) =
                                              Bool.true then
                                          Option.some (Bool.false, PUnit.unit)
                                        else
                                          if
                                              Go.Rx.G.preMon0 (Go.Rx.G.machRun (Go.Rx.G.dDrawMachRun (c, PUnit.unit)).1.1 (Go.Rx.G.dDrawMachRun (c, PUnit.unit)).1.2.1)
                                                  (Go.Rx.G.machRun (Go.Rx.G.keepOnly (Go.Rx.G.dDrawMachRun (c, PUnit.unit)).1.1) (Go.Rx.G.dDrawMachRun (c, PUnit.unit)).1.2.1) (0 : Int) =
                                                Bool.true then
                                            if
                                                Go.Rx.G.flag (1 : Nat)
                                                    (Go.Rx.G.scMon0 (Go.Rx.G.machRun (Go.Rx.G.dDrawMachRun (c, PUnit.unit)).1.1 (Go.Rx.G.dDrawMachRun (c, PUnit.unit)).1.2.1)
                                                      (Go.Rx.G.machRun (Go.Rx.G.keepOnly (Go.Rx.G.dDrawMachRun (c, PUnit.unit)).1.1) (Go.Rx.G.dDrawMachRun (c, PUnit.unit)).1.2.1) (0 : Int)) =
                                                  (0 : Nat) then
                                              Option.some (Bool.true, PUnit.unit)
                                            else
                                              if
                                                  Go.Rx.G.flag (1 : Nat)
                                                      (Go.Rx.G.scMon0 (Go.Rx.G.machRun (Go.Rx.G.dDrawMachRun (c, PUnit.unit)).1.1 (Go.Rx.G.dDrawMachRun (c, PUnit.unit)).1.2.1)
                                                        (Go.Rx.G.machRun (Go.Rx.G.keepOnly (Go.Rx.G.dDrawMachRun (c, PUnit.unit)).1.1) (Go.Rx.G.dDrawMachRun (c, PUnit.unit)).1.2.1) (0 : Int)) =
                                                    (1 : Nat) then
                                                Option.some
                                                  (Go.Rx.G.got
                                                    (Go.Rx.G.scMon0 (Go.Rx.G.machRun (Go.Rx.G.dDrawMachRun (c, PUnit.unit)).1.1 (Go.Rx.G.dDrawMachRun (c, PUnit.unit)).1.2.1)
                                                      (Go.Rx.G.machRun (Go.Rx.G.keepOnly (Go.Rx.G.dDrawMachRun (c, PUnit.unit)).1.1) (Go.Rx.G.dDrawMachRun (c, PUnit.unit)).1.2.1) (0 : Int))
                                                    (Bool.false, PUnit.unit))
                                              else Option.none
                                          else Option.none
                                      else Option.none
                                    else Option.none
                                  else Option.none
                                else Option.none
                              else Option.none
                            else Option.some (Bool.false, PUnit.unit)
                          else Option.some (Bool.false, PUnit.unit)
                        else Option.some (Bool.false, PUnit.unit)
                      else Option.some (Bool.false, PUnit.unit)
                    else Option.some (Bool.false, PUnit.unit)
                  else Option.none
                else Option.none
            else
              if Go.Rx.G.fewMach (Go.Rx.G.machRun (Go.Rx.G.dDrawMachRun (c, PUnit.unit)).1.1 (Go.Rx.G.dDrawMachRun (c, PUnit.unit)).1.2.1) = Bool.true then
                Option.some
                  (Go.Rx.G.sameM (Go.Rx.G.machRun (Go.Rx.G.dDrawMachRun (c, PUnit.unit)).1.1 (Go.Rx.G.dDrawMachRun (c, PUnit.unit)).1.2.1)
                      (Go.Rx.G.machRun (Go.Rx.G.dDrawMachRun (c, PUnit.unit)).1.1 (Go.Rx.G.dDrawMachRun (c, PUnit.unit)).1.2.1),
                    PUnit.unit)
              else Option.none
          else Option.none
        else Option.none
      else Option.none
    else Option.none) := by kernel_rfl
theorem sc_same2 {x z : Mach} (h : z.2.2.2.2.1 = x.2.2.2.2.1) : G.scMon0 x z 0 = none := by
  unfold G.scMon0
  rw [scan_bad]
  have : G.allFrom z.2.2.2.2.1.length (G.sameOut2 x z) 0 = true := by
    rw [allFrom_zero]
    intro k hk
    unfold G.sameOut2
    rw [h]
    exact decide_eq_true rfl
  rw [this]
  rfl
theorem sfLawMachOnly (c : Bytes) (h : c.all G.byteOk = true) : funK cxLawMachOnly Go.Proofs.Try.f10 spLawMachOnly.ins spLawMachOnly.out (c, ()) = some (true, ()) := by
  rw [eLawMachOnly]
  by_cases h1 : (c.length : Int) > 1048576
  · rw [if_pos (decide_eq_true h1)]
  · rw [if_neg (by simpa using h1), if_pos h]
    obtain ⟨_, p1⟩ := postDrawMachRun (c, ()) h
    generalize G.dDrawMachRun (c, ()) = r at p1 ⊢
    obtain ⟨⟨p, (fuel : Int), u⟩, w⟩ := r
    have p1 : G.funsB p = true := p1
    have hs := funsB_small p1
    have hl := ((funsB_iff p).1 p1).1
    dsimp only
    have fx := machRun_few (fuel := fuel) hs
    rw [if_pos hs, if_pos hs, if_pos fx, sameM_self]
    by_cases hx : (G.machRun p fuel).2.2.2.2.2.1 = 5
    · simp [hx, fx]
    · have hk := machRun_form hx
      obtain ⟨N, ko⟩ := ko_of hk.1
      have hsim := ko_sim ko
      obtain ⟨z1, z2⟩ := sim_machRun hsim hs fuel hk.2
      have hsq := keepOnly_small hs
      have hgx := machRun_go hs hk
      have hgz := machRun_go hsq ⟨hsim.qok, hk.2⟩
      obtain ⟨⟨a1, a2⟩, _⟩ := spotOk_iff.1 (goM_iff.1 hgx).2.1
      obtain ⟨⟨b1, b2⟩, _⟩ := spotOk_iff.1 (goM_iff.1 hgz).2.1
      have nm : (G.pAt (G.keepOnly p) (G.machRun (G.keepOnly p) fuel).1.toNat).1 = (G.pAt p (G.machRun p fuel).1.toNat).1 := by
        rw [z1]
        show (G.pAt (G.keepOnly p) ((G.koS p (G.machRun p fuel).1.toNat : Nat) : Int).toNat).1 = _
        rw [show ((G.koS p (G.machRun p fuel).1.toNat : Nat) : Int).toNat = G.koS p (G.machRun p fuel).1.toNat by omega, (hsim.fn _ z2).2.2]
      have c1 : (G.machRun (G.keepOnly p) fuel).2.2.2.2.2.1 = (G.machRun p fuel).2.2.2.2.2.1 := by rw [z1]; rfl
      have c2 : (G.machRun (G.keepOnly p) fuel).2.2.1 = (G.machRun p fuel).2.2.1 := by rw [z1]; rfl
      have c3 : (G.machRun (G.keepOnly p) fuel).2.2.2.2.1 = (G.machRun p fuel).2.2.2.2.1 := by rw [z1]; rfl
      have c6 : (G.machRun (G.keepOnly p) fuel).2.1 = (G.machRun p fuel).2.1 := by rw [z1]; rfl
      have c7 : (G.machRun (G.keepOnly p) fuel).2.2.2.1.length = (G.machRun p fuel).2.2.2.1.length := by rw [z1]; exact List.length_map _
      have c4 := sc_same2 c3
      have f30 := (goM_iff.1 hgx).2.2.1.2
      have c5 : G.preMon0 (G.machRun p fuel) (G.machRun (G.keepOnly p) fuel) 0 = true := preMon0_iff.2 ⟨⟨by omega, by omega, by rw [c3]; omega⟩, trivial, decide_eq_true (by rw [c3])⟩
      clear z1 z2
      generalize G.machRun (G.keepOnly p) fuel = z at *
      generalize G.machRun p fuel = x at *
      generalize G.keepOnly p = q at *
      have b3 : z.1.toNat < q.length := by omega
      have a3 : x.1.toNat < p.length := by omega
      simp only [hx, hsq, c1, c2, c3, c6, c7, a1, a2, b1, b2, b3, c4, c5, decide_true, decide_false, if_true, Bool.not_true]
      rw [if_neg (by decide), if_pos hs, pAt_eq, pAt_eq, nm, strEq_iff]
      simp [G.flag]
theorem okLawMachOnly : SpecOk Go.Proofs.Try.prog 10 spLawMachOnly :=
  fun_okB (cx := cxLawMachOnly) (F := Go.Proofs.Try.f10) (cxOk T0_ok T0_eq pg51_ok) mixed (by kernel_rfl) (by decide) (by kernel_rfl) (lps_of (l := [(0, loopIn Go.Proofs.Try.f10 0)]) (by kernel_rfl) ⟨lp_at lpMon0 rfl, trivial⟩) (fun x h => sfLawMachOnly x.1 h)
end Go.Rx

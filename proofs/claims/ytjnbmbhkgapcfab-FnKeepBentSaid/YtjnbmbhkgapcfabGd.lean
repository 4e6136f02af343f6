/-
  PROGRAMS THAT DO THE SAME: one in which the other's functions stand elsewhere.
-/
import Derived.Test.YtjnbmbhkgapcfabHi
namespace Go.Rx
open Go
set_option linter.unusedVariables false
set_option linter.unusedSimpArgs false
/-! names that are there once -/
def G.Uniq (p : Funs) : Prop := ∀ i j, i < p.length → j < p.length → (G.pAt p i).1 = (G.pAt p j).1 → i = j
theorem find_some {p : Funs} {k : Nat} (hk : k < p.length) : ¬ G.find p (G.pAt p k).1 < 0 := by
  intro h
  have := (idx_none (G.funAt p (G.pAt p k).1) p.length).1 h
  rw [Bool.eq_false_iff] at this
  exact this (anyFrom_zero.2 ⟨k, hk, decide_eq_true rfl⟩)
theorem find_uniq {p : Funs} (hu : G.Uniq p) {k : Nat} (hk : k < p.length) {s : ByteArray} (hs : (G.pAt p k).1 = s) : G.find p s = (k : Int) := by
  subst hs
  obtain ⟨h1, h2, h3, h4⟩ := find_ok (find_some hk)
  have := hu _ _ h1 hk h2
  omega
theorem funsOk_uniq {p : Funs} (h : G.funsOk p = true) : G.Uniq p := fun i j hi hj e => by
  have h1 := ((funsOk_iff p).1 h i hi).2
  have h2 := ((funsOk_iff p).1 h j hj).2
  rw [e] at h1
  omega
theorem uniq_funsOk {p : Funs} (hu : G.Uniq p) (h : ∀ k, k < p.length → G.funOk (G.pAt p k) = true) : G.funsOk p = true := (funsOk_iff p).2 fun k hk => ⟨h k hk, find_uniq hu hk rfl⟩
/-- The functions of D of p stand in q, where s tells. -/
structure G.Sim (p q : Funs) (D : Nat → Prop) (s : Nat → Nat) : Prop where
  pok : G.keepOk p = true
  qok : G.keepOk q = true
  d0 : D 0
  s0 : s 0 = 0
  fn : ∀ k, D k → k < p.length ∧ s k < q.length ∧ G.pAt q (s k) = G.pAt p k
  closed : ∀ k, D k → ∀ c, c < (G.pAt p k).2.2.1.length → G.refs (G.insAt (G.pAt p k).2.2.1 c).1 = true → D (G.find p (G.insAt (G.pAt p k).2.2.1 c).2.2.1).toNat
def G.sSpot (s : Nat → Nat) (x : Spot) : Spot := ((s x.1.toNat : Int), x.2.1, ())
def G.sMach (s : Nat → Nat) (m : Mach) : Mach := ((s m.1.toNat : Int), m.2.1, m.2.2.1, m.2.2.2.1.map (G.sSpot s), m.2.2.2.2.1, m.2.2.2.2.2.1, ())
def G.InD (D : Nat → Prop) (m : Mach) : Prop := D m.1.toNat ∧ ∀ x ∈ m.2.2.2.1, D x.1.toNat
theorem sim_find {p q : Funs} {D : Nat → Prop} {s : Nat → Nat} (h : G.Sim p q D s) {k c : Nat} (hk : D k) (hc : c < (G.pAt p k).2.2.1.length) (hr : G.refs (G.insAt (G.pAt p k).2.2.1 c).1 = true) :
    G.find q (G.insAt (G.pAt p k).2.2.1 c).2.2.1 = ((s (G.find p (G.insAt (G.pAt p k).2.2.1 c).2.2.1).toNat : Nat) : Int) := by
  have hd := h.closed k hk c hc hr
  obtain ⟨h1, h2, h3⟩ := h.fn _ hd
  have hf := (closed_iff p).1 ((keepOk_iff p).1 h.pok).2.2 k (h.fn k hk).1 c hc hr
  obtain ⟨g1, g2, g3, g4⟩ := find_ok hf
  exact find_uniq (funsOk_uniq ((keepOk_iff q).1 h.qok).2.1) h2 (by rw [h3]; exact g2)
theorem sim_step {p q : Funs} {D : Nat → Prop} {s : Nat → Nat} (h : G.Sim p q D s) {m : Mach} (hg : G.goM p m = true) (hd : G.InD D m) : G.InD D (G.stepM p m) ∧ G.stepM q (G.sMach s m) = G.sMach s (G.stepM p m) := by
  obtain ⟨d1, d2⟩ := hd
  obtain ⟨⟨_, hk⟩, h3, _, _⟩ := goM_iff.1 hg
  obtain ⟨⟨s1, s2⟩, s3, s4⟩ := spotOk_iff.1 h3
  have hc : m.2.1.toNat < (G.pAt p m.1.toNat).2.2.1.length := by omega
  have hi : G.insOf q (G.sMach s m).1 (G.sMach s m).2.1 = G.insOf p m.1 m.2.1 := by
    unfold G.insOf
    show G.insAt (G.pAt q ((s m.1.toNat : Nat) : Int).toNat).2.2.1 m.2.1.toNat = _
    rw [show ((s m.1.toNat : Nat) : Int).toNat = s m.1.toNat by omega, (h.fn _ d1).2.2]
  have hf : (G.insOf p m.1 m.2.1).1 = 3 ∨ (G.insOf p m.1 m.2.1).1 = 4 ∨ (G.insOf p m.1 m.2.1).1 = 5 → D (G.find p (G.insOf p m.1 m.2.1).2.2.1).toNat ∧ G.find q (G.insOf p m.1 m.2.1).2.2.1 = ((s (G.find p (G.insOf p m.1 m.2.1).2.2.1).toNat : Nat) : Int) := fun e =>
    ⟨h.closed _ d1 _ hc ((refs_iff _).2 e), sim_find h d1 hc ((refs_iff _).2 e)⟩
  unfold G.stepM
  rw [hi]
  obtain ⟨f1, _, _⟩ := ins_facts hk h3
  generalize G.insOf p m.1 m.2.1 = x at hf f1 ⊢
  obtain ⟨op, n, nm, u⟩ := x
  dsimp only at hf f1 ⊢
  generalize G.find p nm = t at hf ⊢
  generalize G.find q nm = t' at hf ⊢
  obtain ⟨a1, a2, a3, a4, a5, a6, a7⟩ := m
  dsimp only at d1 d2
  rcases f1 with rfl | rfl | rfl | rfl | rfl | rfl | rfl
  · show G.InD D (G.sayM _) ∧ G.sayM _ = G.sMach s (G.sayM _)
    unfold G.sayM G.sMach
    dsimp only
    split
    · exact ⟨⟨d1, d2⟩, rfl⟩
    · exact ⟨⟨d1, d2⟩, rfl⟩
  · exact ⟨⟨d1, d2⟩, rfl⟩
  · obtain ⟨g1, g2⟩ := hf (by omega)
    show G.InD D (G.callM t _) ∧ G.callM t' _ = G.sMach s (G.callM t _)
    unfold G.callM G.sMach
    dsimp only
    rw [List.length_map]
    split
    · exact ⟨⟨d1, d2⟩, rfl⟩
    · refine ⟨⟨g1, fun y hy => ?_⟩, ?_⟩
      · rcases List.mem_append.1 hy with hy | hy
        · exact d2 y hy
        · rw [List.mem_singleton.1 hy]
          exact d1
      · rw [g2, List.map_append]
        rfl
  · obtain ⟨g1, g2⟩ := hf (by omega)
    subst g2
    exact ⟨⟨g1, d2⟩, rfl⟩
  · obtain ⟨g1, g2⟩ := hf (by omega)
    subst g2
    show G.InD D (if a3 > 0 then _ else _) ∧ (if a3 > 0 then _ else _) = G.sMach s (if a3 > 0 then _ else _)
    split
    · exact ⟨⟨g1, d2⟩, rfl⟩
    · exact ⟨⟨d1, d2⟩, rfl⟩
  · show G.InD D (G.retM _) ∧ G.retM _ = G.sMach s (G.retM _)
    unfold G.retM G.sMach
    dsimp only
    rw [List.length_map]
    by_cases hl : a4.length = 0
    · rw [if_pos hl, if_pos hl]
      exact ⟨⟨d1, d2⟩, rfl⟩
    · rw [if_neg hl, if_neg hl]
      have hlt : a4.length - 1 < a4.length := by omega
      have e : (a4.map (G.sSpot s)).getD (a4.length - 1) (0, 0, ()) = G.sSpot s (a4.getD (a4.length - 1) (0, 0, ())) := by
        rw [getD_lt _ _ (by rw [List.length_map]; exact hlt), getD_lt _ _ hlt, List.getElem_map]
      refine ⟨⟨?_, fun y hy => d2 y (List.mem_of_mem_take hy)⟩, ?_⟩
      · show D (a4.getD (a4.length - 1) (0, 0, ())).1.toNat
        rw [getD_lt _ _ hlt]
        exact d2 _ (List.getElem_mem hlt)
      · rw [e, List.map_take]
        rfl
  · exact ⟨⟨d1, d2⟩, rfl⟩
theorem sim_run {p q : Funs} {D : Nat → Prop} {s : Nat → Nat} (h : G.Sim p q D s) : ∀ (n : Nat) {m : Mach}, G.goM p m = true → G.InD D m → G.InD D (G.runM p n m) ∧ G.runM q n (G.sMach s m) = G.sMach s (G.runM p n m)
  | 0, m, _, hd => ⟨hd, rfl⟩
  | n + 1, m, hg, hd => by
    rw [runM_succ, runM_succ]
    show G.InD D (if m.2.2.2.2.2.1 = 0 then _ else _) ∧ (if m.2.2.2.2.2.1 = 0 then _ else _) = _
    by_cases hm : m.2.2.2.2.2.1 = 0
    · rw [if_pos hm, if_pos hm]
      obtain ⟨h1, h2⟩ := sim_step h hg hd
      rw [h2]
      exact sim_run h n (stepM_ok hg) h1
    · rw [if_neg hm, if_neg hm]
      exact ⟨hd, rfl⟩
/-- The one program's run is the other's. -/
theorem sim_machRun {p q : Funs} {D : Nat → Prop} {s : Nat → Nat} (h : G.Sim p q D s) (hs : G.smallP p = true) (fuel : Int) (hf : 0 ≤ fuel ∧ fuel ≤ 200) :
    G.machRun q fuel = G.sMach s (G.machRun p fuel) ∧ D (G.machRun p fuel).1.toNat := by
  unfold G.machRun
  rw [if_pos ⟨h.qok, hf⟩, if_pos ⟨h.pok, hf⟩]
  have hz : G.InD D G.zeroM := ⟨h.d0, fun x hx => by cases hx⟩
  obtain ⟨h1, h2⟩ := sim_run h fuel.toNat (zeroM_ok hs h.pok) hz
  have e : G.sMach s G.zeroM = G.zeroM := by
    unfold G.sMach G.zeroM
    rw [show ((0 : Int)).toNat = 0 from rfl, h.s0]
    rfl
  rw [e] at h2
  exact ⟨h2, h1.1⟩
end Go.Rx

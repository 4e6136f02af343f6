/-
  MACHINES OF PROGRAMS: what a step does, and that it leads to what is right again.
-/
import Derived.Test.YtoagkidolpcigaaDc
namespace Go.Rx
open Go
set_option linter.unusedVariables false
set_option linter.unusedSimpArgs false
abbrev spotT : Tys := .cons (.int .i64) (.cons (.int .i64) .nil)
abbrev Spot := Int × Int × Unit
abbrev Spots := List (Int × Int × Unit)
abbrev Mach := Int × Int × Int × List (Int × Int × Unit) × Ints × Int × Unit
abbrev MachK : List CK := [.dat I, .dat I, .dat I, .dat (.sl spotT), .dat (.sl intT), .dat I]
abbrev MachO : List CK := [.dat I, .dat I, .dat I, .own spotT, .own intT, .dat I]
abbrev SpotSP : PK := .c (.dat (.sl spotT))
def G.fewMach (m : Mach) : Bool := G.few m.2.2.2.1.length && G.few m.2.2.2.2.1.length
theorem fewMach_iff {m : Mach} : G.fewMach m = true ↔ (m.2.2.2.1.length ≤ 1099511627776 ∧ m.2.2.2.2.1.length ≤ 1099511627776) := by
  unfold G.fewMach
  rw [Bool.and_eq_true, few_iff, few_iff]
/-! lists of names -/
theorem anyFrom_zero {n : Nat} {p : Nat → Bool} : G.anyFrom n p 0 = true ↔ ∃ k, k < n ∧ p k = true := by
  unfold G.anyFrom
  rw [range_zero, List.any_eq_true]
  constructor
  · rintro ⟨k, hk, h⟩
    exact ⟨k, List.mem_range.1 hk, h⟩
  · rintro ⟨k, hk, h⟩
    exact ⟨k, List.mem_range.2 hk, h⟩
theorem getD_lt {α : Type} (l : List α) (d : α) {k : Nat} (h : k < l.length) : l.getD k d = l[k] := by simp [List.getD, h]
theorem hasS_iff (l : Strs) (s : ByteArray) : G.hasS l s = true ↔ (s, ()) ∈ l := by
  unfold G.hasS
  rw [anyFrom_zero]
  constructor
  · rintro ⟨k, hk, h⟩
    have h' := of_decide_eq_true h
    rw [getD_lt _ _ hk] at h'
    have e : l[k] = (s, ()) := Prod.ext h' rfl
    rw [← e]
    exact List.getElem_mem hk
  · intro h
    obtain ⟨k, hk, e⟩ := List.getElem_of_mem h
    refine ⟨k, hk, decide_eq_true ?_⟩
    rw [getD_lt _ _ hk, e]
theorem mem_refsOne (b : Inss) (out : Strs) (c : Nat) (s : ByteArray) : (s, ()) ∈ G.refsOne b out c ↔ ((s, ()) ∈ out ∨ (G.refs (G.insAt b c).1 = true ∧ (G.insAt b c).2.2.1 = s)) := by
  unfold G.refsOne
  by_cases h1 : G.refs (G.insAt b c).1 = true
  · rw [if_pos h1]
    by_cases h2 : G.hasS out (G.insAt b c).2.2.1 = true
    · rw [if_pos h2]
      have := (hasS_iff _ _).1 h2
      constructor
      · exact .inl
      · rintro (h | ⟨_, rfl⟩)
        · exact h
        · exact this
    · rw [if_neg h2, List.mem_append, List.mem_singleton]
      constructor
      · rintro (h | h)
        · exact .inl h
        · exact .inr ⟨h1, (Prod.ext_iff.1 h).1.symm⟩
      · rintro (h | ⟨_, rfl⟩)
        · exact .inl h
        · exact .inr rfl
  · rw [if_neg h1]
    constructor
    · exact .inl
    · rintro (h | ⟨h, _⟩)
      · exact h
      · exact absurd h h1
theorem mem_refs_foldl (b : Inss) (s : ByteArray) : ∀ (l : List Nat) (out : Strs), (s, ()) ∈ l.foldl (G.refsOne b) out ↔ ((s, ()) ∈ out ∨ ∃ c ∈ l, G.refs (G.insAt b c).1 = true ∧ (G.insAt b c).2.2.1 = s)
  | [], out => by simp
  | c :: l, out => by
    rw [List.foldl_cons, mem_refs_foldl b s l, mem_refsOne]
    simp only [List.mem_cons]
    constructor
    · rintro ((h | h) | ⟨d, hd, h⟩)
      · exact .inl h
      · exact .inr ⟨c, .inl rfl, h⟩
      · exact .inr ⟨d, .inr hd, h⟩
    · rintro (h | ⟨d, rfl | hd, h⟩)
      · exact .inl (.inl h)
      · exact .inl (.inr h)
      · exact .inr ⟨d, hd, h⟩
theorem mem_refsOf (b : Inss) (s : ByteArray) : (s, ()) ∈ G.refsOf b ↔ ∃ c, c < b.length ∧ G.refs (G.insAt b c).1 = true ∧ (G.insAt b c).2.2.1 = s := by
  unfold G.refsOf G.fold
  rw [range_zero, mem_refs_foldl]
  constructor
  · rintro (h | ⟨c, hc, h⟩)
    · cases h
    · exact ⟨c, List.mem_range.1 hc, h⟩
  · rintro ⟨c, hc, h⟩
    exact .inr ⟨c, List.mem_range.2 hc, h⟩
theorem known_iff (p : Funs) (l : Strs) : G.known p l = true ↔ ∀ s, (s, ()) ∈ l → ¬ G.find p s < 0 := by
  unfold G.known
  rw [allFrom_zero]
  constructor
  · intro h s hs
    obtain ⟨k, hk, e⟩ := List.getElem_of_mem hs
    have := h k hk
    unfold G.knownAt G.sAt at this
    rw [getD_lt _ _ hk, e] at this
    simpa using this
  · intro h k hk
    have := h (l[k]).1 (List.getElem_mem hk)
    unfold G.knownAt G.sAt
    rw [getD_lt _ _ hk]
    simpa using this
theorem closed_iff (p : Funs) : G.closed p = true ↔ ∀ k, k < p.length → ∀ c, c < (G.pAt p k).2.2.1.length → G.refs (G.insAt (G.pAt p k).2.2.1 c).1 = true → ¬ G.find p (G.insAt (G.pAt p k).2.2.1 c).2.2.1 < 0 := by
  unfold G.closed
  rw [allFrom_zero]
  constructor
  · intro h k hk c hc hr
    exact (known_iff _ _).1 (h k hk) _ ((mem_refsOf _ _).2 ⟨c, hc, hr, rfl⟩)
  · intro h k hk
    refine (known_iff _ _).2 fun s hs => ?_
    obtain ⟨c, hc, hr, rfl⟩ := (mem_refsOf _ _).1 hs
    exact h k hk c hc hr
theorem find_ok {p : Funs} {s : ByteArray} (h : ¬ G.find p s < 0) : (G.find p s).toNat < p.length ∧ (G.pAt p (G.find p s).toNat).1 = s ∧ 0 ≤ G.find p s ∧ G.find p s < (p.length : Int) := by
  obtain ⟨h1, h2, h3⟩ := idx_eq (p := G.funAt p s) (n := p.length) h
  refine ⟨h1, of_decide_eq_true h2, by omega, ?_⟩
  have : ((G.find p s).toNat : Int) = G.find p s := h3
  have h1 : (G.find p s).toNat < p.length := h1
  omega
theorem keepOk_iff (p : Funs) : G.keepOk p = true ↔ ((1 ≤ p.length ∧ p.length ≤ 40) ∧ G.funsOk p = true ∧ G.closed p = true) := by
  unfold G.keepOk
  rw [Bool.and_eq_true, Bool.and_eq_true, decide_eq_true_iff]
theorem funsOk_iff (p : Funs) : G.funsOk p = true ↔ ∀ k, k < p.length → G.funOk (G.pAt p k) = true ∧ G.find p (G.pAt p k).1 = (k : Int) := by
  unfold G.funsOk
  rw [allFrom_zero]
  refine forall_congr' fun k => forall_congr' fun hk => ?_
  unfold G.okAt
  rw [Bool.and_eq_true, decide_eq_true_iff]
theorem funOk_iff (f : Fun) : G.funOk f = true ↔ (G.nameOk f.1 = true ∧ (1 ≤ f.2.2.1.length ∧ f.2.2.1.length ≤ 10) ∧ (∀ k, k < f.2.2.1.length → G.insOk (G.insAt f.2.2.1 k) = true) ∧ G.last (G.insAt f.2.2.1 (f.2.2.1.length - 1)).1 = true) := by
  unfold G.funOk
  rw [Bool.and_eq_true, Bool.and_eq_true, Bool.and_eq_true, decide_eq_true_iff, allFrom_zero]
  constructor
  · rintro ⟨⟨⟨h1, h2⟩, h3⟩, h4⟩
    exact ⟨h1, h2, h3, h4⟩
  · rintro ⟨h1, h2, h3, h4⟩
    exact ⟨⟨⟨h1, h2⟩, h3⟩, h4⟩
theorem last_iff (op : Int) : G.last op = true ↔ (op = 4 ∨ op = 6 ∨ op = 7) := by simp [G.last]
theorem refs_iff (op : Int) : G.refs op = true ↔ (op = 3 ∨ op = 4 ∨ op = 5) := by simp [G.refs]
theorem insOk_op {a : Ins} (h : G.insOk a = true) : a.1 = 1 ∨ a.1 = 2 ∨ a.1 = 3 ∨ a.1 = 4 ∨ a.1 = 5 ∨ a.1 = 6 ∨ a.1 = 7 := by
  unfold G.insOk at h
  by_cases c1 : a.1 = 1 ∨ a.1 = 6 ∨ a.1 = 7
  · omega
  · rw [if_neg c1] at h
    by_cases c2 : a.1 = 2
    · omega
    · rw [if_neg c2] at h
      by_cases c3 : a.1 = 3 ∨ a.1 = 4 ∨ a.1 = 5
      · omega
      · rw [if_neg c3] at h
        cases h
/-! what a place is; what is right -/
def G.spotOk (p : Funs) (f c : Int) : Bool := decide (0 ≤ f ∧ f < (p.length : Int)) && decide (0 ≤ c ∧ c < ((G.pAt p f.toNat).2.2.1.length : Int))
theorem spotOk_iff {p : Funs} {f c : Int} : G.spotOk p f c = true ↔ ((0 ≤ f ∧ f < (p.length : Int)) ∧ 0 ≤ c ∧ c < ((G.pAt p f.toNat).2.2.1.length : Int)) := by
  unfold G.spotOk
  rw [Bool.and_eq_true, decide_eq_true_iff, decide_eq_true_iff]
def G.spotsOk (p : Funs) (s : Spots) : Bool := s.all fun x => G.spotOk p x.1 x.2.1
/-- The instruction at a place: its kind, its number, where its name leads. -/
def G.insOf (p : Funs) (f c : Int) : Ins := G.insAt (G.pAt p f.toNat).2.2.1 c.toNat
def G.goM (p : Funs) (m : Mach) : Bool := (G.smallP p && G.keepOk p) && (G.spotOk p m.1 m.2.1 && (decide (m.2.2.2.1.length ≤ 5 ∧ m.2.2.2.2.1.length ≤ 30) && G.spotsOk p m.2.2.2.1))
theorem goM_iff {p : Funs} {m : Mach} : G.goM p m = true ↔ ((G.smallP p = true ∧ G.keepOk p = true) ∧ G.spotOk p m.1 m.2.1 = true ∧ (m.2.2.2.1.length ≤ 5 ∧ m.2.2.2.2.1.length ≤ 30) ∧ G.spotsOk p m.2.2.2.1 = true) := by
  unfold G.goM
  rw [Bool.and_eq_true, Bool.and_eq_true, Bool.and_eq_true, Bool.and_eq_true, decide_eq_true_iff]
theorem ins_facts {p : Funs} (h : G.keepOk p = true) {f c : Int} (hs : G.spotOk p f c = true) :
    ((G.insOf p f c).1 = 1 ∨ (G.insOf p f c).1 = 2 ∨ (G.insOf p f c).1 = 3 ∨ (G.insOf p f c).1 = 4 ∨ (G.insOf p f c).1 = 5 ∨ (G.insOf p f c).1 = 6 ∨ (G.insOf p f c).1 = 7) ∧
    ((G.insOf p f c).1 = 3 ∨ (G.insOf p f c).1 = 4 ∨ (G.insOf p f c).1 = 5 → ¬ G.find p (G.insOf p f c).2.2.1 < 0 ∧ G.spotOk p (G.find p (G.insOf p f c).2.2.1) 0 = true) ∧
    ((G.insOf p f c).1 = 1 ∨ (G.insOf p f c).1 = 2 ∨ (G.insOf p f c).1 = 3 ∨ (G.insOf p f c).1 = 5 → G.spotOk p f (c + 1) = true) := by
  obtain ⟨⟨s1, s2⟩, s3, s4⟩ := spotOk_iff.1 hs
  obtain ⟨⟨k1, k2⟩, k3, k4⟩ := (keepOk_iff p).1 h
  have hf : f.toNat < p.length := by omega
  obtain ⟨g1, g2⟩ := (funsOk_iff p).1 k3 _ hf
  obtain ⟨g3, g4, g5, g6⟩ := (funOk_iff _).1 g1
  have hc : c.toNat < (G.pAt p f.toNat).2.2.1.length := by omega
  refine ⟨insOk_op (g5 _ hc), fun e => ?_, fun e => ?_⟩
  · have : ¬ G.find p (G.insOf p f c).2.2.1 < 0 := (closed_iff p).1 k4 _ hf _ hc ((refs_iff _).2 e)
    refine ⟨this, ?_⟩
    obtain ⟨f1, f2, f3, f4⟩ := find_ok this
    obtain ⟨q1, _⟩ := (funsOk_iff p).1 k3 _ f1
    obtain ⟨_, q2, _⟩ := (funOk_iff _).1 q1
    exact spotOk_iff.2 ⟨⟨f3, f4⟩, by omega, by omega⟩
  · refine spotOk_iff.2 ⟨⟨s1, s2⟩, by omega, ?_⟩
    rcases Int.lt_or_le (c + 1) ((G.pAt p f.toNat).2.2.1.length : Int) with g | g
    · exact g
    · exfalso
      have e1 : (G.pAt p f.toNat).2.2.1.length - 1 = c.toNat := by omega
      rw [e1, last_iff] at g6
      have g6 : (G.insOf p f c).1 = 4 ∨ (G.insOf p f c).1 = 6 ∨ (G.insOf p f c).1 = 7 := g6
      omega
/-! the parts of a step -/
def G.sayM (m : Mach) : Mach := if 30 ≤ m.2.2.2.2.1.length then (m.1, m.2.1, m.2.2.1, m.2.2.2.1, m.2.2.2.2.1, 4, ()) else (m.1, m.2.1 + 1, m.2.2.1, m.2.2.2.1, m.2.2.2.2.1 ++ [(m.2.2.1, ())], m.2.2.2.2.2.1, ())
def G.callM (t : Int) (m : Mach) : Mach := if 5 ≤ m.2.2.2.1.length then (m.1, m.2.1, m.2.2.1, m.2.2.2.1, m.2.2.2.2.1, 2, ()) else (t, 0, m.2.2.1, m.2.2.2.1 ++ [(m.1, m.2.1 + 1, ())], m.2.2.2.2.1, m.2.2.2.2.2.1, ())
def G.retM (m : Mach) : Mach := if m.2.2.2.1.length = 0 then (m.1, m.2.1, m.2.2.1, m.2.2.2.1, m.2.2.2.2.1, 3, ()) else ((m.2.2.2.1.getD (m.2.2.2.1.length - 1) (0, 0, ())).1, (m.2.2.2.1.getD (m.2.2.2.1.length - 1) (0, 0, ())).2.1, m.2.2.1, m.2.2.2.1.take (m.2.2.2.1.length - 1), m.2.2.2.2.1, m.2.2.2.2.2.1, ())
def G.stepI (op n t : Int) (m : Mach) : Mach :=
  if op = 1 then G.sayM m
  else if op = 2 then (m.1, m.2.1 + 1, G.sum m.2.2.1 n, m.2.2.2.1, m.2.2.2.2.1, m.2.2.2.2.2.1, ())
  else if op = 3 then G.callM t m
  else if op = 4 then (t, 0, m.2.2.1, m.2.2.2.1, m.2.2.2.2.1, m.2.2.2.2.2.1, ())
  else if op = 5 then (if m.2.2.1 > 0 then (t, 0, m.2.2.1, m.2.2.2.1, m.2.2.2.2.1, m.2.2.2.2.2.1, ()) else (m.1, m.2.1 + 1, m.2.2.1, m.2.2.2.1, m.2.2.2.2.1, m.2.2.2.2.2.1, ()))
  else if op = 6 then G.retM m
  else (m.1, m.2.1, m.2.2.1, m.2.2.2.1, m.2.2.2.2.1, 1, ())
def G.stepM (p : Funs) (m : Mach) : Mach := G.stepI (G.insOf p m.1 m.2.1).1 (G.insOf p m.1 m.2.1).2.1 (G.find p (G.insOf p m.1 m.2.1).2.2.1) m
theorem spotsOk_iff {p : Funs} {s : Spots} : G.spotsOk p s = true ↔ ∀ x ∈ s, G.spotOk p x.1 x.2.1 = true := by
  unfold G.spotsOk
  rw [List.all_eq_true]
theorem spots_last {p : Funs} {s : Spots} (h : G.spotsOk p s = true) (hl : ¬ s.length = 0) : G.spotOk p (s.getD (s.length - 1) (0, 0, ())).1 (s.getD (s.length - 1) (0, 0, ())).2.1 = true := by
  rw [getD_lt _ _ (show s.length - 1 < s.length by omega)]
  exact spotsOk_iff.1 h _ (List.getElem_mem _)
theorem stepM_ok {p : Funs} {m : Mach} (h : G.goM p m = true) : G.goM p (G.stepM p m) = true := by
  obtain ⟨⟨h1, h2⟩, h3, ⟨h4, h5⟩, h6⟩ := goM_iff.1 h
  obtain ⟨f1, f2, f3⟩ := ins_facts h2 h3
  rw [goM_iff]
  refine ⟨⟨h1, h2⟩, ?_⟩
  unfold G.stepM
  generalize G.insOf p m.1 m.2.1 = x at f1 f2 f3 ⊢
  obtain ⟨op, n, s, u⟩ := x
  dsimp only at f1 f2 f3 ⊢
  generalize G.find p s = t at f2 ⊢
  unfold G.stepI
  rcases f1 with rfl | rfl | rfl | rfl | rfl | rfl | rfl
  · have g := f3 (by omega)
    rw [if_pos rfl]
    unfold G.sayM
    by_cases c5 : 30 ≤ m.2.2.2.2.1.length
    · rw [if_pos c5]
      exact ⟨h3, ⟨h4, h5⟩, h6⟩
    · rw [if_neg c5]
      refine ⟨g, ⟨h4, ?_⟩, h6⟩
      show (m.2.2.2.2.1 ++ [(m.2.2.1, ())]).length ≤ 30
      simp
      omega
  · have g := f3 (by omega)
    rw [if_neg (by omega), if_pos rfl]
    exact ⟨g, ⟨h4, h5⟩, h6⟩
  · have g := f2 (by omega)
    have g2 := f3 (by omega)
    rw [if_neg (by omega), if_neg (by omega), if_pos rfl]
    unfold G.callM
    by_cases c5 : 5 ≤ m.2.2.2.1.length
    · rw [if_pos c5]
      exact ⟨h3, ⟨h4, h5⟩, h6⟩
    · rw [if_neg c5]
      refine ⟨g.2, ⟨?_, h5⟩, ?_⟩
      · show (m.2.2.2.1 ++ [(m.1, m.2.1 + 1, ())]).length ≤ 5
        simp
        omega
      · refine spotsOk_iff.2 fun y hy => ?_
        rcases List.mem_append.1 hy with hy | hy
        · exact spotsOk_iff.1 h6 y hy
        · rw [List.mem_singleton.1 hy]
          exact g2
  · have g := f2 (by omega)
    rw [if_neg (by omega), if_neg (by omega), if_neg (by omega), if_pos rfl]
    exact ⟨g.2, ⟨h4, h5⟩, h6⟩
  · have g := f2 (by omega)
    have g2 := f3 (by omega)
    rw [if_neg (by omega), if_neg (by omega), if_neg (by omega), if_neg (by omega), if_pos rfl]
    by_cases ca : m.2.2.1 > 0
    · rw [if_pos ca]
      exact ⟨g.2, ⟨h4, h5⟩, h6⟩
    · rw [if_neg ca]
      exact ⟨g2, ⟨h4, h5⟩, h6⟩
  · rw [if_neg (by omega), if_neg (by omega), if_neg (by omega), if_neg (by omega), if_neg (by omega), if_pos rfl]
    unfold G.retM
    by_cases cs : m.2.2.2.1.length = 0
    · rw [if_pos cs]
      exact ⟨h3, ⟨h4, h5⟩, h6⟩
    · rw [if_neg cs]
      refine ⟨spots_last h6 cs, ⟨?_, h5⟩, ?_⟩
      · show (m.2.2.2.1.take (m.2.2.2.1.length - 1)).length ≤ 5
        simp
        omega
      · exact spotsOk_iff.2 fun y hy => spotsOk_iff.1 h6 y (List.mem_of_mem_take hy)
  · rw [if_neg (by omega), if_neg (by omega), if_neg (by omega), if_neg (by omega), if_neg (by omega), if_neg (by omega)]
    exact ⟨h3, ⟨h4, h5⟩, h6⟩
/-! runs -/
def G.runM (p : Funs) : Nat → Mach → Mach
  | 0, m => m
  | n + 1, m => if m.2.2.2.2.2.1 = 0 then G.runM p n (G.stepM p m) else m
def G.zeroM : Mach := (0, 0, 0, [], [], 0, ())
def G.formM : Mach := (0, 0, 0, [], [], 5, ())
def G.machRun (p : Funs) (fuel : Int) : Mach := if G.keepOk p = true ∧ 0 ≤ fuel ∧ fuel ≤ 200 then G.runM p fuel.toNat G.zeroM else G.formM
theorem goM_few {p : Funs} {m : Mach} (h : G.goM p m = true) : G.fewMach m = true := by
  obtain ⟨_, _, ⟨h2, h3⟩, _⟩ := goM_iff.1 h
  exact fewMach_iff.2 ⟨by omega, by omega⟩
theorem runM_succ (p : Funs) (n : Nat) (m : Mach) : G.runM p (n + 1) m = if m.2.2.2.2.2.1 = 0 then G.runM p n (G.stepM p m) else m := rfl
theorem runM_ok {p : Funs} : ∀ (n : Nat) {m : Mach}, G.goM p m = true → G.goM p (G.runM p n m) = true
  | 0, m, h => h
  | n + 1, m, h => by
    rw [runM_succ]
    split
    · exact runM_ok n (stepM_ok h)
    · exact h
theorem runM_done {p : Funs} {m : Mach} (h : ¬ m.2.2.2.2.2.1 = 0) : ∀ n, G.runM p n m = m
  | 0 => rfl
  | n + 1 => by rw [runM_succ, if_neg h]
theorem zeroM_ok {p : Funs} (hs : G.smallP p = true) (h : G.keepOk p = true) : G.goM p G.zeroM = true := by
  obtain ⟨⟨k1, k2⟩, k3, k4⟩ := (keepOk_iff p).1 h
  have hf : 0 < p.length := by omega
  obtain ⟨g1, g2⟩ := (funsOk_iff p).1 k3 _ hf
  obtain ⟨g3, g4, g5, g6⟩ := (funOk_iff _).1 g1
  refine goM_iff.2 ⟨⟨hs, h⟩, spotOk_iff.2 ⟨⟨by decide, by show (0 : Int) < _; omega⟩, by decide, ?_⟩, ⟨by decide, by decide⟩, rfl⟩
  show (0 : Int) < ((G.pAt p 0).2.2.1.length : Int)
  omega
end Go.Rx

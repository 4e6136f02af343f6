/-
  ENGINE, part Q: states, single operations, regions in the order of the text.
  Seat-independent.
-/
import Derived.Test.YteenlfeglffnoaaRxP
namespace Go.Rx
open Go Go.RowKit
set_option linter.unusedVariables false
set_option linter.unusedSimpArgs false

/-- What a context promises of its program. -/
structure CxOk (P : Program) (cx : Cx) : Prop where
  T : TabOk P cx.T
  E : EqOk P cx.T
  F : ∀ f sp, sp ∈ cx.Φ f → SpecOk P f sp

structure SRel (n : Nat) (st : St) (g : Nat → Value) (S : Nat → Prop) (a : Act) (w : World) : Prop where
  mr : MRel st.m g S w
  size : a.tmps.size = n
  defers : a.defers = []
  slot : ∀ t, Ac st.m g S w (st.sl t) (a.tmps.getD t undef)

def Kept (l : List Nat) (a a' : Act) : Prop := ∀ t, t ∉ l → a'.tmps.getD t undef = a.tmps.getD t undef
theorem Kept.refl (l : List Nat) (a : Act) : Kept l a a := fun _ _ => rfl
theorem Kept.trans {l l' : List Nat} {a b c : Act} (h : Kept l a b) (k : Kept l' b c) : Kept (l ++ l') a c := fun t ht =>
  (k t fun e => ht (List.mem_append_right _ e)).trans (h t fun e => ht (List.mem_append_left _ e))
theorem Kept.mono {l l' : List Nat} {a b : Act} (h : Kept l a b) (hl : ∀ x ∈ l, x ∈ l') : Kept l' a b := fun t ht => h t fun e => ht (hl t e)

section
variable {P : Program} {cx : Cx} {n : Nat} {st st' : St} {g : Nat → Value} {S : Nat → Prop} {a : Act} {w : World}

theorem constA_ok (v : Value) (m : Mem) : Ac m g S w (constA v) v := by
  unfold constA
  split <;> first | rfl | trivial
theorem evO_ok (h : SRel n st g S a w) (x : Operand) : Ac st.m g S w (evO st.sl x) (a.eval x) := by
  cases x with
  | tmp t => exact h.slot t
  | const v => exact constA_ok v _
  | func f => exact ⟨[], rfl, trivial⟩
  | global x => trivial

theorem put_size (a : Act) (d : Option Tmp) (v : Value) : (a.put d v).tmps.size = a.tmps.size := by
  cases d with
  | none => rfl
  | some d => simp [Act.put]
theorem put_defers' (a : Act) (d : Option Tmp) (v : Value) : (a.put d v).defers = a.defers := by cases d <;> rfl
theorem put_same (a : Act) (d : Nat) (v : Value) (h : d < a.tmps.size) : (a.put (some d) v).tmps.getD d undef = v := by
  simp [Act.put, Array.getD, h]
theorem put_ne (a : Act) (d : Nat) (v : Value) {t : Nat} (h : t ≠ d) : (a.put (some d) v).tmps.getD t undef = a.tmps.getD t undef := by
  simp only [Act.put, Array.getD_eq_getD_getElem?]
  rw [Array.getElem?_setIfInBounds_ne (Ne.symm h)]

theorem SRel.put (h : SRel n st g S a w) {m' : Mem} {g' : Nat → Value} {S' : Nat → Prop} {w' : World} (hm : MRel m' g' S' w') (he : Evo st.m g S w m' g' S' w') {d : Option Tmp} (hd : ∀ t, d = some t → t < n) {v : A} {val : Value} (hv : Ac m' g' S' w' v val) :
    SRel n ⟨setDst st.sl d v, m'⟩ g' S' (a.put d val) w' := by
  refine ⟨hm, (put_size a d val).trans h.size, (put_defers' a d val).trans h.defers, fun t => ?_⟩
  have old := Ac.tr he.tr he.hold he.sub _ _ (h.slot t)
  cases d with
  | none => exact old
  | some d =>
    show Ac m' g' S' w' (upd st.sl d v t) _
    by_cases ht : t = d
    · subst ht
      rw [upd_same, put_same a t val (by rw [h.size]; exact hd t rfl)]
      exact hv
    · rw [upd_ne _ _ ht, put_ne a d val ht]
      exact old
theorem Kept.put (a : Act) (d : Option Tmp) (v : Value) : Kept d.toList a (a.put d v) := fun t ht => by
  cases d with
  | none => rfl
  | some d => exact put_ne a d v fun e => ht (by rw [e]; exact List.mem_singleton.2 rfl)

/-- One operation. -/
theorem step_wp (hcx : CxOk P cx) (h : SRel n st g S a w) {o : Oper} (hs : stepOp cx st.m o st = some st') (hd : ∀ t, o.dst = some t → t < n) {K : Act → World → Prop} {Q : Exit → Act → World → Prop}
    (hK : ∀ a' w' g' S', SRel n st' g' S' a' w' → Evo st.m g S w st'.m g' S' w' → Kept o.dst.toList a a' → K a' w') : o.wp P a w K Q := by
  unfold stepOp stepP at hs
  split at hs
  · cases hs
  · rename_i p hp
    split at hs
    · cases hs
    · rename_i r hr
      split at hs
      · rename_i hc
        obtain ⟨_, hs⟩ := cond_some hs
        cases hs
        have fin : ∀ val w', Post st.m g S w (updL st.m r.ws) r.v val w' → K (a.put o.dst val) w' := fun val w' ⟨g', S', hm', he', hv'⟩ => hK _ _ g' S' (h.put hm' he' hd hv') he' (Kept.put a o.dst val)
        rcases op_sound hcx.T hcx.E hcx.F h.mr (ρ := a.eval) (evO_ok h) hp hr hc with ⟨val, w', hrun, hpost⟩ | ⟨w', hrun, hpost⟩ | ⟨f, vs, hrun, hcalls⟩
        · unfold Oper.wp
          rw [hrun]
          exact fin val w' hpost
        · unfold Oper.wp
          rw [hrun]
          exact fin undef w' hpost
        · unfold Oper.wp
          rw [hrun]
          refine Calls.mono hcalls fun e w' he => ?_
          obtain ⟨val, rfl, hpost⟩ := he
          exact fin val w' hpost
      · cases hs

theorem wants_ok (h : SRel n st g S a w) {ops : Array Oper} {o : Oper} {b : Bool} (hw : wants ops o st.sl = some b) : Region.wanted o (yielded ops a.tmps) = b := by
  unfold wants at hw
  unfold Region.wanted
  cases hg : o.guard with
  | none =>
    rw [hg] at hw
    cases hw
    rfl
  | some gw =>
    obtain ⟨gi, want⟩ := gw
    rw [hg] at hw
    simp only at hw ⊢
    cases hs : guardSlot ops gi with
    | none => rw [hs] at hw; cases hw
    | some s =>
      rw [hs] at hw
      simp only at hw
      split at hw
      · rename_i c hc
        have := h.slot s
        rw [hc] at this
        have this : a.tmps.getD s undef = .bool c := this
        have ht : a.tmps[s]? = some (.bool c) := by
          rw [Array.getD_eq_getD_getElem?] at this
          cases hq : a.tmps[s]? with
          | none =>
            rw [hq] at this
            cases this
          | some u =>
            rw [hq] at this
            exact congrArg some this
        have hs' : (ops[gi]?).bind (·.dst) = some s := hs
        cases hw
        unfold yielded
        rw [hs']
        simp only [Option.bind_some, ht]
        rfl
      · rename_i hc
        have := h.slot s
        rw [hc] at this
        obtain ⟨vs, hv, h2⟩ := this
        have hs' : (ops[gi]?).bind (·.dst) = some s := hs
        cases hw
        cases vs with
        | cons v vs => exact h2.elim
        | nil =>
          have hy : yielded ops a.tmps gi = none := by
            unfold yielded
            rw [hs']
            rw [Array.getD_eq_getD_getElem?] at hv
            cases hq : a.tmps[s]? with
            | none => simp only [Option.bind_some, hq]
            | some u =>
              rw [hq] at hv
              have hv : u = .tuple #[] := hv
              subst hv
              simp only [Option.bind_some, hq]
          simp only [hy]
          rfl
      · cases hw

theorem SRel.skip (h : SRel n st g S a w) {d : Option Tmp} (hd : ∀ t, d = some t → t < n) : SRel n ⟨setDst st.sl d (.tup []), st.m⟩ g S (a.put d undef) w :=
  h.put h.mr (Evo.refl _ _ _ _) hd ⟨[], rfl, trivial⟩

/-- One operation of a region, with its guard. -/
theorem wpOp_act (hcx : CxOk P cx) (h : SRel n st g S a w) {ops : Array Oper} {i : Nat} {o : Oper} (hi : ops[i]? = some o) (hw : wants ops o st.sl = some true) (hs : stepOp cx st.m o st = some st') (hd : ∀ t, o.dst = some t → t < n) {K : Act → World → Prop} {Q : Exit → Act → World → Prop}
    (hK : ∀ a' w' g' S', SRel n st' g' S' a' w' → Evo st.m g S w st'.m g' S' w' → Kept o.dst.toList a a' → K a' w') : wpOp P ops Q i K a w := by
  unfold wpOp
  rw [hi]
  simp only [wants_ok h hw, if_true]
  exact .inl (step_wp hcx h hs hd hK)
theorem wpOp_skip (h : SRel n st g S a w) {ops : Array Oper} {i : Nat} {o : Oper} (hi : ops[i]? = some o) (hw : wants ops o st.sl = some false) (hd : ∀ t, o.dst = some t → t < n) {K : Act → World → Prop} {Q : Exit → Act → World → Prop}
    (hK : SRel n ⟨setDst st.sl o.dst (.tup []), st.m⟩ g S (a.put o.dst undef) w → K (a.put o.dst undef) w) : wpOp P ops Q i K a w := by
  unfold wpOp
  rw [hi]
  simp only [wants_ok h hw]
  exact hK (h.skip hd)

/-- All slots that are written are there. -/
def dstsIn (n : Nat) (l : List Nat) : Prop := ∀ t ∈ l, t < n

theorem ops_wp (hcx : CxOk P cx) {ops : Array Oper} {Q : Exit → Act → World → Prop} : ∀ (k i : Nat) {st st' : St} {g : Nat → Value} {S : Nat → Prop} {a : Act} {w : World}, i + k = ops.size → SRel n st g S a w → opsRun cx ops (ops.toList.drop i) st = some st' → dstsIn n (dstsOps (ops.toList.drop i)) →
    (∀ a' w' g' S', SRel n st' g' S' a' w' → Evo st.m g S w st'.m g' S' w' → Kept (dstsOps (ops.toList.drop i)) a a' → Q .normal a' w') → wpOps P ops Q ((List.range' i k)) a w
  | 0, i, st, st', g, S, a, w, hk, h, hr, hd, hQ => by
    have e : ops.toList.drop i = [] := List.drop_eq_nil_of_le (by simp; omega)
    rw [e] at hr hQ
    cases hr
    exact hQ a w g S h (Evo.refl _ _ _ _) (Kept.refl _ _)
  | k + 1, i, st, st', g, S, a, w, hk, h, hr, hd, hQ => by
    have hi : i < ops.size := by omega
    have e : ops.toList.drop i = ops[i] :: ops.toList.drop (i + 1) := by
      rw [List.drop_eq_getElem_cons (by simpa using hi)]
      simp
    have hget : ops[i]? = some ops[i] := Array.getElem?_eq_getElem hi
    rw [e] at hr hQ hd
    have hd1 : ∀ t, (ops[i]).dst = some t → t < n := fun t ht => hd t (List.mem_append_left _ (by rw [ht]; exact List.mem_singleton.2 rfl))
    have hd2 : dstsIn n (dstsOps (ops.toList.drop (i + 1))) := fun t ht => hd t (List.mem_append_right _ ht)
    rw [List.range'_succ, wpOps_cons]
    unfold opsRun at hr
    split at hr
    · cases hr
    · rename_i hw
      split at hr
      · cases hr
      · rename_i st1 hs
        refine wpOp_act hcx h hget hw hs hd1 fun a1 w1 g1 S1 h1 e1 k1 => ?_
        exact ops_wp hcx k (i + 1) (by omega) h1 hr hd2 fun a2 w2 g2 S2 h2 e2 k2 => hQ a2 w2 g2 S2 h2 (e1.trans e2) (k1.trans k2)
    · rename_i hw
      refine wpOp_skip h hget hw hd1 fun h1 => ?_
      exact ops_wp hcx k (i + 1) (by omega) h1 hr hd2 fun a2 w2 g2 S2 h2 e2 k2 => hQ a2 w2 g2 S2 h2 e2 ((Kept.put a _ undef).trans k2)
end
end Go.Rx

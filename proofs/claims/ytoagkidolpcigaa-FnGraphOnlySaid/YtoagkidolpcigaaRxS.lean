/-
  ENGINE, part S: regions that draw their order.
  Seat-independent.
-/
import Derived.Test.YtoagkidolpcigaaRxP
namespace Go.Rx
open Go Go.RowKit
set_option linter.unusedVariables false
set_option linter.unusedSimpArgs false

/-- What a context promises of its program. -/
structure CxOk (P : Program) (cx : Cx) : Prop where
  T : TabOk P cx.T
  E : EqOk P cx.T
  F : ∀ f sp, sp ∈ cx.Φ f → SpecOk P f sp

structure SRel (n : Nat) (st : St) (g : Nat → Value) (S : Nat → Prop) (a : Act) (w : World) : Prop where
  mr : MRel st.m g S w
  size : a.tmps.size = n
  defers : a.defers = []
  slot : ∀ t, Ac st.m g S w (st.sl t) (a.tmps.getD t undef)

def Kept (l : List Nat) (a a' : Act) : Prop := ∀ t, t ∉ l → a'.tmps.getD t undef = a.tmps.getD t undef
theorem Kept.refl (l : List Nat) (a : Act) : Kept l a a := fun _ _ => rfl
theorem Kept.trans {l l' : List Nat} {a b c : Act} (h : Kept l a b) (k : Kept l' b c) : Kept (l ++ l') a c := fun t ht =>
  (k t fun e => ht (List.mem_append_right _ e)).trans (h t fun e => ht (List.mem_append_left _ e))
theorem Kept.mono {l l' : List Nat} {a b : Act} (h : Kept l a b) (hl : ∀ x ∈ l, x ∈ l') : Kept l' a b := fun t ht => h t fun e => ht (hl t e)

section
variable {P : Program} {cx : Cx} {n : Nat} {st st' : St} {g : Nat → Value} {S : Nat → Prop} {a : Act} {w : World}

theorem constA_ok (v : Value) (m : Mem) : Ac m g S w (constA v) v := by
  unfold constA
  split <;> first | rfl | trivial
theorem evO_ok (h : SRel n st g S a w) (x : Operand) : Ac st.m g S w (evO st.sl x) (a.eval x) := by
  cases x with
  | tmp t => exact h.slot t
  | const v => exact constA_ok v _
  | func f => exact ⟨[], rfl, trivial⟩
  | global x => trivial

theorem put_size (a : Act) (d : Option Tmp) (v : Value) : (a.put d v).tmps.size = a.tmps.size := by
  cases d with
  | none => rfl
  | some d => simp [Act.put]
theorem put_defers' (a : Act) (d : Option Tmp) (v : Value) : (a.put d v).defers = a.defers := by cases d <;> rfl
theorem put_same (a : Act) (d : Nat) (v : Value) (h : d < a.tmps.size) : (a.put (some d) v).tmps.getD d undef = v := by
  simp [Act.put, Array.getD, h]
theorem put_ne (a : Act) (d : Nat) (v : Value) {t : Nat} (h : t ≠ d) : (a.put (some d) v).tmps.getD t undef = a.tmps.getD t undef := by
  simp only [Act.put, Array.getD_eq_getD_getElem?]
  rw [Array.getElem?_setIfInBounds_ne (Ne.symm h)]

theorem SRel.put (h : SRel n st g S a w) {m' : Mem} {g' : Nat → Value} {S' : Nat → Prop} {w' : World} (hm : MRel m' g' S' w') (he : Evo st.m g S w m' g' S' w') {d : Option Tmp} (hd : ∀ t, d = some t → t < n) {v : A} {val : Value} (hv : Ac m' g' S' w' v val) :
    SRel n ⟨setDst st.sl d v, m'⟩ g' S' (a.put d val) w' := by
  refine ⟨hm, (put_size a d val).trans h.size, (put_defers' a d val).trans h.defers, fun t => ?_⟩
  have old := Ac.tr he.tr he.hold he.sub _ _ (h.slot t)
  cases d with
  | none => exact old
  | some d =>
    show Ac m' g' S' w' (upd st.sl d v t) _
    by_cases ht : t = d
    · subst ht
      rw [upd_same, put_same a t val (by rw [h.size]; exact hd t rfl)]
      exact hv
    · rw [upd_ne _ _ ht, put_ne a d val ht]
      exact old
theorem Kept.put (a : Act) (d : Option Tmp) (v : Value) : Kept d.toList a (a.put d v) := fun t ht => by
  cases d with
  | none => rfl
  | some d => exact put_ne a d v fun e => ht (by rw [e]; exact List.mem_singleton.2 rfl)

/-- One operation. -/
theorem step_wp (hcx : CxOk P cx) (h : SRel n st g S a w) {o : Oper} (hs : stepOp cx st.m o st = some st') (hd : ∀ t, o.dst = some t → t < n) {K : Act → World → Prop} {Q : Exit → Act → World → Prop}
    (hK : ∀ a' w' g' S', SRel n st' g' S' a' w' → Evo st.m g S w st'.m g' S' w' → Kept o.dst.toList a a' → K a' w') : o.wp P a w K Q := by
  unfold stepOp stepP at hs
  split at hs
  · cases hs
  · rename_i p hp
    split at hs
    · cases hs
    · rename_i r hr
      split at hs
      · rename_i hc
        obtain ⟨_, hs⟩ := cond_some hs
        cases hs
        have fin : ∀ val w', Post st.m g S w (updL st.m r.ws) r.v val w' → K (a.put o.dst val) w' := fun val w' ⟨g', S', hm', he', hv'⟩ => hK _ _ g' S' (h.put hm' he' hd hv') he' (Kept.put a o.dst val)
        rcases op_sound hcx.T hcx.E hcx.F h.mr (ρ := a.eval) (evO_ok h) hp hr hc with ⟨val, w', hrun, hpost⟩ | ⟨w', hrun, hpost⟩ | ⟨f, vs, hrun, hcalls⟩
        · unfold Oper.wp
          rw [hrun]
          exact fin val w' hpost
        · unfold Oper.wp
          rw [hrun]
          exact fin undef w' hpost
        · unfold Oper.wp
          rw [hrun]
          refine Calls.mono hcalls fun e w' he => ?_
          obtain ⟨val, rfl, hpost⟩ := he
          exact fin val w' hpost
      · cases hs

theorem wants_ok (h : SRel n st g S a w) {ops : Array Oper} {o : Oper} {b : Bool} (hw : wants ops o st.sl = some b) : Region.wanted o (yielded ops a.tmps) = b := by
  unfold wants at hw
  unfold Region.wanted
  cases hg : o.guard with
  | none =>
    rw [hg] at hw
    cases hw
    rfl
  | some gw =>
    obtain ⟨gi, want⟩ := gw
    rw [hg] at hw
    simp only at hw ⊢
    cases hs : guardSlot ops gi with
    | none => rw [hs] at hw; cases hw
    | some s =>
      rw [hs] at hw
      simp only at hw
      split at hw
      · rename_i c hc
        have := h.slot s
        rw [hc] at this
        have this : a.tmps.getD s undef = .bool c := this
        have ht : a.tmps[s]? = some (.bool c) := by
          rw [Array.getD_eq_getD_getElem?] at this
          cases hq : a.tmps[s]? with
          | none =>
            rw [hq] at this
            cases this
          | some u =>
            rw [hq] at this
            exact congrArg some this
        have hs' : (ops[gi]?).bind (·.dst) = some s := hs
        cases hw
        unfold yielded
        rw [hs']
        simp only [Option.bind_some, ht]
        rfl
      · rename_i hc
        have := h.slot s
        rw [hc] at this
        obtain ⟨vs, hv, h2⟩ := this
        have hs' : (ops[gi]?).bind (·.dst) = some s := hs
        cases hw
        cases vs with
        | cons v vs => exact h2.elim
        | nil =>
          have hy : yielded ops a.tmps gi = none := by
            unfold yielded
            rw [hs']
            rw [Array.getD_eq_getD_getElem?] at hv
            cases hq : a.tmps[s]? with
            | none => simp only [Option.bind_some, hq]
            | some u =>
              rw [hq] at hv
              have hv : u = .tuple #[] := hv
              subst hv
              simp only [Option.bind_some, hq]
          simp only [hy]
          rfl
      · cases hw

theorem SRel.skip (h : SRel n st g S a w) {d : Option Tmp} (hd : ∀ t, d = some t → t < n) : SRel n ⟨setDst st.sl d (.tup []), st.m⟩ g S (a.put d undef) w :=
  h.put h.mr (Evo.refl _ _ _ _) hd ⟨[], rfl, trivial⟩

/-- One operation of a region, with its guard. -/
theorem wpOp_act (hcx : CxOk P cx) (h : SRel n st g S a w) {ops : Array Oper} {i : Nat} {o : Oper} (hi : ops[i]? = some o) (hw : wants ops o st.sl = some true) (hs : stepOp cx st.m o st = some st') (hd : ∀ t, o.dst = some t → t < n) {K : Act → World → Prop} {Q : Exit → Act → World → Prop}
    (hK : ∀ a' w' g' S', SRel n st' g' S' a' w' → Evo st.m g S w st'.m g' S' w' → Kept o.dst.toList a a' → K a' w') : wpOp P ops Q i K a w := by
  unfold wpOp
  rw [hi]
  simp only [wants_ok h hw, if_true]
  exact .inl (step_wp hcx h hs hd hK)
theorem wpOp_skip (h : SRel n st g S a w) {ops : Array Oper} {i : Nat} {o : Oper} (hi : ops[i]? = some o) (hw : wants ops o st.sl = some false) (hd : ∀ t, o.dst = some t → t < n) {K : Act → World → Prop} {Q : Exit → Act → World → Prop}
    (hK : SRel n ⟨setDst st.sl o.dst (.tup []), st.m⟩ g S (a.put o.dst undef) w → K (a.put o.dst undef) w) : wpOp P ops Q i K a w := by
  unfold wpOp
  rw [hi]
  simp only [wants_ok h hw]
  exact hK (h.skip hd)

/-- All slots that are written are there. -/
def dstsIn (n : Nat) (l : List Nat) : Prop := ∀ t ∈ l, t < n

theorem ops_wp (hcx : CxOk P cx) {ops : Array Oper} {Q : Exit → Act → World → Prop} : ∀ (k i : Nat) {st st' : St} {g : Nat → Value} {S : Nat → Prop} {a : Act} {w : World}, i + k = ops.size → SRel n st g S a w → opsRun cx ops (ops.toList.drop i) st = some st' → dstsIn n (dstsOps (ops.toList.drop i)) →
    (∀ a' w' g' S', SRel n st' g' S' a' w' → Evo st.m g S w st'.m g' S' w' → Kept (dstsOps (ops.toList.drop i)) a a' → Q .normal a' w') → wpOps P ops Q ((List.range' i k)) a w
  | 0, i, st, st', g, S, a, w, hk, h, hr, hd, hQ => by
    have e : ops.toList.drop i = [] := List.drop_eq_nil_of_le (by simp; omega)
    rw [e] at hr hQ
    cases hr
    exact hQ a w g S h (Evo.refl _ _ _ _) (Kept.refl _ _)
  | k + 1, i, st, st', g, S, a, w, hk, h, hr, hd, hQ => by
    have hi : i < ops.size := by omega
    have e : ops.toList.drop i = ops[i] :: ops.toList.drop (i + 1) := by
      rw [List.drop_eq_getElem_cons (by simpa using hi)]
      simp
    have hget : ops[i]? = some ops[i] := Array.getElem?_eq_getElem hi
    rw [e] at hr hQ hd
    have hd1 : ∀ t, (ops[i]).dst = some t → t < n := fun t ht => hd t (List.mem_append_left _ (by rw [ht]; exact List.mem_singleton.2 rfl))
    have hd2 : dstsIn n (dstsOps (ops.toList.drop (i + 1))) := fun t ht => hd t (List.mem_append_right _ ht)
    rw [List.range'_succ, wpOps_cons]
    unfold opsRun at hr
    split at hr
    · cases hr
    · rename_i hw
      split at hr
      · cases hr
      · rename_i st1 hs
        refine wpOp_act hcx h hget hw hs hd1 fun a1 w1 g1 S1 h1 e1 k1 => ?_
        exact ops_wp hcx k (i + 1) (by omega) h1 hr hd2 fun a2 w2 g2 S2 h2 e2 k2 => hQ a2 w2 g2 S2 h2 (e1.trans e2) (k1.trans k2)
    · rename_i hw
      refine wpOp_skip h hget hw hd1 fun h1 => ?_
      exact ops_wp hcx k (i + 1) (by omega) h1 hr hd2 fun a2 w2 g2 S2 h2 e2 k2 => hQ a2 w2 g2 S2 h2 e2 ((Kept.put a _ undef).trans k2)
end
end Go.Rx
namespace Go.Rx
open Go Go.RowKit
set_option linter.unusedVariables false
set_option linter.unusedSimpArgs false

theorem partsC_congr {ev ev' : Operand → A} : ∀ {l : List (Nat × Operand)}, (∀ x ∈ l.map (fun p => p.2), ev' x = ev x) → partsC ev' l = partsC ev l
  | [], _ => rfl
  | (i, x) :: l, h => by
    unfold partsC
    rw [h x (List.mem_cons_self ..), partsC_congr (l := l) fun y hy => h y (List.mem_cons_of_mem _ hy)]
theorem capsOf_congr {ev ev' : Operand → A} : ∀ {l : List Operand}, (∀ x ∈ l, ev' x = ev x) → capsOf ev' l = capsOf ev l
  | [], _ => rfl
  | x :: l, h => by
    unfold capsOf
    rw [h x (List.mem_cons_self ..), capsOf_congr (l := l) fun y hy => h y (List.mem_cons_of_mem _ hy)]

/-! ### the numbers that a call touches hang on the variables alone that it is handed -/
theorem boxIds_stable {m m' : Mem} {ks : List CK} {id : Nat} (h : ∀ i ∈ (boxIds m ks id).ids, m' i = m i) : boxIds m' ks id = boxIds m ks id := by
  have hid : m' id = m id := by
    refine h id ?_
    unfold boxIds
    split
    · exact List.mem_cons_self ..
    · exact List.mem_singleton.2 rfl
  unfold boxIds
  rw [hid]
theorem boxesIds_stable {m m' : Mem} : ∀ {bs : List (List CK)} {caps : List (Nat × Nat × Nat)}, (∀ i ∈ (boxesIds m bs caps).ids, m' i = m i) → boxesIds m' bs caps = boxesIds m bs caps
  | [], [], _ => rfl
  | [], _ :: _, _ => rfl
  | _ :: _, [], _ => rfl
  | ks :: bs, c :: caps, h => by
    have e : (boxesIds m (ks :: bs) (c :: caps)).ids = (boxIds m ks c.1).ids ++ (boxesIds m bs caps).ids := List.map_append ..
    rw [e] at h
    show (boxIds m' ks c.1).add (boxesIds m' bs caps) = (boxIds m ks c.1).add (boxesIds m bs caps)
    rw [boxIds_stable fun i hi => h i (List.mem_append_left _ hi), boxesIds_stable fun i hi => h i (List.mem_append_right _ hi)]
theorem argIds_stable {m m' : Mem} {p : PK} {x : A} (h : ∀ i ∈ (argIds m p x).ids, m' i = m i) : argIds m' p x = argIds m p x := by
  unfold argIds at h ⊢
  split
  · rfl
  · rfl
  · exact boxIds_stable h
  · exact boxesIds_stable h
  · rfl
  · rfl
  · rfl
theorem argsIds_stable {m m' : Mem} : ∀ {ps : List PK} {xs : List A}, (∀ i ∈ (argsIds m ps xs).ids, m' i = m i) → argsIds m' ps xs = argsIds m ps xs
  | [], [], _ => rfl
  | [], _ :: _, _ => rfl
  | _ :: _, [], _ => rfl
  | p :: ps, x :: xs, h => by
    have e : (argsIds m (p :: ps) (x :: xs)).ids = (argIds m p x).ids ++ (argsIds m ps xs).ids := List.map_append ..
    rw [e] at h
    show (argIds m' p x).add (argsIds m' ps xs) = (argIds m p x).add (argsIds m ps xs)
    rw [argIds_stable fun i hi => h i (List.mem_append_left _ hi), argsIds_stable fun i hi => h i (List.mem_append_right _ hi)]

theorem callP_stable {sp : Spec} {bid : Nat} {xs : List A} {m m' : Mem} {p : Plan} (hp : callP sp bid xs m = some p) (h : ∀ id ∈ p.rd ++ p.wr, m' id = m id) : callP sp bid xs m' = some p := by
  have hp0 := hp
  obtain ⟨hok, hp⟩ := cond_some hp
  cases hp
  have e : argsIds m' sp.ins xs = argsIds m sp.ins xs := argsIds_stable fun i hi => h i (List.mem_append_right _ (List.mem_append_right _ (List.mem_append_left _ hi)))
  unfold callP at hp0 ⊢
  rw [e]
  exact hp0

theorem plan_stable {T : Tab} {Φ : Nat → List Spec} {mv : Nat → Bool} {bid : Nat} {m m' : Mem} {o : Oper} {ev ev' : Operand → A} {p : Plan} (hp : opPlan T Φ mv bid m o ev = some p) (he : ∀ x ∈ o.op.operands, ev' x = ev x)
    (h : ∀ id ∈ p.rd ++ p.wr, m' id = m id) : opPlan T Φ mv bid m' o ev' = some p := by
  obtain ⟨dst, op, type, pos, after, guard⟩ := o
  cases op
  case call c =>
    have hargs : c.args.toList.map ev' = c.args.toList.map ev := List.map_congr_left fun x hx => he x (by simp only [Op.operands, Call.operands]; exact Array.mem_append.2 (.inr (by simpa using hx)))
    have harg : ∀ x ∈ c.args.toList, ev' x = ev x := fun x hx => he x (by simp only [Op.operands, Call.operands]; exact Array.mem_append.2 (.inr (by simpa using hx)))
    obtain ⟨callee, args, argTypes⟩ := c
    cases callee with
    | builtin b =>
      cases b with
      | len =>
        simp only [opPlan] at hp ⊢
        split at hp
        · rename_i x t hx ht
          rw [harg x (by rw [hx]; exact List.mem_singleton.2 rfl)]
          exact hp
        · cases hp
      | append =>
        simp only [opPlan] at hp ⊢
        split at hp
        · rename_i x y t t' hx ht
          rw [harg x (by rw [hx]; exact List.mem_cons_self ..), harg y (by rw [hx]; exact List.mem_cons_of_mem _ (List.mem_singleton.2 rfl))]
          exact hp
        · cases hp
      | max =>
        simp only [opPlan] at hp ⊢
        split at hp
        · rename_i x y hx
          rw [harg x (by rw [hx]; exact List.mem_cons_self ..), harg y (by rw [hx]; exact List.mem_cons_of_mem _ (List.mem_singleton.2 rfl))]
          exact hp
        · cases hp
      | min =>
        simp only [opPlan] at hp ⊢
        split at hp
        · rename_i x y hx
          rw [harg x (by rw [hx]; exact List.mem_cons_self ..), harg y (by rw [hx]; exact List.mem_cons_of_mem _ (List.mem_singleton.2 rfl))]
          exact hp
        · cases hp
      | _ => cases hp
    | value x =>
      simp only [opPlan] at hp ⊢
      rw [he x (by simp [Op.operands, Call.operands]), hargs]
      split at hp
      · rename_i f caps hf
        split at hp
        · rename_i sp hsp
          show (match pickSp (Φ f) (List.map ev args.toList ++ List.map capA caps) with
            | some sp => callP sp bid (List.map ev args.toList ++ List.map capA caps) m'
            | none => none) = some p
          rw [hsp]
          exact callP_stable hp h
        · cases hp
      · cases hp
    | _ => cases hp
  case build t ps =>
    simp only [opPlan] at hp ⊢
    rw [partsC_congr fun x hx => he x (by simpa [Op.operands] using hx)]
    exact hp
  case buildSlice t n ps =>
    simp only [opPlan] at hp ⊢
    rw [partsC_congr fun x hx => he x (by simpa [Op.operands] using hx)]
    exact hp
  case makeFunc fn first caps =>
    cases fn <;> simp only [opPlan] at hp ⊢ <;> try (cases hp; done)
    rw [capsOf_congr fun x hx => he x (by simp only [Op.operands]; exact Array.mem_append.2 (.inr (by simpa using hx)))]
    exact hp
  case slice t x lo hi mx =>
    cases mx with
    | some z => cases hp
    | none =>
      simp only [opPlan] at hp ⊢
      have e0 : ev' x = ev x := he x (by simp [Op.operands])
      have e1 : lo.map ev' = lo.map ev := by
        cases lo with
        | none => rfl
        | some y => exact congrArg some (he y (by simp [Op.operands]))
      have e2 : hi.map ev' = hi.map ev := by
        cases hi with
        | none => rfl
        | some y => exact congrArg some (he y (by simp [Op.operands]))
      rw [e0, e1, e2]
      exact hp
  case makeMap t x =>
    cases x with
    | some _ => cases hp
    | none => exact hp
  case lookup t x k ok =>
    cases ok with
    | true => cases hp
    | false =>
      have e0 : ev' x = ev x := he x (by simp [Op.operands])
      have e1 : ev' k = ev k := he k (by simp [Op.operands])
      simp only [opPlan] at hp ⊢
      rw [e0, e1]
      exact hp
  case unOp op t x =>
    have e0 : ev' x = ev x := he x (by simp [Op.operands])
    cases op <;> simp only [opPlan] at hp ⊢ <;> first | (rw [e0]; exact hp) | (cases hp; done)
  all_goals simp only [Op.operands] at he
  all_goals first
    | (simp only [opPlan] at hp; cases hp; done)
    | (simp only [opPlan] at hp ⊢; exact hp)
    | (rename_i x; have e0 := he x (by simp); simp only [opPlan] at hp ⊢; rw [e0]; exact hp)
    | (rename_i x _; have e0 := he x (by simp); simp only [opPlan] at hp ⊢; rw [e0]; exact hp)
    | (rename_i x y; have e0 := he x (by simp); have e1 := he y (by simp); simp only [opPlan] at hp ⊢; rw [e0, e1]; exact hp)
    | (rename_i x y z; have e0 := he x (by simp); have e1 := he y (by simp); have e2 := he z (by simp); simp only [opPlan] at hp ⊢; rw [e0, e1, e2]; exact hp)
    | (rename_i x y z; have e0 := he x (by simp); have e1 := he y (by simp); simp only [opPlan] at hp ⊢; rw [e0, e1]; exact hp)

/-! ### steps -/
def stepG (cx : Cx) (ops : Array Oper) (x : Nat × Oper) (st : St) : Option (Foot × St) :=
  match wants ops x.2 st.sl with
  | none => none
  | some true => (stepOp cx st.m x.2 st).map fun st' => (footOf cx ops x.1 x.2 st, st')
  | some false => some (foot0 ops x.1 x.2, ⟨setDst st.sl x.2.dst (.tup []), st.m⟩)

theorem mem_opTmps : ∀ {l : List Operand} {t : Tmp}, Operand.tmp t ∈ l → t ∈ opTmps l
  | [], _, h => by cases h
  | .tmp s :: l, t, h => by
    rcases List.mem_cons.1 h with e | e
    · cases e
      exact List.mem_cons_self ..
    · exact List.mem_cons_of_mem _ (mem_opTmps e)
  | .const v :: l, t, h => by
    rcases List.mem_cons.1 h with e | e
    · cases e
    · exact mem_opTmps (l := l) e
  | .global v :: l, t, h => by
    rcases List.mem_cons.1 h with e | e
    · cases e
    · exact mem_opTmps (l := l) e
  | .func v :: l, t, h => by
    rcases List.mem_cons.1 h with e | e
    · cases e
    · exact mem_opTmps (l := l) e

theorem wants_stable {ops : Array Oper} {o : Oper} {sl sl' : Nat → A} (h : ∀ t ∈ looksOf ops o, sl' t = sl t) : wants ops o sl' = wants ops o sl := by
  unfold wants
  cases hg : o.guard with
  | none => rfl
  | some gw =>
    obtain ⟨gi, want⟩ := gw
    simp only
    cases hs : guardSlot ops gi with
    | none => rfl
    | some s =>
      simp only
      rw [h s (by
        unfold looksOf
        rw [hg]
        simp only [hs]
        exact List.mem_append_right _ (List.mem_singleton.2 rfl))]
theorem evO_stable {ops : Array Oper} {o : Oper} {sl sl' : Nat → A} (h : ∀ t ∈ looksOf ops o, sl' t = sl t) : ∀ x ∈ o.op.operands, evO sl' x = evO sl x := fun x hx => by
  cases x with
  | tmp t => exact h t (List.mem_append_left _ (mem_opTmps (by simpa using hx)))
  | _ => rfl

/-- What a step does, and on what it hangs. -/
theorem stepG_spec {cx : Cx} {ops : Array Oper} {x : Nat × Oper} {st st1 : St} {f : Foot} (h : stepG cx ops x st = some (f, st1)) : ∃ v ws, st1 = ⟨setDst st.sl x.2.dst v, updL st.m ws⟩ ∧ (∀ q ∈ ws, q.1 ∈ f.wr) ∧ f.dst = x.2.dst ∧ f.looks = looksOf ops x.2 ∧ f.i = x.1 ∧
    ∀ (sl' : Nat → A) (m' : Mem), (∀ t ∈ looksOf ops x.2, sl' t = st.sl t) → (∀ id ∈ f.rd ++ f.wr, m' id = st.m id) → stepG cx ops x ⟨sl', m'⟩ = some (f, ⟨setDst sl' x.2.dst v, updL m' ws⟩) := by
  unfold stepG at h
  split at h
  · cases h
  · rename_i hw
    rw [Option.map_eq_some_iff] at h
    obtain ⟨st2, hs, he⟩ := h
    cases he
    unfold stepOp stepP at hs
    split at hs
    · cases hs
    · rename_i p hp
      split at hs
      · cases hs
      · rename_i r hr
        split at hs
        · rename_i hc
          obtain ⟨hws, hs⟩ := cond_some hs
          cases hs
          have hf : footOf cx ops x.1 x.2 st = ⟨x.1, x.2.dst, looksOf ops x.2, p.rd, p.wr⟩ := by
            unfold footOf
            rw [hp]
          rw [hf]
          refine ⟨r.v, r.ws, rfl, fun q hq => ?_, rfl, rfl, rfl, fun sl' m' hsl hm' => ?_⟩
          · exact inL_iff.1 (List.all_eq_true.1 hws q hq)
          · have hp' : planOf cx m' x.2 sl' = some p := plan_stable hp (evO_stable hsl) hm'
            have hre : restr (p.rd ++ p.wr) m' = restr (p.rd ++ p.wr) st.m := by
              funext id
              unfold restr
              cases hi : inL id (p.rd ++ p.wr) with
              | false => rfl
              | true => exact hm' id (inL_iff.1 hi)
            have hf' : footOf cx ops x.1 x.2 ⟨sl', m'⟩ = ⟨x.1, x.2.dst, looksOf ops x.2, p.rd, p.wr⟩ := by
              unfold footOf
              simp only [hp']
            have hstep : stepOp cx m' x.2 ⟨sl', m'⟩ = some ⟨setDst sl' x.2.dst r.v, updL m' r.ws⟩ := by
              unfold stepOp stepP
              simp only [hp', hre, hr, hc, hws, if_true, cond_true]
            unfold stepG
            rw [wants_stable hsl, hw]
            simp only [hstep, hf', Option.map_some]
        · cases hs
  · rename_i hw
    cases h
    refine ⟨.tup [], [], rfl, ⟨fun q hq => by simp at hq, rfl, rfl, rfl, fun sl' m' hsl hm' => ?_⟩⟩
    unfold stepG
    rw [wants_stable hsl, hw]
    rfl

theorem disjL_ok {a b : List Nat} (h : disjL a b = true) : ∀ x ∈ a, x ∉ b := fun x hx hb => by
  have := List.all_eq_true.1 h x hx
  rw [inL_iff.2 hb] at this
  cases this
theorem setDst_ne {sl : Nat → A} {d : Option Tmp} {v : A} {l : List Tmp} (h : optIn d l = false) {t : Nat} (ht : t ∈ l) : setDst sl d v t = sl t := by
  cases d with
  | none => rfl
  | some d =>
    refine upd_ne _ _ fun e => ?_
    have : inL d l = true := inL_iff.2 (e ▸ ht)
    have h' : inL d l = false := h
    rw [this] at h'
    cases h'
theorem upd_comm {α : Type} (f : Nat → α) {i j : Nat} (u v : α) (h : i ≠ j) : upd (upd f i u) j v = upd (upd f j v) i u := by
  funext k
  by_cases hi : k = i
  · subst hi
    rw [upd_ne _ _ h, upd_same, upd_same]
  · rw [upd_ne _ _ hi]
    by_cases hj : k = j
    · subst hj
      rw [upd_same, upd_same]
    · rw [upd_ne _ _ hj, upd_ne _ _ hj, upd_ne _ _ hi]
theorem setDst_comm (sl : Nat → A) {d e : Option Tmp} (u v : A) (h : sameDst d e = false) : setDst (setDst sl d u) e v = setDst (setDst sl e v) d u := by
  cases d with
  | none => rfl
  | some d => cases e with
    | none => rfl
    | some e =>
      refine upd_comm sl u v fun he => ?_
      have h' : Nat.beq d e = false := h
      rw [he, beq_self] at h'
      cases h'
theorem updL_get (m : Mem) : ∀ (l : List (Nat × Ob)), ∃ q : Nat → Option Ob, ∀ (m : Mem) j, updL m l j = (q j).getD (m j) ∧ ((q j).isSome = true → j ∈ l.map fun p => p.1)
  | [] => ⟨fun _ => none, fun m j => ⟨rfl, fun h => by cases h⟩⟩
  | p :: l => by
    obtain ⟨q, hq⟩ := updL_get m l
    refine ⟨fun j => cond (Nat.beq j p.1) (some p.2) (q j), fun m j => ?_⟩
    dsimp only
    by_cases h : j = p.1
    · subst h
      rw [beq_self]
      exact ⟨upd_same _ _ _, fun _ => List.mem_cons_self ..⟩
    · have hb : Nat.beq j p.1 = false := by
        rw [Bool.eq_false_iff]
        exact fun e => h (Nat.eq_of_beq_eq_true e)
      rw [hb]
      exact ⟨(upd_ne _ _ h).trans (hq m j).1, fun hs => List.mem_cons_of_mem _ ((hq m j).2 hs)⟩
theorem updL_comm (m : Mem) {a b : List (Nat × Ob)} (h : ∀ p ∈ a, ∀ q ∈ b, p.1 ≠ q.1) : updL (updL m a) b = updL (updL m b) a := by
  obtain ⟨qa, ha⟩ := updL_get m a
  obtain ⟨qb, hb⟩ := updL_get m b
  funext j
  rw [(hb _ j).1, (ha _ j).1, (ha _ j).1, (hb _ j).1]
  cases h1 : qa j with
  | none => rfl
  | some u => cases h2 : qb j with
    | none => rfl
    | some v =>
      exfalso
      obtain ⟨p, hp, ep⟩ := List.mem_map.1 ((ha m j).2 (by rw [h1]; rfl))
      obtain ⟨q, hq, eq⟩ := List.mem_map.1 ((hb m j).2 (by rw [h2]; rfl))
      exact h p hp q hq (ep.trans eq.symm)
theorem not_of {b : Bool} (h : (!b) = true) : b = false := by
  cases b with
  | false => rfl
  | true => cases h

/-- Two steps that touch nothing in common change places. -/
theorem swap {cx : Cx} {ops : Array Oper} {y x : Nat × Oper} {st st1 st2 : St} {fy fx : Foot} (hy : stepG cx ops y st = some (fy, st1)) (hx : stepG cx ops x st1 = some (fx, st2)) (hap : apart fy fx = true) :
    ∃ st1', stepG cx ops x st = some (fx, st1') ∧ stepG cx ops y st1' = some (fy, st2) := by
  obtain ⟨vy, wy, rfl, ky, dy, ly, _, sy⟩ := stepG_spec hy
  obtain ⟨vx, wx, rfl, kx, dx, lx, _, sx⟩ := stepG_spec hx
  obtain ⟨a1, hap⟩ := and_true hap
  obtain ⟨a2, hap⟩ := and_true hap
  obtain ⟨a3, hap⟩ := and_true hap
  obtain ⟨a4, hap⟩ := and_true hap
  obtain ⟨a5, a6⟩ := and_true hap
  rw [dy, lx] at a1
  rw [dx, ly] at a2
  rw [dy, dx] at a3
  have b4 := disjL_ok a4
  have b5 := disjL_ok a5
  have b6 := disjL_ok a6
  have keys : ∀ p ∈ wy, ∀ q ∈ wx, p.1 ≠ q.1 := fun p hp q hq e => b5 p.1 (ky p hp) (e ▸ kx q hq)
  refine ⟨⟨setDst st.sl x.2.dst vx, updL st.m wx⟩, sx st.sl st.m (fun t ht => (setDst_ne (not_of a1) ht).symm) (fun id hid => ?_), ?_⟩
  · refine (updL_out fun p hp e => ?_).symm
    rcases List.mem_append.1 hid with h | h
    · exact b4 p.1 (ky p hp) (e ▸ h)
    · exact b5 p.1 (ky p hp) (e ▸ h)
  · have := sy (setDst st.sl x.2.dst vx) (updL st.m wx) (fun t ht => setDst_ne (not_of a2) ht) (fun id hid => ?_)
    · rw [this]
      rw [setDst_comm st.sl vy vx (not_of a3), updL_comm st.m keys]
    · refine updL_out fun p hp e => ?_
      rcases List.mem_append.1 hid with h | h
      · exact b6 id h (e ▸ kx p hp)
      · exact b5 id h (e ▸ kx p hp)

/-- A run through a list of steps, each with what it touches; what stands later and does not hang on it is apart from it. -/
def Chain (cx : Cx) (ops : Array Oper) (ah : List Nat) : List (Nat × Oper) → St → List Foot → St → Prop
  | [], st, [], st' => st' = st
  | x :: r, st, f :: fs, st' => ∃ st1, stepG cx ops x st = some (f, st1) ∧ (∀ f' ∈ fs, Nat.testBit ((ah[f'.i]?).getD 0) f.i = true ∨ apart f f' = true) ∧ Chain cx ops ah r st1 fs st'
  | _, _, _, _ => False

theorem Chain.pull {cx : Cx} {ops : Array Oper} {ah : List Nat} {x : Nat × Oper} {B : List (Nat × Oper)} : ∀ {L : List (Nat × Oper)} {st st' : St} {fs : List Foot}, Chain cx ops ah (L ++ x :: B) st fs st' → (∀ y ∈ L, Nat.testBit ((ah[x.1]?).getD 0) y.1 = false) →
    ∃ f st1 fs', stepG cx ops x st = some (f, st1) ∧ Chain cx ops ah (L ++ B) st1 fs' st' ∧ fs' ⊆ fs ∧ f ∈ fs
  | [], st, st', [], h, _ => h.elim
  | [], st, st', f :: fs, ⟨st1, h1, h2, h3⟩, _ => ⟨f, st1, fs, h1, h3, fun _ h => List.mem_cons_of_mem _ h, List.mem_cons_self ..⟩
  | y :: L, st, st', [], h, _ => h.elim
  | y :: L, st, st', fy :: fs, ⟨st1, h1, h2, h3⟩, hb => by
    obtain ⟨f, st2, fs', e1, e2, e3, e4⟩ := Chain.pull h3 fun z hz => hb z (List.mem_cons_of_mem _ hz)
    obtain ⟨_, _, _, _, _, _, iy, _⟩ := stepG_spec h1
    obtain ⟨_, _, _, _, _, _, ix, _⟩ := stepG_spec e1
    have hap : apart fy f = true := by
      rcases h2 f e4 with h | h
      · rw [ix, iy, hb y (List.mem_cons_self ..)] at h
        cases h
      · exact h
    obtain ⟨st1', s1, s2⟩ := swap h1 e1 hap
    exact ⟨f, st1', fy :: fs', s1, ⟨st2, s2, fun f' hf' => h2 f' (e3 hf'), e2⟩, fun z hz => by
      rcases List.mem_cons.1 hz with rfl | hz
      · exact List.mem_cons_self ..
      · exact List.mem_cons_of_mem _ (e3 hz), List.mem_cons_of_mem _ e4⟩

/-- The text's own order. -/
theorem draw_chain {cx : Cx} {ops : Array Oper} {ah : List Nat} : ∀ {l : List Oper} {i : Nat} {fs : List Foot} {st st' : St}, drawRun cx ops ah l i fs st = some st' →
    ∃ gs, Chain cx ops ah (l.zipIdx i |>.map fun p => (p.2, p.1)) st gs st' ∧ ∀ f ∈ gs, ∀ f0 ∈ fs, Nat.testBit ((ah[f.i]?).getD 0) f0.i = true ∨ apart f0 f = true
  | [], i, fs, st, st', h => by
    cases h
    exact ⟨[], rfl, fun f hf => by cases hf⟩
  | o :: l, i, fs, st, st', h => by
    have go : ∀ f st1, stepG cx ops (i, o) st = some (f, st1) → freeFrom ah f fs = true → drawRun cx ops ah l (i + 1) (f :: fs) st1 = some st' →
        ∃ gs, Chain cx ops ah ((i, o) :: (l.zipIdx (i + 1) |>.map fun p => (p.2, p.1))) st gs st' ∧ ∀ f ∈ gs, ∀ f0 ∈ fs, Nat.testBit ((ah[f.i]?).getD 0) f0.i = true ∨ apart f0 f = true := fun f st1 hs hf hd => by
      obtain ⟨gs, hg, hgs⟩ := draw_chain hd
      refine ⟨f :: gs, ⟨st1, hs, fun f' hf' => hgs f' hf' f (List.mem_cons_self ..), hg⟩, fun f' hf' f0 hf0 => ?_⟩
      rcases List.mem_cons.1 hf' with rfl | hf'
      · have := List.all_eq_true.1 hf f0 hf0
        cases ht : Nat.testBit ((ah[f'.i]?).getD 0) f0.i with
        | true => exact .inl rfl
        | false =>
          rw [ht] at this
          exact .inr this
      · exact hgs f' hf' f0 (List.mem_cons_of_mem _ hf0)
    unfold drawRun at h
    split at h
    · cases h
    · rename_i hw
      obtain ⟨hf, h⟩ := cond_some h
      split at h
      · cases h
      · rename_i st1 hs
        exact go _ st1 (by unfold stepG; simp only [hw, hs, Option.map_some]) hf h
    · rename_i hw
      obtain ⟨hf, h⟩ := cond_some h
      exact go _ _ (by unfold stepG; simp only [hw]) hf h
end Go.Rx
namespace Go.Rx
open Go Go.RowKit
set_option linter.unusedVariables false
set_option linter.unusedSimpArgs false

theorem fold_bits (acc : List Nat) (j : Nat) : ∀ (es : List Edge) (s : Nat), Nat.testBit (es.foldl (fun s e => cond (Region.binds .any e) (s ||| 2 ^ e.on ||| (acc[e.on]?).getD 0) s) s) j = true →
    Nat.testBit s j = true ∨ ∃ e ∈ es, Region.binds .any e = true ∧ (j = e.on ∨ Nat.testBit ((acc[e.on]?).getD 0) j = true)
  | [], s, h => .inl h
  | e :: es, s, h => by
    rw [List.foldl_cons] at h
    rcases fold_bits acc j es _ h with h | ⟨e', h1, h2⟩
    · cases hb : Region.binds .any e with
      | false =>
        rw [hb] at h
        exact .inl h
      | true =>
        rw [hb] at h
        simp only [cond_true, Nat.testBit_or, Bool.or_eq_true, Nat.testBit_two_pow, decide_eq_true_eq] at h
        rcases h with (h | h) | h
        · exact .inl h
        · exact .inr ⟨e, List.mem_cons_self .., hb, .inl h.symm⟩
        · exact .inr ⟨e, List.mem_cons_self .., hb, .inr h⟩
    · exact .inr ⟨e', List.mem_cons_of_mem _ h1, h2⟩

theorem ahead_pre : ∀ (l : List Oper) (acc : List Nat) (i : Nat), i < acc.length → ((aheadOf l acc)[i]?).getD 0 = (acc[i]?).getD 0
  | [], acc, i, h => rfl
  | o :: l, acc, i, h => by
    unfold aheadOf
    rw [ahead_pre l _ i (by rw [List.length_append]; omega)]
    rw [List.getElem?_append_left h]

theorem ahead_ok : ∀ (l : List Oper) (acc : List Nat) (k : Nat) (o : Oper) (j : Nat), l[k]? = some o → Nat.testBit (((aheadOf l acc)[acc.length + k]?).getD 0) j = true →
    ∃ e ∈ o.after, Region.binds .any e = true ∧ (j = e.on ∨ Nat.testBit (((aheadOf l acc)[e.on]?).getD 0) j = true)
  | [], acc, k, o, j, hk, _ => by simp at hk
  | o' :: l, acc, 0, o, j, hk, h => by
    cases hk
    unfold aheadOf at h ⊢
    rw [Nat.add_zero, ahead_pre _ _ _ (by rw [List.length_append]; exact Nat.lt_succ_self _)] at h
    simp only [List.getElem?_concat_length, Option.getD_some] at h
    rcases fold_bits acc j _ _ h with h | ⟨e, h1, h2, h3⟩
    · simp at h
    · refine ⟨e, by simpa using h1, h2, h3.imp (fun h => h) fun h => ?_⟩
      have hlt : e.on < acc.length := by
        rcases Nat.lt_or_ge e.on acc.length with hlt | hge
        · exact hlt
        · rw [List.getElem?_eq_none hge] at h
          simp at h
      rw [ahead_pre _ _ _ (by rw [List.length_append]; omega)]
      rw [List.getElem?_append_left hlt]
      exact h
  | o' :: l, acc, k + 1, o, j, hk, h => by
    unfold aheadOf at h ⊢
    refine ahead_ok l _ k o j (by simpa using hk) ?_
    rw [List.length_append]
    have e : acc.length + [o'.after.toList.foldl (fun s e => cond (Region.binds .any e) (s ||| 2 ^ e.on ||| (acc[e.on]?).getD 0) s) 0].length + k = acc.length + (k + 1) := by
      simp only [List.length_singleton]
      omega
    rw [e]
    exact h

/-- Every edge leads back in the text. -/
def edgesB (ops : Array Oper) : Bool := (List.range ops.size).all fun i => match ops[i]? with
  | some o => o.after.all fun e => !Region.binds .any e || decide (e.on < i)
  | none => true
theorem edgesB_ok {ops : Array Oper} (h : edgesB ops = true) {i : Nat} {o : Oper} (hi : ops[i]? = some o) : ∀ e ∈ o.after, Region.binds .any e = true → e.on < i := fun e he hb => by
  have hlt : i < ops.size := (Array.getElem?_eq_some_iff.1 hi).1
  have := List.all_eq_true.1 h i (List.mem_range.2 hlt)
  rw [hi] at this
  have := Array.all_eq_true_iff_forall_mem.1 this e he
  rw [hb] at this
  simpa using this

section
variable {P : Program} {cx : Cx} {n : Nat} {ops : Array Oper} {Q : Exit → Act → World → Prop}

theorem stepG_wp (hcx : CxOk P cx) {x : Nat × Oper} (hi : ops[x.1]? = some x.2) {st st1 : St} {f : Foot} (hs : stepG cx ops x st = some (f, st1)) {g : Nat → Value} {S : Nat → Prop} {a : Act} {w : World} (h : SRel n st g S a w) (hd : ∀ t, x.2.dst = some t → t < n) {K : Act → World → Prop}
    (hK : ∀ a' w' g' S', SRel n st1 g' S' a' w' → Evo st.m g S w st1.m g' S' w' → Kept x.2.dst.toList a a' → K a' w') : wpOp P ops Q x.1 K a w := by
  unfold stepG at hs
  split at hs
  · cases hs
  · rename_i hw
    rw [Option.map_eq_some_iff] at hs
    obtain ⟨st2, hs, he⟩ := hs
    cases he
    exact wpOp_act hcx h hi hw hs hd hK
  · rename_i hw
    cases hs
    exact wpOp_skip h hi hw hd fun h1 => hK _ _ _ _ h1 (Evo.refl _ _ _ _) (Kept.put a _ undef)

theorem ready_some (he : edgesB ops = true) {listed : Array Bool} {L : List (Nat × Oper)} (hL : ∀ x ∈ L, ops[x.1]? = some x.2) (hun : ∀ i, i < ops.size → (listed.getD i true = false ↔ i ∈ L.map fun p => p.1)) (hsz : listed.size = ops.size) :
    ∀ (k : Nat) (x : Nat × Oper), x ∈ L → x.1 = k → ∃ j, j ∈ Region.ready .any ops listed := by
  intro k
  induction k using Nat.strongRecOn with
  | _ k ih =>
    intro x hx hk
    have hget := hL x hx
    have hlt : x.1 < ops.size := (Array.getElem?_eq_some_iff.1 hget).1
    by_cases hall : ∀ e ∈ x.2.after, Region.binds .any e = true → listed.getD e.on false = true
    · exact ⟨x.1, mem_ready.2 ⟨(hun x.1 hlt).2 (List.mem_map.2 ⟨x, hx, rfl⟩), x.2, hget, hall⟩⟩
    · have : ∃ e, e ∈ x.2.after ∧ Region.binds .any e = true ∧ listed.getD e.on false ≠ true := by
        refine Classical.byContradiction fun hn => hall fun e h1 h2 => ?_
        refine Classical.byContradiction fun h3 => hn ⟨e, h1, h2, h3⟩
      obtain ⟨e, h1, h2, h3⟩ := this
      have hon := edgesB_ok he hget e h1 h2
      have hon' : e.on < ops.size := by omega
      have h4 : listed.getD e.on true = false := by
        have hl : e.on < listed.size := by omega
        simp only [Array.getD_eq_getD_getElem?, Array.getElem?_eq_getElem hl, Option.getD_some] at h3 ⊢
        simpa using h3
      obtain ⟨y, hy, hy1⟩ := List.mem_map.1 ((hun e.on hon').1 h4)
      exact ih e.on (by omega) y hy hy1

theorem Kept.again {l : List Nat} {a b c : Act} (h : Kept l a b) (k : Kept l b c) : Kept l a c := fun t ht => (k t ht).trans (h t ht)

theorem any_wp (hcx : CxOk P cx) (he : edgesB ops = true) (D : List Nat) (hD : dstsIn n D) : ∀ (k : Nat) {L : List (Nat × Oper)} {listed : Array Bool} {fs : List Foot} {st st' : St} {g : Nat → Value} {S : Nat → Prop} {a : Act} {w : World}, L.length = k →
    (∀ x ∈ L, ops[x.1]? = some x.2) → (∀ x ∈ L, ∀ t, x.2.dst = some t → t ∈ D) → (L.map fun p => p.1).Nodup → (∀ i, i < ops.size → (listed.getD i true = false ↔ i ∈ L.map fun p => p.1)) → listed.size = ops.size →
    (∀ i, listed.getD i false = true → ∀ j, Nat.testBit (((aheadOf ops.toList [])[i]?).getD 0) j = true → listed.getD j false = true) →
    Chain cx ops (aheadOf ops.toList []) L st fs st' → SRel n st g S a w →
    (∀ a' w' g' S', SRel n st' g' S' a' w' → Evo st.m g S w st'.m g' S' w' → Kept D a a' → Q .normal a' w') → wpAny P .any ops Q k listed a w
  | 0, L, listed, fs, st, st', g, S, a, w, hk, hL, hdst, hnd, hun, hsz, hcl, hch, h, hQ => by
    have : L = [] := List.length_eq_zero_iff.1 hk
    subst this
    cases fs with
    | cons f fs => exact hch.elim
    | nil =>
      have hch : st' = st := hch
      subst hch
      refine ⟨?_, hQ a w g S h (Evo.refl _ _ _ _) (Kept.refl _ _)⟩
      cases hr : Region.ready .any ops listed with
      | nil => rfl
      | cons i r =>
        have hi : i ∈ Region.ready .any ops listed := by rw [hr]; exact List.mem_cons_self ..
        obtain ⟨h1, o, ho, _⟩ := mem_ready.1 hi
        have := (hun i (Array.getElem?_eq_some_iff.1 ho).1).1 h1
        cases this
  | k + 1, L, listed, fs, st, st', g, S, a, w, hk, hL, hdst, hnd, hun, hsz, hcl, hch, h, hQ => by
    refine ⟨fun h0 => ?_, fun i hi => ?_⟩
    · cases L with
      | nil => simp at hk
      | cons x L =>
        obtain ⟨j, hj⟩ := ready_some he hL hun hsz x.1 x (List.mem_cons_self ..) rfl
        rw [h0] at hj
        cases hj
    · obtain ⟨h1, o, ho, hall⟩ := mem_ready.1 hi
      have hlt : i < ops.size := (Array.getElem?_eq_some_iff.1 ho).1
      obtain ⟨x, hx, rfl⟩ := List.mem_map.1 ((hun i hlt).1 h1)
      have hxo : x.2 = o := by
        have := hL x hx
        rw [ho] at this
        exact (Option.some.inj this).symm
      obtain ⟨A, B, rfl⟩ := List.append_of_mem hx
      have hA : ∀ y ∈ A, Nat.testBit (((aheadOf ops.toList [])[x.1]?).getD 0) y.1 = false := fun y hy => by
        cases ht : Nat.testBit (((aheadOf ops.toList [])[x.1]?).getD 0) y.1 with
        | false => rfl
        | true =>
          exfalso
          have hyl : y.1 < ops.size := (Array.getElem?_eq_some_iff.1 (hL y (List.mem_append_left _ hy))).1
          have hyun : listed.getD y.1 true = false := (hun y.1 hyl).2 (List.mem_map.2 ⟨y, List.mem_append_left _ hy, rfl⟩)
          have hlisted : listed.getD y.1 false = true := by
            obtain ⟨e, e1, e2, e3⟩ := ahead_ok ops.toList [] x.1 o y.1 (by simpa using ho) (by simpa using ht)
            rcases e3 with e3 | e3
            · rw [e3]
              exact hall e e1 e2
            · exact hcl e.on (hall e e1 e2) y.1 e3
          have hl : y.1 < listed.size := by omega
          simp only [Array.getD_eq_getD_getElem?, Array.getElem?_eq_getElem hl, Option.getD_some] at hyun hlisted
          rw [hyun] at hlisted
          cases hlisted
      obtain ⟨f, st1, fs', s1, s2, _, _⟩ := Chain.pull hch hA
      refine stepG_wp hcx (hL x hx) s1 h (fun t ht => hD t (hdst x hx t ht)) fun a1 w1 g1 S1 r1 e1 k1 => ?_
      have hnd' : ((A ++ B).map fun p => p.1).Nodup ∧ x.1 ∉ (A ++ B).map fun p => p.1 := by
        rw [List.map_append, List.map_cons, List.perm_middle.nodup_iff] at hnd
        obtain ⟨n1, n2⟩ := List.nodup_cons.1 hnd
        rw [List.map_append]
        exact ⟨n2, n1⟩
      have sub : ∀ y ∈ A ++ B, y ∈ A ++ x :: B := fun y hy => by
        rcases List.mem_append.1 hy with hy | hy
        · exact List.mem_append_left _ hy
        · exact List.mem_append_right _ (List.mem_cons_of_mem _ hy)
      have hxl : x.1 < listed.size := by omega
      refine any_wp hcx he D hD k (L := A ++ B) (st := st1) (by simp at hk ⊢; omega) (fun y hy => hL y (sub y hy)) (fun y hy => hdst y (sub y hy)) hnd'.1 (fun j hj => ?_) (by simpa using hsz) (fun j hj b hb => ?_) s2 r1 fun a2 w2 g2 S2 r2 e2 k2 => hQ a2 w2 g2 S2 r2 (e1.trans e2) ((k1.mono fun t ht => ?_).again k2)
      · by_cases hjx : j = x.1
        · subst hjx
          constructor
          · intro hh
            simp [Array.getD_eq_getD_getElem?, hxl] at hh
          · intro hh
            exact absurd hh hnd'.2
        · rw [getD_set_ne true (Ne.symm hjx), hun j hj]
          simp only [List.map_append, List.map_cons, List.mem_append, List.mem_cons, hjx, false_or]
      · by_cases hjx : j = x.1
        · subst hjx
          obtain ⟨e, q1, q2, q3⟩ := ahead_ok ops.toList [] x.1 o b (by simpa using ho) (by simpa using hb)
          refine getD_set_true ?_
          rcases q3 with q3 | q3
          · rw [q3]
            exact hall e q1 q2
          · exact hcl e.on (hall e q1 q2) b q3
        · rw [getD_set_ne false (Ne.symm hjx)] at hj
          exact getD_set_true (hcl j hj b hb)
      · cases hdx : x.2.dst with
        | none => rw [hdx] at ht; cases ht
        | some d =>
          rw [hdx] at ht
          rw [List.mem_singleton.1 ht]
          exact hdst x hx d hdx

theorem mem_dstsOps {o : Oper} {t : Nat} : ∀ (l : List Oper), o ∈ l → o.dst = some t → t ∈ dstsOps l := by
  intro l
  induction l with
  | nil =>
    intro h _
    cases h
  | cons o' l ih =>
    intro h ht
    show t ∈ o'.dst.toList ++ dstsOps l
    rcases List.mem_cons.1 h with h | h
    · subst h
      refine List.mem_append_left _ ?_
      rw [ht]
      exact List.mem_singleton.2 rfl
    · exact List.mem_append_right _ (ih h ht)

theorem draw_wp (hcx : CxOk P cx) (hm : P.follows .mixedOrders = true) (he : edgesB ops = true) (hd : dstsIn n (dstsOps ops.toList)) {id : Nat} {st st' : St} {g : Nat → Value} {S : Nat → Prop} {a : Act} {w : World} (h : SRel n st g S a w)
    (hr : drawRun cx ops (aheadOf ops.toList []) ops.toList 0 [] st = some st') (hQ : ∀ a' w' g' S', SRel n st' g' S' a' w' → Evo st.m g S w st'.m g' S' w' → Kept (dstsOps ops.toList) a a' → Q .normal a' w') : (Code.region id ops true).wp P Q a w := by
  obtain ⟨gs, hg, _⟩ := draw_chain hr
  have hdr : Evo st.m g S w st.m g S { w with drawn := w.drawn + 1 } := Evo.drawn rfl rfl rfl rfl
  have h' : SRel n st g S a { w with drawn := w.drawn + 1 } := by
    refine ⟨⟨fun id => Or.stay hdr.tr hdr.hold hdr.sub rfl rfl (fun _ _ => rfl) (h.mr.or id), h.mr.disj, h.mr.sdisj, h.mr.slt⟩, h.size, h.defers, fun t => Ac.tr hdr.tr hdr.hold hdr.sub _ _ (h.slot t)⟩
  have hmem : ∀ x ∈ (ops.toList.zipIdx 0 |>.map fun p => (p.2, p.1)), ops[x.1]? = some x.2 := fun x hx => by
    obtain ⟨p, hp, rfl⟩ := List.mem_map.1 hx
    have := List.mem_zipIdx_iff_getElem?.1 hp
    simpa using this
  have hidx : (ops.toList.zipIdx 0 |>.map fun p => (p.2, p.1)).map (fun p => p.1) = List.range ops.size := by
    rw [List.map_map]
    have : ((fun p : Nat × Oper => p.1) ∘ fun p : Oper × Nat => (p.2, p.1)) = Prod.snd := rfl
    rw [this, List.zipIdx_map_snd, List.range_eq_range']
    simp
  refine wp_region_any hm (any_wp hcx he (dstsOps ops.toList) hd ops.size (by simp) hmem (fun x hx t ht => ?_) (by rw [hidx]; exact List.nodup_range) (fun i hi => ?_) (by simp) (fun i hi j hj => ?_) hg h' fun a' w' g' S' r e k => hQ a' w' g' S' r (hdr.trans e) k)
  · have := hmem x hx
    exact mem_dstsOps _ (by have := Array.mem_of_getElem? this; simpa using this) ht
  · rw [hidx]
    simp [Array.getD_eq_getD_getElem?, hi]
  · exfalso
    simp only [Array.getD_eq_getD_getElem?, Array.getElem?_replicate] at hi
    split at hi <;> simp at hi
end
end Go.Rx

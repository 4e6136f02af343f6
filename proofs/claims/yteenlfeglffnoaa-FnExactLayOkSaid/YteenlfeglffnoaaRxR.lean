/-
  ENGINE, part R: what a plan hangs on; steps that touch nothing in common may change places.
  Seat-independent.
-/
import Derived.Test.YteenlfeglffnoaaRxQ
namespace Go.Rx
open Go Go.RowKit
set_option linter.unusedVariables false
set_option linter.unusedSimpArgs false

theorem partsC_congr {ev ev' : Operand → A} : ∀ {l : List (Nat × Operand)}, (∀ x ∈ l.map (fun p => p.2), ev' x = ev x) → partsC ev' l = partsC ev l
  | [], _ => rfl
  | (i, x) :: l, h => by
    unfold partsC
    rw [h x (List.mem_cons_self ..), partsC_congr (l := l) fun y hy => h y (List.mem_cons_of_mem _ hy)]
theorem capsOf_congr {ev ev' : Operand → A} : ∀ {l : List Operand}, (∀ x ∈ l, ev' x = ev x) → capsOf ev' l = capsOf ev l
  | [], _ => rfl
  | x :: l, h => by
    unfold capsOf
    rw [h x (List.mem_cons_self ..), capsOf_congr (l := l) fun y hy => h y (List.mem_cons_of_mem _ hy)]

/-! ### the numbers that a call touches hang on the variables alone that it is handed -/
theorem boxIds_stable {m m' : Mem} {ks : List CK} {id : Nat} (h : ∀ i ∈ (boxIds m ks id).ids, m' i = m i) : boxIds m' ks id = boxIds m ks id := by
  have hid : m' id = m id := by
    refine h id ?_
    unfold boxIds
    split
    · exact List.mem_cons_self ..
    · exact List.mem_singleton.2 rfl
  unfold boxIds
  rw [hid]
theorem boxesIds_stable {m m' : Mem} : ∀ {bs : List (List CK)} {caps : List (Nat × Nat × Nat)}, (∀ i ∈ (boxesIds m bs caps).ids, m' i = m i) → boxesIds m' bs caps = boxesIds m bs caps
  | [], [], _ => rfl
  | [], _ :: _, _ => rfl
  | _ :: _, [], _ => rfl
  | ks :: bs, c :: caps, h => by
    have e : (boxesIds m (ks :: bs) (c :: caps)).ids = (boxIds m ks c.1).ids ++ (boxesIds m bs caps).ids := List.map_append ..
    rw [e] at h
    show (boxIds m' ks c.1).add (boxesIds m' bs caps) = (boxIds m ks c.1).add (boxesIds m bs caps)
    rw [boxIds_stable fun i hi => h i (List.mem_append_left _ hi), boxesIds_stable fun i hi => h i (List.mem_append_right _ hi)]
theorem argIds_stable {m m' : Mem} {p : PK} {x : A} (h : ∀ i ∈ (argIds m p x).ids, m' i = m i) : argIds m' p x = argIds m p x := by
  unfold argIds at h ⊢
  split
  · rfl
  · rfl
  · exact boxIds_stable h
  · exact boxesIds_stable h
  · rfl
  · rfl
  · rfl
theorem argsIds_stable {m m' : Mem} : ∀ {ps : List PK} {xs : List A}, (∀ i ∈ (argsIds m ps xs).ids, m' i = m i) → argsIds m' ps xs = argsIds m ps xs
  | [], [], _ => rfl
  | [], _ :: _, _ => rfl
  | _ :: _, [], _ => rfl
  | p :: ps, x :: xs, h => by
    have e : (argsIds m (p :: ps) (x :: xs)).ids = (argIds m p x).ids ++ (argsIds m ps xs).ids := List.map_append ..
    rw [e] at h
    show (argIds m' p x).add (argsIds m' ps xs) = (argIds m p x).add (argsIds m ps xs)
    rw [argIds_stable fun i hi => h i (List.mem_append_left _ hi), argsIds_stable fun i hi => h i (List.mem_append_right _ hi)]

theorem callP_stable {sp : Spec} {bid : Nat} {xs : List A} {m m' : Mem} {p : Plan} (hp : callP sp bid xs m = some p) (h : ∀ id ∈ p.rd ++ p.wr, m' id = m id) : callP sp bid xs m' = some p := by
  have hp0 := hp
  obtain ⟨hok, hp⟩ := cond_some hp
  cases hp
  have e : argsIds m' sp.ins xs = argsIds m sp.ins xs := argsIds_stable fun i hi => h i (List.mem_append_right _ (List.mem_append_right _ (List.mem_append_left _ hi)))
  unfold callP at hp0 ⊢
  rw [e]
  exact hp0

theorem plan_stable {T : Tab} {Φ : Nat → List Spec} {mv : Nat → Bool} {bid : Nat} {m m' : Mem} {o : Oper} {ev ev' : Operand → A} {p : Plan} (hp : opPlan T Φ mv bid m o ev = some p) (he : ∀ x ∈ o.op.operands, ev' x = ev x)
    (h : ∀ id ∈ p.rd ++ p.wr, m' id = m id) : opPlan T Φ mv bid m' o ev' = some p := by
  obtain ⟨dst, op, type, pos, after, guard⟩ := o
  cases op
  case call c =>
    have hargs : c.args.toList.map ev' = c.args.toList.map ev := List.map_congr_left fun x hx => he x (by simp only [Op.operands, Call.operands]; exact Array.mem_append.2 (.inr (by simpa using hx)))
    have harg : ∀ x ∈ c.args.toList, ev' x = ev x := fun x hx => he x (by simp only [Op.operands, Call.operands]; exact Array.mem_append.2 (.inr (by simpa using hx)))
    obtain ⟨callee, args, argTypes⟩ := c
    cases callee with
    | builtin b =>
      cases b with
      | len =>
        simp only [opPlan] at hp ⊢
        split at hp
        · rename_i x t hx ht
          rw [harg x (by rw [hx]; exact List.mem_singleton.2 rfl)]
          exact hp
        · cases hp
      | append =>
        simp only [opPlan] at hp ⊢
        split at hp
        · rename_i x y t t' hx ht
          rw [harg x (by rw [hx]; exact List.mem_cons_self ..), harg y (by rw [hx]; exact List.mem_cons_of_mem _ (List.mem_singleton.2 rfl))]
          exact hp
        · cases hp
      | max =>
        simp only [opPlan] at hp ⊢
        split at hp
        · rename_i x y hx
          rw [harg x (by rw [hx]; exact List.mem_cons_self ..), harg y (by rw [hx]; exact List.mem_cons_of_mem _ (List.mem_singleton.2 rfl))]
          exact hp
        · cases hp
      | min =>
        simp only [opPlan] at hp ⊢
        split at hp
        · rename_i x y hx
          rw [harg x (by rw [hx]; exact List.mem_cons_self ..), harg y (by rw [hx]; exact List.mem_cons_of_mem _ (List.mem_singleton.2 rfl))]
          exact hp
        · cases hp
      | _ => cases hp
    | value x =>
      simp only [opPlan] at hp ⊢
      rw [he x (by simp [Op.operands, Call.operands]), hargs]
      split at hp
      · rename_i f caps hf
        split at hp
        · rename_i sp hsp
          show (match pickSp (Φ f) (List.map ev args.toList ++ List.map capA caps) with
            | some sp => callP sp bid (List.map ev args.toList ++ List.map capA caps) m'
            | none => none) = some p
          rw [hsp]
          exact callP_stable hp h
        · cases hp
      · cases hp
    | _ => cases hp
  case build t ps =>
    simp only [opPlan] at hp ⊢
    rw [partsC_congr fun x hx => he x (by simpa [Op.operands] using hx)]
    exact hp
  case buildSlice t n ps =>
    simp only [opPlan] at hp ⊢
    rw [partsC_congr fun x hx => he x (by simpa [Op.operands] using hx)]
    exact hp
  case makeFunc fn first caps =>
    cases fn <;> simp only [opPlan] at hp ⊢ <;> try (cases hp; done)
    rw [capsOf_congr fun x hx => he x (by simp only [Op.operands]; exact Array.mem_append.2 (.inr (by simpa using hx)))]
    exact hp
  case slice t x lo hi mx =>
    cases mx with
    | some z => cases hp
    | none =>
      simp only [opPlan] at hp ⊢
      have e0 : ev' x = ev x := he x (by simp [Op.operands])
      have e1 : lo.map ev' = lo.map ev := by
        cases lo with
        | none => rfl
        | some y => exact congrArg some (he y (by simp [Op.operands]))
      have e2 : hi.map ev' = hi.map ev := by
        cases hi with
        | none => rfl
        | some y => exact congrArg some (he y (by simp [Op.operands]))
      rw [e0, e1, e2]
      exact hp
  case unOp op t x =>
    have e0 : ev' x = ev x := he x (by simp [Op.operands])
    cases op <;> simp only [opPlan] at hp ⊢ <;> first | (rw [e0]; exact hp) | (cases hp; done)
  all_goals simp only [Op.operands] at he
  all_goals first
    | (simp only [opPlan] at hp; cases hp; done)
    | (simp only [opPlan] at hp ⊢; exact hp)
    | (rename_i x; have e0 := he x (by simp); simp only [opPlan] at hp ⊢; rw [e0]; exact hp)
    | (rename_i x _; have e0 := he x (by simp); simp only [opPlan] at hp ⊢; rw [e0]; exact hp)
    | (rename_i x y; have e0 := he x (by simp); have e1 := he y (by simp); simp only [opPlan] at hp ⊢; rw [e0, e1]; exact hp)
    | (rename_i x y z; have e0 := he x (by simp); have e1 := he y (by simp); have e2 := he z (by simp); simp only [opPlan] at hp ⊢; rw [e0, e1, e2]; exact hp)
    | (rename_i x y z; have e0 := he x (by simp); have e1 := he y (by simp); simp only [opPlan] at hp ⊢; rw [e0, e1]; exact hp)

/-! ### steps -/
def stepG (cx : Cx) (ops : Array Oper) (x : Nat × Oper) (st : St) : Option (Foot × St) :=
  match wants ops x.2 st.sl with
  | none => none
  | some true => (stepOp cx st.m x.2 st).map fun st' => (footOf cx ops x.1 x.2 st, st')
  | some false => some (foot0 ops x.1 x.2, ⟨setDst st.sl x.2.dst (.tup []), st.m⟩)

theorem mem_opTmps : ∀ {l : List Operand} {t : Tmp}, Operand.tmp t ∈ l → t ∈ opTmps l
  | [], _, h => by cases h
  | .tmp s :: l, t, h => by
    rcases List.mem_cons.1 h with e | e
    · cases e
      exact List.mem_cons_self ..
    · exact List.mem_cons_of_mem _ (mem_opTmps e)
  | .const v :: l, t, h => by
    rcases List.mem_cons.1 h with e | e
    · cases e
    · exact mem_opTmps (l := l) e
  | .global v :: l, t, h => by
    rcases List.mem_cons.1 h with e | e
    · cases e
    · exact mem_opTmps (l := l) e
  | .func v :: l, t, h => by
    rcases List.mem_cons.1 h with e | e
    · cases e
    · exact mem_opTmps (l := l) e

theorem wants_stable {ops : Array Oper} {o : Oper} {sl sl' : Nat → A} (h : ∀ t ∈ looksOf ops o, sl' t = sl t) : wants ops o sl' = wants ops o sl := by
  unfold wants
  cases hg : o.guard with
  | none => rfl
  | some gw =>
    obtain ⟨gi, want⟩ := gw
    simp only
    cases hs : guardSlot ops gi with
    | none => rfl
    | some s =>
      simp only
      rw [h s (by
        unfold looksOf
        rw [hg]
        simp only [hs]
        exact List.mem_append_right _ (List.mem_singleton.2 rfl))]
theorem evO_stable {ops : Array Oper} {o : Oper} {sl sl' : Nat → A} (h : ∀ t ∈ looksOf ops o, sl' t = sl t) : ∀ x ∈ o.op.operands, evO sl' x = evO sl x := fun x hx => by
  cases x with
  | tmp t => exact h t (List.mem_append_left _ (mem_opTmps (by simpa using hx)))
  | _ => rfl

/-- What a step does, and on what it hangs. -/
theorem stepG_spec {cx : Cx} {ops : Array Oper} {x : Nat × Oper} {st st1 : St} {f : Foot} (h : stepG cx ops x st = some (f, st1)) : ∃ v ws, st1 = ⟨setDst st.sl x.2.dst v, updL st.m ws⟩ ∧ (∀ q ∈ ws, q.1 ∈ f.wr) ∧ f.dst = x.2.dst ∧ f.looks = looksOf ops x.2 ∧ f.i = x.1 ∧
    ∀ (sl' : Nat → A) (m' : Mem), (∀ t ∈ looksOf ops x.2, sl' t = st.sl t) → (∀ id ∈ f.rd ++ f.wr, m' id = st.m id) → stepG cx ops x ⟨sl', m'⟩ = some (f, ⟨setDst sl' x.2.dst v, updL m' ws⟩) := by
  unfold stepG at h
  split at h
  · cases h
  · rename_i hw
    rw [Option.map_eq_some_iff] at h
    obtain ⟨st2, hs, he⟩ := h
    cases he
    unfold stepOp stepP at hs
    split at hs
    · cases hs
    · rename_i p hp
      split at hs
      · cases hs
      · rename_i r hr
        split at hs
        · rename_i hc
          obtain ⟨hws, hs⟩ := cond_some hs
          cases hs
          have hf : footOf cx ops x.1 x.2 st = ⟨x.1, x.2.dst, looksOf ops x.2, p.rd, p.wr⟩ := by
            unfold footOf
            rw [hp]
          rw [hf]
          refine ⟨r.v, r.ws, rfl, fun q hq => ?_, rfl, rfl, rfl, fun sl' m' hsl hm' => ?_⟩
          · exact inL_iff.1 (List.all_eq_true.1 hws q hq)
          · have hp' : planOf cx m' x.2 sl' = some p := plan_stable hp (evO_stable hsl) hm'
            have hre : restr (p.rd ++ p.wr) m' = restr (p.rd ++ p.wr) st.m := by
              funext id
              unfold restr
              cases hi : inL id (p.rd ++ p.wr) with
              | false => rfl
              | true => exact hm' id (inL_iff.1 hi)
            have hf' : footOf cx ops x.1 x.2 ⟨sl', m'⟩ = ⟨x.1, x.2.dst, looksOf ops x.2, p.rd, p.wr⟩ := by
              unfold footOf
              simp only [hp']
            have hstep : stepOp cx m' x.2 ⟨sl', m'⟩ = some ⟨setDst sl' x.2.dst r.v, updL m' r.ws⟩ := by
              unfold stepOp stepP
              simp only [hp', hre, hr, hc, hws, if_true, cond_true]
            unfold stepG
            rw [wants_stable hsl, hw]
            simp only [hstep, hf', Option.map_some]
        · cases hs
  · rename_i hw
    cases h
    refine ⟨.tup [], [], rfl, ⟨fun q hq => by simp at hq, rfl, rfl, rfl, fun sl' m' hsl hm' => ?_⟩⟩
    unfold stepG
    rw [wants_stable hsl, hw]
    rfl

theorem disjL_ok {a b : List Nat} (h : disjL a b = true) : ∀ x ∈ a, x ∉ b := fun x hx hb => by
  have := List.all_eq_true.1 h x hx
  rw [inL_iff.2 hb] at this
  cases this
theorem setDst_ne {sl : Nat → A} {d : Option Tmp} {v : A} {l : List Tmp} (h : optIn d l = false) {t : Nat} (ht : t ∈ l) : setDst sl d v t = sl t := by
  cases d with
  | none => rfl
  | some d =>
    refine upd_ne _ _ fun e => ?_
    have : inL d l = true := inL_iff.2 (e ▸ ht)
    have h' : inL d l = false := h
    rw [this] at h'
    cases h'
theorem upd_comm {α : Type} (f : Nat → α) {i j : Nat} (u v : α) (h : i ≠ j) : upd (upd f i u) j v = upd (upd f j v) i u := by
  funext k
  by_cases hi : k = i
  · subst hi
    rw [upd_ne _ _ h, upd_same, upd_same]
  · rw [upd_ne _ _ hi]
    by_cases hj : k = j
    · subst hj
      rw [upd_same, upd_same]
    · rw [upd_ne _ _ hj, upd_ne _ _ hj, upd_ne _ _ hi]
theorem setDst_comm (sl : Nat → A) {d e : Option Tmp} (u v : A) (h : sameDst d e = false) : setDst (setDst sl d u) e v = setDst (setDst sl e v) d u := by
  cases d with
  | none => rfl
  | some d => cases e with
    | none => rfl
    | some e =>
      refine upd_comm sl u v fun he => ?_
      have h' : Nat.beq d e = false := h
      rw [he, beq_self] at h'
      cases h'
theorem updL_get (m : Mem) : ∀ (l : List (Nat × Ob)), ∃ q : Nat → Option Ob, ∀ (m : Mem) j, updL m l j = (q j).getD (m j) ∧ ((q j).isSome = true → j ∈ l.map fun p => p.1)
  | [] => ⟨fun _ => none, fun m j => ⟨rfl, fun h => by cases h⟩⟩
  | p :: l => by
    obtain ⟨q, hq⟩ := updL_get m l
    refine ⟨fun j => cond (Nat.beq j p.1) (some p.2) (q j), fun m j => ?_⟩
    dsimp only
    by_cases h : j = p.1
    · subst h
      rw [beq_self]
      exact ⟨upd_same _ _ _, fun _ => List.mem_cons_self ..⟩
    · have hb : Nat.beq j p.1 = false := by
        rw [Bool.eq_false_iff]
        exact fun e => h (Nat.eq_of_beq_eq_true e)
      rw [hb]
      exact ⟨(upd_ne _ _ h).trans (hq m j).1, fun hs => List.mem_cons_of_mem _ ((hq m j).2 hs)⟩
theorem updL_comm (m : Mem) {a b : List (Nat × Ob)} (h : ∀ p ∈ a, ∀ q ∈ b, p.1 ≠ q.1) : updL (updL m a) b = updL (updL m b) a := by
  obtain ⟨qa, ha⟩ := updL_get m a
  obtain ⟨qb, hb⟩ := updL_get m b
  funext j
  rw [(hb _ j).1, (ha _ j).1, (ha _ j).1, (hb _ j).1]
  cases h1 : qa j with
  | none => rfl
  | some u => cases h2 : qb j with
    | none => rfl
    | some v =>
      exfalso
      obtain ⟨p, hp, ep⟩ := List.mem_map.1 ((ha m j).2 (by rw [h1]; rfl))
      obtain ⟨q, hq, eq⟩ := List.mem_map.1 ((hb m j).2 (by rw [h2]; rfl))
      exact h p hp q hq (ep.trans eq.symm)
theorem not_of {b : Bool} (h : (!b) = true) : b = false := by
  cases b with
  | false => rfl
  | true => cases h

/-- Two steps that touch nothing in common change places. -/
theorem swap {cx : Cx} {ops : Array Oper} {y x : Nat × Oper} {st st1 st2 : St} {fy fx : Foot} (hy : stepG cx ops y st = some (fy, st1)) (hx : stepG cx ops x st1 = some (fx, st2)) (hap : apart fy fx = true) :
    ∃ st1', stepG cx ops x st = some (fx, st1') ∧ stepG cx ops y st1' = some (fy, st2) := by
  obtain ⟨vy, wy, rfl, ky, dy, ly, _, sy⟩ := stepG_spec hy
  obtain ⟨vx, wx, rfl, kx, dx, lx, _, sx⟩ := stepG_spec hx
  obtain ⟨a1, hap⟩ := and_true hap
  obtain ⟨a2, hap⟩ := and_true hap
  obtain ⟨a3, hap⟩ := and_true hap
  obtain ⟨a4, hap⟩ := and_true hap
  obtain ⟨a5, a6⟩ := and_true hap
  rw [dy, lx] at a1
  rw [dx, ly] at a2
  rw [dy, dx] at a3
  have b4 := disjL_ok a4
  have b5 := disjL_ok a5
  have b6 := disjL_ok a6
  have keys : ∀ p ∈ wy, ∀ q ∈ wx, p.1 ≠ q.1 := fun p hp q hq e => b5 p.1 (ky p hp) (e ▸ kx q hq)
  refine ⟨⟨setDst st.sl x.2.dst vx, updL st.m wx⟩, sx st.sl st.m (fun t ht => (setDst_ne (not_of a1) ht).symm) (fun id hid => ?_), ?_⟩
  · refine (updL_out fun p hp e => ?_).symm
    rcases List.mem_append.1 hid with h | h
    · exact b4 p.1 (ky p hp) (e ▸ h)
    · exact b5 p.1 (ky p hp) (e ▸ h)
  · have := sy (setDst st.sl x.2.dst vx) (updL st.m wx) (fun t ht => setDst_ne (not_of a2) ht) (fun id hid => ?_)
    · rw [this]
      rw [setDst_comm st.sl vy vx (not_of a3), updL_comm st.m keys]
    · refine updL_out fun p hp e => ?_
      rcases List.mem_append.1 hid with h | h
      · exact b6 id h (e ▸ kx p hp)
      · exact b5 id h (e ▸ kx p hp)

/-- A run through a list of steps, each with what it touches; what stands later and does not hang on it is apart from it. -/
def Chain (cx : Cx) (ops : Array Oper) (ah : List Nat) : List (Nat × Oper) → St → List Foot → St → Prop
  | [], st, [], st' => st' = st
  | x :: r, st, f :: fs, st' => ∃ st1, stepG cx ops x st = some (f, st1) ∧ (∀ f' ∈ fs, Nat.testBit ((ah[f'.i]?).getD 0) f.i = true ∨ apart f f' = true) ∧ Chain cx ops ah r st1 fs st'
  | _, _, _, _ => False

theorem Chain.pull {cx : Cx} {ops : Array Oper} {ah : List Nat} {x : Nat × Oper} {B : List (Nat × Oper)} : ∀ {L : List (Nat × Oper)} {st st' : St} {fs : List Foot}, Chain cx ops ah (L ++ x :: B) st fs st' → (∀ y ∈ L, Nat.testBit ((ah[x.1]?).getD 0) y.1 = false) →
    ∃ f st1 fs', stepG cx ops x st = some (f, st1) ∧ Chain cx ops ah (L ++ B) st1 fs' st' ∧ fs' ⊆ fs ∧ f ∈ fs
  | [], st, st', [], h, _ => h.elim
  | [], st, st', f :: fs, ⟨st1, h1, h2, h3⟩, _ => ⟨f, st1, fs, h1, h3, fun _ h => List.mem_cons_of_mem _ h, List.mem_cons_self ..⟩
  | y :: L, st, st', [], h, _ => h.elim
  | y :: L, st, st', fy :: fs, ⟨st1, h1, h2, h3⟩, hb => by
    obtain ⟨f, st2, fs', e1, e2, e3, e4⟩ := Chain.pull h3 fun z hz => hb z (List.mem_cons_of_mem _ hz)
    obtain ⟨_, _, _, _, _, _, iy, _⟩ := stepG_spec h1
    obtain ⟨_, _, _, _, _, _, ix, _⟩ := stepG_spec e1
    have hap : apart fy f = true := by
      rcases h2 f e4 with h | h
      · rw [ix, iy, hb y (List.mem_cons_self ..)] at h
        cases h
      · exact h
    obtain ⟨st1', s1, s2⟩ := swap h1 e1 hap
    exact ⟨f, st1', fy :: fs', s1, ⟨st2, s2, fun f' hf' => h2 f' (e3 hf'), e2⟩, fun z hz => by
      rcases List.mem_cons.1 hz with rfl | hz
      · exact List.mem_cons_self ..
      · exact List.mem_cons_of_mem _ (e3 hz), List.mem_cons_of_mem _ e4⟩

/-- The text's own order. -/
theorem draw_chain {cx : Cx} {ops : Array Oper} {ah : List Nat} : ∀ {l : List Oper} {i : Nat} {fs : List Foot} {st st' : St}, drawRun cx ops ah l i fs st = some st' →
    ∃ gs, Chain cx ops ah (l.zipIdx i |>.map fun p => (p.2, p.1)) st gs st' ∧ ∀ f ∈ gs, ∀ f0 ∈ fs, Nat.testBit ((ah[f.i]?).getD 0) f0.i = true ∨ apart f0 f = true
  | [], i, fs, st, st', h => by
    cases h
    exact ⟨[], rfl, fun f hf => by cases hf⟩
  | o :: l, i, fs, st, st', h => by
    have go : ∀ f st1, stepG cx ops (i, o) st = some (f, st1) → freeFrom ah f fs = true → drawRun cx ops ah l (i + 1) (f :: fs) st1 = some st' →
        ∃ gs, Chain cx ops ah ((i, o) :: (l.zipIdx (i + 1) |>.map fun p => (p.2, p.1))) st gs st' ∧ ∀ f ∈ gs, ∀ f0 ∈ fs, Nat.testBit ((ah[f.i]?).getD 0) f0.i = true ∨ apart f0 f = true := fun f st1 hs hf hd => by
      obtain ⟨gs, hg, hgs⟩ := draw_chain hd
      refine ⟨f :: gs, ⟨st1, hs, fun f' hf' => hgs f' hf' f (List.mem_cons_self ..), hg⟩, fun f' hf' f0 hf0 => ?_⟩
      rcases List.mem_cons.1 hf' with rfl | hf'
      · have := List.all_eq_true.1 hf f0 hf0
        cases ht : Nat.testBit ((ah[f'.i]?).getD 0) f0.i with
        | true => exact .inl rfl
        | false =>
          rw [ht] at this
          exact .inr this
      · exact hgs f' hf' f0 (List.mem_cons_of_mem _ hf0)
    unfold drawRun at h
    split at h
    · cases h
    · rename_i hw
      obtain ⟨hf, h⟩ := cond_some h
      split at h
      · cases h
      · rename_i st1 hs
        exact go _ st1 (by unfold stepG; simp only [hw, hs, Option.map_some]) hf h
    · rename_i hw
      obtain ⟨hf, h⟩ := cond_some h
      exact go _ _ (by unfold stepG; simp only [hw]) hf h
end Go.Rx

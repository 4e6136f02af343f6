/-
  ENGINE, part W: functions keep their contracts.
  Seat-independent.
-/
import Derived.Test.YtoagkidolpcigaaRxS
namespace Go.Rx
open Go Go.RowKit
set_option linter.unusedVariables false
set_option linter.unusedSimpArgs false

def exitOf : Out → Exit
  | .norm => .normal
  | .exit id => .exit id
  | .ret => .ret

def allLt (n : Nat) (l : List Nat) : Bool := l.all fun t => decide (t < n)
/-- Code whose slots are there, whose edges lead back. -/
def codeB (n : Nat) : Code → Bool
  | .region _ ops draw => Bool.and (allLt n (dstsOps ops.toList)) (cond draw (edgesB ops) true)
  | .seq a b => Bool.and (codeB n a) (codeB n b)
  | .cond _ a b => Bool.and (codeB n a) (codeB n b)
  | .block _ c => codeB n c
  | .loop c => codeB n c
  | _ => true
theorem allLt_ok {n : Nat} {l : List Nat} (h : allLt n l = true) : dstsIn n l := fun t ht => by
  have := List.all_eq_true.1 h t ht
  simpa using this

/-- The loops that are met first. -/
def loopsOf : Code → List (Nat × Code)
  | .seq a b => loopsOf a ++ loopsOf b
  | .cond _ a b => loopsOf a ++ loopsOf b
  | .block id (.loop c) => [(id, c)]
  | .block _ c => loopsOf c
  | _ => []

/-- What it is for a loop to keep its contract. -/
def LpOk (P : Program) (n : Nat) (id : Nat) (c : Code) (ls : LSpec) : Prop :=
  ∀ x, ls.pre x = true → ∀ (w : World) (S : Nat → Prop) (a : Act) (B : List Nat), a.tmps.size = n → a.defers = [] → partsV w S ls.ins x (ls.live.map fun t => a.tmps.getD t undef) B → Given S w B →
    ∀ Q : Exit → Act → World → Prop, (∀ a' w' S' B1 B2, Told ls.sp x w S (ls.live.map fun t => a.tmps.getD t undef) B (.tuple (ls.outs.map fun t => a'.tmps.getD t undef).toArray) w' S' B1 B2 → a'.tmps.size = n → a'.defers = [] → Kept (dsts c) a a' →
      Q (exitOf (flagOut (ls.g x).1.1)) a' w') → (Code.block id (.loop c)).wp P Q a w
def LpsOk (P : Program) (cx : Cx) (c : Code) : Prop := ∀ q ∈ loopsOf c, ∀ ls, cx.lp q.1 = some ls → LpOk P cx.ntmps q.1 q.2 ls

section
variable {P : Program} {cx : Cx}

theorem callP_cs {sp : Spec} {bid : Nat} {xs : List A} {m M : Mem} {p : Plan} (hp : callP sp bid xs m = some p) {r : Res} (hr : p.go M = some r) {x : PKs.den sp.ins} (hx : argsIn M sp.ins xs = some x) : r.cs = [sp.pre x] := by
  obtain ⟨_, hp⟩ := cond_some hp
  cases hp
  obtain ⟨_, hr⟩ := cond_some (show cond _ _ none = some r from hr)
  rw [hx] at hr
  cases hr
  rfl

theorem All2.map_left {α β γ : Type} {R : γ → β → Prop} {f : α → γ} {k : α → β} : ∀ (l : List α), (∀ t ∈ l, R (f t) (k t)) → All2 R (l.map f) (l.map k)
  | [], _ => trivial
  | t :: l, h => ⟨h t (List.mem_cons_self ..), All2.map_left l fun s hs => h s (List.mem_cons_of_mem _ hs)⟩

theorem setOuts_ok {m : Mem} {g : Nat → Value} {S : Nat → Prop} {w : World} {sl : Nat → A} {k : Nat → Value} (t : Nat) (h : Ac m g S w (sl t) (k t)) : ∀ (l : List Nat) (vs : List V), All2 (Vc m g S w) vs (l.map k) → Ac m g S w (setOuts sl l vs t) (k t)
  | [], [], _ => h
  | [], _ :: _, hv => hv.elim
  | s :: l, [], hv => hv.elim
  | s :: l, v :: vs, hv => by
    show Ac m g S w (upd (setOuts sl l vs) s (.v v) t) (k t)
    by_cases hs : t = s
    · subst hs
      rw [upd_same]
      exact hv.1
    · rw [upd_ne _ _ hs]
      exact setOuts_ok t h l vs hv.2

theorem loop_wp {id : Nat} {c : Code} {ls : LSpec} (hlp : LpOk P cx.ntmps id c ls) {st : St} {r : LRun} (hr : lpStep cx id c ls st = some r) (hpre : r.pre = true) {g : Nat → Value} {S : Nat → Prop} {a : Act} {w : World} (h : SRel cx.ntmps st g S a w)
    {Q : Exit → Act → World → Prop} (hQ : ∀ a' w' g' S', SRel cx.ntmps r.st g' S' a' w' → Evo st.m g S w r.st.m g' S' w' → Kept (dsts c) a a' → Q (exitOf (flagOut r.flag)) a' w') : (Code.block id (.loop c)).wp P Q a w := by
  unfold lpStep at hr
  simp only at hr
  split at hr
  · cases hr
  · rename_i p hp
    split at hr
    · rename_i r0 x hr0 hx
      obtain ⟨hws, hr⟩ := cond_some hr
      split at hr
      · rename_i vs hvs
        cases hr
        have hcs := callP_cs hp hr0 hx
        have hargs : All2 (Ac st.m g S w) (ls.live.map st.sl) (ls.live.map fun t => a.tmps.getD t undef) := All2.map_left _ fun t _ => h.slot t
        obtain ⟨x', B, Sc, _, hx', _, hparts, hgiv, hpost⟩ := told_post h.mr hargs hp hr0 (by
          rw [hcs]
          have : ls.sp.pre x = true := hpre
          simp [this])
        have hx' : argsIn (restr (p.rd ++ p.wr) st.m) ls.ins (ls.live.map st.sl) = some x' := hx'
        rw [hx] at hx'
        cases hx'
        refine hlp x hpre w Sc a B h.size h.defers hparts hgiv Q fun a' w' S' B1 B2 T hsz hdf hkept => ?_
        obtain ⟨g', S2, hm', he', hv'⟩ := hpost w' _ S' B1 B2 T
        rw [hvs] at hv'
        obtain ⟨us, hus, hv'⟩ := hv'
        have hus : us = ls.outs.map fun t => a'.tmps.getD t undef := by
          have : us.toArray = (ls.outs.map fun t => a'.tmps.getD t undef).toArray := by injection hus.symm
          simpa using this
        subst hus
        refine hQ a' w' g' S2 ⟨hm', hsz, hdf, fun t => ?_⟩ he' hkept
        refine setOuts_ok (k := fun t => a'.tmps.getD t undef) t ?_ ls.outs vs hv'
        show Ac _ g' S2 w' (cond (inL t (dsts c)) (A.c .any) (st.sl t)) _
        cases hin : inL t (dsts c) with
        | true => trivial
        | false =>
          have hk := hkept t (fun e => by rw [inL_iff.2 e] at hin; cases hin)
          rw [hk]
          exact Ac.tr he'.tr he'.hold he'.sub _ _ (h.slot t)
      · cases hr
    · cases hr

theorem run_wp (hcx : CxOk P cx) (hmix : P.follows .mixedOrders = true) : ∀ (c : Code) {st st' : St} {o : Out}, codeB cx.ntmps c = true → LpsOk P cx c → run cx c st = some (o, st') → ∀ {g : Nat → Value} {S : Nat → Prop} {a : Act} {w : World}, SRel cx.ntmps st g S a w →
    ∀ {Q : Exit → Act → World → Prop}, (∀ a' w' g' S', SRel cx.ntmps st' g' S' a' w' → Evo st.m g S w st'.m g' S' w' → Kept (dsts c) a a' → Q (exitOf o) a' w') → c.wp P Q a w
  | .skip, st, st', o, _, _, hr, g, S, a, w, h, Q, hQ => by
    cases hr
    exact wp_skip (hQ a w g S h (Evo.refl _ _ _ _) (Kept.refl _ _))
  | .exit id, st, st', o, _, _, hr, g, S, a, w, h, Q, hQ => by
    cases hr
    exact wp_exit (hQ a w g S h (Evo.refl _ _ _ _) (Kept.refl _ _))
  | .ret, st, st', o, _, _, hr, g, S, a, w, h, Q, hQ => by
    cases hr
    exact wp_ret (hQ a w g S h (Evo.refl _ _ _ _) (Kept.refl _ _))
  | .region id ops draw, st, st', o, hb, hl, hr, g, S, a, w, h, Q, hQ => by
    obtain ⟨hb1, hb2⟩ := and_true (show Bool.and (allLt cx.ntmps (dstsOps ops.toList)) (cond draw (edgesB ops) true) = true from hb)
    have hd := allLt_ok hb1
    unfold run at hr
    split at hr
    · rename_i st1 hs
      cases hr
      cases draw with
      | true => exact draw_wp hcx hmix hb2 hd h hs hQ
      | false =>
        refine wp_region ?_
        rw [List.range_eq_range']
        refine ops_wp (st' := st') hcx ops.size 0 (by omega) h ?_ ?_ ?_
        · simpa using hs
        · simpa using hd
        · exact fun a' w' g' S' h1 h2 h3 => hQ a' w' g' S' h1 h2 h3
    · cases hr
  | .seq c1 c2, st, st', o, hb, hl, hr, g, S, a, w, h, Q, hQ => by
    obtain ⟨hb1, hb2⟩ := and_true (show Bool.and (codeB cx.ntmps c1) (codeB cx.ntmps c2) = true from hb)
    have hl1 : LpsOk P cx c1 := fun q hq => hl q (List.mem_append_left _ hq)
    have hl2 : LpsOk P cx c2 := fun q hq => hl q (List.mem_append_right _ hq)
    unfold run at hr
    refine wp_seq ?_
    split at hr
    · rename_i st1 hs
      refine run_wp hcx hmix c1 hb1 hl1 hs h fun a1 w1 g1 S1 h1 e1 k1 => ?_
      show Code.wp P c2 Q a1 w1
      exact run_wp hcx hmix c2 hb2 hl2 hr h1 fun a2 w2 g2 S2 h2 e2 k2 => hQ a2 w2 g2 S2 h2 (e1.trans e2) (k1.trans k2)
    · rename_i hn
      refine run_wp hcx hmix c1 hb1 hl1 hr h fun a1 w1 g1 S1 h1 e1 k1 => ?_
      have key := hQ a1 w1 g1 S1 h1 e1 (k1.mono fun t ht => List.mem_append_left _ ht)
      cases o with
      | norm => exact absurd hr (hn st')
      | exit i => exact key
      | ret => exact key
  | .cond c x y, st, st', o, hb, hl, hr, g, S, a, w, h, Q, hQ => by
    obtain ⟨hb1, hb2⟩ := and_true (show Bool.and (codeB cx.ntmps x) (codeB cx.ntmps y) = true from hb)
    have hl1 : LpsOk P cx x := fun q hq => hl q (List.mem_append_left _ hq)
    have hl2 : LpsOk P cx y := fun q hq => hl q (List.mem_append_right _ hq)
    unfold run at hr
    split at hr
    · rename_i b hb
      have hev := evO_ok h c
      rw [hb] at hev
      have hev : a.eval c = .bool b := hev
      refine wp_cond (t := b) hev ?_
      split at hr
      · rename_i hbt
        have hbt : b = true := hbt
        subst hbt
        exact run_wp hcx hmix x hb1 hl1 hr h fun a1 w1 g1 S1 h1 e1 k1 => hQ a1 w1 g1 S1 h1 e1 (k1.mono fun t ht => List.mem_append_left _ ht)
      · rename_i hbt
        have hbt : b = false := by
          have hbt : ¬ b = true := hbt
          exact Bool.eq_false_iff.2 hbt
        subst hbt
        exact run_wp hcx hmix y hb2 hl2 hr h fun a1 w1 g1 S1 h1 e1 k1 => hQ a1 w1 g1 S1 h1 e1 (k1.mono fun t ht => List.mem_append_right _ ht)
    · cases hr
  | .block id c, st, st', o, hb, hl, hr, g, S, a, w, h, Q, hQ => by
    by_cases hc : ∃ c', c = .loop c'
    · obtain ⟨c', rfl⟩ := hc
      unfold run at hr
      split at hr
      · rename_i ls hls
        split at hr
        · rename_i r hstep
          split at hr
          · rename_i hpre
            cases hr
            exact loop_wp (hl (id, c') (List.mem_singleton.2 rfl) ls hls) hstep hpre h hQ
          · cases hr
        · cases hr
      · cases hr
    · have hrun : run cx (.block id c) st = inBlock id (run cx c st) := by
        cases c <;> first | rfl | exact absurd ⟨_, rfl⟩ hc
      have hlps : loopsOf (.block id c) = loopsOf c := by
        cases c <;> first | rfl | exact absurd ⟨_, rfl⟩ hc
      have hl1 : LpsOk P cx c := fun q hq => hl q (by rw [hlps]; exact hq)
      rw [hrun] at hr
      refine wp_block ?_
      cases hs : run cx c st with
      | none => rw [hs] at hr; cases hr
      | some p =>
        obtain ⟨o1, st1⟩ := p
        rw [hs] at hr
        refine run_wp hcx hmix c hb hl1 hs h fun a1 w1 g1 S1 h1 e1 k1 => ?_
        cases o1 with
        | norm =>
          cases hr
          exact hQ a1 w1 g1 S1 h1 e1 k1
        | ret =>
          cases hr
          exact hQ a1 w1 g1 S1 h1 e1 k1
        | exit i =>
          have hr : cond (Nat.beq i id) (some (Out.norm, st1)) (some (Out.exit i, st1)) = some (o, st') := hr
          show (if i = id then Q .normal a1 w1 else Q (.exit i) a1 w1)
          cases hi : Nat.beq i id with
          | true =>
            rw [hi] at hr
            cases hr
            rw [if_pos (beq_true hi)]
            exact hQ a1 w1 g1 S1 h1 e1 k1
          | false =>
            rw [hi] at hr
            cases hr
            rw [if_neg (fun e => by rw [e, beq_self] at hi; cases hi)]
            exact hQ a1 w1 g1 S1 h1 e1 k1
  | .loop c, st, st', o, _, _, hr, _, _, _, _, _, _, _ => by cases hr
  | .goto l, st, st', o, _, _, hr, _, _, _, _, _, _, _ => by cases hr
  | .label l, st, st', o, _, _, hr, _, _, _, _, _, _, _ => by cases hr
  | .rangeFunc _ _ _ _, st, st', o, _, _, hr, _, _, _, _, _, _, _ => by cases hr
  | .scope _, st, st', o, _, _, hr, _, _, _, _, _, _, _ => by cases hr
  | .refuse _, st, st', o, _, _, hr, _, _, _, _, _, _, _ => by cases hr
end
end Go.Rx
namespace Go.Rx
open Go Go.RowKit
set_option linter.unusedVariables false
set_option linter.unusedSimpArgs false

section
variable {m : Mem} {g : Nat → Value} {S S' : Nat → Prop} {w : World}

theorem blks_cons_true {id b : Nat} {l : List (Nat × Bool)} (h : own m g id = some b) : blks m g ((id, true) :: l) = b :: blks m g l := by
  simp [blks, h]

/-- A variable at the end, by the pointer of the start. -/
theorem boxBack_ok (hm : MRel m g S w) (hs : ∀ b, S b → S' b) {ks : List CK} {id : Nat} {x : CKs.den ks} {v : Value} (h : boxIn m ks id 0 = some x) (hv : PtrOk m g id 0 0 v) (hl : ∀ i ∈ (boxIds m ks id).lent, ∀ b, isArr (m i) = true → own m g i = some b → S' b) :
    ∃ blk vs E B2, v = .pointer (some ⟨blk, 0, none⟩) ∧ w.heap[blk]? = some (.cells (List.toArray vs) E (0, 0)) ∧ cellsV w S' ks x vs B2 ∧ blks m g (boxIds m ks id).all = blk :: B2 := by
  obtain ⟨blk, vs, E, B2, h1, h2, h3, h4⟩ := boxIn_ok hm hs h hv hl
  exact ⟨blk, vs, E, B2, h1, h2, h3, h4⟩

theorem backs_back (hm : MRel m g S w) (hs : ∀ b, S b → S' b) : ∀ {bs : List (List CK)} {id : Nat} {x0 : CKss.den bs} {x : CKss.den bs} {us : List Value}, boxesBack m id bs = some x → All2 (fun p v => PtrOk m g p.1 p.2.1 p.2.2 v ∧ v.oneCell' = true) (boxesNewOut id noMem bs x0).1 us →
    (∀ i ∈ (boxesBackIds m id bs).lent, ∀ b, isArr (m i) = true → own m g i = some b → S' b) → ∃ B2, bxsV.backsV w S' bs us x B2 ∧ (blksOf us ++ B2).Perm (blks m g (boxesBackIds m id bs).all)
  | [], id, x0, x, [], h, hv, _ => ⟨[], ⟨rfl, rfl⟩, List.Perm.nil⟩
  | [], id, x0, x, _ :: _, h, hv, _ => hv.elim
  | ks :: bs, id, x0, x, [], h, hv, _ => hv.elim
  | ks :: bs, id, x0, x, u :: us, h, hv, hl => by
    unfold boxesBack at h
    split at h
    · rename_i a b ha hb
      cases h
      obtain ⟨blk, vs, E, B1, rfl, h2, h3, h4⟩ := boxBack_ok hm hs ha hv.1.1 fun i hi => hl i (List.mem_append_left _ hi)
      obtain ⟨B2, h5, h6⟩ := backs_back hm hs (x0 := x0.2) hb hv.2 fun i hi => hl i (List.mem_append_right _ hi)
      refine ⟨B1 ++ B2, ⟨blk, vs, E, B1, B2, rfl, h2, rfl, h3, h5⟩, ?_⟩
      have e : blks m g (boxesBackIds m id (ks :: bs)).all = (blk :: B1) ++ blks m g (boxesBackIds m (id + 8) bs).all := by
        rw [← h4]
        exact blks_append _ _
      rw [e]
      show (blk :: (blksOf us ++ (B1 ++ B2))).Perm (blk :: (B1 ++ _))
      refine List.Perm.cons _ ?_
      refine List.Perm.trans ?_ (List.Perm.append_left B1 h6)
      rw [← List.append_assoc, ← List.append_assoc]
      exact List.Perm.append_right B2 List.perm_append_comm
    · cases h

/-- Rows at the end, by the values of the start. -/
theorem muts_back (hm : MRel m g S w) (hs : ∀ b, S b → S' b) : ∀ {ks : List CK} {b : Nat} {x0 : CKs.den ks} {x : Muts.den ks} {us : List Value}, mutIn m b ks = some x → All2 (Cc m g S w) (cellsOut b noMem ks x0).1 us → mutV w S' ks us x ∧ mutBlks ks us = blks m g (mutIds b ks).all
  | [], _, _, _, [], _, _ => ⟨trivial, rfl⟩
  | [], _, _, _, _ :: _, _, hv => hv.elim
  | _ :: _, _, _, _, [], _, hv => hv.elim
  | .dat t :: ks, b, x0, x, u :: us, h, hv => muts_back (ks := ks) (b := b + 1) (x0 := x0.2) hm hs h hv.2
  | .fn1 f t :: ks, b, x0, x, u :: us, h, hv => muts_back (ks := ks) (b := b + 1) (x0 := x0.2) hm hs h hv.2
  | .map :: ks, b, x0, x, u :: us, h, hv => muts_back (ks := ks) (b := b + 1) (x0 := x0.2) hm hs h hv.2
  | .own t :: ks, b, x0, x, u :: us, h, hv => by
    unfold mutIn at h
    split at h
    · rename_i n e' xs ho
      obtain ⟨hn, h1⟩ := cond_some h
      obtain rfl := beq_true hn
      split at h1
      · rename_i a r ha hr
        cases h1
        obtain ⟨rfl, rfl⟩ := castRows_ok ha
        have hu : u = g b := ref_arr (S := S) (w := w) ho hv.1
        obtain ⟨i1, i2⟩ := muts_back (x0 := x0.2) hm hs hr hv.2
        refine ⟨⟨?_, i1⟩, ?_⟩
        · have ha : ArrV w S e' a u := by rw [hu]; exact arr_live hm ho
          exact ha.hold (Hold.refl S w) hs fun _ _ => rfl
        · show bl (blkOf u) ++ mutBlks ks us = blks m g ((b, true) :: (mutIds (b + 1) ks).all)
          rw [i2, hu]
          have : own m g b = blkOf (g b) := own_arr ho
          unfold blks bl
          rw [List.filterMap_cons, this]
          cases blkOf (g b) <;> rfl
      · cases h1
    · cases h
theorem muts_lent : ∀ (ks : List CK) (b : Nat), (mutIds b ks).lent = []
  | [], _ => rfl
  | .dat _ :: ks, b => muts_lent ks (b + 1)
  | .fn1 _ _ :: ks, b => muts_lent ks (b + 1)
  | .map :: ks, b => muts_lent ks (b + 1)
  | .own _ :: ks, b => by
    show [] ++ (mutIds (b + 1) ks).lent = []
    rw [muts_lent]
    rfl
theorem vOf_back {ag : Bool} {cs : List C} {v : Value} (h : Vc m g S w (vOf ag cs) v) (hl : ag = false → cs.length = 1) : ∃ us, CellsOf ag v us ∧ All2 (Cc m g S w) cs us := by
  cases ag with
  | true =>
    obtain ⟨us, h1, h2⟩ := h
    exact ⟨us, h1, h2⟩
  | false =>
    match cs, h, hl rfl with
    | [c], h, _ => exact ⟨[v], rfl, h, trivial⟩
theorem cellsOut_len : ∀ {ks : List CK} {x : CKs.den ks} {b : Nat} {m : Mem}, (cellsOut b m ks x).1.length = ks.length
  | [], _, _, _ => rfl
  | k :: ks, x, b, m => by
    show (cellsOut (b + 1) m ks x.2).1.length + 1 = ks.length + 1
    rw [cellsOut_len]
theorem bxs_back (hm : MRel m g S w) (hs : ∀ b, S b → S' b) : ∀ {ps : List PK} {i : Nat} {x0 : PKs.den ps} {x : Bxs.den ps} {vals : List Value}, bxsIn m i ps = some x → All2 (Vc m g S w) (partsOut (64 * i) noMem ps x0).1 vals →
    (∀ j ∈ (bxsIds m i ps).lent, ∀ b, isArr (m j) = true → own m g j = some b → S' b) → ∃ B2, bxsV w S' ps vals x B2 ∧ (boxBlks ps vals ++ B2).Perm (blks m g (bxsIds m i ps).all) := by
  intro ps
  induction ps with
  | nil =>
    intro i x0 x vals h hv hl
    cases vals with
    | nil => exact ⟨[], ⟨rfl, rfl⟩, List.Perm.nil⟩
    | cons v vals => exact hv.elim
  | cons p ps ih =>
    intro i x0 x vals h hv hl
    have e64 : 64 * i + 64 = 64 * (i + 1) := by omega
    cases vals with
    | nil => exact hv.elim
    | cons v vals =>
      have hv1 : Vc m g S w (partOut (64 * i) noMem p x0.1).1 v := hv.1
      have hv2 : All2 (Vc m g S w) (partsOut (64 * (i + 1)) noMem ps x0.2).1 vals := by rw [← e64]; exact hv.2
      cases p with
      | c k => exact ih h hv2 hl
      | agg k => exact ih h hv2 hl
      | wr ag ks =>
        unfold bxsIn at h
        obtain ⟨hag, h⟩ := cond_some h
        split at h
        · rename_i a b ha hb
          cases h
          have hlen : ag = false → (cellsOut (64 * i) noMem ks x0.1).1.length = 1 := fun e => by
            rw [cellsOut_len]
            rw [e, Bool.false_or] at hag
            exact beq_true hag
          obtain ⟨us, hcs, hus⟩ := vOf_back hv1 hlen
          obtain ⟨h3, h4⟩ := muts_back (x0 := x0.1) hm hs ha hus
          obtain ⟨B2, h5, h6⟩ := ih hb hv2 fun i hi => hl i (List.mem_append_right _ hi)
          refine ⟨B2, ⟨⟨us, hcs, h3⟩, h5⟩, ?_⟩
          have e : blks m g (bxsIds m i (.wr ag ks :: ps)).all = blks m g (mutIds (64 * i) ks).all ++ blks m g (bxsIds m (i + 1) ps).all := blks_append _ _
          rw [e]
          show ((mutBlks ks (vcells ag v) ++ boxBlks ps vals) ++ B2).Perm _
          rw [hcs.eq, h4, List.append_assoc]
          exact List.Perm.append_left _ h6
        · cases h
      | box ks =>
        unfold bxsIn at h
        split at h
        · rename_i a b ha hb
          cases h
          obtain ⟨blk, vs, E, B1, rfl, h2, h3, h4⟩ := boxBack_ok hm hs ha hv1.1 fun i hi => hl i (List.mem_append_left _ hi)
          obtain ⟨B2, h5, h6⟩ := ih hb hv2 fun i hi => hl i (List.mem_append_right _ hi)
          refine ⟨B1 ++ B2, ⟨blk, vs, E, B1, B2, rfl, h2, rfl, h3, h5⟩, ?_⟩
          have e : blks m g (bxsIds m i (.box ks :: ps)).all = (blk :: B1) ++ blks m g (bxsIds m (i + 1) ps).all := by
            rw [← h4]
            exact blks_append _ _
          rw [e]
          show (blk :: (boxBlks ps vals ++ (B1 ++ B2))).Perm (blk :: (B1 ++ _))
          refine List.Perm.cons _ ?_
          refine List.Perm.trans ?_ (List.Perm.append_left B1 h6)
          rw [← List.append_assoc, ← List.append_assoc]
          exact List.Perm.append_right B2 List.perm_append_comm
        · cases h
      | fn f bs =>
        unfold bxsIn at h
        split at h
        · rename_i a b ha hb
          cases h
          obtain ⟨us, rfl, hus⟩ := hv1
          obtain ⟨B1, h3, h4⟩ := backs_back hm hs (x0 := x0.1) ha hus fun i hi => hl i (List.mem_append_left _ hi)
          obtain ⟨B2, h5, h6⟩ := ih hb hv2 fun i hi => hl i (List.mem_append_right _ hi)
          refine ⟨B1 ++ B2, ⟨us, B1, B2, rfl, rfl, h3, h5⟩, ?_⟩
          have e : blks m g (bxsIds m i (.fn f bs :: ps)).all = blks m g (boxesBackIds m (64 * i) bs).all ++ blks m g (bxsIds m (i + 1) ps).all := blks_append _ _
          rw [e]
          show ((blksOf us ++ boxBlks ps vals) ++ (B1 ++ B2)).Perm _
          refine List.Perm.trans ?_ (List.Perm.append h4 h6)
          rw [List.append_assoc, List.append_assoc]
          refine List.Perm.append_left _ ?_
          rw [← List.append_assoc, ← List.append_assoc]
          exact List.Perm.append_right B2 List.perm_append_comm
        · cases h

/-- Everything that is handed back, with what the variables hold. -/
theorem export_ok (hm : MRel m g S w) {ins ps : List PK} {xs : List A} {us vals : List Value} {x0 : PKs.den ins} {y : PKs.den ps} {b : Bxs.den ins} (hv : All2 (Vc m g S w) (partsOut 0 noMem ins x0).1 vals) (hx : All2 (Ac m g S w) xs us)
    (hok : idsOk ((argsIds m ps xs).add (bxsIds m 0 ins)) = true) (hy : argsIn m ps xs = some y) (hb : bxsIn m 0 ins = some b) :
    ∃ S' B1 B2, partsV w S' ps y us B1 ∧ bxsV w S' ins vals b B2 ∧ (B1 ++ B2).Nodup ∧ (∀ q ∈ B1 ++ B2, ¬ S' q ∧ q ∉ boxBlks ins vals ∧ ∃ j, own m g j = some q) ∧ (∀ q ∈ boxBlks ins vals, ¬ S' q) ∧ (∀ q, S q → S' q) ∧ (∀ q, S' q → S q ∨ ∃ j, own m g j = some q) ∧ (∀ q, S' q → q < w.heap.size) := by
  obtain ⟨hnd, hlent⟩ := and_true hok
  generalize hI : (argsIds m ps xs).add (bxsIds m 0 ins) = I at hnd hlent
  have el : I.lent = (argsIds m ps xs).lent ++ (bxsIds m 0 ins).lent := by rw [← hI]; rfl
  have ea : I.all = (argsIds m ps xs).all ++ (bxsIds m 0 ins).all := by rw [← hI]; rfl
  have hlent' : ∀ i ∈ I.lent, i ∉ I.ids := fun i hi e => by
    have := List.all_eq_true.1 hlent i hi
    rw [inL_iff.2 e] at this
    cases this
  let S' : Nat → Prop := fun q => S q ∨ ∃ id ∈ I.lent, own m g id = some q
  have hS' : ∀ q, S q → S' q := fun q h => .inl h
  have h1 := argsIn_ok (S' := S') hm hS' hy hx fun id hid q _ hq => .inr ⟨id, by rw [el]; exact List.mem_append_left _ hid, hq⟩
  obtain ⟨B2, h2, h3⟩ := bxs_back (S' := S') hm hS' hb hv fun id hid q _ hq => .inr ⟨id, by rw [el]; exact List.mem_append_right _ hid, hq⟩
  have hall := blks_nodup hm (show noDup (I.all.map fun p => p.1) = true from hnd)
  rw [ea, blks_append] at hall
  have hperm : (blks m g (argsIds m ps xs).all ++ (boxBlks ins vals ++ B2)).Perm (blks m g I.all) := by
    rw [ea, blks_append]
    exact List.Perm.append_left _ h3
  have hnd' : (blks m g (argsIds m ps xs).all ++ (boxBlks ins vals ++ B2)).Nodup := by
    rw [hperm.nodup_iff, ea, blks_append]
    exact hall
  have hmem : ∀ q, q ∈ blks m g (argsIds m ps xs).all ++ (boxBlks ins vals ++ B2) → ∃ id ∈ I.ids, own m g id = some q := fun q hq => blks_mem (hperm.mem_iff.1 hq)
  have hnot : ∀ q, q ∈ blks m g (argsIds m ps xs).all ++ (boxBlks ins vals ++ B2) → ¬ S' q := fun q hq hs => by
    obtain ⟨id, hid, ho⟩ := hmem q hq
    rcases hs with hs | ⟨j, hj, hjo⟩
    · exact hm.sdisj id q ho hs
    · have := hm.disj id j q ho hjo
      subst this
      exact hlent' id hj hid
  obtain ⟨n1, n2, n3⟩ := nodup_parts hnd'
  obtain ⟨n4, n5, n6⟩ := nodup_parts n2
  refine ⟨S', _, B2, h1, h2, ?_, fun q hq => ?_, fun q hq => hnot q (List.mem_append_right _ (List.mem_append_left _ hq)), hS', fun q hq => ?_, fun q hq => ?_⟩
  · rw [List.nodup_append]
    exact ⟨n1, n5, fun a ha b hb e => n3 a ha (List.mem_append_right _ (e ▸ hb))⟩
  · have hq' : q ∈ blks m g (argsIds m ps xs).all ++ (boxBlks ins vals ++ B2) := by
      rcases List.mem_append.1 hq with h | h
      · exact List.mem_append_left _ h
      · exact List.mem_append_right _ (List.mem_append_right _ h)
    refine ⟨hnot q hq', fun hbx => ?_, ?_⟩
    · rcases List.mem_append.1 hq with h | h
      · exact n3 q h (List.mem_append_left _ hbx)
      · exact n6 q hbx h
    · obtain ⟨id, _, ho⟩ := hmem q hq'
      exact ⟨id, ho⟩
  · rcases hq with h | ⟨j, _, hj⟩
    · exact .inl h
    · exact .inr ⟨j, hj⟩
  · rcases hq with h | ⟨j, _, hj⟩
    · exact hm.slt q h
    · exact hm.own_lt hj
end

/-! ### the start -/
theorem noMem_rel {w : World} {S : Nat → Prop} (hs : ∀ b, S b → b < w.heap.size) : MRel noMem (fun _ => undef) S w := by
  refine ⟨fun id => ?_, fun i j b hi hj => ?_, fun i b hi _ => ?_, hs⟩
  · unfold Or noMem
    trivial
  · cases hi
  · cases hi

theorem start_ok {ps : List PK} {x : PKs.den ps} {w : World} {S : Nat → Prop} {vals : List Value} {B : List Nat} (h : partsV w S ps x vals B) (hg : Given S w B) (hnd : noDup (partsNew 0 ps) = true) :
    ∃ g0, MRel (startM ps x) g0 S w ∧ All2 (Vc (startM ps x) g0 S w) (partsOut 0 noMem ps x).1 vals ∧ ∀ i b, own (startM ps x) g0 i = some b → b ∈ B := by
  obtain ⟨g0, a0, h0⟩ := take_parts (ps := ps) (m := noMem) (b := 0) noMem (noMem_rel hg.slt) h hg.nodup (fun b hb => ⟨hg.apart b hb, fun j hj => by cases hj⟩) hnd fun i _ => ⟨rfl, rfl⟩
  exact ⟨g0, a0.mr, h0, fun i b hb => (a0.own' i b hb).elim (fun h => by cases h) fun h => h⟩
end Go.Rx
namespace Go.Rx
open Go Go.RowKit
set_option linter.unusedVariables false
set_option linter.unusedSimpArgs false

section
variable {P : Program} {cx : Cx} {n : Nat} {st : St} {g : Nat → Value} {S : Nat → Prop} {a : Act} {w : World}

/-! ### the result's slots -/
def resSem (tmps : Array Value) : ResultVar → Sem Value
  | .tmp t => pure (tmps.getD t undef)
  | .cell a t => do loadVar t (← asAddr (tmps.getD a undef))

theorem results_eq (F : Func) (tmps : Array Value) : results F tmps = (do
    let vs ← F.results.mapM (resSem tmps)
    pure (if h : vs.size = 1 then vs[0] else .tuple vs)) := by
  have e : resSem tmps = (fun r => match r with
      | .tmp t => pure (tmps.getD t undef)
      | .cell a t => do loadVar t (← asAddr (tmps.getD a undef))) := by
    funext r
    cases r <;> rfl
  rw [e]
  rfl

theorem loadAt_pointer {t : Nat} {v val : Value} (h : (Instr.loadAt t v).run P w = .ok val w) : (do loadVar t (← asAddr v) : Sem Value).run P w = .ok val w := by
  unfold Instr.loadAt at h
  cases v with
  | pointer p =>
    cases p with
    | some a => simpa [Instr.sureAddr, asAddr] using h
    | none => simp [Instr.sureAddr, stuck] at h
  | _ => simp [Instr.sureAddr, stuck] at h

theorem resV_ok (hT : TabOk P cx.T) (h : SRel n st g S a w) {r : ResultVar} {x : V} (hr : resV cx.T st r = some x) : ∃ val, (resSem a.tmps r).run P w = .ok val w ∧ Vc st.m g S w x val := by
  cases r with
  | tmp t =>
    simp only [resV] at hr
    split at hr
    · rename_i y hy
      cases hr
      have := h.slot t
      rw [hy] at this
      exact ⟨_, rfl, this⟩
    · cases hr
  | cell t ty =>
    simp only [resV] at hr
    split at hr
    · rename_i p hp
      split at hr
      · rename_i r hgo
        obtain ⟨hc, hr⟩ := cond_some hr
        split at hr
        · rename_i y hy
          cases hr
          obtain ⟨_, val, h1, h2⟩ := load_ok hT h.mr (h.slot t) hp hgo hc
          rw [hy] at h2
          exact ⟨val, loadAt_pointer h1, h2⟩
        · cases hr
      · cases hr
    · cases hr
theorem resVs_ok (hT : TabOk P cx.T) (h : SRel n st g S a w) : ∀ {rs : List ResultVar} {xs : List V}, resVs cx.T st rs = some xs → ∃ vals, (rs.mapM (resSem a.tmps)).run P w = .ok vals w ∧ All2 (Vc st.m g S w) xs vals
  | [], xs, hr => by
    cases hr
    exact ⟨[], by simp, trivial⟩
  | r :: rs, xs, hr => by
    unfold resVs at hr
    split at hr
    · rename_i x xs' h1 h2
      cases hr
      obtain ⟨v, e1, e2⟩ := resV_ok hT h h1
      obtain ⟨vs, e3, e4⟩ := resVs_ok hT h h2
      refine ⟨v :: vs, ?_, e2, e4⟩
      simp only [List.mapM_cons, Sem.run_bind, e1, Result.andThen_ok, e3, Sem.run_pure]
    · cases hr

theorem resA_ok (hT : TabOk P cx.T) (h : SRel n st g S a w) {F : Func} {x : A} (hr : resA cx.T st F.results.toList = some x) : ∃ val, (results F a.tmps).run P w = .ok val w ∧ Ac st.m g S w x val := by
  have run : ∀ vals : List Value, (F.results.toList.mapM (resSem a.tmps)).run P w = .ok vals w → (results F a.tmps).run P w = .ok (if h : vals.toArray.size = 1 then vals.toArray[0] else .tuple vals.toArray) w := fun vals hv => by
    have e : (F.results.mapM (resSem a.tmps)).run P w = .ok vals.toArray w := by
      rw [Array.mapM_eq_mapM_toList]
      simp only [map_eq_pure_bind, Sem.run_bind, hv, Result.andThen_ok, Sem.run_pure]
    rw [results_eq, Sem.run_bind, e]
    rfl
  unfold resA at hr
  split at hr
  · rename_i v hv
    cases hr
    obtain ⟨vals, h1, h2⟩ := resVs_ok hT h hv
    match vals, h2 with
    | [u], h2 => exact ⟨u, run _ h1, h2.1⟩
  · rename_i vs hne hv
    cases hr
    obtain ⟨vals, h1, h2⟩ := resVs_ok hT h hv
    refine ⟨.tuple vals.toArray, ?_, vals, rfl, h2⟩
    rw [run _ h1]
    have : ¬ vals.toArray.size = 1 := fun e => by
      match vals, h2, e with
      | [u], h2, _ => match vs, h2, hne with
        | [x], _, hne => exact hne x rfl
    rw [dif_neg this]
  · cases hr

/-! ### a function -/
theorem All2.getD {α β : Type} {R : α → β → Prop} {d : α} {e : β} : ∀ {as : List α} {bs : List β}, All2 R as bs → R d e → ∀ t, R (as.getD t d) (bs.getD t e)
  | [], [], _, hd, t => by simpa using hd
  | a :: as, b :: bs, h, hd, 0 => h.1
  | a :: as, b :: bs, h, hd, t + 1 => by
    have := All2.getD (as := as) (bs := bs) h.2 hd t
    simpa using this

theorem vals_tmps (vals : List Value) (n t : Nat) : (vals.toArray ++ Array.replicate (n - vals.toArray.size) undef).getD t undef = vals.getD t undef := by
  simp only [Array.getD_eq_getD_getElem?, List.getD_eq_getElem?_getD, Array.getElem?_append, List.size_toArray, List.getElem?_toArray, Array.getElem?_replicate]
  split
  · rfl
  · rename_i h
    rw [List.getElem?_eq_none (by omega)]
    split <;> rfl

theorem argsOut_map {m : Mem} {ps : List PK} {x : PKs.den ps} {vals : List Value} (h : All2 (Vc m g S w) (partsOut 0 noMem ps x).1 vals) : All2 (Ac m g S w) (argsA ps x) vals := by
  unfold argsA
  generalize (partsOut 0 noMem ps x).1 = vs at h
  induction vs generalizing vals with
  | nil => cases vals with
    | nil => trivial
    | cons u us => exact h.elim
  | cons v vs ih => cases vals with
    | nil => exact h.elim
    | cons u us => exact ⟨h.1, ih h.2⟩

theorem partsOut_len : ∀ {ps : List PK} {x : PKs.den ps} {b : Nat} {m : Mem}, (partsOut b m ps x).1.length = ps.length
  | [], _, _, _ => rfl
  | p :: ps, x, b, m => by
    show (partsOut (b + 64) m ps x.2).1.length + 1 = ps.length + 1
    rw [partsOut_len]

/-- From the evolution and what is handed back: what is told. -/
theorem told_of {sp : Spec} {x : PKs.den sp.ins} {S1 : Nat → Prop} {w1 : World} {vals : List Value} {B : List Nat} {m0 : Mem} {g0 : Nat → Value} {m1 : Mem} {g1 : Nat → Value} (hg : Given S w B) (h0 : ∀ i b, own m0 g0 i = some b → b ∈ B) (he : Evo m0 g0 S w m1 g1 S1 w1)
    {S' : Nat → Prop} {B1 B2 : List Nat} {val : Value} (h1 : resVal w1 S' sp.out (sp.g x).1 val B1) (h2 : bxsV w1 S' sp.ins vals (sp.g x).2 B2) (h3 : (B1 ++ B2).Nodup) (h4 : ∀ q ∈ B1 ++ B2, ¬ S' q ∧ q ∉ boxBlks sp.ins vals ∧ ∃ j, own m1 g1 j = some q) (h5 : ∀ q ∈ boxBlks sp.ins vals, ¬ S' q)
    (h6 : ∀ q, S1 q → S' q) (h7 : ∀ q, S' q → S1 q ∨ ∃ j, own m1 g1 j = some q) (h8 : ∀ q, S' q → q < w1.heap.size) : Told sp x w S vals B val w1 S' B1 B2 := by
  have ow : ∀ {q}, (∃ j, own m1 g1 j = some q) → q ∈ B ∨ w.heap.size ≤ q := fun {q} ⟨j, hj⟩ => by
    rcases he.own' j q hj with ⟨i, hi⟩ | h
    · exact .inl (h0 i q hi)
    · exact .inr h
  refine ⟨h1, h2, h3, fun q hq => ?_, h5, fun q hq => h6 q (he.sub q hq), fun q hq => ?_, h8, fun b hb hn => he.keep b hb fun j hj => hn (h0 j b hj), he.os, he.tape, he.output, he.size⟩
  · obtain ⟨q1, q2, q3⟩ := h4 q hq
    exact ⟨q1, q2, ow q3⟩
  · rcases h7 q hq with h | h
    · rcases he.ssub q h with h | ⟨j, hj⟩ | h
      · exact .inl h
      · exact .inr (.inl (h0 j q hj))
      · exact .inr (.inr h)
    · exact .inr (ow h)

theorem export_res {m : Mem} (hm : MRel m g S w) {ins : List PK} {x0 : PKs.den ins} {b : Bxs.den ins} {vals : List Value} {val : Value} (hv1 : All2 (Vc m g S w) (partsOut 0 noMem ins x0).1 vals) : ∀ {out : RK} {v : A} {y : out.den}, Ac m g S w v val → idsOk ((outIds m out v).add (bxsIds m 0 ins)) = true → outIn m out v = some y → bxsIn m 0 ins = some b →
    ∃ S' B1 B2, resVal w S' out y val B1 ∧ bxsV w S' ins vals b B2 ∧ (B1 ++ B2).Nodup ∧ (∀ q ∈ B1 ++ B2, ¬ S' q ∧ q ∉ boxBlks ins vals ∧ ∃ j, own m g j = some q) ∧ (∀ q ∈ boxBlks ins vals, ¬ S' q) ∧ (∀ q, S q → S' q) ∧ (∀ q, S' q → S q ∨ ∃ j, own m g j = some q) ∧ (∀ q, S' q → q < w.heap.size) := by
  intro out v y hac hids hy hbx
  cases out with
  | none =>
    match v, hy, hac, hids with
    | .tup [], hy, hac, hids =>
      obtain ⟨us, rfl, hus⟩ := hac
      match us, hus with
      | [], _ =>
        obtain ⟨S', B1, B2, r1, r2⟩ := export_ok (ps := []) (xs := []) (us := []) (y := ()) hm hv1 trivial hids rfl hbx
        obtain ⟨_, rfl⟩ := r1
        exact ⟨S', [], B2, ⟨rfl, rfl⟩, r2⟩
  | one p =>
    match v, hy, hac, hids with
    | .v z, hy, hac, hids =>
      have hadd : (outIds m (.one p) (.v z)) = argsIds m [p] [.v z] := by
        show argIds m p (.v z) = (argIds m p (.v z)).add Ids.none
        unfold Ids.add Ids.none
        simp
      rw [hadd] at hids
      have hy' : argsIn m [p] [.v z] = some (y, ()) := by
        have hy : argIn m p (.v z) = some y := hy
        simp only [argsIn, hy]
      obtain ⟨S', B1, B2, r1, r2⟩ := export_ok (xs := [.v z]) (us := [val]) hm hv1 ⟨hac, trivial⟩ hids hy' hbx
      obtain ⟨v', vs', C1, C2, e1, rfl, r3, r4, rfl⟩ := r1
      cases e1
      rw [List.append_nil] at r2
      exact ⟨S', C1, B2, r3, r2⟩
  | tup ps =>
    match v, hy, hac, hids with
    | .tup zs, hy, hac, hids =>
      obtain ⟨us, rfl, hus⟩ := hac
      have hus' : All2 (Ac m g S w) (zs.map A.v) us := by
        clear hy hids hac
        induction zs generalizing us with
        | nil => cases us with
          | nil => trivial
          | cons u us => exact hus.elim
        | cons z zs ih => cases us with
          | nil => exact hus.elim
          | cons u us => exact ⟨hus.1, ih us hus.2⟩
      obtain ⟨S', B1, B2, r1, r2⟩ := export_ok hm hv1 hus' hids hy hbx
      exact ⟨S', B1, B2, ⟨us, rfl, r1⟩, r2⟩

theorem fun_ok (hcx : CxOk P cx) (hmix : P.follows .mixedOrders = true) {f : Nat} {F : Func} {sp : Spec} (hf : P.funcs[f]? = some F) (hname : F.name ≠ "runtime.NumGoroutine") (hbody : F.body.isSome = true) (hnt : F.ntmps = cx.ntmps)
    (hcode : codeB cx.ntmps (bodyOf F) = true) (hargs : Nat.ble sp.ins.length cx.ntmps = true) (hnew : noDup (partsNew 0 sp.ins) = true) (hlps : LpsOk P cx (bodyOf F)) (hrun : ∀ x, sp.pre x = true → funRun cx F sp.ins sp.out x = some (sp.g x)) : SpecOk P f sp := by
  refine ⟨⟨F, hf, hname, hbody⟩, fun x hpre w S vals B hparts hg => ?_⟩
  obtain ⟨g0, hm0, hv0, hown0⟩ := start_ok hparts hg hnew
  have hbo : F.body = some (bodyOf F) := by
    unfold bodyOf
    cases hb : F.body with
    | none => rw [hb] at hbody; cases hbody
    | some c => rfl
  have hlen : vals.length = sp.ins.length := by
    rw [← hv0.length, partsOut_len]
  have hle := Nat.le_of_ble_eq_true hargs
  refine calls_of_wp hf hbo ?_
  have hS : SRel cx.ntmps (fstart sp.ins x) g0 S ⟨vals.toArray ++ Array.replicate (F.ntmps - vals.toArray.size) undef, []⟩ w := by
    refine ⟨hm0, by simp; omega, rfl, fun t => ?_⟩
    show Ac _ g0 S w ((argsA sp.ins x).getD t (.c .any)) ((vals.toArray ++ Array.replicate (F.ntmps - vals.toArray.size) undef).getD t undef)
    rw [vals_tmps]
    exact All2.getD (d := A.c .any) (e := undef) (argsOut_map hv0) (show Ac _ g0 S w (A.c .any) undef from trivial) t
  have hr := hrun x hpre
  unfold funRun at hr
  split at hr
  · rename_i o st' hrn
    refine run_wp hcx hmix _ hcode hlps hrn hS fun a1 w1 g1 S1 h1 e1 k1 => ?_
    have fin : ∀ v, resA cx.T st' F.results.toList = some v → exportA sp.ins sp.out v st'.m = some (sp.g x) → ∃ val, (results F a1.tmps).run P w1 = .ok val w1 ∧ ∃ val' S' B1 B2, Ending.returned val = .returned val' ∧ Told sp x w S vals B val' w1 S' B1 B2 := fun v hv hex => by
      obtain ⟨val, hres, hac⟩ := resA_ok hcx.T h1 hv
      refine ⟨val, hres, val, ?_⟩
      obtain ⟨hb, hex⟩ := cond_some hex
      obtain ⟨_, hids⟩ := and_true hb
      have hv1 : All2 (Vc st'.m g1 S1 w1) (partsOut 0 noMem sp.ins x).1 vals := hv0.mono (Vc.tr e1.tr e1.hold e1.sub)
      split at hex
      · rename_i y b hy hbx
        have hex : (y, b) = sp.g x := Option.some.inj hex
        have key := export_res h1.mr hv1 hac hids hy hbx
        obtain ⟨S', B1, B2, r1, r2, r3, r4, r5, r6, r7, r8⟩ := key
        refine ⟨S', B1, B2, rfl, told_of hg hown0 e1 ?_ ?_ r3 r4 r5 r6 r7 r8⟩
        · rw [← hex]
          exact r1
        · rw [← hex]
          exact r2
      · cases hex
    cases o with
    | exit i => cases hr
    | norm =>
      simp only [fend] at hr
      split at hr
      · rename_i v hv
        exact ⟨h1.defers, fin v hv hr⟩
      · cases hr
    | ret =>
      simp only [fend] at hr
      split at hr
      · rename_i v hv
        exact ⟨h1.defers, fin v hv hr⟩
      · cases hr
  · cases hr
end
end Go.Rx

/-
  ENGINE, part U: code.
  Seat-independent.
-/
import Derived.Test.YteenlfeglffnoaaRxS
namespace Go.Rx
open Go Go.RowKit
set_option linter.unusedVariables false
set_option linter.unusedSimpArgs false

def exitOf : Out → Exit
  | .norm => .normal
  | .exit id => .exit id
  | .ret => .ret

def allLt (n : Nat) (l : List Nat) : Bool := l.all fun t => decide (t < n)
/-- Code whose slots are there, whose edges lead back. -/
def codeB (n : Nat) : Code → Bool
  | .region _ ops draw => Bool.and (allLt n (dstsOps ops.toList)) (cond draw (edgesB ops) true)
  | .seq a b => Bool.and (codeB n a) (codeB n b)
  | .cond _ a b => Bool.and (codeB n a) (codeB n b)
  | .block _ c => codeB n c
  | .loop c => codeB n c
  | _ => true
theorem allLt_ok {n : Nat} {l : List Nat} (h : allLt n l = true) : dstsIn n l := fun t ht => by
  have := List.all_eq_true.1 h t ht
  simpa using this

/-- The loops that are met first. -/
def loopsOf : Code → List (Nat × Code)
  | .seq a b => loopsOf a ++ loopsOf b
  | .cond _ a b => loopsOf a ++ loopsOf b
  | .block id (.loop c) => [(id, c)]
  | .block _ c => loopsOf c
  | _ => []

/-- What it is for a loop to keep its contract. -/
def LpOk (P : Program) (n : Nat) (id : Nat) (c : Code) (ls : LSpec) : Prop :=
  ∀ x, ls.pre x = true → ∀ (w : World) (S : Nat → Prop) (a : Act) (B : List Nat), a.tmps.size = n → a.defers = [] → partsV w S ls.ins x (ls.live.map fun t => a.tmps.getD t undef) B → Given S w B →
    ∀ Q : Exit → Act → World → Prop, (∀ a' w' S' B1 B2, Told ls.sp x w S (ls.live.map fun t => a.tmps.getD t undef) B (.tuple (ls.outs.map fun t => a'.tmps.getD t undef).toArray) w' S' B1 B2 → a'.tmps.size = n → a'.defers = [] → Kept (dsts c) a a' →
      Q (exitOf (flagOut (ls.g x).1.1)) a' w') → (Code.block id (.loop c)).wp P Q a w
def LpsOk (P : Program) (cx : Cx) (c : Code) : Prop := ∀ q ∈ loopsOf c, ∀ ls, cx.lp q.1 = some ls → LpOk P cx.ntmps q.1 q.2 ls

section
variable {P : Program} {cx : Cx}

theorem callP_cs {sp : Spec} {bid : Nat} {xs : List A} {m M : Mem} {p : Plan} (hp : callP sp bid xs m = some p) {r : Res} (hr : p.go M = some r) {x : PKs.den sp.ins} (hx : argsIn M sp.ins xs = some x) : r.cs = [sp.pre x] := by
  obtain ⟨_, hp⟩ := cond_some hp
  cases hp
  obtain ⟨_, hr⟩ := cond_some (show cond _ _ none = some r from hr)
  rw [hx] at hr
  cases hr
  rfl

theorem All2.map_left {α β γ : Type} {R : γ → β → Prop} {f : α → γ} {k : α → β} : ∀ (l : List α), (∀ t ∈ l, R (f t) (k t)) → All2 R (l.map f) (l.map k)
  | [], _ => trivial
  | t :: l, h => ⟨h t (List.mem_cons_self ..), All2.map_left l fun s hs => h s (List.mem_cons_of_mem _ hs)⟩

theorem setOuts_ok {m : Mem} {g : Nat → Value} {S : Nat → Prop} {w : World} {sl : Nat → A} {k : Nat → Value} (t : Nat) (h : Ac m g S w (sl t) (k t)) : ∀ (l : List Nat) (vs : List V), All2 (Vc m g S w) vs (l.map k) → Ac m g S w (setOuts sl l vs t) (k t)
  | [], [], _ => h
  | [], _ :: _, hv => hv.elim
  | s :: l, [], hv => hv.elim
  | s :: l, v :: vs, hv => by
    show Ac m g S w (upd (setOuts sl l vs) s (.v v) t) (k t)
    by_cases hs : t = s
    · subst hs
      rw [upd_same]
      exact hv.1
    · rw [upd_ne _ _ hs]
      exact setOuts_ok t h l vs hv.2

theorem loop_wp {id : Nat} {c : Code} {ls : LSpec} (hlp : LpOk P cx.ntmps id c ls) {st : St} {r : LRun} (hr : lpStep cx id c ls st = some r) (hpre : r.pre = true) {g : Nat → Value} {S : Nat → Prop} {a : Act} {w : World} (h : SRel cx.ntmps st g S a w)
    {Q : Exit → Act → World → Prop} (hQ : ∀ a' w' g' S', SRel cx.ntmps r.st g' S' a' w' → Evo st.m g S w r.st.m g' S' w' → Kept (dsts c) a a' → Q (exitOf (flagOut r.flag)) a' w') : (Code.block id (.loop c)).wp P Q a w := by
  unfold lpStep at hr
  simp only at hr
  split at hr
  · cases hr
  · rename_i p hp
    split at hr
    · rename_i r0 x hr0 hx
      obtain ⟨hws, hr⟩ := cond_some hr
      split at hr
      · rename_i vs hvs
        cases hr
        have hcs := callP_cs hp hr0 hx
        have hargs : All2 (Ac st.m g S w) (ls.live.map st.sl) (ls.live.map fun t => a.tmps.getD t undef) := All2.map_left _ fun t _ => h.slot t
        obtain ⟨x', B, Sc, _, hx', _, hparts, hgiv, hpost⟩ := told_post h.mr hargs hp hr0 (by
          rw [hcs]
          have : ls.sp.pre x = true := hpre
          simp [this])
        have hx' : argsIn (restr (p.rd ++ p.wr) st.m) ls.ins (ls.live.map st.sl) = some x' := hx'
        rw [hx] at hx'
        cases hx'
        refine hlp x hpre w Sc a B h.size h.defers hparts hgiv Q fun a' w' S' B1 B2 T hsz hdf hkept => ?_
        obtain ⟨g', S2, hm', he', hv'⟩ := hpost w' _ S' B1 B2 T
        rw [hvs] at hv'
        obtain ⟨us, hus, hv'⟩ := hv'
        have hus : us = ls.outs.map fun t => a'.tmps.getD t undef := by
          have : us.toArray = (ls.outs.map fun t => a'.tmps.getD t undef).toArray := by injection hus.symm
          simpa using this
        subst hus
        refine hQ a' w' g' S2 ⟨hm', hsz, hdf, fun t => ?_⟩ he' hkept
        refine setOuts_ok (k := fun t => a'.tmps.getD t undef) t ?_ ls.outs vs hv'
        show Ac _ g' S2 w' (cond (inL t (dsts c)) (A.c .any) (st.sl t)) _
        cases hin : inL t (dsts c) with
        | true => trivial
        | false =>
          have hk := hkept t (fun e => by rw [inL_iff.2 e] at hin; cases hin)
          rw [hk]
          exact Ac.tr he'.tr he'.hold he'.sub _ _ (h.slot t)
      · cases hr
    · cases hr

theorem run_wp (hcx : CxOk P cx) (hmix : P.follows .mixedOrders = true) : ∀ (c : Code) {st st' : St} {o : Out}, codeB cx.ntmps c = true → LpsOk P cx c → run cx c st = some (o, st') → ∀ {g : Nat → Value} {S : Nat → Prop} {a : Act} {w : World}, SRel cx.ntmps st g S a w →
    ∀ {Q : Exit → Act → World → Prop}, (∀ a' w' g' S', SRel cx.ntmps st' g' S' a' w' → Evo st.m g S w st'.m g' S' w' → Kept (dsts c) a a' → Q (exitOf o) a' w') → c.wp P Q a w
  | .skip, st, st', o, _, _, hr, g, S, a, w, h, Q, hQ => by
    cases hr
    exact wp_skip (hQ a w g S h (Evo.refl _ _ _ _) (Kept.refl _ _))
  | .exit id, st, st', o, _, _, hr, g, S, a, w, h, Q, hQ => by
    cases hr
    exact wp_exit (hQ a w g S h (Evo.refl _ _ _ _) (Kept.refl _ _))
  | .ret, st, st', o, _, _, hr, g, S, a, w, h, Q, hQ => by
    cases hr
    exact wp_ret (hQ a w g S h (Evo.refl _ _ _ _) (Kept.refl _ _))
  | .region id ops draw, st, st', o, hb, hl, hr, g, S, a, w, h, Q, hQ => by
    obtain ⟨hb1, hb2⟩ := and_true (show Bool.and (allLt cx.ntmps (dstsOps ops.toList)) (cond draw (edgesB ops) true) = true from hb)
    have hd := allLt_ok hb1
    unfold run at hr
    split at hr
    · rename_i st1 hs
      cases hr
      cases draw with
      | true => exact draw_wp hcx hmix hb2 hd h hs hQ
      | false =>
        refine wp_region ?_
        rw [List.range_eq_range']
        refine ops_wp (st' := st') hcx ops.size 0 (by omega) h ?_ ?_ ?_
        · simpa using hs
        · simpa using hd
        · exact fun a' w' g' S' h1 h2 h3 => hQ a' w' g' S' h1 h2 h3
    · cases hr
  | .seq c1 c2, st, st', o, hb, hl, hr, g, S, a, w, h, Q, hQ => by
    obtain ⟨hb1, hb2⟩ := and_true (show Bool.and (codeB cx.ntmps c1) (codeB cx.ntmps c2) = true from hb)
    have hl1 : LpsOk P cx c1 := fun q hq => hl q (List.mem_append_left _ hq)
    have hl2 : LpsOk P cx c2 := fun q hq => hl q (List.mem_append_right _ hq)
    unfold run at hr
    refine wp_seq ?_
    split at hr
    · rename_i st1 hs
      refine run_wp hcx hmix c1 hb1 hl1 hs h fun a1 w1 g1 S1 h1 e1 k1 => ?_
      show Code.wp P c2 Q a1 w1
      exact run_wp hcx hmix c2 hb2 hl2 hr h1 fun a2 w2 g2 S2 h2 e2 k2 => hQ a2 w2 g2 S2 h2 (e1.trans e2) (k1.trans k2)
    · rename_i hn
      refine run_wp hcx hmix c1 hb1 hl1 hr h fun a1 w1 g1 S1 h1 e1 k1 => ?_
      have key := hQ a1 w1 g1 S1 h1 e1 (k1.mono fun t ht => List.mem_append_left _ ht)
      cases o with
      | norm => exact absurd hr (hn st')
      | exit i => exact key
      | ret => exact key
  | .cond c x y, st, st', o, hb, hl, hr, g, S, a, w, h, Q, hQ => by
    obtain ⟨hb1, hb2⟩ := and_true (show Bool.and (codeB cx.ntmps x) (codeB cx.ntmps y) = true from hb)
    have hl1 : LpsOk P cx x := fun q hq => hl q (List.mem_append_left _ hq)
    have hl2 : LpsOk P cx y := fun q hq => hl q (List.mem_append_right _ hq)
    unfold run at hr
    split at hr
    · rename_i b hb
      have hev := evO_ok h c
      rw [hb] at hev
      have hev : a.eval c = .bool b := hev
      refine wp_cond (t := b) hev ?_
      split at hr
      · rename_i hbt
        have hbt : b = true := hbt
        subst hbt
        exact run_wp hcx hmix x hb1 hl1 hr h fun a1 w1 g1 S1 h1 e1 k1 => hQ a1 w1 g1 S1 h1 e1 (k1.mono fun t ht => List.mem_append_left _ ht)
      · rename_i hbt
        have hbt : b = false := by
          have hbt : ¬ b = true := hbt
          exact Bool.eq_false_iff.2 hbt
        subst hbt
        exact run_wp hcx hmix y hb2 hl2 hr h fun a1 w1 g1 S1 h1 e1 k1 => hQ a1 w1 g1 S1 h1 e1 (k1.mono fun t ht => List.mem_append_right _ ht)
    · cases hr
  | .block id c, st, st', o, hb, hl, hr, g, S, a, w, h, Q, hQ => by
    by_cases hc : ∃ c', c = .loop c'
    · obtain ⟨c', rfl⟩ := hc
      unfold run at hr
      split at hr
      · rename_i ls hls
        split at hr
        · rename_i r hstep
          split at hr
          · rename_i hpre
            cases hr
            exact loop_wp (hl (id, c') (List.mem_singleton.2 rfl) ls hls) hstep hpre h hQ
          · cases hr
        · cases hr
      · cases hr
    · have hrun : run cx (.block id c) st = inBlock id (run cx c st) := by
        cases c <;> first | rfl | exact absurd ⟨_, rfl⟩ hc
      have hlps : loopsOf (.block id c) = loopsOf c := by
        cases c <;> first | rfl | exact absurd ⟨_, rfl⟩ hc
      have hl1 : LpsOk P cx c := fun q hq => hl q (by rw [hlps]; exact hq)
      rw [hrun] at hr
      refine wp_block ?_
      cases hs : run cx c st with
      | none => rw [hs] at hr; cases hr
      | some p =>
        obtain ⟨o1, st1⟩ := p
        rw [hs] at hr
        refine run_wp hcx hmix c hb hl1 hs h fun a1 w1 g1 S1 h1 e1 k1 => ?_
        cases o1 with
        | norm =>
          cases hr
          exact hQ a1 w1 g1 S1 h1 e1 k1
        | ret =>
          cases hr
          exact hQ a1 w1 g1 S1 h1 e1 k1
        | exit i =>
          have hr : cond (Nat.beq i id) (some (Out.norm, st1)) (some (Out.exit i, st1)) = some (o, st') := hr
          show (if i = id then Q .normal a1 w1 else Q (.exit i) a1 w1)
          cases hi : Nat.beq i id with
          | true =>
            rw [hi] at hr
            cases hr
            rw [if_pos (beq_true hi)]
            exact hQ a1 w1 g1 S1 h1 e1 k1
          | false =>
            rw [hi] at hr
            cases hr
            rw [if_neg (fun e => by rw [e, beq_self] at hi; cases hi)]
            exact hQ a1 w1 g1 S1 h1 e1 k1
  | .loop c, st, st', o, _, _, hr, _, _, _, _, _, _, _ => by cases hr
  | .goto l, st, st', o, _, _, hr, _, _, _, _, _, _, _ => by cases hr
  | .label l, st, st', o, _, _, hr, _, _, _, _, _, _, _ => by cases hr
  | .rangeFunc _ _ _ _, st, st', o, _, _, hr, _, _, _, _, _, _, _ => by cases hr
  | .scope _, st, st', o, _, _, hr, _, _, _, _, _, _, _ => by cases hr
  | .refuse _, st, st', o, _, _, hr, _, _, _, _, _, _, _ => by cases hr
end
end Go.Rx

/-
  ENGINE, part Zc: contracts gathered; a loop's rounds by a measure; plain facts about numbers and lists.
  Seat-independent.
-/
import Derived.Test.YtoagkidolpcigaaRxY
import Derived.IntWalk
namespace Go.Rx
open Go Go.RowKit
set_option linter.unusedVariables false
set_option linter.unusedSimpArgs false

theorem wp_loop_k {P : Program} {Q : Exit → Act → World → Prop} {c : Code} (I : Nat → Act → World → Prop) (h0 : ∀ a w, ¬ I 0 a w) (round : ∀ k a w, I (k + 1) a w → c.wp P (Exit.then (I k) Q) a w) {k : Nat} {a : Act} {w : World} (h : I k a w) : (Code.loop c).wp P Q a w := by
  intro b ks cs
  have key : ∀ n a w, I n a w → ∃ e a' w', Q e a' w' ∧ Arrives P (lone (b.at a (.code c :: .inLoop c :: ks)) cs w) b ks cs e a' w' := by
    intro n
    induction n with
    | zero => exact fun a w h => absurd h (h0 a w)
    | succ n ih =>
      intro a w hI
      obtain ⟨e, a₁, w₁, hq, harr⟩ := round n a w hI b (.inLoop c :: ks) cs
      cases e with
      | normal =>
        obtain ⟨e₂, a₂, w₂, hq₂, harr₂⟩ := ih a₁ w₁ hq
        exact ⟨e₂, a₂, w₂, hq₂, .of_steps (Steps.trans harr (.one step_inLoop)) harr₂⟩
      | exit id => exact ⟨_, a₁, w₁, hq, .pass (x := .inLoop c) rfl (fun _ _ => .inl (by simp)) harr⟩
      | goto l => exact ⟨_, a₁, w₁, hq, .pass (x := .inLoop c) rfl (fun _ _ => .inl (by simp)) harr⟩
      | ret => exact ⟨_, a₁, w₁, hq, .pass (x := .inLoop c) rfl (fun _ _ => .inl (by simp)) harr⟩
      | panic ch => exact ⟨_, a₁, w₁, hq, .pass (x := .inLoop c) rfl (fun _ _ => .inl (by simp)) harr⟩
      | outgrown => exact ⟨_, a₁, w₁, hq, .pass (x := .inLoop c) rfl (fun _ _ => .inl (by simp)) harr⟩
  obtain ⟨e, a', w', hq, harr⟩ := key k a w h
  exact ⟨e, a', w', hq, .of_steps (.one step_loop) harr⟩

/-! ### the variables stay where they were -/
def SameB : List PK → List Value → List Value → Prop
  | [], [], [] => True
  | .box _ :: ps, v :: vs, u :: us => v = u ∧ SameB ps vs us
  | .fn _ _ :: ps, v :: vs, u :: us => v = u ∧ SameB ps vs us
  | .wr _ _ :: ps, v :: vs, u :: us => v = u ∧ SameB ps vs us
  | .c _ :: ps, _ :: vs, _ :: us => SameB ps vs us
  | .agg _ :: ps, _ :: vs, _ :: us => SameB ps vs us
  | _, _, _ => False
theorem SameB.blks : ∀ {ps : List PK} {vs us : List Value}, SameB ps vs us → boxBlks ps us = boxBlks ps vs
  | [], [], [], _ => rfl
  | .box _ :: ps, v :: vs, u :: us, h => by
    obtain ⟨rfl, h⟩ := h
    show bl _ ++ boxBlks ps us = bl _ ++ boxBlks ps vs
    rw [SameB.blks h]
  | .fn _ _ :: ps, v :: vs, u :: us, h => by
    obtain ⟨rfl, h⟩ := h
    have ih := SameB.blks h
    cases v <;> try rfl
    show blksOf _ ++ boxBlks ps us = blksOf _ ++ boxBlks ps vs
    rw [ih]
  | .wr ag ks :: ps, v :: vs, u :: us, h => by
    obtain ⟨rfl, h⟩ := h
    show mutBlks ks _ ++ boxBlks ps us = mutBlks ks _ ++ boxBlks ps vs
    rw [SameB.blks h]
  | .c _ :: ps, _ :: vs, _ :: us, h => SameB.blks (ps := ps) h
  | .agg _ :: ps, _ :: vs, _ :: us, h => SameB.blks (ps := ps) h
theorem SameB.bxs {w : World} {S : Nat → Prop} : ∀ {ps : List PK} {vs us : List Value} {y : Bxs.den ps} {B : List Nat}, SameB ps vs us → bxsV w S ps us y B → bxsV w S ps vs y B
  | [], [], [], _, _, _, hb => hb
  | .box _ :: ps, v :: vs, u :: us, y, B, h, hb => by
    obtain ⟨rfl, h⟩ := h
    obtain ⟨blk, vs', E, B1, B2, h1, h2, h3, h4, h5⟩ := hb
    exact ⟨blk, vs', E, B1, B2, h1, h2, h3, h4, SameB.bxs h h5⟩
  | .fn _ _ :: ps, v :: vs, u :: us, y, B, h, hb => by
    obtain ⟨rfl, h⟩ := h
    obtain ⟨us', B1, B2, h1, h2, h3, h4⟩ := hb
    exact ⟨us', B1, B2, h1, h2, h3, SameB.bxs h h4⟩
  | .wr _ _ :: ps, v :: vs, u :: us, y, B, h, hb => by
    obtain ⟨rfl, h⟩ := h
    exact ⟨hb.1, SameB.bxs h hb.2⟩
  | .c _ :: ps, _ :: vs, _ :: us, y, B, h, hb => SameB.bxs (ps := ps) h hb
  | .agg _ :: ps, _ :: vs, _ :: us, y, B, h, hb => SameB.bxs (ps := ps) h hb
theorem SameB.trans : ∀ {ps : List PK} {vs us ts : List Value}, SameB ps vs us → SameB ps us ts → SameB ps vs ts
  | [], [], [], [], _, _ => trivial
  | .box _ :: ps, v :: vs, u :: us, t :: ts, h, k => ⟨h.1.trans k.1, SameB.trans h.2 k.2⟩
  | .fn _ _ :: ps, v :: vs, u :: us, t :: ts, h, k => ⟨h.1.trans k.1, SameB.trans h.2 k.2⟩
  | .wr _ _ :: ps, v :: vs, u :: us, t :: ts, h, k => ⟨h.1.trans k.1, SameB.trans h.2 k.2⟩
  | .c _ :: ps, _ :: vs, _ :: us, _ :: ts, h, k => SameB.trans (ps := ps) h k
  | .agg _ :: ps, _ :: vs, _ :: us, _ :: ts, h, k => SameB.trans (ps := ps) h k

section
variable {m : Mem} {g : Nat → Value} {S : Nat → Prop} {w : World}

theorem ptr_same {ks : List CK} {id : Nat} {x : CKs.den ks} {u v : Value} (h : boxIn m ks id 0 = some x) (hu : PtrOk m g id 0 0 u) (hv : PtrOk m g id 0 0 v) : u = v := by
  obtain ⟨n, cs, b, h1, h2, h3, h4⟩ := boxIn_at h hu
  obtain ⟨n', cs', b', k1, k2, k3, k4⟩ := boxIn_at h hv
  rw [h4, k4, ← h3, ← k3]
theorem caps_same : ∀ {bs : List (List CK)} {id : Nat} {x0 x : CKss.den bs} {caps : List (Nat × Nat × Nat)} {us vs : List Value}, sameCaps id bs caps = true → boxesIn m bs caps = some x → All2 (fun p v => PtrOk m g p.1 p.2.1 p.2.2 v ∧ v.oneCell' = true) (boxesNewOut id noMem bs x0).1 us →
    All2 (fun p v => PtrOk m g p.1 p.2.1 p.2.2 v ∧ v.oneCell' = true) caps vs → us = vs
  | [], id, x0, x, [], [], [], _, _, _, _ => rfl
  | [], id, x0, x, [], _ :: _, _, _, _, h, _ => h.elim
  | [], id, x0, x, [], [], _ :: _, _, _, _, h => h.elim
  | [], id, x0, x, _ :: _, _, _, h, _, _, _ => by simp [sameCaps] at h
  | _ :: _, id, x0, x, [], _, _, h, _, _, _ => by simp [sameCaps] at h
  | ks :: bs, id, x0, x, c :: caps, [], _, _, _, h, _ => h.elim
  | ks :: bs, id, x0, x, c :: caps, _ :: _, [], _, _, _, h => h.elim
  | ks :: bs, id, x0, x, (i, v0, o) :: caps, u :: us, v :: vs, hs, hx, hu, hv => by
    obtain ⟨s1, hs⟩ := and_true (show Bool.and (Nat.beq i id) (Bool.and (Nat.beq v0 0) (Bool.and (Nat.beq o 0) (sameCaps (id + 8) bs caps))) = true from hs)
    obtain ⟨s2, hs⟩ := and_true hs
    obtain ⟨s3, hs⟩ := and_true hs
    have e1 := beq_true s1
    have e2 := beq_true s2
    have e3 := beq_true s3
    subst e1 e2 e3
    simp only [boxesIn] at hx
    split at hx
    · rename_i a b ha hb
      rw [ptr_same ha hu.1.1 hv.1.1, caps_same (x0 := x0.2) hs hb hu.2 hv.2]
    · cases hx
theorem same_bx : ∀ {ps : List PK} {i : Nat} {x0 y : PKs.den ps} {xs : List A} {vs us : List Value}, sameBox i ps xs = true → argsIn m ps xs = some y → All2 (Vc m g S w) (partsOut (64 * i) noMem ps x0).1 vs → All2 (Ac m g S w) xs us → SameB ps vs us := by
  intro ps
  induction ps with
  | nil =>
    intro i x0 y xs vs us hs hy hv hu
    cases xs with
    | cons x xs => simp [sameBox] at hs
    | nil => cases vs with
      | cons v vs => exact hv.elim
      | nil => cases us with
        | cons u us => exact hu.elim
        | nil => trivial
  | cons p ps ih =>
    intro i x0 y xs vs us hs hy hv hu
    have e64 : 64 * i + 64 = 64 * (i + 1) := by omega
    cases xs with
    | nil => cases p <;> simp [sameBox] at hs
    | cons x xs => cases vs with
      | nil => exact hv.elim
      | cons v vs => cases us with
        | nil => exact hu.elim
        | cons u us =>
          have hv1 : Vc m g S w (partOut (64 * i) noMem p x0.1).1 v := hv.1
          have hv2 : All2 (Vc m g S w) (partsOut (64 * (i + 1)) noMem ps x0.2).1 vs := by rw [← e64]; exact hv.2
          simp only [argsIn] at hy
          split at hy
          · rename_i a b ha hb
            cases p with
            | c k => exact ih (i := i + 1) hs hb hv2 hu.2
            | agg k => exact ih (i := i + 1) hs hb hv2 hu.2
            | wr ag ks =>
              unfold sameBox at hs
              split at hs <;> try (rename_i hh; cases hh; done)
              · rename_i e1 e2
                cases e1
              · rename_i e1 e2
                cases e1
              · rename_i e ps' id v0 xs' e1 e2
                cases e1
                cases e2
                obtain ⟨s1, hs1⟩ := and_true hs
                obtain ⟨s2, hs2⟩ := and_true hs1
                have e1 := beq_true s1
                have e2 := beq_true s2
                subst e1 e2
                refine ⟨?_, ih hs2 hb hv2 hu.2⟩
                have ha : cellsIn m [.own e] [.ref (64 * i) 0] = some a := ha
                simp only [cellsIn, cellIn] at ha
                split at ha
                · rename_i a' b' ha' _
                  split at ha'
                  · rename_i n e' zs ho
                    obtain ⟨hn, _⟩ := cond_some ha'
                    obtain rfl := beq_true hn
                    have h1 : v = g (64 * i) := ref_arr (S := S) (w := w) ho hv1
                    have h2 : u = g (64 * i) := ref_arr (S := S) (w := w) ho hu.1
                    rw [h1, h2]
                  · cases ha'
                · cases ha
              · rename_i e1 e2
                cases e1
              · rename_i e1 e2
                cases e1
              · cases hs
            | box ks =>
              match x, hs, ha, hu with
              | .v (.c (.ptr id v0 o)), hs, ha, hu =>
                obtain ⟨s1, hs⟩ := and_true (show Bool.and (Nat.beq id (64 * i)) (Bool.and (Nat.beq v0 0) (Bool.and (Nat.beq o 0) (sameBox (i + 1) ps xs))) = true from hs)
                obtain ⟨s2, hs⟩ := and_true hs
                obtain ⟨s3, hs4⟩ := and_true hs
                have e1 := beq_true s1
                have e2 := beq_true s2
                have e3 := beq_true s3
                subst e1 e2 e3
                exact ⟨ptr_same ha hv1.1 hu.1.1, ih hs4 hb hv2 hu.2⟩
            | fn f bs =>
              match x, hs, ha, hu with
              | .v (.c (.fn f' caps)), hs, ha, hu =>
                obtain ⟨s1, hs⟩ := and_true (show Bool.and (Nat.beq f f') (Bool.and (sameCaps (64 * i) bs caps) (sameBox (i + 1) ps xs)) = true from hs)
                obtain ⟨s2, hs4⟩ := and_true hs
                have e1 := beq_true s1
                subst e1
                obtain ⟨_, ha1⟩ := cond_some ha
                obtain ⟨us1, rfl, hus1⟩ := hv1
                obtain ⟨us2, rfl, hus2⟩ := hu.1
                exact ⟨by rw [caps_same (x0 := x0.1) s2 ha1 hus1 hus2], ih hs4 hb hv2 hu.2⟩
          · cases hy

/-! ### the rounds so far -/
structure Fr (ins : List PK) (w0 : World) (S0 : Nat → Prop) (B0 : List Nat) (vals0 : List Value) (w : World) (S : Nat → Prop) (B : List Nat) (vals : List Value) : Prop where
  sub : ∀ b, S0 b → S b
  ssub : ∀ b, S b → S0 b ∨ b ∈ B0 ∨ w0.heap.size ≤ b
  bown : ∀ b ∈ B, b ∈ B0 ∨ w0.heap.size ≤ b
  keep : ∀ b, b < w0.heap.size → b ∉ B0 → w.heap[b]? = w0.heap[b]?
  os : w.os = w0.os
  tape : w.tape = w0.tape
  output : w.output = w0.output
  size : w0.heap.size ≤ w.heap.size
  same : SameB ins vals0 vals

theorem SameB.refl : ∀ {ps : List PK} {vs : List Value}, ps.length = vs.length → SameB ps vs vs
  | [], [], _ => trivial
  | p :: ps, v :: vs, h => by
    have ih := SameB.refl (ps := ps) (vs := vs) (by simpa using h)
    cases p with
    | c k => exact ih
    | agg k => exact ih
    | box k => exact ⟨rfl, ih⟩
    | wr ag k => exact ⟨rfl, ih⟩
    | fn f k => exact ⟨rfl, ih⟩

theorem Fr.trans {ins : List PK} {w0 w1 w2 : World} {S0 S1 S2 : Nat → Prop} {B0 B1 B2 : List Nat} {v0 v1 v2 : List Value} (h : Fr ins w0 S0 B0 v0 w1 S1 B1 v1) (k : Fr ins w1 S1 B1 v1 w2 S2 B2 v2) : Fr ins w0 S0 B0 v0 w2 S2 B2 v2 where
  sub b hb := k.sub b (h.sub b hb)
  ssub b hb := by
    rcases k.ssub b hb with e | e | e
    · exact h.ssub b e
    · exact .inr (h.bown b e)
    · exact .inr (.inr (Nat.le_trans h.size e))
  bown b hb := by
    rcases k.bown b hb with e | e
    · exact h.bown b e
    · exact .inr (Nat.le_trans h.size e)
  keep b hb hn := by
    refine (k.keep b (Nat.lt_of_lt_of_le hb h.size) fun e => ?_).trans (h.keep b hb hn)
    rcases h.bown b e with e | e
    · exact hn e
    · omega
  os := k.os.trans h.os
  tape := k.tape.trans h.tape
  output := k.output.trans h.output
  size := Nat.le_trans h.size k.size
  same := h.same.trans k.same

theorem Told.after {sp : Spec} {x x0 : PKs.den sp.ins} {w0 w1 w2 : World} {S0 S1 S2 : Nat → Prop} {B0 B : List Nat} {v0 v1 : List Value} {val : Value} {B1 B2 : List Nat} (h : Fr sp.ins w0 S0 B0 v0 w1 S1 B v1) (k : Told sp x w1 S1 v1 B val w2 S2 B1 B2) (hx : sp.g x = sp.g x0) : Told sp x0 w0 S0 v0 B0 val w2 S2 B1 B2 where
  res := hx ▸ k.res
  bxs := hx ▸ h.same.bxs k.bxs
  nodup := k.nodup
  apart b hb := by
    obtain ⟨q1, q2, q3⟩ := k.apart b hb
    refine ⟨q1, by rw [← h.same.blks]; exact q2, ?_⟩
    rcases q3 with q3 | q3
    · exact h.bown b q3
    · exact .inr (Nat.le_trans h.size q3)
  boxes b hb := k.boxes b (by rw [h.same.blks]; exact hb)
  sub b hb := k.sub b (h.sub b hb)
  ssub b hb := by
    rcases k.ssub b hb with e | e | e
    · exact h.ssub b e
    · exact .inr (h.bown b e)
    · exact .inr (.inr (Nat.le_trans h.size e))
  slt := k.slt
  keep b hb hn := by
    refine (k.keep b (Nat.lt_of_lt_of_le hb h.size) fun e => ?_).trans (h.keep b hb hn)
    rcases h.bown b e with e | e
    · exact hn e
    · omega
  os := k.os.trans h.os
  tape := k.tape.trans h.tape
  output := k.output.trans h.output
  size := Nat.le_trans h.size k.size
end
end Go.Rx
namespace Go.Rx
open Go Go.RowKit
set_option linter.unusedVariables false
set_option linter.unusedSimpArgs false

theorem zipGet_ok {m : Mem} {g : Nat → Value} {S : Nat → Prop} {w : World} (k : Nat → Value) (t : Nat) : ∀ (l : List Nat) (xs : List A), All2 (Ac m g S w) xs (l.map k) → Ac m g S w (zipGet l xs t) (k t)
  | [], _, _ => trivial
  | s :: l, [], h => h.elim
  | s :: l, x :: xs, h => by
    show Ac m g S w (cond (Nat.beq t s) x (zipGet l xs t)) (k t)
    cases hb : Nat.beq t s with
    | true =>
      rw [beq_true hb]
      exact h.1
    | false => exact zipGet_ok k t l xs h.2

def valsOf (l : List Nat) (a : Act) : List Value := l.map fun t => a.tmps.getD t undef

theorem lp_ok {P : Program} {cx : Cx} (hcx : CxOk P cx) (hmix : P.follows .mixedOrders = true) {id : Nat} {c : Code} {ls : LSpec} (hcode : codeB cx.ntmps c = true) (hlps : LpsOk P cx c) (hlen : Nat.beq ls.ins.length ls.live.length = true) (hnew : noDup (partsNew 0 ls.ins) = true)
    (hrounds : ∀ x, ls.pre x = true → ∃ k, iter (roundRun cx id c ls) k x = some (ls.g x)) : LpOk P cx.ntmps id c ls := by
  intro x0 hpre w0 S0 a0 B0 hsz hdf hparts hg Q hQ
  obtain ⟨k, hk⟩ := hrounds x0 hpre
  refine wp_block ?_
  refine wp_loop_k (fun k a w => ∃ x S B, a.tmps.size = cx.ntmps ∧ a.defers = [] ∧ partsV w S ls.ins x (valsOf ls.live a) B ∧ Given S w B ∧ Fr ls.ins w0 S0 B0 (valsOf ls.live a0) w S B (valsOf ls.live a) ∧ Kept (dsts c) a0 a ∧ iter (roundRun cx id c ls) k x = some (ls.g x0)) ?_ ?_ (k := k)
    ⟨x0, S0, B0, hsz, hdf, hparts, hg, ⟨fun _ h => h, fun _ h => .inl h, fun _ h => .inl h, fun _ _ _ => rfl, rfl, rfl, rfl, Nat.le_refl _, SameB.refl (by simp [valsOf, beq_true hlen])⟩, Kept.refl _ _, hk⟩
  · rintro a w ⟨x, S, B, _, _, _, _, _, _, h⟩
    cases h
  · rintro k a w ⟨x, S, B, hsz, hdf, hparts, hg, hfr, hkept, hit⟩
    obtain ⟨g0, hm0, hv0, hown0⟩ := start_ok hparts hg hnew
    have hS : SRel cx.ntmps (lstart ls.live ls.ins x) g0 S a w := ⟨hm0, hsz, hdf, fun t => zipGet_ok (fun t => a.tmps.getD t undef) t ls.live _ (argsOut_map hv0)⟩
    unfold iter at hit
    cases hround : roundRun cx id c ls x with
    | none => rw [hround] at hit; cases hit
    | some res =>
      rw [hround] at hit
      unfold roundRun at hround
      split at hround
      · rename_i o st' hrn
        refine run_wp hcx hmix c hcode hlps hrn hS fun a1 w1 g1 S1 h1 e1 k1 => ?_
        have hv1 : All2 (Vc st'.m g1 S1 w1) (partsOut 0 noMem ls.ins x).1 (valsOf ls.live a) := hv0.mono (Vc.tr e1.tr e1.hold e1.sub)
        have hkept1 : Kept (dsts c) a0 a1 := hkept.again k1
        have hslots : ∀ l : List Nat, All2 (Ac st'.m g1 S1 w1) (l.map st'.sl) (valsOf l a1) := fun l => All2.map_left l fun t _ => h1.slot t
        have stop : ∀ flag, stopA ls flag st' = some res → Q (exitOf (flagOut flag)) a1 w1 := fun flag hst => by
          obtain ⟨hb, hst⟩ := cond_some hst
          obtain ⟨_, hids⟩ := and_true hb
          split at hst
          · rename_i y b hy hbx
            cases hst
            have hgx : ((flag, y), b) = ls.g x0 := Option.some.inj hit
            obtain ⟨S', B1, B2, r1, r2, r3, r4, r5, r6, r7, r8⟩ := export_ok h1.mr hv1 (hslots ls.outs) hids hy hbx
            have hT : Told ls.sp x0 w S (valsOf ls.live a) B (.tuple (valsOf ls.outs a1).toArray) w1 S' B1 B2 := by
              refine told_of hg hown0 e1 ?_ ?_ r3 r4 r5 r6 r7 r8
              · show ∃ vs : List Value, _ = Value.tuple vs.toArray ∧ partsV w1 S' ls.out (ls.g x0).1.2 vs B1
                rw [← hgx]
                exact ⟨_, rfl, r1⟩
              · show bxsV w1 S' ls.ins (valsOf ls.live a) (ls.g x0).2 B2
                rw [← hgx]
                exact r2
            have := hQ a1 w1 S' B1 B2 (Told.after hfr hT rfl) h1.size h1.defers hkept1
            rw [← hgx] at this
            exact this
          · cases hst
        cases o with
        | norm =>
          simp only [lend] at hround
          obtain ⟨hb, hround⟩ := cond_some hround
          obtain ⟨hsame, hids⟩ := and_true hb
          split at hround
          · rename_i x' hx'
            cases hround
            obtain ⟨hnd, hlent⟩ := and_true hids
            generalize hI : argsIds st'.m ls.ins (ls.live.map st'.sl) = I at hnd hlent
            have hlent' : ∀ i ∈ I.lent, i ∉ I.ids := fun i hi e => by
              have := List.all_eq_true.1 hlent i hi
              rw [inL_iff.2 e] at this
              cases this
            have hS' : ∀ q, S1 q → (fun q => S1 q ∨ ∃ id ∈ I.lent, own st'.m g1 id = some q) q := fun q h => .inl h
            have hp := argsIn_ok h1.mr hS' hx' (hslots ls.live) fun j hj q _ hq => .inr ⟨j, by rw [← hI]; exact hj, hq⟩
            rw [hI] at hp
            have ow : ∀ {q}, (∃ j, own st'.m g1 j = some q) → q ∈ B ∨ w.heap.size ≤ q := fun {q} ⟨j, hj⟩ => by
              rcases e1.own' j q hj with ⟨i, hi⟩ | h
              · exact .inl (hown0 i q hi)
              · exact .inr h
            have hsb := same_bx (i := 0) hsame hx' hv1 (hslots ls.live)
            refine ⟨x', _, _, h1.size, h1.defers, hp, ⟨blks_nodup h1.mr hnd, fun q hq hs => ?_, fun q hq => ?_, fun q hq => ?_⟩, hfr.trans ⟨fun q hq => .inl (e1.sub q hq), fun q hq => ?_, fun q hq => ?_, fun q hq hn => e1.keep q hq fun j hj => hn (hown0 j q hj), e1.os, e1.tape, e1.output, e1.size, hsb⟩, hkept1, hit⟩
            · obtain ⟨j, hj, ho⟩ := blks_mem hq
              rcases hs with hs | ⟨i, hi, hio⟩
              · exact h1.mr.sdisj j q ho hs
              · have := h1.mr.disj j i q ho hio
                subst this
                exact hlent' j hi hj
            · obtain ⟨j, hj, ho⟩ := blks_mem hq
              exact h1.mr.own_lt ho
            · rcases hq with hq | ⟨j, _, ho⟩
              · exact h1.mr.slt q hq
              · exact h1.mr.own_lt ho
            · rcases hq with hq | ⟨j, _, ho⟩
              · rcases e1.ssub q hq with h | ⟨j, hj⟩ | h
                · exact .inl h
                · exact .inr (.inl (hown0 j q hj))
                · exact .inr (.inr h)
              · exact .inr (ow ⟨j, ho⟩)
            · obtain ⟨j, hj, ho⟩ := blks_mem hq
              exact ow ⟨j, ho⟩
          · cases hround
        | ret => exact stop 1 hround
        | exit i =>
          simp only [lend] at hround
          show (if i = id then Q .normal a1 w1 else Q (.exit i) a1 w1)
          cases hi : Nat.beq i id with
          | true =>
            rw [hi] at hround
            rw [if_pos (beq_true hi)]
            exact stop 0 hround
          | false =>
            rw [hi] at hround
            rw [if_neg (fun e => by rw [e, beq_self] at hi; cases hi)]
            exact stop (i + 2) hround
      · cases hround
end Go.Rx
namespace Go.Rx
open Go Go.RowKit
set_option linter.unusedVariables false
set_option linter.unusedSimpArgs false

/-! ### contracts gathered -/
def AllOk (P : Program) (f : Nat) : List Spec → Prop
  | [] => True
  | s :: r => SpecOk P f s ∧ AllOk P f r
def PhiOk (P : Program) : List (Nat × List Spec) → Prop
  | [] => True
  | p :: r => AllOk P p.1 p.2 ∧ PhiOk P r
theorem allOk_mem {P : Program} {f : Nat} : ∀ {l : List Spec}, AllOk P f l → ∀ sp ∈ l, SpecOk P f sp
  | [], _, _, h => by cases h
  | s :: r, h, sp, hm => by
    rcases List.mem_cons.1 hm with rfl | hm
    · exact h.1
    · exact allOk_mem h.2 sp hm
theorem phiOk_lk {P : Program} : ∀ {L : List (Nat × List Spec)}, PhiOk P L → ∀ f sp, sp ∈ lkS L f → SpecOk P f sp
  | [], _, f, sp, h => by cases h
  | (k, s) :: r, hp, f, sp, h => by
    unfold lkS at h
    cases hb : Nat.beq k f with
    | true =>
      rw [hb] at h
      rw [← beq_true hb]
      exact allOk_mem hp.1 sp h
    | false =>
      rw [hb] at h
      exact phiOk_lk hp.2 f sp h
theorem cxOk {P : Program} {T : Tab} {L : List (Nat × List Spec)} {lp : List (Nat × LSpec)} {mv : List Nat} {n : Nat} (hT : TabOk P T) (hE : EqOk P T) (h : PhiOk P L) : CxOk P (mkCx T L lp mv n) := ⟨hT, hE, phiOk_lk h⟩

def LpsL (P : Program) (cx : Cx) : List (Nat × Code) → Prop
  | [] => True
  | q :: r => (∀ ls, cx.lp q.1 = some ls → LpOk P cx.ntmps q.1 q.2 ls) ∧ LpsL P cx r
theorem lpsL_mem {P : Program} {cx : Cx} : ∀ {l : List (Nat × Code)}, LpsL P cx l → ∀ q ∈ l, ∀ ls, cx.lp q.1 = some ls → LpOk P cx.ntmps q.1 q.2 ls
  | [], _, _, h => by cases h
  | s :: r, h, q, hm => by
    rcases List.mem_cons.1 hm with rfl | hm
    · exact h.1
    · exact lpsL_mem h.2 q hm
theorem lps_of {P : Program} {cx : Cx} {c : Code} {l : List (Nat × Code)} (h : loopsOf c = l) (hl : LpsL P cx l) : LpsOk P cx c := by
  intro q hq
  rw [h] at hq
  exact lpsL_mem hl q hq
theorem lps_none {P : Program} {cx : Cx} {c : Code} (h : loopsOf c = []) : LpsOk P cx c := lps_of h trivial
theorem lp_at {P : Program} {cx : Cx} {i : Nat} {b : Code} {ls : LSpec} (h : LpOk P cx.ntmps i b ls) (e : cx.lp i = some ls) : ∀ ls', cx.lp i = some ls' → LpOk P cx.ntmps i b ls' := by
  intro ls' h'
  rw [e] at h'
  cases h'
  exact h

/-- A function keeps its contract: what is to be reckoned, in one list. -/
def funB (cx : Cx) (F : Func) (sp : Spec) : Bool :=
  Bool.and F.body.isSome (Bool.and (Nat.beq F.ntmps cx.ntmps) (Bool.and (codeB cx.ntmps (bodyOf F)) (Bool.and (Nat.ble sp.ins.length cx.ntmps) (noDup (partsNew 0 sp.ins)))))
theorem fun_okB {P : Program} {cx : Cx} (hcx : CxOk P cx) (hmix : P.follows .mixedOrders = true) {f : Nat} {F : Func} {sp : Spec} (hf : P.funcs[f]? = some F) (hname : F.name ≠ "runtime.NumGoroutine") (hB : funB cx F sp = true)
    (hlps : LpsOk P cx (bodyOf F)) (hrun : ∀ x, sp.pre x = true → funK cx F sp.ins sp.out x = some (sp.g x)) : SpecOk P f sp := by
  unfold funB at hB
  simp only [Bool.and_eq_true] at hB
  obtain ⟨h1, h2, h3, h4, h5⟩ := hB
  exact fun_ok hcx hmix hf hname h1 (beq_true h2) h3 h4 h5 hlps fun x hx => by rw [funK_eq]; exact hrun x hx

/-! ### rounds by a measure -/
def StepOk (ls : LSpec) (inv : PKs.den ls.ins → Prop) (μ : PKs.den ls.ins → Nat) (x : PKs.den ls.ins) : Option (LRes ls.ins ls.out) → Prop
  | none => False
  | some (.go x') => inv x' ∧ μ x' < μ x ∧ ls.g x' = ls.g x
  | some (.stop f y b) => ls.g x = ((f, y), b)
theorem iter_of {ls : LSpec} {f : PKs.den ls.ins → Option (LRes ls.ins ls.out)} (inv : PKs.den ls.ins → Prop) (μ : PKs.den ls.ins → Nat) (h : ∀ x, inv x → StepOk ls inv μ x (f x)) :
    ∀ (n : Nat) (x : PKs.den ls.ins), μ x < n → inv x → ∃ k, iter f k x = some (ls.g x)
  | 0, x, hn, _ => by omega
  | n + 1, x, hn, hx => by
    have hs := h x hx
    cases hf : f x with
    | none => rw [hf] at hs; exact hs.elim
    | some r =>
      rw [hf] at hs
      cases r with
      | go x' =>
        obtain ⟨h1, h2, h3⟩ := hs
        obtain ⟨k, hk⟩ := iter_of inv μ h n x' (by omega) h1
        refine ⟨k + 1, ?_⟩
        unfold iter
        rw [hf]
        simp only
        rw [hk, h3]
      | stop fl y b =>
        refine ⟨1, ?_⟩
        unfold iter
        rw [hf]
        simp only
        have : ls.g x = ((fl, y), b) := hs
        rw [this]
def lpB (n : Nat) (c : Code) (ls : LSpec) : Bool := Bool.and (codeB n c) (Bool.and (Nat.beq ls.ins.length ls.live.length) (noDup (partsNew 0 ls.ins)))
theorem lp_okB {P : Program} {cx : Cx} (hcx : CxOk P cx) (hmix : P.follows .mixedOrders = true) {id : Nat} {c : Code} {ls : LSpec} (hB : lpB cx.ntmps c ls = true) (hlps : LpsOk P cx c)
    (inv : PKs.den ls.ins → Prop) (μ : PKs.den ls.ins → Nat) (h0 : ∀ x, ls.pre x = true → inv x) (hstep : ∀ x, inv x → StepOk ls inv μ x (roundK cx id c ls x)) : LpOk P cx.ntmps id c ls := by
  unfold lpB at hB
  simp only [Bool.and_eq_true] at hB
  obtain ⟨h1, h2, h3⟩ := hB
  exact lp_ok hcx hmix h1 hlps h2 h3 fun x hx => iter_of inv μ (fun x hi => by rw [roundK_eq]; exact hstep x hi) (μ x + 1) x (Nat.lt_succ_self _) (h0 x hx)

/-! ### numbers and lists -/
theorem w64 {n : Int} (h0 : -9223372036854775808 ≤ n) (h1 : n ≤ 9223372036854775807) : IntKind.i64.wrap n = n := IntWalk.i64_in n ⟨h0, h1⟩
theorem drop_cons {α : Type} (d : α) : ∀ {xs : List α} {i : Nat}, i < xs.length → xs.drop i = xs.getD i d :: xs.drop (i + 1)
  | [], _, h => by simp at h
  | x :: xs, 0, _ => rfl
  | x :: xs, i + 1, h => by
    show xs.drop i = _
    rw [drop_cons d (xs := xs) (i := i) (by simpa using h)]
    simp
theorem drop_nil {α : Type} {xs : List α} {i : Nat} (h : xs.length ≤ i) : xs.drop i = [] := List.drop_eq_nil_of_le h
theorem take_succ {α : Type} (d : α) : ∀ {xs : List α} {i : Nat}, i < xs.length → xs.take (i + 1) = xs.take i ++ [xs.getD i d]
  | [], _, h => by simp at h
  | x :: xs, 0, _ => by simp
  | x :: xs, i + 1, h => by
    have := take_succ d (xs := xs) (i := i) (by simpa using h)
    simp [this]
theorem set_getD {α : Type} (d : α) {xs : List α} {i : Nat} : xs.set i (xs.getD i d) = xs := by
  apply List.ext_getElem (by simp)
  intro n h1 h2
  by_cases e : i = n
  · subst e
    have : i < xs.length := by simpa using h1
    simp [List.getD, this]
  · simp [e]
end Go.Rx

/-
  ENGINE, part Z: loops keep their contracts.
  Seat-independent.
-/
import Derived.Test.YteenlfeglffnoaaRxY
namespace Go.Rx
open Go Go.RowKit
set_option linter.unusedVariables false
set_option linter.unusedSimpArgs false

theorem wp_loop_k {P : Program} {Q : Exit → Act → World → Prop} {c : Code} (I : Nat → Act → World → Prop) (h0 : ∀ a w, ¬ I 0 a w) (round : ∀ k a w, I (k + 1) a w → c.wp P (Exit.then (I k) Q) a w) {k : Nat} {a : Act} {w : World} (h : I k a w) : (Code.loop c).wp P Q a w := by
  intro b ks cs
  have key : ∀ n a w, I n a w → ∃ e a' w', Q e a' w' ∧ Arrives P (lone (b.at a (.code c :: .inLoop c :: ks)) cs w) b ks cs e a' w' := by
    intro n
    induction n with
    | zero => exact fun a w h => absurd h (h0 a w)
    | succ n ih =>
      intro a w hI
      obtain ⟨e, a₁, w₁, hq, harr⟩ := round n a w hI b (.inLoop c :: ks) cs
      cases e with
      | normal =>
        obtain ⟨e₂, a₂, w₂, hq₂, harr₂⟩ := ih a₁ w₁ hq
        exact ⟨e₂, a₂, w₂, hq₂, .of_steps (Steps.trans harr (.one step_inLoop)) harr₂⟩
      | exit id => exact ⟨_, a₁, w₁, hq, .pass (x := .inLoop c) rfl (fun _ _ => .inl (by simp)) harr⟩
      | goto l => exact ⟨_, a₁, w₁, hq, .pass (x := .inLoop c) rfl (fun _ _ => .inl (by simp)) harr⟩
      | ret => exact ⟨_, a₁, w₁, hq, .pass (x := .inLoop c) rfl (fun _ _ => .inl (by simp)) harr⟩
      | panic ch => exact ⟨_, a₁, w₁, hq, .pass (x := .inLoop c) rfl (fun _ _ => .inl (by simp)) harr⟩
      | outgrown => exact ⟨_, a₁, w₁, hq, .pass (x := .inLoop c) rfl (fun _ _ => .inl (by simp)) harr⟩
  obtain ⟨e, a', w', hq, harr⟩ := key k a w h
  exact ⟨e, a', w', hq, .of_steps (.one step_loop) harr⟩

/-! ### the variables stay where they were -/
def SameB : List PK → List Value → List Value → Prop
  | [], [], [] => True
  | .box _ :: ps, v :: vs, u :: us => v = u ∧ SameB ps vs us
  | .fn _ _ :: ps, v :: vs, u :: us => v = u ∧ SameB ps vs us
  | .wr _ _ :: ps, v :: vs, u :: us => v = u ∧ SameB ps vs us
  | .c _ :: ps, _ :: vs, _ :: us => SameB ps vs us
  | .agg _ :: ps, _ :: vs, _ :: us => SameB ps vs us
  | _, _, _ => False
theorem SameB.blks : ∀ {ps : List PK} {vs us : List Value}, SameB ps vs us → boxBlks ps us = boxBlks ps vs
  | [], [], [], _ => rfl
  | .box _ :: ps, v :: vs, u :: us, h => by
    obtain ⟨rfl, h⟩ := h
    show bl _ ++ boxBlks ps us = bl _ ++ boxBlks ps vs
    rw [SameB.blks h]
  | .fn _ _ :: ps, v :: vs, u :: us, h => by
    obtain ⟨rfl, h⟩ := h
    have ih := SameB.blks h
    cases v <;> try rfl
    show blksOf _ ++ boxBlks ps us = blksOf _ ++ boxBlks ps vs
    rw [ih]
  | .wr ag ks :: ps, v :: vs, u :: us, h => by
    obtain ⟨rfl, h⟩ := h
    show mutBlks ks _ ++ boxBlks ps us = mutBlks ks _ ++ boxBlks ps vs
    rw [SameB.blks h]
  | .c _ :: ps, _ :: vs, _ :: us, h => SameB.blks (ps := ps) h
  | .agg _ :: ps, _ :: vs, _ :: us, h => SameB.blks (ps := ps) h
theorem SameB.bxs {w : World} {S : Nat → Prop} : ∀ {ps : List PK} {vs us : List Value} {y : Bxs.den ps} {B : List Nat}, SameB ps vs us → bxsV w S ps us y B → bxsV w S ps vs y B
  | [], [], [], _, _, _, hb => hb
  | .box _ :: ps, v :: vs, u :: us, y, B, h, hb => by
    obtain ⟨rfl, h⟩ := h
    obtain ⟨blk, vs', E, B1, B2, h1, h2, h3, h4, h5⟩ := hb
    exact ⟨blk, vs', E, B1, B2, h1, h2, h3, h4, SameB.bxs h h5⟩
  | .fn _ _ :: ps, v :: vs, u :: us, y, B, h, hb => by
    obtain ⟨rfl, h⟩ := h
    obtain ⟨us', B1, B2, h1, h2, h3, h4⟩ := hb
    exact ⟨us', B1, B2, h1, h2, h3, SameB.bxs h h4⟩
  | .wr _ _ :: ps, v :: vs, u :: us, y, B, h, hb => by
    obtain ⟨rfl, h⟩ := h
    exact ⟨hb.1, SameB.bxs h hb.2⟩
  | .c _ :: ps, _ :: vs, _ :: us, y, B, h, hb => SameB.bxs (ps := ps) h hb
  | .agg _ :: ps, _ :: vs, _ :: us, y, B, h, hb => SameB.bxs (ps := ps) h hb
theorem SameB.trans : ∀ {ps : List PK} {vs us ts : List Value}, SameB ps vs us → SameB ps us ts → SameB ps vs ts
  | [], [], [], [], _, _ => trivial
  | .box _ :: ps, v :: vs, u :: us, t :: ts, h, k => ⟨h.1.trans k.1, SameB.trans h.2 k.2⟩
  | .fn _ _ :: ps, v :: vs, u :: us, t :: ts, h, k => ⟨h.1.trans k.1, SameB.trans h.2 k.2⟩
  | .wr _ _ :: ps, v :: vs, u :: us, t :: ts, h, k => ⟨h.1.trans k.1, SameB.trans h.2 k.2⟩
  | .c _ :: ps, _ :: vs, _ :: us, _ :: ts, h, k => SameB.trans (ps := ps) h k
  | .agg _ :: ps, _ :: vs, _ :: us, _ :: ts, h, k => SameB.trans (ps := ps) h k

section
variable {m : Mem} {g : Nat → Value} {S : Nat → Prop} {w : World}

theorem ptr_same {ks : List CK} {id : Nat} {x : CKs.den ks} {u v : Value} (h : boxIn m ks id 0 = some x) (hu : PtrOk m g id 0 0 u) (hv : PtrOk m g id 0 0 v) : u = v := by
  obtain ⟨n, cs, b, h1, h2, h3, h4⟩ := boxIn_at h hu
  obtain ⟨n', cs', b', k1, k2, k3, k4⟩ := boxIn_at h hv
  rw [h4, k4, ← h3, ← k3]
theorem caps_same : ∀ {bs : List (List CK)} {id : Nat} {x0 x : CKss.den bs} {caps : List (Nat × Nat × Nat)} {us vs : List Value}, sameCaps id bs caps = true → boxesIn m bs caps = some x → All2 (fun p v => PtrOk m g p.1 p.2.1 p.2.2 v ∧ v.oneCell' = true) (boxesNewOut id noMem bs x0).1 us →
    All2 (fun p v => PtrOk m g p.1 p.2.1 p.2.2 v ∧ v.oneCell' = true) caps vs → us = vs
  | [], id, x0, x, [], [], [], _, _, _, _ => rfl
  | [], id, x0, x, [], _ :: _, _, _, _, h, _ => h.elim
  | [], id, x0, x, [], [], _ :: _, _, _, _, h => h.elim
  | [], id, x0, x, _ :: _, _, _, h, _, _, _ => by simp [sameCaps] at h
  | _ :: _, id, x0, x, [], _, _, h, _, _, _ => by simp [sameCaps] at h
  | ks :: bs, id, x0, x, c :: caps, [], _, _, _, h, _ => h.elim
  | ks :: bs, id, x0, x, c :: caps, _ :: _, [], _, _, _, h => h.elim
  | ks :: bs, id, x0, x, (i, v0, o) :: caps, u :: us, v :: vs, hs, hx, hu, hv => by
    obtain ⟨s1, hs⟩ := and_true (show Bool.and (Nat.beq i id) (Bool.and (Nat.beq v0 0) (Bool.and (Nat.beq o 0) (sameCaps (id + 8) bs caps))) = true from hs)
    obtain ⟨s2, hs⟩ := and_true hs
    obtain ⟨s3, hs⟩ := and_true hs
    have e1 := beq_true s1
    have e2 := beq_true s2
    have e3 := beq_true s3
    subst e1 e2 e3
    simp only [boxesIn] at hx
    split at hx
    · rename_i a b ha hb
      rw [ptr_same ha hu.1.1 hv.1.1, caps_same (x0 := x0.2) hs hb hu.2 hv.2]
    · cases hx
theorem same_bx : ∀ {ps : List PK} {i : Nat} {x0 y : PKs.den ps} {xs : List A} {vs us : List Value}, sameBox i ps xs = true → argsIn m ps xs = some y → All2 (Vc m g S w) (partsOut (64 * i) noMem ps x0).1 vs → All2 (Ac m g S w) xs us → SameB ps vs us := by
  intro ps
  induction ps with
  | nil =>
    intro i x0 y xs vs us hs hy hv hu
    cases xs with
    | cons x xs => simp [sameBox] at hs
    | nil => cases vs with
      | cons v vs => exact hv.elim
      | nil => cases us with
        | cons u us => exact hu.elim
        | nil => trivial
  | cons p ps ih =>
    intro i x0 y xs vs us hs hy hv hu
    have e64 : 64 * i + 64 = 64 * (i + 1) := by omega
    cases xs with
    | nil => cases p <;> simp [sameBox] at hs
    | cons x xs => cases vs with
      | nil => exact hv.elim
      | cons v vs => cases us with
        | nil => exact hu.elim
        | cons u us =>
          have hv1 : Vc m g S w (partOut (64 * i) noMem p x0.1).1 v := hv.1
          have hv2 : All2 (Vc m g S w) (partsOut (64 * (i + 1)) noMem ps x0.2).1 vs := by rw [← e64]; exact hv.2
          simp only [argsIn] at hy
          split at hy
          · rename_i a b ha hb
            cases p with
            | c k => exact ih (i := i + 1) hs hb hv2 hu.2
            | agg k => exact ih (i := i + 1) hs hb hv2 hu.2
            | wr ag ks =>
              unfold sameBox at hs
              split at hs <;> try (rename_i hh; cases hh; done)
              · rename_i e1 e2
                cases e1
              · rename_i e1 e2
                cases e1
              · rename_i e ps' id v0 xs' e1 e2
                cases e1
                cases e2
                obtain ⟨s1, hs1⟩ := and_true hs
                obtain ⟨s2, hs2⟩ := and_true hs1
                have e1 := beq_true s1
                have e2 := beq_true s2
                subst e1 e2
                refine ⟨?_, ih hs2 hb hv2 hu.2⟩
                have ha : cellsIn m [.own e] [.ref (64 * i) 0] = some a := ha
                simp only [cellsIn, cellIn] at ha
                split at ha
                · rename_i a' b' ha' _
                  split at ha'
                  · rename_i n e' zs ho
                    obtain ⟨hn, _⟩ := cond_some ha'
                    obtain rfl := beq_true hn
                    have h1 : v = g (64 * i) := ref_arr (S := S) (w := w) ho hv1
                    have h2 : u = g (64 * i) := ref_arr (S := S) (w := w) ho hu.1
                    rw [h1, h2]
                  · cases ha'
                · cases ha
              · rename_i e1 e2
                cases e1
              · rename_i e1 e2
                cases e1
              · cases hs
            | box ks =>
              match x, hs, ha, hu with
              | .v (.c (.ptr id v0 o)), hs, ha, hu =>
                obtain ⟨s1, hs⟩ := and_true (show Bool.and (Nat.beq id (64 * i)) (Bool.and (Nat.beq v0 0) (Bool.and (Nat.beq o 0) (sameBox (i + 1) ps xs))) = true from hs)
                obtain ⟨s2, hs⟩ := and_true hs
                obtain ⟨s3, hs4⟩ := and_true hs
                have e1 := beq_true s1
                have e2 := beq_true s2
                have e3 := beq_true s3
                subst e1 e2 e3
                exact ⟨ptr_same ha hv1.1 hu.1.1, ih hs4 hb hv2 hu.2⟩
            | fn f bs =>
              match x, hs, ha, hu with
              | .v (.c (.fn f' caps)), hs, ha, hu =>
                obtain ⟨s1, hs⟩ := and_true (show Bool.and (Nat.beq f f') (Bool.and (sameCaps (64 * i) bs caps) (sameBox (i + 1) ps xs)) = true from hs)
                obtain ⟨s2, hs4⟩ := and_true hs
                have e1 := beq_true s1
                subst e1
                obtain ⟨_, ha1⟩ := cond_some ha
                obtain ⟨us1, rfl, hus1⟩ := hv1
                obtain ⟨us2, rfl, hus2⟩ := hu.1
                exact ⟨by rw [caps_same (x0 := x0.1) s2 ha1 hus1 hus2], ih hs4 hb hv2 hu.2⟩
          · cases hy

/-! ### the rounds so far -/
structure Fr (ins : List PK) (w0 : World) (S0 : Nat → Prop) (B0 : List Nat) (vals0 : List Value) (w : World) (S : Nat → Prop) (B : List Nat) (vals : List Value) : Prop where
  sub : ∀ b, S0 b → S b
  ssub : ∀ b, S b → S0 b ∨ b ∈ B0 ∨ w0.heap.size ≤ b
  bown : ∀ b ∈ B, b ∈ B0 ∨ w0.heap.size ≤ b
  keep : ∀ b, b < w0.heap.size → b ∉ B0 → w.heap[b]? = w0.heap[b]?
  os : w.os = w0.os
  tape : w.tape = w0.tape
  output : w.output = w0.output
  size : w0.heap.size ≤ w.heap.size
  same : SameB ins vals0 vals

theorem SameB.refl : ∀ {ps : List PK} {vs : List Value}, ps.length = vs.length → SameB ps vs vs
  | [], [], _ => trivial
  | p :: ps, v :: vs, h => by
    have ih := SameB.refl (ps := ps) (vs := vs) (by simpa using h)
    cases p with
    | c k => exact ih
    | agg k => exact ih
    | box k => exact ⟨rfl, ih⟩
    | wr ag k => exact ⟨rfl, ih⟩
    | fn f k => exact ⟨rfl, ih⟩

theorem Fr.trans {ins : List PK} {w0 w1 w2 : World} {S0 S1 S2 : Nat → Prop} {B0 B1 B2 : List Nat} {v0 v1 v2 : List Value} (h : Fr ins w0 S0 B0 v0 w1 S1 B1 v1) (k : Fr ins w1 S1 B1 v1 w2 S2 B2 v2) : Fr ins w0 S0 B0 v0 w2 S2 B2 v2 where
  sub b hb := k.sub b (h.sub b hb)
  ssub b hb := by
    rcases k.ssub b hb with e | e | e
    · exact h.ssub b e
    · exact .inr (h.bown b e)
    · exact .inr (.inr (Nat.le_trans h.size e))
  bown b hb := by
    rcases k.bown b hb with e | e
    · exact h.bown b e
    · exact .inr (Nat.le_trans h.size e)
  keep b hb hn := by
    refine (k.keep b (Nat.lt_of_lt_of_le hb h.size) fun e => ?_).trans (h.keep b hb hn)
    rcases h.bown b e with e | e
    · exact hn e
    · omega
  os := k.os.trans h.os
  tape := k.tape.trans h.tape
  output := k.output.trans h.output
  size := Nat.le_trans h.size k.size
  same := h.same.trans k.same

theorem Told.after {sp : Spec} {x x0 : PKs.den sp.ins} {w0 w1 w2 : World} {S0 S1 S2 : Nat → Prop} {B0 B : List Nat} {v0 v1 : List Value} {val : Value} {B1 B2 : List Nat} (h : Fr sp.ins w0 S0 B0 v0 w1 S1 B v1) (k : Told sp x w1 S1 v1 B val w2 S2 B1 B2) (hx : sp.g x = sp.g x0) : Told sp x0 w0 S0 v0 B0 val w2 S2 B1 B2 where
  res := hx ▸ k.res
  bxs := hx ▸ h.same.bxs k.bxs
  nodup := k.nodup
  apart b hb := by
    obtain ⟨q1, q2, q3⟩ := k.apart b hb
    refine ⟨q1, by rw [← h.same.blks]; exact q2, ?_⟩
    rcases q3 with q3 | q3
    · exact h.bown b q3
    · exact .inr (Nat.le_trans h.size q3)
  boxes b hb := k.boxes b (by rw [h.same.blks]; exact hb)
  sub b hb := k.sub b (h.sub b hb)
  ssub b hb := by
    rcases k.ssub b hb with e | e | e
    · exact h.ssub b e
    · exact .inr (h.bown b e)
    · exact .inr (.inr (Nat.le_trans h.size e))
  slt := k.slt
  keep b hb hn := by
    refine (k.keep b (Nat.lt_of_lt_of_le hb h.size) fun e => ?_).trans (h.keep b hb hn)
    rcases h.bown b e with e | e
    · exact hn e
    · omega
  os := k.os.trans h.os
  tape := k.tape.trans h.tape
  output := k.output.trans h.output
  size := Nat.le_trans h.size k.size
end
end Go.Rx

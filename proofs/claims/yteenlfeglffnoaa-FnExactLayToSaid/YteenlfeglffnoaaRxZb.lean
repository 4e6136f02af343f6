/-
  ENGINE, part Zb: loops keep their contracts, the end.
  Seat-independent.
-/
import Derived.Test.YteenlfeglffnoaaRxZ
namespace Go.Rx
open Go Go.RowKit
set_option linter.unusedVariables false
set_option linter.unusedSimpArgs false

theorem zipGet_ok {m : Mem} {g : Nat → Value} {S : Nat → Prop} {w : World} (k : Nat → Value) (t : Nat) : ∀ (l : List Nat) (xs : List A), All2 (Ac m g S w) xs (l.map k) → Ac m g S w (zipGet l xs t) (k t)
  | [], _, _ => trivial
  | s :: l, [], h => h.elim
  | s :: l, x :: xs, h => by
    show Ac m g S w (cond (Nat.beq t s) x (zipGet l xs t)) (k t)
    cases hb : Nat.beq t s with
    | true =>
      rw [beq_true hb]
      exact h.1
    | false => exact zipGet_ok k t l xs h.2

def valsOf (l : List Nat) (a : Act) : List Value := l.map fun t => a.tmps.getD t undef

theorem lp_ok {P : Program} {cx : Cx} (hcx : CxOk P cx) (hmix : P.follows .mixedOrders = true) {id : Nat} {c : Code} {ls : LSpec} (hcode : codeB cx.ntmps c = true) (hlps : LpsOk P cx c) (hlen : Nat.beq ls.ins.length ls.live.length = true) (hnew : noDup (partsNew 0 ls.ins) = true)
    (hrounds : ∀ x, ls.pre x = true → ∃ k, iter (roundRun cx id c ls) k x = some (ls.g x)) : LpOk P cx.ntmps id c ls := by
  intro x0 hpre w0 S0 a0 B0 hsz hdf hparts hg Q hQ
  obtain ⟨k, hk⟩ := hrounds x0 hpre
  refine wp_block ?_
  refine wp_loop_k (fun k a w => ∃ x S B, a.tmps.size = cx.ntmps ∧ a.defers = [] ∧ partsV w S ls.ins x (valsOf ls.live a) B ∧ Given S w B ∧ Fr ls.ins w0 S0 B0 (valsOf ls.live a0) w S B (valsOf ls.live a) ∧ Kept (dsts c) a0 a ∧ iter (roundRun cx id c ls) k x = some (ls.g x0)) ?_ ?_ (k := k)
    ⟨x0, S0, B0, hsz, hdf, hparts, hg, ⟨fun _ h => h, fun _ h => .inl h, fun _ h => .inl h, fun _ _ _ => rfl, rfl, rfl, rfl, Nat.le_refl _, SameB.refl (by simp [valsOf, beq_true hlen])⟩, Kept.refl _ _, hk⟩
  · rintro a w ⟨x, S, B, _, _, _, _, _, _, h⟩
    cases h
  · rintro k a w ⟨x, S, B, hsz, hdf, hparts, hg, hfr, hkept, hit⟩
    obtain ⟨g0, hm0, hv0, hown0⟩ := start_ok hparts hg hnew
    have hS : SRel cx.ntmps (lstart ls.live ls.ins x) g0 S a w := ⟨hm0, hsz, hdf, fun t => zipGet_ok (fun t => a.tmps.getD t undef) t ls.live _ (argsOut_map hv0)⟩
    unfold iter at hit
    cases hround : roundRun cx id c ls x with
    | none => rw [hround] at hit; cases hit
    | some res =>
      rw [hround] at hit
      unfold roundRun at hround
      split at hround
      · rename_i o st' hrn
        refine run_wp hcx hmix c hcode hlps hrn hS fun a1 w1 g1 S1 h1 e1 k1 => ?_
        have hv1 : All2 (Vc st'.m g1 S1 w1) (partsOut 0 noMem ls.ins x).1 (valsOf ls.live a) := hv0.mono (Vc.tr e1.tr e1.hold e1.sub)
        have hkept1 : Kept (dsts c) a0 a1 := hkept.again k1
        have hslots : ∀ l : List Nat, All2 (Ac st'.m g1 S1 w1) (l.map st'.sl) (valsOf l a1) := fun l => All2.map_left l fun t _ => h1.slot t
        have stop : ∀ flag, stopA ls flag st' = some res → Q (exitOf (flagOut flag)) a1 w1 := fun flag hst => by
          obtain ⟨hb, hst⟩ := cond_some hst
          obtain ⟨_, hids⟩ := and_true hb
          split at hst
          · rename_i y b hy hbx
            cases hst
            have hgx : ((flag, y), b) = ls.g x0 := Option.some.inj hit
            obtain ⟨S', B1, B2, r1, r2, r3, r4, r5, r6, r7, r8⟩ := export_ok h1.mr hv1 (hslots ls.outs) hids hy hbx
            have hT : Told ls.sp x0 w S (valsOf ls.live a) B (.tuple (valsOf ls.outs a1).toArray) w1 S' B1 B2 := by
              refine told_of hg hown0 e1 ?_ ?_ r3 r4 r5 r6 r7 r8
              · show ∃ vs : List Value, _ = Value.tuple vs.toArray ∧ partsV w1 S' ls.out (ls.g x0).1.2 vs B1
                rw [← hgx]
                exact ⟨_, rfl, r1⟩
              · show bxsV w1 S' ls.ins (valsOf ls.live a) (ls.g x0).2 B2
                rw [← hgx]
                exact r2
            have := hQ a1 w1 S' B1 B2 (Told.after hfr hT rfl) h1.size h1.defers hkept1
            rw [← hgx] at this
            exact this
          · cases hst
        cases o with
        | norm =>
          simp only [lend] at hround
          obtain ⟨hb, hround⟩ := cond_some hround
          obtain ⟨hsame, hids⟩ := and_true hb
          split at hround
          · rename_i x' hx'
            cases hround
            obtain ⟨hnd, hlent⟩ := and_true hids
            generalize hI : argsIds st'.m ls.ins (ls.live.map st'.sl) = I at hnd hlent
            have hlent' : ∀ i ∈ I.lent, i ∉ I.ids := fun i hi e => by
              have := List.all_eq_true.1 hlent i hi
              rw [inL_iff.2 e] at this
              cases this
            have hS' : ∀ q, S1 q → (fun q => S1 q ∨ ∃ id ∈ I.lent, own st'.m g1 id = some q) q := fun q h => .inl h
            have hp := argsIn_ok h1.mr hS' hx' (hslots ls.live) fun j hj q _ hq => .inr ⟨j, by rw [← hI]; exact hj, hq⟩
            rw [hI] at hp
            have ow : ∀ {q}, (∃ j, own st'.m g1 j = some q) → q ∈ B ∨ w.heap.size ≤ q := fun {q} ⟨j, hj⟩ => by
              rcases e1.own' j q hj with ⟨i, hi⟩ | h
              · exact .inl (hown0 i q hi)
              · exact .inr h
            have hsb := same_bx (i := 0) hsame hx' hv1 (hslots ls.live)
            refine ⟨x', _, _, h1.size, h1.defers, hp, ⟨blks_nodup h1.mr hnd, fun q hq hs => ?_, fun q hq => ?_, fun q hq => ?_⟩, hfr.trans ⟨fun q hq => .inl (e1.sub q hq), fun q hq => ?_, fun q hq => ?_, fun q hq hn => e1.keep q hq fun j hj => hn (hown0 j q hj), e1.os, e1.tape, e1.output, e1.size, hsb⟩, hkept1, hit⟩
            · obtain ⟨j, hj, ho⟩ := blks_mem hq
              rcases hs with hs | ⟨i, hi, hio⟩
              · exact h1.mr.sdisj j q ho hs
              · have := h1.mr.disj j i q ho hio
                subst this
                exact hlent' j hi hj
            · obtain ⟨j, hj, ho⟩ := blks_mem hq
              exact h1.mr.own_lt ho
            · rcases hq with hq | ⟨j, _, ho⟩
              · exact h1.mr.slt q hq
              · exact h1.mr.own_lt ho
            · rcases hq with hq | ⟨j, _, ho⟩
              · rcases e1.ssub q hq with h | ⟨j, hj⟩ | h
                · exact .inl h
                · exact .inr (.inl (hown0 j q hj))
                · exact .inr (.inr h)
              · exact .inr (ow ⟨j, ho⟩)
            · obtain ⟨j, hj, ho⟩ := blks_mem hq
              exact ow ⟨j, ho⟩
          · cases hround
        | ret => exact stop 1 hround
        | exit i =>
          simp only [lend] at hround
          show (if i = id then Q .normal a1 w1 else Q (.exit i) a1 w1)
          cases hi : Nat.beq i id with
          | true =>
            rw [hi] at hround
            rw [if_pos (beq_true hi)]
            exact stop 0 hround
          | false =>
            rw [hi] at hround
            rw [if_neg (fun e => by rw [e, beq_self] at hi; cases hi)]
            exact stop (i + 2) hround
      · cases hround
end Go.Rx

/-
  ENGINE, part S: regions that draw their order.
  Seat-independent.
-/
import Derived.Test.YteenlfeglffnoaaRxR
namespace Go.Rx
open Go Go.RowKit
set_option linter.unusedVariables false
set_option linter.unusedSimpArgs false

theorem fold_bits (acc : List Nat) (j : Nat) : ∀ (es : List Edge) (s : Nat), Nat.testBit (es.foldl (fun s e => cond (Region.binds .any e) (s ||| 2 ^ e.on ||| (acc[e.on]?).getD 0) s) s) j = true →
    Nat.testBit s j = true ∨ ∃ e ∈ es, Region.binds .any e = true ∧ (j = e.on ∨ Nat.testBit ((acc[e.on]?).getD 0) j = true)
  | [], s, h => .inl h
  | e :: es, s, h => by
    rw [List.foldl_cons] at h
    rcases fold_bits acc j es _ h with h | ⟨e', h1, h2⟩
    · cases hb : Region.binds .any e with
      | false =>
        rw [hb] at h
        exact .inl h
      | true =>
        rw [hb] at h
        simp only [cond_true, Nat.testBit_or, Bool.or_eq_true, Nat.testBit_two_pow, decide_eq_true_eq] at h
        rcases h with (h | h) | h
        · exact .inl h
        · exact .inr ⟨e, List.mem_cons_self .., hb, .inl h.symm⟩
        · exact .inr ⟨e, List.mem_cons_self .., hb, .inr h⟩
    · exact .inr ⟨e', List.mem_cons_of_mem _ h1, h2⟩

theorem ahead_pre : ∀ (l : List Oper) (acc : List Nat) (i : Nat), i < acc.length → ((aheadOf l acc)[i]?).getD 0 = (acc[i]?).getD 0
  | [], acc, i, h => rfl
  | o :: l, acc, i, h => by
    unfold aheadOf
    rw [ahead_pre l _ i (by rw [List.length_append]; omega)]
    rw [List.getElem?_append_left h]

theorem ahead_ok : ∀ (l : List Oper) (acc : List Nat) (k : Nat) (o : Oper) (j : Nat), l[k]? = some o → Nat.testBit (((aheadOf l acc)[acc.length + k]?).getD 0) j = true →
    ∃ e ∈ o.after, Region.binds .any e = true ∧ (j = e.on ∨ Nat.testBit (((aheadOf l acc)[e.on]?).getD 0) j = true)
  | [], acc, k, o, j, hk, _ => by simp at hk
  | o' :: l, acc, 0, o, j, hk, h => by
    cases hk
    unfold aheadOf at h ⊢
    rw [Nat.add_zero, ahead_pre _ _ _ (by rw [List.length_append]; exact Nat.lt_succ_self _)] at h
    simp only [List.getElem?_concat_length, Option.getD_some] at h
    rcases fold_bits acc j _ _ h with h | ⟨e, h1, h2, h3⟩
    · simp at h
    · refine ⟨e, by simpa using h1, h2, h3.imp (fun h => h) fun h => ?_⟩
      have hlt : e.on < acc.length := by
        rcases Nat.lt_or_ge e.on acc.length with hlt | hge
        · exact hlt
        · rw [List.getElem?_eq_none hge] at h
          simp at h
      rw [ahead_pre _ _ _ (by rw [List.length_append]; omega)]
      rw [List.getElem?_append_left hlt]
      exact h
  | o' :: l, acc, k + 1, o, j, hk, h => by
    unfold aheadOf at h ⊢
    refine ahead_ok l _ k o j (by simpa using hk) ?_
    rw [List.length_append]
    have e : acc.length + [o'.after.toList.foldl (fun s e => cond (Region.binds .any e) (s ||| 2 ^ e.on ||| (acc[e.on]?).getD 0) s) 0].length + k = acc.length + (k + 1) := by
      simp only [List.length_singleton]
      omega
    rw [e]
    exact h

/-- Every edge leads back in the text. -/
def edgesB (ops : Array Oper) : Bool := (List.range ops.size).all fun i => match ops[i]? with
  | some o => o.after.all fun e => !Region.binds .any e || decide (e.on < i)
  | none => true
theorem edgesB_ok {ops : Array Oper} (h : edgesB ops = true) {i : Nat} {o : Oper} (hi : ops[i]? = some o) : ∀ e ∈ o.after, Region.binds .any e = true → e.on < i := fun e he hb => by
  have hlt : i < ops.size := (Array.getElem?_eq_some_iff.1 hi).1
  have := List.all_eq_true.1 h i (List.mem_range.2 hlt)
  rw [hi] at this
  have := Array.all_eq_true_iff_forall_mem.1 this e he
  rw [hb] at this
  simpa using this

section
variable {P : Program} {cx : Cx} {n : Nat} {ops : Array Oper} {Q : Exit → Act → World → Prop}

theorem stepG_wp (hcx : CxOk P cx) {x : Nat × Oper} (hi : ops[x.1]? = some x.2) {st st1 : St} {f : Foot} (hs : stepG cx ops x st = some (f, st1)) {g : Nat → Value} {S : Nat → Prop} {a : Act} {w : World} (h : SRel n st g S a w) (hd : ∀ t, x.2.dst = some t → t < n) {K : Act → World → Prop}
    (hK : ∀ a' w' g' S', SRel n st1 g' S' a' w' → Evo st.m g S w st1.m g' S' w' → Kept x.2.dst.toList a a' → K a' w') : wpOp P ops Q x.1 K a w := by
  unfold stepG at hs
  split at hs
  · cases hs
  · rename_i hw
    rw [Option.map_eq_some_iff] at hs
    obtain ⟨st2, hs, he⟩ := hs
    cases he
    exact wpOp_act hcx h hi hw hs hd hK
  · rename_i hw
    cases hs
    exact wpOp_skip h hi hw hd fun h1 => hK _ _ _ _ h1 (Evo.refl _ _ _ _) (Kept.put a _ undef)

theorem ready_some (he : edgesB ops = true) {listed : Array Bool} {L : List (Nat × Oper)} (hL : ∀ x ∈ L, ops[x.1]? = some x.2) (hun : ∀ i, i < ops.size → (listed.getD i true = false ↔ i ∈ L.map fun p => p.1)) (hsz : listed.size = ops.size) :
    ∀ (k : Nat) (x : Nat × Oper), x ∈ L → x.1 = k → ∃ j, j ∈ Region.ready .any ops listed := by
  intro k
  induction k using Nat.strongRecOn with
  | _ k ih =>
    intro x hx hk
    have hget := hL x hx
    have hlt : x.1 < ops.size := (Array.getElem?_eq_some_iff.1 hget).1
    by_cases hall : ∀ e ∈ x.2.after, Region.binds .any e = true → listed.getD e.on false = true
    · exact ⟨x.1, mem_ready.2 ⟨(hun x.1 hlt).2 (List.mem_map.2 ⟨x, hx, rfl⟩), x.2, hget, hall⟩⟩
    · have : ∃ e, e ∈ x.2.after ∧ Region.binds .any e = true ∧ listed.getD e.on false ≠ true := by
        refine Classical.byContradiction fun hn => hall fun e h1 h2 => ?_
        refine Classical.byContradiction fun h3 => hn ⟨e, h1, h2, h3⟩
      obtain ⟨e, h1, h2, h3⟩ := this
      have hon := edgesB_ok he hget e h1 h2
      have hon' : e.on < ops.size := by omega
      have h4 : listed.getD e.on true = false := by
        have hl : e.on < listed.size := by omega
        simp only [Array.getD_eq_getD_getElem?, Array.getElem?_eq_getElem hl, Option.getD_some] at h3 ⊢
        simpa using h3
      obtain ⟨y, hy, hy1⟩ := List.mem_map.1 ((hun e.on hon').1 h4)
      exact ih e.on (by omega) y hy hy1

theorem Kept.again {l : List Nat} {a b c : Act} (h : Kept l a b) (k : Kept l b c) : Kept l a c := fun t ht => (k t ht).trans (h t ht)

theorem any_wp (hcx : CxOk P cx) (he : edgesB ops = true) (D : List Nat) (hD : dstsIn n D) : ∀ (k : Nat) {L : List (Nat × Oper)} {listed : Array Bool} {fs : List Foot} {st st' : St} {g : Nat → Value} {S : Nat → Prop} {a : Act} {w : World}, L.length = k →
    (∀ x ∈ L, ops[x.1]? = some x.2) → (∀ x ∈ L, ∀ t, x.2.dst = some t → t ∈ D) → (L.map fun p => p.1).Nodup → (∀ i, i < ops.size → (listed.getD i true = false ↔ i ∈ L.map fun p => p.1)) → listed.size = ops.size →
    (∀ i, listed.getD i false = true → ∀ j, Nat.testBit (((aheadOf ops.toList [])[i]?).getD 0) j = true → listed.getD j false = true) →
    Chain cx ops (aheadOf ops.toList []) L st fs st' → SRel n st g S a w →
    (∀ a' w' g' S', SRel n st' g' S' a' w' → Evo st.m g S w st'.m g' S' w' → Kept D a a' → Q .normal a' w') → wpAny P .any ops Q k listed a w
  | 0, L, listed, fs, st, st', g, S, a, w, hk, hL, hdst, hnd, hun, hsz, hcl, hch, h, hQ => by
    have : L = [] := List.length_eq_zero_iff.1 hk
    subst this
    cases fs with
    | cons f fs => exact hch.elim
    | nil =>
      have hch : st' = st := hch
      subst hch
      refine ⟨?_, hQ a w g S h (Evo.refl _ _ _ _) (Kept.refl _ _)⟩
      cases hr : Region.ready .any ops listed with
      | nil => rfl
      | cons i r =>
        have hi : i ∈ Region.ready .any ops listed := by rw [hr]; exact List.mem_cons_self ..
        obtain ⟨h1, o, ho, _⟩ := mem_ready.1 hi
        have := (hun i (Array.getElem?_eq_some_iff.1 ho).1).1 h1
        cases this
  | k + 1, L, listed, fs, st, st', g, S, a, w, hk, hL, hdst, hnd, hun, hsz, hcl, hch, h, hQ => by
    refine ⟨fun h0 => ?_, fun i hi => ?_⟩
    · cases L with
      | nil => simp at hk
      | cons x L =>
        obtain ⟨j, hj⟩ := ready_some he hL hun hsz x.1 x (List.mem_cons_self ..) rfl
        rw [h0] at hj
        cases hj
    · obtain ⟨h1, o, ho, hall⟩ := mem_ready.1 hi
      have hlt : i < ops.size := (Array.getElem?_eq_some_iff.1 ho).1
      obtain ⟨x, hx, rfl⟩ := List.mem_map.1 ((hun i hlt).1 h1)
      have hxo : x.2 = o := by
        have := hL x hx
        rw [ho] at this
        exact (Option.some.inj this).symm
      obtain ⟨A, B, rfl⟩ := List.append_of_mem hx
      have hA : ∀ y ∈ A, Nat.testBit (((aheadOf ops.toList [])[x.1]?).getD 0) y.1 = false := fun y hy => by
        cases ht : Nat.testBit (((aheadOf ops.toList [])[x.1]?).getD 0) y.1 with
        | false => rfl
        | true =>
          exfalso
          have hyl : y.1 < ops.size := (Array.getElem?_eq_some_iff.1 (hL y (List.mem_append_left _ hy))).1
          have hyun : listed.getD y.1 true = false := (hun y.1 hyl).2 (List.mem_map.2 ⟨y, List.mem_append_left _ hy, rfl⟩)
          have hlisted : listed.getD y.1 false = true := by
            obtain ⟨e, e1, e2, e3⟩ := ahead_ok ops.toList [] x.1 o y.1 (by simpa using ho) (by simpa using ht)
            rcases e3 with e3 | e3
            · rw [e3]
              exact hall e e1 e2
            · exact hcl e.on (hall e e1 e2) y.1 e3
          have hl : y.1 < listed.size := by omega
          simp only [Array.getD_eq_getD_getElem?, Array.getElem?_eq_getElem hl, Option.getD_some] at hyun hlisted
          rw [hyun] at hlisted
          cases hlisted
      obtain ⟨f, st1, fs', s1, s2, _, _⟩ := Chain.pull hch hA
      refine stepG_wp hcx (hL x hx) s1 h (fun t ht => hD t (hdst x hx t ht)) fun a1 w1 g1 S1 r1 e1 k1 => ?_
      have hnd' : ((A ++ B).map fun p => p.1).Nodup ∧ x.1 ∉ (A ++ B).map fun p => p.1 := by
        rw [List.map_append, List.map_cons, List.perm_middle.nodup_iff] at hnd
        obtain ⟨n1, n2⟩ := List.nodup_cons.1 hnd
        rw [List.map_append]
        exact ⟨n2, n1⟩
      have sub : ∀ y ∈ A ++ B, y ∈ A ++ x :: B := fun y hy => by
        rcases List.mem_append.1 hy with hy | hy
        · exact List.mem_append_left _ hy
        · exact List.mem_append_right _ (List.mem_cons_of_mem _ hy)
      have hxl : x.1 < listed.size := by omega
      refine any_wp hcx he D hD k (L := A ++ B) (st := st1) (by simp at hk ⊢; omega) (fun y hy => hL y (sub y hy)) (fun y hy => hdst y (sub y hy)) hnd'.1 (fun j hj => ?_) (by simpa using hsz) (fun j hj b hb => ?_) s2 r1 fun a2 w2 g2 S2 r2 e2 k2 => hQ a2 w2 g2 S2 r2 (e1.trans e2) ((k1.mono fun t ht => ?_).again k2)
      · by_cases hjx : j = x.1
        · subst hjx
          constructor
          · intro hh
            simp [Array.getD_eq_getD_getElem?, hxl] at hh
          · intro hh
            exact absurd hh hnd'.2
        · rw [getD_set_ne true (Ne.symm hjx), hun j hj]
          simp only [List.map_append, List.map_cons, List.mem_append, List.mem_cons, hjx, false_or]
      · by_cases hjx : j = x.1
        · subst hjx
          obtain ⟨e, q1, q2, q3⟩ := ahead_ok ops.toList [] x.1 o b (by simpa using ho) (by simpa using hb)
          refine getD_set_true ?_
          rcases q3 with q3 | q3
          · rw [q3]
            exact hall e q1 q2
          · exact hcl e.on (hall e q1 q2) b q3
        · rw [getD_set_ne false (Ne.symm hjx)] at hj
          exact getD_set_true (hcl j hj b hb)
      · cases hdx : x.2.dst with
        | none => rw [hdx] at ht; cases ht
        | some d =>
          rw [hdx] at ht
          rw [List.mem_singleton.1 ht]
          exact hdst x hx d hdx

theorem mem_dstsOps {o : Oper} {t : Nat} : ∀ (l : List Oper), o ∈ l → o.dst = some t → t ∈ dstsOps l := by
  intro l
  induction l with
  | nil =>
    intro h _
    cases h
  | cons o' l ih =>
    intro h ht
    show t ∈ o'.dst.toList ++ dstsOps l
    rcases List.mem_cons.1 h with h | h
    · subst h
      refine List.mem_append_left _ ?_
      rw [ht]
      exact List.mem_singleton.2 rfl
    · exact List.mem_append_right _ (ih h ht)

theorem draw_wp (hcx : CxOk P cx) (hm : P.follows .mixedOrders = true) (he : edgesB ops = true) (hd : dstsIn n (dstsOps ops.toList)) {id : Nat} {st st' : St} {g : Nat → Value} {S : Nat → Prop} {a : Act} {w : World} (h : SRel n st g S a w)
    (hr : drawRun cx ops (aheadOf ops.toList []) ops.toList 0 [] st = some st') (hQ : ∀ a' w' g' S', SRel n st' g' S' a' w' → Evo st.m g S w st'.m g' S' w' → Kept (dstsOps ops.toList) a a' → Q .normal a' w') : (Code.region id ops true).wp P Q a w := by
  obtain ⟨gs, hg, _⟩ := draw_chain hr
  have hdr : Evo st.m g S w st.m g S { w with drawn := w.drawn + 1 } := Evo.drawn rfl rfl rfl rfl
  have h' : SRel n st g S a { w with drawn := w.drawn + 1 } := by
    refine ⟨⟨fun id => Or.stay hdr.tr hdr.hold hdr.sub rfl rfl (fun _ _ => rfl) (h.mr.or id), h.mr.disj, h.mr.sdisj, h.mr.slt⟩, h.size, h.defers, fun t => Ac.tr hdr.tr hdr.hold hdr.sub _ _ (h.slot t)⟩
  have hmem : ∀ x ∈ (ops.toList.zipIdx 0 |>.map fun p => (p.2, p.1)), ops[x.1]? = some x.2 := fun x hx => by
    obtain ⟨p, hp, rfl⟩ := List.mem_map.1 hx
    have := List.mem_zipIdx_iff_getElem?.1 hp
    simpa using this
  have hidx : (ops.toList.zipIdx 0 |>.map fun p => (p.2, p.1)).map (fun p => p.1) = List.range ops.size := by
    rw [List.map_map]
    have : ((fun p : Nat × Oper => p.1) ∘ fun p : Oper × Nat => (p.2, p.1)) = Prod.snd := rfl
    rw [this, List.zipIdx_map_snd, List.range_eq_range']
    simp
  refine wp_region_any hm (any_wp hcx he (dstsOps ops.toList) hd ops.size (by simp) hmem (fun x hx t ht => ?_) (by rw [hidx]; exact List.nodup_range) (fun i hi => ?_) (by simp) (fun i hi j hj => ?_) hg h' fun a' w' g' S' r e k => hQ a' w' g' S' r (hdr.trans e) k)
  · have := hmem x hx
    exact mem_dstsOps _ (by have := Array.mem_of_getElem? this; simpa using this) ht
  · rw [hidx]
    simp [Array.getD_eq_getD_getElem?, hi]
  · exfalso
    simp only [Array.getD_eq_getD_getElem?, Array.getElem?_replicate] at hi
    split at hi <;> simp at hi
end
end Go.Rx

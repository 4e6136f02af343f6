/-
  ENGINE, part W: functions keep their contracts.
  Seat-independent.
-/
import Derived.Test.YteenlfeglffnoaaRxV
namespace Go.Rx
open Go Go.RowKit
set_option linter.unusedVariables false
set_option linter.unusedSimpArgs false

section
variable {P : Program} {cx : Cx} {n : Nat} {st : St} {g : Nat → Value} {S : Nat → Prop} {a : Act} {w : World}

/-! ### the result's slots -/
def resSem (tmps : Array Value) : ResultVar → Sem Value
  | .tmp t => pure (tmps.getD t undef)
  | .cell a t => do loadVar t (← asAddr (tmps.getD a undef))

theorem results_eq (F : Func) (tmps : Array Value) : results F tmps = (do
    let vs ← F.results.mapM (resSem tmps)
    pure (if h : vs.size = 1 then vs[0] else .tuple vs)) := by
  have e : resSem tmps = (fun r => match r with
      | .tmp t => pure (tmps.getD t undef)
      | .cell a t => do loadVar t (← asAddr (tmps.getD a undef))) := by
    funext r
    cases r <;> rfl
  rw [e]
  rfl

theorem loadAt_pointer {t : Nat} {v val : Value} (h : (Instr.loadAt t v).run P w = .ok val w) : (do loadVar t (← asAddr v) : Sem Value).run P w = .ok val w := by
  unfold Instr.loadAt at h
  cases v with
  | pointer p =>
    cases p with
    | some a => simpa [Instr.sureAddr, asAddr] using h
    | none => simp [Instr.sureAddr, stuck] at h
  | _ => simp [Instr.sureAddr, stuck] at h

theorem resV_ok (hT : TabOk P cx.T) (h : SRel n st g S a w) {r : ResultVar} {x : V} (hr : resV cx.T st r = some x) : ∃ val, (resSem a.tmps r).run P w = .ok val w ∧ Vc st.m g S w x val := by
  cases r with
  | tmp t =>
    simp only [resV] at hr
    split at hr
    · rename_i y hy
      cases hr
      have := h.slot t
      rw [hy] at this
      exact ⟨_, rfl, this⟩
    · cases hr
  | cell t ty =>
    simp only [resV] at hr
    split at hr
    · rename_i p hp
      split at hr
      · rename_i r hgo
        obtain ⟨hc, hr⟩ := cond_some hr
        split at hr
        · rename_i y hy
          cases hr
          obtain ⟨_, val, h1, h2⟩ := load_ok hT h.mr (h.slot t) hp hgo hc
          rw [hy] at h2
          exact ⟨val, loadAt_pointer h1, h2⟩
        · cases hr
      · cases hr
    · cases hr
theorem resVs_ok (hT : TabOk P cx.T) (h : SRel n st g S a w) : ∀ {rs : List ResultVar} {xs : List V}, resVs cx.T st rs = some xs → ∃ vals, (rs.mapM (resSem a.tmps)).run P w = .ok vals w ∧ All2 (Vc st.m g S w) xs vals
  | [], xs, hr => by
    cases hr
    exact ⟨[], by simp, trivial⟩
  | r :: rs, xs, hr => by
    unfold resVs at hr
    split at hr
    · rename_i x xs' h1 h2
      cases hr
      obtain ⟨v, e1, e2⟩ := resV_ok hT h h1
      obtain ⟨vs, e3, e4⟩ := resVs_ok hT h h2
      refine ⟨v :: vs, ?_, e2, e4⟩
      simp only [List.mapM_cons, Sem.run_bind, e1, Result.andThen_ok, e3, Sem.run_pure]
    · cases hr

theorem resA_ok (hT : TabOk P cx.T) (h : SRel n st g S a w) {F : Func} {x : A} (hr : resA cx.T st F.results.toList = some x) : ∃ val, (results F a.tmps).run P w = .ok val w ∧ Ac st.m g S w x val := by
  have run : ∀ vals : List Value, (F.results.toList.mapM (resSem a.tmps)).run P w = .ok vals w → (results F a.tmps).run P w = .ok (if h : vals.toArray.size = 1 then vals.toArray[0] else .tuple vals.toArray) w := fun vals hv => by
    have e : (F.results.mapM (resSem a.tmps)).run P w = .ok vals.toArray w := by
      rw [Array.mapM_eq_mapM_toList]
      simp only [map_eq_pure_bind, Sem.run_bind, hv, Result.andThen_ok, Sem.run_pure]
    rw [results_eq, Sem.run_bind, e]
    rfl
  unfold resA at hr
  split at hr
  · rename_i v hv
    cases hr
    obtain ⟨vals, h1, h2⟩ := resVs_ok hT h hv
    match vals, h2 with
    | [u], h2 => exact ⟨u, run _ h1, h2.1⟩
  · rename_i vs hne hv
    cases hr
    obtain ⟨vals, h1, h2⟩ := resVs_ok hT h hv
    refine ⟨.tuple vals.toArray, ?_, vals, rfl, h2⟩
    rw [run _ h1]
    have : ¬ vals.toArray.size = 1 := fun e => by
      match vals, h2, e with
      | [u], h2, _ => match vs, h2, hne with
        | [x], _, hne => exact hne x rfl
    rw [dif_neg this]
  · cases hr

/-! ### a function -/
theorem All2.getD {α β : Type} {R : α → β → Prop} {d : α} {e : β} : ∀ {as : List α} {bs : List β}, All2 R as bs → R d e → ∀ t, R (as.getD t d) (bs.getD t e)
  | [], [], _, hd, t => by simpa using hd
  | a :: as, b :: bs, h, hd, 0 => h.1
  | a :: as, b :: bs, h, hd, t + 1 => by
    have := All2.getD (as := as) (bs := bs) h.2 hd t
    simpa using this

theorem vals_tmps (vals : List Value) (n t : Nat) : (vals.toArray ++ Array.replicate (n - vals.toArray.size) undef).getD t undef = vals.getD t undef := by
  simp only [Array.getD_eq_getD_getElem?, List.getD_eq_getElem?_getD, Array.getElem?_append, List.size_toArray, List.getElem?_toArray, Array.getElem?_replicate]
  split
  · rfl
  · rename_i h
    rw [List.getElem?_eq_none (by omega)]
    split <;> rfl

theorem argsOut_map {m : Mem} {ps : List PK} {x : PKs.den ps} {vals : List Value} (h : All2 (Vc m g S w) (partsOut 0 noMem ps x).1 vals) : All2 (Ac m g S w) (argsA ps x) vals := by
  unfold argsA
  generalize (partsOut 0 noMem ps x).1 = vs at h
  induction vs generalizing vals with
  | nil => cases vals with
    | nil => trivial
    | cons u us => exact h.elim
  | cons v vs ih => cases vals with
    | nil => exact h.elim
    | cons u us => exact ⟨h.1, ih h.2⟩

theorem partsOut_len : ∀ {ps : List PK} {x : PKs.den ps} {b : Nat} {m : Mem}, (partsOut b m ps x).1.length = ps.length
  | [], _, _, _ => rfl
  | p :: ps, x, b, m => by
    show (partsOut (b + 64) m ps x.2).1.length + 1 = ps.length + 1
    rw [partsOut_len]

/-- From the evolution and what is handed back: what is told. -/
theorem told_of {sp : Spec} {x : PKs.den sp.ins} {S1 : Nat → Prop} {w1 : World} {vals : List Value} {B : List Nat} {m0 : Mem} {g0 : Nat → Value} {m1 : Mem} {g1 : Nat → Value} (hg : Given S w B) (h0 : ∀ i b, own m0 g0 i = some b → b ∈ B) (he : Evo m0 g0 S w m1 g1 S1 w1)
    {S' : Nat → Prop} {B1 B2 : List Nat} {val : Value} (h1 : resVal w1 S' sp.out (sp.g x).1 val B1) (h2 : bxsV w1 S' sp.ins vals (sp.g x).2 B2) (h3 : (B1 ++ B2).Nodup) (h4 : ∀ q ∈ B1 ++ B2, ¬ S' q ∧ q ∉ boxBlks sp.ins vals ∧ ∃ j, own m1 g1 j = some q) (h5 : ∀ q ∈ boxBlks sp.ins vals, ¬ S' q)
    (h6 : ∀ q, S1 q → S' q) (h7 : ∀ q, S' q → S1 q ∨ ∃ j, own m1 g1 j = some q) (h8 : ∀ q, S' q → q < w1.heap.size) : Told sp x w S vals B val w1 S' B1 B2 := by
  have ow : ∀ {q}, (∃ j, own m1 g1 j = some q) → q ∈ B ∨ w.heap.size ≤ q := fun {q} ⟨j, hj⟩ => by
    rcases he.own' j q hj with ⟨i, hi⟩ | h
    · exact .inl (h0 i q hi)
    · exact .inr h
  refine ⟨h1, h2, h3, fun q hq => ?_, h5, fun q hq => h6 q (he.sub q hq), fun q hq => ?_, h8, fun b hb hn => he.keep b hb fun j hj => hn (h0 j b hj), he.os, he.tape, he.output, he.size⟩
  · obtain ⟨q1, q2, q3⟩ := h4 q hq
    exact ⟨q1, q2, ow q3⟩
  · rcases h7 q hq with h | h
    · rcases he.ssub q h with h | ⟨j, hj⟩ | h
      · exact .inl h
      · exact .inr (.inl (h0 j q hj))
      · exact .inr (.inr h)
    · exact .inr (ow h)

theorem export_res {m : Mem} (hm : MRel m g S w) {ins : List PK} {x0 : PKs.den ins} {b : Bxs.den ins} {vals : List Value} {val : Value} (hv1 : All2 (Vc m g S w) (partsOut 0 noMem ins x0).1 vals) : ∀ {out : RK} {v : A} {y : out.den}, Ac m g S w v val → idsOk ((outIds m out v).add (bxsIds m 0 ins)) = true → outIn m out v = some y → bxsIn m 0 ins = some b →
    ∃ S' B1 B2, resVal w S' out y val B1 ∧ bxsV w S' ins vals b B2 ∧ (B1 ++ B2).Nodup ∧ (∀ q ∈ B1 ++ B2, ¬ S' q ∧ q ∉ boxBlks ins vals ∧ ∃ j, own m g j = some q) ∧ (∀ q ∈ boxBlks ins vals, ¬ S' q) ∧ (∀ q, S q → S' q) ∧ (∀ q, S' q → S q ∨ ∃ j, own m g j = some q) ∧ (∀ q, S' q → q < w.heap.size) := by
  intro out v y hac hids hy hbx
  cases out with
  | none =>
    match v, hy, hac, hids with
    | .tup [], hy, hac, hids =>
      obtain ⟨us, rfl, hus⟩ := hac
      match us, hus with
      | [], _ =>
        obtain ⟨S', B1, B2, r1, r2⟩ := export_ok (ps := []) (xs := []) (us := []) (y := ()) hm hv1 trivial hids rfl hbx
        obtain ⟨_, rfl⟩ := r1
        exact ⟨S', [], B2, ⟨rfl, rfl⟩, r2⟩
  | one p =>
    match v, hy, hac, hids with
    | .v z, hy, hac, hids =>
      have hadd : (outIds m (.one p) (.v z)) = argsIds m [p] [.v z] := by
        show argIds m p (.v z) = (argIds m p (.v z)).add Ids.none
        unfold Ids.add Ids.none
        simp
      rw [hadd] at hids
      have hy' : argsIn m [p] [.v z] = some (y, ()) := by
        have hy : argIn m p (.v z) = some y := hy
        simp only [argsIn, hy]
      obtain ⟨S', B1, B2, r1, r2⟩ := export_ok (xs := [.v z]) (us := [val]) hm hv1 ⟨hac, trivial⟩ hids hy' hbx
      obtain ⟨v', vs', C1, C2, e1, rfl, r3, r4, rfl⟩ := r1
      cases e1
      rw [List.append_nil] at r2
      exact ⟨S', C1, B2, r3, r2⟩
  | tup ps =>
    match v, hy, hac, hids with
    | .tup zs, hy, hac, hids =>
      obtain ⟨us, rfl, hus⟩ := hac
      have hus' : All2 (Ac m g S w) (zs.map A.v) us := by
        clear hy hids hac
        induction zs generalizing us with
        | nil => cases us with
          | nil => trivial
          | cons u us => exact hus.elim
        | cons z zs ih => cases us with
          | nil => exact hus.elim
          | cons u us => exact ⟨hus.1, ih us hus.2⟩
      obtain ⟨S', B1, B2, r1, r2⟩ := export_ok hm hv1 hus' hids hy hbx
      exact ⟨S', B1, B2, ⟨us, rfl, r1⟩, r2⟩

theorem fun_ok (hcx : CxOk P cx) (hmix : P.follows .mixedOrders = true) {f : Nat} {F : Func} {sp : Spec} (hf : P.funcs[f]? = some F) (hname : F.name ≠ "runtime.NumGoroutine") (hbody : F.body.isSome = true) (hnt : F.ntmps = cx.ntmps)
    (hcode : codeB cx.ntmps (bodyOf F) = true) (hargs : Nat.ble sp.ins.length cx.ntmps = true) (hnew : noDup (partsNew 0 sp.ins) = true) (hlps : LpsOk P cx (bodyOf F)) (hrun : ∀ x, sp.pre x = true → funRun cx F sp.ins sp.out x = some (sp.g x)) : SpecOk P f sp := by
  refine ⟨⟨F, hf, hname, hbody⟩, fun x hpre w S vals B hparts hg => ?_⟩
  obtain ⟨g0, hm0, hv0, hown0⟩ := start_ok hparts hg hnew
  have hbo : F.body = some (bodyOf F) := by
    unfold bodyOf
    cases hb : F.body with
    | none => rw [hb] at hbody; cases hbody
    | some c => rfl
  have hlen : vals.length = sp.ins.length := by
    rw [← hv0.length, partsOut_len]
  have hle := Nat.le_of_ble_eq_true hargs
  refine calls_of_wp hf hbo ?_
  have hS : SRel cx.ntmps (fstart sp.ins x) g0 S ⟨vals.toArray ++ Array.replicate (F.ntmps - vals.toArray.size) undef, []⟩ w := by
    refine ⟨hm0, by simp; omega, rfl, fun t => ?_⟩
    show Ac _ g0 S w ((argsA sp.ins x).getD t (.c .any)) ((vals.toArray ++ Array.replicate (F.ntmps - vals.toArray.size) undef).getD t undef)
    rw [vals_tmps]
    exact All2.getD (d := A.c .any) (e := undef) (argsOut_map hv0) (show Ac _ g0 S w (A.c .any) undef from trivial) t
  have hr := hrun x hpre
  unfold funRun at hr
  split at hr
  · rename_i o st' hrn
    refine run_wp hcx hmix _ hcode hlps hrn hS fun a1 w1 g1 S1 h1 e1 k1 => ?_
    have fin : ∀ v, resA cx.T st' F.results.toList = some v → exportA sp.ins sp.out v st'.m = some (sp.g x) → ∃ val, (results F a1.tmps).run P w1 = .ok val w1 ∧ ∃ val' S' B1 B2, Ending.returned val = .returned val' ∧ Told sp x w S vals B val' w1 S' B1 B2 := fun v hv hex => by
      obtain ⟨val, hres, hac⟩ := resA_ok hcx.T h1 hv
      refine ⟨val, hres, val, ?_⟩
      obtain ⟨hb, hex⟩ := cond_some hex
      obtain ⟨_, hids⟩ := and_true hb
      have hv1 : All2 (Vc st'.m g1 S1 w1) (partsOut 0 noMem sp.ins x).1 vals := hv0.mono (Vc.tr e1.tr e1.hold e1.sub)
      split at hex
      · rename_i y b hy hbx
        have hex : (y, b) = sp.g x := Option.some.inj hex
        have key := export_res h1.mr hv1 hac hids hy hbx
        obtain ⟨S', B1, B2, r1, r2, r3, r4, r5, r6, r7, r8⟩ := key
        refine ⟨S', B1, B2, rfl, told_of hg hown0 e1 ?_ ?_ r3 r4 r5 r6 r7 r8⟩
        · rw [← hex]
          exact r1
        · rw [← hex]
          exact r2
      · cases hex
    cases o with
    | exit i => cases hr
    | norm =>
      simp only [fend] at hr
      split at hr
      · rename_i v hv
        exact ⟨h1.defers, fin v hv hr⟩
      · cases hr
    | ret =>
      simp only [fend] at hr
      split at hr
      · rename_i v hv
        exact ⟨h1.defers, fin v hv hr⟩
      · cases hr
  · cases hr
end
end Go.Rx

/-
  ENGINE, part Y: the run of code with what comes behind in hand is the run.
  Seat-independent.
-/
import Derived.Test.YtoagkidolpcigaaRxW
namespace Go.Rx
open Go Go.RowKit
set_option linter.unusedVariables false
set_option linter.unusedSimpArgs false

section
variable {R : Type} {cx : Cx}

theorem condsK_eq (k : Option R) : ∀ cs : List Bool, condsK k cs = if cs.all (fun b => b) = true then k else none
  | [] => rfl
  | b :: r => by
    unfold condsK
    rw [condsK_eq k r]
    cases b <;> simp

theorem stepPK_eq (p : Option Plan) (dst : Option Tmp) (st : St) (k : St → Option R) : stepPK p dst st k = (stepP p dst st).bind k := by
  unfold stepPK stepP
  cases p with
  | none => rfl
  | some p =>
    simp only
    cases p.go (restr (p.rd ++ p.wr) st.m) with
    | none => rfl
    | some r =>
      simp only
      rw [condsK_eq]
      split
      · cases (r.ws.all fun w => inL w.1 p.wr) <;> rfl
      · rfl
theorem upd_self {α : Type} (f : Nat → α) (i : Nat) : upd f i (f i) = f := by
  funext j
  by_cases h : j = i
  · subst h
    exact upd_same _ _ _
  · exact upd_ne _ _ h

theorem gOpK_eq (ops : Array Oper) (o : Oper) (st : St) (act skip : St → Option R) : gOpK ops o st act skip = match wants ops o st.sl with
    | none => none
    | some true => act st
    | some false => skip ⟨setDst st.sl o.dst (.tup []), st.m⟩ := by
  unfold gOpK wants
  cases o.guard with
  | none => rfl
  | some gw =>
    obtain ⟨gi, want⟩ := gw
    simp only
    cases guardSlot ops gi with
    | none => rfl
    | some s =>
      simp only
      split
      · rename_i b hb
        by_cases hw : (show Bool from b) = want
        · have e : upd st.sl s (A.bool want) = st.sl := by
            have : A.bool want = st.sl s := by
              rw [hb]
              exact congrArg (fun q : Bool => A.bool q) hw.symm
            rw [this, upd_self]
          rw [if_pos hw, e]
          have : ((show Bool from b) == want) = true := by
            rw [hw]
            cases want <;> rfl
          rw [this]
        · have hw' : (show Bool from b) = !want := by
            cases hh : (show Bool from b) <;> cases want <;> first | rfl | exact absurd hh hw
          have e : upd st.sl s (A.bool (!want)) = st.sl := by
            have : A.bool (!want) = st.sl s := by
              rw [hb]
              exact congrArg (fun q : Bool => A.bool q) hw'.symm
            rw [this, upd_self]
          rw [if_neg hw, e]
          have : ((show Bool from b) == want) = false := by
            rw [hw']
            cases want <;> rfl
          rw [this]
      · rfl
      · rfl

theorem opsK_eq (ops : Array Oper) : ∀ (l : List Oper) (st : St) (k : St → Option R), opsK cx ops l st k = (opsRun cx ops l st).bind k
  | [], st, k => rfl
  | o :: l, st, k => by
    unfold opsK opsRun
    rw [gOpK_eq]
    generalize wants ops o st.sl = q
    rcases q with _ | _ | _
    · rfl
    · exact opsK_eq ops l _ k
    · rw [stepOpK, stepPK_eq]
      cases hs : stepP (planOf cx st.m o st.sl) o.dst st with
      | none => simp only [stepOp, hs, Option.bind_none]
      | some st' =>
        simp only [stepOp, hs, Option.bind_some]
        exact opsK_eq ops l st' k

theorem drawK_eq (ops : Array Oper) (ah : List Nat) : ∀ (l : List Oper) (i : Nat) (fs : List Foot) (st : St) (k : St → Option R), drawK cx ops ah l i fs st k = (drawRun cx ops ah l i fs st).bind k
  | [], i, fs, st, k => rfl
  | o :: l, i, fs, st, k => by
    unfold drawK drawRun
    rw [gOpK_eq]
    generalize wants ops o st.sl = q
    rcases q with _ | _ | _
    · rfl
    · cases freeFrom ah (foot0 ops i o) fs with
      | false => rfl
      | true => exact drawK_eq ops ah l (i + 1) _ _ k
    · cases freeFrom ah (footOf cx ops i o st) fs with
      | false => rfl
      | true =>
        simp only [cond_true]
        rw [stepOpK, stepPK_eq]
        cases hs : stepP (planOf cx st.m o st.sl) o.dst st with
        | none => simp only [stepOp, hs, Option.bind_none]
        | some st' =>
          simp only [stepOp, hs, Option.bind_some]
          exact drawK_eq ops ah l (i + 1) _ st' k

end
end Go.Rx
namespace Go.Rx
open Go Go.RowKit
set_option linter.unusedVariables false
set_option linter.unusedSimpArgs false

section
variable {R : Type} {cx : Cx}
theorem runK_block {id : Nat} {c : Code} (hc : ¬ ∃ c', c = .loop c') (st : St) (k : Out → St → Option R) : runK cx (.block id c) st k = runK cx c st (inBlockK id k) := by
  conv => lhs; unfold runK
  cases c <;> first | rfl | exact absurd ⟨_, rfl⟩ hc
theorem run_block {id : Nat} {c : Code} (hc : ¬ ∃ c', c = .loop c') (st : St) : run cx (.block id c) st = inBlock id (run cx c st) := by
  cases c <;> first | rfl | exact absurd ⟨_, rfl⟩ hc
theorem flagK (k : Out → St → Option R) (f : Nat) (st : St) : (if f = 0 then k .norm st else if f = 1 then k .ret st else k (.exit (f - 2)) st) = k (flagOut f) st := by
  match f with
  | 0 => rfl
  | 1 => rfl
  | i + 2 => rfl
theorem runK_eq : ∀ (c : Code) (st : St) (k : Out → St → Option R), runK cx c st k = (run cx c st).bind fun p => k p.1 p.2
  | .skip, st, k => rfl
  | .exit id, st, k => rfl
  | .ret, st, k => rfl
  | .region id ops draw, st, k => by
    unfold runK run
    cases draw with
    | true =>
      simp only [cond_true]
      rw [drawK_eq]
      cases drawRun cx ops (aheadOf ops.toList []) ops.toList 0 [] st <;> rfl
    | false =>
      simp only [cond_false]
      rw [opsK_eq]
      cases opsRun cx ops ops.toList st <;> rfl
  | .seq a b, st, k => by
    unfold runK run
    rw [runK_eq a]
    cases run cx a st with
    | none => rfl
    | some p =>
      obtain ⟨o, st'⟩ := p
      cases o with
      | norm => exact runK_eq b st' k
      | exit i => rfl
      | ret => rfl
  | .cond c x y, st, k => by
    unfold runK run
    split
    · rename_i b hb
      by_cases h : (show Bool from b) = true
      · rw [if_pos h, if_pos h]
        exact runK_eq x st k
      · rw [if_neg h, if_neg h]
        exact runK_eq y st k
    · rfl
  | .block id c, st, k => by
    by_cases hc : ∃ c', c = .loop c'
    · obtain ⟨c', rfl⟩ := hc
      unfold runK run
      cases cx.lp id with
      | none => rfl
      | some ls =>
        simp only
        cases lpStep cx id c' ls st with
        | none => rfl
        | some r =>
          simp only
          by_cases hp : r.pre = true
          · rw [if_pos hp, if_pos hp]
            rw [flagK]
            rfl
          · rw [if_neg hp, if_neg hp]
            rfl
    · rw [runK_block hc, run_block hc, runK_eq c]
      cases run cx c st with
      | none => rfl
      | some p =>
        obtain ⟨o, st'⟩ := p
        cases o with
        | norm => rfl
        | ret => rfl
        | exit i =>
          show cond (Nat.beq i id) (k .norm st') (k (.exit i) st') = (cond (Nat.beq i id) (some (Out.norm, st')) (some (Out.exit i, st'))).bind _
          cases Nat.beq i id <;> rfl
  | .loop c, st, k => rfl
  | .goto l, st, k => rfl
  | .label l, st, k => rfl
  | .rangeFunc _ _ _ _, st, k => rfl
  | .scope _, st, k => rfl
  | .refuse _, st, k => rfl

theorem funK_eq (F : Func) (ins : List PK) (out : RK) (x : PKs.den ins) : funRun cx F ins out x = funK cx F ins out x := by
  unfold funRun funK
  rw [runK_eq]
  cases run cx (bodyOf F) (fstart ins x) with
  | none => rfl
  | some p => rfl
theorem roundK_eq (id : Nat) (c : Code) (ls : LSpec) (x : PKs.den ls.ins) : roundRun cx id c ls x = roundK cx id c ls x := by
  unfold roundRun roundK
  rw [runK_eq]
  cases run cx c (lstart ls.live ls.ins x) with
  | none => rfl
  | some p => rfl
end
end Go.Rx

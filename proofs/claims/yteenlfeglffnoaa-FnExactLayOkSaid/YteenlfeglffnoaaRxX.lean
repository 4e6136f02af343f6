/-
  ENGINE, part X: the run with what comes behind in hand is the run.
  Seat-independent.
-/
import Derived.Test.YteenlfeglffnoaaRxW
namespace Go.Rx
open Go Go.RowKit
set_option linter.unusedVariables false
set_option linter.unusedSimpArgs false

section
variable {R : Type} {cx : Cx}

theorem condsK_eq (k : Option R) : ∀ cs : List Bool, condsK k cs = if cs.all (fun b => b) = true then k else none
  | [] => rfl
  | b :: r => by
    unfold condsK
    rw [condsK_eq k r]
    cases b <;> simp

theorem stepPK_eq (p : Option Plan) (dst : Option Tmp) (st : St) (k : St → Option R) : stepPK p dst st k = (stepP p dst st).bind k := by
  unfold stepPK stepP
  cases p with
  | none => rfl
  | some p =>
    simp only
    cases p.go (restr (p.rd ++ p.wr) st.m) with
    | none => rfl
    | some r =>
      simp only
      rw [condsK_eq]
      split
      · cases (r.ws.all fun w => inL w.1 p.wr) <;> rfl
      · rfl
theorem upd_self {α : Type} (f : Nat → α) (i : Nat) : upd f i (f i) = f := by
  funext j
  by_cases h : j = i
  · subst h
    exact upd_same _ _ _
  · exact upd_ne _ _ h

theorem gOpK_eq (ops : Array Oper) (o : Oper) (st : St) (act skip : St → Option R) : gOpK ops o st act skip = match wants ops o st.sl with
    | none => none
    | some true => act st
    | some false => skip ⟨setDst st.sl o.dst (.tup []), st.m⟩ := by
  unfold gOpK wants
  cases o.guard with
  | none => rfl
  | some gw =>
    obtain ⟨gi, want⟩ := gw
    simp only
    cases guardSlot ops gi with
    | none => rfl
    | some s =>
      simp only
      split
      · rename_i b hb
        by_cases hw : (show Bool from b) = want
        · have e : upd st.sl s (A.bool want) = st.sl := by
            have : A.bool want = st.sl s := by
              rw [hb]
              exact congrArg (fun q : Bool => A.bool q) hw.symm
            rw [this, upd_self]
          rw [if_pos hw, e]
          have : ((show Bool from b) == want) = true := by
            rw [hw]
            cases want <;> rfl
          rw [this]
        · have hw' : (show Bool from b) = !want := by
            cases hh : (show Bool from b) <;> cases want <;> first | rfl | exact absurd hh hw
          have e : upd st.sl s (A.bool (!want)) = st.sl := by
            have : A.bool (!want) = st.sl s := by
              rw [hb]
              exact congrArg (fun q : Bool => A.bool q) hw'.symm
            rw [this, upd_self]
          rw [if_neg hw, e]
          have : ((show Bool from b) == want) = false := by
            rw [hw']
            cases want <;> rfl
          rw [this]
      · rfl
      · rfl

theorem opsK_eq (ops : Array Oper) : ∀ (l : List Oper) (st : St) (k : St → Option R), opsK cx ops l st k = (opsRun cx ops l st).bind k
  | [], st, k => rfl
  | o :: l, st, k => by
    unfold opsK opsRun
    rw [gOpK_eq]
    generalize wants ops o st.sl = q
    rcases q with _ | _ | _
    · rfl
    · exact opsK_eq ops l _ k
    · rw [stepOpK, stepPK_eq]
      cases hs : stepP (planOf cx st.m o st.sl) o.dst st with
      | none => simp only [stepOp, hs, Option.bind_none]
      | some st' =>
        simp only [stepOp, hs, Option.bind_some]
        exact opsK_eq ops l st' k

theorem drawK_eq (ops : Array Oper) (ah : List Nat) : ∀ (l : List Oper) (i : Nat) (fs : List Foot) (st : St) (k : St → Option R), drawK cx ops ah l i fs st k = (drawRun cx ops ah l i fs st).bind k
  | [], i, fs, st, k => rfl
  | o :: l, i, fs, st, k => by
    unfold drawK drawRun
    rw [gOpK_eq]
    generalize wants ops o st.sl = q
    rcases q with _ | _ | _
    · rfl
    · cases freeFrom ah (foot0 ops i o) fs with
      | false => rfl
      | true => exact drawK_eq ops ah l (i + 1) _ _ k
    · cases freeFrom ah (footOf cx ops i o st) fs with
      | false => rfl
      | true =>
        simp only [cond_true]
        rw [stepOpK, stepPK_eq]
        cases hs : stepP (planOf cx st.m o st.sl) o.dst st with
        | none => simp only [stepOp, hs, Option.bind_none]
        | some st' =>
          simp only [stepOp, hs, Option.bind_some]
          exact drawK_eq ops ah l (i + 1) _ st' k

end
end Go.Rx

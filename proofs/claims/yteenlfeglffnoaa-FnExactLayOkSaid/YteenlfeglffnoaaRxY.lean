/-
  ENGINE, part Y: the run of code with what comes behind in hand is the run.
  Seat-independent.
-/
import Derived.Test.YteenlfeglffnoaaRxX
namespace Go.Rx
open Go Go.RowKit
set_option linter.unusedVariables false
set_option linter.unusedSimpArgs false

section
variable {R : Type} {cx : Cx}
theorem runK_block {id : Nat} {c : Code} (hc : ¬ ∃ c', c = .loop c') (st : St) (k : Out → St → Option R) : runK cx (.block id c) st k = runK cx c st (inBlockK id k) := by
  conv => lhs; unfold runK
  cases c <;> first | rfl | exact absurd ⟨_, rfl⟩ hc
theorem run_block {id : Nat} {c : Code} (hc : ¬ ∃ c', c = .loop c') (st : St) : run cx (.block id c) st = inBlock id (run cx c st) := by
  cases c <;> first | rfl | exact absurd ⟨_, rfl⟩ hc
theorem flagK (k : Out → St → Option R) (f : Nat) (st : St) : (if f = 0 then k .norm st else if f = 1 then k .ret st else k (.exit (f - 2)) st) = k (flagOut f) st := by
  match f with
  | 0 => rfl
  | 1 => rfl
  | i + 2 => rfl
theorem runK_eq : ∀ (c : Code) (st : St) (k : Out → St → Option R), runK cx c st k = (run cx c st).bind fun p => k p.1 p.2
  | .skip, st, k => rfl
  | .exit id, st, k => rfl
  | .ret, st, k => rfl
  | .region id ops draw, st, k => by
    unfold runK run
    cases draw with
    | true =>
      simp only [cond_true]
      rw [drawK_eq]
      cases drawRun cx ops (aheadOf ops.toList []) ops.toList 0 [] st <;> rfl
    | false =>
      simp only [cond_false]
      rw [opsK_eq]
      cases opsRun cx ops ops.toList st <;> rfl
  | .seq a b, st, k => by
    unfold runK run
    rw [runK_eq a]
    cases run cx a st with
    | none => rfl
    | some p =>
      obtain ⟨o, st'⟩ := p
      cases o with
      | norm => exact runK_eq b st' k
      | exit i => rfl
      | ret => rfl
  | .cond c x y, st, k => by
    unfold runK run
    split
    · rename_i b hb
      by_cases h : (show Bool from b) = true
      · rw [if_pos h, if_pos h]
        exact runK_eq x st k
      · rw [if_neg h, if_neg h]
        exact runK_eq y st k
    · rfl
  | .block id c, st, k => by
    by_cases hc : ∃ c', c = .loop c'
    · obtain ⟨c', rfl⟩ := hc
      unfold runK run
      cases cx.lp id with
      | none => rfl
      | some ls =>
        simp only
        cases lpStep cx id c' ls st with
        | none => rfl
        | some r =>
          simp only
          by_cases hp : r.pre = true
          · rw [if_pos hp, if_pos hp]
            rw [flagK]
            rfl
          · rw [if_neg hp, if_neg hp]
            rfl
    · rw [runK_block hc, run_block hc, runK_eq c]
      cases run cx c st with
      | none => rfl
      | some p =>
        obtain ⟨o, st'⟩ := p
        cases o with
        | norm => rfl
        | ret => rfl
        | exit i =>
          show cond (Nat.beq i id) (k .norm st') (k (.exit i) st') = (cond (Nat.beq i id) (some (Out.norm, st')) (some (Out.exit i, st'))).bind _
          cases Nat.beq i id <;> rfl
  | .loop c, st, k => rfl
  | .goto l, st, k => rfl
  | .label l, st, k => rfl
  | .rangeFunc _ _ _ _, st, k => rfl
  | .scope _, st, k => rfl
  | .refuse _, st, k => rfl

theorem funK_eq (F : Func) (ins : List PK) (out : RK) (x : PKs.den ins) : funRun cx F ins out x = funK cx F ins out x := by
  unfold funRun funK
  rw [runK_eq]
  cases run cx (bodyOf F) (fstart ins x) with
  | none => rfl
  | some p => rfl
theorem roundK_eq (id : Nat) (c : Code) (ls : LSpec) (x : PKs.den ls.ins) : roundRun cx id c ls x = roundK cx id c ls x := by
  unfold roundRun roundK
  rw [runK_eq]
  cases run cx c (lstart ls.live ls.ins x) with
  | none => rfl
  | some p => rfl
end
end Go.Rx

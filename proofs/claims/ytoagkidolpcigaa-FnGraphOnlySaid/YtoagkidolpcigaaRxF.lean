/-
  ENGINE, part F: the operations that write nothing are as their plans say.
  Seat-independent.
-/
import Derived.Test.YtoagkidolpcigaaRxE
import Derived.Tactics
import Derived.Laws.Cells
import Derived.Laws.Rows
namespace Go.Rx
open Go Go.RowKit
set_option linter.unusedVariables false
set_option linter.unusedSimpArgs false

/-! ### types as the program has them -/
def zeroB : C → Value → Bool
  | .d (.int k) x, .int k' n => k = k' && (show Int from x) == n
  | .d .bool x, .bool b => x == b
  | .d .str x, .string s => (show ByteArray from x).data == s.data
  | .nil, .slice none 0 0 => true
  | .any, _ => true
  | _, _ => false
def zerosB : List C → List Value → Bool
  | [], [] => true
  | x :: xs, v :: vs => zeroB x v && zerosB xs vs
  | _, _ => false

theorem zeroB_ok {x : C} {v : Value} (h : zeroB x v = true) (m : Mem) (g : Nat → Value) (S : Nat → Prop) (w : World) : Cc m g S w x v := by
  unfold zeroB at h
  split at h
  · simp at h
    obtain ⟨rfl, h⟩ := h
    show _ = _
    rw [h]
  · simp at h
    show _ = _
    rw [h]
  · rename_i x s
    simp at h
    show Value.string s = Value.string x
    cases x
    cases s
    simp at h
    rw [h]
  · rfl
  · trivial
  · cases h
theorem zerosB_ok : ∀ {xs : List C} {vs : List Value}, zerosB xs vs = true → ∀ (m : Mem) (g : Nat → Value) (S : Nat → Prop) (w : World), All2 (Cc m g S w) xs vs
  | [], [], _, _, _, _, _ => trivial
  | x :: xs, v :: vs, h, m, g, S, w => by
    simp [zerosB] at h
    exact ⟨zeroB_ok h.1 m g S w, zerosB_ok h.2 m g S w⟩
  | [], _ :: _, h, _, _, _, _ => by simp [zerosB] at h
  | _ :: _, [], h, _, _, _, _ => by simp [zerosB] at h

def aggDesc : TypeDesc → Bool
  | .struct _ => true
  | .array _ _ => true
  | _ => false

structure TyOk (P : Program) (t : Nat) (i : TyI) : Prop where
  info : ∃ inf, P.info? t = some inf ∧ inf.size = i.size ∧ inf.bytes = i.bytes ∧ ∃ z, inf.zero = some z ∧ zerosB i.cells z.cells.toList = true
  und : ∃ dsc, P.underlying t = some dsc ∧ aggDesc dsc = i.agg ∧ (∀ e, i.elem = some e → dsc = .slice e) ∧ (∀ k, i.int = some k → dsc = .int k) ∧ (i.isStr = true → dsc = .string) ∧ (i.isBool = true → dsc = .bool) ∧
    (∀ (f off ft : Nat), i.offs[f]? = some (off, ft) → ∃ (fs : Array Field) (fd : Field), dsc = .struct fs ∧ fs[f]? = some fd ∧ fd.offset = off ∧ fd.type = ft) ∧ (i.offs = [] ∨ ∃ fs : Array Field, dsc = .struct fs ∧ fs.size = i.offs.length)
  mp : i.map = true → ∃ k e inf, P.underlying t = some (.map k e) ∧ P.underlying k = some .string ∧ P.info? e = some inf ∧ inf.zero = some (.bool false)

def TabOk (P : Program) (T : Tab) : Prop := ∀ t i, T.get t = some i → TyOk P t i

def offsB (fs : Array Field) (offs : List (Nat × Nat)) : Bool := (fs.toList.map fun f => (f.offset, f.type)) == offs
def mapB (P : Program) : TypeDesc → Bool
  | .map k e => match P.underlying k, P.info? e with
    | some .string, some inf => match inf.zero with
      | some (.bool false) => true
      | _ => false
    | _, _ => false
  | _ => false
theorem mapB_ok {P : Program} {d : TypeDesc} (h : mapB P d = true) : ∃ k e inf, d = .map k e ∧ P.underlying k = some .string ∧ P.info? e = some inf ∧ inf.zero = some (.bool false) := by
  unfold mapB at h
  split at h
  · split at h
    · split at h
      · exact ⟨_, _, _, rfl, by assumption, by assumption, by assumption⟩
      · cases h
    · cases h
  · cases h
def tyB (P : Program) (t : Nat) (i : TyI) : Bool :=
  match P.info? t, P.underlying t with
  | some inf, some dsc => (inf.size == i.size) && ((inf.bytes == i.bytes) && ((match inf.zero with | some z => zerosB i.cells z.cells.toList | none => false) && ((aggDesc dsc == i.agg) &&
      ((match i.elem with | some e => (match dsc with | .slice e' => e' == e | _ => false) | none => true) &&
      ((match i.int with | some k => (match dsc with | .int k' => decide (k' = k) | _ => false) | none => true) &&
      ((match i.isStr, dsc with | true, .string => true | true, _ => false | false, _ => true) &&
      ((match i.isBool, dsc with | true, .bool => true | true, _ => false | false, _ => true) &&
      (match i.offs with | [] => true | o :: os => (match dsc with | .struct fs => offsB fs (o :: os) | _ => false)) && (!i.map || mapB P dsc))))))))
  | _, _ => false
def tabB (P : Program) : Tab → Bool
  | [] => true
  | (t, i) :: r => tyB P t i && tabB P r

theorem tyB_ok {P : Program} {t : Nat} {i : TyI} (h : tyB P t i = true) : TyOk P t i := by
  unfold tyB at h
  split at h
  · rename_i inf dsc hi hd
    simp only [Bool.and_eq_true, beq_iff_eq] at h
    obtain ⟨h1, h2, h3, h4, h5, h6, h7, ⟨h9, h8⟩, hmp⟩ := h
    refine ⟨⟨inf, hi, h1, h2, ?_⟩, ⟨dsc, hd, h4, fun e he => ?_, fun k hk => ?_, fun hs => ?_, fun hs => ?_, fun f off ft hf => ?_, ?_⟩, fun hm => ?_⟩
    · split at h3
      · rename_i z hz
        exact ⟨z, hz, h3⟩
      · cases h3
    · rw [he] at h5
      simp only at h5
      split at h5
      · simp at h5
        rw [h5]
      · cases h5
    · rw [hk] at h6
      simp only at h6
      split at h6
      · simp at h6
        rw [h6]
      · cases h6
    · rw [hs] at h7
      split at h7
      · rfl
      · cases h7
      · rename_i hh
        cases hh
    · rw [hs] at h9
      split at h9
      · rfl
      · cases h9
      · rename_i hh
        cases hh
    · split at h8
      · rename_i ho
        rw [ho] at hf
        simp at hf
      · rename_i o os ho
        split at h8
        · rename_i fs
          unfold offsB at h8
          simp at h8
          rw [ho, ← h8] at hf
          simp at hf
          obtain ⟨fd, hfd, rfl, rfl⟩ := hf
          exact ⟨fs, fd, rfl, hfd, rfl, rfl⟩
        · cases h8
    · split at h8
      · rename_i ho
        exact .inl ho
      · rename_i o os ho
        split at h8
        · rename_i fs
          unfold offsB at h8
          simp at h8
          right
          exact ⟨fs, rfl, by rw [ho, ← h8]; simp⟩
        · cases h8
    · rw [hm] at hmp
      obtain ⟨k, e, inf', h1', h2', h3', h4'⟩ := mapB_ok (by simpa using hmp)
      exact ⟨k, e, inf', by rw [hd, h1'], h2', h3', h4'⟩
  · cases h

theorem tabB_ok {P : Program} : ∀ {T : Tab}, tabB P T = true → TabOk P T
  | [], _, t, i, h => by simp [Tab.get] at h
  | (k, j) :: r, hb, t, i, h => by
    simp [tabB] at hb
    unfold Tab.get at h
    cases hk : Nat.beq k t with
    | true =>
      rw [hk] at h
      simp at h
      subst h
      have := Nat.eq_of_beq_eq_true hk
      subst this
      exact tyB_ok hb.1
    | false =>
      rw [hk] at h
      exact tabB_ok hb.2 t i h

/-! ### what an operation owes -/
def Post (m : Mem) (g : Nat → Value) (S : Nat → Prop) (w : World) (m' : Mem) (v : A) (val : Value) (w' : World) : Prop :=
  ∃ g' S', MRel m' g' S' w' ∧ Evo m g S w m' g' S' w' ∧ Ac m' g' S' w' v val
def OpOk (P : Program) (o : Oper) (ρ : Operand → Value) (m : Mem) (g : Nat → Value) (S : Nat → Prop) (w : World) (m' : Mem) (v : A) : Prop :=
  (∃ val w', (execOp ρ o).run P w = .ok (.value val) w' ∧ Post m g S w m' v val w') ∨
  (∃ w', (execOp ρ o).run P w = .ok .skip w' ∧ Post m g S w m' v undef w') ∨
  (∃ f vs, (execOp ρ o).run P w = .ok (.enter f vs) w ∧ Calls P f vs w fun e w' => ∃ val, e = .returned val ∧ Post m g S w m' v val w')

theorem OpOk.pure {P : Program} {o : Oper} {ρ : Operand → Value} {m : Mem} {g : Nat → Value} {S : Nat → Prop} {w : World} {v : A} (hm : MRel m g S w) (val : Value)
    (hr : (execOp ρ o).run P w = .ok (.value val) w) (hv : Ac m g S w v val) : OpOk P o ρ m g S w m v :=
  .inl ⟨val, w, hr, g, S, hm, Evo.refl _ _ _ _, hv⟩

/-! ### numbers, strings, bools -/
theorem eqGuard_int (P : Program) (w : World) (op : BinOp) (t : TypeId) (x y : Operand) (k k' : IntKind) (a b : Int) : (eqGuard op t x y (.int k a) (.int k' b)).run P w = .ok () w := by
  unfold eqGuard
  cases op <;> rfl
theorem eqGuard_str (P : Program) (w : World) (op : BinOp) (t : TypeId) (x y : Operand) (a b : ByteArray) : (eqGuard op t x y (.string a) (.string b)).run P w = .ok () w := by
  unfold eqGuard
  cases op <;> rfl
theorem eqGuard_bool (P : Program) (w : World) (op : BinOp) (t : TypeId) (x y : Operand) (a b : Bool) : (eqGuard op t x y (.bool a) (.bool b)).run P w = .ok () w := by
  unfold eqGuard
  cases op <;> rfl

theorem intBin_ok {P : Program} {w : World} {op : BinOp} {t : TypeId} {k : IntKind} {x y : Int} {cs : List Bool} {c : C} (h : intBin op k x y = some (cs, c)) (hc : cs.all (fun b => b) = true)
    (hs : op ≠ .shl) (hs' : op ≠ .shr) : ∃ v, (binOp op t (.int k x) (.int k y)).run P w = .ok v w ∧ ∀ m g S w', Cc m g S w' c v := by
  unfold intBin at h
  cases op <;> simp only [Option.some.injEq, Prod.mk.injEq, reduceCtorEq] at h
  case quo =>
    obtain ⟨rfl, rfl⟩ := h
    simp at hc
    exact ⟨_, by simp [binOp, Op.intDiv, hc], fun _ _ _ _ => rfl⟩
  case rem =>
    obtain ⟨rfl, rfl⟩ := h
    simp at hc
    exact ⟨_, by simp [binOp, Op.intDiv, hc], fun _ _ _ _ => rfl⟩
  case eql =>
    obtain ⟨rfl, rfl⟩ := h
    refine ⟨_, by simp [binOp, Op.intCmp]; rfl, fun _ _ _ _ => ?_⟩
    show Value.bool _ = Value.bool _
    congr 1
  case neq =>
    obtain ⟨rfl, rfl⟩ := h
    refine ⟨_, by simp [binOp, Op.intCmp]; rfl, fun _ _ _ _ => ?_⟩
    show Value.bool _ = Value.bool _
    congr 1
  all_goals
    obtain ⟨rfl, rfl⟩ := h
    exact ⟨_, by first | (simp [binOp, Op.intArith, Op.intBits, Op.intCmp]; done) | (simp [binOp, Op.intArith, Op.intBits, Op.intCmp]; rfl), fun _ _ _ _ => rfl⟩

theorem toList_eq (x : ByteArray) : x.toList = x.data.toList := by
  have h : ∀ (n i : Nat) (r : List UInt8), n = x.size - i → ByteArray.toList.loop x i r = r.reverse ++ x.data.toList.drop i := by
    intro n
    induction n with
    | zero =>
      intro i r h
      unfold ByteArray.toList.loop
      have hz : x.size = x.data.size := rfl
      rw [if_neg (by omega), List.drop_of_length_le (by rw [Array.length_toList]; omega)]
      simp
    | succ n ih =>
      intro i r h
      unfold ByteArray.toList.loop
      have hlt : i < x.size := by omega
      rw [if_pos hlt, ih (i + 1) _ (by omega)]
      have hlt' : i < x.data.toList.length := by rw [Array.length_toList]; exact hlt
      rw [List.drop_eq_getElem_cons hlt']
      have e : x.get! i = x.data.toList[i] := by
        simp only [ByteArray.get!]
        rw [Array.getElem_toList]
        exact getElem!_pos x.data i hlt
      rw [e]
      simp
  have := h x.size 0 [] (by omega)
  simpa [ByteArray.toList] using this

theorem strEq_toList (x y : ByteArray) : (x.toList == y.toList) = strEq x y := by
  unfold strEq
  rw [toList_eq, toList_eq]
  by_cases h : x.data = y.data
  · simp [h]
  · have h' : ¬ x.data.toList = y.data.toList := fun e => h (Array.toList_inj.1 e)
    simp [h, h']

theorem strBin_ok {P : Program} {w : World} {op : BinOp} {t : TypeId} {x y : ByteArray} {cs : List Bool} {c : C} (h : strBin op x y = some (cs, c)) (hc : cs.all (fun b => b) = true) :
    ∃ v, (binOp op t (.string x) (.string y)).run P w = .ok v w ∧ ∀ m g S w', Cc m g S w' c v := by
  unfold strBin at h
  cases op <;> simp only [Option.some.injEq, Prod.mk.injEq, reduceCtorEq] at h
  case add =>
    obtain ⟨rfl, rfl⟩ := h
    simp at hc
    refine ⟨.string (x ++ y), ?_, fun _ _ _ _ => rfl⟩
    have : ¬ (((x.size + y.size : Nat) : Int) > IntKind.i64.max) := by
      have : IntKind.i64.max = 9223372036854775807 := rfl
      omega
    simp only [binOp, Op.stringOp]
    rw [if_neg this]
    rfl
  case eql =>
    obtain ⟨rfl, rfl⟩ := h
    exact ⟨.bool (strEq x y), by simp only [binOp, Op.stringOp, strEq_toList]; rfl, fun _ _ _ _ => rfl⟩
  case neq =>
    obtain ⟨rfl, rfl⟩ := h
    exact ⟨.bool (!strEq x y), by simp only [binOp, Op.stringOp, strEq_toList]; rfl, fun _ _ _ _ => rfl⟩
  case lss =>
    obtain ⟨rfl, rfl⟩ := h
    exact ⟨.bool (strLt x y), rfl, fun _ _ _ _ => rfl⟩
  case leq =>
    obtain ⟨rfl, rfl⟩ := h
    exact ⟨.bool (strLt x y || strEq x y), by simp only [binOp, Op.stringOp, strEq_toList]; rfl, fun _ _ _ _ => rfl⟩
  case gtr =>
    obtain ⟨rfl, rfl⟩ := h
    exact ⟨.bool (!(strLt x y || strEq x y)), by simp only [binOp, Op.stringOp, strEq_toList]; rfl, fun _ _ _ _ => rfl⟩
  case geq =>
    obtain ⟨rfl, rfl⟩ := h
    exact ⟨.bool (!strLt x y), rfl, fun _ _ _ _ => rfl⟩

theorem run_equal_bool {P : Program} {w : World} {t : TypeId} (ht : P.underlying t = some .bool) (d : Nat) (x y : Bool) : (Op.equalIn (d + 1) t (.bool x) (.bool y)).run P w = .ok (x == y) w := by
  unfold Op.equalIn
  simp only [Sem.run_bind, underlying, run_program, Result.andThen_ok, ht, Sem.run_pure]
theorem run_equal_int {P : Program} {w : World} {t : TypeId} {k : IntKind} (ht : P.underlying t = some (.int k)) (d : Nat) (x y : Int) : (Op.equalIn (d + 1) t (.int k x) (.int k y)).run P w = .ok (x == y) w := by
  unfold Op.equalIn
  simp only [Sem.run_bind, underlying, run_program, Result.andThen_ok, ht, Sem.run_pure, if_true, ite_true]
theorem run_equal_str {P : Program} {w : World} {t : TypeId} (ht : P.underlying t = some .string) (d : Nat) (x y : ByteArray) : (Op.equalIn (d + 1) t (.string x) (.string y)).run P w = .ok (x == y) w := by
  unfold Op.equalIn
  simp only [Sem.run_bind, underlying, run_program, Result.andThen_ok, ht, Sem.run_pure]

theorem boolBin_ok {P : Program} {w : World} {op : BinOp} {t : TypeId} {x y : Bool} {cs : List Bool} {c : C} (h : boolBin op x y = some (cs, c)) (ht : P.underlying t = some .bool) :
    ∃ v, (binOp op t (.bool x) (.bool y)).run P w = .ok v w ∧ ∀ m g S w', Cc m g S w' c v := by
  have he : (Op.equal t (.bool x) (.bool y)).run P w = .ok (x == y) w := run_equal_bool ht 9999 x y
  unfold boolBin at h
  cases op <;> simp only [Option.some.injEq, Prod.mk.injEq, reduceCtorEq] at h
  case eql =>
    obtain ⟨rfl, rfl⟩ := h
    refine ⟨.bool (x == y), ?_, fun _ _ _ _ => rfl⟩
    show (do pure (Value.bool (← Op.equal t (.bool x) (.bool y))) : Sem Value).run P w = _
    rw [Sem.run_bind, he]
    rfl
  case neq =>
    obtain ⟨rfl, rfl⟩ := h
    refine ⟨.bool (!(x == y)), ?_, fun _ _ _ _ => rfl⟩
    show (do pure (Value.bool (!(← Op.equal t (.bool x) (.bool y)))) : Sem Value).run P w = _
    rw [Sem.run_bind, he]
    rfl
end Go.Rx

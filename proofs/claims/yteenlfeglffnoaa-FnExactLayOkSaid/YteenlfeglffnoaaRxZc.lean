/-
  ENGINE, part Zc: contracts gathered; a loop's rounds by a measure; plain facts about numbers and lists.
  Seat-independent.
-/
import Derived.Test.YteenlfeglffnoaaRxZb
import Derived.IntWalk
namespace Go.Rx
open Go Go.RowKit
set_option linter.unusedVariables false
set_option linter.unusedSimpArgs false

/-! ### contracts gathered -/
def AllOk (P : Program) (f : Nat) : List Spec → Prop
  | [] => True
  | s :: r => SpecOk P f s ∧ AllOk P f r
def PhiOk (P : Program) : List (Nat × List Spec) → Prop
  | [] => True
  | p :: r => AllOk P p.1 p.2 ∧ PhiOk P r
theorem allOk_mem {P : Program} {f : Nat} : ∀ {l : List Spec}, AllOk P f l → ∀ sp ∈ l, SpecOk P f sp
  | [], _, _, h => by cases h
  | s :: r, h, sp, hm => by
    rcases List.mem_cons.1 hm with rfl | hm
    · exact h.1
    · exact allOk_mem h.2 sp hm
theorem phiOk_lk {P : Program} : ∀ {L : List (Nat × List Spec)}, PhiOk P L → ∀ f sp, sp ∈ lkS L f → SpecOk P f sp
  | [], _, f, sp, h => by cases h
  | (k, s) :: r, hp, f, sp, h => by
    unfold lkS at h
    cases hb : Nat.beq k f with
    | true =>
      rw [hb] at h
      rw [← beq_true hb]
      exact allOk_mem hp.1 sp h
    | false =>
      rw [hb] at h
      exact phiOk_lk hp.2 f sp h
theorem cxOk {P : Program} {T : Tab} {L : List (Nat × List Spec)} {lp : List (Nat × LSpec)} {mv : List Nat} {n : Nat} (hT : TabOk P T) (hE : EqOk P T) (h : PhiOk P L) : CxOk P (mkCx T L lp mv n) := ⟨hT, hE, phiOk_lk h⟩

def LpsL (P : Program) (cx : Cx) : List (Nat × Code) → Prop
  | [] => True
  | q :: r => (∀ ls, cx.lp q.1 = some ls → LpOk P cx.ntmps q.1 q.2 ls) ∧ LpsL P cx r
theorem lpsL_mem {P : Program} {cx : Cx} : ∀ {l : List (Nat × Code)}, LpsL P cx l → ∀ q ∈ l, ∀ ls, cx.lp q.1 = some ls → LpOk P cx.ntmps q.1 q.2 ls
  | [], _, _, h => by cases h
  | s :: r, h, q, hm => by
    rcases List.mem_cons.1 hm with rfl | hm
    · exact h.1
    · exact lpsL_mem h.2 q hm
theorem lps_of {P : Program} {cx : Cx} {c : Code} {l : List (Nat × Code)} (h : loopsOf c = l) (hl : LpsL P cx l) : LpsOk P cx c := by
  intro q hq
  rw [h] at hq
  exact lpsL_mem hl q hq
theorem lps_none {P : Program} {cx : Cx} {c : Code} (h : loopsOf c = []) : LpsOk P cx c := lps_of h trivial
theorem lp_at {P : Program} {cx : Cx} {i : Nat} {b : Code} {ls : LSpec} (h : LpOk P cx.ntmps i b ls) (e : cx.lp i = some ls) : ∀ ls', cx.lp i = some ls' → LpOk P cx.ntmps i b ls' := by
  intro ls' h'
  rw [e] at h'
  cases h'
  exact h

/-- A function keeps its contract: what is to be reckoned, in one list. -/
def funB (cx : Cx) (F : Func) (sp : Spec) : Bool :=
  Bool.and F.body.isSome (Bool.and (Nat.beq F.ntmps cx.ntmps) (Bool.and (codeB cx.ntmps (bodyOf F)) (Bool.and (Nat.ble sp.ins.length cx.ntmps) (noDup (partsNew 0 sp.ins)))))
theorem fun_okB {P : Program} {cx : Cx} (hcx : CxOk P cx) (hmix : P.follows .mixedOrders = true) {f : Nat} {F : Func} {sp : Spec} (hf : P.funcs[f]? = some F) (hname : F.name ≠ "runtime.NumGoroutine") (hB : funB cx F sp = true)
    (hlps : LpsOk P cx (bodyOf F)) (hrun : ∀ x, sp.pre x = true → funK cx F sp.ins sp.out x = some (sp.g x)) : SpecOk P f sp := by
  unfold funB at hB
  simp only [Bool.and_eq_true] at hB
  obtain ⟨h1, h2, h3, h4, h5⟩ := hB
  exact fun_ok hcx hmix hf hname h1 (beq_true h2) h3 h4 h5 hlps fun x hx => by rw [funK_eq]; exact hrun x hx

/-! ### rounds by a measure -/
def StepOk (ls : LSpec) (inv : PKs.den ls.ins → Prop) (μ : PKs.den ls.ins → Nat) (x : PKs.den ls.ins) : Option (LRes ls.ins ls.out) → Prop
  | none => False
  | some (.go x') => inv x' ∧ μ x' < μ x ∧ ls.g x' = ls.g x
  | some (.stop f y b) => ls.g x = ((f, y), b)
theorem iter_of {ls : LSpec} {f : PKs.den ls.ins → Option (LRes ls.ins ls.out)} (inv : PKs.den ls.ins → Prop) (μ : PKs.den ls.ins → Nat) (h : ∀ x, inv x → StepOk ls inv μ x (f x)) :
    ∀ (n : Nat) (x : PKs.den ls.ins), μ x < n → inv x → ∃ k, iter f k x = some (ls.g x)
  | 0, x, hn, _ => by omega
  | n + 1, x, hn, hx => by
    have hs := h x hx
    cases hf : f x with
    | none => rw [hf] at hs; exact hs.elim
    | some r =>
      rw [hf] at hs
      cases r with
      | go x' =>
        obtain ⟨h1, h2, h3⟩ := hs
        obtain ⟨k, hk⟩ := iter_of inv μ h n x' (by omega) h1
        refine ⟨k + 1, ?_⟩
        unfold iter
        rw [hf]
        simp only
        rw [hk, h3]
      | stop fl y b =>
        refine ⟨1, ?_⟩
        unfold iter
        rw [hf]
        simp only
        have : ls.g x = ((fl, y), b) := hs
        rw [this]
def lpB (n : Nat) (c : Code) (ls : LSpec) : Bool := Bool.and (codeB n c) (Bool.and (Nat.beq ls.ins.length ls.live.length) (noDup (partsNew 0 ls.ins)))
theorem lp_okB {P : Program} {cx : Cx} (hcx : CxOk P cx) (hmix : P.follows .mixedOrders = true) {id : Nat} {c : Code} {ls : LSpec} (hB : lpB cx.ntmps c ls = true) (hlps : LpsOk P cx c)
    (inv : PKs.den ls.ins → Prop) (μ : PKs.den ls.ins → Nat) (h0 : ∀ x, ls.pre x = true → inv x) (hstep : ∀ x, inv x → StepOk ls inv μ x (roundK cx id c ls x)) : LpOk P cx.ntmps id c ls := by
  unfold lpB at hB
  simp only [Bool.and_eq_true] at hB
  obtain ⟨h1, h2, h3⟩ := hB
  exact lp_ok hcx hmix h1 hlps h2 h3 fun x hx => iter_of inv μ (fun x hi => by rw [roundK_eq]; exact hstep x hi) (μ x + 1) x (Nat.lt_succ_self _) (h0 x hx)

/-! ### numbers and lists -/
theorem w64 {n : Int} (h0 : -9223372036854775808 ≤ n) (h1 : n ≤ 9223372036854775807) : IntKind.i64.wrap n = n := IntWalk.i64_in n ⟨h0, h1⟩
theorem drop_cons {α : Type} (d : α) : ∀ {xs : List α} {i : Nat}, i < xs.length → xs.drop i = xs.getD i d :: xs.drop (i + 1)
  | [], _, h => by simp at h
  | x :: xs, 0, _ => rfl
  | x :: xs, i + 1, h => by
    show xs.drop i = _
    rw [drop_cons d (xs := xs) (i := i) (by simpa using h)]
    simp
theorem drop_nil {α : Type} {xs : List α} {i : Nat} (h : xs.length ≤ i) : xs.drop i = [] := List.drop_eq_nil_of_le h
theorem take_succ {α : Type} (d : α) : ∀ {xs : List α} {i : Nat}, i < xs.length → xs.take (i + 1) = xs.take i ++ [xs.getD i d]
  | [], _, h => by simp at h
  | x :: xs, 0, _ => by simp
  | x :: xs, i + 1, h => by
    have := take_succ d (xs := xs) (i := i) (by simpa using h)
    simp [this]
theorem set_getD {α : Type} (d : α) {xs : List α} {i : Nat} : xs.set i (xs.getD i d) = xs := by
  apply List.ext_getElem (by simp)
  intro n h1 h2
  by_cases e : i = n
  · subst e
    have : i < xs.length := by simpa using h1
    simp [List.getD, this]
  · simp [e]
end Go.Rx

/-
  NAMES, INSTRUCTIONS AND FUNCTIONS: what the functions that verify them compute.
-/
import Derived.Test.YtoagkidolpcigaaCb
namespace Go.Rx
open Go
set_option linter.unusedVariables false
set_option linter.unusedSimpArgs false
/-! the first of the places from i on at which something is found -/
def G.scan {α : Type} (p : Nat → Option α) (n : Nat) (i : Int) : Option α := (List.range' i.toNat (n - i.toNat)).findSome? p
def G.flag {α : Type} (f : Nat) (o : Option α) : Nat := match o with | some _ => f | none => 0
def G.got {α : Type} (o : Option α) (d : α) : α := match o with | some a => a | none => d
def G.preA (n : Nat) (i : Int) : Bool := decide (0 ≤ i ∧ i ≤ (n : Int) ∧ n ≤ 1099511627776)
theorem preA_iff {n : Nat} {i : Int} : G.preA n i = true ↔ (0 ≤ i ∧ i ≤ (n : Int) ∧ n ≤ 1099511627776) := by simp [G.preA]
theorem scan_step {α : Type} {p : Nat → Option α} {n : Nat} {i : Int} (h0 : 0 ≤ i) (h : i < (n : Int)) : G.scan p n i = (p i.toNat).or (G.scan p n (i + 1)) := by
  unfold G.scan
  have e : n - i.toNat = (n - (i + 1).toNat) + 1 := by omega
  rw [e, List.range'_succ, List.findSome?_cons, toNat_succ h0]
  cases p i.toNat <;> rfl
theorem scan_end {α : Type} {p : Nat → Option α} {n : Nat} {i : Int} (h : (n : Int) ≤ i) : G.scan p n i = none := by
  unfold G.scan
  have e : n - i.toNat = 0 := by omega
  rw [e]
  rfl
def goStop {α β : Type} (o : Option α) (a : β) (f : α → β) : β := match o with | none => a | some w => f w
theorem scan_stop {ls : LSpec} (inv : PKs.den ls.ins → Prop) (μ : PKs.den ls.ins → Nat) {x : PKs.den ls.ins} {e : Option (LRes ls.ins ls.out)} (nx : PKs.den ls.ins) (o : Option (PKs.den ls.out)) (b : Bxs.den ls.ins) {fl : Nat}
    (he : e = goStop o (some (.go nx)) fun w => some (.stop fl w b)) (h1 : o = none → inv nx ∧ μ nx < μ x ∧ ls.g nx = ls.g x) (h2 : ∀ w, o = some w → ls.g x = ((fl, w), b)) : StepOk ls inv μ x e := by
  subst he
  cases o with
  | none => exact h1 rfl
  | some w => exact h2 w rfl
theorem scan_stop2 {ls : LSpec} (inv : PKs.den ls.ins → Prop) (μ : PKs.den ls.ins → Nat) {x : PKs.den ls.ins} {e : Option (LRes ls.ins ls.out)} (nx : PKs.den ls.ins) (o : Option (PKs.den ls.out × Bxs.den ls.ins)) {fl : Nat}
    (he : e = goStop o (some (.go nx)) fun w => some (.stop fl w.1 w.2)) (h1 : o = none → inv nx ∧ μ nx < μ x ∧ ls.g nx = ls.g x) (h2 : ∀ w, o = some w → ls.g x = ((fl, w.1), w.2)) : StepOk ls inv μ x e := by
  subst he
  cases o with
  | none => exact h1 rfl
  | some w => exact h2 w rfl
def G.fold {α : Type} (f : α → Nat → α) (n : Nat) (i : Int) (a : α) : α := (List.range' i.toNat (n - i.toNat)).foldl f a
theorem fold_step {α : Type} {f : α → Nat → α} {n : Nat} {i : Int} {a : α} (h0 : 0 ≤ i) (h : i < (n : Int)) : G.fold f n i a = G.fold f n (i + 1) (f a i.toNat) := by
  unfold G.fold
  have e : n - i.toNat = (n - (i + 1).toNat) + 1 := by omega
  rw [e, List.range'_succ, List.foldl_cons, toNat_succ h0]
theorem fold_end {α : Type} {f : α → Nat → α} {n : Nat} {i : Int} {a : α} (h : (n : Int) ≤ i) : G.fold f n i a = a := by
  unfold G.fold
  have e : n - i.toNat = 0 := by omega
  rw [e]
  rfl
theorem fold_go {ls : LSpec} (inv : PKs.den ls.ins → Prop) (μ : PKs.den ls.ins → Nat) {x : PKs.den ls.ins} {e : Option (LRes ls.ins ls.out)} (nx : PKs.den ls.ins)
    (he : e = some (.go nx)) (h1 : inv nx) (h2 : μ nx < μ x) (h3 : ls.g nx = ls.g x) : StepOk ls inv μ x e := by
  subst he
  exact ⟨h1, h2, h3⟩
/-! the first place at which something does not hold; the first at which it holds -/
def G.bad (p : Nat → Bool) (k : Nat) : Option (Bool × Unit) := if p k = true then none else some (false, ())
def G.hit (p : Nat → Bool) (k : Nat) : Option (Int × Unit) := if p k = true then some ((k : Int), ()) else none
def G.hitT (p : Nat → Bool) (k : Nat) : Option (Bool × Unit) := if p k = true then some (true, ()) else none
theorem bad_match {p : Nat → Bool} {k : Nat} {β : Type} {a : β} {f : Bool × Unit → β} : goStop (G.bad p k) a f = if p k = true then a else f (false, ()) := by
  unfold G.bad goStop
  cases p k <;> rfl
theorem hit_match {p : Nat → Bool} {k : Nat} {β : Type} {a : β} {f : Int × Unit → β} : goStop (G.hit p k) a f = if p k = true then f ((k : Int), ()) else a := by
  unfold G.hit goStop
  cases p k <;> rfl
theorem hitT_match {p : Nat → Bool} {k : Nat} {β : Type} {a : β} {f : Bool × Unit → β} : goStop (G.hitT p k) a f = if p k = true then f (true, ()) else a := by
  unfold G.hitT goStop
  cases p k <;> rfl
theorem findS_bad (p : Nat → Bool) : ∀ l : List Nat, l.findSome? (G.bad p) = if l.all p = true then none else some (false, ())
  | [] => rfl
  | a :: r => by
    rw [List.findSome?_cons, List.all_cons, findS_bad p r]
    unfold G.bad
    cases p a <;> simp
theorem scan_bad (p : Nat → Bool) (n : Nat) (i : Int) : G.scan (G.bad p) n i = if G.allFrom n p i = true then none else some (false, ()) := findS_bad p _
theorem findS_hitT (p : Nat → Bool) : ∀ l : List Nat, l.findSome? (G.hitT p) = if l.any p = true then some (true, ()) else none
  | [] => rfl
  | a :: r => by
    rw [List.findSome?_cons, List.any_cons, findS_hitT p r]
    unfold G.hitT
    cases p a <;> simp
def G.anyFrom (n : Nat) (p : Nat → Bool) (i : Int) : Bool := (List.range' i.toNat (n - i.toNat)).any p
theorem scan_hitT (p : Nat → Bool) (n : Nat) (i : Int) : G.scan (G.hitT p) n i = if G.anyFrom n p i = true then some (true, ()) else none := findS_hitT p _
/-- The first place at which something holds, -1 for none. -/
def G.idx (p : Nat → Bool) (n : Nat) : Int := match (List.range n).find? p with | some k => (k : Int) | none => -1
theorem findS_hit (p : Nat → Bool) : ∀ l : List Nat, l.findSome? (G.hit p) = match l.find? p with | some k => some ((k : Int), ()) | none => none
  | [] => rfl
  | a :: r => by
    rw [List.findSome?_cons, List.find?_cons, findS_hit p r]
    unfold G.hit
    cases p a <;> rfl
theorem range_zero (n : Nat) : List.range' (0 : Int).toNat (n - (0 : Int).toNat) = List.range n := by rw [List.range_eq_range']; rfl
theorem scan_hit (p : Nat → Bool) (n : Nat) : G.scan (G.hit p) n 0 = if G.idx p n < 0 then none else some (G.idx p n, ()) := by
  unfold G.scan G.idx
  rw [range_zero, findS_hit]
  cases (List.range n).find? p with
  | none => rfl
  | some k =>
    show _ = if (k : Int) < 0 then _ else _
    rw [if_neg (by omega)]
theorem idx_none (p : Nat → Bool) (n : Nat) : G.idx p n < 0 ↔ G.anyFrom n p 0 = false := by
  unfold G.idx G.anyFrom
  rw [range_zero]
  cases h : (List.range n).find? p with
  | none =>
    rw [List.find?_eq_none] at h
    simp only [iff_true_intro (show (-1 : Int) < 0 by omega), true_iff]
    rw [List.any_eq_false]
    exact h
  | some k =>
    have := List.mem_of_find?_eq_some h
    have h2 := List.find?_some h
    constructor
    · intro e
      have e : (k : Int) < 0 := e
      omega
    · intro e
      rw [List.any_eq_false] at e
      exact absurd h2 (e k this)
theorem idx_eq {p : Nat → Bool} {n : Nat} (h : ¬ G.idx p n < 0) : (G.idx p n).toNat < n ∧ p (G.idx p n).toNat = true ∧ ((G.idx p n).toNat : Int) = G.idx p n := by
  unfold G.idx at h ⊢
  cases e : (List.range n).find? p with
  | none => rw [e] at h; exact absurd h (by decide)
  | some k =>
    have h1 := List.mem_of_find?_eq_some e
    have h2 := List.find?_some e
    simp at h1 ⊢
    exact ⟨h1, h2⟩
theorem allFrom_not {n : Nat} {p : Nat → Bool} {i : Int} : G.allFrom n (fun k => !p k) i = !G.anyFrom n p i := by
  unfold G.allFrom G.anyFrom
  rw [List.not_any_eq_all_not]
theorem allFrom_zero {n : Nat} {p : Nat → Bool} : G.allFrom n p 0 = true ↔ ∀ k, k < n → p k = true := by
  unfold G.allFrom
  rw [range_zero, List.all_eq_true]
  simp
theorem someE {α : Type} {a b : α} (h : a = b) : some a = some b := by rw [h]
/-! names -/
def G.letter (b : Int) : Bool := decide (97 ≤ b ∧ b ≤ 122)
def G.nameP (s : ByteArray) (k : Nat) : Bool := G.letter (Go.Rx.bt s (k : Int))
theorem nat_int {i : Int} (h : 0 ≤ i) : ((i.toNat : Nat) : Int) = i := by omega
theorem nameP_go {s : ByteArray} {i : Int} (h0 : 0 ≤ i) (h : i < (s.size : Int)) {β : Type} {a b : β} {n : Option β} :
    (if decide (0 ≤ i) = true then if decide (i < (s.size : Int)) = true then if decide (Go.Rx.bt s i < 97) = false then if decide (0 ≤ i) = true then if decide (i < (s.size : Int)) = true then if decide (Go.Rx.bt s i > 122) = true then some b else some a else n else n else some b else n else n) = if G.nameP s i.toNat = true then some a else some b := by
  unfold G.nameP G.letter
  rw [nat_int h0, if_pos (decide_eq_true h0), if_pos (decide_eq_true h), if_pos (decide_eq_true h0), if_pos (decide_eq_true h)]
  generalize Go.Rx.bt s i = c
  by_cases c1 : c < 97
  · rw [if_neg (by simpa using c1), if_neg (by simp; omega)]
  · rw [if_pos (by simpa using c1)]
    by_cases c2 : c > 122
    · rw [if_pos (by simpa using c2), if_neg (by simp; omega)]
    · rw [if_neg (by simpa using c2), if_pos (by simp; omega)]
/-! SpNameOkL: a search -/
def G.preSpNameOkL (s : ByteArray) (i : Int) : Bool := G.preA (s.size) i && (true && (true))
theorem preSpNameOkL_iff {s : ByteArray} {i : Int} : G.preSpNameOkL s i = true ↔ (0 ≤ i ∧ i ≤ ((s.size : Nat) : Int) ∧ (s.size : Nat) ≤ 1099511627776) ∧ True ∧ true = true := by simp [G.preSpNameOkL, preA_iff]
def G.scSpNameOkL (s : ByteArray) (i : Int) : Option (Bool × Unit) := G.scan (G.bad (G.nameP s)) (s.size) i
noncomputable abbrev lsSpNameOkL : LSpec := ⟨[0, 3, 2], [2], [StrP, IntP, .c (.dat .bool)], [.c (.dat .bool)], false, fun x => G.preSpNameOkL x.1 x.2.1,
  fun x => ((G.flag 1 (G.scSpNameOkL x.1 x.2.1), G.got (G.scSpNameOkL x.1 x.2.1) (x.2.2.1, ())), ())⟩
noncomputable abbrev clSpNameOkL : Cx := mkCx T0 pg15 [(0, lsSpNameOkL)] [] 28
theorem rSpNameOkL (s : ByteArray) (i : Int) (r : Bool) : roundK clSpNameOkL 0 (loopIn Go.Proofs.Try.f91 0) lsSpNameOkL (s, i, r, ()) =
  (if Decidable.decide (i < (↑(ByteArray.size s) : Int)) = Bool.true then
    if Decidable.decide ((0 : Int) ≤ i) = Bool.true then
      if Decidable.decide (i < (↑(ByteArray.size s) : Int)) = Bool.true then
        if Decidable.decide (Go.Rx.bt s i < (97 : Int)) = Bool.false then
          if Decidable.decide ((0 : Int) ≤ i) = Bool.true then
            if Decidable.decide (i < (↑(ByteArray.size s) : Int)) = Bool.true then
              if Decidable.decide (Go.Rx.bt s i > (122 : Int)) = Bool.true then Option.some (Go.Rx.LRes.stop (1 : Nat) (Bool.false, PUnit.unit) PUnit.unit)
              else Option.some (Go.Rx.LRes.go (s, Go.IntKind.wrap Go.IntKind.i64 (i + (1 : Int)), r, PUnit.unit))
            else Option.none
          else Option.none
        else Option.some (Go.Rx.LRes.stop (1 : Nat) (Bool.false, PUnit.unit) PUnit.unit)
      else Option.none
    else Option.none
  else Option.some (Go.Rx.LRes.stop (0 : Nat) (r, PUnit.unit) PUnit.unit)) := by kernel_rfl
noncomputable abbrev muSpNameOkL : PKs.den lsSpNameOkL.ins → Nat := fun x => (x.1.size) - x.2.1.toNat
theorem stSpNameOkL (s : ByteArray) (i : Int) (r : Bool) (h : G.preSpNameOkL s i = true) : StepOk lsSpNameOkL (eqInv lsSpNameOkL) muSpNameOkL (s, i, r, ()) (roundK clSpNameOkL 0 (loopIn Go.Proofs.Try.f91 0) lsSpNameOkL (s, i, r, ())) := by
  obtain ⟨⟨h0, h1, h2⟩, hn, hc⟩ := preSpNameOkL_iff.1 h
  rw [rSpNameOkL]
  by_cases hi : i < ((s.size : Nat) : Int)
  · have hw : IntKind.i64.wrap (i + 1) = i + 1 := w64 (by omega) (by omega)
    have hs : G.scSpNameOkL s i = ((G.bad (G.nameP s)) i.toNat).or (G.scSpNameOkL s (i + 1)) := scan_step h0 (by omega)
    refine scan_stop (fl := 1) (eqInv lsSpNameOkL) muSpNameOkL (s, i + 1, r, ()) ((G.bad (G.nameP s)) i.toNat) () ?_ (fun ho => ⟨(show G.preSpNameOkL s (i + 1) = true from preSpNameOkL_iff.2 ⟨⟨by omega, by omega, h2⟩, trivial, hc⟩), ?_, ?_⟩) (fun w ho => ?_)
    · rw [bad_match, hw, if_pos (decide_eq_true hi)]
      exact nameP_go h0 hi
    · show (s.size) - (i + 1).toNat < (s.size) - i.toNat
      omega
    · show ((_, _), _) = ((_, _), _)
      simp only [hs, ho, Option.none_or]
    · show ((_, _), _) = ((_, _), _)
      simp only [hs, ho, Option.some_or]
      rfl
  · have hs : G.scSpNameOkL s i = none := scan_end (by omega)
    skip
    rw [if_neg (by simpa using hi)]
    show ((_, _), _) = ((_, _), _)
    simp only [hs]
    rfl
theorem lpSpNameOkL : LpOk Go.Proofs.Try.prog clSpNameOkL.ntmps 0 (loopIn Go.Proofs.Try.f91 0) lsSpNameOkL :=
  lp_okB (cxOk T0_ok T0_eq pg15_ok) mixed (by kernel_rfl) (lps_none (by kernel_rfl)) (eqInv lsSpNameOkL) muSpNameOkL (fun _ h => h) (fun x h => stSpNameOkL x.1 x.2.1 x.2.2.1 h)
/-! NameOkL: a search -/
def G.preNameOkL (s : ByteArray) (n : Int) (i : Int) : Bool := G.preA (s.size) i && (decide (n = ((s.size : Nat) : Int)) && (true))
theorem preNameOkL_iff {s : ByteArray} {n : Int} {i : Int} : G.preNameOkL s n i = true ↔ (0 ≤ i ∧ i ≤ ((s.size : Nat) : Int) ∧ (s.size : Nat) ≤ 1099511627776) ∧ n = ((s.size : Nat) : Int) ∧ true = true := by simp [G.preNameOkL, preA_iff]
def G.scNameOkL (s : ByteArray) (i : Int) : Option (Bool × Unit) := G.scan (G.bad (G.nameP s)) (s.size) i
noncomputable abbrev lsNameOkL : LSpec := ⟨[0, 5, 6, 2], [2], [StrP, IntP, IntP, .c (.dat .bool)], [.c (.dat .bool)], false, fun x => G.preNameOkL x.1 x.2.1 x.2.2.1,
  fun x => ((G.flag 1 (G.scNameOkL x.1 x.2.2.1), G.got (G.scNameOkL x.1 x.2.2.1) (x.2.2.2.1, ())), ())⟩
noncomputable abbrev clNameOkL : Cx := mkCx T0 pg15 [(0, lsNameOkL)] [] 23
theorem rNameOkL (s : ByteArray) (n : Int) (i : Int) (r : Bool) : roundK clNameOkL 0 (loopIn Go.Proofs.Try.f64 0) lsNameOkL (s, n, i, r, ()) =
  (if Decidable.decide (i < n) = Bool.true then
    if Decidable.decide ((0 : Int) ≤ i) = Bool.true then
      if Decidable.decide (i < (↑(ByteArray.size s) : Int)) = Bool.true then
        if Decidable.decide (Go.Rx.bt s i < (97 : Int)) = Bool.false then
          if Decidable.decide ((0 : Int) ≤ i) = Bool.true then
            if Decidable.decide (i < (↑(ByteArray.size s) : Int)) = Bool.true then
              if Decidable.decide (Go.Rx.bt s i > (122 : Int)) = Bool.true then Option.some (Go.Rx.LRes.stop (1 : Nat) (Bool.false, PUnit.unit) PUnit.unit)
              else Option.some (Go.Rx.LRes.go (s, n, Go.IntKind.wrap Go.IntKind.i64 (i + (1 : Int)), r, PUnit.unit))
            else Option.none
          else Option.none
        else Option.some (Go.Rx.LRes.stop (1 : Nat) (Bool.false, PUnit.unit) PUnit.unit)
      else Option.none
    else Option.none
  else Option.some (Go.Rx.LRes.stop (0 : Nat) (r, PUnit.unit) PUnit.unit)) := by kernel_rfl
noncomputable abbrev muNameOkL : PKs.den lsNameOkL.ins → Nat := fun x => (x.1.size) - x.2.2.1.toNat
theorem stNameOkL (s : ByteArray) (n : Int) (i : Int) (r : Bool) (h : G.preNameOkL s n i = true) : StepOk lsNameOkL (eqInv lsNameOkL) muNameOkL (s, n, i, r, ()) (roundK clNameOkL 0 (loopIn Go.Proofs.Try.f64 0) lsNameOkL (s, n, i, r, ())) := by
  obtain ⟨⟨h0, h1, h2⟩, hn, hc⟩ := preNameOkL_iff.1 h
  subst hn
  rw [rNameOkL]
  by_cases hi : i < ((s.size : Nat) : Int)
  · have hw : IntKind.i64.wrap (i + 1) = i + 1 := w64 (by omega) (by omega)
    have hs : G.scNameOkL s i = ((G.bad (G.nameP s)) i.toNat).or (G.scNameOkL s (i + 1)) := scan_step h0 (by omega)
    refine scan_stop (fl := 1) (eqInv lsNameOkL) muNameOkL (s, ((s.size : Nat) : Int), i + 1, r, ()) ((G.bad (G.nameP s)) i.toNat) () ?_ (fun ho => ⟨(show G.preNameOkL s ((s.size : Nat) : Int) (i + 1) = true from preNameOkL_iff.2 ⟨⟨by omega, by omega, h2⟩, rfl, hc⟩), ?_, ?_⟩) (fun w ho => ?_)
    · rw [bad_match, hw, if_pos (decide_eq_true hi)]
      exact nameP_go h0 hi
    · show (s.size) - (i + 1).toNat < (s.size) - i.toNat
      omega
    · show ((_, _), _) = ((_, _), _)
      simp only [hs, ho, Option.none_or]
    · show ((_, _), _) = ((_, _), _)
      simp only [hs, ho, Option.some_or]
      rfl
  · have hs : G.scNameOkL s i = none := scan_end (by omega)
    skip
    rw [if_neg (by simpa using hi)]
    show ((_, _), _) = ((_, _), _)
    simp only [hs]
    rfl
theorem lpNameOkL : LpOk Go.Proofs.Try.prog clNameOkL.ntmps 0 (loopIn Go.Proofs.Try.f64 0) lsNameOkL :=
  lp_okB (cxOk T0_ok T0_eq pg15_ok) mixed (by kernel_rfl) (lps_none (by kernel_rfl)) (eqInv lsNameOkL) muNameOkL (fun _ h => h) (fun x h => stNameOkL x.1 x.2.1 x.2.2.1 x.2.2.2.1 h)
def G.nameOk (s : ByteArray) : Bool := G.allFrom s.size (G.nameP s) 0 && decide (1 ≤ s.size ∧ s.size ≤ 6)
def G.lenS (s : ByteArray) : Bool := decide (s.size ≤ 1099511627776)
theorem lenS_iff {s : ByteArray} : G.lenS s = true ↔ s.size ≤ 1099511627776 := by simp [G.lenS]
/-! SpNameOk -/
noncomputable abbrev spSpNameOk : Spec := ⟨[StrP], BoolR, false, fun x => G.lenS x.1, fun x => (G.nameOk x.1, ())⟩
noncomputable abbrev cxSpNameOk : Cx := mkCx T0 pg15 [(0, lsSpNameOkL)] [] 28
theorem eSpNameOk (s : ByteArray) : funK cxSpNameOk Go.Proofs.Try.f91 spSpNameOk.ins spSpNameOk.out (s, ()) =
  (if Go.Rx.G.preSpNameOkL s (0 : Int) = Bool.true then
    if Go.Rx.G.flag (1 : Nat) (Go.Rx.G.scSpNameOkL s (0 : Int)) = (0 : Nat) then
      if Decidable.decide ((↑(ByteArray.size s) : Int) ≥ (1 : Int)) = Bool.true then Option.some (Decidable.decide ((↑(ByteArray.size s) : Int) ≤ (6 : Int)), PUnit.unit)
      else Option.some (Bool.false, PUnit.unit)
    else if Go.Rx.G.flag (1 : Nat) (Go.Rx.G.scSpNameOkL s (0 : Int)) = (1 : Nat) then Option.some (Go.Rx.G.got (Go.Rx.G.scSpNameOkL s (0 : Int)) (Bool.false, PUnit.unit)) else Option.none
  else Option.none) := by kernel_rfl
/-! NameOk -/
noncomputable abbrev spNameOk : Spec := ⟨[StrP], BoolR, false, fun x => G.lenS x.1, fun x => (G.nameOk x.1, ())⟩
noncomputable abbrev cxNameOk : Cx := mkCx T0 pg15 [(0, lsNameOkL)] [] 23
theorem eNameOk (s : ByteArray) : funK cxNameOk Go.Proofs.Try.f64 spNameOk.ins spNameOk.out (s, ()) =
  (if Go.Rx.G.preNameOkL s (↑(ByteArray.size s) : Int) (0 : Int) = Bool.true then
    if Go.Rx.G.flag (1 : Nat) (Go.Rx.G.scNameOkL s (0 : Int)) = (0 : Nat) then Option.some (Go.Rx.G.inR (↑(ByteArray.size s) : Int) (1 : Int) (6 : Int), PUnit.unit)
    else if Go.Rx.G.flag (1 : Nat) (Go.Rx.G.scNameOkL s (0 : Int)) = (1 : Nat) then Option.some (Go.Rx.G.got (Go.Rx.G.scNameOkL s (0 : Int)) (Bool.false, PUnit.unit)) else Option.none
  else Option.none) := by kernel_rfl
theorem sfSpNameOk (s : ByteArray) (h : G.lenS s = true) : funK cxSpNameOk Go.Proofs.Try.f91 spSpNameOk.ins spSpNameOk.out (s, ()) = some (G.nameOk s, ()) := by
  have h := lenS_iff.1 h
  rw [eSpNameOk, if_pos (preSpNameOkL_iff.2 ⟨⟨by omega, by omega, h⟩, trivial, rfl⟩), show G.scSpNameOkL s 0 = _ from scan_bad _ _ _]
  unfold G.nameOk
  cases G.allFrom s.size (G.nameP s) 0 with
  | false => rfl
  | true =>
    rw [if_pos rfl]
    show (if decide (((s.size : Nat) : Int) ≥ 1) = true then some (decide (((s.size : Nat) : Int) ≤ 6), ()) else some (false, ())) = some (true && decide (1 ≤ s.size ∧ s.size ≤ 6), ())
    rw [Bool.true_and]
    by_cases c : 1 ≤ s.size
    · rw [if_pos (decide_eq_true (by omega))]
      refine someB ?_
      rw [decide_eq_true_iff, decide_eq_true_iff]
      omega
    · rw [if_neg (by simp; omega), decide_eq_false (by omega)]
theorem okSpNameOk : SpecOk Go.Proofs.Try.prog 91 spSpNameOk :=
  fun_okB (cx := cxSpNameOk) (F := Go.Proofs.Try.f91) (cxOk T0_ok T0_eq pg15_ok) mixed (by kernel_rfl) (by decide) (by kernel_rfl) (lps_of (l := [(0, loopIn Go.Proofs.Try.f91 0)]) (by kernel_rfl) ⟨lp_at lpSpNameOkL rfl, trivial⟩) (fun x h => sfSpNameOk x.1 h)
theorem sfNameOk (s : ByteArray) (h : G.lenS s = true) : funK cxNameOk Go.Proofs.Try.f64 spNameOk.ins spNameOk.out (s, ()) = some (G.nameOk s, ()) := by
  have h := lenS_iff.1 h
  rw [eNameOk, if_pos (preNameOkL_iff.2 ⟨⟨by omega, by omega, h⟩, rfl, rfl⟩), show G.scNameOkL s 0 = _ from scan_bad _ _ _]
  unfold G.nameOk
  cases G.allFrom s.size (G.nameP s) 0 with
  | false => rfl
  | true =>
    rw [if_pos rfl]
    refine someB ?_
    rw [inR_iff, Bool.true_and, decide_eq_true_iff]
    constructor
    · intro h1
      exact ⟨by omega, by omega⟩
    · intro h1
      exact ⟨by omega, by omega⟩
theorem okNameOk : SpecOk Go.Proofs.Try.prog 64 spNameOk :=
  fun_okB (cx := cxNameOk) (F := Go.Proofs.Try.f64) (cxOk T0_ok T0_eq pg15_ok) mixed (by kernel_rfl) (by decide) (by kernel_rfl) (lps_of (l := [(0, loopIn Go.Proofs.Try.f64 0)]) (by kernel_rfl) ⟨lp_at lpNameOkL rfl, trivial⟩) (fun x h => sfNameOk x.1 h)
noncomputable abbrev pg16 : List (Nat × List Spec) := (91, [spSpNameOk]) :: (64, [spNameOk]) :: pg15
theorem pg16_ok : PhiOk Go.Proofs.Try.prog pg16 := ⟨⟨okSpNameOk, trivial⟩, ⟨okNameOk, trivial⟩, pg15_ok⟩
/-! instructions -/
def G.insOk (a : Ins) : Bool :=
  if a.1 = 1 ∨ a.1 = 6 ∨ a.1 = 7 then decide (a.2.1 = 0) && decide (a.2.2.1 = ByteArray.empty)
  else if a.1 = 2 then decide (-1000 ≤ a.2.1 ∧ a.2.1 ≤ 1000) && decide (a.2.2.1 = ByteArray.empty)
  else if a.1 = 3 ∨ a.1 = 4 ∨ a.1 = 5 then decide (a.2.1 = 0) && G.nameOk a.2.2.1
  else false
def G.lenI (a : Ins) : Bool := G.lenS a.2.2.1
/-! SpInsOk -/
noncomputable abbrev spSpInsOk : Spec := ⟨[.agg InsK], BoolR, false, fun x => G.lenI x.1, fun x => (G.insOk x.1, ())⟩
noncomputable abbrev cxSpInsOk : Cx := mkCx T0 pg16 [] [] 44
theorem eSpInsOk (a : Ins) : funK cxSpInsOk Go.Proofs.Try.f93 spSpInsOk.ins spSpInsOk.out (a, ()) =
  (if Decidable.decide (a.1 = (1 : Int)) = Bool.true then
    if Decidable.decide (a.1 = (1 : Int)) = Bool.true then
      if Decidable.decide (a.2.1 = (0 : Int)) = Bool.true then Option.some (Go.Rx.strEq a.2.2.1 { data := { toList := [] } }, PUnit.unit) else Option.some (Bool.false, PUnit.unit)
    else
      if Decidable.decide (a.1 = (2 : Int)) = Bool.true then
        if Decidable.decide (a.2.1 ≥ (-1000 : Int)) = Bool.true then
          if Decidable.decide (a.2.1 ≤ (1000 : Int)) = Bool.true then Option.some (Go.Rx.strEq a.2.2.1 { data := { toList := [] } }, PUnit.unit) else Option.some (Bool.false, PUnit.unit)
        else Option.some (Bool.false, PUnit.unit)
      else
        if Decidable.decide (a.1 = (3 : Int)) = Bool.true then
          if Decidable.decide (a.1 = (3 : Int)) = Bool.true then
            if Decidable.decide (a.2.1 = (0 : Int)) = Bool.true then if Go.Rx.G.lenS a.2.2.1 = Bool.true then Option.some (Go.Rx.G.nameOk a.2.2.1, PUnit.unit) else Option.none
            else Option.some (Bool.false, PUnit.unit)
          else Option.some (Bool.false, PUnit.unit)
        else
          if Decidable.decide (a.1 = (4 : Int)) = Bool.true then
            if Decidable.decide (a.1 = (4 : Int)) = Bool.true then
              if Decidable.decide (a.2.1 = (0 : Int)) = Bool.true then if Go.Rx.G.lenS a.2.2.1 = Bool.true then Option.some (Go.Rx.G.nameOk a.2.2.1, PUnit.unit) else Option.none
              else Option.some (Bool.false, PUnit.unit)
            else Option.some (Bool.false, PUnit.unit)
          else
            if Decidable.decide (a.1 = (5 : Int)) = Bool.true then
              if Decidable.decide (a.2.1 = (0 : Int)) = Bool.true then if Go.Rx.G.lenS a.2.2.1 = Bool.true then Option.some (Go.Rx.G.nameOk a.2.2.1, PUnit.unit) else Option.none
              else Option.some (Bool.false, PUnit.unit)
            else Option.some (Bool.false, PUnit.unit)
  else
    if Decidable.decide (a.1 = (6 : Int)) = Bool.true then
      if Decidable.decide (a.1 = (6 : Int)) = Bool.true then
        if Decidable.decide (a.2.1 = (0 : Int)) = Bool.true then Option.some (Go.Rx.strEq a.2.2.1 { data := { toList := [] } }, PUnit.unit) else Option.some (Bool.false, PUnit.unit)
      else
        if Decidable.decide (a.1 = (2 : Int)) = Bool.true then
          if Decidable.decide (a.2.1 ≥ (-1000 : Int)) = Bool.true then
            if Decidable.decide (a.2.1 ≤ (1000 : Int)) = Bool.true then Option.some (Go.Rx.strEq a.2.2.1 { data := { toList := [] } }, PUnit.unit) else Option.some (Bool.false, PUnit.unit)
          else Option.some (Bool.false, PUnit.unit)
        else
          if Decidable.decide (a.1 = (3 : Int)) = Bool.true then
            if Decidable.decide (a.1 = (3 : Int)) = Bool.true then
              if Decidable.decide (a.2.1 = (0 : Int)) = Bool.true then if Go.Rx.G.lenS a.2.2.1 = Bool.true then Option.some (Go.Rx.G.nameOk a.2.2.1, PUnit.unit) else Option.none
              else Option.some (Bool.false, PUnit.unit)
            else Option.some (Bool.false, PUnit.unit)
          else
            if Decidable.decide (a.1 = (4 : Int)) = Bool.true then
              if Decidable.decide (a.1 = (4 : Int)) = Bool.true then
                if Decidable.decide (a.2.1 = (0 : Int)) = Bool.true then if Go.Rx.G.lenS a.2.2.1 = Bool.true then Option.some (Go.Rx.G.nameOk a.2.2.1, PUnit.unit) else Option.none
                else Option.some (Bool.false, PUnit.unit)
              else Option.some (Bool.false, PUnit.unit)
            else
              if Decidable.decide (a.1 = (5 : Int)) = Bool.true then
                if Decidable.decide (a.2.1 = (0 : Int)) = Bool.true then if Go.Rx.G.lenS a.2.2.1 = Bool.true then Option.some (Go.Rx.G.nameOk a.2.2.1, PUnit.unit) else Option.none
                else Option.some (Bool.false, PUnit.unit)
              else Option.some (Bool.false, PUnit.unit)
    else
      if Decidable.decide (a.1 = (7 : Int)) = Bool.true then
        if Decidable.decide (a.2.1 = (0 : Int)) = Bool.true then Option.some (Go.Rx.strEq a.2.2.1 { data := { toList := [] } }, PUnit.unit) else Option.some (Bool.false, PUnit.unit)
      else
        if Decidable.decide (a.1 = (2 : Int)) = Bool.true then
          if Decidable.decide (a.2.1 ≥ (-1000 : Int)) = Bool.true then
            if Decidable.decide (a.2.1 ≤ (1000 : Int)) = Bool.true then Option.some (Go.Rx.strEq a.2.2.1 { data := { toList := [] } }, PUnit.unit) else Option.some (Bool.false, PUnit.unit)
          else Option.some (Bool.false, PUnit.unit)
        else
          if Decidable.decide (a.1 = (3 : Int)) = Bool.true then
            if Decidable.decide (a.1 = (3 : Int)) = Bool.true then
              if Decidable.decide (a.2.1 = (0 : Int)) = Bool.true then if Go.Rx.G.lenS a.2.2.1 = Bool.true then Option.some (Go.Rx.G.nameOk a.2.2.1, PUnit.unit) else Option.none
              else Option.some (Bool.false, PUnit.unit)
            else Option.some (Bool.false, PUnit.unit)
          else
            if Decidable.decide (a.1 = (4 : Int)) = Bool.true then
              if Decidable.decide (a.1 = (4 : Int)) = Bool.true then
                if Decidable.decide (a.2.1 = (0 : Int)) = Bool.true then if Go.Rx.G.lenS a.2.2.1 = Bool.true then Option.some (Go.Rx.G.nameOk a.2.2.1, PUnit.unit) else Option.none
                else Option.some (Bool.false, PUnit.unit)
              else Option.some (Bool.false, PUnit.unit)
            else
              if Decidable.decide (a.1 = (5 : Int)) = Bool.true then
                if Decidable.decide (a.2.1 = (0 : Int)) = Bool.true then if Go.Rx.G.lenS a.2.2.1 = Bool.true then Option.some (Go.Rx.G.nameOk a.2.2.1, PUnit.unit) else Option.none
                else Option.some (Bool.false, PUnit.unit)
              else Option.some (Bool.false, PUnit.unit)) := by kernel_rfl
/-! InsOk -/
noncomputable abbrev spInsOk : Spec := ⟨[.agg InsK], BoolR, false, fun x => G.lenI x.1, fun x => (G.insOk x.1, ())⟩
noncomputable abbrev cxInsOk : Cx := mkCx T0 pg16 [] [] 41
theorem eInsOk (a : Ins) : funK cxInsOk Go.Proofs.Try.f84 spInsOk.ins spInsOk.out (a, ()) =
  (if (!Go.Rx.G.inR a.1 (1 : Int) (7 : Int)) = Bool.true then Option.some (Bool.false, PUnit.unit)
  else
    if Decidable.decide (a.2.1 = (0 : Int)) = Bool.false then
      if Decidable.decide (a.1 = (2 : Int)) = Bool.true then
        if Go.Rx.G.inR a.2.1 (-1000 : Int) (1000 : Int) = Bool.true then
          if Go.Rx.G.lenS a.2.2.1 = Bool.true then
            if Go.Rx.G.nameOk a.2.2.1 = Bool.true then
              if Go.Rx.G.inR a.1 (3 : Int) (5 : Int) = Bool.false then
                if Go.Rx.strEq a.2.2.1 { data := { toList := [] } } = Bool.true then Option.some (!Go.Rx.G.inR a.1 (3 : Int) (5 : Int), PUnit.unit) else Option.some (Bool.false, PUnit.unit)
              else Option.some (Bool.true, PUnit.unit)
            else if Go.Rx.strEq a.2.2.1 { data := { toList := [] } } = Bool.true then Option.some (!Go.Rx.G.inR a.1 (3 : Int) (5 : Int), PUnit.unit) else Option.some (Bool.false, PUnit.unit)
          else Option.none
        else Option.some (Bool.false, PUnit.unit)
      else Option.some (Bool.false, PUnit.unit)
    else
      if Go.Rx.G.lenS a.2.2.1 = Bool.true then
        if Go.Rx.G.nameOk a.2.2.1 = Bool.true then
          if Go.Rx.G.inR a.1 (3 : Int) (5 : Int) = Bool.false then
            if Go.Rx.strEq a.2.2.1 { data := { toList := [] } } = Bool.true then Option.some (!Go.Rx.G.inR a.1 (3 : Int) (5 : Int), PUnit.unit) else Option.some (Bool.false, PUnit.unit)
          else Option.some (Bool.true, PUnit.unit)
        else if Go.Rx.strEq a.2.2.1 { data := { toList := [] } } = Bool.true then Option.some (!Go.Rx.G.inR a.1 (3 : Int) (5 : Int), PUnit.unit) else Option.some (Bool.false, PUnit.unit)
      else Option.none) := by kernel_rfl
theorem nameOk_ne {s : ByteArray} (h : G.nameOk s = true) : ¬ s = ByteArray.empty := by
  intro e
  subst e
  have e : G.nameOk ByteArray.empty = false := by decide +kernel
  rw [e] at h
  cases h
theorem strEq_e (s : ByteArray) : Go.Rx.strEq s { data := { toList := [] } } = decide (s = ByteArray.empty) := strEq_iff _ _
theorem sfInsOk (a : Ins) (h : G.lenI a = true) : funK cxInsOk Go.Proofs.Try.f84 spInsOk.ins spInsOk.out (a, ()) = some (G.insOk a, ()) := by
  have h : G.lenS a.2.2.1 = true := h
  rw [eInsOk, if_pos h, strEq_e]
  obtain ⟨op, n, s, _⟩ := a
  have hne := nameOk_ne (s := s)
  unfold G.insOk
  dsimp only
  by_cases c0 : G.inR op 1 7 = true
  · have c1 := inR_iff.1 c0
    have c2 : op = 1 ∨ op = 2 ∨ op = 3 ∨ op = 4 ∨ op = 5 ∨ op = 6 ∨ op = 7 := by omega
    have hz : n = 0 → G.inR n (-1000) 1000 = true := fun e => inR_iff.2 (by omega)
    have hd : decide (-1000 ≤ n ∧ n ≤ 1000) = G.inR n (-1000) 1000 := rfl
    rw [hd]
    generalize G.inR n (-1000) 1000 = q at hz ⊢
    have d1 : G.inR 1 3 5 = false := by decide +kernel
    have d2 : G.inR 2 3 5 = false := by decide +kernel
    have d3 : G.inR 3 3 5 = true := by decide +kernel
    have d4 : G.inR 4 3 5 = true := by decide +kernel
    have d5 : G.inR 5 3 5 = true := by decide +kernel
    have d6 : G.inR 6 3 5 = false := by decide +kernel
    have d7 : G.inR 7 3 5 = false := by decide +kernel
    simp only [c0]
    rcases c2 with rfl | rfl | rfl | rfl | rfl | rfl | rfl <;> simp only [d1, d2, d3, d4, d5, d6, d7] <;> by_cases hn : n = 0 <;> cases hm : G.nameOk s <;> by_cases he : s = ByteArray.empty <;> cases q <;> (try exact absurd he (hne hm)) <;> (try exact absurd (hz hn) (by decide)) <;> simp [hn, he]
  · rw [if_pos (by simpa using c0)]
    have c1 : ¬ (1 ≤ op ∧ op ≤ 7) := fun e => c0 (inR_iff.2 e)
    rw [if_neg (by omega), if_neg (by omega), if_neg (by omega)]
theorem okInsOk : SpecOk Go.Proofs.Try.prog 84 spInsOk :=
  fun_okB (cx := cxInsOk) (F := Go.Proofs.Try.f84) (cxOk T0_ok T0_eq pg16_ok) mixed (by kernel_rfl) (by decide) (by kernel_rfl) (lps_none (by kernel_rfl)) (fun x h => sfInsOk x.1 h)
theorem sfSpInsOk (a : Ins) (h : G.lenI a = true) : funK cxSpInsOk Go.Proofs.Try.f93 spSpInsOk.ins spSpInsOk.out (a, ()) = some (G.insOk a, ()) := by
  have h : G.lenS a.2.2.1 = true := h
  rw [eSpInsOk]
  simp only [h, strEq_e]
  obtain ⟨op, n, s, _⟩ := a
  unfold G.insOk
  dsimp only
  by_cases c1 : op = 1
  · subst c1
    by_cases hn : n = 0 <;> by_cases he : s = ByteArray.empty <;> simp [hn, he]
  · by_cases c2 : op = 6
    · subst c2
      by_cases hn : n = 0 <;> by_cases he : s = ByteArray.empty <;> simp [hn, he]
    · by_cases c3 : op = 7
      · subst c3
        by_cases hn : n = 0 <;> by_cases he : s = ByteArray.empty <;> simp [hn, he]
      · by_cases c4 : op = 2
        · subst c4
          by_cases h1 : -1000 ≤ n <;> by_cases h2 : n ≤ 1000 <;> by_cases he : s = ByteArray.empty <;> simp [h1, h2, he]
        · by_cases c5 : op = 3
          · subst c5
            by_cases hn : n = 0 <;> simp [hn]
          · by_cases c6 : op = 4
            · subst c6
              by_cases hn : n = 0 <;> simp [hn]
            · by_cases c7 : op = 5
              · subst c7
                by_cases hn : n = 0 <;> simp [hn]
              · simp [c1, c2, c3, c4, c5, c6, c7]
theorem okSpInsOk : SpecOk Go.Proofs.Try.prog 93 spSpInsOk :=
  fun_okB (cx := cxSpInsOk) (F := Go.Proofs.Try.f93) (cxOk T0_ok T0_eq pg16_ok) mixed (by kernel_rfl) (by decide) (by kernel_rfl) (lps_none (by kernel_rfl)) (fun x h => sfSpInsOk x.1 h)
noncomputable abbrev pg17 : List (Nat × List Spec) := (93, [spSpInsOk]) :: (84, [spInsOk]) :: pg16
theorem pg17_ok : PhiOk Go.Proofs.Try.prog pg17 := ⟨⟨okSpInsOk, trivial⟩, ⟨okInsOk, trivial⟩, pg16_ok⟩
/-! functions -/
def G.strAt (l : Strs) (s : ByteArray) (k : Nat) : Bool := decide ((l.getD k (ByteArray.empty, ())).1 = s)
def G.funAt (u : Funs) (s : ByteArray) (k : Nat) : Bool := decide ((u.getD k (ByteArray.empty, false, [], ())).1 = s)

def G.insAt (b : Inss) (k : Nat) : Ins := b.getD k ((0 : Int), (0 : Int), ByteArray.empty, ())
def G.insOkAt (b : Inss) (k : Nat) : Bool := G.insOk (G.insAt b k)
def G.insBadAt (b : Inss) (k : Nat) : Bool := !G.insOk (G.insAt b k)
def G.smallI (b : Inss) : Bool := G.few b.length && b.all G.lenI
def G.smallF (f : Fun) : Bool := G.lenS f.1 && G.smallI f.2.2.1
def G.lastOk (b : Inss) : Bool := G.last (G.insAt b (b.length - 1)).1
def G.funOk (f : Fun) : Bool := G.nameOk f.1 && decide (1 ≤ f.2.2.1.length ∧ f.2.2.1.length ≤ 10) && G.allFrom f.2.2.1.length (G.insOkAt f.2.2.1) 0 && G.lastOk f.2.2.1
abbrev BoolP : PK := .c (.dat .bool)
theorem smallF_iff {f : Fun} : G.smallF f = true ↔ (f.1.size ≤ 1099511627776 ∧ f.2.2.1.length ≤ 1099511627776 ∧ f.2.2.1.all G.lenI = true) := by
  unfold G.smallF G.smallI
  rw [Bool.and_eq_true, Bool.and_eq_true, lenS_iff, few_iff]
theorem insAt_eq (b : Inss) (i : Int) : b.getD i.toNat ((0 : Int), (0 : Int), ByteArray.empty, ()) = G.insAt b i.toNat := rfl
theorem lenI_at {b : Inss} (h : b.all G.lenI = true) {k : Nat} (hk : k < b.length) : G.lenI (G.insAt b k) = true := all_getD _ h hk
/-! SpFunOkL: a search -/
def G.preSpFunOkL (f : Fun) (n : Int) (i : Int) : Bool := G.preA (f.2.2.1.length) i && (decide (n = ((f.2.2.1.length : Nat) : Int)) && (f.2.2.1.all G.lenI))
theorem preSpFunOkL_iff {f : Fun} {n : Int} {i : Int} : G.preSpFunOkL f n i = true ↔ (0 ≤ i ∧ i ≤ ((f.2.2.1.length : Nat) : Int) ∧ (f.2.2.1.length : Nat) ≤ 1099511627776) ∧ n = ((f.2.2.1.length : Nat) : Int) ∧ f.2.2.1.all G.lenI = true := by simp [G.preSpFunOkL, preA_iff]
def G.scSpFunOkL (f : Fun) (i : Int) : Option (Bool × Unit) := G.scan (G.bad (G.insOkAt f.2.2.1)) (f.2.2.1.length) i
noncomputable abbrev lsSpFunOkL : LSpec := ⟨[1, 3, 4, 2], [2], [.box FunK, IntP, IntP, BoolP], [BoolP], true, fun x => G.preSpFunOkL x.1 x.2.1 x.2.2.1,
  fun x => ((G.flag 1 (G.scSpFunOkL x.1 x.2.2.1), G.got (G.scSpFunOkL x.1 x.2.2.1) (x.2.2.2.1, ())), (x.1, ()))⟩
noncomputable abbrev clSpFunOkL : Cx := mkCx T0 pg17 [(0, lsSpFunOkL)] [] 42
theorem rSpFunOkL (f : Fun) (n : Int) (i : Int) (r : Bool) : roundK clSpFunOkL 0 (loopIn Go.Proofs.Try.f53 0) lsSpFunOkL (f, n, i, r, ()) =
  (if Decidable.decide (i < n) = Bool.true then
    if Decidable.decide ((0 : Int) ≤ i) = Bool.true then
      if Decidable.decide (i < (↑(List.length f.2.2.1) : Int)) = Bool.true then
        if Go.Rx.G.lenI (List.getD f.2.2.1 (Int.toNat i) ((0 : Int), (0 : Int), ByteArray.empty, PUnit.unit)) = Bool.true then
          if (!Go.Rx.G.insOk (List.getD f.2.2.1 (Int.toNat i) ((0 : Int), (0 : Int), ByteArray.empty, PUnit.unit))) = Bool.true then
            Option.some (Go.Rx.LRes.stop (1 : Nat) (Bool.false, PUnit.unit) (f, PUnit.unit))
          else Option.some (Go.Rx.LRes.go (f, n, Go.IntKind.wrap Go.IntKind.i64 (i + (1 : Int)), r, PUnit.unit))
        else Option.none
      else Option.none
    else Option.none
  else Option.some (Go.Rx.LRes.stop (0 : Nat) (r, PUnit.unit) (f, PUnit.unit))) := by kernel_rfl
noncomputable abbrev muSpFunOkL : PKs.den lsSpFunOkL.ins → Nat := fun x => (x.1.2.2.1.length) - x.2.2.1.toNat
theorem stSpFunOkL (f : Fun) (n : Int) (i : Int) (r : Bool) (h : G.preSpFunOkL f n i = true) : StepOk lsSpFunOkL (eqInv lsSpFunOkL) muSpFunOkL (f, n, i, r, ()) (roundK clSpFunOkL 0 (loopIn Go.Proofs.Try.f53 0) lsSpFunOkL (f, n, i, r, ())) := by
  obtain ⟨⟨h0, h1, h2⟩, hn, hc⟩ := preSpFunOkL_iff.1 h
  subst hn
  rw [rSpFunOkL]
  by_cases hi : i < ((f.2.2.1.length : Nat) : Int)
  · have hw : IntKind.i64.wrap (i + 1) = i + 1 := w64 (by omega) (by omega)
    have hs : G.scSpFunOkL f i = ((G.bad (G.insOkAt f.2.2.1)) i.toNat).or (G.scSpFunOkL f (i + 1)) := scan_step h0 (by omega)
    refine scan_stop (fl := 1) (eqInv lsSpFunOkL) muSpFunOkL (f, ((f.2.2.1.length : Nat) : Int), i + 1, r, ()) ((G.bad (G.insOkAt f.2.2.1)) i.toNat) (f, ()) ?_ (fun ho => ⟨(show G.preSpFunOkL f ((f.2.2.1.length : Nat) : Int) (i + 1) = true from preSpFunOkL_iff.2 ⟨⟨by omega, by omega, h2⟩, rfl, hc⟩), ?_, ?_⟩) (fun w ho => ?_)
    · rw [bad_match, hw, if_pos (decide_eq_true hi), if_pos (decide_eq_true h0), if_pos (decide_eq_true hi), insAt_eq, if_pos (lenI_at hc (by omega))]
      unfold G.insOkAt
      cases G.insOk (G.insAt f.2.2.1 i.toNat) <;> rfl
    · show (f.2.2.1.length) - (i + 1).toNat < (f.2.2.1.length) - i.toNat
      omega
    · show ((_, _), _) = ((_, _), _)
      simp only [hs, ho, Option.none_or]
    · show ((_, _), _) = ((_, _), _)
      simp only [hs, ho, Option.some_or]
      rfl
  · have hs : G.scSpFunOkL f i = none := scan_end (by omega)
    skip
    rw [if_neg (by simpa using hi)]
    show ((_, _), _) = ((_, _), _)
    simp only [hs]
    rfl
theorem lpSpFunOkL : LpOk Go.Proofs.Try.prog clSpFunOkL.ntmps 0 (loopIn Go.Proofs.Try.f53 0) lsSpFunOkL :=
  lp_okB (cxOk T0_ok T0_eq pg17_ok) mixed (by kernel_rfl) (lps_none (by kernel_rfl)) (eqInv lsSpFunOkL) muSpFunOkL (fun _ h => h) (fun x h => stSpFunOkL x.1 x.2.1 x.2.2.1 x.2.2.2.1 h)
/-! SpFunOk -/
noncomputable abbrev spSpFunOk : Spec := ⟨[.agg FunK], BoolR, false, fun x => G.smallF x.1, fun x => (G.funOk x.1, ())⟩
noncomputable abbrev cxSpFunOk : Cx := mkCx T0 pg17 [(0, lsSpFunOkL)] [] 42
theorem eSpFunOk (a : Fun) : funK cxSpFunOk Go.Proofs.Try.f53 spSpFunOk.ins spSpFunOk.out (a, ()) =
  (if Go.Rx.G.lenS a.1 = Bool.true then
    if (!Go.Rx.G.nameOk a.1) = Bool.false then
      if Decidable.decide ((↑(List.length a.2.2.1) : Int) < (1 : Int)) = Bool.false then
        if Decidable.decide ((↑(List.length a.2.2.1) : Int) > (10 : Int)) = Bool.false then
          if Decidable.decide ((0 : Int) ≤ Go.IntKind.wrap Go.IntKind.i64 ((↑(List.length a.2.2.1) : Int) - (1 : Int))) = Bool.true then
            if Decidable.decide (Go.IntKind.wrap Go.IntKind.i64 ((↑(List.length a.2.2.1) : Int) - (1 : Int)) < (↑(List.length a.2.2.1) : Int)) = Bool.true then
              if
                  (!Go.Rx.G.last (List.getD a.2.2.1 (Int.toNat (Go.IntKind.wrap Go.IntKind.i64 ((↑(List.length a.2.2.1) : Int) - (1 : Int)))) ((0 : Int), (0 : Int), ByteArray.empty, PUnit.unit)).1) =
                    Bool.true then
                Option.some (Bool.false, PUnit.unit)
              else
                if Go.Rx.G.preSpFunOkL a (↑(List.length a.2.2.1) : Int) (0 : Int) = Bool.true then
                  if Go.Rx.G.flag (1 : Nat) (Go.Rx.G.scSpFunOkL a (0 : Int)) = (0 : Nat) then Option.some (Bool.true, PUnit.unit)
                  else if Go.Rx.G.flag (1 : Nat) (Go.Rx.G.scSpFunOkL a (0 : Int)) = (1 : Nat) then Option.some (Go.Rx.G.got (Go.Rx.G.scSpFunOkL a (0 : Int)) (Bool.false, PUnit.unit)) else Option.none
                else Option.none
            else Option.none
          else Option.none
        else Option.some (Bool.false, PUnit.unit)
      else Option.some (Bool.false, PUnit.unit)
    else Option.some (Bool.false, PUnit.unit)
  else Option.none) := by kernel_rfl
theorem sfSpFunOk (a : Fun) (h : G.smallF a = true) : funK cxSpFunOk Go.Proofs.Try.f53 spSpFunOk.ins spSpFunOk.out (a, ()) = some (G.funOk a, ()) := by
  obtain ⟨h1, h2, h3⟩ := smallF_iff.1 h
  rw [eSpFunOk, if_pos (lenS_iff.2 h1), w64 (by omega) (by omega)]
  unfold G.funOk
  cases G.nameOk a.1 with
  | false => rfl
  | true =>
    rw [if_pos (show (!true) = false from rfl), Bool.true_and]
    by_cases c1 : 1 ≤ a.2.2.1.length
    · rw [if_pos (decide_eq_false (by omega))]
      by_cases c2 : a.2.2.1.length ≤ 10
      · rw [if_pos (decide_eq_false (by omega)), if_pos (decide_eq_true (by omega)), if_pos (decide_eq_true (by omega)), decide_eq_true (⟨c1, c2⟩ : 1 ≤ a.2.2.1.length ∧ a.2.2.1.length ≤ 10), Bool.true_and]
        rw [insAt_eq, show ((a.2.2.1.length : Int) - 1).toNat = a.2.2.1.length - 1 by omega, show G.last (G.insAt a.2.2.1 (a.2.2.1.length - 1)).1 = G.lastOk a.2.2.1 from rfl]
        rw [if_pos (preSpFunOkL_iff.2 ⟨⟨by omega, by omega, h2⟩, rfl, h3⟩), show G.scSpFunOkL a 0 = _ from scan_bad _ _ _]
        cases G.lastOk a.2.2.1 <;> cases G.allFrom a.2.2.1.length (G.insOkAt a.2.2.1) 0 <;> rfl
      · rw [if_neg (by simp; omega), decide_eq_false (by omega)]
        rfl
    · rw [if_neg (by simp; omega), decide_eq_false (by omega)]
      rfl
theorem okSpFunOk : SpecOk Go.Proofs.Try.prog 53 spSpFunOk :=
  fun_okB (cx := cxSpFunOk) (F := Go.Proofs.Try.f53) (cxOk T0_ok T0_eq pg17_ok) mixed (by kernel_rfl) (by decide) (by kernel_rfl) (lps_of (l := [(0, loopIn Go.Proofs.Try.f53 0)]) (by kernel_rfl) ⟨lp_at lpSpFunOkL rfl, trivial⟩) (fun x h => sfSpFunOk x.1 h)
/-! NotOk -/
noncomputable abbrev spNotOk : Spec := ⟨[.agg InsK], BoolR, false, fun x => G.lenI x.1, fun x => (!G.insOk x.1, ())⟩
noncomputable abbrev cxNotOk : Cx := mkCx T0 pg17 [] [] 6
theorem eNotOk (a : Ins) : funK cxNotOk Go.Proofs.Try.f83 spNotOk.ins spNotOk.out (a, ()) =
  (if Go.Rx.G.lenI a = Bool.true then Option.some (!Go.Rx.G.insOk a, PUnit.unit) else Option.none) := by kernel_rfl
theorem sfNotOk (a : Ins) (h : G.lenI a = true) : funK cxNotOk Go.Proofs.Try.f83 spNotOk.ins spNotOk.out (a, ()) = some (!G.insOk a, ()) := by
  rw [eNotOk, if_pos h]
theorem okNotOk : SpecOk Go.Proofs.Try.prog 83 spNotOk :=
  fun_okB (cx := cxNotOk) (F := Go.Proofs.Try.f83) (cxOk T0_ok T0_eq pg17_ok) mixed (by kernel_rfl) (by decide) (by kernel_rfl) (lps_none (by kernel_rfl)) (fun x h => sfNotOk x.1 h)
noncomputable abbrev pg18 : List (Nat × List Spec) := (53, [spSpFunOk]) :: (83, [spNotOk]) :: pg17
theorem pg18_ok : PhiOk Go.Proofs.Try.prog pg18 := ⟨⟨okSpFunOk, trivial⟩, ⟨okNotOk, trivial⟩, pg17_ok⟩
theorem idx_end {p : Nat → Bool} {n : Nat} {d : Int} {γ : Type} (f : Int → γ) {o : Option (Int × Unit)} (e : o = G.scan (G.hit p) n 0) :
    (if G.flag 1 o = 0 then some (f (-1)) else if G.flag 1 o = 1 then some (f (G.got o (d, ())).1) else none) = some (f (G.idx p n)) := by
  rw [e, scan_hit]
  by_cases c : G.idx p n < 0
  · rw [if_pos c, if_pos (show G.flag 1 (none : Option (Int × Unit)) = 0 from rfl)]
    unfold G.idx at c ⊢
    cases hf : (List.range n).find? p with
    | none => rfl
    | some k =>
      rw [hf] at c
      have c : (k : Int) < 0 := c
      omega
  · rw [if_neg c]
    rfl
/-! IdxIL: a search -/
def G.preIdxIL (b : Inss) (k : Unit) (n : Int) (i : Int) : Bool := G.preA (b.length) i && (decide (n = ((b.length : Nat) : Int)) && (b.all G.lenI))
theorem preIdxIL_iff {b : Inss} {k : Unit} {n : Int} {i : Int} : G.preIdxIL b k n i = true ↔ (0 ≤ i ∧ i ≤ ((b.length : Nat) : Int) ∧ (b.length : Nat) ≤ 1099511627776) ∧ n = ((b.length : Nat) : Int) ∧ b.all G.lenI = true := by simp [G.preIdxIL, preA_iff]
def G.scIdxIL (b : Inss) (k : Unit) (i : Int) : Option (Int × Unit) := G.scan (G.hit (G.insBadAt b)) (b.length) i
noncomputable abbrev lsIdxIL : LSpec := ⟨[0, 1, 7, 8, 4], [4], [InsSP, .fn 83 [], IntP, IntP, IntP], [IntP], false, fun x => G.preIdxIL x.1 x.2.1 x.2.2.1 x.2.2.2.1,
  fun x => ((G.flag 1 (G.scIdxIL x.1 x.2.1 x.2.2.2.1), G.got (G.scIdxIL x.1 x.2.1 x.2.2.2.1) (x.2.2.2.2.1, ())), (x.2.1, ()))⟩
noncomputable abbrev clIdxIL : Cx := mkCx T0 pg18 [(0, lsIdxIL)] [] 19
theorem rIdxIL (b : Inss) (k : Unit) (n : Int) (i : Int) (r : Int) : roundK clIdxIL 0 (loopIn Go.Proofs.Try.f110 0) lsIdxIL (b, k, n, i, r, ()) =
  (if Decidable.decide (i < n) = Bool.true then
    if Decidable.decide ((0 : Int) ≤ i) = Bool.true then
      if Decidable.decide (i < (↑(List.length b) : Int)) = Bool.true then
        if Go.Rx.G.lenI (List.getD b (Int.toNat i) ((0 : Int), (0 : Int), ByteArray.empty, PUnit.unit)) = Bool.true then
          if (!Go.Rx.G.insOk (List.getD b (Int.toNat i) ((0 : Int), (0 : Int), ByteArray.empty, PUnit.unit))) = Bool.true then
            Option.some (Go.Rx.LRes.stop (1 : Nat) (i, PUnit.unit) (PUnit.unit, PUnit.unit))
          else Option.some (Go.Rx.LRes.go (b, PUnit.unit, n, Go.IntKind.wrap Go.IntKind.i64 (i + (1 : Int)), r, PUnit.unit))
        else Option.none
      else Option.none
    else Option.none
  else Option.some (Go.Rx.LRes.stop (0 : Nat) (r, PUnit.unit) (PUnit.unit, PUnit.unit))) := by kernel_rfl
noncomputable abbrev muIdxIL : PKs.den lsIdxIL.ins → Nat := fun x => (x.1.length) - x.2.2.2.1.toNat
theorem stIdxIL (b : Inss) (k : Unit) (n : Int) (i : Int) (r : Int) (h : G.preIdxIL b k n i = true) : StepOk lsIdxIL (eqInv lsIdxIL) muIdxIL (b, k, n, i, r, ()) (roundK clIdxIL 0 (loopIn Go.Proofs.Try.f110 0) lsIdxIL (b, k, n, i, r, ())) := by
  obtain ⟨⟨h0, h1, h2⟩, hn, hc⟩ := preIdxIL_iff.1 h
  subst hn
  rw [rIdxIL]
  by_cases hi : i < ((b.length : Nat) : Int)
  · have hw : IntKind.i64.wrap (i + 1) = i + 1 := w64 (by omega) (by omega)
    have hs : G.scIdxIL b k i = ((G.hit (G.insBadAt b)) i.toNat).or (G.scIdxIL b k (i + 1)) := scan_step h0 (by omega)
    refine scan_stop (fl := 1) (eqInv lsIdxIL) muIdxIL (b, k, ((b.length : Nat) : Int), i + 1, r, ()) ((G.hit (G.insBadAt b)) i.toNat) (k, ()) ?_ (fun ho => ⟨(show G.preIdxIL b k ((b.length : Nat) : Int) (i + 1) = true from preIdxIL_iff.2 ⟨⟨by omega, by omega, h2⟩, rfl, hc⟩), ?_, ?_⟩) (fun w ho => ?_)
    · rw [hit_match, hw, if_pos (decide_eq_true hi), if_pos (decide_eq_true h0), if_pos (decide_eq_true hi), insAt_eq, if_pos (lenI_at hc (by omega)), nat_int h0]
      rfl
    · show (b.length) - (i + 1).toNat < (b.length) - i.toNat
      omega
    · show ((_, _), _) = ((_, _), _)
      simp only [hs, ho, Option.none_or]
    · show ((_, _), _) = ((_, _), _)
      simp only [hs, ho, Option.some_or]
      rfl
  · have hs : G.scIdxIL b k i = none := scan_end (by omega)
    skip
    rw [if_neg (by simpa using hi)]
    show ((_, _), _) = ((_, _), _)
    simp only [hs]
    rfl
theorem lpIdxIL : LpOk Go.Proofs.Try.prog clIdxIL.ntmps 0 (loopIn Go.Proofs.Try.f110 0) lsIdxIL :=
  lp_okB (cxOk T0_ok T0_eq pg18_ok) mixed (by kernel_rfl) (lps_none (by kernel_rfl)) (eqInv lsIdxIL) muIdxIL (fun _ h => h) (fun x h => stIdxIL x.1 x.2.1 x.2.2.1 x.2.2.2.1 x.2.2.2.2.1 h)
/-! IdxI -/
noncomputable abbrev spIdxI : Spec := ⟨[InsSP, .fn 83 []], IntR, false, fun x => G.smallI x.1, fun x => (G.idx (G.insBadAt x.1) x.1.length, (x.2.1, ()))⟩
noncomputable abbrev cxIdxI : Cx := mkCx T0 pg18 [(0, lsIdxIL)] [] 19
theorem eIdxI (b : Inss) (k : Unit) : funK cxIdxI Go.Proofs.Try.f110 spIdxI.ins spIdxI.out (b, k, ()) =
  (if Go.Rx.G.preIdxIL b PUnit.unit (↑(List.length b) : Int) (0 : Int) = Bool.true then
    if Go.Rx.G.flag (1 : Nat) (Go.Rx.G.scIdxIL b PUnit.unit (0 : Int)) = (0 : Nat) then Option.some ((-1 : Int), PUnit.unit, PUnit.unit)
    else
      if Go.Rx.G.flag (1 : Nat) (Go.Rx.G.scIdxIL b PUnit.unit (0 : Int)) = (1 : Nat) then Option.some ((Go.Rx.G.got (Go.Rx.G.scIdxIL b PUnit.unit (0 : Int)) ((0 : Int), PUnit.unit)).1, PUnit.unit, PUnit.unit)
      else Option.none
  else Option.none) := by kernel_rfl
theorem smallI_iff {b : Inss} : G.smallI b = true ↔ (b.length ≤ 1099511627776 ∧ b.all G.lenI = true) := by
  unfold G.smallI
  rw [Bool.and_eq_true, few_iff]
theorem sfIdxI (b : Inss) (k : Unit) (h : G.smallI b = true) : funK cxIdxI Go.Proofs.Try.f110 spIdxI.ins spIdxI.out (b, k, ()) = some (G.idx (G.insBadAt b) b.length, (k, ())) := by
  obtain ⟨h1, h2⟩ := smallI_iff.1 h
  rw [eIdxI, if_pos (preIdxIL_iff.2 ⟨⟨by omega, by omega, h1⟩, rfl, h2⟩)]
  exact idx_end (fun i => (i, (), ())) rfl
theorem okIdxI : SpecOk Go.Proofs.Try.prog 110 spIdxI :=
  fun_okB (cx := cxIdxI) (F := Go.Proofs.Try.f110) (cxOk T0_ok T0_eq pg18_ok) mixed (by kernel_rfl) (by decide) (by kernel_rfl) (lps_of (l := [(0, loopIn Go.Proofs.Try.f110 0)]) (by kernel_rfl) ⟨lp_at lpIdxIL rfl, trivial⟩) (fun x h => sfIdxI x.1 x.2.1 h)
/-! L2HasL: a search -/
def G.preL2HasL (l : Strs) (s : ByteArray) (i : Int) : Bool := G.preA (l.length) i && (true && (true))
theorem preL2HasL_iff {l : Strs} {s : ByteArray} {i : Int} : G.preL2HasL l s i = true ↔ (0 ≤ i ∧ i ≤ ((l.length : Nat) : Int) ∧ (l.length : Nat) ≤ 1099511627776) ∧ True ∧ true = true := by simp [G.preL2HasL, preA_iff]
def G.scL2HasL (l : Strs) (s : ByteArray) (i : Int) : Option (Bool × Unit) := G.scan (G.hitT (G.strAt l s)) (l.length) i
noncomputable abbrev lsL2HasL : LSpec := ⟨[0, 1, 5, 4], [4], [StrSP, StrP, IntP, BoolP], [BoolP], false, fun x => G.preL2HasL x.1 x.2.1 x.2.2.1,
  fun x => ((G.flag 1 (G.scL2HasL x.1 x.2.1 x.2.2.1), G.got (G.scL2HasL x.1 x.2.1 x.2.2.1) (x.2.2.2.1, ())), ())⟩
noncomputable abbrev clL2HasL : Cx := mkCx T0 pg18 [(0, lsL2HasL)] [] 18
theorem rL2HasL (l : Strs) (s : ByteArray) (i : Int) (r : Bool) : roundK clL2HasL 0 (loopIn Go.Proofs.Try.f61 0) lsL2HasL (l, s, i, r, ()) =
  (if Decidable.decide (i < (↑(List.length l) : Int)) = Bool.true then
    if Decidable.decide ((0 : Int) ≤ i) = Bool.true then
      if Decidable.decide (i < (↑(List.length l) : Int)) = Bool.true then
        if Go.Rx.strEq (List.getD l (Int.toNat i) (ByteArray.empty, PUnit.unit)).1 s = Bool.true then Option.some (Go.Rx.LRes.stop (1 : Nat) (Bool.true, PUnit.unit) PUnit.unit)
        else Option.some (Go.Rx.LRes.go (l, s, Go.IntKind.wrap Go.IntKind.i64 (i + (1 : Int)), r, PUnit.unit))
      else Option.none
    else Option.none
  else Option.some (Go.Rx.LRes.stop (0 : Nat) (r, PUnit.unit) PUnit.unit)) := by kernel_rfl
noncomputable abbrev muL2HasL : PKs.den lsL2HasL.ins → Nat := fun x => (x.1.length) - x.2.2.1.toNat
theorem stL2HasL (l : Strs) (s : ByteArray) (i : Int) (r : Bool) (h : G.preL2HasL l s i = true) : StepOk lsL2HasL (eqInv lsL2HasL) muL2HasL (l, s, i, r, ()) (roundK clL2HasL 0 (loopIn Go.Proofs.Try.f61 0) lsL2HasL (l, s, i, r, ())) := by
  obtain ⟨⟨h0, h1, h2⟩, hn, hc⟩ := preL2HasL_iff.1 h
  rw [rL2HasL]
  by_cases hi : i < ((l.length : Nat) : Int)
  · have hw : IntKind.i64.wrap (i + 1) = i + 1 := w64 (by omega) (by omega)
    have hs : G.scL2HasL l s i = ((G.hitT (G.strAt l s)) i.toNat).or (G.scL2HasL l s (i + 1)) := scan_step h0 (by omega)
    refine scan_stop (fl := 1) (eqInv lsL2HasL) muL2HasL (l, s, i + 1, r, ()) ((G.hitT (G.strAt l s)) i.toNat) () ?_ (fun ho => ⟨(show G.preL2HasL l s (i + 1) = true from preL2HasL_iff.2 ⟨⟨by omega, by omega, h2⟩, trivial, hc⟩), ?_, ?_⟩) (fun w ho => ?_)
    · rw [hitT_match, hw, if_pos (decide_eq_true hi), if_pos (decide_eq_true h0), if_pos (decide_eq_true hi), strEq_iff]
      rfl
    · show (l.length) - (i + 1).toNat < (l.length) - i.toNat
      omega
    · show ((_, _), _) = ((_, _), _)
      simp only [hs, ho, Option.none_or]
    · show ((_, _), _) = ((_, _), _)
      simp only [hs, ho, Option.some_or]
      rfl
  · have hs : G.scL2HasL l s i = none := scan_end (by omega)
    skip
    rw [if_neg (by simpa using hi)]
    show ((_, _), _) = ((_, _), _)
    simp only [hs]
    rfl
theorem lpL2HasL : LpOk Go.Proofs.Try.prog clL2HasL.ntmps 0 (loopIn Go.Proofs.Try.f61 0) lsL2HasL :=
  lp_okB (cxOk T0_ok T0_eq pg18_ok) mixed (by kernel_rfl) (lps_none (by kernel_rfl)) (eqInv lsL2HasL) muL2HasL (fun _ h => h) (fun x h => stL2HasL x.1 x.2.1 x.2.2.1 x.2.2.2.1 h)
def G.hasS (l : Strs) (s : ByteArray) : Bool := G.anyFrom l.length (G.strAt l s) 0
/-! L2Has -/
noncomputable abbrev spL2Has : Spec := ⟨[StrSP, StrP], BoolR, false, fun x => G.few x.1.length, fun x => (G.hasS x.1 x.2.1, ())⟩
noncomputable abbrev cxL2Has : Cx := mkCx T0 pg18 [(0, lsL2HasL)] [] 18
theorem eL2Has (l : Strs) (s : ByteArray) : funK cxL2Has Go.Proofs.Try.f61 spL2Has.ins spL2Has.out (l, s, ()) =
  (if Go.Rx.G.preL2HasL l s (0 : Int) = Bool.true then
    if Go.Rx.G.flag (1 : Nat) (Go.Rx.G.scL2HasL l s (0 : Int)) = (0 : Nat) then Option.some (Bool.false, PUnit.unit)
    else if Go.Rx.G.flag (1 : Nat) (Go.Rx.G.scL2HasL l s (0 : Int)) = (1 : Nat) then Option.some (Go.Rx.G.got (Go.Rx.G.scL2HasL l s (0 : Int)) (Bool.false, PUnit.unit)) else Option.none
  else Option.none) := by kernel_rfl
theorem sfL2Has (l : Strs) (s : ByteArray) (h : G.few l.length = true) : funK cxL2Has Go.Proofs.Try.f61 spL2Has.ins spL2Has.out (l, s, ()) = some (G.hasS l s, ()) := by
  have h := few_iff.1 h
  rw [eL2Has, if_pos (preL2HasL_iff.2 ⟨⟨by omega, by omega, h⟩, trivial, rfl⟩), show G.scL2HasL l s 0 = _ from scan_hitT _ _ _]
  unfold G.hasS
  cases G.anyFrom l.length (G.strAt l s) 0 <;> rfl
theorem okL2Has : SpecOk Go.Proofs.Try.prog 61 spL2Has :=
  fun_okB (cx := cxL2Has) (F := Go.Proofs.Try.f61) (cxOk T0_ok T0_eq pg18_ok) mixed (by kernel_rfl) (by decide) (by kernel_rfl) (lps_of (l := [(0, loopIn Go.Proofs.Try.f61 0)]) (by kernel_rfl) ⟨lp_at lpL2HasL rfl, trivial⟩) (fun x h => sfL2Has x.1 x.2.1 h)
theorem strEq_sym (x y : ByteArray) : Go.Rx.strEq x y = decide (y = x) := by
  rw [strEq_iff, decide_eq_decide]
  exact eq_comm
/-! IdxSL: a search -/
def G.preIdxSL (l : Strs) (s : ByteArray) (n : Int) (i : Int) : Bool := G.preA (l.length) i && (decide (n = ((l.length : Nat) : Int)) && (true))
theorem preIdxSL_iff {l : Strs} {s : ByteArray} {n : Int} {i : Int} : G.preIdxSL l s n i = true ↔ (0 ≤ i ∧ i ≤ ((l.length : Nat) : Int) ∧ (l.length : Nat) ≤ 1099511627776) ∧ n = ((l.length : Nat) : Int) ∧ true = true := by simp [G.preIdxSL, preA_iff]
def G.scIdxSL (l : Strs) (s : ByteArray) (i : Int) : Option (Int × Unit) := G.scan (G.hit (G.strAt l s)) (l.length) i
noncomputable abbrev lsIdxSL : LSpec := ⟨[0, 1, 7, 8, 4], [4], [StrSP, StrP, IntP, IntP, IntP], [IntP], false, fun x => G.preIdxSL x.1 x.2.1 x.2.2.1 x.2.2.2.1,
  fun x => ((G.flag 1 (G.scIdxSL x.1 x.2.1 x.2.2.2.1), G.got (G.scIdxSL x.1 x.2.1 x.2.2.2.1) (x.2.2.2.2.1, ())), ())⟩
noncomputable abbrev clIdxSL : Cx := mkCx T0 pg18 [(0, lsIdxSL)] [] 19
theorem rIdxSL (l : Strs) (s : ByteArray) (n : Int) (i : Int) (r : Int) : roundK clIdxSL 0 (loopIn Go.Proofs.Try.f112 0) lsIdxSL (l, s, n, i, r, ()) =
  (if Decidable.decide (i < n) = Bool.true then
    if Decidable.decide ((0 : Int) ≤ i) = Bool.true then
      if Decidable.decide (i < (↑(List.length l) : Int)) = Bool.true then
        if Go.Rx.strEq s (List.getD l (Int.toNat i) (ByteArray.empty, PUnit.unit)).1 = Bool.true then Option.some (Go.Rx.LRes.stop (1 : Nat) (i, PUnit.unit) PUnit.unit)
        else Option.some (Go.Rx.LRes.go (l, s, n, Go.IntKind.wrap Go.IntKind.i64 (i + (1 : Int)), r, PUnit.unit))
      else Option.none
    else Option.none
  else Option.some (Go.Rx.LRes.stop (0 : Nat) (r, PUnit.unit) PUnit.unit)) := by kernel_rfl
noncomputable abbrev muIdxSL : PKs.den lsIdxSL.ins → Nat := fun x => (x.1.length) - x.2.2.2.1.toNat
theorem stIdxSL (l : Strs) (s : ByteArray) (n : Int) (i : Int) (r : Int) (h : G.preIdxSL l s n i = true) : StepOk lsIdxSL (eqInv lsIdxSL) muIdxSL (l, s, n, i, r, ()) (roundK clIdxSL 0 (loopIn Go.Proofs.Try.f112 0) lsIdxSL (l, s, n, i, r, ())) := by
  obtain ⟨⟨h0, h1, h2⟩, hn, hc⟩ := preIdxSL_iff.1 h
  subst hn
  rw [rIdxSL]
  by_cases hi : i < ((l.length : Nat) : Int)
  · have hw : IntKind.i64.wrap (i + 1) = i + 1 := w64 (by omega) (by omega)
    have hs : G.scIdxSL l s i = ((G.hit (G.strAt l s)) i.toNat).or (G.scIdxSL l s (i + 1)) := scan_step h0 (by omega)
    refine scan_stop (fl := 1) (eqInv lsIdxSL) muIdxSL (l, s, ((l.length : Nat) : Int), i + 1, r, ()) ((G.hit (G.strAt l s)) i.toNat) () ?_ (fun ho => ⟨(show G.preIdxSL l s ((l.length : Nat) : Int) (i + 1) = true from preIdxSL_iff.2 ⟨⟨by omega, by omega, h2⟩, rfl, hc⟩), ?_, ?_⟩) (fun w ho => ?_)
    · rw [hit_match, hw, if_pos (decide_eq_true hi), if_pos (decide_eq_true h0), if_pos (decide_eq_true hi), strEq_sym, nat_int h0]
      rfl
    · show (l.length) - (i + 1).toNat < (l.length) - i.toNat
      omega
    · show ((_, _), _) = ((_, _), _)
      simp only [hs, ho, Option.none_or]
    · show ((_, _), _) = ((_, _), _)
      simp only [hs, ho, Option.some_or]
      rfl
  · have hs : G.scIdxSL l s i = none := scan_end (by omega)
    skip
    rw [if_neg (by simpa using hi)]
    show ((_, _), _) = ((_, _), _)
    simp only [hs]
    rfl
theorem lpIdxSL : LpOk Go.Proofs.Try.prog clIdxSL.ntmps 0 (loopIn Go.Proofs.Try.f112 0) lsIdxSL :=
  lp_okB (cxOk T0_ok T0_eq pg18_ok) mixed (by kernel_rfl) (lps_none (by kernel_rfl)) (eqInv lsIdxSL) muIdxSL (fun _ h => h) (fun x h => stIdxSL x.1 x.2.1 x.2.2.1 x.2.2.2.1 x.2.2.2.2.1 h)
/-! IdxS -/
noncomputable abbrev spIdxS : Spec := ⟨[StrSP, StrP], IntR, false, fun x => G.few x.1.length, fun x => (G.idx (G.strAt x.1 x.2.1) x.1.length, ())⟩
noncomputable abbrev cxIdxS : Cx := mkCx T0 pg18 [(0, lsIdxSL)] [] 19
theorem eIdxS (l : Strs) (s : ByteArray) : funK cxIdxS Go.Proofs.Try.f112 spIdxS.ins spIdxS.out (l, s, ()) =
  (if Go.Rx.G.preIdxSL l s (↑(List.length l) : Int) (0 : Int) = Bool.true then
    if Go.Rx.G.flag (1 : Nat) (Go.Rx.G.scIdxSL l s (0 : Int)) = (0 : Nat) then Option.some ((-1 : Int), PUnit.unit)
    else if Go.Rx.G.flag (1 : Nat) (Go.Rx.G.scIdxSL l s (0 : Int)) = (1 : Nat) then Option.some (Go.Rx.G.got (Go.Rx.G.scIdxSL l s (0 : Int)) ((0 : Int), PUnit.unit)) else Option.none
  else Option.none) := by kernel_rfl
theorem sfIdxS (l : Strs) (s : ByteArray) (h : G.few l.length = true) : funK cxIdxS Go.Proofs.Try.f112 spIdxS.ins spIdxS.out (l, s, ()) = some (G.idx (G.strAt l s) l.length, ()) := by
  have h := few_iff.1 h
  rw [eIdxS, if_pos (preIdxSL_iff.2 ⟨⟨by omega, by omega, h⟩, rfl, rfl⟩)]
  exact idx_end (fun i => (i, ())) rfl
theorem okIdxS : SpecOk Go.Proofs.Try.prog 112 spIdxS :=
  fun_okB (cx := cxIdxS) (F := Go.Proofs.Try.f112) (cxOk T0_ok T0_eq pg18_ok) mixed (by kernel_rfl) (by decide) (by kernel_rfl) (lps_of (l := [(0, loopIn Go.Proofs.Try.f112 0)]) (by kernel_rfl) ⟨lp_at lpIdxSL rfl, trivial⟩) (fun x h => sfIdxS x.1 x.2.1 h)
/-! L2FindL: a search -/
def G.preL2FindL (u : Funs) (s : ByteArray) (i : Int) : Bool := G.preA (u.length) i && (true && (true))
theorem preL2FindL_iff {u : Funs} {s : ByteArray} {i : Int} : G.preL2FindL u s i = true ↔ (0 ≤ i ∧ i ≤ ((u.length : Nat) : Int) ∧ (u.length : Nat) ≤ 1099511627776) ∧ True ∧ true = true := by simp [G.preL2FindL, preA_iff]
def G.scL2FindL (u : Funs) (s : ByteArray) (i : Int) : Option (Int × Unit) := G.scan (G.hit (G.funAt u s)) (u.length) i
noncomputable abbrev lsL2FindL : LSpec := ⟨[0, 1, 5, 4], [4], [FunSP, StrP, IntP, IntP], [IntP], false, fun x => G.preL2FindL x.1 x.2.1 x.2.2.1,
  fun x => ((G.flag 1 (G.scL2FindL x.1 x.2.1 x.2.2.1), G.got (G.scL2FindL x.1 x.2.1 x.2.2.1) (x.2.2.2.1, ())), ())⟩
noncomputable abbrev clL2FindL : Cx := mkCx T0 pg18 [(0, lsL2FindL)] [] 20
theorem rL2FindL (u : Funs) (s : ByteArray) (i : Int) (r : Int) : roundK clL2FindL 0 (loopIn Go.Proofs.Try.f41 0) lsL2FindL (u, s, i, r, ()) =
  (if Decidable.decide (i < (↑(List.length u) : Int)) = Bool.true then
    if Decidable.decide ((0 : Int) ≤ i) = Bool.true then
      if Decidable.decide (i < (↑(List.length u) : Int)) = Bool.true then
        if Go.Rx.strEq (List.getD u (Int.toNat i) (ByteArray.empty, Bool.false, [], PUnit.unit)).1 s = Bool.true then
          Option.some (Go.Rx.LRes.stop (1 : Nat) (i, PUnit.unit) PUnit.unit)
        else Option.some (Go.Rx.LRes.go (u, s, Go.IntKind.wrap Go.IntKind.i64 (i + (1 : Int)), r, PUnit.unit))
      else Option.none
    else Option.none
  else Option.some (Go.Rx.LRes.stop (0 : Nat) (r, PUnit.unit) PUnit.unit)) := by kernel_rfl
noncomputable abbrev muL2FindL : PKs.den lsL2FindL.ins → Nat := fun x => (x.1.length) - x.2.2.1.toNat
theorem stL2FindL (u : Funs) (s : ByteArray) (i : Int) (r : Int) (h : G.preL2FindL u s i = true) : StepOk lsL2FindL (eqInv lsL2FindL) muL2FindL (u, s, i, r, ()) (roundK clL2FindL 0 (loopIn Go.Proofs.Try.f41 0) lsL2FindL (u, s, i, r, ())) := by
  obtain ⟨⟨h0, h1, h2⟩, hn, hc⟩ := preL2FindL_iff.1 h
  rw [rL2FindL]
  by_cases hi : i < ((u.length : Nat) : Int)
  · have hw : IntKind.i64.wrap (i + 1) = i + 1 := w64 (by omega) (by omega)
    have hs : G.scL2FindL u s i = ((G.hit (G.funAt u s)) i.toNat).or (G.scL2FindL u s (i + 1)) := scan_step h0 (by omega)
    refine scan_stop (fl := 1) (eqInv lsL2FindL) muL2FindL (u, s, i + 1, r, ()) ((G.hit (G.funAt u s)) i.toNat) () ?_ (fun ho => ⟨(show G.preL2FindL u s (i + 1) = true from preL2FindL_iff.2 ⟨⟨by omega, by omega, h2⟩, trivial, hc⟩), ?_, ?_⟩) (fun w ho => ?_)
    · rw [hit_match, hw, if_pos (decide_eq_true hi), if_pos (decide_eq_true h0), if_pos (decide_eq_true hi), strEq_iff, nat_int h0]
      rfl
    · show (u.length) - (i + 1).toNat < (u.length) - i.toNat
      omega
    · show ((_, _), _) = ((_, _), _)
      simp only [hs, ho, Option.none_or]
    · show ((_, _), _) = ((_, _), _)
      simp only [hs, ho, Option.some_or]
      rfl
  · have hs : G.scL2FindL u s i = none := scan_end (by omega)
    skip
    rw [if_neg (by simpa using hi)]
    show ((_, _), _) = ((_, _), _)
    simp only [hs]
    rfl
theorem lpL2FindL : LpOk Go.Proofs.Try.prog clL2FindL.ntmps 0 (loopIn Go.Proofs.Try.f41 0) lsL2FindL :=
  lp_okB (cxOk T0_ok T0_eq pg18_ok) mixed (by kernel_rfl) (lps_none (by kernel_rfl)) (eqInv lsL2FindL) muL2FindL (fun _ h => h) (fun x h => stL2FindL x.1 x.2.1 x.2.2.1 x.2.2.2.1 h)
def G.find (u : Funs) (s : ByteArray) : Int := G.idx (G.funAt u s) u.length
/-! L2Find -/
noncomputable abbrev spL2Find : Spec := ⟨[FunSP, StrP], IntR, false, fun x => G.few x.1.length, fun x => (G.find x.1 x.2.1, ())⟩
noncomputable abbrev cxL2Find : Cx := mkCx T0 pg18 [(0, lsL2FindL)] [] 20
theorem eL2Find (u : Funs) (s : ByteArray) : funK cxL2Find Go.Proofs.Try.f41 spL2Find.ins spL2Find.out (u, s, ()) =
  (if Go.Rx.G.preL2FindL u s (0 : Int) = Bool.true then
    if Go.Rx.G.flag (1 : Nat) (Go.Rx.G.scL2FindL u s (0 : Int)) = (0 : Nat) then Option.some ((-1 : Int), PUnit.unit)
    else if Go.Rx.G.flag (1 : Nat) (Go.Rx.G.scL2FindL u s (0 : Int)) = (1 : Nat) then Option.some (Go.Rx.G.got (Go.Rx.G.scL2FindL u s (0 : Int)) ((0 : Int), PUnit.unit)) else Option.none
  else Option.none) := by kernel_rfl
theorem sfL2Find (u : Funs) (s : ByteArray) (h : G.few u.length = true) : funK cxL2Find Go.Proofs.Try.f41 spL2Find.ins spL2Find.out (u, s, ()) = some (G.find u s, ()) := by
  have h := few_iff.1 h
  rw [eL2Find, if_pos (preL2FindL_iff.2 ⟨⟨by omega, by omega, h⟩, trivial, rfl⟩)]
  exact idx_end (fun i => (i, ())) rfl
theorem okL2Find : SpecOk Go.Proofs.Try.prog 41 spL2Find :=
  fun_okB (cx := cxL2Find) (F := Go.Proofs.Try.f41) (cxOk T0_ok T0_eq pg18_ok) mixed (by kernel_rfl) (by decide) (by kernel_rfl) (lps_of (l := [(0, loopIn Go.Proofs.Try.f41 0)]) (by kernel_rfl) ⟨lp_at lpL2FindL rfl, trivial⟩) (fun x h => sfL2Find x.1 x.2.1 h)
/-! FindIs -/
noncomputable abbrev spFindIs : Spec := ⟨[.agg FunK, .box [.dat .str]], BoolR, true, fun x => true, fun x => (decide (x.1.1 = x.2.1.1), (x.2.1, ()))⟩
noncomputable abbrev cxFindIs : Cx := mkCx T0 pg18 [] [] 8
theorem eFindIs (f : Fun) (s : ByteArray) : funK cxFindIs Go.Proofs.Try.f90 spFindIs.ins spFindIs.out (f, (s, ()), ()) =
  (Option.some (Go.Rx.strEq f.1 s, (s, PUnit.unit), PUnit.unit)) := by kernel_rfl
noncomputable abbrev pg19 : List (Nat × List Spec) := (41, [spL2Find]) :: (112, [spIdxS]) :: (61, [spL2Has]) :: (110, [spIdxI]) :: pg18
theorem pg19_ok : PhiOk Go.Proofs.Try.prog pg19 := ⟨⟨okL2Find, trivial⟩, ⟨okIdxS, trivial⟩, ⟨okL2Has, trivial⟩, ⟨okIdxI, trivial⟩, pg18_ok⟩
/-! ContI -/
noncomputable abbrev spContI : Spec := ⟨[InsSP, .fn 83 []], BoolR, false, fun x => G.smallI x.1, fun x => (!G.allFrom x.1.length (G.insOkAt x.1) 0, (x.2.1, ()))⟩
noncomputable abbrev cxContI : Cx := mkCx T0 pg19 [] [] 9
theorem eContI (b : Inss) (k : Unit) : funK cxContI Go.Proofs.Try.f82 spContI.ins spContI.out (b, k, ()) =
  (if Go.Rx.G.smallI b = Bool.true then Option.some (Decidable.decide (Go.Rx.G.idx (Go.Rx.G.insBadAt b) (List.length b) ≥ (0 : Int)), PUnit.unit, PUnit.unit) else Option.none) := by kernel_rfl
/-! ContS -/
noncomputable abbrev spContS : Spec := ⟨[StrSP, StrP], BoolR, false, fun x => G.few x.1.length, fun x => (G.hasS x.1 x.2.1, ())⟩
noncomputable abbrev cxContS : Cx := mkCx T0 pg19 [] [] 9
theorem eContS (l : Strs) (s : ByteArray) : funK cxContS Go.Proofs.Try.f86 spContS.ins spContS.out (l, s, ()) =
  (if Go.Rx.G.few (List.length l) = Bool.true then Option.some (Decidable.decide (Go.Rx.G.idx (Go.Rx.G.strAt l s) (List.length l) ≥ (0 : Int)), PUnit.unit) else Option.none) := by kernel_rfl
end Go.Rx

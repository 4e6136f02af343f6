/-
  LAYINGS: whether they are right; how much they take.
-/
import Derived.Test.YteenlfeglffnoaaDc
namespace Go.Rx
open Go
set_option linter.unusedVariables false
set_option linter.unusedSimpArgs false
abbrev LayP : PK := .agg LayK
def G.stones (l : Lay) (k : Nat) : Strs := (l.2.1.getD k ([], ())).1
def G.atOf (l : Lay) (k : Nat) : Int := (l.1.getD k ((0 : Int), ())).1
def G.partLen (p : Funs) (l : Lay) (k : Nat) : Int := ((G.pAt p k).2.2.1.length : Int) + ((G.stones l k).length : Int)
def G.posn (p : Funs) (l : Lay) : Nat → Int
  | 0 => 0
  | k + 1 => G.posn p l k + G.partLen p l k
def G.smallL (l : Lay) : Bool := decide (l.1.length ≤ 1048576 ∧ l.2.1.length ≤ 1048576) && l.2.1.all (fun s => decide (s.1.length ≤ 1048576))
theorem smallL_iff {l : Lay} : G.smallL l = true ↔ ((l.1.length ≤ 1048576 ∧ l.2.1.length ≤ 1048576) ∧ ∀ k, (G.stones l k).length ≤ 1048576) := by
  unfold G.smallL
  rw [Bool.and_eq_true, decide_eq_true_iff, List.all_eq_true]
  refine and_congr_right fun _ => ⟨fun h k => ?_, fun h s hs => ?_⟩
  · unfold G.stones
    by_cases hk : k < l.2.1.length
    · have := h (l.2.1.getD k ([], ())) (by simp [List.getD, hk])
      simpa using this
    · simp [List.getD, hk]
  · obtain ⟨k, hk, rfl⟩ := List.getElem_of_mem hs
    have := h k
    unfold G.stones at this
    simp [List.getD, hk] at this
    simpa using this
/-- No stone of a function's stands there twice; each is a function's name. -/
def G.newAt (s : Strs) (k : Nat) : Bool := G.allFrom k (fun j => !decide (G.sAt s j = G.sAt s k)) 0
def G.stoneOk (p : Funs) (s : Strs) (k : Nat) : Bool := G.knownAt p s k && G.newAt s k
def G.stonesOk (p : Funs) (s : Strs) : Bool := G.allFrom s.length (G.stoneOk p s) 0
def G.laidAt (p : Funs) (l : Lay) (k : Nat) : Bool := decide (G.atOf l k = G.posn p l k) && G.stonesOk p (G.stones l k)
def G.laid (p : Funs) (l : Lay) : Bool := G.keepOk p && (decide (l.1.length = p.length) && (decide (l.2.1.length = p.length) && G.allFrom p.length (G.laidAt p l) 0))
theorem stones_eq (l : Lay) (i : Int) : (l.2.1.getD i.toNat ([], ())).1 = G.stones l i.toNat := rfl
theorem atOf_eq (l : Lay) (i : Int) : (l.1.getD i.toNat ((0 : Int), ())).1 = G.atOf l i.toNat := rfl
theorem posn_succ (p : Funs) (l : Lay) {i : Int} (h : 0 ≤ i) : G.posn p l (i + 1).toNat = G.posn p l i.toNat + G.partLen p l i.toNat := by
  rw [toNat_succ h]
  rfl
theorem posn_bd {p : Funs} {l : Lay} (hl : ∀ k, (G.stones l k).length ≤ 1048576) (hp : ∀ k, k < p.length → (G.pAt p k).2.2.1.length ≤ 16) : ∀ k, k ≤ p.length → 0 ≤ G.posn p l k ∧ G.posn p l k ≤ 1048592 * (k : Int)
  | 0, _ => ⟨by simp [G.posn], by simp [G.posn]⟩
  | k + 1, h => by
    obtain ⟨h1, h2⟩ := posn_bd hl hp k (by omega)
    have h3 := hl k
    have h4 := hp k (by omega)
    have e : G.posn p l (k + 1) = G.posn p l k + (((G.pAt p k).2.2.1.length : Int) + ((G.stones l k).length : Int)) := rfl
    rw [e]
    omega
theorem anyFrom_congr {n : Nat} {p q : Nat → Bool} (h : ∀ k, k < n → p k = q k) : G.anyFrom n p 0 = G.anyFrom n q 0 := by
  unfold G.anyFrom
  rw [range_zero]
  have key : ∀ l : List Nat, (∀ k ∈ l, k < n) → l.any p = l.any q := by
    intro l
    induction l with
    | nil => intro _; rfl
    | cons a r ih =>
      intro hm
      rw [List.any_cons, List.any_cons, h a (hm a (List.mem_cons_self ..)), ih fun k hk => hm k (List.mem_cons_of_mem _ hk)]
  exact key _ (by simp)
theorem hasS_take (s : Strs) {k : Nat} (hk : k < s.length) : G.hasS (s.take k) (G.sAt s k) = !G.newAt s k := by
  unfold G.hasS G.newAt
  rw [allFrom_not, Bool.not_not, List.length_take, Nat.min_eq_left (by omega)]
  refine anyFrom_congr fun j hj => ?_
  unfold G.strAt G.sAt
  have e : (s.take k).getD j (ByteArray.empty, ()) = s.getD j (ByteArray.empty, ()) := by
    simp [List.getD, List.getElem?_take, hj]
  rw [e]
/-! FormL4: a search -/
def G.preFormL4 (l : Lay) (a : Int) (k : Int) (i : Int) : Bool := G.preA (k.toNat) i && (true && (decide (0 ≤ a ∧ a < (l.2.1.length : Int) ∧ 0 ≤ k ∧ k < ((G.stones l a.toNat).length : Int))))
theorem preFormL4_iff {l : Lay} {a : Int} {k : Int} {i : Int} : G.preFormL4 l a k i = true ↔ (0 ≤ i ∧ i ≤ ((k.toNat : Nat) : Int) ∧ (k.toNat : Nat) ≤ 1099511627776) ∧ True ∧ decide (0 ≤ a ∧ a < (l.2.1.length : Int) ∧ 0 ≤ k ∧ k < ((G.stones l a.toNat).length : Int)) = true := by simp [G.preFormL4, preA_iff]
def G.scFormL4 (l : Lay) (a : Int) (k : Int) (i : Int) : Option (Bool × Unit) := G.scan (G.bad (fun j => !decide (G.sAt (G.stones l a.toNat) j = G.sAt (G.stones l a.toNat) k.toNat))) (k.toNat) i
noncomputable abbrev lsFormL4 : LSpec := ⟨[3, 6, 7, 8, 4], [4], [.box LayK, IntP, IntP, IntP, BoolP], [BoolP], true, fun x => G.preFormL4 x.1 x.2.1 x.2.2.1 x.2.2.2.1,
  fun x => ((G.flag 1 (G.scFormL4 x.1 x.2.1 x.2.2.1 x.2.2.2.1), G.got (G.scFormL4 x.1 x.2.1 x.2.2.1 x.2.2.2.1) (x.2.2.2.2.1, ())), (x.1, ()))⟩
noncomputable abbrev clFormL4 : Cx := mkCx T0 pg28 [(4, lsFormL4)] [] 99
theorem rFormL4 (l : Lay) (a : Int) (k : Int) (i : Int) (r : Bool) : roundK clFormL4 4 (loopIn Go.Proofs.Try.f52 4) lsFormL4 (l, a, k, i, r, ()) =
  (if Decidable.decide (i < k) = Bool.true then
    if Decidable.decide ((0 : Int) ≤ a) = Bool.true then
      if Decidable.decide (a < (↑(List.length l.2.1) : Int)) = Bool.true then
        if Decidable.decide ((0 : Int) ≤ i) = Bool.true then
          if Decidable.decide (i < (↑(List.length (List.getD l.2.1 (Int.toNat a) ([], PUnit.unit)).1) : Int)) = Bool.true then
            if Decidable.decide ((0 : Int) ≤ a) = Bool.true then
              if Decidable.decide (a < (↑(List.length l.2.1) : Int)) = Bool.true then
                if Decidable.decide ((0 : Int) ≤ k) = Bool.true then
                  if Decidable.decide (k < (↑(List.length (List.getD l.2.1 (Int.toNat a) ([], PUnit.unit)).1) : Int)) = Bool.true then
                    if
                        Go.Rx.strEq (List.getD (List.getD l.2.1 (Int.toNat a) ([], PUnit.unit)).1 (Int.toNat i) (ByteArray.empty, PUnit.unit)).1
                            (List.getD (List.getD l.2.1 (Int.toNat a) ([], PUnit.unit)).1 (Int.toNat k) (ByteArray.empty, PUnit.unit)).1 =
                          Bool.true then
                      Option.some (Go.Rx.LRes.stop (1 : Nat) (Bool.false, PUnit.unit) (l, PUnit.unit))
                    else Option.some (Go.Rx.LRes.go (l, a, k, Go.IntKind.wrap Go.IntKind.i64 (i + (1 : Int)), r, PUnit.unit))
                  else Option.none
                else Option.none
              else Option.none
            else Option.none
          else Option.none
        else Option.none
      else Option.none
    else Option.none
  else Option.some (Go.Rx.LRes.stop (0 : Nat) (r, PUnit.unit) (l, PUnit.unit))) := by kernel_rfl
noncomputable abbrev muFormL4 : PKs.den lsFormL4.ins → Nat := fun x => (x.2.2.1.toNat) - x.2.2.2.1.toNat
theorem stFormL4 (l : Lay) (a : Int) (k : Int) (i : Int) (r : Bool) (h : G.preFormL4 l a k i = true) : StepOk lsFormL4 (eqInv lsFormL4) muFormL4 (l, a, k, i, r, ()) (roundK clFormL4 4 (loopIn Go.Proofs.Try.f52 4) lsFormL4 (l, a, k, i, r, ())) := by
  obtain ⟨⟨h0, h1, h2⟩, hn, hc⟩ := preFormL4_iff.1 h
  have hlt : ((k.toNat : Nat) : Int) = k := (by have := hc; simp at this; omega)
  rw [rFormL4]
  by_cases hi : i < k
  · have hw : IntKind.i64.wrap (i + 1) = i + 1 := w64 (by omega) (by omega)
    have hs : G.scFormL4 l a k i = ((G.bad (fun j => !decide (G.sAt (G.stones l a.toNat) j = G.sAt (G.stones l a.toNat) k.toNat))) i.toNat).or (G.scFormL4 l a k (i + 1)) := scan_step h0 (by omega)
    refine scan_stop (fl := 1) (eqInv lsFormL4) muFormL4 (l, a, k, i + 1, r, ()) ((G.bad (fun j => !decide (G.sAt (G.stones l a.toNat) j = G.sAt (G.stones l a.toNat) k.toNat))) i.toNat) (l, ()) ?_ (fun ho => ⟨(show G.preFormL4 l a k (i + 1) = true from preFormL4_iff.2 ⟨⟨by omega, by omega, h2⟩, trivial, hc⟩), ?_, ?_⟩) (fun w ho => ?_)
    · obtain ⟨g1, g2, g3, g4⟩ := of_decide_eq_true hc
      have g5 : i < ((G.stones l a.toNat).length : Int) := by omega
      simp only [stones_eq, hi, h0, g1, g2, g3, g4, g5, decide_true, if_true, hw, bad_match, strEq_iff, sAt_eq]
      cases decide (G.sAt (G.stones l a.toNat) i.toNat = G.sAt (G.stones l a.toNat) k.toNat) <;> rfl
    · show (k.toNat) - (i + 1).toNat < (k.toNat) - i.toNat
      omega
    · show ((_, _), _) = ((_, _), _)
      simp only [hs, ho, Option.none_or]
    · show ((_, _), _) = ((_, _), _)
      simp only [hs, ho, Option.some_or]
      rfl
  · have hs : G.scFormL4 l a k i = none := scan_end (by omega)
    skip
    rw [if_neg (by simpa using hi)]
    show ((_, _), _) = ((_, _), _)
    simp only [hs]
    rfl
theorem lpFormL4 : LpOk Go.Proofs.Try.prog clFormL4.ntmps 4 (loopIn Go.Proofs.Try.f52 4) lsFormL4 :=
  lp_okB (cxOk T0_ok T0_eq pg28_ok) mixed (by kernel_rfl) (lps_none (by kernel_rfl)) (eqInv lsFormL4) muFormL4 (fun _ h => h) (fun x h => stFormL4 x.1 x.2.1 x.2.2.1 x.2.2.2.1 x.2.2.2.2.1 h)
/-! FormL2: a search -/
def G.preFormL2 (p : Funs) (l : Lay) (a : Int) (i : Int) : Bool := G.preA ((G.stones l a.toNat).length) i && (true && ((decide (0 ≤ a ∧ a < (l.2.1.length : Int)) && G.few p.length)))
theorem preFormL2_iff {p : Funs} {l : Lay} {a : Int} {i : Int} : G.preFormL2 p l a i = true ↔ (0 ≤ i ∧ i ≤ (((G.stones l a.toNat).length : Nat) : Int) ∧ ((G.stones l a.toNat).length : Nat) ≤ 1099511627776) ∧ True ∧ (decide (0 ≤ a ∧ a < (l.2.1.length : Int)) && G.few p.length) = true := by simp [G.preFormL2, preA_iff]
def G.scFormL2 (p : Funs) (l : Lay) (a : Int) (i : Int) : Option (Bool × Unit) := G.scan (G.bad (G.stoneOk p (G.stones l a.toNat))) ((G.stones l a.toNat).length) i
noncomputable abbrev lsFormL2 : LSpec := ⟨[0, 3, 6, 7, 4], [4], [FunSP, .box LayK, IntP, IntP, BoolP], [BoolP], true, fun x => G.preFormL2 x.1 x.2.1 x.2.2.1 x.2.2.2.1,
  fun x => ((G.flag 1 (G.scFormL2 x.1 x.2.1 x.2.2.1 x.2.2.2.1), G.got (G.scFormL2 x.1 x.2.1 x.2.2.1 x.2.2.2.1) (x.2.2.2.2.1, ())), (x.2.1, ()))⟩
noncomputable abbrev clFormL2 : Cx := mkCx T0 pg28 [(4, lsFormL4), (2, lsFormL2)] [] 99
theorem rFormL2 (p : Funs) (l : Lay) (a : Int) (i : Int) (r : Bool) : roundK clFormL2 2 (loopIn Go.Proofs.Try.f52 2) lsFormL2 (p, l, a, i, r, ()) =
  (if Decidable.decide ((0 : Int) ≤ a) = Bool.true then
    if Decidable.decide (a < (↑(List.length l.2.1) : Int)) = Bool.true then
      if Decidable.decide (i < (↑(List.length (List.getD l.2.1 (Int.toNat a) ([], PUnit.unit)).1) : Int)) = Bool.true then
        if Decidable.decide ((0 : Int) ≤ a) = Bool.true then
          if Decidable.decide (a < (↑(List.length l.2.1) : Int)) = Bool.true then
            if Decidable.decide ((0 : Int) ≤ i) = Bool.true then
              if Decidable.decide (i < (↑(List.length (List.getD l.2.1 (Int.toNat a) ([], PUnit.unit)).1) : Int)) = Bool.true then
                if Go.Rx.G.few (List.length p) = Bool.true then
                  if
                      Decidable.decide (Go.Rx.G.find p (List.getD (List.getD l.2.1 (Int.toNat a) ([], PUnit.unit)).1 (Int.toNat i) (ByteArray.empty, PUnit.unit)).1 < (0 : Int)) =
                        Bool.true then
                    Option.some (Go.Rx.LRes.stop (1 : Nat) (Bool.false, PUnit.unit) (l, PUnit.unit))
                  else
                    if Go.Rx.G.preFormL4 l a i (0 : Int) = Bool.true then
                      if Go.Rx.G.flag (1 : Nat) (Go.Rx.G.scFormL4 l a i (0 : Int)) = (0 : Nat) then
                        Option.some
                          (Go.Rx.LRes.go
                            (p, l, a, Go.IntKind.wrap Go.IntKind.i64 (i + (1 : Int)),
                              Go.Rx.G.got (Go.Rx.G.scFormL4 l a i (0 : Int)) (r, PUnit.unit)))
                      else
                        if Go.Rx.G.flag (1 : Nat) (Go.Rx.G.scFormL4 l a i (0 : Int)) = (1 : Nat) then
                          Option.some (Go.Rx.LRes.stop (1 : Nat) (Go.Rx.G.got (Go.Rx.G.scFormL4 l a i (0 : Int)) (r, PUnit.unit)) (l, PUnit.unit))
                        else
                          bif Nat.beq (Go.Rx.G.flag (1 : Nat) (Go.Rx.G.scFormL4 l a i (0 : Int)) - (2 : Nat)) (3 : Nat) then
                            Option.some
                              (Go.Rx.LRes.go
                                (p, l, a, Go.IntKind.wrap Go.IntKind.i64 (i + (1 : Int)),
                                  Go.Rx.G.got (Go.Rx.G.scFormL4 l a i (0 : Int)) (r, PUnit.unit)))
                          else
                            bif Nat.beq (Go.Rx.G.flag (1 : Nat) (Go.Rx.G.scFormL4 l a i (0 : Int)) - (2 : Nat)) (2 : Nat) then
                              Option.some (Go.Rx.LRes.stop (0 : Nat) (Go.Rx.G.got (Go.Rx.G.scFormL4 l a i (0 : Int)) (r, PUnit.unit)) (l, PUnit.unit))
                            else
                              Option.some
                                (Go.Rx.LRes.stop (Go.Rx.G.flag (1 : Nat) (Go.Rx.G.scFormL4 l a i (0 : Int)) - (2 : Nat) + (2 : Nat))
                                  (Go.Rx.G.got (Go.Rx.G.scFormL4 l a i (0 : Int)) (r, PUnit.unit)) (l, PUnit.unit))
                    else Option.none
                else Option.none
              else Option.none
            else Option.none
          else Option.none
        else Option.none
      else Option.some (Go.Rx.LRes.stop (0 : Nat) (r, PUnit.unit) (l, PUnit.unit))
    else Option.none
  else Option.none) := by kernel_rfl
noncomputable abbrev muFormL2 : PKs.den lsFormL2.ins → Nat := fun x => ((G.stones x.2.1 x.2.2.1.toNat).length) - x.2.2.2.1.toNat
theorem stFormL2 (p : Funs) (l : Lay) (a : Int) (i : Int) (r : Bool) (h : G.preFormL2 p l a i = true) : StepOk lsFormL2 (eqInv lsFormL2) muFormL2 (p, l, a, i, r, ()) (roundK clFormL2 2 (loopIn Go.Proofs.Try.f52 2) lsFormL2 (p, l, a, i, r, ())) := by
  obtain ⟨⟨h0, h1, h2⟩, hn, hc⟩ := preFormL2_iff.1 h
  rw [rFormL2]
  by_cases hi : i < (((G.stones l a.toNat).length : Nat) : Int)
  · have hw : IntKind.i64.wrap (i + 1) = i + 1 := w64 (by omega) (by omega)
    have hs : G.scFormL2 p l a i = ((G.bad (G.stoneOk p (G.stones l a.toNat))) i.toNat).or (G.scFormL2 p l a (i + 1)) := scan_step h0 (by omega)
    refine scan_stop (fl := 1) (eqInv lsFormL2) muFormL2 (p, l, a, i + 1, r, ()) ((G.bad (G.stoneOk p (G.stones l a.toNat))) i.toNat) (l, ()) ?_ (fun ho => ⟨(show G.preFormL2 p l a (i + 1) = true from preFormL2_iff.2 ⟨⟨by omega, by omega, h2⟩, trivial, hc⟩), ?_, ?_⟩) (fun w ho => ?_)
    · rw [Bool.and_eq_true] at hc
      obtain ⟨hc, g3⟩ := hc
      obtain ⟨g1, g2⟩ := of_decide_eq_true hc
      have gp : G.preFormL4 l a i 0 = true := preFormL4_iff.2 ⟨⟨by omega, by omega, by omega⟩, trivial, decide_eq_true ⟨g1, g2, h0, hi⟩⟩
      simp only [stones_eq, g1, g2, hi, h0, g3, decide_true, if_true, hw, bad_match, sAt_eq, gp]
      rw [show G.scFormL4 l a i 0 = _ from scan_bad _ _ _]
      unfold G.stoneOk G.knownAt G.newAt
      by_cases c : G.find p (G.sAt (G.stones l a.toNat) i.toNat) < 0 <;> simp only [c, decide_true, decide_false] <;> cases G.allFrom i.toNat (fun j => !decide (G.sAt (G.stones l a.toNat) j = G.sAt (G.stones l a.toNat) i.toNat)) 0 <;> rfl
    · show ((G.stones l a.toNat).length) - (i + 1).toNat < ((G.stones l a.toNat).length) - i.toNat
      omega
    · show ((_, _), _) = ((_, _), _)
      simp only [hs, ho, Option.none_or]
    · show ((_, _), _) = ((_, _), _)
      simp only [hs, ho, Option.some_or]
      rfl
  · have hs : G.scFormL2 p l a i = none := scan_end (by omega)
    rw [Bool.and_eq_true] at hc
    obtain ⟨hc, g3⟩ := hc
    obtain ⟨g1, g2⟩ := of_decide_eq_true hc
    rw [if_pos (decide_eq_true g1), if_pos (decide_eq_true g2), stones_eq]
    rw [if_neg (by simpa using hi)]
    show ((_, _), _) = ((_, _), _)
    simp only [hs]
    rfl
theorem lpFormL2 : LpOk Go.Proofs.Try.prog clFormL2.ntmps 2 (loopIn Go.Proofs.Try.f52 2) lsFormL2 :=
  lp_okB (cxOk T0_ok T0_eq pg28_ok) mixed (by kernel_rfl) (lps_of (l := [(4, loopIn Go.Proofs.Try.f52 4)]) (by kernel_rfl) ⟨lp_at lpFormL4 rfl, trivial⟩) (eqInv lsFormL2) muFormL2 (fun _ h => h) (fun x h => stFormL2 x.1 x.2.1 x.2.2.1 x.2.2.2.1 x.2.2.2.2.1 h)
def G.formPre (p : Funs) (l : Lay) : Bool := decide (l.1.length = p.length ∧ l.2.1.length = p.length) && (G.smallL l && G.thin p)
theorem formPre_iff {p : Funs} {l : Lay} : G.formPre p l = true ↔ ((l.1.length = p.length ∧ l.2.1.length = p.length) ∧ G.smallL l = true ∧ G.thin p = true) := by
  unfold G.formPre
  rw [Bool.and_eq_true, Bool.and_eq_true, decide_eq_true_iff]
/-! FormL0: a search -/
def G.preFormL0 (p : Funs) (l : Lay) (i : Int) (z : Int) : Bool := G.preA (p.length) i && (true && (decide (z = G.posn p l i.toNat) && G.formPre p l))
theorem preFormL0_iff {p : Funs} {l : Lay} {i : Int} {z : Int} : G.preFormL0 p l i z = true ↔ (0 ≤ i ∧ i ≤ ((p.length : Nat) : Int) ∧ (p.length : Nat) ≤ 1099511627776) ∧ True ∧ z = G.posn p l i.toNat ∧ G.formPre p l = true := by simp [G.preFormL0, preA_iff]
def G.scFormL0 (p : Funs) (l : Lay) (i : Int) : Option (Bool × Unit) := G.scan (G.bad (G.laidAt p l)) (p.length) i
noncomputable abbrev lsFormL0 : LSpec := ⟨[0, 3, 5, 6, 4], [4], [FunSP, .box LayK, IntP, IntP, BoolP], [BoolP], true, fun x => G.preFormL0 x.1 x.2.1 x.2.2.2.1 x.2.2.1,
  fun x => ((G.flag 1 (G.scFormL0 x.1 x.2.1 x.2.2.2.1), G.got (G.scFormL0 x.1 x.2.1 x.2.2.2.1) (x.2.2.2.2.1, ())), (x.2.1, ()))⟩
noncomputable abbrev clFormL0 : Cx := mkCx T0 pg28 [(2, lsFormL2), (0, lsFormL0)] [] 99
theorem rFormL0 (p : Funs) (l : Lay) (z : Int) (i : Int) (r : Bool) : roundK clFormL0 0 (loopIn Go.Proofs.Try.f52 0) lsFormL0 (p, l, z, i, r, ()) =
  (if Decidable.decide (i < (↑(List.length p) : Int)) = Bool.true then
    if Decidable.decide ((0 : Int) ≤ i) = Bool.true then
      if Decidable.decide (i < (↑(List.length l.1) : Int)) = Bool.true then
        if (!Decidable.decide ((List.getD l.1 (Int.toNat i) ((0 : Int), PUnit.unit)).1 = z)) = Bool.true then
          Option.some (Go.Rx.LRes.stop (1 : Nat) (Bool.false, PUnit.unit) (l, PUnit.unit))
        else
          if Go.Rx.G.preFormL2 p l i (0 : Int) = Bool.true then
            if Go.Rx.G.flag (1 : Nat) (Go.Rx.G.scFormL2 p l i (0 : Int)) = (0 : Nat) then
              if Decidable.decide ((0 : Int) ≤ i) = Bool.true then
                if Decidable.decide (i < (↑(List.length p) : Int)) = Bool.true then
                  if Decidable.decide ((0 : Int) ≤ i) = Bool.true then
                    if Decidable.decide (i < (↑(List.length l.2.1) : Int)) = Bool.true then
                      Option.some
                        (Go.Rx.LRes.go
                          (p, l,
                            Go.IntKind.wrap Go.IntKind.i64
                              (Go.IntKind.wrap Go.IntKind.i64 (z + (↑(List.length (List.getD p (Int.toNat i) (ByteArray.empty, Bool.false, [], PUnit.unit)).2.2.1) : Int)) +
                                (↑(List.length (List.getD l.2.1 (Int.toNat i) ([], PUnit.unit)).1) : Int)),
                            Go.IntKind.wrap Go.IntKind.i64 (i + (1 : Int)), Go.Rx.G.got (Go.Rx.G.scFormL2 p l i (0 : Int)) (r, PUnit.unit)))
                    else Option.none
                  else Option.none
                else Option.none
              else Option.none
            else
              if Go.Rx.G.flag (1 : Nat) (Go.Rx.G.scFormL2 p l i (0 : Int)) = (1 : Nat) then
                Option.some (Go.Rx.LRes.stop (1 : Nat) (Go.Rx.G.got (Go.Rx.G.scFormL2 p l i (0 : Int)) (r, PUnit.unit)) (l, PUnit.unit))
              else
                bif Nat.beq (Go.Rx.G.flag (1 : Nat) (Go.Rx.G.scFormL2 p l i (0 : Int)) - (2 : Nat)) (1 : Nat) then
                  Option.some
                    (Go.Rx.LRes.go
                      (p, l, z, Go.IntKind.wrap Go.IntKind.i64 (i + (1 : Int)),
                        Go.Rx.G.got (Go.Rx.G.scFormL2 p l i (0 : Int)) (r, PUnit.unit)))
                else
                  bif Nat.beq (Go.Rx.G.flag (1 : Nat) (Go.Rx.G.scFormL2 p l i (0 : Int)) - (2 : Nat)) (0 : Nat) then
                    Option.some (Go.Rx.LRes.stop (0 : Nat) (Go.Rx.G.got (Go.Rx.G.scFormL2 p l i (0 : Int)) (r, PUnit.unit)) (l, PUnit.unit))
                  else
                    Option.some
                      (Go.Rx.LRes.stop (Go.Rx.G.flag (1 : Nat) (Go.Rx.G.scFormL2 p l i (0 : Int)) - (2 : Nat) + (2 : Nat))
                        (Go.Rx.G.got (Go.Rx.G.scFormL2 p l i (0 : Int)) (r, PUnit.unit)) (l, PUnit.unit))
          else Option.none
      else Option.none
    else Option.none
  else Option.some (Go.Rx.LRes.stop (0 : Nat) (r, PUnit.unit) (l, PUnit.unit))) := by kernel_rfl
noncomputable abbrev muFormL0 : PKs.den lsFormL0.ins → Nat := fun x => (x.1.length) - x.2.2.2.1.toNat
theorem stFormL0 (p : Funs) (l : Lay) (z : Int) (i : Int) (r : Bool) (h : G.preFormL0 p l i z = true) : StepOk lsFormL0 (eqInv lsFormL0) muFormL0 (p, l, z, i, r, ()) (roundK clFormL0 0 (loopIn Go.Proofs.Try.f52 0) lsFormL0 (p, l, z, i, r, ())) := by
  obtain ⟨⟨h0, h1, h2⟩, hn, hv0, hc⟩ := preFormL0_iff.1 h
  subst hv0
  rw [rFormL0]
  by_cases hi : i < ((p.length : Nat) : Int)
  · have hw : IntKind.i64.wrap (i + 1) = i + 1 := w64 (by omega) (by omega)
    have hs : G.scFormL0 p l i = ((G.bad (G.laidAt p l)) i.toNat).or (G.scFormL0 p l (i + 1)) := scan_step h0 (by omega)
    refine scan_stop (fl := 1) (eqInv lsFormL0) muFormL0 (p, l, (G.posn p l (i + 1).toNat), i + 1, r, ()) ((G.bad (G.laidAt p l)) i.toNat) (l, ()) ?_ (fun ho => ⟨(show G.preFormL0 p l (i + 1) (G.posn p l (i + 1).toNat) = true from preFormL0_iff.2 ⟨⟨by omega, by omega, h2⟩, trivial, rfl, hc⟩), ?_, ?_⟩) (fun w ho => ?_)
    · obtain ⟨⟨g1, g2⟩, g3, g4⟩ := formPre_iff.1 hc
      have g5 := posn_bd (smallL_iff.1 g3).2 (thin_iff.1 g4).2 i.toNat (by omega)
      have g6 := (smallL_iff.1 g3).2 i.toNat
      have g7 := (thin_iff.1 g4).2 i.toNat (by omega)
      have g8 := (thin_iff.1 g4).1
      have hi1 : i < (l.1.length : Int) := by omega
      have hi2 : i < (l.2.1.length : Int) := by omega
      rw [posn_succ p l h0]
      have gp : G.preFormL2 p l i 0 = true := preFormL2_iff.2 ⟨⟨by omega, by omega, by omega⟩, trivial, by rw [Bool.and_eq_true]; exact ⟨decide_eq_true ⟨h0, hi2⟩, few_iff.2 h2⟩⟩
      have w1 : IntKind.i64.wrap (G.posn p l i.toNat + ((G.pAt p i.toNat).2.2.1.length : Int)) = G.posn p l i.toNat + ((G.pAt p i.toNat).2.2.1.length : Int) := w64 (by omega) (by omega)
      have w2 : IntKind.i64.wrap (G.posn p l i.toNat + ((G.pAt p i.toNat).2.2.1.length : Int) + ((G.stones l i.toNat).length : Int)) = G.posn p l i.toNat + G.partLen p l i.toNat := by rw [w64 (by omega) (by omega)]; unfold G.partLen; omega
      simp only [atOf_eq, pAt_eq, stones_eq, hi, h0, hi1, hi2, decide_true, if_true, hw, w1, w2, gp, bad_match]
      rw [show G.scFormL2 p l i 0 = _ from scan_bad _ _ _]
      unfold G.laidAt G.stonesOk
      by_cases c : G.atOf l i.toNat = G.posn p l i.toNat <;> simp only [c, eq_self, decide_true, decide_false] <;> cases G.allFrom (G.stones l i.toNat).length (G.stoneOk p (G.stones l i.toNat)) 0 <;> rfl
    · show (p.length) - (i + 1).toNat < (p.length) - i.toNat
      omega
    · show ((_, _), _) = ((_, _), _)
      simp only [hs, ho, Option.none_or]
    · show ((_, _), _) = ((_, _), _)
      simp only [hs, ho, Option.some_or]
      rfl
  · have hs : G.scFormL0 p l i = none := scan_end (by omega)
    skip
    rw [if_neg (by simpa using hi)]
    show ((_, _), _) = ((_, _), _)
    simp only [hs]
    rfl
theorem lpFormL0 : LpOk Go.Proofs.Try.prog clFormL0.ntmps 0 (loopIn Go.Proofs.Try.f52 0) lsFormL0 :=
  lp_okB (cxOk T0_ok T0_eq pg28_ok) mixed (by kernel_rfl) (lps_of (l := [(2, loopIn Go.Proofs.Try.f52 2)]) (by kernel_rfl) ⟨lp_at lpFormL2 rfl, trivial⟩) (eqInv lsFormL0) muFormL0 (fun _ h => h) (fun x h => stFormL0 x.1 x.2.1 x.2.2.1 x.2.2.2.1 x.2.2.2.2.1 h)
/-! LaidL2: a search -/
def G.preLaidL2 (p : Funs) (l : Lay) (a : Int) (s : Strs) (n : Int) (i : Int) : Bool := G.preA (s.length) i && (decide (n = ((s.length : Nat) : Int)) && ((decide (s = G.stones l a.toNat) && (decide (0 ≤ a ∧ a < (l.2.1.length : Int)) && G.few p.length))))
theorem preLaidL2_iff {p : Funs} {l : Lay} {a : Int} {s : Strs} {n : Int} {i : Int} : G.preLaidL2 p l a s n i = true ↔ (0 ≤ i ∧ i ≤ ((s.length : Nat) : Int) ∧ (s.length : Nat) ≤ 1099511627776) ∧ n = ((s.length : Nat) : Int) ∧ (decide (s = G.stones l a.toNat) && (decide (0 ≤ a ∧ a < (l.2.1.length : Int)) && G.few p.length)) = true := by simp [G.preLaidL2, preA_iff]
def G.scLaidL2 (p : Funs) (l : Lay) (a : Int) (s : Strs) (i : Int) : Option (Bool × Unit) := G.scan (G.bad (G.stoneOk p s)) (s.length) i
noncomputable abbrev lsLaidL2 : LSpec := ⟨[0, 3, 6, 47, 48, 49, 4], [4], [FunSP, .box LayK, IntP, StrSP, IntP, IntP, BoolP], [BoolP], true, fun x => G.preLaidL2 x.1 x.2.1 x.2.2.1 x.2.2.2.1 x.2.2.2.2.1 x.2.2.2.2.2.1,
  fun x => ((G.flag 1 (G.scLaidL2 x.1 x.2.1 x.2.2.1 x.2.2.2.1 x.2.2.2.2.2.1), G.got (G.scLaidL2 x.1 x.2.1 x.2.2.1 x.2.2.2.1 x.2.2.2.2.2.1) (x.2.2.2.2.2.2.1, ())), (x.2.1, ()))⟩
noncomputable abbrev clLaidL2 : Cx := mkCx T0 pg28 [(2, lsLaidL2)] [] 83
theorem rLaidL2 (p : Funs) (l : Lay) (a : Int) (s : Strs) (n : Int) (i : Int) (r : Bool) : roundK clLaidL2 2 (loopIn Go.Proofs.Try.f55 2) lsLaidL2 (p, l, a, s, n, i, r, ()) =
  (if Decidable.decide (i < n) = Bool.true then
    if Decidable.decide ((0 : Int) ≤ i) = Bool.true then
      if Decidable.decide (i < (↑(List.length s) : Int)) = Bool.true then
        if Go.Rx.G.few (List.length p) = Bool.true then
          if Decidable.decide (Go.Rx.G.find p (List.getD s (Int.toNat i) (ByteArray.empty, PUnit.unit)).1 < (0 : Int)) = Bool.false then
            if Decidable.decide ((0 : Int) ≤ a) = Bool.true then
              if Decidable.decide (a < (↑(List.length l.2.1) : Int)) = Bool.true then
                if Decidable.decide ((0 : Int) ≤ i) = Bool.true then
                  if Decidable.decide (i ≤ (↑(List.length (List.getD l.2.1 (Int.toNat a) ([], PUnit.unit)).1) : Int)) = Bool.true then
                    if Decidable.decide ((0 : Int) ≤ (0 : Int)) = Bool.true then
                      if Decidable.decide ((0 : Int) ≤ i) = Bool.true then
                        if Go.Rx.G.few (List.length (List.drop (Int.toNat (0 : Int)) (List.take (Int.toNat i) (List.getD l.2.1 (Int.toNat a) ([], PUnit.unit)).1))) = Bool.true then
                          if
                              Go.Rx.G.hasS (List.drop (Int.toNat (0 : Int)) (List.take (Int.toNat i) (List.getD l.2.1 (Int.toNat a) ([], PUnit.unit)).1))
                                  (List.getD s (Int.toNat i) (ByteArray.empty, PUnit.unit)).1 =
                                Bool.true then
                            Option.some (Go.Rx.LRes.stop (1 : Nat) (Bool.false, PUnit.unit) (l, PUnit.unit))
                          else Option.some (Go.Rx.LRes.go (p, l, a, s, n, Go.IntKind.wrap Go.IntKind.i64 (i + (1 : Int)), r, PUnit.unit))
                        else Option.none
                      else Option.none
                    else Option.none
                  else Option.none
                else Option.none
              else Option.none
            else Option.none
          else Option.some (Go.Rx.LRes.stop (1 : Nat) (Bool.false, PUnit.unit) (l, PUnit.unit))
        else Option.none
      else Option.none
    else Option.none
  else Option.some (Go.Rx.LRes.stop (0 : Nat) (r, PUnit.unit) (l, PUnit.unit))) := by kernel_rfl
noncomputable abbrev muLaidL2 : PKs.den lsLaidL2.ins → Nat := fun x => (x.2.2.2.1.length) - x.2.2.2.2.2.1.toNat
theorem stLaidL2 (p : Funs) (l : Lay) (a : Int) (s : Strs) (n : Int) (i : Int) (r : Bool) (h : G.preLaidL2 p l a s n i = true) : StepOk lsLaidL2 (eqInv lsLaidL2) muLaidL2 (p, l, a, s, n, i, r, ()) (roundK clLaidL2 2 (loopIn Go.Proofs.Try.f55 2) lsLaidL2 (p, l, a, s, n, i, r, ())) := by
  obtain ⟨⟨h0, h1, h2⟩, hn, hc⟩ := preLaidL2_iff.1 h
  subst hn
  rw [rLaidL2]
  by_cases hi : i < ((s.length : Nat) : Int)
  · have hw : IntKind.i64.wrap (i + 1) = i + 1 := w64 (by omega) (by omega)
    have hs : G.scLaidL2 p l a s i = ((G.bad (G.stoneOk p s)) i.toNat).or (G.scLaidL2 p l a s (i + 1)) := scan_step h0 (by omega)
    refine scan_stop (fl := 1) (eqInv lsLaidL2) muLaidL2 (p, l, a, s, ((s.length : Nat) : Int), i + 1, r, ()) ((G.bad (G.stoneOk p s)) i.toNat) (l, ()) ?_ (fun ho => ⟨(show G.preLaidL2 p l a s ((s.length : Nat) : Int) (i + 1) = true from preLaidL2_iff.2 ⟨⟨by omega, by omega, h2⟩, rfl, hc⟩), ?_, ?_⟩) (fun w ho => ?_)
    · rw [Bool.and_eq_true, Bool.and_eq_true, decide_eq_true_iff, decide_eq_true_iff] at hc
      obtain ⟨g0, ⟨g1, g2⟩, g3⟩ := hc
      have g4 : i ≤ (s.length : Int) := by omega
      have g5 : G.few (List.take i.toNat s).length = true := few_iff.2 (by rw [List.length_take]; omega)
      simp only [stones_eq, ← g0, g1, g2, hi, h0, g3, g4, show (0 : Int) ≤ 0 from Int.le_refl 0, show List.drop (Int.toNat 0) (List.take i.toNat s) = List.take i.toNat s from rfl, g5, decide_true, if_true, hw, bad_match, sAt_eq, hasS_take s (show i.toNat < s.length by omega)]
      unfold G.stoneOk G.knownAt
      by_cases c : G.find p (G.sAt s i.toNat) < 0 <;> simp only [c, decide_true, decide_false] <;> cases G.newAt s i.toNat <;> rfl
    · show (s.length) - (i + 1).toNat < (s.length) - i.toNat
      omega
    · show ((_, _), _) = ((_, _), _)
      simp only [hs, ho, Option.none_or]
    · show ((_, _), _) = ((_, _), _)
      simp only [hs, ho, Option.some_or]
      rfl
  · have hs : G.scLaidL2 p l a s i = none := scan_end (by omega)
    skip
    rw [if_neg (by simpa using hi)]
    show ((_, _), _) = ((_, _), _)
    simp only [hs]
    rfl
theorem lpLaidL2 : LpOk Go.Proofs.Try.prog clLaidL2.ntmps 2 (loopIn Go.Proofs.Try.f55 2) lsLaidL2 :=
  lp_okB (cxOk T0_ok T0_eq pg28_ok) mixed (by kernel_rfl) (lps_none (by kernel_rfl)) (eqInv lsLaidL2) muLaidL2 (fun _ h => h) (fun x h => stLaidL2 x.1 x.2.1 x.2.2.1 x.2.2.2.1 x.2.2.2.2.1 x.2.2.2.2.2.1 x.2.2.2.2.2.2.1 h)
/-! LaidL0: a search -/
def G.preLaidL0 (p : Funs) (l : Lay) (q : Funs) (n : Int) (i : Int) (z : Int) : Bool := G.preA (p.length) i && (decide (n = ((p.length : Nat) : Int)) && (decide (z = G.posn p l i.toNat) && (decide (q = p) && G.formPre p l)))
theorem preLaidL0_iff {p : Funs} {l : Lay} {q : Funs} {n : Int} {i : Int} {z : Int} : G.preLaidL0 p l q n i z = true ↔ (0 ≤ i ∧ i ≤ ((p.length : Nat) : Int) ∧ (p.length : Nat) ≤ 1099511627776) ∧ n = ((p.length : Nat) : Int) ∧ z = G.posn p l i.toNat ∧ (decide (q = p) && G.formPre p l) = true := by simp [G.preLaidL0, preA_iff]
def G.scLaidL0 (p : Funs) (l : Lay) (q : Funs) (i : Int) : Option (Bool × Unit) := G.scan (G.bad (G.laidAt p l)) (p.length) i
noncomputable abbrev lsLaidL0 : LSpec := ⟨[0, 3, 5, 29, 30, 31, 4], [4], [FunSP, .box LayK, IntP, FunSP, IntP, IntP, BoolP], [BoolP], true, fun x => G.preLaidL0 x.1 x.2.1 x.2.2.2.1 x.2.2.2.2.1 x.2.2.2.2.2.1 x.2.2.1,
  fun x => ((G.flag 1 (G.scLaidL0 x.1 x.2.1 x.2.2.2.1 x.2.2.2.2.2.1), G.got (G.scLaidL0 x.1 x.2.1 x.2.2.2.1 x.2.2.2.2.2.1) (x.2.2.2.2.2.2.1, ())), (x.2.1, ()))⟩
noncomputable abbrev clLaidL0 : Cx := mkCx T0 pg28 [(2, lsLaidL2), (0, lsLaidL0)] [] 83
theorem rLaidL0 (p : Funs) (l : Lay) (z : Int) (q : Funs) (n : Int) (i : Int) (r : Bool) : roundK clLaidL0 0 (loopIn Go.Proofs.Try.f55 0) lsLaidL0 (p, l, z, q, n, i, r, ()) =
  (if Decidable.decide (i < n) = Bool.true then
    if Decidable.decide ((0 : Int) ≤ i) = Bool.true then
      if Decidable.decide (i < (↑(List.length q) : Int)) = Bool.true then
        if Decidable.decide ((0 : Int) ≤ i) = Bool.true then
          if Decidable.decide (i < (↑(List.length l.1) : Int)) = Bool.true then
            if (!Decidable.decide ((List.getD l.1 (Int.toNat i) ((0 : Int), PUnit.unit)).1 = z)) = Bool.true then
              Option.some (Go.Rx.LRes.stop (1 : Nat) (Bool.false, PUnit.unit) (l, PUnit.unit))
            else
              if Decidable.decide ((0 : Int) ≤ i) = Bool.true then
                if Decidable.decide (i < (↑(List.length l.2.1) : Int)) = Bool.true then
                  if
                      Go.Rx.G.preLaidL2 p l i (List.getD l.2.1 (Int.toNat i) ([], PUnit.unit)).1
                          (↑(List.length (List.getD l.2.1 (Int.toNat i) ([], PUnit.unit)).1) : Int) (0 : Int) =
                        Bool.true then
                    if Go.Rx.G.flag (1 : Nat) (Go.Rx.G.scLaidL2 p l i (List.getD l.2.1 (Int.toNat i) ([], PUnit.unit)).1 (0 : Int)) = (0 : Nat) then
                      if Decidable.decide ((0 : Int) ≤ i) = Bool.true then
                        if Decidable.decide (i < (↑(List.length l.2.1) : Int)) = Bool.true then
                          Option.some
                            (Go.Rx.LRes.go
                              (p, l,
                                Go.IntKind.wrap Go.IntKind.i64
                                  (z +
                                    Go.IntKind.wrap Go.IntKind.i64
                                      ((↑(List.length (List.getD q (Int.toNat i) (ByteArray.empty, Bool.false, [], PUnit.unit)).2.2.1) : Int) +
                                        (↑(List.length (List.getD l.2.1 (Int.toNat i) ([], PUnit.unit)).1) : Int))),
                                q, n, Go.IntKind.wrap Go.IntKind.i64 (i + (1 : Int)),
                                Go.Rx.G.got (Go.Rx.G.scLaidL2 p l i (List.getD l.2.1 (Int.toNat i) ([], PUnit.unit)).1 (0 : Int)) (r, PUnit.unit)))
                        else Option.none
                      else Option.none
                    else
                      if Go.Rx.G.flag (1 : Nat) (Go.Rx.G.scLaidL2 p l i (List.getD l.2.1 (Int.toNat i) ([], PUnit.unit)).1 (0 : Int)) = (1 : Nat) then
                        Option.some
                          (Go.Rx.LRes.stop (1 : Nat)
                            (Go.Rx.G.got (Go.Rx.G.scLaidL2 p l i (List.getD l.2.1 (Int.toNat i) ([], PUnit.unit)).1 (0 : Int)) (r, PUnit.unit))
                            (l, PUnit.unit))
                      else
                        bif
                            Nat.beq (Go.Rx.G.flag (1 : Nat) (Go.Rx.G.scLaidL2 p l i (List.getD l.2.1 (Int.toNat i) ([], PUnit.unit)).1 (0 : Int)) - (2 : Nat))
                              (1 : Nat) then
                          Option.some
                            (Go.Rx.LRes.go
                              (p, l, z, q, n, Go.IntKind.wrap Go.IntKind.i64 (i + (1 : Int)),
                                Go.Rx.G.got (Go.Rx.G.scLaidL2 p l i (List.getD l.2.1 (Int.toNat i) ([], PUnit.unit)).1 (0 : Int)) (r, PUnit.unit)))
                        else
                          bif
                              Nat.beq (Go.Rx.G.flag (1 : Nat) (Go.Rx.G.scLaidL2 p l i (List.getD l.2.1 (Int.toNat i) ([], PUnit.unit)).1 (0 : Int)) - (2 : Nat))
                                (0 : Nat) then
                            Option.some
                              (Go.Rx.LRes.stop (0 : Nat)
                                (Go.Rx.G.got (Go.Rx.G.scLaidL2 p l i (List.getD l.2.1 (Int.toNat i) ([], PUnit.unit)).1 (0 : Int)) (r, PUnit.unit))
                                (l, PUnit.unit))
                          else
                            Option.some
                              (Go.Rx.LRes.stop
                                (Go.Rx.G.flag (1 : Nat) (Go.Rx.G.scLaidL2 p l i (List.getD l.2.1 (Int.toNat i) ([], PUnit.unit)).1 (0 : Int)) - (2 : Nat) + (2 : Nat))
                                (Go.Rx.G.got (Go.Rx.G.scLaidL2 p l i (List.getD l.2.1 (Int.toNat i) ([], PUnit.unit)).1 (0 : Int)) (r, PUnit.unit))
                                (l, PUnit.unit))
                  else Option.none
                else Option.none
              else Option.none
          else Option.none
        else Option.none
      else Option.none
    else Option.none
  else Option.some (Go.Rx.LRes.stop (0 : Nat) (r, PUnit.unit) (l, PUnit.unit))) := by kernel_rfl
noncomputable abbrev muLaidL0 : PKs.den lsLaidL0.ins → Nat := fun x => (x.1.length) - x.2.2.2.2.2.1.toNat
theorem stLaidL0 (p : Funs) (l : Lay) (z : Int) (q : Funs) (n : Int) (i : Int) (r : Bool) (h : G.preLaidL0 p l q n i z = true) : StepOk lsLaidL0 (eqInv lsLaidL0) muLaidL0 (p, l, z, q, n, i, r, ()) (roundK clLaidL0 0 (loopIn Go.Proofs.Try.f55 0) lsLaidL0 (p, l, z, q, n, i, r, ())) := by
  obtain ⟨⟨h0, h1, h2⟩, hn, hv0, hc⟩ := preLaidL0_iff.1 h
  subst hn
  subst hv0
  rw [rLaidL0]
  by_cases hi : i < ((p.length : Nat) : Int)
  · have hw : IntKind.i64.wrap (i + 1) = i + 1 := w64 (by omega) (by omega)
    have hs : G.scLaidL0 p l q i = ((G.bad (G.laidAt p l)) i.toNat).or (G.scLaidL0 p l q (i + 1)) := scan_step h0 (by omega)
    refine scan_stop (fl := 1) (eqInv lsLaidL0) muLaidL0 (p, l, (G.posn p l (i + 1).toNat), q, ((p.length : Nat) : Int), i + 1, r, ()) ((G.bad (G.laidAt p l)) i.toNat) (l, ()) ?_ (fun ho => ⟨(show G.preLaidL0 p l q ((p.length : Nat) : Int) (i + 1) (G.posn p l (i + 1).toNat) = true from preLaidL0_iff.2 ⟨⟨by omega, by omega, h2⟩, rfl, rfl, hc⟩), ?_, ?_⟩) (fun w ho => ?_)
    · rw [Bool.and_eq_true, decide_eq_true_iff] at hc
      obtain ⟨rfl, hc⟩ := hc
      obtain ⟨⟨g1, g2⟩, g3, g4⟩ := formPre_iff.1 hc
      have g5 := posn_bd (smallL_iff.1 g3).2 (thin_iff.1 g4).2 i.toNat (by omega)
      have g6 := (smallL_iff.1 g3).2 i.toNat
      have g7 := (thin_iff.1 g4).2 i.toNat (by omega)
      have g8 := (thin_iff.1 g4).1
      have hi1 : i < (l.1.length : Int) := by omega
      have hi2 : i < (l.2.1.length : Int) := by omega
      rw [posn_succ q l h0]
      have gp : G.preLaidL2 q l i (G.stones l i.toNat) ((G.stones l i.toNat).length : Int) 0 = true := preLaidL2_iff.2 ⟨⟨by omega, by omega, by omega⟩, rfl, by rw [Bool.and_eq_true, Bool.and_eq_true]; exact ⟨decide_eq_true rfl, decide_eq_true ⟨h0, hi2⟩, few_iff.2 h2⟩⟩
      have w1 : IntKind.i64.wrap (((G.pAt q i.toNat).2.2.1.length : Int) + ((G.stones l i.toNat).length : Int)) = G.partLen q l i.toNat := w64 (by omega) (by omega)
      have w2 : IntKind.i64.wrap (G.posn q l i.toNat + G.partLen q l i.toNat) = G.posn q l i.toNat + G.partLen q l i.toNat := w64 (by unfold G.partLen; omega) (by unfold G.partLen; omega)
      simp only [atOf_eq, pAt_eq, stones_eq, hi, h0, hi1, hi2, decide_true, if_true, hw, w1, w2, gp, bad_match]
      rw [show G.scLaidL2 q l i (G.stones l i.toNat) 0 = _ from scan_bad _ _ _]
      unfold G.laidAt G.stonesOk
      by_cases c : G.atOf l i.toNat = G.posn q l i.toNat <;> simp only [c, eq_self, decide_true, decide_false] <;> cases G.allFrom (G.stones l i.toNat).length (G.stoneOk q (G.stones l i.toNat)) 0 <;> rfl
    · show (p.length) - (i + 1).toNat < (p.length) - i.toNat
      omega
    · show ((_, _), _) = ((_, _), _)
      simp only [hs, ho, Option.none_or]
    · show ((_, _), _) = ((_, _), _)
      simp only [hs, ho, Option.some_or]
      rfl
  · have hs : G.scLaidL0 p l q i = none := scan_end (by omega)
    skip
    rw [if_neg (by simpa using hi)]
    show ((_, _), _) = ((_, _), _)
    simp only [hs]
    rfl
theorem lpLaidL0 : LpOk Go.Proofs.Try.prog clLaidL0.ntmps 0 (loopIn Go.Proofs.Try.f55 0) lsLaidL0 :=
  lp_okB (cxOk T0_ok T0_eq pg28_ok) mixed (by kernel_rfl) (lps_of (l := [(2, loopIn Go.Proofs.Try.f55 2)]) (by kernel_rfl) ⟨lp_at lpLaidL2 rfl, trivial⟩) (eqInv lsLaidL0) muLaidL0 (fun _ h => h) (fun x h => stLaidL0 x.1 x.2.1 x.2.2.1 x.2.2.2.1 x.2.2.2.2.1 x.2.2.2.2.2.1 x.2.2.2.2.2.2.1 h)
/-! Form -/
noncomputable abbrev spForm : Spec := ⟨[FunSP, LayP], BoolR, false, fun x => G.smallP x.1 && G.smallL x.2.1, fun x => (G.laid x.1 x.2.1, ())⟩
noncomputable abbrev cxForm : Cx := mkCx T0 pg28 [(0, lsFormL0)] [] 99
theorem eForm (p : Funs) (l : Lay) : funK cxForm Go.Proofs.Try.f52 spForm.ins spForm.out (p, l, ()) =
  (if Go.Rx.G.smallP p = Bool.true then
    if (!Go.Rx.G.keepOk p) = Bool.false then
      if (!Decidable.decide ((↑(List.length l.1) : Int) = (↑(List.length p) : Int))) = Bool.false then
        if (!Decidable.decide ((↑(List.length l.2.1) : Int) = (↑(List.length p) : Int))) = Bool.true then Option.some (Bool.false, PUnit.unit)
        else
          if Go.Rx.G.preFormL0 p l (0 : Int) (0 : Int) = Bool.true then
            if Go.Rx.G.flag (1 : Nat) (Go.Rx.G.scFormL0 p l (0 : Int)) = (0 : Nat) then Option.some (Bool.true, PUnit.unit)
            else if Go.Rx.G.flag (1 : Nat) (Go.Rx.G.scFormL0 p l (0 : Int)) = (1 : Nat) then Option.some (Go.Rx.G.got (Go.Rx.G.scFormL0 p l (0 : Int)) (Bool.false, PUnit.unit)) else Option.none
          else Option.none
      else Option.some (Bool.false, PUnit.unit)
    else Option.some (Bool.false, PUnit.unit)
  else Option.none) := by kernel_rfl
/-! Laid -/
noncomputable abbrev spLaid : Spec := ⟨[FunSP, LayP], BoolR, false, fun x => G.smallP x.1 && G.smallL x.2.1, fun x => (G.laid x.1 x.2.1, ())⟩
noncomputable abbrev cxLaid : Cx := mkCx T0 pg28 [(0, lsLaidL0)] [] 83
theorem eLaid (p : Funs) (l : Lay) : funK cxLaid Go.Proofs.Try.f55 spLaid.ins spLaid.out (p, l, ()) =
  (if Go.Rx.G.smallP p = Bool.true then
    if (!Go.Rx.G.keepOk p) = Bool.false then
      if (!Decidable.decide ((↑(List.length l.1) : Int) = (↑(List.length p) : Int))) = Bool.false then
        if (!Decidable.decide ((↑(List.length l.2.1) : Int) = (↑(List.length p) : Int))) = Bool.true then Option.some (Bool.false, PUnit.unit)
        else
          if Go.Rx.G.preLaidL0 p l p (↑(List.length p) : Int) (0 : Int) (0 : Int) = Bool.true then
            if Go.Rx.G.flag (1 : Nat) (Go.Rx.G.scLaidL0 p l p (0 : Int)) = (0 : Nat) then Option.some (Bool.true, PUnit.unit)
            else
              if Go.Rx.G.flag (1 : Nat) (Go.Rx.G.scLaidL0 p l p (0 : Int)) = (1 : Nat) then
                Option.some (Go.Rx.G.got (Go.Rx.G.scLaidL0 p l p (0 : Int)) (Bool.false, PUnit.unit))
              else Option.none
          else Option.none
      else Option.some (Bool.false, PUnit.unit)
    else Option.some (Bool.false, PUnit.unit)
  else Option.none) := by kernel_rfl
theorem someT {a b : Bool} (h : a = b) : (some (a, ()) : Option (Bool × Unit)) = some (b, ()) := by rw [h]
theorem keepOk_len {p : Funs} (h : G.keepOk p = true) : 1 ≤ p.length ∧ p.length ≤ 40 ∧ G.funsOk p = true ∧ G.closed p = true := by
  unfold G.keepOk at h
  rw [Bool.and_eq_true, Bool.and_eq_true, decide_eq_true_iff] at h
  exact ⟨h.1.1, h.1.2, h.2.1, h.2.2⟩
theorem keepOk_thin {p : Funs} (h : G.keepOk p = true) : G.thin p = true := by
  obtain ⟨h1, h2, h3, _⟩ := keepOk_len h
  exact funsOk_thin (by omega) h3
theorem sfForm (p : Funs) (l : Lay) (h : (G.smallP p && G.smallL l) = true) : funK cxForm Go.Proofs.Try.f52 spForm.ins spForm.out (p, l, ()) = some (G.laid p l, ()) := by
  rw [Bool.and_eq_true] at h
  obtain ⟨h1, h2⟩ := h
  have h3 := (smallP_iff.1 h1).1
  rw [eForm, if_pos h1]
  unfold G.laid
  cases hk : G.keepOk p with
  | false => rfl
  | true =>
    rw [if_pos (show (!true) = false from rfl), Bool.true_and]
    by_cases c1 : l.1.length = p.length
    · rw [if_pos (by simp [c1]), decide_eq_true c1, Bool.true_and]
      by_cases c2 : l.2.1.length = p.length
      · rw [if_neg (by simp [c2]), decide_eq_true c2, Bool.true_and]
        rw [if_pos (show G.preFormL0 p l 0 0 = true from preFormL0_iff.2 ⟨⟨by omega, by omega, h3⟩, trivial, rfl, formPre_iff.2 ⟨⟨c1, c2⟩, h2, keepOk_thin hk⟩⟩), show G.scFormL0 p l 0 = _ from scan_bad _ _ _]
        cases G.allFrom p.length (G.laidAt p l) 0 <;> rfl
      · rw [if_pos (by simp; omega), decide_eq_false c2]
        rfl
    · rw [if_neg (by simp; omega), decide_eq_false c1]
      rfl
theorem okForm : SpecOk Go.Proofs.Try.prog 52 spForm :=
  fun_okB (cx := cxForm) (F := Go.Proofs.Try.f52) (cxOk T0_ok T0_eq pg28_ok) mixed (by kernel_rfl) (by decide) (by kernel_rfl) (lps_of (l := [(0, loopIn Go.Proofs.Try.f52 0)]) (by kernel_rfl) ⟨lp_at lpFormL0 rfl, trivial⟩) (fun x h => sfForm x.1 x.2.1 h)
theorem sfLaid (p : Funs) (l : Lay) (h : (G.smallP p && G.smallL l) = true) : funK cxLaid Go.Proofs.Try.f55 spLaid.ins spLaid.out (p, l, ()) = some (G.laid p l, ()) := by
  rw [Bool.and_eq_true] at h
  obtain ⟨h1, h2⟩ := h
  have h3 := (smallP_iff.1 h1).1
  rw [eLaid, if_pos h1]
  unfold G.laid
  cases hk : G.keepOk p with
  | false => rfl
  | true =>
    rw [if_pos (show (!true) = false from rfl), Bool.true_and]
    by_cases c1 : l.1.length = p.length
    · rw [if_pos (by simp [c1]), decide_eq_true c1, Bool.true_and]
      by_cases c2 : l.2.1.length = p.length
      · rw [if_neg (by simp [c2]), decide_eq_true c2, Bool.true_and]
        rw [if_pos (show G.preLaidL0 p l p (p.length : Int) 0 0 = true from preLaidL0_iff.2 ⟨⟨by omega, by omega, h3⟩, rfl, rfl, by rw [Bool.and_eq_true, decide_eq_true_iff]; exact ⟨rfl, formPre_iff.2 ⟨⟨c1, c2⟩, h2, keepOk_thin hk⟩⟩⟩), show G.scLaidL0 p l p 0 = _ from scan_bad _ _ _]
        cases G.allFrom p.length (G.laidAt p l) 0 <;> rfl
      · rw [if_pos (by simp; omega), decide_eq_false c2]
        rfl
    · rw [if_neg (by simp; omega), decide_eq_false c1]
      rfl
theorem okLaid : SpecOk Go.Proofs.Try.prog 55 spLaid :=
  fun_okB (cx := cxLaid) (F := Go.Proofs.Try.f55) (cxOk T0_ok T0_eq pg28_ok) mixed (by kernel_rfl) (by decide) (by kernel_rfl) (lps_of (l := [(0, loopIn Go.Proofs.Try.f55 0)]) (by kernel_rfl) ⟨lp_at lpLaidL0 rfl, trivial⟩) (fun x h => sfLaid x.1 x.2.1 h)
noncomputable abbrev pg29 : List (Nat × List Spec) := (52, [spForm]) :: (55, [spLaid]) :: pg28
theorem pg29_ok : PhiOk Go.Proofs.Try.prog pg29 := ⟨⟨okForm, trivial⟩, ⟨okLaid, trivial⟩, pg28_ok⟩
/-! how much is taken -/
def G.layOkP (p : Funs) (l : Lay) : Bool := G.smallP p && (G.smallL l && G.laid p l)
theorem layOkP_iff {p : Funs} {l : Lay} : G.layOkP p l = true ↔ (G.smallP p = true ∧ G.smallL l = true ∧ G.laid p l = true) := by
  unfold G.layOkP
  rw [Bool.and_eq_true, Bool.and_eq_true]
theorem laid_iff {p : Funs} {l : Lay} : G.laid p l = true ↔ (G.keepOk p = true ∧ l.1.length = p.length ∧ l.2.1.length = p.length ∧ ∀ k, k < p.length → G.atOf l k = G.posn p l k ∧ G.stonesOk p (G.stones l k) = true) := by
  unfold G.laid
  rw [Bool.and_eq_true, Bool.and_eq_true, Bool.and_eq_true, decide_eq_true_iff, decide_eq_true_iff, allFrom_zero]
  simp only [G.laidAt, Bool.and_eq_true, decide_eq_true_iff]
/-- What is laid, in bounds. -/
theorem laid_bd {p : Funs} {l : Lay} (hs : G.smallL l = true) (h : G.laid p l = true) : (1 ≤ p.length ∧ p.length ≤ 40 ∧ l.1.length = p.length ∧ l.2.1.length = p.length) ∧
    ∀ k, k < p.length → G.atOf l k = G.posn p l k ∧ 0 ≤ G.posn p l k ∧ G.posn p l k ≤ 42000000 ∧ (G.pAt p k).2.2.1.length ≤ 16 ∧ (G.stones l k).length ≤ 1048576 := by
  obtain ⟨h1, h2, h3, h4⟩ := laid_iff.1 h
  obtain ⟨k1, k2, _, _⟩ := keepOk_len h1
  have ht := thin_iff.1 (keepOk_thin h1)
  have hl := (smallL_iff.1 hs).2
  refine ⟨⟨k1, k2, h2, h3⟩, fun k hk => ⟨(h4 k hk).1, (posn_bd hl ht.2 k (by omega)).1, ?_, ht.2 k hk, hl k⟩⟩
  have := (posn_bd hl ht.2 k (by omega)).2
  omega
def G.sizeL (p : Funs) (l : Lay) : Int := G.atOf l (p.length - 1) + G.partLen p l (p.length - 1)
def G.laySize (p : Funs) (l : Lay) : Int := if G.laid p l = true then G.sizeL p l else 0
/-! SpSize -/
noncomputable abbrev spSpSize : Spec := ⟨[FunSP, LayP], IntR, false, fun x => G.smallP x.1 && G.smallL x.2.1, fun x => (G.laySize x.1 x.2.1, ())⟩
noncomputable abbrev cxSpSize : Cx := mkCx T0 pg29 [] [] 32
theorem eSpSize (p : Funs) (l : Lay) : funK cxSpSize Go.Proofs.Try.f21 spSpSize.ins spSpSize.out (p, l, ()) =
  (if (Go.Rx.G.smallP p && Go.Rx.G.smallL l) = Bool.true then
    if (!Go.Rx.G.laid p l) = Bool.true then Option.some ((0 : Int), PUnit.unit)
    else
      if Decidable.decide ((0 : Int) ≤ Go.IntKind.wrap Go.IntKind.i64 ((↑(List.length p) : Int) - (1 : Int))) = Bool.true then
        if Decidable.decide (Go.IntKind.wrap Go.IntKind.i64 ((↑(List.length p) : Int) - (1 : Int)) < (↑(List.length l.1) : Int)) = Bool.true then
          if Decidable.decide ((0 : Int) ≤ Go.IntKind.wrap Go.IntKind.i64 ((↑(List.length p) : Int) - (1 : Int))) = Bool.true then
            if Decidable.decide (Go.IntKind.wrap Go.IntKind.i64 ((↑(List.length p) : Int) - (1 : Int)) < (↑(List.length p) : Int)) = Bool.true then
              if Decidable.decide ((0 : Int) ≤ Go.IntKind.wrap Go.IntKind.i64 ((↑(List.length p) : Int) - (1 : Int))) = Bool.true then
                if Decidable.decide (Go.IntKind.wrap Go.IntKind.i64 ((↑(List.length p) : Int) - (1 : Int)) < (↑(List.length l.2.1) : Int)) = Bool.true then
                  Option.some
                    (Go.IntKind.wrap Go.IntKind.i64
                        (Go.IntKind.wrap Go.IntKind.i64
                            ((List.getD l.1 (Int.toNat (Go.IntKind.wrap Go.IntKind.i64 ((↑(List.length p) : Int) - (1 : Int)))) ((0 : Int), PUnit.unit)).1 +
                              (↑(List.length (List.getD p (Int.toNat (Go.IntKind.wrap Go.IntKind.i64 ((↑(List.length p) : Int) - (1 : Int)))) (ByteArray.empty, Bool.false, [], PUnit.unit)).2.2.1) : Int)) +
                          (↑(List.length (List.getD l.2.1 (Int.toNat (Go.IntKind.wrap Go.IntKind.i64 ((↑(List.length p) : Int) - (1 : Int)))) ([], PUnit.unit)).1) : Int)),
                      PUnit.unit)
                else Option.none
              else Option.none
            else Option.none
          else Option.none
        else Option.none
      else Option.none
  else Option.none) := by kernel_rfl
/-! ImSize -/
noncomputable abbrev spImSize : Spec := ⟨[FunSP, LayP], IntR, false, fun x => G.layOkP x.1 x.2.1, fun x => (G.sizeL x.1 x.2.1, ())⟩
noncomputable abbrev cxImSize : Cx := mkCx T0 pg29 [] [] 28
theorem eImSize (p : Funs) (l : Lay) : funK cxImSize Go.Proofs.Try.f56 spImSize.ins spImSize.out (p, l, ()) =
  (if Decidable.decide ((0 : Int) ≤ Go.IntKind.wrap Go.IntKind.i64 ((↑(List.length p) : Int) - (1 : Int))) = Bool.true then
    if Decidable.decide (Go.IntKind.wrap Go.IntKind.i64 ((↑(List.length p) : Int) - (1 : Int)) < (↑(List.length l.1) : Int)) = Bool.true then
      if Decidable.decide ((0 : Int) ≤ Go.IntKind.wrap Go.IntKind.i64 ((↑(List.length p) : Int) - (1 : Int))) = Bool.true then
        if Decidable.decide (Go.IntKind.wrap Go.IntKind.i64 ((↑(List.length p) : Int) - (1 : Int)) < (↑(List.length p) : Int)) = Bool.true then
          if Decidable.decide ((0 : Int) ≤ Go.IntKind.wrap Go.IntKind.i64 ((↑(List.length p) : Int) - (1 : Int))) = Bool.true then
            if Decidable.decide (Go.IntKind.wrap Go.IntKind.i64 ((↑(List.length p) : Int) - (1 : Int)) < (↑(List.length l.2.1) : Int)) = Bool.true then
              Option.some
                (Go.IntKind.wrap Go.IntKind.i64
                    (Go.IntKind.wrap Go.IntKind.i64
                        ((List.getD l.1 (Int.toNat (Go.IntKind.wrap Go.IntKind.i64 ((↑(List.length p) : Int) - (1 : Int)))) ((0 : Int), PUnit.unit)).1 +
                          (↑(List.length (List.getD p (Int.toNat (Go.IntKind.wrap Go.IntKind.i64 ((↑(List.length p) : Int) - (1 : Int)))) (ByteArray.empty, Bool.false, [], PUnit.unit)).2.2.1) : Int)) +
                      (↑(List.length (List.getD l.2.1 (Int.toNat (Go.IntKind.wrap Go.IntKind.i64 ((↑(List.length p) : Int) - (1 : Int)))) ([], PUnit.unit)).1) : Int)),
                  PUnit.unit)
            else Option.none
          else Option.none
        else Option.none
      else Option.none
    else Option.none
  else Option.none) := by kernel_rfl
theorem size_w {p : Funs} {l : Lay} (hs : G.smallL l = true) (h : G.laid p l = true) : 
    IntKind.i64.wrap (IntKind.i64.wrap (G.atOf l (p.length - 1) + ((G.pAt p (p.length - 1)).2.2.1.length : Int)) + ((G.stones l (p.length - 1)).length : Int)) = G.sizeL p l := by
  obtain ⟨⟨b1, b2, b3, b4⟩, b5⟩ := laid_bd hs h
  obtain ⟨c1, c2, c3, c4, c5⟩ := b5 (p.length - 1) (by omega)
  unfold G.sizeL G.partLen
  have e : IntKind.i64.wrap (G.posn p l (p.length - 1) + ((G.pAt p (p.length - 1)).2.2.1.length : Int)) = G.posn p l (p.length - 1) + ((G.pAt p (p.length - 1)).2.2.1.length : Int) := w64 (by omega) (by omega)
  rw [c1, e, w64 (by omega) (by omega)]
  omega
theorem sfImSize (p : Funs) (l : Lay) (h : G.layOkP p l = true) : funK cxImSize Go.Proofs.Try.f56 spImSize.ins spImSize.out (p, l, ()) = some (G.sizeL p l, ()) := by
  obtain ⟨h1, h2, h3⟩ := layOkP_iff.1 h
  obtain ⟨⟨b1, b2, b3, b4⟩, b5⟩ := laid_bd h2 h3
  have hw : IntKind.i64.wrap ((p.length : Int) - 1) = (p.length : Int) - 1 := w64 (by omega) (by omega)
  have hn : ((p.length : Int) - 1).toNat = p.length - 1 := by omega
  rw [eImSize]
  simp only [hw, atOf_eq, pAt_eq, stones_eq, show (0 : Int) ≤ (p.length : Int) - 1 by omega, show (p.length : Int) - 1 < (l.1.length : Int) by omega, show (p.length : Int) - 1 < (l.2.1.length : Int) by omega, show (p.length : Int) - 1 < (p.length : Int) by omega, decide_true, if_true]
  rw [hn, size_w h2 h3]
theorem okImSize : SpecOk Go.Proofs.Try.prog 56 spImSize :=
  fun_okB (cx := cxImSize) (F := Go.Proofs.Try.f56) (cxOk T0_ok T0_eq pg29_ok) mixed (by kernel_rfl) (by decide) (by kernel_rfl) (lps_none (by kernel_rfl)) (fun x h => sfImSize x.1 x.2.1 h)
theorem sfSpSize (p : Funs) (l : Lay) (h : (G.smallP p && G.smallL l) = true) : funK cxSpSize Go.Proofs.Try.f21 spSpSize.ins spSpSize.out (p, l, ()) = some (G.laySize p l, ()) := by
  have h0 := h
  rw [Bool.and_eq_true] at h0
  rw [eSpSize]
  unfold G.laySize
  rw [if_pos h]
  cases h3 : G.laid p l with
  | false => rfl
  | true =>
    obtain ⟨⟨b1, b2, b3, b4⟩, b5⟩ := laid_bd h0.2 h3
    have hw : IntKind.i64.wrap ((p.length : Int) - 1) = (p.length : Int) - 1 := w64 (by omega) (by omega)
    have hn : ((p.length : Int) - 1).toNat = p.length - 1 := by omega
    simp only [hw, atOf_eq, pAt_eq, stones_eq, show (0 : Int) ≤ (p.length : Int) - 1 by omega, show (p.length : Int) - 1 < (l.1.length : Int) by omega, show (p.length : Int) - 1 < (l.2.1.length : Int) by omega, show (p.length : Int) - 1 < (p.length : Int) by omega, decide_true, if_true]
    rw [hn, size_w h0.2 h3]
    rfl
theorem okSpSize : SpecOk Go.Proofs.Try.prog 21 spSpSize :=
  fun_okB (cx := cxSpSize) (F := Go.Proofs.Try.f21) (cxOk T0_ok T0_eq pg29_ok) mixed (by kernel_rfl) (by decide) (by kernel_rfl) (lps_none (by kernel_rfl)) (fun x h => sfSpSize x.1 x.2.1 h)
/-! distances -/
def G.far (a b : Int) : Int := G.maxI (a - b) (b - a)
def G.mid (a : Int) : Bool := decide (-1099511627776 ≤ a ∧ a ≤ 1099511627776)
theorem mid_iff {a : Int} : G.mid a = true ↔ (-1099511627776 ≤ a ∧ a ≤ 1099511627776) := by simp [G.mid]
/-! L7Far -/
noncomputable abbrev spL7Far : Spec := ⟨[IntP, IntP], IntR, false, fun x => G.mid x.1 && G.mid x.2.1, fun x => (G.far x.1 x.2.1, ())⟩
noncomputable abbrev cxL7Far : Cx := mkCx T0 pg29 [] [] 12
theorem eL7Far (a b : Int) : funK cxL7Far Go.Proofs.Try.f97 spL7Far.ins spL7Far.out (a, b, ()) =
  (Option.some (Go.Rx.G.maxI (Go.IntKind.wrap Go.IntKind.i64 (a - b)) (Go.IntKind.wrap Go.IntKind.i64 (b - a)), PUnit.unit)) := by kernel_rfl
theorem sfL7Far (a b : Int) (h : (G.mid a && G.mid b) = true) : funK cxL7Far Go.Proofs.Try.f97 spL7Far.ins spL7Far.out (a, b, ()) = some (G.far a b, ()) := by
  rw [Bool.and_eq_true, mid_iff, mid_iff] at h
  rw [eL7Far, w64 (by omega) (by omega), w64 (by omega) (by omega)]
  rfl
theorem okL7Far : SpecOk Go.Proofs.Try.prog 97 spL7Far :=
  fun_okB (cx := cxL7Far) (F := Go.Proofs.Try.f97) (cxOk T0_ok T0_eq pg29_ok) mixed (by kernel_rfl) (by decide) (by kernel_rfl) (lps_none (by kernel_rfl)) (fun x h => sfL7Far x.1 x.2.1 h)
/-! Far -/
noncomputable abbrev spFar : Spec := ⟨[IntP, IntP], IntR, false, fun x => G.mid x.1 && G.mid x.2.1, fun x => (G.far x.1 x.2.1, ())⟩
noncomputable abbrev cxFar : Cx := mkCx T0 pg29 [] [] 12
theorem eFar (a b : Int) : funK cxFar Go.Proofs.Try.f99 spFar.ins spFar.out (a, b, ()) =
  (Option.some
    (if Go.IntKind.wrap Go.IntKind.i64 (b - a) > Go.IntKind.wrap Go.IntKind.i64 (a - b) then Go.IntKind.wrap Go.IntKind.i64 (b - a)
      else Go.IntKind.wrap Go.IntKind.i64 (a - b),
      PUnit.unit)) := by kernel_rfl
theorem sfFar (a b : Int) (h : (G.mid a && G.mid b) = true) : funK cxFar Go.Proofs.Try.f99 spFar.ins spFar.out (a, b, ()) = some (G.far a b, ()) := by
  rw [Bool.and_eq_true, mid_iff, mid_iff] at h
  rw [eFar, w64 (by omega) (by omega), w64 (by omega) (by omega)]
  refine congrArg (fun q => some (q, ())) ?_
  unfold G.far G.maxI
  split <;> split <;> omega
theorem okFar : SpecOk Go.Proofs.Try.prog 99 spFar :=
  fun_okB (cx := cxFar) (F := Go.Proofs.Try.f99) (cxOk T0_ok T0_eq pg29_ok) mixed (by kernel_rfl) (by decide) (by kernel_rfl) (lps_none (by kernel_rfl)) (fun x h => sfFar x.1 x.2.1 h)
noncomputable abbrev pg30 : List (Nat × List Spec) := (99, [spFar]) :: (97, [spL7Far]) :: (56, [spImSize]) :: (21, [spSpSize]) :: pg29
theorem pg30_ok : PhiOk Go.Proofs.Try.prog pg30 := ⟨⟨okFar, trivial⟩, ⟨okL7Far, trivial⟩, ⟨okImSize, trivial⟩, ⟨okSpSize, trivial⟩, pg29_ok⟩
/-! LaySize -/
noncomputable abbrev spLaySize : Spec := ⟨[FunSP, LayP], IntR, false, fun x => G.smallP x.1 && G.smallL x.2.1, fun x => (G.laySize x.1 x.2.1, ())⟩
noncomputable abbrev cxLaySize : Cx := mkCx T0 pg30 [] [] 12
theorem eLaySize (p : Funs) (l : Lay) : funK cxLaySize Go.Proofs.Try.f24 spLaySize.ins spLaySize.out (p, l, ()) =
  (if (Go.Rx.G.smallP p && Go.Rx.G.smallL l) = Bool.true then
    if (!Go.Rx.G.laid p l) = Bool.true then Option.some ((0 : Int), PUnit.unit)
    else if Go.Rx.G.layOkP p l = Bool.true then Option.some (Go.Rx.G.sizeL p l, PUnit.unit) else Option.none
  else Option.none) := by kernel_rfl
end Go.Rx

/-
  DRAWS: numbers drawn from a code, and what is drawn of lists.
-/
import Derived.Test.YtoagkidolpcigaaFa
import Derived.Test.YtoagkidolpcigaaRxZf
import Derived.Test.YtoagkidolpcigaaRxZd
namespace Go.Rx
open Go
set_option linter.unusedVariables false
set_option linter.unusedSimpArgs false
abbrev byteT : Tys := .cons (.int .u8) .nil
abbrev Bytes := List (Int × Unit)
abbrev BytesP : PK := .c (.dat (.sl byteT))
abbrev RdK : List CK := [.dat (.sl byteT), .dat I]
abbrev RdP : PK := .box RdK
abbrev RdS := List (Int × Unit) × Int × Unit
def G.byteOk (x : Int × Unit) : Bool := decide (0 ≤ x.1 ∧ x.1 ≤ 255)
theorem bytes_wf {c : Bytes} (h : Ty.wf (.sl byteT) c) : c.all G.byteOk = true := by
  rw [List.all_eq_true]
  intro x hx
  have := (h.2 x hx).1
  refine decide_eq_true ?_
  have h1 : (Lit.int .u8 x.1).wf = true := this
  unfold Lit.wf at h1
  rw [Bool.and_eq_true, decide_eq_true_iff, decide_eq_true_iff] at h1
  have m0 : IntKind.u8.min = 0 := by decide
  have m1 : IntKind.u8.max = 255 := by decide
  omega
def G.rd (K : Int) (s : RdS) : Bool := (decide (s.1.length ≤ 2000) && s.1.all G.byteOk) && decide (0 ≤ s.2.1 ∧ s.2.1 ≤ K)
theorem rd_iff {K : Int} {s : RdS} : G.rd K s = true ↔ ((s.1.length ≤ 2000 ∧ s.1.all G.byteOk = true) ∧ 0 ≤ s.2.1 ∧ s.2.1 ≤ K) := by
  unfold G.rd
  rw [Bool.and_eq_true, Bool.and_eq_true, decide_eq_true_iff, decide_eq_true_iff]
/-- The reader went on by at most c. -/
def Adv (c : Int) (s s' : RdS) : Prop := s'.1 = s.1 ∧ s.2.1 ≤ s'.2.1 ∧ s'.2.1 ≤ s.2.1 + c
theorem Adv.rd {c K : Int} {s s' : RdS} (h : Adv c s s') (hr : G.rd K s = true) : G.rd (K + c) s' = true := by
  obtain ⟨⟨h1, h2⟩, h3, h4⟩ := rd_iff.1 hr
  obtain ⟨a1, a2, a3⟩ := h
  exact rd_iff.2 ⟨⟨by rw [a1]; exact h1, by rw [a1]; exact h2⟩, by omega, by omega⟩
theorem rd_le {K K' : Int} {s : RdS} (h : G.rd K s = true) (hk : K ≤ K') : G.rd K' s = true := by
  obtain ⟨h0, h3, h4⟩ := rd_iff.1 h
  exact rd_iff.2 ⟨h0, by omega, by omega⟩
theorem Adv.trans {c d : Int} {s s' s'' : RdS} (h : Adv c s s') (k : Adv d s' s'') : Adv (c + d) s s'' := by
  obtain ⟨a1, a2, a3⟩ := h
  obtain ⟨b1, b2, b3⟩ := k
  exact ⟨b1.trans a1, by omega, by omega⟩
theorem Adv.le {c d : Int} {s s' : RdS} (h : Adv c s s') (hd : c ≤ d) : Adv d s s' := ⟨h.1, h.2.1, by have := h.2.2; omega⟩
theorem Adv.refl (s : RdS) : Adv 0 s s := ⟨rfl, by omega, by omega⟩
/-! L13Open -/
noncomputable abbrev spL13Open : Spec := ⟨[BytesP], .one RdP, true, fun x => true, fun x => ((x.1.take 2000, 0, ()), ())⟩
noncomputable abbrev cxL13Open : Cx := mkCx T0 pg28 [] [] 11
theorem eL13Open (c : Bytes) : funK cxL13Open Go.Proofs.Try.f35 spL13Open.ins spL13Open.out (c, ()) =
  (if Decidable.decide ((↑(List.length c) : Int) > (2000 : Int)) = Bool.true then
    if Decidable.decide ((0 : Int) ≤ (2000 : Int)) = Bool.true then
      if Decidable.decide ((2000 : Int) ≤ (↑(List.length c) : Int)) = Bool.true then
        if Decidable.decide ((0 : Int) ≤ (0 : Int)) = Bool.true then
          if Decidable.decide ((0 : Int) ≤ (2000 : Int)) = Bool.true then Option.some ((List.drop (Int.toNat (0 : Int)) (List.take (Int.toNat (2000 : Int)) c), (0 : Int), PUnit.unit), PUnit.unit) else Option.none
        else Option.none
      else Option.none
    else Option.none
  else Option.some ((c, (0 : Int), PUnit.unit), PUnit.unit)) := by kernel_rfl
/-! Pick -/
noncomputable abbrev cxPick : Cx := mkCx T0 pg28 [] [] 99
noncomputable def G.dPick (x : PKs.den [RdP, IntP]) : RK.den (IntR) × Bxs.den [RdP, IntP] := G.val (funK cxPick Go.Proofs.Try.f37 [RdP, IntP] (IntR) x)
noncomputable abbrev spPick : Spec := ⟨[RdP, IntP], IntR, true, fun x => G.rd 1000000 x.1, fun x => G.dPick x⟩
theorem ePick (s : RdS) (n : Int) : funK cxPick Go.Proofs.Try.f37 [RdP, IntP] (IntR) (s, n, ()) =
  (if Decidable.decide (n < (1 : Int)) = Bool.false then
    if Decidable.decide ((↑(List.length s.1) : Int) = (0 : Int)) = Bool.true then Option.some ((0 : Int), (s.1, Go.IntKind.wrap Go.IntKind.i64 (s.2.1 + (1 : Int)), PUnit.unit), PUnit.unit)
    else
      if Decidable.decide (Go.IntKind.wrap Go.IntKind.i64 (Go.IntKind.wrap Go.IntKind.i64 (s.2.1 + (1 : Int)) - (1 : Int)) < (↑(List.length s.1) : Int)) = Bool.true then
        if Decidable.decide ((0 : Int) ≤ Go.IntKind.wrap Go.IntKind.i64 (Go.IntKind.wrap Go.IntKind.i64 (s.2.1 + (1 : Int)) - (1 : Int))) = Bool.true then
          if Decidable.decide (Go.IntKind.wrap Go.IntKind.i64 (Go.IntKind.wrap Go.IntKind.i64 (s.2.1 + (1 : Int)) - (1 : Int)) < (↑(List.length s.1) : Int)) = Bool.true then
            if (!Decidable.decide (n = (0 : Int))) = Bool.true then
              Option.some
                (Int.tmod (Go.IntKind.wrap Go.IntKind.i64 (List.getD s.1 (Int.toNat (Go.IntKind.wrap Go.IntKind.i64 (Go.IntKind.wrap Go.IntKind.i64 (s.2.1 + (1 : Int)) - (1 : Int)))) ((0 : Int), PUnit.unit)).1)
                    n,
                  (s.1, Go.IntKind.wrap Go.IntKind.i64 (s.2.1 + (1 : Int)), PUnit.unit), PUnit.unit)
            else Option.none
          else Option.none
        else Option.none
      else
        if (!Decidable.decide ((↑(List.length s.1) : Int) = (0 : Int))) = Bool.true then
          if Decidable.decide ((0 : Int) ≤ Int.tmod (Go.IntKind.wrap Go.IntKind.i64 (Go.IntKind.wrap Go.IntKind.i64 (s.2.1 + (1 : Int)) - (1 : Int))) (↑(List.length s.1) : Int)) = Bool.true then
            if
                Decidable.decide (Int.tmod (Go.IntKind.wrap Go.IntKind.i64 (Go.IntKind.wrap Go.IntKind.i64 (s.2.1 + (1 : Int)) - (1 : Int))) (↑(List.length s.1) : Int) < (↑(List.length s.1) : Int)) =
                  Bool.true then
              if (!Decidable.decide ((↑(List.length s.1) : Int) = (0 : Int))) = Bool.true then
                if
                    Decidable.decide
                        ((0 : Int) ≤
                          Int.tmod (Go.IntKind.wrap Go.IntKind.i64 (Go.IntKind.wrap Go.IntKind.i64 (Go.IntKind.wrap Go.IntKind.i64 (Go.IntKind.wrap Go.IntKind.i64 (s.2.1 + (1 : Int)) - (1 : Int)) * (7 : Int)) + (3 : Int)))
                            (↑(List.length s.1) : Int)) =
                      Bool.true then
                  if
                      Decidable.decide
                          (Int.tmod (Go.IntKind.wrap Go.IntKind.i64 (Go.IntKind.wrap Go.IntKind.i64 (Go.IntKind.wrap Go.IntKind.i64 (Go.IntKind.wrap Go.IntKind.i64 (s.2.1 + (1 : Int)) - (1 : Int)) * (7 : Int)) + (3 : Int)))
                              (↑(List.length s.1) : Int) <
                            (↑(List.length s.1) : Int)) =
                        Bool.true then
                    if (!Decidable.decide ((↑(List.length s.1) : Int) = (0 : Int))) = Bool.true then
                      if (!Decidable.decide ((64 : Int) = (0 : Int))) = Bool.true then
                        if (!Decidable.decide (n = (0 : Int))) = Bool.true then
                          Option.some
                            (Int.tmod
                                (Go.IntKind.wrap Go.IntKind.i64
                                  (↑(Nat.bitwise (fun (a b : Bool) => !Decidable.decide (a = b))
                                        (Int.toNat
                                          (Int.emod
                                            (Go.IntKind.wrap Go.IntKind.i64
                                              (Go.IntKind.wrap Go.IntKind.i64
                                                  (Go.IntKind.wrap Go.IntKind.i64
                                                      (Go.IntKind.wrap Go.IntKind.i64
                                                          (Go.IntKind.wrap Go.IntKind.i64
                                                              (List.getD s.1
                                                                  (Int.toNat (Int.tmod (Go.IntKind.wrap Go.IntKind.i64 (Go.IntKind.wrap Go.IntKind.i64 (s.2.1 + (1 : Int)) - (1 : Int))) (↑(List.length s.1) : Int)))
                                                                  ((0 : Int), PUnit.unit)).1 *
                                                            (131 : Int)) +
                                                        Go.IntKind.wrap Go.IntKind.i64
                                                          (Go.IntKind.wrap Go.IntKind.i64
                                                              (List.getD s.1
                                                                  (Int.toNat
                                                                    (Int.tmod
                                                                      (Go.IntKind.wrap Go.IntKind.i64
                                                                        (Go.IntKind.wrap Go.IntKind.i64 (Go.IntKind.wrap Go.IntKind.i64 (Go.IntKind.wrap Go.IntKind.i64 (s.2.1 + (1 : Int)) - (1 : Int)) * (7 : Int)) + (3 : Int)))
                                                                      (↑(List.length s.1) : Int)))
                                                                  ((0 : Int), PUnit.unit)).1 *
                                                            (1117 : Int))) +
                                                    Go.IntKind.wrap Go.IntKind.i64 (Go.IntKind.wrap Go.IntKind.i64 (Go.IntKind.wrap Go.IntKind.i64 (s.2.1 + (1 : Int)) - (1 : Int)) * (29 : Int))) +
                                                Go.IntKind.wrap Go.IntKind.i64
                                                  (Go.IntKind.wrap Go.IntKind.i64
                                                      (Int.tdiv (Go.IntKind.wrap Go.IntKind.i64 (Go.IntKind.wrap Go.IntKind.i64 (s.2.1 + (1 : Int)) - (1 : Int))) (↑(List.length s.1) : Int)) *
                                                    (53 : Int))))
                                            (18446744073709551616 : Int)))
                                        (Int.toNat
                                          (Int.emod
                                            (Go.IntKind.wrap Go.IntKind.i64
                                              (Int.tdiv
                                                (Go.IntKind.wrap Go.IntKind.i64
                                                  (Go.IntKind.wrap Go.IntKind.i64
                                                      (Go.IntKind.wrap Go.IntKind.i64
                                                          (Go.IntKind.wrap Go.IntKind.i64
                                                              (Go.IntKind.wrap Go.IntKind.i64
                                                                  (List.getD s.1
                                                                      (Int.toNat (Int.tmod (Go.IntKind.wrap Go.IntKind.i64 (Go.IntKind.wrap Go.IntKind.i64 (s.2.1 + (1 : Int)) - (1 : Int))) (↑(List.length s.1) : Int)))
                                                                      ((0 : Int), PUnit.unit)).1 *
                                                                (131 : Int)) +
                                                            Go.IntKind.wrap Go.IntKind.i64
                                                              (Go.IntKind.wrap Go.IntKind.i64
                                                                  (List.getD s.1
                                                                      (Int.toNat
                                                                        (Int.tmod
                                                                          (Go.IntKind.wrap Go.IntKind.i64
                                                                            (Go.IntKind.wrap Go.IntKind.i64 (Go.IntKind.wrap Go.IntKind.i64 (Go.IntKind.wrap Go.IntKind.i64 (s.2.1 + (1 : Int)) - (1 : Int)) * (7 : Int)) +
                                                                              (3 : Int)))
                                                                          (↑(List.length s.1) : Int)))
                                                                      ((0 : Int), PUnit.unit)).1 *
                                                                (1117 : Int))) +
                                                        Go.IntKind.wrap Go.IntKind.i64 (Go.IntKind.wrap Go.IntKind.i64 (Go.IntKind.wrap Go.IntKind.i64 (s.2.1 + (1 : Int)) - (1 : Int)) * (29 : Int))) +
                                                    Go.IntKind.wrap Go.IntKind.i64
                                                      (Go.IntKind.wrap Go.IntKind.i64
                                                          (Int.tdiv (Go.IntKind.wrap Go.IntKind.i64 (Go.IntKind.wrap Go.IntKind.i64 (s.2.1 + (1 : Int)) - (1 : Int))) (↑(List.length s.1) : Int)) *
                                                        (53 : Int))))
                                                (64 : Int)))
                                            (18446744073709551616 : Int)))) :
                                    Int))
                                n,
                              (s.1, Go.IntKind.wrap Go.IntKind.i64 (s.2.1 + (1 : Int)), PUnit.unit), PUnit.unit)
                        else Option.none
                      else Option.none
                    else Option.none
                  else Option.none
                else Option.none
              else Option.none
            else Option.none
          else Option.none
        else Option.none
  else Option.some ((0 : Int), (s.1, Go.IntKind.wrap Go.IntKind.i64 (s.2.1 + (1 : Int)), PUnit.unit), PUnit.unit)) := by kernel_rfl
theorem sfL13Open (c : Bytes) : funK cxL13Open Go.Proofs.Try.f35 spL13Open.ins spL13Open.out (c, ()) = some ((c.take 2000, 0, ()), ()) := by
  rw [eL13Open]
  by_cases h : (c.length : Int) > 2000
  · rw [if_pos (decide_eq_true h), if_pos (by decide), if_pos (decide_eq_true (by omega)), if_pos (by decide), if_pos (by decide)]
    rfl
  · rw [if_neg (by simpa using h), List.take_of_length_le (by omega)]
theorem okL13Open : SpecOk Go.Proofs.Try.prog 35 spL13Open :=
  fun_okB (cx := cxL13Open) (F := Go.Proofs.Try.f35) (cxOk T0_ok T0_eq pg28_ok) mixed (by kernel_rfl) (by decide) (by kernel_rfl) (lps_none (by kernel_rfl)) (fun x h => sfL13Open x.1)
theorem open_rd {c : Bytes} (h : c.all G.byteOk = true) : G.rd 0 (c.take 2000, 0, ()) = true := by
  refine rd_iff.2 ⟨⟨by simp; omega, ?_⟩, by show (0 : Int) ≤ 0; omega, by show (0 : Int) ≤ 0; omega⟩
  rw [List.all_eq_true] at h ⊢
  exact fun x hx => h x (List.mem_of_mem_take hx)
theorem tmod_bd {a n : Int} (ha : 0 ≤ a) (hn : 0 < n) : 0 ≤ a.tmod n ∧ a.tmod n < n := ⟨Int.tmod_nonneg _ ha, Int.tmod_lt_of_pos _ hn⟩
theorem tdiv_bd {a n : Int} (ha : 0 ≤ a) (hn : 0 < n) : 0 ≤ a.tdiv n ∧ a.tdiv n ≤ a := by
  rw [Int.tdiv_eq_ediv_of_nonneg ha]
  exact ⟨Int.ediv_nonneg ha (by omega), Int.ediv_le_self _ ha⟩
theorem byte_at {b : Bytes} (h : b.all G.byteOk = true) (k : Nat) : 0 ≤ (b.getD k (0, ())).1 ∧ (b.getD k (0, ())).1 ≤ 255 := by
  by_cases hk : k < b.length
  · exact of_decide_eq_true (all_getD (0, ()) h hk)
  · rw [List.getD_eq_getElem?_getD, List.getElem?_eq_none (by omega)]
    exact ⟨by decide, by decide⟩
def PickPost (x : PKs.den [RdP, IntP]) (r : RK.den IntR × Bxs.den [RdP, IntP]) : Prop := Adv 1 x.1 r.2.1 ∧ 0 ≤ r.1 ∧ (1 ≤ x.2.1 → r.1 < x.2.1)
theorem sfPick (s : RdS) (n : Int) (h : G.rd 1000000 s = true) : ∃ r, funK cxPick Go.Proofs.Try.f37 [RdP, IntP] (IntR) (s, n, ()) = some r ∧ PickPost (s, n, ()) r := by
  obtain ⟨⟨h1, h2⟩, h3, h4⟩ := rd_iff.1 h
  have e1 : IntKind.i64.wrap (s.2.1 + 1) = s.2.1 + 1 := w64 (by omega) (by omega)
  have e2 : IntKind.i64.wrap (s.2.1 + 1 - 1) = s.2.1 := by rw [w64 (by omega) (by omega)]; omega
  have adv : Adv 1 s (s.1, s.2.1 + 1, ()) := ⟨rfl, by show s.2.1 ≤ s.2.1 + 1; omega, by show s.2.1 + 1 ≤ s.2.1 + 1; omega⟩
  have fin : ∀ v : Int, 0 ≤ v → (1 ≤ n → v < n) → ∃ r, (some (v, (s.1, s.2.1 + 1, ()), ()) : Option (RK.den IntR × Bxs.den [RdP, IntP])) = some r ∧ PickPost (s, n, ()) r := fun v h0 h1 => ⟨_, rfl, adv, h0, h1⟩
  rw [ePick, e1, e2]
  by_cases hn : n < 1
  · rw [if_neg (by simpa using hn)]
    exact fin 0 (by omega) (by omega)
  · rw [if_pos (decide_eq_false hn)]
    by_cases hl : (s.1.length : Int) = 0
    · rw [if_pos (decide_eq_true hl)]
      exact fin 0 (by omega) (by omega)
    · have nn : (!decide (n = 0)) = true := by rw [decide_eq_false (by omega)]; rfl
      have ll : (!decide ((s.1.length : Int) = 0)) = true := by rw [decide_eq_false hl]; rfl
      rw [if_neg (by simpa using hl)]
      by_cases hp : s.2.1 < (s.1.length : Int)
      · rw [if_pos (decide_eq_true hp), if_pos (decide_eq_true h3), if_pos (decide_eq_true hp), if_pos nn]
        have hb := byte_at h2 s.2.1.toNat
        generalize (s.1.getD s.2.1.toNat ((0 : Int), ())).1 = b at hb ⊢
        rw [w64 (by omega) (by omega)]
        have := tmod_bd hb.1 (show 0 < n by omega)
        exact fin _ this.1 (fun _ => this.2)
      · rw [if_neg (by simpa using hp), if_pos ll]
        have k1 := tmod_bd (n := (s.1.length : Int)) h3 (by omega)
        rw [if_pos (decide_eq_true k1.1), if_pos (decide_eq_true k1.2), if_pos ll]
        rw [w64 (n := s.2.1 * 7) (by omega) (by omega), w64 (n := s.2.1 * 7 + 3) (by omega) (by omega)]
        have k2 := tmod_bd (a := s.2.1 * 7 + 3) (n := (s.1.length : Int)) (by omega) (by omega)
        rw [if_pos (decide_eq_true k2.1), if_pos (decide_eq_true k2.2), if_pos ll, if_pos (by decide), if_pos nn]
        have hb1 := byte_at h2 (s.2.1.tmod (s.1.length : Int)).toNat
        have hb2 := byte_at h2 ((s.2.1 * 7 + 3).tmod (s.1.length : Int)).toNat
        have hq := tdiv_bd (n := (s.1.length : Int)) h3 (by omega)
        generalize (s.1.getD (s.2.1.tmod (s.1.length : Int)).toNat ((0 : Int), ())).1 = b1 at hb1 ⊢
        generalize (s.1.getD ((s.2.1 * 7 + 3).tmod (s.1.length : Int)).toNat ((0 : Int), ())).1 = b2 at hb2 ⊢
        generalize s.2.1.tdiv (s.1.length : Int) = q at hq ⊢
        rw [w64 (n := b1) (by omega) (by omega), w64 (n := b2) (by omega) (by omega), w64 (n := b1 * 131) (by omega) (by omega), w64 (n := b2 * 1117) (by omega) (by omega), w64 (n := s.2.1 * 29) (by omega) (by omega), w64 (n := q) (by omega) (by omega), w64 (n := q * 53) (by omega) (by omega),
          w64 (n := b1 * 131 + b2 * 1117) (by omega) (by omega), w64 (n := b1 * 131 + b2 * 1117 + s.2.1 * 29) (by omega) (by omega), w64 (n := b1 * 131 + b2 * 1117 + s.2.1 * 29 + q * 53) (by omega) (by omega)]
        have hv : 0 ≤ b1 * 131 + b2 * 1117 + s.2.1 * 29 + q * 53 ∧ b1 * 131 + b2 * 1117 + s.2.1 * 29 + q * 53 < 1099511627776 := by omega
        generalize b1 * 131 + b2 * 1117 + s.2.1 * 29 + q * 53 = v at hv ⊢
        have hd := tdiv_bd (n := 64) hv.1 (by omega)
        generalize v.tdiv 64 = d at hd ⊢
        rw [w64 (n := d) (by omega) (by omega), show Int.emod v 18446744073709551616 = v from Int.emod_eq_of_lt (by omega) (by omega), show Int.emod d 18446744073709551616 = d from Int.emod_eq_of_lt (by omega) (by omega)]
        have hx := Nat.bitwise_lt_two_pow (f := fun (a b : Bool) => !decide (a = b)) (n := 40) (show v.toNat < 2 ^ 40 by omega) (show d.toNat < 2 ^ 40 by omega)
        generalize Nat.bitwise (fun (a b : Bool) => !decide (a = b)) v.toNat d.toNat = x at hx ⊢
        rw [w64 (by omega) (by omega)]
        have := tmod_bd (a := (x : Int)) (by omega) (show 0 < n by omega)
        exact fin _ this.1 (fun _ => this.2)
theorem postPick (x : PKs.den [RdP, IntP]) (h : (G.rd 1000000 x.1) = true) : funK cxPick Go.Proofs.Try.f37 [RdP, IntP] (IntR) x = some (G.dPick x) ∧ PickPost x (G.dPick x) := val_of (sfPick x.1 x.2.1 h)
theorem okPick : SpecOk Go.Proofs.Try.prog 37 spPick :=
  fun_okB (cx := cxPick) (F := Go.Proofs.Try.f37) (cxOk T0_ok T0_eq pg28_ok) mixed (by kernel_rfl) (by decide) (by kernel_rfl) (lps_none (by kernel_rfl)) (fun x h => (postPick x h).1)
noncomputable abbrev pd1 : List (Nat × List Spec) := (35, [spL13Open]) :: (37, [spPick]) :: pg28
theorem pd1_ok : PhiOk Go.Proofs.Try.prog pd1 := ⟨⟨okL13Open, trivial⟩, ⟨okPick, trivial⟩, pg28_ok⟩
abbrev StrP_ : PK := .c (.dat .str)
abbrev StrR : RK := .one StrP_
/-! one of a list -/
/-! Of -/
noncomputable abbrev cxOf : Cx := mkCx T0 pd1 [] [] 12
noncomputable def G.dOf (x : PKs.den [RdP, StrSP]) : RK.den (StrR) × Bxs.den [RdP, StrSP] := G.val (funK cxOf Go.Proofs.Try.f78 [RdP, StrSP] (StrR) x)
noncomputable abbrev spOf : Spec := ⟨[RdP, StrSP], StrR, true, fun x => G.rd 999999 x.1 && decide (1 ≤ x.2.1.length ∧ x.2.1.length ≤ 1000), fun x => G.dOf x⟩
theorem eOf (s : RdS) (l : Strs) : funK cxOf Go.Proofs.Try.f78 [RdP, StrSP] (StrR) (s, l, ()) =
  (if Go.Rx.G.rd (1000000 : Int) s = Bool.true then
    if Decidable.decide ((0 : Int) ≤ (Go.Rx.G.dPick (s, (↑(List.length l) : Int), PUnit.unit)).1) = Bool.true then
      if Decidable.decide ((Go.Rx.G.dPick (s, (↑(List.length l) : Int), PUnit.unit)).1 < (↑(List.length l) : Int)) = Bool.true then
        Option.some
          ((List.getD l (Int.toNat (Go.Rx.G.dPick (s, (↑(List.length l) : Int), PUnit.unit)).1) (ByteArray.empty, PUnit.unit)).1, (Go.Rx.G.dPick (s, (↑(List.length l) : Int), PUnit.unit)).2)
      else Option.none
    else Option.none
  else Option.none) := by kernel_rfl
/-! Num -/
noncomputable abbrev cxNum : Cx := mkCx T0 pd1 [] [] 12
noncomputable def G.dNum (x : PKs.den [RdP, IntSP]) : RK.den (IntR) × Bxs.den [RdP, IntSP] := G.val (funK cxNum Go.Proofs.Try.f70 [RdP, IntSP] (IntR) x)
noncomputable abbrev spNum : Spec := ⟨[RdP, IntSP], IntR, true, fun x => G.rd 999999 x.1 && decide (1 ≤ x.2.1.length ∧ x.2.1.length ≤ 1000), fun x => G.dNum x⟩
theorem eNum (s : RdS) (l : Ints) : funK cxNum Go.Proofs.Try.f70 [RdP, IntSP] (IntR) (s, l, ()) =
  (if Go.Rx.G.rd (1000000 : Int) s = Bool.true then
    if Decidable.decide ((0 : Int) ≤ (Go.Rx.G.dPick (s, (↑(List.length l) : Int), PUnit.unit)).1) = Bool.true then
      if Decidable.decide ((Go.Rx.G.dPick (s, (↑(List.length l) : Int), PUnit.unit)).1 < (↑(List.length l) : Int)) = Bool.true then
        Option.some
          ((List.getD l (Int.toNat (Go.Rx.G.dPick (s, (↑(List.length l) : Int), PUnit.unit)).1) ((0 : Int), PUnit.unit)).1, (Go.Rx.G.dPick (s, (↑(List.length l) : Int), PUnit.unit)).2)
      else Option.none
    else Option.none
  else Option.none) := by kernel_rfl
def OfPost (x : PKs.den [RdP, StrSP]) (r : RK.den StrR × Bxs.den [RdP, StrSP]) : Prop := Adv 1 x.1 r.2.1 ∧ (r.1, ()) ∈ x.2.1
def NumPost (x : PKs.den [RdP, IntSP]) (r : RK.den IntR × Bxs.den [RdP, IntSP]) : Prop := Adv 1 x.1 r.2.1 ∧ (r.1, ()) ∈ x.2.1
theorem mem_getD {l : List (ByteArray × Unit)} {i : Int} (h0 : 0 ≤ i) (h : i < (l.length : Int)) : ((l.getD i.toNat (ByteArray.empty, ())).1, ()) ∈ l := by
  rw [getD_lt _ _ (by omega)]
  exact List.getElem_mem _
theorem mem_getDI {l : List (Int × Unit)} {i : Int} (h0 : 0 ≤ i) (h : i < (l.length : Int)) : ((l.getD i.toNat (0, ())).1, ()) ∈ l := by
  rw [getD_lt _ _ (by omega)]
  exact List.getElem_mem _
theorem sfOf (s : RdS) (l : Strs) (h : (G.rd 999999 s && decide (1 ≤ l.length ∧ l.length ≤ 1000)) = true) : ∃ r, funK cxOf Go.Proofs.Try.f78 [RdP, StrSP] (StrR) (s, l, ()) = some r ∧ OfPost (s, l, ()) r := by
  rw [Bool.and_eq_true, decide_eq_true_iff] at h
  have hr := rd_le h.1 (show (999999 : Int) ≤ 1000000 by omega)
  obtain ⟨_, p1, p2, p3⟩ := postPick (s, (l.length : Int), ()) hr
  have p3 := p3 (show (1 : Int) ≤ (l.length : Int) by omega)
  rw [eOf, if_pos hr, if_pos (decide_eq_true p2), if_pos (decide_eq_true p3)]
  exact ⟨_, rfl, p1, mem_getD p2 p3⟩
theorem postOf (x : PKs.den [RdP, StrSP]) (h : (G.rd 999999 x.1 && decide (1 ≤ x.2.1.length ∧ x.2.1.length ≤ 1000)) = true) : funK cxOf Go.Proofs.Try.f78 [RdP, StrSP] (StrR) x = some (G.dOf x) ∧ OfPost x (G.dOf x) := val_of (sfOf x.1 x.2.1 h)
theorem okOf : SpecOk Go.Proofs.Try.prog 78 spOf :=
  fun_okB (cx := cxOf) (F := Go.Proofs.Try.f78) (cxOk T0_ok T0_eq pd1_ok) mixed (by kernel_rfl) (by decide) (by kernel_rfl) (lps_none (by kernel_rfl)) (fun x h => (postOf x h).1)
theorem sfNum (s : RdS) (l : Ints) (h : (G.rd 999999 s && decide (1 ≤ l.length ∧ l.length ≤ 1000)) = true) : ∃ r, funK cxNum Go.Proofs.Try.f70 [RdP, IntSP] (IntR) (s, l, ()) = some r ∧ NumPost (s, l, ()) r := by
  rw [Bool.and_eq_true, decide_eq_true_iff] at h
  have hr := rd_le h.1 (show (999999 : Int) ≤ 1000000 by omega)
  obtain ⟨_, p1, p2, p3⟩ := postPick (s, (l.length : Int), ()) hr
  have p3 := p3 (show (1 : Int) ≤ (l.length : Int) by omega)
  rw [eNum, if_pos hr, if_pos (decide_eq_true p2), if_pos (decide_eq_true p3)]
  exact ⟨_, rfl, p1, mem_getDI p2 p3⟩
theorem postNum (x : PKs.den [RdP, IntSP]) (h : (G.rd 999999 x.1 && decide (1 ≤ x.2.1.length ∧ x.2.1.length ≤ 1000)) = true) : funK cxNum Go.Proofs.Try.f70 [RdP, IntSP] (IntR) x = some (G.dNum x) ∧ NumPost x (G.dNum x) := val_of (sfNum x.1 x.2.1 h)
theorem okNum : SpecOk Go.Proofs.Try.prog 70 spNum :=
  fun_okB (cx := cxNum) (F := Go.Proofs.Try.f70) (cxOk T0_ok T0_eq pd1_ok) mixed (by kernel_rfl) (by decide) (by kernel_rfl) (lps_none (by kernel_rfl)) (fun x h => (postNum x h).1)
noncomputable abbrev pd2 : List (Nat × List Spec) := (78, [spOf]) :: (70, [spNum]) :: pd1
theorem pd2_ok : PhiOk Go.Proofs.Try.prog pd2 := ⟨⟨okOf, trivial⟩, ⟨okNum, trivial⟩, pd1_ok⟩
end Go.Rx

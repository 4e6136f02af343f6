/-
  THE LAW on the order of functions: it never matters.
-/
import Derived.Test.YtjnbmbhkgapcfaaGreatGd
namespace Go.Rx
open Go
set_option linter.unusedVariables false
set_option linter.unusedSimpArgs false
def G.tailRev (p : Funs) (i : Int) (q : Funs) : Funs := q ++ (List.range i.toNat).map fun j => G.pAt p (i.toNat - j)
theorem tailRev_step (p : Funs) {i : Int} (q : Funs) (h : i > 0) : G.tailRev p (i - 1) (q ++ [G.pAt p i.toNat]) = G.tailRev p i q := by
  unfold G.tailRev
  have e : i.toNat = (i - 1).toNat + 1 := by omega
  rw [e, List.range_succ_eq_map, List.map_cons, List.map_map, List.append_assoc]
  congr 1
  show G.pAt p ((i - 1).toNat + 1) :: _ = G.pAt p ((i - 1).toNat + 1 - 0) :: _
  congr 1
  apply List.map_congr_left
  intro j hj
  show G.pAt p ((i - 1).toNat - j) = G.pAt p ((i - 1).toNat + 1 - (j + 1))
  congr 1
  omega
theorem tailRev_end (p : Funs) {i : Int} (q : Funs) (h : ¬ i > 0) : G.tailRev p i q = q := by
  unfold G.tailRev
  rw [show i.toNat = 0 by omega]
  simp
noncomputable abbrev pg41 : List (Nat × List Spec) := (29, [spKeepOk]) :: pd18
theorem pg41_ok : PhiOk Go.Proofs.Tryz.prog pg41 := ⟨⟨okKeepOk, trivial⟩, pd18_ok⟩
noncomputable abbrev lsOrd0 : LSpec := ⟨[3, 7, 8], [7], [FunSP, FunsO, IntP], [FunsO], true, fun x => decide (x.1.length ≤ 1000 ∧ x.2.1.length ≤ 1000 ∧ 0 ≤ x.2.2.1 ∧ (x.2.2.1 < (x.1.length : Int) ∨ x.2.2.1 = 0) ∧ (x.2.1.length : Int) + x.2.2.1 ≤ 2000), fun x => ((0, (G.tailRev x.1 x.2.2.1 x.2.1, ())), ())⟩
def G.sameOut (x z : Mach) (k : Nat) : Bool := decide ((z.2.2.2.2.1.getD k (0, ())).1 = (x.2.2.2.2.1.getD k (0, ())).1)
/-! Ord2: a search -/
def G.preOrd2 (x : Mach) (z : Mach) (i : Int) : Bool := G.preA (z.2.2.2.2.1.length) i && (true && (decide (x.2.2.2.2.1.length = z.2.2.2.2.1.length)))
theorem preOrd2_iff {x : Mach} {z : Mach} {i : Int} : G.preOrd2 x z i = true ↔ (0 ≤ i ∧ i ≤ ((z.2.2.2.2.1.length : Nat) : Int) ∧ (z.2.2.2.2.1.length : Nat) ≤ 1099511627776) ∧ True ∧ decide (x.2.2.2.2.1.length = z.2.2.2.2.1.length) = true := by simp [G.preOrd2, preA_iff]
def G.scOrd2 (x : Mach) (z : Mach) (i : Int) : Option (Bool × Unit) := G.scan (G.bad (G.sameOut x z)) (z.2.2.2.2.1.length) i
noncomputable abbrev lsOrd2 : LSpec := ⟨[5, 9, 10, 2], [2], [.box MachO, .box MachO, IntP, BoolP], [BoolP], false, fun x => G.preOrd2 x.1 x.2.1 x.2.2.1,
  fun x => ((G.flag 1 (G.scOrd2 x.1 x.2.1 x.2.2.1), G.got (G.scOrd2 x.1 x.2.1 x.2.2.1) (x.2.2.2.1, ())), (x.1, (x.2.1, ())))⟩
noncomputable abbrev muOrd2 : PKs.den lsOrd2.ins → Nat := fun x => (x.2.1.2.2.2.2.1.length) - x.2.2.1.toNat
/-! LawMachOrder -/
noncomputable abbrev spLawMachOrder : Spec := ⟨[BytesP], BoolR, true, fun x => x.1.all G.byteOk, fun x => (true, ())⟩
abbrev OrdInv : PKs.den lsOrd0.ins → Prop := fun x => (x.1.length ≤ 1000 ∧ x.2.1.length ≤ 2000 ∧ 0 ≤ x.2.2.1 ∧ (x.2.2.1 < (x.1.length : Int) ∨ x.2.2.1 = 0) ∧ (x.2.1.length : Int) + x.2.2.1 ≤ 2000)
theorem inv_ord {x : PKs.den lsOrd0.ins} (h : decide (x.1.length ≤ 1000 ∧ x.2.1.length ≤ 1000 ∧ 0 ≤ x.2.2.1 ∧ (x.2.2.1 < (x.1.length : Int) ∨ x.2.2.1 = 0) ∧ (x.2.1.length : Int) + x.2.2.1 ≤ 2000) = true) : OrdInv x := by
  have := of_decide_eq_true h
  exact ⟨this.1, by have := this.2.1; omega, this.2.2.1, this.2.2.2.1, this.2.2.2.2⟩
/-! the other order -/
def G.orderQ (p : Funs) : Funs := G.tailRev p ((p.length : Int) - 1) [G.pAt p 0]
def G.orderS (n k : Nat) : Nat := if k = 0 then 0 else n - k
theorem orderQ_len {p : Funs} (h : 1 ≤ p.length) : (G.orderQ p).length = p.length := by
  unfold G.orderQ G.tailRev
  simp
  omega
theorem orderQ_at {p : Funs} {k : Nat} (hk : k < p.length) : G.pAt (G.orderQ p) k = G.pAt p (G.orderS p.length k) := by
  unfold G.orderQ G.tailRev G.orderS
  have e : ((p.length : Int) - 1).toNat = p.length - 1 := by omega
  rw [e]
  match k, hk with
  | 0, _ => rfl
  | k + 1, hk =>
    rw [if_neg (by omega)]
    show (([G.pAt p 0] ++ (List.range (p.length - 1)).map fun j => G.pAt p (p.length - 1 - j)).getD (k + 1) (ByteArray.empty, false, [], ())) = _
    rw [getD_lt _ _ (by simp; omega), List.getElem_append_right (by simp)]
    simp only [List.length_singleton, Nat.add_sub_cancel, List.getElem_map, List.getElem_range]
    congr 1
    omega
theorem orderS_lt {n k : Nat} (h : k < n) : G.orderS n k < n := by
  unfold G.orderS
  split <;> omega
theorem orderS_inv {n k : Nat} (h : k < n) : G.orderS n (G.orderS n k) = k := by
  unfold G.orderS
  by_cases h0 : k = 0
  · simp [h0]
  · rw [if_neg h0, if_neg (by omega)]
    omega
theorem order_sim {p : Funs} (h : G.keepOk p = true) : G.Sim p (G.orderQ p) (fun k => k < p.length) (G.orderS p.length) := by
  obtain ⟨⟨k1, k2⟩, k3, k4⟩ := (keepOk_iff p).1 h
  have hl := orderQ_len k1
  have hu := funsOk_uniq k3
  have fwd : ∀ k, k < p.length → G.pAt (G.orderQ p) (G.orderS p.length k) = G.pAt p k := fun k hk => by
    rw [orderQ_at (orderS_lt hk), orderS_inv hk]
  have huq : G.Uniq (G.orderQ p) := fun i j hi hj e => by
    rw [hl] at hi hj
    rw [orderQ_at hi, orderQ_at hj] at e
    have := hu _ _ (orderS_lt hi) (orderS_lt hj) e
    rw [← orderS_inv hi, ← orderS_inv hj, this]
  refine ⟨h, (keepOk_iff _).2 ⟨by omega, uniq_funsOk huq fun k hk => ?_, (closed_iff _).2 fun k hk c hc hr => ?_⟩, by show 0 < p.length; omega, rfl, fun k hk => ⟨hk, by rw [hl]; exact orderS_lt hk, fwd k hk⟩, fun k hk c hc hr => ?_⟩
  · rw [hl] at hk
    rw [orderQ_at hk]
    exact ((funsOk_iff p).1 k3 _ (orderS_lt hk)).1
  · rw [hl] at hk
    rw [orderQ_at hk] at hc hr ⊢
    have hf := (closed_iff p).1 k4 _ (orderS_lt hk) c hc hr
    obtain ⟨g1, g2, _, _⟩ := find_ok hf
    rw [← g2, ← fwd _ g1]
    exact find_some (by rw [hl]; exact orderS_lt g1)
  · exact (find_ok ((closed_iff p).1 k4 k hk c hc hr)).1
theorem order_small {p : Funs} (h1 : 1 ≤ p.length) (h : G.smallP p = true) : G.smallP (G.orderQ p) = true := by
  obtain ⟨s1, s2⟩ := smallP_iff.1 h
  have hl := orderQ_len h1
  refine smallP_iff.2 ⟨by omega, ?_⟩
  rw [List.all_eq_true]
  intro f hf
  obtain ⟨k, hk, rfl⟩ := List.getElem_of_mem hf
  have e : (G.orderQ p)[k] = G.pAt (G.orderQ p) k := by
    unfold G.pAt
    rw [getD_lt _ _ hk]
  rw [e, orderQ_at (by omega)]
  exact smallF_at s2 (orderS_lt (by omega))
theorem sc_same {x z : Mach} (h : z.2.2.2.2.1 = x.2.2.2.2.1) : G.scOrd2 x z 0 = none := by
  unfold G.scOrd2
  rw [scan_bad]
  have : G.allFrom z.2.2.2.2.1.length (G.sameOut x z) 0 = true := by
    rw [allFrom_zero]
    intro k hk
    unfold G.sameOut
    rw [h]
    exact decide_eq_true rfl
  rw [this]
  rfl
theorem machRun_form {p : Funs} {fuel : Int} (h : ¬ (G.machRun p fuel).2.2.2.2.2.1 = 5) : G.keepOk p = true ∧ 0 ≤ fuel ∧ fuel ≤ 200 := by
  unfold G.machRun at h
  split at h
  · assumption
  · exact absurd rfl h
theorem machRun_go {p : Funs} {fuel : Int} (hs : G.smallP p = true) (hk : G.keepOk p = true ∧ 0 ≤ fuel ∧ fuel ≤ 200) : G.goM p (G.machRun p fuel) = true := by
  unfold G.machRun
  rw [if_pos hk]
  exact runM_ok _ (zeroM_ok hs hk.1)
theorem formM_few : G.fewMach G.formM = true := by kernel_rfl
theorem machRun_few {p : Funs} {fuel : Int} (hs : G.smallP p = true) : G.fewMach (G.machRun p fuel) = true := by
  by_cases hk : G.keepOk p = true ∧ 0 ≤ fuel ∧ fuel ≤ 200
  · exact goM_few (machRun_go hs hk)
  · unfold G.machRun
    rw [if_neg hk]
    exact formM_few
end Go.Rx

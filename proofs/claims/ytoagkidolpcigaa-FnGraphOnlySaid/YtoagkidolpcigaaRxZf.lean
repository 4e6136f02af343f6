/-
  ENGINE, part Zf: contracts of functions and loops of which only properties are told (what they hand back is told by the run itself).
  Seat-independent.
-/
import Derived.Test.YtoagkidolpcigaaRxZc
import Derived.KernelRfl
namespace Go.Rx
open Go Go.RowKit
set_option linter.unusedVariables false
set_option linter.unusedSimpArgs false

/-- A text's bytes. -/
def G.B (l : List Nat) : ByteArray := ⟨(l.map UInt8.ofNat).toArray⟩
/-! ### some inhabitant -/
def CK.zero : (k : CK) → k.den
  | .dat t => t.zero
  | .own e => ([] : List e.den)
  | .fn1 _ ts => ts.zero
  | .map => []
def CKs.zero : (ks : List CK) → CKs.den ks
  | [] => ()
  | k :: ks => (k.zero, CKs.zero ks)
def CKss.zero : (bs : List (List CK)) → CKss.den bs
  | [] => ()
  | ks :: r => (CKs.zero ks, CKss.zero r)
def PK.zero : (p : PK) → p.den
  | .c k => k.zero
  | .agg ks => CKs.zero ks
  | .box ks => CKs.zero ks
  | .fn _ bs => CKss.zero bs
  | .wr _ ks => CKs.zero ks
def PKs.zero : (ps : List PK) → PKs.den ps
  | [] => ()
  | p :: ps => (p.zero, PKs.zero ps)
def Muts.zero : (ks : List CK) → Muts.den ks
  | [] => ()
  | .own e :: ks => (([] : List e.den), Muts.zero ks)
  | .dat _ :: ks => Muts.zero ks
  | .fn1 _ _ :: ks => Muts.zero ks
  | .map :: ks => Muts.zero ks
def Bxs.zero : (ps : List PK) → Bxs.den ps
  | [] => ()
  | .box ks :: ps => (CKs.zero ks, Bxs.zero ps)
  | .fn _ bs :: ps => (CKss.zero bs, Bxs.zero ps)
  | .wr _ ks :: ps => (Muts.zero ks, Bxs.zero ps)
  | .c _ :: ps => Bxs.zero ps
  | .agg _ :: ps => Bxs.zero ps
def RK.zero : (k : RK) → k.den
  | .none => ()
  | .one p => p.zero
  | .tup ps => PKs.zero ps

/-! ### functions -/
noncomputable def G.val {ins : List PK} {out : RK} (o : Option (out.den × Bxs.den ins)) : out.den × Bxs.den ins := o.getD (RK.zero out, Bxs.zero ins)
theorem val_of {ins : List PK} {out : RK} {o : Option (out.den × Bxs.den ins)} {Post : out.den × Bxs.den ins → Prop} (h : ∃ r, o = some r ∧ Post r) : o = some (G.val o) ∧ Post (G.val o) := by
  obtain ⟨r, rfl, h⟩ := h
  exact ⟨rfl, h⟩

/-! ### loops -/
theorem iter_mono {ins out : List PK} {f : PKs.den ins → Option (LRes ins out)} : ∀ {k : Nat} {x : PKs.den ins} {r : (Nat × PKs.den out) × Bxs.den ins}, iter f k x = some r → ∀ j, iter f (k + j) x = some r
  | 0, _, _, h, _ => by cases h
  | k + 1, x, r, h, j => by
    rw [show k + 1 + j = (k + j) + 1 by omega]
    unfold iter at h ⊢
    cases hf : f x with
    | none => rw [hf] at h; cases h
    | some q =>
      rw [hf] at h
      cases q with
      | go x' => exact iter_mono (k := k) h j
      | stop fl y b => exact h
theorem iter_det {ins out : List PK} {f : PKs.den ins → Option (LRes ins out)} {k j : Nat} {x : PKs.den ins} {r s : (Nat × PKs.den out) × Bxs.den ins} (h : iter f k x = some r) (h' : iter f j x = some s) : r = s := by
  have a := iter_mono h j
  have b := iter_mono h' k
  rw [Nat.add_comm] at b
  exact Option.some.inj (a.symm.trans b)
open Classical in
noncomputable def G.eps {ins out : List PK} (f : PKs.den ins → Option (LRes ins out)) (x : PKs.den ins) : (Nat × PKs.den out) × Bxs.den ins :=
  if h : ∃ r, ∃ k, iter f k x = some r then h.choose else ((0, PKs.zero out), Bxs.zero ins)
theorem eps_eq {ins out : List PK} {f : PKs.den ins → Option (LRes ins out)} {x : PKs.den ins} {k : Nat} {r : (Nat × PKs.den out) × Bxs.den ins} (h : iter f k x = some r) : G.eps f x = r := by
  have he : ∃ r, ∃ k, iter f k x = some r := ⟨r, k, h⟩
  unfold G.eps
  rw [dif_pos he]
  obtain ⟨j, hj⟩ := he.choose_spec
  exact iter_det hj h
/-- A round that goes on to what is right and smaller, or stops with what is promised. -/
def EpsOk {ins out : List PK} (inv : PKs.den ins → Prop) (μ : PKs.den ins → Nat) (Post : PKs.den ins → (Nat × PKs.den out) × Bxs.den ins → Prop) (x : PKs.den ins) : Option (LRes ins out) → Prop
  | none => False
  | some (.go x') => inv x' ∧ μ x' < μ x ∧ (∀ r, Post x' r → Post x r)
  | some (.stop fl y b) => Post x ((fl, y), b)
theorem eps_iter {ins out : List PK} {f : PKs.den ins → Option (LRes ins out)} {inv : PKs.den ins → Prop} {μ : PKs.den ins → Nat} {Post : PKs.den ins → (Nat × PKs.den out) × Bxs.den ins → Prop}
    (h : ∀ x, inv x → EpsOk inv μ Post x (f x)) : ∀ (n : Nat) (x : PKs.den ins), μ x < n → inv x → ∃ k r, iter f k x = some r ∧ Post x r
  | 0, x, hn, _ => by omega
  | n + 1, x, hn, hx => by
    have hs := h x hx
    cases hf : f x with
    | none => rw [hf] at hs; exact hs.elim
    | some q =>
      rw [hf] at hs
      cases q with
      | go x' =>
        obtain ⟨h1, h2, h3⟩ := hs
        obtain ⟨k, r, hk, hp⟩ := eps_iter h n x' (by omega) h1
        refine ⟨k + 1, r, ?_, h3 r hp⟩
        unfold iter
        rw [hf]
        exact hk
      | stop fl y b =>
        refine ⟨1, ((fl, y), b), ?_, hs⟩
        unfold iter
        rw [hf]
theorem eps_ok {ins out : List PK} {f : PKs.den ins → Option (LRes ins out)} {inv : PKs.den ins → Prop} {μ : PKs.den ins → Nat} {Post : PKs.den ins → (Nat × PKs.den out) × Bxs.den ins → Prop}
    (h : ∀ x, inv x → EpsOk inv μ Post x (f x)) (x : PKs.den ins) (hx : inv x) : (∃ k, iter f k x = some (G.eps f x)) ∧ Post x (G.eps f x) := by
  obtain ⟨k, r, hk, hp⟩ := eps_iter h (μ x + 1) x (Nat.lt_succ_self _) hx
  rw [eps_eq hk]
  exact ⟨⟨k, hk⟩, hp⟩
theorem round_g {cx : Cx} {id : Nat} {c : Code} {live outs : List Nat} {ins out : List PK} {sh : Bool} {pre : PKs.den ins → Bool} (g g' : PKs.den ins → (Nat × PKs.den out) × Bxs.den ins) (x : PKs.den ins) :
    roundRun cx id c ⟨live, outs, ins, out, sh, pre, g⟩ x = roundRun cx id c ⟨live, outs, ins, out, sh, pre, g'⟩ x := by kernel_rfl
theorem lp_eps {P : Program} {cx : Cx} (hcx : CxOk P cx) (hmix : P.follows .mixedOrders = true) {id : Nat} {c : Code} {live outs : List Nat} {ins out : List PK} {sh : Bool} {pre : PKs.den ins → Bool} {g0 : PKs.den ins → (Nat × PKs.den out) × Bxs.den ins}
    (hB : lpB cx.ntmps c ⟨live, outs, ins, out, sh, pre, g0⟩ = true) (hlps : LpsOk P cx c) {inv : PKs.den ins → Prop} {μ : PKs.den ins → Nat} {Post : PKs.den ins → (Nat × PKs.den out) × Bxs.den ins → Prop} (h0 : ∀ x, pre x = true → inv x)
    (h : ∀ x, inv x → EpsOk inv μ Post x (roundK cx id c ⟨live, outs, ins, out, sh, pre, g0⟩ x)) {g : PKs.den ins → (Nat × PKs.den out) × Bxs.den ins} (hg : ∀ x, g x = G.eps (roundK cx id c ⟨live, outs, ins, out, sh, pre, g0⟩) x) :
    LpOk P cx.ntmps id c ⟨live, outs, ins, out, sh, pre, g⟩ := by
  unfold lpB at hB
  simp only [Bool.and_eq_true] at hB
  obtain ⟨h1, h2, h3⟩ := hB
  refine lp_ok hcx hmix h1 hlps h2 h3 fun x hx => ?_
  obtain ⟨⟨k, hk⟩, _⟩ := eps_ok h x (h0 x hx)
  refine ⟨k, ?_⟩
  have e : roundRun cx id c ⟨live, outs, ins, out, sh, pre, g⟩ = roundK cx id c ⟨live, outs, ins, out, sh, pre, g0⟩ := by
    funext y
    rw [round_g g g0, roundK_eq]
  rw [e]
  show iter _ k x = some (g x)
  rw [hg, hk]
end Go.Rx

/-
  ENGINE, part P: every operation does what its plan says.
  Seat-independent.
-/
import Derived.Test.YtoagkidolpcigaaRxO
import Derived.Laws.StructEq
import Derived.Laws.BytesString
namespace Go.Rx
open Go Go.RowKit
set_option linter.unusedVariables false
set_option linter.unusedSimpArgs false

/-- Structs that may be compared cell by cell. -/
def eqB (P : Program) : Tab → Bool
  | [] => true
  | (t, i) :: r => cond i.eq (match P.underlying t with
      | some (.struct fs) => !P.stoodInHeld t && (!P.eqGuardType P.depth t && fieldsB P fs.toList 0 i.tys)
      | _ => false) true && eqB P r
def EqOk (P : Program) (T : Tab) : Prop := ∀ t i, T.get t = some i → i.eq = true →
  ∃ fs, P.underlying t = some (.struct fs) ∧ P.stoodInHeld t = false ∧ P.eqGuardType P.depth t = false ∧ fieldsB P fs.toList 0 i.tys = true
theorem eqB_ok {P : Program} : ∀ {T : Tab}, eqB P T = true → EqOk P T
  | [], _, _, _, h, _ => by cases h
  | (k, j) :: r, hb, t, i, h, he => by
    simp only [eqB, Bool.and_eq_true] at hb
    simp only [Tab.get] at h
    cases hk : Nat.beq k t with
    | true =>
      rw [hk] at h
      cases h
      obtain rfl := beq_true hk
      have hb := hb.1
      rw [he] at hb
      simp only [cond_true] at hb
      split at hb
      · rename_i fs hu
        simp only [Bool.and_eq_true, Bool.not_eq_true'] at hb
        exact ⟨fs, hu, hb.1, hb.2.1, hb.2.2⟩
      · cases hb
    | false =>
      rw [hk] at h
      exact eqB_ok hb.2 t i h he

section
variable {P : Program} {T : Tab} {m : Mem} {g : Nat → Value} {S : Nat → Prop} {w : World}

theorem pureP_ok {v : A} {p : Plan} {r : Res} {M : Mem} (h : pureP v = some p) (hr : p.go M = some r) : r.ws = [] ∧ r.v = v := by
  cases h
  cases hr
  exact ⟨rfl, rfl⟩
theorem pureC_ok {cs : List Bool} {v : A} {p : Plan} {r : Res} {M : Mem} (h : pureC cs v = some p) (hr : p.go M = some r) : r.ws = [] ∧ r.v = v ∧ r.cs = cs := by
  cases h
  cases hr
  exact ⟨rfl, rfl, rfl⟩

theorem All2.drop {α β : Type} {R : α → β → Prop} : ∀ {as : List α} {bs : List β} (k : Nat), All2 R as bs → All2 R (as.drop k) (bs.drop k)
  | _, _, 0, h => h
  | [], [], _ + 1, h => h
  | _ :: as, _ :: bs, k + 1, h => All2.drop (as := as) (bs := bs) k h.2
theorem All2.take {α β : Type} {R : α → β → Prop} : ∀ {as : List α} {bs : List β} (k : Nat), All2 R as bs → All2 R (as.take k) (bs.take k)
  | [], [], 0, h => trivial
  | _ :: _, _ :: _, 0, h => trivial
  | [], [], _ + 1, h => trivial
  | _ :: as, _ :: bs, k + 1, h => ⟨h.1, All2.take (as := as) (bs := bs) k h.2⟩

/-! ### binary operations -/
theorem run_shl_ok (t : Nat) (k k' : IntKind) (a b : Int) (h : 0 ≤ b) : (binOp .shl t (.int k a) (.int k' b)).run P w = .ok (.int k (k.wrap (a * 2 ^ (min b.toNat k.bits)))) w := by
  have h' : ¬ b < 0 := by omega
  simp [binOp, Op.shift, h']
theorem run_shr_ok (t : Nat) (k k' : IntKind) (a b : Int) (h : 0 ≤ b) : (binOp .shr t (.int k a) (.int k' b)).run P w = .ok (.int k (a.fdiv (2 ^ (min b.toNat k.bits)))) w := by
  have h' : ¬ b < 0 := by omega
  simp [binOp, Op.shift, h']
theorem binV_ok (hT : TabOk P T) (hE : EqOk P T) {t : Nat} {op : BinOp} {a b : Operand} {x y : A} {vx vy : Value} (hx : Ac m g S w x vx) (hy : Ac m g S w y vy) {cs : List Bool} {c : C} (h : binV T t op x y = some (cs, c)) (hc : cs.all (fun b => b) = true) :
    ∃ v, (do eqGuard op t a b vx vy; binOp op t vx vy : Sem Value).run P w = .ok v w ∧ Cc m g S w c v := by
  unfold binV at h
  split at h
  · rename_i k a' k' b'
    have hx : vx = .int k a' := hx
    have hy : vy = .int k' b' := hy
    subst hx hy
    simp only [Sem.run_bind, eqGuard_int, Result.andThen_ok]
    split at h
    · cases h
      simp at hc
      exact ⟨_, run_shl_ok t k k' a' b' hc, rfl⟩
    · cases h
      simp at hc
      exact ⟨_, run_shr_ok t k k' a' b' hc, rfl⟩
    · rename_i h1 h2
      split at h
      · rename_i hk
        subst hk
        obtain ⟨v, hr, hv⟩ := intBin_ok (P := P) (w := w) (t := t) h hc h1 h2
        exact ⟨v, hr, hv m g S w⟩
      · cases h
  · rename_i a' b'
    have hx : vx = .string a' := hx
    have hy : vy = .string b' := hy
    subst hx hy
    simp only [Sem.run_bind, eqGuard_str, Result.andThen_ok]
    obtain ⟨v, hr, hv⟩ := strBin_ok (P := P) (w := w) (t := t) h hc
    exact ⟨v, hr, hv m g S w⟩
  · rename_i a' b'
    have hx : vx = .bool a' := hx
    have hy : vy = .bool b' := hy
    subst hx hy
    simp only [Sem.run_bind, eqGuard_bool, Result.andThen_ok]
    split at h
    · rename_i i hi
      obtain ⟨hb, h⟩ := cond_some h
      obtain ⟨dsc, hd, _, _, _, _, hbb, _⟩ := (hT t i hi).und
      rw [hbb hb] at hd
      obtain ⟨v, hr, hv⟩ := boolBin_ok (P := P) (w := w) (t := t) h hd
      exact ⟨v, hr, hv m g S w⟩
    · cases h
  · rename_i xs ys
    obtain ⟨us, rfl, hus⟩ := hx
    obtain ⟨vs, rfl, hvs⟩ := hy
    split at h
    · rename_i i hi
      obtain ⟨hb, h⟩ := cond_some h
      obtain ⟨he, hb⟩ := and_true hb
      obtain ⟨tx, ty⟩ := and_true hb
      obtain ⟨fs, hu, hst, hgd, hfs⟩ := hE t i hi he
      have hf : P.fieldsOf t = fs := by simp [Program.fieldsOf, hu]
      have key : ∀ r, cellsEq xs ys = some r → (Op.equalIn 10000 t (.agg us.toArray) (.agg vs.toArray)).run P w = .ok r w := fun r hr => by
        rw [run_equalIn_struct w 9999 t us.toArray vs.toArray (by rw [hf]; exact hu) hst, hf]
        exact eqFields_ok (d := 9998) hfs hr tx ty hus hvs (fun j u hj => by simpa using hj) (fun j u hj => by simpa using hj)
      simp only [Sem.run_bind, run_eqGuard_agg w op t a b _ _ hgd, Result.andThen_ok]
      split at h
      · cases hr : cellsEq xs ys with
        | none => rw [hr] at h; cases h
        | some r =>
          rw [hr] at h
          cases h
          exact ⟨.bool r, by rw [run_eql_struct, key r hr]; rfl, rfl⟩
      · cases hr : cellsEq xs ys with
        | none => rw [hr] at h; cases h
        | some r =>
          rw [hr] at h
          cases h
          exact ⟨.bool (!r), by rw [run_neq_struct, key r hr]; rfl, rfl⟩
      · cases h
    · cases h
  · cases h

/-! ### conversions -/
theorem bytesOf_eq (xs : List (Tys.den (.cons (.int .u8) .nil))) : ((xs.map fun r => (show Int from r.1)).foldl (fun r n => r.push (UInt8.ofNat n.toNat)) ByteArray.empty) = bytesOf xs := by
  have key : ∀ (xs : List (Tys.den (.cons (.int .u8) .nil))) (s : ByteArray), ((xs.map fun r => (show Int from r.1)).foldl (fun r n => r.push (UInt8.ofNat n.toNat)) s) = ⟨s.data ++ (xs.map fun r => UInt8.ofNat (show Int from r.1).toNat).toArray⟩ := by
    intro xs
    induction xs with
    | nil =>
      intro s
      simp
    | cons x xs ih =>
      intro s
      rw [List.map_cons, List.foldl_cons, ih]
      congr 1
      show s.data.push _ ++ _ = _
      simp
  rw [key]
  show _ = (⟨_⟩ : ByteArray)
  congr 1
  show #[] ++ _ = _
  simp

theorem conv_ok (hT : TabOk P T) (hm : MRel m g S w) {src dst : Nat} {x : A} {v : Value} (hx : Ac m g S w x v) {p : Plan} (hp : convP T src dst x = some p) {r : Res} (hr : p.go (restr (p.rd ++ p.wr) m) = some r) :
    r.ws = [] ∧ ∃ val, (convert src dst v).run P w = .ok val w ∧ Ac m g S w r.v val := by
  unfold convP at hp
  split at hp
  · rename_i j i hj hi
    obtain ⟨ds, hds, _⟩ := (hT src j hj).und
    obtain ⟨dd, hdd, _, _, hint, hstr, _⟩ := (hT dst i hi).und
    split at hp
    · rename_i k n
      split at hp
      · rename_i k' hk
        obtain ⟨h1, h2⟩ := pureP_ok hp hr
        have hx : v = .int k n := hx
        subst hx
        rw [hint k' hk] at hdd
        refine ⟨h1, _, ?_, by rw [h2]; exact rfl⟩
        simp [convert, run_underlying' hds, run_underlying' hdd, Conv.intToInt]
      · cases hp
    · rename_i yc _
      obtain ⟨hb, hp⟩ := cond_some hp
      obtain ⟨hs, hu⟩ := and_true hb
      rw [hstr hs] at hdd
      unfold isU8 at hu
      split at hu
      · rename_i e je hel
        split at hu
        · rename_i hk
          obtain ⟨hsl, hje⟩ := elemI_ok hT hel
          obtain ⟨de, hde, _, _, hie, _⟩ := hje.und
          rw [hie _ hk] at hde
          cases hp
          simp only [List.append_nil] at hr
          rw [toD_restr fun id h => h] at hr
          split at hr
          · rename_i xs hxs
            cases hr
            refine ⟨rfl, ?_⟩
            have hrd := toD_ok hm (S' := fun b => S b ∨ ∃ id, own m g id = some b) (fun b h => .inl h) hxs hx fun id _ b hb => .inr ⟨id, hb⟩
            obtain ⟨a, c, rfl, hl, hrow⟩ := hrd
            rw [run_convert_bytes_string w src dst e a _ c hsl hde hdd]
            cases a with
            | none =>
              have : (show List (Tys.den (.cons (.int .u8) .nil)) from xs) = [] := by
                cases hc : (show List (Tys.den (.cons (.int .u8) .nil)) from xs) with
                | nil => rfl
                | cons z zs =>
                  obtain ⟨ad, had, _⟩ := hrow 0 z (by rw [hc]; rfl)
                  cases had
              refine ⟨.string ByteArray.empty, rfl, ?_⟩
              show _ = Value.string (bytesOf _)
              rw [← bytesOf_eq]
              have this' : xs = [] := this
              subst this'
              rfl
            | some ad =>
              refine ⟨_, run_bytesToString w ad _ c ((show List (Tys.den (.cons (.int .u8) .nil)) from xs).map fun r => (show Int from r.1)) ?_, ?_⟩
              · have := run_loadCells_list (P := P) (w := w) ad ((show List (Tys.den (.cons (.int .u8) .nil)) from xs).map fun r => Value.int .u8 (show Int from r.1)) (fun q u hq => by
                  rw [List.getElem?_map] at hq
                  cases hz : (show List (Tys.den (.cons (.int .u8) .nil)) from xs)[q]? with
                  | none => rw [hz] at hq; cases hq
                  | some z =>
                    rw [hz] at hq
                    obtain ⟨ad', had, _, ⟨u', h1, h2⟩, _⟩ := hrow q z hz
                    cases had
                    cases hq
                    have h1 : w.cell? (ad.add (q * 1)) = some u' := h1
                    rw [Nat.mul_one] at h1
                    rw [h1]
                    exact congrArg some h2)
                rw [List.length_map] at this
                rw [this, List.map_map]
                rfl
              · show _ = Value.string (bytesOf _)
                rw [← bytesOf_eq]
          · cases hr
        · cases hu
      · cases hu
    · cases hp
  · cases hp

/-! ### addresses, fields -/
theorem run_fieldAt {s f off ft : Nat} {i j : TyI} (hT : TabOk P T) (hi : T.get s = some i) (ho : i.offs[f]? = some (off, ft)) (hj : T.get ft = some j) (h1 : Nat.ble 1 j.size = true) (a : Addr) : (Instr.fieldAt s (.pointer (some a)) f).run P w = .ok (.pointer (some (a.add off))) w := by
  obtain ⟨dsc, hd, _, _, _, _, _, hf, _⟩ := (hT s i hi).und
  obtain ⟨fs, fd, rfl, hfd, hoff, hft⟩ := hf f off ft ho
  obtain ⟨inf, hinf, hsz, _⟩ := (hT ft j hj).info
  have h2 := Nat.le_of_ble_eq_true h1
  have h3 : inf.size ≠ 0 := by omega
  unfold Instr.fieldAt
  simp only [Sem.run_bind, run_underlying' hd, Result.andThen_ok, hfd, Instr.sureAddr, Sem.run_pure, fieldPlace, hft, run_sizeOf' hinf, h3, if_false, hoff]
theorem add_box (b off k : Nat) : (⟨b, off, none⟩ : Addr).add k = ⟨b, off + k, none⟩ := by
  unfold Go.Addr.add
  by_cases hk : k = 0
  · subst hk
    simp
  · simp [hk]
theorem addr_ok (hT : TabOk P T) (hm : MRel m g S w) {s f off ft : Nat} {i j : TyI} (hi : T.get s = some i) (ho : i.offs[f]? = some (off, ft)) (hj : T.get ft = some j) (h1 : Nat.ble 1 j.size = true) {x : A} {v : Value} (hx : Ac m g S w x v) {p : Plan} (hp : addrP off x = some p) {r : Res} (hr : p.go (restr (p.rd ++ p.wr) m) = some r) :
    r.ws = [] ∧ ∃ val, (Instr.fieldAt s v f).run P w = .ok val w ∧ Ac m g S w r.v val := by
  unfold addrP at hp
  split at hp
  · rename_i ts row
    obtain ⟨h2, h3⟩ := pureP_ok hp hr
    obtain ⟨ad, rfl, hS, hrow⟩ := hx
    refine ⟨h2, _, run_fieldAt hT hi ho hj h1 ad, ?_⟩
    rw [h3]
    have := hrow.drop (m := off)
    rw [Nat.zero_add] at this
    exact vptr_of (m := m) (g := g) hS this
  · rename_i id ver o
    cases hp
    simp only [List.append_nil] at hr
    rw [restr_in (List.mem_singleton.2 rfl)] at hr
    split at hr
    · rename_i n cs hb
      obtain ⟨hv, hr1⟩ := cond_some hr
      obtain rfl := beq_true hv
      cases hr1
      obtain ⟨b, hg, rfl⟩ := ptr_live hb hx
      refine ⟨rfl, _, run_fieldAt hT hi ho hj h1 _, ?_, rfl⟩
      unfold PtrOk
      rw [hb]
      exact .inr ⟨rfl, b, hg, by rw [add_box]⟩
    · cases hr
  · rename_i id ver k o
    cases hp
    simp only [List.append_nil] at hr
    rw [restr_in (List.mem_singleton.2 rfl)] at hr
    split at hr
    · rename_i n e xs hb
      obtain ⟨hv, hr1⟩ := cond_some hr
      obtain rfl := beq_true hv
      cases hr1
      obtain ⟨b, l, c, hg, rfl⟩ := eptr_arr hb hx
      refine ⟨rfl, _, run_fieldAt hT hi ho hj h1 _, ?_, rfl⟩
      unfold EptrOk
      rw [hb]
      exact .inr ⟨rfl, b, l, c, hg, by rw [add_box]; congr 3; omega⟩
    · cases hr
  · cases hp

theorem nil_ok (hm : MRel m g S w) {x : A} {v : Value} (hx : Ac m g S w x v) {p : Plan} (hp : nilP x = some p) {r : Res} (hr : p.go (restr (p.rd ++ p.wr) m) = some r) :
    r.ws = [] ∧ r.v = x ∧ ((∃ a, v = .pointer (some a)) ∨ ∃ f vs, v = .func (.func f) #[] vs) := by
  unfold nilP at hp
  split at hp
  · obtain ⟨h2, h3⟩ := pureP_ok hp hr
    obtain ⟨ad, rfl, _⟩ := hx
    exact ⟨h2, h3, .inl ⟨ad, rfl⟩⟩
  · obtain ⟨h2, h3⟩ := pureP_ok hp hr
    obtain ⟨vs, rfl, _⟩ := hx
    exact ⟨h2, h3, .inr ⟨_, _, rfl⟩⟩
  · cases hp
    simp only [List.append_nil] at hr
    rw [restr_in (List.mem_singleton.2 rfl)] at hr
    split at hr
    · rename_i n cs hb
      obtain ⟨hv, hr1⟩ := cond_some hr
      obtain rfl := beq_true hv
      cases hr1
      obtain ⟨b, hg, rfl⟩ := ptr_live hb hx
      exact ⟨rfl, rfl, .inl ⟨_, rfl⟩⟩
    · cases hr
  · cases hp
    simp only [List.append_nil] at hr
    rw [restr_in (List.mem_singleton.2 rfl)] at hr
    split at hr
    · rename_i n e xs hb
      obtain ⟨hv, hr1⟩ := cond_some hr
      obtain rfl := beq_true hv
      cases hr1
      obtain ⟨b, l, c, hg, rfl⟩ := eptr_arr hb hx
      exact ⟨rfl, rfl, .inl ⟨_, rfl⟩⟩
    · cases hr
  · cases hp

theorem field_ok (hT : TabOk P T) {s f off ft : Nat} {i j : TyI} (hi : T.get s = some i) (ho : i.offs[f]? = some (off, ft)) (hj : T.get ft = some j) {cs : List C} {x : A} {v : Value} (hx : Ac m g S w (.v (.agg cs)) v) (hl : Nat.ble (off + j.size) cs.length = true)
    (hA : aggOf j.agg ((cs.drop off).take j.size) = some x) : ∃ val, (Instr.field s v f).run P w = .ok val w ∧ Ac m g S w x val := by
  obtain ⟨dsc, hd, _, _, _, _, _, hf, _⟩ := (hT s i hi).und
  obtain ⟨fs, fd, rfl, hfd, hoff, hft⟩ := hf f off ft ho
  obtain ⟨inf, hinf, hsz, _⟩ := (hT ft j hj).info
  obtain ⟨dj, hdj, hag, _⟩ := (hT ft j hj).und
  obtain ⟨vs, rfl, hvs⟩ := hx
  have hle := Nat.le_of_ble_eq_true hl
  have hlen := hvs.length
  have hpart := (hvs.drop off).take j.size
  have key : ∃ val, (part ft vs.toArray off).run P w = .ok val w ∧ Ac m g S w x val := by
    unfold part
    unfold aggOf at hA
    rw [Sem.run_bind, run_isAgg' hdj]
    cases hg : j.agg with
    | true =>
      rw [hg] at hA hag
      cases hA
      simp only [Result.andThen_ok, hag, if_true, Sem.run_bind, run_sizeOf' hinf, Sem.run_pure, hsz]
      refine ⟨_, rfl, _, ?_, hpart⟩
      congr 1
      simp [List.extract_eq_take_drop]
    | false =>
      rw [hg] at hA hag
      simp only [cond_false] at hA
      match hc : (cs.drop off).take j.size, hA with
      | [c], hA =>
        cases hA
        rw [hc] at hpart
        match hv : (vs.drop off).take j.size, hpart with
        | [u], hpart =>
          have hu : vs[off]? = some u := by
            have : ((vs.drop off).take j.size)[0]? = some u := by rw [hv]; rfl
            rw [List.getElem?_take] at this
            split at this
            · simpa using this
            · cases this
          refine ⟨u, ?_, hpart.1⟩
          simp [Result.andThen_ok, hag, hu]
  obtain ⟨val, h1, h2⟩ := key
  refine ⟨val, ?_, h2⟩
  unfold Instr.field
  simp only [Sem.run_bind, run_underlying' hd, Result.andThen_ok, hfd, asAgg, Sem.run_pure, hft, hoff, h1]

theorem bytes_get (s : ByteArray) (i : Nat) (h : i < s.size) : s[i]? = some (s.data.getD i 0) := by
  have hl : i < s.data.size := h
  rw [getElem?_pos s i h]
  congr 1
  show s.data[i] = _
  simp only [Array.getD]
  rw [dif_pos hl]
  rfl
theorem run_index_str {t : Nat} (hd : P.underlying t = some .string) (k : IntKind) (s : ByteArray) (n : Int) (c1 : 0 ≤ n) (c2 : n < (s.size : Int)) : (Instr.index t (.string s) (.int k n)).run P w = .ok (.int .u8 (bt s n)) w := by
  unfold Instr.index
  simp only [Sem.run_bind, asIntOf, Sem.run_pure, Result.andThen_ok, run_underlying' hd, c1, if_true]
  rw [bytes_get s n.toNat (by omega)]
  rfl
theorem caps_ok {ev : Operand → A} {ρ : Operand → Value} (hev : ∀ x, Ac m g S w (ev x) (ρ x)) : ∀ {l : List Operand} {caps : List (Nat × Nat × Nat)}, capsOf ev l = some caps → All2 (fun p v => PtrOk m g p.1 p.2.1 p.2.2 v ∧ v.oneCell' = true) caps (l.map ρ)
  | [], caps, h => by
    simp [capsOf] at h
    subst h
    trivial
  | x :: l, caps, h => by
    unfold capsOf at h
    split at h
    · rename_i id ver off l' h1 h2
      cases h
      have := hev x
      rw [h1] at this
      exact ⟨this, caps_ok hev h2⟩
    · cases h

/-! ### calls -/
theorem run_callFunc {f : Nat} (h : callable P f) (vs : Array Value) : (callFunc f vs).run P w = .ok (.enter f vs) w := by
  obtain ⟨fn, hf, hn, hb⟩ := h
  unfold callFunc
  cases hc : fn.body with
  | none => rw [hc] at hb; cases hb
  | some c => simp [run_program, hf, hn, hc]

theorem pickSp_mem : ∀ {l : List Spec} {xs : List A} {sp : Spec}, pickSp l xs = some sp → sp ∈ l
  | [], _, _, h => by cases h
  | s :: l, xs, sp, h => by
    unfold pickSp at h
    cases hf : fits s.ins xs with
    | true =>
      rw [hf] at h
      cases h
      exact List.mem_cons_self ..
    | false =>
      rw [hf] at h
      exact List.mem_cons_of_mem _ (pickSp_mem h)
theorem args_map {ev : Operand → A} {ρ : Operand → Value} (hev : ∀ x, Ac m g S w (ev x) (ρ x)) : ∀ l : List Operand, All2 (Ac m g S w) (l.map ev) (l.map ρ)
  | [] => trivial
  | x :: l => ⟨hev x, args_map hev l⟩
/-! ### slices of what there is -/
theorem slice_ok (hT : TabOk P T) (hm : MRel m g S w) {ev : Operand → A} {ρ : Operand → Value} (hev : ∀ x, Ac m g S w (ev x) (ρ x)) {mv pt : Bool} {t : Nat} {x : Operand} {lo hi : Option Operand} {p : Plan} (hp : sliceP T mv pt t (ev x) (lo.map ev) (hi.map ev) = some p)
    {r : Res} (hr : p.go (restr (p.rd ++ p.wr) m) = some r) (hc : r.cs.all (fun b => b) = true) : ∃ v', (Instr.sliceAt t (ρ x) (lo.map ρ) (hi.map ρ) none).run P w = .ok v' w ∧ Post m g S w (updL m r.ws) r.v v' w := by
  have hx := hev x
  unfold sliceP at hp
  split at hp
  · rename_i l h hl hh
    obtain ⟨kl, el⟩ := boundI_ok (x := none) hev hl
    obtain ⟨kh, eh⟩ := boundI_ok (x := none) hev hh
    rw [el, eh]
    split at hp
    · -- a string
      rename_i s hs
      rw [hs] at hx
      have hx : ρ x = .string s := hx
      split at hp
      · cases hp
      · rename_i i hi'
        obtain ⟨hb, hp⟩ := cond_some hp
        obtain ⟨h1, h2, h3⟩ := pureC_ok hp hr
        obtain ⟨dsc, hd, _, _, _, hst, _⟩ := (hT t i hi').und
        rw [hst hb] at hd
        rw [h3] at hc
        simp only [List.all_cons, List.all_nil, Bool.and_true, Bool.and_eq_true, decide_eq_true_eq] at hc
        obtain ⟨c1, c2, c3, c4⟩ := hc
        rw [hx, h1, h2]
        exact ⟨_, run_slice_str hd (s := s) l h c3 c4 c2 c1, g, S, hm, Evo.refl _ _ _ _, rfl⟩
    · -- data
      rename_i e xs hs
      rw [hs] at hx
      split at hp
      · rename_i el' j hj
        obtain ⟨hsz, hp⟩ := cond_some hp
        obtain ⟨h1, h2, h3⟩ := pureC_ok hp hr
        obtain ⟨ht, hje⟩ := elemI_ok hT hj
        obtain ⟨inf, hinf, hisz, _⟩ := hje.info
        rw [h3] at hc
        simp only [List.all_cons, List.all_nil, Bool.and_true, Bool.and_eq_true, decide_eq_true_eq] at hc
        obtain ⟨c1, c2, c3, c4⟩ := hc
        obtain ⟨a, c, hv, hlc, hrow⟩ := id hx
        have hx' : Rd w S (.sl e) xs (ρ x) := hx
        dsimp only at hv hlc c1 c2 c3 c4
        rw [hv] at hx' ⊢
        refine ⟨_, run_slice_sl ht hinf l h c3 c4 (by omega) c1, ?_⟩
        rw [h1, h2, hisz, beq_true hsz]
        exact ⟨g, S, hm, Evo.refl _ _ _ _, Rd.slice (fun _ h => h) hx' (by omega) (by omega)⟩
      · cases hp
    · -- rows of an object
      rename_i id ver hs
      rw [hs] at hx
      split at hp
      · cases hp
      · rename_i el' j hj
        obtain ⟨ht, hje⟩ := elemI_ok hT hj
        obtain ⟨inf, hinf, hisz, _⟩ := hje.info
        cases hmv : Bool.and mv l.isNone with
        | true =>
          rw [hmv] at hp
          simp only [cond_true, Option.some.injEq] at hp
          subst hp
          simp only [List.nil_append] at hr
          rw [restr_in (List.mem_singleton.2 rfl)] at hr
          split at hr
          · rename_i n e xs ho
            obtain ⟨hb, hr1⟩ := cond_some hr
            clear hr
            obtain ⟨hver, hsz⟩ := and_true hb
            obtain rfl := beq_true hver
            cases hr1
            simp only [List.all_cons, List.all_nil, Bool.and_true, Bool.and_eq_true, decide_eq_true_eq] at hc
            obtain ⟨c1, c2⟩ := hc
            obtain ⟨_, hnone⟩ := and_true hmv
            cases l with
            | some l => cases hnone
            | none =>
              rw [ref_arr ho hx]
              rcases arr_live hm ho with ⟨hga, hxs⟩ | ⟨b, c, vs, E, hga, hw, hlc, hz, hrows⟩
              · subst hxs
                rw [hga]
                have c2' : h.getD 0 = 0 := by
                  have : (h.getD ((([] : List e.den).length : Nat) : Int)) = h.getD 0 := rfl
                  simp only [List.length_nil] at c1 c2
                  have e0 : ((0 : Nat) : Int) = 0 := rfl
                  rw [e0] at c1 c2
                  omega
                refine ⟨_, run_slice_sl (kl := kl) (kh := kh) ht hinf none h (by simp) (by simpa using c1) (by simpa using c2) (by simpa using c1), ?_⟩
                have ev' : (Value.slice (if (0 : Nat) = ((none : Option Int).getD 0).toNat then none else (none : Option Addr).map (·.add (((none : Option Int).getD 0).toNat * inf.size))) ((h.getD ((0 : Nat) : Int)).toNat - ((none : Option Int).getD 0).toNat) (0 - ((none : Option Int).getD 0).toNat)) = .slice none 0 0 := by
                  have : (h.getD ((0 : Nat) : Int)) = 0 := c2'
                  rw [this]
                  rfl
                rw [ev']
                refine append_post hm (sv := g id) (.inl ?_) (fun b hb => ?_) (.inl ⟨rfl, by simp⟩) (fun _ _ _ => rfl) rfl rfl rfl (Nat.le_refl _) (fun b hb => by cases hb)
                · rw [ho]
                  exact Nat.lt_succ_self _
                · rw [hga] at hb
                  cases hb
              · rw [hga]
                refine ⟨_, run_slice_sl (kl := kl) (kh := kh) ht hinf none h (by simp) (by simpa using c1) (by omega) (by simpa using c1), ?_⟩
                have hk : (h.getD (xs.length : Int)).toNat ≤ xs.length := by omega
                have ev' : (Value.slice (if c = ((none : Option Int).getD 0).toNat then some ⟨b, 0, none⟩ else (some (⟨b, 0, none⟩ : Addr)).map (·.add (((none : Option Int).getD 0).toNat * inf.size))) ((h.getD (xs.length : Int)).toNat - ((none : Option Int).getD 0).toNat) (c - ((none : Option Int).getD 0).toNat)) =
                    .slice (some ⟨b, 0, none⟩) (xs.take (h.getD (xs.length : Int)).toNat).length c := by
                  have e1 : (xs.take (h.getD (xs.length : Int)).toNat).length = (h.getD (xs.length : Int)).toNat := by
                    rw [List.length_take]
                    omega
                  rw [e1]
                  simp [Go.Addr.add]
                rw [ev']
                refine append_post hm (sv := g id) (.inl ?_) (fun b' hb => ?_) (.inr ⟨b, c, vs, E, rfl, hw, by rw [List.length_take]; omega, hz, fun i r hi => ?_⟩) (fun _ _ _ => rfl) rfl rfl rfl (Nat.le_refl _) (fun b' hb => ?_)
                · rw [ho]
                  exact Nat.lt_succ_self _
                · rw [own_arr ho]
                  exact hb
                · rw [List.getElem?_take] at hi
                  split at hi
                  · exact hrows i r hi
                  · cases hi
                · rw [hga]
                  exact .inl hb
          · cases hr
        | false =>
          rw [hmv] at hp
          simp only [cond_false] at hp
          cases hpt : pt with
          | true =>
            rw [hpt] at hp
            simp only [cond_true, Option.some.injEq] at hp
            subst hp
            simp only [List.append_nil] at hr
            rw [restr_in (List.mem_singleton.2 rfl)] at hr
            split at hr
            · rename_i n e xs ho
              obtain ⟨hb, hr1⟩ := cond_some hr
              clear hr
              obtain ⟨hver, hsz⟩ := and_true hb
              obtain rfl := beq_true hver
              cases hr1
              simp only [List.all_cons, List.all_nil, Bool.and_true, Bool.and_eq_true, decide_eq_true_eq] at hc
              obtain ⟨c1, c2, c3, c4⟩ := hc
              have hg : ∃ (a : Option Addr) (c : Nat), g id = .slice a xs.length c ∧ xs.length ≤ c := by
                rcases arr_live hm ho with ⟨hg, hx⟩ | ⟨b, c, vs, E, hg, _, hlc, _⟩
                · refine ⟨none, 0, ?_, ?_⟩
                  · rw [hg, hx]
                    rfl
                  · rw [hx]
                    exact Nat.le_refl _
                · exact ⟨_, _, hg, hlc⟩
              obtain ⟨a, c, hg, hlc⟩ := hg
              rw [ref_arr ho hx, hg]
              refine ⟨_, run_slice_sl (kl := kl) (kh := kh) ht hinf l h c3 c4 (by omega) c1, g, S, hm, Evo.refl _ _ _ _, ?_, rfl⟩
              show PartOk m g id ver (l.getD 0).toNat (h.getD (xs.length : Int)).toNat _
              unfold PartOk
              rw [ho]
              refine .inr ⟨rfl, a, xs.length, c, hg, by omega, by omega, hlc, ?_⟩
              rw [hisz, beq_true hsz]
            · cases hr
          | false =>
          rw [hpt] at hp
          simp only [cond_false, Option.some.injEq] at hp
          subst hp
          simp only [List.nil_append] at hr
          rw [restr_in (List.mem_singleton.2 rfl)] at hr
          split at hr
          · rename_i n e xs ho
            obtain ⟨hb, hr1⟩ := cond_some hr
            clear hr
            obtain ⟨hver, hsz⟩ := and_true hb
            obtain rfl := beq_true hver
            cases hr1
            simp only [List.all_cons, List.all_nil, Bool.and_true, Bool.and_eq_true, decide_eq_true_eq] at hc
            obtain ⟨c1, c2, c3, c4⟩ := hc
            obtain ⟨S', hm', he', hs'⟩ := evo_frz hm id
            have hfrz : upd m id (frzOb (m id)) id = .frz ver e xs := by rw [upd_same, ho]; rfl
            have hrd := frz_rd hm' hfrz
            rw [upd_same] at hrd
            rw [ref_arr ho hx]
            have hrd2 := hrd
            obtain ⟨a, c, hga, hlc, _⟩ := hrd2
            dsimp only at hga hlc
            rw [hga] at hrd ⊢
            refine ⟨_, run_slice_sl (kl := kl) (kh := kh) ht hinf l h c3 c4 (by omega) c1, upd g id (g id), S', ?_, ?_, ?_⟩
            · show MRel (upd m id (.frz ver e xs)) _ S' w
              have e0 : Ob.frz ver e xs = frzOb (m id) := by rw [ho]; rfl
              rw [e0]
              exact hm'
            · show Evo m g S w (upd m id (.frz ver e xs)) _ S' w
              have e0 : Ob.frz ver e xs = frzOb (m id) := by rw [ho]; rfl
              rw [e0]
              exact he'
            · rw [hisz, beq_true hsz]
              exact Rd.slice (fun _ h => h) hrd (by omega) (by omega)
          · rename_i n e xs ho
            obtain ⟨hb, hr1⟩ := cond_some hr
            clear hr
            obtain ⟨hver, hsz⟩ := and_true hb
            obtain rfl := beq_true hver
            cases hr1
            simp only [List.all_cons, List.all_nil, Bool.and_true, Bool.and_eq_true, decide_eq_true_eq] at hc
            obtain ⟨c1, c2, c3, c4⟩ := hc
            have hrd := frz_rd hm ho
            rw [ref_frz ho hx]
            have hrd2 := hrd
            obtain ⟨a, c, hga, hlc, _⟩ := hrd2
            dsimp only at hga hlc
            rw [hga] at hrd ⊢
            refine ⟨_, run_slice_sl (kl := kl) (kh := kh) ht hinf l h c3 c4 (by omega) c1, g, S, hm, Evo.refl _ _ _ _, ?_⟩
            rw [hisz, beq_true hsz]
            exact Rd.slice (fun _ h => h) hrd (by omega) (by omega)
          · cases hr
    · cases hp
  · cases hp

theorem toList_one {α : Type} {a : Array α} {x : α} (h : a.toList = [x]) : a = #[x] := by
  cases a
  simp at h
  subst h
  rfl
theorem toList_two {α : Type} {a : Array α} {x y : α} (h : a.toList = [x, y]) : a = #[x, y] := by
  cases a
  simp at h
  subst h
  rfl

theorem caps_args : ∀ {caps : List (Nat × Nat × Nat)} {vs : List Value}, All2 (fun p v => PtrOk m g p.1 p.2.1 p.2.2 v ∧ v.oneCell' = true) caps vs → All2 (Ac m g S w) (caps.map capA) vs
  | [], [], _ => trivial
  | _ :: _, _ :: _, h => ⟨h.1, caps_args h.2⟩

theorem pick_one {ev : Operand → A} {ρ : Operand → Value} (hev : ∀ x, Ac m g S w (ev x) (ρ x)) {l : List Operand} {x : Operand} (h : l = [x]) : l.toArray.map ρ = #[ρ x] := by
  subst h
  simp

theorem op_sound {Φ : Nat → List Spec} {mv : Nat → Bool} (hT : TabOk P T) (hE : EqOk P T) (hΦ : ∀ f sp, sp ∈ Φ f → SpecOk P f sp) (hm : MRel m g S w) {o : Oper} {ev : Operand → A} {ρ : Operand → Value} (hev : ∀ x, Ac m g S w (ev x) (ρ x))
    {bid : Nat} {p : Plan} (hp : opPlan T Φ mv bid m o ev = some p) {r : Res} (hr : p.go (restr (p.rd ++ p.wr) m) = some r) (hc : r.cs.all (fun b => b) = true) : OpOk P o ρ m g S w (updL m r.ws) r.v := by
  have fin : ∀ val, r.ws = [] → (execOp ρ o).run P w = .ok (.value val) w → Ac m g S w r.v val → OpOk P o ρ m g S w (updL m r.ws) r.v := fun val h1 h2 h3 => by
    rw [h1]
    exact OpOk.pure hm val h2 h3
  obtain ⟨dst, op, type, pos, after, guard⟩ := o
  cases op with
  | move x =>
    obtain ⟨h1, h2⟩ := pureP_ok hp hr
    exact fin _ h1 rfl (h2 ▸ hev x)
  | assign x =>
    obtain ⟨h1, h2⟩ := pureP_ok hp hr
    exact fin _ h1 rfl (h2 ▸ hev x)
  | pick c a b =>
    simp only [opPlan] at hp
    split at hp
    · rename_i pb hpb
      have h0 := hev c
      rw [hpb] at h0
      have h0 : ρ c = .bool pb := h0
      have hrun : (execOp ρ ⟨dst, .pick c a b, type, pos, after, guard⟩).run P w = .ok (.value (if (show Bool from pb) = true then ρ a else ρ b)) w := by
        simp only [execOp, h0, asBool, Sem.run_bind, Sem.run_pure, Result.andThen_ok]
      split at hp
      · rename_i x y hx hy
        obtain ⟨h1, h2⟩ := pureP_ok hp hr
        refine fin _ h1 hrun ?_
        rw [h2]
        have ha := hev a
        have hb := hev b
        rw [hx] at ha
        rw [hy] at hb
        have hh : ∀ q : Bool, Ac m g S w (A.bool (cond q (show Bool from x) (show Bool from y))) (if q = true then ρ a else ρ b) := fun q => by
          cases q
          · exact hb
          · exact ha
        exact hh pb
      · obtain ⟨h1, h2⟩ := pureP_ok hp hr
        refine fin _ h1 hrun ?_
        rw [h2]
        have hh : ∀ q : Bool, Ac m g S w (cond q (ev a) (ev b)) (if q = true then ρ a else ρ b) := fun q => by
          cases q
          · exact hev b
          · exact hev a
        exact hh pb
    · cases hp
  | binOp op t x y y' =>
    simp only [opPlan] at hp
    split at hp
    · rename_i cs v hv
      obtain ⟨h1, h2, h3⟩ := pureC_ok hp hr
      rw [h3] at hc
      obtain ⟨val, hrun, hval⟩ := binV_ok hT hE (a := x) (b := y) (hev x) (hev y) hv hc
      refine fin val h1 ?_ (h2 ▸ hval)
      simp only [Sem.run_bind] at hrun
      simp only [execOp, Sem.run_bind]
      generalize (eqGuard op t x y (ρ x) (ρ y)).run P w = q at hrun ⊢
      cases q with
      | ok u w1 =>
        simp only [Result.andThen_ok] at hrun ⊢
        rw [hrun]
        rfl
      | halt e w1 => cases hrun
    · cases hp
  | unOp op t x =>
    cases op with
    | not =>
      simp only [opPlan] at hp
      split at hp
      · rename_i b hb
        obtain ⟨h1, h2⟩ := pureP_ok hp hr
        have h0 := hev x
        rw [hb] at h0
        have h0 : ρ x = .bool b := h0
        exact fin (.bool (!b)) h1 (by simp [execOp, h0, Op.unary]) (h2 ▸ rfl)
      · cases hp
    | neg =>
      simp only [opPlan] at hp
      split at hp
      · rename_i k n hb
        obtain ⟨h1, h2⟩ := pureP_ok hp hr
        have h0 := hev x
        rw [hb] at h0
        have h0 : ρ x = .int k n := h0
        exact fin (.int k (k.wrap (0 - n))) h1 (by simp [execOp, h0, Op.unary, Op.intArith]) (h2 ▸ rfl)
      · cases hp
    | _ => cases hp
  | convert src dst' x =>
    obtain ⟨h1, val, h2, h3⟩ := conv_ok hT hm (hev x) hp hr
    exact fin val h1 (by simp [execOp, h2]) h3
  | fieldAddr s x f =>
    simp only [opPlan] at hp
    split at hp
    · rename_i i hi
      split at hp
      · rename_i off ft ho
        split at hp
        · rename_i j hj
          obtain ⟨hz, hp⟩ := cond_some hp
          obtain ⟨h1, val, h2, h3⟩ := addr_ok hT hm hi ho hj hz (hev x) hp hr
          exact fin val h1 (by simp [execOp, h2]) h3
        · cases hp
      · cases hp
    · cases hp
  | field s x f =>
    simp only [opPlan] at hp
    split at hp
    · rename_i i hi
      split at hp
      · rename_i off ft cs ho hx
        split at hp
        · rename_i j hj
          obtain ⟨hl, hp⟩ := cond_some hp
          cases hA : aggOf j.agg ((cs.drop off).take j.size) with
          | none => rw [hA] at hp; cases hp
          | some y =>
            rw [hA] at hp
            obtain ⟨h1, h2⟩ := pureP_ok hp hr
            have h0 := hev x
            rw [hx] at h0
            obtain ⟨val, h3, h4⟩ := field_ok hT hi ho hj h0 hl hA
            exact fin val h1 (by simp [execOp, h3]) (h2 ▸ h4)
        · cases hp
      · cases hp
    · cases hp
  | indexAddr t x i =>
    simp only [opPlan] at hp
    split at hp
    · rename_i n hn
      obtain ⟨k, hk⟩ := asInt_ok hn (hev i)
      obtain ⟨h1, val, h2, h3⟩ := idx_ok hT hm (hev x) (iv := k) hp hr hc
      exact fin val h1 (by simp [execOp, hk, h2]) h3
    · cases hp
  | index t x i =>
    simp only [opPlan] at hp
    split at hp
    · rename_i s n hs hn
      split at hp
      · cases hp
      · rename_i j hj
        obtain ⟨hb, hp⟩ := cond_some hp
        obtain ⟨h1, h2, h3⟩ := pureC_ok hp hr
        obtain ⟨k, hk⟩ := asInt_ok hn (hev i)
        have h0 := hev x
        rw [hs] at h0
        have h0 : ρ x = .string s := h0
        obtain ⟨dsc, hd, _, _, _, hst, _⟩ := (hT t j hj).und
        rw [hst hb] at hd
        rw [h3] at hc
        simp at hc
        obtain ⟨c1, c2⟩ := hc
        refine fin (.int .u8 (bt s n)) h1 ?_ (h2 ▸ rfl)
        simp only [execOp, h0, hk, run_index_str hd k s n c1 c2, Sem.run_bind, Result.andThen_ok]
        rfl
    · cases hp
  | load t x =>
    obtain ⟨h1, val, h2, h3⟩ := load_ok hT hm (hev x) hp hr hc
    exact fin val h1 (by simp [execOp, h2]) h3
  | store t x y =>
    obtain ⟨w', h2, h3⟩ := store_ok hT hm (hev x) (hev y) hp hr hc
    exact .inr (.inl ⟨w', by simp [execOp, h2], h3⟩)
  | alloc t =>
    simp only [opPlan] at hp
    split at hp
    · rename_i i hi
      obtain ⟨_, hp⟩ := cond_some hp
      cases hp
      simp only [List.nil_append] at hr
      rw [restr_in (List.mem_singleton.2 rfl)] at hr
      obtain ⟨hd, hr⟩ := cond_some hr
      cases hr
      obtain ⟨v', w', h1, h2⟩ := alloc_ok hT hm hi hd
      exact .inl ⟨v', w', by simp [execOp, h1], h2⟩
    · cases hp
  | box t x =>
    simp only [opPlan] at hp
    split at hp
    · rename_i v hv
      obtain ⟨h1, hp⟩ := cond_some hp
      cases hp
      simp only [List.nil_append] at hr
      rw [restr_in (List.mem_singleton.2 rfl)] at hr
      obtain ⟨hd, hr⟩ := cond_some hr
      cases hr
      have h0 := hev x
      rw [hv] at h0
      obtain ⟨v', w', h2, h3⟩ := boxv_ok (P := P) (t := t) hm h1 h0 hd
      exact .inl ⟨v', w', by simp [execOp, h2], h3⟩
    · cases hp
  | build t ps =>
    simp only [opPlan] at hp
    split at hp
    · rename_i i l hi hl
      split at hp
      · rename_i pl pls hpl
        split at hp
        · rename_i cs hcs
          obtain ⟨h1, h2⟩ := pureP_ok hp hr
          obtain ⟨v, h3, h4⟩ := build_ok hT hi (partsC_ok hev hl) hpl hcs
          refine fin v h1 ?_ (h2 ▸ h4)
          have e : (ps.map fun (i, x) => (i, ρ x)) = (ps.toList.map fun p => (p.1, ρ p.2)).toArray := by
            rw [← Array.toList_map]
          simp only [execOp, e, Sem.run_bind, h3]
          rfl
        · cases hp
      · cases hp
    · cases hp
  | buildSlice t len ps =>
    simp only [opPlan] at hp
    split at hp
    · rename_i l hl
      obtain ⟨v, w', h3, h4⟩ := buildSlice_ok hT hm (partsC_ok hev hl) hp hr
      refine .inl ⟨v, w', ?_, h4⟩
      have e : (ps.map fun (i, x) => (i, ρ x)) = (ps.toList.map fun p => (p.1, ρ p.2)).toArray := by
        rw [← Array.toList_map]
      simp only [execOp, e, Sem.run_bind, h3]
      rfl
    · cases hp
  | makeSlice t l c =>
    obtain ⟨v, w', h3, h4⟩ := makeSlice_ok hT hm (hev l) (hev c) hp hr hc
    exact .inl ⟨v, w', by simp [execOp, h3], h4⟩
  | makeMap t x =>
    cases x with
    | some _ => cases hp
    | none =>
      obtain ⟨_, hp⟩ := cond_some hp
      cases hp
      simp only [List.nil_append] at hr
      rw [restr_in (List.mem_singleton.2 rfl)] at hr
      obtain ⟨hd, hr⟩ := cond_some hr
      cases hr
      obtain ⟨v', w', h2, h3⟩ := map_new (P := P) (t := t) hm hd
      exact .inl ⟨v', w', by simp [execOp, h2], h3⟩
  | insert t x k y =>
    obtain ⟨w', h2, h3⟩ := insert_ok hT hm (hev x) (hev k) (hev y) hp hr
    exact .inr (.inl ⟨w', by simp [execOp, h2], h3⟩)
  | mapUpdate t x k y =>
    obtain ⟨w', h2, h3⟩ := insert_ok hT hm (hev x) (hev k) (hev y) hp hr
    exact .inr (.inl ⟨w', by simp [execOp, h2], h3⟩)
  | lookup t x k ok =>
    cases ok with
    | true => cases hp
    | false =>
      obtain ⟨h1, val, h2, h3⟩ := lookup_ok hT hm (hev x) (hev k) hp hr
      exact fin val h1 (by simp [execOp, h2]) h3
  | extract x i =>
    simp only [opPlan] at hp
    split at hp
    · rename_i vs hvs
      split at hp
      · rename_i v hv
        obtain ⟨h1, h2⟩ := pureP_ok hp hr
        have h0 := hev x
        rw [hvs] at h0
        obtain ⟨us, hu, hus⟩ := h0
        obtain ⟨u, hu1, hu2⟩ := hus.get hv
        refine fin u h1 ?_ (h2 ▸ hu2)
        simp [execOp, hu, Instr.extract, hu1]
      · cases hp
    · cases hp
  | nilCheck x =>
    obtain ⟨h1, h2, h3⟩ := nil_ok hm (hev x) hp hr
    refine fin (ρ x) h1 ?_ (h2 ▸ hev x)
    rcases h3 with ⟨a, h3⟩ | ⟨f, vs, h3⟩ <;> simp only [execOp] <;> rw [h3] <;> rfl
  | makeFunc fn first caps =>
    cases fn with
    | func f =>
      simp only [opPlan] at hp
      obtain ⟨hz, hp⟩ := cond_some hp
      cases hl : capsOf ev caps.toList with
      | none => rw [hl] at hp; cases hp
      | some l =>
        rw [hl] at hp
        obtain ⟨h1, h2⟩ := pureP_ok hp hr
        have hz' : first = #[] := Array.size_eq_zero_iff.1 (beq_true hz)
        subst hz'
        refine fin (.func (.func f) #[] (caps.toList.map ρ).toArray) h1 ?_ ?_
        · have e : caps.map ρ = (caps.toList.map ρ).toArray := by rw [← Array.toList_map]
          have e2 : (#[] : Array Operand).map ρ = #[] := by simp
          simp only [execOp, e, e2, Instr.makeFunc, Sem.run_bind, Sem.run_pure, Result.andThen_ok]
        · rw [h2]
          exact ⟨_, rfl, caps_ok hev hl⟩
    | _ => cases hp
  | slice t x lo hi mx =>
    cases mx with
    | some z => cases hp
    | none =>
      obtain ⟨v', h1, h2⟩ := slice_ok hT hm hev hp hr hc
      exact .inl ⟨v', w, by simp [execOp, h1], h2⟩
  | call c =>
    simp only [opPlan] at hp
    split at hp
    · rename_i hcal
      split at hp
      · rename_i x t hx ht
        obtain ⟨h1, val, h2, h3⟩ := len_ok (ty := type) hT hm (hev x) hp hr
        refine fin val h1 ?_ h3
        simp [execOp, resolve, hcal, toList_one hx, toList_one ht, invoke, builtin, h2]
      · cases hp
    · rename_i hcal
      split at hp
      · rename_i x y t t' hx ht
        obtain ⟨htt, hp1⟩ := cond_some hp
        clear hp
        obtain rfl := beq_true htt
        obtain ⟨v', w', h1, h2⟩ := append_ok (ty := type) hT hm (hev x) (hev y) hp1 hr hc
        refine .inl ⟨v', w', ?_, h2⟩
        simp [execOp, resolve, hcal, toList_two hx, toList_two ht, invoke, builtin, h1]
      · cases hp
    · rename_i hcal
      split at hp
      · rename_i x y hx
        split at hp
        · rename_i k a k' b ha hb
          obtain ⟨h1, h2⟩ := pureP_ok hp hr
          have e1 := hev x
          have e2 := hev y
          rw [ha] at e1
          rw [hb] at e2
          have e1 : ρ x = .int k a := e1
          have e2 : ρ y = .int k' b := e2
          refine fin (.int k (if b > a then b else a)) h1 ?_ (h2 ▸ rfl)
          simp [execOp, resolve, hcal, toList_two hx, invoke, builtin, e1, e2, Builtin.max_, Builtin.max2]
        · cases hp
      · cases hp
    · rename_i hcal
      split at hp
      · rename_i x y hx
        split at hp
        · rename_i k a k' b ha hb
          obtain ⟨h1, h2⟩ := pureP_ok hp hr
          have e1 := hev x
          have e2 := hev y
          rw [ha] at e1
          rw [hb] at e2
          have e1 : ρ x = .int k a := e1
          have e2 : ρ y = .int k' b := e2
          refine fin (.int k (if b < a then b else a)) h1 ?_ (h2 ▸ rfl)
          simp [execOp, resolve, hcal, toList_two hx, invoke, builtin, e1, e2, Builtin.min_, Builtin.min2]
        · cases hp
      · cases hp
    · rename_i x hcal
      split at hp
      · rename_i f caps hf
        split at hp
        · rename_i sp hsp
          obtain ⟨hcall, hruns⟩ := hΦ f sp (pickSp_mem hsp)
          have h0 := hev x
          rw [hf] at h0
          obtain ⟨vs, hvs, hcaps⟩ := h0
          have hargs := (args_map hev c.args.toList).append (caps_args hcaps)
          have key := call_post hm hruns hargs hp hr hc
          refine .inr (.inr ⟨f, _, ?_, key⟩)
          have e : c.args.map ρ = (c.args.toList.map ρ).toArray := by rw [← Array.toList_map]
          simp only [execOp, resolve, hcal, hvs, Deferred.ofValue, Sem.run_bind, Sem.run_pure, Result.andThen_ok, invoke, run_callFunc hcall, e]
          congr 2
          simp
        · cases hp
      · cases hp
    · cases hp
  | _ => cases hp
end
end Go.Rx

/- Addresses, loads, cuts, parts. -/
import Derived.Test.YtpgmkoaklpkecaaDoorEng4
set_option linter.unusedVariables false
set_option linter.unusedSimpArgs false
namespace Go.Proofs.YtpgmkoaklpkecaaDoor.Eng

section
variable {X : Nat → Prop} {nt : Nat} {env : Env} {st : AState} {a : Act} {w : World} {P : Program} {T : TypeId → Option TS} {R : Type} {F : Option Nat → Nat → Prop}

theorem add_at (b o n : Nat) : (⟨b, o, none⟩ : Addr).add n = ⟨b, o + n, none⟩ := by
  unfold Addr.add
  split <;> simp_all

/-! ### What a slice's value shows -/
structure View where
  e : Ty
  xs : List e.D
  tag : Option Nat
  ex : Bool

def aview (st : AState) : AV → Option View
  | .sl e xs tag ex => some ⟨e, xs, tag, ex⟩
  | .own id => match st.hp id with
    | .row _ e xs => some ⟨e, xs, some id, false⟩
    | _ => none
  | .pre id n => match st.hp id with
    | .row _ e xs => some ⟨e, xs.take n, some id, false⟩
    | _ => none
  | _ => none

theorem okT_own (hR : Rel X nt env st a w) {id b : Nat} (hl : (st.hp id).live = true) (hb : env.blk id = some b) : okT X st.hp env (some id) b :=
  ⟨fun _ => (hR.lt id b hl hb).2, fun j hj hne he => hne (by rw [hR.inj j id b hj hl he hb])⟩
theorem okT_none {k : Nat} {tag : Option Nat} (h : okT X st.hp env none k) : okT X st.hp env tag k := ⟨fun _ => h.1 (by simp), fun j hj _ => h.2 j hj (by simp)⟩

theorem Cells.tag {tag : Option Nat} {e : Ty} {x : e.D} {cs : List Value} (h : Cells w (okT X st.hp env none) e x cs) : Cells w (okT X st.hp env tag) e x cs :=
  Cells.move (fun k hk _ => ⟨okT_none hk, rfl⟩) e h

theorem aview_sound (hR : Rel X nt env st a w) {av : AV} {v : Value} (hv : RelV (okT X st.hp env) env w av v) {V : View} (h : aview st av = some V) :
    ∃ A c, v = .slice A V.xs.length c ∧ V.xs.length ≤ c ∧ c ≤ maxLen ∧ (V.ex = true → c = V.xs.length) ∧ SlP w (okT X st.hp env V.tag) V.e.sz (Cells w (okT X st.hp env V.tag) V.e) V.xs A := by
  unfold aview at h
  split at h
  · injection h with h; subst h; exact hv
  · split at h
    · rename_i id _ t e xs hh
      injection h with h; subst h
      have ho := hR.hp id
      rw [hh] at ho
      obtain ⟨A, c, h1, h2, h3, h4, _⟩ := hdr_row ho
      refine ⟨A, c, by rw [hv.1, h1], h2, h3, (fun h => by cases h), ?_⟩
      by_cases hne : xs = []
      · exact .inl hne
      · obtain ⟨g, c', k1, k2, k3⟩ := own_row ho hne
        rw [k1] at h1
        injection h1 with h1 _ _
        refine .inr ⟨g, 0, h1.symm, okT_own hR (by rw [hh]) k2, fun i hi => ?_⟩
        obtain ⟨cs, c1, c2, c3⟩ := k3 i hi
        exact ⟨cs, c1.tag, c2, c3⟩
    · cases h
  · split at h
    · rename_i id n _ t e xs hh
      injection h with h; subst h
      have ho := hR.hp id
      rw [hh] at ho
      obtain ⟨A, c, h1, h2, h3, h4, _⟩ := hdr_row ho
      obtain ⟨A', l, c', v1, v2, v3, v4, v5⟩ := hv
      rw [h1] at v2
      injection v2 with v2a v2b v2c
      subst v2a v2b v2c
      have hl : (xs.take n).length = n := by rw [List.length_take]; omega
      refine ⟨A, c, by rw [hl]; exact v1, (by show (xs.take n).length ≤ c; omega), h3, (fun h => by cases h), ?_⟩
      by_cases hne : xs = []
      · exact .inl (by subst hne; simp)
      · obtain ⟨g, c', k1, k2, k3⟩ := own_row ho hne
        rw [k1] at h1
        injection h1 with h1 _ _
        refine .inr ⟨g, 0, h1.symm, okT_own hR (by rw [hh]) k2, fun i hi => ?_⟩
        have hi' : i < xs.length := by have : i < (xs.take n).length := hi; omega
        obtain ⟨cs, c1, c2, c3⟩ := k3 i hi'
        refine ⟨cs, ?_, c2, c3⟩
        rw [List.getElem_take]
        exact c1.tag
    · cases h
  · cases h

/-! ### Fields' addresses -/
def aField (T : TypeId → Option TS) (s : TypeId) (f : Nat) (x : AV) (K : AV → Option R) : Option R :=
  match T s with
  | some ⟨.st fs, _, _, _⟩ => match fs[f]? with
    | some (off, ft) => match T ft with
      | some ts => cond (Nat.beq ts.size 0) none (match x with
        | .ptr id o => K (.ptr id (o + off))
        | .ep e xs i o tag => cond (Nat.blt (o + off) e.sz) (K (.ep e xs i (o + off) tag)) none
        | .op id e i o => cond (Nat.blt (o + off) e.sz) (K (.op id e i (o + off))) none
        | _ => none)
      | none => none
    | none => none
  | _ => none

theorem blt_iff {a b : Nat} : Nat.blt a b = true ↔ a < b := by rw [Nat.blt_eq]

theorem run_fieldAt {s : TypeId} {fields : Array Field} {f : Nat} {fd : Field} {b o : Nat} {i : TypeInfo} (hu : P.underlying s = some (.struct fields)) (hf : fields[f]? = some fd) (hi : P.info? fd.type = some i) (hz : i.size ≠ 0) :
    (Instr.fieldAt s (.pointer (some ⟨b, o, none⟩)) f).run P w = .ok (.pointer (some ⟨b, o + fd.offset, none⟩)) w := by
  simp [Instr.fieldAt, run_underlying hu, hf, Instr.sureAddr, fieldPlace, run_sizeOf' hi, hz, add_at]

theorem aField_sound (hT : TOK P T) {s : TypeId} {f : Nat} {x : AV} {u : Value} {K : AV → Option R} {r : R} (hx : RelV F env w x u) (h : aField T s f x K = some r) :
    ∃ av z, K av = some r ∧ (∀ w1 : World, (Instr.fieldAt s u f).run P w1 = .ok z w1) ∧ RelV F env w av z := by
  unfold aField at h
  split at h
  case h_2 => cases h
  rename_i fs _ _ _ hs
  split at h
  case h_2 => cases h
  rename_i off ft hf
  split at h
  case h_2 => cases h
  rename_i ts hft
  obtain ⟨d, u1, fields, rfl, e1⟩ := hT.under hs
  obtain ⟨i, i1, i2, _⟩ := hT.info hft
  obtain ⟨fd, hfd, e2⟩ : ∃ fd, fields[f]? = some fd ∧ (fd.offset, fd.type) = (off, ft) := by
    rw [← e1, List.getElem?_map] at hf
    cases hq : fields.toList[f]? with
    | none => rw [hq] at hf; cases hf
    | some fd => rw [hq] at hf; exact ⟨fd, by simpa using hq, by simpa using hf⟩
  injection e2 with e2 e3
  subst e2 e3
  cases hz : Nat.beq ts.size 0 with
  | true => rw [hz] at h; cases h
  | false =>
    rw [hz] at h
    have hz' : i.size ≠ 0 := by rw [i2]; exact beq_false.1 hz
    simp only [cond_false] at h
    split at h
    · obtain ⟨b, hb, rfl⟩ := hx
      exact ⟨_, _, h, fun w1 => run_fieldAt u1 hfd i1 hz', ⟨b, hb, rfl⟩⟩
    · rename_i e xs i0 o tag
      cases hl : Nat.blt (o + fd.offset) e.sz with
      | false => rw [hl] at h; cases h
      | true =>
        rw [hl] at h
        obtain ⟨b, o1, rfl, h1, h2, h3⟩ := hx
        exact ⟨_, _, h, fun w1 => run_fieldAt u1 hfd i1 hz', ⟨b, o1, by simp only [Nat.add_assoc], h1, blt_iff.1 hl, h3⟩⟩
    · rename_i id e i0 o
      cases hl : Nat.blt (o + fd.offset) e.sz with
      | false => rw [hl] at h; cases h
      | true =>
        rw [hl] at h
        obtain ⟨b, l, c, h1, h2, h3, rfl⟩ := hx
        exact ⟨_, _, h, fun w1 => run_fieldAt u1 hfd i1 hz', ⟨b, l, c, h1, h2, blt_iff.1 hl, by simp only [Nat.add_assoc]⟩⟩
    · cases h

/-! ### Elements' addresses -/
def aIndexAddr (T : TypeId → Option TS) (st : AState) (t : TypeId) (x ix : AV) (K : AV → Option R) : Option R :=
  match ix, T t with
  | .int _ i, some ⟨.sl et, _, _, _⟩ => match T et with
    | some ts => match x with
      | .sl e xs tag _ => cond (Nat.beq ts.size e.sz) (cond (decide (0 ≤ i)) (cond (decide (i < (xs.length : Int))) (K (.ep e xs i.toNat 0 tag)) none) none) none
      | .own id => match st.hp id with
        | .row _ e xs => cond (Nat.beq ts.size e.sz) (cond (decide (0 ≤ i)) (cond (decide (i < (xs.length : Int))) (K (.op id e i.toNat 0)) none) none) none
        | _ => none
      | .pre id n => match st.hp id with
        | .row _ e xs => cond (Nat.beq ts.size e.sz) (cond (decide (0 ≤ i)) (cond (decide (i < (n : Int))) (K (.op id e i.toNat 0)) none) none) none
        | _ => none
      | _ => none
    | none => none
  | .int _ i, some ⟨.arr n et, _, _, _⟩ => match T et with
    | some ts => match x with
      | .ptr id o => cond (decide (0 ≤ i)) (cond (decide (i < (n : Int))) (K (.ptr id (o + i.toNat * ts.size))) none) none
      | .ep e xs i0 o tag => cond (decide (0 ≤ i)) (cond (decide (i < (n : Int))) (cond (Nat.blt (o + i.toNat * ts.size) e.sz) (K (.ep e xs i0 (o + i.toNat * ts.size) tag)) none) none) none
      | _ => none
    | none => none
  | _, _ => none

theorem cond_some {c : Bool} {x : Option R} {r : R} (h : cond c x none = some r) : c = true ∧ x = some r := by
  cases c
  · cases h
  · exact ⟨rfl, h⟩
theorem condP_some {c : Prop} [Decidable c] {x : Option R} {r : R} (h : cond (decide c) x none = some r) : c ∧ x = some r := by
  obtain ⟨h1, h2⟩ := cond_some h
  exact ⟨of_decide_eq_true h1, h2⟩

theorem run_indexAt_sl {t et : TypeId} {k : IntKind} {i : Int} {b o l c : Nat} {ti : TypeInfo} (hu : P.underlying t = some (.slice et)) (hi : P.info? et = some ti) (h0 : 0 ≤ i) (h1 : i < (l : Int)) :
    (Instr.indexAt t (.slice (some ⟨b, o, none⟩) l c) (.int k i)).run P w = .ok (.pointer (some ⟨b, o + i.toNat * ti.size, none⟩)) w := by
  simp [Instr.indexAt, asIntOf, run_underlying hu, h0, h1, run_sizeOf' hi, add_at]
theorem run_indexAt_arr {t et : TypeId} {k : IntKind} {i : Int} {b o n : Nat} {ti : TypeInfo} (hu : P.underlying t = some (.array n et)) (hi : P.info? et = some ti) (h0 : 0 ≤ i) (h1 : i < (n : Int)) :
    (Instr.indexAt t (.pointer (some ⟨b, o, none⟩)) (.int k i)).run P w = .ok (.pointer (some ⟨b, o + i.toNat * ti.size, none⟩)) w := by
  simp [Instr.indexAt, asIntOf, run_underlying hu, h0, h1, run_sizeOf' hi, add_at, Instr.sureAddr]

theorem aIndexAddr_sound (hT : TOK P T) (hR : Rel X nt env st a w) {t : TypeId} {x ix : AV} {u v : Value} {K : AV → Option R} {r : R} (hx : RelV (okT X st.hp env) env w x u) (hv : RelV (okT X st.hp env) env w ix v)
    (h : aIndexAddr T st t x ix K = some r) : ∃ av z, K av = some r ∧ (∀ w1 : World, (Instr.indexAt t u v).run P w1 = .ok z w1) ∧ RelV (okT X st.hp env) env w av z := by
  unfold aIndexAddr at h
  split at h
  · rename_i kk i et _ _ _ ht
    obtain ⟨rfl, _⟩ := hv
    split at h
    case h_2 => cases h
    rename_i ts het
    obtain ⟨d, u1, e1⟩ := hT.under ht
    obtain rfl : d = _ := e1
    obtain ⟨ti, i1, i2, _⟩ := hT.info het
    split at h
    · rename_i e xs tag _
      obtain ⟨h1, h⟩ := cond_some h
      obtain ⟨h2, h⟩ := condP_some h
      obtain ⟨h3, h⟩ := condP_some h
      have hsz : ti.size = e.sz := by rw [i2]; exact beq_iff.1 h1
      obtain ⟨A, c, rfl, c1, c2, _, c3⟩ := hx
      rcases c3 with c3 | ⟨b, o, rfl, c3⟩
      · subst c3; simp at h3; omega
      · exact ⟨_, _, h, fun w1 => run_indexAt_sl u1 i1 h2 h3, ⟨b, o, by rw [hsz]; simp, by omega, e.sz_pos, c3⟩⟩
    · rename_i id
      split at h
      case h_2 => cases h
      rename_i t0 e xs hh
      obtain ⟨h1, h⟩ := cond_some h
      obtain ⟨h2, h⟩ := condP_some h
      obtain ⟨h3, h⟩ := condP_some h
      have hsz : ti.size = e.sz := by rw [i2]; exact beq_iff.1 h1
      have ho := hR.hp id
      rw [hh] at ho
      obtain ⟨g, c, k1, k2, _⟩ := own_row ho (by intro e; subst e; simp at h3; omega)
      obtain ⟨hx, _⟩ := hx
      subst hx
      rw [k1]
      exact ⟨_, _, h, fun w1 => run_indexAt_sl u1 i1 h2 h3, ⟨g, xs.length, c, k1, by omega, e.sz_pos, by rw [hsz]; simp⟩⟩
    · rename_i id n
      split at h
      case h_2 => cases h
      rename_i t0 e xs hh
      obtain ⟨h1, h⟩ := cond_some h
      obtain ⟨h2, h⟩ := condP_some h
      obtain ⟨h3, h⟩ := condP_some h
      have hsz : ti.size = e.sz := by rw [i2]; exact beq_iff.1 h1
      have ho := hR.hp id
      rw [hh] at ho
      obtain ⟨A, l, c, rfl, v2, v3, v4, v5⟩ := hx
      obtain ⟨A', c', w1, w2, w3, w4, w5⟩ := hdr_row ho
      rw [v2] at w1
      injection w1 with w1a w1b w1c
      subst w1a w1b w1c
      cases A with
      | none => have := (w4 rfl).2; subst this; simp at v3; omega
      | some ad =>
        obtain ⟨g, rfl, hg⟩ := w5 ad rfl
        exact ⟨_, _, h, fun w1 => run_indexAt_sl u1 i1 h2 h3, ⟨g, _, c, v2, by omega, e.sz_pos, by rw [hsz]; simp⟩⟩
    · cases h
  · rename_i kk i n et _ _ _ ht
    obtain ⟨rfl, _⟩ := hv
    split at h
    case h_2 => cases h
    rename_i ts het
    obtain ⟨d, u1, e1⟩ := hT.under ht
    obtain rfl : d = _ := e1
    obtain ⟨ti, i1, i2, _⟩ := hT.info het
    split at h
    · obtain ⟨h2, h⟩ := condP_some h
      obtain ⟨h3, h⟩ := condP_some h
      obtain ⟨b, hb, rfl⟩ := hx
      exact ⟨_, _, h, fun w1 => run_indexAt_arr u1 i1 h2 h3, ⟨b, hb, by rw [i2]⟩⟩
    · rename_i e xs i0 o tag
      obtain ⟨h2, h⟩ := condP_some h
      obtain ⟨h3, h⟩ := condP_some h
      obtain ⟨h4, h⟩ := cond_some h
      obtain ⟨b, o1, rfl, k1, k2, k3⟩ := hx
      exact ⟨_, _, h, fun w1 => run_indexAt_arr u1 i1 h2 h3, ⟨b, o1, by rw [i2]; simp only [Nat.add_assoc], k1, blt_iff.1 h4, k3⟩⟩
    · cases h
  · cases h

/-! ### Parts of values; loads -/
def apart (ts : TS) (cs : List AV) (off : Nat) (K : AV → Option R) : Option R :=
  match ts.k.isAgg with
  | true => cond (Nat.ble (off + ts.size) cs.length) (K (.agg ((cs.drop off).take ts.size))) none
  | false => match cs[off]? with
    | some v => K v
    | none => none

theorem isAgg_run {t : TypeId} {ts : TS} (hT : TOK P T) (ht : T t = some ts) (hk : ts.k ≠ .other) : (isAgg t).run P w = .ok ts.k.isAgg w := by
  obtain ⟨d, u1, e1⟩ := hT.under ht
  unfold isAgg
  cases hq : ts.k with
  | other => exact absurd hq hk
  | st fs => rw [hq] at e1; obtain ⟨fields, rfl, _⟩ := e1; simp [run_underlying u1, TK.isAgg]
  | iface => rw [hq] at e1; obtain ⟨ms, rfl⟩ := e1; simp [run_underlying u1, TK.isAgg]
  | _ => rw [hq] at e1; obtain rfl : d = _ := e1; simp [run_underlying u1, TK.isAgg]

theorem ble_iff {a b : Nat} : Nat.ble a b = true ↔ a ≤ b := by rw [Nat.ble_eq]

theorem apart_load {t : TypeId} {ts : TS} (hT : TOK P T) (ht : T t = some ts) (hk : ts.k ≠ .other) {cs : List AV} {off : Nat} {K : AV → Option R} {r : R} (h : apart ts cs off K = some r)
    {vs : List Value} {b o : Nat} (hv : RelL F env w cs vs) (hc : ∀ j v, vs[j]? = some v → w.cell? ⟨b, o + j, none⟩ = some v) :
    ∃ av z, K av = some r ∧ (∀ w1 : World, w1.heap[b]? = w.heap[b]? → (Instr.loadAt t (.pointer (some ⟨b, o + off, none⟩))).run P w1 = .ok z w1) ∧ RelV F env w av z := by
  obtain ⟨i, i1, i2, _⟩ := hT.info ht
  have hcc : ∀ w1 : World, w1.heap[b]? = w.heap[b]? → ∀ j v, vs[j]? = some v → w1.cell? ⟨b, o + j, none⟩ = some v := by
    intro w1 e j v hj
    have := hc j v hj
    unfold World.cell? at this ⊢
    simp only [e]
    exact this
  unfold apart at h
  split at h
  · rename_i ha
    obtain ⟨h1, h⟩ := cond_some h
    have h1 := ble_iff.1 h1
    have hl := RelL.length cs vs hv
    refine ⟨_, .agg ((vs.drop off).take ts.size).toArray, h, ?_, ⟨_, rfl, by simpa using RelL.take ts.size _ _ (RelL.drop off cs vs hv)⟩⟩
    intro w1 hw1
    have hlen : ((vs.drop off).take ts.size).length = i.size := by rw [List.length_take, List.length_drop, i2]; omega
    have := run_loadCells_list (P := P) w1 ⟨b, o + off, none⟩ ((vs.drop off).take ts.size) (fun j v hj => by
      rw [add_at, Nat.add_assoc]
      refine hcc w1 hw1 (off + j) v ?_
      have hj' : j < ts.size := by
        have := (List.getElem?_eq_some_iff.1 hj).1
        rw [List.length_take] at this; omega
      rw [List.getElem?_take_of_lt hj', List.getElem?_drop] at hj
      exact hj)
    rw [hlen] at this
    simp [Instr.loadAt, Instr.sureAddr, loadVar, isAgg_run hT ht hk, ha, run_sizeOf' i1, this]
  · rename_i ha
    split at h
    · rename_i v he
      obtain ⟨u, h1, h2⟩ := RelL.get cs vs hv off v he
      exact ⟨_, u, h, fun w1 hw1 => by simp [Instr.loadAt, Instr.sureAddr, loadVar, isAgg_run hT ht hk, ha, hcc w1 hw1 off u h1], h2⟩
    · cases h

def notOther : TK → Bool
  | .other => false
  | _ => true

def aLoad (T : TypeId → Option TS) (st : AState) (t : TypeId) (x : AV) (K : AV → Option R) : Option R :=
  match T t with
  | some ts => cond (notOther ts.k) (match x with
    | .ptr id o => match st.hp id with
      | .cells _ cs => apart ts cs o K
      | _ => none
    | .ep e xs i o tag => apart ts (dcells e tag (xs.getD i e.z)) o K
    | .op id e i o => match st.hp id with
      | .row _ e' xs => cond (decide (e' = e)) (apart ts (dcells e' none (xs.getD i e'.z)) o K) none
      | _ => none
    | _ => none) none
  | none => none

theorem block_cell {b : Nat} {vs : Array Value} {t : TypeId} {fr : Nat × Nat} (h : w.heap[b]? = some (.cells vs t fr)) (j : Nat) (v : Value) (hj : vs.toList[j]? = some v) : w.cell? ⟨b, 0 + j, none⟩ = some v := by
  simp only [World.cell?, h, Nat.zero_add]
  simpa using hj

/-- The block that an address leads to stands as it stood. -/
def LSame (w w1 : World) (u : Value) : Prop := ∀ ad, u = .pointer (some ad) → w1.heap[ad.block]? = w.heap[ad.block]?

theorem aLoad_sound (hT : TOK P T) (hR : Rel X nt env st a w) {t : TypeId} {x : AV} {u : Value} {K : AV → Option R} {r : R} (hx : RelV (okT X st.hp env) env w x u)
    (h : aLoad T st t x K = some r) : ∃ av z, K av = some r ∧ (∀ w1 : World, LSame w w1 u → (Instr.loadAt t u).run P w1 = .ok z w1) ∧ RelV (okT X st.hp env) env w av z := by
  unfold aLoad at h
  split at h
  case h_2 => cases h
  rename_i ts ht
  obtain ⟨hk, h⟩ := cond_some h
  have hk : ts.k ≠ .other := by intro e; rw [e] at hk; cases hk
  split at h
  · rename_i id o _
    split at h
    case h_2 => cases h
    rename_i T0 cs hh
    have ho := hR.hp id
    rw [hh] at ho
    obtain ⟨b, vs, h1, h2, h3⟩ := ho
    obtain ⟨b', hb, rfl⟩ := hx
    obtain rfl : b = b' := by rw [h1] at hb; injection hb
    obtain ⟨av, z, g1, g2, g3⟩ := apart_load hT ht hk h h3 (b := b) (o := 0) (block_cell h2)
    exact ⟨av, z, g1, fun w1 hw1 => by simpa using g2 w1 (hw1 _ rfl), g3⟩
  · rename_i e xs i o tag _
    obtain ⟨b, o1, rfl, k1, k2, k3⟩ := hx
    obtain ⟨cs, c1, c2, c3⟩ := row_get k3 i k1
    have hg : xs.getD i e.z = xs[i] := by simp [List.getD, List.getElem?_eq_getElem k1]
    rw [hg] at h
    obtain ⟨av, z, g1, g2, g3⟩ := apart_load hT ht hk h (dcells_rel e c1) (b := b) (o := o1 + i * e.sz) (fun j v hj => by
      obtain ⟨hj1, rfl⟩ := List.getElem?_eq_some_iff.1 hj
      exact c3 j hj1)
    exact ⟨av, z, g1, fun w1 hw1 => g2 w1 (hw1 _ rfl), g3⟩
  · rename_i id e i o _
    split at h
    case h_2 => cases h
    rename_i T0 e' xs hh
    obtain ⟨he, g2⟩ := condP_some h
    clear h
    subst he
    have ho := hR.hp id
    rw [hh] at ho
    obtain ⟨b, l, c', v1, v2, v3, rfl⟩ := hx
    obtain ⟨A0, c0, h1, h2, h3, h4, h5⟩ := hdr_row ho
    have hi : i < xs.length := by
      rw [v1] at h1
      injection h1 with _ h1 _
      omega
    obtain ⟨g, c, k1, k2, k3⟩ := own_row ho (by intro e; subst e; simp at hi)
    obtain ⟨cs, c1, c2, c3⟩ := k3 i hi
    rw [k1] at v1
    injection v1 with v1 _ _
    injection v1 with v1
    injection v1 with v1 _ _
    subst v1
    have hg : xs.getD i e'.z = xs[i] := by simp [List.getD, List.getElem?_eq_getElem hi]
    rw [hg] at g2
    obtain ⟨av, z, g1, g4, g3⟩ := apart_load (env := env) hT ht hk g2 (dcells_rel e' c1) (b := g) (o := 0 + i * e'.sz) (fun j v hj => by
      obtain ⟨hj1, rfl⟩ := List.getElem?_eq_some_iff.1 hj
      exact c3 j hj1)
    exact ⟨av, z, g1, fun w1 hw1 => by simpa using g4 w1 (hw1 _ rfl), g3⟩
  · cases h
end
end Go.Proofs.YtpgmkoaklpkecaaDoor.Eng

/- New objects, rows that grow, stores. -/
import Derived.Test.YtpgmkoaklpkecaaDoorEng8
import Derived.ArgAppend
import Derived.Laws.CopyRow
import Derived.Laws.MakeOwn
set_option linter.unusedVariables false
set_option linter.unusedSimpArgs false
namespace Go.Proofs.YtpgmkoaklpkecaaDoor.Eng

def Env.setB (env : Env) (x : Nat) (b : Option Nat) : Env := ⟨fun j => if j = x then b else env.blk j, env.hdr, env.sv⟩
def Env.setR (env : Env) (x : Nat) (v : Value) : Env := ⟨fun j => if j = x then v.ownBlock else env.blk j, fun j => if j = x then v else env.hdr j, env.sv⟩

section
variable {X : Nat → Prop} {nt : Nat} {env : Env} {st : AState} {a : Act} {w w' : World} {P : Program} {T : TypeId → Option TS} {R : Type} {F : Option Nat → Nat → Prop}

theorem alloc_size (o : Obj) : (w.alloc o).heap.size = w.heap.size + 1 := Array.size_push ..
theorem alloc_old (o : Obj) {k : Nat} (hk : k < w.heap.size) : (w.alloc o).heap[k]? = w.heap[k]? := by
  show (w.heap.push o)[k]? = _
  rw [Array.getElem?_push, if_neg (by omega)]
theorem alloc_new (o : Obj) : (w.alloc o).heap[w.heap.size]? = some o := Array.getElem?_push_size

/-- A new block of cells is object x. -/
theorem Rel.newCells (h : Rel X nt env st a w) (x : Nat) (t : TypeId) {vs : Array Value} {cs : List AV} (hv : RelL (okT X st.hp env) env w cs vs.toList) :
    Rel X nt (env.setB x (some w.heap.size)) (st.turn true x (.cells t (AV.killL true x cs))) a (w.alloc (.cells vs t)) ∧
    Ext env st.hp w (env.setB x (some w.heap.size)) (st.turn true x (.cells t (AV.killL true x cs))).hp (w.alloc (.cells vs t)) ∧
    RKeep env st.hp w (env.setB x (some w.heap.size)) (st.turn true x (.cells t (AV.killL true x cs))).hp (w.alloc (.cells vs t)) := by
  have henv : ∀ j, (true = true → j ≠ x) → (env.setB x (some w.heap.size)).hdr j = env.hdr j ∧ (env.setB x (some w.heap.size)).blk j = env.blk j := fun j hj => ⟨rfl, by simp [Env.setB, hj rfl]⟩
  have hbl : ∀ j, j ≠ x → (env.setB x (some w.heap.size)).blk j = env.blk j := fun j hj => (henv j fun _ => hj).2
  have hw : ∀ k, k < w.heap.size → ((st.hp x).live = true → env.blk x ≠ some k) → (w.alloc (.cells vs t)).heap[k]? = w.heap[k]? := fun k hk _ => alloc_old _ hk
  have hblk : ∀ k, (AObj.cells t (AV.killL true x cs)).live = true → (env.setB x (some w.heap.size)).blk x = some k → ((st.hp x).live = true ∧ env.blk x = some k) ∨ (w.heap.size ≤ k ∧ k < (w.alloc (.cells vs t)).heap.size) := by
    intro k _ he
    simp [Env.setB] at he
    right; rw [alloc_size]; omega
  have hsize : w.heap.size ≤ (w.alloc (.cells vs t)).heap.size := by rw [alloc_size]; omega
  refine ⟨h.turn henv hsize hw hblk ?_, Ext.turn rfl rfl rfl hbl hsize hw fun k hl he => (hblk k hl he).imp id (·.1), RKeep.turn hbl hsize (fun k hk _ => alloc_old _ hk) (fun k hl _ => by cases hl)⟩
  refine ⟨w.heap.size, vs, by simp [Env.setB], alloc_new _, RelL.kill ⟨fun tag k hne hF hk => ?_, henv⟩ cs _ hv⟩
  exact okT_turn h hbl hw (fun k hl he => (hblk k hl he).imp id (·.1)) tag k hne hF hk

/-- Object x is a row now that a law on rows has left. -/
theorem Rel.newRow (h : Rel X nt env st a w) (x : Nat) (t : TypeId) {e : Ty} {ys : List e.D} {v : Value} {ds : List Value} {row : Option Nat}
    (hrow' : ∀ k, row = some k → (st.hp x).isRow = true ∧ env.blk x = some k)
    (hown : w'.ownsRow 0 t e.sz v ys.length ds) (hflat : Flat (Cells w (okT X st.hp env none) e) ys ds) (hg : w.grownBy w' row)
    (hb : ∀ k, v.ownBlock = some k → row = some k ∨ w.heap.size ≤ k) :
    Rel X nt (env.setR x v) (st.turn true x (.row t e ys)) a w' ∧ Ext env st.hp w (env.setR x v) (st.turn true x (.row t e ys)).hp w' ∧ RelV (okT X (st.turn true x (.row t e ys)).hp (env.setR x v)) (env.setR x v) w' (.own x) v ∧ RKeep env st.hp w (env.setR x v) (st.turn true x (.row t e ys)).hp w' := by
  have hrow : ∀ k, row = some k → (st.hp x).live = true ∧ env.blk x = some k := fun k hk => ⟨AObj.live_of_row (hrow' k hk).1, (hrow' k hk).2⟩
  have henv : ∀ j, (true = true → j ≠ x) → (env.setR x v).hdr j = env.hdr j ∧ (env.setR x v).blk j = env.blk j := fun j hj => by simp [Env.setR, hj rfl]
  have hbl : ∀ j, j ≠ x → (env.setR x v).blk j = env.blk j := fun j hj => (henv j fun _ => hj).2
  have hw : ∀ k, k < w.heap.size → ((st.hp x).live = true → env.blk x ≠ some k) → w'.heap[k]? = w.heap[k]? := by
    intro k hk hn
    refine hg.block k hk fun he => ?_
    obtain ⟨h1, h2⟩ := hrow k he.symm
    exact hn h1 h2
  have hblt : ∀ k, v.ownBlock = some k → k < w'.heap.size := fun k hk => (World.ownsRow.lt hown k hk).2
  have hblk : ∀ k, (AObj.row t e ys).live = true → (env.setR x v).blk x = some k → ((st.hp x).live = true ∧ env.blk x = some k) ∨ (w.heap.size ≤ k ∧ k < w'.heap.size) := by
    intro k _ he
    simp [Env.setR] at he
    rcases hb k he with h1 | h1
    · exact .inl (hrow k h1)
    · exact .inr ⟨h1, hblt k he⟩
  have hhdr : (env.setR x v).hdr x = v := by simp [Env.setR]
  refine ⟨h.turn henv hg.size hw hblk ?_, Ext.turn hg.os hg.tape hg.output hbl hg.size hw fun k hl he => (hblk k hl he).imp id (·.1), ?_, ?_⟩
  · refine ⟨by simp [Env.setR], ds, by rw [hhdr]; exact hown, Flat.move (fun y cs hy => Cells.move (fun k hk hlt => ?_) e hy) ys ds hflat⟩
    exact okT_turn h hbl hw (fun k hl he => (hblk k hl he).imp id (·.1)) none k (by simp) hk hlt
  · refine ⟨hhdr.symm, ?_⟩
    rcases hown.2 with ⟨h1, _⟩ | ⟨g, cap, cur, h1, _⟩
    · exact ⟨none, 0, 0, h1⟩
    · exact ⟨_, _, _, h1⟩
  · refine RKeep.turn hbl hg.size (fun k hk hn => hg.block k hk fun he => ?_) (fun k _ he => ?_)
    · obtain ⟨q1, q2⟩ := hrow' k he.symm
      exact hn q1 q2
    · simp [Env.setR] at he
      rcases hb k he with q | q
      · exact .inl (hrow' k q)
      · exact .inr q

/-! ### Sources of an append -/
def Ty.flat : Ty → Bool
  | .int _ | .bool | .str => true
  | .sl _ => false
  | .pair a b => a.flat && b.flat

theorem Cells.flat {ok ok' : Nat → Prop} : (t : Ty) → t.flat = true → {x : t.D} → {cs : List Value} → Cells w ok t x cs → Cells w' ok' t x cs
  | .int k, hf, n, cs, h => h
  | .bool, hf, b, cs, h => h
  | .str, hf, xs, cs, h => h
  | .sl e, hf, xs, cs, h => by cases hf
  | .pair a b, hf, x, cs, h => by
    obtain ⟨c1, c2, h1, h2, h3⟩ := h
    simp only [Ty.flat, Bool.and_eq_true] at hf
    exact ⟨c1, c2, h1, Cells.flat a hf.1 h2, Cells.flat b hf.2 h3⟩

def castL {e' e : Ty} (xs : List e'.D) : Option (List e.D) := if h : e' = e then some (h ▸ xs) else none

def asrc (st : AState) (e : Ty) : AV → Option (List e.D)
  | .nil => some []
  | .sl e' ys tag _ => cond (e.flat || tag.isNone) (castL ys) none
  | .own j => match st.hp j with
    | .row _ e' ys => castL ys
    | _ => none
  | .pre j n => match st.hp j with
    | .row _ e' ys => castL (ys.take n)
    | _ => none
  | _ => none

/-- What a source comes to: its elements' cells, and where they stand. -/
def Src (w : World) (ok : Nat → Prop) (e : Ty) (ys : List e.D) (v : Value) : Prop :=
  ∃ A c news, v = .slice A ys.length c ∧ ys.length ≤ c ∧ c ≤ maxLen ∧ Flat (Cells w ok e) ys news ∧ (ys = [] ∨ ∃ b o, A = some ⟨b, o, none⟩ ∧ ∀ j u, news[j]? = some u → w.cell? ⟨b, o + j, none⟩ = some u)

theorem Src.of {ok ok' : Nat → Prop} {e : Ty} {ys : List e.D} {A : Option Addr} {c : Nat} (h1 : ys.length ≤ c) (h2 : c ≤ maxLen) (h : SlP w ok' e.sz (Cells w ok e) ys A) : Src w ok e ys (.slice A ys.length c) := by
  rcases h with h | ⟨b, o, hA, h3, h4⟩
  · subst h
    exact ⟨A, c, [], rfl, h1, h2, rfl, .inl rfl⟩
  · have hf := Flat.of_get (R := Cells w ok e) (sz := e.sz) (f := fun k => (w.cell? ⟨b, k, none⟩).getD undef) ys o (fun i hi => by
      obtain ⟨cs, c1, c2, c3⟩ := h4 i hi
      exact ⟨cs, c1, c2, fun j hj => by rw [c3 j hj]; rfl⟩)
    refine ⟨A, c, _, rfl, h1, h2, hf, .inr ⟨b, o, hA, fun j u hj => ?_⟩⟩
    obtain ⟨hj1, rfl⟩ := List.getElem?_eq_some_iff.1 hj
    simp only [List.length_map, List.length_range] at hj1
    simp only [List.getElem_map, List.getElem_range]
    have hsz := e.sz_pos
    have hi : j / e.sz < ys.length := (Nat.div_lt_iff_lt_mul hsz).2 hj1
    obtain ⟨cs, c1, c2, c3⟩ := h4 (j / e.sz) hi
    have hm : j % e.sz < cs.length := by rw [c2]; exact Nat.mod_lt _ hsz
    have := c3 (j % e.sz) hm
    have hj2 : o + j / e.sz * e.sz + j % e.sz = o + j := by
      have := Nat.div_add_mod j e.sz
      rw [Nat.mul_comm] at this
      omega
    rw [hj2] at this
    rw [this]; rfl

theorem asrc_sound (hR : Rel X nt env st a w) {e : Ty} {x : AV} {v : Value} {ys : List e.D} (hx : RelV (okT X st.hp env) env w x v) (h : asrc st e x = some ys) : Src w (okT X st.hp env none) e ys v := by
  unfold asrc at h
  split at h
  · injection h with h; subst h
    simp only [RelV] at hx; subst hx
    exact ⟨none, 0, [], rfl, by simp, by unfold maxLen; omega, rfl, .inl rfl⟩
  · rename_i e' zs tag _
    obtain ⟨hf, h⟩ := cond_some h
    unfold castL at h
    split at h
    case isFalse => cases h
    rename_i he
    subst he
    injection h with h; subst h
    obtain ⟨A, c, rfl, h1, h2, _, h3⟩ := hx
    have : SlP w (okT X st.hp env tag) e'.sz (Cells w (okT X st.hp env none) e') zs A := by
      rcases h3 with h3 | ⟨b, o, hA, h4, h5⟩
      · exact .inl h3
      · refine .inr ⟨b, o, hA, h4, fun i hi => ?_⟩
        obtain ⟨cs, c1, c2, c3⟩ := h5 i hi
        refine ⟨cs, ?_, c2, c3⟩
        cases hff : e'.flat with
        | true => exact Cells.flat e' hff c1
        | false =>
          rw [hff, Bool.false_or] at hf
          cases tag with
          | none => exact c1
          | some _ => cases hf
    exact Src.of h1 h2 this
  · split at h
    case h_2 => cases h
    rename_i id _ t e' zs hh
    unfold castL at h
    split at h
    case isFalse => cases h
    rename_i he
    subst he
    injection h with h; subst h
    have ho := hR.hp id
    rw [hh] at ho
    obtain ⟨A, c, h1, h2, h3, h4, _⟩ := hdr_row ho
    obtain ⟨hv, _⟩ := hx
    rw [hv, h1]
    refine Src.of (ok' := fun _ => True) h2 h3 ?_
    by_cases hne : zs = []
    · exact .inl hne
    · obtain ⟨g, c', k1, k2, k3⟩ := own_row ho hne
      rw [k1] at h1
      injection h1 with h1 _ _
      exact .inr ⟨g, 0, h1.symm, trivial, k3⟩
  · split at h
    case h_2 => cases h
    rename_i id n _ t e' zs hh
    unfold castL at h
    split at h
    case isFalse => cases h
    rename_i he
    subst he
    injection h with h; subst h
    have ho := hR.hp id
    rw [hh] at ho
    obtain ⟨A, c, h1, h2, h3, h4, _⟩ := hdr_row ho
    obtain ⟨A', l', c', v1, v2, v3, v4, v5⟩ := hx
    rw [h1] at v2
    injection v2 with v2a v2b v2c
    subst v2a v2b v2c
    show Src w (okT X st.hp env none) e' (zs.take n) v
    have hl : (zs.take n).length = n := by rw [List.length_take]; omega
    have : v = .slice A (zs.take n).length c := by rw [hl]; exact v1
    rw [this]
    refine Src.of (ok' := fun _ => True) (by omega) h3 ?_
    by_cases hne : zs = []
    · exact .inl (by rw [hne]; simp)
    · obtain ⟨g, c', k1, k2, k3⟩ := own_row ho hne
      rw [k1] at h1
      injection h1 with h1 _ _
      refine .inr ⟨g, 0, h1.symm, trivial, fun i hi => ?_⟩
      obtain ⟨cs, c1, c2, c3⟩ := k3 i (by omega)
      exact ⟨cs, by rw [List.getElem_take]; exact c1, c2, c3⟩
  · cases h

/-- append(v, ..): v nil or a row of one's own, whole or its first elements. -/
theorem run_append_src {t et : TypeId} {i : TypeInfo} {z : Value} (ty : TypeId) {e : Ty} (hu : P.underlying t = some (.slice et)) (hi : P.info? et = some i) (hz : i.zero = some z) (hsz : i.size = e.sz) (hzs : z.cells.size = e.sz)
    {v u : Value} {n : Nat} {xs : List Value} (hown : w.ownsRow 0 et e.sz v n xs) {ys : List e.D} {ok : Nat → Prop} (hs : Src w ok e ys u) (hb : (n + ys.length) * i.bytes ≤ 140737488355328) (h0 : 0 < i.bytes) :
    ∃ v' w' news, (Builtin.append_ #[t, t] ty #[v, u]).run P w = .ok v' w' ∧ w'.ownsRow 0 et e.sz v' (n + ys.length) (xs ++ news) ∧ Flat (Cells w ok e) ys news ∧ w.grownBy w' v.ownBlock ∧ (v'.ownBlock = v.ownBlock ∨ v'.ownBlock = some w.heap.size) := by
  obtain ⟨A, c, news, rfl, h1, h2, h3, h4⟩ := hs
  have hl := Flat.length (fun y cs hy => Cells.length e hy) ys news h3
  have hnm : n + ys.length ≤ 140737488355328 := Nat.le_trans (Nat.le_mul_of_pos_right _ h0) hb
  cases A with
  | some ad =>
    have hcell : ∀ j u, news[j]? = some u → w.cell? (ad.add j) = some u := by
      intro j u hj
      rcases h4 with h4 | ⟨b, o, hA, h4⟩
      · subst h4; simp at hl; subst hl; simp at hj
      · injection hA with hA
        subst hA
        rw [add_at]
        exact h4 j u hj
    have h1c : ∀ u ∈ news, u.oneCell' = true := by
      have : ∀ (zs : List e.D) (ds : List Value), Flat (Cells w ok e) zs ds → ∀ u ∈ ds, u.oneCell' = true := by
        intro zs
        induction zs with
        | nil => intro ds hd; rw [show ds = [] from hd]; simp
        | cons z zs ih =>
          rintro ds ⟨c1, c2, rfl, k1, k2⟩ u hu
          rcases List.mem_append.1 hu with hu | hu
          · exact Cells.one e k1 u hu
          · exact ih c2 k2 u hu
      exact this ys news h3
    obtain ⟨v', w', r1, r2, r3, _, r4⟩ := run_append_own_at (P := P) w 0 t ty et i z e.sz i.bytes hu hi hz hsz rfl hzs e.sz_pos v n xs hown ad ys.length c news hl hcell h1c (by unfold maxLen; omega) hb (Nat.zero_le _)
    exact ⟨v', w', news, r1, r2, h3, r3, r4⟩
  | none =>
    have hys : ys = [] := by
      rcases h4 with h4 | ⟨b, o, hA, _⟩
      · exact h4
      · cases hA
    subst hys
    refine ⟨v, w, [], ?_, by simpa using hown, rfl, ⟨rfl, rfl, rfl, Nat.le_refl _, fun _ _ _ => rfl⟩, .inl rfl⟩
    rcases hown.2 with ⟨rfl, rfl⟩ | ⟨g, cap, cur, rfl, _, _, hnc, _⟩
    · simp [Builtin.append_, run_underlying hu, run_sizeOf' hi, Builtin.lenOf, Builtin.firstCells]
    · simp [Builtin.append_, run_underlying hu, run_sizeOf' hi, Builtin.lenOf, Builtin.firstCells, hnc, storeCells]

/-! ### The operations -/
theorem run_alloc {t : TypeId} {i : TypeInfo} {z : Value} (hi : P.info? t = some i) (hz : i.zero = some z) (old : Value) : (Instr.alloc t true old).run P w = .ok (.pointer (some ⟨w.heap.size, 0, none⟩)) (w.alloc (.cells z.cells t)) := by
  simp only [Instr.alloc, zeroValue, Sem.run_bind, run_typeInfo' hi, hz, Result.andThen_ok, Sem.run_pure, newVar, newRow, run_newObj]
  rfl
theorem run_box {t : TypeId} (v : Value) : (Instr.box t v).run P w = .ok (.pointer (some ⟨w.heap.size, 0, none⟩)) (w.alloc (.cells v.cells t)) := by
  simp only [Instr.box, Sem.run_bind, Result.andThen_ok, Sem.run_pure, newVar, newRow, run_newObj]
  rfl

/-- A store of as many cells into a block of cells of one's own. -/
theorem Rel.store (h : Rel X nt env st a w) {id o : Nat} {t0 : TypeId} {cs : List AV} (hh : st.hp id = .cells t0 cs) {vs : List Value} {ns : List AV} (hv : RelL (okT X st.hp env) env w ns vs) (h1 : ∀ v ∈ vs, v.oneCell' = true) (hl : o + ns.length ≤ cs.length) :
    ∃ b w', env.blk id = some b ∧ (storeCells ⟨b, o, none⟩ vs).run P w = .ok () w' ∧ Rel X nt env (st.turn false id (.cells t0 (AV.killL false id (cs.take o ++ ns ++ cs.drop (o + ns.length))))) a w' ∧
      Ext env st.hp w env (st.turn false id (.cells t0 (AV.killL false id (cs.take o ++ ns ++ cs.drop (o + ns.length))))).hp w' := by
  have ho := h.hp id
  rw [hh] at ho
  obtain ⟨b, cur, hb, hc, hr⟩ := ho
  have hlr := RelL.length _ _ hr
  have hlv := RelL.length _ _ hv
  have hcz : cur.size = cs.length := by rw [← hlr, Array.length_toList]
  have hlive : (st.hp id).live = true := by rw [hh]
  have hrun := run_storeCells_at P b o t0 vs 0 cur w hc (by omega) h1
  simp only [Nat.add_zero] at hrun
  refine ⟨b, _, hb, hrun, ?_⟩
  have henv : ∀ j, (false = true → j ≠ id) → env.hdr j = env.hdr j ∧ env.blk j = env.blk j := fun _ _ => ⟨rfl, rfl⟩
  have hw : ∀ k, k < w.heap.size → ((st.hp id).live = true → env.blk id ≠ some k) → (w.setRow b (cur.toList.take o ++ vs ++ cur.toList.drop (o + vs.length)).toArray).heap[k]? = w.heap[k]? :=
    fun k hk hn => setRow_other w b k _ (fun e => hn hlive (by rw [hb, e]))
  have hblk : ∀ k, (AObj.cells t0 (AV.killL false id (cs.take o ++ ns ++ cs.drop (o + ns.length)))).live = true → env.blk id = some k → ((st.hp id).live = true ∧ env.blk id = some k) ∨ (w.heap.size ≤ k ∧ k < (w.setRow b (cur.toList.take o ++ vs ++ cur.toList.drop (o + vs.length)).toArray).heap.size) :=
    fun k _ he => .inl ⟨hlive, he⟩
  have hsize : w.heap.size ≤ (w.setRow b (cur.toList.take o ++ vs ++ cur.toList.drop (o + vs.length)).toArray).heap.size := by rw [setRow_size]; exact Nat.le_refl _
  refine ⟨h.turn henv hsize hw hblk ?_, Ext.turn rfl rfl rfl (fun _ _ => rfl) hsize hw fun k hl he => (hblk k hl he).imp (fun q => q) (·.1)⟩
  refine ⟨b, _, hb, setRow_heap w b cur _ t0 _ hc, ?_⟩
  refine RelL.kill (F := okT X st.hp env) (w := w) ⟨fun tag k hne hF hk => ?_, henv⟩ _ _ ?_
  · exact okT_turn h (fun _ _ => rfl) hw (fun k hl he => (hblk k hl he).imp (fun q => q) (fun q => q.1)) tag k hne hF hk
  · show RelL _ _ _ _ (cur.toList.take o ++ vs ++ cur.toList.drop (o + vs.length))
    rw [hlv]
    exact RelL.append _ _ _ _ (RelL.append _ _ _ _ (RelL.take _ _ _ hr) hv) (RelL.drop _ _ _ hr)

theorem Flat.set {α : Type} {G : α → List Value → Prop} {sz : Nat} (hG : ∀ x cs, G x cs → cs.length = sz) {y : α} {c : List Value} (hy : G y c) : (i : Nat) → (xs : List α) → (ds : List Value) → i < xs.length → Flat G xs ds →
    Flat G (xs.set i y) (ds.take (i * sz) ++ c ++ ds.drop (i * sz + sz))
  | i, [], ds, hi, h => by simp at hi
  | 0, x :: xs, ds, hi, h => by
    obtain ⟨cs, ds', rfl, hx, h⟩ := h
    refine ⟨c, ds', ?_, hy, h⟩
    have := hG _ _ hx
    simp [← this]
  | i + 1, x :: xs, ds, hi, h => by
    obtain ⟨cs, ds', rfl, hx, h⟩ := h
    have hl := hG _ _ hx
    refine ⟨cs, ds'.take (i * sz) ++ c ++ ds'.drop (i * sz + sz), ?_, hx, Flat.set hG hy i xs ds' (by simpa using hi) h⟩
    have e1 : (i + 1) * sz = cs.length + i * sz := by rw [hl, Nat.add_mul]; omega
    rw [e1, List.take_append, List.drop_append]
    simp [List.take_of_length_le, List.append_assoc, Nat.add_assoc]

theorem splice_take (cur vs : List Value) {I s N : Nat} (h1 : I + s ≤ N) (h2 : N ≤ cur.length) (hv : vs.length = s) : (cur.take I ++ vs ++ cur.drop (I + s)).take N = (cur.take N).take I ++ vs ++ (cur.take N).drop (I + s) := by
  have hl : (cur.take I ++ vs).length = I + s := by rw [List.length_append, List.length_take, hv]; omega
  rw [List.take_append, List.take_of_length_le (by omega), hl, List.take_take, Nat.min_eq_left (by omega), List.drop_take]

/-- A store of a whole element into a row of one's own. -/
theorem Rel.storeRow (h : Rel X nt env st a w) {id i : Nat} {t0 : TypeId} {e : Ty} {xs : List e.D} (hh : st.hp id = .row t0 e xs) (hi : i < xs.length) {y : e.D} {vs : List Value} (hy : Cells w (okT X st.hp env none) e y vs) :
    ∃ b c w', env.hdr id = .slice (some ⟨b, 0, none⟩) xs.length c ∧ (storeCells ⟨b, i * e.sz, none⟩ vs).run P w = .ok () w' ∧ Rel X nt env (st.turn false id (.row t0 e (xs.set i y))) a w' ∧
      Ext env st.hp w env (st.turn false id (.row t0 e (xs.set i y))).hp w' := by
  have ho := h.hp id
  rw [hh] at ho
  have hlive : (st.hp id).live = true := by rw [hh]
  have hlv := Cells.length e hy
  obtain ⟨h1, ds, h2, h3⟩ := ho
  have hsz := e.sz_pos
  have hlen : i * e.sz + e.sz ≤ xs.length * e.sz := by
    have := Nat.mul_le_mul_right e.sz (show i + 1 ≤ xs.length from hi)
    rw [Nat.add_mul] at this; omega
  rcases h2.2 with ⟨_, h4⟩ | ⟨g, cap, cur, k1, k2, k3, k4, k5, k6, k7⟩
  · omega
  have hcs : xs.length * e.sz ≤ cap * e.sz := Nat.mul_le_mul_right _ k4
  have hb : env.blk id = some g := by rw [h1, k1]; rfl
  have hrun := run_storeCells_at P g (i * e.sz) t0 vs 0 cur w k3 (by omega) (Cells.one e hy)
  simp only [Nat.add_zero] at hrun
  refine ⟨g, cap, _, k1, hrun, ?_⟩
  have henv : ∀ j, (false = true → j ≠ id) → env.hdr j = env.hdr j ∧ env.blk j = env.blk j := fun _ _ => ⟨rfl, rfl⟩
  have hw : ∀ k, k < w.heap.size → ((st.hp id).live = true → env.blk id ≠ some k) → (w.setRow g (cur.toList.take (i * e.sz) ++ vs ++ cur.toList.drop (i * e.sz + vs.length)).toArray).heap[k]? = w.heap[k]? :=
    fun k hk hn => setRow_other w g k _ (fun e => hn hlive (by rw [hb, e]))
  have hblk : ∀ k, (AObj.row t0 e (xs.set i y)).live = true → env.blk id = some k → ((st.hp id).live = true ∧ env.blk id = some k) ∨ (w.heap.size ≤ k ∧ k < (w.setRow g (cur.toList.take (i * e.sz) ++ vs ++ cur.toList.drop (i * e.sz + vs.length)).toArray).heap.size) :=
    fun k _ he => .inl ⟨hlive, he⟩
  have hsize : w.heap.size ≤ (w.setRow g (cur.toList.take (i * e.sz) ++ vs ++ cur.toList.drop (i * e.sz + vs.length)).toArray).heap.size := by rw [setRow_size]; exact Nat.le_refl _
  refine ⟨h.turn henv hsize hw hblk ?_, Ext.turn rfl rfl rfl (fun _ _ => rfl) hsize hw fun k hl he => (hblk k hl he).imp (fun q => q) (·.1)⟩
  have hds := Flat.length (fun y cs hy => Cells.length e hy) xs ds h3
  refine ⟨h1, ds.take (i * e.sz) ++ vs ++ ds.drop (i * e.sz + e.sz), ?_, ?_⟩
  · rw [List.length_set]
    refine ⟨?_, .inr ⟨g, cap, _, k1, k2, setRow_heap w g cur _ t0 _ k3, k4, k5, ?_, ?_⟩⟩
    · simp only [List.length_append, List.length_take, List.length_drop, hlv, hds]; omega
    · simp only [List.size_toArray, List.length_append, List.length_take, List.length_drop, Array.length_toList, hlv]; omega
    · show (cur.toList.take (i * e.sz) ++ vs ++ cur.toList.drop (i * e.sz + vs.length)).take (xs.length * e.sz) = ds.take (i * e.sz) ++ vs ++ ds.drop (i * e.sz + e.sz)
      rw [← k7, hlv]
      exact splice_take (N := xs.length * e.sz) _ _ hlen (by have : cur.toList.length = cur.size := Array.length_toList; omega) hlv
  · refine Flat.move (fun z cs hz => Cells.move (fun k hk hlt => ?_) e hz) _ _ (Flat.set (G := Cells w (okT X st.hp env none) e) (fun z cs hz => Cells.length e hz) hy i xs ds hi h3)
    exact okT_turn h (fun _ _ => rfl) hw (fun k hl he => (hblk k hl he).imp (fun q => q) (·.1)) none k (by simp) hk hlt
end
end Go.Proofs.YtpgmkoaklpkecaaDoor.Eng

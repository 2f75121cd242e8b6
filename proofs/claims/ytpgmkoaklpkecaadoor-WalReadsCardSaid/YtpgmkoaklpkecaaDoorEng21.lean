/- From the readings of a law's arguments to data; a law's row out of its contract. -/
import Derived.Test.YtpgmkoaklpkecaaDoorEng20
import Derived.ProofKit
import Derived.Deep.Slices
import Derived.OpenShut
set_option linter.unusedVariables false
set_option linter.unusedSimpArgs false
namespace Go.Proofs.YtpgmkoaklpkecaaDoor.Eng
open Go.ChangeShapes Go.WideShapes Go.Deep Go.RowKit

/-! ### Data that may be -/
def Ok : (t : Ty) → t.D → Prop
  | .int k, n => fits k n
  | .bool, _ => True
  | .str, xs => xs.length ≤ maxLen ∧ ∀ x ∈ xs, fits .u8 x
  | .sl e, xs => xs.length ≤ maxLen ∧ ∀ x ∈ xs, Ok e x
  | .pair a b, x => Ok a x.1 ∧ Ok b x.2
def OkS : (sig : List (Ty × Bool)) → HS sig → Prop
  | [], _ => True
  | (t, _) :: l, x => Ok t x.1 ∧ OkS l x.2

section
variable {w : World} {ok : Nat → Prop} {H : Type} {enc : TypeId × Value → H} {P : Program} {base : Nat} {sp : Nat → Bool} {hd : Bool}

theorem Cells.isOk : (t : Ty) → {x : t.D} → {cs : List Value} → Cells w ok t x cs → Ok t x
  | .int k, n, cs, h => h.2
  | .bool, b, cs, h => trivial
  | .str, xs, cs, h => by
    obtain ⟨s, _, rfl, h2⟩ := h
    refine ⟨by simpa [bytesOf] using h2, fun x hx => ?_⟩
    simp only [bytesOf, List.mem_map] at hx
    obtain ⟨b, _, rfl⟩ := hx
    exact fits_byte b
  | .sl e, xs, cs, h => by
    obtain ⟨A, c, h1, h2, h3, h4⟩ := h
    refine ⟨Nat.le_trans h2 h3, fun x hx => ?_⟩
    rcases h4 with h4 | ⟨b, o, _, h4⟩
    · rw [h4] at hx; cases hx
    · obtain ⟨i, hi, rfl⟩ := List.getElem_of_mem hx
      obtain ⟨cs', c1, _⟩ := h4.2 i hi
      exact Cells.isOk e c1
  | .pair a b, x, cs, h => by
    obtain ⟨c1, c2, _, h2, h3⟩ := h
    exact ⟨Cells.isOk a h2, Cells.isOk b h3⟩

/-! ### Readings -/
def layL (g : TypeId → Ty → Bool) (P : Program) : List (Nat × TypeId) → Nat → Ty → Bool
  | [], _, _ => false
  | [p], cur, e => Nat.beq p.1 cur && Nat.beq (P.cellsOf p.2) e.sz && g p.2 e
  | p :: l, cur, .pair a b => Nat.beq p.1 cur && Nat.beq (P.cellsOf p.2) a.sz && g p.2 a && layL g P l (cur + a.sz) b
  | _, _, _ => false

/-- The program's type is laid as this kind of data. -/
def lay (P : Program) : Nat → TypeId → Ty → Bool
  | 0, _, _ => false
  | n + 1, t, e => match P.underlying t with
    | some d => match d, e with
      | .int k, .int k' => decide (k = k')
      | .bool, .bool => true
      | .string, .str => true
      | .slice et, .sl e' => Nat.beq (P.cellsOf et) e'.sz && lay P n et e'
      | .struct fs, e => Nat.beq (P.cellsOf t) e.sz && layL (lay P n) P (fs.toList.map fun f => (f.offset, f.type)) 0 e
      | .array k et, e => Nat.beq (P.cellsOf t) e.sz && layL (lay P n) P ((List.range k).map fun i => (i * P.cellsOf et, et)) 0 e
      | _, _ => false
    | none => false

theorem layL_sound {g : TypeId → Ty → Bool} {cs : List Value} : (l : List (Nat × TypeId)) → (cur : Nat) → (e : Ty) → layL g P l cur e = true →
    (∀ p ∈ l, ∀ e, g p.2 e = true → ∃ y : e.D, Cells w ok e y ((cs.drop p.1).take (P.cellsOf p.2))) → ∃ y : e.D, Cells w ok e y ((cs.drop cur).take e.sz)
  | [], cur, e, h, hp => by cases h
  | [p], cur, e, h, hp => by
    simp only [layL, Bool.and_eq_true] at h
    obtain ⟨⟨h1, h2⟩, h3⟩ := h
    have h1 := beq_iff.1 h1
    have h2 := beq_iff.1 h2
    have := hp p (by simp) e h3
    rwa [h1, h2] at this
  | p :: q :: l, cur, .pair a b, h, hp => by
    simp only [layL, Bool.and_eq_true] at h
    obtain ⟨⟨⟨h1, h2⟩, h3⟩, h4⟩ := h
    have h1 := beq_iff.1 h1
    have h2 := beq_iff.1 h2
    obtain ⟨y, hy⟩ := hp p (by simp) a h3
    rw [h1, h2] at hy
    obtain ⟨z, hz⟩ := layL_sound (q :: l) (cur + a.sz) b h4 (fun p' hp' => hp p' (List.mem_cons_of_mem _ hp'))
    refine ⟨(y, z), _, _, ?_, hy, hz⟩
    show (cs.drop cur).take (a.sz + b.sz) = _
    rw [List.take_add, List.drop_drop]
  | p :: q :: l, cur, .int _, h, hp => by cases h
  | p :: q :: l, cur, .bool, h, hp => by cases h
  | p :: q :: l, cur, .str, h, hp => by cases h
  | p :: q :: l, cur, .sl _, h, hp => by cases h

theorem lay_sound : (n : Nat) → (t : TypeId) → (e : Ty) → lay P n t e = true → ∀ (fuel : Nat) (cs : List Value) (x : DataW H × List MemPlace), DataW.trod enc P w base sp hd fuel t cs = some x → ∃ y : e.D, Cells w (fun _ => True) e y cs
  | 0, t, e, h => by cases h
  | n + 1, t, e, h => by
    intro fuel cs x hx
    simp only [lay] at h
    split at h
    case h_2 => cases h
    rename_i d hu
    split at h
    · rename_i k k'
      have := of_decide_eq_true h
      subst this
      obtain ⟨n, rfl, _, h2⟩ := DataW.trod_int hu hx
      refine ⟨n, rfl, ?_⟩
      simp only [Lit.wf, Bool.and_eq_true, decide_eq_true_eq] at h2
      exact h2
    · obtain ⟨b, rfl, _⟩ := DataW.trod_bool hu hx
      exact ⟨b, rfl⟩
    · obtain ⟨s, rfl, _, h2⟩ := DataW.trod_string hu hx
      exact ⟨bytesOf s, s, rfl, rfl, h2⟩
    · rename_i et e'
      simp only [Bool.and_eq_true] at h
      have hsz := beq_iff.1 h.1
      rcases open_slice hu hx with ⟨rfl, _⟩ | ⟨a, len, cap, m, n', D, Pl, rfl, hb, hl, hm, hmm, rfl, hel⟩
      · exact ⟨[], none, 0, rfl, Nat.le_refl _, by unfold maxLen; omega, .inl rfl⟩
      · have hlm : len ≤ m := by rw [hmm]; split <;> omega
        have key : ∀ i, i < len → ∃ y : e'.D, ∃ cs', w.cells? base (a.add (i * P.cellsOf et)) (P.cellsOf et) = some cs' ∧ Cells w (fun _ => True) e' y cs' := fun i hi => by
          obtain ⟨cs', h1, h2⟩ := hel i (by omega)
          obtain ⟨y, hy⟩ := lay_sound n et e' h.2 n' cs' _ h2
          exact ⟨y, cs', h1, hy⟩
        have : ∃ ys : List e'.D, ys.length = len ∧ ∀ i (hi : i < ys.length), ∃ cs', w.cells? base (a.add (i * P.cellsOf et)) (P.cellsOf et) = some cs' ∧ Cells w (fun _ => True) e' ys[i] cs' := by
          clear hel hx hm hmm hlm hl
          induction len with
          | zero => exact ⟨[], rfl, fun i hi => (by cases hi)⟩
          | succ len ih =>
            obtain ⟨ys, h1, h2⟩ := ih fun i hi => key i (by omega)
            obtain ⟨y, hy⟩ := key len (by omega)
            refine ⟨ys ++ [y], by simp [h1], fun i hi => ?_⟩
            rcases Nat.lt_or_ge i ys.length with h3 | h3
            · rw [List.getElem_append_left h3]; exact h2 i h3
            · have : i = len := by simp at hi; omega
              subst this
              rw [List.getElem_append_right h3]
              simpa [h1] using hy
        obtain ⟨ys, h1, h2⟩ := this
        refine ⟨ys, some a, cap, by rw [h1], by rw [h1]; exact hl, hm, ?_⟩
        by_cases hne : ys = []
        · exact .inl hne
        · have hp : 0 < ys.length := List.length_pos_iff.2 hne
          have hspot : a.spot = none := by
            obtain ⟨cs', c1, c2⟩ := h2 0 hp
            obtain ⟨_, c3, c4⟩ := World.cells?_some c1
            have h0 := c4 0 (by rw [hsz]; exact e'.sz_pos)
            have hlt : 0 < cs'.length := by rw [c3, hsz]; exact e'.sz_pos
            rw [List.getElem?_eq_getElem hlt] at h0
            have h0 : w.cell? a = some cs'[0] := by simpa [Addr.add] using h0
            unfold World.cell? at h0
            split at h0
            · split at h0
              · cases h0
              · rename_i hs; simpa using hs
            · cases h0
          obtain ⟨b, o, s⟩ := a
          simp only at hspot
          subst hspot
          refine .inr ⟨b, o, rfl, trivial, fun i hi => ?_⟩
          obtain ⟨cs', c1, c2⟩ := h2 i hi
          obtain ⟨_, c3, c4⟩ := World.cells?_some c1
          refine ⟨cs', c2, by rw [c3, hsz], fun j hj => ?_⟩
          have := c4 j (by rw [← c3]; exact hj)
          rw [List.getElem?_eq_getElem hj] at this
          rw [← this, hsz, Deep.add_add]
          congr 1
          unfold Addr.add
          split
          · rename_i h0; simp [show i * e'.sz = 0 by omega, show j = 0 by omega]
          · simp [Nat.add_assoc]
    · rename_i fs
      simp only [Bool.and_eq_true] at h
      have hsz := beq_iff.1 h.1
      obtain ⟨xs, m, rfl, _, hl, hlen, hf⟩ := DataW.trod_struct hu hx
      obtain ⟨y, hy⟩ := layL_sound (w := w) (ok := fun _ => True) (cs := cs) _ 0 e h.2 (fun p hp e hg => by
        simp only [List.mem_map] at hp
        obtain ⟨f, hfm, rfl⟩ := hp
        obtain ⟨i, hi, rfl⟩ := List.getElem_of_mem hfm
        have hi' : i < fs.size := by simpa using hi
        have := hf i (fs[i]) (Array.getElem?_eq_getElem hi')
        rw [List.getElem?_eq_getElem (by rw [hlen]; exact hi')] at this
        exact lay_sound n _ e hg m _ _ (by simpa using this))
      rw [List.drop_zero, ← hsz, ← hl, List.take_length] at hy
      exact ⟨y, hy⟩
    · rename_i k et
      simp only [Bool.and_eq_true] at h
      have hsz := beq_iff.1 h.1
      obtain ⟨xs, m, rfl, _, hl, hlen, hf⟩ := DataW.trod_array hu hx
      obtain ⟨y, hy⟩ := layL_sound (w := w) (ok := fun _ => True) (cs := cs) _ 0 e h.2 (fun p hp e hg => by
        simp only [List.mem_map, List.mem_range] at hp
        obtain ⟨i, hi, rfl⟩ := hp
        have := hf i hi
        rw [List.getElem?_eq_getElem (by rw [hlen]; exact hi)] at this
        exact lay_sound n _ e hg m _ _ this)
      rw [List.drop_zero, ← hsz, ← hl, List.take_length] at hy
      exact ⟨y, hy⟩
    · cases h

/-- A law's parameter: no array by value. -/
def layS (P : Program) : List TypeId → List (Ty × Bool) → Bool
  | [], [] => true
  | t :: ts, (e, _) :: l => lay P 12 t e && (match e, P.underlying t with
    | .pair _ _, some (.struct _) => true
    | .pair _ _, some (.array _ _) => true
    | .pair _ _, _ => false
    | _, some (.struct _) => false
    | _, some (.array _ _) => false
    | _, _ => true) && layS P ts l
  | _, _ => false

theorem agg_of_okWide {t : TypeId} {v : Value} {r : Reach} {b0 : Nat} (hok : Value.okWide P w r b0 t v) (hs : (∃ fs, P.underlying t = some (.struct fs)) ∨ ∃ n e, P.underlying t = some (.array n e)) : ∃ cs : Array Value, v = .agg cs := by
  unfold Value.okWide at hok
  rcases hs with ⟨fs, hs⟩ | ⟨n, e, hs⟩ <;> rw [hs] at hok <;> obtain ⟨cs, h, _⟩ := hok <;> exact ⟨cs, h⟩

theorem cells_one {e : Ty} {t : TypeId} {v : Value} {r : Reach} {b0 : Nat} {x : e.D} (hne : ∀ a b, e ≠ .pair a b) (h : Cells w ok e x v.cells.toList) (hv : ∀ cs, v ≠ .agg cs) : AR w ok e x v := by
  have hc : v.cells.toList = [v] := by
    cases v <;> first | rfl | exact absurd rfl (hv _)
  rw [hc] at h
  cases e with
  | pair a b => exact absurd rfl (hne a b)
  | int k => exact h
  | bool => exact h
  | str => exact h
  | sl e => exact h

theorem args_read {r : Reach} {b0 : Nat} : (ts : List TypeId) → (sig : List (Ty × Bool)) → layS P ts sig = true → (vs : List Value) → (ds : List (DataW H)) → (ps : List MemPlace) → DataW.TrodAll enc P w 0 (fun _ => true) true ts vs ds ps →
    (∀ (j : Nat) t v, ts[j]? = some t → vs[j]? = some v → Value.okWide P w r b0 t v) → ∃ xs : HS sig, ArgsOK w (fun _ => False) sig xs vs ∧ OkS sig xs
  | [], [], _, vs, ds, ps, h, _ => by
    cases vs with
    | nil => exact ⟨(), rfl, trivial⟩
    | cons v vs => cases ds <;> exact absurd h (by simp [DataW.TrodAll])
  | [], _ :: _, h, _, _, _, _, _ => by cases h
  | _ :: _, [], h, _, _, _, _, _ => by cases h
  | t :: ts, (e, s) :: l, h, vs, ds, ps, hT, hok => by
    simp only [layS, Bool.and_eq_true] at h
    obtain ⟨⟨h1, h2⟩, h3⟩ := h
    cases vs with
    | nil => cases ds <;> exact absurd hT (by simp [DataW.TrodAll])
    | cons v vs =>
      cases ds with
      | nil => exact absurd hT (by simp [DataW.TrodAll])
      | cons d ds =>
        obtain ⟨p, q, ⟨fuel, g1⟩, g2, _⟩ := hT
        obtain ⟨xs, a1, a2⟩ := args_read ts l h3 vs ds q g2 fun j t v hj hv => hok (j + 1) t v (by simpa using hj) (by simpa using hv)
        obtain ⟨y, hy⟩ := lay_sound 12 t e h1 fuel _ _ g1
        have hokv := hok 0 t v rfl rfl
        have hy' : Cells w (fun k => s = false → ¬ (fun _ : Nat => False) k) e y v.cells.toList := Cells.move (fun k _ _ => ⟨fun _ h => h, rfl⟩) e hy
        refine ⟨(y, xs), ⟨v, vs, rfl, ?_, a1⟩, Cells.isOk e hy, a2⟩
        show AR w _ e y v
        have hagg : ∀ cs, v = .agg cs → ((∃ fs, P.underlying t = some (.struct fs)) ∨ ∃ n e, P.underlying t = some (.array n e)) := by
          intro cs hv
          subst hv
          unfold Value.okWide at hokv
          split at hokv
          · rename_i fs hs; exact .inl ⟨fs, hs⟩
          · rename_i n e hs; exact .inr ⟨n, e, hs⟩
          · exfalso
            unfold Cell.okWide at hokv
            split at hokv
            all_goals first
              | (exfalso; rename_i h' _; cases h'; done)
              | (exfalso; rename_i h'; cases h'; done)
              | (rename_i h'; cases h'; done)
              | (unfold Cell.ok at hokv; split at hokv <;> first | (cases hokv; done) | simp_all)
        cases e with
        | pair a b =>
          have hs : (∃ fs, P.underlying t = some (.struct fs)) ∨ ∃ n e, P.underlying t = some (.array n e) := by
            split at h2 <;> first | exact .inl ⟨_, by assumption⟩ | exact .inr ⟨_, _, by assumption⟩ | simp_all
          obtain ⟨cs, rfl⟩ := agg_of_okWide hokv hs
          exact ⟨cs, rfl, hy'⟩
        | int k => exact cells_one (t := t) (r := r) (b0 := b0) (fun _ _ h => by cases h) hy' fun cs hv => by rcases hagg cs hv with ⟨fs, hs⟩ | ⟨n, e, hs⟩ <;> rw [hs] at h2 <;> cases h2
        | bool => exact cells_one (t := t) (r := r) (b0 := b0) (fun _ _ h => by cases h) hy' fun cs hv => by rcases hagg cs hv with ⟨fs, hs⟩ | ⟨n, e, hs⟩ <;> rw [hs] at h2 <;> cases h2
        | str => exact cells_one (t := t) (r := r) (b0 := b0) (fun _ _ h => by cases h) hy' fun cs hv => by rcases hagg cs hv with ⟨fs, hs⟩ | ⟨n, e, hs⟩ <;> rw [hs] at h2 <;> cases h2
        | sl e => exact cells_one (t := t) (r := r) (b0 := b0) (fun _ _ h => by cases h) hy' fun cs hv => by rcases hagg cs hv with ⟨fs, hs⟩ | ⟨n, e, hs⟩ <;> rw [hs] at h2 <;> cases h2
theorem trodAll_len : (ts : List TypeId) → (vs : List Value) → (ds : List (DataW H)) → (ps : List MemPlace) → DataW.TrodAll enc P w base sp hd ts vs ds ps → ds.length = ts.length
  | [], vs, ds, ps, h => by
    cases vs <;> cases ds <;> first | rfl | exact absurd h (by simp [DataW.TrodAll])
  | t :: ts, vs, ds, ps, h => by
    cases vs with
    | nil => cases ds <;> exact absurd h (by simp [DataW.TrodAll])
    | cons v vs =>
      cases ds with
      | nil => exact absurd h (by simp [DataW.TrodAll])
      | cons d ds =>
        obtain ⟨p, q, _, g2, _⟩ := h
        simp [trodAll_len ts vs ds q g2]

theorem trodAll_below {w' : World} (hl : laidOutB P = true) (hb : Below w.heap.size w w') : (ts : List TypeId) → (∀ t ∈ ts, P.readableRec t = true ∧ t < P.types.size) → (vs : List Value) → (ds : List (DataW H)) → (ps : List MemPlace) →
    DataW.TrodAll enc P w 0 (fun _ => true) true ts vs ds ps → (∀ x ∈ ps, x.block < w.heap.size) → DataW.TrodAll enc P w' 0 (fun b => decide (b < w.heap.size)) true ts vs ds ps
  | [], _, vs, ds, ps, h, _ => by
    cases vs <;> cases ds <;> first | exact h | exact absurd h (by simp [DataW.TrodAll])
  | t :: ts, ht, vs, ds, ps, h, hlt => by
    cases vs with
    | nil => cases ds <;> exact absurd h (by simp [DataW.TrodAll])
    | cons v vs =>
      cases ds with
      | nil => exact absurd h (by simp [DataW.TrodAll])
      | cons d ds =>
        obtain ⟨p, q, g1, g2, rfl⟩ := h
        have h0 := ht t (by simp)
        exact ⟨p, q, Below.trod hl h0.1 h0.2 g1 hb (fun x hx => hlt x (List.mem_append_left _ hx)), trodAll_below hl hb ts (fun t' h' => ht t' (List.mem_cons_of_mem _ h')) vs ds q g2 (fun x hx => hlt x (List.mem_append_right _ hx)), rfl⟩

/-- A law that is true of its data, as its row asks. -/
theorem law_calls {f : FuncId} {fn : Func} {sig : List (Ty × Bool)} {Fk : Nat → HS sig → Option (HL [.bool])} (hOK : ∀ k, FnOK P f sig [.bool] (Fk k)) (hf : P.funcs[f]? = some fn) (hn : (fn.name == "runtime.NumGoroutine") = false)
    (hb : fn.body.isSome = true) (hlay : layS P fn.params.toList sig = true) (hl : laidOutB P = true) (hread : fn.params.toList.all (fun t => P.readableRec t && decide (t < P.types.size)) = true) {tb : TypeId}
    (hres : fn.resultTypes = #[tb]) (hub : P.underlying tb = some .bool) {s : ChangeSpec} (hvars : s.vars = []) (hspec : ∀ ds : List (DataW H), ds.length = fn.params.size → s.fn H ds = ⟨[.lit (.bool true)], ds, []⟩)
    {W : World} {b0 : Nat} {args : Array Value} {ds gs : List (DataW H)} {before : List MemPlace} (hval : ∀ (j : Nat) t v, fn.params[j]? = some t → args[j]? = some v → Value.okWide P W .any b0 t v)
    (hW : DataW.Whole enc P fn.params.toList s.vars false W args.toList ds gs before) (hmath : ∀ xs : HS sig, OkS sig xs → ∃ k, Fk k xs = some (true, ())) :
    Calls P f args W fun e W' => ∃ v, e = .returned v ∧ s.post enc P fn false true false false W args v W' := by
  have hW' := hW
  obtain ⟨p, q, hA, hV, rfl, hfz, hnd⟩ := hW
  rw [hvars] at hV
  obtain ⟨rfl, rfl⟩ := trodVars_none hV
  obtain ⟨xs, a1, a2⟩ := args_read _ sig hlay _ _ _ hA fun j t v hj hv => hval j t v (by simpa using hj) (by simpa using hv)
  obtain ⟨k, hk⟩ := hmath xs a2
  obtain ⟨c, hc⟩ := Option.isSome_iff_exists.1 hb
  rcases hOK k (fun _ => False) W args xs _ (fun _ h => h.elim) a1 hk with ⟨v, w', h1, _⟩ | ⟨_, h2⟩
  · rw [run_enter hf hn hc] at h1
    cases h1
  · refine Calls.mono h2 fun e W' he => ?_
    cases e with
    | panicked c => exact he.elim
    | outgrown => exact he.elim
    | returned v =>
      obtain ⟨us, rfl, h3, h4, h5, h6, h7, h8⟩ := he
      have hB : Below W.heap.size W W' := ⟨h4, h5, h6, h7, h8⟩
      obtain ⟨u, us', rfl, h9, h10⟩ := h3
      have h10 : us' = [] := h10
      subst h10
      have h9 : [u] = [.bool true] := h9
      injection h9 with h9 _
      subst h9
      have hlen := trodAll_len _ _ _ _ hA
      have hs := hspec (ds ++ []) (by rw [List.append_nil, hlen, Array.length_toList])
      refine ⟨_, rfl, ds, [], _, [], p, [], hW', ?_, ?_, ?_, hB.frame _, fun h => (by cases h)⟩
      · rw [hs, hres]
        exact ⟨[], [], ⟨1, by show DataW.trod enc P W' _ _ false 1 tb [.bool true] = _; unfold DataW.trod; rw [hub]⟩, rfl, rfl⟩
      · rw [hs]
        show DataW.TrodAll enc P W' 0 _ true _ _ (ds ++ []) p
        rw [List.append_nil]
        refine trodAll_below hl hB _ (fun t ht => ?_) _ _ _ hA fun x hx => hW'.lt x (List.mem_append_left _ hx)
        have := List.all_eq_true.1 hread t ht
        simpa using this
      · rw [hs, hvars]
        rfl
end
end Go.Proofs.YtpgmkoaklpkecaaDoor.Eng

/- Rows that are written no more; values as data. -/
import Derived.Test.YtpgmkoaklpkecaaDoorEng7
set_option linter.unusedVariables false
set_option linter.unusedSimpArgs false
namespace Go.Proofs.YtpgmkoaklpkecaaDoor.Eng

def untag (x : Nat) (tag : Option Nat) : Option Nat := cond (tagIs x tag) none tag

mutual
/-- Object x, a row of xs, is only read from now on. -/
def AV.frz (x : Nat) (e : Ty) (xs : List e.D) : AV → AV
  | .sl t ys tag ex => .sl t ys (untag x tag) ex
  | .ep t ys i off tag => .ep t ys i off (untag x tag)
  | .own y => cond (Nat.beq y x) (.sl e xs none false) (.own y)
  | .pre y n => cond (Nat.beq y x) (.sl e (xs.take n) none false) (.pre y n)
  | .op y t i off => cond (Nat.beq y x) .top (.op y t i off)
  | .ptr y off => .ptr y off
  | .agg cs => .agg (AV.frzL x e xs cs)
  | .tup vs => .tup (AV.frzL x e xs vs)
  | .fn f a b => .fn f (AV.frzL x e xs a) (AV.frzL x e xs b)
  | .iface t v => .iface t (AV.frz x e xs v)
  | v => v
def AV.frzL (x : Nat) (e : Ty) (xs : List e.D) : List AV → List AV
  | [] => []
  | v :: vs => AV.frz x e xs v :: AV.frzL x e xs vs
end

def AObj.frz (x : Nat) (e : Ty) (xs : List e.D) : AObj → AObj
  | .cells T cs => .cells T (AV.frzL x e xs cs)
  | o => o

def AState.frz (st : AState) (x : Nat) : AState :=
  match st.hp x, Nat.beq x 0 with
  | .row _ e xs, false => ⟨fun i => AV.frz x e xs (st.fr i), fun j => cond (Nat.beq j x) .dead (AObj.frz x e xs (st.hp j)), fun i => AV.frz x e xs (st.sv i)⟩
  | _, _ => st

def AState.frzs (st : AState) : List Nat → AState
  | [] => st
  | x :: l => (st.frz x).frzs l

section
variable {X : Nat → Prop} {nt : Nat} {env : Env} {st : AState} {a : Act} {w : World} {F F' : Option Nat → Nat → Prop} {x : Nat} {e : Ty} {xs : List e.D}

structure Frz (F F' : Option Nat → Nat → Prop) (env : Env) (w : World) (x : Nat) (e : Ty) (xs : List e.D) : Prop where
  ok : ∀ tag k, F tag k → F' (untag x tag) k
  sl : ∃ A c, env.hdr x = .slice A xs.length c ∧ xs.length ≤ c ∧ c ≤ maxLen ∧ SlP w (F' none) e.sz (Cells w (F' none) e) xs A

theorem Frz.pre (h : Frz F F' env w x e xs) (n : Nat) {A : Option Addr} {l c : Nat} (hh : env.hdr x = .slice A l c) (hn : n ≤ l) : (xs.take n).length = n ∧ SlP w (F' none) e.sz (Cells w (F' none) e) (xs.take n) A := by
  obtain ⟨A', c', h1, h2, h3, h4⟩ := h.sl
  rw [hh] at h1
  injection h1 with h1 h5 h6
  subst h1
  have hl : (xs.take n).length = n := by rw [List.length_take]; omega
  refine ⟨hl, ?_⟩
  rcases h4 with h4 | ⟨b, o, h4, h7, h8⟩
  · exact .inl (by rw [h4]; simp)
  · refine .inr ⟨b, o, h4, h7, fun i hi => ?_⟩
    obtain ⟨cs, c1, c2, c3⟩ := h8 i (by omega)
    exact ⟨cs, by rw [List.getElem_take]; exact c1, c2, c3⟩

mutual
theorem RelV.frz (hm : Frz F F' env w x e xs) : (a : AV) → (v : Value) → RelV F env w a v → RelV F' env w (AV.frz x e xs a) v
  | .top, v, h => by simp [AV.frz, RelV]
  | .int k n, v, h => by simpa [AV.frz, RelV] using h
  | .bool b, v, h => by simpa [AV.frz, RelV] using h
  | .str xs, v, h => by simpa [AV.frz, RelV] using h
  | .nil, v, h => by simpa [AV.frz, RelV] using h
  | .nilp, v, h => by simpa [AV.frz, RelV] using h
  | .nili, v, h => by simpa [AV.frz, RelV] using h
  | .ptr y off, v, h => by simpa [AV.frz, RelV] using h
  | .sl t ys tag ex, v, h => by
    simp only [AV.frz, RelV] at h ⊢
    obtain ⟨A, c, h1, h2, h3, h4, h5⟩ := h
    exact ⟨A, c, h1, h2, h3, h4, h5.move t.sz_pos (fun k hk _ => ⟨hm.ok tag k hk, rfl⟩) (fun y cs hy => Cells.move (fun k hk _ => ⟨hm.ok tag k hk, rfl⟩) t hy)⟩
  | .ep t ys i off tag, v, h => by
    simp only [AV.frz, RelV] at h ⊢
    obtain ⟨b, o, h1, h2, h3, h4⟩ := h
    exact ⟨b, o, h1, h2, h3, h4.move t.sz_pos (fun k hk _ => ⟨hm.ok tag k hk, rfl⟩) (fun y cs hy => Cells.move (fun k hk _ => ⟨hm.ok tag k hk, rfl⟩) t hy) (by intro e; subst e; simp at h2)⟩
  | .own y, v, h => by
    simp only [AV.frz]
    cases hy : Nat.beq y x with
    | false => simpa [RelV] using h
    | true =>
      obtain rfl := beq_iff.1 hy
      obtain ⟨A, c, h1, h2, h3, h4⟩ := hm.sl
      exact ⟨A, c, by rw [h.1, h1], h2, h3, (by simp), h4⟩
  | .pre y n, v, h => by
    simp only [AV.frz]
    cases hy : Nat.beq y x with
    | false => simpa [RelV] using h
    | true =>
      obtain rfl := beq_iff.1 hy
      obtain ⟨A, l, c, h1, h2, h3, h4, h5⟩ := h
      obtain ⟨h6, h7⟩ := hm.pre n h2 h3
      exact ⟨A, c, by rw [h1, h6], by rw [h6]; omega, h5, (by simp), h7⟩
  | .op y t i off, v, h => by
    simp only [AV.frz]
    cases hy : Nat.beq y x with
    | false => simpa [RelV] using h
    | true => simp [RelV]
  | .agg cs, v, h => by
    simp only [AV.frz, RelV] at h ⊢
    obtain ⟨vs, h1, h2⟩ := h
    exact ⟨vs, h1, RelL.frz hm cs _ h2⟩
  | .tup cs, v, h => by
    simp only [AV.frz, RelV] at h ⊢
    obtain ⟨vs, h1, h2⟩ := h
    exact ⟨vs, h1, RelL.frz hm cs _ h2⟩
  | .fn f a b, v, h => by
    simp only [AV.frz, RelV] at h ⊢
    obtain ⟨y, z, h1, h2, h3⟩ := h
    exact ⟨y, z, h1, RelL.frz hm a _ h2, RelL.frz hm b _ h3⟩
  | .iface t u, v, h => by
    simp only [AV.frz, RelV] at h ⊢
    obtain ⟨y, h1, h2⟩ := h
    exact ⟨y, h1, RelV.frz hm u _ h2⟩
theorem RelL.frz (hm : Frz F F' env w x e xs) : (as : List AV) → (vs : List Value) → RelL F env w as vs → RelL F' env w (AV.frzL x e xs as) vs
  | [], vs, h => by simpa [AV.frzL, RelL] using h
  | a :: as, vs, h => by
    simp only [AV.frzL, RelL] at h ⊢
    obtain ⟨v, vs', h1, h2, h3⟩ := h
    exact ⟨v, vs', h1, RelV.frz hm a v h2, RelL.frz hm as vs' h3⟩
end

theorem frz_live {hp : Nat → AObj} {j : Nat} : (cond (Nat.beq j x) AObj.dead (AObj.frz x e xs (hp j))).live = if j = x then false else (hp j).live := by
  by_cases h : j = x
  · rw [beq_iff.2 h, if_pos h]; rfl
  · rw [beq_false.2 h, if_neg h]; simp only [cond_false]; cases hp j <;> rfl

theorem Rel.frz (h : Rel X nt env st a w) (x : Nat) : Rel X nt env (st.frz x) a w ∧ Ext env st.hp w env (st.frz x).hp w := by
  unfold AState.frz
  split
  case h_2 => exact ⟨h, Ext.refl _ _ _⟩
  rename_i t e xs hx hx0
  have hx0 : x ≠ 0 := beq_false.1 hx0
  have hlx : (st.hp x).live = true := by rw [hx]
  have ho := h.hp x
  rw [hx] at ho
  have hok : ∀ tag k, okT X st.hp env tag k → okT X (fun j => cond (Nat.beq j x) .dead (AObj.frz x e xs (st.hp j))) env (untag x tag) k := by
    intro tag k hk
    refine ⟨fun hne => ?_, fun j hl ht he => ?_⟩
    · by_cases e0 : tag = some 0
      · subst e0
        unfold untag at hne
        cases hq : tagIs x (some 0) with
        | false => rw [hq] at hne; exact absurd rfl hne
        | true => have := tagIs_eq.1 hq; injection this with this; exact absurd this.symm hx0
      · exact hk.1 e0
    · rw [frz_live] at hl
      split at hl
      · cases hl
      · rename_i hj
        refine hk.2 j hl (fun e1 => ?_) he
        subst e1
        apply ht
        unfold untag
        have : tagIs x (some j) = false := by
          cases hq : tagIs x (some j) with
          | false => rfl
          | true => have := tagIs_eq.1 hq; injection this with this; exact absurd this hj
        rw [this]; rfl
  have hm : Frz (okT X st.hp env) (okT X (fun j => cond (Nat.beq j x) .dead (AObj.frz x e xs (st.hp j))) env) env w x e xs := by
    refine ⟨hok, ?_⟩
    obtain ⟨A, c, h1, h2, h3, h4, h5⟩ := hdr_row ho
    refine ⟨A, c, h1, h2, h3, ?_⟩
    by_cases hne : xs = []
    · exact .inl hne
    · obtain ⟨g, c', k1, k2, k3⟩ := own_row ho hne
      rw [k1] at h1
      injection h1 with h1 _ _
      refine .inr ⟨g, 0, h1.symm, ⟨fun _ => (h.lt x g hlx k2).2, fun j hl _ he => ?_⟩, fun i hi => ?_⟩
      · rw [frz_live] at hl
        split at hl
        · cases hl
        · rename_i hj; exact hj (h.inj j x g hl hlx he k2)
      · obtain ⟨cs, c1, c2, c3⟩ := k3 i hi
        exact ⟨cs, Cells.move (fun k hk _ => ⟨hok none k hk, rfl⟩) e c1, c2, c3⟩
  refine ⟨⟨fun i => RelV.frz hm _ _ (h.fr i), fun j => ?_, fun i j k hi hj hbi hbj => ?_, fun j k hl he => ?_, h.xlt, h.sz, h.df, fun i => RelV.frz hm _ _ (h.sv i)⟩, ?_⟩
  · show RelO _ env w j (cond (Nat.beq j x) .dead (AObj.frz x e xs (st.hp j)))
    by_cases hj : j = x
    · rw [beq_iff.2 hj]; trivial
    · rw [beq_false.2 hj]
      have hoj := h.hp j
      cases hq : st.hp j with
      | dead => trivial
      | cells T cs =>
        rw [hq] at hoj
        obtain ⟨b, vs, h1, h2, h3⟩ := hoj
        exact ⟨b, vs, h1, h2, RelL.frz hm cs _ h3⟩
      | row T t' ys =>
        rw [hq] at hoj
        obtain ⟨h1, ds, h2, h3⟩ := hoj
        exact ⟨h1, ds, h2, Flat.move (fun y cs hy => Cells.move (fun k hk _ => ⟨hok none k hk, rfl⟩) t' hy) ys ds h3⟩
  · have hi : (if i = x then false else (st.hp i).live) = true := by rw [← frz_live (e := e) (xs := xs)]; exact hi
    have hj : (if j = x then false else (st.hp j).live) = true := by rw [← frz_live (e := e) (xs := xs)]; exact hj
    split at hi
    · cases hi
    split at hj
    · cases hj
    exact h.inj i j k hi hj hbi hbj
  · have hl : (if j = x then false else (st.hp j).live) = true := by rw [← frz_live (e := e) (xs := xs)]; exact hl
    split at hl
    · cases hl
    exact h.lt j k hl he
  · refine ⟨rfl, rfl, rfl, Nat.le_refl _, fun _ _ _ => rfl, fun j k hl he _ => ?_, rfl⟩
    have hl : (if j = x then false else (st.hp j).live) = true := by rw [← frz_live (e := e) (xs := xs)]; exact hl
    split at hl
    · cases hl
    exact ⟨j, hl, he⟩

theorem RKeep.frz (x : Nat) : RKeep env st.hp w env (st.frz x).hp w := by
  unfold AState.frz
  split
  case h_2 => exact RKeep.refl _ _ _
  rename_i t e xs hx hx0
  refine ⟨Nat.le_refl _, fun _ _ _ => rfl, fun j k hl he _ => ⟨j, ?_, he⟩⟩
  have hl : (cond (Nat.beq j x) AObj.dead (AObj.frz x e xs (st.hp j))).isRow = true := hl
  cases hj : Nat.beq j x with
  | true => rw [hj] at hl; cases hl
  | false =>
    rw [hj] at hl
    simp only [cond_false] at hl
    cases hq : st.hp j <;> rw [hq] at hl <;> first | rfl | cases hl

theorem RKeep.frzs : (l : List Nat) → (st : AState) → RKeep env st.hp w env (st.frzs l).hp w
  | [], st => RKeep.refl _ _ _
  | x :: l, st => (RKeep.frz x).trans (RKeep.frzs l (st.frz x))

theorem Rel.frzs : (l : List Nat) → {st : AState} → (h : Rel X nt env st a w) → Rel X nt env (st.frzs l) a w ∧ Ext env st.hp w env (st.frzs l).hp w
  | [], st, h => ⟨h, Ext.refl _ _ _⟩
  | x :: l, st, h => by
    obtain ⟨h1, h2⟩ := h.frz x
    obtain ⟨h3, h4⟩ := Rel.frzs l h1
    exact ⟨h3, h2.trans h4⟩

/-! ### Values as data -/
mutual
def ownIds : AV → List Nat
  | .own x => [x]
  | .pre x _ => [x]
  | .agg cs => ownIdsL cs
  | .tup cs => ownIdsL cs
  | _ => []
def ownIdsL : List AV → List Nat
  | [] => []
  | v :: vs => ownIds v ++ ownIdsL vs
end

/-- Data out of the first cells, and the rest of them. -/
def dOf : (t : Ty) → List AV → Option (t.D × List AV)
  | .int k, .int k' n :: r => cond (decide (k' = k)) (some (n, r)) none
  | .bool, .bool b :: r => some (b, r)
  | .str, .str xs :: r => some (xs, r)
  | .sl e, .sl e' xs none _ :: r => if h : e' = e then some (h ▸ xs, r) else none
  | .sl _, .nil :: r => some ([], r)
  | .pair a b, cs => match dOf a cs with
    | some (x, r) => match dOf b r with
      | some (y, r') => some ((x, y), r')
      | none => none
    | none => none
  | _, _ => none

theorem dOf_sound : (t : Ty) → {cs : List AV} → {vs : List Value} → {x : t.D} → {r : List AV} → RelL F env w cs vs → dOf t cs = some (x, r) → ∃ v1 v2, vs = v1 ++ v2 ∧ Cells w (F none) t x v1 ∧ RelL F env w r v2
  | .int k, cs, vs, x, r, hr, h => by
    match cs, h with
    | .int k' n :: r', h =>
      simp only [dOf] at h
      obtain ⟨hk, h⟩ := condP_some h
      injection h with h; injection h with h1 h2
      subst h1 h2 hk
      obtain ⟨v, vs', rfl, h3, h4⟩ := hr
      exact ⟨[v], vs', rfl, ⟨by rw [h3.1], h3.2⟩, h4⟩
  | .bool, cs, vs, x, r, hr, h => by
    match cs, h with
    | .bool b :: r', h =>
      simp only [dOf] at h
      injection h with h; injection h with h1 h2
      subst h1 h2
      obtain ⟨v, vs', rfl, h3, h4⟩ := hr
      exact ⟨[v], vs', rfl, (by show [v] = _; rw [show v = _ from h3]), h4⟩
  | .str, cs, vs, x, r, hr, h => by
    match cs, h with
    | .str b :: r', h =>
      simp only [dOf] at h
      injection h with h; injection h with h1 h2
      subst h1 h2
      obtain ⟨v, vs', rfl, ⟨s, h3, h5, h6⟩, h4⟩ := hr
      exact ⟨[v], vs', rfl, ⟨s, by rw [h3], h5, h6⟩, h4⟩
  | .sl e, cs, vs, x, r, hr, h => by
    match cs, h with
    | .sl e' ys none ex :: r', h =>
      simp only [dOf] at h
      split at h
      · rename_i he
        subst he
        injection h with h; injection h with h1 h2
        subst h1 h2
        obtain ⟨v, vs', rfl, ⟨A, c, h3, h5, h6, _, h7⟩, h4⟩ := hr
        exact ⟨[v], vs', rfl, ⟨A, c, by rw [h3], h5, h6, h7⟩, h4⟩
      · cases h
    | .nil :: r', h =>
      simp only [dOf] at h
      injection h with h; injection h with h1 h2
      subst h1 h2
      obtain ⟨v, vs', rfl, h3, h4⟩ := hr
      exact ⟨[v], vs', rfl, ⟨none, 0, by rw [show v = _ from h3]; rfl, Nat.le_refl _, by unfold maxLen; omega, .inl rfl⟩, h4⟩
  | .pair p q, cs, vs, x, r, hr, h => by
    simp only [dOf] at h
    split at h
    · rename_i x1 r1 h1
      split at h
      · rename_i y1 r2 h2
        injection h with h; injection h with h3 h4
        subst h3 h4
        obtain ⟨v1, v2, rfl, c1, c2⟩ := dOf_sound p hr h1
        obtain ⟨v3, v4, rfl, c3, c4⟩ := dOf_sound q c2 h2
        exact ⟨v1 ++ v3, v4, by simp, ⟨v1, v3, rfl, c1, c3⟩, c4⟩
      · cases h
    · cases h

/-- One value as a datum. -/
def dOf1 (t : Ty) (v : AV) : Option t.D :=
  match cellsO v with
  | some cs => match dOf t cs with
    | some (x, []) => some x
    | _ => none
  | none => none

theorem dOf1_sound {t : Ty} {v : AV} {u : Value} {x : t.D} (hr : RelV F env w v u) (h : dOf1 t v = some x) : Cells w (F none) t x u.cells.toList := by
  unfold dOf1 at h
  split at h
  case h_2 => cases h
  rename_i cs hc
  split at h
  case h_2 => cases h
  rename_i y hy
  injection h with h
  subst h
  obtain ⟨v1, v2, h1, h2, h3⟩ := dOf_sound t (cellsO_rel hc hr) hy
  rw [show v2 = [] from h3, List.append_nil] at h1
  rw [h1]; exact h2

theorem Cells.one : (t : Ty) → {x : t.D} → {cs : List Value} → {ok : Nat → Prop} → Cells w ok t x cs → ∀ v ∈ cs, v.oneCell' = true
  | .int k, x, cs, ok, h => by
    rw [h.1]; intro v hv; simp at hv; subst hv; rfl
  | .bool, x, cs, ok, h => by
    rw [show cs = _ from h]; intro v hv; simp at hv; subst hv; rfl
  | .str, x, cs, ok, h => by
    obtain ⟨s, h, _⟩ := h
    rw [h]; intro v hv; simp at hv; subst hv; rfl
  | .sl e, x, cs, ok, h => by
    obtain ⟨A, c, h, _⟩ := h
    rw [h]; intro v hv; simp at hv; subst hv; rfl
  | .pair p q, x, cs, ok, h => by
    obtain ⟨c1, c2, h, h1, h2⟩ := h
    rw [h]; intro v hv
    rcases List.mem_append.1 hv with hv | hv
    · exact Cells.one p h1 v hv
    · exact Cells.one q h2 v hv
end
end Go.Proofs.YtpgmkoaklpkecaaDoor.Eng

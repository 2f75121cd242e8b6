/- One operation that is no call of a Go function. -/
import Derived.Test.YtpgmkoaklpkecaaDoorEng9
import Derived.Deep.OwnRows
import Derived.Lib.ConvBytes
set_option linter.unusedVariables false
set_option linter.unusedSimpArgs false
namespace Go.Proofs.YtpgmkoaklpkecaaDoor.Eng

def zvals : Ty → List Value
  | .int k => [.int k 0]
  | .bool => [.bool false]
  | .str => [.string ⟨#[]⟩]
  | .sl _ => [.slice none 0 0]
  | .pair a b => zvals a ++ zvals b

/-- Element types that are kinds of pure data. -/
def YOK (P : Program) (Y : TypeId → Option Ty) : Prop := ∀ t e, Y t = some e → ∃ i z, P.info? t = some i ∧ i.zero = some z ∧ z.cells.toList = zvals e ∧ i.size = e.sz ∧ 0 < i.bytes ∧ (e.sz = 1 → z.cells = #[z])

section
variable {X : Nat → Prop} {nt base : Nat} {env : Env} {st : AState} {a : Act} {w w' : World} {P : Program} {T : TypeId → Option TS} {Y : TypeId → Option Ty} {R : Type} {F : Option Nat → Nat → Prop}

theorem zvals_cells {ok : Nat → Prop} : (e : Ty) → Cells w ok e e.z (zvals e)
  | .int k => ⟨rfl, by cases k <;> simp [fits, Ty.z, IntKind.min, IntKind.max, IntKind.signed, IntKind.bits]⟩
  | .bool => rfl
  | .str => ⟨_, rfl, rfl, Nat.zero_le _⟩
  | .sl e => ⟨none, 0, rfl, by simp [Ty.z], by unfold maxLen; omega, .inl rfl⟩
  | .pair p q => ⟨zvals p, zvals q, rfl, zvals_cells p, zvals_cells q⟩

/-- Object id is the row xs from now on, and slot d its header. -/
def toRow (st : AState) (d id : Nat) (et : TypeId) (e : Ty) (xs : List e.D) (K : AState → Option R) : Option R := K ((st.turn true id (.row et e xs)).put d (.own id))

def aappend (T : TypeId → Option TS) (Y : TypeId → Option Ty) (base d : Nat) (t : TypeId) (s x : AV) (st : AState) (K : AState → Option R) : Option R :=
  match T t with
  | some ⟨.sl et, _, _, _⟩ => match T et, Y et with
    | some ts, some e => match asrc st e x with
      | some ys => match s with
        | .nil => cond (decide (ys.length * ts.bytes ≤ 140737488355328)) (toRow st d (base + d + 1) et e ys K) none
        | .own j => match st.hp j with
          | .row te e' xs => cond (Nat.beq te et) (match (castL xs : Option (List e.D)) with
            | some xs => cond (decide ((xs.length + ys.length) * ts.bytes ≤ 140737488355328)) (toRow st d j et e (xs ++ ys) K) none
            | none => none) none
          | _ => none
        | .pre j n => match st.hp j with
          | .row te e' xs => cond (Nat.beq te et) (match (castL xs : Option (List e.D)) with
            | some xs => cond (decide ((n + ys.length) * ts.bytes ≤ 140737488355328)) (toRow st d j et e (xs.take n ++ ys) K) none
            | none => none) none
          | _ => none
        | .sl e' xs tag true => match asrc st e (.sl e' xs tag true) with
          | some xs => cond (decide (ys.length = 0)) (K (st.put d s)) (cond (decide ((xs.length + ys.length) * ts.bytes ≤ 140737488355328)) (toRow st d (base + d + 1) et e (xs ++ ys) K) none)
          | none => none
        | _ => none
      | none => none
    | _, _ => none
  | _ => none

theorem castL_some {e' e : Ty} {xs : List e'.D} {ys : List e.D} (h : castL xs = some ys) : ∃ h : e' = e, ys = h ▸ xs := by
  unfold castL at h
  split at h
  · rename_i he; injection h with h; exact ⟨he, h.symm⟩
  · cases h

theorem own_pre {et : TypeId} {sz n m c : Nat} {A : Option Addr} {xs : List Value} (h : w.ownsRow 0 et sz (.slice A n c) n xs) (hm : m ≤ n) (h0 : A = none → c = 0) : w.ownsRow 0 et sz (.slice A m c) m (xs.take (m * sz)) := by
  have hmul : m * sz ≤ n * sz := Nat.mul_le_mul_right _ hm
  refine ⟨by rw [List.length_take, h.1]; omega, ?_⟩
  rcases h.2 with ⟨h1, h2⟩ | ⟨g, cap, cur, h1, h2, h3, h4, h5, h6, h7⟩
  · left
    injection h1 with h1 h3 h4
    exact ⟨by rw [h1, h4, show m = 0 by omega], by omega⟩
  · right
    injection h1 with h1 h8 h9
    subst h9
    refine ⟨g, c, cur, by rw [h1], h2, h3, by omega, h5, h6, ?_⟩
    rw [← h7, List.take_take, Nat.min_eq_left hmul]

/-- What an append leaves. -/
def AppOK (X : Nat → Prop) (nt : Nat) (env : Env) (st : AState) (a : Act) (w : World) (d : Nat) (K : AState → Option R) (r : R) (v : Value) (w' : World) : Prop :=
  ∃ st' env', K st' = some r ∧ Rel X nt env' st' (a.put (some d) v) w' ∧ Ext env st.hp w env' st'.hp w' ∧ RKeep env st.hp w env' st'.hp w'

theorem aappend_sound (hT : TOK P T) (hY : YOK P Y) (hR : Rel X nt env st a w) {d : Nat} (hd : d < nt) {t : TypeId} {s x : AV} {u v : Value} {K : AState → Option R} {r : R} (ty : TypeId)
    (hs : RelV (okT X st.hp env) env w s u) (hx : RelV (okT X st.hp env) env w x v) (h : aappend T Y base d t s x st K = some r) :
    ∃ z w', (Builtin.append_ #[t, t] ty #[u, v]).run P w = .ok z w' ∧ AppOK X nt env st a w d K r z w' := by
  unfold aappend at h
  split at h
  case h_2 => cases h
  rename_i et _ _ _ ht
  split at h
  case h_2 => cases h
  rename_i ts e hts hye
  split at h
  case h_2 => cases h
  rename_i ys hsrc
  obtain ⟨dd, u1, u2⟩ := hT.under ht
  obtain rfl : dd = _ := u2
  obtain ⟨i, i1, i2, i3⟩ := hT.info hts
  obtain ⟨i', z, y1, y2, y3, y4, y5, _⟩ := hY et e hye
  obtain rfl : i = i' := by rw [i1] at y1; injection y1
  have hzs : z.cells.size = e.sz := by rw [← Array.length_toList, y3, ← Cells.length e (zvals_cells (w := w) (ok := fun _ => True) e)]
  have S := asrc_sound hR hx hsrc
  -- a row of one's own, or nil, as the target
  have key : ∀ (id : Nat) (u' : Value) (n : Nat) (xs : List e.D) (ds : List Value), u = u' → w.ownsRow 0 et e.sz u' n ds → Flat (Cells w (okT X st.hp env none) e) xs ds → n = xs.length →
      (∀ k, u'.ownBlock = some k → (st.hp id).isRow = true ∧ env.blk id = some k) → (n + ys.length) * ts.bytes ≤ 140737488355328 → toRow st d id et e (xs ++ ys) K = some r →
      ∃ z w', (Builtin.append_ #[t, t] ty #[u, v]).run P w = .ok z w' ∧ AppOK X nt env st a w d K r z w' := by
    intro id u' n xs ds hu hown hfl hn hrow hb hk
    obtain ⟨v', w', news, r1, r2, r3, r4, r5⟩ := run_append_src ty u1 i1 y2 y4 hzs hown S (by rw [i3]; exact hb) y5
    subst hu
    have r2' : w'.ownsRow 0 et e.sz v' (xs ++ ys).length (ds ++ news) := by rw [List.length_append, ← hn]; exact r2
    obtain ⟨q1, q2, q3, q4⟩ := hR.newRow id et (row := u.ownBlock) hrow r2' (Flat.append _ _ _ _ hfl r3) r4 (fun k hk => by
      rcases r5 with r5 | r5
      · left; rw [← r5]; exact hk
      · right; rw [r5] at hk; injection hk with hk; omega)
    exact ⟨v', w', r1, _, _, hk, q1.put hd q3, q2, q4⟩
  split at h
  · obtain ⟨hb, h⟩ := condP_some h
    simp only [RelV] at hs
    exact key (base + d + 1) _ 0 [] [] hs (World.ownsRow_nil _ _ _ _) rfl rfl (fun k hk => by cases hk) (by rw [Nat.zero_add]; exact hb) (by simpa using h)
  · rename_i j
    split at h
    case h_2 => cases h
    rename_i te e' xs hh
    obtain ⟨hte, h2⟩ := cond_some h
    clear h
    obtain rfl := beq_iff.1 hte
    split at h2
    case h_2 => cases h2
    rename_i xs' hc
    obtain ⟨he, hxs⟩ := castL_some hc
    obtain ⟨hb, h⟩ := condP_some h2
    clear h2 hc
    subst he
    obtain rfl : xs' = xs := hxs
    have ho := hR.hp j
    rw [hh] at ho
    obtain ⟨o1, ds, o2, o3⟩ := ho
    exact key j _ xs'.length xs' ds hs.1 o2 o3 rfl (fun k hk => ⟨by rw [hh], by rw [o1]; exact hk⟩) hb h
  · rename_i j n
    split at h
    case h_2 => cases h
    rename_i te e' xs hh
    obtain ⟨hte, h2⟩ := cond_some h
    clear h
    obtain rfl := beq_iff.1 hte
    split at h2
    case h_2 => cases h2
    rename_i xs' hc
    obtain ⟨he, hxs⟩ := castL_some hc
    obtain ⟨hb, h⟩ := condP_some h2
    clear h2 hc
    subst he
    obtain rfl : xs' = xs := hxs
    have ho := hR.hp j
    rw [hh] at ho
    obtain ⟨A0, c0, p1, p2, p3, p4, p5⟩ := hdr_row ho
    obtain ⟨o1, ds, o2, o3⟩ := ho
    obtain ⟨A, l, c, v1, v2, v3, v4, v5⟩ := hs
    rw [p1] at v2
    injection v2 with v2a v2b v2c
    subst v2a v2b v2c
    rw [p1] at o2
    have hl : (xs'.take n).length = n := by rw [List.length_take]; omega
    exact key j _ n (xs'.take n) (ds.take (n * e'.sz)) v1 (own_pre o2 v3 (fun hA => (p4 hA).1)) (Flat.take (fun y cs hy => Cells.length e' hy) n xs' ds o3) hl.symm
      (fun k hk => ⟨by rw [hh], by rw [o1, p1, ← hk]; cases A0 <;> rfl⟩) hb h
  · rename_i e' zs tag
    split at h
    case h_2 => cases h
    rename_i xs hx2
    have S2 := asrc_sound hR hs hx2
    obtain ⟨A, c, hu, _, _, hex, _⟩ := hs
    obtain ⟨A2, c2, olds, q1, q2, q3, q4, q5⟩ := S2
    rw [hu] at q1
    injection q1 with q1a q1b q1c
    subst q1a q1c
    have hcl : c = xs.length := by rw [hex rfl, q1b]
    obtain ⟨B, c3, news, s1, s2, s3, s4, s5⟩ := S
    have hnl := Flat.length (fun y cs hy => Cells.length e hy) ys news s4
    have hol := Flat.length (fun y cs hy => Cells.length e hy) xs olds q4
    cases hy0 : decide (ys.length = 0) with
    | true =>
      rw [hy0] at h
      simp only [cond_true] at h
      have hy0 := of_decide_eq_true hy0
      have hys : ys = [] := List.eq_nil_of_length_eq_zero hy0
      subst hys
      refine ⟨u, w, ?_, _, env, h, hR.put hd ⟨A, c, hu, by rw [hcl, ← q1b]; exact Nat.le_refl _, q3, hex, ?_⟩, Ext.refl _ _ _, RKeep.refl _ _ _⟩
      · subst hu s1
        have hfc : ∀ W : World, (Builtin.firstCells i.size 0 (.slice B 0 c3)).run P W = .ok #[] W := by
          intro W; cases B <;> simp [Builtin.firstCells, loadCells, loadCellsFrom]
        have hle : zs.length ≤ c := by omega
        cases A <;> simp [Builtin.append_, run_underlying u1, run_sizeOf' i1, Builtin.lenOf, hfc, hle, storeCells]
      · rename_i hsl _
        exact hsl
    | false =>
      rw [hy0] at h
      simp only [cond_false] at h
      obtain ⟨hb, h⟩ := condP_some h
      have hy0 := of_decide_eq_false hy0
      obtain ⟨b, o, rfl, hcell⟩ : ∃ b o, B = some ⟨b, o, none⟩ ∧ ∀ j u, news[j]? = some u → w.cell? ⟨b, o + j, none⟩ = some u := by
        rcases s5 with s5 | s5
        · subst s5; simp at hy0
        · exact s5
      have hcn : ∀ j u, news[j]? = some u → w.cell? ((⟨b, o, none⟩ : Addr).add j) = some u := fun j u hj => by rw [add_at]; exact hcell j u hj
      have hnm : xs.length + ys.length ≤ 140737488355328 := Nat.le_trans (Nat.le_mul_of_pos_right _ (by rw [← i3]; exact y5)) hb
      have fin : ∀ v' w', (Builtin.append_ #[t, t] ty #[u, v]).run P w = .ok v' w' → w'.ownsRow 0 et e.sz v' (xs.length + ys.length) (olds ++ news) → w.grownBy w' none → (∀ k, v'.ownBlock = some k → w.heap.size ≤ k) →
          ∃ z w', (Builtin.append_ #[t, t] ty #[u, v]).run P w = .ok z w' ∧ AppOK X nt env st a w d K r z w' := by
        intro v' w' r1 r2 r3 r4
        obtain ⟨g1, g2, g3, g4⟩ := hR.newRow (base + d + 1) et (row := none) (fun k hk => by cases hk) (by rw [List.length_append]; exact r2) (Flat.append _ _ _ _ q4 s4) r3 (fun k hk => .inr (r4 k hk))
        exact ⟨v', w', r1, _, _, h, g1.put hd g3, g2, g4⟩
      cases A with
      | some ad =>
        have hco : ∀ j u, olds[j]? = some u → w.cell? (ad.add j) = some u := by
          intro j u hj
          rcases q5 with q5 | ⟨b', o', hA, q5⟩
          · rw [q5] at hol; simp at hol; subst hol; simp at hj
          · injection hA with hA; subst hA
            rw [add_at]; exact q5 j u hj
        obtain ⟨v', w', r1, r2, r3⟩ := run_append_arg_grows (P := P) w t ty et i z e.sz ts.bytes u1 i1 y2 y4 i3 hzs e.sz_pos ad xs.length c olds hol hco ⟨b, o, none⟩ ys.length c3 news hnl hcn (by omega) (by unfold maxLen; omega) hb
        subst hu s1
        rw [q1b] at fin ⊢
        refine fin v' w' r1 ?_ r3 (fun k hk => (World.ownsRow.lt r2 k hk).1)
        refine ⟨r2.1, r2.2.imp (fun q => q) ?_⟩
        rintro ⟨g, cap, cur, k1, k2, k3⟩
        exact ⟨g, cap, cur, k1, Nat.zero_le _, k3⟩
      | none =>
        have hxs : xs = [] := by
          rcases q5 with q5 | ⟨_, _, hA, _⟩
          · exact q5
          · cases hA
        subst hxs
        simp at hol; subst hol
        have hc0 : c = 0 := by rw [hcl]; rfl
        have hz0 : zs.length = 0 := by rw [q1b]; rfl
        rw [hz0, hc0] at hu
        obtain ⟨v', w', news', r1, r2, r3, r4, r5⟩ := run_append_src ty u1 i1 y2 y4 hzs (World.ownsRow_nil w 0 et e.sz) (ys := ys) (u := v) (ok := okT X st.hp env none) ⟨_, c3, news, s1, s2, s3, s4, .inr ⟨b, o, rfl, hcell⟩⟩ (by rw [i3]; exact hb) y5
        rw [← hu] at r1
        obtain ⟨g1, g2, g3, g4⟩ := hR.newRow (base + d + 1) et (row := none) (ys := ys) (fun k hk => by cases hk) (by simpa using r2) (by simpa using r3) r4 (fun k hk => by
          rcases r5 with r5 | r5
          · rw [r5] at hk; cases hk
          · right; rw [r5] at hk; injection hk with hk; omega)
        exact ⟨v', w', r1, _, _, by simpa [toRow] using h, g1.put hd g3, g2, g4⟩
  · cases h

/-! ### The other operations that turn something -/
/-- A literal's elements in order, all of them, as data. -/
def alits (e : Ty) : Nat → List (Nat × AV) → Option (List e.D)
  | _, [] => some []
  | k, (i, v) :: r => cond (Nat.beq i k) (match dOf1 e v with
    | some y => match alits e (k + 1) r with
      | some ys => some (y :: ys)
      | none => none
    | none => none) none

theorem fill_seq {e : Ty} (hF : True) : (k : Nat) → (ps : List (Nat × AV)) → (vs : List (Nat × Value)) → (ys : List e.D) → (cells : Array Value) → alits e k ps = some ys → vs.map (·.1) = ps.map (·.1) →
    (∀ (i : Nat) (p : Nat × AV) (q : Nat × Value), ps[i]? = some p → vs[i]? = some q → RelV F env w p.2 q.2) → (k + ps.length) * e.sz ≤ cells.size →
    ∃ out ds, Instr.fill (fun i => some (i * e.sz, e.sz)) cells vs = some out ∧ Flat (Cells w (F none) e) ys ds ∧ out.toList = cells.toList.take (k * e.sz) ++ ds ++ cells.toList.drop ((k + ps.length) * e.sz)
  | k, [], vs, ys, cells, h, hm, hr, hl => by
    simp only [alits] at h
    injection h with h; subst h
    cases vs with
    | nil => exact ⟨cells, [], by simp [Instr.fill], rfl, by simp⟩
    | cons v vs => simp at hm
  | k, (i, p) :: ps, [], ys, cells, h, hm, hr, hl => by simp at hm
  | k, (i, p) :: ps, (i', v) :: vs, ys, cells, h, hm, hr, hl => by
    simp only [List.map_cons, List.cons.injEq] at hm
    obtain ⟨rfl, hm⟩ := hm
    simp only [alits] at h
    obtain ⟨hk, h⟩ := cond_some h
    obtain rfl := beq_iff.1 hk
    split at h
    case h_2 => cases h
    rename_i y hy
    split at h
    case h_2 => cases h
    rename_i ys' hys
    injection h with h; subst h
    have hv := dOf1_sound (hr 0 _ _ List.getElem?_cons_zero List.getElem?_cons_zero) hy
    have hlv := Cells.length e hv
    simp only [List.length_cons] at hl
    have hmul : (i' + (ps.length + 1)) * e.sz = i' * e.sz + e.sz + ps.length * e.sz := by rw [Nat.add_mul, Nat.add_mul]; omega
    have hmul2 : (i' + 1 + ps.length) * e.sz = i' * e.sz + e.sz + ps.length * e.sz := by rw [Nat.add_mul, Nat.add_mul]; omega
    have hsz : v.cells.size = e.sz := by rw [← hlv, Array.length_toList]
    have hfs := foldl_set v.cells.toList cells (i' * e.sz) (by rw [hlv]; omega)
    obtain ⟨out, ds, k1, k2, k3⟩ := fill_seq hF (i' + 1) ps vs ys' (v.cells.toList.zipIdx.foldl (fun c (q : Value × Nat) => c.setIfInBounds (i' * e.sz + q.2) q.1) cells) hys hm
      (fun j p' q' e1 e2 => hr (j + 1) p' q' (by simpa using e1) (by simpa using e2)) (by rw [foldl_size]; omega)
    refine ⟨out, v.cells.toList ++ ds, ?_, ⟨v.cells.toList, ds, rfl, hv, k2⟩, ?_⟩
    · simp only [Instr.fill]
      rw [if_neg (by simp [hsz]; omega), ← k1]
      congr 1
      rw [← Array.foldl_toList]
      simp
    · rw [k3, hfs, hlv]
      have hct : (cells.toList.take (i' * e.sz)).length = i' * e.sz := by rw [List.length_take]; have : cells.toList.length = cells.size := Array.length_toList; omega
      have e1 : (i' + 1) * e.sz = (cells.toList.take (i' * e.sz) ++ v.cells.toList).length := by rw [List.length_append, hct, hlv, Nat.add_mul]; omega
      have hab : (cells.toList.take (i' * e.sz) ++ v.cells.toList).length = i' * e.sz + e.sz := by rw [List.length_append, hct, hlv]
      rw [List.append_assoc (cells.toList.take (i' * e.sz)) v.cells.toList, ← List.append_assoc, e1, List.take_left, hmul2, List.drop_append, List.drop_of_length_le (by rw [hab]; omega), List.nil_append, hab, List.drop_drop]
      simp only [List.append_assoc, List.length_cons]
      congr 3
      rw [hmul]
      congr 1
      omega

def natOf : AV → Option Int
  | .int _ n => some n
  | _ => none

def allLeaf : List AV → Bool
  | [] => true
  | v :: vs => isLeaf v && allLeaf vs

/-! ### append(x, make([]T, n)...) -/
theorem Flat.replicate {e : Ty} {ok : Nat → Prop} {z0 : Value} (h : zvals e = [z0]) : (n : Nat) → Flat (Cells w ok e) (List.replicate n e.z) (List.replicate n z0)
  | 0 => rfl
  | n + 1 => ⟨[z0], List.replicate n z0, rfl, by rw [← h]; exact zvals_cells e, Flat.replicate h n⟩

theorem run_append_make {t et kt : TypeId} {i : TypeInfo} {z : Value} (ty : TypeId) (hu : P.underlying t = some (.slice et)) (hk : P.underlying kt = some (.int .i64)) (hi : P.info? et = some i) (hz : i.zero = some z) (hsz : i.size = 1) (hzs : z.cells = #[z]) (hone : z.oneCell' = true)
    {v : Value} {n : Nat} {xs : List Value} (hown : w.ownsRow 0 et 1 v n xs) (m : Nat) (hb : (n + m) * i.bytes ≤ 140737488355328) (h0 : 0 < i.bytes) :
    ∃ v' w', (Builtin.append_ #[t, kt] ty #[v, .int .i64 (m : Int)]).run P w = .ok v' w' ∧ w'.ownsRow 0 et 1 v' (n + m) (xs ++ List.replicate m z) ∧ w.grownBy w' v.ownBlock ∧ (v'.ownBlock = v.ownBlock ∨ v'.ownBlock = some w.heap.size) := by
  have hnm : n + m ≤ 140737488355328 := Nat.le_trans (Nat.le_mul_of_pos_right _ h0) hb
  have hmb : m * i.bytes ≤ 140737488355328 := Nat.le_trans (Nat.mul_le_mul_right _ (Nat.le_add_left m n)) hb
  have hw64 : IntKind.i64.wrap (m : Int) = (m : Int) := by rw [IntKind.wrap_i64]; omega
  have hneg : ¬ ((m : Int) < 0) := by omega
  have hw0 : IntKind.i64.wrap 0 = 0 := by decide
  have hbig : ¬ (281474976710656 < (m : Int) * (i.bytes : Int)) := by
    have h1 : ((m * i.bytes : Nat) : Int) ≤ ((140737488355328 : Nat) : Int) := Int.ofNat_le.2 hmb
    rw [Int.natCast_mul] at h1
    generalize (m : Int) * (i.bytes : Int) = q at h1
    omega
  have hzc : Builtin.zeroCells #[z] m = (List.replicate m z).toArray := by
    rw [← Array.toList_inj]
    refine List.ext_getElem (by simp [Builtin.zeroCells]) fun j h1 h2 => ?_
    simp [Builtin.zeroCells, Nat.mod_one]
  have hlen : (xs ++ List.replicate m z).length = (n + m) * 1 := by rw [List.length_append, hown.1, List.length_replicate]; omega
  have hmx : n + m ≤ maxLen := by unfold maxLen; omega
  have grown : ∀ (old : Nat), ∀ (row : Option Nat),
      (w.drew.alloc (.cells (xs.toArray ++ (List.replicate m z).toArray ++ Builtin.zeroCells z.cells (grownCap w (n + m) old et - (n + m))) et)).ownsRow 0 et 1
        (.slice (some ⟨w.heap.size, 0, none⟩) (n + m) (grownCap w (n + m) old et)) (n + m) (xs ++ List.replicate m z) ∧
      w.grownBy (w.drew.alloc (.cells (xs.toArray ++ (List.replicate m z).toArray ++ Builtin.zeroCells z.cells (grownCap w (n + m) old et - (n + m))) et)) row := by
    intro old row
    have hge := grownCap_ge w (n + m) old et
    have hcm : grownCap w (n + m) old et ≤ maxLen := grownCap_le_maxLen w (n + m) old et hmx
    refine ⟨⟨hlen, .inr ⟨w.heap.size, _, _, rfl, Nat.zero_le _, heap_alloc_new w.drew _, hge, hcm, ?_, ?_⟩⟩, ⟨rfl, rfl, rfl, by simp, fun k hk _ => _root_.Go.heap_alloc_old w.drew _ hk⟩⟩
    · simp only [Array.size_append, List.size_toArray, size_zeroCells, hzs, hown.1, List.length_replicate]
      simp; omega
    · simp only [Array.toList_append, List.append_assoc]
      rw [← List.append_assoc, ← hlen]
      exact List.take_left
  rcases hown.2 with ⟨rfl, rfl⟩ | ⟨g, cap, cur, rfl, hbg, hg, hnc, hcm, hcs, htake⟩
  · have hx : xs = [] := List.eq_nil_of_length_eq_zero (by simpa using hown.1)
    subst hx
    by_cases hm : m = 0
    · subst hm
      refine ⟨.slice none 0 0, w, ?_, World.ownsRow_nil w 0 et 1, ⟨rfl, rfl, rfl, Nat.le_refl _, fun _ _ _ => rfl⟩, Or.inl rfl⟩
      simp [Builtin.append_, run_underlying hu, run_underlying hk, sizeOf, typeInfo, hi, asInt, asIntOf, hw0, hw64]
    · have hgr := grown 0 (Value.ownBlock (.slice none 0 0))
      have h48' : ¬ (281474976710656 < Builtin.nextslicecap m 0 * i.bytes) := by rw [nextslicecap_zero (by omega)]; omega
      have h63' : ¬ (9223372036854775807 < (m : Int)) := by omega
      simp only [Nat.zero_add, List.nil_append] at hgr ⊢
      refine ⟨_, _, ?_, hgr.1, hgr.2, Or.inr rfl⟩
      simp [Builtin.append_, run_underlying hu, run_underlying hk, sizeOf, typeInfo, zeroValue, hi, hz, hsz, hzs, asInt, asIntOf, hw0, hw64, hneg, hbig, hm, h63', h48', Question.forced, run_firstCells_none, newRow, grownCap, hzc]
  · by_cases hroom : n + m ≤ cap
    · have hfit : n * 1 + (List.replicate m z).length ≤ cur.size := by rw [hcs, List.length_replicate]; omega
      have hst := run_storeCells_at P g (n * 1) et (List.replicate m z) 0 cur w hg (by simpa using hfit) (fun u hu => by rw [(List.mem_replicate.1 hu).2]; exact hone)
      simp only [Nat.add_zero, Nat.mul_one] at hst
      refine ⟨.slice (some ⟨g, 0, none⟩) (n + m) cap, w.setRow g (cur.toList.take n ++ List.replicate m z ++ cur.toList.drop (n + (List.replicate m z).length)).toArray, ?_, ⟨hlen, .inr ⟨g, cap, _, rfl, hbg, setRow_heap w g cur _ et _ hg, hroom, hcm, ?_, ?_⟩⟩, ⟨rfl, rfl, rfl, by simp, fun k _ hk => setRow_other w g k _ (fun e => hk (by simp [Value.ownBlock, e]))⟩, Or.inl rfl⟩
      · by_cases hm : m = 0
        · subst hm
          simp at hst
          simp [Builtin.append_, run_underlying hu, run_underlying hk, sizeOf, typeInfo, hi, hsz, asInt, asIntOf, hw0, hw64, hnc, Addr.add_lit, hst]
        · simp [Builtin.append_, run_underlying hu, run_underlying hk, sizeOf, typeInfo, zeroValue, hi, hz, hsz, hzs, asInt, asIntOf, hw0, hw64, hneg, hbig, hm, hroom, hzc, Addr.add_lit]
          simp at hst
          rw [hst]
          rfl
      · simp only [List.size_toArray, List.length_append, List.length_take, List.length_drop, Array.length_toList, List.length_replicate]
        omega
      · rw [show (cur.toList.take n) = xs from by rw [← htake, Nat.mul_one], ← hlen]
        exact List.take_left
    · have holds : ∀ j u, xs[j]? = some u → w.cell? ((⟨g, 0, none⟩ : Addr).add j) = some u := hown.cells (g := g) rfl
      have hgr := grown cap (Value.ownBlock (.slice (some ⟨g, 0, none⟩) n cap))
      have hfo := run_firstCells_some (P := P) w.drew 1 n ⟨g, 0, none⟩ n cap xs hown.1 (by simpa using holds)
      have h63' : ¬ (9223372036854775807 < ((n : Int) + (m : Int))) := by omega
      have h48' : ¬ (281474976710656 < Builtin.nextslicecap (n + m) cap * i.bytes) := by have := growslice_fits (need := n + m) (old := cap) (by omega) hb; omega
      have hm : m ≠ 0 := by omega
      refine ⟨_, _, ?_, hgr.1, hgr.2, Or.inr rfl⟩
      simp [Builtin.append_, run_underlying hu, run_underlying hk, sizeOf, typeInfo, zeroValue, hi, hz, hsz, hzs, asInt, asIntOf, hw0, hw64, hneg, hbig, hm, hroom, h63', h48', Question.forced, hfo, newRow, grownCap, hzc]

def aappendZ (T : TypeId → Option TS) (Y : TypeId → Option Ty) (base d : Nat) (t t' : TypeId) (s x : AV) (st : AState) (K : AState → Option R) : Option R :=
  match T t, T t', x with
  | some ⟨.sl et, _, _, _⟩, some ⟨.int .i64, _, _, _⟩, .int .i64 m => match T et, Y et with
    | some ts, some e => cond (Nat.beq e.sz 1) (cond (decide (0 ≤ m)) (match s with
        | .nil => cond (decide (m.toNat * ts.bytes ≤ 140737488355328)) (toRow st d (base + d + 1) et e (List.replicate m.toNat e.z) K) none
        | .own j => match st.hp j with
          | .row te e' xs => cond (Nat.beq te et) (match (castL xs : Option (List e.D)) with
            | some xs => cond (decide ((xs.length + m.toNat) * ts.bytes ≤ 140737488355328)) (toRow st d j et e (xs ++ List.replicate m.toNat e.z) K) none
            | none => none) none
          | _ => none
        | _ => none) none) none
    | _, _ => none
  | _, _, _ => none

theorem aappendZ_sound (hT : TOK P T) (hY : YOK P Y) (hR : Rel X nt env st a w) {d : Nat} (hd : d < nt) {t t' : TypeId} {s x : AV} {u v : Value} {K : AState → Option R} {r : R} (ty : TypeId)
    (hs : RelV (okT X st.hp env) env w s u) (hx : RelV (okT X st.hp env) env w x v) (h : aappendZ T Y base d t t' s x st K = some r) :
    ∃ z w', (Builtin.append_ #[t, t'] ty #[u, v]).run P w = .ok z w' ∧ AppOK X nt env st a w d K r z w' := by
  unfold aappendZ at h
  split at h
  case h_2 => cases h
  rename_i et _ _ _ _ _ _ m ht ht'
  split at h
  case h_2 => cases h
  rename_i ts e hts hye
  obtain ⟨h1, h'⟩ := cond_some h
  clear h
  obtain ⟨hm0, h⟩ := condP_some h'
  clear h'
  have h1 := beq_iff.1 h1
  obtain ⟨dd, u1, u2⟩ := hT.under ht
  obtain rfl : dd = _ := u2
  obtain ⟨dk, uk1, uk2⟩ := hT.under ht'
  obtain rfl : dk = _ := uk2
  obtain ⟨i, i1, i2, i3⟩ := hT.info hts
  obtain ⟨i', z, y1, y2, y3, y4, y5, y6⟩ := hY et e hye
  obtain rfl : i = i' := by rw [i1] at y1; injection y1
  have hz1 := y6 h1
  have hzv : zvals e = [z] := by rw [← y3, hz1]
  have hone : z.oneCell' = true := Cells.one e (zvals_cells (w := w) (ok := fun _ => True) e) z (by rw [hzv]; simp)
  obtain ⟨rfl, _⟩ := hx
  obtain ⟨mn, rfl⟩ : ∃ mn : Nat, m = (mn : Int) := ⟨m.toNat, by omega⟩
  rw [Int.toNat_natCast] at h
  have key : ∀ (id : Nat) (u' : Value) (n : Nat) (xs : List e.D) (ds : List Value), u = u' → w.ownsRow 0 et e.sz u' n ds → Flat (Cells w (okT X st.hp env none) e) xs ds → n = xs.length →
      (∀ k, u'.ownBlock = some k → (st.hp id).isRow = true ∧ env.blk id = some k) → (n + mn) * ts.bytes ≤ 140737488355328 → toRow st d id et e (xs ++ List.replicate mn e.z) K = some r →
      ∃ z w', (Builtin.append_ #[t, t'] ty #[u, .int .i64 (mn : Int)]).run P w = .ok z w' ∧ AppOK X nt env st a w d K r z w' := by
    intro id u' n xs ds hu hown hfl hn hrow hb hk
    rw [h1] at hown
    obtain ⟨v', w', r1, r2, r4, r5⟩ := run_append_make ty u1 uk1 i1 y2 (by rw [y4, h1]) hz1 hone hown mn (by rw [i3]; exact hb) y5
    subst hu
    have r2' : w'.ownsRow 0 et e.sz v' (xs ++ List.replicate mn e.z).length (ds ++ List.replicate mn z) := by rw [List.length_append, List.length_replicate, ← hn, h1]; exact r2
    obtain ⟨q1, q2, q3, q4⟩ := hR.newRow id et (row := u.ownBlock) hrow r2' (Flat.append _ _ _ _ hfl (Flat.replicate hzv mn)) r4 (fun k hk => by
      rcases r5 with r5 | r5
      · left; rw [← r5]; exact hk
      · right; rw [r5] at hk; injection hk with hk; omega)
    exact ⟨v', w', r1, _, _, hk, q1.put hd q3, q2, q4⟩
  split at h
  · obtain ⟨hb, h⟩ := condP_some h
    simp only [RelV] at hs
    exact key (base + d + 1) _ 0 [] [] hs (World.ownsRow_nil _ _ _ _) rfl rfl (fun k hk => by cases hk) (by rw [Nat.zero_add]; exact hb) (by simpa using h)
  · rename_i j
    split at h
    case h_2 => cases h
    rename_i te e' xs hh
    obtain ⟨hte, h2⟩ := cond_some h
    clear h
    obtain rfl := beq_iff.1 hte
    split at h2
    case h_2 => cases h2
    rename_i xs' hc
    obtain ⟨he, hxs⟩ := castL_some hc
    obtain ⟨hb, h⟩ := condP_some h2
    clear h2 hc
    subst he
    obtain rfl : xs' = xs := hxs
    have ho := hR.hp j
    rw [hh] at ho
    obtain ⟨o1, ds, o2, o3⟩ := ho
    exact key j _ xs'.length xs' ds hs.1 o2 o3 rfl (fun k hk => ⟨by rw [hh], by rw [o1]; exact hk⟩) hb h
  · cases h

/-! ### A row that is marked: its cells stand -/
section
variable {ok : Nat → Prop}
theorem Row.recell {α : Type} {sz : Nat} {R R' : α → List Value → Prop} {xs : List α} {b o : Nat} (hc : ∀ ad, w'.cell? ad = w.cell? ad) (hR : ∀ x cs, R x cs → R' x cs) (h : Row w ok sz R xs b o) : Row w' ok sz R' xs b o := by
  refine ⟨h.1, fun i hi => ?_⟩
  obtain ⟨cs, h1, h2, h3⟩ := h.2 i hi
  exact ⟨cs, hR _ _ h1, h2, fun j hj => by rw [hc]; exact h3 j hj⟩

theorem SlP.recell {α : Type} {sz : Nat} {R R' : α → List Value → Prop} {xs : List α} {A : Option Addr} (hc : ∀ ad, w'.cell? ad = w.cell? ad) (hR : ∀ x cs, R x cs → R' x cs) (h : SlP w ok sz R xs A) : SlP w' ok sz R' xs A := by
  rcases h with h | ⟨b, o, hA, h⟩
  · exact .inl h
  · exact .inr ⟨b, o, hA, h.recell hc hR⟩

theorem Cells.recell (hc : ∀ ad, w'.cell? ad = w.cell? ad) : (t : Ty) → {x : t.D} → {cs : List Value} → Cells w ok t x cs → Cells w' ok t x cs
  | .int k, n, cs, h => h
  | .bool, b, cs, h => h
  | .str, xs, cs, h => h
  | .sl e, xs, cs, h => by
    obtain ⟨A, c, h1, h2, h3, h4⟩ := h
    exact ⟨A, c, h1, h2, h3, h4.recell hc (fun x cs hx => Cells.recell hc e hx)⟩
  | .pair a b, x, cs, h => by
    obtain ⟨c1, c2, h1, h2, h3⟩ := h
    exact ⟨c1, c2, h1, Cells.recell hc a h2, Cells.recell hc b h3⟩
end

mutual
theorem RelV.recell (hc : ∀ ad, w'.cell? ad = w.cell? ad) : (a : AV) → (v : Value) → RelV F env w a v → RelV F env w' a v
  | .top, v, h => by simp [RelV]
  | .int k n, v, h => by simpa [RelV] using h
  | .bool b, v, h => by simpa [RelV] using h
  | .str xs, v, h => by simpa [RelV] using h
  | .nil, v, h => by simpa [RelV] using h
  | .nilp, v, h => by simpa [RelV] using h
  | .nili, v, h => by simpa [RelV] using h
  | .sl e xs tag ex, v, h => by
    simp only [RelV] at h ⊢
    obtain ⟨A, c, h1, h2, h3, h4, h5⟩ := h
    exact ⟨A, c, h1, h2, h3, h4, h5.recell hc (fun y cs hy => Cells.recell hc e hy)⟩
  | .ep e xs i off tag, v, h => by
    simp only [RelV] at h ⊢
    obtain ⟨b, o, h1, h2, h3, h4⟩ := h
    exact ⟨b, o, h1, h2, h3, h4.recell hc (fun y cs hy => Cells.recell hc e hy)⟩
  | .own y, v, h => by simpa [RelV] using h
  | .pre y n, v, h => by simpa [RelV] using h
  | .op y e i off, v, h => by simpa [RelV] using h
  | .ptr y off, v, h => by simpa [RelV] using h
  | .agg cs, v, h => by
    simp only [RelV] at h ⊢
    obtain ⟨vs, h1, h2⟩ := h
    exact ⟨vs, h1, RelL.recell hc cs _ h2⟩
  | .tup cs, v, h => by
    simp only [RelV] at h ⊢
    obtain ⟨vs, h1, h2⟩ := h
    exact ⟨vs, h1, RelL.recell hc cs _ h2⟩
  | .fn f a b, v, h => by
    simp only [RelV] at h ⊢
    obtain ⟨y, z, h1, h2, h3⟩ := h
    exact ⟨y, z, h1, RelL.recell hc a _ h2, RelL.recell hc b _ h3⟩
  | .iface t u, v, h => by
    simp only [RelV] at h ⊢
    obtain ⟨y, h1, h2⟩ := h
    exact ⟨y, h1, RelV.recell hc u _ h2⟩
theorem RelL.recell (hc : ∀ ad, w'.cell? ad = w.cell? ad) : (as : List AV) → (vs : List Value) → RelL F env w as vs → RelL F env w' as vs
  | [], vs, h => by simpa [RelL] using h
  | a :: as, vs, h => by
    simp only [RelL] at h ⊢
    obtain ⟨v, vs', h1, h2, h3⟩ := h
    exact ⟨v, vs', h1, RelV.recell hc a v h2, RelL.recell hc as vs' h3⟩
end

theorem Flat.remap {α : Type} {R R' : α → List Value → Prop} (hR : ∀ x cs, R x cs → R' x cs) : (xs : List α) → (ds : List Value) → Flat R xs ds → Flat R' xs ds
  | [], ds, h => h
  | x :: xs, ds, h => by
    obtain ⟨cs, ds', h1, h2, h3⟩ := h
    exact ⟨cs, ds', h1, hR _ _ h2, Flat.remap hR xs ds' h3⟩

theorem Rel.recell (h : Rel X nt env st a w) (hs : w'.heap.size = w.heap.size) (hc : ∀ ad, w'.cell? ad = w.cell? ad) (hk : ∀ id k, (st.hp id).live = true → env.blk id = some k → w'.heap[k]? = w.heap[k]?) : Rel X nt env st a w' := by
  refine ⟨fun i => RelV.recell hc _ _ (h.fr i), fun j => ?_, h.inj, fun j k hl he => by rw [hs]; exact h.lt j k hl he, fun k hx => by rw [hs]; exact h.xlt k hx, h.sz, h.df, fun i => RelV.recell hc _ _ (h.sv i)⟩
  have ho := h.hp j
  have hkj := hk j
  cases hq : st.hp j with
  | dead => trivial
  | cells T cs =>
    rw [hq] at ho hkj
    obtain ⟨b, vs, h1, h2, h3⟩ := ho
    exact ⟨b, vs, h1, by rw [hkj b rfl h1]; exact h2, RelL.recell hc cs _ h3⟩
  | row T e xs =>
    rw [hq] at ho hkj
    obtain ⟨h1, ds, h2, h3⟩ := ho
    refine ⟨h1, ds, ⟨h2.1, ?_⟩, Flat.remap (fun y cs hy => Cells.recell hc e hy) _ _ h3⟩
    rcases h2.2 with h4 | ⟨g, cap, cur, k1, k2, k3, k4⟩
    · exact .inl h4
    · refine .inr ⟨g, cap, cur, k1, k2, ?_, k4⟩
      rw [hkj g rfl (by rw [h1, k1]; rfl)]; exact k3

/-- A row that a constant's bytes are laid in is marked by the conversion to its own type: from then on it is only read. -/
def amark (T : TypeId → Option TS) (s t : TypeId) (v : AV) (st : AState) : Option Nat :=
  match v with
  | .own id => match st.hp id, T t with
    | .row te _ (_ :: _), some ⟨.sl et, _, _, _⟩ => cond (Nat.beq s t && isU8 T et && !Nat.beq id 0) (some id) none
    | _, _ => none
  | _ => none

theorem freeze_cell {g n : Nat} {c : Array Value} {e : TypeId} (hg : w.heap[g]? = some (.cells c e)) : (w.freeze ⟨g, n, none⟩ 1).heap.size = w.heap.size ∧ (∀ ad, (w.freeze ⟨g, n, none⟩ 1).cell? ad = w.cell? ad) ∧ (∀ k, k ≠ g → (w.freeze ⟨g, n, none⟩ 1).heap[k]? = w.heap[k]?) := by
  have hk : ∀ k, k ≠ g → (w.freeze ⟨g, n, none⟩ 1).heap[k]? = w.heap[k]? := fun k hk => by
    simp only [World.freeze, if_neg (show ¬ (1 = 0) by decide), Array.getElem?_modify, if_neg (Ne.symm hk)]
  refine ⟨by simp [World.freeze], fun ad => ?_, hk⟩
  by_cases e1 : ad.block = g
  · have : (w.freeze ⟨g, n, none⟩ 1).heap[g]? = some (.cells c e (n, n + 1)) := by
      simp [World.freeze, Array.getElem?_modify, hg]
    simp [World.cell?, e1, this, hg]
  · simp only [World.cell?, hk _ e1]

theorem amark_sound (hT : TOK P T) (hR : Rel X nt env st a w) {s d : TypeId} {x : AV} {u : Value} {id : Nat} (hx : RelV (okT X st.hp env) env w x u) (h : amark T s d x st = some id) :
    ∃ w', (convert s d u).run P w = .ok u w' ∧ Rel X nt env (st.frz id) a w' ∧ Ext env st.hp w env (st.frz id).hp w' ∧ RKeep env st.hp w env (st.frz id).hp w' := by
  unfold amark at h
  split at h
  case h_2 => cases h
  rename_i id'
  split at h
  case h_2 => cases h
  rename_i te e0 y ys et _ _ _ hh ht
  obtain ⟨hc, h⟩ := cond_some h
  injection h with h; subst h
  simp only [Bool.and_eq_true, Bool.not_eq_true'] at hc
  obtain ⟨⟨hc1, hu⟩, hc4⟩ := hc
  obtain rfl := beq_iff.1 hc1
  obtain ⟨d2, u2, e2⟩ := hT.under ht
  obtain rfl : d2 = _ := e2
  have he : P.underlying et = some (.int .u8) := by
    unfold isU8 at hu
    split at hu
    · rename_i h3; obtain ⟨d3, u3, e3⟩ := hT.under h3; rw [u3, show d3 = _ from e3]
    · cases hu
  have ho := hR.hp id'
  have hl : (st.hp id').live = true := by rw [hh]
  rw [hh] at ho
  obtain ⟨o1, ds, o2, o3⟩ := ho
  rcases o2.2 with ⟨_, h4⟩ | ⟨g, cap, cur, k1, k2, k3, k4⟩
  · simp at h4
  have hb : env.blk id' = some g := by rw [o1, k1]; rfl
  have hxu : u = .slice (some ⟨g, 0, none⟩) (y :: ys).length cap := hx.1.trans k1
  obtain ⟨f1, f2, f3⟩ := freeze_cell (n := cur.size) k3
  have hsh : w.shape? g = some (te, cur.size) := by unfold World.shape?; rw [k3]
  obtain ⟨r1, r2⟩ := hR.frz id'
  have r3 : RKeep env st.hp w env (st.frz id').hp w := RKeep.frz id'
  have hdead : ∀ j k, ((st.frz id').hp j).live = true → env.blk j = some k → k ≠ g := by
    intro j k hj hk e1
    subst e1
    have hfz : st.frz id' = ⟨fun i => AV.frz id' e0 (y :: ys) (st.fr i), fun j => cond (Nat.beq j id') .dead (AObj.frz id' e0 (y :: ys) (st.hp j)), fun i => AV.frz id' e0 (y :: ys) (st.sv i)⟩ := by
      unfold AState.frz
      rw [hh, hc4]
    rw [hfz] at hj
    rw [frz_live] at hj
    split at hj
    · cases hj
    · rename_i hne; exact hne (hR.inj j id' k hj hl hk hb)
  refine ⟨w.freeze ⟨g, cur.size, none⟩ 1, ?_, r1.recell f1 f2 fun j k hj hk => f3 k (hdead j k hj hk), ?_, ?_⟩
  · rw [hxu]
    simp [convert, run_underlying u2, run_underlying he, markStringish, hsh]
  · refine ⟨by simp [World.freeze], by simp [World.freeze], by simp [World.freeze], Nat.le_of_eq f1.symm, fun k hk hn => f3 k fun e1 => hn id' hl (by rw [e1]; exact hb), r2.new, r2.sv⟩
  · refine ⟨Nat.le_of_eq f1.symm, fun k hk hn => f3 k fun e1 => hn id' (by rw [hh]) (by rw [e1]; exact hb), r3.new⟩

/-- A string that is turned into bytes. -/
def astr (T : TypeId → Option TS) (s t : TypeId) (x : AV) : Option (List Int) :=
  match T s, T t, x with
  | some _, some ⟨.sl e, _, _, _⟩, .str xs => cond (isU8 T e) (some xs) none
  | _, _, _ => none

theorem astr_sound (hT : TOK P T) (hR : Rel X nt env st a w) {s d : TypeId} {x : AV} {u : Value} {xs : List Int} (hx : RelV (okT X st.hp env) env w x u) (h : astr T s d x = some xs) :
    ∃ z w', (convert s d u).run P w = .ok z w' ∧ Rel X nt env st a w' ∧ RelV (okT X st.hp env) env w' (.sl (.int .u8) xs none false) z ∧ Ext env st.hp w env st.hp w' ∧ RKeep env st.hp w env st.hp w' := by
  unfold astr at h
  split at h
  case h_2 => cases h
  rename_i s1 e _ _ _ xs' h1 h2
  obtain ⟨hu, h⟩ := cond_some h
  injection h with h; subst h
  obtain ⟨d1, u1, _⟩ := hT.under h1
  obtain ⟨d2, u2, e2⟩ := hT.under h2
  obtain rfl : d2 = _ := e2
  have he : P.underlying e = some (.int .u8) := by
    unfold isU8 at hu
    split at hu
    · rename_i h3; obtain ⟨d3, u3, e3⟩ := hT.under h3; rw [u3, show d3 = _ from e3]
    · cases hu
  obtain ⟨z, rfl, hz, hl⟩ := hx
  have hlen : xs'.length = z.size := by rw [← hz]; simp [bytesOf]
  have hw : ∀ k, k < w.heap.size → (Lib.bytesWorld w e z).heap[k]? = w.heap[k]? := fun k hk => Lib.bytesWorld_at_old w e z k hk
  have hs : w.heap.size ≤ (Lib.bytesWorld w e z).heap.size := by rw [Lib.bytesWorld_size]; omega
  refine ⟨_, _, Lib.run_convert_string_bytes w s d e z u1 u2 he, hR.grow hs hw, ?_, Ext.grow rfl rfl rfl hs hw, ⟨hs, fun k hk _ => hw k hk, fun id k h1 h2 _ => ⟨id, h1, h2⟩⟩⟩
  refine ⟨some ⟨w.heap.size, 0, none⟩, grownCap w z.size 0 e, by rw [hlen], by rw [hlen]; exact grownCap_ge _ _ _ _, grownCap_le_maxLen _ _ _ _ hl, fun h => (by cases h), .inr ⟨w.heap.size, 0, rfl, ⟨fun _ hX => Nat.lt_irrefl _ (hR.xlt _ hX), fun id hlv _ hb => Nat.lt_irrefl _ (hR.lt id _ hlv hb).1⟩, fun i hi => ?_⟩⟩
  have hi' : i < z.data.toList.length := by rw [hlen] at hi; simpa using hi
  refine ⟨[.int .u8 xs'[i]], ⟨rfl, ?_⟩, rfl, fun j hj => ?_⟩
  · subst hz
    simp only [bytesOf, List.getElem_map, fits, IntKind.min, IntKind.max, IntKind.signed, IntKind.bits]
    have := (z.data.toList[i]).toNat_lt
    have h0 : ((z.data.toList[i].toNat : Int)) ≤ 255 := by omega
    constructor
    · simp
    · simpa using h0
  · obtain rfl : j = 0 := by simpa using hj
    have := Lib.bytesWorld_cell w e z i (by rw [← hlen]; exact hi)
    simp only [Ty.sz, Nat.mul_one, Nat.zero_add, Nat.add_zero, List.getElem_cons_zero] at this ⊢
    rw [this]
    subst hz
    simp [bytesOf, List.getD_eq_getElem?_getD, List.getElem?_eq_getElem hi']

/-- An operation with a slot, no call of a Go function. -/
def aeff (T : TypeId → Option TS) (Y : TypeId → Option Ty) (base d : Nat) (op : Op) (st : AState) (K : AState → Option R) : Option R :=
  match op with
  | .alloc t => match T t with
    | some ts => K ((st.turn true (base + d + 1) (.cells t (AV.killL true (base + d + 1) ts.zero))).put d (.ptr (base + d + 1) 0))
    | none => none
  | .box t x => match cellsO (st.ev x) with
    | some cs => K ((st.turn true (base + d + 1) (.cells t (AV.killL true (base + d + 1) cs))).put d (.ptr (base + d + 1) 0))
    | none => none
  | .buildSlice t n parts => match T t with
    | some ⟨.sl et, _, _, _⟩ => match Y et with
      | some e => (fun st1 : AState => match alits e 0 (parts.toList.map fun p => (p.1, st1.ev p.2)) with
        | some ys => cond (Nat.beq ys.length n && Nat.ble (n * e.sz) 16777216) (toRow st1 d (base + d + 1) et e ys K) none
        | none => none) (st.frzs (ownIdsL (parts.toList.map fun p => st.ev p.2)))
      | none => none
    | _ => none
  | .makeSlice t l c => match T t with
    | some ⟨.sl et, _, _, _⟩ => match T et, Y et, natOf (st.ev l), natOf (st.ev c) with
      | some ts, some e, some n, some m => cond (Nat.beq e.sz 1) (cond (decide (n = m)) (cond (decide (0 ≤ n)) (cond (decide (n.toNat * ts.bytes ≤ 140737488355328)) (toRow st d (base + d + 1) et e (List.replicate n.toNat e.z) K) none) none) none) none
      | _, _, _, _ => none
    | _ => none
  | .call c => match c.callee, c.args.toList, c.argTypes.toList with
    | .builtin .append, [s, x], [t, t'] => cond (Nat.beq t t') (aappend T Y base d t (st.ev s) (st.ev x) st K) (aappendZ T Y base d t t' (st.ev s) (st.ev x) st K)
    | _, _, _ => aval T st (.call c) fun v => K (st.put d v)
  | .convert s t x => match astr T s t (st.ev x) with
    | some xs => K (st.put d (.sl (.int .u8) xs none false))
    | none => match amark T s t (st.ev x) st with
      | some id => (fun st1 : AState => K (st1.put d (st1.ev x))) (st.frz id)
      | none => aval T st (.convert s t x) fun v => K (st.put d v)
  | op => aval T st op fun v => K (st.put d v)

/-- A store. -/
def astore (T : TypeId → Option TS) (t : TypeId) (p : AV) (x : Operand) (st : AState) (K : AState → Option R) : Option R :=
  match T t with
  | some ts => match p with
    | .ptr id o => match st.hp id, cellsO (st.ev x) with
      | .cells t0 cs, some ns => cond (allLeaf ns && Nat.beq ns.length ts.size && Nat.ble (o + ns.length) cs.length)
        (K (st.turn false id (.cells t0 (AV.killL false id (cs.take o ++ ns ++ cs.drop (o + ns.length)))))) none
      | _, _ => none
    | .op id e i o => (fun st1 : AState => match st1.hp id with
      | .row t0 e' xs => cond (decide (e' = e)) (match dOf1 e' (st1.ev x) with
        | some y => cond (Nat.beq o 0 && Nat.beq e'.sz ts.size) (K (st1.turn false id (.row t0 e' (xs.set i y)))) none
        | none => none) none
      | _ => none) (st.frzs (ownIds (st.ev x)))
    | _ => none
  | none => none

theorem aval_eff (hT : TOK P T) (hR : Rel X nt env st a w) {d : Nat} (hd : d < nt) {o : Oper} {K : AState → Option R} {r : R} (h : (aval T st o.op fun v => K (st.put d v)) = some r) :
    ∃ v w', (execOp a.eval o).run P w = .ok (.value v) w' ∧ AppOK X nt env st a w d K r v w' := by
  obtain ⟨av, z, h1, h2, h3⟩ := aval_sound hT hR h
  exact ⟨z, w, h2 w (opSame_refl _ _ _), _, env, h1, hR.put hd h3, Ext.refl _ _ _, RKeep.refl _ _ _⟩

theorem keys_map (parts : List (Nat × Operand)) (f : Operand → Value) (g : Operand → AV) : (parts.map fun p => (p.1, f p.2)).map (·.1) = (parts.map fun p => (p.1, g p.2)).map (·.1) := by simp [List.map_map, Function.comp]

theorem parts_rel (hR : Rel X nt env st a w) (parts : List (Nat × Operand)) : ∀ (i : Nat) (p : Nat × AV) (q : Nat × Value), (parts.map fun p => (p.1, st.ev p.2))[i]? = some p → (parts.map fun p => (p.1, a.eval p.2))[i]? = some q → RelV (okT X st.hp env) env w p.2 q.2 := by
  intro i p q e1 e2
  rw [List.getElem?_map] at e1 e2
  cases hq : parts[i]? with
  | none => rw [hq] at e1; cases e1
  | some o =>
    rw [hq] at e1 e2
    simp only [Option.map_some, Option.some.injEq] at e1 e2
    subst e1 e2
    exact hR.ev o.2

theorem alits_length {e : Ty} : (k : Nat) → (ps : List (Nat × AV)) → (ys : List e.D) → alits e k ps = some ys → ys.length = ps.length
  | k, [], ys, h => by simp only [alits] at h; injection h with h; subst h; rfl
  | k, (i, v) :: r, ys, h => by
    simp only [alits] at h
    obtain ⟨_, h⟩ := cond_some h
    split at h
    case h_2 => cases h
    split at h
    case h_2 => cases h
    rename_i ys' hys
    injection h with h; subst h
    simp [alits_length (k + 1) r ys' hys]

theorem newRow_alloc (h : Rel X nt env st a w) (x : Nat) (et : TypeId) {e : Ty} {ys : List e.D} {cells : Array Value} {ds : List Value} (hc : cells.toList = ds) (hf : Flat (Cells w (okT X st.hp env none) e) ys ds) (hl : ys.length ≤ maxLen) :
    Rel X nt (env.setR x (.slice (some ⟨w.heap.size, 0, none⟩) ys.length ys.length)) (st.turn true x (.row et e ys)) a (w.alloc (.cells cells et)) ∧
    Ext env st.hp w (env.setR x (.slice (some ⟨w.heap.size, 0, none⟩) ys.length ys.length)) (st.turn true x (.row et e ys)).hp (w.alloc (.cells cells et)) ∧
    RelV (okT X (st.turn true x (.row et e ys)).hp (env.setR x (.slice (some ⟨w.heap.size, 0, none⟩) ys.length ys.length))) (env.setR x (.slice (some ⟨w.heap.size, 0, none⟩) ys.length ys.length)) (w.alloc (.cells cells et)) (.own x) (.slice (some ⟨w.heap.size, 0, none⟩) ys.length ys.length) ∧
    RKeep env st.hp w (env.setR x (.slice (some ⟨w.heap.size, 0, none⟩) ys.length ys.length)) (st.turn true x (.row et e ys)).hp (w.alloc (.cells cells et)) := by
  have hlen := Flat.length (fun y cs hy => Cells.length e hy) ys ds hf
  have hsz : cells.size = ys.length * e.sz := by rw [← Array.length_toList, hc, hlen]
  refine h.newRow x et (row := none) (fun k hk => by cases hk) ⟨hlen, .inr ⟨w.heap.size, ys.length, cells, rfl, Nat.zero_le _, alloc_new _, Nat.le_refl _, hl, hsz, ?_⟩⟩ hf ?_ (fun k hk => .inr ?_)
  · rw [hc, List.take_of_length_le (by omega)]
  · exact World.grownBy_alloc w _ _
  · injection hk with hk; exact Nat.le_of_eq hk

theorem run_buildSlice {t et : TypeId} {i : TypeInfo} {z : Value} {n : Nat} {vs : Array (Nat × Value)} {G : Array Value → Prop} {e : Ty} (hu : P.underlying t = some (.slice et)) (hi : P.info? et = some i) (hz : i.zero = some z) (hsz : i.size = e.sz) (hn : n * e.sz ≤ 16777216)
    (hfill : ∀ cells : Array Value, cells.size = n * e.sz → ∃ out, Instr.fill (fun j => some (j * e.sz, e.sz)) cells vs.toList = some out ∧ G out) :
    ∃ out, G out ∧ (Instr.buildSlice t n vs).run P w = .ok (.slice (some ⟨w.heap.size, 0, none⟩) n n) (w.alloc (.cells out et)) := by
  have hzv : (zeroValue et).run P w = .ok z w := by
    unfold zeroValue
    simp only [Sem.run_bind, run_typeInfo' hi, Result.andThen_ok, hz, Sem.run_pure]
  have hn' : ¬ n * e.sz > 2 ^ 24 := by omega
  by_cases h0 : n * e.sz = 0
  · obtain ⟨out, h1, h2⟩ := hfill ((Array.range (n * e.sz)).map ((#[] : Array Value)[· % (#[] : Array Value).size]!)) (by simp)
    refine ⟨out, h2, ?_⟩
    unfold Instr.buildSlice
    simp only [Sem.run_bind, run_underlying hu, run_sizeOf' hi, hsz, Result.andThen_ok, Sem.run_ite, if_neg hn', if_pos h0, Sem.run_pure, h1, newRow, run_newObj]
    rfl
  · obtain ⟨out, h1, h2⟩ := hfill ((Array.range (n * e.sz)).map (z.cells[· % z.cells.size]!)) (by simp)
    refine ⟨out, h2, ?_⟩
    unfold Instr.buildSlice
    simp only [Sem.run_bind, run_underlying hu, run_sizeOf' hi, hsz, Result.andThen_ok, Sem.run_ite, if_neg hn', if_neg h0, hzv, Sem.run_pure, h1, newRow, run_newObj]
    rfl

theorem abuildSl_sound (hY : YOK P Y) (hR : Rel X nt env st a w) {d : Nat} (hd : d < nt) {t et : TypeId} {n : Nat} {parts : List (Nat × Operand)} {e : Ty} {st1 : AState} {ys : List e.D} {K : AState → Option R} {r : R}
    (u1 : P.underlying t = some (.slice et)) (hye : Y et = some e) (f1 : Rel X nt env st1 a w) (f2 : Ext env st.hp w env st1.hp w) (f3 : RKeep env st.hp w env st1.hp w)
    (hys : alits e 0 (parts.map fun p => (p.1, st1.ev p.2)) = some ys) (hn : ys.length = n) (hb : n * e.sz ≤ 16777216) (h : toRow st1 d (base + d + 1) et e ys K = some r) :
    ∃ z w', (Instr.buildSlice t n (parts.map fun p => (p.1, a.eval p.2)).toArray).run P w = .ok z w' ∧ AppOK X nt env st a w d K r z w' := by
  obtain ⟨i, z, y1, y2, y3, y4, y5, y6⟩ := hY et e hye
  have hlen := alits_length 0 _ _ hys
  have hparts : (parts.map fun p => (p.1, st1.ev p.2)).length = n := by rw [← hlen, hn]
  obtain ⟨out, ⟨ds, k2, k3⟩, hrun⟩ := run_buildSlice (P := P) (w := w) (n := n) (vs := (parts.map fun p => (p.1, a.eval p.2)).toArray) (e := e)
    (G := fun out => ∃ ds, Flat (Cells w (okT X st1.hp env none) e) ys ds ∧ out.toList = ds) u1 y1 y2 y4 hb (fun cells hcz => by
    obtain ⟨out, ds, k1, k2, k3⟩ := fill_seq (F := okT X st1.hp env) (env := env) trivial 0 _ (parts.map fun p => (p.1, a.eval p.2)) ys cells hys (keys_map _ _ _) (parts_rel f1 _) (by rw [hparts, Nat.zero_add]; omega)
    refine ⟨out, k1, ds, k2, ?_⟩
    have hcl : cells.toList.length = cells.size := Array.length_toList
    rw [k3, hparts, Nat.zero_mul, Nat.zero_add, List.take_zero, List.nil_append, List.drop_of_length_le (by omega), List.append_nil])
  have hsz := e.sz_pos
  have hnb : n ≤ 16777216 := Nat.le_trans (Nat.le_mul_of_pos_right _ hsz) hb
  have hml : ys.length ≤ maxLen := by unfold maxLen; omega
  obtain ⟨q1, q2, q3, q4⟩ := newRow_alloc f1 (base + d + 1) et k3 k2 hml
  rw [hn] at q1 q2 q3 q4
  unfold toRow at h
  have g1 := q1.put hd q3
  have g2 := f2.trans q2
  exact ⟨_, _, hrun, _, _, h, g1, g2, f3.trans q4⟩

theorem madeCells_list (z : Value) (n : Nat) : (madeCells #[z] n).toList = List.replicate n z := by
  refine List.ext_getElem (by simp [madeCells]) fun i h1 h2 => ?_
  simp [madeCells, Nat.mod_one]

theorem amakeSl_sound (hY : YOK P Y) (hR : Rel X nt env st a w) {d : Nat} (hd : d < nt) {t et : TypeId} {n : Nat} {kl kc : IntKind} {e : Ty} {K : AState → Option R} {r : R} {bytes : Nat}
    (u1 : P.underlying t = some (.slice et)) (hye : Y et = some e) (hb0 : ∀ i, P.info? et = some i → i.bytes = bytes) (h1 : e.sz = 1) (hb : n * bytes ≤ 140737488355328) (h : toRow st d (base + d + 1) et e (List.replicate n e.z) K = some r) :
    ∃ z w', (Instr.makeSlice t (.int kl (n : Int)) (.int kc (n : Int))).run P w = .ok z w' ∧ AppOK X nt env st a w d K r z w' := by
  obtain ⟨i, z, y1, y2, y3, y4, y5, y6⟩ := hY et e hye
  have hib := hb0 i y1
  have hz1 := y6 h1
  have hzv : zvals e = [z] := by rw [← y3, hz1]
  have hnn : n ≤ n * bytes := Nat.le_mul_of_pos_right _ (by rw [← hib]; exact y5)
  have hrun := run_make_row' (P := P) t et z bytes u1 (by rw [y1]; simp [y2, y4, h1, hib]) hz1 kl kc n (by rw [Nat.mul_comm]; omega) (by omega) w
  have hml : (List.replicate n e.z).length ≤ maxLen := by unfold maxLen; simp; omega
  obtain ⟨q1, q2, q3, q4⟩ := newRow_alloc hR (base + d + 1) et (madeCells_list z n) (Flat.replicate hzv n) hml
  rw [List.length_replicate] at q1 q2 q3 q4
  unfold toRow at h
  have g1 := q1.put hd q3
  exact ⟨_, _, hrun, _, _, h, g1, q2, q4⟩

theorem aeff_sound (hT : TOK P T) (hY : YOK P Y) (hR : Rel X nt env st a w) {d : Nat} (hd : d < nt) {o : Oper} {K : AState → Option R} {r : R} (h : aeff T Y base d o.op st K = some r) :
    ∃ v w', (execOp a.eval o).run P w = .ok (.value v) w' ∧ AppOK X nt env st a w d K r v w' := by
  have val : ∀ {s : Sem Value}, (∃ z w', s.run P w = .ok z w' ∧ AppOK X nt env st a w d K r z w') → execOp a.eval o = (do pure (.value (← s))) →
      ∃ v w', (execOp a.eval o).run P w = .ok (.value v) w' ∧ AppOK X nt env st a w d K r v w' := by
    rintro s ⟨z, w', h2, h3⟩ he
    exact ⟨z, w', by rw [he]; simp only [Sem.run_bind, h2, Result.andThen_ok, Sem.run_pure], h3⟩
  unfold aeff at h
  split at h
  case h_1 t he =>
    split at h
    case h_2 => cases h
    rename_i ts ht
    obtain ⟨dd, i, z, u1, u2, u3, u4, u5, u6, u7⟩ := hT t ts ht
    obtain ⟨q1, q2, q4⟩ := hR.newCells (base + d + 1) t (vs := z.cells) (cs := ts.zero) (by rw [← u7]; exact ofC0_relL _ _ _ _)
    refine val ⟨_, _, run_alloc u3 u6 (.tuple #[]), _, _, h, q1.put hd ⟨w.heap.size, by simp [Env.setB], rfl⟩, q2, q4⟩ (by simp only [execOp, he])
  case h_2 t x he =>
    split at h
    case h_2 => cases h
    rename_i cs hc
    obtain ⟨q1, q2, q4⟩ := hR.newCells (base + d + 1) t (vs := (a.eval x).cells) (cs := cs) (cellsO_rel hc (hR.ev x))
    refine val ⟨_, _, run_box _, _, _, h, q1.put hd ⟨w.heap.size, by simp [Env.setB], rfl⟩, q2, q4⟩ (by simp only [execOp, he])
  case h_3 t n parts he =>
    split at h
    case h_2 => cases h
    rename_i et _ _ _ ht
    split at h
    case h_2 => cases h
    rename_i e hye
    dsimp only at h
    obtain ⟨f1, f2⟩ := hR.frzs (ownIdsL (parts.toList.map fun p => st.ev p.2))
    have f3 : RKeep env st.hp w env _ w := RKeep.frzs (ownIdsL (parts.toList.map fun p => st.ev p.2)) st
    generalize st.frzs (ownIdsL (parts.toList.map fun p => st.ev p.2)) = st1 at f1 f2 f3 h
    split at h
    case h_2 => cases h
    rename_i ys hys
    obtain ⟨hc, h'⟩ := cond_some h
    clear h
    simp only [Bool.and_eq_true] at hc
    obtain ⟨dd, u1, u2⟩ := hT.under ht
    obtain rfl : dd = _ := u2
    refine val (abuildSl_sound hY hR hd u1 hye f1 f2 f3 hys (beq_iff.1 hc.1) (ble_iff.1 hc.2) h') ?_
    simp only [execOp, he]
    congr 2
    rw [← Array.toList_inj]
    simp
  case h_4 t l c he =>
    split at h
    case h_2 => cases h
    rename_i et _ _ _ ht
    split at h
    case h_2 => cases h
    rename_i ts e n m hts hye hn hm
    obtain ⟨h1, h2⟩ := cond_some h
    obtain ⟨h3, h4⟩ := condP_some h2
    obtain ⟨h5, h6⟩ := condP_some h4
    obtain ⟨h7, h8⟩ := condP_some h6
    clear h h2 h4 h6
    subst h3
    have natR : ∀ {x : Operand}, natOf (st.ev x) = some n → ∃ k, a.eval x = .int k (n.toNat : Int) := by
      intro x hx
      unfold natOf at hx
      split at hx
      case h_2 => cases hx
      rename_i k n' hv
      injection hx with hx
      have hr := hR.ev x
      rw [hv] at hr
      exact ⟨k, by rw [hr.1, hx, Int.toNat_of_nonneg h5]⟩
    obtain ⟨kl, hl⟩ := natR hn
    obtain ⟨kc, hc⟩ := natR hm
    obtain ⟨dd, u1, u2⟩ := hT.under ht
    obtain rfl : dd = _ := u2
    obtain ⟨i, i1, i2, i3⟩ := hT.info hts
    refine val (amakeSl_sound (kl := kl) (kc := kc) hY hR hd u1 hye (bytes := ts.bytes) (fun i' hi' => by rw [i1] at hi'; injection hi' with hi'; rw [← hi']; exact i3) (beq_iff.1 h1) h7 h8) ?_
    simp only [execOp, he, hl, hc]
  case h_5 c he =>
    split at h
    · rename_i s x t t' e1 e2 e3
      have e2 : c.args = #[s, x] := by rw [← Array.toList_inj]; simpa using e2
      have e3 : c.argTypes = #[t, t'] := by rw [← Array.toList_inj]; simpa using e3
      cases htt : Nat.beq t t' with
      | true =>
        rw [htt] at h
        obtain rfl := beq_iff.1 htt
        refine val (aappend_sound hT hY hR hd o.type (hR.ev s) (hR.ev x) h) ?_
        simp [execOp, he, resolve, e1, invoke, builtin, e2, e3]
      | false =>
        rw [htt] at h
        refine val (aappendZ_sound hT hY hR hd o.type (hR.ev s) (hR.ev x) h) ?_
        simp [execOp, he, resolve, e1, invoke, builtin, e2, e3]
    · have hq : aval T st o.op (fun v => K (st.put d v)) = some r := by rw [he]; exact h
      exact aval_eff hT hR hd hq
  case h_6 s t x he =>
    split at h
    · rename_i xs hxs
      obtain ⟨z, w', g1, g2, g3, g4, g5⟩ := astr_sound hT hR (hR.ev x) hxs
      refine val ⟨z, w', g1, _, env, h, g2.put hd g3, g4, g5⟩ (by simp only [execOp, he])
    · split at h
      · rename_i id hid
        obtain ⟨w', g1, g2, g3, g4⟩ := amark_sound hT hR (hR.ev x) hid
        exact val ⟨_, w', g1, _, env, h, g2.put hd (g2.ev x), g3, g4⟩ (by simp only [execOp, he])
      · have hq : aval T st o.op (fun v => K (st.put d v)) = some r := by rw [he]; exact h
        exact aval_eff hT hR hd hq
  case h_7 he => exact aval_eff hT hR hd h
/-! ### Stores -/
theorem allLeaf_one : (ns : List AV) → (vs : List Value) → allLeaf ns = true → RelL F env w ns vs → ∀ v ∈ vs, v.oneCell' = true
  | [], vs, h, hr => by simp only [RelL] at hr; subst hr; simp
  | n :: ns, vs, h, hr => by
    obtain ⟨v, vs', rfl, hv, hr⟩ := hr
    simp only [allLeaf, Bool.and_eq_true] at h
    intro u hu
    rcases List.mem_cons.1 hu with rfl | hu
    · exact (isLeaf_one h.1 hv).1
    · exact allLeaf_one ns vs' h.2 hr u hu

theorem run_storeAt {t : TypeId} {i : TypeInfo} {ad : Addr} {v : Value} {w' : World} (hi : P.info? t = some i) (hs : v.cells.size = i.size) (h : (storeCells ad v.cells.toList).run P w = .ok () w') : (Instr.storeAt t (.pointer (some ad)) v).run P w = .ok () w' := by
  simp only [Instr.storeAt, Instr.sureAddr, Sem.run_bind, Result.andThen_ok, Sem.run_pure, storeVar, run_sizeOf' hi, Sem.run_ite, hs, ne_eq, not_true, if_false, h]

def StOK (X : Nat → Prop) (nt : Nat) (env : Env) (st : AState) (a : Act) (w : World) (K : AState → Option R) (r : R) (w' : World) : Prop :=
  ∃ st' env', K st' = some r ∧ Rel X nt env' st' a w' ∧ Ext env st.hp w env' st'.hp w'

theorem astore_sound (hT : TOK P T) (hR : Rel X nt env st a w) {t : TypeId} {p : AV} {u : Value} {x : Operand} {K : AState → Option R} {r : R} (hp : ∀ st1, Rel X nt env st1 a w → True) (hpv : ∃ o : Operand, p = st.ev o ∧ u = a.eval o)
    (h : astore T t p x st K = some r) : ∃ w', (Instr.storeAt t u (a.eval x)).run P w = .ok () w' ∧ StOK X nt env st a w K r w' := by
  obtain ⟨po, hpo, rfl⟩ := hpv
  have hpr := hR.ev po
  rw [← hpo] at hpr
  unfold astore at h
  split at h
  case h_2 => cases h
  rename_i ts hts
  obtain ⟨i, i1, i2, i3⟩ := hT.info hts
  split at h
  · rename_i id o
    split at h
    case h_2 => cases h
    rename_i t0 cs ns hh hns
    obtain ⟨hc, h2⟩ := cond_some h
    clear h
    simp only [Bool.and_eq_true] at hc
    have hv := cellsO_rel hns (hR.ev x)
    obtain ⟨b, w', s1, s2, s3, s4⟩ := hR.store hh hv (allLeaf_one _ _ hc.1.1 hv) (ble_iff.1 hc.2)
    obtain ⟨b', hb', hu⟩ := hpr
    rw [s1] at hb'
    injection hb' with hb'
    subst hb'
    refine ⟨w', ?_, _, env, h2, s3, s4⟩
    rw [hu]
    refine run_storeAt i1 ?_ s2
    have := RelL.length _ _ hv
    rw [Array.length_toList] at this
    rw [this, i2]; exact beq_iff.1 hc.1.2
  · rename_i id e i' o
    dsimp only at h
    obtain ⟨f1, f2⟩ := hR.frzs (ownIds (st.ev x))
    have hpr1 := hpr
    generalize hst1 : st.frzs (ownIds (st.ev x)) = st1 at f1 f2 h
    split at h
    case h_2 => cases h
    rename_i t0 e' xs hh
    obtain ⟨he, h2⟩ := condP_some h
    clear h
    subst he
    split at h2
    case h_2 => cases h2
    rename_i y hy
    obtain ⟨hc, h3⟩ := cond_some h2
    clear h2
    simp only [Bool.and_eq_true] at hc
    have ho0 := beq_iff.1 hc.1
    subst ho0
    obtain ⟨b, l, c, v1, v2, v3, v4⟩ := hpr1
    have hcell := dOf1_sound (f1.ev x) hy
    have ho := f1.hp id
    rw [hh] at ho
    obtain ⟨A, c', p1, p2, p3, p4, p5⟩ := hdr_row ho
    rw [v1] at p1
    injection p1 with p1a p1b p1c
    have hi' : i' < xs.length := by omega
    obtain ⟨b', c'', w', s1, s2, s3, s4⟩ := f1.storeRow hh hi' hcell
    rw [v1] at s1
    injection s1 with s1a s1b s1c
    injection s1a with s1a
    injection s1a with s1a
    subst s1a
    refine ⟨w', ?_, _, env, h3, s3, f2.trans s4⟩
    rw [v4]
    refine run_storeAt i1 ?_ s2
    have := Cells.length _ hcell
    rw [Array.length_toList] at this
    rw [this, i2]; exact beq_iff.1 hc.2
  · cases h
end
end Go.Proofs.YtpgmkoaklpkecaaDoor.Eng

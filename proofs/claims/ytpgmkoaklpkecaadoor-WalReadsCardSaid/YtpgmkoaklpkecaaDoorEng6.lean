/- Cuts of slices; parts and builds of structs; lengths; the operations that turn nothing, all of them. -/
import Derived.Test.YtpgmkoaklpkecaaDoorEng5
import Derived.Laws.Small
set_option linter.unusedVariables false
set_option linter.unusedSimpArgs false
namespace Go.Proofs.YtpgmkoaklpkecaaDoor.Eng

section
variable {X : Nat → Prop} {nt : Nat} {env : Env} {st : AState} {a : Act} {w : World} {P : Program} {T : TypeId → Option TS} {R : Type} {F : Option Nat → Nat → Prop}

/-! ### Cuts -/
/-- The cut xs[l:h] (xs[l:h:h] with 'full'), as what is only read. -/
def vcut (V : View) (l h : Option Int) (full : Bool) (K : AV → Option R) : Option R :=
  match l, h with
  | none, none => K (.sl V.e V.xs V.tag V.ex)
  | some l, none => cond (decide (0 ≤ l)) (cond (decide (l ≤ (V.xs.length : Int))) (K (.sl V.e (V.xs.drop l.toNat) V.tag V.ex)) none) none
  | none, some h => cond (decide (0 ≤ h)) (cond (decide (h ≤ (V.xs.length : Int))) (K (.sl V.e (V.xs.take h.toNat) V.tag full)) none) none
  | some l, some h => cond (decide (0 ≤ l)) (cond (decide (l ≤ h)) (cond (decide (h ≤ (V.xs.length : Int))) (K (.sl V.e ((V.xs.take h.toNat).drop l.toNat) V.tag full)) none) none) none

theorem slp_cut {V : View} {A : Option Addr} {G : Option Nat → Nat → Prop} (hc : SlP w (G V.tag) V.e.sz (Cells w (G V.tag) V.e) V.xs A) {l h m : Nat} (hlh : l ≤ h) (hh : h ≤ V.xs.length) (hm : h ≤ m) :
    SlP w (G V.tag) V.e.sz (Cells w (G V.tag) V.e) ((V.xs.take h).drop l) (if m = l then A else A.map (·.add (l * V.e.sz))) := by
  by_cases hne : l = h
  · left
    subst hne
    simp
  · rcases hc with hc | ⟨b, o, rfl, hc1, hc2⟩
    · rw [hc] at hh; simp at hh; omega
    · refine .inr ⟨b, o + l * V.e.sz, by rw [if_neg (by omega)]; simp [add_at], hc1, fun i hi => ?_⟩
      rw [List.length_drop, List.length_take] at hi
      obtain ⟨cs, c1, c2, c3⟩ := hc2 (l + i) (by omega)
      refine ⟨cs, ?_, c2, fun j hj => ?_⟩
      · rw [List.getElem_drop, List.getElem_take]; exact c1
      · rw [← c3 j hj]; congr 2; rw [Nat.add_mul]; omega

def obits : Option Int → Option Value
  | none => none
  | some i => some (.int .i64 i)

/-- Whatever whole numbers the bounds are. -/
theorem run_slice_sl {t et : TypeId} {ti : TypeInfo} (hu : P.underlying t = some (.slice et)) (hi : P.info? et = some ti) (A : Option Addr) (n c : Nat) (hnc : n ≤ c) (l h m : Option (IntKind × Int))
    (hm0 : m.isSome = true → h.isSome = true)
    (hl : ∀ k i, l = some (k, i) → 0 ≤ i ∧ i ≤ ((h.map (·.2)).getD (n : Int))) (hh : ∀ k i, h = some (k, i) → 0 ≤ i ∧ i ≤ ((m.map (·.2)).getD (c : Int))) (hm : ∀ k i, m = some (k, i) → 0 ≤ i ∧ i ≤ (c : Int)) :
    (Instr.sliceAt t (.slice A n c) (l.map fun p => .int p.1 p.2) (h.map fun p => .int p.1 p.2) (m.map fun p => .int p.1 p.2)).run P w =
      .ok (.slice (if ((m.map (·.2.toNat)).getD c) = ((l.map (·.2.toNat)).getD 0) then A else A.map (·.add (((l.map (·.2.toNat)).getD 0) * ti.size))) (((h.map (·.2.toNat)).getD n) - ((l.map (·.2.toNat)).getD 0)) (((m.map (·.2.toNat)).getD c) - ((l.map (·.2.toNat)).getD 0))) w := by
  rcases l with _ | ⟨k1, i1⟩ <;> rcases h with _ | ⟨k2, i2⟩ <;> rcases m with _ | ⟨k3, i3⟩ <;> simp at hm0 hl hh hm
  · simp [Instr.sliceAt, run_underlying hu, Instr.slice, Instr.sliceBounds, run_sizeOf' hi]
  · obtain ⟨p, q⟩ := hh
    simp [Instr.sliceAt, run_underlying hu, Instr.slice, Instr.sliceBounds, Instr.sliceBound, asIntOf, run_sizeOf' hi, p, q]
  · obtain ⟨p, q⟩ := hh
    obtain ⟨p', q'⟩ := hm
    have m3 : max i3 0 = i3 := by omega
    simp [m3, Instr.sliceAt, run_underlying hu, Instr.slice, Instr.sliceBounds, Instr.sliceBound, asIntOf, run_sizeOf' hi, p, p', q', q]
  · obtain ⟨p, q⟩ := hl
    simp [Instr.sliceAt, run_underlying hu, Instr.slice, Instr.sliceBounds, Instr.sliceBound, asIntOf, run_sizeOf' hi, p, q]
  · obtain ⟨p, q⟩ := hh
    obtain ⟨p', q'⟩ := hl
    have m2 : max i2 0 = i2 := by omega
    simp [m2, Instr.sliceAt, run_underlying hu, Instr.slice, Instr.sliceBounds, Instr.sliceBound, asIntOf, run_sizeOf' hi, p, q, p', q']
  · obtain ⟨p, q⟩ := hh
    obtain ⟨p', q'⟩ := hm
    obtain ⟨p2, q2⟩ := hl
    have m3 : max i3 0 = i3 := by omega
    have m2 : max i2 0 = i2 := by omega
    simp [m2, m3, q, q2, Instr.sliceAt, run_underlying hu, Instr.slice, Instr.sliceBounds, Instr.sliceBound, asIntOf, run_sizeOf' hi, p, p', q', p2, *]

/-- A bound: absent, a whole number, or anything else. -/
def obound : Option AV → Option (Option (IntKind × Int))
  | none => some none
  | some (.int k i) => some (some (k, i))
  | _ => none

theorem obound_rel {o : Option Operand} (hR : Rel X nt env st a w) {b : Option (IntKind × Int)} (h : obound (o.map st.ev) = some b) : o.map a.eval = b.map fun p => .int p.1 p.2 := by
  cases o with
  | none => simp only [Option.map_none, obound] at h; injection h with h; subst h; rfl
  | some x =>
    simp only [Option.map_some] at h ⊢
    have := hR.ev x
    cases e : st.ev x <;> rw [e] at h this <;> simp only [obound] at h <;> (try (cases h; done))
    injection h with h
    subst h
    rw [this.1]; rfl

/-- The bounds as the cut goes by them: m must be h. -/
def asl (T : TypeId → Option TS) (st : AState) (t : TypeId) (x : AV) (l h m : Option (IntKind × Int)) (K : AV → Option R) : Option R :=
  match T t with
  | some ⟨.sl et, _, _, _⟩ => match T et with
    | some ts => match x with
      | .nil => match l, h, m with
        | none, none, none => K .nil
        | some (_, i), none, none => cond (decide (i = 0)) (K .nil) none
        | none, some (_, i), none => cond (decide (i = 0)) (K .nil) none
        | _, _, _ => none
      | x => match aview st x with
        | some V => cond (Nat.beq ts.size V.e.sz) (match m with
          | none => match x, l, h with
            | .own id, none, none => K (.own id)
            | .own id, none, some (_, j) => cond (decide (0 ≤ j)) (cond (decide (j ≤ (V.xs.length : Int))) (K (.pre id j.toNat)) none) none
            | _, l, h => vcut V (l.map (·.2)) (h.map (·.2)) false K
          | some (_, j) => match h with
            | some (_, i) => cond (decide (i = j)) (vcut V (l.map (·.2)) (some i) true K) none
            | none => none) none
        | none => none
    | none => none
  | _ => none

theorem vcut_sound {V : View} {l h : Option (IntKind × Int)} {full : Bool} {K : AV → Option R} {r : R} (hk : vcut V (l.map (·.2)) (h.map (·.2)) full K = some r)
    {A : Option Addr} {c m : Nat} (h1 : V.xs.length ≤ c) (h2 : c ≤ maxLen) (h3 : V.ex = true → c = V.xs.length) (hc : SlP w (F V.tag) V.e.sz (Cells w (F V.tag) V.e) V.xs A)
    (hm : m = c ∨ (∃ k i, h = some (k, i) ∧ m = i.toNat)) (hfull : full = true → ∃ k i, h = some (k, i) ∧ m = i.toNat) (hnf : full = false → m = c) :
    (∀ k i, l = some (k, i) → 0 ≤ i ∧ i ≤ ((h.map (·.2)).getD (V.xs.length : Int))) ∧ (∀ k i, h = some (k, i) → 0 ≤ i ∧ i ≤ (V.xs.length : Int)) ∧
    ∃ av, K av = some r ∧ RelV F env w av (.slice (if m = ((l.map (·.2.toNat)).getD 0) then A else A.map (·.add (((l.map (·.2.toNat)).getD 0) * V.e.sz))) (((h.map (·.2.toNat)).getD V.xs.length) - ((l.map (·.2.toNat)).getD 0)) (m - ((l.map (·.2.toNat)).getD 0))) := by
  rcases l with _ | ⟨k1, i1⟩ <;> rcases h with _ | ⟨k2, i2⟩ <;> simp only [vcut, Option.map_none, Option.map_some] at hk
  · have hmc : m = c := by
      rcases hm with hm | ⟨_, _, e, _⟩
      · exact hm
      · cases e
    subst hmc
    refine ⟨fun k i e => (by cases e), fun k i e => (by cases e), _, hk, _, m, rfl, h1, h2, h3, ?_⟩
    have := slp_cut (G := F) hc (l := 0) (h := V.xs.length) (m := m) (by omega) (Nat.le_refl _) h1
    simpa using this
  · obtain ⟨q1, hk⟩ := condP_some hk
    obtain ⟨q2, hk⟩ := condP_some hk
    have hl : (V.xs.take i2.toNat).length = i2.toNat := by rw [List.length_take]; omega
    have hmi : i2.toNat ≤ m ∧ m ≤ c := by
      rcases hm with rfl | ⟨_, _, e, rfl⟩
      · omega
      · cases e; omega
    refine ⟨fun k i e => (by cases e), fun k i e => (by cases e; exact ⟨q1, q2⟩), _, hk, (if m = 0 then A else A.map (·.add (0 * V.e.sz))), m, by simp [hl], by rw [hl]; exact hmi.1, by omega, fun hf => ?_, ?_⟩
    · obtain ⟨_, _, e, rfl⟩ := hfull hf
      cases e; rw [hl]
    · have := slp_cut (G := F) hc (l := 0) (h := i2.toNat) (m := m) (by omega) (by omega) hmi.1
      simpa using this
  · obtain ⟨q1, hk⟩ := condP_some hk
    obtain ⟨q2, hk⟩ := condP_some hk
    have hmc : m = c := by
      rcases hm with hm | ⟨_, _, e, _⟩
      · exact hm
      · cases e
    subst hmc
    have hl : (V.xs.drop i1.toNat).length = V.xs.length - i1.toNat := by rw [List.length_drop]
    refine ⟨fun k i e => (by cases e; simpa using ⟨q1, q2⟩), fun k i e => (by cases e), _, hk, (if m = i1.toNat then A else A.map (·.add (i1.toNat * V.e.sz))), m - i1.toNat, by simp [hl], by rw [hl]; omega, by omega, fun hf => ?_, ?_⟩
    · rw [hl, h3 hf]
    · have := slp_cut (G := F) hc (l := i1.toNat) (h := V.xs.length) (m := m) (by omega) (Nat.le_refl _) h1
      simpa using this
  · obtain ⟨q1, hk⟩ := condP_some hk
    obtain ⟨q2, hk⟩ := condP_some hk
    obtain ⟨q3, hk⟩ := condP_some hk
    have hl : ((V.xs.take i2.toNat).drop i1.toNat).length = i2.toNat - i1.toNat := by rw [List.length_drop, List.length_take]; omega
    have hmi : i2.toNat ≤ m ∧ m ≤ c := by
      rcases hm with rfl | ⟨_, _, e, rfl⟩
      · omega
      · cases e; omega
    refine ⟨fun k i e => (by cases e; simpa using ⟨q1, q2⟩), fun k i e => (by cases e; omega), _, hk, (if m = i1.toNat then A else A.map (·.add (i1.toNat * V.e.sz))), m - i1.toNat, by simp [hl], by rw [hl]; omega, by omega, fun hf => ?_, ?_⟩
    · obtain ⟨_, _, e, rfl⟩ := hfull hf
      cases e; rw [hl]
    · have := slp_cut (G := F) hc (l := i1.toNat) (h := i2.toNat) (m := m) (by omega) (by omega) hmi.1
      simpa using this

theorem asl_sound (hT : TOK P T) (hR : Rel X nt env st a w) {t : TypeId} {x : AV} {u : Value} {l h m : Option (IntKind × Int)} {K : AV → Option R} {r : R} (hx : RelV (okT X st.hp env) env w x u) (hk : asl T st t x l h m K = some r) :
    ∃ av z, K av = some r ∧ (∀ w1 : World, (Instr.sliceAt t u (l.map fun p => .int p.1 p.2) (h.map fun p => .int p.1 p.2) (m.map fun p => .int p.1 p.2)).run P w1 = .ok z w1) ∧ RelV (okT X st.hp env) env w av z := by
  unfold asl at hk
  split at hk
  case h_2 => cases hk
  rename_i et _ _ _ ht
  obtain ⟨d, u1, e1⟩ := hT.under ht
  obtain rfl : d = _ := e1
  split at hk
  case h_2 => cases hk
  rename_i ts het
  obtain ⟨ti, i1, i2, _⟩ := hT.info het
  split at hk
  · simp only [RelV] at hx
    subst hx
    split at hk
    · refine ⟨_, _, hk, fun w1 => run_slice_sl u1 i1 none 0 0 (Nat.le_refl _) none none none (by simp) (by simp) (by simp) (by simp), ?_⟩
      simp [RelV]
    · rename_i k i
      obtain ⟨hi, hk⟩ := condP_some hk
      subst hi
      refine ⟨_, _, hk, fun w1 => run_slice_sl u1 i1 none 0 0 (Nat.le_refl _) (some (k, 0)) none none (by simp) (by simp) (by simp) (by simp), ?_⟩
      simp [RelV]
    · rename_i k i
      obtain ⟨hi, hk⟩ := condP_some hk
      subst hi
      refine ⟨_, _, hk, fun w1 => run_slice_sl u1 i1 none 0 0 (Nat.le_refl _) none (some (k, 0)) none (by simp) (by simp) (by simp) (by simp), ?_⟩
      simp [RelV]
    · cases hk
  · split at hk
    case h_2 => cases hk
    rename_i V hV
    obtain ⟨A, c, rfl, c1, c2, c3, c4⟩ := aview_sound hR hx hV
    obtain ⟨hsz, hk⟩ := cond_some hk
    have hsz : ti.size = V.e.sz := by rw [i2]; exact beq_iff.1 hsz
    have plain : ∀ (K' : AV → Option R), vcut V (l.map (·.2)) (h.map (·.2)) false K' = some r → m = none → ∃ av z, K' av = some r ∧ (∀ w1 : World, (Instr.sliceAt t (.slice A V.xs.length c) (l.map fun p => .int p.1 p.2) (h.map fun p => .int p.1 p.2) (m.map fun p => .int p.1 p.2)).run P w1 = .ok z w1) ∧ RelV (okT X st.hp env) env w av z := by
      intro K' hkp hm
      subst hm
      obtain ⟨q1, q2, av, q3, q4⟩ := vcut_sound hkp c1 c2 c3 c4 (m := c) (.inl rfl) (fun e => by cases e) (fun _ => rfl)
      refine ⟨av, _, q3, fun w1 => run_slice_sl u1 i1 A V.xs.length c c1 l h none (by simp) q1 (fun k i e => ?_) (by simp), ?_⟩
      · have := q2 k i e; simp; omega
      · rw [hsz]; exact q4
    split at hk
    · split at hk
      · refine ⟨_, _, hk, fun w1 => run_slice_sl u1 i1 A V.xs.length c c1 none none none (by simp) (by simp) (by simp) (by simp), ?_⟩
        have : (Value.slice (if c = 0 then A else A.map (·.add (0 * ti.size))) (V.xs.length - 0) (c - 0)) = Value.slice A V.xs.length c := by
          cases A <;> simp [Addr.add]
        simp only [Option.map_none, Option.getD_none]
        rw [this]; exact hx
      · rename_i id _ j _ _
        obtain ⟨q1, hk⟩ := condP_some hk
        obtain ⟨q2, hk⟩ := condP_some hk
        refine ⟨_, _, hk, fun w1 => run_slice_sl u1 i1 A V.xs.length c c1 none (some (_, j)) none (by simp) (by simp) (fun _ _ e => (by cases e; simp; omega)) (by simp), ?_⟩
        have : (Value.slice (if c = 0 then A else A.map (·.add (0 * ti.size))) (j.toNat - 0) (c - 0)) = Value.slice A j.toNat c := by
          cases A <;> simp [Addr.add]
        simp only [Option.map_none, Option.getD_none, Option.map_some, Option.getD_some]
        rw [this]
        exact ⟨A, V.xs.length, c, rfl, hx.1.symm, by omega, c1, c2⟩
      · exact plain K hk rfl
    · rename_i k j
      split at hk
      case h_2 => cases hk
      rename_i k' i
      obtain ⟨hij, hk2⟩ := condP_some hk
      clear hk
      subst hij
      obtain ⟨q1, q2, av, q3, q4⟩ := vcut_sound (h := some (k', i)) hk2 c1 c2 c3 c4 (m := i.toNat) (.inr ⟨k', i, rfl, rfl⟩) (fun _ => ⟨k', i, rfl, rfl⟩) (fun e => by cases e)
      obtain ⟨q5, q6⟩ := q2 k' i rfl
      refine ⟨av, _, q3, fun w1 => run_slice_sl u1 i1 A V.xs.length c c1 l (some (k', i)) (some (_, i)) (by simp) q1 (fun _ _ e => (by cases e; simp; omega)) (fun _ _ e => (by cases e; omega)), ?_⟩
      rw [hsz]; exact q4

/-! ### Parts of structs and arrays by value; builds -/
theorem apart_part {t : TypeId} {ts : TS} (hT : TOK P T) (ht : T t = some ts) (hk : ts.k ≠ .other) {cs : List AV} {off : Nat} {K : AV → Option R} {r : R} (h : apart ts cs off K = some r)
    {vs : Array Value} (hv : RelL F env w cs vs.toList) : ∃ av z, K av = some r ∧ (∀ w1 : World, (part t vs off).run P w1 = .ok z w1) ∧ RelV F env w av z := by
  obtain ⟨i, i1, i2, _⟩ := hT.info ht
  unfold apart at h
  split at h
  · rename_i ha
    obtain ⟨h1, h⟩ := cond_some h
    refine ⟨_, .agg (vs.extract off (off + i.size)), h, ?_, ⟨_, rfl, ?_⟩⟩
    · intro w1; simp [part, isAgg_run hT ht hk, ha, run_sizeOf' i1]
    · have : (vs.extract off (off + i.size)).toList = (vs.toList.drop off).take ts.size := by
        rw [Array.toList_extract, List.extract_eq_take_drop, i2]
        congr 1; omega
      rw [this]
      exact RelL.take _ _ _ (RelL.drop _ _ _ hv)
  · rename_i ha
    split at h
    · rename_i v he
      obtain ⟨u, h1, h2⟩ := RelL.get cs _ hv off v he
      have h1 : vs[off]? = some u := by simpa using h1
      exact ⟨_, u, h, fun w1 => by simp [part, isAgg_run hT ht hk, ha, h1], h2⟩
    · cases h

def intsOf (k : IntKind) : List AV → Option (List Int)
  | [] => some []
  | .int k' n :: l => cond (decide (k' = k)) (match intsOf k l with
    | some ns => some (n :: ns)
    | none => none) none
  | _ => none

def intArr (ts : TS) (n : Nat) (cs : List AV) : Option (IntKind × List Int) := match ts.k with
  | .int k => cond (Nat.beq cs.length n && Nat.beq ts.size 1) (match intsOf k cs with
    | some ns => some (k, ns)
    | none => none) none
  | _ => none

theorem intsOf_get {k : IntKind} : (cs : List AV) → (ns : List Int) → intsOf k cs = some ns → ∀ i, i < cs.length → cs[i]? = some (.int k (ns.getD i 0))
  | [], ns, h, i, hi => by cases hi
  | v :: l, ns, h, i, hi => by
    cases v with
    | int k' n =>
      simp only [intsOf] at h
      obtain ⟨hk, h⟩ := condP_some h
      subst hk
      split at h
      case h_2 => cases h
      rename_i ms hms
      injection h with h; subst h
      cases i with
      | zero => rfl
      | succ i =>
        have := intsOf_get l ms hms i (by simpa using hi)
        simpa using this
    | _ => cases h

theorem intArr_apart {ts : TS} {n : Nat} {cs : List AV} {k : IntKind} {ns : List Int} {i : Nat} {K : AV → Option R} (h : intArr ts n cs = some (k, ns)) (hi : i < n) : apart ts cs (i * ts.size) K = K (.int k (ns.getD i 0)) := by
  unfold intArr at h
  split at h
  case h_2 => cases h
  rename_i kk hk
  obtain ⟨hc, h2⟩ := cond_some h
  simp only [Bool.and_eq_true] at hc
  have h3 := beq_iff.1 hc.1
  have h4 := beq_iff.1 hc.2
  split at h2
  case h_2 => cases h2
  rename_i ms hms
  injection h2 with h2
  injection h2 with h5 h6
  subst h5 h6
  unfold apart
  rw [hk, h4, Nat.mul_one, intsOf_get cs ms hms i (by omega)]
  rfl

def aIndex (T : TypeId → Option TS) (t : TypeId) (x ix : AV) (K : AV → Option R) : Option R :=
  match ix, T t, x with
  | .int _ i, some ⟨.arr n et, _, _, _⟩, .agg cs => match T et with
    | some ts => cond (notOther ts.k) (cond (decide (0 ≤ i)) (cond (decide (i < (n : Int))) (match intArr ts n cs with
      | some p => K (.int p.1 (p.2.getD i.toNat 0))
      | none => apart ts cs (i.toNat * ts.size) K) none) none) none
    | none => none
  | .int _ i, some ⟨.str, _, _, _⟩, .str xs => cond (decide (0 ≤ i)) (cond (decide (i < (xs.length : Int))) (K (.int .u8 (xs.getD i.toNat 0))) none) none
  | _, _, _ => none

theorem fits_byte (b : UInt8) : fits .u8 (b.toNat : Int) := by
  have := b.toNat_lt
  simp [fits, IntKind.min, IntKind.max, IntKind.signed, IntKind.bits]
  omega

theorem aIndex_sound (hT : TOK P T) {t : TypeId} {x ix : AV} {u v : Value} {K : AV → Option R} {r : R} (hx : RelV F env w x u) (hv : RelV F env w ix v) (h : aIndex T t x ix K = some r) :
    ∃ av z, K av = some r ∧ (∀ w1 : World, (Instr.index t u v).run P w1 = .ok z w1) ∧ RelV F env w av z := by
  unfold aIndex at h
  split at h
  · rename_i k i n et _ _ _ cs ht
    split at h
    case h_2 => cases h
    rename_i ts het
    obtain ⟨d, u1, e1⟩ := hT.under ht
    obtain rfl : d = _ := e1
    obtain ⟨ti, i1, i2, _⟩ := hT.info het
    obtain ⟨h0, h⟩ := cond_some h
    obtain ⟨h1, h⟩ := condP_some h
    obtain ⟨h2, h⟩ := condP_some h
    have h : apart ts cs (i.toNat * ts.size) K = some r := by
      split at h
      · rename_i p hp
        rw [intArr_apart (k := p.1) (ns := p.2) hp (by omega)]; exact h
      · exact h
    obtain ⟨rfl, _⟩ := hv
    obtain ⟨vs, rfl, hv⟩ := hx
    obtain ⟨av, z, k1, k2, k3⟩ := apart_part hT het (by intro e; rw [e] at h0; cases h0) h hv
    refine ⟨av, z, k1, ?_, k3⟩
    intro w1
    simp only [Instr.index, asIntOf, Sem.run_bind, run_underlying u1, Sem.run_pure, Result.andThen_ok, Sem.run_ite, if_pos (And.intro h1 h2), run_sizeOf' i1, i2, k2]
  · rename_i k i _ _ _ xs ht
    obtain ⟨d, u1, e1⟩ := hT.under ht
    obtain rfl : d = _ := e1
    obtain ⟨h1, h⟩ := condP_some h
    obtain ⟨h2, h⟩ := condP_some h
    obtain ⟨rfl, _⟩ := hv
    obtain ⟨s, rfl, rfl, _⟩ := hx
    have hlen : (bytesOf s).length = s.size := by rw [bytesOf, List.length_map, Array.length_toList]; rfl
    have hlt : i.toNat < s.size := by omega
    have hg : s[i.toNat]? = some (s[i.toNat]'hlt) := getElem?_pos s i.toNat hlt
    refine ⟨_, .int .u8 ((s[i.toNat]'hlt).toNat : Int), h, ?_, ?_⟩
    · intro w1; simp only [Instr.index, asIntOf, Sem.run_bind, run_underlying u1, Sem.run_pure, Result.andThen_ok, if_pos h1, hg]
    · have : (bytesOf s).getD i.toNat 0 = ((s[i.toNat]'hlt).toNat : Int) := by
        have h3 : i.toNat < s.data.toList.length := by rw [Array.length_toList]; exact hlt
        unfold bytesOf
        rw [List.getD_eq_getElem?_getD, List.getElem?_map, List.getElem?_eq_getElem h3]
        rfl
      rw [this]
      exact ⟨rfl, fits_byte _⟩
  · cases h

theorem cellsO_rel {x : AV} {u : Value} {cs : List AV} (h : cellsO x = some cs) (hx : RelV F env w x u) : RelL F env w cs u.cells.toList := by
  unfold cellsO at h
  split at h
  · injection h with h; subst h
    obtain ⟨vs, rfl, hv⟩ := hx
    exact hv
  · cases h
  · cases h
  · rename_i h1 h2 h3
    injection h with h; subst h
    obtain ⟨_, hc⟩ := isLeaf_one (av := x) (by cases x <;> simp_all [isLeaf]) hx
    rw [hc]
    exact ⟨u, [], rfl, hx, rfl⟩

theorem foldl_get (cs : List Value) : ∀ (cells : Array Value) (off j : Nat) (n : Nat), off + j + cs.length ≤ cells.size →
    ((cs.zipIdx j).foldl (fun c (p : Value × Nat) => c.setIfInBounds (off + p.2) p.1) cells)[n]? = if off + j ≤ n ∧ n < off + j + cs.length then cs[n - (off + j)]? else cells[n]? := by
  induction cs with
  | nil => intro cells off j n h; simp; omega
  | cons v cs ih =>
    intro cells off j n h
    simp only [List.length_cons] at h
    rw [List.zipIdx_cons, List.foldl_cons, ih _ off (j + 1) n (by simp; omega), Array.getElem?_setIfInBounds]
    simp only [List.length_cons]
    by_cases c1 : off + (j + 1) ≤ n ∧ n < off + (j + 1) + cs.length
    · rw [if_pos c1, if_pos (by omega), show n - (off + j) = (n - (off + (j + 1))) + 1 by omega, List.getElem?_cons_succ]
    · rw [if_neg c1]
      by_cases c2 : off + j = n
      · subst c2
        rw [if_pos rfl, if_pos (by omega), if_pos (by omega)]
        simp
      · rw [if_neg c2, if_neg (by omega)]

theorem foldl_size (cs : List Value) : ∀ (cells : Array Value) (off j : Nat), ((cs.zipIdx j).foldl (fun c (p : Value × Nat) => c.setIfInBounds (off + p.2) p.1) cells).size = cells.size := by
  induction cs with
  | nil => intro cells off j; simp
  | cons v cs ih => intro cells off j; rw [List.zipIdx_cons, List.foldl_cons, ih]; simp

theorem foldl_set (cs : List Value) (cells : Array Value) (off : Nat) (h : off + cs.length ≤ cells.size) :
    ((cs.zipIdx).foldl (fun c (p : Value × Nat) => c.setIfInBounds (off + p.2) p.1) cells).toList = cells.toList.take off ++ cs ++ cells.toList.drop (off + cs.length) := by
  apply List.ext_getElem?
  intro n
  rw [Array.getElem?_toList, foldl_get cs cells off 0 n (by omega)]
  simp only [Nat.add_zero, List.append_assoc]
  have hl : (cells.toList.take off).length = off := by rw [List.length_take]; simp; omega
  by_cases c1 : n < off
  · rw [if_neg (by omega), List.getElem?_append_left (by omega), List.getElem?_take_of_lt c1, Array.getElem?_toList]
  · rw [List.getElem?_append_right (by omega), hl]
    by_cases c2 : n < off + cs.length
    · rw [if_pos (by omega), List.getElem?_append_left (by omega)]
    · rw [if_neg (by omega), List.getElem?_append_right (by omega), List.getElem?_drop, Array.getElem?_toList]
      congr 1; omega

/-- A struct or an array put together: the abstract cells tell the cells. -/
theorem afill_rel {pl pl' : Nat → Option (Nat × Nat)} (hpl : ∀ i, pl i = pl' i) : (ps : List (Nat × AV)) → (vs : List (Nat × Value)) → (cells : List AV) → (cells' : Array Value) → (out : List AV) →
    afill pl cells ps = some out → vs.map (·.1) = ps.map (·.1) → (∀ (i : Nat) (p : Nat × AV) (q : Nat × Value), ps[i]? = some p → vs[i]? = some q → RelV F env w p.2 q.2) → RelL F env w cells cells'.toList →
    ∃ out', Instr.fill pl' cells' vs = some out' ∧ RelL F env w out out'.toList
  | [], vs, cells, cells', out, h, hm, hr, hc => by
    simp only [afill] at h
    injection h with h; subst h
    cases vs with
    | nil => exact ⟨cells', by simp [Instr.fill], hc⟩
    | cons v vs => simp at hm
  | (i, p) :: ps, [], cells, cells', out, h, hm, hr, hc => by simp at hm
  | (i, p) :: ps, (i', v) :: vs, cells, cells', out, h, hm, hr, hc => by
    simp only [List.map_cons, List.cons.injEq] at hm
    obtain ⟨rfl, hm⟩ := hm
    simp only [afill] at h
    split at h
    · cases h
    rename_i off size hp
    split at h
    · cases h
    rename_i cs hcs
    obtain ⟨h1, h2⟩ := cond_some h
    simp only [Bool.and_eq_true] at h1
    have h3 := beq_iff.1 h1.1
    have h4 := ble_iff.1 h1.2
    have hv := hr 0 _ _ (List.getElem?_cons_zero) (List.getElem?_cons_zero)
    have hcv := cellsO_rel hcs hv
    have hl := RelL.length _ _ hcv
    have hlc := RelL.length _ _ hc
    have hsz : v.cells.size = size := by rw [← h3, ← hl, Array.length_toList]
    have hcz : cells'.size = cells.length := by rw [← hlc, Array.length_toList]
    obtain ⟨out', k1, k2⟩ := afill_rel hpl ps vs _ (v.cells.toList.zipIdx.foldl (fun c (q : Value × Nat) => c.setIfInBounds (off + q.2) q.1) cells') out h2 hm
      (fun j p' q' e1 e2 => hr (j + 1) p' q' (by simpa using e1) (by simpa using e2)) (by
        rw [foldl_set _ _ _ (by rw [Array.length_toList, hsz, hcz]; omega)]
        refine RelL.append _ _ _ _ (RelL.append _ _ _ _ (RelL.take _ _ _ hc) hcv) ?_
        rw [Array.length_toList, hsz]
        exact RelL.drop _ _ _ hc)
    refine ⟨out', ?_, k2⟩
    simp only [Instr.fill, ← hpl, hp]
    rw [if_neg (by simp [hsz, hcz]; omega)]
    rw [← k1]
    congr 1
    rw [← Array.foldl_toList]
    simp

/-! ### Values that are put together -/
def aplaces (T : TypeId → Option TS) (s : TS) : Nat → Option (Nat × Nat) :=
  match s.k with
  | .st fs => fun i => match fs[i]? with
    | some (off, ft) => match T ft with
      | some ts => some (off, ts.size)
      | none => none
    | none => none
  | .arr _ e => match T e with
    | some ts => fun i => some (i * ts.size, ts.size)
    | none => fun _ => none
  | _ => fun _ => none

/-- Are all fields' types told? -/
def told (T : TypeId → Option TS) : List (Nat × TypeId) → Bool
  | [] => true
  | (_, t) :: fs => (T t).isSome && told T fs

def aBuild (T : TypeId → Option TS) (t : TypeId) (parts : List (Nat × AV)) (K : AV → Option R) : Option R :=
  match T t with
  | some s => match s.k with
    | .st fs => cond (told T fs) (match afill (aplaces T s) s.zero parts with
      | some cs => K (.agg cs)
      | none => none) none
    | .arr _ e => cond (T e).isSome (match afill (aplaces T s) s.zero parts with
      | some cs => K (.agg cs)
      | none => none) none
    | _ => none
  | none => none

theorem told_get : (fs : List (Nat × TypeId)) → told T fs = true → ∀ p ∈ fs, ∃ ts, T p.2 = some ts
  | [], h, p, hp => by cases hp
  | q :: fs, h, p, hp => by
    simp only [told, Bool.and_eq_true] at h
    cases hp with
    | head => exact Option.isSome_iff_exists.1 h.1
    | tail _ hp => exact told_get fs h.2 p hp

theorem run_mapM_places (hT : TOK P T) : (l : List Field) → (∀ f ∈ l, ∃ ts, T f.type = some ts) →
    ∃ out, (∀ w1 : World, (l.mapM fun f => (do pure (f.offset, ← sizeOf f.type) : Sem (Nat × Nat))).run P w1 = .ok out w1) ∧ out = l.map fun f => (f.offset, ((T f.type).map (·.size)).getD 0)
  | [], h => ⟨[], by simp, rfl⟩
  | f :: l, h => by
    obtain ⟨ts, ht⟩ := h f (by simp)
    obtain ⟨i, i1, i2, _⟩ := hT.info ht
    obtain ⟨out, h1, h2⟩ := run_mapM_places hT l (fun g hg => h g (by simp [hg]))
    refine ⟨(f.offset, i.size) :: out, fun w1 => ?_, by simp [ht, i2, h2]⟩
    rw [List.mapM_cons]
    simp only [Sem.run_bind, run_sizeOf' i1, Sem.run_pure, Result.andThen_ok, h1]

theorem aBuild_sound (hT : TOK P T) {t : TypeId} {parts : List (Nat × Operand)} {K : AV → Option R} {r : R} (hR : Rel X nt env st a w) (h : aBuild T t (parts.map fun p => (p.1, st.ev p.2)) K = some r) :
    ∃ av z, K av = some r ∧ (∀ w1 : World, (Instr.build t (parts.map fun p => (p.1, a.eval p.2)).toArray).run P w1 = .ok z w1) ∧ RelV (okT X st.hp env) env w av z := by
  unfold aBuild at h
  split at h
  case h_2 => cases h
  rename_i s hs
  obtain ⟨d, i, z, u1, u2, u3, u4, u5, u6, u7⟩ := hT t s hs
  have hz : RelL (okT X st.hp env) env w s.zero z.cells.toList := by rw [← u7]; exact ofC0_relL _ _ _ _
  have hzv : ∀ w : World, (zeroValue t).run P w = .ok z w := by intro w; simp [zeroValue, run_typeInfo' u3, u6]
  have hm : (parts.map fun p => (p.1, a.eval p.2)).map (·.1) = (parts.map fun p => (p.1, st.ev p.2)).map (·.1) := by simp [List.map_map, Function.comp]
  have hr : ∀ (i : Nat) (p : Nat × AV) (q : Nat × Value), (parts.map fun p => (p.1, st.ev p.2))[i]? = some p → (parts.map fun p => (p.1, a.eval p.2))[i]? = some q → RelV (okT X st.hp env) env w p.2 q.2 := by
    intro i p q e1 e2
    rw [List.getElem?_map] at e1 e2
    cases hq : parts[i]? with
    | none => rw [hq] at e1; cases e1
    | some o =>
      rw [hq] at e1 e2
      simp only [Option.map_some, Option.some.injEq] at e1 e2
      subst e1 e2
      exact hR.ev o.2
  split at h
  · rename_i fs hk
    obtain ⟨h1, h⟩ := cond_some h
    split at h
    case h_2 => cases h
    rename_i cs hf
    rw [hk] at u2
    obtain ⟨fields, rfl, e1⟩ := u2
    obtain ⟨out, o1, o2⟩ := run_mapM_places hT fields.toList (fun f hf => by
      obtain ⟨ts, ht⟩ := told_get fs h1 (f.offset, f.type) (by rw [← e1]; exact List.mem_map.2 ⟨f, hf, rfl⟩)
      exact ⟨ts, ht⟩)
    have hpl : ∀ j, aplaces T s j = out[j]? := by
      intro j
      simp only [aplaces, hk]
      rw [o2, ← e1, List.getElem?_map, List.getElem?_map]
      cases hj : fields.toList[j]? with
      | none => rfl
      | some f =>
        simp only [Option.map_some]
        obtain ⟨ts, ht⟩ := told_get fs h1 (f.offset, f.type) (by rw [← e1]; exact List.mem_map.2 ⟨f, List.mem_of_getElem? hj, rfl⟩)
        simp only at ht
        rw [ht]; rfl
    obtain ⟨out', k1, k2⟩ := afill_rel (pl' := (out[·]?)) hpl _ _ _ z.cells _ hf hm hr hz
    refine ⟨_, .agg out', h, ?_, ⟨out', rfl, k2⟩⟩
    have hmm : ∀ w : World, (fields.mapM fun f => (do pure (f.offset, ← sizeOf f.type) : Sem (Nat × Nat))).run P w = .ok out.toArray w := by
      intro w
      rw [Array.mapM_eq_mapM_toList]
      rw [map_eq_pure_bind]
      simp only [Sem.run_bind, o1, Result.andThen_ok, Sem.run_pure]
    intro w1
    simp only [Instr.build, Sem.run_bind, hzv, Result.andThen_ok, run_underlying u1, hmm, List.getElem?_toArray]
    rw [k1]
    rfl
  · rename_i n e hk
    obtain ⟨h1, h⟩ := cond_some h
    obtain ⟨ts, ht⟩ := Option.isSome_iff_exists.1 h1
    obtain ⟨i', i1, i2, _⟩ := hT.info ht
    split at h
    case h_2 => cases h
    rename_i cs hf
    rw [hk] at u2
    obtain rfl : d = _ := u2
    obtain ⟨out', k1, k2⟩ := afill_rel (pl' := fun j => some (j * ts.size, ts.size)) (by intro j; simp only [aplaces, hk, ht]) _ _ _ z.cells _ hf hm hr hz
    refine ⟨_, .agg out', h, ?_, ⟨out', rfl, k2⟩⟩
    intro w1
    simp only [Instr.build, Sem.run_bind, hzv, Result.andThen_ok, run_underlying u1, run_sizeOf' i1, i2]
    rw [k1]
    rfl
  · cases h
end
end Go.Proofs.YtpgmkoaklpkecaaDoor.Eng

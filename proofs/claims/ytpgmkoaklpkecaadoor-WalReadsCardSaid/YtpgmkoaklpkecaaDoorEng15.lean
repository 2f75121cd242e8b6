/- Shapes of states; rounds. -/
import Derived.Test.YtpgmkoaklpkecaaDoorEng14
set_option linter.unusedVariables false
set_option linter.unusedSimpArgs false
namespace Go.Proofs.YtpgmkoaklpkecaaDoor.Eng

inductive OKd where
  | row (T : TypeId) (e : Ty)
  | cells (T : TypeId) (k : Kd)

def OKd.D : OKd → Type
  | .row _ e => List e.D
  | .cells _ k => k.D
def OKd.ob : (o : OKd) → o.D → AObj
  | .row T e, xs => .row T e xs
  | .cells T k, x => .cells T (k.avs x)
def OKd.of : (o : OKd) → AObj → Option o.D
  | .row T e, o => match o with
    | .row T' _ xs => cond (Nat.beq T' T) (castL xs) none
    | _ => none
  | .cells T k, o => match o with
    | .cells T' cs => cond (Nat.beq T' T) (match k.of cs with
      | some (x, []) => some x
      | _ => none) none
    | _ => none

def HD : List (Nat × OKd) → Type
  | [] => Unit
  | (_, o) :: l => o.D × HD l
def Hob : (l : List (Nat × OKd)) → HD l → Nat → AObj
  | [], _, _ => .dead
  | (i, o) :: l, x, j => cond (Nat.beq j i) (o.ob x.1) (Hob l x.2 j)
def Hof : (l : List (Nat × OKd)) → (Nat → AObj) → Option (HD l)
  | [], _ => some ()
  | (i, o) :: l, hp => match o.of (hp i), Hof l hp with
    | some x, some y => some (x, y)
    | _, _ => none

def look : List Nat → List AV → Nat → AV
  | j :: ks, v :: vs, i => cond (Nat.beq i j) v (look ks vs i)
  | _, _, _ => .top

structure Shp where
  fk : List Nat
  fd : Kd
  sk : List Nat
  sd : Kd
  hs : List (Nat × OKd)

@[reducible] def Shp.D (S : Shp) : Type := S.fd.D × S.sd.D × HD S.hs
def Shp.st (S : Shp) (t : S.D) : AState := ⟨look S.fk (S.fd.avs t.1), Hob S.hs t.2.2, look S.sk (S.sd.avs t.2.1)⟩
def Shp.of (S : Shp) (st : AState) : Option S.D :=
  match S.fd.of (S.fk.map st.fr), S.sd.of (S.sk.map st.sv), Hof S.hs st.hp with
  | some (x, []), some (y, []), some z => some (x, y, z)
  | _, _, _ => none

/-- Rows of one's own that stand where a shape wants what is only read. -/
def slIds : AV → List Nat
  | .own id => [id]
  | .pre id _ => [id]
  | _ => []
def Kd.fz : Kd → List AV → List Nat × List AV
  | .fin, vs => ([], vs)
  | .app a b, vs => (fun p : List Nat × List AV => (fun q : List Nat × List AV => (p.1 ++ q.1, q.2)) (b.fz p.2)) (a.fz vs)
  | .sl _ _ _, v :: vs => (slIds v, vs)
  | .agg l, .agg cs :: vs => ((l.fz cs).1, vs)
  | .tup l, .tup cs :: vs => ((l.fz cs).1, vs)
  | _, _ :: vs => ([], vs)
  | _, [] => ([], [])
def hfz (hp : Nat → AObj) : List (Nat × OKd) → List Nat
  | [] => []
  | (i, .cells _ k) :: l => match hp i with
    | .cells _ cs => (k.fz cs).1 ++ hfz hp l
    | _ => hfz hp l
  | _ :: l => hfz hp l
/-- The state as the shape wants it. -/
def Shp.pre (S : Shp) (st : AState) : AState := st.frzs ((S.fd.fz (S.fk.map st.fr)).1 ++ ((S.sd.fz (S.sk.map st.sv)).1 ++ hfz st.hp S.hs))

section
variable {F F' : Option Nat → Nat → Prop} {env : Env} {w w' : World} {X : Nat → Prop} {nt : Nat} {st : AState} {a : Act} {R : Type} {P : Program}

theorem look_rel {g : Nat → Value} : (ks : List Nat) → (vs : List AV) → RelL F env w vs (ks.map g) → ∀ i, RelV F env w (look ks vs i) (g i)
  | [], vs, h, i => by unfold look; simp [RelV]
  | k :: ks, [], h, i => by unfold look; simp [RelV]
  | k :: ks, v :: vs, h, i => by
    obtain ⟨u, us, h1, h2, h3⟩ := h
    simp only [List.map_cons, List.cons.injEq] at h1
    obtain ⟨rfl, rfl⟩ := h1
    simp only [look]
    cases e : Nat.beq i k with
    | true => rw [beq_iff.1 e]; exact h2
    | false => exact look_rel ks vs h3 i

theorem slots_rel (hF : ∀ tag k, F none k → F tag k) {k : Kd} {ks : List Nat} {f : Nat → AV} {g : Nat → Value} {x : k.D} (h : k.of (ks.map f) = some (x, [])) (hr : ∀ i, RelV F env w (f i) (g i)) (i : Nat) : RelV F env w (look ks (k.avs x) i) (g i) := by
  have hl : RelL F env w (ks.map f) (ks.map g) := by
    clear h
    induction ks with
    | nil => rfl
    | cons k ks ih => exact ⟨g k, ks.map g, rfl, hr k, ih⟩
  obtain ⟨u1, u2, h1, h2, h3⟩ := Kd.sound hF k _ _ _ _ h hl
  have := RelL.nil_of h3
  subst this
  rw [List.append_nil] at h1
  subst h1
  exact look_rel ks _ h2 i

theorem OKd.live {o : OKd} {ob : AObj} {x : o.D} (h : o.of ob = some x) : ob.live = true := by
  cases o <;> simp only [OKd.of] at h <;> split at h <;> first | rfl | cases h

theorem OKd.sound (hF : ∀ tag k, F none k → F tag k) {o : OKd} {ob : AObj} {x : o.D} {j : Nat} (h : o.of ob = some x) (hr : RelO F env w j ob) : RelO F env w j (o.ob x) := by
  cases o with
  | row T e =>
    simp only [OKd.of] at h
    split at h
    case h_2 => cases h
    rename_i T' e' xs
    obtain ⟨hT, h⟩ := cond_some h
    obtain ⟨he, hx⟩ := castL_some h
    subst he
    have hx : x = xs := hx
    have := beq_iff.1 hT
    subst this hx
    exact hr
  | cells T k =>
    simp only [OKd.of] at h
    split at h
    case h_2 => cases h
    rename_i T' cs
    obtain ⟨hT, h2⟩ := cond_some h
    have := beq_iff.1 hT
    subst this
    split at h2
    case h_2 => cases h2
    rename_i y hy
    injection h2 with h2; subst h2
    obtain ⟨b, vs, h3, h4, h5⟩ := hr
    obtain ⟨u1, u2, k1, k2, k3⟩ := Kd.sound hF k _ _ _ _ hy h5
    have := RelL.nil_of k3
    subst this
    exact ⟨b, vs, h3, h4, by rw [k1, List.append_nil]; exact k2⟩

theorem Hof_spec (hF : ∀ tag k, F none k → F tag k) {hp : Nat → AObj} : (l : List (Nat × OKd)) → (x : HD l) → Hof l hp = some x → ∀ j,
    ((Hob l x j).live = true → (hp j).live = true) ∧ (RelO F env w j (hp j) → RelO F env w j (Hob l x j))
  | [], x, h, j => ⟨fun h => (by cases h), fun _ => trivial⟩
  | (i, o) :: l, x, h, j => by
    simp only [Hof] at h
    split at h
    case h_2 => cases h
    rename_i y z e1 e2
    injection h with h; subst h
    simp only [Hob]
    cases e : Nat.beq j i with
    | true =>
      have := beq_iff.1 e; subst this
      exact ⟨fun _ => OKd.live e1, fun hr => OKd.sound hF e1 hr⟩
    | false => exact Hof_spec hF l z e2 j

theorem okT_le {hp : Nat → AObj} (tag : Option Nat) (k : Nat) (h : okT X hp env none k) : okT X hp env tag k := ⟨fun _ => h.1 (by simp), fun id hl _ => h.2 id hl (by simp)⟩

theorem RelO.stay {env' : Env} (hm : Stays F F' env env w w) {j : Nat} {o : AObj} (h : RelO F env w j o) : RelO F' env w j o := by
  cases o with
  | dead => trivial
  | cells T cs =>
    obtain ⟨b, vs, h1, h2, h3⟩ := h
    exact ⟨b, vs, h1, h2, RelL.stay hm cs _ h3⟩
  | row T e xs =>
    obtain ⟨h1, ds, h2, h3⟩ := h
    exact ⟨h1, ds, h2, Flat.move (fun y cs hy => Cells.move (fun k hk hl => hm.ok none k hk hl) e hy) xs ds h3⟩

theorem Shp.sound (S : Shp) {t : S.D} (h : S.of st = some t) (hR : Rel X nt env st a w) : Rel X nt env (S.st t) a w ∧ Ext env st.hp w env (S.st t).hp w := by
  unfold Shp.of at h
  split at h
  case h_2 => cases h
  rename_i x y z e1 e2 e3
  injection h with h; subst h
  have hl : ∀ j, (Hob S.hs z j).live = true → (st.hp j).live = true := fun j => (Hof_spec (F := okT X st.hp env) (w := w) (env := env) okT_le S.hs z e3 j).1
  have hok : ∀ tag k, okT X st.hp env tag k → okT X (Hob S.hs z) env tag k := fun tag k hk => ⟨hk.1, fun id hlv => hk.2 id (hl id hlv)⟩
  have hm : Stays (okT X st.hp env) (okT X (Hob S.hs z) env) env env w w := ⟨fun tag k hk _ => ⟨hok tag k hk, rfl⟩, fun _ => rfl, fun _ => rfl⟩
  refine ⟨⟨fun i => RelV.stay hm _ _ (slots_rel okT_le e1 hR.fr i), fun j => ?_, fun i j k hi hj => hR.inj i j k (hl i hi) (hl j hj), fun j k hj => hR.lt j k (hl j hj), hR.xlt, hR.sz, hR.df, fun i => RelV.stay hm _ _ (slots_rel okT_le e2 hR.sv i)⟩,
    ⟨rfl, rfl, rfl, Nat.le_refl _, fun _ _ _ => rfl, fun id k h1 h2 _ => ⟨id, hl id h1, h2⟩, rfl⟩⟩
  exact RelO.stay (env' := env) hm ((Hof_spec okT_le S.hs z e3 j).2 (hR.hp j))

/-! ### Rounds -/
def iter {τ : Type} (body : τ → (τ → Option R) → Option R) : Nat → τ → Option R
  | 0, _ => none
  | n + 1, t => body t (iter body n)

def aloop (S : Shp) (body : AState → (Exit → AState → Option R) → Option R) (fuel : Nat) (st : AState) (K : Exit → AState → Option R) : Option R :=
  match S.of (S.pre st) with
  | some t => iter (fun t next => body (S.st t) fun e st' => match e with
      | .normal => match S.of (S.pre st') with
        | some t' => next t'
        | none => none
      | e => K e st') fuel t
  | none => none

theorem exists_least (p : Nat → Prop) (h : ∃ n, p n) : ∃ n, p n ∧ ∀ m, m < n → ¬ p m := by
  obtain ⟨n, hn⟩ := h
  induction n using Nat.strongRecOn with
  | _ n ih =>
    by_cases e : ∃ m, m < n ∧ p m
    · obtain ⟨m, h1, h2⟩ := e
      exact ih m h1 h2
    · exact ⟨n, hn, fun m h1 h2 => e ⟨m, h1, h2⟩⟩

/-- A loop by rounds that are told ahead. -/
theorem wp_rounds {c : Code} {Q : Exit → Act → World → Prop} (I : Nat → Act → World → Prop) (h0 : ∃ n, I n a w)
    (round : ∀ n a w, I n a w → c.wp P (Exit.then (fun a' w' => ∃ m, m < n ∧ I m a' w') Q) a w) : (Code.loop c).wp P Q a w := by
  classical
  have hμ : ∀ a w, ∃ n, (∃ m, I m a w) → (I n a w ∧ ∀ m, m < n → ¬ I m a w) := fun a w => by
    by_cases e : ∃ m, I m a w
    · obtain ⟨n, hn⟩ := exists_least (fun n => I n a w) e
      exact ⟨n, fun _ => hn⟩
    · exact ⟨0, fun h => absurd h e⟩
  refine wp_loop (fun a w => ∃ n, I n a w) (fun a w => Classical.choose (hμ a w)) h0 fun a w hI => ?_
  obtain ⟨h1, h2⟩ := Classical.choose_spec (hμ a w) hI
  refine wp_mono (round _ a w h1) fun e a' w' hq => ?_
  cases e with
  | normal =>
    obtain ⟨m, hm, hIm⟩ := hq
    refine ⟨⟨m, hIm⟩, ?_⟩
    obtain ⟨k1, k2⟩ := Classical.choose_spec (hμ a' w') ⟨m, hIm⟩
    have : ¬ m < Classical.choose (hμ a' w') := fun hlt => k2 m hlt hIm
    omega
  | _ => exact hq
end
end Go.Proofs.YtpgmkoaklpkecaaDoor.Eng

/- Shapes of values: their kinds are known ahead, their data are not. -/
import Derived.Test.YtpgmkoaklpkecaaDoorEng13
set_option linter.unusedVariables false
set_option linter.unusedSimpArgs false
namespace Go.Proofs.YtpgmkoaklpkecaaDoor.Eng

/-- A kind stands for values one behind the other: most for one; 'fin' for none; 'app' for those of both. -/
inductive Kd where
  | top
  | int (k : IntKind)
  | bool
  | str
  | sl (e : Ty) (tag : Option Nat) (ex : Bool)
  | own (id : Nat)
  | pre (id : Nat)
  | nil
  | ptr (id off : Nat)
  | nilp
  | nili
  | agg (l : Kd)
  | tup (l : Kd)
  | fn (f : FuncId) (a b : Kd)
  | fin
  | app (a b : Kd)

def Kd.D : Kd → Type
  | .int _ => Int
  | .bool => Bool
  | .str => List Int
  | .sl e _ _ => List e.D
  | .pre _ => Nat
  | .agg l => l.D
  | .tup l => l.D
  | .fn _ a b => a.D × b.D
  | .app a b => a.D × b.D
  | .top => Unit
  | .own _ => Unit
  | .nil => Unit
  | .ptr _ _ => Unit
  | .nilp => Unit
  | .nili => Unit
  | .fin => Unit

def Kd.avs : (k : Kd) → k.D → List AV
  | .top, _ => [.top]
  | .int k, n => [.int k n]
  | .bool, b => [.bool b]
  | .str, xs => [.str xs]
  | .sl e tag ex, xs => [.sl e xs tag ex]
  | .own id, _ => [.own id]
  | .pre id, n => [.pre id n]
  | .nil, _ => [.nil]
  | .ptr id off, _ => [.ptr id off]
  | .nilp, _ => [.nilp]
  | .nili, _ => [.nili]
  | .agg l, x => [.agg (l.avs x)]
  | .tup l, x => [.tup (l.avs x)]
  | .fn f a b, x => [.fn (.func f) (a.avs x.1) (b.avs x.2)]
  | .fin, _ => []
  | .app a b, x => a.avs x.1 ++ b.avs x.2

def tagLe : Option Nat → Option Nat → Bool
  | none, _ => true
  | some x, some y => Nat.beq x y
  | some _, none => false

def ofInt (k : IntKind) : AV → Option Int
  | .int k' n => cond (decide (k' = k)) (some n) none
  | _ => none
def ofBool : AV → Option Bool
  | .bool b => some b
  | _ => none
def ofStr : AV → Option (List Int)
  | .str xs => some xs
  | _ => none
def ofSl (e : Ty) (tag : Option Nat) (ex : Bool) : AV → Option (List e.D)
  | .sl _ xs tag' ex' => cond (tagLe tag' tag && (!ex || ex')) (castL xs) none
  | .nil => some []
  | _ => none
def ofOwn (id : Nat) : AV → Option Unit
  | .own j => cond (Nat.beq j id) (some ()) none
  | _ => none
def ofPre (id : Nat) : AV → Option Nat
  | .pre j n => cond (Nat.beq j id) (some n) none
  | _ => none
def ofPtr (id off : Nat) : AV → Option Unit
  | .ptr j o => cond (Nat.beq j id && Nat.beq o off) (some ()) none
  | _ => none
def ofNil : AV → Option Unit
  | .nil => some ()
  | _ => none
def ofNilp : AV → Option Unit
  | .nilp => some ()
  | _ => none
def ofNili : AV → Option Unit
  | .nili => some ()
  | _ => none
def ofAgg : AV → Option (List AV)
  | .agg cs => some cs
  | _ => none
def ofTup : AV → Option (List AV)
  | .tup cs => some cs
  | _ => none
def ofFn (f : FuncId) : AV → Option (List AV × List AV)
  | .fn (.func g) a b => cond (Nat.beq g f) (some (a, b)) none
  | _ => none

/-- One value off the front. -/
def one {α : Type} (g : AV → Option α) : List AV → Option (α × List AV)
  | [] => none
  | v :: vs => match g v with
    | some x => some (x, vs)
    | none => none

/-- The data of the values at the front, and what stands behind. -/
def Kd.of : (k : Kd) → List AV → Option (k.D × List AV)
  | .top, vs => one (fun _ => some ()) vs
  | .int k, vs => one (ofInt k) vs
  | .bool, vs => one ofBool vs
  | .str, vs => one ofStr vs
  | .sl e tag ex, vs => one (ofSl e tag ex) vs
  | .own id, vs => one (ofOwn id) vs
  | .pre id, vs => one (ofPre id) vs
  | .nil, vs => one ofNil vs
  | .ptr id off, vs => one (ofPtr id off) vs
  | .nilp, vs => one ofNilp vs
  | .nili, vs => one ofNili vs
  | .agg l, vs => one (fun v => match ofAgg v with
    | some cs => match l.of cs with
      | some (x, []) => some x
      | _ => none
    | none => none) vs
  | .tup l, vs => one (fun v => match ofTup v with
    | some cs => match l.of cs with
      | some (x, []) => some x
      | _ => none
    | none => none) vs
  | .fn f a b, vs => one (fun v => match ofFn f v with
    | some (p, q) => match a.of p, b.of q with
      | some (x, []), some (y, []) => some (x, y)
      | _, _ => none
    | none => none) vs
  | .fin, vs => some ((), vs)
  | .app a b, vs => match a.of vs with
    | some (x, vs) => match b.of vs with
      | some (y, vs) => some ((x, y), vs)
      | none => none
    | none => none

section
variable {F F' : Option Nat → Nat → Prop} {env : Env} {w w' : World} {X : Nat → Prop} {nt : Nat} {st : AState} {a : Act} {R : Type}

theorem tagLe_ok (hF : ∀ tag k, F none k → F tag k) {t t' : Option Nat} (h : tagLe t t' = true) (k : Nat) (hk : F t k) : F t' k := by
  cases t with
  | none => exact hF t' k hk
  | some x =>
    cases t' with
    | none => cases h
    | some y => rw [show x = y from beq_iff.1 h] at hk; exact hk

/-- What is taken off stands for the values that were there. -/
def Takes (F : Option Nat → Nat → Prop) (env : Env) (w : World) (ts rest : List AV) (us : List Value) : Prop :=
  ∃ us1 us2, us = us1 ++ us2 ∧ RelL F env w ts us1 ∧ RelL F env w rest us2

theorem one_takes {α : Type} {g : AV → Option α} {vs : List AV} {us : List Value} {x : α} {rest : List AV} {t : AV} (h : one g vs = some (x, rest)) (hr : RelL F env w vs us)
    (hg : ∀ v u, g v = some x → RelV F env w v u → RelV F env w t u) : Takes F env w [t] rest us := by
  unfold one at h
  split at h
  · cases h
  · rename_i v vs
    split at h
    · rename_i y hy
      injection h with h
      injection h with h1 h2
      subst h1 h2
      obtain ⟨u, us', rfl, h3, h4⟩ := hr
      exact ⟨[u], us', rfl, ⟨u, [], rfl, hg v u hy h3, rfl⟩, h4⟩
    · cases h

theorem RelL.nil_of {us : List Value} (h : RelL F env w [] us) : us = [] := h

theorem Kd.sound (hF : ∀ tag k, F none k → F tag k) : (k : Kd) → (vs : List AV) → (us : List Value) → (x : k.D) → (rest : List AV) → k.of vs = some (x, rest) → RelL F env w vs us → Takes F env w (k.avs x) rest us := by
  intro k
  induction k with
  | top => exact fun vs us x rest h hr => one_takes h hr fun v u _ _ => by simp [RelV]
  | int k =>
    exact fun vs us x rest h hr => one_takes h hr fun v u hg hv => by
      unfold ofInt at hg
      split at hg
      · obtain ⟨hk, hg⟩ := condP_some hg
        injection hg with hg
        subst hk hg; exact hv
      · cases hg
  | bool =>
    exact fun vs us x rest h hr => one_takes h hr fun v u hg hv => by
      unfold ofBool at hg
      split at hg
      · injection hg with hg; subst hg; exact hv
      · cases hg
  | str =>
    exact fun vs us x rest h hr => one_takes h hr fun v u hg hv => by
      unfold ofStr at hg
      split at hg
      · injection hg with hg; subst hg; exact hv
      · cases hg
  | sl e tag ex =>
    exact fun vs us x rest h hr => one_takes h hr fun v u hg hv => by
      unfold ofSl at hg
      split at hg
      · rename_i e' xs tag' ex'
        obtain ⟨hc, hg⟩ := cond_some hg
        obtain ⟨he, hx⟩ := castL_some hg
        subst he
        have hx : x = xs := hx
        subst hx
        simp only [Bool.and_eq_true] at hc
        obtain ⟨A, c, h1, h2, h3, h4, h5⟩ := hv
        have hm := tagLe_ok hF hc.1
        refine ⟨A, c, h1, h2, h3, fun hex => h4 ?_, h5.move e'.sz_pos (fun k hk _ => ⟨hm k hk, rfl⟩) (fun y cs hy => Cells.move (fun k hk _ => ⟨hm k hk, rfl⟩) e' hy)⟩
        have := hc.2
        rw [hex] at this; simpa using this
      · injection hg with hg; subst hg
        simp only [RelV] at hv
        subst hv
        exact ⟨none, 0, rfl, Nat.le_refl _, by unfold maxLen; omega, fun _ => rfl, .inl rfl⟩
      · cases hg
  | own id =>
    exact fun vs us x rest h hr => one_takes h hr fun v u hg hv => by
      unfold ofOwn at hg
      split at hg
      · obtain ⟨hk, _⟩ := cond_some hg
        have := beq_iff.1 hk; subst this; exact hv
      · cases hg
  | pre id =>
    exact fun vs us x rest h hr => one_takes h hr fun v u hg hv => by
      unfold ofPre at hg
      split at hg
      · obtain ⟨hk, hg⟩ := cond_some hg
        injection hg with hg
        have := beq_iff.1 hk; subst this hg; exact hv
      · cases hg
  | nil =>
    exact fun vs us x rest h hr => one_takes h hr fun v u hg hv => by
      unfold ofNil at hg
      split at hg
      · exact hv
      · cases hg
  | ptr id off =>
    exact fun vs us x rest h hr => one_takes h hr fun v u hg hv => by
      unfold ofPtr at hg
      split at hg
      · obtain ⟨hk, _⟩ := cond_some hg
        simp only [Bool.and_eq_true] at hk
        have h1 := beq_iff.1 hk.1
        have h2 := beq_iff.1 hk.2
        subst h1 h2; exact hv
      · cases hg
  | nilp =>
    exact fun vs us x rest h hr => one_takes h hr fun v u hg hv => by
      unfold ofNilp at hg
      split at hg
      · exact hv
      · cases hg
  | nili =>
    exact fun vs us x rest h hr => one_takes h hr fun v u hg hv => by
      unfold ofNili at hg
      split at hg
      · exact hv
      · cases hg
  | agg l ih =>
    exact fun vs us x rest h hr => one_takes h hr fun v u hg hv => by
      split at hg
      · rename_i cs hc
        unfold ofAgg at hc
        split at hc
        · injection hc with hc
          subst hc
          split at hg
          · rename_i y hy
            injection hg with hg; subst hg
            obtain ⟨ws, h1, h2⟩ := hv
            obtain ⟨u1, u2, h3, h4, h5⟩ := ih _ _ _ _ hy h2
            have := RelL.nil_of h5
            subst this
            exact ⟨ws, h1, by rw [h3, List.append_nil]; exact h4⟩
          · cases hg
        · cases hc
      · cases hg
  | tup l ih =>
    exact fun vs us x rest h hr => one_takes h hr fun v u hg hv => by
      split at hg
      · rename_i cs hc
        unfold ofTup at hc
        split at hc
        · injection hc with hc
          subst hc
          split at hg
          · rename_i y hy
            injection hg with hg; subst hg
            obtain ⟨ws, h1, h2⟩ := hv
            obtain ⟨u1, u2, h3, h4, h5⟩ := ih _ _ _ _ hy h2
            have := RelL.nil_of h5
            subst this
            exact ⟨ws, h1, by rw [h3, List.append_nil]; exact h4⟩
          · cases hg
        · cases hc
      · cases hg
  | fn f p q ihp ihq =>
    exact fun vs us x rest h hr => one_takes h hr fun v u hg hv => by
      split at hg
      · rename_i p' q' hc
        unfold ofFn at hc
        split at hc
        · obtain ⟨hk, hc⟩ := cond_some hc
          injection hc with hc
          injection hc with hc1 hc2
          have := beq_iff.1 hk
          subst this hc1 hc2
          split at hg
          · rename_i y1 y2 hy1 hy2
            injection hg with hg; subst hg
            obtain ⟨a1, b1, h1, h2, h3⟩ := hv
            obtain ⟨u1, u2, k1, k2, k3⟩ := ihp _ _ _ _ hy1 h2
            obtain ⟨z1, z2, l1, l2, l3⟩ := ihq _ _ _ _ hy2 h3
            have := RelL.nil_of k3
            subst this
            have := RelL.nil_of l3
            subst this
            exact ⟨a1, b1, h1, by rw [k1, List.append_nil]; exact k2, by rw [l1, List.append_nil]; exact l2⟩
          · cases hg
        · cases hc
      · cases hg
  | fin =>
    exact fun vs us x rest h hr => by
      injection h with h
      injection h with h1 h2
      subst h2
      exact ⟨[], us, rfl, rfl, hr⟩
  | app p q ihp ihq =>
    exact fun vs us x rest h hr => by
      unfold Kd.of at h
      split at h
      · rename_i x1 vs1 e1
        split at h
        · rename_i y1 vs2 e2
          injection h with h
          injection h with h1 h2
          subst h1 h2
          obtain ⟨u1, u2, k1, k2, k3⟩ := ihp _ _ _ _ e1 hr
          obtain ⟨z1, z2, l1, l2, l3⟩ := ihq _ _ _ _ e2 k3
          exact ⟨u1 ++ z1, z2, by rw [k1, l1, List.append_assoc], RelL.append _ _ _ _ k2 l2, l3⟩
        · cases h
      · cases h
end
end Go.Proofs.YtpgmkoaklpkecaaDoor.Eng

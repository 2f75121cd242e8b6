/- Contracts over data. -/
import Derived.Test.YtpgmkoaklpkecaaDoorEng17
set_option linter.unusedVariables false
set_option linter.unusedSimpArgs false
namespace Go.Proofs.YtpgmkoaklpkecaaDoor.Eng

/-- A value is read as a datum. -/
def AR (w : World) (ok : Nat → Prop) : (t : Ty) → t.D → Value → Prop
  | .int k, x, u => Cells w ok (.int k) x [u]
  | .bool, x, u => Cells w ok .bool x [u]
  | .str, x, u => Cells w ok .str x [u]
  | .sl e, x, u => Cells w ok (.sl e) x [u]
  | .pair p q, x, u => ∃ cs : Array Value, u = .agg cs ∧ Cells w ok (.pair p q) x cs.toList

def avR (tag : Option Nat) : (t : Ty) → t.D → AV
  | .int k, n => .int k n
  | .bool, b => .bool b
  | .str, xs => .str xs
  | .sl e, xs => .sl e xs tag false
  | .pair p q, x => .agg (dcells (.pair p q) tag x)

/-- A value as a datum, with nothing left to be owned. -/
def dR : (t : Ty) → AV → Option t.D
  | .int k, v => cond (isLeaf v) (dOf1 (.int k) v) none
  | .bool, v => cond (isLeaf v) (dOf1 .bool v) none
  | .str, v => cond (isLeaf v) (dOf1 .str v) none
  | .sl e, v => cond (isLeaf v) (dOf1 (.sl e) v) none
  | .pair p q, v => match v with
    | .agg cs => dOf1 (.pair p q) (.agg cs)
    | _ => none

/-- An argument that is only read and not kept: it may be a row of one's own. -/
def dS (st : AState) : (t : Ty) → AV → Option t.D
  | .sl e, v => match v with
    | .nil => some []
    | v => match aview st v with
      | some V => castL V.xs
      | none => none
  | t, v => dR t v

def HS : List (Ty × Bool) → Type
  | [] => Unit
  | (t, _) :: l => t.D × HS l
def HL : List Ty → Type
  | [] => Unit
  | t :: l => t.D × HL l

def ArgsOK (w : World) (X : Nat → Prop) : (sig : List (Ty × Bool)) → HS sig → List Value → Prop
  | [], _, us => us = []
  | (t, sh) :: l, x, us => ∃ u us', us = u :: us' ∧ AR w (fun k => sh = false → ¬ X k) t x.1 u ∧ ArgsOK w X l x.2 us'
def ResOK (w : World) (X : Nat → Prop) : (res : List Ty) → HL res → List Value → Prop
  | [], _, us => us = []
  | t :: l, x, us => ∃ u us', us = u :: us' ∧ AR w (fun k => ¬ X k) t x.1 u ∧ ResOK w X l x.2 us'

def avsS : (sig : List (Ty × Bool)) → HS sig → List AV
  | [], _ => []
  | (t, sh) :: l, x => avR (cond sh (some 0) none) t x.1 :: avsS l x.2
def avsL : (res : List Ty) → HL res → List AV
  | [], _ => []
  | t :: l, x => avR none t x.1 :: avsL l x.2

def dSig (st : AState) : (sig : List (Ty × Bool)) → Nat → Option (HS sig)
  | [], _ => some ()
  | (t, true) :: l, i => match dS st t (st.fr i), dSig st l (i + 1) with
    | some x, some y => some (x, y)
    | _, _ => none
  | (t, false) :: l, i => match dR t (st.fr i), dSig st l (i + 1) with
    | some x, some y => some (x, y)
    | _, _ => none
def dRes (st : AState) : (res : List Ty) → Nat → Option (HL res)
  | [], _ => some ()
  | t :: l, i => match dR t (st.fr i), dRes st l (i + 1) with
    | some x, some y => some (x, y)
    | _, _ => none

def shIds : List (Ty × Bool) → List AV → List Nat
  | (_, false) :: l, v :: vs => ownIds v ++ shIds l vs
  | (_, true) :: l, _ :: vs => shIds l vs
  | _, _ => []

/-- What a function is told to do, over data. -/
def FnOK (P : Program) (f : FuncId) (sig : List (Ty × Bool)) (res : List Ty) (Fn : HS sig → Option (HL res)) : Prop :=
  ∀ (X : Nat → Prop) (w : World) (vs : Array Value) (xs : HS sig) (ys : HL res), (∀ k, X k → k < w.heap.size) → ArgsOK w X sig xs vs.toList → Fn xs = some ys →
    Goes P f vs w fun v w' => ∃ us, v = oneV us ∧ ResOK w' X res ys us ∧ w'.os = w.os ∧ w'.tape = w.tape ∧ w'.output = w.output ∧ w.heap.size ≤ w'.heap.size ∧ ∀ k, k < w.heap.size → w'.heap[k]? = w.heap[k]?

section
variable {F F' : Option Nat → Nat → Prop} {env env2 : Env} {w w' w2 : World} {X : Nat → Prop} {nt nt2 base : Nat} {st st2 : AState} {a a2 : Act} {R : Type} {P : Program} {fn : Func}

theorem AR.move {ok ok' : Nat → Prop} (hok : ∀ k, ok k → k < w.heap.size → ok' k ∧ w'.heap[k]? = w.heap[k]?) {t : Ty} {x : t.D} {u : Value} (h : AR w ok t x u) : AR w' ok' t x u := by
  cases t with
  | pair p q =>
    obtain ⟨cs, h1, h2⟩ := h
    exact ⟨cs, h1, Cells.move hok _ h2⟩
  | int k => exact Cells.move hok _ h
  | bool => exact Cells.move hok _ h
  | str => exact Cells.move hok _ h
  | sl e => exact Cells.move hok _ h

theorem one_of {v : AV} {u : Value} (h : RelL F env w [v] [u]) : RelV F env w v u := by
  obtain ⟨u', us', h1, h2, _⟩ := h
  injection h1 with h1 _
  subst h1; exact h2

theorem avR_rel {tag : Option Nat} {t : Ty} {x : t.D} {u : Value} (h : AR w (F tag) t x u) : RelV F env w (avR tag t x) u := by
  cases t with
  | pair p q =>
    obtain ⟨cs, h1, h2⟩ := h
    exact ⟨cs, h1, dcells_rel _ h2⟩
  | int k => exact one_of (dcells_rel _ h)
  | bool => exact one_of (dcells_rel _ h)
  | str => exact one_of (dcells_rel _ h)
  | sl e => exact one_of (dcells_rel _ h)

theorem leaf_cells {t : Ty} {v : AV} {u : Value} {x : t.D} (hr : RelV F env w v u) (h : cond (isLeaf v) (dOf1 t v) none = some x) : Cells w (F none) t x [u] := by
  obtain ⟨h1, h2⟩ := cond_some h
  have := dOf1_sound hr h2
  rw [(isLeaf_one h1 hr).2] at this
  exact this

theorem dR_sound {t : Ty} {v : AV} {u : Value} {x : t.D} (hr : RelV F env w v u) (h : dR t v = some x) : AR w (F none) t x u := by
  cases t with
  | pair p q =>
    simp only [dR] at h
    split at h
    · have hr0 := hr
      obtain ⟨cs, rfl, _⟩ := hr
      exact ⟨cs, rfl, dOf1_sound hr0 h⟩
    · cases h
  | int k => exact leaf_cells hr h
  | bool => exact leaf_cells hr h
  | str => exact leaf_cells hr h
  | sl e => exact leaf_cells hr h

theorem dS_sound (hR : Rel X nt env st a w) {t : Ty} {v : AV} {u : Value} {x : t.D} (hr : RelV (okT X st.hp env) env w v u) (h : dS st t v = some x) : AR w (fun _ => True) t x u := by
  cases t with
  | sl e =>
    simp only [dS] at h
    split at h
    · injection h with h; subst h
      simp only [RelV] at hr
      subst hr
      exact ⟨none, 0, rfl, Nat.le_refl _, by unfold maxLen; omega, .inl rfl⟩
    · split at h
      case h_2 => cases h
      rename_i V hV
      obtain ⟨he, hx⟩ := castL_some h
      obtain ⟨A, c, h1, h2, h3, _, h4⟩ := aview_sound hR hr hV
      obtain ⟨e', xs, tag, ex⟩ := V
      simp only at he hx h1 h2 h3 h4
      subst he
      have hx : x = xs := hx
      subst hx
      exact ⟨A, c, by rw [h1], h2, h3, h4.move e'.sz_pos (fun k _ _ => ⟨trivial, rfl⟩) (fun y cs hy => Cells.move (fun k _ _ => ⟨trivial, rfl⟩) e' hy)⟩
  | int k => exact (dR_sound (t := .int k) hr h).move fun _ _ _ => ⟨trivial, rfl⟩
  | bool => exact (dR_sound (t := .bool) hr h).move fun _ _ _ => ⟨trivial, rfl⟩
  | str => exact (dR_sound (t := .str) hr h).move fun _ _ _ => ⟨trivial, rfl⟩
  | pair p q => exact (dR_sound (t := .pair p q) hr h).move fun _ _ _ => ⟨trivial, rfl⟩

/-- What a caller forbids to be led to: what it was forbidden itself, and its own. -/
def forb (X : Nat → Prop) (hp : Nat → AObj) (env : Env) (k : Nat) : Prop := X k ∨ ∃ id, (hp id).live = true ∧ env.blk id = some k

theorem forb_not {hp : Nat → AObj} {k : Nat} (h : okT X hp env none k) : ¬ forb X hp env k := by
  rintro (h1 | ⟨id, h1, h2⟩)
  · exact h.1 (by simp) h1
  · exact h.2 id h1 (by simp) h2

theorem dSig_sound (hR : Rel X nt env st a w) : (sig : List (Ty × Bool)) → (i : Nat) → (xs : HS sig) → (us : List Value) → dSig st sig i = some xs → (∀ j, us[j]? = if j < sig.length then some (a.tmps.getD (i + j) undef) else none) →
    ArgsOK w (forb X st.hp env) sig xs us
  | [], i, xs, us, h, hu => by
    show us = []
    cases us with
    | nil => rfl
    | cons u us => have := hu 0; simp at this
  | (t, sh) :: l, i, xs, us, h, hu => by
    cases us with
    | nil => have := hu 0; simp at this
    | cons u us =>
      have hu0 : u = a.tmps.getD i undef := by have := hu 0; simpa using this
      have hus : ∀ j, us[j]? = if j < l.length then some (a.tmps.getD (i + 1 + j) undef) else none := fun j => by
        have := hu (j + 1)
        simp only [List.getElem?_cons_succ, List.length_cons, Nat.add_lt_add_iff_right] at this
        rw [this, Nat.add_assoc, Nat.add_comm 1 j]
      cases sh with
      | true =>
        simp only [dSig] at h
        split at h
        case h_2 => cases h
        rename_i x y e1 e2
        injection h with h; subst h
        refine ⟨u, us, rfl, ?_, dSig_sound hR l (i + 1) y us e2 hus⟩
        rw [hu0]
        exact (dS_sound hR (hR.fr i) e1).move fun k _ _ => ⟨fun h => (by cases h), rfl⟩
      | false =>
        simp only [dSig] at h
        split at h
        case h_2 => cases h
        rename_i x y e1 e2
        injection h with h; subst h
        refine ⟨u, us, rfl, ?_, dSig_sound hR l (i + 1) y us e2 hus⟩
        rw [hu0]
        exact (dR_sound (hR.fr i) e1).move fun k hk _ => ⟨fun _ => forb_not hk, rfl⟩

theorem avsL_rel {ok : Nat → Prop} (hok : ∀ k, ok k → F none k) : (res : List Ty) → (ys : HL res) → (us : List Value) → (X : Nat → Prop) → (∀ k, ¬ X k → k < w.heap.size → F none k) → ResOK w X res ys us → RelL F env w (avsL res ys) us
  | [], ys, us, X, hX, h => h
  | t :: l, ys, us, X, hX, h => by
    obtain ⟨u, us', h1, h2, h3⟩ := h
    exact ⟨u, us', h1, avR_rel (h2.move fun k hk hl => ⟨hX k hk hl, rfl⟩), avsL_rel hok l ys.2 us' X hX h3⟩

theorem Goes.mono {f : FuncId} {vs : Array Value} {N N' : Value → World → Prop} (h : Goes P f vs w N) (hN : ∀ v w', N v w' → N' v w') : Goes P f vs w N' := by
  rcases h with ⟨v, w', h1, h2⟩ | ⟨h1, h2⟩
  · exact .inl ⟨v, w', h1, hN _ _ h2⟩
  · refine .inr ⟨h1, Calls.mono h2 fun e w' he => ?_⟩
    cases e with
    | returned v => exact hN _ _ he
    | panicked c => exact he
    | outgrown => exact he

/-- A call by contract. -/
def conOf {sig : List (Ty × Bool)} {res : List Ty} (Fn : HS sig → Option (HL res)) : ConF R := fun nt ns b args st K =>
  cond (Nat.beq args.length sig.length) ((fun st1 : AState => match dSig st1 sig 0 with
    | some xs => match Fn xs with
      | some ys => K (oneOf (avsL res ys)) (pop nt st1)
      | none => none
    | none => none) ((push nt args st).frzs (shIds sig args))) none

def lenFn (n : Nat) : Func := { (default : Func) with ntmps := n }

theorem conOf_sound {f : FuncId} {sig : List (Ty × Bool)} {res : List Ty} {Fn : HS sig → Option (HL res)} (hf : FnOK P f sig res Fn) : ConOK (R := R) P f (conOf Fn) := by
  intro X nt env st a w ns b args vs K r N h hR ha hN
  unfold conOf at h
  obtain ⟨hlen, h⟩ := cond_some h
  have hlen := beq_iff.1 hlen
  dsimp only at h
  have hp := hR.push (fn := lenFn args.length) ha (Nat.le_refl _)
  obtain ⟨f1, f2⟩ := hp.frzs (shIds sig args)
  have f3 : RKeep (env.push nt a) (push nt args st).hp w (env.push nt a) ((push nt args st).frzs (shIds sig args)).hp w := RKeep.frzs _ _
  generalize (push nt args st).frzs (shIds sig args) = st1 at h f1 f2 f3
  split at h
  case h_2 => cases h
  rename_i xs hxs
  split at h
  case h_2 => cases h
  rename_i ys hys
  have hvl := RelL.length _ _ ha
  have hvs : vs.size = args.length := by rw [← hvl, Array.length_toList]
  have hargs := dSig_sound f1 sig 0 xs vs.toList hxs (fun j => by
    rw [Nat.zero_add]
    show vs.toList[j]? = if j < sig.length then some ((vs ++ Array.replicate ((lenFn args.length).ntmps - vs.size) undef).getD j undef) else none
    by_cases hj : j < sig.length
    · have hj' : j < vs.size := by omega
      rw [if_pos hj, Array.getD_eq_getD_getElem?, Array.getElem?_append, if_pos hj']
      simp [hj']
    · rw [if_neg hj]
      simp; omega)
  have hlt : ∀ k, forb X st1.hp (env.push nt a) k → k < w.heap.size := by
    rintro k (h1 | ⟨id, h1, h2⟩)
    · exact f1.xlt k h1
    · exact (f1.lt id k h1 h2).1
  refine (hf _ w vs xs ys hlt hargs hys).mono ?_
  rintro v w' ⟨us, rfl, h1, h2, h3, h4, h5, h6⟩
  have g1 := f1.grow (w' := w') h5 h6
  have g2 : Ext (env.push nt a) st.hp w (env.push nt a) st1.hp w' := f2.trans (Ext.grow h2 h3 h4 h5 h6)
  obtain ⟨p1, p2⟩ := hR.pop g1 g2
  refine hN _ _ _ _ _ h p1 ?_ p2 ?_
  · refine oneOf_rel (avsL_rel (ok := okT X st1.hp (env.push nt a) none) (fun k hk => ?_) res ys us _ (fun k hk hl => ?_) h1)
    · exact hk
    · exact ⟨fun _ hX => hk (.inl hX), fun id hl2 _ he => hk (.inr ⟨id, hl2, he⟩)⟩
  · exact ⟨h5, fun k hk _ => h6 k hk, fun id k h7 h8 h9 => f3.new id k h7 h8 h9⟩

/-! ### A function by its own run -/
def bot : AState := ⟨fun _ => .top, fun _ => .dead, fun _ => .top⟩

def rdata (res : List Ty) (avs : List AV) (st : AState) : Option (HL res) :=
  cond (Nat.beq avs.length res.length) (dRes ((push 0 avs st).frzs (ownIdsL avs)) res 0) none

/-- The run of a function over data. -/
def arun (T : TypeId → Option TS) (Y : TypeId → Option Ty) (sig : List (Ty × Bool)) (res : List Ty) (call : CallF (HL res)) (kp : FuncId → Bool) (H : Nat → Hint) (fn : Func) (c : Code) (fuel : Nat) (xs : HS sig) : Option (HL res) :=
  cond (Nat.ble sig.length fn.ntmps) (acode ⟨T, Y, call, kp, 0⟩ fn.ntmps 0 fuel H c 1 (push 0 (avsS sig xs) bot) (afin T fn (pop 0) (rdata res))) none

theorem avsS_length : (sig : List (Ty × Bool)) → (xs : HS sig) → (avsS sig xs).length = sig.length
  | [], _ => rfl
  | (t, sh) :: l, x => by simp [avsS, avsS_length l x.2]

theorem avsS_rel {F : Option Nat → Nat → Prop} (h0 : ∀ k, F (some 0) k) (hX : ∀ k, ¬ X k → F none k) : (sig : List (Ty × Bool)) → (xs : HS sig) → (us : List Value) → ArgsOK w X sig xs us → RelL F env w (avsS sig xs) us
  | [], xs, us, h => h
  | (t, true) :: l, xs, us, h => by
    obtain ⟨u, us', h1, h2, h3⟩ := h
    exact ⟨u, us', h1, avR_rel (h2.move fun k _ _ => ⟨h0 k, rfl⟩), avsS_rel h0 hX l xs.2 us' h3⟩
  | (t, false) :: l, xs, us, h => by
    obtain ⟨u, us', h1, h2, h3⟩ := h
    exact ⟨u, us', h1, avR_rel (h2.move fun k hk _ => ⟨hX k (hk rfl), rfl⟩), avsS_rel h0 hX l xs.2 us' h3⟩

theorem dRes_sound (hR : Rel X nt env st a w) : (res : List Ty) → (i : Nat) → (ys : HL res) → (us : List Value) → dRes st res i = some ys → (∀ j, us[j]? = if j < res.length then some (a.tmps.getD (i + j) undef) else none) →
    ResOK w X res ys us
  | [], i, ys, us, h, hu => by
    show us = []
    cases us with
    | nil => rfl
    | cons u us => have := hu 0; simp at this
  | t :: l, i, ys, us, h, hu => by
    cases us with
    | nil => have := hu 0; simp at this
    | cons u us =>
      have hu0 : u = a.tmps.getD i undef := by have := hu 0; simpa using this
      have hus : ∀ j, us[j]? = if j < l.length then some (a.tmps.getD (i + 1 + j) undef) else none := fun j => by
        have := hu (j + 1)
        simp only [List.getElem?_cons_succ, List.length_cons, Nat.add_lt_add_iff_right] at this
        rw [this, Nat.add_assoc, Nat.add_comm 1 j]
      simp only [dRes] at h
      split at h
      case h_2 => cases h
      rename_i x y e1 e2
      injection h with h; subst h
      refine ⟨u, us, rfl, ?_, dRes_sound hR l (i + 1) y us e2 hus⟩
      rw [hu0]
      exact (dR_sound (hR.fr i) e1).move fun k hk _ => ⟨hk.1 (by simp), rfl⟩

theorem fnOK_of_run {T : TypeId → Option TS} {Y : TypeId → Option Ty} {sig : List (Ty × Bool)} {res : List Ty} {call : CallF (HL res)} {kp : FuncId → Bool} {H : Nat → Hint} {c : Code} {f : FuncId}
    (hT : TOK P T) (hY : YOK P Y) (hC : CallOK P kp call) (hm : P.follows .mixedOrders = true) (hf : P.funcs[f]? = some fn) (hn : (fn.name == "runtime.NumGoroutine") = false) (hb : fn.body = some c)
    {Fn : HS sig → Option (HL res)} (hrun : ∀ xs ys, Fn xs = some ys → ∃ fuel, arun T Y sig res call kp H fn c fuel xs = some ys) : FnOK P f sig res Fn := by
  intro X w vs xs ys hX hargs hys
  obtain ⟨fuel, h⟩ := hrun xs ys hys
  unfold arun at h
  obtain ⟨hl, h⟩ := cond_some h
  refine .inr ⟨run_enter hf hn hb vs w, ?_⟩
  have hbot : Rel X 0 ⟨fun _ => none, fun _ => undef, fun _ => undef⟩ bot { tmps := #[], defers := [] } w :=
    ⟨fun i => by simp [bot, RelV], fun id => trivial, fun id id' k h1 => (by cases h1), fun id k h1 => (by cases h1), hX, rfl, rfl, fun i => by simp [bot, RelV]⟩
  have ha : RelL (okT X bot.hp ⟨fun _ => none, fun _ => undef, fun _ => undef⟩) ⟨fun _ => none, fun _ => undef, fun _ => undef⟩ w (avsS sig xs) vs.toList :=
    avsS_rel (fun k => ⟨fun h => absurd rfl h, fun id h1 => (by cases h1)⟩) (fun k hk => ⟨fun _ => hk, fun id h1 => (by cases h1)⟩) sig xs _ hargs
  refine Calls.mono (body_sound (E := ⟨T, Y, call, kp, 0⟩) (N := fun us w' => ResOK w' X res ys us ∧ w'.os = w.os ∧ w'.tape = w.tape ∧ w'.output = w.output ∧ w.heap.size ≤ w'.heap.size ∧ ∀ k, k < w.heap.size → w'.heap[k]? = w.heap[k]?)
    hT hY hC hm hf hb (by rw [avsS_length]; exact ble_iff.1 hl) h hbot ha ?_) (fun e w' he => ?_)
  · intro avs us st' env' w' q1 q2 q3 q4
    unfold rdata at q1
    obtain ⟨q1a, q1b⟩ := cond_some q1
    have hlen := beq_iff.1 q1a
    have hp := q2.push (fn := lenFn avs.length) (vs := us.toArray) (by simpa using q3) (Nat.le_refl _)
    obtain ⟨f1, f2⟩ := hp.frzs (ownIdsL avs)
    have hus := RelL.length _ _ q3
    refine ⟨dRes_sound f1 res 0 ys us q1b (fun j => ?_), q4.os, q4.tape, q4.output, q4.size, fun k hk => q4.keep k hk fun id h1 => (by cases h1)⟩
    rw [Nat.zero_add]
    show us[j]? = if j < res.length then some ((us.toArray ++ Array.replicate ((lenFn avs.length).ntmps - us.toArray.size) undef).getD j undef) else none
    by_cases hj : j < res.length
    · have hj' : j < us.length := by omega
      rw [if_pos hj, Array.getD_eq_getD_getElem?, Array.getElem?_append, if_pos (by simpa using hj')]
      simp [hj']
    · rw [if_neg hj]
      simp; omega
  · cases e with
    | returned v => exact he
    | panicked c => exact he
    | outgrown => exact he
end
end Go.Proofs.YtpgmkoaklpkecaaDoor.Eng

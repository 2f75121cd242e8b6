/- Contracts whose first result is a row that is new, and the caller's own from then on. -/
import Derived.Test.YtpgmkoaklpkecaaDoorEng19
set_option linter.unusedVariables false
set_option linter.unusedSimpArgs false
namespace Go.Proofs.YtpgmkoaklpkecaaDoor.Eng

/-- What a function is told to do, over data; its first result is a new row. -/
def FnOKf (P : Program) (f : FuncId) (sig : List (Ty × Bool)) (T : TypeId) (e : Ty) (res : List Ty) (Fn : HS sig → Option (HL (.sl e :: res))) : Prop :=
  ∀ (X : Nat → Prop) (w : World) (vs : Array Value) (xs : HS sig) (ys : HL (.sl e :: res)), (∀ k, X k → k < w.heap.size) → ArgsOK w X sig xs vs.toList → Fn xs = some ys →
    Goes P f vs w fun v w' => ∃ u us, v = oneV (u :: us) ∧ (∃ ds, w'.ownsRow 0 T e.sz u (List.length ys.1) ds ∧ Flat (Cells w' (fun k => ¬ (X k ∨ u.ownBlock = some k)) e) ys.1 ds) ∧
      ResOK w' (fun k => X k ∨ u.ownBlock = some k) res ys.2 us ∧ (∀ k, u.ownBlock = some k → w.heap.size ≤ k) ∧
      w'.os = w.os ∧ w'.tape = w.tape ∧ w'.output = w.output ∧ w.heap.size ≤ w'.heap.size ∧ ∀ k, k < w.heap.size → w'.heap[k]? = w.heap[k]?

/-- A call by contract. -/
def conOfF {R : Type} {sig : List (Ty × Bool)} (T : TypeId) {e : Ty} {res : List Ty} (Fn : HS sig → Option (HL (.sl e :: res))) : ConF R := fun nt ns b args st K =>
  cond (Nat.beq args.length sig.length) ((fun st1 : AState => match dSig st1 sig 0 with
    | some xs => match Fn xs with
      | some ys => K (oneOf (.own (b + 1) :: avsL res ys.2)) ((pop nt st1).turn true (b + 1) (.row T e ys.1))
      | none => none
    | none => none) ((push nt args st).frzs (shIds sig args))) none

/-- The results of a run that ends with a row of its own at the head. -/
def rdataF (T : TypeId) (e : Ty) (res : List Ty) (avs : List AV) (st : AState) : Option (HL (.sl e :: res)) :=
  match avs with
  | .own id :: rest => cond (Nat.beq rest.length res.length) ((fun st1 : AState => match st1.hp id with
    | .row T' e' ys => cond (Nat.beq T' T) (match (castL ys : Option (List e.D)) with
      | some ys => match dRes st1 res 0 with
        | some zs => some (ys, zs)
        | none => none
      | none => none) none
    | _ => none) ((push 0 rest st).frzs (ownIdsL rest))) none
  | .nil :: rest => cond (Nat.beq rest.length res.length) (match dRes ((push 0 rest st).frzs (ownIdsL rest)) res 0 with
    | some zs => some (([] : List e.D), zs)
    | none => none) none
  | _ => none

/-- The run of a function over data; its first result is a new row. -/
def arunF (T : TypeId → Option TS) (Y : TypeId → Option Ty) (sig : List (Ty × Bool)) (t : TypeId) (e : Ty) (res : List Ty) (call : CallF (HL (.sl e :: res))) (kp : FuncId → Bool) (H : Nat → Hint) (fn : Func) (c : Code) (fuel : Nat) (xs : HS sig) : Option (HL (.sl e :: res)) :=
  cond (Nat.ble sig.length fn.ntmps) (acode ⟨T, Y, call, kp, 0⟩ fn.ntmps 0 fuel H c 1 (push 0 (avsS sig xs) bot) (afin T fn (pop 0) (rdataF t e res))) none

/-- Bytes in their order. -/
def lexI : List Int → List Int → Int
  | [], [] => 0
  | [], _ :: _ => -1
  | _ :: _, [] => 1
  | a :: l, b :: m => if a < b then -1 else if b < a then 1 else lexI l m
/-- What internal/bytealg.Compare does. -/
def cmpF (xs : HS [(.sl (.int .u8), true), (.sl (.int .u8), true)]) : Option (HL [.int .i64]) := some (lexI xs.1 xs.2.1, ())
/-- What bytes.Clone does. -/
def cloneF (xs : HS [(.sl (.int .u8), true)]) : Option (HL [.sl (.int .u8)]) := cond (decide (List.length xs.1 ≤ 140737488355328)) (some (xs.1, ())) none

section
variable {F F' : Option Nat → Nat → Prop} {env env2 : Env} {w w' w2 : World} {X : Nat → Prop} {nt nt2 base : Nat} {st st2 : AState} {a a2 : Act} {R : Type} {P : Program} {fn : Func}

theorem ownsRow_slice {T : TypeId} {sz : Nat} {u : Value} {n : Nat} {ds : List Value} (h : w.ownsRow 0 T sz u n ds) : ∃ A c, u = .slice A n c := by
  rcases h.2 with ⟨h1, h2⟩ | ⟨g, cap, cur, h1, _⟩
  · exact ⟨none, 0, by rw [h1, h2]⟩
  · exact ⟨_, _, h1⟩

theorem conOfF_sound {f : FuncId} {sig : List (Ty × Bool)} {T : TypeId} {e : Ty} {res : List Ty} {Fn : HS sig → Option (HL (.sl e :: res))} (hf : FnOKf P f sig T e res Fn) : ConOK (R := R) P f (conOfF T Fn) := by
  intro X nt env st a w ns b args vs K r N h hR ha hN
  unfold conOfF at h
  obtain ⟨hlen, h⟩ := cond_some h
  have hlen := beq_iff.1 hlen
  dsimp only at h
  have hp := hR.push (fn := lenFn args.length) ha (Nat.le_refl _)
  obtain ⟨f1, f2⟩ := hp.frzs (shIds sig args)
  have f3 : RKeep (env.push nt a) (push nt args st).hp w (env.push nt a) ((push nt args st).frzs (shIds sig args)).hp w := RKeep.frzs _ _
  generalize (push nt args st).frzs (shIds sig args) = st1 at h f1 f2 f3
  split at h
  case h_2 => cases h
  rename_i xs hxs
  split at h
  case h_2 => cases h
  rename_i ys hys
  have hvl := RelL.length _ _ ha
  have hvs : vs.size = args.length := by rw [← hvl, Array.length_toList]
  have hargs := dSig_sound f1 sig 0 xs vs.toList hxs (fun j => by
    rw [Nat.zero_add]
    show vs.toList[j]? = if j < sig.length then some ((vs ++ Array.replicate ((lenFn args.length).ntmps - vs.size) undef).getD j undef) else none
    by_cases hj : j < sig.length
    · have hj' : j < vs.size := by omega
      rw [if_pos hj, Array.getD_eq_getD_getElem?, Array.getElem?_append, if_pos hj']
      simp [hj']
    · rw [if_neg hj]
      simp; omega)
  have hlt : ∀ k, forb X st1.hp (env.push nt a) k → k < w.heap.size := by
    rintro k (h1 | ⟨id, h1, h2⟩)
    · exact f1.xlt k h1
    · exact (f1.lt id k h1 h2).1
  refine (hf _ w vs xs ys hlt hargs hys).mono ?_
  rintro v w' ⟨u, us, rfl, ⟨ds, d1, d2⟩, h1, hnew, h2, h3, h4, h5, h6⟩
  obtain ⟨p1, p2⟩ := hR.pop f1 f2
  generalize hen : (⟨(env.push nt a).blk, (env.push nt a).hdr, env.sv⟩ : Env) = en at p1 p2
  have hblkE : en.blk = (env.push nt a).blk := by rw [← hen]
  have hx : (en.setR (b + 1) u).hdr (b + 1) = u := by simp [Env.setR]
  have hxb : (en.setR (b + 1) u).blk (b + 1) = u.ownBlock := by simp [Env.setR]
  have henv : ∀ j, (true = true → j ≠ b + 1) → (en.setR (b + 1) u).hdr j = en.hdr j ∧ (en.setR (b + 1) u).blk j = en.blk j := fun j hj => by simp [Env.setR, hj rfl]
  have hbl : ∀ j, j ≠ b + 1 → (en.setR (b + 1) u).blk j = en.blk j := fun j hj => (henv j fun _ => hj).2
  have hblk : ∀ k, (AObj.row T e ys.1).live = true → (en.setR (b + 1) u).blk (b + 1) = some k → (((pop nt st1).hp (b + 1)).live = true ∧ en.blk (b + 1) = some k) ∨ (w.heap.size ≤ k ∧ k < w'.heap.size) := by
    intro k _ he
    rw [hxb] at he
    exact .inr ⟨hnew k he, (World.ownsRow.lt d1 k he).2⟩
  -- what is let by after the turn
  have hok : ∀ k, ¬ (forb X st1.hp (env.push nt a) k ∨ u.ownBlock = some k) → okT X ((pop nt st1).turn true (b + 1) (.row T e ys.1)).hp (en.setR (b + 1) u) none k := by
    intro k hk
    refine ⟨fun _ hX => hk (.inl (.inl hX)), fun id hl _ he => ?_⟩
    rw [turn_live] at hl
    by_cases e1 : id = b + 1
    · subst e1
      rw [hxb] at he
      exact hk (.inr he)
    · rw [if_neg e1] at hl
      rw [hbl id e1, hblkE] at he
      exact hk (.inl (.inr ⟨id, hl, he⟩))
  have g1 := p1.turn (all := true) (x := b + 1) (o' := .row T e ys.1) (env' := en.setR (b + 1) u) (w' := w') henv h5 (fun k hk _ => h6 k hk) hblk
    ⟨by rw [hxb, hx], ds, by rw [hx]; exact d1, Flat.remap (fun y cs hy => Cells.move (fun k hk _ => ⟨hok k hk, rfl⟩) e hy) _ _ d2⟩
  have g2 : Ext en (pop nt st1).hp w (en.setR (b + 1) u) ((pop nt st1).turn true (b + 1) (.row T e ys.1)).hp w' := Ext.turn h2 h3 h4 hbl h5 (fun k hk _ => h6 k hk) fun k hl he => (hblk k hl he).imp id (·.1)
  have g3 : RKeep en (pop nt st1).hp w (en.setR (b + 1) u) ((pop nt st1).turn true (b + 1) (.row T e ys.1)).hp w' := RKeep.turn hbl h5 (fun k hk _ => h6 k hk) fun k hl he => by
    rw [hxb] at he
    exact .inr (hnew k he)
  have k3 : RKeep env st.hp w en (pop nt st1).hp w := by rw [← hen]; exact ⟨f3.size, f3.keep, f3.new⟩
  refine hN _ _ _ _ _ h g1 ?_ (p2.trans g2) (k3.trans g3)
  obtain ⟨A, c, hA⟩ := ownsRow_slice d1
  refine oneOf_rel ⟨u, us, rfl, ⟨hx.symm, A, _, c, hA⟩, ?_⟩
  exact avsL_rel (ok := okT X ((pop nt st1).turn true (b + 1) (.row T e ys.1)).hp (en.setR (b + 1) u) none) (fun k hk => hk) res ys.2 us _ (fun k hk hl => hok k hk) h1

theorem FnOKf.forget {f : FuncId} {sig : List (Ty × Bool)} {T : TypeId} {e : Ty} {res : List Ty} {Fn : HS sig → Option (HL (.sl e :: res))} (h : FnOKf P f sig T e res Fn) : FnOK P f sig (.sl e :: res) Fn := by
  intro X w vs xs ys hX ha hys
  refine (h X w vs xs ys hX ha hys).mono ?_
  rintro v w' ⟨u, us, rfl, ⟨ds, d1, d2⟩, h1, hnew, h2, h3, h4, h5, h6⟩
  refine ⟨u :: us, rfl, ⟨u, us, rfl, ?_, ?_⟩, h2, h3, h4, h5, h6⟩
  · show Cells w' _ (.sl e) ys.1 [u]
    have hro : RelO (fun _ k => ¬ (X k ∨ u.ownBlock = some k)) ⟨fun _ => u.ownBlock, fun _ => u, fun _ => undef⟩ w' 1 (.row T e ys.1) := ⟨rfl, ds, d1, d2⟩
    obtain ⟨A, c, q1, q2, q3, q4, q5⟩ := hdr_row hro
    refine ⟨A, c, by rw [show u = _ from q1], q2, q3, ?_⟩
    by_cases hne : ys.1 = []
    · exact .inl hne
    · obtain ⟨g, c', k1, k2, k3⟩ := own_row hro hne
      have k1 : u = _ := k1
      rw [show u = _ from q1] at k1
      injection k1 with k1 _ _
      refine .inr ⟨g, 0, k1, ⟨fun hX' => ?_, fun i hi => ?_⟩⟩
      · have := hnew g k2; have := hX g hX'; omega
      · obtain ⟨cs, c1, c2, c3⟩ := k3 i hi
        exact ⟨cs, Cells.move (fun k hk _ => ⟨fun hX' => hk (.inl hX'), rfl⟩) e c1, c2, c3⟩
  · have : ∀ (res : List Ty) (ys : HL res) (us : List Value), ResOK w' (fun k => X k ∨ u.ownBlock = some k) res ys us → ResOK w' X res ys us := by
      intro res
      induction res with
      | nil => exact fun ys us h => h
      | cons t l ih =>
        rintro ys us ⟨v, us', g1, g2, g3⟩
        exact ⟨v, us', g1, g2.move fun k hk _ => ⟨fun hX' => hk (.inl hX'), rfl⟩, ih _ _ g3⟩
    exact this _ _ _ h1

theorem dRes_soundG {X' : Nat → Prop} (hR : Rel X nt env st a w) (hX' : ∀ k, okT X st.hp env none k → ¬ X' k) : (res : List Ty) → (i : Nat) → (ys : HL res) → (us : List Value) → dRes st res i = some ys → (∀ j, us[j]? = if j < res.length then some (a.tmps.getD (i + j) undef) else none) →
    ResOK w X' res ys us
  | [], i, ys, us, h, hu => by
    show us = []
    cases us with
    | nil => rfl
    | cons u us => have := hu 0; simp at this
  | t :: l, i, ys, us, h, hu => by
    cases us with
    | nil => have := hu 0; simp at this
    | cons u us =>
      have hu0 : u = a.tmps.getD i undef := by have := hu 0; simpa using this
      have hus : ∀ j, us[j]? = if j < l.length then some (a.tmps.getD (i + 1 + j) undef) else none := fun j => by
        have := hu (j + 1)
        simp only [List.getElem?_cons_succ, List.length_cons, Nat.add_lt_add_iff_right] at this
        rw [this, Nat.add_assoc, Nat.add_comm 1 j]
      simp only [dRes] at h
      split at h
      case h_2 => cases h
      rename_i x y e1 e2
      injection h with h; subst h
      refine ⟨u, us, rfl, ?_, dRes_soundG hR hX' l (i + 1) y us e2 hus⟩
      rw [hu0]
      exact (dR_sound (hR.fr i) e1).move fun k hk _ => ⟨hX' k hk, rfl⟩

theorem lenFn_get {us : List Value} {n : Nat} (hl : us.length = n) (j : Nat) : us[j]? = if j < n then some ((us.toArray ++ Array.replicate ((lenFn n).ntmps - us.toArray.size) undef).getD (0 + j) undef) else none := by
  rw [Nat.zero_add]
  by_cases hj : j < n
  · have hj' : j < us.length := by omega
    rw [if_pos hj, Array.getD_eq_getD_getElem?, Array.getElem?_append, if_pos (by simpa using hj')]
    simp [hj']
  · rw [if_neg hj]
    simp; omega

theorem fnOKf_of_run {T : TypeId → Option TS} {Y : TypeId → Option Ty} {sig : List (Ty × Bool)} {t : TypeId} {e : Ty} {res : List Ty} {call : CallF (HL (.sl e :: res))} {kp : FuncId → Bool} {H : Nat → Hint} {c : Code} {f : FuncId}
    (hT : TOK P T) (hY : YOK P Y) (hC : CallOK P kp call) (hm : P.follows .mixedOrders = true) (hf : P.funcs[f]? = some fn) (hn : (fn.name == "runtime.NumGoroutine") = false) (hb : fn.body = some c)
    {Fn : HS sig → Option (HL (.sl e :: res))} (hrun : ∀ xs ys, Fn xs = some ys → ∃ fuel, arunF T Y sig t e res call kp H fn c fuel xs = some ys) : FnOKf P f sig t e res Fn := by
  intro X w vs xs ys hX hargs hys
  obtain ⟨fuel, h⟩ := hrun xs ys hys
  unfold arunF at h
  obtain ⟨hl, h⟩ := cond_some h
  refine .inr ⟨run_enter hf hn hb vs w, ?_⟩
  have hbot : Rel X 0 ⟨fun _ => none, fun _ => undef, fun _ => undef⟩ bot { tmps := #[], defers := [] } w :=
    ⟨fun i => by simp [bot, RelV], fun id => trivial, fun id id' k h1 => (by cases h1), fun id k h1 => (by cases h1), hX, rfl, rfl, fun i => by simp [bot, RelV]⟩
  have ha : RelL (okT X bot.hp ⟨fun _ => none, fun _ => undef, fun _ => undef⟩) ⟨fun _ => none, fun _ => undef, fun _ => undef⟩ w (avsS sig xs) vs.toList :=
    avsS_rel (fun k => ⟨fun h => absurd rfl h, fun id h1 => (by cases h1)⟩) (fun k hk => ⟨fun _ => hk, fun id h1 => (by cases h1)⟩) sig xs _ hargs
  refine Calls.mono (body_sound (E := ⟨T, Y, call, kp, 0⟩) (N := fun us' w' => ∃ u us, us' = u :: us ∧ (∃ ds, w'.ownsRow 0 t e.sz u (List.length ys.1) ds ∧ Flat (Cells w' (fun k => ¬ (X k ∨ u.ownBlock = some k)) e) ys.1 ds) ∧
      ResOK w' (fun k => X k ∨ u.ownBlock = some k) res ys.2 us ∧ (∀ k, u.ownBlock = some k → w.heap.size ≤ k) ∧
      w'.os = w.os ∧ w'.tape = w.tape ∧ w'.output = w.output ∧ w.heap.size ≤ w'.heap.size ∧ ∀ k, k < w.heap.size → w'.heap[k]? = w.heap[k]?)
    hT hY hC hm hf hb (by rw [avsS_length]; exact ble_iff.1 hl) h hbot ha ?_) (fun e w' he => ?_)
  · intro avs us0 st' env' w' q1 q2 q3 q4
    unfold rdataF at q1
    have rest4 : w'.os = w.os ∧ w'.tape = w.tape ∧ w'.output = w.output ∧ w.heap.size ≤ w'.heap.size ∧ ∀ k, k < w.heap.size → w'.heap[k]? = w.heap[k]? := ⟨q4.os, q4.tape, q4.output, q4.size, fun k hk => q4.keep k hk fun id h1 => (by cases h1)⟩
    split at q1
    · rename_i id rest
      obtain ⟨u, us, rfl, hu, q3'⟩ := q3
      obtain ⟨q1a, q1b⟩ := cond_some q1
      have hlen := beq_iff.1 q1a
      have hus := RelL.length _ _ q3'
      have hp := q2.push (fn := lenFn rest.length) (vs := us.toArray) (by simpa using q3') (Nat.le_refl _)
      obtain ⟨f1, f2⟩ := hp.frzs (ownIdsL rest)
      dsimp only at q1b
      have hhdr : (env'.push 0 { tmps := #[], defers := [] }).hdr = env'.hdr := rfl
      generalize (push 0 rest st').frzs (ownIdsL rest) = st1 at q1b f1 f2
      split at q1b
      case h_2 => cases q1b
      rename_i T' e' ys' hh
      obtain ⟨ht, q1c⟩ := cond_some q1b
      have := beq_iff.1 ht
      subst this
      split at q1c
      case h_2 => cases q1c
      rename_i ys2 hcast
      obtain ⟨he, hx⟩ := castL_some hcast
      subst he
      have hx : ys2 = ys' := hx
      subst hx
      split at q1c
      case h_2 => cases q1c
      rename_i zs hzs
      injection q1c with q1c
      subst q1c
      have ho := f1.hp id
      have hlv : (st1.hp id).live = true := by rw [hh]
      rw [hh] at ho
      obtain ⟨o1, ds, o2, o3⟩ := ho
      have hu1 : u = (env'.push 0 { tmps := #[], defers := [] }).hdr id := by rw [hhdr]; exact hu.1
      rw [← hu1] at o1 o2
      have hokk : ∀ k, okT X st1.hp (env'.push 0 { tmps := #[], defers := [] }) none k → ¬ (X k ∨ u.ownBlock = some k) := by
        rintro k hk (h1 | h1)
        · exact hk.1 (by simp) h1
        · exact hk.2 id hlv (by simp) (by rw [o1]; exact h1)
      refine ⟨u, us, rfl, ⟨ds, o2, Flat.remap (fun y cs hy => Cells.move (fun k hk _ => ⟨hokk k hk, rfl⟩) _ hy) _ _ o3⟩, ?_, fun k hk => ?_, rest4⟩
      · refine dRes_soundG f1 hokk res 0 zs us hzs fun j => ?_
        have := lenFn_get (n := rest.length) hus j
        rw [← hlen]
        exact this
      · refine Nat.le_of_not_lt fun hlt => ?_
        obtain ⟨id0, h1, h2⟩ := f2.new id k hlv (by rw [o1]; exact hk) (Nat.lt_of_lt_of_le hlt q4.size)
        obtain ⟨id1, h3, _⟩ := q4.new id0 k h1 h2 hlt
        cases h3
    · rename_i rest
      obtain ⟨u, us, rfl, hu, q3'⟩ := q3
      obtain ⟨q1a, q1b⟩ := cond_some q1
      have hlen := beq_iff.1 q1a
      have hus := RelL.length _ _ q3'
      have hp := q2.push (fn := lenFn rest.length) (vs := us.toArray) (by simpa using q3') (Nat.le_refl _)
      obtain ⟨f1, f2⟩ := hp.frzs (ownIdsL rest)
      generalize (push 0 rest st').frzs (ownIdsL rest) = st1 at q1b f1 f2
      split at q1b
      case h_2 => cases q1b
      rename_i zs hzs
      injection q1b with q1b
      subst q1b
      simp only [RelV] at hu
      subst hu
      refine ⟨_, us, rfl, ⟨[], World.ownsRow_nil _ _ _ _, rfl⟩, ?_, fun k hk => (by cases hk), rest4⟩
      refine dRes_soundG f1 (fun k hk h1 => ?_) res 0 zs us hzs fun j => ?_
      · rcases h1 with h1 | h1
        · exact hk.1 (by simp) h1
        · cases h1
      · have := lenFn_get (n := rest.length) hus j
        rw [← hlen]
        exact this
    · cases q1
  · cases e with
    | returned v =>
      obtain ⟨us', h1, u, us, h2, h3⟩ := he
      exact ⟨u, us, by rw [h1, h2], h3⟩
    | panicked c => exact he
    | outgrown => exact he
end
end Go.Proofs.YtpgmkoaklpkecaaDoor.Eng

/- Code. -/
import Derived.Test.YtpgmkoaklpkecaaDoorEng15
import Derived.Scope
set_option linter.unusedVariables false
set_option linter.unusedSimpArgs false
namespace Go.Proofs.YtpgmkoaklpkecaaDoor.Eng

section
variable {F F' : Option Nat → Nat → Prop} {env : Env} {w w' : World} {X : Nat → Prop} {nt base : Nat} {st : AState} {a : Act} {R : Type} {P : Program}

/-- The operand's Bool is known. -/
def alit (st : AState) (c : Operand) (b : Bool) : AState := match c with
  | .tmp t => st.put t (.bool b)
  | _ => st

theorem alit_rel (hR : Rel X nt env st a w) {c : Operand} {b : Bool} (h : a.eval c = .bool b) : Rel X nt env (alit st c b) a w ∧ (alit st c b).hp = st.hp := by
  cases c with
  | tmp t => exact ⟨hR.lit (by show RelV _ _ _ _ _; exact h), rfl⟩
  | _ => exact ⟨hR, rfl⟩

/-! ### Shapes, by themselves -/
mutual
def kindOf : AV → Kd
  | .int k _ => .int k
  | .bool _ => .bool
  | .str _ => .str
  | .sl e _ tag ex => .sl e tag ex
  | .own id => .own id
  | .pre id _ => .pre id
  | .nil => .nil
  | .ptr id off => .ptr id off
  | .nilp => .nilp
  | .nili => .nili
  | .agg cs => .agg (kindOfL cs)
  | .tup cs => .tup (kindOfL cs)
  | .fn (.func f) a b => .fn f (kindOfL a) (kindOfL b)
  | _ => .top
def kindOfL : List AV → Kd
  | [] => .fin
  | v :: vs => .app (kindOf v) (kindOfL vs)
end

def isTop : AV → Bool
  | .top => true
  | .ep _ _ _ _ _ => true
  | .op _ _ _ _ => true
  | .iface _ _ => true
  | _ => false

def Kd.ids : Kd → List Nat
  | .own id => [id]
  | .pre id => [id]
  | .ptr id _ => [id]
  | .sl _ (some id) _ => [id]
  | .agg l => l.ids
  | .tup l => l.ids
  | .fn _ a b => a.ids ++ b.ids
  | .app a b => a.ids ++ b.ids
  | _ => []

def okindOf : AObj → Option OKd
  | .row T e _ => some (.row T e)
  | .cells T cs => some (.cells T (kindOfL cs))
  | .dead => none

/-- The objects that are led to. -/
def objsOf (hp : Nat → AObj) : Nat → List Nat → List (Nat × OKd) → List (Nat × OKd)
  | 0, _, acc => acc
  | _ + 1, [], acc => acc
  | n + 1, x :: l, acc => cond (acc.any fun p => Nat.beq p.1 x) (objsOf hp n l acc) (match okindOf (hp x) with
    | some (.cells T k) => objsOf hp n (k.ids ++ l) ((x, .cells T k) :: acc)
    | some o => objsOf hp n l ((x, o) :: acc)
    | none => objsOf hp n l acc)

/-- What a text needs told. A loop, or a sequence whose first part ends in several ways ('cut'): the slots that it carries on (with a kind, where the one at its head does not do); rows that start as nil; the slots that are only read. A region ('cut'): the slots that are wanted from it on. -/
structure Hint where
  vars : List (Nat × Option Kd)
  nils : List (Nat × TypeId × Ty)
  live : List Nat
  cut : Bool

def slotKinds (g : Nat → AV) : List Nat → List (Nat × Kd)
  | [] => []
  | i :: l => cond (isTop (g i)) (slotKinds g l) ((i, kindOf (g i)) :: slotKinds g l)

def varKinds (g : Nat → AV) : List (Nat × Option Kd) → List (Nat × Kd)
  | [] => []
  | (i, none) :: l => (i, match kindOf (g i) with
    | .sl e tag _ => .sl e tag false
    | k => k) :: varKinds g l
  | (i, some k) :: l => (i, match kindOf (g i) with
    | .sl e tag _ => .sl e tag false
    | _ => k) :: varKinds g l

def kdOf : List (Nat × Kd) → Kd
  | [] => .fin
  | (_, k) :: l => .app k (kdOf l)

/-! Shapes are worked out before they are used. -/
section
variable {β : Type}
def nBool (b : Bool) (k : Bool → β) : β := cond b (k true) (k false)
def nInt : IntKind → (IntKind → β) → β
  | .i8, k => k .i8
  | .i16, k => k .i16
  | .i32, k => k .i32
  | .i64, k => k .i64
  | .u8, k => k .u8
  | .u16, k => k .u16
  | .u32, k => k .u32
  | .u64, k => k .u64
def nTy : Ty → (Ty → β) → β
  | .int i, k => nInt i fun i => k (.int i)
  | .bool, k => k .bool
  | .str, k => k .str
  | .sl e, k => nTy e fun e => k (.sl e)
  | .pair a b, k => nTy a fun a => nTy b fun b => k (.pair a b)
def nTag : Option Nat → (Option Nat → β) → β
  | none, k => k none
  | some x, k => k (some x)
def nKd : Kd → (Kd → β) → β
  | .top, k => k .top
  | .int i, k => nInt i fun i => k (.int i)
  | .bool, k => k .bool
  | .str, k => k .str
  | .sl e tag ex, k => nTy e fun e => nTag tag fun tag => nBool ex fun ex => k (.sl e tag ex)
  | .own id, k => k (.own id)
  | .pre id, k => k (.pre id)
  | .nil, k => k .nil
  | .ptr id off, k => k (.ptr id off)
  | .nilp, k => k .nilp
  | .nili, k => k .nili
  | .agg l, k => nKd l fun l => k (.agg l)
  | .tup l, k => nKd l fun l => k (.tup l)
  | .fn f a b, k => nKd a fun a => nKd b fun b => k (.fn f a b)
  | .fin, k => k .fin
  | .app a b, k => nKd a fun a => nKd b fun b => k (.app a b)
def nPairs : List (Nat × Kd) → (List (Nat × Kd) → β) → β
  | [], k => k []
  | (i, d) :: l, k => nKd d fun d => nPairs l fun l => k ((i, d) :: l)
def nObjs : List (Nat × OKd) → (List (Nat × OKd) → β) → β
  | [], k => k []
  | (i, .row T e) :: l, k => nTy e fun e => nObjs l fun l => k ((i, .row T e) :: l)
  | (i, .cells T d) :: l, k => nKd d fun d => nObjs l fun l => k ((i, .cells T d) :: l)

theorem nBool_eq (b : Bool) (k : Bool → β) : nBool b k = k b := by cases b <;> rfl
theorem nInt_eq (i : IntKind) (k : IntKind → β) : nInt i k = k i := by
  cases i <;> rfl
theorem nTy_eq : (e : Ty) → (k : Ty → β) → nTy e k = k e
  | .int i, k => nInt_eq i _
  | .bool, k => rfl
  | .str, k => rfl
  | .sl e, k => nTy_eq e _
  | .pair a b, k => by simp only [nTy, nTy_eq a, nTy_eq b]
theorem nTag_eq (t : Option Nat) (k : Option Nat → β) : nTag t k = k t := by cases t <;> rfl
theorem nKd_eq : (d : Kd) → (k : Kd → β) → nKd d k = k d := by
  intro d
  induction d with
  | int i => exact fun k => nInt_eq i _
  | sl e tag ex => exact fun k => by simp only [nKd, nTy_eq, nTag_eq, nBool_eq]
  | agg l ih => exact fun k => ih _
  | tup l ih => exact fun k => ih _
  | fn f a b iha ihb => exact fun k => by simp only [nKd, iha, ihb]
  | app a b iha ihb => exact fun k => by simp only [nKd, iha, ihb]
  | _ => exact fun k => rfl
theorem nPairs_eq : (l : List (Nat × Kd)) → (k : List (Nat × Kd) → β) → nPairs l k = k l
  | [], k => rfl
  | (i, d) :: l, k => by simp only [nPairs, nKd_eq, nPairs_eq l]
theorem nObjs_eq : (l : List (Nat × OKd)) → (k : List (Nat × OKd) → β) → nObjs l k = k l
  | [], k => rfl
  | (i, .row T e) :: l, k => by simp only [nObjs, nTy_eq, nObjs_eq l]
  | (i, .cells T d) :: l, k => by simp only [nObjs, nKd_eq, nObjs_eq l]

def shapeK (hp : Nat → AObj) (fr sv : List (Nat × Kd)) (k : Shp → β) : β :=
  nPairs fr fun fr => nPairs sv fun sv => nObjs (objsOf hp 200 ((kdOf fr).ids ++ (kdOf sv).ids) []) fun hs => k ⟨fr.map (·.1), kdOf fr, sv.map (·.1), kdOf sv, hs⟩
theorem shapeK_eq (hp : Nat → AObj) (fr sv : List (Nat × Kd)) (k : Shp → β) : ∃ S, shapeK hp fr sv k = k S :=
  ⟨⟨fr.map (·.1), kdOf fr, sv.map (·.1), kdOf sv, objsOf hp 200 ((kdOf fr).ids ++ (kdOf sv).ids) []⟩, by simp only [shapeK, nPairs_eq, nObjs_eq]⟩
end

/-- Object id's one cell holds row id'. -/
def AState.cellRow (st : AState) (id id' : Nat) (T0 : TypeId) : AState := ⟨st.fr, fun j => cond (Nat.beq j id) (.cells T0 [.own id']) (st.hp j), st.sv⟩

/-- Slots that hold nil, or lead to a cell that does, hold an empty row of their own. -/
def anils (base : Nat) : List (Nat × TypeId × Ty) → AState → AState
  | [], st => st
  | (d, T, e) :: l, st => anils base l (match st.fr d with
    | .nil => (st.turn true (base + d + 1) (.row T e [])).put d (.own (base + d + 1))
    | .ptr id 0 => match st.hp id with
      | .cells T0 [.nil] => cond (Nat.beq id (base + d + 2049)) st ((st.turn true (base + d + 2049) (.row T e [])).cellRow id (base + d + 2049) T0)
      | _ => st
    | _ => st)

theorem cellRow_live {st : AState} {id id' : Nat} {T0 : TypeId} {cs : List AV} (h : st.hp id = .cells T0 cs) (j : Nat) : ((st.cellRow id id' T0).hp j).live = (st.hp j).live := by
  simp only [AState.cellRow]
  cases e : Nat.beq j id with
  | true => rw [beq_iff.1 e, h]; rfl
  | false => rfl

theorem Rel.cellRow {id id' : Nat} {T0 : TypeId} (h : Rel X nt env st a w) (hh : st.hp id = .cells T0 [.nil]) (hd : env.hdr id' = .slice none 0 0) : Rel X nt env (st.cellRow id id' T0) a w ∧ Ext env st.hp w env (st.cellRow id id' T0).hp w := by
  have hlv := cellRow_live (id' := id') hh
  have hm : Stays (okT X st.hp env) (okT X (st.cellRow id id' T0).hp env) env env w w := ⟨fun tag k hk _ => ⟨⟨hk.1, fun j hj => hk.2 j (by rw [← hlv j]; exact hj)⟩, rfl⟩, fun _ => rfl, fun _ => rfl⟩
  refine ⟨⟨fun i => RelV.stay hm _ _ (h.fr i), fun j => ?_, fun i j k hi hj => h.inj i j k (by rw [← hlv i]; exact hi) (by rw [← hlv j]; exact hj), fun j k hl => h.lt j k (by rw [← hlv j]; exact hl), h.xlt, h.sz, h.df, fun i => RelV.stay hm _ _ (h.sv i)⟩,
    ⟨rfl, rfl, rfl, Nat.le_refl _, fun _ _ _ => rfl, fun j k hl he _ => ⟨j, by rw [← hlv j]; exact hl, he⟩, rfl⟩⟩
  have hj := h.hp j
  show RelO _ _ _ _ (cond (Nat.beq j id) (.cells T0 [.own id']) (st.hp j))
  cases e : Nat.beq j id with
  | true =>
    have := beq_iff.1 e
    subst this
    rw [hh] at hj
    obtain ⟨b, vs, h1, h2, v, vs', h3, h4, h5⟩ := hj
    simp only [RelV] at h4
    subst h4
    exact ⟨b, vs, h1, h2, _, vs', h3, ⟨hd.symm, none, 0, 0, rfl⟩, h5⟩
  | false => exact RelO.stay (env' := env) hm hj

theorem anils_sound : (l : List (Nat × TypeId × Ty)) → {env : Env} → {st : AState} → Rel X nt env st a w → ∃ env', Rel X nt env' (anils base l st) a w ∧ Ext env st.hp w env' (anils base l st).hp w
  | [], env, st, h => ⟨env, h, Ext.refl _ _ _⟩
  | (d, T, e) :: l, env, st, h => by
    simp only [anils]
    have key : ∃ env1, Rel X nt env1 (match st.fr d with
        | .nil => (st.turn true (base + d + 1) (.row T e [])).put d (.own (base + d + 1))
        | .ptr id 0 => match st.hp id with
          | .cells T0 [.nil] => cond (Nat.beq id (base + d + 2049)) st ((st.turn true (base + d + 2049) (.row T e [])).cellRow id (base + d + 2049) T0)
          | _ => st
        | _ => st) a w ∧
        Ext env st.hp w env1 (match st.fr d with
        | .nil => (st.turn true (base + d + 1) (.row T e [])).put d (.own (base + d + 1))
        | .ptr id 0 => match st.hp id with
          | .cells T0 [.nil] => cond (Nat.beq id (base + d + 2049)) st ((st.turn true (base + d + 2049) (.row T e [])).cellRow id (base + d + 2049) T0)
          | _ => st
        | _ => st).hp w := by
      have hd := h.fr d
      split
      · rename_i hn
        rw [hn] at hd
        have hv : a.tmps.getD d undef = .slice none 0 0 := hd
        obtain ⟨q1, q2, q3, _⟩ := h.newRow (base + d + 1) T (e := e) (ys := []) (v := .slice none 0 0) (ds := []) (row := none) (w' := w) (fun k hk => by cases hk) (World.ownsRow_nil _ _ _ _) rfl ⟨rfl, rfl, rfl, Nat.le_refl _, fun _ _ _ => rfl⟩ (fun k hk => by cases hk)
        refine ⟨_, ⟨fun i => ?_, q1.hp, q1.inj, q1.lt, q1.xlt, q1.sz, q1.df, q1.sv⟩, q2⟩
        simp only [AState.put]
        by_cases ei : i = d
        · subst ei
          rw [beq_iff.2 rfl, hv]; exact q3
        · rw [beq_false.2 ei]; exact q1.fr i
      · rename_i id hn
        split
        · rename_i T0 hh
          cases hb : Nat.beq id (base + d + 2049) with
          | true => exact ⟨env, h, Ext.refl _ _ _⟩
          | false =>
            obtain ⟨q1, q2, q3, _⟩ := h.newRow (base + d + 2049) T (e := e) (ys := []) (v := .slice none 0 0) (ds := []) (row := none) (w' := w) (fun k hk => by cases hk) (World.ownsRow_nil _ _ _ _) rfl ⟨rfl, rfl, rfl, Nat.le_refl _, fun _ _ _ => rfl⟩ (fun k hk => by cases hk)
            have hh2 : (st.turn true (base + d + 2049) (.row T e [])).hp id = .cells T0 [.nil] := by
              simp only [AState.turn, hb, cond_false, hh]; rfl
            obtain ⟨c1, c2⟩ := q1.cellRow (id' := base + d + 2049) hh2 (by simp [Env.setR])
            exact ⟨_, c1, q2.trans c2⟩
        · exact ⟨env, h, Ext.refl _ _ _⟩
      · exact ⟨env, h, Ext.refl _ _ _⟩
    obtain ⟨env1, k1, k2⟩ := key
    obtain ⟨env2, k3, k4⟩ := anils_sound l k1
    exact ⟨env2, k3, k2.trans k4⟩

/-- What comes behind several ways, told once. -/
def ajoin {τ R : Type} (body : (τ → Option R) → Option R) (k : τ → Option R) : Option R := body k

/-- Slots that nobody wants any more are forgotten. -/
def AState.only (st : AState) (L : List Nat) : AState := ⟨fun i => cond (L.any fun j => Nat.beq i j) (st.fr i) .top, st.hp, st.sv⟩

theorem Rel.only (hR : Rel X nt env st a w) (L : List Nat) : Rel X nt env (st.only L) a w := by
  refine ⟨fun i => ?_, hR.hp, hR.inj, hR.lt, hR.xlt, hR.sz, hR.df, hR.sv⟩
  simp only [AState.only]
  cases L.any fun j => Nat.beq i j with
  | true => exact hR.fr i
  | false => simp [RelV]

/-! ### Code -/
def acode (E : En R) (nt base fuel : Nat) (H : Nat → Hint) : Code → Nat → AState → (Exit → AState → Option R) → Option R
  | .skip, _, st, K => K .normal st
  | .region _ ops draw, p, st, K => aregion E nt base ops draw (cond (H p).cut (st.only (H p).live) st) (K .normal)
  | .seq x y, p, st, K => cond (H p).cut
    ((fun st1 : AState => shapeK st1.hp (varKinds st1.fr (H p).vars ++ slotKinds st1.fr (H p).live) (slotKinds st1.sv (List.range E.ns)) fun S => ajoin (fun k : S.D → Option R => acode E nt base fuel H x (2 * p) st1 fun e st' => match e with
      | .normal => match S.of (S.pre st') with
        | some t => k t
        | none => none
      | e => K e st') (fun t => acode E nt base fuel H y (2 * p + 1) (S.st t) K)) (anils base (H p).nils st))
    (acode E nt base fuel H x (2 * p) st fun e st' => match e with
      | .normal => acode E nt base fuel H y (2 * p + 1) st' K
      | e => K e st')
  | .cond c x y, p, st, K => match st.ev c with
    | .bool b => cond b (acode E nt base fuel H x (2 * p) (alit st c true) K) (acode E nt base fuel H y (2 * p + 1) (alit st c false) K)
    | _ => none
  | .block id c, p, st, K => acode E nt base fuel H c (2 * p) st fun e st' => match e with
    | .exit id' => cond (Nat.beq id' id) (K .normal st') (K (.exit id') st')
    | e => K e st'
  | .loop c, p, st, K => (fun st1 : AState => shapeK st1.hp (varKinds st1.fr (H p).vars ++ slotKinds st1.fr (H p).live) (slotKinds st1.sv (List.range E.ns)) fun S => aloop S (acode E nt base fuel H c (2 * p)) fuel st1 K) (anils base (H p).nils st)
  | .exit id, _, st, K => K (.exit id) st
  | .ret, _, st, K => K .ret st
  | .label _, _, st, K => K .normal st
  | .scope c, p, st, K => acode E nt base fuel H c (2 * p) st fun e st' => match e with
    | .goto _ => none
    | e => K e st'
  | _, _, _, _ => none

/-- What code leaves for what comes behind it. -/
def Leaves (X : Nat → Prop) (nt : Nat) (env : Env) (st : AState) (w : World) (K : Exit → AState → Option R) (r : R) (Q : Exit → Act → World → Prop) : Prop :=
  ∀ e st' env' a' w', K e st' = some r → Rel X nt env' st' a' w' → Ext env st.hp w env' st'.hp w' → Q e a' w'

theorem acode_sound {E : En R} {H : Nat → Hint} {fuel : Nat} (hT : TOK P E.T) (hY : YOK P E.Y) (hC : CallOK P E.kp E.call) (hm : P.follows .mixedOrders = true) {r : R} :
    (c : Code) → (p : Nat) → {env : Env} → {st : AState} → {a : Act} → {w : World} → {K : Exit → AState → Option R} → {Q : Exit → Act → World → Prop} →
    acode E nt base fuel H c p st K = some r → Rel X nt env st a w → Leaves X nt env st w K r Q → c.wp P Q a w
  | .skip, p, env, st, a, w, K, Q, h, hR, hQ => wp_skip (hQ _ st env a w h hR (Ext.refl _ _ _))
  | .region id ops draw, p, env, st, a, w, K, Q, h, hR, hQ => by
    simp only [acode] at h
    have hR1 : Rel X nt env (cond (H p).cut (st.only (H p).live) st) a w := by cases (H p).cut with
      | true => exact hR.only _
      | false => exact hR
    have hh : (cond (H p).cut (st.only (H p).live) st).hp = st.hp := by cases (H p).cut <;> rfl
    exact aregion_sound hT hY hC hm hR1 h fun st' env' a' w' q1 q2 q3 => hQ _ st' env' a' w' q1 q2 (by rw [hh] at q3; exact q3)
  | .seq x y, p, env, st, a, w, K, Q, h, hR, hQ => by
    simp only [acode] at h
    cases hcut : (H p).cut with
    | true =>
      rw [hcut] at h
      simp only [cond_true] at h
      obtain ⟨env1, n1, n2⟩ := anils_sound (base := base) (H p).nils hR
      generalize anils base (H p).nils st = st1 at h n1 n2
      obtain ⟨S, hS⟩ := shapeK_eq st1.hp (varKinds st1.fr (H p).vars ++ slotKinds st1.fr (H p).live) (slotKinds st1.sv (List.range E.ns)) (fun S => ajoin (fun k : S.D → Option R => acode E nt base fuel H x (2 * p) st1 fun e st' => match e with
        | .normal => match S.of (S.pre st') with
          | some t => k t
          | none => none
        | e => K e st') (fun t => acode E nt base fuel H y (2 * p + 1) (S.st t) K))
      rw [hS] at h
      clear hS
      unfold ajoin at h
      refine wp_seq (acode_sound hT hY hC hm x (2 * p) h n1 ?_)
      intro e st' env' a' w' q1 q2 q3
      cases e with
      | normal =>
        simp only at q1
        split at q1
        case h_2 => cases q1
        rename_i t ht
        obtain ⟨m1, m2⟩ := q2.frzs ((S.fd.fz (S.fk.map st'.fr)).1 ++ ((S.sd.fz (S.sk.map st'.sv)).1 ++ hfz st'.hp S.hs))
        obtain ⟨s1, s2⟩ := S.sound ht m1
        exact acode_sound hT hY hC hm y (2 * p + 1) q1 s1 fun e2 st2 env2 a2 w2 k1 k2 k3 => hQ e2 st2 env2 a2 w2 k1 k2 (n2.trans (q3.trans ((m2.trans s2).trans k3)))
      | exit id => exact hQ _ st' env' a' w' q1 q2 (n2.trans q3)
      | goto l => exact hQ _ st' env' a' w' q1 q2 (n2.trans q3)
      | ret => exact hQ _ st' env' a' w' q1 q2 (n2.trans q3)
      | panic ch => exact hQ _ st' env' a' w' q1 q2 (n2.trans q3)
      | outgrown => exact hQ _ st' env' a' w' q1 q2 (n2.trans q3)
    | false =>
    rw [hcut] at h
    simp only [cond_false] at h
    refine wp_seq (acode_sound hT hY hC hm x (2 * p) h hR ?_)
    intro e st' env' a' w' q1 q2 q3
    cases e with
    | normal => exact acode_sound hT hY hC hm y (2 * p + 1) q1 q2 fun e2 st2 env2 a2 w2 k1 k2 k3 => hQ e2 st2 env2 a2 w2 k1 k2 (q3.trans k3)
    | exit id => exact hQ _ st' env' a' w' q1 q2 q3
    | goto l => exact hQ _ st' env' a' w' q1 q2 q3
    | ret => exact hQ _ st' env' a' w' q1 q2 q3
    | panic ch => exact hQ _ st' env' a' w' q1 q2 q3
    | outgrown => exact hQ _ st' env' a' w' q1 q2 q3
  | .cond c x y, p, env, st, a, w, K, Q, h, hR, hQ => by
    simp only [acode] at h
    split at h
    case h_2 => cases h
    rename_i b hb
    have hc := hR.ev c
    rw [hb] at hc
    have hc : a.eval c = .bool b := hc
    obtain ⟨l1, l2⟩ := alit_rel hR hc
    cases b with
    | true =>
      refine wp_cond_true hc (acode_sound hT hY hC hm x (2 * p) h l1 fun e2 st2 env2 a2 w2 k1 k2 k3 => hQ e2 st2 env2 a2 w2 k1 k2 ?_)
      rw [l2] at k3; exact k3
    | false =>
      refine wp_cond_false hc (acode_sound hT hY hC hm y (2 * p + 1) h l1 fun e2 st2 env2 a2 w2 k1 k2 k3 => hQ e2 st2 env2 a2 w2 k1 k2 ?_)
      rw [l2] at k3; exact k3
  | .block id c, p, env, st, a, w, K, Q, h, hR, hQ => by
    refine wp_block (acode_sound hT hY hC hm c (2 * p) h hR ?_)
    intro e st' env' a' w' q1 q2 q3
    cases e with
    | exit id' =>
      simp only [Exit.inBlock]
      cases hb : Nat.beq id' id with
      | true =>
        rw [if_pos (beq_iff.1 hb)]
        simp only [hb, cond_true] at q1
        exact hQ _ st' env' a' w' q1 q2 q3
      | false =>
        rw [if_neg (beq_false.1 hb)]
        simp only [hb, cond_false] at q1
        exact hQ _ st' env' a' w' q1 q2 q3
    | normal => exact hQ _ st' env' a' w' q1 q2 q3
    | goto l => exact hQ _ st' env' a' w' q1 q2 q3
    | ret => exact hQ _ st' env' a' w' q1 q2 q3
    | panic ch => exact hQ _ st' env' a' w' q1 q2 q3
    | outgrown => exact hQ _ st' env' a' w' q1 q2 q3
  | .loop c, p, env, st, a, w, K, Q, h, hR, hQ => by
    simp only [acode] at h
    obtain ⟨env1, n1, n2⟩ := anils_sound (base := base) (H p).nils hR
    generalize anils base (H p).nils st = st1 at h n1 n2
    obtain ⟨S, hS⟩ := shapeK_eq st1.hp (varKinds st1.fr (H p).vars ++ slotKinds st1.fr (H p).live) (slotKinds st1.sv (List.range E.ns)) (fun S => aloop S (acode E nt base fuel H c (2 * p)) fuel st1 K)
    rw [hS] at h
    clear hS
    unfold aloop at h
    split at h
    case h_2 => cases h
    rename_i t ht
    obtain ⟨m1, m2⟩ := n1.frzs ((S.fd.fz (S.fk.map st1.fr)).1 ++ ((S.sd.fz (S.sk.map st1.sv)).1 ++ hfz st1.hp S.hs))
    obtain ⟨s1, s2⟩ := S.sound ht m1
    have e1 := n2.trans (m2.trans s2)
    generalize hb : (fun (t : S.D) (next : S.D → Option R) => acode E nt base fuel H c (2 * p) (S.st t) fun e st' => match e with
      | .normal => match S.of (S.pre st') with
        | some t' => next t'
        | none => none
      | e => K e st') = body at h
    refine wp_rounds (fun n a1 w1 => ∃ t env', iter body n t = some r ∧ Rel X nt env' (S.st t) a1 w1 ∧ Ext env st.hp w env' (S.st t).hp w1) ⟨fuel, t, env1, h, s1, e1⟩ ?_
    rintro n a2 w2 ⟨t2, env2, k1, k2, k3⟩
    cases n with
    | zero => cases k1
    | succ n =>
      simp only [iter] at k1
      rw [← hb] at k1
      refine acode_sound hT hY hC hm c (2 * p) k1 k2 ?_
      intro e st' env' a' w' q1 q2 q3
      cases e with
      | normal =>
        simp only at q1
        split at q1
        case h_2 => cases q1
        rename_i t' ht'
        obtain ⟨m3, m4⟩ := q2.frzs ((S.fd.fz (S.fk.map st'.fr)).1 ++ ((S.sd.fz (S.sk.map st'.sv)).1 ++ hfz st'.hp S.hs))
        obtain ⟨z1, z2⟩ := S.sound ht' m3
        rw [hb] at q1
        exact ⟨n, Nat.lt_succ_self _, t', env', q1, z1, k3.trans (q3.trans (m4.trans z2))⟩
      | exit id => exact hQ _ st' env' a' w' q1 q2 (k3.trans q3)
      | goto l => exact hQ _ st' env' a' w' q1 q2 (k3.trans q3)
      | ret => exact hQ _ st' env' a' w' q1 q2 (k3.trans q3)
      | panic ch => exact hQ _ st' env' a' w' q1 q2 (k3.trans q3)
      | outgrown => exact hQ _ st' env' a' w' q1 q2 (k3.trans q3)
  | .exit id, p, env, st, a, w, K, Q, h, hR, hQ => wp_exit (hQ _ st env a w h hR (Ext.refl _ _ _))
  | .ret, p, env, st, a, w, K, Q, h, hR, hQ => wp_ret (hQ _ st env a w h hR (Ext.refl _ _ _))
  | .rangeFunc _ _ _ _, p, env, st, a, w, K, Q, h, hR, hQ => by cases h
  | .scope c, p, env, st, a, w, K, Q, h, hR, hQ => by
    simp only [acode] at h
    refine wp_scope_straight (acode_sound hT hY hC hm c (2 * p) h hR ?_)
    intro e st' env' a' w' q1 q2 q3
    cases e with
    | goto l => cases q1
    | normal => exact hQ _ st' env' a' w' q1 q2 q3
    | exit id => exact hQ _ st' env' a' w' q1 q2 q3
    | ret => exact hQ _ st' env' a' w' q1 q2 q3
    | panic ch => exact hQ _ st' env' a' w' q1 q2 q3
    | outgrown => exact hQ _ st' env' a' w' q1 q2 q3
  | .label _, p, env, st, a, w, K, Q, h, hR, hQ => wp_label (hQ _ st env a w h hR (Ext.refl _ _ _))
  | .goto _, p, env, st, a, w, K, Q, h, hR, hQ => by cases h
  | .refuse _, p, env, st, a, w, K, Q, h, hR, hQ => by cases h
end
end Go.Proofs.YtpgmkoaklpkecaaDoor.Eng

/- One operation, guarded; statements in order; statements that draw their order. -/
import Derived.Test.YtpgmkoaklpkecaaDoorEng11
set_option linter.unusedVariables false
set_option linter.unusedSimpArgs false
namespace Go.Proofs.YtpgmkoaklpkecaaDoor.Eng

/-- How a call of a Go function goes: the caller's slots, those saved, base of its objects' numbers, function, arguments. -/
abbrev CallF (R : Type) := Nat → Nat → Nat → FuncId → List AV → AState → (AV → AState → Option R) → Option R

def Goes (P : Program) (f : FuncId) (vs : Array Value) (w : World) (N : Value → World → Prop) : Prop :=
  (∃ v w', (callFunc f vs).run P w = .ok (.value v) w' ∧ N v w') ∨
  ((callFunc f vs).run P w = .ok (.enter f vs) w ∧ Calls P f vs w fun | .returned v, w' => N v w' | _, _ => False)

def CallOK {R : Type} (P : Program) (kp : FuncId → Bool) (call : CallF R) : Prop :=
  ∀ (X : Nat → Prop) (nt : Nat) (env : Env) (st : AState) (a : Act) (w : World) (ns b : Nat) (f : FuncId) (args : List AV) (vs : Array Value) (K : AV → AState → Option R) (r : R) (N : Value → World → Prop),
    call nt ns b f args st K = some r → Rel X nt env st a w → RelL (okT X st.hp env) env w args vs.toList →
    (∀ av v st' env' w', K av st' = some r → Rel X nt env' st' a w' → RelV (okT X st'.hp env') env' w' av v → Ext env st.hp w env' st'.hp w' → (kp f = true → RKeep env st.hp w env' st'.hp w') → N v w') →
    Goes P f vs w N

structure En (R : Type) where
  T : TypeId → Option TS
  Y : TypeId → Option Ty
  call : CallF R
  kp : FuncId → Bool
  ns : Nat

def acallee (st : AState) : Op → Option (FuncId × List AV)
  | .call c => match c.callee with
    | .value f => match st.ev f with
      | .fn (.func id) a b => some (id, a ++ c.args.toList.map st.ev ++ b)
      | _ => none
    | _ => none
  | _ => none

def sput (st : AState) (d : Option Nat) (v : AV) : AState := match d with
  | some d => st.put d v
  | none => st
def dOK (nt : Nat) : Option Nat → Bool
  | some d => Nat.blt d nt
  | none => true
def dn : Option Nat → Nat
  | some d => d
  | none => 4094

def aop {R : Type} (E : En R) (nt base : Nat) (o : Oper) (st : AState) (K : AState → Option R) : Option R :=
  cond (dOK nt o.dst) (match acallee st o.op with
    | some (f, args) => E.call nt E.ns ((base + dn o.dst + 1) * 4096) f args st (fun v st' => K (sput st' o.dst v))
    | none => match o.op with
      | .store t p x => astore E.T t (st.ev p) x st (fun st' => K (sput st' o.dst (.tup [])))
      | op => match o.dst with
        | some d => aeff E.T E.Y base d op st K
        | none => aval E.T st op (fun _ => K st)) none

/-- May cells of one's own be written? -/
def dirtyOp (kp : FuncId → Bool) : Op → Bool
  | .store _ _ _ => true
  | .call c => match c.callee with
    | .value (.func f) => !kp f
    | .value _ => true
    | _ => false
  | _ => false

section
variable {X : Nat → Prop} {nt base : Nat} {env : Env} {st : AState} {a : Act} {w w' : World} {P : Program} {R : Type} {E : En R} {N : Act → World → Prop} {ops : Array Oper}

/-- What a step leaves for what comes behind it. -/
def Next (X : Nat → Prop) (nt : Nat) (env : Env) (st : AState) (w : World) (rk : Prop) (K : AState → Option R) (r : R) (N : Act → World → Prop) : Prop :=
  ∀ st' env' a' w', K st' = some r → Rel X nt env' st' a' w' → Ext env st.hp w env' st'.hp w' → (rk → RKeep env st.hp w env' st'.hp w') → N a' w'

theorem Rel.sput (h : Rel X nt env st a w) {d : Option Nat} (hd : dOK nt d = true) {r : AV} {v : Value} (hr : RelV (okT X st.hp env) env w r v) : Rel X nt env (sput st d r) (a.put d v) w := by
  cases d with
  | none => exact h
  | some d => exact h.put (blt_iff.1 hd) hr

theorem sput_hp (d : Option Nat) (v : AV) : (sput st d v).hp = st.hp := by cases d <;> rfl

theorem rel_undef (F : Option Nat → Nat → Prop) : RelV F env w (.tup []) undef := ⟨#[], rfl, rfl⟩

theorem aop_sound (hT : TOK P E.T) (hY : YOK P E.Y) (hC : CallOK P E.kp E.call) (hR : Rel X nt env st a w) {o : Oper} {K : AState → Option R} {r : R} (h : aop E nt base o st K = some r)
    (hN : Next X nt env st w (dirtyOp E.kp o.op = false) K r N) : o.wp P a w N NoQ := by
  unfold aop at h
  obtain ⟨hd, h⟩ := cond_some h
  split at h
  · rename_i f args hc
    unfold acallee at hc
    split at hc
    case h_2 => cases hc
    rename_i c hop
    split at hc
    case h_2 => cases hc
    rename_i fo hcal
    split at hc
    case h_2 => cases hc
    rename_i id x y hfo
    injection hc with hc
    injection hc with hc1 hc2
    subst hc1 hc2
    have hf := hR.ev fo
    rw [hfo] at hf
    obtain ⟨u1, u2, hv, hu1, hu2⟩ := hf
    have hargs : RelL (okT X st.hp env) env w (x ++ c.args.toList.map st.ev ++ y) (u1 ++ c.args.map a.eval ++ u2).toList := by
      rw [Array.toList_append, Array.toList_append, Array.toList_map]
      exact RelL.append _ _ _ _ (RelL.append _ _ _ _ hu1 (RelL.map hR.ev _)) hu2
    have hex : execOp a.eval o = callFunc id (u1 ++ c.args.map a.eval ++ u2) := by
      simp [execOp, hop, resolve, hcal, hv, Deferred.ofValue, invoke]
    have g := hC X nt env st a w _ _ id _ _ _ r (fun v w' => N (a.put o.dst v) w') h hR hargs (fun av v st' env' w' hk hR' hv' hE hK => by
      refine hN _ env' _ w' hk (hR'.sput hd hv') (by rw [sput_hp]; exact hE) (fun hdirty => ?_)
      rw [sput_hp]
      refine hK ?_
      have : fo = .func id ∨ dirtyOp E.kp o.op = true := by
        cases fo with
        | func g =>
          have : st.ev (.func g) = .fn (.func g) [] [] := rfl
          rw [this] at hfo
          injection hfo with h1 _ _
          injection h1 with h1
          exact .inl (by rw [h1])
        | tmp t => right; simp [dirtyOp, hop, hcal]
        | const t => right; simp [dirtyOp, hop, hcal]
        | global t => right; simp [dirtyOp, hop, hcal]
      rcases this with rfl | this
      · simp [dirtyOp, hop, hcal] at hdirty; exact hdirty
      · rw [this] at hdirty; cases hdirty)
    unfold Oper.wp
    rw [hex]
    rcases g with ⟨v, w', g1, g2⟩ | ⟨g1, g2⟩
    · rw [g1]; exact g2
    · rw [g1]
      refine Calls.mono g2 fun e w'' he => ?_
      cases e with
      | returned v => exact he
      | panicked c => exact he.elim
      | outgrown => exact he.elim
  · split at h
    · rename_i t p x hop
      obtain ⟨w', s1, st', env', s2, s3, s4⟩ := astore_sound hT hR (fun _ _ => trivial) ⟨p, rfl, rfl⟩ h
      have hex : (execOp a.eval o).run P w = .ok .skip w' := by
        simp only [execOp, hop, Sem.run_bind, s1, Result.andThen_ok, Sem.run_pure]
      unfold Oper.wp
      rw [hex]
      exact hN _ env' _ w' s2 (s3.sput hd (rel_undef _)) (by rw [sput_hp]; exact s4) (fun hdirty => by rw [hop] at hdirty; cases hdirty)
    · rename_i op hns
      split at h
      · rename_i d hdst
        rw [hdst] at hd
        obtain ⟨v, w', s1, st', env', s2, s3, s4, s5⟩ := aeff_sound hT hY hR (blt_iff.1 hd) h
        unfold Oper.wp
        rw [s1]
        show N (a.put o.dst v) w'
        rw [hdst]
        exact hN st' env' _ w' s2 s3 s4 fun _ => s5
      · rename_i hdst
        obtain ⟨av, z, s1, s2, s3⟩ := aval_sound hT hR h
        unfold Oper.wp
        rw [s2 w (opSame_refl _ _ _)]
        show N (a.put o.dst z) w
        rw [hdst]
        exact hN st env a w s1 hR (Ext.refl _ _ _) fun _ => RKeep.refl _ _ _

/-! ### Guards -/
def aguard (ops : Array Oper) (g : Option (Nat × Bool)) (st : AState) (yes no : AState → Option R) : Option R :=
  match g with
  | none => yes st
  | some (j, want) => match (ops[j]?).bind (·.dst) with
    | none => no st
    | some d => match st.fr d with
      | .bool b => cond b (cond want (yes (st.put d (.bool true))) (no (st.put d (.bool true)))) (cond want (no (st.put d (.bool false))) (yes (st.put d (.bool false))))
      | .tup [] => no st
      | _ => none

theorem Rel.lit (h : Rel X nt env st a w) {d : Nat} {b : Bool} (hd : RelV (okT X st.hp env) env w (.bool b) (a.tmps.getD d undef)) : Rel X nt env (st.put d (.bool b)) a w := by
  refine ⟨fun i => ?_, h.hp, h.inj, h.lt, h.xlt, h.sz, h.df, h.sv⟩
  simp only [AState.put]
  by_cases e : i = d
  · subst e
    rw [beq_iff.2 rfl]; exact hd
  · rw [beq_false.2 e]; exact h.fr i

theorem aguard_sound (hR : Rel X nt env st a w) {o : Oper} {yes no : AState → Option R} {r : R} (h : aguard ops o.guard st yes no = some r) :
    ∃ st1, st1.hp = st.hp ∧ Rel X nt env st1 a w ∧ ((Region.wanted o (yielded ops a.tmps) = true ∧ yes st1 = some r) ∨ (Region.wanted o (yielded ops a.tmps) = false ∧ no st1 = some r)) := by
  unfold aguard at h
  unfold Region.wanted
  split at h
  · rename_i hg
    exact ⟨st, rfl, hR, .inl ⟨by rw [hg], h⟩⟩
  · rename_i j want hg
    rw [hg]
    split at h
    · rename_i hd
      exact ⟨st, rfl, hR, .inr ⟨by simp [yielded, hd], h⟩⟩
    · rename_i d hd
      have hf := hR.fr d
      split at h
      · rename_i b hb
        rw [hb] at hf
        have hv : a.tmps.getD d undef = .bool b := hf
        have hy : yielded ops a.tmps j = some b := by
          unfold yielded
          rw [hd]
          simp only [Option.bind_some]
          rw [Array.getD_eq_getD_getElem?] at hv
          cases hq : a.tmps[d]? with
          | none => rw [hq] at hv; cases hv
          | some u => rw [hq] at hv; simp only [Option.getD_some] at hv; subst hv; rfl
        have hl := hR.lit hf
        cases b with
        | true =>
          cases want with
          | true => exact ⟨st.put d (.bool true), rfl, hl, .inl ⟨by simp [hy], h⟩⟩
          | false => exact ⟨st.put d (.bool true), rfl, hl, .inr ⟨by simp [hy], h⟩⟩
        | false =>
          cases want with
          | true => exact ⟨st.put d (.bool false), rfl, hl, .inr ⟨by simp [hy], h⟩⟩
          | false => exact ⟨st.put d (.bool false), rfl, hl, .inl ⟨by simp [hy], h⟩⟩
      · rename_i hb
        rw [hb] at hf
        obtain ⟨vs, hv, _⟩ := hf
        have hy : yielded ops a.tmps j = none := by
          unfold yielded
          rw [hd]
          simp only [Option.bind_some]
          rw [Array.getD_eq_getD_getElem?] at hv
          cases hq : a.tmps[d]? with
          | none => rfl
          | some u => rw [hq] at hv; simp only [Option.getD_some] at hv; subst hv; rfl
        exact ⟨st, rfl, hR, .inr ⟨by simp [hy], h⟩⟩
      · cases h

def astep (E : En R) (nt base : Nat) (ops : Array Oper) (o : Oper) (st : AState) (K : AState → Option R) : Option R :=
  aguard ops o.guard st (fun st => aop E nt base o st K) (fun st => cond (dOK nt o.dst) (K (sput st o.dst (.tup []))) none)

theorem astep_sound (hT : TOK P E.T) (hY : YOK P E.Y) (hC : CallOK P E.kp E.call) (hR : Rel X nt env st a w) {i : Nat} {o : Oper} (hi : ops[i]? = some o) {K : AState → Option R} {r : R} (h : astep E nt base ops o st K = some r)
    (hN : Next X nt env st w (dirtyOp E.kp o.op = false) K r N) : wpOp P ops NoQ i N a w := by
  unfold astep at h
  obtain ⟨st1, e1, hR1, h1⟩ := aguard_sound hR h
  unfold wpOp
  simp only [hi]
  rcases h1 with ⟨hw, h1⟩ | ⟨hw, h1⟩
  · rw [if_pos hw]
    refine .inl (aop_sound hT hY hC hR1 h1 ?_)
    intro st' env' a' w' hk hR' hE hK
    rw [e1] at hE hK
    exact hN st' env' a' w' hk hR' hE hK
  · rw [if_neg (by rw [hw]; simp)]
    obtain ⟨hd, h2⟩ := cond_some h1
    exact hN _ env _ w h2 (hR1.sput hd (rel_undef _)) (by rw [sput_hp, e1]; exact Ext.refl _ _ _) (fun _ => by rw [sput_hp, e1]; exact RKeep.refl _ _ _)

/-! ### Statements in order -/
def aseq (E : En R) (nt base : Nat) (ops : Array Oper) : List Nat → AState → (AState → Option R) → Option R
  | [], st, K => K st
  | i :: l, st, K => match ops[i]? with
    | some o => astep E nt base ops o st fun st' => aseq E nt base ops l st' K
    | none => none

/-- The same, with no word on rows. -/
def Then (X : Nat → Prop) (nt : Nat) (env : Env) (st : AState) (w : World) (K : AState → Option R) (r : R) (N : Act → World → Prop) : Prop :=
  ∀ st' env' a' w', K st' = some r → Rel X nt env' st' a' w' → Ext env st.hp w env' st'.hp w' → N a' w'

theorem aseq_sound (hT : TOK P E.T) (hY : YOK P E.Y) (hC : CallOK P E.kp E.call) {Q : Exit → Act → World → Prop} {K : AState → Option R} {r : R} : (l : List Nat) → {env : Env} → {st : AState} → {a : Act} → {w : World} → Rel X nt env st a w →
    aseq E nt base ops l st K = some r → Then X nt env st w K r (Q .normal) → wpOps P ops Q l a w
  | [], env, st, a, w, hR, h, hN => hN st env a w h hR (Ext.refl _ _ _)
  | i :: l, env, st, a, w, hR, h, hN => by
    rw [wpOps_cons]
    simp only [aseq] at h
    split at h
    case h_2 => cases h
    rename_i o ho
    refine wpOp_noQ (astep_sound hT hY hC hR ho h ?_)
    intro st' env' a' w' hk hR' hE _
    exact aseq_sound hT hY hC l hR' hk fun st2 env2 a2 w2 hk2 hR2 hE2 => hN st2 env2 a2 w2 hk2 hR2 (hE.trans hE2)
end
end Go.Proofs.YtpgmkoaklpkecaaDoor.Eng

/- Calls: of a function's own text; by contract. -/
import Derived.Test.YtpgmkoaklpkecaaDoorEng16
set_option linter.unusedVariables false
set_option linter.unusedSimpArgs false
namespace Go.Proofs.YtpgmkoaklpkecaaDoor.Eng

/-! ### Results -/
def ares (T : TypeId → Option TS) (st : AState) : List ResultVar → Option (List AV)
  | [] => some []
  | .tmp t :: l => match ares T st l with
    | some vs => some (st.fr t :: vs)
    | none => none
  | .cell c t :: l => match aLoad T st t (st.fr c) some, ares T st l with
    | some v, some vs => some (v :: vs)
    | _, _ => none

def oneOf : List AV → AV
  | [x] => x
  | l => .tup l
def oneV : List Value → Value
  | [x] => x
  | l => .tuple l.toArray

def push (nt : Nat) (args : List AV) (st : AState) : AState := ⟨fun i => match args[i]? with
  | some v => v
  | none => .tup [], st.hp, fun i => cond (Nat.blt i nt) (st.fr i) (st.sv (i - nt))⟩
def pop (nt : Nat) (st : AState) : AState := ⟨fun i => cond (Nat.blt i nt) (st.sv i) .top, st.hp, fun i => st.sv (i + nt)⟩
def Env.push (nt : Nat) (a : Act) (env : Env) : Env := ⟨env.blk, env.hdr, fun i => if i < nt then a.tmps.getD i undef else env.sv (i - nt)⟩
def born (fn : Func) (vs : Array Value) : Act := { tmps := vs ++ Array.replicate (fn.ntmps - vs.size) undef, defers := [] }

section
variable {F F' : Option Nat → Nat → Prop} {env env2 : Env} {w w' w2 : World} {X : Nat → Prop} {nt nt2 base : Nat} {st st2 : AState} {a a2 : Act} {R : Type} {P : Program} {fn : Func}

theorem oneOf_rel {avs : List AV} {us : List Value} (h : RelL F env w avs us) : RelV F env w (oneOf avs) (oneV us) := by
  match avs, us, h with
  | [], us, h => have := RelL.nil_of h; subst this; exact ⟨#[], rfl, rfl⟩
  | [x], us, h =>
    obtain ⟨u, us', rfl, h1, h2⟩ := h
    have := RelL.nil_of h2; subst this
    exact h1
  | x :: y :: l, us, h =>
    have h0 := h
    obtain ⟨u, us', rfl, h1, h2⟩ := h
    obtain ⟨u2, us2, rfl, h3, h4⟩ := h2
    exact ⟨(u :: u2 :: us2).toArray, rfl, h0⟩

theorem load_as {t : TypeId} {u z : Value} (h : (Instr.loadAt t u).run P w = .ok z w) : ((do loadVar t (← asAddr u)) : Sem Value).run P w = .ok z w := by
  cases u with
  | pointer a =>
    cases a with
    | some a => simpa [Instr.loadAt, Instr.sureAddr, asAddr] using h
    | none => simp [Instr.loadAt, Instr.sureAddr, stuck] at h
  | _ => simp [Instr.loadAt, Instr.sureAddr, stuck] at h

theorem results_list {T : TypeId → Option TS} (hT : TOK P T) (hR : Rel X nt env st a w) {f : ResultVar → Sem Value} (hf : ∀ t, f (.tmp t) = pure (a.tmps.getD t undef)) (hf2 : ∀ c t, f (.cell c t) = (do loadVar t (← asAddr (a.tmps.getD c undef)))) : (l : List ResultVar) → (avs : List AV) → ares T st l = some avs →
    ∃ us, (l.mapM f).run P w = .ok us w ∧ RelL (okT X st.hp env) env w avs us
  | [], avs, h => by
    simp only [ares] at h
    injection h with h; subst h
    exact ⟨[], by simp, rfl⟩
  | .tmp t :: l, avs, h => by
    simp only [ares] at h
    split at h
    case h_2 => cases h
    rename_i vs hvs
    injection h with h; subst h
    obtain ⟨us, h1, h2⟩ := results_list hT hR hf hf2 l vs hvs
    refine ⟨a.tmps.getD t undef :: us, ?_, _, us, rfl, hR.fr t, h2⟩
    rw [List.mapM_cons]
    simp only [hf, Sem.run_bind, Sem.run_pure, Result.andThen_ok, h1]
  | .cell c t :: l, avs, h => by
    simp only [ares] at h
    split at h
    case h_2 => cases h
    rename_i v vs hv hvs
    injection h with h; subst h
    obtain ⟨us, h1, h2⟩ := results_list hT hR hf hf2 l vs hvs
    obtain ⟨av, z, g1, g2, g3⟩ := aLoad_sound hT hR (hR.fr c) hv
    injection g1 with g1; subst g1
    refine ⟨z :: us, ?_, _, us, rfl, g3, h2⟩
    rw [List.mapM_cons]
    simp only [hf2]
    rw [Sem.run_bind, load_as (g2 w fun _ _ => rfl)]
    simp only [Sem.run_bind, Sem.run_pure, Result.andThen_ok, h1]

theorem results_run {T : TypeId → Option TS} (hT : TOK P T) (hR : Rel X nt env st a w) {avs : List AV} (h : ares T st fn.results.toList = some avs) : ∃ us, (results fn a.tmps).run P w = .ok (oneV us) w ∧ RelL (okT X st.hp env) env w avs us := by
  unfold results
  rw [Array.mapM_eq_mapM_toList, map_eq_pure_bind]
  generalize hg : (fun x : ResultVar => (_ : Sem Value)) = f
  have hf : ∀ t, f (.tmp t) = pure (a.tmps.getD t undef) := by subst hg; exact fun _ => rfl
  have hf2 : ∀ c t, f (.cell c t) = (do loadVar t (← asAddr (a.tmps.getD c undef))) := by subst hg; exact fun _ _ => rfl
  obtain ⟨us, h1, h2⟩ := results_list (P := P) hT hR hf hf2 _ _ h
  refine ⟨us, ?_, h2⟩
  simp only [Sem.run_bind, h1, Result.andThen_ok, Sem.run_pure]
  match us with
  | [] => rfl
  | [u] => rfl
  | u :: v :: us => simp [oneV]

theorem Rel.push (hR : Rel X nt env st a w) {args : List AV} {vs : Array Value} (ha : RelL (okT X st.hp env) env w args vs.toList) (hl : args.length ≤ fn.ntmps) : Rel X fn.ntmps (env.push nt a) (push nt args st) (born fn vs) w := by
  have hm : Stays (okT X st.hp env) (okT X st.hp (env.push nt a)) env (env.push nt a) w w := ⟨fun tag k h _ => ⟨h, rfl⟩, fun _ => rfl, fun _ => rfl⟩
  have hlen := RelL.length _ _ ha
  have hlen' : vs.size = args.length := by rw [← hlen, Array.length_toList]
  refine ⟨fun i => ?_, fun j => ?_, hR.inj, hR.lt, hR.xlt, ?_, rfl, fun i => ?_⟩
  · show RelV _ _ _ (match args[i]? with | some v => v | none => .tup []) ((vs ++ Array.replicate (fn.ntmps - vs.size) undef).getD i undef)
    rw [Array.getD_eq_getD_getElem?, Array.getElem?_append]
    split
    · rename_i v hv
      obtain ⟨u, g1, g2⟩ := RelL.get _ _ ha i v hv
      have hlt : i < vs.size := by rw [hlen']; exact (List.getElem?_eq_some_iff.1 hv).1
      rw [if_pos hlt]
      have : vs[i]? = some u := by simpa using g1
      rw [this]
      exact RelV.stay hm _ _ g2
    · rename_i hv
      have hge : ¬ i < vs.size := by rw [hlen']; have := List.getElem?_eq_none_iff.1 hv; omega
      rw [if_neg hge]
      have : (Array.replicate (fn.ntmps - vs.size) undef)[i - vs.size]?.getD undef = undef := by
        rw [Array.getElem?_replicate]; split <;> rfl
      rw [this]
      exact rel_undef _
  · have ho := hR.hp j
    show RelO _ _ _ _ (st.hp j)
    cases hq : st.hp j with
    | dead => trivial
    | cells T cs =>
      rw [hq] at ho
      obtain ⟨b, us, h1, h2, h3⟩ := ho
      exact ⟨b, us, h1, h2, RelL.stay hm cs _ h3⟩
    | row T e xs =>
      rw [hq] at ho
      obtain ⟨h1, ds, h2, h3⟩ := ho
      exact ⟨h1, ds, h2, h3⟩
  · show (vs ++ Array.replicate (fn.ntmps - vs.size) undef).size = fn.ntmps
    rw [Array.size_append, Array.size_replicate]; omega
  · show RelV _ _ _ (cond (Nat.blt i nt) (st.fr i) (st.sv (i - nt))) (if i < nt then a.tmps.getD i undef else env.sv (i - nt))
    by_cases h : i < nt
    · rw [blt_iff.2 h, if_pos h]; exact RelV.stay hm _ _ (hR.fr i)
    · have : Nat.blt i nt = false := by cases hq : Nat.blt i nt with
        | false => rfl
        | true => exact absurd (blt_iff.1 hq) h
      rw [this, if_neg h]; exact RelV.stay hm _ _ (hR.sv _)

theorem Rel.pop (hR : Rel X nt env st a w) (h2 : Rel X nt2 env2 st2 a2 w2) (hE : Ext (env.push nt a) st.hp w env2 st2.hp w2) :
    Rel X nt ⟨env2.blk, env2.hdr, env.sv⟩ (pop nt st2) a w2 ∧ Ext env st.hp w ⟨env2.blk, env2.hdr, env.sv⟩ (pop nt st2).hp w2 := by
  have hm : Stays (okT X st2.hp env2) (okT X st2.hp ⟨env2.blk, env2.hdr, env.sv⟩) env2 ⟨env2.blk, env2.hdr, env.sv⟩ w2 w2 := ⟨fun tag k h _ => ⟨h, rfl⟩, fun _ => rfl, fun _ => rfl⟩
  have hsv : ∀ i, env2.sv i = if i < nt then a.tmps.getD i undef else env.sv (i - nt) := fun i => by rw [hE.sv]; rfl
  refine ⟨⟨fun i => ?_, fun j => ?_, h2.inj, h2.lt, h2.xlt, hR.sz, hR.df, fun i => ?_⟩, ⟨hE.os, hE.tape, hE.output, hE.size, hE.keep, hE.new, rfl⟩⟩
  · show RelV _ _ _ (cond (Nat.blt i nt) (st2.sv i) .top) _
    cases h : Nat.blt i nt with
    | false => simp [RelV]
    | true =>
      have := h2.sv i
      rw [hsv, if_pos (blt_iff.1 h)] at this
      exact RelV.stay hm _ _ this
  · have ho := h2.hp j
    show RelO _ _ _ _ (st2.hp j)
    cases hq : st2.hp j with
    | dead => trivial
    | cells T cs =>
      rw [hq] at ho
      obtain ⟨b, us, h1, h3, h4⟩ := ho
      exact ⟨b, us, h1, h3, RelL.stay hm cs _ h4⟩
    | row T e xs =>
      rw [hq] at ho
      obtain ⟨h1, ds, h3, h4⟩ := ho
      exact ⟨h1, ds, h3, h4⟩
  · have := h2.sv (i + nt)
    rw [hsv, if_neg (by omega), Nat.add_sub_cancel] at this
    exact RelV.stay hm _ _ this

/-! ### Calls -/
abbrev ConF (R : Type) := Nat → Nat → Nat → List AV → AState → (AV → AState → Option R) → Option R

def ConOK (P : Program) (f : FuncId) (g : ConF R) : Prop :=
  ∀ (X : Nat → Prop) (nt : Nat) (env : Env) (st : AState) (a : Act) (w : World) (ns b : Nat) (args : List AV) (vs : Array Value) (K : AV → AState → Option R) (r : R) (N : Value → World → Prop),
    g nt ns b args st K = some r → Rel X nt env st a w → RelL (okT X st.hp env) env w args vs.toList →
    (∀ av v st' env' w', K av st' = some r → Rel X nt env' st' a w' → RelV (okT X st'.hp env') env' w' av v → Ext env st.hp w env' st'.hp w' → RKeep env st.hp w env' st'.hp w' → N v w') → Goes P f vs w N

def FOK (P : Program) (FT : FuncId → Option Func) : Prop := ∀ f fn, FT f = some fn → P.funcs[f]? = some fn ∧ (fn.name == "runtime.NumGoroutine") = false

def afin (T : TypeId → Option TS) (fn : Func) (st : AState → AState) (K : List AV → AState → Option R) (e : Exit) (st' : AState) : Option R := match e with
  | .normal => match ares T st' fn.results.toList with
    | some avs => K avs (st st')
    | none => none
  | .ret => match ares T st' fn.results.toList with
    | some avs => K avs (st st')
    | none => none
  | _ => none

def resKinds : List (Nat × Option Kd) → List (Nat × Kd)
  | [] => []
  | (i, some k) :: l => (i, k) :: resKinds l
  | (i, none) :: l => (i, .top) :: resKinds l

def acall (T : TypeId → Option TS) (Y : TypeId → Option Ty) (FT : FuncId → Option Func) (HT : FuncId → Nat → Hint) (fuel : Nat) (CT : FuncId → Option (ConF R)) : Nat → CallF R
  | 0 => fun _ _ _ _ _ _ _ => none
  | n + 1 => fun nt ns b f args st K => match CT f with
    | some g => g nt ns b args st K
    | none => match FT f with
      | some fn => match fn.body with
        | some c => cond (Nat.ble args.length fn.ntmps) (cond (HT f 0).cut
          (shapeK st.hp ((List.range (HT f 0).vars.length).zip ((resKinds (HT f 0).vars).map (·.2))) (slotKinds (push nt [] st).sv (List.range (nt + ns))) fun S => ajoin (fun k : S.D → Option R => acode ⟨T, Y, acall T Y FT HT fuel CT n, fun f => (CT f).isSome, ns + nt⟩ fn.ntmps b fuel (HT f) c 1 (push nt args st) (afin T fn (pop nt) fun avs st' =>
            cond (Nat.beq avs.length (HT f 0).vars.length) (match S.of (S.pre (push nt avs st')) with
              | some t => k t
              | none => none) none))
            (fun t => K (oneOf ((List.range (HT f 0).vars.length).map (S.st t).fr)) (pop nt (S.st t))))
          (acode ⟨T, Y, acall T Y FT HT fuel CT n, fun f => (CT f).isSome, ns + nt⟩ fn.ntmps b fuel (HT f) c 1 (push nt args st) (afin T fn (pop nt) fun avs st' => K (oneOf avs) st'))) none
        | none => none
      | none => none

theorem run_enter {f : FuncId} {c : Code} (hf : P.funcs[f]? = some fn) (hn : (fn.name == "runtime.NumGoroutine") = false) (hb : fn.body = some c) (vs : Array Value) (w : World) : (callFunc f vs).run P w = .ok (.enter f vs) w := by
  have h1 : fn.name ≠ "runtime.NumGoroutine" := by simpa using hn
  simp [callFunc, hf, h1, hb]

/-- A function's body, from a pushed frame. -/
theorem body_sound {E : En R} {H : Nat → Hint} {fuel b : Nat} (hT : TOK P E.T) (hY : YOK P E.Y) (hC : CallOK P E.kp E.call) (hm : P.follows .mixedOrders = true) {f : FuncId} {c : Code} {args : List AV} {vs : Array Value} {K : List AV → AState → Option R} {r : R} {N : List Value → World → Prop}
    (hf : P.funcs[f]? = some fn) (hb : fn.body = some c) (hl : args.length ≤ fn.ntmps) (h : acode E fn.ntmps b fuel H c 1 (push nt args st) (afin E.T fn (pop nt) K) = some r) (hR : Rel X nt env st a w) (ha : RelL (okT X st.hp env) env w args vs.toList)
    (hN : ∀ avs us st' env' w', K avs st' = some r → Rel X nt env' st' a w' → RelL (okT X st'.hp env') env' w' avs us → Ext env st.hp w env' st'.hp w' → N us w') :
    Calls P f vs w fun | .returned v, w' => ∃ us, v = oneV us ∧ N us w' | _, _ => False := by
  refine calls_of_wp hf hb (acode_sound hT hY hC hm c 1 h (hR.push ha hl) ?_)
  intro e st' env' a' w' q1 q2 q3
  have fin : ∀ avs, ares E.T st' fn.results.toList = some avs → K avs (pop nt st') = some r → a'.defers = [] ∧ ∃ v, (results fn a'.tmps).run P w' = .ok v w' ∧ ∃ us, v = oneV us ∧ N us w' := by
    intro avs h1 h2
    obtain ⟨us, g1, g2⟩ := results_run (P := P) hT q2 h1
    obtain ⟨p1, p2⟩ := hR.pop q2 q3
    refine ⟨q2.df, _, g1, us, rfl, hN _ _ _ _ _ h2 p1 ?_ p2⟩
    exact RelL.stay (F := okT X st'.hp env') (F' := okT X (pop nt st').hp ⟨env'.blk, env'.hdr, env.sv⟩) (env := env') (env' := ⟨env'.blk, env'.hdr, env.sv⟩) ⟨fun tag k h _ => ⟨h, rfl⟩, fun _ => rfl, fun _ => rfl⟩ _ _ g2
  unfold afin at q1
  cases e with
  | normal =>
    simp only at q1
    split at q1
    · rename_i avs h1; exact fin avs h1 q1
    · cases q1
  | ret =>
    simp only at q1
    split at q1
    · rename_i avs h1; exact fin avs h1 q1
    · cases q1
  | exit id => cases q1
  | goto l => cases q1
  | panic ch => cases q1
  | outgrown => cases q1

def lenFn' (n : Nat) : Func := { (default : Func) with ntmps := n }

theorem range_rel {g : Nat → AV} {f : Nat → Value} (m : Nat) (h : ∀ i, RelV F env w (g i) (f i)) : RelL F env w ((List.range m).map g) ((List.range m).map f) := by
  generalize List.range m = l
  induction l with
  | nil => rfl
  | cons i l ih => exact ⟨f i, l.map f, rfl, h i, ih⟩

theorem acall_sound {T : TypeId → Option TS} {Y : TypeId → Option Ty} {FT : FuncId → Option Func} {HT : FuncId → Nat → Hint} {fuel : Nat} {CT : FuncId → Option (ConF R)} (hT : TOK P T) (hY : YOK P Y) (hF : FOK P FT) (hCT : ∀ f g, CT f = some g → ConOK P f g) (hm : P.follows .mixedOrders = true) :
    (n : Nat) → CallOK P (fun f => (CT f).isSome) (acall T Y FT HT fuel CT n)
  | 0 => fun X nt env st a w ns b f args vs K r N h _ _ _ => by cases h
  | n + 1 => fun X nt env st a w ns b f args vs K r N h hR ha hN => by
    simp only [acall] at h
    split at h
    · rename_i g hg
      exact hCT f g hg X nt env st a w ns b args vs K r N h hR ha fun av v st' env' w' q1 q2 q3 q4 q5 => hN av v st' env' w' q1 q2 q3 q4 fun _ => q5
    · rename_i hg
      split at h
      case h_2 => cases h
      rename_i fn hfn
      split at h
      case h_2 => cases h
      rename_i c hc
      obtain ⟨hl, h2⟩ := cond_some h
      obtain ⟨f1, f2⟩ := hF f fn hfn
      refine .inr ⟨run_enter f1 f2 hc vs w, ?_⟩
      refine Calls.mono (R := fun | .returned v, w' => ∃ us, v = oneV us ∧ N (oneV us) w' | _, _ => False) ?_ (fun e w' he => by
        cases e with
        | returned v => obtain ⟨us, h1, h2⟩ := he; rw [h1]; exact h2
        | panicked c => exact he
        | outgrown => exact he)
      have hbody : ∀ {K' : List AV → AState → Option R}, acode ⟨T, Y, acall T Y FT HT fuel CT n, fun f => (CT f).isSome, ns + nt⟩ fn.ntmps b fuel (HT f) c 1 (push nt args st) (afin T fn (pop nt) K') = some r →
          (∀ avs us st' env' w', K' avs st' = some r → Rel X nt env' st' a w' → RelL (okT X st'.hp env') env' w' avs us → Ext env st.hp w env' st'.hp w' → N (oneV us) w') →
          Calls P f vs w fun | .returned v, w' => ∃ us, v = oneV us ∧ N (oneV us) w' | _, _ => False := fun h hN =>
        body_sound (N := fun us w' => N (oneV us) w') (E := ⟨T, Y, acall T Y FT HT fuel CT n, fun f => (CT f).isSome, ns + nt⟩) hT hY (acall_sound hT hY hF hCT hm n) hm f1 hc (ble_iff.1 hl) h hR ha hN
      have hkp : ∀ {env' : Env} {st' : AState} {w' : World}, ((CT f).isSome = true → RKeep env st.hp w env' st'.hp w') := fun hs => by rw [hg] at hs; cases hs
      cases hcut : (HT f 0).cut with
      | false =>
        rw [hcut] at h2
        exact hbody h2 fun avs us st' env' w' q1 q2 q3 q4 => hN (oneOf avs) (oneV us) st' env' w' q1 q2 (oneOf_rel q3) q4 hkp
      | true =>
        rw [hcut] at h2
        simp only [cond_true] at h2
        obtain ⟨S, hS⟩ := shapeK_eq st.hp ((List.range (HT f 0).vars.length).zip ((resKinds (HT f 0).vars).map (·.2))) (slotKinds (push nt [] st).sv (List.range (nt + ns))) (fun S => ajoin (fun k : S.D → Option R => acode ⟨T, Y, acall T Y FT HT fuel CT n, fun f => (CT f).isSome, ns + nt⟩ fn.ntmps b fuel (HT f) c 1 (push nt args st) (afin T fn (pop nt) fun avs st' =>
            cond (Nat.beq avs.length (HT f 0).vars.length) (match S.of (S.pre (push nt avs st')) with
              | some t => k t
              | none => none) none))
            (fun t => K (oneOf ((List.range (HT f 0).vars.length).map (S.st t).fr)) (pop nt (S.st t))))
        rw [hS] at h2
        clear hS
        unfold ajoin at h2
        refine hbody h2 fun avs us st' env' w' q1 q2 q3 q4 => ?_
        obtain ⟨g1, g2⟩ := cond_some q1
        clear q1
        have hm' := beq_iff.1 g1
        split at g2
        case h_2 => cases g2
        rename_i t ht
        have hus := RelL.length _ _ q3
        have hp := q2.push (fn := lenFn' avs.length) (vs := us.toArray) (by simpa using q3) (Nat.le_refl _)
        obtain ⟨m1, m2⟩ := hp.frzs ((S.fd.fz (S.fk.map (push nt avs st').fr)).1 ++ ((S.sd.fz (S.sk.map (push nt avs st').sv)).1 ++ hfz (push nt avs st').hp S.hs))
        obtain ⟨s1, s2⟩ := S.sound ht m1
        obtain ⟨p1, p2⟩ := q2.pop s1 (m2.trans s2)
        refine hN _ (oneV us) _ _ w' g2 p1 ?_ (q4.trans p2) hkp
        refine oneOf_rel ?_
        have hst : Stays (okT X (S.st t).hp (env'.push nt a)) (okT X (pop nt (S.st t)).hp ⟨(env'.push nt a).blk, (env'.push nt a).hdr, env'.sv⟩) (env'.push nt a) ⟨(env'.push nt a).blk, (env'.push nt a).hdr, env'.sv⟩ w' w' := ⟨fun tag k h _ => ⟨h, rfl⟩, fun _ => rfl, fun _ => rfl⟩
        have hmap : us = (List.range (HT f 0).vars.length).map fun i => (born (lenFn' avs.length) us.toArray).tmps.getD i undef := by
          refine List.ext_getElem (by rw [List.length_map, List.length_range]; omega) fun i h1 h2 => ?_
          simp only [List.getElem_map, List.getElem_range, born]
          rw [Array.getD_eq_getD_getElem?, Array.getElem?_append, if_pos (by simpa using h1)]
          simp [h1]
        rw [hmap]
        exact range_rel _ fun i => RelV.stay hst _ _ (s1.fr i)
end
end Go.Proofs.YtpgmkoaklpkecaaDoor.Eng

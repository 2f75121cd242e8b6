/- The operations that turn nothing, by one function. -/
import Derived.Test.YtpgmkoaklpkecaaDoorEng6
set_option linter.unusedVariables false
set_option linter.unusedSimpArgs false
namespace Go.Proofs.YtpgmkoaklpkecaaDoor.Eng

section
variable {X : Nat → Prop} {nt : Nat} {env : Env} {st : AState} {a : Act} {w : World} {P : Program} {T : TypeId → Option TS} {R : Type} {F : Option Nat → Nat → Prop}

def amax (x y : AV) (K : AV → Option R) : Option R :=
  match x, y with
  | .int k a, .int k' b => cond (decide (k = k')) (K (.int k (max a b))) none
  | _, _ => none
def amin (x y : AV) (K : AV → Option R) : Option R :=
  match x, y with
  | .int k a, .int k' b => cond (decide (k = k')) (K (.int k (min a b))) none
  | _, _ => none

def ptrLike : AV → Bool
  | .ptr _ _ | .ep _ _ _ _ _ | .op _ _ _ _ | .fn (.func _) _ _ => true
  | _ => false

def isIface (T : TypeId → Option TS) (t : TypeId) : Bool := match T t with | some ⟨.iface, _, _, _⟩ => true | some ⟨.other, _, _, _⟩ => true | none => true | _ => false

def aval (T : TypeId → Option TS) (st : AState) (op : Op) (K : AV → Option R) : Option R :=
  match op with
  | .move x => K (st.ev x)
  | .assign x => K (st.ev x)
  | .pick c x y => match st.ev c with
    | .bool c => cond c (K (st.ev x)) (K (st.ev y))
    | _ => none
  | .binOp op t x y _ => abin T op t (st.ev x) (st.ev y) K
  | .unOp op _ x => aun op (st.ev x) K
  | .convert s d x => aconv T st s d (st.ev x) K
  | .extract x i => match st.ev x with
    | .tup vs => match vs[i]? with
      | some v => K v
      | none => none
    | _ => none
  | .fieldAddr s x f => aField T s f (st.ev x) K
  | .field t x f => match T t with
    | some ⟨.st fs, _, _, _⟩ => match fs[f]? with
      | some (off, ft) => match T ft with
        | some ts => match st.ev x with
          | .agg cs => cond (notOther ts.k) (apart ts cs off K) none
          | _ => none
        | none => none
      | none => none
    | _ => none
  | .indexAddr t x i => aIndexAddr T st t (st.ev x) (st.ev i) K
  | .index t x i => aIndex T t (st.ev x) (st.ev i) K
  | .load t x => aLoad T st t (st.ev x) K
  | .slice t x lo hi mx => match obound (lo.map st.ev), obound (hi.map st.ev), obound (mx.map st.ev) with
    | some l, some h, some m => asl T st t (st.ev x) l h m K
    | _, _, _ => none
  | .build t parts => aBuild T t (parts.toList.map fun p => (p.1, st.ev p.2)) K
  | .makeFunc fn first cap => K (.fn fn (first.toList.map st.ev) (cap.toList.map st.ev))
  | .makeInterface t x => cond (isIface T t) none (K (.iface t (st.ev x)))
  | .nilCheck x => cond (ptrLike (st.ev x)) (K (st.ev x)) none
  | .call c => match c.callee, c.args.toList, c.argTypes.toList with
    | .builtin .len, [x], [t] => match T t with
      | some ⟨.sl _, _, _, _⟩ => match alen st (st.ev x) with
        | some n => K (.int .i64 (n : Int))
        | none => none
      | some ⟨.str, _, _, _⟩ => match st.ev x with
        | .str xs => K (.int .i64 (xs.length : Int))
        | _ => none
      | some ⟨.arr n _, _, _, _⟩ => cond (decide (n ≤ maxLen)) (K (.int .i64 (n : Int))) none
      | _ => none
    | .builtin .max, [x, y], _ => amax (st.ev x) (st.ev y) K
    | .builtin .min, [x, y], _ => amin (st.ev x) (st.ev y) K
    | _, _, _ => none
  | _ => none

theorem run_eqGuard {op : BinOp} {t : TypeId} {x y : Operand} {u v : Value} (h : ¬ (u = .nilIface ∧ v = .nilIface)) (h2 : ∀ cs, u ≠ .agg cs) : (eqGuard op t x y u v).run P w = .ok () w := by
  unfold eqGuard
  cases op <;> simp <;> split <;> simp_all

theorem RelL.map {ρ : Operand → Value} {f : Operand → AV} (hf : ∀ x, RelV F env w (f x) (ρ x)) : (l : List Operand) → RelL F env w (l.map f) (l.map ρ)
  | [] => by simp [RelL]
  | x :: l => ⟨ρ x, l.map ρ, rfl, hf x, RelL.map hf l⟩

theorem abin_shape {op : BinOp} {t : TypeId} {x y : AV} {u : Value} {K : AV → Option R} {r : R} (h : abin T op t x y K = some r) (hx : RelV F env w x u) : u ≠ .nilIface ∧ ∀ cs, u ≠ .agg cs := by
  have : (∃ k n, x = .int k n) ∨ (∃ b, x = .bool b) ∨ (∃ s, x = .str s) ∨ x = .nilp ∨ (∃ i o, x = .ptr i o) ∨ (∃ e xs i o tag, x = .ep e xs i o tag) ∨ x = .nil ∨ (∃ e xs tag ex, x = .sl e xs tag ex) := by
    unfold abin at h
    split at h <;> simp_all
  rcases this with ⟨k, n, rfl⟩ | ⟨b, rfl⟩ | ⟨s, rfl⟩ | rfl | ⟨i, o, rfl⟩ | ⟨e, xs, i, o, tag, rfl⟩ | rfl | ⟨e, xs, tag, ex, rfl⟩ <;> simp only [RelV] at hx
  · obtain ⟨rfl, _⟩ := hx; simp
  · subst hx; simp
  · obtain ⟨s, rfl, _⟩ := hx; simp
  · subst hx; simp
  · obtain ⟨b, _, rfl⟩ := hx; simp
  · obtain ⟨b, o, rfl, _⟩ := hx; simp
  · subst hx; simp
  · obtain ⟨A, c, rfl, _⟩ := hx; simp

/-- What of the world an operation that only makes a value looks at stands as it stood. -/
def opSame (a : Act) (op : Op) (w w1 : World) : Prop :=
  match op with
  | .load _ x => LSame w w1 (a.eval x)
  | .convert _ _ x => (∀ k n, a.eval x ≠ .int k n) → w1 = w
  | _ => True

theorem opSame_refl (a : Act) (op : Op) (w : World) : opSame a op w w := by
  unfold opSame
  split
  · exact fun _ _ => rfl
  · exact fun _ => rfl
  · trivial

theorem aval_sound (hT : TOK P T) (hR : Rel X nt env st a w) {o : Oper} {K : AV → Option R} {r : R} (h : aval T st o.op K = some r) :
    ∃ av z, K av = some r ∧ (∀ w1 : World, opSame a o.op w w1 → (execOp a.eval o).run P w1 = .ok (.value z) w1) ∧ RelV (okT X st.hp env) env w av z := by
  have val : ∀ {s : Sem Value}, (∃ av z, K av = some r ∧ (∀ w1 : World, opSame a o.op w w1 → s.run P w1 = .ok z w1) ∧ RelV (okT X st.hp env) env w av z) → execOp a.eval o = (do pure (.value (← s))) →
      ∃ av z, K av = some r ∧ (∀ w1 : World, opSame a o.op w w1 → (execOp a.eval o).run P w1 = .ok (.value z) w1) ∧ RelV (okT X st.hp env) env w av z := by
    rintro s ⟨av, z, h1, h2, h3⟩ he
    exact ⟨av, z, h1, fun w1 hs => by rw [he]; simp only [Sem.run_bind, h2 w1 hs, Result.andThen_ok, Sem.run_pure], h3⟩
  have any : ∀ {s : Sem Value}, (∃ av z, K av = some r ∧ (∀ w1 : World, s.run P w1 = .ok z w1) ∧ RelV (okT X st.hp env) env w av z) →
      (∃ av z, K av = some r ∧ (∀ w1 : World, opSame a o.op w w1 → s.run P w1 = .ok z w1) ∧ RelV (okT X st.hp env) env w av z) :=
    fun ⟨av, z, h1, h2, h3⟩ => ⟨av, z, h1, fun w1 _ => h2 w1, h3⟩
  unfold aval at h
  split at h
  case h_1 x he => exact ⟨_, _, h, fun w1 _ => by simp [execOp, he], hR.ev x⟩
  case h_2 x he => exact ⟨_, _, h, fun w1 _ => by simp [execOp, he], hR.ev x⟩
  case h_3 c x y he =>
    split at h
    case h_2 => cases h
    rename_i b hb
    have hc := hR.ev c
    rw [hb] at hc
    simp only [RelV] at hc
    cases b with
    | true => exact ⟨_, _, h, fun w1 _ => by simp [execOp, he, hc, asBool], hR.ev x⟩
    | false => exact ⟨_, _, h, fun w1 _ => by simp [execOp, he, hc, asBool], hR.ev y⟩
  case h_4 op t x y yt he =>
    obtain ⟨s1, s2⟩ := abin_shape h (hR.ev x)
    obtain ⟨av, z, h1, h2, h3⟩ := abin_sound hT (hR.ev x) (hR.ev y) h
    refine ⟨av, z, h1, fun w1 _ => ?_, h3⟩
    simp only [execOp, he, Sem.run_bind, run_eqGuard (fun e => s1 e.1) s2, Result.andThen_ok, h2, Sem.run_pure]
  case h_5 op t x he => exact val (any (aun_sound (hR.ev x) h)) (by simp only [execOp, he])
  case h_6 s d x he => 
    obtain ⟨av, z, g1, g2, g3⟩ := aconv_sound hT hR (hR.ev x) h
    refine val (s := convert s d (a.eval x)) ⟨av, z, g1, fun w1 hs => g2 w1 ?_, g3⟩ (by simp only [execOp, he])
    simpa [opSame, he] using hs
  case h_7 x i he =>
    split at h
    case h_2 => cases h
    rename_i vs hv
    split at h
    case h_2 => cases h
    rename_i v hi
    have hx := hR.ev x
    rw [hv] at hx
    obtain ⟨us, hu, hus⟩ := hx
    obtain ⟨u, g1, g2⟩ := RelL.get vs _ hus i v hi
    have g1 : us[i]? = some u := by simpa using g1
    exact ⟨_, u, h, fun w1 _ => by simp [execOp, he, hu, Instr.extract, g1], g2⟩
  case h_8 s x f he => exact val (any (aField_sound hT (hR.ev x) h)) (by simp only [execOp, he])
  case h_9 t x f he =>
    split at h
    case h_2 => cases h
    rename_i fs _ _ _ ht
    split at h
    case h_2 => cases h
    rename_i off ft hf
    split at h
    case h_2 => cases h
    rename_i ts hts
    split at h
    case h_2 => cases h
    rename_i cs hcs
    obtain ⟨hk, h⟩ := cond_some h
    obtain ⟨d, u1, fields, rfl, e1⟩ := hT.under ht
    obtain ⟨fd, hfd, e2⟩ : ∃ fd, fields[f]? = some fd ∧ (fd.offset, fd.type) = (off, ft) := by
      rw [← e1, List.getElem?_map] at hf
      cases hq : fields.toList[f]? with
      | none => rw [hq] at hf; cases hf
      | some fd => rw [hq] at hf; exact ⟨fd, by simpa using hq, by simpa using hf⟩
    injection e2 with e2 e3
    subst e2 e3
    have hx := hR.ev x
    rw [hcs] at hx
    obtain ⟨vs, hu, hvs⟩ := hx
    obtain ⟨av, z, g1, g2, g3⟩ := apart_part hT hts (by intro e; rw [e] at hk; cases hk) h hvs
    refine val (s := Instr.field t (a.eval x) f) ⟨av, z, g1, fun w1 _ => ?_, g3⟩ (by simp only [execOp, he])
    simp only [Instr.field, Sem.run_bind, run_underlying u1, Result.andThen_ok, hfd, hu, asAgg, Sem.run_pure, g2]
  case h_10 t x i he => exact val (any (aIndexAddr_sound hT hR (hR.ev x) (hR.ev i) h)) (by simp only [execOp, he])
  case h_11 t x i he => exact val (any (aIndex_sound hT (hR.ev x) (hR.ev i) h)) (by simp only [execOp, he])
  case h_12 t x he => 
    obtain ⟨av, z, g1, g2, g3⟩ := aLoad_sound hT hR (hR.ev x) h
    refine val (s := Instr.loadAt t (a.eval x)) ⟨av, z, g1, fun w1 hs => g2 w1 ?_, g3⟩ (by simp only [execOp, he])
    simpa [opSame, he] using hs
  case h_13 t x lo hi mx he =>
    split at h
    case h_2 => cases h
    rename_i l hh m e1 e2 e3
    obtain ⟨av, z, g1, g2, g3⟩ := asl_sound hT hR (hR.ev x) h
    refine val (any ⟨av, z, g1, g2, g3⟩) ?_
    simp only [execOp, he, obound_rel hR e1, obound_rel hR e2, obound_rel hR e3]
  case h_14 t parts he =>
    obtain ⟨av, z, g1, g2, g3⟩ := aBuild_sound hT hR h
    refine val (any ⟨av, z, g1, g2, g3⟩) ?_
    simp only [execOp, he]
    congr 2
    rw [← Array.toList_inj]
    simp
  case h_15 fn first cap he =>
    refine ⟨_, .func fn (first.map a.eval) (cap.map a.eval), h, fun w1 _ => by simp [execOp, he, Instr.makeFunc], ⟨_, _, rfl, ?_, ?_⟩⟩
    · rw [Array.toList_map]; exact RelL.map hR.ev _
    · rw [Array.toList_map]; exact RelL.map hR.ev _
  case h_16 t x he =>
    cases hi : isIface T t with
    | true => rw [hi] at h; cases h
    | false =>
      rw [hi] at h
      refine ⟨_, .iface t (a.eval x), h, fun w1 _ => ?_, ⟨_, rfl, hR.ev x⟩⟩
      cases hT' : T t with
      | none => simp [isIface, hT'] at hi
      | some ts =>
        obtain ⟨d, u1, u2⟩ := hT.under hT'
        have hd : ∀ ms, d ≠ .interface ms := by
          rintro ms rfl
          obtain ⟨k, _, _, _⟩ := ts
          cases k <;> simp [isIface, hT', TK.says] at hi u2
        simp only [execOp, he, Instr.makeInterface, Sem.run_bind, run_underlying u1, Result.andThen_ok]
        cases d <;> simp <;> exact absurd rfl (hd _)
  case h_17 x he =>
    obtain ⟨hp, h⟩ := cond_some h
    refine ⟨_, a.eval x, h, fun w1 _ => ?_, hR.ev x⟩
    have hx := hR.ev x
    unfold ptrLike at hp
    split at hp
    · rename_i e; rw [e] at hx; obtain ⟨b, _, hx⟩ := hx; simp [execOp, he, hx]
    · rename_i e; rw [e] at hx; obtain ⟨b, o, hx, _⟩ := hx; simp [execOp, he, hx]
    · rename_i e; rw [e] at hx; obtain ⟨b, l, c, _, _, _, hx⟩ := hx; simp [execOp, he, hx]
    · rename_i e; rw [e] at hx; obtain ⟨y, z, hx, _⟩ := hx; simp [execOp, he, hx]
    · cases hp
  case h_18 c he =>
    have bt : ∀ {b : Builtin} {s : Sem Value}, c.callee = .builtin b → (∀ consts, builtin b c.argTypes o.type consts (c.args.map a.eval) = (do pure (.value (← s)))) → execOp a.eval o = (do pure (.value (← s))) := by
      intro b s hb hs
      simp only [execOp, he, resolve, hb, pure_bind, invoke]
      exact hs _
    split at h
    · rename_i x t e1 e2 e3
      have e2 : c.args = #[x] := by rw [← Array.toList_inj]; simpa using e2
      have e3 : c.argTypes = #[t] := by rw [← Array.toList_inj]; simpa using e3
      have hrun : ∀ consts, builtin .len c.argTypes o.type consts (c.args.map a.eval) = (do pure (.value (← Builtin.len_ #[t] o.type #[a.eval x]))) := by
        intro consts; simp [builtin, e2, e3]
      split at h
      · rename_i el _ _ _ ht
        split at h
        case h_2 => cases h
        rename_i n hn
        obtain ⟨d, u1, u2⟩ := hT.under ht
        obtain rfl : d = _ := u2
        obtain ⟨A, c', hv, hm, _⟩ := alen_sound hR (hR.ev x) hn
        exact val ⟨_, _, h, fun w1 _ => by simp only [Builtin.len_]; simp [run_underlying u1, hv, goInt], ⟨rfl, fits_len hm⟩⟩ (bt e1 hrun)
      · rename_i _ _ _ ht
        split at h
        case h_2 => cases h
        rename_i xs hx
        obtain ⟨d, u1, u2⟩ := hT.under ht
        obtain rfl : d = _ := u2
        have hv := hR.ev x
        rw [hx] at hv
        obtain ⟨s, hv, hb, hm⟩ := hv
        have hl : xs.length = s.size := by rw [← hb, bytesOf, List.length_map, Array.length_toList]; rfl
        exact val ⟨_, .int .i64 (s.size : Int), h, fun w1 _ => by simp only [Builtin.len_]; simp [run_underlying u1, hv, goInt], ⟨by rw [hl], fits_len (by omega)⟩⟩ (bt e1 hrun)
      · rename_i n el _ _ _ ht
        obtain ⟨hn, h⟩ := condP_some h
        obtain ⟨d, u1, u2⟩ := hT.under ht
        obtain rfl : d = _ := u2
        exact val ⟨_, _, h, fun w1 _ => by simp only [Builtin.len_]; simp [run_underlying u1, goInt], ⟨rfl, fits_len hn⟩⟩ (bt e1 hrun)
      · cases h
    · rename_i x y e1 e2
      have e2 : c.args = #[x, y] := by rw [← Array.toList_inj]; simpa using e2
      have hx := hR.ev x
      have hy := hR.ev y
      unfold amax at h
      split at h
      case h_2 => cases h
      rename_i k p k' q ex ey
      obtain ⟨hk, h⟩ := condP_some h
      rw [ex] at hx; rw [ey] at hy
      obtain ⟨hx, fx⟩ := hx
      obtain ⟨hy, fy⟩ := hy
      refine val (s := Builtin.max_ c.argTypes o.type #[a.eval x, a.eval y]) ⟨_, .int k (if q > p then q else p), h, fun w1 _ => ?_, ?_, ?_⟩ (bt e1 fun consts => by simp [builtin, e2])
      · rw [hx, hy]; exact run_max_int2 w1 _ _ k k' p q
      · congr 1; omega
      · subst hk; unfold fits at *; omega
    · rename_i x y e1 e2
      have e2 : c.args = #[x, y] := by rw [← Array.toList_inj]; simpa using e2
      have hx := hR.ev x
      have hy := hR.ev y
      unfold amin at h
      split at h
      case h_2 => cases h
      rename_i k p k' q ex ey
      obtain ⟨hk, h⟩ := condP_some h
      rw [ex] at hx; rw [ey] at hy
      obtain ⟨hx, fx⟩ := hx
      obtain ⟨hy, fy⟩ := hy
      refine val (s := Builtin.min_ c.argTypes o.type #[a.eval x, a.eval y]) ⟨_, .int k (if q < p then q else p), h, fun w1 _ => ?_, ?_, ?_⟩ (bt e1 fun consts => by simp [builtin, e2])
      · rw [hx, hy]; exact run_min_int2 w1 _ _ k k' p q
      · congr 1; omega
      · subst hk; unfold fits at *; omega
    · cases h
  case h_19 => cases h
end
end Go.Proofs.YtpgmkoaklpkecaaDoor.Eng

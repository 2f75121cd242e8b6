/- Types, constants, operands; operations that make a value and turn nothing. -/
import Derived.Test.YtpgmkoaklpkecaaDoorEng2
import Derived.Laws.Slices
import Derived.Laws.Cells
import Derived.WalkKit
set_option linter.unusedVariables false
set_option linter.unusedSimpArgs false
namespace Go.Proofs.YtpgmkoaklpkecaaDoor.Eng

inductive TK where
  | int (k : IntKind)
  | bool
  | str
  | sl (e : TypeId)
  | ptr (e : TypeId)
  | arr (n : Nat) (e : TypeId)
  | st (fs : List (Nat × TypeId))
  | iface
  | other

structure TS where
  k : TK
  size : Nat
  bytes : Nat
  zero : List AV

def TK.says : TK → TypeDesc → Prop
  | .int k, d => d = .int k
  | .bool, d => d = .bool
  | .str, d => d = .string
  | .sl e, d => d = .slice e
  | .ptr e, d => d = .pointer e
  | .arr n e, d => d = .array n e
  | .st fs, d => ∃ fields, d = .struct fields ∧ fields.toList.map (fun f => (f.offset, f.type)) = fs
  | .iface, d => ∃ ms, d = .interface ms
  | .other, d => True

def TK.isAgg : TK → Bool
  | .arr _ _ | .st _ => true
  | _ => false

/-- Constants. -/
def ofC0 : Value → AV
  | .int k n => cond (decide (k.min ≤ n)) (cond (decide (n ≤ k.max)) (.int k n) .top) .top
  | .bool b => .bool b
  | .string s => cond (decide (s.size ≤ maxLen)) (.str (bytesOf s)) .top
  | .slice none 0 0 => .nil
  | .pointer none => .nilp
  | .nilIface => .nili
  | _ => .top
def ofC : Value → AV
  | .agg cs => .agg (cs.toList.map ofC0)
  | .tuple vs => .tup (vs.toList.map ofC0)
  | v => ofC0 v

def TSok (P : Program) (t : TypeId) (s : TS) : Prop :=
  ∃ d i z, P.underlying t = some d ∧ s.k.says d ∧ P.info? t = some i ∧ i.size = s.size ∧ i.bytes = s.bytes ∧ i.zero = some z ∧ z.cells.toList.map ofC0 = s.zero

def TOK (P : Program) (T : TypeId → Option TS) : Prop := ∀ t s, T t = some s → TSok P t s

theorem ofC0_rel (F : Option Nat → Nat → Prop) (env : Env) (w : World) (v : Value) : RelV F env w (ofC0 v) v := by
  unfold ofC0
  split
  · rename_i k n
    by_cases h1 : k.min ≤ n <;> by_cases h2 : n ≤ k.max <;> simp [h1, h2, RelV, fits]
  · simp [RelV]
  · rename_i s
    by_cases h : s.size ≤ maxLen <;> simp [h, RelV]
  · simp [RelV]
  · simp [RelV]
  · simp [RelV]
  · simp [RelV]

theorem ofC0_relL (F : Option Nat → Nat → Prop) (env : Env) (w : World) : (vs : List Value) → RelL F env w (vs.map ofC0) vs
  | [] => by simp [RelL]
  | v :: vs => ⟨v, vs, rfl, ofC0_rel F env w v, ofC0_relL F env w vs⟩

theorem ofC_rel (F : Option Nat → Nat → Prop) (env : Env) (w : World) (v : Value) : RelV F env w (ofC v) v := by
  unfold ofC
  split
  · exact ⟨_, rfl, ofC0_relL F env w _⟩
  · exact ⟨_, rfl, ofC0_relL F env w _⟩
  · exact ofC0_rel F env w _

def AState.ev (st : AState) : Operand → AV
  | .tmp t => st.fr t
  | .const v => ofC v
  | .func f => .fn (.func f) [] []
  | .global _ => .top

section
variable {X : Nat → Prop} {nt : Nat} {env : Env} {st : AState} {a : Act} {w : World} {P : Program} {T : TypeId → Option TS}

theorem Rel.ev (h : Rel X nt env st a w) (x : Operand) : RelV (okT X st.hp env) env w (st.ev x) (a.eval x) := by
  cases x with
  | tmp t => exact h.fr t
  | const v => exact ofC_rel _ _ _ v
  | global g => simp [AState.ev, RelV]
  | func f => exact ⟨#[], #[], rfl, by simp [RelL], by simp [RelL]⟩

theorem TOK.under (h : TOK P T) {t : TypeId} {s : TS} (e : T t = some s) : ∃ d, P.underlying t = some d ∧ s.k.says d := by
  obtain ⟨d, i, z, h1, h2, _⟩ := h t s e
  exact ⟨d, h1, h2⟩
theorem TOK.info (h : TOK P T) {t : TypeId} {s : TS} (e : T t = some s) : ∃ i, P.info? t = some i ∧ i.size = s.size ∧ i.bytes = s.bytes := by
  obtain ⟨d, i, z, h1, h2, h3, h4, h5, _⟩ := h t s e
  exact ⟨i, h3, h4, h5⟩

theorem run_underlying' {t : TypeId} {d : TypeDesc} (h : P.underlying t = some d) : (underlying t).run P w = .ok d w := by
  simp [underlying, h]
theorem run_typeInfo' {t : TypeId} {i : TypeInfo} (h : P.info? t = some i) : (typeInfo t).run P w = .ok i w := by
  simp [typeInfo, h]
theorem run_sizeOf' {t : TypeId} {i : TypeInfo} (h : P.info? t = some i) : (sizeOf t).run P w = .ok i.size w := by
  simp [sizeOf, run_typeInfo' h]

/-! ### Whole numbers -/
def ishl (k : IntKind) (x y : Int) : Int := k.wrap (x * 2 ^ (min y.toNat k.bits))
def ishr (k : IntKind) (x y : Int) : Int := x.fdiv (2 ^ (min y.toNat k.bits))

section ops
variable {R : Type}

def aint (op : BinOp) (k : IntKind) (x y : Int) (K : AV → Option R) : Option R :=
  match op with
  | .add => K (.int k (k.wrap (x + y)))
  | .sub => K (.int k (k.wrap (x - y)))
  | .mul => K (.int k (k.wrap (x * y)))
  | .quo => cond (decide (y = 0)) none (K (.int k (k.wrap (x.tdiv y))))
  | .rem => cond (decide (y = 0)) none (K (.int k (x.tmod y)))
  | .and => K (.int k (bits .and k x y))
  | .or => K (.int k (bits .or k x y))
  | .xor => K (.int k (bits .xor k x y))
  | .andNot => K (.int k (bits .andNot k x y))
  | .eql => K (.bool (x == y))
  | .neq => K (.bool (x != y))
  | .lss => K (.bool (decide (x < y)))
  | .leq => K (.bool (decide (x ≤ y)))
  | .gtr => K (.bool (decide (x > y)))
  | .geq => K (.bool (decide (x ≥ y)))
  | .shl | .shr => none

theorem fits_wrap (k : IntKind) (n : Int) : fits k (k.wrap n) := by
  unfold fits IntKind.wrap IntKind.min IntKind.max
  cases k <;> simp [IntKind.bits, IntKind.signed] <;> (try split) <;> omega

theorem tmod_bd {x : Int} (y : Int) (h : 0 ≤ x) : 0 ≤ x.tmod y ∧ x.tmod y ≤ x := by
  have h1 := Int.tmod_nonneg y h
  have h2 : (x.tmod y).natAbs ≤ x.natAbs := by rw [Int.natAbs_tmod]; exact Nat.mod_le _ _
  omega

theorem fits_tmod {k : IntKind} {x : Int} (y : Int) (hx : fits k x) : fits k (x.tmod y) := by
  have h3 : k.min ≤ 0 ∧ 0 ≤ k.max := by cases k <;> simp [IntKind.min, IntKind.max, IntKind.bits, IntKind.signed]
  unfold fits at *
  rcases Int.le_total 0 x with h | h
  · have := tmod_bd y h; omega
  · have := tmod_bd y (show 0 ≤ -x by omega)
    rw [Int.neg_tmod] at this
    omega

theorem aint_sound {op : BinOp} {k : IntKind} {x y : Int} {K : AV → Option R} {r : R} (hx : fits k x) (hy : fits k y) (h : aint op k x y K = some r) (t : TypeId) (F : Option Nat → Nat → Prop) (env : Env) :
    ∃ av v, K av = some r ∧ (∀ w1 : World, (binOp op t (.int k x) (.int k y)).run P w1 = .ok v w1) ∧ RelV F env w av v := by
  cases op <;> simp only [aint] at h
  case quo =>
    by_cases e : y = 0
    · simp [e] at h
    · simp only [e, decide_false, cond_false] at h
      exact ⟨_, .int k (k.wrap (x.tdiv y)), h, fun w1 => by simp [binOp, Op.intDiv, e], by simp [RelV, fits_wrap]⟩
  case rem =>
    by_cases e : y = 0
    · simp [e] at h
    · simp only [e, decide_false, cond_false] at h
      exact ⟨_, .int k (x.tmod y), h, fun w1 => by simp [binOp, Op.intDiv, e], by simp [RelV, fits_tmod y hx]⟩
  case shl => cases h
  case shr => cases h
  case add => exact ⟨_, _, h, fun w1 => by simp [binOp, Op.intArith]; rfl, by simp [RelV, fits_wrap]⟩
  case sub => exact ⟨_, _, h, fun w1 => by simp [binOp, Op.intArith]; rfl, by simp [RelV, fits_wrap]⟩
  case mul => exact ⟨_, _, h, fun w1 => by simp [binOp, Op.intArith]; rfl, by simp [RelV, fits_wrap]⟩
  case and => exact ⟨_, _, h, fun w1 => by simp [binOp, go_sem]; rfl, by simp only [RelV]; exact ⟨trivial, fits_wrap _ _⟩⟩
  case or => exact ⟨_, _, h, fun w1 => by simp [binOp, go_sem]; rfl, by simp only [RelV]; exact ⟨trivial, fits_wrap _ _⟩⟩
  case xor => exact ⟨_, _, h, fun w1 => by simp [binOp, go_sem]; rfl, by simp only [RelV]; exact ⟨trivial, fits_wrap _ _⟩⟩
  case andNot => exact ⟨_, _, h, fun w1 => by simp [binOp, go_sem]; rfl, by simp only [RelV]; exact ⟨trivial, fits_wrap _ _⟩⟩
  all_goals exact ⟨_, _, h, fun w1 => by simp [binOp, Op.intCmp]; rfl, by simp [RelV]⟩

/-! ### Operators -/
theorem run_shl {k k' : IntKind} {x y : Int} (t : TypeId) (h : 0 ≤ y) : (binOp .shl t (.int k x) (.int k' y)).run P w = .ok (.int k (ishl k x y)) w := by
  simp [binOp, Op.shift, ishl, show ¬ y < 0 by omega]
theorem run_shr {k k' : IntKind} {x y : Int} (t : TypeId) (h : 0 ≤ y) : (binOp .shr t (.int k x) (.int k' y)).run P w = .ok (.int k (ishr k x y)) w := by
  simp [binOp, Op.shift, ishr, show ¬ y < 0 by omega]

theorem fits_shr {k : IntKind} {x : Int} (y : Int) (hx : fits k x) : fits k (ishr k x y) := by
  have h3 : k.min ≤ 0 ∧ 0 ≤ k.max := by cases k <;> simp [IntKind.min, IntKind.max, IntKind.bits, IntKind.signed]
  unfold fits ishr at *
  have hp : (1 : Int) ≤ 2 ^ (min y.toNat k.bits) := by
    have := Int.pow_pos (n := 2) (m := min y.toNat k.bits) (by decide); omega
  rw [Int.fdiv_eq_ediv_of_nonneg _ (by omega)]
  generalize (2 : Int) ^ (min y.toNat k.bits) = p at hp
  rcases Int.le_total 0 x with h | h
  · have h1 : 0 ≤ x / p := Int.ediv_nonneg h (by omega)
    have h2 : x / p ≤ x := Int.ediv_le_self p h
    omega
  · have h1 : x / p ≤ 0 := by
      have := Int.ediv_le_ediv (c := p) (by omega) h
      simpa using this
    have h2 : x ≤ x / p := by
      rw [Int.le_ediv_iff_mul_le (by omega)]
      have := Int.mul_le_mul_of_nonpos_left h hp
      simpa using this
    omega

def isB (T : TypeId → Option TS) (t : TypeId) : Bool := match T t with | some ⟨.bool, _, _, _⟩ => true | _ => false
def isP (T : TypeId → Option TS) (t : TypeId) : Bool := match T t with | some ⟨.ptr _, _, _, _⟩ => true | _ => false

/-- x op y, op no shift. -/
def isS (T : TypeId → Option TS) (t : TypeId) : Bool := match T t with | some ⟨.sl _, _, _, _⟩ => true | _ => false

def abin (T : TypeId → Option TS) (op : BinOp) (t : TypeId) (x y : AV) (K : AV → Option R) : Option R :=
  match op, x, y with
  | .shl, .int k a, .int _ b => cond (decide (0 ≤ b)) (K (.int k (ishl k a b))) none
  | .shr, .int k a, .int _ b => cond (decide (0 ≤ b)) (K (.int k (ishr k a b))) none
  | op, .int k a, .int k' b => cond (decide (k = k')) (aint op k a b K) none
  | .eql, .bool a, .bool b => cond (isB T t) (K (.bool (a == b))) none
  | .neq, .bool a, .bool b => cond (isB T t) (K (.bool (!(a == b)))) none
  | .eql, .str a, .str b => K (.bool (a == b))
  | .neq, .str a, .str b => K (.bool (!(a == b)))
  | .eql, .nilp, .nilp => cond (isP T t) (K (.bool true)) none
  | .neq, .nilp, .nilp => cond (isP T t) (K (.bool false)) none
  | .eql, .ptr _ _, .nilp => cond (isP T t) (K (.bool false)) none
  | .neq, .ptr _ _, .nilp => cond (isP T t) (K (.bool true)) none
  | .eql, .ep _ _ _ _ _, .nilp => cond (isP T t) (K (.bool false)) none
  | .neq, .ep _ _ _ _ _, .nilp => cond (isP T t) (K (.bool true)) none
  | .eql, .nil, .nil => cond (isS T t) (K (.bool true)) none
  | .neq, .nil, .nil => cond (isS T t) (K (.bool false)) none
  | .eql, .sl _ xs _ _, .nil => cond (isS T t) (cond (decide (xs.length = 0)) none (K (.bool false))) none
  | .neq, .sl _ xs _ _, .nil => cond (isS T t) (cond (decide (xs.length = 0)) none (K (.bool true))) none
  | _, _, _ => none

theorem bytesOf_beq (a b : ByteArray) : (a.toList == b.toList) = (bytesOf a == bytesOf b) := by
  have h1 : ∀ s : ByteArray, s.toList = s.data.toList := fun s => ByteArray.toList_eq s
  rw [h1, h1]
  have hi : ∀ (x y : List UInt8), (x == y) = (x.map (fun c => (c.toNat : Int)) == y.map (fun c => (c.toNat : Int))) := by
    intro x y
    rw [Bool.eq_iff_iff, beq_iff_eq, beq_iff_eq]
    constructor
    · rintro rfl; rfl
    · intro h
      have := List.map_inj_right (f := fun c : UInt8 => (c.toNat : Int)) (fun a b e => by
        have : a.toNat = b.toNat := Int.ofNat.inj e
        exact UInt8.toNat_inj.1 this) |>.1 h
      exact this
  exact hi _ _

theorem eq_p1' (d : Nat) {t e : TypeId} (hu : P.underlying t = some (.pointer e)) (b : Option Addr) : (Op.equalIn (d + 1) t (.pointer none) (.pointer b)).run P w = .ok b.isNone w := by
  simp [Op.equalIn, run_underlying hu]
theorem eq_p2' (d : Nat) {t e : TypeId} (hu : P.underlying t = some (.pointer e)) (a : Addr) : (Op.equalIn (d + 1) t (.pointer (some a)) (.pointer none)).run P w = .ok false w := by
  simp [Op.equalIn, run_underlying hu]
theorem eq_p1 (d : Nat) {t e : TypeId} (hu : P.underlying t = some (.pointer e)) (b : Option Addr) : (Op.equal t (.pointer none) (.pointer b)).run P w = .ok b.isNone w := eq_p1' 9999 hu b
theorem eq_p2 (d : Nat) {t e : TypeId} (hu : P.underlying t = some (.pointer e)) (a : Addr) : (Op.equal t (.pointer (some a)) (.pointer none)).run P w = .ok false w := eq_p2' 9999 hu a

theorem eq_s1' (d : Nat) {t e : TypeId} (hu : P.underlying t = some (.slice e)) (b : Option Addr) (n c : Nat) : (Op.equalIn (d + 1) t (.slice b n c) (.slice none 0 0)).run P w = .ok b.isNone w := by
  cases b <;> simp [Op.equalIn, run_underlying hu]
theorem eq_s1 {t e : TypeId} (hu : P.underlying t = some (.slice e)) (b : Option Addr) (n c : Nat) : (Op.equal t (.slice b n c) (.slice none 0 0)).run P w = .ok b.isNone w := eq_s1' 9999 hu b n c

theorem abin_sound (hT : TOK P T) {op : BinOp} {t : TypeId} {x y : AV} {K : AV → Option R} {r : R} {F : Option Nat → Nat → Prop} {u v : Value} (hx : RelV F env w x u) (hy : RelV F env w y v)
    (h : abin T op t x y K = some r) : ∃ av z, K av = some r ∧ (∀ w1 : World, (binOp op t u v).run P w1 = .ok z w1) ∧ RelV F env w av z := by
  have hB : isB T t = true → P.underlying t = some .bool := by
    unfold isB
    split
    · rename_i h; intro _; obtain ⟨d, h1, h2⟩ := hT.under h; rw [h1, show d = _ from h2]
    · intro h; cases h
  have hP : isP T t = true → ∃ e, P.underlying t = some (.pointer e) := by
    unfold isP
    split
    · rename_i h; intro _; obtain ⟨d, h1, h2⟩ := hT.under h; exact ⟨_, by rw [h1, show d = _ from h2]⟩
    · intro h; cases h
  have hS : isS T t = true → ∃ e, P.underlying t = some (.slice e) := by
    unfold isS
    split
    · rename_i h; intro _; obtain ⟨d, h1, h2⟩ := hT.under h; exact ⟨_, by rw [h1, show d = _ from h2]⟩
    · intro h; cases h
  have slOk : ∀ {e : Ty} {xs : List e.D} {tag : Option Nat} {ex : Bool}, RelV F env w (.sl e xs tag ex) u → xs.length ≠ 0 → ∃ ad n c, u = .slice (some ad) n c := by
    intro e xs tag ex hr hne
    obtain ⟨A, c, h1, _, _, _, h5⟩ := hr
    rcases h5 with h5 | ⟨b, o, h5, _⟩
    · subst h5; exact absurd rfl hne
    · exact ⟨_, _, _, by rw [h1, h5]⟩
  unfold abin at h
  split at h
  · obtain ⟨rfl, hx⟩ := hx; obtain ⟨rfl, hy⟩ := hy
    rename_i b
    by_cases e : 0 ≤ b
    · simp only [e, decide_true, cond_true] at h
      exact ⟨_, _, h, fun _ => run_shl t e, ⟨rfl, fits_wrap _ _⟩⟩
    · simp [e] at h
  · obtain ⟨rfl, hx⟩ := hx; obtain ⟨rfl, hy⟩ := hy
    rename_i b
    by_cases e : 0 ≤ b
    · simp only [e, decide_true, cond_true] at h
      exact ⟨_, _, h, fun _ => run_shr t e, ⟨rfl, fits_shr _ hx⟩⟩
    · simp [e] at h
  · obtain ⟨rfl, hx⟩ := hx; obtain ⟨rfl, hy⟩ := hy
    rename_i k a k' b _ _
    by_cases e : k = k'
    · subst e
      simp only [decide_true, cond_true] at h
      exact aint_sound hx hy h t F env
    · simp [e] at h
  all_goals (try (cases h; done))
  · cases e : isB T t <;> rw [e] at h
    · cases h
    · simp only [RelV] at hx hy; subst hx hy
      exact ⟨_, _, h, fun w1 => run_eql_bool w1 t _ _ (hB e), rfl⟩
  · cases e : isB T t <;> rw [e] at h
    · cases h
    · simp only [RelV] at hx hy; subst hx hy
      exact ⟨_, _, h, fun w1 => run_neq_bool w1 t _ _ (hB e), rfl⟩
  · obtain ⟨s, rfl, rfl, _⟩ := hx; obtain ⟨s', rfl, rfl, _⟩ := hy
    exact ⟨_, _, h, fun w1 => by simp only [binOp, Op.stringOp, Sem.run_pure]; rfl, by simp only [RelV]; rw [bytesOf_beq]⟩
  · obtain ⟨s, rfl, rfl, _⟩ := hx; obtain ⟨s', rfl, rfl, _⟩ := hy
    exact ⟨_, _, h, fun w1 => by simp only [binOp, Op.stringOp, Sem.run_pure]; rfl, by simp only [RelV]; rw [bytesOf_beq]⟩
  all_goals first
  | (cases e : isP T t <;> rw [e] at h
     · cases h
     · obtain ⟨el, hu⟩ := hP e
       simp only [RelV] at hx hy
       first
         | (subst hx; subst hy; exact ⟨_, _, h, fun w1 => by simp only [binOp, Sem.run_bind, eq_p1 9999 hu, Result.andThen]; rfl, rfl⟩)
         | (obtain ⟨b, _, rfl⟩ := hx; subst hy; exact ⟨_, _, h, fun w1 => by simp only [binOp, Sem.run_bind, eq_p2 9999 hu, Result.andThen]; rfl, rfl⟩)
         | (obtain ⟨b, o, rfl, _⟩ := hx; subst hy; exact ⟨_, _, h, fun w1 => by simp only [binOp, Sem.run_bind, eq_p2 9999 hu, Result.andThen]; rfl, rfl⟩))
  | (cases e : isS T t <;> rw [e] at h
     · cases h
     · obtain ⟨el, hu⟩ := hS e
       first
         | (simp only [RelV] at hx hy; subst hx; subst hy; exact ⟨_, _, h, fun w1 => by simp only [binOp, Sem.run_bind, eq_s1 hu, Result.andThen]; rfl, rfl⟩)
         | (rename_i xs tag ex
            by_cases hne : xs.length = 0
            · simp only [hne, decide_true, cond_true] at h; cases h
            · simp only [hne, decide_false, cond_false, cond_true] at h
              obtain ⟨ad, n, c, rfl⟩ := slOk hx hne
              simp only [RelV] at hy; subst hy
              exact ⟨_, _, h, fun w1 => by simp only [binOp, Sem.run_bind, eq_s1 hu, Result.andThen]; rfl, rfl⟩))

end ops
end
end Go.Proofs.YtpgmkoaklpkecaaDoor.Eng

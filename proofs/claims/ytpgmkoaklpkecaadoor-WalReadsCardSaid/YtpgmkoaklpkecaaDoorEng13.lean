/- Statements that draw their order, by the engine. -/
import Derived.Test.YtpgmkoaklpkecaaDoorEng12
set_option linter.unusedVariables false
set_option linter.unusedSimpArgs false
namespace Go.Proofs.YtpgmkoaklpkecaaDoor.Eng

/-- A place that stands as long as no cells of one's own are written. -/
def still (st : AState) : AV → Bool
  | .ep _ _ _ _ none => true
  | .ep _ _ _ _ (some x) => !(st.hp x).isRow
  | .ptr id _ => match st.hp id with
    | .cells _ _ => true
    | _ => false
  | _ => false

def stillLoad (st : AState) : Op → Bool
  | .load _ x => still st (st.ev x)
  | _ => false

/-- Bytes that are only read and turned into a string. -/
def stillConv (st : AState) : Op → Bool
  | .convert _ _ x => match st.ev x with
    | .sl _ _ none _ => true
    | .sl _ _ (some x) _ => !(st.hp x).isRow
    | _ => false
  | _ => false

def pureOp (st : AState) : Op → Bool
  | .move _ | .assign _ | .pick _ _ _ | .binOp _ _ _ _ _ | .unOp _ _ _ | .extract _ _ | .fieldAddr _ _ _ | .field _ _ _ | .indexAddr _ _ _ | .index _ _ _ | .slice _ _ _ _ _ | .build _ _ | .makeFunc _ _ _ | .makeInterface _ _ | .nilCheck _ => true
  | .convert _ _ x => match st.ev x with
    | .int _ _ => true
    | _ => false
  | .call c => match c.callee with
    | .builtin .len | .builtin .max | .builtin .min => true
    | _ => false
  | _ => false

section
variable {X : Nat → Prop} {nt base : Nat} {env : Env} {st : AState} {a : Act} {w w' : World} {P : Program} {R : Type} {E : En R} {N : Act → World → Prop} {ops : Array Oper}

def dset (kp : FuncId → Bool) (ops : Array Oper) (s : Nat) : Bool := match ops[s]? with
  | some o => dirtyOp kp o.op
  | none => false

/-! The done operations as the bits of a number; of each operation those that it waits for, too. -/
def predsM (o : Oper) : Nat := o.after.toList.foldr (fun e acc => cond (Region.binds .any e) (acc ||| (1 <<< e.on)) acc) 0
def predsL (ops : Array Oper) : List Nat := ops.toList.map predsM
def maskArr (n m : Nat) : Array Bool := ((List.range n).map fun i => Nat.testBit m i).toArray
def readyM (pm : List Nat) (n m : Nat) : List Nat := (List.range n).filter fun i => !Nat.testBit m i && Nat.beq (pm.getD i 0 &&& m) (pm.getD i 0)
def freeM (pm : List Nat) (ops : List Oper) (A : Array Oper) (n m i : Nat) : Bool := match ops[i]? with
  | none => false
  | some oi => (List.range n).all fun j => Nat.beq j i || (Nat.testBit m j || (match ops[j]? with
    | some oj => Nat.testBit (pm.getD j 0) i || oi.apart A oj
    | none => true))

def waitSet (pm : List Nat) (m i : Nat) : Nat → Nat
  | 0 => 0
  | k + 1 => (fun S : Nat => cond (Nat.beq k i || (!Nat.testBit m k && !Nat.beq (pm.getD k 0 &&& S) 0)) (S ||| (1 <<< k)) S) (waitSet pm m i k)

def waitsB (pm : List Nat) (n m i S : Nat) : Bool :=
  (List.range n).all fun k => !Nat.testBit S k || (!Nat.testBit m k && (Nat.beq k i || !Nat.beq (pm.getD k 0 &&& S) 0))

def loadB (kp : FuncId → Bool) (ops : List Oper) (pm : List Nat) (n m i : Nat) : Bool :=
  (fun S : Nat => Nat.blt S (2 ^ n) && waitsB pm n m i S && (List.range n).all fun s => match ops[s]? with
    | some o => !dirtyOp kp o.op || (!Nat.testBit m s && Nat.testBit S s)
    | none => true) (waitSet pm m i n)

/-- Surely not wanted. -/
def gone (ops : Array Oper) (o : Oper) (st : AState) : Bool :=
  match o.guard with
  | none => false
  | some (j, want) => match (ops[j]?).bind (·.dst) with
    | none => true
    | some d => match st.fr d with
      | .bool true => !want
      | .bool false => want
      | .tup [] => true
      | _ => false

def canFirst (kp : FuncId → Bool) (A : Array Oper) (ops : List Oper) (pm : List Nat) (n m : Nat) (st : AState) (i : Nat) : Bool :=
  match ops[i]? with
  | some o => !dirtyOp kp o.op && (pureOp st o.op || ((stillLoad st o.op || stillConv st o.op) && loadB kp ops pm n m i) || gone A o st) && freeM pm ops A n m i
  | none => false

def adraw (E : En R) (nt base : Nat) (A : Array Oper) (ops : List Oper) (pm : List Nat) (n : Nat) : Nat → Nat → AState → (AState → Option R) → Option R
  | 0, m, st, K => match readyM pm n m with
    | [] => K st
    | _ => none
  | f + 1, m, st, K => match readyM pm n m with
    | [] => K st
    | i :: rs => match (i :: rs).find? (canFirst E.kp A ops pm n m st) with
      | some j => match ops[j]? with
        | some o => aguard A o.guard st (fun st => cond (dOK nt o.dst) (cond (pureOp st o.op || ((stillLoad st o.op || stillConv st o.op) && loadB E.kp ops pm n m j)) (aval E.T st o.op fun v => adraw E nt base A ops pm n f (m ||| (1 <<< j)) (sput st o.dst v) K) none) none)
            (fun st => cond (dOK nt o.dst) (adraw E nt base A ops pm n f (m ||| (1 <<< j)) (sput st o.dst (.tup [])) K) none)
        | none => none
      | none => match rs with
        | [] => match ops[i]? with
          | some o => astep E nt base A o st fun st' => adraw E nt base A ops pm n f (m ||| (1 <<< i)) st' K
          | none => none
        | _ => none

theorem testBit_or1 (m k j : Nat) : Nat.testBit (m ||| (1 <<< j)) k = (Nat.testBit m k || decide (k = j)) := by
  rw [Nat.testBit_or, Nat.one_shiftLeft, Nat.testBit_two_pow]
  congr 1
  exact decide_eq_decide.2 ⟨fun h => h.symm, fun h => h.symm⟩

theorem predsM_spec (o : Oper) (k : Nat) : Nat.testBit (predsM o) k = true ↔ ∃ e ∈ o.after, Region.binds .any e = true ∧ e.on = k := by
  unfold predsM
  have : ∀ l : List Edge, Nat.testBit (l.foldr (fun e acc => cond (Region.binds .any e) (acc ||| (1 <<< e.on)) acc) 0) k = true ↔ ∃ e ∈ l, Region.binds .any e = true ∧ e.on = k := by
    intro l
    induction l with
    | nil => simp
    | cons e l ih =>
      simp only [List.foldr_cons]
      cases hb : Region.binds .any e with
      | false =>
        simp only [cond_false, ih, List.mem_cons]
        constructor
        · rintro ⟨x, h1, h2⟩; exact ⟨x, .inr h1, h2⟩
        · rintro ⟨x, rfl | h1, h2⟩
          · rw [hb] at h2; cases h2.1
          · exact ⟨x, h1, h2⟩
      | true =>
        simp only [cond_true, testBit_or1, Bool.or_eq_true, ih, decide_eq_true_eq, List.mem_cons]
        constructor
        · rintro (⟨x, h1, h2⟩ | rfl)
          · exact ⟨x, .inr h1, h2⟩
          · exact ⟨e, .inl rfl, hb, rfl⟩
        · rintro ⟨x, rfl | h1, h2, h3⟩
          · exact .inr h3.symm
          · exact .inl ⟨x, h1, h2, h3⟩
  rw [this]
  simp

theorem and_beq_iff (p m : Nat) : Nat.beq (p &&& m) p = true ↔ ∀ k, Nat.testBit p k = true → Nat.testBit m k = true := by
  rw [beq_iff]
  constructor
  · intro h k hk
    rw [← h, Nat.testBit_and] at hk
    simp only [Bool.and_eq_true] at hk
    exact hk.2
  · intro h
    refine Nat.eq_of_testBit_eq fun k => ?_
    rw [Nat.testBit_and]
    cases hk : Nat.testBit p k with
    | false => rfl
    | true => rw [h k hk]; rfl

theorem and_ne0_iff (p m : Nat) : (!Nat.beq (p &&& m) 0) = true ↔ ∃ k, Nat.testBit p k = true ∧ Nat.testBit m k = true := by
  rw [Bool.not_eq_true', beq_false]
  constructor
  · intro h
    obtain ⟨k, hk⟩ := Nat.exists_testBit_of_ne_zero h
    rw [Nat.testBit_and, Bool.and_eq_true] at hk
    exact ⟨k, hk⟩
  · rintro ⟨k, h1, h2⟩ h
    have : Nat.testBit (p &&& m) k = true := by rw [Nat.testBit_and, h1, h2]; rfl
    rw [h, Nat.zero_testBit] at this; cases this

theorem maskArr_getD {n m k : Nat} {d : Bool} (h : k < n) : (maskArr n m).getD k d = Nat.testBit m k := by
  simp [maskArr, Array.getD, h]
theorem maskArr_size {n m : Nat} : (maskArr n m).size = n := by simp [maskArr]
theorem maskArr_out {n m k : Nat} {d : Bool} (h : n ≤ k) : (maskArr n m).getD k d = d := by
  have : ¬ k < n := by omega
  simp [maskArr, Array.getD, this]
theorem maskArr_set {n m j : Nat} : (maskArr n m).setIfInBounds j true = maskArr n (m ||| (1 <<< j)) := by
  refine Array.ext (by simp [maskArr]) fun i h1 h2 => ?_
  have hi : i < n := by simpa [maskArr] using h2
  rw [Array.getElem_setIfInBounds (by simpa [maskArr] using hi)]
  simp only [maskArr, List.getElem_toArray, List.getElem_map, List.getElem_range, testBit_or1]
  by_cases e : j = i
  · subst e; simp
  · simp [e, Ne.symm e]

def MaskOK (n m : Nat) : Prop := ∀ k, n ≤ k → Nat.testBit m k = false
theorem MaskOK.set {n m j : Nat} (h : MaskOK n m) (hj : j < n) : MaskOK n (m ||| (1 <<< j)) := by
  intro k hk
  rw [testBit_or1, h k hk]
  have : k ≠ j := by omega
  simp [this]

theorem predsL_get {i : Nat} {o : Oper} (h : ops[i]? = some o) : (predsL ops).getD i 0 = predsM o := by
  have : ops.toList[i]? = some o := by simpa using h
  simp [predsL, List.getD, this]

theorem readyM_eq {m : Nat} (hm : MaskOK ops.size m) : readyM (predsL ops) ops.size m = Region.ready .any ops (maskArr ops.size m) := by
  unfold readyM Region.ready
  refine List.filter_congr fun i hi => ?_
  have hi := List.mem_range.1 hi
  rw [maskArr_getD hi]
  congr 1
  have ho : ops[i]? = some ops[i] := Array.getElem?_eq_getElem hi
  rw [predsL_get ho, ho]
  simp only [Option.map_some, Option.getD_some]
  rw [Bool.eq_iff_iff, and_beq_iff, Array.all_eq_true']
  constructor
  · intro h e he
    cases hb : Region.binds .any e with
    | false => rfl
    | true =>
      have := h e.on ((predsM_spec _ _).2 ⟨e, he, hb, rfl⟩)
      have hlt : e.on < ops.size := by
        refine Nat.lt_of_not_le fun hle => ?_
        rw [hm _ hle] at this; cases this
      simp [maskArr_getD hlt, this]
  · intro h k hk
    obtain ⟨e, he, hb, rfl⟩ := (predsM_spec _ _).1 hk
    have := h e he
    rw [hb] at this
    simp only [Bool.not_true, Bool.false_or] at this
    rcases Nat.lt_or_ge e.on ops.size with hlt | hge
    · rwa [maskArr_getD hlt] at this
    · rw [maskArr_out hge] at this; cases this

theorem freeM_free {m i : Nat} (h : freeM (predsL ops) ops.toList ops ops.size m i = true) : Region.free .any ops (maskArr ops.size m) i = true := by
  unfold freeM at h
  unfold Region.free
  have he : ∀ j, ops.toList[j]? = ops[j]? := fun j => Array.getElem?_toList
  rw [he] at h
  split at h
  · cases h
  rename_i oi hoi
  rw [hoi]
  simp only [List.all_eq_true, List.mem_range] at h ⊢
  intro j hj
  have := h j hj
  rw [maskArr_getD hj]
  simp only [Bool.or_eq_true] at this ⊢
  rcases this with h1 | h1 | h1
  · exact .inl (.inl (by simpa using beq_iff.1 h1))
  · exact .inl (.inr h1)
  · right
    rw [he] at h1
    have ho : ops[j]? = some ops[j] := Array.getElem?_eq_getElem hj
    rw [ho] at h1 ⊢
    simp only [Bool.or_eq_true] at h1 ⊢
    rcases h1 with h1 | h1
    · left
      rw [predsL_get ho] at h1
      obtain ⟨e, he', hb, h2⟩ := (predsM_spec _ _).1 h1
      exact Array.any_eq_true'.2 ⟨e, he', by simp [hb, h2]⟩
    · exact .inr h1

def KeepW (env : Env) (hp : Nat → AObj) (w w' : World) : Prop :=
  w.heap.size ≤ w'.heap.size ∧ ∀ k, k < w.heap.size → (∀ id, (hp id).isRow = true → env.blk id ≠ some k) → w'.heap[k]? = w.heap[k]?

theorem RKeep.keepW {env' : Env} {hp hp' : Nat → AObj} (h : RKeep env hp w env' hp' w') : KeepW env hp w w' := ⟨h.size, h.keep⟩
theorem RKeep.keepW_trans {env' : Env} {hp hp' : Nat → AObj} {w2 : World} (h : RKeep env hp w env' hp' w') (k : KeepW env' hp' w' w2) : KeepW env hp w w2 := by
  refine ⟨Nat.le_trans h.size k.1, fun b hb hn => ?_⟩
  rw [k.2 b (Nat.lt_of_lt_of_le hb h.size) (fun id hl he => ?_), h.keep b hb hn]
  obtain ⟨id0, hl0, he0⟩ := h.new id b hl he hb
  exact hn id0 hl0 he0

theorem loadB_spec {kp : FuncId → Bool} {m i : Nat} (h : loadB kp ops.toList (predsL ops) ops.size m i = true) :
    ∃ B : Nat → Bool, clean (dset kp ops) (maskArr ops.size m) ∧ Waits .any ops i B (maskArr ops.size m) ∧ ∀ s, dset kp ops s = true → B s = true := by
  unfold loadB at h
  generalize waitSet (predsL ops) m i ops.size = S at h
  simp only [Bool.and_eq_true] at h
  obtain ⟨⟨h0, h1⟩, h2⟩ := h
  have h0 : ∀ x, Nat.testBit S x = true → x < ops.size := fun x hx => by
    refine Nat.lt_of_not_le fun hle => ?_
    rw [Nat.testBit_lt_two_pow (Nat.lt_of_lt_of_le (blt_iff.1 h0) (Nat.pow_le_pow_right (by omega) hle))] at hx
    cases hx
  have he : ∀ j, ops.toList[j]? = ops[j]? := fun j => Array.getElem?_toList
  have key : ∀ s, dset kp ops s = true → s < ops.size ∧ Nat.testBit m s = false ∧ Nat.testBit S s = true := by
    intro s hs
    have hlt : s < ops.size := by
      unfold dset at hs
      split at hs
      · rename_i o ho; exact (Array.getElem?_eq_some_iff.1 ho).1
      · cases hs
    have := List.all_eq_true.1 h2 s (List.mem_range.2 hlt)
    have ho : ops[s]? = some ops[s] := Array.getElem?_eq_getElem hlt
    unfold dset at hs
    rw [he, ho] at this
    rw [ho] at hs
    have hs : dirtyOp kp ops[s].op = true := hs
    simp only [hs] at this
    exact ⟨hlt, by simpa using this⟩
  refine ⟨fun k => Nat.blt k ops.size && Nat.testBit S k, fun s hs => ?_, fun k hk => ?_, fun s hs => ?_⟩
  · obtain ⟨q1, q2, _⟩ := key s hs
    rw [maskArr_getD q1]; exact q2
  · simp only [Bool.and_eq_true] at hk
    obtain ⟨hk1, hk'⟩ := hk
    have hk1 := blt_iff.1 hk1
    have := List.all_eq_true.1 h1 k (List.mem_range.2 hk1)
    rw [hk'] at this
    simp only [Bool.not_true, Bool.false_or, Bool.and_eq_true, Bool.or_eq_true, Bool.not_eq_true'] at this
    obtain ⟨q1, q2⟩ := this
    refine ⟨by rw [maskArr_getD hk1]; exact q1, q2.imp beq_iff.1 fun q2 => ?_⟩
    have ho : ops[k]? = some ops[k] := Array.getElem?_eq_getElem hk1
    rw [predsL_get ho] at q2
    obtain ⟨x, x1, x2⟩ := (and_ne0_iff _ _).1 (by rw [q2]; rfl)
    obtain ⟨e, e1, e2, e3⟩ := (predsM_spec _ _).1 x1
    refine ⟨_, ho, e, e1, e2, ?_⟩
    show (Nat.blt e.on ops.size && Nat.testBit S e.on) = true
    rw [e3, x2, blt_iff.2 (h0 x x2)]; rfl
  · obtain ⟨q1, _, q3⟩ := key s hs
    simp only [blt_iff.2 q1, q3, Bool.and_self]

theorem still_same (hR : Rel X nt env st a w) {x : AV} {u : Value} (hx : RelV (okT X st.hp env) env w x u) (h : still st x = true) {w1 : World} (hk : KeepW env st.hp w w1) : LSame w w1 u := by
  unfold still at h
  split at h
  · obtain ⟨b, o, rfl, h1, h2, h3⟩ := hx
    intro ad had
    injection had with had
    injection had with had
    subst had
    obtain ⟨cs, c1, c2, c3⟩ := row_get h3 _ h1
    have hlt : b < w.heap.size := by
      rename_i e xs i off
      have hp : 0 < cs.length := by rw [c2]; exact e.sz_pos
      exact cell_block_lt (c3 0 hp)
    exact hk.2 b hlt fun id hl => h3.1.2 id (AObj.live_of_row hl) (by simp)
  · rename_i e xs i off x
    obtain ⟨b, o, rfl, h1, h2, h3⟩ := hx
    intro ad had
    injection had with had
    injection had with had
    subst had
    obtain ⟨cs, c1, c2, c3⟩ := row_get h3 _ h1
    have hlt : b < w.heap.size := by
      have hp : 0 < cs.length := by rw [c2]; exact e.sz_pos
      exact cell_block_lt (c3 0 hp)
    refine hk.2 b hlt fun id hl => ?_
    by_cases e : x = id
    · subst e; rw [hl] at h; cases h
    · exact h3.1.2 id (AObj.live_of_row hl) (fun q => e (by injection q))
  · rename_i id off
    obtain ⟨b, hb, rfl⟩ := hx
    split at h
    case h_2 => cases h
    rename_i t cs hh
    intro ad had
    injection had with had
    injection had with had
    subst had
    have hl : (st.hp id).live = true := by rw [hh]
    refine hk.2 b (hR.lt id b hl hb).1 fun j hj he => ?_
    have := hR.inj j id b (AObj.live_of_row hj) hl he hb
    subst this
    rw [hh] at hj; cases hj
  · cases h

theorem pure_same (hR : Rel X nt env st a w) {op : Op} (h : pureOp st op = true) (w1 : World) : opSame a op w w1 := by
  unfold opSame
  split
  · cases h
  · rename_i s d x
    intro hne
    have h : (match st.ev x with | .int _ _ => true | _ => false) = true := h
    have hr := hR.ev x
    cases hx : st.ev x <;> rw [hx] at h hr <;> first | (cases h; done) | exact absurd hr.1 (hne _ _)
  · trivial

theorem conv_still (hT : TOK P E.T) (hR : Rel X nt env st a w) {o : Oper} {K : AV → Option R} {r : R} (h : stillConv st o.op = true) (hv : aval E.T st o.op K = some r) :
    ∃ av z, K av = some r ∧ (∀ w1, KeepW env st.hp w w1 → (execOp a.eval o).run P w1 = .ok (.value z) w1) ∧ RelV (okT X st.hp env) env w av z := by
  unfold stillConv at h
  split at h
  case h_2 => cases h
  rename_i s d x he
  have htag : ∃ e' xs tag ex, st.ev x = .sl e' xs tag ex ∧ ∀ k, okT X st.hp env tag k → ∀ id, (st.hp id).isRow = true → env.blk id ≠ some k := by
    split at h
    · rename_i e' xs ex hx
      exact ⟨e', xs, none, ex, hx, fun k hk id hl => hk.2 id (AObj.live_of_row hl) (by simp)⟩
    · rename_i e' xs y ex hx
      refine ⟨e', xs, some y, ex, hx, fun k hk id hl => ?_⟩
      by_cases e : y = id
      · subst e; rw [hl] at h; cases h
      · exact hk.2 id (AObj.live_of_row hl) (fun q => e (by injection q))
    · cases h
  obtain ⟨e', xs, tag, ex, hx, htag⟩ := htag
  rw [he] at hv
  simp only [aval, aconv, hx] at hv
  split at hv
  · rename_i h1 h2 h3; cases h3
  · rename_i h1 h2 h3; cases h3
  · rename_i et _ _ _ _ _ _ h1 h2 _
    obtain ⟨hu, hv2⟩ := cond_some hv
    clear hv
    split at hv2
    case h_2 => cases hv2
    rename_i ys hys
    obtain ⟨d1, u1, q1⟩ := hT.under h1
    obtain ⟨d2, u2, q2⟩ := hT.under h2
    obtain rfl : d1 = _ := q1
    obtain rfl : d2 = _ := q2
    have het : P.underlying et = some (.int .u8) := by
      unfold isU8 at hu
      split at hu
      · rename_i h3; obtain ⟨d3, u3, e3⟩ := hT.under h3; rw [u3, show d3 = _ from e3]
      · cases hu
    have hr := hR.ev x
    rw [hx] at hr
    obtain ⟨A, c, v1, v2, v3, _, v5⟩ := hr
    unfold abytes at hys
    split at hys
    · rename_i hxx
      cases hxx
      injection hys with hys
      have hys' := hys.symm
      clear hys
      subst hys'
      have run : ∀ w1, KeepW env st.hp w w1 → (convert s d (a.eval x)).run P w1 = .ok (.string (strOfNums ys)) w1 ∧ bytesOf (strOfNums ys) = ys ∧ (strOfNums ys).size ≤ maxLen := fun w1 hk => by
        have hok : ∀ k, okT X st.hp env tag k → k < w.heap.size → okT X st.hp env tag k ∧ w1.heap[k]? = w.heap[k]? := fun k h1 h2 =>
          ⟨h1, hk.2 k h2 (htag k h1)⟩
        exact conv_key u1 het u2 (Nat.le_trans v2 v3) v1 (v5.move (by decide) hok (fun y cs hy => Cells.move hok _ hy))
      obtain ⟨_, r2, r3⟩ := run w ⟨Nat.le_refl _, fun _ _ _ => rfl⟩
      exact ⟨_, _, hv2, fun w1 hk => by simp only [execOp, he, Sem.run_bind, (run w1 hk).1, Result.andThen_ok, Sem.run_pure], ⟨_, rfl, r2, r3⟩⟩
    · rename_i hxx; cases hxx
    · rename_i hxx; cases hxx
    · cases hys
  · cases hv

theorem adraw_sound (hT : TOK P E.T) (hY : YOK P E.Y) (hC : CallOK P E.kp E.call) (hsel : Region.noSelect ops = true) {K : AState → Option R} {r : R} : (f : Nat) → (m : Nat) → MaskOK ops.size m → {env : Env} → {st : AState} → {a : Act} → {w : World} → {G : World → Prop} →
    adraw E nt base ops ops.toList (predsL ops) ops.size f m st K = some r → Rel X nt env st a w → (clean (dset E.kp ops) (maskArr ops.size m) → ∀ w', KeepW env st.hp w w' → G w') → Then X nt env st w K r N → anyG P .any ops (dset E.kp ops) G N f (maskArr ops.size m) a w
  | 0, m, hm, env, st, a, w, G, h, hR, hG, hN => by
    simp only [adraw] at h
    rw [readyM_eq hm] at h
    split at h
    · rename_i hr
      exact ⟨hr, hN st env a w h hR (Ext.refl _ _ _)⟩
    · cases h
  | f + 1, m, hm, env, st, a, w, G, h, hR, hG, hN => by
    simp only [adraw] at h
    rw [readyM_eq hm] at h
    have hlist : ∀ j, ops.toList[j]? = ops[j]? := fun j => Array.getElem?_toList
    split at h
    · rename_i hr
      exact anyG_done hr (hN st env a w h hR (Ext.refl _ _ _)) _
    · rename_i i rs hr
      split at h
      · rename_i j hj
        have hcf := List.find?_some hj
        have hmem : j ∈ Region.ready .any ops (maskArr ops.size m) := by rw [hr]; exact List.mem_of_find?_eq_some hj
        unfold canFirst at hcf
        split at h
        case h_2 => cases h
        rename_i o ho
        rw [ho] at hcf
        rw [hlist] at ho
        simp only [Bool.and_eq_true, Bool.not_eq_true', Bool.or_eq_true] at hcf
        obtain ⟨⟨hdirty, _⟩, hfreeM⟩ := hcf
        have hfree := freeM_free hfreeM
        have hjlt : j < ops.size := (Array.getElem?_eq_some_iff.1 ho).1
        have hm2 := hm.set hjlt
        have hDj : dset E.kp ops j = false := by unfold dset; rw [ho]; exact hdirty
        have hfr := fun k ok (h1 : ops[k]? = some ok) h2 h3 h4 => Region.free_spec ho hfree k ok h1 h2 h3 h4
        have hcl : clean (dset E.kp ops) ((maskArr ops.size m).setIfInBounds j true) → clean (dset E.kp ops) (maskArr ops.size m) := fun hc s hs => by
          rw [← set_getD (j := j) (fun e => by subst e; rw [hDj] at hs; cases hs)]; exact hc s hs
        obtain ⟨st1, e1, hR1, h1⟩ := aguard_sound hR h
        rcases h1 with ⟨hw, h1⟩ | ⟨hw, h1⟩
        · obtain ⟨hd, h2⟩ := cond_some h1
          obtain ⟨hk1, h3⟩ := cond_some h2
          obtain ⟨av, z, s1, s2, s3⟩ := aval_sound hT hR1 h3
          have hput := hR1.sput hd s3
          have hthen : Then X nt env (sput st1 o.dst av) w K r N := by
            intro st' env' a' w' q1 q2 q3
            rw [sput_hp, e1] at q3
            exact hN st' env' a' w' q1 q2 q3
          by_cases hp : pureOp st1 o.op = true
          · refine anyG_first (C := fun _ => True) (B := fun _ => false) ho (Region.noSelect_spec hsel) hDj f (maskArr ops.size m) a w hfr (.inl fun _ => trivial) hmem trivial (fun hc => hG (hcl hc) w ⟨Nat.le_refl _, fun _ _ _ => rfl⟩)
              (.inl ⟨hw, fun w1 _ => s2 w1 (pure_same hR1 hp w1)⟩) ?_
            rw [maskArr_set]
            exact adraw_sound hT hY hC hsel f _ hm2 s1 hput (fun hc w' hk => hG (hcl (by rw [maskArr_set]; exact hc)) w' (by rw [sput_hp, e1] at hk; exact hk)) hthen
          · skip
            have hst0 : (stillLoad st1 o.op || stillConv st1 o.op) = true ∧ loadB E.kp ops.toList (predsL ops) ops.size m j = true := by
              simp only [Bool.or_eq_true, Bool.and_eq_true] at hk1 ⊢
              exact hk1.resolve_left hp
            obtain ⟨hst, hB⟩ := hst0
            obtain ⟨B, b1, b2, b3⟩ := loadB_spec hB
            have hkw : ∃ av z, adraw E nt base ops ops.toList (predsL ops) ops.size f (m ||| (1 <<< j)) (sput st1 o.dst av) K = some r ∧ (∀ w1, KeepW env st.hp w w1 → (execOp a.eval o).run P w1 = .ok (.value z) w1) ∧ RelV (okT X st1.hp env) env w av z := by
              by_cases hsl : stillLoad st1 o.op = true
              · have hload : ∃ t x, o.op = .load t x := by
                  unfold stillLoad at hsl
                  split at hsl
                  · rename_i t x he; exact ⟨t, x, he⟩
                  · cases hsl
                obtain ⟨t, x, hop⟩ := hload
                refine ⟨av, z, s1, fun w1 hk => s2 w1 ?_, s3⟩
                rw [hop] at hsl ⊢
                have hst : still st1 (st1.ev x) = true := hsl
                exact still_same hR1 (hR1.ev x) hst (by rw [e1]; exact hk)
              · have hsc : stillConv st1 o.op = true := by
                  rw [Bool.or_eq_true] at hst
                  exact hst.resolve_left hsl
                obtain ⟨av, z, g1, g2, g3⟩ := conv_still hT hR1 hsc h3
                exact ⟨av, z, g1, fun w1 hk => g2 w1 (by rw [e1]; exact hk), g3⟩
            clear s1 s2 s3 hput hthen av z
            obtain ⟨av, z, s1, hkw, s3⟩ := hkw
            have hput := hR1.sput hd s3
            have hthen : Then X nt env (sput st1 o.dst av) w K r N := by
              intro st' env' a' w' q1 q2 q3
              rw [sput_hp, e1] at q3
              exact hN st' env' a' w' q1 q2 q3
            refine anyG_mono (G' := fun w' => G w' ∧ KeepW env st.hp w w') (fun _ h => h.1) _ _ _ _ ?_
            refine anyG_first (C := KeepW env st.hp w) (B := B) ho (Region.noSelect_spec hsel) hDj f (maskArr ops.size m) a w hfr (.inr ⟨fun _ h => h.2, b1, b2, b3⟩) hmem ⟨Nat.le_refl _, fun _ _ _ => rfl⟩
              (fun hc => ⟨hG (hcl hc) w ⟨Nat.le_refl _, fun _ _ _ => rfl⟩, ⟨Nat.le_refl _, fun _ _ _ => rfl⟩⟩) (.inl ⟨hw, hkw⟩) ?_
            rw [maskArr_set]
            exact adraw_sound hT hY hC hsel f _ hm2 s1 hput (fun hc w' hk => by rw [sput_hp, e1] at hk; exact ⟨hG (hcl (by rw [maskArr_set]; exact hc)) w' hk, hk⟩) hthen
        · obtain ⟨hd, h2⟩ := cond_some h1
          have hput := hR1.sput hd (rel_undef (okT X st1.hp env))
          refine anyG_first (C := fun _ => True) (B := fun _ => false) ho (Region.noSelect_spec hsel) hDj f (maskArr ops.size m) a w hfr (.inl fun _ => trivial) hmem trivial (fun hc => hG (hcl hc) w ⟨Nat.le_refl _, fun _ _ _ => rfl⟩)
            (.inr ⟨hw, rfl⟩) ?_
          rw [maskArr_set]
          exact adraw_sound hT hY hC hsel f _ hm2 h2 hput (fun hc w' hk => hG (hcl (by rw [maskArr_set]; exact hc)) w' (by rw [sput_hp, e1] at hk; exact hk)) (by
            intro st' env' a' w' q1 q2 q3
            rw [sput_hp, e1] at q3
            exact hN st' env' a' w' q1 q2 q3)
      · split at h
        case h_2 => cases h
        split at h
        case h_2 => cases h
        rename_i o ho
        rw [hlist] at ho
        refine anyG_one hr (astep_sound hT hY hC hR ho h ?_)
        intro st' env' a' w' hk hR' hE hK
        have hin : (maskArr ops.size m).getD i true = false := (mem_ready.1 (by rw [hr]; simp)).1
        have hlt : i < (maskArr ops.size m).size := by
          rcases Nat.lt_or_ge i (maskArr ops.size m).size with h' | h'
          · exact h'
          · simp [Array.getElem?_eq_none h'] at hin
        have hDi : clean (dset E.kp ops) ((maskArr ops.size m).setIfInBounds i true) → dset E.kp ops i = false := fun hc => by
          cases hd : dset E.kp ops i with
          | false => rfl
          | true => have := hc i hd; simp [hlt] at this
        have hcl : clean (dset E.kp ops) ((maskArr ops.size m).setIfInBounds i true) → clean (dset E.kp ops) (maskArr ops.size m) := fun hc s hs => by
          rw [← set_getD (j := i) (fun e => by subst e; rw [hDi hc] at hs; cases hs)]; exact hc s hs
        have hdo : clean (dset E.kp ops) ((maskArr ops.size m).setIfInBounds i true) → dirtyOp E.kp o.op = false := fun hc => by
          have := hDi hc; unfold dset at this; rw [ho] at this; exact this
        refine ⟨fun hc => hG (hcl hc) w' (hK (hdo hc)).keepW, ?_⟩
        have hm2 := hm.set (j := i) (by rw [maskArr_size] at hlt; exact hlt)
        rw [maskArr_set] at hcl hdo ⊢
        refine adraw_sound hT hY hC hsel f _ hm2 hk hR' (fun hc w2 hk2 => hG (hcl hc) w2 ((hK (hdo hc)).keepW_trans hk2)) ?_
        intro st2 env2 a2 w2 q1 q2 q3
        exact hN st2 env2 a2 w2 q1 q2 (hE.trans q3)

def aregion (E : En R) (nt base : Nat) (ops : Array Oper) (draw : Bool) (st : AState) (K : AState → Option R) : Option R :=
  cond draw (cond (Region.noSelect ops) (adraw E nt base ops ops.toList (predsL ops) ops.size ops.size 0 st K) none) (aseq E nt base ops (List.range ops.size) st K)

theorem aregion_sound (hT : TOK P E.T) (hY : YOK P E.Y) (hC : CallOK P E.kp E.call) (hm : P.follows .mixedOrders = true) (hR : Rel X nt env st a w) {id : Nat} {draw : Bool} {K : AState → Option R} {r : R} {Q : Exit → Act → World → Prop}
    (h : aregion E nt base ops draw st K = some r) (hN : Then X nt env st w K r (Q .normal)) : (Code.region id ops draw).wp P Q a w := by
  unfold aregion at h
  cases draw with
  | true =>
    simp only [cond_true] at h
    obtain ⟨hs, h⟩ := cond_some h
    refine wp_region_any hm ?_
    have hR' : Rel X nt env st a { w with drawn := w.drawn + 1 } := hR.grow (Nat.le_refl _) (fun _ _ => rfl)
    have hE : Ext env st.hp w env st.hp { w with drawn := w.drawn + 1 } := Ext.grow rfl rfl rfl (Nat.le_refl _) (fun _ _ => rfl)
    refine wpAny_of_anyG (G := fun _ => True) (D := dset E.kp ops) (N := Q .normal) (fun _ _ h => h) _ _ _ _ ?_
    rw [show Array.replicate ops.size false = maskArr ops.size 0 from Array.ext (by simp [maskArr]) fun i h1 h2 => by simp [maskArr]]
    exact adraw_sound hT hY hC hs _ _ (fun k _ => Nat.zero_testBit k) h hR' (fun _ _ _ => trivial) fun st' env' a' w' q1 q2 q3 => hN st' env' a' w' q1 q2 (hE.trans q3)
  | false =>
    simp only [cond_false] at h
    exact wp_region (aseq_sound hT hY hC _ hR h hN)
end
end Go.Proofs.YtpgmkoaklpkecaaDoor.Eng

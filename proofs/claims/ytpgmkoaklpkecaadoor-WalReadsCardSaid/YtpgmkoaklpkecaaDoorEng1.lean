/- Abstract values, abstract states, and what it is for a frame and a world to be told by them. -/
import Derived.Test.YtpgmkoaklpkecaaDoorEng0
set_option linter.unusedVariables false
namespace Go.Proofs.YtpgmkoaklpkecaaDoor.Eng

/-- Abstract values. 'sl': a slice that is only read, as a list (tag: it may lie in that object's block; ex: its capacity is its length); 'own': the row of an object, whole; 'pre': its first n elements; 'ptr': an object's cell; 'ep': a place in an element of a slice that is only read; 'op': a place in an element of an object's row. -/
inductive AV where
  | top
  | int (k : IntKind) (n : Int)
  | bool (b : Bool)
  | str (xs : List Int)
  | sl (e : Ty) (xs : List e.D) (tag : Option Nat) (ex : Bool)
  | own (id : Nat)
  | pre (id n : Nat)
  | nil
  | ptr (id off : Nat)
  | ep (e : Ty) (xs : List e.D) (i off : Nat) (tag : Option Nat)
  | op (id : Nat) (e : Ty) (i off : Nat)
  | nilp
  | agg (cs : List AV)
  | tup (vs : List AV)
  | fn (f : Fn) (first cap : List AV)
  | iface (t : TypeId) (v : AV)
  | nili

/-- Objects of one's own: a block of cells; a row of elements, which may grow. -/
inductive AObj where
  | dead
  | cells (T : TypeId) (cs : List AV)
  | row (T : TypeId) (e : Ty) (xs : List e.D)

@[reducible] def AObj.live : AObj → Bool
  | .dead => false
  | _ => true

@[reducible] def AObj.isRow : AObj → Bool
  | .row _ _ _ => true
  | _ => false

theorem AObj.live_of_row {o : AObj} (h : o.isRow = true) : o.live = true := by cases o <;> first | rfl | cases h

structure AState where
  fr : Nat → AV
  hp : Nat → AObj
  sv : Nat → AV

def tagIs (x : Nat) : Option Nat → Bool
  | some y => Nat.beq y x
  | none => false

mutual
/-- Nothing is known any more of what leads to object x; with 'all' off: of what was read out of its row alone. -/
def AV.kill (all : Bool) (x : Nat) : AV → AV
  | .sl e xs tag ex => cond (tagIs x tag) .top (.sl e xs tag ex)
  | .ep e xs i off tag => cond (tagIs x tag) .top (.ep e xs i off tag)
  | .own y => cond (all && Nat.beq y x) .top (.own y)
  | .pre y n => cond (all && Nat.beq y x) .top (.pre y n)
  | .op y e i off => cond (all && Nat.beq y x) .top (.op y e i off)
  | .ptr y off => cond (all && Nat.beq y x) .top (.ptr y off)
  | .agg cs => .agg (AV.killL all x cs)
  | .tup vs => .tup (AV.killL all x vs)
  | .fn f a b => .fn f (AV.killL all x a) (AV.killL all x b)
  | .iface t v => .iface t (AV.kill all x v)
  | v => v
def AV.killL (all : Bool) (x : Nat) : List AV → List AV
  | [] => []
  | v :: vs => AV.kill all x v :: AV.killL all x vs
end

def AObj.kill (all : Bool) (x : Nat) : AObj → AObj
  | .cells T cs => .cells T (AV.killL all x cs)
  | o => o

structure Env where
  blk : Nat → Option Nat
  hdr : Nat → Value
  sv : Nat → Value

mutual
def RelV (F : Option Nat → Nat → Prop) (env : Env) (w : World) : AV → Value → Prop
  | .top, _ => True
  | .int k n, v => v = .int k n ∧ fits k n
  | .bool b, v => v = .bool b
  | .str xs, v => ∃ s, v = .string s ∧ bytesOf s = xs ∧ s.size ≤ maxLen
  | .sl e xs tag ex, v => ∃ A c, v = .slice A xs.length c ∧ xs.length ≤ c ∧ c ≤ maxLen ∧ (ex = true → c = xs.length) ∧ SlP w (F tag) e.sz (Cells w (F tag) e) xs A
  | .own id, v => v = env.hdr id ∧ ∃ A l c, v = .slice A l c
  | .pre id n, v => ∃ A l c, v = .slice A n c ∧ env.hdr id = .slice A l c ∧ n ≤ l ∧ l ≤ c ∧ c ≤ maxLen
  | .nil, v => v = .slice none 0 0
  | .ptr id off, v => ∃ b, env.blk id = some b ∧ v = .pointer (some ⟨b, off, none⟩)
  | .ep e xs i off tag, v => ∃ b o, v = .pointer (some ⟨b, o + i * e.sz + off, none⟩) ∧ i < xs.length ∧ off < e.sz ∧ Row w (F tag) e.sz (Cells w (F tag) e) xs b o
  | .op id e i off, v => ∃ b l c, env.hdr id = .slice (some ⟨b, 0, none⟩) l c ∧ i < l ∧ off < e.sz ∧ v = .pointer (some ⟨b, i * e.sz + off, none⟩)
  | .nilp, v => v = .pointer none
  | .agg cs, v => ∃ vs, v = .agg vs ∧ RelL F env w cs vs.toList
  | .tup cs, v => ∃ vs, v = .tuple vs ∧ RelL F env w cs vs.toList
  | .fn f a b, v => ∃ x y, v = .func f x y ∧ RelL F env w a x.toList ∧ RelL F env w b y.toList
  | .iface t x, v => ∃ y, v = .iface t y ∧ RelV F env w x y
  | .nili, v => v = .nilIface
def RelL (F : Option Nat → Nat → Prop) (env : Env) (w : World) : List AV → List Value → Prop
  | [], vs => vs = []
  | a :: as, vs => ∃ v vs', vs = v :: vs' ∧ RelV F env w a v ∧ RelL F env w as vs'
end

/-- The cells of a row's elements, one behind the other. -/
def Flat {α : Type} (R : α → List Value → Prop) : List α → List Value → Prop
  | [], ds => ds = []
  | x :: xs, ds => ∃ cs ds', ds = cs ++ ds' ∧ R x cs ∧ Flat R xs ds'

def RelO (F : Option Nat → Nat → Prop) (env : Env) (w : World) (id : Nat) : AObj → Prop
  | .dead => True
  | .cells T cs => ∃ b vs, env.blk id = some b ∧ w.heap[b]? = some (.cells vs T (0, 0)) ∧ RelL F env w cs vs.toList
  | .row T e xs => env.blk id = (env.hdr id).ownBlock ∧ ∃ ds, w.ownsRow 0 T e.sz (env.hdr id) xs.length ds ∧ Flat (Cells w (F none) e) xs ds

/-- Where what is only read may lie: in none of one's own blocks, and not in X; a tag lets one of these by. -/
def okT (X : Nat → Prop) (hp : Nat → AObj) (env : Env) (tag : Option Nat) (k : Nat) : Prop :=
  (tag ≠ some 0 → ¬ X k) ∧ ∀ id, (hp id).live = true → tag ≠ some id → env.blk id ≠ some k

structure Rel (X : Nat → Prop) (nt : Nat) (env : Env) (st : AState) (a : Act) (w : World) : Prop where
  fr : ∀ i, RelV (okT X st.hp env) env w (st.fr i) (a.tmps.getD i undef)
  hp : ∀ id, RelO (okT X st.hp env) env w id (st.hp id)
  inj : ∀ id id' k, (st.hp id).live = true → (st.hp id').live = true → env.blk id = some k → env.blk id' = some k → id = id'
  lt : ∀ id k, (st.hp id).live = true → env.blk id = some k → k < w.heap.size ∧ ¬ X k
  xlt : ∀ k, X k → k < w.heap.size
  sz : a.tmps.size = nt
  df : a.defers = []
  sv : ∀ i, RelV (okT X st.hp env) env w (st.sv i) (env.sv i)

/-- What a piece of code leaves: all but one's own blocks; new blocks. -/
structure Ext (env : Env) (hp : Nat → AObj) (w : World) (env' : Env) (hp' : Nat → AObj) (w' : World) : Prop where
  os : w'.os = w.os
  tape : w'.tape = w.tape
  output : w'.output = w.output
  size : w.heap.size ≤ w'.heap.size
  keep : ∀ k, k < w.heap.size → (∀ id, (hp id).live = true → env.blk id ≠ some k) → w'.heap[k]? = w.heap[k]?
  new : ∀ id k, (hp' id).live = true → env'.blk id = some k → k < w.heap.size → ∃ id0, (hp id0).live = true ∧ env.blk id0 = some k
  sv : env'.sv = env.sv

theorem Ext.refl (env : Env) (hp : Nat → AObj) (w : World) : Ext env hp w env hp w :=
  ⟨rfl, rfl, rfl, Nat.le_refl _, fun _ _ _ => rfl, fun id k h1 h2 _ => ⟨id, h1, h2⟩, rfl⟩

theorem Ext.trans {env env1 env2 : Env} {hp hp1 hp2 : Nat → AObj} {w w1 w2 : World} (h : Ext env hp w env1 hp1 w1) (k : Ext env1 hp1 w1 env2 hp2 w2) : Ext env hp w env2 hp2 w2 := by
  refine ⟨k.os.trans h.os, k.tape.trans h.tape, k.output.trans h.output, Nat.le_trans h.size k.size, fun b hb hn => ?_, fun id b h1 h2 hb => ?_, k.sv.trans h.sv⟩
  · rw [k.keep b (Nat.lt_of_lt_of_le hb h.size) (fun id hl he => ?_), h.keep b hb hn]
    obtain ⟨id0, hl0, he0⟩ := h.new id b hl he hb
    exact hn id0 hl0 he0
  · obtain ⟨id1, hl1, he1⟩ := k.new id b h1 h2 (Nat.lt_of_lt_of_le hb h.size)
    exact h.new id1 b hl1 he1 hb

/-- What a piece of code leaves that writes no cells of one's own: all but one's own rows. -/
structure RKeep (env : Env) (hp : Nat → AObj) (w : World) (env' : Env) (hp' : Nat → AObj) (w' : World) : Prop where
  size : w.heap.size ≤ w'.heap.size
  keep : ∀ k, k < w.heap.size → (∀ id, (hp id).isRow = true → env.blk id ≠ some k) → w'.heap[k]? = w.heap[k]?
  new : ∀ id k, (hp' id).isRow = true → env'.blk id = some k → k < w.heap.size → ∃ id0, (hp id0).isRow = true ∧ env.blk id0 = some k

theorem RKeep.refl (env : Env) (hp : Nat → AObj) (w : World) : RKeep env hp w env hp w :=
  ⟨Nat.le_refl _, fun _ _ _ => rfl, fun id k h1 h2 _ => ⟨id, h1, h2⟩⟩

theorem RKeep.trans {env env1 env2 : Env} {hp hp1 hp2 : Nat → AObj} {w w1 w2 : World} (h : RKeep env hp w env1 hp1 w1) (k : RKeep env1 hp1 w1 env2 hp2 w2) : RKeep env hp w env2 hp2 w2 := by
  refine ⟨Nat.le_trans h.size k.size, fun b hb hn => ?_, fun id b h1 h2 hb => ?_⟩
  · rw [k.keep b (Nat.lt_of_lt_of_le hb h.size) (fun id hl he => ?_), h.keep b hb hn]
    obtain ⟨id0, hl0, he0⟩ := h.new id b hl he hb
    exact hn id0 hl0 he0
  · obtain ⟨id1, hl1, he1⟩ := k.new id b h1 h2 (Nat.lt_of_lt_of_le hb h.size)
    exact h.new id1 b hl1 he1 hb

/-! ### Readings live on -/
section
variable {F F' : Option Nat → Nat → Prop} {env env' : Env} {w w' : World} {x : Nat} {all : Bool}

theorem tagIs_eq {x : Nat} {tag : Option Nat} : tagIs x tag = true ↔ tag = some x := by
  cases tag <;> simp [tagIs]

/-- What moves between two worlds: what may be read without tag x lives on; the objects but x stand where they stood. -/
structure Moves (F F' : Option Nat → Nat → Prop) (env env' : Env) (w w' : World) (all : Bool) (x : Nat) : Prop where
  ok : ∀ tag k, tag ≠ some x → F tag k → k < w.heap.size → F' tag k ∧ w'.heap[k]? = w.heap[k]?
  env : ∀ id, (all = true → id ≠ x) → env'.hdr id = env.hdr id ∧ env'.blk id = env.blk id

theorem all_beq {all : Bool} {x y : Nat} : ((all && Nat.beq y x) = false) → (all = true → y ≠ x) := by
  intro h ha e
  subst ha e
  simp at h

mutual
theorem RelV.kill (hm : Moves F F' env env' w w' all x) : (a : AV) → (v : Value) → RelV F env w a v → RelV F' env' w' (AV.kill all x a) v
  | .top, v, h => by simp [AV.kill, RelV]
  | .int k n, v, h => by simpa [AV.kill, RelV] using h
  | .bool b, v, h => by simpa [AV.kill, RelV] using h
  | .str xs, v, h => by simpa [AV.kill, RelV] using h
  | .nil, v, h => by simpa [AV.kill, RelV] using h
  | .nilp, v, h => by simpa [AV.kill, RelV] using h
  | .nili, v, h => by simpa [AV.kill, RelV] using h
  | .sl e xs tag ex, v, h => by
    simp only [AV.kill]
    cases ht : tagIs x tag with
    | true => simp [RelV]
    | false =>
      have hne : tag ≠ some x := fun e => by rw [tagIs_eq.2 e] at ht; cases ht
      simp only [cond_false, RelV] at h ⊢
      obtain ⟨A, c, h1, h2, h3, h4, h5⟩ := h
      exact ⟨A, c, h1, h2, h3, h4, h5.move e.sz_pos (fun k => hm.ok tag k hne) (fun y cs hy => Cells.move (fun k => hm.ok tag k hne) e hy)⟩
  | .ep e xs i off tag, v, h => by
    simp only [AV.kill]
    cases ht : tagIs x tag with
    | true => simp [RelV]
    | false =>
      have hne : tag ≠ some x := fun e => by rw [tagIs_eq.2 e] at ht; cases ht
      simp only [cond_false, RelV] at h ⊢
      obtain ⟨b, o, h1, h2, h3, h4⟩ := h
      exact ⟨b, o, h1, h2, h3, h4.move e.sz_pos (fun k => hm.ok tag k hne) (fun y cs hy => Cells.move (fun k => hm.ok tag k hne) e hy) (by intro e; subst e; simp at h2)⟩
  | .own y, v, h => by
    simp only [AV.kill]
    cases ht : (all && Nat.beq y x) with
    | true => simp [RelV]
    | false => simp only [cond_false, RelV] at h ⊢; rw [(hm.env y (all_beq ht)).1]; exact h
  | .pre y n, v, h => by
    simp only [AV.kill]
    cases ht : (all && Nat.beq y x) with
    | true => simp [RelV]
    | false => simp only [cond_false, RelV] at h ⊢; rw [(hm.env y (all_beq ht)).1]; exact h
  | .op y e i off, v, h => by
    simp only [AV.kill]
    cases ht : (all && Nat.beq y x) with
    | true => simp [RelV]
    | false => simp only [cond_false, RelV] at h ⊢; rw [(hm.env y (all_beq ht)).1]; exact h
  | .ptr y off, v, h => by
    simp only [AV.kill]
    cases ht : (all && Nat.beq y x) with
    | true => simp [RelV]
    | false => simp only [cond_false, RelV] at h ⊢; rw [(hm.env y (all_beq ht)).2]; exact h
  | .agg cs, v, h => by
    simp only [AV.kill, RelV] at h ⊢
    obtain ⟨vs, h1, h2⟩ := h
    exact ⟨vs, h1, RelL.kill hm cs _ h2⟩
  | .tup cs, v, h => by
    simp only [AV.kill, RelV] at h ⊢
    obtain ⟨vs, h1, h2⟩ := h
    exact ⟨vs, h1, RelL.kill hm cs _ h2⟩
  | .fn f a b, v, h => by
    simp only [AV.kill, RelV] at h ⊢
    obtain ⟨y, z, h1, h2, h3⟩ := h
    exact ⟨y, z, h1, RelL.kill hm a _ h2, RelL.kill hm b _ h3⟩
  | .iface t u, v, h => by
    simp only [AV.kill, RelV] at h ⊢
    obtain ⟨y, h1, h2⟩ := h
    exact ⟨y, h1, RelV.kill hm u _ h2⟩
theorem RelL.kill (hm : Moves F F' env env' w w' all x) : (as : List AV) → (vs : List Value) → RelL F env w as vs → RelL F' env' w' (AV.killL all x as) vs
  | [], vs, h => by simpa [AV.killL, RelL] using h
  | a :: as, vs, h => by
    simp only [AV.killL, RelL] at h ⊢
    obtain ⟨v, vs', h1, h2, h3⟩ := h
    exact ⟨v, vs', h1, RelV.kill hm a v h2, RelL.kill hm as vs' h3⟩
end

/-- The same where no object has turned. -/
structure Stays (F F' : Option Nat → Nat → Prop) (env env' : Env) (w w' : World) : Prop where
  ok : ∀ tag k, F tag k → k < w.heap.size → F' tag k ∧ w'.heap[k]? = w.heap[k]?
  hdr : ∀ id, env'.hdr id = env.hdr id
  blk : ∀ id, env'.blk id = env.blk id

mutual
theorem RelV.stay (hm : Stays F F' env env' w w') : (a : AV) → (v : Value) → RelV F env w a v → RelV F' env' w' a v
  | .top, v, h => by simp [RelV]
  | .int k n, v, h => by simpa [RelV] using h
  | .bool b, v, h => by simpa [RelV] using h
  | .str xs, v, h => by simpa [RelV] using h
  | .nil, v, h => by simpa [RelV] using h
  | .nilp, v, h => by simpa [RelV] using h
  | .nili, v, h => by simpa [RelV] using h
  | .sl e xs tag ex, v, h => by
    simp only [RelV] at h ⊢
    obtain ⟨A, c, h1, h2, h3, h4, h5⟩ := h
    exact ⟨A, c, h1, h2, h3, h4, h5.move e.sz_pos (fun k => hm.ok tag k) (fun y cs hy => Cells.move (fun k => hm.ok tag k) e hy)⟩
  | .ep e xs i off tag, v, h => by
    simp only [RelV] at h ⊢
    obtain ⟨b, o, h1, h2, h3, h4⟩ := h
    exact ⟨b, o, h1, h2, h3, h4.move e.sz_pos (fun k => hm.ok tag k) (fun y cs hy => Cells.move (fun k => hm.ok tag k) e hy) (by intro e; subst e; simp at h2)⟩
  | .own y, v, h => by simp only [RelV] at h ⊢; rw [hm.hdr]; exact h
  | .pre y n, v, h => by simp only [RelV] at h ⊢; rw [hm.hdr]; exact h
  | .op y e i off, v, h => by simp only [RelV] at h ⊢; rw [hm.hdr]; exact h
  | .ptr y off, v, h => by simp only [RelV] at h ⊢; rw [hm.blk]; exact h
  | .agg cs, v, h => by
    simp only [RelV] at h ⊢
    obtain ⟨vs, h1, h2⟩ := h
    exact ⟨vs, h1, RelL.stay hm cs _ h2⟩
  | .tup cs, v, h => by
    simp only [RelV] at h ⊢
    obtain ⟨vs, h1, h2⟩ := h
    exact ⟨vs, h1, RelL.stay hm cs _ h2⟩
  | .fn f a b, v, h => by
    simp only [RelV] at h ⊢
    obtain ⟨y, z, h1, h2, h3⟩ := h
    exact ⟨y, z, h1, RelL.stay hm a _ h2, RelL.stay hm b _ h3⟩
  | .iface t u, v, h => by
    simp only [RelV] at h ⊢
    obtain ⟨y, h1, h2⟩ := h
    exact ⟨y, h1, RelV.stay hm u _ h2⟩
theorem RelL.stay (hm : Stays F F' env env' w w') : (as : List AV) → (vs : List Value) → RelL F env w as vs → RelL F' env' w' as vs
  | [], vs, h => by simpa [RelL] using h
  | a :: as, vs, h => by
    simp only [RelL] at h ⊢
    obtain ⟨v, vs', h1, h2, h3⟩ := h
    exact ⟨v, vs', h1, RelV.stay hm a v h2, RelL.stay hm as vs' h3⟩
end
end

theorem RelL.length {F : Option Nat → Nat → Prop} {env : Env} {w : World} : (as : List AV) → (vs : List Value) → RelL F env w as vs → vs.length = as.length
  | [], vs, h => by simp only [RelL] at h; rw [h]; rfl
  | a :: as, vs, h => by
    simp only [RelL] at h
    obtain ⟨v, vs', rfl, _, h⟩ := h
    simp [RelL.length as vs' h]

theorem RelL.get {F : Option Nat → Nat → Prop} {env : Env} {w : World} : (as : List AV) → (vs : List Value) → RelL F env w as vs → ∀ (i : Nat) (a : AV), as[i]? = some a → ∃ v, vs[i]? = some v ∧ RelV F env w a v
  | [], vs, h, i, a, e => by simp at e
  | b :: as, vs, h, i, a, e => by
    simp only [RelL] at h
    obtain ⟨v, vs', rfl, hv, h⟩ := h
    cases i with
    | zero => simp at e; subst e; exact ⟨v, by simp, hv⟩
    | succ i => simpa using RelL.get as vs' h i a (by simpa using e)

theorem RelL.append {F : Option Nat → Nat → Prop} {env : Env} {w : World} : (as : List AV) → (vs : List Value) → (bs : List AV) → (us : List Value) → RelL F env w as vs → RelL F env w bs us → RelL F env w (as ++ bs) (vs ++ us)
  | [], vs, bs, us, h, k => by simp only [RelL] at h; subst h; simpa using k
  | a :: as, vs, bs, us, h, k => by
    simp only [RelL] at h
    obtain ⟨v, vs', rfl, hv, h⟩ := h
    exact ⟨v, vs' ++ us, rfl, hv, RelL.append as vs' bs us h k⟩

theorem RelL.drop {F : Option Nat → Nat → Prop} {env : Env} {w : World} : (n : Nat) → (as : List AV) → (vs : List Value) → RelL F env w as vs → RelL F env w (as.drop n) (vs.drop n)
  | 0, as, vs, h => by simpa using h
  | n + 1, [], vs, h => by simp only [RelL] at h; subst h; simp [RelL]
  | n + 1, a :: as, vs, h => by
    simp only [RelL] at h
    obtain ⟨v, vs', rfl, hv, h⟩ := h
    simpa using RelL.drop n as vs' h

theorem RelL.take {F : Option Nat → Nat → Prop} {env : Env} {w : World} : (n : Nat) → (as : List AV) → (vs : List Value) → RelL F env w as vs → RelL F env w (as.take n) (vs.take n)
  | 0, as, vs, h => by simp [RelL]
  | n + 1, [], vs, h => by simp only [RelL] at h; subst h; simp [RelL]
  | n + 1, a :: as, vs, h => by
    simp only [RelL] at h
    obtain ⟨v, vs', rfl, hv, h⟩ := h
    exact ⟨v, vs'.take n, rfl, hv, RelL.take n as vs' h⟩

theorem RelL.set {F : Option Nat → Nat → Prop} {env : Env} {w : World} {b : AV} {u : Value} (hb : RelV F env w b u) : (n : Nat) → (as : List AV) → (vs : List Value) → RelL F env w as vs → RelL F env w (as.set n b) (vs.set n u)
  | n, [], vs, h => by simp only [RelL] at h; subst h; simp [RelL]
  | 0, a :: as, vs, h => by
    simp only [RelL] at h
    obtain ⟨v, vs', rfl, hv, h⟩ := h
    exact ⟨u, vs', rfl, hb, h⟩
  | n + 1, a :: as, vs, h => by
    simp only [RelL] at h
    obtain ⟨v, vs', rfl, hv, h⟩ := h
    exact ⟨v, vs'.set n u, rfl, hv, RelL.set hb n as vs' h⟩

theorem RelL.of_top {F : Option Nat → Nat → Prop} {env : Env} {w : World} : (vs : List Value) → RelL F env w (List.replicate vs.length .top) vs
  | [] => by simp [RelL]
  | v :: vs => ⟨v, vs, rfl, by simp [RelV], RelL.of_top vs⟩

/-! ### Rows -/
theorem Flat.length {α : Type} {R : α → List Value → Prop} {sz : Nat} (hR : ∀ x cs, R x cs → cs.length = sz) : (xs : List α) → (ds : List Value) → Flat R xs ds → ds.length = xs.length * sz
  | [], ds, h => by simp only [Flat] at h; subst h; simp
  | x :: xs, ds, h => by
    obtain ⟨cs, ds', rfl, hx, h⟩ := h
    rw [List.length_append, hR _ _ hx, Flat.length hR xs ds' h, List.length_cons, Nat.add_mul]
    omega

theorem Flat.get {α : Type} {R : α → List Value → Prop} {sz : Nat} (hR : ∀ x cs, R x cs → cs.length = sz) : (xs : List α) → (ds : List Value) → Flat R xs ds →
    ∀ i (hi : i < xs.length), ∃ cs, R xs[i] cs ∧ cs.length = sz ∧ ∀ j (hj : j < cs.length), ds[i * sz + j]? = some cs[j]
  | [], ds, h, i, hi => by simp at hi
  | x :: xs, ds, h, i, hi => by
    obtain ⟨cs, ds', rfl, hx, h⟩ := h
    have hl := hR _ _ hx
    cases i with
    | zero => exact ⟨cs, hx, hl, fun j hj => by simp [List.getElem?_append_left hj]⟩
    | succ i =>
      obtain ⟨ds2, h1, h2, h3⟩ := Flat.get hR xs ds' h i (by simpa using hi)
      refine ⟨ds2, by simpa using h1, h2, fun j hj => ?_⟩
      rw [List.getElem?_append_right (by rw [hl, Nat.add_mul]; omega), ← h3 j hj]
      congr 1
      rw [hl, Nat.add_mul]; omega

theorem Flat.append {α : Type} {R : α → List Value → Prop} : (xs : List α) → (ds : List Value) → (ys : List α) → (es : List Value) → Flat R xs ds → Flat R ys es → Flat R (xs ++ ys) (ds ++ es)
  | [], ds, ys, es, h, k => by simp only [Flat] at h; subst h; simpa using k
  | x :: xs, ds, ys, es, h, k => by
    obtain ⟨cs, ds', rfl, hx, h⟩ := h
    exact ⟨cs, ds' ++ es, by simp, hx, Flat.append xs ds' ys es h k⟩

theorem Flat.move {α : Type} {R R' : α → List Value → Prop} (hR : ∀ x cs, R x cs → R' x cs) : (xs : List α) → (ds : List Value) → Flat R xs ds → Flat R' xs ds
  | [], ds, h => h
  | x :: xs, ds, h => by
    obtain ⟨cs, ds', rfl, hx, h⟩ := h
    exact ⟨cs, ds', rfl, hR _ _ hx, Flat.move hR xs ds' h⟩

theorem Flat.take {α : Type} {R : α → List Value → Prop} {sz : Nat} (hR : ∀ x cs, R x cs → cs.length = sz) : (n : Nat) → (xs : List α) → (ds : List Value) → Flat R xs ds → Flat R (xs.take n) (ds.take (n * sz))
  | 0, xs, ds, h => by simp [Flat]
  | n + 1, [], ds, h => by simp only [Flat] at h; subst h; simp [Flat]
  | n + 1, x :: xs, ds, h => by
    obtain ⟨cs, ds', rfl, hx, h⟩ := h
    have hl := hR _ _ hx
    refine ⟨cs, ds'.take (n * sz), ?_, hx, Flat.take hR n xs ds' h⟩
    rw [List.take_append, hl, List.take_of_length_le (by rw [hl, Nat.add_mul]; omega)]
    congr 2
    rw [Nat.add_mul]; omega

/-- Out of an element's cells the row's. -/
theorem Flat.of_get {α : Type} {R : α → List Value → Prop} {sz : Nat} {f : Nat → Value} : (xs : List α) → (o : Nat) →
    (∀ i (hi : i < xs.length), ∃ cs, R xs[i] cs ∧ cs.length = sz ∧ ∀ j (hj : j < cs.length), f (o + i * sz + j) = cs[j]) → Flat R xs ((List.range (xs.length * sz)).map fun j => f (o + j))
  | [], o, h => by simp [Flat]
  | x :: xs, o, h => by
    obtain ⟨cs, h1, h2, h3⟩ := h 0 (by simp)
    refine ⟨cs, (List.range (xs.length * sz)).map fun j => f (o + sz + j), ?_, h1, Flat.of_get xs (o + sz) fun i hi => ?_⟩
    · refine List.ext_getElem (by simp [h2, Nat.add_mul]; omega) fun j hj hj' => ?_
      simp only [List.getElem_map, List.getElem_range, List.getElem_append]
      split
      · rename_i hlt; simpa using h3 j hlt
      · rename_i hlt; congr 1; rw [h2] at hlt ⊢; omega
    · obtain ⟨cs', k1, k2, k3⟩ := h (i + 1) (by simpa using hi)
      refine ⟨cs', by simpa using k1, k2, fun j hj => ?_⟩
      rw [← k3 j hj]; congr 1; rw [Nat.add_mul]; omega

end Go.Proofs.YtpgmkoaklpkecaaDoor.Eng

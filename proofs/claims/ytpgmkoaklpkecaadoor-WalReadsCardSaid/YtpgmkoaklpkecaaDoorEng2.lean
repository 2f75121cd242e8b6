/- How states move: a slot is written; an object turns; new memory is made. -/
import Derived.Test.YtpgmkoaklpkecaaDoorEng1
set_option linter.unusedVariables false
namespace Go.Proofs.YtpgmkoaklpkecaaDoor.Eng

def AState.put (st : AState) (d : Nat) (v : AV) : AState := ⟨fun i => cond (Nat.beq i d) v (st.fr i), st.hp, st.sv⟩
/-- Object x is another one now. -/
def AState.turn (st : AState) (all : Bool) (x : Nat) (o : AObj) : AState :=
  ⟨fun i => AV.kill all x (st.fr i), fun j => cond (Nat.beq j x) o (AObj.kill all x (st.hp j)), fun i => AV.kill all x (st.sv i)⟩

theorem beq_iff {a b : Nat} : Nat.beq a b = true ↔ a = b := by rw [Nat.beq_eq]
theorem beq_false {a b : Nat} : Nat.beq a b = false ↔ a ≠ b := by
  rw [← Bool.not_eq_true, beq_iff]

theorem AObj.live_kill (all : Bool) (x : Nat) (o : AObj) : (o.kill all x).live = o.live := by cases o <;> rfl

theorem turn_live {st : AState} {all : Bool} {x : Nat} {o : AObj} {j : Nat} : ((st.turn all x o).hp j).live = if j = x then o.live else (st.hp j).live := by
  simp only [AState.turn]
  by_cases h : j = x
  · rw [beq_iff.2 h, if_pos h]; rfl
  · rw [beq_false.2 h, if_neg h]; exact AObj.live_kill _ _ _

section
variable {X : Nat → Prop} {nt : Nat} {env env' : Env} {st : AState} {a : Act} {w w' : World}

theorem getD_set (xs : Array Value) (d i : Nat) (v : Value) (hd : d < xs.size) : (xs.setIfInBounds d v).getD i undef = if i = d then v else xs.getD i undef := by
  simp only [Array.getD_eq_getD_getElem?, Array.getElem?_setIfInBounds]
  by_cases h : d = i
  · subst h; simp [hd]
  · rw [if_neg h, if_neg (fun e => h e.symm)]

theorem Rel.put (h : Rel X nt env st a w) {d : Nat} (hd : d < nt) {r : AV} {v : Value} (hr : RelV (okT X st.hp env) env w r v) : Rel X nt env (st.put d r) (a.put (some d) v) w := by
  refine ⟨fun i => ?_, h.hp, h.inj, h.lt, h.xlt, ?_, h.df, h.sv⟩
  · simp only [AState.put, Act.put]
    rw [getD_set _ _ _ _ (by rw [h.sz]; exact hd)]
    by_cases e : i = d
    · rw [beq_iff.2 e, if_pos e]; exact hr
    · rw [beq_false.2 e, if_neg e]; exact h.fr i
  · simp only [Act.put, Array.size_setIfInBounds]; exact h.sz

theorem okT_turn (h : Rel X nt env st a w) {all : Bool} {x : Nat} {o' : AObj}
    (henv : ∀ j, j ≠ x → env'.blk j = env.blk j)
    (hw : ∀ k, k < w.heap.size → ((st.hp x).live = true → env.blk x ≠ some k) → w'.heap[k]? = w.heap[k]?)
    (hblk : ∀ k, o'.live = true → env'.blk x = some k → ((st.hp x).live = true ∧ env.blk x = some k) ∨ w.heap.size ≤ k)
    (tag : Option Nat) (k : Nat) (hne : tag ≠ some x) (hF : okT X st.hp env tag k) (hk : k < w.heap.size) :
    okT X (st.turn all x o').hp env' tag k ∧ w'.heap[k]? = w.heap[k]? := by
  refine ⟨⟨hF.1, fun j hl ht he => ?_⟩, hw k hk fun hl => hF.2 x hl hne⟩
  rw [turn_live] at hl
  by_cases e : j = x
  · subst e
    rw [if_pos rfl] at hl
    rcases hblk k hl he with ⟨h1, h2⟩ | h1
    · exact hF.2 j h1 ht h2
    · omega
  · rw [if_neg e] at hl
    rw [henv j e] at he
    exact hF.2 j hl ht he

theorem RelO.kill {F F' : Option Nat → Nat → Prop} {all : Bool} {x : Nat} (hm : Moves F F' env env' w w' all x) (hx : x ≠ 0 ∨ True) {j : Nat} (hj : j ≠ x) {o : AObj}
    (hw : ∀ k, o.live = true → env.blk j = some k → w'.heap[k]? = w.heap[k]?) (h : RelO F env w j o) : RelO F' env' w' j (o.kill all x) := by
  cases o with
  | dead => trivial
  | cells T cs =>
    obtain ⟨b, vs, h1, h2, h3⟩ := h
    refine ⟨b, vs, by rw [(hm.env j fun _ => hj).2]; exact h1, by rw [hw b rfl h1]; exact h2, ?_⟩
    exact RelL.kill hm cs _ h3
  | row T e xs =>
    obtain ⟨h1, ds, h2, h3⟩ := h
    have e1 := hm.env j fun _ => hj
    refine ⟨by rw [e1.1, e1.2]; exact h1, ds, ?_, ?_⟩
    · rw [e1.1]
      refine ⟨h2.1, ?_⟩
      rcases h2.2 with h | ⟨g, cap, cur, k1, k2, k3, k4⟩
      · exact .inl h
      · refine .inr ⟨g, cap, cur, k1, k2, ?_, k4⟩
        rw [hw g rfl (by rw [h1, k1]; rfl)]; exact k3
    · exact Flat.move (fun y cs hy => Cells.move (fun k => hm.ok none k (by simp)) e hy) xs ds h3

/-- Object x turns; all else stands. -/
theorem Rel.turn (h : Rel X nt env st a w) {all : Bool} {x : Nat} {o' : AObj}
    (henv : ∀ j, (all = true → j ≠ x) → env'.hdr j = env.hdr j ∧ env'.blk j = env.blk j)
    (hsize : w.heap.size ≤ w'.heap.size)
    (hw : ∀ k, k < w.heap.size → ((st.hp x).live = true → env.blk x ≠ some k) → w'.heap[k]? = w.heap[k]?)
    (hblk : ∀ k, o'.live = true → env'.blk x = some k → ((st.hp x).live = true ∧ env.blk x = some k) ∨ (w.heap.size ≤ k ∧ k < w'.heap.size))
    (ho : RelO (okT X (st.turn all x o').hp env') env' w' x o') (hsv : env'.sv = env.sv := by rfl) : Rel X nt env' (st.turn all x o') a w' := by
  have hbl : ∀ j, j ≠ x → env'.blk j = env.blk j := fun j hj => (henv j fun _ => hj).2
  have hm : Moves (okT X st.hp env) (okT X (st.turn all x o').hp env') env env' w w' all x :=
    ⟨fun tag k hne hF hk => okT_turn h hbl hw (fun k hl he => (hblk k hl he).imp id (·.1)) tag k hne hF hk, henv⟩
  have hlt : ∀ k, o'.live = true → env'.blk x = some k → k < w'.heap.size ∧ ¬ X k := by
    intro k hl he
    rcases hblk k hl he with ⟨h1, h2⟩ | ⟨h1, h2⟩
    · exact ⟨Nat.lt_of_lt_of_le (h.lt x k h1 h2).1 hsize, (h.lt x k h1 h2).2⟩
    · exact ⟨h2, fun hX => by have := h.xlt k hX; omega⟩
  refine ⟨fun i => RelV.kill hm _ _ (h.fr i), fun j => ?_, fun i j k hi hj hbi hbj => ?_, fun j k hl he => ?_, fun k hk => Nat.lt_of_lt_of_le (h.xlt k hk) hsize, h.sz, h.df, fun i => by rw [hsv]; exact RelV.kill hm _ _ (h.sv i)⟩
  · by_cases e : j = x
    · subst e
      have : (st.turn all j o').hp j = o' := by simp [AState.turn]
      rw [this]; exact ho
    · have : (st.turn all x o').hp j = (st.hp j).kill all x := by simp [AState.turn, beq_false.2 e]
      rw [this]
      refine RelO.kill hm (.inr trivial) e (fun k hl he => ?_) (h.hp j)
      exact hw k (h.lt j k hl he).1 fun hlx hx => e (h.inj j x k hl hlx he hx)
  · rw [turn_live] at hi hj
    by_cases ei : i = x <;> by_cases ej : j = x
    · rw [ei, ej]
    · subst ei
      rw [if_pos rfl] at hi; rw [if_neg ej] at hj
      rw [hbl j ej] at hbj
      rcases hblk k hi hbi with ⟨h1, h2⟩ | ⟨h1, h2⟩
      · exact h.inj i j k h1 hj h2 hbj
      · have := (h.lt j k hj hbj).1; omega
    · subst ej
      rw [if_pos rfl] at hj; rw [if_neg ei] at hi
      rw [hbl i ei] at hbi
      rcases hblk k hj hbj with ⟨h1, h2⟩ | ⟨h1, h2⟩
      · exact h.inj i j k hi h1 hbi h2
      · have := (h.lt i k hi hbi).1; omega
    · rw [if_neg ei] at hi; rw [if_neg ej] at hj
      rw [hbl i ei] at hbi; rw [hbl j ej] at hbj
      exact h.inj i j k hi hj hbi hbj
  · rw [turn_live] at hl
    by_cases e : j = x
    · subst e
      rw [if_pos rfl] at hl
      exact hlt k hl he
    · rw [if_neg e] at hl
      rw [hbl j e] at he
      exact ⟨Nat.lt_of_lt_of_le (h.lt j k hl he).1 hsize, (h.lt j k hl he).2⟩

theorem Ext.turn {all : Bool} {x : Nat} {o' : AObj} (hos : w'.os = w.os) (htape : w'.tape = w.tape) (hout : w'.output = w.output)
    (hbl : ∀ j, j ≠ x → env'.blk j = env.blk j) (hsize : w.heap.size ≤ w'.heap.size)
    (hw : ∀ k, k < w.heap.size → ((st.hp x).live = true → env.blk x ≠ some k) → w'.heap[k]? = w.heap[k]?)
    (hblk : ∀ k, o'.live = true → env'.blk x = some k → ((st.hp x).live = true ∧ env.blk x = some k) ∨ w.heap.size ≤ k) (hsv : env'.sv = env.sv := by rfl) : Ext env st.hp w env' (st.turn all x o').hp w' := by
  refine ⟨hos, htape, hout, hsize, fun k hk hn => hw k hk fun hl => hn x hl, fun j k hl he hk => ?_, hsv⟩
  rw [turn_live] at hl
  by_cases e : j = x
  · subst e
    rw [if_pos rfl] at hl
    rcases hblk k hl he with h | h
    · exact ⟨j, h⟩
    · omega
  · rw [if_neg e] at hl
    rw [hbl j e] at he
    exact ⟨j, hl, he⟩

theorem turn_isRow {st : AState} {all : Bool} {x : Nat} {o : AObj} {j : Nat} : ((st.turn all x o).hp j).isRow = if j = x then o.isRow else (st.hp j).isRow := by
  simp only [AState.turn]
  by_cases h : j = x
  · rw [beq_iff.2 h, if_pos h]; rfl
  · rw [beq_false.2 h, if_neg h]; simp only [cond_false]; cases st.hp j <;> rfl

theorem RKeep.turn {all : Bool} {x : Nat} {o' : AObj} (hbl : ∀ j, j ≠ x → env'.blk j = env.blk j) (hsize : w.heap.size ≤ w'.heap.size)
    (hw : ∀ k, k < w.heap.size → ((st.hp x).isRow = true → env.blk x ≠ some k) → w'.heap[k]? = w.heap[k]?)
    (hblk : ∀ k, o'.isRow = true → env'.blk x = some k → ((st.hp x).isRow = true ∧ env.blk x = some k) ∨ w.heap.size ≤ k) : RKeep env st.hp w env' (st.turn all x o').hp w' := by
  refine ⟨hsize, fun k hk hn => hw k hk fun hl => hn x hl, fun j k hl he hk => ?_⟩
  rw [turn_isRow] at hl
  by_cases e : j = x
  · subst e
    rw [if_pos rfl] at hl
    rcases hblk k hl he with h | h
    · exact ⟨j, h⟩
    · omega
  · rw [if_neg e] at hl
    rw [hbl j e] at he
    exact ⟨j, hl, he⟩

/-- New memory alone. -/
theorem Rel.grow (h : Rel X nt env st a w) (hsize : w.heap.size ≤ w'.heap.size) (hw : ∀ k, k < w.heap.size → w'.heap[k]? = w.heap[k]?) : Rel X nt env st a w' := by
  have hm : Stays (okT X st.hp env) (okT X st.hp env) env env w w' := ⟨fun tag k hF hk => ⟨hF, hw k hk⟩, fun _ => rfl, fun _ => rfl⟩
  refine ⟨fun i => RelV.stay hm _ _ (h.fr i), fun j => ?_, h.inj, fun j k hl he => ⟨Nat.lt_of_lt_of_le (h.lt j k hl he).1 hsize, (h.lt j k hl he).2⟩, fun k hk => Nat.lt_of_lt_of_le (h.xlt k hk) hsize, h.sz, h.df, fun i => RelV.stay hm _ _ (h.sv i)⟩
  have ho := h.hp j
  cases e : st.hp j with
  | dead => trivial
  | cells T cs =>
    rw [e] at ho
    obtain ⟨b, vs, h1, h2, h3⟩ := ho
    have hb := (h.lt j b (by rw [e]) h1).1
    exact ⟨b, vs, h1, by rw [hw b hb]; exact h2, RelL.stay hm cs _ h3⟩
  | row T t xs =>
    rw [e] at ho
    obtain ⟨h1, ds, h2, h3⟩ := ho
    refine ⟨h1, ds, ⟨h2.1, ?_⟩, Flat.move (fun y cs hy => Cells.move (fun k => hm.ok none k) t hy) xs ds h3⟩
    rcases h2.2 with k | ⟨g, cap, cur, k1, k2, k3, k4⟩
    · exact .inl k
    · refine .inr ⟨g, cap, cur, k1, k2, ?_, k4⟩
      rw [hw g (h.lt j g (by rw [e]) (by rw [h1, k1]; rfl)).1]; exact k3

theorem Ext.grow {hp : Nat → AObj} (hos : w'.os = w.os) (htape : w'.tape = w.tape) (hout : w'.output = w.output) (hsize : w.heap.size ≤ w'.heap.size) (hw : ∀ k, k < w.heap.size → w'.heap[k]? = w.heap[k]?) : Ext env hp w env hp w' :=
  ⟨hos, htape, hout, hsize, fun k hk _ => hw k hk, fun id k h1 h2 _ => ⟨id, h1, h2⟩, rfl⟩
end
end Go.Proofs.YtpgmkoaklpkecaaDoor.Eng

/- Statements that draw their order: an operation that only makes a value may be taken first. -/
import Derived.Test.YtpgmkoaklpkecaaDoorEng10
import Derived.Orders
set_option linter.unusedVariables false
set_option linter.unusedSimpArgs false
namespace Go.Proofs.YtpgmkoaklpkecaaDoor.Eng

def NoQ : Exit → Act → World → Prop := fun _ _ _ => False

section
variable {P : Program} {ops : Array Oper} {md : Region.Mode} {Q : Exit → Act → World → Prop}

theorem upon_noQ {o : Oper} {a : Act} {K : Act → World → Prop} {x : Result Next} (h : o.upon P a K NoQ x) : o.upon P a K Q x := by
  cases x with
  | ok n w' =>
    cases n <;> simp only [Oper.upon] at h ⊢ <;> try exact h
    refine Calls.mono h fun e w'' he => ?_
    cases e with
    | returned v => exact he
    | panicked c => exact he.elim
    | outgrown => obtain ⟨_, _, h⟩ := he; exact h.elim
  | halt x w' =>
    cases x <;> simp only [Oper.upon] at h ⊢
    exact h.elim

theorem wpOp_noQ {i : Nat} {K : Act → World → Prop} {a : Act} {w : World} (h : wpOp P ops NoQ i K a w) : wpOp P ops Q i K a w := by
  unfold wpOp at *
  split
  · rename_i ho; simp only [ho] at h; exact h
  · rename_i o ho
    simp only [ho] at h
    split
    · rename_i hw
      simp only [hw, if_true] at h
      rcases h with h | ⟨_, _, _, h⟩
      · exact .inl (upon_noQ h)
      · exact h.elim
    · rename_i hw
      simp only [hw] at h
      exact h

/-- In every world of C the operation makes v, and nothing else; or it is not wanted. -/
def YC (P : Program) (ops : Array Oper) (C : World → Prop) (o : Oper) (v : Value) (a : Act) : Prop :=
  (Region.wanted o (yielded ops a.tmps) = true ∧ ∀ w, C w → (execOp a.eval o).run P w = .ok (.value v) w) ∨ (Region.wanted o (yielded ops a.tmps) = false ∧ v = undef)

variable {C G : World → Prop}

theorem YC.wpOp {i : Nat} {o : Oper} {v : Value} {a : Act} (hi : ops[i]? = some o) (hy : YC P ops C o v a) {K : Act → World → Prop} {w : World} (hw : C w) (h : K (a.put o.dst v) w) : wpOp P ops Q i K a w := by
  unfold Go.wpOp
  simp only [hi]
  rcases hy with ⟨h1, h2⟩ | ⟨h1, rfl⟩
  · rw [if_pos h1]
    refine .inl ?_
    unfold Oper.wp
    rw [h2 w hw]
    exact h
  · rw [if_neg (by rw [h1]; simp)]; exact h

theorem YC.same {o : Oper} {v : Value} {a a' : Act} (hy : YC P ops C o v a) (he : execOp a'.eval o = execOp a.eval o) (hw : Region.wanted o (yielded ops a'.tmps) = Region.wanted o (yielded ops a.tmps)) : YC P ops C o v a' := by
  unfold YC at *
  rw [he, hw]; exact hy

/-- Operation j beside operation i: it goes as it goes once i's value is in its slot. -/
theorem op_beside {j : Nat} {oi oj : Oper} {v : Value} (hj : ops[j]? = some oj) (hap : oi.apart ops oj = true) (hsi : ∀ cs b, oi.op ≠ .select cs b) (hsj : ∀ cs b, oj.op ≠ .select cs b)
    {K : Act → World → Prop} {a : Act} {w : World} (hy : YC P ops C oi v a) (h : wpOp P ops NoQ j K (a.put oi.dst v) w) : wpOp P ops NoQ j (fun a' w' => YC P ops C oi v a' ∧ K (a'.put oi.dst v) w') a w := by
  obtain ⟨h1, h2, h3⟩ := Oper.apart_spec hap
  have keep : ∀ (a : Act), YC P ops C oi v a → ∀ u, YC P ops C oi v (a.put oj.dst u) := fun a hy u => hy.same (execOp_put oi hsi a oj.dst u h3) (wanted_put oi a oj.dst u h3)
  unfold wpOp at *
  simp only [hj] at *
  rw [wanted_put oj a oi.dst v h1] at h
  by_cases hw : Region.wanted oj (yielded ops a.tmps) = true
  · rw [if_pos hw] at h ⊢
    rcases h with h | ⟨_, _, _, h⟩
    case inr => exact h.elim
    refine .inl ?_
    unfold Oper.wp at *
    rw [execOp_put oj hsj a oi.dst v h1] at h
    generalize (execOp a.eval oj).run P w = x at *
    have mv : ∀ u w', K ((a.put oi.dst v).put oj.dst u) w' → YC P ops C oi v (a.put oj.dst u) ∧ K ((a.put oj.dst u).put oi.dst v) w' := fun u w' hk =>
      ⟨keep a hy u, by rw [← Act.put_comm a v u h2]; exact hk⟩
    cases x with
    | halt x w' => cases x <;> simp only [Oper.upon] at h ⊢ <;> exact h
    | ok n w' =>
      cases n with
      | value u => exact mv u w' h
      | skip => exact mv undef w' h
      | enter f args =>
        refine Calls.mono h fun e w'' he => ?_
        cases e with
        | returned u => exact mv u w'' he
        | panicked c => exact he
        | outgrown => exact he
      | row rw' args => exact Rows.mono h fun u w'' he => mv u w'' he
      | defer d =>
        refine ⟨keep { a with defers := d :: a.defers } (hy.same rfl rfl) undef, ?_⟩
        have h : K (({ a.put oi.dst v with defers := d :: (a.put oi.dst v).defers } : Act).put oj.dst undef) w' := h
        rw [← Act.put_comm _ v undef h2, ← Act.put_defers]
        exact h
      | _ => exact h
  · rw [if_neg hw] at h ⊢
    exact ⟨keep a hy undef, by rw [← Act.put_comm a v undef h2]; exact h⟩

/-- No operation of D has been done. -/
def clean (D : Nat → Bool) (L : Array Bool) : Prop := ∀ s, D s = true → L.getD s true = false

/-- Whatever order; G is told of every world as long as no operation of D has been done. -/
def anyG (P : Program) (md : Region.Mode) (ops : Array Oper) (D : Nat → Bool) (G : World → Prop) (N : Act → World → Prop) : Nat → Array Bool → Act → World → Prop
  | 0, L, a, w => Region.ready md ops L = [] ∧ N a w
  | f + 1, L, a, w => (Region.ready md ops L = [] → N a w) ∧
    ∀ i ∈ Region.ready md ops L, wpOp P ops NoQ i (fun a' w' => (clean D (L.setIfInBounds i true) → G w') ∧ anyG P md ops D G N f (L.setIfInBounds i true) a' w') a w

variable {D : Nat → Bool} {N : Act → World → Prop}

theorem anyG_mono {G' : World → Prop} (hG : ∀ w, G' w → G w) : ∀ (f : Nat) (L : Array Bool) (a : Act) (w : World), anyG P md ops D G' N f L a w → anyG P md ops D G N f L a w
  | 0, L, a, w, h => h
  | f + 1, L, a, w, h => ⟨h.1, fun i hi => wpOp_mono (fun a' w' hk => ⟨fun hc => hG _ (hk.1 hc), anyG_mono hG f _ a' w' hk.2⟩) (h.2 i hi)⟩

theorem wpAny_of_anyG (hN : ∀ a w, N a w → Q .normal a w) : ∀ (f : Nat) (L : Array Bool) (a : Act) (w : World), anyG P md ops D G N f L a w → wpAny P md ops Q f L a w
  | 0, L, a, w, h => ⟨h.1, hN _ _ h.2⟩
  | f + 1, L, a, w, h => ⟨fun e => hN _ _ (h.1 e), fun i hi => wpOp_noQ (wpOp_mono (fun a' w' hk => wpAny_of_anyG hN f _ a' w' hk.2) (h.2 i hi))⟩

theorem anyG_done {L : Array Bool} {a : Act} {w : World} (hr : Region.ready md ops L = []) (h : N a w) : ∀ f, anyG P md ops D G N f L a w
  | 0 => ⟨hr, h⟩
  | _ + 1 => ⟨fun _ => h, by rw [hr]; simp⟩

theorem anyG_one {L : Array Bool} {a : Act} {w : World} {i f : Nat} (hr : Region.ready md ops L = [i])
    (h : wpOp P ops NoQ i (fun a' w' => (clean D (L.setIfInBounds i true) → G w') ∧ anyG P md ops D G N f (L.setIfInBounds i true) a' w') a w) : anyG P md ops D G N (f + 1) L a w := by
  refine ⟨fun e => (by rw [hr] at e; cases e), fun j hj => ?_⟩
  rw [hr] at hj
  simp only [List.mem_singleton] at hj
  subst hj; exact h

theorem set_getD {L : Array Bool} {j k : Nat} (h : k ≠ j) : (L.setIfInBounds j true).getD k true = L.getD k true := getD_set_ne true (Ne.symm h)

/-- All that waits, straight or through others, for i. -/
def Waits (md : Region.Mode) (ops : Array Oper) (i : Nat) (B : Nat → Bool) (L : Array Bool) : Prop :=
  ∀ k, B k = true → L.getD k true = false ∧ (k = i ∨ ∃ ok, ops[k]? = some ok ∧ ∃ e ∈ ok.after, Region.binds md e = true ∧ B e.on = true)

theorem Waits.not_ready {i : Nat} {B : Nat → Bool} {L : Array Bool} (h : Waits md ops i B L) {j : Nat} (hj : j ∈ Region.ready md ops L) (hne : j ≠ i) : B j = false := by
  cases hb : B j with
  | false => rfl
  | true =>
    obtain ⟨_, hk⟩ := h j hb
    rcases hk with hk | ⟨ok, ho, e, he, hbd, hbe⟩
    · exact absurd hk hne
    · obtain ⟨_, o', ho', hall⟩ := mem_ready.1 hj
      rw [ho] at ho'
      injection ho' with ho'
      subst ho'
      have h1 := hall e he hbd
      have h2 := (h e.on hbe).1
      rcases Nat.lt_or_ge e.on L.size with hlt | hge
      · simp [hlt] at h1 h2; rw [h1] at h2; cases h2
      · simp [Array.getElem?_eq_none hge] at h1

theorem anyG_first {i : Nat} {oi : Oper} {v : Value} {B : Nat → Bool} (hi : ops[i]? = some oi) (hsel : ∀ (j : Nat) (o : Oper) cs b, ops[j]? = some o → o.op ≠ .select cs b) (hDi : D i = false) :
    ∀ (f : Nat) (L : Array Bool) (a : Act) (w : World),
      (∀ j oj, ops[j]? = some oj → j ≠ i → L.getD j true = false → (∀ e ∈ oj.after, Region.binds md e = true → e.on ≠ i) → oi.apart ops oj = true) →
      ((∀ w, C w) ∨ ((∀ w, G w → C w) ∧ clean D L ∧ Waits md ops i B L ∧ ∀ s, D s = true → B s = true)) →
      i ∈ Region.ready md ops L → C w → (clean D (L.setIfInBounds i true) → G w) → YC P ops C oi v a →
      anyG P md ops D G N f (L.setIfInBounds i true) (a.put oi.dst v) w → anyG P md ops D G N (f + 1) L a w := by
  intro f
  induction f with
  | zero =>
    intro L a w hfree hC hr hw hGw hy H
    refine ⟨fun h => (by rw [h] at hr; cases hr), fun j hj => ?_⟩
    by_cases hji : j = i
    · subst hji; exact hy.wpOp hi hw ⟨hGw, H⟩
    · have := ready_mono hj hji
      rw [H.1] at this; cases this
  | succ f ih =>
    intro L a w hfree hC hr hw hGw hy H
    refine ⟨fun h => (by rw [h] at hr; cases hr), fun j hj => ?_⟩
    by_cases hji : j = i
    · subst hji; exact hy.wpOp hi hw ⟨hGw, H⟩
    · have h1 := H.2 j (ready_mono hj hji)
      obtain ⟨hjun, oj, hoj, hall⟩ := mem_ready.1 hj
      have hnot : ∀ e ∈ oj.after, Region.binds md e = true → e.on ≠ i := fun e he hb heq => by
        have h1 := hall e he hb
        have h0 := (mem_ready.1 hr).1
        rw [heq] at h1
        rcases Nat.lt_or_ge i L.size with h' | h'
        · simp [h'] at h0 h1; rw [h0] at h1; cases h1
        · simp [Array.getElem?_eq_none h'] at h1
      have h2 := op_beside hoj (hfree j oj hoj hji hjun hnot) (fun cs b => hsel i oi cs b hi) (fun cs b => hsel j oj cs b hoj) hy h1
      have hcomm : (L.setIfInBounds i true).setIfInBounds j true = (L.setIfInBounds j true).setIfInBounds i true := Array.setIfInBounds_comm _ _ (Ne.symm hji)
      refine wpOp_mono (fun a' w' h3 => ?_) h2
      obtain ⟨hy', hG', H'⟩ := h3
      have hcl : clean D (L.setIfInBounds j true) → clean D ((L.setIfInBounds i true).setIfInBounds j true) := fun hc s hs => by
        rw [hcomm, set_getD (fun e => by subst e; rw [hDi] at hs; cases hs)]; exact hc s hs
      refine ⟨fun hc => hG' (hcl hc), ih _ a' w' ?_ ?_ (ready_mono hr (Ne.symm hji)) ?_ (fun hc => hG' (by rw [hcomm]; exact hc)) hy' (by rw [← hcomm]; exact H')⟩
      · intro k ok hk hki hun hno
        refine hfree k ok hk hki ?_ hno
        by_cases hjk : j = k
        · subst hjk; exact hjun
        · rw [getD_set_ne true hjk] at hun; exact hun
      · rcases hC with hC | ⟨c1, c2, c3, c4⟩
        · exact .inl hC
        · have hbj := c3.not_ready hj hji
          refine .inr ⟨c1, fun s hs => ?_, fun k hk => ?_, c4⟩
          · rw [set_getD (fun e => by subst e; rw [c4 _ hs] at hbj; cases hbj)]; exact c2 s hs
          · rw [set_getD (fun e => by subst e; rw [hk] at hbj; cases hbj)]; exact c3 k hk
      · rcases hC with hC | ⟨c1, c2, c3, c4⟩
        · exact hC w'
        · have hbj := c3.not_ready hj hji
          refine c1 w' (hG' (hcl fun s hs => ?_))
          rw [set_getD (fun e => by subst e; rw [c4 _ hs] at hbj; cases hbj)]; exact c2 s hs
end
end Go.Proofs.YtpgmkoaklpkecaaDoor.Eng

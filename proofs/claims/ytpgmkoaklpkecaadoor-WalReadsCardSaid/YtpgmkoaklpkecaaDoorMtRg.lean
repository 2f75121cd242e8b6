/- Logs: all records. -/
import Derived.Test.YtpgmkoaklpkecaaDoorMtRf
set_option linter.unusedVariables false
namespace Go.Proofs.YtpgmkoaklpkecaaDoor.Eng

theorem dataS_length {b : List Int} {a : Nat} (hf : fragOk b a) : (dataS b a).length = lenS b a := by
  obtain ⟨h1, h2, h3, h4⟩ := hf
  unfold dataS
  rw [List.length_drop, List.length_take]; omega

theorem oneS_lt : (m : Nat) → {b : List Int} → {a : Nat} → {bg : Bool} → {out r : List Int} → {e : Nat} → b.length - a ≤ m → oneS b a bg out = some (r, e) → a < e ∧ e ≤ b.length ∧ r.length + a ≤ out.length + e
  | m, b, a, bg, out, r, e, hm, h => by
    rw [oneS] at h
    by_cases h57 : 57 < a % 64
    · rw [dif_pos h57] at h
      by_cases hz : (b.drop a).take (64 - a % 64) = List.replicate (64 - a % 64) 0
      · rw [dif_pos hz] at h
        have hl := congrArg List.length hz
        rw [List.length_take, List.length_drop, List.length_replicate] at hl
        cases m with
        | zero => omega
        | succ m =>
          have := oneS_lt m (by omega) h
          omega
      · rw [dif_neg hz] at h; cases h
    · rw [dif_neg h57] at h
      by_cases hf : fragOk b a
      · rw [dif_pos hf] at h
        have hd := dataS_length hf
        obtain ⟨h1, h2, h3, h4⟩ := hf
        by_cases hk : kindOk bg (b.getD (a + 6) 0)
        · rw [if_pos hk] at h
          by_cases h14 : b.getD (a + 6) 0 = 1 ∨ b.getD (a + 6) 0 = 4
          · rw [if_pos h14] at h
            simp only [Option.some.injEq, Prod.mk.injEq] at h
            obtain ⟨rfl, rfl⟩ := h
            rw [List.length_append]; omega
          · rw [if_neg h14] at h
            by_cases h0 : (a + 7 + lenS b a) % 64 = 0
            · rw [if_pos h0] at h
              cases m with
              | zero => omega
              | succ m =>
                have := oneS_lt m (by omega) h
                rw [List.length_append] at this
                omega
            · rw [if_neg h0] at h; cases h
        · rw [if_neg hk] at h; cases h
      · rw [dif_neg hf] at h; cases h

inductive Reads (b : List Int) : Nat → List (List Int) → Nat → Prop
  | stop {a : Nat} : oneS b a false [] = none → Reads b a [] a
  | more {a e n : Nat} {r : List Int} {ls : List (List Int)} : oneS b a false [] = some (r, e) → Reads b e ls n → Reads b a (r :: ls) n

theorem reads_ex (b : List Int) : (m : Nat) → (a : Nat) → b.length - a ≤ m → ∃ ls n, Reads b a ls n
  | m, a, hm => by
    cases h : oneS b a false [] with
    | none => exact ⟨_, _, .stop h⟩
    | some x =>
      obtain ⟨r, e⟩ := x
      have hlt := oneS_lt _ (Nat.le_refl _) h
      cases m with
      | zero => omega
      | succ m =>
        obtain ⟨ls, n, hr⟩ := reads_ex b m e (by omega)
        exact ⟨_, _, .more h hr⟩

theorem reads_le {b : List Int} {a n : Nat} {ls : List (List Int)} (h : Reads b a ls n) (ha : a ≤ b.length) : a ≤ n ∧ n ≤ b.length ∧ ls.length + a ≤ n := by
  induction h with
  | stop h => exact ⟨Nat.le_refl _, ha, by simp⟩
  | more h hr ih =>
    have hlt := oneS_lt _ (Nat.le_refl _) h
    have := ih hlt.2.1
    rw [List.length_cons]; omega

theorem read_code {k : Nat} {b : List Int} (hl : b.length ≤ 100000) (hb : ∀ x ∈ b, fits .u8 x) (hk : b.length + 100 ≤ k) {ls : List (List Int)} {n : Nat} (hr : Reads b 0 ls n) : F11 k (b, ()) = some (ls, ((n : Int), ())) := by
  unfold F11
  revert ls n
  refine iter_inv (fun (t : ((Unit × (Int × ((List Int) × Unit))) × (Unit × ((List (List Int)) × Unit)))) => b = t.1.2.2.1 ∧ 0 ≤ t.1.2.1 ∧ t.1.2.1 ≤ b.length ∧ t.2.2.1.length ≤ t.1.2.1.toNat)
    (fun t => b.length - t.1.2.1.toNat) (fun t r => ∀ {ls : List (List Int)} {n : Nat}, Reads b t.1.2.1.toNat ls n → r = some (t.2.2.1 ++ ls, ((n : Int), ()))) ?_ k (((), ((0 : Int), (b, ()))), ((), (([] : List (List Int)), ()))) ⟨rfl, Int.le_refl 0, by dsimp only; omega, Nat.le_refl 0⟩ (by dsimp only; omega)
  rintro ⟨⟨u1, at_, b', u2⟩, u3, out, u4⟩ next ⟨e1, ha0, ha1, ho⟩
  dsimp only at e1 ha0 ha1 ho ⊢
  subst e1
  obtain ⟨a, rfl⟩ := Int.eq_ofNat_of_zero_le ha0
  rw [Int.toNat_natCast] at ho ⊢
  have hrec := record_code (k := k) hl hb hk (a0 := a) (by omega)
  cases h : oneS b a false [] with
  | none =>
    rw [h] at hrec
    obtain ⟨x, y, hx⟩ := hrec
    left
    intro ls n hr
    rw [hx]
    cases hr with
    | stop h => show some (out, _) = _; rw [List.append_nil]
    | more h2 hr => rw [h] at h2; cases h2
  | some x =>
    obtain ⟨r, e⟩ := x
    rw [h] at hrec
    have hlt := oneS_lt _ (Nat.le_refl _) h
    right
    refine ⟨(((), ((e : Int), (b, ()))), ((), (out ++ [r], ()))), ?_, ⟨rfl, by dsimp only; omega, by dsimp only; omega, by dsimp only; rw [List.length_append, List.length_singleton]; omega⟩, by dsimp only; omega, ?_⟩
    · rw [show F24 k (b, ((a : Int), ())) = _ from hrec]
      simp only [Option.bind_some, Bool.not_true, cond_false]
      rw [cdt (by simp only [List.length_cons, List.length_nil]; omega)]
    · intro v hv ls n hr
      dsimp only at hv
      rw [Int.toNat_natCast] at hv
      cases hr with
      | stop h2 => rw [h] at h2; cases h2
      | more h2 hr =>
        rw [h] at h2
        simp only [Option.some.injEq, Prod.mk.injEq] at h2
        obtain ⟨rfl, rfl⟩ := h2
        rw [hv hr, List.append_assoc]
        rfl

theorem lists_self {k : Nat} {l : List (List Int)} (hl : l.length ≤ 100000) (hk : l.length < k) : F13 k (l, (l, ())) = some (true, ()) := by
  unfold F13
  dsimp only
  rw [show bne (NatCast.natCast l.length : Int) (NatCast.natCast l.length) = false from bne_self_eq_false _, cond_false]
  refine iter_keep (fun (t : (Int × ((List (List Int)) × ((List (List Int)) × Unit)))) => l = t.2.1 ∧ l = t.2.2.1 ∧ 0 ≤ t.1 ∧ t.1 ≤ l.length) (fun t => l.length - t.1.toNat) (fun _ => some (true, ())) ?_ k _ ⟨rfl, rfl, Int.le_refl 0, by dsimp only; omega⟩ (by dsimp only; omega)
  rintro ⟨i, l1, l2, u⟩ next ⟨e1, e2, hi, hi2⟩
  dsimp only at e1 e2 hi hi2 ⊢
  subst e1 e2
  by_cases hlt : i < (l.length : Int)
  · right
    rw [cdt (p := i < NatCast.natCast l.length) hlt, cdt hi, cdt (p := i < NatCast.natCast l.length) hlt, cdt hi, cdt (p := i < NatCast.natCast l.length) hlt, beq_self_eq_true, Bool.not_true, cond_false, wr_i64 (n := i + 1) (by omega) (by omega)]
    exact ⟨_, rfl, ⟨rfl, rfl, by dsimp only; omega, by dsimp only; omega⟩, by dsimp only; omega, rfl⟩
  · left
    rw [cdf (p := i < NatCast.natCast l.length) hlt]

theorem bytes_self (k : Nat) (l : List Int) : F14 k (l, (l, ())) = some (true, ()) := by
  unfold F14
  dsimp only
  rw [beq_self_eq_true]
end Go.Proofs.YtpgmkoaklpkecaaDoor.Eng

/- The law WalReads. -/
import Derived.Test.YtpgmkoaklpkecaaDoorMtRg
import Derived.Test.YtpgmkoaklpkecaaDoorEng21
set_option linter.unusedVariables false
namespace Go.Proofs.YtpgmkoaklpkecaaDoor.Eng

theorem read_ref {k : Nat} {b : List Int} (hl : b.length ≤ 100000) (hb : ∀ x ∈ b, fits .u8 x) (hk : b.length + 100 ≤ k) {ls : List (List Int)} {n : Nat} (hr : Reads b 0 ls n) : F12 k (b, ()) = some (ls, ((n : Int), ())) := by
  unfold F12
  revert ls n
  refine iter_inv (fun (t : ((Unit × (Int × ((List Int) × Unit))) × (Unit × ((List (List Int)) × Unit)))) => b = t.1.2.2.1 ∧ 0 ≤ t.1.2.1 ∧ t.1.2.1 ≤ b.length ∧ t.2.2.1.length ≤ t.1.2.1.toNat)
    (fun t => b.length - t.1.2.1.toNat) (fun t r => ∀ {ls : List (List Int)} {n : Nat}, Reads b t.1.2.1.toNat ls n → r = some (t.2.2.1 ++ ls, ((n : Int), ()))) ?_ k (((), ((0 : Int), (b, ()))), ((), (([] : List (List Int)), ()))) ⟨rfl, Int.le_refl 0, by dsimp only; omega, Nat.le_refl 0⟩ (by dsimp only; omega)
  rintro ⟨⟨u1, at_, b', u2⟩, u3, out, u4⟩ next ⟨e1, ha0, ha1, ho⟩
  dsimp only at e1 ha0 ha1 ho ⊢
  subst e1
  obtain ⟨a, rfl⟩ := Int.eq_ofNat_of_zero_le ha0
  rw [Int.toNat_natCast] at ho ⊢
  have hrec := one_ref (k := k) hl hb hk (a0 := a) (by omega)
  by_cases hend : (a : Int) < (b.length : Int)
  rotate_left
  · left
    intro ls n hr
    rw [cdf (p := (a : Int) < NatCast.natCast b.length) hend]
    cases hr with
    | stop h => show some (out, _) = _; rw [List.append_nil]
    | more h2 hr => have := oneS_lt _ (Nat.le_refl _) h2; omega
  rw [cdt (p := (a : Int) < NatCast.natCast b.length) hend]
  cases h : oneS b a false [] with
  | none =>
    rw [h] at hrec
    obtain ⟨x, y, hx⟩ := hrec
    left
    intro ls n hr
    rw [hx]
    cases hr with
    | stop h => show some (out, _) = _; rw [List.append_nil]
    | more h2 hr => rw [h] at h2; cases h2
  | some x =>
    obtain ⟨r, e⟩ := x
    rw [h] at hrec
    have hlt := oneS_lt _ (Nat.le_refl _) h
    right
    refine ⟨(((), ((e : Int), (b, ()))), ((), (out ++ [r], ()))), ?_, ⟨rfl, by dsimp only; omega, by dsimp only; omega, by dsimp only; rw [List.length_append, List.length_singleton]; omega⟩, by dsimp only; omega, ?_⟩
    · rw [show F25 k (b, ((a : Int), ())) = _ from hrec]
      simp only [Option.bind_some, Bool.not_true, cond_false]
      rw [cdt (by simp only [List.length_cons, List.length_nil]; omega)]
    · intro v hv ls n hr
      dsimp only at hv
      rw [Int.toNat_natCast] at hv
      cases hr with
      | stop h2 => rw [h] at h2; cases h2
      | more h2 hr =>
        rw [h] at h2
        simp only [Option.some.injEq, Prod.mk.injEq] at h2
        obtain ⟨rfl, rfl⟩ := h2
        rw [hv hr, List.append_assoc]
        rfl

theorem law_WalReads : ∀ xs, OkS [((.sl (.int .u8)), false)] xs → ∃ k, F3 k xs = some (true, ()) := by
  have main : ∀ (b : List Int), (∀ x ∈ b, fits .u8 x) → ∃ k, F3 k (b, ()) = some (true, ()) := by
    intro b hb
    refine ⟨70000, ?_⟩
    unfold F3
    dsimp only
    rw [known_wal]
    simp only [Option.bind_some, Bool.not_true, cond_false]
    by_cases h1 : (5000 : Int) < (b.length : Int)
    · rw [cdt (p := (5000 : Int) < NatCast.natCast b.length) h1]
    obtain ⟨ls, n, hr⟩ := reads_ex b _ 0 (Nat.le_refl _)
    have hle := reads_le hr (Nat.zero_le _)
    rw [cdf (p := (5000 : Int) < NatCast.natCast b.length) h1, cdt (by omega), read_code (by omega) hb (by omega) hr, read_ref (by omega) hb (by omega) hr]
    simp only [Option.bind_some]
    rw [show bne (n : Int) (n : Int) = false from bne_self_eq_false _, cond_false, lists_self (by omega) (by omega)]
    simp only [Option.bind_some, Bool.not_true, cond_false]
    rw [bytes_self]
    simp only [Option.bind_some, Bool.not_true, cond_false]
    refine iter_to (fun (t : ((Int × (Unit × Unit)) × ((Unit × ((List (List Int)) × ((List (List Int)) × (Unit × Unit)))) × ((List Int) × Unit)))) => 0 ≤ t.1.1 ∧ t.1.1 ≤ b.length ∧ t.2.2.1.length = b.length ∧ ls = t.2.1.2.1 ∧ ls = t.2.1.2.2.1)
      (fun t => b.length - t.1.1.toNat) (fun _ => some (true, ())) ?_ _ _ ⟨Int.le_refl 0, by dsimp only; omega, rfl, rfl, rfl⟩ (by dsimp only; omega)
    rintro ⟨⟨i, u1, u2⟩, ⟨u3, l1, l2, u4, u5⟩, lent, u6⟩ next ⟨hi, hi2, hll, e1, e2⟩
    dsimp only at hi hi2 hll e1 e2 ⊢
    subst e1 e2
    by_cases hlt : i < (lent.length : Int)
    · right
      rw [cdt (p := i < NatCast.natCast lent.length) hlt, cdt hi, cdt (p := i < NatCast.natCast lent.length) hlt, wr_i64 (n := i + 1) (by omega) (by omega)]
      exact ⟨_, rfl, ⟨by dsimp only; omega, by dsimp only; omega, by dsimp only; rw [List.length_set]; exact hll, rfl, rfl⟩, by dsimp only; omega, rfl⟩
    · left
      rw [cdf (p := i < NatCast.natCast lent.length) hlt, lists_self (by omega) (by omega)]
      rfl
  exact fun xs h => main xs.1 h.1.2
end Go.Proofs.YtpgmkoaklpkecaaDoor.Eng

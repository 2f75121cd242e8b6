/- Plain laws: loops told by what they come to; small numbers. -/
import Derived.Test.YtpgmkoaklpkecaaDoorEng20
import Derived.Laws.BitsAllLaws
import Derived.Laws.Bits64
import Derived.Laws.Closers25b
set_option linter.unusedVariables false
namespace Go.Proofs.YtpgmkoaklpkecaaDoor.Eng

theorem iter_to {R τ : Type} {body : τ → (τ → Option R) → Option R} (I : τ → Prop) (μ : τ → Nat) (G : τ → Option R)
    (h : ∀ t next, I t → body t next = G t ∨ ∃ t', body t next = next t' ∧ I t' ∧ μ t' < μ t ∧ G t' = G t) : ∀ n t, I t → μ t < n → iter body n t = G t := by
  intro n
  induction n with
  | zero => exact fun t _ h => absurd h (Nat.not_lt_zero _)
  | succ n ih =>
    intro t hI hn
    rw [iter]
    rcases h t (iter body n) hI with h1 | ⟨t', h1, h2, h3, h4⟩
    · exact h1
    · rw [h1, ih t' h2 (by omega), h4]

theorem cdt {p : Prop} [Decidable p] {α : Type} {a b : α} (h : p) : cond (decide p) a b = a := by rw [decide_eq_true h]; rfl
theorem cdf {p : Prop} [Decidable p] {α : Type} {a b : α} (h : ¬ p) : cond (decide p) a b = b := by rw [decide_eq_false h]; rfl

theorem fits_u8 {n : Int} (h : fits .u8 n) : 0 ≤ n ∧ n ≤ 255 := by simpa [fits, IntKind.min, IntKind.max, IntKind.signed, IntKind.bits] using h
theorem fits_u32 {n : Int} (h : fits .u32 n) : 0 ≤ n ∧ n ≤ 4294967295 := by simpa [fits, IntKind.min, IntKind.max, IntKind.signed, IntKind.bits] using h
theorem fits_u64 {n : Int} (h : fits .u64 n) : 0 ≤ n ∧ n ≤ 18446744073709551615 := by simpa [fits, IntKind.min, IntKind.max, IntKind.signed, IntKind.bits] using h
theorem fits_i64 {n : Int} (h : fits .i64 n) : -9223372036854775808 ≤ n ∧ n ≤ 9223372036854775807 := by simpa [fits, IntKind.min, IntKind.max, IntKind.signed, IntKind.bits] using h

theorem wr_i64 {n : Int} (h0 : -9223372036854775808 ≤ n) (h1 : n ≤ 9223372036854775807) : IntKind.i64.wrap n = n := by rw [IntKind.wrap_i64]; omega
theorem wr_u64 {n : Int} (h0 : 0 ≤ n) (h1 : n ≤ 18446744073709551615) : IntKind.u64.wrap n = n := by rw [IntKind.wrap_u64]; omega
theorem wr_u32 {n : Int} (h0 : 0 ≤ n) (h1 : n ≤ 4294967295) : IntKind.u32.wrap n = n := by rw [IntKind.wrap_u32]; omega
theorem wr_u8 {n : Int} (h0 : 0 ≤ n) (h1 : n ≤ 255) : IntKind.u8.wrap n = n := by rw [IntKind.wrap_u8]; omega

theorem getD_getElem {α : Type} {l : List α} {i : Nat} {d : α} (h : i < l.length) : l.getD i d = l[i] := by simp [List.getD, h]
theorem getD_mem {α : Type} {l : List α} {i : Nat} {d : α} (h : i < l.length) : l.getD i d ∈ l := by rw [getD_getElem h]; exact List.getElem_mem h

theorem xor_u32 {a b : Int} : 0 ≤ bits .xor .u32 a b ∧ bits .xor .u32 a b ≤ 4294967295 := ⟨bits_lo_u32 _ _ _, bits_hi_u32 _ _ _⟩
end Go.Proofs.YtpgmkoaklpkecaaDoor.Eng

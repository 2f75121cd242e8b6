/- Logs: what is read. -/
import Derived.Test.YtpgmkoaklpkecaaDoorMtWal
set_option linter.unusedVariables false
namespace Go.Proofs.YtpgmkoaklpkecaaDoor.Eng

theorem iter_inv {R τ : Type} {body : τ → (τ → Option R) → Option R} (I : τ → Prop) (μ : τ → Nat) (Q : τ → Option R → Prop)
    (h : ∀ t next, I t → Q t (body t next) ∨ ∃ t', body t next = next t' ∧ I t' ∧ μ t' < μ t ∧ ∀ r, Q t' r → Q t r) : ∀ n t, I t → μ t < n → Q t (iter body n t) := by
  intro n
  induction n with
  | zero => exact fun t _ h => absurd h (Nat.not_lt_zero _)
  | succ n ih =>
    intro t hI hn
    rw [iter]
    rcases h t (iter body n) hI with h1 | ⟨t', h1, h2, h3, h4⟩
    · exact h1
    · rw [h1]; exact h4 _ (ih t' h2 (by omega))

theorem iter_keep {R A B : Type} {body : A × B → (A × B → Option R) → Option R} {b0 : B} (I : A → Prop) (μ : A → Nat) (G : A → Option R)
    (h : ∀ a next, I a → body (a, b0) next = G a ∨ ∃ a', body (a, b0) next = next (a', b0) ∧ I a' ∧ μ a' < μ a ∧ G a' = G a) (n : Nat) (a0 : A) (h0 : I a0) (hn : μ a0 < n) : iter body n (a0, b0) = G a0 := by
  refine iter_to (fun t => t.2 = b0 ∧ I t.1) (fun t => μ t.1) (fun t => G t.1) ?_ n (a0, b0) ⟨rfl, h0⟩ hn
  rintro ⟨a, b⟩ next ⟨e, hI⟩
  dsimp only at e hI ⊢
  subst e
  rcases h a next hI with h1 | ⟨a', h1, h2, h3, h4⟩
  · exact .inl h1
  · exact .inr ⟨(a', b), h1, ⟨rfl, h2⟩, h3, h4⟩

theorem step_ajoin {τ R σ : Type} {f : (τ → Option R) → Option R} {g : τ → Option R} {A : Option R → Prop} {next : σ → Option R} {P : σ → Prop}
    (h : ∃ t, (∀ K, f K = K t) ∧ (A (g t) ∨ ∃ t', g t = next t' ∧ P t')) : A (ajoin f g) ∨ ∃ t', ajoin f g = next t' ∧ P t' := by
  obtain ⟨t, h1, h2⟩ := h
  rw [show ajoin f g = g t from h1 g]; exact h2
theorem out_ajoin {τ R σ : Type} {f : (τ → Option R) → Option R} {g : τ → Option R} {A : Option R → Prop} {next : σ → Option R} {P : σ → Prop}
    (h : ∀ K, A (f K)) : A (ajoin f g) ∨ ∃ t', ajoin f g = next t' ∧ P t' := .inl (h g)

/-! ### Numbers of bytes -/
theorem pow_mono {c : Nat} (hc : 0 < c) {m n : Nat} (h : m ≤ n) : (c : Int) ^ m ≤ (c : Int) ^ n := by
  have h1 := Nat.pow_le_pow_right hc h
  have h2 : ((c ^ m : Nat) : Int) ≤ ((c ^ n : Nat) : Int) := by omega
  simpa using h2
def unS : List Int → Int
  | [] => 0
  | x :: l => x + 256 * unS l
theorem unS_bound : (l : List Int) → (∀ x ∈ l, fits .u8 x) → 0 ≤ unS l ∧ unS l < 256 ^ l.length
  | [], _ => by simp [unS]
  | x :: l, h => by
    have h1 := unS_bound l fun y hy => h y (List.mem_cons_of_mem _ hy)
    have h2 := fits_u8 (h x (List.mem_cons_self))
    rw [unS, List.length_cons, Int.pow_succ]
    omega
theorem unS_append : (l m : List Int) → unS (l ++ m) = unS l + 256 ^ l.length * unS m
  | [], m => by simp [unS]
  | x :: l, m => by
    rw [List.cons_append, unS, unS, unS_append l m, List.length_cons, Int.pow_succ, Int.mul_add, ← Int.mul_assoc, Int.mul_comm 256 (256 ^ l.length)]
    omega

theorem or_pow {a x : Int} {s : Nat} (ha0 : 0 ≤ a) (ha : a < 2 ^ s) (hx : 0 ≤ x) (hm : a + 2 ^ s * x < 18446744073709551616) : bits .or .u64 a (2 ^ s * x) = a + 2 ^ s * x := by
  obtain ⟨A, rfl⟩ := Int.eq_ofNat_of_zero_le ha0
  obtain ⟨X, rfl⟩ := Int.eq_ofNat_of_zero_le hx
  have e : (2 : Int) ^ s * (X : Int) = ((2 ^ s * X : Nat) : Int) := by simp
  have hA : A < 2 ^ s := by
    have : ((A : Nat) : Int) < ((2 ^ s : Nat) : Int) := by simpa using ha
    omega
  rw [e] at hm ⊢
  rw [u64_or_nat A (2 ^ s * X) (by omega) (by omega), Nat.or_comm, ← Nat.two_pow_add_eq_or_of_lt hA]
  omega

theorem unfixed_code {k : Nat} {l : List Int} (hl : l.length ≤ maxLen) (hb : ∀ x ∈ l, fits .u8 x) {n : Nat} (hn : n ≤ 8) (h4 : n ≤ l.length) (hk : 10 ≤ k) : F48 k (l, ((n : Int), ())) = some (unS (l.take n), (0, ())) := by
  unfold F48
  dsimp only
  rw [cdf (p := ((List.length l : Int) < (n : Int))) (by omega)]
  refine Eq.trans (iter_keep (fun (t : (Int × (Int × ((List Int) × (Int × Unit))))) => l = t.2.2.1 ∧ (n : Int) = t.2.2.2.1 ∧ 0 ≤ t.2.1 ∧ t.2.1 ≤ n ∧ t.1 = unS (l.take t.2.1.toNat))
    (fun (t : (Int × (Int × ((List Int) × (Int × Unit))))) => n - t.2.1.toNat) (fun t => some (unS (l.take n), (0, ()))) ?_ k _ ?_ ?_) rfl
  rotate_left
  · exact ⟨rfl, rfl, Int.le_refl 0, by dsimp only; omega, rfl⟩
  · show n - 0 < k; omega
  rintro ⟨v, i, l2, n2, u⟩ next ⟨e1, e2, hi, hi2, hv⟩
  dsimp only at e1 e2 hi hi2 hv ⊢
  subst e1 e2
  by_cases hlt : i < (n : Int)
  · right
    obtain ⟨j, rfl⟩ := Int.eq_ofNat_of_zero_le hi
    have hj : j < l.length := by omega
    have hx := fits_u8 (hb _ (getD_mem (d := 0) hj))
    have hbd := unS_bound (l.take j) fun y hy => hb y (List.mem_of_mem_take hy)
    rw [List.length_take, Nat.min_eq_left (by omega)] at hbd
    have e8 : (256 : Int) ^ j = 2 ^ (8 * j) := by rw [Int.pow_mul]; rfl
    rw [Int.toNat_natCast] at hv
    have hshl : ishl .u64 (l.getD j 0) (8 * (j : Int)) = 2 ^ (8 * j) * l.getD j 0 := by
      unfold ishl
      have : min (8 * (j : Int)).toNat IntKind.u64.bits = 8 * j := by
        show min (8 * (j : Int)).toNat 64 = 8 * j
        omega
      rw [this, Int.mul_comm]
      have hp : (2 : Int) ^ (8 * j) ≤ 2 ^ 56 := pow_mono (c := 2) (by decide) (by omega)
      have hp0 : (0 : Int) ≤ 2 ^ (8 * j) := Int.pow_nonneg (by decide)
      have h1 : (2 : Int) ^ (8 * j) * l.getD j 0 ≤ 2 ^ 56 * 255 := Int.mul_le_mul hp hx.2 hx.1 (by decide)
      exact wr_u64 (Int.mul_nonneg hp0 hx.1) (by omega)
    have hor : bits .or .u64 (unS (l.take j)) (2 ^ (8 * j) * l.getD j 0) = unS (l.take j) + 2 ^ (8 * j) * l.getD j 0 := by
      refine or_pow hbd.1 (by rw [← e8]; exact hbd.2) hx.1 ?_
      have hp : (2 : Int) ^ (8 * j) ≤ 2 ^ 56 := pow_mono (c := 2) (by decide) (by omega)
      have h1 : (2 : Int) ^ (8 * j) * l.getD j 0 ≤ 2 ^ 56 * 255 := Int.mul_le_mul hp hx.2 hx.1 (by decide)
      rw [e8] at hbd
      omega
    refine ⟨(unS (l.take (j + 1)), (((j : Int) + 1), (l, ((n : Int), u)))), ?_, ⟨rfl, rfl, by dsimp only; omega, by dsimp only; omega, by dsimp only; rw [show ((j : Int) + 1).toNat = j + 1 by omega]⟩, by dsimp only; omega, rfl⟩
    rw [cdt hlt, cdt hi, cdt (p := (j : Int) < NatCast.natCast l.length) (by show (j : Int) < (l.length : Int); omega), wr_i64 (n := 8 * (j : Int)) (by omega) (by omega), cdt (by omega), wr_i64 (n := (j : Int) + 1) (by omega) (by omega), Int.toNat_natCast,
      wr_u64 (n := l.getD j 0) hx.1 (by omega), hshl, hv, hor]
    have : l.take (j + 1) = l.take j ++ [l.getD j 0] := by rw [List.take_succ_eq_append_getElem hj, getD_getElem hj]
    rw [this, unS_append, List.length_take, Nat.min_eq_left (by omega), unS, unS, e8]
    simp
  · left
    rw [cdf hlt, hv, show i.toNat = n by omega]

theorem unfixed_ref {k : Nat} {b : List Int} (hm : b.length ≤ 140737488355328) (hb : ∀ x ∈ b, fits .u8 x) {a n : Nat} (hn : n ≤ 8) (h4 : a + n ≤ b.length) (hk : 10 ≤ k) : F32 k (b, ((a : Int), ((n : Int), ()))) = some (unS ((b.drop a).take n), ()) := by
  unfold F32
  dsimp only
  refine Eq.trans (iter_keep (fun (t : (Int × (Int × ((List Int) × (Int × Unit))))) => b = t.2.2.1 ∧ (a : Int) = t.2.2.2.1 ∧ -1 ≤ t.2.1 ∧ t.2.1 < n ∧ t.1 = unS (((b.drop a).take n).drop (t.2.1 + 1).toNat))
    (fun (t : (Int × (Int × ((List Int) × (Int × Unit))))) => (t.2.1 + 1).toNat) (fun t => some (unS ((b.drop a).take n), ())) ?_ k _ ?_ ?_) rfl
  rotate_left
  · refine ⟨rfl, rfl, ?_, ?_, ?_⟩
    · dsimp only; rw [wr_i64 (by omega) (by omega)]; omega
    · dsimp only; rw [wr_i64 (by omega) (by omega)]; omega
    · dsimp only; rw [wr_i64 (by omega) (by omega), List.drop_of_length_le (by rw [List.length_take, List.length_drop]; omega)]; rfl
  · dsimp only; rw [wr_i64 (by omega) (by omega)]; omega
  rintro ⟨v, i, b2, a2, u⟩ next ⟨e1, e2, hi, hi2, hv⟩
  dsimp only at e1 e2 hi hi2 hv ⊢
  subst e1 e2
  by_cases hlt : 0 ≤ i
  · right
    obtain ⟨j, rfl⟩ := Int.eq_ofNat_of_zero_le hlt
    have hj : a + j < b.length := by omega
    have hx := fits_u8 (hb _ (getD_mem (d := 0) hj))
    have hjn : j < ((b.drop a).take n).length := by rw [List.length_take, List.length_drop]; omega
    have hdr : ((b.drop a).take n).drop j = b.getD (a + j) 0 :: ((b.drop a).take n).drop (j + 1) := by
      rw [List.drop_eq_getElem_cons hjn, getD_getElem hj]
      congr 1
      simp
    have hbd := unS_bound (((b.drop a).take n).drop (j + 1)) fun y hy => hb y (List.mem_of_mem_drop (List.mem_of_mem_take (List.mem_of_mem_drop hy)))
    have hlen : (((b.drop a).take n).drop (j + 1)).length ≤ 7 := by rw [List.length_drop, List.length_take]; omega
    have hp : (256 : Int) ^ (((b.drop a).take n).drop (j + 1)).length ≤ 256 ^ 7 := pow_mono (c := 256) (by decide) hlen
    rw [show ((j : Int) + 1).toNat = j + 1 by omega] at hv
    subst hv
    refine ⟨(unS (((b.drop a).take n).drop j), (((j : Int) - 1), (b, ((a : Int), u)))), ?_, ⟨rfl, rfl, by dsimp only; omega, by dsimp only; omega, by dsimp only; rw [show ((j : Int) - 1 + 1).toNat = j by omega]⟩, by dsimp only; omega, rfl⟩
    rw [cdt hlt, wr_i64 (n := (a : Int) + (j : Int)) (by omega) (by omega), cdt (by omega), cdt (p := (a : Int) + (j : Int) < NatCast.natCast b.length) (by show (a : Int) + (j : Int) < (b.length : Int); omega), wr_i64 (n := (j : Int) - 1) (by omega) (by omega),
      show ((a : Int) + (j : Int)).toNat = a + j by omega, wr_u64 (n := b.getD (a + j) 0) hx.1 (by omega), wr_u64 (n := 256 * _) (by omega) (by omega), wr_u64 (by omega) (by omega), hdr, unS, Int.add_comm]
  · left
    rw [cdf hlt, hv, show (i + 1).toNat = 0 by omega, List.drop_zero]
end Go.Proofs.YtpgmkoaklpkecaaDoor.Eng

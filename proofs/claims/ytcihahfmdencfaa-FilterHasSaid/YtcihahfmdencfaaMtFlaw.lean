/- The laws on filters, of plain data. -/
import Derived.Test.YtcihahfmdencfaaMtFilter
import Derived.Test.YtcihahfmdencfaaEng21
import Derived.KernelRfl
set_option linter.unusedVariables false
namespace Go.Proofs.Ytcihahfmdencfaa.Eng

def goS : List (List Int) → Int → Int
  | [], n => n
  | x :: l, n => if n ≤ 3000 then goS l (IntKind.i64.wrap (n + (x.length : Int))) else n

theorem small_ok {k : Nat} {l : List (List Int)} (hl : l.length ≤ maxLen) (hk : l.length + 2 ≤ k) : ∃ b, F6 k (l, ()) = some (b, ()) ∧ (b = true → l.length ≤ 60) := by
  have hmx : l.length ≤ 9223372036854775807 := by unfold maxLen at hl; omega
  have key : F6 k (l, ()) = some (if (l.length : Int) ≤ 60 then decide (goS l 0 ≤ 3000) else false, ()) := by
    unfold F6
    refine Eq.trans (iter_to (fun (t : ((Int × (Int × ((List (List Int)) × Unit))) × (Unit × Unit))) => 0 ≤ t.1.2.1 ∧ t.1.2.1 ≤ (l.length : Int) ∧ l = t.1.2.2.1)
      (fun (t : ((Int × (Int × ((List (List Int)) × Unit))) × (Unit × Unit))) => l.length - t.1.2.1.toNat)
      (fun (t : ((Int × (Int × ((List (List Int)) × Unit))) × (Unit × Unit))) => some (if (l.length : Int) ≤ 60 then decide (goS (l.drop t.1.2.1.toNat) t.1.1 ≤ 3000) else false, ())) ?_ _ _ ?_ ?_) ?_
    rotate_left
    · exact ⟨Int.le_refl 0, by show (0 : Int) ≤ (l.length : Int); omega, rfl⟩
    · show l.length - 0 < k
      omega
    · rfl
    rintro ⟨⟨n, i, l2, u1⟩, u2⟩ next ⟨hi, hi2, h1⟩
    dsimp only at hi hi2 h1 ⊢
    subst h1
    have fin : ∀ m : Int, cond (decide (NatCast.natCast l.length ≤ (60 : Int))) (some (decide (m ≤ 3000), ())) (some (false, ())) = some (if (l.length : Int) ≤ 60 then decide (m ≤ 3000) else false, ()) := by
      intro m
      by_cases h : (l.length : Int) ≤ 60
      · rw [cdt (p := NatCast.natCast l.length ≤ (60 : Int)) h, if_pos h]
      · rw [cdf (p := NatCast.natCast l.length ≤ (60 : Int)) h, if_neg h]
    by_cases hlt : i < (l.length : Int)
    · have hlt' : i.toNat < l.length := by omega
      have hdrop : l.drop i.toNat = l.getD i.toNat [] :: l.drop (i.toNat + 1) := by rw [List.drop_eq_getElem_cons hlt', ← getD_getElem (d := []) hlt']
      by_cases hn : n ≤ 3000
      · right
        refine ⟨((IntKind.i64.wrap (n + ((l.getD i.toNat []).length : Int)), (i + 1, (l, u1))), u2), ?_, ⟨by dsimp only; omega, by dsimp only; omega, rfl⟩, by dsimp only; omega, ?_⟩
        · rw [cdt (p := i < NatCast.natCast l.length) hlt, cdt hn, cdt hi, cdt (p := i < NatCast.natCast l.length) hlt, wr_i64 (n := i + 1) (by omega) (by omega)]
        · dsimp only
          rw [show (i + 1).toNat = i.toNat + 1 by omega, hdrop, goS, if_pos hn]
      · left
        rw [cdt (p := i < NatCast.natCast l.length) hlt, cdf hn, fin, hdrop, goS, if_neg hn]
    · left
      rw [cdf (p := i < NatCast.natCast l.length) hlt, fin, List.drop_of_length_le (by omega)]
      rfl
  refine ⟨_, key, fun hb => ?_⟩
  by_cases h : (l.length : Int) ≤ 60
  · omega
  · rw [if_neg h] at hb; cases hb

theorem known_ok : F5 1000 () = some (true, ()) := by kernel_rfl

theorem fits_of_u8 {n : Int} (h : 0 ≤ n ∧ n ≤ 255) : fits .u8 n := by
  simp only [fits, IntKind.min, IntKind.max, IntKind.signed, IntKind.bits]
  simpa using h

theorem setB_fits {b : List Int} {x : Int} (hb : ∀ y ∈ b, fits .u8 y) : ∀ y ∈ setB b x, fits .u8 y := by
  intro y hy
  rcases List.mem_or_eq_of_mem_set hy with h | h
  · exact hb y h
  · rw [h]; exact fits_of_u8 ⟨bits_lo_u8 _ _ _, bits_hi_u8 _ _ _⟩
theorem setAll_fits : (l : List Int) → {b : List Int} → (∀ y ∈ b, fits .u8 y) → ∀ y ∈ setAll b l, fits .u8 y
  | [], b, hb => hb
  | x :: l, b, hb => setAll_fits l (setB_fits hb)
theorem filtAll_fits {m n : Int} : (l : List (List Int)) → {b : List Int} → (∀ y ∈ b, fits .u8 y) → ∀ y ∈ filtAll m n b l, fits .u8 y
  | [], b, hb => hb
  | x :: l, b, hb => filtAll_fits l (setAll_fits _ hb)
theorem fk_range (bits : Int) : 1 ≤ fk bits ∧ fk bits ≤ 30 := by unfold fk; omega
theorem filterS_fits (keys : List (List Int)) (bits : Int) : ∀ y ∈ filterS keys bits, fits .u8 y := by
  intro y hy
  unfold filterS at hy
  rcases List.mem_append.1 hy with hy | hy
  · refine filtAll_fits keys (fun y hy => ?_) y hy
    rw [(List.mem_replicate.1 hy).2]; exact fits_of_u8 (by omega)
  · have := fk_range bits
    rw [List.mem_singleton.1 hy]; exact fits_of_u8 (by omega)
theorem filterS_length (keys : List (List Int)) (bits : Int) : (filterS keys bits).length = (fl bits keys.length).toNat + 1 := by
  unfold filterS
  rw [List.length_append, filtAll_length, List.length_replicate, List.length_singleton]

def lensum : List (List Int) → Nat
  | [] => 0
  | x :: l => x.length + lensum l
theorem le_lensum : (l : List (List Int)) → ∀ x ∈ l, x.length ≤ lensum l
  | [], x, hx => by cases hx
  | y :: l, x, hx => by
    rcases List.mem_cons.1 hx with rfl | hx
    · simp [lensum]
    · have := le_lensum l x hx; simp [lensum]; omega

theorem fl_le {bits : Int} {n : Nat} (h1 : 1 ≤ bits) (h2 : bits ≤ 64) (h3 : n ≤ 60) : 8 ≤ fl bits n ∧ fl bits n ≤ 481 := by
  have hprod : 0 ≤ bits * (n : Int) ∧ bits * (n : Int) ≤ 3840 := by
    constructor
    · exact Int.mul_nonneg (by omega) (by omega)
    · exact Int.le_trans (Int.mul_le_mul_of_nonneg_right (show bits ≤ 64 by omega) (by omega)) (by omega)
  unfold fl; omega

theorem law_FB (keys : List (List Int)) (bits : Int) (filter key : List Int) (hk1 : keys.length ≤ maxLen) (hk2 : ∀ x ∈ keys, x.length ≤ maxLen ∧ ∀ y ∈ x, fits .u8 y) (hf2 : ∀ x ∈ filter, fits .u8 x) (hy1 : key.length ≤ maxLen) (hy2 : ∀ x ∈ key, fits .u8 x) :
    ∃ k, F3 k (keys, (bits, (filter, (key, ())))) = some (true, ()) := by
  refine ⟨1000 + keys.length + lensum keys + key.length, ?_⟩
  generalize hk : 1000 + keys.length + lensum keys + key.length = k
  unfold F3
  dsimp only
  rw [known_ok]
  simp only [Option.bind_some, Bool.not_true, cond_false]
  obtain ⟨b, hb1, hb2⟩ := small_ok (k := k) hk1 (by omega)
  rw [hb1]
  simp only [Option.bind_some]
  cases b with
  | false => rfl
  | true =>
    have hl := hb2 rfl
    simp only [Bool.not_true, cond_false]
    by_cases h1 : (2000 : Int) < (filter.length : Int)
    · rw [cdt (p := (2000 : Int) < NatCast.natCast filter.length) h1]
    rw [cdf (p := (2000 : Int) < NatCast.natCast filter.length) h1]
    by_cases h2 : (500 : Int) < (key.length : Int)
    · rw [cdt (p := (500 : Int) < NatCast.natCast key.length) h2]
    rw [cdf (p := (500 : Int) < NatCast.natCast key.length) h2]
    have hkeys : ∀ x ∈ keys, x.length + 100 ≤ k ∧ x.length ≤ maxLen ∧ ∀ y ∈ x, fits .u8 y := fun x hx => by
      have := le_lensum keys x hx
      exact ⟨by omega, hk2 x hx⟩
    rw [filter_code hl hkeys (by omega), filter_ref hl hkeys (by omega)]
    simp only [Option.bind_some, beq_self_eq_true, cond_true]
    have hbf : ∀ y ∈ (if bits < 1 ∨ 64 < bits then (([] : List Int), ((71 : Int), ())) else (filterS keys bits, ((0 : Int), ()))).1, fits .u8 y := by
      split
      · exact fun y hy => by cases hy
      · exact filterS_fits keys bits
    have hbl : (if bits < 1 ∨ 64 < bits then (([] : List Int), ((71 : Int), ())) else (filterS keys bits, ((0 : Int), ()))).1.length ≤ 100000 := by
      split
      · simp
      · rename_i hbb
        have := fl_le (bits := bits) (n := keys.length) (by omega) (by omega) hl
        simp only [filterS_length]; omega
    generalize (if bits < 1 ∨ 64 < bits then (([] : List Int), ((71 : Int), ())) else (filterS keys bits, ((0 : Int), ()))).1 = c at *
    have h9 : F9 k (c, (c, ())) = some (true, ()) := by
      unfold F9
      dsimp only
      rw [beq_self_eq_true]
    rw [h9]
    simp only [Option.bind_some, cond_true]
    rw [may_code (by omega) hf2 hy1 hy2 (by omega), may_ref (by omega) hf2 hy1 hy2 (by omega)]
    simp only [Option.bind_some, beq_self_eq_true, cond_true]
    rw [may_code hbl hbf hy1 hy2 (by omega), may_ref hbl hbf hy1 hy2 (by omega)]
    simp only [Option.bind_some, beq_self_eq_true]
theorem law_FilterBuilds : ∀ xs, OkS [((.sl (.sl (.int .u8))), false), ((.int .i64), true), ((.sl (.int .u8)), false), ((.sl (.int .u8)), false)] xs → ∃ k, F3 k xs = some (true, ()) :=
  fun xs h => law_FB xs.1 xs.2.1 xs.2.2.1 xs.2.2.2.1 h.1.1 h.1.2 h.2.2.1.2 h.2.2.2.1.1 h.2.2.2.1.2
end Go.Proofs.Ytcihahfmdencfaa.Eng

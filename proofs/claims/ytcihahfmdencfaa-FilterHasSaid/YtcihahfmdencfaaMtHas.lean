/- A filter has the keys that it was made of, in whatever order they came. -/
import Derived.Test.YtcihahfmdencfaaMtFlaw
set_option linter.unusedVariables false
namespace Go.Proofs.Ytcihahfmdencfaa.Eng

theorem or_has : ∀ v : Fin 256, ∀ s t : Fin 8, (bne (bits .and .u8 (bits .or .u8 ((v.val : Nat) : Int) (ishl .u8 1 ((t.val : Nat) : Int))) (ishl .u8 1 ((s.val : Nat) : Int))) 0) = (decide (s = t) || bne (bits .and .u8 ((v.val : Nat) : Int) (ishl .u8 1 ((s.val : Nat) : Int))) 0) := by decide +kernel
theorem or_comm8 : ∀ v : Fin 256, ∀ s t : Fin 8, bits .or .u8 (bits .or .u8 ((v.val : Nat) : Int) (ishl .u8 1 ((s.val : Nat) : Int))) (ishl .u8 1 ((t.val : Nat) : Int)) = bits .or .u8 (bits .or .u8 ((v.val : Nat) : Int) (ishl .u8 1 ((t.val : Nat) : Int))) (ishl .u8 1 ((s.val : Nat) : Int)) := by decide +kernel

theorem or_has' {v s t : Int} (hv : 0 ≤ v ∧ v ≤ 255) (hs : 0 ≤ s ∧ s < 8) (ht : 0 ≤ t ∧ t < 8) (h : s = t ∨ (bne (bits .and .u8 v (ishl .u8 1 s)) 0) = true) : (bne (bits .and .u8 (bits .or .u8 v (ishl .u8 1 t)) (ishl .u8 1 s)) 0) = true := by
  have := or_has ⟨v.toNat, by omega⟩ ⟨s.toNat, by omega⟩ ⟨t.toNat, by omega⟩
  simp only [Int.toNat_of_nonneg hv.1, Int.toNat_of_nonneg hs.1, Int.toNat_of_nonneg ht.1] at this
  rw [this, Bool.or_eq_true]
  rcases h with h | h
  · left; subst h; exact decide_eq_true rfl
  · exact .inr h
theorem or_comm8' {v s t : Int} (hv : 0 ≤ v ∧ v ≤ 255) (hs : 0 ≤ s ∧ s < 8) (ht : 0 ≤ t ∧ t < 8) : bits .or .u8 (bits .or .u8 v (ishl .u8 1 s)) (ishl .u8 1 t) = bits .or .u8 (bits .or .u8 v (ishl .u8 1 t)) (ishl .u8 1 s) := by
  have := or_comm8 ⟨v.toNat, by omega⟩ ⟨s.toNat, by omega⟩ ⟨t.toNat, by omega⟩
  simpa only [Int.toNat_of_nonneg hv.1, Int.toNat_of_nonneg hs.1, Int.toNat_of_nonneg ht.1] using this

theorem getD_set_ne {b : List Int} {i j : Nat} {v : Int} (h : i ≠ j) : (b.set i v).getD j 0 = b.getD j 0 := by
  simp [List.getD, List.getElem?_set_ne h]
theorem getD_set_eq {b : List Int} {i : Nat} {v : Int} (h : i < b.length) : (b.set i v).getD i 0 = v := by
  simp [List.getD, h]
theorem getD_range {b : List Int} (hb : ∀ y ∈ b, fits .u8 y) (i : Nat) : 0 ≤ b.getD i 0 ∧ b.getD i 0 ≤ 255 := by
  by_cases h : i < b.length
  · exact fits_u8 (hb _ (getD_mem h))
  · rw [show b.getD i 0 = 0 by simp [List.getD, List.getElem?_eq_none (Nat.le_of_not_lt h)]]; omega

theorem has_setB {b : List Int} {x y : Int} (hb : ∀ y ∈ b, fits .u8 y) (hx : 0 ≤ x ∧ x < 8 * (b.length : Int)) (hy : 0 ≤ y) (h : x = y ∨ hasB b x = true) : hasB (setB b y) x = true := by
  unfold hasB setB at *
  by_cases e : (y / 8).toNat = (x / 8).toNat
  · rw [e, getD_set_eq (by omega)]
    refine or_has' (getD_range hb _) (by omega) (by omega) ?_
    rcases h with h | h
    · left; rw [h]
    · exact .inr h
  · rw [getD_set_ne e]
    rcases h with h | h
    · subst h; exact absurd rfl e
    · exact h

theorem has_setAll_old : (l : List Int) → {b : List Int} → (∀ y ∈ b, fits .u8 y) → {x : Int} → 0 ≤ x ∧ x < 8 * (b.length : Int) → (∀ y ∈ l, 0 ≤ y) → hasB b x = true → hasB (setAll b l) x = true
  | [], b, hb, x, hx, hl, h => h
  | y :: l, b, hb, x, hx, hl, h => has_setAll_old l (setB_fits hb) (by rw [setB_length]; exact hx) (fun z hz => hl z (List.mem_cons_of_mem _ hz)) (has_setB hb hx (hl y (by simp)) (.inr h))
theorem has_setAll_new : (l : List Int) → {b : List Int} → (∀ y ∈ b, fits .u8 y) → (∀ y ∈ l, 0 ≤ y ∧ y < 8 * (b.length : Int)) → ∀ x ∈ l, hasB (setAll b l) x = true
  | [], b, hb, hl, x, hx => by cases hx
  | y :: l, b, hb, hl, x, hx => by
    have hy := hl y (by simp)
    rcases List.mem_cons.1 hx with rfl | hx
    · exact has_setAll_old l (setB_fits hb) (by rw [setB_length]; exact hy) (fun z hz => (hl z (List.mem_cons_of_mem _ hz)).1) (has_setB hb hy hy.1 (.inl rfl))
    · exact has_setAll_new l (setB_fits hb) (fun z hz => by rw [setB_length]; exact hl z (List.mem_cons_of_mem _ hz)) x hx

theorem has_filt_old {n : Int} : (l : List (List Int)) → {b : List Int} → (∀ y ∈ b, fits .u8 y) → {m : Int} → m = 8 * (b.length : Int) → 0 < m → {x : Int} → 0 ≤ x ∧ x < 8 * (b.length : Int) → hasB b x = true → hasB (filtAll m n b l) x = true
  | [], b, hb, m, hm, hm0, x, hx, h => h
  | key :: l, b, hb, m, hm, hm0, x, hx, h =>
    has_filt_old l (setAll_fits _ hb) (by rw [setAll_length]; exact hm) hm0 (by rw [setAll_length]; exact hx) (has_setAll_old _ hb hx (fun y hy => (stp_mem hm0 _ _ y hy).1) h)
theorem has_filt_new {n : Int} : (l : List (List Int)) → {b : List Int} → (∀ y ∈ b, fits .u8 y) → {m : Int} → m = 8 * (b.length : Int) → 0 < m → ∀ key ∈ l, ∀ x ∈ stepsL key m n, hasB (filtAll m n b l) x = true
  | [], b, hb, m, hm, hm0, key, hk, x, hx => by cases hk
  | key0 :: l, b, hb, m, hm, hm0, key, hk, x, hx => by
    have hr := stp_mem hm0 _ _ x hx
    rcases List.mem_cons.1 hk with rfl | hk
    · exact has_filt_old l (setAll_fits _ hb) (by rw [setAll_length]; exact hm) hm0 (by rw [setAll_length, ← hm]; exact hr) (has_setAll_new _ hb (fun y hy => by rw [← hm]; exact stp_mem hm0 _ _ y hy) x hx)
    · exact has_filt_new l (setAll_fits _ hb) (by rw [setAll_length]; exact hm) hm0 key hk x hx

theorem may_filter {keys : List (List Int)} {bits : Int} (h1 : 1 ≤ bits) (h2 : bits ≤ 64) (hl : keys.length ≤ 60) : ∀ key ∈ keys, mayS (filterS keys bits) key = true := by
  intro key hk
  have hfl := fl_le (bits := bits) (n := keys.length) h1 h2 hl
  have hfk := fk_range bits
  have hlen := filterS_length keys bits
  have hA : (filtAll (8 * fl bits keys.length) (fk bits) (List.replicate (fl bits keys.length).toNat 0) keys).length = (fl bits keys.length).toNat := by rw [filtAll_length, List.length_replicate]
  have hlast : (filterS keys bits).getD ((filterS keys bits).length - 1) 0 = fk bits := by
    rw [hlen]
    unfold filterS
    simp [List.getD, hA]
  have h0 : ∀ y ∈ List.replicate (fl bits keys.length).toNat (0 : Int), fits .u8 y := fun y hy => by
    rw [(List.mem_replicate.1 hy).2]; exact fits_of_u8 (by omega)
  unfold mayS
  rw [hlast, if_neg (by omega), if_neg (by omega), if_neg (by omega)]
  have hM : 8 * (((filterS keys bits).length : Int) - 1) = 8 * fl bits keys.length := by omega
  rw [hM]
  refine List.all_eq_true.2 fun x hx => ?_
  have hr := stp_mem (m := 8 * fl bits keys.length) (by omega) _ _ x hx
  have := has_filt_new (n := fk bits) keys h0 (m := 8 * fl bits keys.length) (by rw [List.length_replicate]; omega) (by omega) key hk x hx
  unfold hasB at this ⊢
  unfold filterS
  rw [show (filtAll (8 * fl bits ↑keys.length) (fk bits) (List.replicate (fl bits ↑keys.length).toNat 0) keys ++ [fk bits]).getD (x / 8).toNat 0 = (filtAll (8 * fl bits ↑keys.length) (fk bits) (List.replicate (fl bits ↑keys.length).toNat 0) keys).getD (x / 8).toNat 0 from by
    simp only [List.getD]
    rw [List.getElem?_append_left (by rw [hA]; omega)]]
  exact this

/-! ### Orders -/
theorem setB_comm {b : List Int} (hb : ∀ y ∈ b, fits .u8 y) {x y : Int} (hx : 0 ≤ x) (hy : 0 ≤ y) : setB (setB b x) y = setB (setB b y) x := by
  unfold setB
  by_cases e : (x / 8).toNat = (y / 8).toNat
  · by_cases hl : (x / 8).toNat < b.length
    · rw [← e, getD_set_eq hl, getD_set_eq hl, List.set_set, List.set_set, or_comm8' (getD_range hb _) (by omega) (by omega)]
    · have ho : ∀ v, b.set (x / 8).toNat v = b := fun v => List.set_eq_of_length_le (by omega)
      rw [← e, ho, ho, ho]
  · rw [getD_set_ne e, getD_set_ne (Ne.symm e), List.set_comm _ _ e]

theorem setAll_setB : (l : List Int) → {b : List Int} → (∀ y ∈ b, fits .u8 y) → {x : Int} → 0 ≤ x → (∀ y ∈ l, 0 ≤ y) → setAll (setB b x) l = setB (setAll b l) x
  | [], b, hb, x, hx, hl => rfl
  | y :: l, b, hb, x, hx, hl => by
    rw [setAll, setAll, setB_comm hb hx (hl y (by simp))]
    exact setAll_setB l (setB_fits hb) hx fun z hz => hl z (List.mem_cons_of_mem _ hz)
theorem setAll_comm : (l l' : List Int) → {b : List Int} → (∀ y ∈ b, fits .u8 y) → (∀ y ∈ l, 0 ≤ y) → (∀ y ∈ l', 0 ≤ y) → setAll (setAll b l) l' = setAll (setAll b l') l
  | [], l', b, hb, hl, hl' => rfl
  | x :: l, l', b, hb, hl, hl' => by
    rw [setAll, setAll_comm l l' (setB_fits hb) (fun z hz => hl z (List.mem_cons_of_mem _ hz)) hl', setAll, setAll_setB l' hb (hl x (by simp)) hl']
theorem filt_setAll {m n : Int} (hm : 0 < m) : (ks : List (List Int)) → (l : List Int) → {b : List Int} → (∀ y ∈ b, fits .u8 y) → (∀ y ∈ l, 0 ≤ y) → filtAll m n (setAll b l) ks = setAll (filtAll m n b ks) l
  | [], l, b, hb, hl => rfl
  | k :: ks, l, b, hb, hl => by
    rw [filtAll, filtAll, setAll_comm l (stepsL k m n) hb hl (fun y hy => (stp_mem hm _ _ y hy).1)]
    exact filt_setAll hm ks l (setAll_fits _ hb) hl
theorem filt_append {m n : Int} : (k1 k2 : List (List Int)) → (b : List Int) → filtAll m n b (k1 ++ k2) = filtAll m n (filtAll m n b k1) k2
  | [], k2, b => rfl
  | k :: k1, k2, b => filt_append k1 k2 _
theorem filt_comm {m n : Int} (hm : 0 < m) : (k1 k2 : List (List Int)) → {b : List Int} → (∀ y ∈ b, fits .u8 y) → filtAll m n (filtAll m n b k1) k2 = filtAll m n (filtAll m n b k2) k1
  | [], k2, b, hb => rfl
  | k :: k1, k2, b, hb => by
    rw [filtAll, filt_comm hm k1 k2 (setAll_fits _ hb), filtAll, filt_setAll hm k2 (stepsL k m n) hb (fun y hy => (stp_mem hm _ _ y hy).1)]

theorem filterS_turn {keys : List (List Int)} {bits : Int} (h1 : 1 ≤ bits) (h2 : bits ≤ 64) (hl : keys.length ≤ 60) (at_ : Nat) : filterS (keys.drop at_ ++ keys.take at_) bits = filterS keys bits := by
  have hlen : (keys.drop at_ ++ keys.take at_).length = keys.length := by simp; omega
  have hfl := fl_le (bits := bits) (n := keys.length) h1 h2 hl
  have h0 : ∀ y ∈ List.replicate (fl bits keys.length).toNat (0 : Int), fits .u8 y := fun y hy => by
    rw [(List.mem_replicate.1 hy).2]; exact fits_of_u8 (by omega)
  unfold filterS
  rw [hlen, filt_append, filt_comm (by omega) _ _ h0, ← filt_append, List.take_append_drop]

theorem law_FH (keys : List (List Int)) (bits turn : Int) (hk1 : keys.length ≤ maxLen) (hk2 : ∀ x ∈ keys, x.length ≤ maxLen ∧ ∀ y ∈ x, fits .u8 y) (ht : fits .i64 turn) :
    ∃ k, F4 k (keys, (bits, (turn, ()))) = some (true, ()) := by
  refine ⟨1000 + keys.length + lensum keys, ?_⟩
  generalize hk : 1000 + keys.length + lensum keys = k
  unfold F4
  dsimp only
  rw [known_ok]
  simp only [Option.bind_some, Bool.not_true, cond_false]
  obtain ⟨b, hb1, hb2⟩ := small_ok (k := k) hk1 (by omega)
  rw [hb1]
  simp only [Option.bind_some]
  cases b with
  | false => rfl
  | true =>
    have hl := hb2 rfl
    simp only [Bool.not_true, cond_false]
    have hkeys : ∀ x ∈ keys, x.length + 100 ≤ k ∧ x.length ≤ maxLen ∧ ∀ y ∈ x, fits .u8 y := fun x hx => by
      have := le_lensum keys x hx
      exact ⟨by omega, hk2 x hx⟩
    rw [filter_code hl hkeys (by omega)]
    simp only [Option.bind_some]
    by_cases hbad : bits < 1 ∨ 64 < bits
    · rw [if_pos hbad]
      by_cases h1 : bits < 1
      · simp [h1, cond]
      · have h2 : 64 < bits := by omega
        simp [h1, h2, cond]
    rw [if_neg hbad]
    have hb1 : 1 ≤ bits := by omega
    have hb2 : bits ≤ 64 := by omega
    have hfl := fl_le (bits := bits) (n := keys.length) hb1 hb2 hl
    have hbf := filterS_fits keys bits
    have hbl : (filterS keys bits).length ≤ 100000 := by rw [filterS_length]; omega
    dsimp only
    rw [show (bne (0 : Int) 0) = false from rfl, cond_false]
    refine Eq.trans (iter_to (fun (t : ((Int × ((List (List Int)) × (Int × (Int × ((List Int) × Unit))))) × (Unit × Unit))) => 0 ≤ t.1.1 ∧ t.1.1 ≤ (keys.length : Int) ∧ keys = t.1.2.1 ∧ bits = t.1.2.2.1 ∧ turn = t.1.2.2.2.1 ∧ filterS keys bits = t.1.2.2.2.2.1)
      (fun (t : ((Int × ((List (List Int)) × (Int × (Int × ((List Int) × Unit))))) × (Unit × Unit))) => keys.length - t.1.1.toNat)
      (fun (t : ((Int × ((List (List Int)) × (Int × (Int × ((List Int) × Unit))))) × (Unit × Unit))) => some (true, ())) ?_ _ _ ?_ ?_) ?_
    rotate_left
    · exact ⟨Int.le_refl 0, by show (0 : Int) ≤ (keys.length : Int); omega, rfl, rfl, rfl, rfl⟩
    · show keys.length - 0 < k
      omega
    · rfl
    rintro ⟨⟨i, ks, bs, tn, fs, u1⟩, u2⟩ next ⟨hi, hi2, e1, e2, e3, e4⟩
    dsimp only at hi hi2 e1 e2 e3 e4 ⊢
    subst e1 e2 e3 e4
    by_cases hlt : i < (keys.length : Int)
    · right
      have hlt' : i.toNat < keys.length := by omega
      have hm := getD_mem (d := []) hlt'
      obtain ⟨q1, q2, q3⟩ := hkeys _ hm
      refine ⟨((i + 1, (keys, (bits, (turn, (filterS keys bits, u1))))), u2), ?_, ⟨by dsimp only; omega, by dsimp only; omega, rfl, rfl, rfl, rfl⟩, by dsimp only; omega, rfl⟩
      rw [cdt (p := i < NatCast.natCast keys.length) hlt, cdt hi, cdt (p := i < NatCast.natCast keys.length) hlt, may_code hbl hbf q2 q3 q1, may_filter hb1 hb2 hl _ hm]
      simp only [Option.bind_some, Bool.not_true, cond_false]
      rw [wr_i64 (n := i + 1) (by omega) (by omega)]
    · left
      rw [cdf (p := i < NatCast.natCast keys.length) hlt]
      by_cases hz : keys.length = 0
      · rw [hz]; rfl
      have hz' : ((NatCast.natCast keys.length : Int) == 0) = false := by
        rw [beq_eq_false_iff_ne]
        show (keys.length : Int) ≠ 0
        omega
      have hz2 : ¬ (NatCast.natCast keys.length : Int) = 0 := by show ¬ (keys.length : Int) = 0; omega
      rw [hz', cond_false, cdf hz2, cdf hz2]
      have hat : ∃ a : Nat, a < keys.length ∧ Int.tmod (IntKind.i64.wrap (turn.tmod (NatCast.natCast keys.length) + NatCast.natCast keys.length)) (NatCast.natCast keys.length) = (a : Int) := by
        show ∃ a : Nat, a < keys.length ∧ Int.tmod (IntKind.i64.wrap (turn.tmod (keys.length : Int) + (keys.length : Int))) (keys.length : Int) = (a : Int)
        have r1 : -(keys.length : Int) < turn.tmod (keys.length : Int) := Int.lt_tmod_of_pos _ (by omega)
        have r2 : turn.tmod (keys.length : Int) < (keys.length : Int) := Int.tmod_lt_of_pos _ (by omega)
        rw [wr_i64 (by omega) (by omega), Int.tmod_eq_emod_of_nonneg (by omega)]
        have r3 := Int.emod_nonneg (turn.tmod (keys.length : Int) + (keys.length : Int)) (show (keys.length : Int) ≠ 0 by omega)
        have r4 := Int.emod_lt_of_pos (turn.tmod (keys.length : Int) + (keys.length : Int)) (show 0 < (keys.length : Int) by omega)
        exact ⟨((turn.tmod (keys.length : Int) + (keys.length : Int)) % (keys.length : Int)).toNat, by omega, by omega⟩
      obtain ⟨a, ha, hat⟩ := hat
      rw [hat]
      have g1 : (0 : Int) ≤ (a : Int) := by omega
      have g2 : (a : Int) ≤ NatCast.natCast keys.length := by show (a : Int) ≤ (keys.length : Int); omega
      have g3 : (keys.drop ((a : Int)).toNat).length * 24 ≤ 140737488355328 := by rw [List.length_drop]; omega
      have g4 : ((keys.drop ((a : Int)).toNat).length + (keys.take ((a : Int)).toNat).length) * 24 ≤ 140737488355328 := by rw [List.length_drop, List.length_take]; omega
      have hlen2 : (keys.drop a ++ keys.take a).length ≤ 60 := by simp; omega
      rw [cdt g1, cdt g2, cdt g1, cdt g2, cdt g3, cdt g4, Int.toNat_natCast, filter_code hlen2 (fun x hx => hkeys x (by
        rcases List.mem_append.1 hx with hx | hx
        · exact List.mem_of_mem_drop hx
        · exact List.mem_of_mem_take hx)) (by omega), if_neg hbad, filterS_turn hb1 hb2 hl]
      simp only [Option.bind_some, beq_self_eq_true, cond_true]
      have h9 : F9 k (filterS keys bits, (filterS keys bits, ())) = some (true, ()) := by
        unfold F9
        dsimp only
        rw [beq_self_eq_true]
      rw [h9]
      rfl
theorem law_FilterHas : ∀ xs, OkS [((.sl (.sl (.int .u8))), false), ((.int .i64), true), ((.int .i64), true)] xs → ∃ k, F4 k xs = some (true, ()) :=
  fun xs h => law_FH xs.1 xs.2.1 xs.2.2.1 h.1.1 h.1.2 h.2.2.1
end Go.Proofs.Ytcihahfmdencfaa.Eng

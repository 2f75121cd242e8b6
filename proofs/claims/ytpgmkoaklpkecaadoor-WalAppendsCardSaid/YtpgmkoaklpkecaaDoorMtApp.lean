/- Logs: what is laid down is the document's. -/
import Derived.Test.YtpgmkoaklpkecaaDoorMtWal
set_option linter.unusedVariables false
namespace Go.Proofs.YtpgmkoaklpkecaaDoor.Eng

theorem fixed_ref {k : Nat} {v : Int} {n : Nat} (hn : n ≤ 8) (hk : 10 ≤ k) : F40 k (v, ((n : Int), ())) = some (fixS v 0 n, ()) := by
  unfold F40
  refine Eq.trans (iter_to (fun (t : ((Unit × (Int × (Int × (Int × Unit)))) × (Unit × ((List Int) × Unit)))) => 0 ≤ t.1.2.1 ∧ t.1.2.1 ≤ n ∧ v = t.1.2.2.1 ∧ (n : Int) = t.1.2.2.2.1 ∧ (List.length t.2.2.1 : Int) = t.1.2.1)
    (fun (t : ((Unit × (Int × (Int × (Int × Unit)))) × (Unit × ((List Int) × Unit)))) => n - t.1.2.1.toNat)
    (fun (t : ((Unit × (Int × (Int × (Int × Unit)))) × (Unit × ((List Int) × Unit)))) => some (t.2.2.1 ++ fixS v t.1.2.1.toNat (n - t.1.2.1.toNat), ())) ?_ _ _ ?_ ?_) ?_
  rotate_left
  · exact ⟨Int.le_refl 0, by show (0 : Int) ≤ (n : Int); omega, rfl, rfl, rfl⟩
  · show n - 0 < k
    omega
  · rfl
  rintro ⟨⟨u1, i, v2, n2, u2⟩, u3, out, u4⟩ next ⟨hi, hi2, e1, e2, hl⟩
  dsimp only at hi hi2 e1 e2 hl ⊢
  subst e1 e2
  by_cases hlt : i < (n : Int)
  · right
    refine ⟨((u1, (i + 1, (v, ((n : Int), u2)))), (u3, (out ++ [IntKind.u8.wrap (ishr .u64 v (8 * i))], u4))), ?_, ⟨by dsimp only; omega, by dsimp only; omega, rfl, rfl, by dsimp only; rw [List.length_append, List.length_singleton]; omega⟩, by dsimp only; omega, ?_⟩
    · rw [cdt hlt, wr_i64 (n := 8 * i) (by omega) (by omega), cdt (by omega), cdt (by simp only [List.length_cons, List.length_nil]; omega), wr_i64 (n := i + 1) (by omega) (by omega)]
    · dsimp only
      rw [show n - i.toNat = (n - (i + 1).toNat) + 1 by omega, fixS, List.append_assoc, show (i + 1).toNat = i.toNat + 1 by omega, Int.toNat_of_nonneg hi]
      rfl
  · left
    rw [cdf hlt, show n - i.toNat = 0 by omega]
    show some (out, ()) = some (out ++ [], ())
    rw [List.append_nil]

theorem frag_ref {k : Nat} {kind : Int} {data : List Int} (hl : data.length ≤ 4194304) (hb : ∀ x ∈ data, fits .u8 x) (hkd : fits .u8 kind) (hk : data.length + 20 ≤ k) : F29 k (kind, (data, ())) = some (fragS kind data, ()) := by
  unfold F29
  have hk8 := fits_u8 hkd
  have hs := sum_ref (k := k) (l := kind :: data) (by simp only [List.length_cons]; unfold maxLen; omega) (fun x hx => by
    rcases List.mem_cons.1 hx with rfl | hx
    · exact hkd
    · exact hb x hx) (by simp only [List.length_cons]; omega)
  have hf : F36 k (kind :: data, ()) = some (fixS (sumS (kind :: data)) 0 4, ()) := by
    unfold F36
    have hu := sumS_u32 (l := kind :: data)
    unfold U32 at hu
    dsimp only
    rw [hs]
    simp only [Option.bind_some]
    rw [wr_u64 (by omega) (by omega)]
    have := fixed_ref (k := k) (v := sumS (kind :: data)) (n := 4) (by omega) (by omega)
    rw [show ((4 : Nat) : Int) = 4 from rfl] at this
    rw [this]
    rfl
  have hA : IntKind.u8.wrap (Int.tmod (NatCast.natCast data.length) 256) = IntKind.u8.wrap (data.length : Int) := by
    show IntKind.u8.wrap (Int.tmod (data.length : Int) 256) = _
    rw [Int.tmod_eq_emod_of_nonneg (by omega), IntKind.wrap_u8, IntKind.wrap_u8]; omega
  have hB : IntKind.u8.wrap (IntKind.i64.wrap (Int.tdiv (NatCast.natCast data.length) 256)) = IntKind.u8.wrap (ishr .i64 (data.length : Int) 8) := by
    show IntKind.u8.wrap (IntKind.i64.wrap (Int.tdiv (data.length : Int) 256)) = _
    unfold ishr
    rw [show (min (8 : Int).toNat (IntKind.i64.bits)) = 8 from by decide, Int.fdiv_eq_ediv_of_nonneg _ (by decide), show (2 : Int) ^ 8 = 256 from by decide, Int.tdiv_eq_ediv_of_nonneg (by omega), wr_i64 (by omega) (by omega)]
  dsimp only
  rw [wr_u8 (n := kind) hk8.1 hk8.2, cdt (by simp only [List.length_cons, List.length_nil]; omega), show ([kind] ++ data) = kind :: data from rfl, hf]
  simp only [Option.bind_some]
  rw [hA, hB, cdt (by simp only [fixS_length, List.length_cons, List.length_nil]; omega), cdt (by simp only [List.length_append, fixS_length, List.length_cons, List.length_nil]; omega)]
  rfl

theorem append_ref {k : Nat} {at_ : Int} {l : List Int} (hl : l.length ≤ 4194304) (hb : ∀ x ∈ l, fits .u8 x) (hk : 3 * l.length + 50 ≤ k) :
    F21 k (at_, (l, ())) = some (appS ((max at_ 0) % 64).toNat true l, (0, ())) := by
  unfold F21
  dsimp only
  rw [cdf (p := (4194304 : Int) < NatCast.natCast l.length) (by show ¬ (4194304 : Int) < (l.length : Int); omega), tmod64 (by omega)]
  generalize hp : (max at_ 0) % 64 = p
  have hp0 : 0 ≤ p ∧ p < 64 := by rw [← hp]; omega
  refine Eq.trans (iter_to (fun (t : ((Int × ((List Int) × (Unit × (Bool × Unit)))) × (Unit × ((List Int) × Unit)))) => 0 ≤ t.1.1 ∧ t.1.1 < 64 ∧ t.1.2.1.length ≤ l.length ∧ (∀ x ∈ t.1.2.1, fits .u8 x) ∧ t.2.2.1.length + 10 * t.1.2.1.length + (if t.1.1 = 0 then 0 else 20) ≤ 10 * l.length + 20)
    (fun (t : ((Int × ((List Int) × (Unit × (Bool × Unit)))) × (Unit × ((List Int) × Unit)))) => 2 * t.1.2.1.length + (if t.1.1 = 0 then 1 else 2))
    (fun (t : ((Int × ((List Int) × (Unit × (Bool × Unit)))) × (Unit × ((List Int) × Unit)))) => some (t.2.2.1 ++ appS t.1.1.toNat (!t.1.2.2.2.1) t.1.2.1, (0, ()))) ?_ _ _ ?_ ?_) ?_
  rotate_left
  · refine ⟨hp0.1, hp0.2, Nat.le_refl _, hb, ?_⟩
    dsimp only
    rw [List.length_nil]
    split <;> omega
  · show 2 * l.length + (if p = 0 then 1 else 2) < k
    split <;> omega
  · rfl
  rintro ⟨⟨q, r, u1, bg, u2⟩, u3, out, u4⟩ next ⟨hq0, hq1, h1, h2, h3⟩
  dsimp only at hq0 hq1 h1 h2 h3 ⊢
  have h3' : out.length + 10 * r.length ≤ 10 * l.length + 20 := by omega
  have hroom : IntKind.i64.wrap (64 - q) = 64 - q := wr_i64 (by omega) (by omega)
  rw [hroom]
  by_cases h7 : 64 - q < 7
  · right
    refine ⟨((0, (r, (u1, (bg, u2)))), (u3, (out ++ List.replicate (64 - q).toNat 0, u4))), ?_, ⟨Int.le_refl 0, by dsimp only; omega, h1, h2, ?_⟩, ?_, ?_⟩
    · rw [cdt h7, cdt (by omega), cdt (by omega)]
    · dsimp only
      rw [List.length_append, List.length_replicate, if_pos rfl]
      rw [if_neg (by omega)] at h3
      omega
    · dsimp only
      rw [if_pos rfl, if_neg (show ¬ q = 0 by omega)]
      omega
    · dsimp only
      conv => rhs; rw [appS, dif_pos (by omega)]
      rw [List.append_assoc, show 64 - q.toNat = (64 - q).toNat by omega]
      rfl
  · have hmin : min (IntKind.i64.wrap (64 - q - 7)) (NatCast.natCast r.length) = ((min (57 - q.toNat) r.length : Nat) : Int) := by
      show min (IntKind.i64.wrap (64 - q - 7)) (r.length : Int) = _
      rw [wr_i64 (by omega) (by omega)]; omega
    rw [cdf h7]
    simp only [hmin]
    generalize hn : min (57 - q.toNat) r.length = n
    have hnl : n ≤ r.length := by omega
    have hends : (((n : Nat) : Int) == NatCast.natCast r.length) = decide (r.length ≤ 57 - q.toNat) := by
      rw [Bool.eq_iff_iff, beq_iff_eq, decide_eq_true_eq]
      show ((n : Nat) : Int) = (r.length : Int) ↔ _
      omega
    rw [hends]
    have hfrag : ∀ b, F29 k (kindS (!bg) b, (r.take n, ())) = some (fragS (kindS (!bg) b) (r.take n), ()) := fun b =>
      frag_ref (by rw [List.length_take]; omega) (fun x hx => h2 x (List.mem_of_mem_take hx)) (kindS_fits _ _) (by rw [List.length_take]; omega)
    have hfl : ∀ b, (fragS (kindS (!bg) b) (r.take n)).length = 7 + n := fun b => by rw [fragS_length, List.length_take, Nat.min_eq_left hnl]
    have hcond : (((n : Nat) : Int) ≤ NatCast.natCast r.length) := by show ((n : Nat) : Int) ≤ (r.length : Int); omega
    have hc0 : (0 : Int) ≤ ((n : Nat) : Int) := by omega
    have hkind : ∀ (K : ((Int × (Int × ((List Int) × (Unit × (Int × (Bool × Unit)))))) × (Unit × ((List Int) × Unit))) → Option ((List Int) × (Int × Unit))) (e : Bool),
        ajoin (fun (k4 : ((Int × (Int × ((List Int) × (Unit × (Int × (Bool × Unit)))))) × (Unit × ((List Int) × Unit))) → Option ((List Int) × (Int × Unit))) => cond (!bg) (cond e (k4 ((1, (q, (r, ((), (((n : Nat) : Int), (e, ())))))), ((), (out, ())))) (cond (!bg) (k4 ((2, (q, (r, ((), (((n : Nat) : Int), (e, ())))))), ((), (out, ())))) (cond e (k4 ((4, (q, (r, ((), (((n : Nat) : Int), (e, ())))))), ((), (out, ())))) (k4 ((3, (q, (r, ((), (((n : Nat) : Int), (e, ())))))), ((), (out, ()))))))) (cond (!bg) (k4 ((2, (q, (r, ((), (((n : Nat) : Int), (e, ())))))), ((), (out, ())))) (cond e (k4 ((4, (q, (r, ((), (((n : Nat) : Int), (e, ())))))), ((), (out, ())))) (k4 ((3, (q, (r, ((), (((n : Nat) : Int), (e, ())))))), ((), (out, ()))))))) K
          = K ((kindS (!bg) e, (q, (r, ((), (((n : Nat) : Int), (e, ())))))), ((), (out, ()))) := by
      intro K e
      cases bg <;> cases e <;> rfl
    rw [hkind]
    dsimp only
    rw [cdt hc0, cdt hcond, Int.toNat_natCast, hfrag]
    simp only [Option.bind_some]
    have hg := hfl (decide (r.length ≤ 57 - q.toNat))
    rw [cdt (by omega), cdt hc0, cdt hcond]
    by_cases he : r.length ≤ 57 - q.toNat
    · left
      rw [decide_eq_true he, cond_true, appS, dif_neg (by omega), dif_pos he, show n = r.length by omega, List.take_length]
    · right
      rw [decide_eq_false he, cond_false]
      have hat : Int.tmod (IntKind.i64.wrap (IntKind.i64.wrap (q + 7) + ((n : Nat) : Int))) 64 = 0 := by
        rw [wr_i64 (n := q + 7) (by omega) (by omega), wr_i64 (by omega) (by omega), tmod64 (by omega)]; omega
      rw [hat]
      refine ⟨((0, (r.drop n, (u1, (true, u2)))), (u3, (out ++ fragS (kindS (!bg) false) (r.take n), u4))), rfl, ⟨Int.le_refl 0, by dsimp only; omega, by dsimp only; rw [List.length_drop]; omega, fun x hx => h2 x (List.mem_of_mem_drop hx), ?_⟩, ?_, ?_⟩
      · dsimp only
        rw [List.length_append, hfl, List.length_drop, if_pos rfl]
        split at h3 <;> omega
      · dsimp only
        rw [if_pos rfl, List.length_drop]
        split <;> omega
      · dsimp only
        conv => rhs; rw [appS, dif_neg (by omega), dif_neg he]
        rw [show n = 57 - q.toNat by omega, List.append_assoc]
        rfl

theorem length_ref {k : Nat} {at_ n : Int} (h0 : 0 ≤ n) (h1 : n ≤ 4194304) (hk : 3 * n.toNat + 50 ≤ k) :
    F23 k (at_, (n, ())) = some (((appS ((max at_ 0) % 64).toNat true (List.replicate n.toNat 0)).length : Int), ()) := by
  unfold F23
  dsimp only
  have hg : n.toNat * 1 ≤ 140737488355328 := by omega
  rw [cdf (by omega), cdf (by omega), cdt rfl, cdt h0, cdt hg, append_ref (by rw [List.length_replicate]; omega) (fun x hx => by
    rw [(List.mem_replicate.1 hx).2]; simp [fits, IntKind.min, IntKind.max, IntKind.signed, IntKind.bits]) (by rw [List.length_replicate]; omega)]
  rfl

/-- How long it is hangs on the lengths alone. -/
theorem app_same : (m : Nat) → (pos : Nat) → (b : Bool) → (l l' : List Int) → l.length = l'.length → 2 * l.length + (if pos = 0 then 1 else 2) ≤ m → (appS pos b l).length = (appS pos b l').length
  | 0, pos, b, l, l', hl, hm => by split at hm <;> omega
  | m + 1, pos, b, l, l', hl, hm => by
    rw [appS]
    conv => rhs; rw [appS]
    by_cases h : 57 < pos
    · rw [dif_pos h, dif_pos h, List.length_append, List.length_append, app_same m 0 b l l' hl (by rw [if_neg (by omega)] at hm; rw [if_pos rfl]; omega)]
    · rw [dif_neg h, dif_neg h]
      by_cases h2 : l.length ≤ 57 - pos
      · rw [dif_pos h2, dif_pos (by omega), fragS_length, fragS_length, hl]
      · rw [dif_neg h2, dif_neg (by omega), List.length_append, List.length_append, fragS_length, fragS_length, List.length_take, List.length_take, hl,
          app_same m 0 false (l.drop (57 - pos)) (l'.drop (57 - pos)) (by rw [List.length_drop, List.length_drop, hl]) (by rw [if_pos rfl, List.length_drop]; split at hm <;> omega)]

theorem law_WalAppends : ∀ xs, OkS [((.int .i64), true), ((.sl (.int .u8)), false), ((.int .i64), true)] xs → ∃ k, F7 k xs = some (true, ()) := by
  have main : ∀ (at_ : Int) (l : List Int) (n : Int), fits .i64 at_ → (∀ x ∈ l, fits .u8 x) → ∃ k, F7 k (at_, (l, (n, ()))) = some (true, ()) := by
    intro at_ l n hat hb
    refine ⟨70000, ?_⟩
    unfold F7
    dsimp only
    rw [known_wal]
    simp only [Option.bind_some, Bool.not_true, cond_false]
    by_cases h1 : (3000 : Int) < (l.length : Int)
    · rw [cdt (p := (3000 : Int) < NatCast.natCast l.length) h1]
    rw [cdf (p := (3000 : Int) < NatCast.natCast l.length) h1, append_code hat (by omega) hb (by omega), append_ref (by omega) hb (by omega)]
    simp only [Option.bind_some]
    have h9 : F14 70000 (appS ((max at_ 0) % 64).toNat true l, (appS ((max at_ 0) % 64).toNat true l, ())) = some (true, ()) := by
      unfold F14
      dsimp only
      rw [beq_self_eq_true]
    rw [show (bne (0 : Int) 0) = false from rfl, cond_false, h9]
    simp only [Option.bind_some, Bool.not_true, cond_false]
    have hlen : F22 70000 (at_, ((NatCast.natCast l.length : Int), ())) = some (((appS ((max at_ 0) % 64).toNat true l).length : Int), ()) := by
      show F22 70000 (at_, ((l.length : Int), ())) = _
      rw [length_code hat (by omega) (by omega) (by omega), Int.toNat_natCast, app_same (2 * l.length + 2) _ _ (List.replicate l.length 0) l (by rw [List.length_replicate]) (by rw [List.length_replicate]; split <;> omega)]
    have hself : (((appS ((max at_ 0) % 64).toNat true l).length : Int) == NatCast.natCast (appS ((max at_ 0) % 64).toNat true l).length) = true := beq_self_eq_true _
    have hrest : n ≤ 5000 ∨ 4194304 < n → ∃ v, F22 70000 (at_, (n, ())) = some (v, ()) ∧ F23 70000 (at_, (n, ())) = some (v, ()) := by
      intro h
      by_cases h0 : n < 0
      · exact ⟨0, by unfold F22; dsimp only; rw [cdt h0], by unfold F23; dsimp only; rw [cdt h0]⟩
      · by_cases h5 : 4194304 < n
        · exact ⟨0, by unfold F22; dsimp only; rw [cdf h0, cdt h5], by unfold F23; dsimp only; rw [cdf h0, cdt h5]⟩
        · exact ⟨_, length_code hat (by omega) (by omega) (by omega), length_ref (by omega) (by omega) (by omega)⟩
    have last : (n ≤ 5000 ∨ 4194304 < n) → (Option.bind (F22 70000 (at_, ((NatCast.natCast l.length : Int), ()))) (fun ys6 => cond (ys6.1 == (NatCast.natCast (appS ((max at_ 0) % 64).toNat true l).length : Int)) (Option.bind (F22 70000 (at_, (n, ()))) (fun ys7 => Option.bind (F23 70000 (at_, (n, ()))) (fun ys8 => some ((ys7.1 == ys8.1), ())))) (some (false, ())))) = some (true, ()) := by
      intro h
      obtain ⟨v, hv1, hv2⟩ := hrest h
      rw [hlen]
      simp only [Option.bind_some]
      rw [hself, cond_true, hv1, hv2]
      simp only [Option.bind_some, beq_self_eq_true]
    by_cases h5 : 5000 < n
    · rw [cdt h5]
      by_cases h6 : n ≤ 4194304
      · rw [cdt h6, hlen]
        simp only [Option.bind_some]
        rw [hself]
      · rw [cdf h6]
        exact last (by omega)
    · rw [cdf h5]
      exact last (by omega)
  exact fun xs h => main xs.1 xs.2.1 xs.2.2.1 h.1 h.2.1.2
end Go.Proofs.YtpgmkoaklpkecaaDoor.Eng

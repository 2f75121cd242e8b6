/- Logs: what Append lays down. -/
import Derived.Test.YtpgmkoaklpkecaaDoorMtSum
import Derived.Test.YtpgmkoaklpkecaaDoorEng21
import Derived.KernelRfl
set_option linter.unusedVariables false
namespace Go.Proofs.YtpgmkoaklpkecaaDoor.Eng

theorem known_wal : F10 1000 () = some (true, ()) := by kernel_rfl

/-! ### A number's bytes -/
def fixS (v : Int) : Nat → Nat → List Int
  | _, 0 => []
  | i, n + 1 => IntKind.u8.wrap (ishr .u64 v (8 * (i : Int))) :: fixS v (i + 1) n
theorem fixS_length (v : Int) : (n i : Nat) → (fixS v i n).length = n
  | 0, i => rfl
  | n + 1, i => by simp [fixS, fixS_length v n]

theorem fixed_code {k : Nat} {v : Int} {n : Nat} (hn : n ≤ 8) (hk : 10 ≤ k) : F39 k (v, ((n : Int), ())) = some (fixS v 0 n, ()) := by
  unfold F39
  refine Eq.trans (iter_to (fun (t : ((Unit × (Int × (Int × (Int × Unit)))) × (Unit × ((List Int) × Unit)))) => 0 ≤ t.1.2.1 ∧ t.1.2.1 ≤ n ∧ v = t.1.2.2.1 ∧ (n : Int) = t.1.2.2.2.1 ∧ (List.length t.2.2.1 : Int) = t.1.2.1)
    (fun (t : ((Unit × (Int × (Int × (Int × Unit)))) × (Unit × ((List Int) × Unit)))) => n - t.1.2.1.toNat)
    (fun (t : ((Unit × (Int × (Int × (Int × Unit)))) × (Unit × ((List Int) × Unit)))) => some (t.2.2.1 ++ fixS v t.1.2.1.toNat (n - t.1.2.1.toNat), ())) ?_ _ _ ?_ ?_) ?_
  rotate_left
  · exact ⟨Int.le_refl 0, by show (0 : Int) ≤ (n : Int); omega, rfl, rfl, rfl⟩
  · show n - 0 < k
    omega
  · rfl
  rintro ⟨⟨u1, i, v2, n2, u2⟩, u3, out, u4⟩ next ⟨hi, hi2, e1, e2, hl⟩
  dsimp only at hi hi2 e1 e2 hl ⊢
  subst e1 e2
  by_cases hlt : i < (n : Int)
  · right
    refine ⟨((u1, (i + 1, (v, ((n : Int), u2)))), (u3, (out ++ [IntKind.u8.wrap (ishr .u64 v (8 * i))], u4))), ?_, ⟨by dsimp only; omega, by dsimp only; omega, rfl, rfl, by dsimp only; rw [List.length_append, List.length_singleton]; omega⟩, by dsimp only; omega, ?_⟩
    · rw [cdt hlt, wr_i64 (n := 8 * i) (by omega) (by omega), cdt (by omega), cdt (by simp only [List.length_cons, List.length_nil]; omega), wr_i64 (n := i + 1) (by omega) (by omega)]
    · dsimp only
      rw [show n - i.toNat = (n - (i + 1).toNat) + 1 by omega, fixS, List.append_assoc, show (i + 1).toNat = i.toNat + 1 by omega, Int.toNat_of_nonneg hi]
      rfl
  · left
    rw [cdf hlt, show n - i.toNat = 0 by omega]
    show some (out, ()) = some (out ++ [], ())
    rw [List.append_nil]

/-! ### A fragment -/
def fragS (kind : Int) (data : List Int) : List Int :=
  (fixS (sumS (kind :: data)) 0 4 ++ [IntKind.u8.wrap (data.length : Int), IntKind.u8.wrap (ishr .i64 (data.length : Int) 8), kind]) ++ data
theorem fragS_length (kind : Int) (data : List Int) : (fragS kind data).length = 7 + data.length := by
  unfold fragS
  simp [fixS_length]; omega

theorem frag_code {k : Nat} {kind : Int} {data : List Int} (hl : data.length ≤ 4194304) (hb : ∀ x ∈ data, fits .u8 x) (hkd : fits .u8 kind) (hk : data.length + 20 ≤ k) : F27 k (kind, (data, ())) = some (fragS kind data, ()) := by
  unfold F27
  have hs := sum_code (k := k) (l := kind :: data) (by simp only [List.length_cons]; unfold maxLen; omega) (fun x hx => by
    rcases List.mem_cons.1 hx with rfl | hx
    · exact hkd
    · exact hb x hx) (by simp only [List.length_cons]; omega)
  have hf : F34 k (sumS (kind :: data), ()) = some (fixS (sumS (kind :: data)) 0 4, ()) := by
    unfold F34
    have hu := sumS_u32 (l := kind :: data)
    unfold U32 at hu
    dsimp only
    rw [wr_u64 (by omega) (by omega)]
    have := fixed_code (k := k) (v := sumS (kind :: data)) (n := 4) (by omega) (by omega)
    rw [show ((4 : Nat) : Int) = 4 from rfl] at this
    rw [this]
    rfl
  dsimp only
  rw [cdt (by simp only [List.length_cons, List.length_nil]; omega), show ([kind] ++ data) = kind :: data from rfl, hs]
  simp only [Option.bind_some]
  rw [hf]
  simp only [Option.bind_some]
  rw [cdt (by simp only [fixS_length, List.length_cons, List.length_nil]; omega), cdt (by simp only [List.length_append, fixS_length, List.length_cons, List.length_nil]; omega)]
  rfl

theorem kind_code (k : Nat) (b e : Bool) : F28 k (b, (e, ())) = some (if b && e then 1 else if b then 2 else if e then 4 else 3, ()) := by
  unfold F28
  cases b <;> cases e <;> rfl

/-! ### A record's bytes -/
def kindS (b e : Bool) : Int := if b && e then 1 else if b then 2 else if e then 4 else 3
theorem kindS_fits (b e : Bool) : fits .u8 (kindS b e) := by cases b <;> cases e <;> simp [kindS, fits, IntKind.min, IntKind.max, IntKind.signed, IntKind.bits]

def appS (pos : Nat) (b : Bool) (l : List Int) : List Int :=
  if h : 57 < pos then List.replicate (64 - pos) 0 ++ appS 0 b l
  else if h2 : l.length ≤ 57 - pos then fragS (kindS b true) l
  else fragS (kindS b false) (l.take (57 - pos)) ++ appS 0 false (l.drop (57 - pos))
termination_by 2 * l.length + (if pos = 0 then 1 else 2)
decreasing_by
  · rw [if_pos trivial, if_neg (by omega)]; omega
  · rw [if_pos trivial, List.length_drop]; split <;> omega

theorem tmod64 {x : Int} (h : 0 ≤ x) : x.tmod 64 = x % 64 := Int.tmod_eq_emod_of_nonneg h

theorem append_code {k : Nat} {at_ : Int} {l : List Int} (hat : fits .i64 at_) (hl : l.length ≤ 4194304) (hb : ∀ x ∈ l, fits .u8 x) (hk : 3 * l.length + 50 ≤ k) :
    F19 k (at_, (l, ())) = some (appS ((max at_ 0) % 64).toNat true l, (0, ())) := by
  unfold F19
  dsimp only
  rw [cdf (p := (4194304 : Int) < NatCast.natCast l.length) (by show ¬ (4194304 : Int) < (l.length : Int); omega), tmod64 (by omega)]
  generalize hp : (max at_ 0) % 64 = p
  have hp0 : 0 ≤ p ∧ p < 64 := by rw [← hp]; omega
  refine Eq.trans (iter_to (fun (t : (((List Int) × (Unit × (Bool × (Bool × (Int × Unit))))) × (Unit × ((List Int) × Unit)))) => p = t.1.2.2.2.2.1 ∧ (t.1.2.2.2.1 = false → t.1.1.length ≤ l.length ∧ (∀ x ∈ t.1.1, fits .u8 x) ∧ t.2.2.1.length + 10 * t.1.1.length + (if (p + (t.2.2.1.length : Int)) % 64 = 0 then 0 else 20) ≤ 10 * l.length + 20))
    (fun (t : (((List Int) × (Unit × (Bool × (Bool × (Int × Unit))))) × (Unit × ((List Int) × Unit)))) => if t.1.2.2.2.1 then 0 else 2 * t.1.1.length + (if (p + (t.2.2.1.length : Int)) % 64 = 0 then 1 else 2))
    (fun (t : (((List Int) × (Unit × (Bool × (Bool × (Int × Unit))))) × (Unit × ((List Int) × Unit)))) => some (if t.1.2.2.2.1 then t.2.2.1 else t.2.2.1 ++ appS ((p + (t.2.2.1.length : Int)) % 64).toNat t.1.2.2.1 t.1.1, (0, ()))) ?_ _ _ ?_ ?_) ?_
  rotate_left
  · refine ⟨rfl, fun _ => ⟨Nat.le_refl _, hb, ?_⟩⟩
    dsimp only
    rw [List.length_nil]
    split <;> omega
  · show (if false = true then 0 else 2 * l.length + (if (p + (([] : List Int).length : Int)) % 64 = 0 then 1 else 2)) < k
    rw [if_neg (by simp)]
    split <;> omega
  · show some (if false = true then ([] : List Int) else [] ++ appS ((p + (([] : List Int).length : Int)) % 64).toNat true l, ((0 : Int), ())) = _
    rw [if_neg (by simp), List.nil_append, List.length_nil, show ((0 : Nat) : Int) = 0 from rfl, Int.add_zero, Int.emod_eq_of_lt hp0.1 hp0.2]
  rintro ⟨⟨r, u1, bg, en, p2, u2⟩, u3, out, u4⟩ next ⟨e1, hI⟩
  dsimp only at e1 hI ⊢
  subst e1
  cases en with
  | true => left; rfl
  | false =>
    right
    obtain ⟨h1, h2, h3⟩ := hI rfl
    have h3' : out.length + 10 * r.length ≤ 10 * l.length + 20 := by omega
    generalize hq : ((p + (out.length : Int)) % 64) = q at *
    have hq0 : 0 ≤ q ∧ q < 64 := by rw [← hq]; omega
    have hroom : F26 k (IntKind.i64.wrap (p + NatCast.natCast out.length), ()) = some (64 - q, ()) := by
      unfold F26
      dsimp only
      show some (IntKind.i64.wrap (64 - (IntKind.i64.wrap (p + (out.length : Int))).tmod 64), ()) = _
      rw [wr_i64 (n := p + (out.length : Int)) (by omega) (by omega), tmod64 (by omega), hq, wr_i64 (by omega) (by omega)]
    simp only [Bool.not_false, cond_true, hroom, Option.bind_some]
    by_cases h7 : 64 - q < 7
    · refine ⟨((r, (u1, (bg, (false, (p, u2))))), (u3, (out ++ List.replicate (64 - q).toNat 0, u4))), ?_, ⟨rfl, fun _ => ⟨h1, h2, ?_⟩⟩, ?_, ?_⟩
      · rw [cdt h7, cdt (by omega), cdt (by omega)]
      · dsimp only
        rw [List.length_append, List.length_replicate]
        rw [if_neg (by omega)] at h3
        rw [if_pos (by omega)]
        omega
      · dsimp only
        have hz : (p + ((out.length + (64 - q).toNat : Nat) : Int)) % 64 = 0 := by omega
        rw [List.length_append, List.length_replicate, if_neg (show ¬ false = true by simp), if_neg (show ¬ false = true by simp), if_pos hz, if_neg (show ¬ q = 0 by omega)]
        omega
      · dsimp only
        rw [if_neg (show ¬ false = true by simp), if_neg (show ¬ false = true by simp), List.length_append, List.length_replicate, show ((p + ((out.length + (64 - q).toNat : Nat) : Int)) % 64).toNat = 0 by omega]
        conv => rhs; rw [appS, dif_pos (by omega)]
        rw [List.append_assoc, show 64 - q.toNat = (64 - q).toNat by omega]
    · have hmin : min (IntKind.i64.wrap (64 - q - 7)) (NatCast.natCast r.length) = ((min (57 - q.toNat) r.length : Nat) : Int) := by
        show min (IntKind.i64.wrap (64 - q - 7)) (r.length : Int) = _
        rw [wr_i64 (by omega) (by omega)]; omega
      rw [cdf h7]
      simp only [hmin]
      generalize hn : min (57 - q.toNat) r.length = n
      have hnl : n ≤ r.length := by omega
      have hkind := kind_code k bg (((n : Nat) : Int) == NatCast.natCast r.length)
      have hends : (((n : Nat) : Int) == NatCast.natCast r.length) = decide (r.length ≤ 57 - q.toNat) := by
        rw [Bool.eq_iff_iff, beq_iff_eq, decide_eq_true_eq]
        show ((n : Nat) : Int) = (r.length : Int) ↔ _
        omega
      rw [hends] at hkind ⊢
      have hfrag := frag_code (k := k) (kind := kindS bg (decide (r.length ≤ 57 - q.toNat))) (data := r.take n) (by rw [List.length_take]; omega) (fun x hx => h2 x (List.mem_of_mem_take hx)) (kindS_fits _ _) (by rw [List.length_take]; omega)
      have hfl : ∀ b, (fragS (kindS bg b) (r.take n)).length = 7 + n := fun b => by rw [fragS_length, List.length_take, Nat.min_eq_left hnl]
      have hcond : (((n : Nat) : Int) ≤ NatCast.natCast r.length) := by show ((n : Nat) : Int) ≤ (r.length : Int); omega
      have hstep : (cond (decide (0 ≤ ((n : Nat) : Int))) (cond (decide (((n : Nat) : Int) ≤ NatCast.natCast r.length)) (Option.bind (F28 k (bg, (decide (r.length ≤ 57 - q.toNat), ()))) (fun ys5 => Option.bind (F27 k (ys5.1, (List.take ((n : Nat) : Int).toNat r, ()))) (fun ys6 => cond (decide ((out.length + List.length ys6.1) * 1 ≤ 140737488355328)) (cond (decide (0 ≤ ((n : Nat) : Int))) (cond (decide (((n : Nat) : Int) ≤ NatCast.natCast r.length)) (next ((List.drop ((n : Nat) : Int).toNat r, (u1, (false, (decide (r.length ≤ 57 - q.toNat), (p, u2))))), (u3, (out ++ ys6.1, u4)))) none) none) none))) none) none)
          = next ((r.drop n, (u1, (false, (decide (r.length ≤ 57 - q.toNat), (p, u2))))), (u3, (out ++ fragS (kindS bg (decide (r.length ≤ 57 - q.toNat))) (r.take n), u4))) := by
        rw [cdt (by omega), cdt hcond, hkind]
        simp only [Option.bind_some, Int.toNat_natCast]
        rw [show (if (bg && decide (r.length ≤ 57 - q.toNat)) = true then (1 : Int) else if bg = true then 2 else if decide (r.length ≤ 57 - q.toNat) = true then 4 else 3) = kindS bg (decide (r.length ≤ 57 - q.toNat)) from rfl, hfrag]
        simp only [Option.bind_some]
        have hfl' := hfl (decide (r.length ≤ 57 - q.toNat))
        rw [cdt (by omega), cdt (by omega), cdt hcond]
      refine ⟨_, hstep, ⟨rfl, fun he => ?_⟩, ?_, ?_⟩
      · have he : decide (r.length ≤ 57 - q.toNat) = false := he
        have he' := of_decide_eq_false he
        refine ⟨by dsimp only; rw [List.length_drop]; omega, fun x hx => h2 x (List.mem_of_mem_drop hx), ?_⟩
        dsimp only
        rw [List.length_append, hfl, List.length_drop, if_pos (by omega)]
        split at h3 <;> omega
      · dsimp only
        rw [if_neg (show ¬ false = true by simp)]
        by_cases he : r.length ≤ 57 - q.toNat
        · rw [decide_eq_true he, if_pos rfl]
          split <;> omega
        · rw [decide_eq_false he, if_neg (by simp), List.length_append, hfl, List.length_drop, if_pos (by omega)]
          split <;> omega
      · dsimp only
        rw [if_neg (show ¬ false = true by simp)]
        conv => rhs; rw [appS, dif_neg (by omega)]
        by_cases he : r.length ≤ 57 - q.toNat
        · rw [decide_eq_true he, if_pos rfl, dif_pos he, show n = r.length by omega, List.take_length]
        · rw [decide_eq_false he, if_neg (by simp), dif_neg he, List.length_append, hfl, show ((p + ((out.length + (7 + n) : Nat) : Int)) % 64).toNat = 0 by omega, show n = 57 - q.toNat by omega, List.append_assoc]

/-! ### How long it is -/
theorem app0_length : (L : Nat) → (l : List Int) → (b : Bool) → l.length = L → ∃ f : Nat, 1 ≤ f ∧ (appS 0 b l).length = L + 7 * f ∧ 64 * (f - 1) < L + 7 * f ∧ L + 7 * f ≤ 64 * f := by
  intro L
  induction L using Nat.strongRecOn with
  | _ L ih =>
    intro l b hl
    by_cases h : l.length ≤ 57 - 0
    · refine ⟨1, Nat.le_refl _, ?_, by omega, by omega⟩
      rw [appS, dif_neg (by omega), dif_pos h, fragS_length]; omega
    · obtain ⟨f, h1, h2, h3, h4⟩ := ih (L - 57) (by omega) (l.drop (57 - 0)) false (by rw [List.length_drop]; omega)
      refine ⟨f + 1, by omega, ?_, by omega, by omega⟩
      rw [appS, dif_neg (by omega), dif_neg h, List.length_append, fragS_length, h2, List.length_take, Nat.min_eq_left (by omega)]
      omega

theorem app_room {pos : Nat} {b : Bool} {l : List Int} (hp : pos < 64) : l.length + 7 ≤ (appS pos b l).length ∧ (appS pos b l).length ≤ l.length + 7 * ((pos + (appS pos b l).length + 63) / 64 + 1) + 6 := by
  by_cases h : 57 < pos
  · obtain ⟨f, h1, h2, h3, h4⟩ := app0_length l.length l b rfl
    have hl : (appS pos b l).length = (64 - pos) + (l.length + 7 * f) := by rw [appS, dif_pos h, List.length_append, List.length_replicate, h2]
    rw [hl]; omega
  · by_cases h2 : l.length ≤ 57 - pos
    · have hl : (appS pos b l).length = 7 + l.length := by rw [appS, dif_neg h, dif_pos h2, fragS_length]
      rw [hl]; omega
    · obtain ⟨f, q1, q2, q3, q4⟩ := app0_length (l.length - (57 - pos)) (l.drop (57 - pos)) false (by rw [List.length_drop])
      have hl : (appS pos b l).length = (7 + (57 - pos)) + (l.length - (57 - pos) + 7 * f) := by
        rw [appS, dif_neg h, dif_neg h2, List.length_append, fragS_length, q2, List.length_take, Nat.min_eq_left (by omega)]
      rw [hl]; omega

theorem app_le {pos : Nat} {b : Bool} {l : List Int} (hp : pos < 64) : (appS pos b l).length ≤ 8 * l.length + 100 := by
  have app0 : ∀ (l : List Int) (b : Bool), (appS 0 b l).length ≤ 8 * l.length + 7 := fun l b => by
    obtain ⟨f, h1, h2, h3, h4⟩ := app0_length l.length l b rfl
    rw [h2]; omega
  by_cases h : 57 < pos
  · rw [appS, dif_pos h, List.length_append, List.length_replicate]
    have := app0 l b; omega
  · by_cases h2 : l.length ≤ 57 - pos
    · rw [appS, dif_neg h, dif_pos h2, fragS_length]; omega
    · rw [appS, dif_neg h, dif_neg h2, List.length_append, fragS_length, List.length_take, Nat.min_eq_left (by omega)]
      have := app0 (l.drop (57 - pos)) false
      rw [List.length_drop] at this; omega

theorem length_code {k : Nat} {at_ n : Int} (hat : fits .i64 at_) (h0 : 0 ≤ n) (h1 : n ≤ 4194304) (hk : 3 * n.toNat + 50 ≤ k) :
    F22 k (at_, (n, ())) = some (((appS ((max at_ 0) % 64).toNat true (List.replicate n.toNat 0)).length : Int), ()) := by
  unfold F22
  dsimp only
  have hg : n.toNat * 1 ≤ 140737488355328 := by omega
  rw [cdf (by omega), cdf (by omega), cdt rfl, cdt h0, cdt hg, append_code hat (by rw [List.length_replicate]; omega) (fun x hx => by
    rw [(List.mem_replicate.1 hx).2]; simp [fits, IntKind.min, IntKind.max, IntKind.signed, IntKind.bits]) (by rw [List.length_replicate]; omega)]
  rfl

theorem law_WalRoom : ∀ xs, OkS [((.int .i64), true), ((.int .i64), true)] xs → ∃ k, F8 k xs = some (true, ()) := by
  have main : ∀ at_ n : Int, fits .i64 at_ → ∃ k, F8 k (at_, (n, ())) = some (true, ()) := by
    intro at_ n hat
    refine ⟨70000, ?_⟩
    unfold F8
    dsimp only
    rw [known_wal]
    simp only [Option.bind_some, Bool.not_true, cond_false]
    by_cases h1 : at_ < 0
    · rw [cdt h1]
    rw [cdf h1]
    by_cases h2 : 1048576 < at_
    · rw [cdt h2]
    rw [cdf h2]
    by_cases h3 : n < 0
    · rw [cdt h3]
    rw [cdf h3]
    by_cases h4 : 20000 < n
    · rw [cdt h4]
    rw [cdf h4, length_code hat (by omega) (by omega) (by omega)]
    simp only [Option.bind_some]
    have hr := app_room (pos := ((max at_ 0) % 64).toNat) (b := true) (l := List.replicate n.toNat 0) (by omega)
    have hle := app_le (pos := ((max at_ 0) % 64).toNat) (b := true) (l := List.replicate n.toNat 0) (by omega)
    rw [List.length_replicate] at hr hle
    generalize (appS ((max at_ 0) % 64).toNat true (List.replicate n.toNat 0)).length = len at *
    rw [wr_i64 (n := n + 7) (by omega) (by omega), cdt (by omega), tmod64 (by omega)]
    have e1 : IntKind.i64.wrap (at_ % 64 + (len : Int)) = at_ % 64 + (len : Int) := wr_i64 (by omega) (by omega)
    have e2 : IntKind.i64.wrap (at_ % 64 + (len : Int) + 64) = at_ % 64 + (len : Int) + 64 := wr_i64 (by omega) (by omega)
    have e3 : IntKind.i64.wrap (at_ % 64 + (len : Int) + 64 - 1) = at_ % 64 + (len : Int) + 63 := by rw [wr_i64 (by omega) (by omega)]; omega
    rw [e1, e2, e3, Int.tdiv_eq_ediv_of_nonneg (by omega)]
    have e4 : IntKind.i64.wrap ((at_ % 64 + (len : Int) + 63) / 64) = (at_ % 64 + (len : Int) + 63) / 64 := wr_i64 (by omega) (by omega)
    have e5 : IntKind.i64.wrap ((at_ % 64 + (len : Int) + 63) / 64 + 1) = (at_ % 64 + (len : Int) + 63) / 64 + 1 := wr_i64 (by omega) (by omega)
    have e6 : IntKind.i64.wrap (7 * ((at_ % 64 + (len : Int) + 63) / 64 + 1)) = 7 * ((at_ % 64 + (len : Int) + 63) / 64 + 1) := wr_i64 (by omega) (by omega)
    have e7 : IntKind.i64.wrap (n + 7 * ((at_ % 64 + (len : Int) + 63) / 64 + 1)) = n + 7 * ((at_ % 64 + (len : Int) + 63) / 64 + 1) := wr_i64 (by omega) (by omega)
    have e8 : IntKind.i64.wrap (n + 7 * ((at_ % 64 + (len : Int) + 63) / 64 + 1) + 6) = n + 7 * ((at_ % 64 + (len : Int) + 63) / 64 + 1) + 6 := wr_i64 (by omega) (by omega)
    rw [e4, e5, e6, e7, e8, decide_eq_true (by omega)]
  exact fun xs h => main xs.1 xs.2.1 h.1
end Go.Proofs.YtpgmkoaklpkecaaDoor.Eng

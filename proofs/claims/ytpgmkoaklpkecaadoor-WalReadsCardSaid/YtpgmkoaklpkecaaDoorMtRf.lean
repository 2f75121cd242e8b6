/- Logs: the record that stands at a place; the code's way. -/
import Derived.Test.YtpgmkoaklpkecaaDoorMtRe
set_option linter.unusedVariables false
namespace Go.Proofs.YtpgmkoaklpkecaaDoor.Eng

theorem all_head {s : List Int} (h : 0 < s.length) : (s.all fun x => x == 0) = (s.getD 0 0 == 0 && (s.drop 1).all fun x => x == 0) := by
  cases s with
  | nil => exact absurd h (by decide)
  | cons x l => rfl
theorem all_last {s : List Int} (h : 0 < s.length) : (s.all fun x => x == 0) = ((s.take (s.length - 1)).all (fun x => x == 0) && s.getD (s.length - 1) 0 == 0) := by
  conv => lhs; rw [← List.take_append_drop (s.length - 1) s, List.all_append, List.drop_eq_getElem_cons (by omega), List.drop_of_length_le (by omega)]
  rw [getD_getElem (by omega)]
  simp
theorem all_zero {s : List Int} {n : Nat} (h : s.length = n) : (s.all fun x => x == 0) = true ↔ s = List.replicate n 0 := by
  subst h
  rw [List.all_eq_true]
  constructor
  · intro h2
    exact List.eq_replicate_iff.2 ⟨rfl, fun x hx => by simpa using h2 x hx⟩
  · intro h2 x hx
    rw [h2] at hx
    simpa using (List.mem_replicate.1 hx).2

theorem room_code {k : Nat} {a : Nat} (ha : a ≤ 400000) : F26 k ((a : Int), ()) = some (((64 - a % 64 : Nat) : Int), ()) := by
  unfold F26
  dsimp only
  rw [tmod64 (by omega), wr_i64 (by omega) (by omega), show (64 - (a : Int) % 64) = ((64 - a % 64 : Nat) : Int) by omega]

theorem u4_code {k : Nat} {l : List Int} (hl : l.length ≤ 100000) (hb : ∀ x ∈ l, fits .u8 x) (h4 : 4 ≤ l.length) (hk : 10 ≤ k) : F38 k (l, ()) = some (unS (l.take 4), (0, ())) := by
  unfold F38
  have := unfixed_code (k := k) (l := l) (by unfold maxLen; omega) hb (n := 4) (by omega) h4 hk
  rw [show ((4 : Nat) : Int) = 4 from rfl] at this
  have hbd := unS_bound (l.take 4) fun y hy => hb y (List.mem_of_mem_take hy)
  rw [List.length_take, Nat.min_eq_left h4] at hbd
  dsimp only
  rw [this]
  simp only [Option.bind_some]
  rw [wr_u32 hbd.1 (by omega)]

theorem or_len {x y : Int} (hx0 : 0 ≤ x) (hx : x ≤ 255) (hy0 : 0 ≤ y) (hy : y ≤ 255) : bits .or .i64 x (ishl .i64 y 8) = (((x + 256 * y).toNat : Nat) : Int) := by
  obtain ⟨A, rfl⟩ := Int.eq_ofNat_of_zero_le hx0
  obtain ⟨B, rfl⟩ := Int.eq_ofNat_of_zero_le hy0
  have e : ishl .i64 (B : Int) 8 = ((2 ^ 8 * B : Nat) : Int) := by
    unfold ishl
    rw [show (2 : Int) ^ (min (8 : Int).toNat IntKind.i64.bits) = 256 from by decide, wr_i64 (by omega) (by omega)]
    omega
  have hA : A < 2 ^ 8 := by omega
  rw [e]
  have hbd : A ||| 2 ^ 8 * B < 2 ^ 16 := Nat.or_lt_two_pow (by omega) (by omega)
  show IntKind.i64.wrap ((BitVec.ofInt 64 (A : Int) ||| BitVec.ofInt 64 ((2 ^ 8 * B : Nat) : Int)).toNat : Int) = _
  rw [BitVec.toNat_or, ofInt_u64 A (by omega), ofInt_u64 (2 ^ 8 * B) (by omega), wr_i64 (by omega) (by omega), Nat.or_comm, ← Nat.two_pow_add_eq_or_of_lt hA]
  omega

theorem record_code {k : Nat} {b : List Int} (hl : b.length ≤ 100000) (hb : ∀ x ∈ b, fits .u8 x) (hk : b.length + 100 ≤ k) {a0 : Nat} (ha : a0 ≤ b.length) : okR (oneS b a0 false []) (F24 k (b, ((a0 : Int), ()))) := by
  unfold F24
  refine iter_inv (fun (t : ((Int × (Bool × ((List Int) × (Unit × ((Unit × (Unit × Unit)) × Unit))))) × (Unit × ((List Int) × ((Unit × Unit) × Unit))))) => b = t.1.2.2.1 ∧ 0 ≤ t.1.1 ∧ t.1.1 ≤ b.length ∧ t.2.2.1.length ≤ t.1.1.toNat)
    (fun t => b.length - t.1.1.toNat) (fun t r => okR (oneS b t.1.1.toNat t.1.2.1 t.2.2.1) r) ?_ k (((a0 : Int), (false, (b, ((), (((), ((), ())), ()))))), ((), (([] : List Int), (((), ()), ())))) ⟨rfl, by dsimp only; omega, by dsimp only; omega, by dsimp only; rw [List.length_nil]; omega⟩ (by dsimp only; omega)
  rintro ⟨⟨at_, bg, b', u1, ⟨u2, u3, u4⟩, u5⟩, u6, out, ⟨u7, u8⟩, u9⟩ next ⟨e1, ha0, ha1, ho⟩
  dsimp only at e1 ha0 ha1 ho ⊢
  subst e1
  obtain ⟨a, rfl⟩ := Int.eq_ofNat_of_zero_le ha0
  rw [Int.toNat_natCast] at ho ⊢
  have har : IntKind.i64.wrap ((a : Int) + ((64 - a % 64 : Nat) : Int)) = ((a + (64 - a % 64) : Nat) : Int) := by rw [wr_i64 (by omega) (by omega)]; omega
  have bad : okR none (some (([] : List Int), ((0 : Int), (false, ())))) := ⟨_, _, rfl⟩
  -- the filling
  have fillv : 57 < a % 64 → ∀ s, s = (b.take (min (a + (64 - a % 64)) b.length)).drop a → s.length = min (a + (64 - a % 64)) b.length - a := fun _ s hs => by
    rw [hs, List.length_drop, List.length_take]; omega
  have hmin : min (((a + (64 - a % 64) : Nat) : Int)) (NatCast.natCast b.length : Int) = ((min (a + (64 - a % 64)) b.length : Nat) : Int) := by
    show min (((a + (64 - a % 64) : Nat) : Int)) ((b.length : Nat) : Int) = _
    omega
  by_cases hbz : 57 < a % 64 ∧ ¬ (((b.take (min (a + (64 - a % 64)) b.length)).drop a).all fun x => x == 0) = true
  · refine out_ajoin fun K => ?_
    obtain ⟨h57, hz⟩ := hbz
    have hnone : oneS b a bg out = none := by
      rw [oneS, dif_pos h57, dif_neg]
      intro he
      refine hz ?_
      have hlen := congrArg List.length he
      rw [List.length_take, List.length_drop, List.length_replicate] at hlen
      rw [show min (a + (64 - a % 64)) b.length = a + (64 - a % 64) by omega, List.drop_take, show a + (64 - a % 64) - a = 64 - a % 64 by omega, he]
      exact (all_zero (List.length_replicate ..)).2 rfl
    rw [hnone, room_code (by omega)]
    simp only [Option.bind_some, har, hmin, Int.toNat_natCast]
    rw [cdt (by omega), cdt (by omega), cdt (by omega), cdt (p := ((min (a + (64 - a % 64)) b.length : Nat) : Int) ≤ NatCast.natCast b.length) (by show ((min (a + (64 - a % 64)) b.length : Nat) : Int) ≤ (b.length : Int); omega)]
    have hsl := fillv h57 _ rfl
    generalize (b.take (min (a + (64 - a % 64)) b.length)).drop a = s at *
    have hne : s.length ≠ 0 := fun h0 => hz (by rw [List.eq_nil_of_length_eq_zero h0]; rfl)
    rw [show ((NatCast.natCast s.length : Int) == 0) = false from beq_eq_false_iff_ne.2 (show (s.length : Int) ≠ 0 by omega), cond_false]
    refine cast (congrArg (okR none) (Eq.symm (Eq.trans ?_ (show cond (s.all fun x => x == 0) (K (((((a + (64 - a % 64) : Nat) : Int), (b, ((), ()))), ((b, ((a : Int), ((), (((), ((), ())), (bg, (b, ((a : Int), ()))))))), (out, (((), ()), (((0 : Int), ((), (false, ()))), ()))))))) (some (([] : List Int), ((0 : Int), (false, ())))) = some ([], (0, (false, ()))) by rw [show (s.all fun x => x == 0) = false by simpa using hz]; rfl)))) bad
    refine iter_keep (fun (t : (List Int × (Int × Unit))) => t.2.1 = 0 ∧ t.1.length ≤ 64) (fun t => t.1.length) (fun t => cond (t.1.all fun x => x == 0) (K (((((a + (64 - a % 64) : Nat) : Int), (b, ((), ()))), ((b, ((a : Int), ((), (((), ((), ())), (bg, (b, ((a : Int), ()))))))), (out, (((), ()), (((0 : Int), ((), (false, ()))), ()))))))) (some (([] : List Int), ((0 : Int), (false, ()))))) ?_ k _ ⟨rfl, by dsimp only; omega⟩ (by dsimp only; omega)
    rintro ⟨s1, c1, u10⟩ next1 ⟨e1, hs64⟩
    dsimp only at e1 hs64 ⊢
    subst e1
    by_cases hs1 : 0 < s1.length
    · have hw1 : IntKind.i64.wrap ((NatCast.natCast s1.length : Int) - 1) = ((s1.length - 1 : Nat) : Int) := by
        show IntKind.i64.wrap ((s1.length : Int) - 1) = _
        rw [wr_i64 (by omega) (by omega)]; omega
      rw [cdt (p := (0 : Int) < NatCast.natCast s1.length) (by show (0 : Int) < (s1.length : Int); omega)]
      simp only [hw1, Int.toNat_natCast]
      rw [cdt (by omega), cdt (p := ((s1.length - 1 : Nat) : Int) < NatCast.natCast s1.length) (by show ((s1.length - 1 : Nat) : Int) < (s1.length : Int); omega)]
      by_cases h0 : s1.getD (s1.length - 1) 0 = 0
      · right
        rw [h0, beq_self_eq_true, cond_true, cdt (by omega), cdt (p := ((s1.length - 1 : Nat) : Int) ≤ NatCast.natCast s1.length) (by show ((s1.length - 1 : Nat) : Int) ≤ (s1.length : Int); omega)]
        refine ⟨(s1.take (s1.length - 1), (0, u10)), rfl, ⟨rfl, by dsimp only; rw [List.length_take]; omega⟩, by dsimp only; rw [List.length_take]; omega, ?_⟩
        dsimp only
        rw [all_last hs1, h0, beq_self_eq_true, Bool.and_true]
      · left
        rw [beq_eq_false_iff_ne.2 h0, cond_false]
        refine iter_keep (fun (t : (List Int × (Int × Unit))) => t.2.1 = 0) (fun t => t.1.length) (fun t => cond (t.1.all fun x => x == 0) (K (((((a + (64 - a % 64) : Nat) : Int), (b, ((), ()))), ((b, ((a : Int), ((), (((), ((), ())), (bg, (b, ((a : Int), ()))))))), (out, (((), ()), (((0 : Int), ((), (false, ()))), ()))))))) (some (([] : List Int), ((0 : Int), (false, ()))))) ?_ k _ rfl (by dsimp only; omega)
        rintro ⟨s2, c2, u7⟩ next2 e2
        dsimp only at e2 ⊢
        subst e2
        by_cases hs2 : 0 < s2.length
        · rw [cdt (p := (0 : Int) < NatCast.natCast s2.length) (by show (0 : Int) < (s2.length : Int); omega), cdt (p := (0 : Int) < NatCast.natCast s2.length) (by show (0 : Int) < (s2.length : Int); omega)]
          by_cases h0 : s2.getD 0 0 = 0
          · right
            rw [h0, beq_self_eq_true, cond_true, cdt (p := (1 : Int) ≤ NatCast.natCast s2.length) (by show (1 : Int) ≤ (s2.length : Int); omega)]
            refine ⟨(s2.drop 1, (0, u7)), rfl, rfl, by dsimp only; rw [List.length_drop]; omega, ?_⟩
            dsimp only
            rw [all_head hs2, h0, beq_self_eq_true, Bool.true_and]
          · left
            rw [beq_eq_false_iff_ne.2 h0, cond_false, show ((NatCast.natCast s2.length : Int) == 0) = false from beq_eq_false_iff_ne.2 (show (s2.length : Int) ≠ 0 by omega), cond_false,
              cdt (p := (0 : Int) < NatCast.natCast s2.length) (by show (0 : Int) < (s2.length : Int); omega), all_head hs2, beq_eq_false_iff_ne.2 h0, Bool.false_and]
            rfl
        · left
          obtain rfl : s2 = [] := List.eq_nil_of_length_eq_zero (by omega)
          rw [cdf (p := (0 : Int) < NatCast.natCast ([] : List Int).length) (by decide)]
          show K _ = K _
          rw [har]
    · left
      rw [cdf (p := (0 : Int) < NatCast.natCast s1.length) (by show ¬ (0 : Int) < (s1.length : Int); omega)]
      refine iter_keep (fun (t : (List Int × (Int × Unit))) => t.2.1 = 0) (fun t => t.1.length) (fun t => cond (t.1.all fun x => x == 0) (K (((((a + (64 - a % 64) : Nat) : Int), (b, ((), ()))), ((b, ((a : Int), ((), (((), ((), ())), (bg, (b, ((a : Int), ()))))))), (out, (((), ()), (((0 : Int), ((), (false, ()))), ()))))))) (some (([] : List Int), ((0 : Int), (false, ()))))) ?_ k _ rfl (by dsimp only; omega)
      rintro ⟨s2, c2, u7⟩ next2 e2
      dsimp only at e2 ⊢
      subst e2
      by_cases hs2 : 0 < s2.length
      · rw [cdt (p := (0 : Int) < NatCast.natCast s2.length) (by show (0 : Int) < (s2.length : Int); omega), cdt (p := (0 : Int) < NatCast.natCast s2.length) (by show (0 : Int) < (s2.length : Int); omega)]
        by_cases h0 : s2.getD 0 0 = 0
        · right
          rw [h0, beq_self_eq_true, cond_true, cdt (p := (1 : Int) ≤ NatCast.natCast s2.length) (by show (1 : Int) ≤ (s2.length : Int); omega)]
          refine ⟨(s2.drop 1, (0, u7)), rfl, rfl, by dsimp only; rw [List.length_drop]; omega, ?_⟩
          dsimp only
          rw [all_head hs2, h0, beq_self_eq_true, Bool.true_and]
        · left
          rw [beq_eq_false_iff_ne.2 h0, cond_false, show ((NatCast.natCast s2.length : Int) == 0) = false from beq_eq_false_iff_ne.2 (show (s2.length : Int) ≠ 0 by omega), cond_false,
            cdt (p := (0 : Int) < NatCast.natCast s2.length) (by show (0 : Int) < (s2.length : Int); omega), all_head hs2, beq_eq_false_iff_ne.2 h0, Bool.false_and]
          rfl
      · left
        obtain rfl : s2 = [] := List.eq_nil_of_length_eq_zero (by omega)
        rw [cdf (p := (0 : Int) < NatCast.natCast ([] : List Int).length) (by decide)]
        show K _ = K _
        rw [har]
  · obtain ⟨a', ha'⟩ : ∃ a', a' = if 57 < a % 64 then a + (64 - a % 64) else a := ⟨_, rfl⟩
    have hspec : oneS b a bg out = if a' + 7 ≤ b.length then oneS b a' bg out else none := by
      by_cases h57 : 57 < a % 64
      · rw [if_pos h57] at ha'
        have hz : (((b.take (min (a + (64 - a % 64)) b.length)).drop a).all fun x => x == 0) = true := Classical.byContradiction fun h => hbz ⟨h57, h⟩
        rw [oneS, dif_pos h57, ← ha']
        by_cases hlen : a' ≤ b.length
        · rw [show min (a + (64 - a % 64)) b.length = a' by omega, List.drop_take, show a' - a = 64 - a % 64 by omega] at hz
          rw [dif_pos ((all_zero (by rw [List.length_take, List.length_drop]; omega)).1 hz)]
          by_cases h7 : a' + 7 ≤ b.length
          · rw [if_pos h7]
          · rw [if_neg h7, oneS, dif_neg (by omega), dif_neg (fun hf => h7 hf.1)]
        · rw [if_neg (by omega), dif_neg (fun hz => by
            have := congrArg List.length hz
            rw [List.length_take, List.length_drop, List.length_replicate] at this
            omega)]
      · rw [if_neg h57] at ha'
        subst ha'
        by_cases h7 : a' + 7 ≤ b.length
        · rw [if_pos h7]
        · rw [if_neg h7, oneS, dif_neg h57, dif_neg (fun hf => h7 hf.1)]
    have hfit : a ≤ a' ∧ a' ≤ a + 64 ∧ a' % 64 ≤ 57 := by split at ha' <;> omega
    refine step_ajoin ⟨(((((a' : Nat) : Int), (b, ((), ()))), ((b, ((a : Int), ((), (((), ((), ())), (bg, (b, ((a : Int), ()))))))), (out, (((), ()), (((0 : Int), ((), (false, ()))), ())))))), fun K => ?_, ?_⟩
    · by_cases h57 : 57 < a % 64
      · have hz : (((b.take (min (a + (64 - a % 64)) b.length)).drop a).all fun x => x == 0) = true := Classical.byContradiction fun h => hbz ⟨h57, h⟩
        rw [if_pos h57] at ha'
        subst ha'
        rw [room_code (by omega)]
        simp only [Option.bind_some, har, hmin, Int.toNat_natCast]
        rw [cdt (by omega), cdt (by omega), cdt (by omega), cdt (p := ((min (a + (64 - a % 64)) b.length : Nat) : Int) ≤ NatCast.natCast b.length) (by show ((min (a + (64 - a % 64)) b.length : Nat) : Int) ≤ (b.length : Int); omega)]
        have hsl := fillv h57 _ rfl
        clear hspec hbz
        generalize (b.take (min (a + (64 - a % 64)) b.length)).drop a = s at *
        by_cases hne : s.length = 0
        · rw [show ((NatCast.natCast s.length : Int) == 0) = true from beq_iff_eq.2 (show (s.length : Int) = 0 by omega), cond_true]
        rw [show ((NatCast.natCast s.length : Int) == 0) = false from beq_eq_false_iff_ne.2 (show (s.length : Int) ≠ 0 by omega), cond_false]
        refine Eq.trans ?_ (show cond (s.all fun x => x == 0) (K (((((a + (64 - a % 64) : Nat) : Int), (b, ((), ()))), ((b, ((a : Int), ((), (((), ((), ())), (bg, (b, ((a : Int), ()))))))), (out, (((), ()), (((0 : Int), ((), (false, ()))), ()))))))) (some (([] : List Int), ((0 : Int), (false, ())))) = K (((((a + (64 - a % 64) : Nat) : Int), (b, ((), ()))), ((b, ((a : Int), ((), (((), ((), ())), (bg, (b, ((a : Int), ()))))))), (out, (((), ()), (((0 : Int), ((), (false, ()))), ())))))) by rw [hz]; rfl)
        refine iter_keep (fun (t : (List Int × (Int × Unit))) => t.2.1 = 0 ∧ t.1.length ≤ 64) (fun t => t.1.length) (fun t => cond (t.1.all fun x => x == 0) (K (((((a + (64 - a % 64) : Nat) : Int), (b, ((), ()))), ((b, ((a : Int), ((), (((), ((), ())), (bg, (b, ((a : Int), ()))))))), (out, (((), ()), (((0 : Int), ((), (false, ()))), ()))))))) (some (([] : List Int), ((0 : Int), (false, ()))))) ?_ k _ ⟨rfl, by dsimp only; omega⟩ (by dsimp only; omega)
        rintro ⟨s1, c1, u10⟩ next1 ⟨e1, hs64⟩
        dsimp only at e1 hs64 ⊢
        subst e1
        by_cases hs1 : 0 < s1.length
        · have hw1 : IntKind.i64.wrap ((NatCast.natCast s1.length : Int) - 1) = ((s1.length - 1 : Nat) : Int) := by
            show IntKind.i64.wrap ((s1.length : Int) - 1) = _
            rw [wr_i64 (by omega) (by omega)]; omega
          rw [cdt (p := (0 : Int) < NatCast.natCast s1.length) (by show (0 : Int) < (s1.length : Int); omega)]
          simp only [hw1, Int.toNat_natCast]
          rw [cdt (by omega), cdt (p := ((s1.length - 1 : Nat) : Int) < NatCast.natCast s1.length) (by show ((s1.length - 1 : Nat) : Int) < (s1.length : Int); omega)]
          by_cases h0 : s1.getD (s1.length - 1) 0 = 0
          · right
            rw [h0, beq_self_eq_true, cond_true, cdt (by omega), cdt (p := ((s1.length - 1 : Nat) : Int) ≤ NatCast.natCast s1.length) (by show ((s1.length - 1 : Nat) : Int) ≤ (s1.length : Int); omega)]
            refine ⟨(s1.take (s1.length - 1), (0, u10)), rfl, ⟨rfl, by dsimp only; rw [List.length_take]; omega⟩, by dsimp only; rw [List.length_take]; omega, ?_⟩
            dsimp only
            rw [all_last hs1, h0, beq_self_eq_true, Bool.and_true]
          · left
            rw [beq_eq_false_iff_ne.2 h0, cond_false]
            refine iter_keep (fun (t : (List Int × (Int × Unit))) => t.2.1 = 0) (fun t => t.1.length) (fun t => cond (t.1.all fun x => x == 0) (K (((((a + (64 - a % 64) : Nat) : Int), (b, ((), ()))), ((b, ((a : Int), ((), (((), ((), ())), (bg, (b, ((a : Int), ()))))))), (out, (((), ()), (((0 : Int), ((), (false, ()))), ()))))))) (some (([] : List Int), ((0 : Int), (false, ()))))) ?_ k _ rfl (by dsimp only; omega)
            rintro ⟨s2, c2, u7⟩ next2 e2
            dsimp only at e2 ⊢
            subst e2
            by_cases hs2 : 0 < s2.length
            · rw [cdt (p := (0 : Int) < NatCast.natCast s2.length) (by show (0 : Int) < (s2.length : Int); omega), cdt (p := (0 : Int) < NatCast.natCast s2.length) (by show (0 : Int) < (s2.length : Int); omega)]
              by_cases h0 : s2.getD 0 0 = 0
              · right
                rw [h0, beq_self_eq_true, cond_true, cdt (p := (1 : Int) ≤ NatCast.natCast s2.length) (by show (1 : Int) ≤ (s2.length : Int); omega)]
                refine ⟨(s2.drop 1, (0, u7)), rfl, rfl, by dsimp only; rw [List.length_drop]; omega, ?_⟩
                dsimp only
                rw [all_head hs2, h0, beq_self_eq_true, Bool.true_and]
              · left
                rw [beq_eq_false_iff_ne.2 h0, cond_false, show ((NatCast.natCast s2.length : Int) == 0) = false from beq_eq_false_iff_ne.2 (show (s2.length : Int) ≠ 0 by omega), cond_false,
                  cdt (p := (0 : Int) < NatCast.natCast s2.length) (by show (0 : Int) < (s2.length : Int); omega), all_head hs2, beq_eq_false_iff_ne.2 h0, Bool.false_and]
                rfl
            · left
              obtain rfl : s2 = [] := List.eq_nil_of_length_eq_zero (by omega)
              rw [cdf (p := (0 : Int) < NatCast.natCast ([] : List Int).length) (by decide)]
              show K _ = K _
              rw [har]
        · left
          rw [cdf (p := (0 : Int) < NatCast.natCast s1.length) (by show ¬ (0 : Int) < (s1.length : Int); omega)]
          refine iter_keep (fun (t : (List Int × (Int × Unit))) => t.2.1 = 0) (fun t => t.1.length) (fun t => cond (t.1.all fun x => x == 0) (K (((((a + (64 - a % 64) : Nat) : Int), (b, ((), ()))), ((b, ((a : Int), ((), (((), ((), ())), (bg, (b, ((a : Int), ()))))))), (out, (((), ()), (((0 : Int), ((), (false, ()))), ()))))))) (some (([] : List Int), ((0 : Int), (false, ()))))) ?_ k _ rfl (by dsimp only; omega)
          rintro ⟨s2, c2, u7⟩ next2 e2
          dsimp only at e2 ⊢
          subst e2
          by_cases hs2 : 0 < s2.length
          · rw [cdt (p := (0 : Int) < NatCast.natCast s2.length) (by show (0 : Int) < (s2.length : Int); omega), cdt (p := (0 : Int) < NatCast.natCast s2.length) (by show (0 : Int) < (s2.length : Int); omega)]
            by_cases h0 : s2.getD 0 0 = 0
            · right
              rw [h0, beq_self_eq_true, cond_true, cdt (p := (1 : Int) ≤ NatCast.natCast s2.length) (by show (1 : Int) ≤ (s2.length : Int); omega)]
              refine ⟨(s2.drop 1, (0, u7)), rfl, rfl, by dsimp only; rw [List.length_drop]; omega, ?_⟩
              dsimp only
              rw [all_head hs2, h0, beq_self_eq_true, Bool.true_and]
            · left
              rw [beq_eq_false_iff_ne.2 h0, cond_false, show ((NatCast.natCast s2.length : Int) == 0) = false from beq_eq_false_iff_ne.2 (show (s2.length : Int) ≠ 0 by omega), cond_false,
                cdt (p := (0 : Int) < NatCast.natCast s2.length) (by show (0 : Int) < (s2.length : Int); omega), all_head hs2, beq_eq_false_iff_ne.2 h0, Bool.false_and]
              rfl
          · left
            obtain rfl : s2 = [] := List.eq_nil_of_length_eq_zero (by omega)
            rw [cdf (p := (0 : Int) < NatCast.natCast ([] : List Int).length) (by decide)]
            show K _ = K _
            rw [har]
      · rw [if_neg h57] at ha'
        subst ha'
        rw [room_code (by omega)]
        simp only [Option.bind_some]
        rw [cdf (by omega)]
    · rw [hspec]
      clear hspec hbz fillv hmin har
      dsimp only
      by_cases g7 : a' + 7 ≤ b.length
      rotate_left
      · left
        rw [if_neg g7, cdt (p := IntKind.i64.wrap ((NatCast.natCast b.length : Int) - (a' : Int)) < 7) (by
          show IntKind.i64.wrap ((b.length : Int) - (a' : Int)) < 7
          rw [wr_i64 (by omega) (by omega)]; omega)]
        exact bad
      rw [if_pos g7, oneS, dif_neg (by omega)]
      have h4 : IntKind.i64.wrap ((a' : Int) + 4) = ((a' + 4 : Nat) : Int) := by rw [wr_i64 (by omega) (by omega)]; omega
      have h5 : IntKind.i64.wrap ((a' : Int) + 5) = ((a' + 5 : Nat) : Int) := by rw [wr_i64 (by omega) (by omega)]; omega
      have h6 : IntKind.i64.wrap ((a' : Int) + 6) = ((a' + 6 : Nat) : Int) := by rw [wr_i64 (by omega) (by omega)]; omega
      have h7 : IntKind.i64.wrap ((a' : Int) + 7) = ((a' + 7 : Nat) : Int) := by rw [wr_i64 (by omega) (by omega)]; omega
      have hsub : IntKind.i64.wrap ((NatCast.natCast b.length : Int) - (a' : Int)) = ((b.length - a' : Nat) : Int) := by
        show IntKind.i64.wrap ((b.length : Int) - (a' : Int)) = _
        rw [wr_i64 (by omega) (by omega)]; omega
      have hsub7 : IntKind.i64.wrap (((b.length - a' : Nat) : Int) - 7) = ((b.length - a' - 7 : Nat) : Int) := by rw [wr_i64 (by omega) (by omega)]; omega
      have hb4 := fits_u8 (hb _ (getD_mem (i := a' + 4) (d := 0) (by omega)))
      have hb5 := fits_u8 (hb _ (getD_mem (i := a' + 5) (d := 0) (by omega)))
      have hb6 := fits_u8 (hb _ (getD_mem (i := a' + 6) (d := 0) (by omega)))
      have hn0 : bits .or .i64 (IntKind.i64.wrap (b.getD (a' + 4) 0)) (ishl .i64 (IntKind.i64.wrap (b.getD (a' + 5) 0)) 8) = ((lenS b a' : Nat) : Int) := by
        rw [wr_i64 (n := b.getD (a' + 4) 0) (by omega) (by omega), wr_i64 (n := b.getD (a' + 5) 0) (by omega) (by omega)]
        exact or_len hb4.1 hb4.2 hb5.1 hb5.2
      have hln : lenS b a' ≤ 65535 := by unfold lenS; omega
      have hr7 : IntKind.i64.wrap (((64 - a' % 64 : Nat) : Int) - 7) = ((57 - a' % 64 : Nat) : Int) := by rw [wr_i64 (by omega) (by omega)]; omega
      have hend : IntKind.i64.wrap (((a' + 7 : Nat) : Int) + ((lenS b a' : Nat) : Int)) = ((a' + 7 + lenS b a' : Nat) : Int) := by rw [wr_i64 (by omega) (by omega)]; omega
      have u4 := u4_code (k := k) (l := b.drop a') (by rw [List.length_drop]; omega) (fun x hx => hb x (List.mem_of_mem_drop hx)) (by rw [List.length_drop]; omega) (by omega)
      have hro := room_code (k := k) (a := a') (by omega)
      simp only [h4, h5, h6, h7, hsub, hsub7, hn0, hend, Int.toNat_natCast, u4, hro, Option.bind_some, hr7]
      have c : ∀ j : Nat, a' + j < b.length → (((a' + j : Nat) : Int) < NatCast.natCast b.length) := fun j hj => by show ((a' + j : Nat) : Int) < (b.length : Int); omega
      have c' : ((a' : Nat) : Int) ≤ NatCast.natCast b.length := by show ((a' : Nat) : Int) ≤ (b.length : Int); omega
      have p : ∀ j : Nat, (0 : Int) ≤ ((a' + j : Nat) : Int) := fun j => by omega
      rw [cdf (p := ((b.length - a' : Nat) : Int) < 7) (by omega), cdt (by omega), cdt c', cdt (p 4), cdt (c 4 (by omega)), cdt (p 5), cdt (c 5 (by omega))]
      by_cases hq : 57 - a' % 64 < lenS b a'
      · left
        rw [cdt (by omega), dif_neg (fun hf => by have := hf.2.1; omega)]
        exact bad
      rw [cdf (by omega)]
      by_cases hq2 : b.length < a' + 7 + lenS b a'
      · left
        rw [cdt (by omega), dif_neg (fun hf => by have := hf.2.2.1; omega)]
        exact bad
      rw [cdf (by omega)]
      have c2 : (((a' + 7 + lenS b a' : Nat) : Int) ≤ NatCast.natCast b.length) := by show ((a' + 7 + lenS b a' : Nat) : Int) ≤ (b.length : Int); omega
      have hfull : (b.take (a' + 7 + lenS b a')).length = a' + 7 + lenS b a' := by rw [List.length_take, Nat.min_eq_left (by omega)]
      have hsum := sum_code (k := k) (l := (b.take (a' + 7 + lenS b a')).drop (a' + 6)) (by rw [List.length_drop, hfull]; unfold maxLen; omega) (fun x hx => hb x (List.mem_of_mem_take (List.mem_of_mem_drop hx))) (by rw [List.length_drop, hfull]; omega)
      rw [cdt (p 6), cdt (by omega), cdt c2, hsum]
      simp only [Option.bind_some]
      by_cases hs : unS ((b.drop a').take 4) = sumS ((b.take (a' + 7 + lenS b a')).drop (a' + 6))
      rotate_left
      · left
        rw [show bne _ _ = true from bne_iff_ne.2 (Ne.symm hs), cond_true, dif_neg (fun hf => hs hf.2.2.2)]
        exact bad
      have hf : fragOk b a' := ⟨by omega, by omega, by omega, hs⟩
      rw [hs, show bne _ _ = false from bne_self_eq_false _, cond_false, dif_pos hf]
      have hdl : (dataS b a').length = lenS b a' := by unfold dataS; rw [List.length_drop, hfull]; omega
      have hfold : (b.take (a' + 7 + lenS b a')).drop (a' + 7) = dataS b a' := rfl
      simp only [hfold]
      have g1 : (out.length + (dataS b a').length) * 1 ≤ 140737488355328 := by omega
      have g2 : (NatCast.natCast (out ++ dataS b a').length : Int) ≤ 4194304 := by
        show ((out ++ dataS b a').length : Int) ≤ 4194304
        rw [List.length_append]; omega
      have c3 : ((a' + 7 : Nat) : Int) ≤ ((a' + 7 + lenS b a' : Nat) : Int) := by omega
      have c6 : ((a' + 6 : Nat) : Int) < NatCast.natCast b.length := c 6 (by omega)
      simp only [cdt (p 6), cdt (p 7), cdt c3, cdt c2, cdt g1, cdt c6, decide_eq_true g2, Bool.not_true, cond_false]
      have htm : (Int.tmod ((a' + 7 + lenS b a' : Nat) : Int) 64 == 0) = decide ((a' + 7 + lenS b a') % 64 = 0) := by
        rw [tmod64 (by omega), Bool.eq_iff_iff, beq_iff_eq, decide_eq_true_eq]; omega
      rw [htm]
      refine step_ajoin ⟨_, fun K => rfl, ?_⟩
      dsimp only
      generalize b.getD (a' + 6) 0 = kd at hb6 ⊢
      have hnx : (a' + 7 + lenS b a') % 64 = 0 → ∀ r, okR (oneS b (a' + 7 + lenS b a') true (out ++ dataS b a')) r → okR (if (a' + 7 + lenS b a') % 64 = 0 then oneS b (a' + 7 + lenS b a') true (out ++ dataS b a') else none) r := fun h r hr => by rw [if_pos h]; exact hr
      by_cases hk4 : kd < 1 ∨ 4 < kd
      · left
        rw [if_neg (fun h => by have := h.2; omega), beq_eq_false_iff_ne.2 (show kd ≠ 2 by omega), beq_eq_false_iff_ne.2 (show kd ≠ 3 by omega), beq_eq_false_iff_ne.2 (show kd ≠ 1 by omega), beq_eq_false_iff_ne.2 (show kd ≠ 4 by omega)]
        exact bad
      have hk' : kd = 1 ∨ kd = 2 ∨ kd = 3 ∨ kd = 4 := by omega
      have hmod : ∀ (X : Option (List Int × (Int × (Bool × Unit)))) (b0 : Bool), (kd = 2 ∨ kd = 3) → kindOk bg kd → b0 = true → X = cond (!(decide ((a' + 7 + lenS b a') % 64 = 0))) (some (([] : List Int), ((0 : Int), (false, ())))) (next ((((a' + 7 + lenS b a' : Nat) : Int), (b0, (b, ((), (((), ((), ())), ()))))), ((), (out ++ dataS b a', (((), ()), ()))))) →
          (okR (if kindOk bg kd then if kd = 1 ∨ kd = 4 then some (out ++ dataS b a', a' + 7 + lenS b a') else if (a' + 7 + lenS b a') % 64 = 0 then oneS b (a' + 7 + lenS b a') true (out ++ dataS b a') else none else none) X ∨
            ∃ t', X = next t' ∧ (b = t'.1.2.2.1 ∧ 0 ≤ t'.1.1 ∧ t'.1.1 ≤ (b.length : Int) ∧ t'.2.2.1.length ≤ t'.1.1.toNat) ∧ b.length - t'.1.1.toNat < b.length - a ∧
              ∀ r, okR (oneS b t'.1.1.toNat t'.1.2.1 t'.2.2.1) r → okR (if kindOk bg kd then if kd = 1 ∨ kd = 4 then some (out ++ dataS b a', a' + 7 + lenS b a') else if (a' + 7 + lenS b a') % 64 = 0 then oneS b (a' + 7 + lenS b a') true (out ++ dataS b a') else none else none) r) := by
        intro X b0 h23 hko hb0 hX
        subst hb0
        rw [if_pos hko, if_neg (by omega), hX]
        by_cases h0 : (a' + 7 + lenS b a') % 64 = 0
        · right
          rw [decide_eq_true h0, if_pos h0]
          refine ⟨_, rfl, ⟨rfl, by dsimp only; omega, by dsimp only; omega, by dsimp only; rw [List.length_append]; omega⟩, by dsimp only; omega, fun r hr => ?_⟩
          dsimp only at hr
          rw [Int.toNat_natCast] at hr
          exact hr
        · left
          rw [decide_eq_false h0, if_neg h0]
          exact bad
      rcases hk' with rfl | rfl | rfl | rfl <;> cases bg
      · left; rw [if_pos ⟨rfl, by decide, by decide⟩, if_pos (.inl rfl)]; rfl
      · left; rw [if_neg (fun h => absurd h.1 (by decide))]; exact ⟨_, _, rfl⟩
      · exact hmod _ true (.inl rfl) ⟨rfl, by decide, by decide⟩ rfl rfl
      · left; rw [if_neg (fun h => absurd h.1 (by decide))]; exact bad
      · left; rw [if_neg (fun h => absurd h.1 (by decide))]; exact bad
      · exact hmod _ true (.inr rfl) ⟨rfl, by decide, by decide⟩ rfl rfl
      · left; rw [if_neg (fun h => absurd h.1 (by decide))]; exact ⟨_, _, rfl⟩
      · left; rw [if_pos ⟨rfl, by decide, by decide⟩, if_pos (.inr rfl)]; rfl
end Go.Proofs.YtpgmkoaklpkecaaDoor.Eng

/- Logs: the record that stands at a place; the document's way. -/
import Derived.Test.YtpgmkoaklpkecaaDoorMtRd
set_option linter.unusedVariables false
namespace Go.Proofs.YtpgmkoaklpkecaaDoor.Eng

def lenS (b : List Int) (a : Nat) : Nat := (b.getD (a + 4) 0 + 256 * b.getD (a + 5) 0).toNat
def dataS (b : List Int) (a : Nat) : List Int := (b.take (a + 7 + lenS b a)).drop (a + 7)
def fragOk (b : List Int) (a : Nat) : Prop := a + 7 ≤ b.length ∧ lenS b a ≤ 57 - a % 64 ∧ a + 7 + lenS b a ≤ b.length ∧ unS ((b.drop a).take 4) = sumS ((b.take (a + 7 + lenS b a)).drop (a + 6))
instance (b : List Int) (a : Nat) : Decidable (fragOk b a) := by unfold fragOk; infer_instance
def kindOk (bg : Bool) (kd : Int) : Prop := (bg = (kd == 3 || kd == 4)) ∧ 1 ≤ kd ∧ kd ≤ 4
instance (bg : Bool) (kd : Int) : Decidable (kindOk bg kd) := by unfold kindOk; infer_instance

/-- The record at a place, and where it ends. -/
def oneS (b : List Int) (a : Nat) (bg : Bool) (out : List Int) : Option (List Int × Nat) :=
  if h57 : 57 < a % 64 then
    if hz : (b.drop a).take (64 - a % 64) = List.replicate (64 - a % 64) 0 then oneS b (a + (64 - a % 64)) bg out else none
  else if hf : fragOk b a then
    if kindOk bg (b.getD (a + 6) 0) then
      if b.getD (a + 6) 0 = 1 ∨ b.getD (a + 6) 0 = 4 then some (out ++ dataS b a, a + 7 + lenS b a)
      else if (a + 7 + lenS b a) % 64 = 0 then oneS b (a + 7 + lenS b a) true (out ++ dataS b a) else none
    else none
  else none
termination_by b.length - a
decreasing_by
  · have := congrArg List.length hz
    rw [List.length_take, List.length_drop, List.length_replicate] at this
    omega
  · obtain ⟨h1, h2, h3, h4⟩ := hf; omega

def okR : Option (List Int × Nat) → Option (List Int × (Int × (Bool × Unit))) → Prop
  | some (l, e), r => r = some (l, ((e : Int), (true, ())))
  | none, r => ∃ x y, r = some (x, (y, (false, ())))

theorem zeros_iff {b : List Int} {a r : Nat} (h : a + r ≤ b.length) : (b.drop a).take r = List.replicate r 0 ↔ ∀ j, j < r → b.getD (a + j) 0 = 0 := by
  constructor
  · intro he j hj
    have : ((b.drop a).take r).getD j 0 = (List.replicate r (0 : Int)).getD j 0 := by rw [he]
    rw [getD_getElem (by rw [List.length_take, List.length_drop]; omega), getD_getElem (by rw [List.length_replicate]; omega)] at this
    rw [getD_getElem (by omega)]
    simpa using this
  · intro h2
    refine List.ext_getElem (by rw [List.length_take, List.length_drop, List.length_replicate]; omega) fun j h3 h4 => ?_
    rw [List.length_replicate] at h4
    have := h2 j h4
    rw [getD_getElem (by omega)] at this
    simpa using this

theorem one_ref {k : Nat} {b : List Int} (hl : b.length ≤ 100000) (hb : ∀ x ∈ b, fits .u8 x) (hk : b.length + 100 ≤ k) {a0 : Nat} (ha : a0 ≤ b.length) : okR (oneS b a0 false []) (F25 k (b, ((a0 : Int), ()))) := by
  unfold F25
  refine iter_inv (fun (t : ((Int × (Unit × (Bool × ((List Int) × Unit)))) × (Unit × ((List Int) × Unit)))) => b = t.1.2.2.2.1 ∧ 0 ≤ t.1.1 ∧ t.1.1 ≤ b.length ∧ t.2.2.1.length ≤ t.1.1.toNat)
    (fun t => b.length - t.1.1.toNat) (fun t r => okR (oneS b t.1.1.toNat t.1.2.2.1 t.2.2.1) r) ?_ k (((a0 : Int), ((), (false, (b, ())))), ((), ([], ()))) ⟨rfl, by dsimp only; omega, by dsimp only; omega, by dsimp only; rw [List.length_nil]; omega⟩ (by dsimp only; omega)
  rintro ⟨⟨at_, u1, bg, b', u2⟩, u3, out, u4⟩ next ⟨e1, ha0, ha1, ho⟩
  dsimp only at e1 ha0 ha1 ho ⊢
  subst e1
  obtain ⟨a, rfl⟩ := Int.eq_ofNat_of_zero_le ha0
  rw [Int.toNat_natCast] at ho ⊢
  have w : ∀ c : Nat, c ≤ 400000 → IntKind.i64.wrap (c : Int) = (c : Int) := fun c hc => wr_i64 (by omega) (by omega)
  have hr : IntKind.i64.wrap (64 - Int.tmod (a : Int) 64) = ((64 - a % 64 : Nat) : Int) := by rw [tmod64 (by omega), wr_i64 (by omega) (by omega)]; omega
  have h4 : IntKind.i64.wrap ((a : Int) + 4) = ((a + 4 : Nat) : Int) := by rw [wr_i64 (by omega) (by omega)]; omega
  have h5 : IntKind.i64.wrap ((a : Int) + 5) = ((a + 5 : Nat) : Int) := by rw [wr_i64 (by omega) (by omega)]; omega
  have h6 : IntKind.i64.wrap ((a : Int) + 6) = ((a + 6 : Nat) : Int) := by rw [wr_i64 (by omega) (by omega)]; omega
  have h7 : IntKind.i64.wrap ((a : Int) + 7) = ((a + 7 : Nat) : Int) := by rw [wr_i64 (by omega) (by omega)]; omega
  have har : IntKind.i64.wrap ((a : Int) + ((64 - a % 64 : Nat) : Int)) = ((a + (64 - a % 64) : Nat) : Int) := by rw [wr_i64 (by omega) (by omega)]; omega
  simp only [hr, h4, h5, h6, h7, har, Int.toNat_natCast]
  by_cases h57 : 57 < a % 64
  · rw [cdt (by omega)]
    by_cases hlen : b.length < a + (64 - a % 64)
    · left
      rw [cdt (p := (NatCast.natCast b.length : Int) < _) (by show (b.length : Int) < _; omega), oneS, dif_pos h57, dif_neg (fun hz => by
        have := congrArg List.length hz
        rw [List.length_take, List.length_drop, List.length_replicate] at this
        omega)]
      exact ⟨_, _, rfl⟩
    · rw [cdf (p := (NatCast.natCast b.length : Int) < _) (by show ¬ (b.length : Int) < _; omega)]
      by_cases hz : (b.drop a).take (64 - a % 64) = List.replicate (64 - a % 64) 0
      · right
        have hz2 := (zeros_iff (by omega)).1 hz
        refine ⟨((((a + (64 - a % 64) : Nat) : Int), ((), (bg, (b, ())))), ((), (out, ()))), ?_, ⟨rfl, by dsimp only; omega, by dsimp only; omega, by dsimp only; omega⟩, by dsimp only; omega, ?_⟩
        · refine iter_keep (fun (t : (Int × ((List Int) × (Int × (Unit × (Bool × (Int × Unit))))))) => 0 ≤ t.1 ∧ t.1 ≤ ((64 - a % 64 : Nat) : Int) ∧ b = t.2.1 ∧ (a : Int) = t.2.2.1 ∧ bg = t.2.2.2.2.1 ∧ ((64 - a % 64 : Nat) : Int) = t.2.2.2.2.2.1)
            (fun t => ((64 - a % 64 : Nat) : Int).toNat - t.1.toNat) (fun t => next ((((a + (64 - a % 64) : Nat) : Int), ((), (bg, (b, ())))), ((), (out, ())))) ?_ k _ ⟨by dsimp only; omega, by dsimp only; omega, rfl, rfl, rfl, rfl⟩ (by dsimp only; omega)
          rintro ⟨i, b2, a2, u5, bg2, r2, u6⟩ next5 ⟨q1, q2, e1, e2, e3, e4⟩
          dsimp only at q1 q2 e1 e2 e3 e4 ⊢
          subst e1 e2 e3 e4
          by_cases hi : i < ((64 - a % 64 : Nat) : Int)
          · right
            obtain ⟨j, rfl⟩ := Int.eq_ofNat_of_zero_le q1
            have hw : IntKind.i64.wrap ((a : Int) + (j : Int)) = ((a + j : Nat) : Int) := by rw [wr_i64 (by omega) (by omega)]; omega
            have hw2 : IntKind.i64.wrap ((j : Int) + 1) = ((j + 1 : Nat) : Int) := by rw [wr_i64 (by omega) (by omega)]; omega
            rw [cdt hi, hw, cdt (by omega), cdt (p := ((a + j : Nat) : Int) < NatCast.natCast b.length) (by show ((a + j : Nat) : Int) < (b.length : Int); omega), Int.toNat_natCast, hz2 j (by omega), hw2]
            exact ⟨_, rfl, ⟨by dsimp only; omega, by dsimp only; omega, rfl, rfl, rfl, rfl⟩, by dsimp only; omega, rfl⟩
          · left
            rw [cdf hi]
            rw [har]
        · intro r hr
          rw [Int.toNat_natCast] at hr
          rw [oneS, dif_pos h57, dif_pos hz]
          exact hr
      · left
        rw [oneS, dif_pos h57, dif_neg hz]
        refine ⟨[], 0, ?_⟩
        have hz2 : ∃ j, j < 64 - a % 64 ∧ b.getD (a + j) 0 ≠ 0 := by
          refine Classical.byContradiction fun hn => hz ((zeros_iff (by omega)).2 fun j hj => Classical.byContradiction fun h0 => hn ⟨j, hj, h0⟩)
        obtain ⟨j0, hj0, hne⟩ := hz2
        refine iter_keep (fun (t : (Int × ((List Int) × (Int × (Unit × (Bool × (Int × Unit))))))) => 0 ≤ t.1 ∧ t.1 ≤ (j0 : Int) ∧ b = t.2.1 ∧ (a : Int) = t.2.2.1 ∧ bg = t.2.2.2.2.1 ∧ ((64 - a % 64 : Nat) : Int) = t.2.2.2.2.2.1)
            (fun t => ((64 - a % 64 : Nat) : Int).toNat - t.1.toNat) (fun t => some ([], (0, (false, ())))) ?_ k _ ⟨by dsimp only; omega, by dsimp only; omega, rfl, rfl, rfl, rfl⟩ (by dsimp only; omega)
        rintro ⟨i, b2, a2, u5, bg2, r2, u6⟩ next5 ⟨q1, q2, e1, e2, e3, e4⟩
        dsimp only at q1 q2 e1 e2 e3 e4 ⊢
        subst e1 e2 e3 e4
        obtain ⟨j, rfl⟩ := Int.eq_ofNat_of_zero_le q1
        have hw : IntKind.i64.wrap ((a : Int) + (j : Int)) = ((a + j : Nat) : Int) := by rw [wr_i64 (by omega) (by omega)]; omega
        have hw2 : IntKind.i64.wrap ((j : Int) + 1) = ((j + 1 : Nat) : Int) := by rw [wr_i64 (by omega) (by omega)]; omega
        rw [cdt (p := (j : Int) < ((64 - a % 64 : Nat) : Int)) (by omega), hw, cdt (by omega), cdt (p := ((a + j : Nat) : Int) < NatCast.natCast b.length) (by show ((a + j : Nat) : Int) < (b.length : Int); omega), Int.toNat_natCast, hw2]
        by_cases h0 : b.getD (a + j) 0 = 0
        · right
          rw [h0]
          have : j ≠ j0 := fun he => hne (he ▸ h0)
          exact ⟨_, rfl, ⟨by dsimp only; omega, by dsimp only; omega, rfl, rfl, rfl, rfl⟩, by dsimp only; omega, rfl⟩
        · left
          rw [show bne (b.getD (a + j) 0) 0 = true from by simpa [bne_iff_ne] using h0]
          rfl
  · rw [cdf (by omega)]
    rw [oneS, dif_neg h57]
    by_cases hlen : b.length < a + 7
    · left
      rw [cdt (p := (NatCast.natCast b.length : Int) < _) (by show (b.length : Int) < _; omega), dif_neg (fun hf => by have := hf.1; omega)]
      exact ⟨_, _, rfl⟩
    rw [cdf (p := (NatCast.natCast b.length : Int) < _) (by show ¬ (b.length : Int) < _; omega)]
    have c : ∀ j : Nat, a + j < b.length → (((a + j : Nat) : Int) < NatCast.natCast b.length) := fun j hj => by show ((a + j : Nat) : Int) < (b.length : Int); omega
    have p : ∀ j : Nat, (0 : Int) ≤ ((a + j : Nat) : Int) := fun j => by omega
    rw [cdt (p 4), cdt (c 4 (by omega)), cdt (p 5), cdt (c 5 (by omega)), cdt (p 6), cdt (c 6 (by omega))]
    have hb4 := fits_u8 (hb _ (getD_mem (i := a + 4) (d := 0) (by omega)))
    have hb5 := fits_u8 (hb _ (getD_mem (i := a + 5) (d := 0) (by omega)))
    have hb6 := fits_u8 (hb _ (getD_mem (i := a + 6) (d := 0) (by omega)))
    have hn0 : IntKind.i64.wrap (IntKind.i64.wrap (b.getD (a + 4) 0) + IntKind.i64.wrap (256 * IntKind.i64.wrap (b.getD (a + 5) 0))) = ((lenS b a : Nat) : Int) := by
      rw [wr_i64 (n := b.getD (a + 4) 0) (by omega) (by omega), wr_i64 (n := b.getD (a + 5) 0) (by omega) (by omega), wr_i64 (n := 256 * _) (by omega) (by omega), wr_i64 (by omega) (by omega)]
      unfold lenS; omega
    have hln : lenS b a ≤ 65535 := by unfold lenS; omega
    have hk6 : IntKind.i64.wrap (b.getD (a + 6) 0) = b.getD (a + 6) 0 := wr_i64 (by omega) (by omega)
    have hr7 : IntKind.i64.wrap (((64 - a % 64 : Nat) : Int) - 7) = ((57 - a % 64 : Nat) : Int) := by rw [wr_i64 (by omega) (by omega)]; omega
    have hend : IntKind.i64.wrap (((a + 7 : Nat) : Int) + ((lenS b a : Nat) : Int)) = ((a + 7 + lenS b a : Nat) : Int) := by rw [wr_i64 (by omega) (by omega)]; omega
    simp only [hn0, hk6, hr7, hend, Int.toNat_natCast]
    by_cases hq : 57 - a % 64 < lenS b a
    · left
      rw [cdt (by omega), dif_neg (fun hf => by have := hf.2.1; omega)]
      exact ⟨_, _, rfl⟩
    rw [cdf (by omega)]
    by_cases hq2 : b.length < a + 7 + lenS b a
    · left
      rw [cdt (p := (NatCast.natCast b.length : Int) < _) (by show (b.length : Int) < _; omega), dif_neg (fun hf => by have := hf.2.2.1; omega)]
      exact ⟨_, _, rfl⟩
    rw [cdf (p := (NatCast.natCast b.length : Int) < _) (by show ¬ (b.length : Int) < _; omega)]
    have c2 : (((a + 7 + lenS b a : Nat) : Int) ≤ NatCast.natCast b.length) := by show ((a + 7 + lenS b a : Nat) : Int) ≤ (b.length : Int); omega
    have hun := unfixed_ref (k := k) (b := b) (by omega) hb (a := a) (n := 4) (by omega) (by omega) (by omega)
    rw [show ((4 : Nat) : Int) = 4 from rfl] at hun
    have hfull : (b.take (a + 7 + lenS b a)).length = a + 7 + lenS b a := by rw [List.length_take, Nat.min_eq_left (by omega)]
    have hsum := sum_ref (k := k) (l := (b.take (a + 7 + lenS b a)).drop (a + 6)) (by rw [List.length_drop, hfull]; unfold maxLen; omega) (fun x hx => hb x (List.mem_of_mem_take (List.mem_of_mem_drop hx))) (by rw [List.length_drop, hfull]; omega)
    have hsu := sumS_u32 (l := (b.take (a + 7 + lenS b a)).drop (a + 6))
    unfold U32 at hsu
    rw [cdt (p 6), cdt (by omega), cdt c2, hun]
    simp only [Option.bind_some]
    rw [hsum]
    simp only [Option.bind_some]
    rw [wr_u64 (n := sumS _) (by omega) (by omega)]
    by_cases hs : unS ((b.drop a).take 4) = sumS ((b.take (a + 7 + lenS b a)).drop (a + 6))
    rotate_left
    · left
      rw [show bne _ _ = true from bne_iff_ne.2 hs, cond_true, dif_neg (fun hf => hs hf.2.2.2)]
      exact ⟨_, _, rfl⟩
    have hf : fragOk b a := ⟨by omega, by omega, by omega, hs⟩
    rw [hs, show bne _ _ = false from bne_self_eq_false _, cond_false, dif_pos hf]
    have hdl : (dataS b a).length = lenS b a := by unfold dataS; rw [List.length_drop, hfull]; omega
    have hfold : (b.take (a + 7 + lenS b a)).drop (a + 7) = dataS b a := rfl
    simp only [hfold]
    have g1 : (out.length + (dataS b a).length) * 1 ≤ 140737488355328 := by omega
    have g2 : ¬ ((4194304 : Int) < NatCast.natCast (out ++ dataS b a).length) := by
      show ¬ ((4194304 : Int) < ((out ++ dataS b a).length : Int))
      rw [List.length_append]; omega
    have c3 : ((a + 7 : Nat) : Int) ≤ ((a + 7 + lenS b a : Nat) : Int) := by omega
    simp only [cdt (p 7), cdt c3, cdt c2, cdt g1, cdf g2]
    generalize b.getD (a + 6) 0 = kd at hb6 ⊢
    have bad : okR none (some (([] : List Int), ((0 : Int), (false, ())))) := ⟨_, _, rfl⟩
    by_cases hk : kd < 1 ∨ 4 < kd
    · left
      rw [if_neg (fun h => by have := h.2; omega), beq_eq_false_iff_ne.2 (show kd ≠ 3 by omega), beq_eq_false_iff_ne.2 (show kd ≠ 4 by omega)]
      cases bg
      · show okR none (cond (decide (kd < 1)) _ (cond (decide (4 < kd)) _ _))
        by_cases h1 : kd < 1
        · rw [cdt h1]; exact bad
        · rw [cdf h1, cdt (p := 4 < kd) (by omega)]; exact bad
      · exact bad
    have hk' : kd = 1 ∨ kd = 2 ∨ kd = 3 ∨ kd = 4 := by omega
    have go : ∀ (X : Option (List Int × (Int × (Bool × Unit)))), (kd = 2 ∨ kd = 3) → kindOk bg kd → X = cond (decide (((lenS b a : Nat) : Int) < ((57 - a % 64 : Nat) : Int))) (some (([] : List Int), ((0 : Int), (false, ())))) (next ((((a + 7 + lenS b a : Nat) : Int), ((), (true, (b, ())))), ((), (out ++ dataS b a, ())))) →
        (okR (if kindOk bg kd then if kd = 1 ∨ kd = 4 then some (out ++ dataS b a, a + 7 + lenS b a) else if (a + 7 + lenS b a) % 64 = 0 then oneS b (a + 7 + lenS b a) true (out ++ dataS b a) else none else none) X ∨
          ∃ t', X = next t' ∧ (b = t'.1.2.2.2.1 ∧ 0 ≤ t'.1.1 ∧ t'.1.1 ≤ (b.length : Int) ∧ t'.2.2.1.length ≤ t'.1.1.toNat) ∧ b.length - t'.1.1.toNat < b.length - a ∧
            ∀ r, okR (oneS b t'.1.1.toNat t'.1.2.2.1 t'.2.2.1) r → okR (if kindOk bg kd then if kd = 1 ∨ kd = 4 then some (out ++ dataS b a, a + 7 + lenS b a) else if (a + 7 + lenS b a) % 64 = 0 then oneS b (a + 7 + lenS b a) true (out ++ dataS b a) else none else none) r) := by
      intro X h23 hko hX
      rw [if_pos hko, if_neg (by omega), hX]
      by_cases hlt : lenS b a < 57 - a % 64
      · left
        rw [cdt (by omega), if_neg (by omega)]
        exact bad
      · right
        rw [cdf (by omega), if_pos (by omega)]
        refine ⟨_, rfl, ⟨rfl, by dsimp only; omega, by dsimp only; omega, by dsimp only; rw [List.length_append]; omega⟩, by dsimp only; omega, fun r hr => ?_⟩
        dsimp only at hr
        rw [Int.toNat_natCast] at hr
        exact hr
    rcases hk' with rfl | rfl | rfl | rfl <;> cases bg
    · left; rw [if_pos ⟨rfl, by decide, by decide⟩, if_pos (.inl rfl)]; rfl
    · left; rw [if_neg (fun h => absurd h.1 (by decide))]; exact bad
    · exact go _ (.inl rfl) ⟨rfl, by decide, by decide⟩ rfl
    · left; rw [if_neg (fun h => absurd h.1 (by decide))]; exact bad
    · left; rw [if_neg (fun h => absurd h.1 (by decide))]; exact bad
    · exact go _ (.inr rfl) ⟨rfl, by decide, by decide⟩ rfl
    · left; rw [if_neg (fun h => absurd h.1 (by decide))]; exact bad
    · left; rw [if_pos ⟨rfl, by decide, by decide⟩, if_pos (.inr rfl)]; rfl
end Go.Proofs.YtpgmkoaklpkecaaDoor.Eng

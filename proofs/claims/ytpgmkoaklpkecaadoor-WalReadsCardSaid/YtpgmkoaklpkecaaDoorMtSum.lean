/- The check sum (codec.Sum, moraineref2.Sum): both are the same. -/
import Derived.Test.YtpgmkoaklpkecaaDoorMt0
import Derived.Test.YtpgmkoaklpkecaaDoorWaf
import Derived.Laws.Closers25b
set_option linter.unusedVariables false
namespace Go.Proofs.YtpgmkoaklpkecaaDoor.Eng

def crc1 (h : Int) : Int := if h % 2 = 1 then bits .xor .u32 (h / 2) 2197175160 else h / 2
def crcN : Nat → Int → Int
  | 0, h => h
  | n + 1, h => crcN n (crc1 h)
def crcB (h x : Int) : Int := crcN 8 (bits .xor .u32 h x)
def crcL : List Int → Int → Int
  | [], h => h
  | x :: l, h => crcL l (crcB h x)
def sumS (l : List Int) : Int := bits .xor .u32 4294967295 (crcL l 4294967295)

def U32 (h : Int) : Prop := 0 ≤ h ∧ h ≤ 4294967295

theorem crc1_u32 {h : Int} (hh : U32 h) : U32 (crc1 h) := by
  unfold crc1
  split
  · exact xor_u32
  · unfold U32 at *; omega
theorem crcN_u32 : (n : Nat) → {h : Int} → U32 h → U32 (crcN n h)
  | 0, h, hh => hh
  | n + 1, h, hh => crcN_u32 n (crc1_u32 hh)
theorem crcB_u32 {h x : Int} : U32 (crcB h x) := crcN_u32 8 xor_u32
theorem sumS_u32 {l : List Int} : U32 (sumS l) := xor_u32

theorem ref1 {h : Int} (hh : U32 h) : (if h.tmod 2 = 1 then bits .xor .u32 (IntKind.u32.wrap (h.tdiv 2)) 2197175160 else IntKind.u32.wrap (h.tdiv 2)) = crc1 h := by
  unfold U32 at hh
  rw [Int.tmod_eq_emod_of_nonneg hh.1, Int.tdiv_eq_ediv_of_nonneg hh.1, wr_u32 (by omega) (by omega)]
  rfl

theorem code1 {h : Int} (hh : U32 h) : bits .xor .u32 (ishr .u32 h 1) (bits .and .u32 2197175160 (IntKind.u32.wrap (0 - bits .and .u32 h 1))) = crc1 h := by
  unfold U32 at hh
  have h1 : ishr .u32 h 1 = h / 2 := by
    unfold ishr
    rw [show (min (1 : Int).toNat (IntKind.u32.bits)) = 1 from by decide]
    rw [Int.fdiv_eq_ediv_of_nonneg _ (by decide)]
    rfl
  have h2 : bits .and .u32 h 1 = h % 2 := by
    rw [u32_and h 1 (by omega) (by omega) (by omega) (by omega)]
    have : (1 : Int).toNat = 1 := rfl
    rw [this, Nat.and_one_is_mod]
    omega
  rw [h1, h2]
  unfold crc1
  rcases (by omega : h % 2 = 0 ∨ h % 2 = 1) with h3 | h3
  · rw [h3, if_neg (by omega)]
    rw [show IntKind.u32.wrap (0 - 0) = 0 from by decide, show bits .and .u32 2197175160 0 = 0 from by decide]
    rw [u32_xor (h / 2) 0 (by omega) (by omega) (by omega) (by omega)]
    simp
    omega
  · rw [h3, if_pos rfl]
    rw [show bits .and .u32 2197175160 (IntKind.u32.wrap (0 - 1)) = 2197175160 from by decide]

theorem sum_ref {k : Nat} {l : List Int} (hl : l.length ≤ maxLen) (hb : ∀ x ∈ l, fits .u8 x) (hk : l.length + 9 ≤ k) : F33 k (l, ()) = some (sumS l, ()) := by
  unfold F33
  refine Eq.trans (iter_to (fun t => t.1.2.2.1 = l ∧ 0 ≤ t.1.2.1 ∧ t.1.2.1 ≤ (l.length : Int) ∧ U32 t.1.1) (fun t => (l.length - t.1.2.1.toNat)) (fun t => some (bits .xor .u32 4294967295 (crcL (l.drop t.1.2.1.toNat) t.1.1), ())) ?_ _ _ ⟨rfl, Int.le_refl 0, by show (0 : Int) ≤ _; omega, by show U32 4294967295; unfold U32; omega⟩ (by show l.length - 0 < k; omega)) ?_
  rotate_left
  · show some (bits .xor .u32 4294967295 (crcL (l.drop 0) 4294967295), ()) = _
    rw [List.drop_zero]
    rfl
  rintro ⟨⟨h, i, l', _⟩, _⟩ next ⟨hl', hi, hi2, hh⟩
  dsimp only at hl' hi hi2 hh ⊢
  subst hl'
  by_cases hlt : i < (l'.length : Int)
  · right
    have hlt' : i.toNat < l'.length := by omega
    have hx := fits_u8 (hb _ (getD_mem (d := 0) hlt'))
    have hm : l'.length ≤ 9223372036854775807 := by unfold maxLen at hl; omega
    refine ⟨((crcB h (l'.getD i.toNat 0), (i + 1, (l', ()))), ((), ())), ?_, ⟨rfl, by dsimp only; omega, by dsimp only; omega, crcB_u32⟩, by dsimp only; omega, ?_⟩
    · rw [cdt (p := i < NatCast.natCast l'.length) hlt, cdt hi, cdt (p := i < NatCast.natCast l'.length) hlt, wr_u32 hx.1 (by omega)]
      refine Eq.trans (iter_to (fun (t : ((Int × (Int × ((List Int) × (Int × Unit)))) × (Unit × Unit))) => t.1.2.2.1 = l' ∧ t.1.2.2.2.1 = i ∧ 0 ≤ t.1.2.1 ∧ t.1.2.1 ≤ 8 ∧ U32 t.1.1) (fun (t : ((Int × (Int × ((List Int) × (Int × Unit)))) × (Unit × Unit))) => (8 - t.1.2.1).toNat) (fun (t : ((Int × (Int × ((List Int) × (Int × Unit)))) × (Unit × Unit))) => next ((crcN (8 - t.1.2.1).toNat t.1.1, (i + 1, (l', ()))), ((), ()))) ?_ _ _ ⟨rfl, rfl, Int.le_refl 0, by show (0 : Int) ≤ 8; omega, xor_u32⟩ (by show (8 - (0 : Int)).toNat < k; omega)) ?_
      rotate_left
      · rfl
      rintro ⟨⟨h, j, l2, i2, _⟩, _⟩ next2 ⟨hl2, hi2', hj, hj2, hh2⟩
      dsimp only at hl2 hi2' hj hj2 hh2 ⊢
      subst hl2 hi2'
      by_cases hj8 : j < 8
      · right
        refine ⟨((crc1 h, (j + 1, (l2, (i2, ())))), ((), ())), ?_, ⟨rfl, rfl, by dsimp only; omega, by dsimp only; omega, crc1_u32 hh2⟩, by dsimp only; omega, ?_⟩
        · rw [cdt hj8, wr_i64 (n := j + 1) (by omega) (by omega), ← ref1 hh2]
          by_cases hm2 : h.tmod 2 = 1
          · rw [if_pos hm2, hm2]; rfl
          · rw [if_neg hm2, beq_eq_false_iff_ne.2 hm2]; rfl
        · dsimp only
          rw [show (8 - j).toNat = (8 - (j + 1)).toNat + 1 by omega]
          rfl
      · left
        rw [cdf hj8, wr_i64 (n := i2 + 1) (by omega) (by omega), show (8 - j).toNat = 0 by omega]
        rfl
    · dsimp only
      rw [show (i + 1).toNat = i.toNat + 1 by omega, List.drop_eq_getElem_cons hlt', ← getD_getElem (d := 0) hlt']
      rfl
  · left
    rw [cdf (p := i < NatCast.natCast l'.length) hlt, List.drop_of_length_le (by omega)]
    rfl
theorem sum_code {k : Nat} {l : List Int} (hl : l.length ≤ maxLen) (hb : ∀ x ∈ l, fits .u8 x) (hk : l.length + 9 ≤ k) : F35 k (l, ()) = some (sumS l, ()) := by
  unfold F35
  refine Eq.trans (iter_to (fun (t : ((Int × (Int × ((List Int) × (Int × Unit)))) × (Unit × Unit))) => t.1.2.2.1 = l ∧ 0 ≤ t.1.2.1 ∧ t.1.2.1 ≤ (l.length : Int) ∧ U32 t.1.1 ∧ t.1.2.2.2.1 = (l.length : Int)) (fun (t : ((Int × (Int × ((List Int) × (Int × Unit)))) × (Unit × Unit))) => (l.length - t.1.2.1.toNat)) (fun (t : ((Int × (Int × ((List Int) × (Int × Unit)))) × (Unit × Unit))) => some (bits .xor .u32 4294967295 (crcL (l.drop t.1.2.1.toNat) t.1.1), ())) ?_ _ _ ⟨rfl, Int.le_refl 0, by show (0 : Int) ≤ _; omega, by show U32 4294967295; unfold U32; omega, rfl⟩ (by show l.length - 0 < k; omega)) ?_
  rotate_left
  · show some (bits .xor .u32 4294967295 (crcL (l.drop 0) 4294967295), ()) = _
    rw [List.drop_zero]
    rfl
  rintro ⟨⟨h, i, l', m, _⟩, _⟩ next ⟨hl', hi, hi2, hh, hm0⟩
  dsimp only at hl' hi hi2 hh hm0 ⊢
  subst hl' hm0
  by_cases hlt : i < (l'.length : Int)
  · right
    have hlt' : i.toNat < l'.length := by omega
    have hx := fits_u8 (hb _ (getD_mem (d := 0) hlt'))
    have hm : l'.length ≤ 9223372036854775807 := by unfold maxLen at hl; omega
    refine ⟨((crcB h (l'.getD i.toNat 0), (i + 1, (l', ((l'.length : Int), ())))), ((), ())), ?_, ⟨rfl, by dsimp only; omega, by dsimp only; omega, crcB_u32, rfl⟩, by dsimp only; omega, ?_⟩
    · rw [cdt hlt, cdt hi, cdt (p := i < NatCast.natCast l'.length) hlt, wr_u32 hx.1 (by omega)]
      refine Eq.trans (iter_to (fun (t : ((Int × (Int × ((List Int) × (Int × (Int × Unit))))) × (Unit × Unit))) => t.1.2.2.1 = l' ∧ t.1.2.2.2.1 = (l'.length : Int) ∧ t.1.2.2.2.2.1 = i ∧ 0 ≤ t.1.2.1 ∧ t.1.2.1 ≤ 8 ∧ U32 t.1.1) (fun (t : ((Int × (Int × ((List Int) × (Int × (Int × Unit))))) × (Unit × Unit))) => (8 - t.1.2.1).toNat) (fun (t : ((Int × (Int × ((List Int) × (Int × (Int × Unit))))) × (Unit × Unit))) => next ((crcN (8 - t.1.2.1).toNat t.1.1, (i + 1, (l', ((l'.length : Int), ())))), ((), ()))) ?_ _ _ ⟨rfl, rfl, rfl, Int.le_refl 0, by show (0 : Int) ≤ 8; omega, xor_u32⟩ (by show (8 - (0 : Int)).toNat < k; omega)) ?_
      rotate_left
      · rfl
      rintro ⟨⟨h, j, l2, m2, i2, _⟩, _⟩ next2 ⟨hl2, hm2, hi2', hj, hj2, hh2⟩
      dsimp only at hl2 hm2 hi2' hj hj2 hh2 ⊢
      subst hl2 hi2' hm2
      by_cases hj8 : j < 8
      · right
        refine ⟨((crc1 h, (j + 1, (l2, ((l2.length : Int), (i2, ()))))), ((), ())), ?_, ⟨rfl, rfl, rfl, by dsimp only; omega, by dsimp only; omega, crc1_u32 hh2⟩, by dsimp only; omega, ?_⟩
        · rw [cdt hj8, wr_i64 (n := j + 1) (by omega) (by omega), code1 hh2]
        · dsimp only
          rw [show (8 - j).toNat = (8 - (j + 1)).toNat + 1 by omega]
          rfl
      · left
        rw [cdf hj8, wr_i64 (n := i2 + 1) (by omega) (by omega), show (8 - j).toNat = 0 by omega]
        rfl
    · dsimp only
      rw [show (i + 1).toNat = i.toNat + 1 by omega, List.drop_eq_getElem_cons hlt', ← getD_getElem (d := 0) hlt']
      rfl
  · left
    rw [cdf hlt, List.drop_of_length_le (by omega)]
    rfl
end Go.Proofs.YtpgmkoaklpkecaaDoor.Eng

/- Filters: block.Filter and block.May are the document's. -/
import Derived.Test.YtcihahfmdencfaaMtSum
set_option linter.unusedVariables false
namespace Go.Proofs.Ytcihahfmdencfaa.Eng

/-! ### A key's places -/
def stp (h d m : Int) : Nat → List Int
  | 0 => []
  | n + 1 => (h % m) :: stp (IntKind.u32.wrap (h + d)) d m n
def rot (h : Int) : Int := bits .or .u32 (ishr .u32 h 17) (ishl .u32 h 15)
def stepsL (key : List Int) (m n : Int) : List Int := stp (sumS key) (rot (sumS key)) m n.toNat

theorem wrap_u32_U (n : Int) : U32 (IntKind.u32.wrap n) := by unfold U32; rw [IntKind.wrap_u32]; omega
theorem stp_length (d m : Int) : (n : Nat) → (h : Int) → (stp h d m n).length = n
  | 0, h => rfl
  | n + 1, h => by simp [stp, stp_length d m n]
theorem stp_mem {d m : Int} (hm : 0 < m) : (n : Nat) → (h : Int) → ∀ x ∈ stp h d m n, 0 ≤ x ∧ x < m
  | 0, h, x, hx => by cases hx
  | n + 1, h, x, hx => by
    rcases List.mem_cons.1 hx with rfl | hx
    · exact ⟨Int.emod_nonneg _ (by omega), Int.emod_lt_of_pos _ hm⟩
    · exact stp_mem hm n _ x hx

theorem rot_code {k : Nat} {h : Int} (hh : U32 h) : F28 k (h, ((-17 : Int), ())) = some (rot h, ()) := by
  unfold F28 rot
  have h1 : bits .and .u64 (IntKind.u64.wrap (-17)) 31 = 15 := by decide +kernel
  have h2 : IntKind.u64.wrap (32 - 15) = 17 := by decide +kernel
  dsimp only
  rw [h1, h2, cdt (by omega)]
  have ha : U32 (ishl .u32 h 15) := wrap_u32_U _
  have hb : U32 (ishr .u32 h 17) := by
    unfold U32 at hh
    unfold U32 ishr
    rw [show (min (17 : Int).toNat (IntKind.u32.bits)) = 17 from by decide, Int.fdiv_eq_ediv_of_nonneg _ (by decide)]
    rw [show (2 : Int) ^ 17 = 131072 from by decide]
    omega
  unfold U32 at ha hb
  rw [u32_or _ _ (by omega) (by omega) (by omega) (by omega), u32_or _ _ (by omega) (by omega) (by omega) (by omega), Nat.or_comm]

theorem steps_ref {k : Nat} {key : List Int} {m n : Int} (hl : key.length ≤ maxLen) (hb : ∀ x ∈ key, fits .u8 x) (hk : key.length + 100 ≤ k) (hm : 0 < m) (hn : 0 ≤ n) (hn2 : n ≤ 60) : F17 k (key, (m, (n, ()))) = some (stepsL key m n, ()) := by
  unfold F17
  dsimp only
  rw [sum_ref hl hb (by omega)]
  refine Eq.trans (iter_to (fun (t : ((Int × (Unit × (Int × (Int × (Int × (Int × Unit)))))) × (Unit × ((List Int) × Unit)))) => U32 t.1.1 ∧ 0 ≤ t.1.2.2.1 ∧ t.1.2.2.1 ≤ n ∧ t.1.2.2.2.1 = m ∧ t.1.2.2.2.2.1 = n ∧ t.1.2.2.2.2.2.1 = rot (sumS key) ∧ (List.length t.2.2.1 : Int) = t.1.2.2.1)
    (fun (t : ((Int × (Unit × (Int × (Int × (Int × (Int × Unit)))))) × (Unit × ((List Int) × Unit)))) => (n - t.1.2.2.1).toNat)
    (fun (t : ((Int × (Unit × (Int × (Int × (Int × (Int × Unit)))))) × (Unit × ((List Int) × Unit)))) => some (t.2.2.1 ++ stp t.1.1 (rot (sumS key)) m (n - t.1.2.2.1).toNat, ())) ?_ _ _ ⟨sumS_u32, Int.le_refl 0, hn, rfl, rfl, rfl, rfl⟩ (by show (n - (0 : Int)).toNat < k; omega)) ?_
  rotate_left
  · show some (([] : List Int) ++ stp (sumS key) (rot (sumS key)) m (n - 0).toNat, ()) = _
    rw [List.nil_append, Int.sub_zero]; rfl
  rintro ⟨⟨h, _, i, m', n', d', _⟩, _, out, _⟩ next ⟨hh, hi, hi2, h1, h2, h3, h4⟩
  dsimp only at hh hi hi2 h1 h2 h3 h4 ⊢
  subst h1 h2 h3
  by_cases hlt : i < n'
  · right
    have hh' : 0 ≤ h ∧ h ≤ 4294967295 := hh
    have hx : (IntKind.u64.wrap h).tmod m' = h % m' := by rw [wr_u64 hh'.1 (by omega), Int.tmod_eq_emod_of_nonneg hh'.1]
    refine ⟨((IntKind.u32.wrap (h + rot (sumS key)), ((), (i + 1, (m', (n', (rot (sumS key), ())))))), ((), (out ++ [h % m'], ()))), ?_, ⟨wrap_u32_U _, by dsimp only; omega, by dsimp only; omega, rfl, rfl, rfl, by dsimp only; rw [List.length_append, List.length_singleton]; omega⟩, by dsimp only; omega, ?_⟩
    · rw [cdt hlt, cdf (p := m' = 0) (by omega), hx, cdt (by simp only [List.length_cons, List.length_nil]; omega), wr_i64 (n := i + 1) (by omega) (by omega)]
    · dsimp only
      rw [show (n' - i).toNat = (n' - (i + 1)).toNat + 1 by omega, List.append_assoc]
      rfl
  · left
    rw [cdf hlt, show (n' - i).toNat = 0 by omega]
    show _ = some (out ++ [], ())
    rw [List.append_nil]

/-! ### Bits that are set -/
def setB (b : List Int) (x : Int) : List Int := b.set (x / 8).toNat (bits .or .u8 (b.getD (x / 8).toNat 0) (ishl .u8 1 (x % 8)))
def setAll : List Int → List Int → List Int
  | b, [] => b
  | b, x :: l => setAll (setB b x) l
theorem setB_length {b : List Int} {x : Int} : (setB b x).length = b.length := by simp [setB]
theorem setAll_length : (l : List Int) → (b : List Int) → (setAll b l).length = b.length
  | [], b => rfl
  | x :: l, b => by rw [setAll, setAll_length l, setB_length]
def filtAll (m n : Int) : List Int → List (List Int) → List Int
  | b, [] => b
  | b, key :: l => filtAll m n (setAll b (stepsL key m n)) l
theorem filtAll_length {m n : Int} : (l : List (List Int)) → (b : List Int) → (filtAll m n b l).length = b.length
  | [], b => rfl
  | x :: l, b => by rw [filtAll, filtAll_length l, setAll_length]

def fk (bits : Int) : Int := min (max ((bits * 69) / 100) 1) 30
def fl (bits n : Int) : Int := max ((bits * n + 7) / 8) 8
def filterS (keys : List (List Int)) (bits : Int) : List Int :=
  filtAll (8 * fl bits keys.length) (fk bits) (List.replicate (fl bits keys.length).toNat 0) keys ++ [fk bits]

theorem idx {x B : Int} (h0 : 0 ≤ x) (h1 : x < 8 * B) : IntKind.u64.wrap (x.tdiv 8) = x / 8 ∨ 18446744073709551615 < x / 8 := by
  rw [Int.tdiv_eq_ediv_of_nonneg h0]
  by_cases h : x / 8 ≤ 18446744073709551615
  · exact .inl (wr_u64 (by omega) h)
  · exact .inr (by omega)

theorem filter_code {k : Nat} {keys : List (List Int)} {bits : Int} (hl : keys.length ≤ 60) (hb : ∀ key ∈ keys, key.length + 100 ≤ k ∧ key.length ≤ maxLen ∧ ∀ x ∈ key, fits .u8 x) (hk : keys.length + 100 ≤ k) :
    F7 k (keys, (bits, ())) = some (if bits < 1 ∨ 64 < bits then ([], (71, ())) else (filterS keys bits, (0, ()))) := by
  unfold F7
  dsimp only
  by_cases h1 : bits < 1
  · rw [cdt h1, if_pos (.inl h1)]
  rw [cdf h1]
  by_cases h2 : 64 < bits
  · rw [cdt h2, if_pos (.inr h2)]
  rw [cdf h2, if_neg (by omega)]
  have hN : (0 : Int) ≤ (keys.length : Int) ∧ (keys.length : Int) ≤ 60 := by omega
  have hprod : 0 ≤ bits * (keys.length : Int) ∧ bits * (keys.length : Int) ≤ 3840 := by
    constructor
    · exact Int.mul_nonneg (by omega) hN.1
    · exact Int.le_trans (Int.mul_le_mul_of_nonneg_right (show bits ≤ 64 by omega) hN.1) (by omega)
  have hW : IntKind.i64.wrap (Int.tdiv (IntKind.i64.wrap (IntKind.i64.wrap (bits * NatCast.natCast keys.length) + 7)) 8) = (bits * (keys.length : Int) + 7) / 8 := by
    show IntKind.i64.wrap (Int.tdiv (IntKind.i64.wrap (IntKind.i64.wrap (bits * (keys.length : Int)) + 7)) 8) = _
    rw [wr_i64 (n := bits * (keys.length : Int)) (by omega) (by omega), wr_i64 (n := bits * (keys.length : Int) + 7) (by omega) (by omega), Int.tdiv_eq_ediv_of_nonneg (by omega), wr_i64 (by omega) (by omega)]
  have hF : fl bits keys.length = max ((bits * (keys.length : Int) + 7) / 8) 8 := rfl
  have hFr : 8 ≤ fl bits keys.length ∧ fl bits keys.length ≤ 481 := by rw [hF]; omega
  have hK : min (max (IntKind.i64.wrap (Int.tdiv (IntKind.i64.wrap (bits * 69)) 100)) 1) 30 = fk bits := by
    rw [wr_i64 (n := bits * 69) (by omega) (by omega), Int.tdiv_eq_ediv_of_nonneg (by omega), wr_i64 (by omega) (by omega)]
    rfl
  have hKr : 1 ≤ fk bits ∧ fk bits ≤ 30 := by unfold fk; omega
  have hg : (fl bits keys.length).toNat * 1 ≤ 140737488355328 := by omega
  rw [hW, ← hF, cdt rfl, cdt (by omega), cdt hg, hK]
  have hlen : (List.replicate (fl bits keys.length).toNat (0 : Int)).length = (fl bits keys.length).toNat := List.length_replicate
  have hM : IntKind.u64.wrap (8 * IntKind.u64.wrap (NatCast.natCast (List.replicate (fl bits keys.length).toNat (0 : Int)).length)) = 8 * fl bits keys.length := by
    rw [hlen]
    show IntKind.u64.wrap (8 * IntKind.u64.wrap ((fl bits keys.length).toNat : Int)) = _
    rw [Int.toNat_of_nonneg (by omega), wr_u64 (n := fl bits keys.length) (by omega) (by omega), wr_u64 (by omega) (by omega)]
  rw [hM]
  generalize hm : fl bits keys.length = B at *
  generalize hn : fk bits = n at *
  refine Eq.trans (iter_to (fun (t : ((Int × (Int × (Unit × (Int × ((List (List Int)) × (Int × Unit)))))) × (Unit × ((List Int) × ((Unit × Unit) × Unit))))) => 0 ≤ t.1.1 ∧ t.1.1 ≤ (keys.length : Int) ∧ t.1.2.1 = n ∧ t.1.2.2.2.1 = 8 * B ∧ t.1.2.2.2.2.1 = keys ∧ t.1.2.2.2.2.2.1 = (keys.length : Int) ∧ (List.length t.2.2.1 : Int) = B)
    (fun (t : ((Int × (Int × (Unit × (Int × ((List (List Int)) × (Int × Unit)))))) × (Unit × ((List Int) × ((Unit × Unit) × Unit))))) => keys.length - t.1.1.toNat)
    (fun (t : ((Int × (Int × (Unit × (Int × ((List (List Int)) × (Int × Unit)))))) × (Unit × ((List Int) × ((Unit × Unit) × Unit))))) => some (filtAll (8 * B) n t.2.2.1 (keys.drop t.1.1.toNat) ++ [n], (0, ()))) ?_ _ _ ⟨Int.le_refl 0, hN.1, rfl, rfl, rfl, rfl, by show ((List.replicate B.toNat (0 : Int)).length : Int) = B; rw [List.length_replicate]; omega⟩ (by show keys.length - 0 < k; omega)) ?_
  rotate_left
  · show some (filtAll (8 * B) n (List.replicate B.toNat 0) (keys.drop 0) ++ [n], ((0 : Int), ())) = some (filterS keys bits, ((0 : Int), ()))
    rw [List.drop_zero, filterS, hm, hn]
  rintro ⟨⟨i, n', _, m', keys', l', _⟩, _, b, _⟩ next ⟨hi, hi2, e1, e2, e3, e4, hbl⟩
  dsimp only at hi hi2 e1 e2 e3 e4 hbl ⊢
  subst e1 e2 e3 e4
  by_cases hlt : i < (keys'.length : Int)
  · right
    have hlt' : i.toNat < keys'.length := by omega
    obtain ⟨q1, q2, q3⟩ := hb _ (getD_mem (d := []) hlt')
    refine ⟨((i + 1, (n', ((), (8 * B, (keys', ((keys'.length : Int), ())))))), ((), (setAll b (stepsL (keys'.getD i.toNat []) (8 * B) n'), (((), ()), ())))), ?_, ⟨by dsimp only; omega, by dsimp only; omega, rfl, rfl, rfl, rfl, by dsimp only; rw [setAll_length]; exact hbl⟩, by dsimp only; omega, ?_⟩
    · rw [cdt hlt, cdt hi, cdt (p := i < NatCast.natCast keys'.length) hlt, sum_code q2 q3 (by omega)]
      simp only [Option.bind_some]
      rw [rot_code sumS_u32]
      simp only [Option.bind_some]
      generalize hkey : keys'.getD i.toNat [] = key at *
      refine Eq.trans (iter_to (fun (t : ((Int × (Int × (Int × ((Unit × (Unit × Unit)) × (Int × (Int × Unit)))))) × ((Int × (Unit × (Int × ((List Int) × ((List (List Int)) × (Int × (Int × ((List Int) × (Int × (Int × ((Unit × (Unit × Unit)) × Unit))))))))))) × ((List Int) × ((Unit × Unit) × Unit))))) => U32 t.1.1 ∧ 0 ≤ t.1.2.1 ∧ t.1.2.1 ≤ n' ∧ 8 * B = t.1.2.2.1 ∧ rot (sumS key) = t.1.2.2.2.2.1 ∧ n' = t.1.2.2.2.2.2.1 ∧ n' = t.2.1.1 ∧ 8 * B = t.2.1.2.2.1 ∧ keys' = t.2.1.2.2.2.2.1 ∧ (keys'.length : Int) = t.2.1.2.2.2.2.2.1 ∧ i = t.2.1.2.2.2.2.2.2.1 ∧ (List.length t.2.2.1 : Int) = B)
        (fun (t : ((Int × (Int × (Int × ((Unit × (Unit × Unit)) × (Int × (Int × Unit)))))) × ((Int × (Unit × (Int × ((List Int) × ((List (List Int)) × (Int × (Int × ((List Int) × (Int × (Int × ((Unit × (Unit × Unit)) × Unit))))))))))) × ((List Int) × ((Unit × Unit) × Unit))))) => (n' - t.1.2.1).toNat)
        (fun (t : ((Int × (Int × (Int × ((Unit × (Unit × Unit)) × (Int × (Int × Unit)))))) × ((Int × (Unit × (Int × ((List Int) × ((List (List Int)) × (Int × (Int × ((List Int) × (Int × (Int × ((Unit × (Unit × Unit)) × Unit))))))))))) × ((List Int) × ((Unit × Unit) × Unit))))) => next ((i + 1, (n', ((), (8 * B, (keys', ((keys'.length : Int), ())))))), ((), (setAll t.2.2.1 (stp t.1.1 (rot (sumS key)) (8 * B) (n' - t.1.2.1).toNat), (((), ()), ()))))) ?_ _ _ ?_ ?_) ?_
      rotate_left
      · exact ⟨sumS_u32, Int.le_refl 0, by show (0 : Int) ≤ n'; omega, rfl, rfl, rfl, rfl, rfl, rfl, rfl, rfl, hbl⟩
      · show (n' - (0 : Int)).toNat < k
        omega
      · show next _ = _
        dsimp only
        rw [Int.sub_zero]
        rfl
      rintro ⟨⟨h, j, m2, u3, d2, n2, u4⟩, ⟨s1, s2, s3, s4, s5, s6, s7, s8⟩, b2, u5⟩ next2 ⟨hh, hj, hj2, f1, f2, f3, f4, f5, f6, f7, f8, hb2⟩
      dsimp only at hh hj hj2 f1 f2 f3 f4 f5 f6 f7 f8 hb2 ⊢
      subst f1 f2 f3 f4 f5 f6 f7 f8
      by_cases hj8 : j < n'
      · right
        have hh' : 0 ≤ h ∧ h ≤ 4294967295 := hh
        have hx : (IntKind.u64.wrap h).tmod (8 * B) = h % (8 * B) := by rw [wr_u64 hh'.1 (by omega), Int.tmod_eq_emod_of_nonneg hh'.1]
        have hx0 : 0 ≤ h % (8 * B) := Int.emod_nonneg _ (by omega)
        have hx1 : h % (8 * B) < 8 * B := Int.emod_lt_of_pos _ (by omega)
        have hx2 : IntKind.u64.wrap ((h % (8 * B)).tdiv 8) = h % (8 * B) / 8 := by
          rw [Int.tdiv_eq_ediv_of_nonneg hx0, wr_u64 (by omega) (by omega)]
        have hx3 : (h % (8 * B)).tmod 8 = h % (8 * B) % 8 := Int.tmod_eq_emod_of_nonneg hx0
        refine ⟨((IntKind.u32.wrap (h + rot (sumS key)), (j + 1, (8 * B, (u3, (rot (sumS key), (n', u4)))))), ((n', (s2, (8 * B, (s4, (keys', ((keys'.length : Int), (i, s8))))))), (setB b2 (h % (8 * B)), u5))), ?_, ⟨wrap_u32_U _, by dsimp only; omega, by dsimp only; omega, rfl, rfl, rfl, rfl, rfl, rfl, rfl, rfl, by dsimp only; rw [setB_length]; exact hb2⟩, by dsimp only; omega, ?_⟩
        · have hlen2 : h % (8 * B) / 8 < NatCast.natCast b2.length := by show h % (8 * B) / 8 < (b2.length : Int); omega
          rw [cdt hj8, cdf (p := 8 * B = 0) (by omega), hx, hx2, hx3, cdt (by omega), cdt hlen2, cdt (by omega), cdt (by omega), cdt hlen2, wr_i64 (n := j + 1) (by omega) (by omega)]
          rfl
        · dsimp only
          rw [show (n' - j).toNat = (n' - (j + 1)).toNat + 1 by omega]
          rfl
      · left
        rw [cdf hj8, wr_i64 (by omega) (by omega), show (n' - j).toNat = 0 by omega]
        rfl
    · dsimp only
      rw [show (i + 1).toNat = i.toNat + 1 by omega, List.drop_eq_getElem_cons hlt', ← getD_getElem (d := []) hlt']
      rfl
  · left
    rw [cdf hlt, cdt (by simp only [List.length_cons, List.length_nil]; omega), wr_u8 (by omega) (by omega), List.drop_of_length_le (by omega)]
    rfl
theorem filter_ref {k : Nat} {keys : List (List Int)} {bits : Int} (hl : keys.length ≤ 60) (hb : ∀ key ∈ keys, key.length + 100 ≤ k ∧ key.length ≤ maxLen ∧ ∀ x ∈ key, fits .u8 x) (hk : keys.length + 100 ≤ k) :
    F8 k (keys, (bits, ())) = some (if bits < 1 ∨ 64 < bits then ([], (71, ())) else (filterS keys bits, (0, ()))) := by
  unfold F8
  dsimp only
  by_cases h1 : bits < 1
  · rw [cdt h1, if_pos (.inl h1)]
  rw [cdf h1]
  by_cases h2 : 64 < bits
  · rw [cdt h2, if_pos (.inr h2)]
  rw [cdf h2, if_neg (by omega)]
  have hN : (0 : Int) ≤ (keys.length : Int) ∧ (keys.length : Int) ≤ 60 := by omega
  have hprod : 0 ≤ bits * (keys.length : Int) ∧ bits * (keys.length : Int) ≤ 3840 := by
    constructor
    · exact Int.mul_nonneg (by omega) hN.1
    · exact Int.le_trans (Int.mul_le_mul_of_nonneg_right (show bits ≤ 64 by omega) hN.1) (by omega)
  have hF : fl bits keys.length = max ((bits * (keys.length : Int) + 7) / 8) 8 := rfl
  have hW : IntKind.i64.wrap (Int.tdiv (IntKind.i64.wrap (max (IntKind.i64.wrap (bits * NatCast.natCast keys.length)) 64 + 7)) 8) = fl bits keys.length := by
    show IntKind.i64.wrap (Int.tdiv (IntKind.i64.wrap (max (IntKind.i64.wrap (bits * (keys.length : Int))) 64 + 7)) 8) = _
    rw [wr_i64 (n := bits * (keys.length : Int)) (by omega) (by omega), wr_i64 (n := max (bits * (keys.length : Int)) 64 + 7) (by omega) (by omega), Int.tdiv_eq_ediv_of_nonneg (by omega), wr_i64 (by omega) (by omega), hF]
    omega
  have hFr : 8 ≤ fl bits keys.length ∧ fl bits keys.length ≤ 481 := by rw [hF]; omega
  have hK : min (max (IntKind.i64.wrap (Int.tdiv (IntKind.i64.wrap (bits * 69)) 100)) 1) 30 = fk bits := by
    rw [wr_i64 (n := bits * 69) (by omega) (by omega), Int.tdiv_eq_ediv_of_nonneg (by omega), wr_i64 (by omega) (by omega)]
    rfl
  have hKr : 1 ≤ fk bits ∧ fk bits ≤ 30 := by unfold fk; omega
  rw [hW, cdt rfl, cdt (by omega), cdt (by omega), hK]
  generalize hm : fl bits keys.length = B at *
  generalize hn : fk bits = n at *
  refine Eq.trans (iter_to (fun (t : ((Int × ((List (List Int)) × (Int × (Unit × Unit)))) × (Unit × ((List Int) × Unit)))) => 0 ≤ t.1.1 ∧ t.1.1 ≤ (keys.length : Int) ∧ keys = t.1.2.1 ∧ n = t.1.2.2.1 ∧ (List.length t.2.2.1 : Int) = B)
    (fun (t : ((Int × ((List (List Int)) × (Int × (Unit × Unit)))) × (Unit × ((List Int) × Unit)))) => keys.length - t.1.1.toNat)
    (fun (t : ((Int × ((List (List Int)) × (Int × (Unit × Unit)))) × (Unit × ((List Int) × Unit)))) => some (filtAll (8 * B) n t.2.2.1 (keys.drop t.1.1.toNat) ++ [n], (0, ()))) ?_ _ _ ?_ ?_) ?_
  rotate_left
  · exact ⟨Int.le_refl 0, hN.1, rfl, rfl, by show ((List.replicate B.toNat (0 : Int)).length : Int) = B; rw [List.length_replicate]; omega⟩
  · show keys.length - 0 < k
    omega
  · show some (filtAll (8 * B) n (List.replicate B.toNat 0) (keys.drop 0) ++ [n], ((0 : Int), ())) = some (filterS keys bits, ((0 : Int), ()))
    rw [List.drop_zero, filterS, hm, hn]
  rintro ⟨⟨i, keys', n', u1⟩, u2, b, u3⟩ next ⟨hi, hi2, e1, e2, hbl⟩
  dsimp only at hi hi2 e1 e2 hbl ⊢
  subst e1 e2
  by_cases hlt : i < (keys.length : Int)
  · right
    have hlt' : i.toNat < keys.length := by omega
    obtain ⟨q1, q2, q3⟩ := hb _ (getD_mem (d := []) hlt')
    refine ⟨((i + 1, (keys, (n, u1))), (u2, (setAll b (stepsL (keys.getD i.toNat []) (8 * B) n), u3))), ?_, ⟨by dsimp only; omega, by dsimp only; omega, rfl, rfl, by dsimp only; rw [setAll_length]; exact hbl⟩, by dsimp only; omega, ?_⟩
    · have hmm : IntKind.u64.wrap (IntKind.i64.wrap (8 * NatCast.natCast b.length)) = 8 * B := by
        show IntKind.u64.wrap (IntKind.i64.wrap (8 * (b.length : Int))) = 8 * B
        rw [hbl, wr_i64 (by omega) (by omega), wr_u64 (by omega) (by omega)]
      rw [cdt hlt, cdt hi, cdt (p := i < NatCast.natCast keys.length) hlt, hmm, steps_ref q2 q3 q1 (by omega) (by omega) (by omega)]
      simp only [Option.bind_some]
      generalize hkey : keys.getD i.toNat [] = key at *
      have hsl : (stepsL key (8 * B) n).length = n.toNat := stp_length _ _ _ _
      have hsm : ∀ x ∈ stepsL key (8 * B) n, 0 ≤ x ∧ x < 8 * B := stp_mem (by omega) _ _
      generalize stepsL key (8 * B) n = l at *
      refine Eq.trans (iter_to (fun (t : ((Int × ((List (List Int)) × (Int × (Unit × (Int × ((List Int) × Unit)))))) × (Unit × ((List Int) × Unit)))) => 0 ≤ t.1.1 ∧ t.1.1 ≤ (l.length : Int) ∧ keys = t.1.2.1 ∧ n = t.1.2.2.1 ∧ i = t.1.2.2.2.2.1 ∧ l = t.1.2.2.2.2.2.1 ∧ (List.length t.2.2.1 : Int) = B)
        (fun (t : ((Int × ((List (List Int)) × (Int × (Unit × (Int × ((List Int) × Unit)))))) × (Unit × ((List Int) × Unit)))) => l.length - t.1.1.toNat)
        (fun (t : ((Int × ((List (List Int)) × (Int × (Unit × (Int × ((List Int) × Unit)))))) × (Unit × ((List Int) × Unit)))) => next ((i + 1, (keys, (n, u1))), (u2, (setAll t.2.2.1 (l.drop t.1.1.toNat), u3)))) ?_ _ _ ?_ ?_) ?_
      rotate_left
      · exact ⟨Int.le_refl 0, by show (0 : Int) ≤ (l.length : Int); omega, rfl, rfl, rfl, rfl, hbl⟩
      · show l.length - 0 < k
        omega
      · rfl
      rintro ⟨⟨j, s1, s2, s3, s4, s5, s6⟩, s7, b2, s8⟩ next2 ⟨hj, hj2, f1, f2, f3, f4, hb2⟩
      dsimp only at hj hj2 f1 f2 f3 f4 hb2 ⊢
      subst f1 f2 f3 f4
      by_cases hj8 : j < (l.length : Int)
      · right
        have hjl : j.toNat < l.length := by omega
        have hx := hsm _ (getD_mem (d := 0) hjl)
        have hx2 : IntKind.u64.wrap ((l.getD j.toNat 0).tdiv 8) = l.getD j.toNat 0 / 8 := by
          rw [Int.tdiv_eq_ediv_of_nonneg hx.1, wr_u64 (by omega) (by omega)]
        have hx3 : (l.getD j.toNat 0).tmod 8 = l.getD j.toNat 0 % 8 := Int.tmod_eq_emod_of_nonneg hx.1
        refine ⟨((j + 1, (keys, (n, (s3, (i, (l, s6)))))), (s7, (setB b2 (l.getD j.toNat 0), s8))), ?_, ⟨by dsimp only; omega, by dsimp only; omega, rfl, rfl, rfl, rfl, by dsimp only; rw [setB_length]; exact hb2⟩, by dsimp only; omega, ?_⟩
        · have hlen2 : l.getD j.toNat 0 / 8 < NatCast.natCast b2.length := by show l.getD j.toNat 0 / 8 < (b2.length : Int); omega
          have hj8' : j < NatCast.natCast l.length := hj8
          rw [cdt hj8', cdt hj, cdt hj8', cdt hj, cdt hj8', hx2, cdt (by omega), cdt hlen2, cdt hj, cdt hj8', hx3, cdt (by omega), cdt (by omega), cdt hlen2, wr_i64 (n := j + 1) (by omega) (by omega)]
          rfl
        · dsimp only
          rw [show (j + 1).toNat = j.toNat + 1 by omega, List.drop_eq_getElem_cons hjl, ← getD_getElem (d := 0) hjl]
          rfl
      · left
        rw [cdf (p := j < NatCast.natCast l.length) hj8, wr_i64 (by omega) (by omega), List.drop_of_length_le (by omega)]
        rfl
    · dsimp only
      rw [show (i + 1).toNat = i.toNat + 1 by omega, List.drop_eq_getElem_cons hlt', ← getD_getElem (d := []) hlt']
      rfl
  · left
    rw [cdf (p := i < NatCast.natCast keys.length) hlt, cdt (by simp only [List.length_cons, List.length_nil]; omega), wr_u8 (by omega) (by omega), List.drop_of_length_le (by omega)]
    rfl

/-! ### Bits that are asked -/
def hasB (b : List Int) (x : Int) : Bool := bne (bits .and .u8 (b.getD (x / 8).toNat 0) (ishl .u8 1 (x % 8))) 0
def mayS (f key : List Int) : Bool :=
  if (f.length : Int) - 1 < 8 then true
  else if f.getD (f.length - 1) 0 < 1 then true
  else if 30 < f.getD (f.length - 1) 0 then true
  else (stepsL key (8 * ((f.length : Int) - 1)) (f.getD (f.length - 1) 0)).all (hasB f)

theorem has_ref : ∀ b : Fin 256, ∀ s : Fin 8, ((ishr .u8 ((b.val : Nat) : Int) ((s.val : Nat) : Int)).tmod 2 == 0) = !(bne (bits .and .u8 ((b.val : Nat) : Int) (ishl .u8 1 ((s.val : Nat) : Int))) 0) := by decide +kernel
theorem has_ref' {b s : Int} (hb : 0 ≤ b ∧ b ≤ 255) (hs : 0 ≤ s ∧ s < 8) : ((ishr .u8 b s).tmod 2 == 0) = !(bne (bits .and .u8 b (ishl .u8 1 s)) 0) := by
  have := has_ref ⟨b.toNat, by omega⟩ ⟨s.toNat, by omega⟩
  simpa [Int.toNat_of_nonneg hb.1, Int.toNat_of_nonneg hs.1] using this

theorem may_code {k : Nat} {f key : List Int} (hf : f.length ≤ 100000) (hff : ∀ x ∈ f, fits .u8 x) (hl : key.length ≤ maxLen) (hb : ∀ x ∈ key, fits .u8 x) (hk : key.length + 100 ≤ k) : F10 k (f, (key, ())) = some (mayS f key, ()) := by
  unfold F10 mayS
  have hw : IntKind.i64.wrap (NatCast.natCast f.length - 1) = (f.length : Int) - 1 := by
    show IntKind.i64.wrap ((f.length : Int) - 1) = _
    exact wr_i64 (by omega) (by omega)
  dsimp only
  rw [hw]
  by_cases h1 : (f.length : Int) - 1 < 8
  · rw [cdt h1, if_pos h1]
  have hlast : ((f.length : Int) - 1).toNat = f.length - 1 := by omega
  have hlt : (f.length : Int) - 1 < NatCast.natCast f.length := by show (f.length : Int) - 1 < (f.length : Int); omega
  have hmem := fits_u8 (hff _ (getD_mem (d := 0) (show f.length - 1 < f.length by omega)))
  rw [cdf h1, if_neg h1, cdt (by omega), cdt hlt, hlast]
  generalize hn : f.getD (f.length - 1) 0 = n at *
  by_cases h2 : n < 1
  · rw [cdt h2, if_pos h2]
  rw [cdf h2, if_neg h2, cdt (by omega), cdt hlt]
  by_cases h3 : 30 < n
  · rw [cdt h3, if_pos h3]
  rw [cdf h3, if_neg h3, cdt (by omega), cdt hlt, sum_code hl hb (by omega)]
  simp only [Option.bind_some]
  rw [rot_code sumS_u32]
  simp only [Option.bind_some]
  have hM : IntKind.u64.wrap (8 * IntKind.u64.wrap ((f.length : Int) - 1)) = 8 * ((f.length : Int) - 1) := by
    rw [wr_u64 (n := (f.length : Int) - 1) (by omega) (by omega), wr_u64 (by omega) (by omega)]
  rw [hM, wr_i64 (n := n) (by omega) (by omega)]
  generalize hB : (f.length : Int) - 1 = B at *
  refine Eq.trans (iter_to (fun (t : ((Int × (Int × (Int × ((Unit × (Unit × (Unit × Unit))) × (Int × (Int × Unit)))))) × (((List Int) × (Unit × (Int × (Unit × ((List Int) × ((List Int) × (Int × (Int × (Int × (Int × (Int × (Int × ((Unit × (Unit × (Unit × Unit))) × Unit))))))))))))) × (((List Int) × Unit) × ((Bool × Unit) × Unit))))) => U32 t.1.1 ∧ 0 ≤ t.1.2.1 ∧ t.1.2.1 ≤ n ∧ 8 * B = t.1.2.2.1 ∧ rot (sumS key) = t.1.2.2.2.2.1 ∧ n = t.1.2.2.2.2.2.1 ∧ f = t.2.2.1.1)
    (fun (t : ((Int × (Int × (Int × ((Unit × (Unit × (Unit × Unit))) × (Int × (Int × Unit)))))) × (((List Int) × (Unit × (Int × (Unit × ((List Int) × ((List Int) × (Int × (Int × (Int × (Int × (Int × (Int × ((Unit × (Unit × (Unit × Unit))) × Unit))))))))))))) × (((List Int) × Unit) × ((Bool × Unit) × Unit))))) => (n - t.1.2.1).toNat)
    (fun (t : ((Int × (Int × (Int × ((Unit × (Unit × (Unit × Unit))) × (Int × (Int × Unit)))))) × (((List Int) × (Unit × (Int × (Unit × ((List Int) × ((List Int) × (Int × (Int × (Int × (Int × (Int × (Int × ((Unit × (Unit × (Unit × Unit))) × Unit))))))))))))) × (((List Int) × Unit) × ((Bool × Unit) × Unit))))) => some (t.2.2.2.1.1 && (stp t.1.1 (rot (sumS key)) (8 * B) (n - t.1.2.1).toNat).all (hasB f), ())) ?_ _ _ ?_ ?_) ?_
  rotate_left
  · exact ⟨sumS_u32, Int.le_refl 0, by show (0 : Int) ≤ n; omega, rfl, rfl, rfl, rfl⟩
  · show (n - (0 : Int)).toNat < k
    omega
  · show some (true && (stp (sumS key) (rot (sumS key)) (8 * B) (n - 0).toNat).all (hasB f), ()) = _
    rw [Int.sub_zero]
    rfl
  rintro ⟨⟨h, j, m2, u3, d2, n2, u4⟩, ⟨s1, s2, s3, s4, s5, s6, s7, s8⟩, ⟨f2, u5⟩, ⟨y, u6⟩, u7⟩ next ⟨hh, hj, hj2, f1, f3, f4, f5⟩
  dsimp only at hh hj hj2 f1 f3 f4 f5 ⊢
  subst f1 f3 f4 f5
  by_cases hj8 : j < n
  · right
    have hh' : 0 ≤ h ∧ h ≤ 4294967295 := hh
    have hx : (IntKind.u64.wrap h).tmod (8 * B) = h % (8 * B) := by rw [wr_u64 hh'.1 (by omega), Int.tmod_eq_emod_of_nonneg hh'.1]
    have hx0 : 0 ≤ h % (8 * B) := Int.emod_nonneg _ (by omega)
    have hx1 : h % (8 * B) < 8 * B := Int.emod_lt_of_pos _ (by omega)
    have hx2 : IntKind.u64.wrap ((h % (8 * B)).tdiv 8) = h % (8 * B) / 8 := by
      rw [Int.tdiv_eq_ediv_of_nonneg hx0, wr_u64 (by omega) (by omega)]
    have hx3 : (h % (8 * B)).tmod 8 = h % (8 * B) % 8 := Int.tmod_eq_emod_of_nonneg hx0
    refine ⟨((IntKind.u32.wrap (h + rot (sumS key)), (j + 1, (8 * B, (u3, (rot (sumS key), (n, u4)))))), ((s1, (s2, (s3, (s4, (s5, (s6, (s7, s8))))))), ((f, u5), ((y && hasB f (h % (8 * B)), u6), u7)))), ?_, ⟨wrap_u32_U _, by dsimp only; omega, by dsimp only; omega, rfl, rfl, rfl, rfl⟩, by dsimp only; omega, ?_⟩
    · have hlen2 : h % (8 * B) / 8 < NatCast.natCast f.length := by show h % (8 * B) / 8 < (f.length : Int); omega
      rw [cdt hj8, cdf (p := 8 * B = 0) (by omega), wr_i64 (n := j + 1) (by omega) (by omega)]
      cases y with
      | true =>
        rw [hx, hx2, hx3]
        dsimp only [cond_true]
        rw [cdt (by omega), cdt hlen2, cdt (by omega)]
        rfl
      | false => rfl
    · dsimp only
      rw [show (n - j).toNat = (n - (j + 1)).toNat + 1 by omega, stp, List.all_cons, Bool.and_assoc]
  · left
    rw [cdf hj8, show (n - j).toNat = 0 by omega]
    show some (y, ()) = some (y && true, ())
    rw [Bool.and_true]

theorem may_ref {k : Nat} {f key : List Int} (hf : f.length ≤ 100000) (hff : ∀ x ∈ f, fits .u8 x) (hl : key.length ≤ maxLen) (hb : ∀ x ∈ key, fits .u8 x) (hk : key.length + 100 ≤ k) : F11 k (f, (key, ())) = some (mayS f key, ()) := by
  unfold F11 mayS
  have hw : IntKind.i64.wrap (NatCast.natCast f.length - 1) = (f.length : Int) - 1 := by
    show IntKind.i64.wrap ((f.length : Int) - 1) = _
    exact wr_i64 (by omega) (by omega)
  dsimp only
  rw [hw]
  by_cases h1 : (f.length : Int) - 1 < 8
  · rw [cdt h1, if_pos h1]
  have hlast : ((f.length : Int) - 1).toNat = f.length - 1 := by omega
  have hlt : (f.length : Int) - 1 < NatCast.natCast f.length := by show (f.length : Int) - 1 < (f.length : Int); omega
  have hmem := fits_u8 (hff _ (getD_mem (d := 0) (show f.length - 1 < f.length by omega)))
  rw [cdf h1, if_neg h1, cdt (by omega), cdt hlt, hlast]
  generalize hn : f.getD (f.length - 1) 0 = n at *
  by_cases h2 : n < 1
  · rw [cdt h2, if_pos h2]
  rw [cdf h2, if_neg h2, cdt (by omega), cdt hlt]
  by_cases h3 : 30 < n
  · rw [cdt h3, if_pos h3]
  rw [cdf h3, if_neg h3, cdt (by omega), cdt hlt]
  have hM : IntKind.u64.wrap (IntKind.i64.wrap (8 * ((f.length : Int) - 1))) = 8 * ((f.length : Int) - 1) := by
    rw [wr_i64 (by omega) (by omega), wr_u64 (by omega) (by omega)]
  rw [hM, wr_i64 (n := n) (by omega) (by omega), steps_ref hl hb hk (by omega) (by omega) (by omega)]
  simp only [Option.bind_some]
  have hsl : (stepsL key (8 * ((f.length : Int) - 1)) n).length = n.toNat := stp_length _ _ _ _
  have hsm : ∀ x ∈ stepsL key (8 * ((f.length : Int) - 1)) n, 0 ≤ x ∧ x < 8 * ((f.length : Int) - 1) := stp_mem (by omega) _ _
  generalize stepsL key (8 * ((f.length : Int) - 1)) n = l at *
  refine Eq.trans (iter_to (fun (t : ((Int × ((List Int) × ((List Int) × Unit))) × (Unit × Unit))) => 0 ≤ t.1.1 ∧ t.1.1 ≤ (l.length : Int) ∧ f = t.1.2.1 ∧ l = t.1.2.2.1)
    (fun (t : ((Int × ((List Int) × ((List Int) × Unit))) × (Unit × Unit))) => l.length - t.1.1.toNat)
    (fun (t : ((Int × ((List Int) × ((List Int) × Unit))) × (Unit × Unit))) => some ((l.drop t.1.1.toNat).all (hasB f), ())) ?_ _ _ ?_ ?_) ?_
  rotate_left
  · exact ⟨Int.le_refl 0, by show (0 : Int) ≤ (l.length : Int); omega, rfl, rfl⟩
  · show l.length - 0 < k
    omega
  · rfl
  rintro ⟨⟨j, f2, l2, u1⟩, u2⟩ next ⟨hj, hj2, f3, f4⟩
  dsimp only at hj hj2 f3 f4 ⊢
  subst f3 f4
  by_cases hj8 : j < (l.length : Int)
  · have hjl : j.toNat < l.length := by omega
    have hx := hsm _ (getD_mem (d := 0) hjl)
    have hx2 : IntKind.u64.wrap ((l.getD j.toNat 0).tdiv 8) = l.getD j.toNat 0 / 8 := by
      rw [Int.tdiv_eq_ediv_of_nonneg hx.1, wr_u64 (by omega) (by omega)]
    have hx3 : (l.getD j.toNat 0).tmod 8 = l.getD j.toNat 0 % 8 := Int.tmod_eq_emod_of_nonneg hx.1
    have hlen2 : l.getD j.toNat 0 / 8 < NatCast.natCast f.length := by show l.getD j.toNat 0 / 8 < (f.length : Int); omega
    have hj8' : j < NatCast.natCast l.length := hj8
    have hbit := fits_u8 (hff _ (getD_mem (d := 0) (show (l.getD j.toNat 0 / 8).toNat < f.length by omega)))
    have hdrop : l.drop j.toNat = l.getD j.toNat 0 :: l.drop (j.toNat + 1) := by rw [List.drop_eq_getElem_cons hjl, ← getD_getElem (d := 0) hjl]
    rw [cdt hj8', cdt hj, cdt hj8', hx2, cdt (by omega), cdt hlen2, cdt hj, cdt hj8', hx3, cdt (by omega), has_ref' hbit (by omega)]
    cases hq : hasB f (l.getD j.toNat 0) with
    | true =>
      right
      refine ⟨((j + 1, (f, (l, u1))), u2), ?_, ⟨by dsimp only; omega, by dsimp only; omega, rfl, rfl⟩, by dsimp only; omega, ?_⟩
      · have hq' : bne (bits .and .u8 (f.getD (l.getD j.toNat 0 / 8).toNat 0) (ishl .u8 1 (l.getD j.toNat 0 % 8))) 0 = true := hq
        rw [hq', wr_i64 (n := j + 1) (by omega) (by omega)]
        rfl
      · dsimp only
        rw [show (j + 1).toNat = j.toNat + 1 by omega, hdrop, List.all_cons, hq, Bool.true_and]
    | false =>
      left
      have hq' : bne (bits .and .u8 (f.getD (l.getD j.toNat 0 / 8).toNat 0) (ishl .u8 1 (l.getD j.toNat 0 % 8))) 0 = false := hq
      rw [hq', hdrop, List.all_cons, hq]
      rfl
  · left
    rw [cdf (p := j < NatCast.natCast l.length) hj8, List.drop_of_length_le (by omega)]
    rfl
end Go.Proofs.Ytcihahfmdencfaa.Eng

/- bytes.Clone: its bytes, in a row that is new. -/
import Derived.Test.YtcihahfmdencfaaEng20
import Derived.Test.YtcihahfmdencfaaProg
import Derived.WalkKit
import Derived.Deep.LoopGhost
import Derived.WalkSpells
import Derived.WalkLawsBesides
set_option linter.unusedVariables false
namespace Go.Proofs.Ytcihahfmdencfaa.Eng
open Go.RowKit Go.Lib

set_option maxHeartbeats 2000000 in
set_option maxRecDepth 100000 in
theorem clone_at (a : Addr) (n c : Nat) (xs : List Int) (w : World) (hx : xs.length = n) (hbig : n ≤ 140737488355328) (hc : ∀ i, i < n → w.cell? (a.add i) = some (.int .u8 (xs.getD i 0))) :
    Calls Try.prog 20 #[.slice (some a) n c] w fun e w' => ∃ v', e = .returned v' ∧ w'.ownsRow w.heap.size 5 1 v' n (xs.map (Value.int .u8)) ∧ v' ≠ .slice none 0 0 ∧ Below w.heap.size w w' := by
  obtain ⟨i0, hi, hz0, hz1, hz2⟩ := info_parts (P := Try.prog) (e := 5) (z := .int .u8 0) (size := 1) (bytes := 1) (by kernel_rfl)
  have q22 : ∀ (w : World) (a : Option Addr) (n c n' c' : Nat), (binOp .eql 23 (.slice a n c) (.slice none n' c')).run Try.prog w = .ok (.bool a.isNone) w := fun w a n c n' c' => Lib.run_eql_slice_nil w _ _ a n c n' c' Try.underlying23
  have A : Aside (∀ i, i < n → w.cell? (a.add i) = some (.int .u8 (xs.getD i 0))) := hc
  clear hc
  go_enter Try.func20, Try.ntmps20
  go_wp2_with (at_builtin; refine wpList_append_own _ rfl _ _ 23 rfl w.heap.size 5 i0 (.int .u8 0) 1 1 Try.underlying23 hi hz0 hz1 hz2 rfl (by decide) _ _ _ rfl (World.ownsRow_made w #[] 0 (Nat.le_refl _) (Nat.zero_le _) rfl) a n c (xs.map (Value.int .u8)) rfl ?qc1 ?qc2 ?qc3 ?qc4 ?qc5 ?qc6 ?_)
  case qc1 => simp; omega
  case qc2 =>
    intro j u hj
    have hjn : j < n := by
      have := (List.getElem?_eq_some_iff.1 hj).1
      simp at this
      omega
    refine Lib.cell?_alloc_some _ ?_
    rw [A.out j hjn]
    have e : (xs.map (Value.int .u8))[j]? = some (Value.int .u8 (xs.getD j 0)) := by simp [List.getD, List.getElem?_eq_getElem (show j < xs.length by omega)]
    rw [e] at hj
    exact hj
  case qc3 => intro u hu; obtain ⟨x, _, rfl⟩ := List.mem_map.1 hu; rfl
  case qc4 => unfold maxLen; omega
  case qc5 => omega
  case qc6 => simp
  intro v' w1 hown hgrow hnil
  go_wp2
  go_ret
  refine ⟨v', rfl, by simpa using hown, ?_, ?_⟩
  · first | exact hnil | (intro e; exact absurd (hnil.1 e).1 (by simp))
  · exact ((Below.refl _ w).alloc (Nat.le_refl _) _).grown hgrow (by simp) (by intro k hk; simp [Value.ownBlock] at hk; omega)

set_option maxHeartbeats 1000000 in
theorem clone_nil (n c : Nat) (w : World) :
    Calls Try.prog 20 #[.slice none n c] w fun e w' => e = .returned (.slice none 0 0) ∧ w' = w := by
  have q22 : ∀ (w : World) (a : Option Addr) (n c n' c' : Nat), (binOp .eql 23 (.slice a n c) (.slice none n' c')).run Try.prog w = .ok (.bool a.isNone) w := fun w a n c n' c' => Lib.run_eql_slice_nil w _ _ a n c n' c' Try.underlying23
  go_enter Try.func20, Try.ntmps20
  go_wp2
  go_ret
  exact ⟨rfl, rfl⟩

theorem clone_ok : FnOKf Try.prog 20 [(.sl (.int .u8), true)] 5 (.int .u8) [] cloneF := by
  intro X w vs xs ys hX ha hys
  unfold cloneF at hys
  obtain ⟨hle, hys⟩ := condP_some hys
  injection hys with hys
  subst hys
  obtain ⟨u, us', h1, h2, h3⟩ := ha
  obtain ⟨A, c, h4, h5, h6, h7⟩ := h2
  have h3 : us' = [] := h3
  subst h3
  injection h4 with h4 _
  subst h4
  have hvs : vs = #[.slice A (List.length xs.1) c] := by rw [← Array.toList_inj, h1]
  subst hvs
  obtain ⟨fn, hf, hn, c0, hb⟩ : ∃ fn, Try.prog.funcs[20]? = some fn ∧ (fn.name == "runtime.NumGoroutine") = false ∧ ∃ c, fn.body = some c := ⟨_, Try.func20, rfl, _, rfl⟩
  refine .inr ⟨run_enter hf hn hb _ w, ?_⟩
  cases A with
  | none =>
    have hnil : xs.1 = [] := by
      rcases h7 with h7 | ⟨b, o, h7, _⟩
      · exact h7
      · cases h7
    refine (clone_nil _ _ w).mono ?_
    rintro e w' ⟨rfl, rfl⟩
    refine ⟨.slice none 0 0, [], rfl, ⟨[], ?_, ?_⟩, rfl, fun k hk => (by cases hk), rfl, rfl, rfl, Nat.le_refl _, fun _ _ => rfl⟩
    · show World.ownsRow _ _ _ _ _ (List.length xs.1) _
      rw [hnil]; exact World.ownsRow_nil _ _ _ _
    · show Flat _ xs.1 []
      rw [hnil]; rfl
  | some ad =>
    have hcell : ∀ i, i < List.length xs.1 → w.cell? (ad.add i) = some (.int .u8 ((xs.1 : List Int).getD i 0)) := by
      intro i hi
      rcases h7 with h7 | ⟨b, o, h7, h8⟩
      · rw [h7] at hi; cases hi
      · injection h7 with h7
        subst h7
        obtain ⟨cs, c1, c2, c3⟩ := h8.2 i hi
        have c1' := c1.1
        subst c1'
        have := c3 0 (by simp)
        simp only [Ty.sz, Nat.mul_one, Nat.add_zero, List.getElem_cons_zero] at this
        rw [show (⟨b, o, none⟩ : Addr).add i = ⟨b, o + i, none⟩ from by unfold Addr.add; split <;> simp_all, this]
        congr 2
        simp [List.getD, List.getElem?_eq_getElem (l := (xs.1 : List Int)) hi]
    refine (clone_at ad _ c (xs.1 : List Int) w rfl hle hcell).mono ?_
    rintro e w' ⟨v', rfl, g1, g2, g3⟩
    have gfit : ∀ i (hi : i < List.length xs.1), fits .u8 ((xs.1 : List Int)[i]) := by
      intro i hi
      rcases h7 with h7 | ⟨b, o, h7, h8⟩
      · rw [h7] at hi; cases hi
      · obtain ⟨cs, c1, c2, c3⟩ := h8.2 i hi
        exact c1.2
    refine ⟨v', [], rfl, ⟨_, ⟨g1.1, ?_⟩, ?_⟩, rfl, fun k hk => ?_, ?_⟩
    · rcases g1.2 with g4 | ⟨g, cap, cur, k1, k2, k3⟩
      · exact .inl g4
      · exact .inr ⟨g, cap, cur, k1, Nat.zero_le _, k3⟩
    · show Flat _ (xs.1 : List Int) _
      generalize (xs.1 : List Int) = l at gfit
      clear h1 h5 h7 hcell g1 hle
      induction l with
      | nil => rfl
      | cons y l ih => exact ⟨[.int .u8 y], _, rfl, ⟨rfl, gfit 0 (by simp)⟩, ih (fun i hi => gfit (i + 1) (by simpa using hi))⟩
    · rcases g1.2 with ⟨g4, _⟩ | ⟨g, cap, cur, k1, k2, k3⟩
      · rw [g4] at hk; cases hk
      · rw [k1] at hk; injection hk with hk; rw [← hk]; exact k2
    · exact ⟨g3.os, g3.tape, g3.output, g3.size, g3.block⟩
end Go.Proofs.Ytcihahfmdencfaa.Eng

/- The program's own types as the engine's. -/
import Derived.Test.YtpgmkoaklpkecaaDoorEng18
set_option linter.unusedVariables false
set_option linter.unusedSimpArgs false
namespace Go.Proofs.YtpgmkoaklpkecaaDoor.Eng

def tkOf : TypeDesc → TK
  | .int k => .int k
  | .bool => .bool
  | .string => .str
  | .slice e => .sl e
  | .pointer e => .ptr e
  | .array n e => .arr n e
  | .struct fs => .st (fs.toList.map fun f => (f.offset, f.type))
  | .interface _ => .iface
  | _ => .other

def tsOf (P : Program) (t : TypeId) : Option TS :=
  match P.underlying t, P.info? t with
  | some d, some i => match i.zero with
    | some z => some ⟨tkOf d, i.size, i.bytes, z.cells.toList.map ofC0⟩
    | none => none
  | _, _ => none

theorem tkOf_says (d : TypeDesc) : (tkOf d).says d := by
  unfold tkOf
  split <;> first | rfl | exact ⟨_, rfl, rfl⟩ | exact ⟨_, rfl⟩ | trivial

theorem tsOf_ok (P : Program) : TOK P (tsOf P) := by
  intro t s h
  unfold tsOf at h
  split at h
  · rename_i d i hd hi
    split at h
    · rename_i z hz
      injection h with h; subst h
      exact ⟨d, i, z, hd, tkOf_says d, hi, rfl, rfl, hz, rfl⟩
    · cases h
  · cases h

/-- The zero cells of a kind of data, off the front. -/
def zOff : Ty → List Value → Option (List Value)
  | .int k, vs => match vs with
    | .int k' n :: r => cond (decide (k' = k) && decide (n = 0)) (some r) none
    | _ => none
  | .bool, vs => match vs with
    | .bool b :: r => cond b none (some r)
    | _ => none
  | .str, vs => match vs with
    | .string s :: r => cond (decide (s.data = #[])) (some r) none
    | _ => none
  | .sl _, vs => match vs with
    | .slice none 0 0 :: r => some r
    | _ => none
  | .pair a b, vs => match zOff a vs with
    | some r => zOff b r
    | none => none

theorem zOff_ok : (e : Ty) → (vs r : List Value) → zOff e vs = some r → vs = zvals e ++ r
  | .int k, vs, r, h => by
    simp only [zOff] at h
    split at h
    case h_2 => cases h
    obtain ⟨hc, h⟩ := cond_some h
    injection h with h
    simp only [Bool.and_eq_true, decide_eq_true_eq] at hc
    rw [hc.1, hc.2, h]; rfl
  | .bool, vs, r, h => by
    simp only [zOff] at h
    split at h
    case h_2 => cases h
    rename_i b _
    cases b with
    | true => cases h
    | false => injection h with h; rw [h]; rfl
  | .str, vs, r, h => by
    simp only [zOff] at h
    split at h
    case h_2 => cases h
    rename_i s _
    obtain ⟨hc, h2⟩ := condP_some h
    injection h2 with h3
    obtain ⟨d⟩ := s
    simp only at hc
    rw [hc, h3]; rfl
  | .sl e, vs, r, h => by
    simp only [zOff] at h
    split at h
    case h_2 => cases h
    injection h with h
    rw [h]; rfl
  | .pair a b, vs, r, h => by
    simp only [zOff] at h
    split at h
    case h_2 => cases h
    rename_i r1 h1
    rw [zOff_ok a vs r1 h1, zOff_ok b r1 r h]
    simp [zvals]

def pairs : List Ty → Option Ty
  | [] => none
  | [t] => some t
  | t :: l => match pairs l with
    | some u => some (.pair t u)
    | none => none
def allSome : List (Option Ty) → Option (List Ty)
  | [] => some []
  | some t :: l => match allSome l with
    | some u => some (t :: u)
    | none => none
  | none :: _ => none

def tyOf (P : Program) : Nat → TypeId → Option Ty
  | 0, _ => none
  | n + 1, t => match P.underlying t with
    | some d => match d with
      | .int k => some (.int k)
      | .bool => some .bool
      | .string => some .str
      | .slice e => match tyOf P n e with
        | some u => some (.sl u)
        | none => none
      | .array k e => match tyOf P n e with
        | some u => pairs (List.replicate k u)
        | none => none
      | .struct fs => match allSome (fs.toList.map fun f => tyOf P n f.type) with
        | some l => pairs l
        | none => none
      | _ => none
    | none => none

def oneV' : Value → Bool
  | .agg _ => false
  | _ => true

def yOf (P : Program) (t : TypeId) : Option Ty :=
  match tyOf P 12 t, P.info? t with
  | some e, some i => match i.zero with
    | some z => match zOff e z.cells.toList with
      | some [] => cond (Nat.beq i.size e.sz && Nat.blt 0 i.bytes && (oneV' z || !Nat.beq e.sz 1)) (some e) none
      | _ => none
    | none => none
  | _, _ => none

theorem yOf_ok (P : Program) : YOK P (yOf P) := by
  intro t e h
  unfold yOf at h
  split at h
  · rename_i e' i h1 h2
    split at h
    · rename_i z hz
      split at h
      · rename_i hzo
        obtain ⟨hc, h⟩ := cond_some h
        injection h with h; subst h
        simp only [Bool.and_eq_true, Bool.or_eq_true] at hc
        obtain ⟨⟨c1, c2⟩, c3⟩ := hc
        refine ⟨i, z, h2, hz, by rw [zOff_ok _ _ _ hzo, List.append_nil], beq_iff.1 c1, blt_iff.1 c2, fun hs => ?_⟩
        rcases c3 with c3 | c3
        · cases z <;> first | rfl | cases c3
        · rw [beq_iff.2 hs] at c3; cases c3
      · cases h
    · cases h
  · cases h
end Go.Proofs.YtpgmkoaklpkecaaDoor.Eng

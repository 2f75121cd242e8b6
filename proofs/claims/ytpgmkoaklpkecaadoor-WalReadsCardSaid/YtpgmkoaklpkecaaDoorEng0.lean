/- Kinds of pure data, and what it is for cells of a world to read as such data. -/
import Derived.Below
import Derived.Maps.AppendAt
import Derived.Tactics
import Derived.KernelRfl
import Derived.RowKit
set_option linter.unusedVariables false
namespace Go.Proofs.YtpgmkoaklpkecaaDoor.Eng

/-- Kinds of pure data. -/
inductive Ty where
  | int (k : IntKind)
  | bool
  | str
  | sl (e : Ty)
  | pair (a b : Ty)
  deriving DecidableEq

@[reducible] def Ty.D : Ty → Type
  | .int _ => Int
  | .bool => Bool
  | .str => List Int
  | .sl e => List e.D
  | .pair a b => a.D × b.D

def Ty.z : (t : Ty) → t.D
  | .int _ => (0 : Int)
  | .bool => false
  | .str => []
  | .sl _ => []
  | .pair a b => (a.z, b.z)

def Ty.sz : Ty → Nat
  | .pair a b => a.sz + b.sz
  | _ => 1

theorem Ty.sz_pos : (t : Ty) → 0 < t.sz
  | .pair a b => by
    have := a.sz_pos
    simp only [Ty.sz]
    omega
  | .int _ => by simp [Ty.sz]
  | .bool => by simp [Ty.sz]
  | .str => by simp [Ty.sz]
  | .sl _ => by simp [Ty.sz]

/-- A whole number that fits its kind. -/
def fits (k : IntKind) (n : Int) : Prop := k.min ≤ n ∧ n ≤ k.max

def bytesOf (s : ByteArray) : List Int := s.data.toList.map fun b => (b.toNat : Int)

/-- Rows of elements at an address: each element's cells stand one behind the other, in blocks that 'ok' lets by. -/
def Row {α : Type} (w : World) (ok : Nat → Prop) (sz : Nat) (R : α → List Value → Prop) (xs : List α) (b o : Nat) : Prop :=
  ok b ∧ ∀ i (h : i < xs.length), ∃ cs, R xs[i] cs ∧ cs.length = sz ∧ ∀ j (hj : j < cs.length), w.cell? ⟨b, o + i * sz + j, none⟩ = some cs[j]

def SlP {α : Type} (w : World) (ok : Nat → Prop) (sz : Nat) (R : α → List Value → Prop) (xs : List α) (A : Option Addr) : Prop :=
  xs = [] ∨ ∃ b o, A = some ⟨b, o, none⟩ ∧ Row w ok sz R xs b o

/-- The cells read as this datum. -/
def Cells (w : World) (ok : Nat → Prop) : (t : Ty) → t.D → List Value → Prop
  | .int k, n, cs => cs = [.int k n] ∧ fits k n
  | .bool, b, cs => cs = [.bool b]
  | .str, xs, cs => ∃ s, cs = [.string s] ∧ bytesOf s = xs ∧ s.size ≤ maxLen
  | .sl e, xs, cs => ∃ A c, cs = [.slice A xs.length c] ∧ xs.length ≤ c ∧ c ≤ maxLen ∧ SlP w ok e.sz (Cells w ok e) xs A
  | .pair a b, x, cs => ∃ c1 c2, cs = c1 ++ c2 ∧ Cells w ok a x.1 c1 ∧ Cells w ok b x.2 c2

theorem Cells.length {w : World} {ok : Nat → Prop} : (t : Ty) → {x : t.D} → {cs : List Value} → Cells w ok t x cs → cs.length = t.sz
  | .int k, n, cs, h => by rw [h.1]; rfl
  | .bool, b, cs, h => by rw [show cs = _ from h]; rfl
  | .str, xs, cs, h => by obtain ⟨s, h, _⟩ := h; rw [h]; rfl
  | .sl e, xs, cs, h => by obtain ⟨A, c, h, _⟩ := h; rw [h]; rfl
  | .pair a b, x, cs, h => by
    obtain ⟨c1, c2, rfl, h1, h2⟩ := h
    rw [List.length_append, Cells.length a h1, Cells.length b h2]; rfl

theorem cell_block_lt {w : World} {b o : Nat} {v : Value} (h : w.cell? ⟨b, o, none⟩ = some v) : b < w.heap.size := World.block_lt_of_cell? w _ h

/-- What turns nothing in the blocks that 'ok' lets by turns no reading; 'ok' may be widened. -/
theorem Row.move {α : Type} {w w' : World} {ok ok' : Nat → Prop} {sz : Nat} {R R' : α → List Value → Prop} {xs : List α} {b o : Nat} (hsz : 0 < sz)
    (hok : ∀ k, ok k → k < w.heap.size → ok' k ∧ w'.heap[k]? = w.heap[k]?) (hR : ∀ x cs, R x cs → R' x cs) (hne : xs ≠ []) (h : Row w ok sz R xs b o) : Row w' ok' sz R' xs b o := by
  obtain ⟨hb, hc⟩ := h
  have hlt : b < w.heap.size := by
    obtain ⟨cs, _, hl, hcell⟩ := hc 0 (List.length_pos_iff.2 hne)
    exact cell_block_lt (hcell 0 (by omega))
  refine ⟨(hok b hb hlt).1, fun i hi => ?_⟩
  obtain ⟨cs, hr, hl, hcell⟩ := hc i hi
  refine ⟨cs, hR _ _ hr, hl, fun j hj => ?_⟩
  rw [← hcell j hj]
  exact World.cell?_of_block (by simpa using (hok b hb hlt).2)

theorem SlP.move {α : Type} {w w' : World} {ok ok' : Nat → Prop} {sz : Nat} {R R' : α → List Value → Prop} {xs : List α} {A : Option Addr} (hsz : 0 < sz)
    (hok : ∀ k, ok k → k < w.heap.size → ok' k ∧ w'.heap[k]? = w.heap[k]?) (hR : ∀ x cs, R x cs → R' x cs) (h : SlP w ok sz R xs A) : SlP w' ok' sz R' xs A := by
  rcases h with h | ⟨b, o, hA, h⟩
  · exact .inl h
  · by_cases hne : xs = []
    · exact .inl hne
    · exact .inr ⟨b, o, hA, h.move hsz hok hR hne⟩

theorem Cells.move {w w' : World} {ok ok' : Nat → Prop} (hok : ∀ k, ok k → k < w.heap.size → ok' k ∧ w'.heap[k]? = w.heap[k]?) :
    (t : Ty) → {x : t.D} → {cs : List Value} → Cells w ok t x cs → Cells w' ok' t x cs
  | .int k, n, cs, h => h
  | .bool, b, cs, h => h
  | .str, xs, cs, h => h
  | .sl e, xs, cs, h => by
    obtain ⟨A, c, h1, h2, h3, h4⟩ := h
    exact ⟨A, c, h1, h2, h3, h4.move e.sz_pos hok (fun x cs hx => Cells.move hok e hx)⟩
  | .pair a b, x, cs, h => by
    obtain ⟨c1, c2, h1, h2, h3⟩ := h
    exact ⟨c1, c2, h1, Cells.move hok a h2, Cells.move hok b h3⟩

end Go.Proofs.YtpgmkoaklpkecaaDoor.Eng

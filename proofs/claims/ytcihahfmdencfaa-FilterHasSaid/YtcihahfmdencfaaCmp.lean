/- internal/bytealg.Compare: bytes in their order. -/
import Derived.Test.YtcihahfmdencfaaEng20
import Derived.Test.YtcihahfmdencfaaProg
import Derived.Lib.Bytealg
import Derived.Laws.Externs
set_option linter.unusedVariables false
namespace Go.Proofs.Ytcihahfmdencfaa.Eng

theorem run_loadBytes {P : Program} {w : World} : (l : List Int) → (ad : Addr) → (acc : ByteArray) → (∀ i (hi : i < l.length), w.cell? (ad.add i) = some (.int .u8 l[i])) →
    (Extern.Bytes.loadBytes ad l.length acc).run P w = .ok ⟨acc.data ++ (l.map fun n => n.toNat.toUInt8).toArray⟩ w
  | [], ad, acc, h => by simp [Extern.Bytes.loadBytes]
  | x :: l, ad, acc, h => by
    have h0 := h 0 (by simp)
    have hl : (load ad).run P w = .ok (.int .u8 x) w := by
      have : w.cell? ad = some (.int .u8 x) := by simpa [Addr.add] using h0
      rw [run_load, this]
    have ih := run_loadBytes (P := P) (w := w) l (ad.add 1) (acc.push x.toNat.toUInt8) (fun i hi => by
      have := h (i + 1) (by simpa using hi)
      rw [show (ad.add 1).add i = ad.add (i + 1) from by unfold Addr.add; split <;> simp_all <;> omega]
      simpa using this)
    simp only [List.length_cons, Extern.Bytes.loadBytes, Sem.run_bind, hl, Result.andThen_ok, ih]
    simp [ByteArray.push]

theorem ar_bytes {P : Program} {w : World} {ok : Nat → Prop} {xs : List Int} {u : Value} (h : AR w ok (.sl (.int .u8)) xs u) : ∃ s : ByteArray, (Extern.Bytes.bytesOf u).run P w = .ok s w ∧ s.data.toList = xs.map (fun n => n.toNat.toUInt8) ∧ ∀ x ∈ xs, fits .u8 x := by
  obtain ⟨A, c, h1, h2, h3, h4⟩ := h
  injection h1 with h1 _
  subst h1
  rcases h4 with h4 | ⟨b, o, rfl, h4⟩
  · subst h4
    refine ⟨.empty, ?_, rfl, fun x hx => (by cases hx)⟩
    cases A <;> simp [Extern.Bytes.bytesOf, Extern.Bytes.loadBytes]
  · have hc : ∀ i (hi : i < xs.length), w.cell? ((⟨b, o, none⟩ : Addr).add i) = some (.int .u8 xs[i]) := by
      intro i hi
      obtain ⟨cs, c1, c2, c3⟩ := h4.2 i hi
      have c1' := c1.1
      subst c1'
      have := c3 0 (by simp)
      simp only [Ty.sz, Nat.mul_one, Nat.add_zero, List.getElem_cons_zero] at this
      rw [show (⟨b, o, none⟩ : Addr).add i = ⟨b, o + i, none⟩ from by unfold Addr.add; split <;> simp_all, this]
    refine ⟨_, by simp only [Extern.Bytes.bytesOf]; exact run_loadBytes xs _ _ hc, by simp, fun x hx => ?_⟩
    obtain ⟨i, hi, rfl⟩ := List.getElem_of_mem hx
    obtain ⟨cs, c1, _⟩ := h4.2 i hi
    exact c1.2

theorem lex_eq : (a b : List Int) → (∀ x ∈ a, fits .u8 x) → (∀ x ∈ b, fits .u8 x) → Lib.compareBytes (a.map fun n => n.toNat.toUInt8) (b.map fun n => n.toNat.toUInt8) = lexI a b
  | [], [], _, _ => rfl
  | [], _ :: _, _, _ => rfl
  | _ :: _, [], _, _ => rfl
  | x :: a, y :: b, ha, hb => by
    have ih := lex_eq a b (fun z hz => ha z (List.mem_cons_of_mem _ hz)) (fun z hz => hb z (List.mem_cons_of_mem _ hz))
    have hx := ha x (by simp)
    have hy := hb y (by simp)
    simp only [fits, IntKind.min, IntKind.max, IntKind.signed, IntKind.bits] at hx hy
    have hx2 : 0 ≤ x ∧ x ≤ 255 := by simpa using hx
    have hy2 : 0 ≤ y ∧ y ≤ 255 := by simpa using hy
    have hlt : ∀ p q : Int, 0 ≤ p → p ≤ 255 → 0 ≤ q → q ≤ 255 → ((p.toNat.toUInt8 < q.toNat.toUInt8) ↔ p < q) := by
      intro p q h1 h2 h3 h4
      rw [UInt8.lt_iff_toNat_lt]
      simp only [Nat.toUInt8, UInt8.toNat_ofNat']
      omega
    simp only [List.map_cons, Lib.compareBytes, lexI, hlt x y hx2.1 hx2.2 hy2.1 hy2.2, hlt y x hy2.1 hy2.2 hx2.1 hx2.2, ih]

theorem cmp_ok : FnOK Try.prog 45 [(.sl (.int .u8), true), (.sl (.int .u8), true)] [.int .i64] cmpF := by
  intro X w vs xs ys hX ha hys
  unfold cmpF at hys
  injection hys with hys
  subst hys
  obtain ⟨u, us, h1, h2, h3⟩ := ha
  obtain ⟨v, vs', h4, h5, h6⟩ := h3
  have h6 : vs' = [] := h6
  subst h6 h4
  have hvs : vs = #[u, v] := by rw [← Array.toList_inj, h1]
  subst hvs
  obtain ⟨s1, r1, e1, f1⟩ := ar_bytes (P := Try.prog) h2
  obtain ⟨s2, r2, e2, f2⟩ := ar_bytes (P := Try.prog) h5
  have hrun : (callFunc 45 #[u, v]).run Try.prog w = .ok (.value (.int .i64 (lexI xs.1 xs.2.1))) w := by
    rw [run_callFunc_extern (e := Extern.BytealgCompare.compare) Try.func45 (by kernel_rfl) (by kernel_rfl) (by kernel_rfl) (by kernel_rfl)]
    have hc : (Extern.BytealgCompare.compare #[u, v]).run Try.prog w = .ok (.int .i64 (lexI xs.1 xs.2.1)) w := by
      change Sem.run _ (do pure (goInt (Extern.BytealgCompare.cmp (← Extern.Bytes.bytesOf u) (← Extern.Bytes.bytesOf v)))) w = _
      simp only [Sem.run_bind, r1, r2, Result.andThen_ok, Sem.run_pure, Lib.cmp_eq, e1, e2, goInt]
      rw [lex_eq _ _ f1 f2]
    rw [hc]
    rfl
  refine .inl ⟨_, w, hrun, [_], rfl, ⟨_, [], rfl, ⟨rfl, ?_⟩, rfl⟩, rfl, rfl, rfl, Nat.le_refl _, fun _ _ => rfl⟩
  have hb : ∀ a b : List Int, lexI a b = -1 ∨ lexI a b = 0 ∨ lexI a b = 1 := by
    intro a b
    induction a generalizing b with
    | nil => cases b <;> simp [lexI]
    | cons x a ih =>
      cases b with
      | nil => simp [lexI]
      | cons y b =>
        simp only [lexI]
        split
        · simp
        · split
          · simp
          · exact ih b
  simp only [fits, IntKind.min, IntKind.max, IntKind.signed, IntKind.bits]
  rcases hb xs.1 xs.2.1 with h | h | h <;> rw [h] <;> simp
end Go.Proofs.Ytcihahfmdencfaa.Eng

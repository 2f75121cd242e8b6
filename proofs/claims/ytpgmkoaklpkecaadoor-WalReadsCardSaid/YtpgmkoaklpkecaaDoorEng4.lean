/- Operations that make a value and turn nothing: the rest of them. -/
import Derived.Test.YtpgmkoaklpkecaaDoorEng3
import Derived.Laws.BytesArg
set_option linter.unusedVariables false
set_option linter.unusedSimpArgs false
namespace Go.Proofs.YtpgmkoaklpkecaaDoor.Eng

/-- A datum as the cells that hold it. -/
def dcells : (t : Ty) → Option Nat → t.D → List AV
  | .int k, _, n => [.int k n]
  | .bool, _, b => [.bool b]
  | .str, _, xs => [.str xs]
  | .sl e, tag, xs => [.sl e xs tag false]
  | .pair a b, tag, x => dcells a tag x.1 ++ dcells b tag x.2

def cellsO : AV → Option (List AV)
  | .agg cs => some cs
  | .top => none
  | .tup _ => none
  | v => some [v]

def isLeaf : AV → Bool
  | .top | .agg _ | .tup _ => false
  | _ => true

def afill (place : Nat → Option (Nat × Nat)) (cells : List AV) : List (Nat × AV) → Option (List AV)
  | [] => some cells
  | (i, v) :: rest =>
    match place i with
    | none => none
    | some (off, size) =>
      match cellsO v with
      | none => none
      | some cs => cond (Nat.beq cs.length size && Nat.ble (off + size) cells.length) (afill place (cells.take off ++ cs ++ cells.drop (off + size)) rest) none

section
variable {X : Nat → Prop} {nt : Nat} {env : Env} {st : AState} {a : Act} {w : World} {P : Program} {T : TypeId → Option TS} {R : Type} {F : Option Nat → Nat → Prop}

theorem dcells_rel {tag : Option Nat} : (t : Ty) → {x : t.D} → {cs : List Value} → Cells w (F tag) t x cs → RelL F env w (dcells t tag x) cs
  | .int k, n, cs, h => by
    obtain ⟨rfl, h⟩ := h
    exact ⟨_, [], rfl, ⟨rfl, h⟩, rfl⟩
  | .bool, b, cs, h => by
    rw [show cs = _ from h]
    exact ⟨_, [], rfl, rfl, rfl⟩
  | .str, xs, cs, h => by
    obtain ⟨s, rfl, h1, h2⟩ := h
    exact ⟨_, [], rfl, ⟨s, rfl, h1, h2⟩, rfl⟩
  | .sl e, xs, cs, h => by
    obtain ⟨A, c, rfl, h1, h2, h3⟩ := h
    exact ⟨_, [], rfl, ⟨A, c, rfl, h1, h2, (by simp), h3⟩, rfl⟩
  | .pair p q, x, cs, h => by
    obtain ⟨c1, c2, rfl, h1, h2⟩ := h
    exact RelL.append _ _ _ _ (dcells_rel p h1) (dcells_rel q h2)

theorem dcells_length (tag : Option Nat) : (t : Ty) → (x : t.D) → (dcells t tag x).length = t.sz
  | .int k, n => rfl
  | .bool, b => rfl
  | .str, xs => rfl
  | .sl e, xs => rfl
  | .pair p q, x => by simp [dcells, dcells_length tag p, dcells_length tag q, Ty.sz]

theorem isLeaf_one {av : AV} {v : Value} (hl : isLeaf av = true) (h : RelV F env w av v) : v.oneCell' = true ∧ v.cells = #[v] := by
  cases av <;> simp only [isLeaf] at hl <;> (try (cases hl; done)) <;> simp only [RelV] at h
  case pre id n => obtain ⟨_, _, _, rfl, _⟩ := h; exact ⟨rfl, rfl⟩
  case own id => obtain ⟨_, A, l, c, rfl⟩ := h; exact ⟨rfl, rfl⟩
  all_goals first
    | (obtain ⟨rfl, _⟩ := h; exact ⟨rfl, rfl⟩)
    | (subst h; exact ⟨rfl, rfl⟩)
    | (obtain ⟨_, rfl, _⟩ := h; exact ⟨rfl, rfl⟩)
    | (obtain ⟨_, _, rfl, _⟩ := h; exact ⟨rfl, rfl⟩)
    | (obtain ⟨_, _, rfl⟩ := h; exact ⟨rfl, rfl⟩)
    | (obtain ⟨_, _, _, rfl, _, _⟩ := h; exact ⟨rfl, rfl⟩)
    | (obtain ⟨_, _, _, _, _, rfl⟩ := h; exact ⟨rfl, rfl⟩)
    | (obtain ⟨_, _, _, _, _, _, rfl⟩ := h; exact ⟨rfl, rfl⟩)

theorem fits_len {n : Nat} (h : n ≤ maxLen) : fits .i64 (n : Int) := by
  unfold maxLen at h
  simp only [fits, IntKind.min, IntKind.max, IntKind.signed, IntKind.bits]
  omega

/-! ### How long -/
def alen (st : AState) : AV → Option Nat
  | .sl e xs _ _ => some xs.length
  | .own id => match st.hp id with
    | .row _ _ xs => some xs.length
    | _ => none
  | .pre id n => some n
  | .nil => some 0
  | _ => none

theorem hdr_row {id : Nat} {t : TypeId} {e : Ty} {xs : List e.D} (h : RelO F env w id (.row t e xs)) :
    ∃ A c, env.hdr id = .slice A xs.length c ∧ xs.length ≤ c ∧ c ≤ maxLen ∧ (A = none → c = 0 ∧ xs = []) ∧ (∀ ad, A = some ad → ∃ g, ad = ⟨g, 0, none⟩ ∧ env.blk id = some g) := by
  obtain ⟨h1, ds, h2, h3⟩ := h
  rcases h2.2 with ⟨h4, h5⟩ | ⟨g, cap, cur, h4, _, _, h5, h6, _⟩
  · exact ⟨none, 0, by rw [h4, h5], by omega, by unfold maxLen; omega, fun _ => ⟨rfl, List.eq_nil_of_length_eq_zero h5⟩, fun ad h => by cases h⟩
  · exact ⟨some ⟨g, 0, none⟩, cap, h4, h5, h6, (fun h => by cases h), fun ad h => ⟨g, by injection h with h; exact h.symm, by rw [h1, h4]; rfl⟩⟩

theorem alen_sound (hR : Rel X nt env st a w) {av : AV} {v : Value} {n : Nat} (hv : RelV (okT X st.hp env) env w av v) (h : alen st av = some n) : ∃ A c, v = .slice A n c ∧ n ≤ maxLen ∧ n ≤ c ∧ c ≤ maxLen := by
  unfold alen at h
  split at h
  · injection h with h; subst h
    obtain ⟨A, c, rfl, h1, h2, _⟩ := hv
    exact ⟨A, c, rfl, Nat.le_trans h1 h2, h1, h2⟩
  · split at h
    · rename_i id _ t e xs he
      injection h with h; subst h
      have ho := hR.hp id
      rw [he] at ho
      obtain ⟨A, c, h1, h2, h3, _⟩ := hdr_row ho
      obtain ⟨rfl, _⟩ := hv
      exact ⟨A, c, h1, Nat.le_trans h2 h3, h2, h3⟩
    · cases h
  · injection h with h; subst h
    obtain ⟨A, l, c, rfl, h1, h2, h3, h4⟩ := hv
    exact ⟨A, c, rfl, by omega, by omega, h4⟩
  · injection h with h; subst h
    simp only [RelV] at hv; subst hv
    exact ⟨none, 0, rfl, by unfold maxLen; omega, by omega, by unfold maxLen; omega⟩
  · cases h

/-! ### Unary operators, conversions of numbers -/
def aun (op : UnOp) (x : AV) (K : AV → Option R) : Option R :=
  match op, x with
  | .not, .bool b => K (.bool (!b))
  | .neg, .int k n => K (.int k (k.wrap (0 - n)))
  | .xor, .int k n => K (.int k (bits .xor k (if k.signed then -1 else k.max) n))
  | _, _ => none

theorem aun_sound {op : UnOp} {x : AV} {u : Value} {K : AV → Option R} {r : R} (hx : RelV F env w x u) (h : aun op x K = some r) : ∃ av z, K av = some r ∧ (∀ w1 : World, (Op.unary op u).run P w1 = .ok z w1) ∧ RelV F env w av z := by
  unfold aun at h
  split at h
  · simp only [RelV] at hx; subst hx
    exact ⟨_, _, h, fun w1 => by simp only [Op.unary, Sem.run_pure], rfl⟩
  · obtain ⟨rfl, hx⟩ := hx
    exact ⟨_, _, h, fun w1 => by simp only [Op.unary, Op.intArith, Sem.run_pure], ⟨rfl, fits_wrap _ _⟩⟩
  · obtain ⟨rfl, hx⟩ := hx
    exact ⟨_, _, h, fun w1 => by simp only [Op.unary]; simp [go_sem]; rfl, ⟨by simp, fits_wrap _ _⟩⟩
  · cases h

/-- The bytes that a string of them has. -/
def abytes (st : AState) : AV → Option (List Int)
  | .sl (.int .u8) xs _ _ => some xs
  | .own id => match st.hp id with
    | .row _ (.int .u8) xs => some xs
    | _ => none
  | .nil => some []
  | _ => none

theorem bytes_back {xs : List Int} (h : ∀ x ∈ xs, fits .u8 x) : bytesOf (strOfNums xs) = xs := by
  unfold bytesOf
  rw [strOfNums_data, List.map_map]
  conv => rhs; rw [← List.map_id xs]
  refine List.map_congr_left fun x hx => ?_
  have := h x hx
  simp [fits, IntKind.min, IntKind.max, IntKind.signed, IntKind.bits] at this
  simp only [Function.comp, id, UInt8.toNat_ofNat']
  omega

theorem row_get {α : Type} {ok : Nat → Prop} {sz : Nat} {G : α → List Value → Prop} {xs : List α} {b o : Nat} (h : Row w ok sz G xs b o) (i : Nat) (hi : i < xs.length) :
    ∃ cs, G xs[i] cs ∧ cs.length = sz ∧ ∀ j (hj : j < cs.length), w.cell? ⟨b, o + i * sz + j, none⟩ = some cs[j] := h.2 i hi

theorem own_row {id : Nat} {t : TypeId} {e : Ty} {xs : List e.D} (h : RelO F env w id (.row t e xs)) (hne : xs ≠ []) :
    ∃ g c, env.hdr id = .slice (some ⟨g, 0, none⟩) xs.length c ∧ env.blk id = some g ∧ ∀ i (hi : i < xs.length), ∃ cs, Cells w (F none) e xs[i] cs ∧ cs.length = e.sz ∧ ∀ j (hj : j < cs.length), w.cell? ⟨g, 0 + i * e.sz + j, none⟩ = some cs[j] := by
  obtain ⟨A, c, h1, h2, h3, h4, h5⟩ := hdr_row h
  cases A with
  | none => exact absurd (h4 rfl).2 hne
  | some ad =>
    obtain ⟨g, rfl, hb⟩ := h5 ad rfl
    obtain ⟨_, ds, k2, k3⟩ := h
    refine ⟨g, c, h1, hb, fun i hi => ?_⟩
    obtain ⟨cs, c1, c2, c3⟩ := Flat.get (fun y cs hy => Cells.length e hy) xs ds k3 i hi
    refine ⟨cs, c1, c2, fun j hj => ?_⟩
    have := k2.cells (g := g) (by rw [h1]; rfl) (i * e.sz + j) _ (c3 j hj)
    rw [← this]
    congr 1
    unfold Addr.add
    split <;> simp_all

theorem conv_key {xs : List Int} {v : Value} {A : Option Addr} {c : Nat} {ok : Nat → Prop} {s d e : TypeId} (hs : P.underlying s = some (.slice e)) (he : P.underlying e = some (.int .u8)) (hd : P.underlying d = some .string)
    (hl : xs.length ≤ maxLen) (hv : v = .slice A xs.length c) (hc : SlP w ok 1 (Cells w ok (.int .u8)) xs A) : (convert s d v).run P w = .ok (.string (strOfNums xs)) w ∧ bytesOf (strOfNums xs) = xs ∧ (strOfNums xs).size ≤ maxLen := by
  subst hv
  refine ⟨?_, ?_, by rw [strOfNums_size]; exact hl⟩
  · rcases hc with hc | ⟨b, o, rfl, hc⟩
    · subst hc
      cases A with
      | none => exact run_convert_bytes_nil w s e hs he 0 c d hd
      | some ad =>
        have hloads := run_loadCells_list (P := P) w ad [] (by simp)
        simp [convert, run_underlying hs, run_underlying he, run_underlying hd, Conv.bytesToString]
        simp at hloads
        rw [hloads]
        simp [strOfNums]
        rfl
    · refine run_convert_bytes_arg w s e hs he b o xs.length c xs rfl (fun i hi => ?_) d hd
      obtain ⟨cs, h1, h2, h3⟩ := row_get hc i hi
      obtain ⟨rfl, _⟩ := h1
      have := h3 0 (by simp)
      simpa [List.getElem?_eq_getElem hi] using this
  · refine bytes_back fun x hx => ?_
    rcases hc with hc | ⟨b, o, rfl, hc⟩
    · subst hc; simp at hx
    · obtain ⟨i, hi, rfl⟩ := List.getElem_of_mem hx
      obtain ⟨cs, h1, _⟩ := row_get hc i hi
      exact h1.2

theorem abytes_sound (hR : Rel X nt env st a w) {av : AV} {v : Value} {xs : List Int} (hv : RelV (okT X st.hp env) env w av v) (h : abytes st av = some xs) {s d e : TypeId} (hs : P.underlying s = some (.slice e)) (he : P.underlying e = some (.int .u8)) (hd : P.underlying d = some .string) :
    ∃ z, (convert s d v).run P w = .ok (.string z) w ∧ bytesOf z = xs ∧ z.size ≤ maxLen := by
  have key : ∀ (A : Option Addr) (c : Nat) (ok : Nat → Prop), xs.length ≤ maxLen → v = .slice A xs.length c → SlP w ok 1 (Cells w ok (.int .u8)) xs A → ∃ z, (convert s d v).run P w = .ok (.string z) w ∧ bytesOf z = xs ∧ z.size ≤ maxLen := by
    intro A c ok hl hv hc
    subst hv
    refine ⟨strOfNums xs, ?_, ?_, by rw [strOfNums_size]; exact hl⟩
    · rcases hc with hc | ⟨b, o, rfl, hc⟩
      · subst hc
        cases A with
        | none => exact run_convert_bytes_nil w s e hs he 0 c d hd
        | some ad =>
          have hloads := run_loadCells_list (P := P) w ad [] (by simp)
          simp [convert, run_underlying hs, run_underlying he, run_underlying hd, Conv.bytesToString]
          simp at hloads
          rw [hloads]
          simp [strOfNums]
          rfl
      · refine run_convert_bytes_arg w s e hs he b o xs.length c xs rfl (fun i hi => ?_) d hd
        obtain ⟨cs, h1, h2, h3⟩ := row_get hc i hi
        obtain ⟨rfl, _⟩ := h1
        have := h3 0 (by simp)
        simpa [List.getElem?_eq_getElem hi] using this
    · refine bytes_back fun x hx => ?_
      rcases hc with hc | ⟨b, o, rfl, hc⟩
      · subst hc; simp at hx
      · obtain ⟨i, hi, rfl⟩ := List.getElem_of_mem hx
        obtain ⟨cs, h1, _⟩ := row_get hc i hi
        exact h1.2
  unfold abytes at h
  split at h
  · injection h with h; subst h
    obtain ⟨A, c, rfl, h1, h2, _, h3⟩ := hv
    exact key A c _ (Nat.le_trans h1 h2) rfl h3
  · split at h
    · rename_i id _ t ys hh
      injection h with h; subst h
      have ho := hR.hp id
      rw [hh] at ho
      obtain ⟨A, c, h1, h2, h3, h4, _⟩ := hdr_row ho
      obtain ⟨hv, _⟩ := hv
      refine key A c (fun _ => True) (Nat.le_trans h2 h3) (by rw [hv, h1]) ?_
      by_cases hne : ys = []
      · exact .inl hne
      · obtain ⟨g, c', k1, k2, k3⟩ := own_row ho hne
        rw [k1] at h1
        injection h1 with h1 _ _
        exact .inr ⟨g, 0, h1.symm, trivial, fun i hi => by obtain ⟨cs, c1, c2, c3⟩ := k3 i hi; exact ⟨cs, c1, c2, c3⟩⟩
    · cases h
  · injection h with h; subst h
    simp only [RelV] at hv; subst hv
    exact ⟨strOfNums [], run_convert_bytes_nil w s e hs he 0 0 d hd, rfl, by rw [strOfNums_size]; simp⟩
  · cases h

def isU8 (T : TypeId → Option TS) (t : TypeId) : Bool := match T t with | some ⟨.int .u8, _, _, _⟩ => true | _ => false

def aconv (T : TypeId → Option TS) (st : AState) (s d : TypeId) (x : AV) (K : AV → Option R) : Option R :=
  match T s, T d, x with
  | some _, some ⟨.int k, _, _, _⟩, .int _ n => K (.int k (k.wrap n))
  | some _, some ⟨.str, _, _, _⟩, .str xs => K (.str xs)
  | some ⟨.sl e, _, _, _⟩, some ⟨.str, _, _, _⟩, x => cond (isU8 T e) (match abytes st x with | some xs => K (.str xs) | none => none) none
  | _, _, _ => none

theorem aconv_sound (hT : TOK P T) (hR : Rel X nt env st a w) {s d : TypeId} {x : AV} {u : Value} {K : AV → Option R} {r : R} (hx : RelV (okT X st.hp env) env w x u) (h : aconv T st s d x K = some r) :
    ∃ av z, K av = some r ∧ (∀ w1 : World, ((∀ k n, u ≠ .int k n) → w1 = w) → (convert s d u).run P w1 = .ok z w1) ∧ RelV (okT X st.hp env) env w av z := by
  unfold aconv at h
  split at h
  · rename_i s1 k _ _ _ _ n h1 h2
    obtain ⟨d1, u1, _⟩ := hT.under h1
    obtain ⟨d2, u2, e2⟩ := hT.under h2
    obtain rfl : d2 = _ := e2
    obtain ⟨rfl, hx⟩ := hx
    exact ⟨_, _, h, fun w1 _ => by simp [convert, run_underlying u1, run_underlying u2, Conv.intToInt], ⟨rfl, fits_wrap _ _⟩⟩
  · rename_i s1 _ _ _ xs h1 h2
    obtain ⟨d1, u1, _⟩ := hT.under h1
    obtain ⟨d2, u2, e2⟩ := hT.under h2
    obtain rfl : d2 = _ := e2
    obtain ⟨z, rfl, hx⟩ := hx
    exact ⟨_, _, h, fun w1 _ => by simp [convert, run_underlying u1, run_underlying u2], ⟨z, rfl, hx⟩⟩
  · rename_i e _ _ _ _ _ _ h1 h2 _
    obtain ⟨d1, u1, e1⟩ := hT.under h1
    obtain ⟨d2, u2, e2⟩ := hT.under h2
    obtain rfl : d1 = _ := e1
    obtain rfl : d2 = _ := e2
    cases hu : isU8 T e with
    | false => rw [hu] at h; cases h
    | true =>
      rw [hu] at h
      simp only [cond_true] at h
      have he : P.underlying e = some (.int .u8) := by
        unfold isU8 at hu
        split at hu
        · rename_i h3; obtain ⟨d3, u3, e3⟩ := hT.under h3; rw [u3, show d3 = _ from e3]
        · cases hu
      split at h
      · rename_i xs hb
        obtain ⟨z, h3, h4, h5⟩ := abytes_sound hR hx hb u1 he u2
        exact ⟨_, _, h, fun w1 e => by
          have : w1 = w := e (fun k n he => by
            subst he
            unfold abytes at hb
            split at hb
            · obtain ⟨_, _, q, _⟩ := hx; cases q
            · obtain ⟨_, _, _, _, q⟩ := hx; cases q
            · simp only [RelV] at hx; cases hx
            · cases hb)
          subst this; exact h3, ⟨z, rfl, h4, h5⟩⟩
      · cases h
  · cases h
end
end Go.Proofs.YtpgmkoaklpkecaaDoor.Eng

/- The law FilterHas of the given program holds for every input: it returns true, and its arguments read as they did. No condition. -/
import Derived.Test.YtcihahfmdencfaaRows
import Derived.Test.YtcihahfmdencfaaFic
import Derived.Test.YtcihahfmdencfaaMtHas
import Derived.Test.YtcihahfmdencfaaEng21
namespace Go.Proofs.Ytcihahfmdencfaa
open Go.ChangeShapes Go.WideShapes Go.ChangeAt Go.RowKit Eng

theorem own_filterHas : ownKnob Try.prog.godebug = none := by kernel_rfl

set_option maxRecDepth 100000 in
theorem filterHas_lifted (os : Os) (started : os.Started) (H : Type) (enc : TypeId × Value → H) :
    ReturnsInHanded {} Try.checked os 4 .any (Rows.filterHasSpec.pre6 enc Try.prog Try.f4 Rows.filterHasRow.domain false) (Rows.filterHasSpec.post enc Try.prog Try.f4 false true false false) := by
  refine returnsInHanded_of_change (C := Try.checked) own_filterHas started (by kernel_rfl) Try.func4
    (ChangeSpec.witness6 (enc := enc) (C := Try.checked) false ⟨#[], #[.slice none 0 0, .int .i64 0, .int .i64 0], []⟩ 8 (by kernel_rfl) (by kernel_rfl) (by kernel_rfl) (by kernel_rfl)) ?_
  intro W base args ds gs before hval hW hcnd _
  exact law_calls (sig := [((.sl (.sl (.int .u8))), false), ((.int .i64), true), ((.int .i64), true)]) (fun k => ok4 k) Try.func4 (by kernel_rfl) (by kernel_rfl) (by kernel_rfl) (by kernel_rfl) (by kernel_rfl) (tb := 4) (by kernel_rfl) Try.underlying4 rfl
    (fun ds h => by
      match ds, h with
      | [d1, d2, d3], _ => rfl) hval hW law_FilterHas

theorem filterHas_holds : Rows.FilterHasSaid :=
  OpenClaim.holds_of_wide 4 Try.f4 rfl rfl rfl rfl rfl rfl rfl ⟨rfl, rfl, rfl, rfl, rfl⟩ rfl rfl rfl rfl rfl (by kernel_rfl) Try.func4 (by kernel_rfl)
    (of_decide_eq_true (by kernel_rfl)) (by unfold Func.isWrapper; first | (rw [if_pos (by decide +kernel)]; kernel_rfl) | (rw [if_neg (by decide +kernel)]; exact ⟨rfl, rfl⟩))
    (fun os started H enc _ => filterHas_lifted os started H enc)

end Go.Proofs.Ytcihahfmdencfaa

/- The law FilterBuilds of the given program holds for every input: it returns true, and its arguments read as they did. No condition. -/
import Derived.Test.YtcihahfmdencfaaRows
import Derived.Test.YtcihahfmdencfaaFic
import Derived.Test.YtcihahfmdencfaaMtFlaw
import Derived.Test.YtcihahfmdencfaaEng21
namespace Go.Proofs.Ytcihahfmdencfaa
open Go.ChangeShapes Go.WideShapes Go.ChangeAt Go.RowKit Eng

theorem own_filterBuilds : ownKnob Try.prog.godebug = none := by kernel_rfl

set_option maxRecDepth 100000 in
theorem filterBuilds_lifted (os : Os) (started : os.Started) (H : Type) (enc : TypeId × Value → H) :
    ReturnsInHanded {} Try.checked os 3 .any (Rows.filterBuildsSpec.pre6 enc Try.prog Try.f3 Rows.filterBuildsRow.domain false) (Rows.filterBuildsSpec.post enc Try.prog Try.f3 false true false false) := by
  refine returnsInHanded_of_change (C := Try.checked) own_filterBuilds started (by kernel_rfl) Try.func3
    (ChangeSpec.witness6 (enc := enc) (C := Try.checked) false ⟨#[], #[.slice none 0 0, .int .i64 0, .slice none 0 0, .slice none 0 0], []⟩ 8 (by kernel_rfl) (by kernel_rfl) (by kernel_rfl) (by kernel_rfl)) ?_
  intro W base args ds gs before hval hW hcnd _
  exact law_calls (sig := [((.sl (.sl (.int .u8))), false), ((.int .i64), true), ((.sl (.int .u8)), false), ((.sl (.int .u8)), false)]) (fun k => ok3 k) Try.func3 (by kernel_rfl) (by kernel_rfl) (by kernel_rfl) (by kernel_rfl) (by kernel_rfl) (tb := 4) (by kernel_rfl) Try.underlying4 rfl
    (fun ds h => by
      match ds, h with
      | [d1, d2, d3, d4], _ => rfl) hval hW law_FilterBuilds

theorem filterBuilds_holds : Rows.FilterBuildsSaid :=
  OpenClaim.holds_of_wide 3 Try.f3 rfl rfl rfl rfl rfl rfl rfl ⟨rfl, rfl, rfl, rfl, rfl⟩ rfl rfl rfl rfl rfl (by kernel_rfl) Try.func3 (by kernel_rfl)
    (of_decide_eq_true (by kernel_rfl)) (by unfold Func.isWrapper; first | (rw [if_pos (by decide +kernel)]; kernel_rfl) | (rw [if_neg (by decide +kernel)]; exact ⟨rfl, rfl⟩))
    (fun os started H enc _ => filterBuilds_lifted os started H enc)

end Go.Proofs.Ytcihahfmdencfaa

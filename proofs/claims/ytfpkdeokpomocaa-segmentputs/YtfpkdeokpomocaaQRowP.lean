/- The statement SegmentPutsSaid: the law SegmentPuts is true at every input, and leaves its arguments as they were. No condition. -/
import Derived.Test.YtfpkdeokpomocaaG47
import Derived.Test.YtfpkdeokpomocaaRows
import Derived.Test.YtfpkdeokpomocaaAMRow3
import Derived.ProofKit
import Derived.JoinedCond
set_option linter.constructorNameAsVariable false
set_option linter.unusedVariables false
set_option linter.unusedSimpArgs false
set_option maxRecDepth 1000000
set_option linter.unusedVariables false
set_option linter.unusedSimpArgs false
namespace Go.Proofs.Ytfpkdeokpomocaa
open Go Go.AM Go.AM.T
theorem own_SegmentPuts : ownKnob Try.prog.godebug = none := by kernel_rfl
theorem row_SegmentPuts (os : Os) (started : os.Started) (H : Type) (enc : TypeId × Value → H) :
    ReturnsInHanded {} Try.checked os 5 .any (Rows.segmentPutsSpec.pre6 enc Try.prog Try.f5 Rows.segmentPutsRow.domain false) (Rows.segmentPutsSpec.post enc Try.prog Try.f5 false true false false) := by
  refine returnsInHanded_of_change (C := Try.checked) own_SegmentPuts started (by kernel_rfl) Try.func5
    (ChangeSpec.witness6 (enc := enc) (C := Try.checked) false ⟨#[], #[.agg #[.int .i64 0, .int .u32 0, .int .u32 0, .int .i64 0], .slice none 0 0, .int .i64 0], []⟩ 8 (by kernel_rfl) (by kernel_rfl) (by kernel_rfl) (by kernel_rfl)) ?_
  intro W base args ds gs before hval hW _ _
  refine law_contract (P := Try.prog) (f := 5) (fn := Try.f5) (s := Rows.segmentPutsSpec) (tbl := (t5).get) (calls_of ok_t5) (by kernel_rfl) ?_ rfl Try.underlying4 rfl ?_ argsP_eq law_segmentputs H enc W base args ds gs before hval hW
  · have h : (Try.f5.params.toList.all fun t => Try.prog.readableRec t && decide (t < Try.prog.types.size)) = true := by kernel_rfl
    intro t ht
    have := List.all_eq_true.1 h t ht
    simpa using this
  · intro H ds h
    match ds, h with
    | [d0, d1, d2], _ => exact ⟨rfl, rfl, rfl⟩
theorem segmentPuts_holds : Rows.SegmentPutsSaid :=
  OpenClaim.holds_of_wide 5 Try.f5 rfl rfl rfl rfl rfl rfl rfl ⟨rfl, rfl, rfl, rfl, rfl⟩ rfl rfl rfl rfl rfl (by kernel_rfl) Try.func5 (by kernel_rfl)
    (of_decide_eq_true (by kernel_rfl)) (by unfold Func.isWrapper; first | (rw [if_pos (by decide +kernel)]; kernel_rfl) | (rw [if_neg (by decide +kernel)]; exact ⟨rfl, rfl⟩))
    (fun os started H enc _ => row_SegmentPuts os started H enc)
end Go.Proofs.Ytfpkdeokpomocaa

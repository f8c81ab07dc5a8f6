/- The statement SegmentNilSaid: the law SegmentNil is true at every input, and leaves its arguments as they were. No condition. -/
import Derived.Test.YtfpkdeokpomocaaNNil
import Derived.Test.YtfpkdeokpomocaaRows
import Derived.Test.YtfpkdeokpomocaaAMRow3
import Derived.ProofKit
import Derived.JoinedCond
set_option linter.constructorNameAsVariable false
set_option maxRecDepth 1000000
set_option linter.unusedVariables false
set_option linter.unusedSimpArgs false
namespace Go.Proofs.Ytfpkdeokpomocaa
open Go Go.AM Go.AM.T
theorem own_SegmentNil : ownKnob Try.prog.godebug = none := by kernel_rfl
theorem row_SegmentNil (os : Os) (started : os.Started) (H : Type) (enc : TypeId × Value → H) :
    ReturnsInHanded {} Try.checked os 6 .any (Rows.segmentNilSpec.pre6 enc Try.prog Try.f6 Rows.segmentNilRow.domain false) (Rows.segmentNilSpec.post enc Try.prog Try.f6 false true false false) := by
  refine returnsInHanded_of_change (C := Try.checked) own_SegmentNil started (by kernel_rfl) Try.func6
    (ChangeSpec.witness6 (enc := enc) (C := Try.checked) false ⟨#[], #[.int .i64 0, .agg #[.int .i64 0, .int .u32 0, .int .u32 0, .int .i64 0], .agg #[.int .i64 0, .string ⟨#[]⟩]], []⟩ 8 (by kernel_rfl) (by kernel_rfl) (by kernel_rfl) (by kernel_rfl)) ?_
  intro W base args ds gs before hval hW _ _
  refine law_contract (P := Try.prog) (f := 6) (fn := Try.f6) (s := Rows.segmentNilSpec) (tbl := (tn).get) (calls_of ok_tn) (by kernel_rfl) ?_ rfl Try.underlying4 rfl ?_ argsL_eq law_nil H enc W base args ds gs before hval hW
  · have h : (Try.f6.params.toList.all fun t => Try.prog.readableRec t && decide (t < Try.prog.types.size)) = true := by kernel_rfl
    intro t ht
    have := List.all_eq_true.1 h t ht
    simpa using this
  · intro H ds h
    match ds, h with
    | [d0, d1, d2], _ => exact ⟨rfl, rfl, rfl⟩
theorem segmentNil_holds : Rows.SegmentNilSaid :=
  OpenClaim.holds_of_wide 6 Try.f6 rfl rfl rfl rfl rfl rfl rfl ⟨rfl, rfl, rfl, rfl, rfl⟩ rfl rfl rfl rfl rfl (by kernel_rfl) Try.func6 (by kernel_rfl)
    (of_decide_eq_true (by kernel_rfl)) (by unfold Func.isWrapper; first | (rw [if_pos (by decide +kernel)]; kernel_rfl) | (rw [if_neg (by decide +kernel)]; exact ⟨rfl, rfl⟩))
    (fun os started H enc _ => row_SegmentNil os started H enc)
end Go.Proofs.Ytfpkdeokpomocaa

/- The statement SeglogNilSaid: the law SeglogNil is true at every input, and leaves its arguments as they were. No condition. -/
import Derived.Test.YtfpkdeokpomocaaMNil2
import Derived.Test.YtfpkdeokpomocaaRows
import Derived.Test.YtfpkdeokpomocaaAMRow3
import Derived.ProofKit
import Derived.JoinedCond
set_option linter.constructorNameAsVariable false
set_option maxRecDepth 1000000
set_option linter.unusedVariables false
set_option linter.unusedSimpArgs false
namespace Go.Proofs.Ytfpkdeokpomocaa
open Go Go.AM Go.AM.T
theorem own_SeglogNil : ownKnob Try.prog.godebug = none := by kernel_rfl
theorem row_SeglogNil (os : Os) (started : os.Started) (H : Type) (enc : TypeId × Value → H) :
    ReturnsInHanded {} Try.checked os 8 .any (Rows.seglogNilSpec.pre6 enc Try.prog Try.f8 Rows.seglogNilRow.domain false) (Rows.seglogNilSpec.post enc Try.prog Try.f8 false true false false) := by
  refine returnsInHanded_of_change (C := Try.checked) own_SeglogNil started (by kernel_rfl) Try.func8
    (ChangeSpec.witness6 (enc := enc) (C := Try.checked) false ⟨#[], #[.int .i64 0, .int .i64 0, .agg #[.int .i64 0, .string ⟨#[]⟩]], []⟩ 8 (by kernel_rfl) (by kernel_rfl) (by kernel_rfl) (by kernel_rfl)) ?_
  intro W base args ds gs before hval hW _ _
  refine law_contract (P := Try.prog) (f := 8) (fn := Try.f8) (s := Rows.seglogNilSpec) (tbl := (tn).get) (calls_of ok_tn) (by kernel_rfl) ?_ rfl Try.underlying4 rfl ?_ argsG_eq law_seglognil H enc W base args ds gs before hval hW
  · have h : (Try.f8.params.toList.all fun t => Try.prog.readableRec t && decide (t < Try.prog.types.size)) = true := by kernel_rfl
    intro t ht
    have := List.all_eq_true.1 h t ht
    simpa using this
  · intro H ds h
    match ds, h with
    | [d0, d1, d2], _ => exact ⟨rfl, rfl, rfl⟩
theorem seglogNil_holds : Rows.SeglogNilSaid :=
  OpenClaim.holds_of_wide 8 Try.f8 rfl rfl rfl rfl rfl rfl rfl ⟨rfl, rfl, rfl, rfl, rfl⟩ rfl rfl rfl rfl rfl (by kernel_rfl) Try.func8 (by kernel_rfl)
    (of_decide_eq_true (by kernel_rfl)) (by unfold Func.isWrapper; first | (rw [if_pos (by decide +kernel)]; kernel_rfl) | (rw [if_neg (by decide +kernel)]; exact ⟨rfl, rfl⟩))
    (fun os started H enc _ => row_SeglogNil os started H enc)
end Go.Proofs.Ytfpkdeokpomocaa

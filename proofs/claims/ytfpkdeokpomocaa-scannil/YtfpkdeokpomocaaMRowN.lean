/- The statement ScanNilSaid: the law ScanNil is true at every input, and leaves its arguments as they were. No condition. -/
import Derived.Test.YtfpkdeokpomocaaMNil3
import Derived.Test.YtfpkdeokpomocaaRows
import Derived.Test.YtfpkdeokpomocaaAMRow3
import Derived.ProofKit
import Derived.JoinedCond
set_option linter.constructorNameAsVariable false
set_option maxRecDepth 1000000
set_option linter.unusedVariables false
set_option linter.unusedSimpArgs false
namespace Go.Proofs.Ytfpkdeokpomocaa
open Go Go.AM Go.AM.T
theorem own_ScanNil : ownKnob Try.prog.godebug = none := by kernel_rfl
theorem row_ScanNil (os : Os) (started : os.Started) (H : Type) (enc : TypeId × Value → H) :
    ReturnsInHanded {} Try.checked os 10 .any (Rows.scanNilSpec.pre6 enc Try.prog Try.f10 Rows.scanNilRow.domain false) (Rows.scanNilSpec.post enc Try.prog Try.f10 false true false false) := by
  refine returnsInHanded_of_change (C := Try.checked) own_ScanNil started (by kernel_rfl) Try.func10
    (ChangeSpec.witness6 (enc := enc) (C := Try.checked) false ⟨#[], #[.int .i64 0], []⟩ 8 (by kernel_rfl) (by kernel_rfl) (by kernel_rfl) (by kernel_rfl)) ?_
  intro W base args ds gs before hval hW _ _
  refine law_contract (P := Try.prog) (f := 10) (fn := Try.f10) (s := Rows.scanNilSpec) (tbl := (tn).get) (calls_of ok_tn) (by kernel_rfl) ?_ rfl Try.underlying4 rfl ?_ argsN_eq law_scannil H enc W base args ds gs before hval hW
  · have h : (Try.f10.params.toList.all fun t => Try.prog.readableRec t && decide (t < Try.prog.types.size)) = true := by kernel_rfl
    intro t ht
    have := List.all_eq_true.1 h t ht
    simpa using this
  · intro H ds h
    match ds, h with
    | [d0], _ => exact ⟨rfl, rfl, rfl⟩
theorem scanNil_holds : Rows.ScanNilSaid :=
  OpenClaim.holds_of_wide 10 Try.f10 rfl rfl rfl rfl rfl rfl rfl ⟨rfl, rfl, rfl, rfl, rfl⟩ rfl rfl rfl rfl rfl (by kernel_rfl) Try.func10 (by kernel_rfl)
    (of_decide_eq_true (by kernel_rfl)) (by unfold Func.isWrapper; first | (rw [if_pos (by decide +kernel)]; kernel_rfl) | (rw [if_neg (by decide +kernel)]; exact ⟨rfl, rfl⟩))
    (fun os started H enc _ => row_ScanNil os started H enc)
end Go.Proofs.Ytfpkdeokpomocaa

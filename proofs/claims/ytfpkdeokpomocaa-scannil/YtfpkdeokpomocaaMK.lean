import Derived.Test.YtfpkdeokpomocaaMC
import Derived.Test.YtfpkdeokpomocaaAMPrim
import Derived.Test.YtfpkdeokpomocaaAMTab
import Derived.Test.YtfpkdeokpomocaaMShelf
set_option linter.constructorNameAsVariable false
set_option linter.unusedSimpArgs false
set_option maxRecDepth 1000000
set_option linter.unusedVariables false
namespace Go.AM.T
open Go Go.AM
theorem mixedQ : Q.follows .mixedOrders = true := by kernel_rfl
theorem pr_repeat (N : Nat) : PrimOk Q N 88 pRepeat := prim_repeat (by kernel_rfl) fun s c w h1 h2 => Go.Proofs.Try.strings_Repeat s c w h1 h2
theorem pr_join (N : Nat) : PrimOk Q N 128 pJoin := prim_join (by kernel_rfl) (fun a c sep w => Go.Proofs.Try.strings_Join_none a c sep w) fun bk o c xs sep w h1 h2 h3 h4 h5 => Go.Proofs.Try.strings_Join bk o c xs sep w h1 h2 h3 h4 h5
theorem calls_of {t : TT} (h : ∀ N, t.All fun f fn => okFn Q (drOk Q) f fn = true ∨ ∃ F, fn = .prim F ∧ PrimOk Q N f F) (N n : Nat) : CallOk Q N (run t.get n) :=
  run_ok (fun call hc => draw_ok mixedQ hc) (t.ok (h N)) n
end Go.AM.T

import Derived.Test.YtfpkdeokpomocaaNP
set_option linter.constructorNameAsVariable false
set_option linter.unusedVariables false
set_option linter.unusedSimpArgs false
set_option maxRecDepth 1000000
namespace Go.AM.T
open Go Go.AM
theorem put_fast : (runS fp 300 14 [] heap0).map (·.1) = some (.bool true) := by kernel_rfl
theorem put_eq : (run tp.get 300 14 [] heap0).map (·.1) = some (.bool true) := by rw [← runS_eq sim_fp]; exact put_fast
end Go.AM.T

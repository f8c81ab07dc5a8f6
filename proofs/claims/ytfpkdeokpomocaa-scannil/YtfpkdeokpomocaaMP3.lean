import Derived.Test.YtfpkdeokpomocaaMP
set_option linter.constructorNameAsVariable false
set_option linter.unusedVariables false
set_option linter.unusedSimpArgs false
set_option maxRecDepth 1000000
namespace Go.AM.T
open Go Go.AM
theorem eight_fast : (runS fp 300 38 [] heap0).map (·.1) = some (.bool true) := by kernel_rfl
theorem eight_eq : (run tp.get 300 38 [] heap0).map (·.1) = some (.bool true) := by rw [← runS_eq sim_fp]; exact eight_fast
theorem three_fast : (runS fp 300 52 [] heap0).map (·.1) = some (.bool true) := by kernel_rfl
theorem three_eq : (run tp.get 300 52 [] heap0).map (·.1) = some (.bool true) := by rw [← runS_eq sim_fp]; exact three_fast
end Go.AM.T

import Derived.Test.YtfpkdeokpomocaaNA
import Derived.Test.YtfpkdeokpomocaaAMDr5
import Derived.Test.YtfpkdeokpomocaaProg
import Derived.KernelRfl
set_option linter.constructorNameAsVariable false
set_option linter.unusedVariables false
set_option linter.unusedSimpArgs false
set_option maxRecDepth 1000000
namespace Go.AM.T
open Go Go.AM
noncomputable abbrev Q : Program := Go.Proofs.Try.prog
theorem ok6 : okFn Q (drOk Q) 6 F6 = true := by kernel_rfl
theorem ok14 : okFn Q (drOk Q) 14 F14 = true := by kernel_rfl
theorem ok19 : okFn Q (drOk Q) 19 F19 = true := by kernel_rfl
theorem ok20 : okFn Q (drOk Q) 20 F20 = true := by kernel_rfl
theorem ok21 : okFn Q (drOk Q) 21 F21 = true := by kernel_rfl
theorem ok23 : okFn Q (drOk Q) 23 F23 = true := by kernel_rfl
theorem ok24 : okFn Q (drOk Q) 24 F24 = true := by kernel_rfl
theorem ok26 : okFn Q (drOk Q) 26 F26 = true := by kernel_rfl
theorem ok27 : okFn Q (drOk Q) 27 F27 = true := by kernel_rfl
theorem ok28 : okFn Q (drOk Q) 28 F28 = true := by kernel_rfl
theorem ok29 : okFn Q (drOk Q) 29 F29 = true := by kernel_rfl
theorem ok30 : okFn Q (drOk Q) 30 F30 = true := by kernel_rfl
theorem ok31 : okFn Q (drOk Q) 31 F31 = true := by kernel_rfl
theorem ok33 : okFn Q (drOk Q) 33 F33 = true := by kernel_rfl
theorem ok34 : okFn Q (drOk Q) 34 F34 = true := by kernel_rfl
theorem ok62 : okFn Q (drOk Q) 62 F62 = true := by kernel_rfl
theorem ok63 : okFn Q (drOk Q) 63 F63 = true := by kernel_rfl
theorem ok69 : okFn Q (drOk Q) 69 F69 = true := by kernel_rfl
theorem ok70 : okFn Q (drOk Q) 70 F70 = true := by kernel_rfl
theorem ok71 : okFn Q (drOk Q) 71 F71 = true := by kernel_rfl
theorem ok72 : okFn Q (drOk Q) 72 F72 = true := by kernel_rfl
theorem ok73 : okFn Q (drOk Q) 73 F73 = true := by kernel_rfl
theorem ok74 : okFn Q (drOk Q) 74 F74 = true := by kernel_rfl
theorem ok75 : okFn Q (drOk Q) 75 F75 = true := by kernel_rfl
theorem ok76 : okFn Q (drOk Q) 76 F76 = true := by kernel_rfl
theorem ok77 : okFn Q (drOk Q) 77 F77 = true := by kernel_rfl
theorem ok78 : okFn Q (drOk Q) 78 F78 = true := by kernel_rfl
theorem ok79 : okFn Q (drOk Q) 79 F79 = true := by kernel_rfl
theorem ok83 : okFn Q (drOk Q) 83 F83 = true := by kernel_rfl
theorem ok84 : okFn Q (drOk Q) 84 F84 = true := by kernel_rfl
theorem ok85 : okFn Q (drOk Q) 85 F85 = true := by kernel_rfl
theorem ok86 : okFn Q (drOk Q) 86 F86 = true := by kernel_rfl
theorem ok87 : okFn Q (drOk Q) 87 F87 = true := by kernel_rfl
theorem ok104 : okFn Q (drOk Q) 104 F104 = true := by kernel_rfl
theorem ok114 : okFn Q (drOk Q) 114 F114 = true := by kernel_rfl
theorem ok115 : okFn Q (drOk Q) 115 F115 = true := by kernel_rfl
theorem ok116 : okFn Q (drOk Q) 116 F116 = true := by kernel_rfl
theorem ok120 : okFn Q (drOk Q) 120 F120 = true := by kernel_rfl
theorem ok121 : okFn Q (drOk Q) 121 F121 = true := by kernel_rfl
theorem ok122 : okFn Q (drOk Q) 122 F122 = true := by kernel_rfl
theorem ok123 : okFn Q (drOk Q) 123 F123 = true := by kernel_rfl
theorem ok124 : okFn Q (drOk Q) 124 F124 = true := by kernel_rfl
theorem ok125 : okFn Q (drOk Q) 125 F125 = true := by kernel_rfl
theorem ok126 : okFn Q (drOk Q) 126 F126 = true := by kernel_rfl
theorem ok127 : okFn Q (drOk Q) 127 F127 = true := by kernel_rfl
theorem ok129 : okFn Q (drOk Q) 129 F129 = true := by kernel_rfl
theorem ok130 : okFn Q (drOk Q) 130 F130 = true := by kernel_rfl
theorem ok131 : okFn Q (drOk Q) 131 F131 = true := by kernel_rfl
theorem ok132 : okFn Q (drOk Q) 132 F132 = true := by kernel_rfl
theorem ok133 : okFn Q (drOk Q) 133 F133 = true := by kernel_rfl
theorem ok134 : okFn Q (drOk Q) 134 F134 = true := by kernel_rfl
theorem ok135 : okFn Q (drOk Q) 135 F135 = true := by kernel_rfl
theorem ok153 : okFn Q (drOk Q) 153 F153 = true := by kernel_rfl
theorem ok155 : okFn Q (drOk Q) 155 F155 = true := by kernel_rfl
theorem ok156 : okFn Q (drOk Q) 156 F156 = true := by kernel_rfl
theorem ok157 : okFn Q (drOk Q) 157 F157 = true := by kernel_rfl
theorem ok158 : okFn Q (drOk Q) 158 F158 = true := by kernel_rfl
theorem ok159 : okFn Q (drOk Q) 159 F159 = true := by kernel_rfl
theorem ok160 : okFn Q (drOk Q) 160 F160 = true := by kernel_rfl
theorem ok161 : okFn Q (drOk Q) 161 F161 = true := by kernel_rfl
theorem ok171 : okFn Q (drOk Q) 171 F171 = true := by kernel_rfl
end Go.AM.T

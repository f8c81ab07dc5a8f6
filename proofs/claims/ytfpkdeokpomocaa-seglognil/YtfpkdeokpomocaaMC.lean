import Derived.Test.YtfpkdeokpomocaaMA
import Derived.Test.YtfpkdeokpomocaaAMDr5
import Derived.Test.YtfpkdeokpomocaaProg
import Derived.KernelRfl
set_option linter.constructorNameAsVariable false
set_option linter.unusedVariables false
set_option linter.unusedSimpArgs false
set_option maxRecDepth 1000000
namespace Go.AM.T
open Go Go.AM
noncomputable abbrev Q : Program := Go.Proofs.Try.prog
theorem ok8 : okFn Q (drOk Q) 8 F8 = true := by kernel_rfl
theorem ok10 : okFn Q (drOk Q) 10 F10 = true := by kernel_rfl
theorem ok20 : okFn Q (drOk Q) 20 F20 = true := by kernel_rfl
theorem ok21 : okFn Q (drOk Q) 21 F21 = true := by kernel_rfl
theorem ok23 : okFn Q (drOk Q) 23 F23 = true := by kernel_rfl
theorem ok24 : okFn Q (drOk Q) 24 F24 = true := by kernel_rfl
theorem ok26 : okFn Q (drOk Q) 26 F26 = true := by kernel_rfl
theorem ok27 : okFn Q (drOk Q) 27 F27 = true := by kernel_rfl
theorem ok28 : okFn Q (drOk Q) 28 F28 = true := by kernel_rfl
theorem ok29 : okFn Q (drOk Q) 29 F29 = true := by kernel_rfl
theorem ok30 : okFn Q (drOk Q) 30 F30 = true := by kernel_rfl
theorem ok31 : okFn Q (drOk Q) 31 F31 = true := by kernel_rfl
theorem ok33 : okFn Q (drOk Q) 33 F33 = true := by kernel_rfl
theorem ok34 : okFn Q (drOk Q) 34 F34 = true := by kernel_rfl
theorem ok35 : okFn Q (drOk Q) 35 F35 = true := by kernel_rfl
theorem ok36 : okFn Q (drOk Q) 36 F36 = true := by kernel_rfl
theorem ok38 : okFn Q (drOk Q) 38 F38 = true := by kernel_rfl
theorem ok39 : okFn Q (drOk Q) 39 F39 = true := by kernel_rfl
theorem ok40 : okFn Q (drOk Q) 40 F40 = true := by kernel_rfl
theorem ok41 : okFn Q (drOk Q) 41 F41 = true := by kernel_rfl
theorem ok42 : okFn Q (drOk Q) 42 F42 = true := by kernel_rfl
theorem ok43 : okFn Q (drOk Q) 43 F43 = true := by kernel_rfl
theorem ok44 : okFn Q (drOk Q) 44 F44 = true := by kernel_rfl
theorem ok45 : okFn Q (drOk Q) 45 F45 = true := by kernel_rfl
theorem ok46 : okFn Q (drOk Q) 46 F46 = true := by kernel_rfl
theorem ok47 : okFn Q (drOk Q) 47 F47 = true := by kernel_rfl
theorem ok48 : okFn Q (drOk Q) 48 F48 = true := by kernel_rfl
theorem ok49 : okFn Q (drOk Q) 49 F49 = true := by kernel_rfl
theorem ok50 : okFn Q (drOk Q) 50 F50 = true := by kernel_rfl
theorem ok51 : okFn Q (drOk Q) 51 F51 = true := by kernel_rfl
theorem ok52 : okFn Q (drOk Q) 52 F52 = true := by kernel_rfl
theorem ok53 : okFn Q (drOk Q) 53 F53 = true := by kernel_rfl
theorem ok54 : okFn Q (drOk Q) 54 F54 = true := by kernel_rfl
theorem ok55 : okFn Q (drOk Q) 55 F55 = true := by kernel_rfl
theorem ok56 : okFn Q (drOk Q) 56 F56 = true := by kernel_rfl
theorem ok57 : okFn Q (drOk Q) 57 F57 = true := by kernel_rfl
theorem ok58 : okFn Q (drOk Q) 58 F58 = true := by kernel_rfl
theorem ok61 : okFn Q (drOk Q) 61 F61 = true := by kernel_rfl
theorem ok62 : okFn Q (drOk Q) 62 F62 = true := by kernel_rfl
theorem ok70 : okFn Q (drOk Q) 70 F70 = true := by kernel_rfl
theorem ok71 : okFn Q (drOk Q) 71 F71 = true := by kernel_rfl
theorem ok72 : okFn Q (drOk Q) 72 F72 = true := by kernel_rfl
theorem ok73 : okFn Q (drOk Q) 73 F73 = true := by kernel_rfl
theorem ok74 : okFn Q (drOk Q) 74 F74 = true := by kernel_rfl
theorem ok75 : okFn Q (drOk Q) 75 F75 = true := by kernel_rfl
theorem ok76 : okFn Q (drOk Q) 76 F76 = true := by kernel_rfl
theorem ok77 : okFn Q (drOk Q) 77 F77 = true := by kernel_rfl
theorem ok78 : okFn Q (drOk Q) 78 F78 = true := by kernel_rfl
theorem ok79 : okFn Q (drOk Q) 79 F79 = true := by kernel_rfl
theorem ok83 : okFn Q (drOk Q) 83 F83 = true := by kernel_rfl
theorem ok84 : okFn Q (drOk Q) 84 F84 = true := by kernel_rfl
theorem ok85 : okFn Q (drOk Q) 85 F85 = true := by kernel_rfl
theorem ok86 : okFn Q (drOk Q) 86 F86 = true := by kernel_rfl
theorem ok87 : okFn Q (drOk Q) 87 F87 = true := by kernel_rfl
theorem ok89 : okFn Q (drOk Q) 89 F89 = true := by kernel_rfl
theorem ok90 : okFn Q (drOk Q) 90 F90 = true := by kernel_rfl
theorem ok92 : okFn Q (drOk Q) 92 F92 = true := by kernel_rfl
theorem ok93 : okFn Q (drOk Q) 93 F93 = true := by kernel_rfl
theorem ok94 : okFn Q (drOk Q) 94 F94 = true := by kernel_rfl
theorem ok95 : okFn Q (drOk Q) 95 F95 = true := by kernel_rfl
theorem ok96 : okFn Q (drOk Q) 96 F96 = true := by kernel_rfl
theorem ok97 : okFn Q (drOk Q) 97 F97 = true := by kernel_rfl
theorem ok98 : okFn Q (drOk Q) 98 F98 = true := by kernel_rfl
theorem ok99 : okFn Q (drOk Q) 99 F99 = true := by kernel_rfl
theorem ok100 : okFn Q (drOk Q) 100 F100 = true := by kernel_rfl
theorem ok101 : okFn Q (drOk Q) 101 F101 = true := by kernel_rfl
theorem ok102 : okFn Q (drOk Q) 102 F102 = true := by kernel_rfl
theorem ok103 : okFn Q (drOk Q) 103 F103 = true := by kernel_rfl
theorem ok104 : okFn Q (drOk Q) 104 F104 = true := by kernel_rfl
theorem ok105 : okFn Q (drOk Q) 105 F105 = true := by kernel_rfl
theorem ok106 : okFn Q (drOk Q) 106 F106 = true := by kernel_rfl
theorem ok107 : okFn Q (drOk Q) 107 F107 = true := by kernel_rfl
theorem ok108 : okFn Q (drOk Q) 108 F108 = true := by kernel_rfl
theorem ok109 : okFn Q (drOk Q) 109 F109 = true := by kernel_rfl
theorem ok110 : okFn Q (drOk Q) 110 F110 = true := by kernel_rfl
theorem ok112 : okFn Q (drOk Q) 112 F112 = true := by kernel_rfl
theorem ok113 : okFn Q (drOk Q) 113 F113 = true := by kernel_rfl
theorem ok114 : okFn Q (drOk Q) 114 F114 = true := by kernel_rfl
theorem ok120 : okFn Q (drOk Q) 120 F120 = true := by kernel_rfl
theorem ok121 : okFn Q (drOk Q) 121 F121 = true := by kernel_rfl
theorem ok122 : okFn Q (drOk Q) 122 F122 = true := by kernel_rfl
theorem ok123 : okFn Q (drOk Q) 123 F123 = true := by kernel_rfl
theorem ok124 : okFn Q (drOk Q) 124 F124 = true := by kernel_rfl
theorem ok125 : okFn Q (drOk Q) 125 F125 = true := by kernel_rfl
theorem ok126 : okFn Q (drOk Q) 126 F126 = true := by kernel_rfl
theorem ok127 : okFn Q (drOk Q) 127 F127 = true := by kernel_rfl
theorem ok129 : okFn Q (drOk Q) 129 F129 = true := by kernel_rfl
theorem ok130 : okFn Q (drOk Q) 130 F130 = true := by kernel_rfl
theorem ok131 : okFn Q (drOk Q) 131 F131 = true := by kernel_rfl
theorem ok132 : okFn Q (drOk Q) 132 F132 = true := by kernel_rfl
theorem ok133 : okFn Q (drOk Q) 133 F133 = true := by kernel_rfl
theorem ok134 : okFn Q (drOk Q) 134 F134 = true := by kernel_rfl
theorem ok135 : okFn Q (drOk Q) 135 F135 = true := by kernel_rfl
theorem ok142 : okFn Q (drOk Q) 142 F142 = true := by kernel_rfl
theorem ok143 : okFn Q (drOk Q) 143 F143 = true := by kernel_rfl
theorem ok145 : okFn Q (drOk Q) 145 F145 = true := by kernel_rfl
theorem ok146 : okFn Q (drOk Q) 146 F146 = true := by kernel_rfl
theorem ok147 : okFn Q (drOk Q) 147 F147 = true := by kernel_rfl
theorem ok148 : okFn Q (drOk Q) 148 F148 = true := by kernel_rfl
theorem ok149 : okFn Q (drOk Q) 149 F149 = true := by kernel_rfl
theorem ok152 : okFn Q (drOk Q) 152 F152 = true := by kernel_rfl
theorem ok153 : okFn Q (drOk Q) 153 F153 = true := by kernel_rfl
theorem ok155 : okFn Q (drOk Q) 155 F155 = true := by kernel_rfl
theorem ok156 : okFn Q (drOk Q) 156 F156 = true := by kernel_rfl
theorem ok157 : okFn Q (drOk Q) 157 F157 = true := by kernel_rfl
theorem ok158 : okFn Q (drOk Q) 158 F158 = true := by kernel_rfl
theorem ok159 : okFn Q (drOk Q) 159 F159 = true := by kernel_rfl
theorem ok160 : okFn Q (drOk Q) 160 F160 = true := by kernel_rfl
theorem ok161 : okFn Q (drOk Q) 161 F161 = true := by kernel_rfl
theorem ok167 : okFn Q (drOk Q) 167 F167 = true := by kernel_rfl
theorem ok168 : okFn Q (drOk Q) 168 F168 = true := by kernel_rfl
theorem ok169 : okFn Q (drOk Q) 169 F169 = true := by kernel_rfl
theorem ok170 : okFn Q (drOk Q) 170 F170 = true := by kernel_rfl
theorem ok171 : okFn Q (drOk Q) 171 F171 = true := by kernel_rfl
end Go.AM.T

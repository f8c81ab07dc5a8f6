import Derived.Test.YtfpkdeokpomocaaMP3
import Derived.Test.YtfpkdeokpomocaaMS
import Derived.Test.YtfpkdeokpomocaaAMSym2
import Derived.Test.YtfpkdeokpomocaaAMRow3
set_option linter.constructorNameAsVariable false
set_option maxRecDepth 1000000
set_option linter.unusedVariables false
set_option linter.unusedSimpArgs false
namespace Go.AM.T
open Go Go.AM
def tn : TT := .node 93 (.node 51 (.node 35 (.node 27 (.node 21 (.node 10 (.leaf 8 F8) (.node 20 (.leaf 10 F10) (.leaf 20 F20))) (.node 24 (.node 23 (.leaf 21 F21) (.leaf 23 F23)) (.node 26 (.leaf 24 F24) (.leaf 26 F26)))) (.node 30 (.node 28 (.leaf 27 F27) (.node 29 (.leaf 28 F28) (.leaf 29 F29))) (.node 33 (.node 31 (.leaf 30 F30) (.leaf 31 F31)) (.node 34 (.leaf 33 F33) (.leaf 34 F34))))) (.node 43 (.node 39 (.node 36 (.leaf 35 F35) (.node 38 (.leaf 36 F36) (.leaf 38 (.prim (sumF gTrue))))) (.node 41 (.node 40 (.leaf 39 F39) (.leaf 40 F40)) (.node 42 (.leaf 41 F41) (.leaf 42 F42)))) (.node 47 (.node 45 (.node 44 (.leaf 43 F43) (.leaf 44 F44)) (.node 46 (.leaf 45 F45) (.leaf 46 F46))) (.node 49 (.node 48 (.leaf 47 F47) (.leaf 48 F48)) (.node 50 (.leaf 49 F49) (.leaf 50 F50)))))) (.node 74 (.node 58 (.node 54 (.node 52 (.leaf 51 F51) (.node 53 (.leaf 52 (.prim (sumF gTrue))) (.leaf 53 F53))) (.node 56 (.node 55 (.leaf 54 F54) (.leaf 55 F55)) (.node 57 (.leaf 56 F56) (.leaf 57 F57)))) (.node 70 (.node 61 (.leaf 58 F58) (.node 62 (.leaf 61 F61) (.leaf 62 F62))) (.node 72 (.node 71 (.leaf 70 F70) (.leaf 71 F71)) (.node 73 (.leaf 72 F72) (.leaf 73 F73))))) (.node 84 (.node 77 (.node 75 (.leaf 74 F74) (.node 76 (.leaf 75 F75) (.leaf 76 F76))) (.node 79 (.node 78 (.leaf 77 F77) (.leaf 78 F78)) (.node 83 (.leaf 79 F79) (.leaf 83 F83)))) (.node 88 (.node 86 (.node 85 (.leaf 84 F84) (.leaf 85 F85)) (.node 87 (.leaf 86 F86) (.leaf 87 F87))) (.node 90 (.node 89 (.leaf 88 (.prim pRepeat)) (.leaf 89 F89)) (.node 92 (.leaf 90 F90) (.leaf 92 F92))))))) (.node 128 (.node 107 (.node 100 (.node 96 (.node 94 (.leaf 93 F93) (.node 95 (.leaf 94 F94) (.leaf 95 F95))) (.node 98 (.node 97 (.leaf 96 F96) (.leaf 97 F97)) (.node 99 (.leaf 98 F98) (.leaf 99 F99)))) (.node 103 (.node 101 (.leaf 100 F100) (.node 102 (.leaf 101 F101) (.leaf 102 F102))) (.node 105 (.node 104 (.leaf 103 F103) (.leaf 104 F104)) (.node 106 (.leaf 105 F105) (.leaf 106 F106))))) (.node 120 (.node 110 (.node 108 (.leaf 107 F107) (.node 109 (.leaf 108 F108) (.leaf 109 F109))) (.node 113 (.node 112 (.leaf 110 F110) (.leaf 112 F112)) (.node 114 (.leaf 113 F113) (.leaf 114 F114)))) (.node 124 (.node 122 (.node 121 (.leaf 120 F120) (.leaf 121 F121)) (.node 123 (.leaf 122 F122) (.leaf 123 F123))) (.node 126 (.node 125 (.leaf 124 F124) (.leaf 125 F125)) (.node 127 (.leaf 126 F126) (.leaf 127 F127)))))) (.node 149 (.node 135 (.node 131 (.node 129 (.leaf 128 (.prim pJoin)) (.node 130 (.leaf 129 F129) (.leaf 130 F130))) (.node 133 (.node 132 (.leaf 131 F131) (.leaf 132 F132)) (.node 134 (.leaf 133 F133) (.leaf 134 F134)))) (.node 145 (.node 142 (.leaf 135 F135) (.node 143 (.leaf 142 F142) (.leaf 143 F143))) (.node 147 (.node 146 (.leaf 145 F145) (.leaf 146 F146)) (.node 148 (.leaf 147 F147) (.leaf 148 F148))))) (.node 159 (.node 155 (.node 152 (.leaf 149 F149) (.node 153 (.leaf 152 F152) (.leaf 153 F153))) (.node 157 (.node 156 (.leaf 155 F155) (.leaf 156 F156)) (.node 158 (.leaf 157 F157) (.leaf 158 F158)))) (.node 168 (.node 161 (.node 160 (.leaf 159 F159) (.leaf 160 F160)) (.node 167 (.leaf 161 F161) (.leaf 167 F167))) (.node 170 (.node 169 (.leaf 168 F168) (.leaf 169 F169)) (.node 171 (.leaf 170 F170) (.leaf 171 F171)))))))
theorem tn_8 : tn.get 8 = some F8 := rfl
theorem tn_10 : tn.get 10 = some F10 := rfl
theorem tn_20 : tn.get 20 = some F20 := rfl
theorem tn_21 : tn.get 21 = some F21 := rfl
theorem tn_23 : tn.get 23 = some F23 := rfl
theorem tn_24 : tn.get 24 = some F24 := rfl
theorem tn_26 : tn.get 26 = some F26 := rfl
theorem tn_27 : tn.get 27 = some F27 := rfl
theorem tn_28 : tn.get 28 = some F28 := rfl
theorem tn_29 : tn.get 29 = some F29 := rfl
theorem tn_30 : tn.get 30 = some F30 := rfl
theorem tn_31 : tn.get 31 = some F31 := rfl
theorem tn_33 : tn.get 33 = some F33 := rfl
theorem tn_34 : tn.get 34 = some F34 := rfl
theorem tn_35 : tn.get 35 = some F35 := rfl
theorem tn_36 : tn.get 36 = some F36 := rfl
theorem tn_38 : tn.get 38 = some (.prim (sumF gTrue)) := rfl
theorem tn_39 : tn.get 39 = some F39 := rfl
theorem tn_40 : tn.get 40 = some F40 := rfl
theorem tn_41 : tn.get 41 = some F41 := rfl
theorem tn_42 : tn.get 42 = some F42 := rfl
theorem tn_43 : tn.get 43 = some F43 := rfl
theorem tn_44 : tn.get 44 = some F44 := rfl
theorem tn_45 : tn.get 45 = some F45 := rfl
theorem tn_46 : tn.get 46 = some F46 := rfl
theorem tn_47 : tn.get 47 = some F47 := rfl
theorem tn_48 : tn.get 48 = some F48 := rfl
theorem tn_49 : tn.get 49 = some F49 := rfl
theorem tn_50 : tn.get 50 = some F50 := rfl
theorem tn_51 : tn.get 51 = some F51 := rfl
theorem tn_52 : tn.get 52 = some (.prim (sumF gTrue)) := rfl
theorem tn_53 : tn.get 53 = some F53 := rfl
theorem tn_54 : tn.get 54 = some F54 := rfl
theorem tn_55 : tn.get 55 = some F55 := rfl
theorem tn_56 : tn.get 56 = some F56 := rfl
theorem tn_57 : tn.get 57 = some F57 := rfl
theorem tn_58 : tn.get 58 = some F58 := rfl
theorem tn_61 : tn.get 61 = some F61 := rfl
theorem tn_62 : tn.get 62 = some F62 := rfl
theorem tn_70 : tn.get 70 = some F70 := rfl
theorem tn_71 : tn.get 71 = some F71 := rfl
theorem tn_72 : tn.get 72 = some F72 := rfl
theorem tn_73 : tn.get 73 = some F73 := rfl
theorem tn_74 : tn.get 74 = some F74 := rfl
theorem tn_75 : tn.get 75 = some F75 := rfl
theorem tn_76 : tn.get 76 = some F76 := rfl
theorem tn_77 : tn.get 77 = some F77 := rfl
theorem tn_78 : tn.get 78 = some F78 := rfl
theorem tn_79 : tn.get 79 = some F79 := rfl
theorem tn_83 : tn.get 83 = some F83 := rfl
theorem tn_84 : tn.get 84 = some F84 := rfl
theorem tn_85 : tn.get 85 = some F85 := rfl
theorem tn_86 : tn.get 86 = some F86 := rfl
theorem tn_87 : tn.get 87 = some F87 := rfl
theorem tn_88 : tn.get 88 = some (.prim pRepeat) := rfl
theorem tn_89 : tn.get 89 = some F89 := rfl
theorem tn_90 : tn.get 90 = some F90 := rfl
theorem tn_92 : tn.get 92 = some F92 := rfl
theorem tn_93 : tn.get 93 = some F93 := rfl
theorem tn_94 : tn.get 94 = some F94 := rfl
theorem tn_95 : tn.get 95 = some F95 := rfl
theorem tn_96 : tn.get 96 = some F96 := rfl
theorem tn_97 : tn.get 97 = some F97 := rfl
theorem tn_98 : tn.get 98 = some F98 := rfl
theorem tn_99 : tn.get 99 = some F99 := rfl
theorem tn_100 : tn.get 100 = some F100 := rfl
theorem tn_101 : tn.get 101 = some F101 := rfl
theorem tn_102 : tn.get 102 = some F102 := rfl
theorem tn_103 : tn.get 103 = some F103 := rfl
theorem tn_104 : tn.get 104 = some F104 := rfl
theorem tn_105 : tn.get 105 = some F105 := rfl
theorem tn_106 : tn.get 106 = some F106 := rfl
theorem tn_107 : tn.get 107 = some F107 := rfl
theorem tn_108 : tn.get 108 = some F108 := rfl
theorem tn_109 : tn.get 109 = some F109 := rfl
theorem tn_110 : tn.get 110 = some F110 := rfl
theorem tn_112 : tn.get 112 = some F112 := rfl
theorem tn_113 : tn.get 113 = some F113 := rfl
theorem tn_114 : tn.get 114 = some F114 := rfl
theorem tn_120 : tn.get 120 = some F120 := rfl
theorem tn_121 : tn.get 121 = some F121 := rfl
theorem tn_122 : tn.get 122 = some F122 := rfl
theorem tn_123 : tn.get 123 = some F123 := rfl
theorem tn_124 : tn.get 124 = some F124 := rfl
theorem tn_125 : tn.get 125 = some F125 := rfl
theorem tn_126 : tn.get 126 = some F126 := rfl
theorem tn_127 : tn.get 127 = some F127 := rfl
theorem tn_128 : tn.get 128 = some (.prim pJoin) := rfl
theorem tn_129 : tn.get 129 = some F129 := rfl
theorem tn_130 : tn.get 130 = some F130 := rfl
theorem tn_131 : tn.get 131 = some F131 := rfl
theorem tn_132 : tn.get 132 = some F132 := rfl
theorem tn_133 : tn.get 133 = some F133 := rfl
theorem tn_134 : tn.get 134 = some F134 := rfl
theorem tn_135 : tn.get 135 = some F135 := rfl
theorem tn_142 : tn.get 142 = some F142 := rfl
theorem tn_143 : tn.get 143 = some F143 := rfl
theorem tn_145 : tn.get 145 = some F145 := rfl
theorem tn_146 : tn.get 146 = some F146 := rfl
theorem tn_147 : tn.get 147 = some F147 := rfl
theorem tn_148 : tn.get 148 = some F148 := rfl
theorem tn_149 : tn.get 149 = some F149 := rfl
theorem tn_152 : tn.get 152 = some F152 := rfl
theorem tn_153 : tn.get 153 = some F153 := rfl
theorem tn_155 : tn.get 155 = some F155 := rfl
theorem tn_156 : tn.get 156 = some F156 := rfl
theorem tn_157 : tn.get 157 = some F157 := rfl
theorem tn_158 : tn.get 158 = some F158 := rfl
theorem tn_159 : tn.get 159 = some F159 := rfl
theorem tn_160 : tn.get 160 = some F160 := rfl
theorem tn_161 : tn.get 161 = some F161 := rfl
theorem tn_167 : tn.get 167 = some F167 := rfl
theorem tn_168 : tn.get 168 = some F168 := rfl
theorem tn_169 : tn.get 169 = some F169 := rfl
theorem tn_170 : tn.get 170 = some F170 := rfl
theorem tn_171 : tn.get 171 = some F171 := rfl
theorem tn_r8 {m : Nat} (hm : 0 < m) (a0 : Val) (a1 : Val) (a2 : Val) (h : Heap) : run tn.get m 8 [a0, a1, a2] h = s8 (run tn.get (m - 1)) (m - 1) a0 a1 a2 h := by
  obtain ⟨m, rfl⟩ : ∃ q, m = q + 1 := ⟨m - 1, by omega⟩
  rw [run_succ tn_8, e8]; rfl
theorem tn_r10 {m : Nat} (hm : 0 < m) (a0 : Val) (h : Heap) : run tn.get m 10 [a0] h = s10 (run tn.get (m - 1)) (m - 1) a0 h := by
  obtain ⟨m, rfl⟩ : ∃ q, m = q + 1 := ⟨m - 1, by omega⟩
  rw [run_succ tn_10, e10]; rfl
theorem tn_r20 {m : Nat} (hm : 0 < m) (a0 : Val) (a1 : Val) (a2 : Val) (h : Heap) : run tn.get m 20 [a0, a1, a2] h = s20 (run tn.get (m - 1)) (m - 1) a0 a1 a2 h := by
  obtain ⟨m, rfl⟩ : ∃ q, m = q + 1 := ⟨m - 1, by omega⟩
  rw [run_succ tn_20, e20]; rfl
theorem tn_r21 {m : Nat} (hm : 0 < m) (a0 : Val) (a1 : Val) (h : Heap) : run tn.get m 21 [a0, a1] h = s21 (run tn.get (m - 1)) (m - 1) a0 a1 h := by
  obtain ⟨m, rfl⟩ : ∃ q, m = q + 1 := ⟨m - 1, by omega⟩
  rw [run_succ tn_21, e21]; rfl
theorem tn_r23 {m : Nat} (hm : 0 < m) (a0 : Val) (a1 : Val) (h : Heap) : run tn.get m 23 [a0, a1] h = s23 (run tn.get (m - 1)) (m - 1) a0 a1 h := by
  obtain ⟨m, rfl⟩ : ∃ q, m = q + 1 := ⟨m - 1, by omega⟩
  rw [run_succ tn_23, e23]; rfl
theorem tn_r24 {m : Nat} (hm : 0 < m) (a0 : Val) (h : Heap) : run tn.get m 24 [a0] h = s24 (run tn.get (m - 1)) (m - 1) a0 h := by
  obtain ⟨m, rfl⟩ : ∃ q, m = q + 1 := ⟨m - 1, by omega⟩
  rw [run_succ tn_24, e24]; rfl
theorem tn_r26 {m : Nat} (hm : 0 < m) (a0 : Val) (h : Heap) : run tn.get m 26 [a0] h = s26 (run tn.get (m - 1)) (m - 1) a0 h := by
  obtain ⟨m, rfl⟩ : ∃ q, m = q + 1 := ⟨m - 1, by omega⟩
  rw [run_succ tn_26, e26]; rfl
theorem tn_r27 {m : Nat} (hm : 0 < m) (a0 : Val) (h : Heap) : run tn.get m 27 [a0] h = s27 (run tn.get (m - 1)) (m - 1) a0 h := by
  obtain ⟨m, rfl⟩ : ∃ q, m = q + 1 := ⟨m - 1, by omega⟩
  rw [run_succ tn_27, e27]; rfl
theorem tn_r28 {m : Nat} (hm : 0 < m) (a0 : Val) (h : Heap) : run tn.get m 28 [a0] h = s28 (run tn.get (m - 1)) (m - 1) a0 h := by
  obtain ⟨m, rfl⟩ : ∃ q, m = q + 1 := ⟨m - 1, by omega⟩
  rw [run_succ tn_28, e28]; rfl
theorem tn_r29 {m : Nat} (hm : 0 < m) (a0 : Val) (h : Heap) : run tn.get m 29 [a0] h = s29 (run tn.get (m - 1)) (m - 1) a0 h := by
  obtain ⟨m, rfl⟩ : ∃ q, m = q + 1 := ⟨m - 1, by omega⟩
  rw [run_succ tn_29, e29]; rfl
theorem tn_r30 {m : Nat} (hm : 0 < m) (a0 : Val) (a1 : Val) (a2 : Val) (h : Heap) : run tn.get m 30 [a0, a1, a2] h = s30 (run tn.get (m - 1)) (m - 1) a0 a1 a2 h := by
  obtain ⟨m, rfl⟩ : ∃ q, m = q + 1 := ⟨m - 1, by omega⟩
  rw [run_succ tn_30, e30]; rfl
theorem tn_r31 {m : Nat} (hm : 0 < m) (a0 : Val) (a1 : Val) (h : Heap) : run tn.get m 31 [a0, a1] h = s31 (run tn.get (m - 1)) (m - 1) a0 a1 h := by
  obtain ⟨m, rfl⟩ : ∃ q, m = q + 1 := ⟨m - 1, by omega⟩
  rw [run_succ tn_31, e31]; rfl
theorem tn_r33 {m : Nat} (hm : 0 < m) (a0 : Val) (h : Heap) : run tn.get m 33 [a0] h = s33 (run tn.get (m - 1)) (m - 1) a0 h := by
  obtain ⟨m, rfl⟩ : ∃ q, m = q + 1 := ⟨m - 1, by omega⟩
  rw [run_succ tn_33, e33]; rfl
theorem tn_r34 {m : Nat} (hm : 0 < m) (a0 : Val) (h : Heap) : run tn.get m 34 [a0] h = s34 (run tn.get (m - 1)) (m - 1) a0 h := by
  obtain ⟨m, rfl⟩ : ∃ q, m = q + 1 := ⟨m - 1, by omega⟩
  rw [run_succ tn_34, e34]; rfl
theorem tn_r35 {m : Nat} (hm : 0 < m) (a0 : Val) (h : Heap) : run tn.get m 35 [a0] h = s35 (run tn.get (m - 1)) (m - 1) a0 h := by
  obtain ⟨m, rfl⟩ : ∃ q, m = q + 1 := ⟨m - 1, by omega⟩
  rw [run_succ tn_35, e35]; rfl
theorem tn_r36 {m : Nat} (hm : 0 < m) (a0 : Val) (a1 : Val) (h : Heap) : run tn.get m 36 [a0, a1] h = s36 (run tn.get (m - 1)) (m - 1) a0 a1 h := by
  obtain ⟨m, rfl⟩ : ∃ q, m = q + 1 := ⟨m - 1, by omega⟩
  rw [run_succ tn_36, e36]; rfl
theorem tn_r38 {m : Nat} (hm : 0 < m) (xs : List Val) (h : Heap) : run tn.get m 38 xs h = ((sumF gTrue)) xs h := by
  obtain ⟨m, rfl⟩ : ∃ q, m = q + 1 := ⟨m - 1, by omega⟩
  rw [run_succ tn_38]; rfl
theorem tn_r39 {m : Nat} (hm : 0 < m) (a0 : Val) (a1 : Val) (h : Heap) : run tn.get m 39 [a0, a1] h = s39 (run tn.get (m - 1)) (m - 1) a0 a1 h := by
  obtain ⟨m, rfl⟩ : ∃ q, m = q + 1 := ⟨m - 1, by omega⟩
  rw [run_succ tn_39, e39]; rfl
theorem tn_r40 {m : Nat} (hm : 0 < m) (a0 : Val) (a1 : Val) (h : Heap) : run tn.get m 40 [a0, a1] h = s40 (run tn.get (m - 1)) (m - 1) a0 a1 h := by
  obtain ⟨m, rfl⟩ : ∃ q, m = q + 1 := ⟨m - 1, by omega⟩
  rw [run_succ tn_40, e40]; rfl
theorem tn_r41 {m : Nat} (hm : 0 < m) (a0 : Val) (a1 : Val) (a2 : Val) (a3 : Val) (a4 : Val) (h : Heap) : run tn.get m 41 [a0, a1, a2, a3, a4] h = s41 (run tn.get (m - 1)) (m - 1) a0 a1 a2 a3 a4 h := by
  obtain ⟨m, rfl⟩ : ∃ q, m = q + 1 := ⟨m - 1, by omega⟩
  rw [run_succ tn_41, e41]; rfl
theorem tn_r42 {m : Nat} (hm : 0 < m) (a0 : Val) (a1 : Val) (h : Heap) : run tn.get m 42 [a0, a1] h = s42 (run tn.get (m - 1)) (m - 1) a0 a1 h := by
  obtain ⟨m, rfl⟩ : ∃ q, m = q + 1 := ⟨m - 1, by omega⟩
  rw [run_succ tn_42, e42]; rfl
theorem tn_r43 {m : Nat} (hm : 0 < m) (a0 : Val) (a1 : Val) (h : Heap) : run tn.get m 43 [a0, a1] h = s43 (run tn.get (m - 1)) (m - 1) a0 a1 h := by
  obtain ⟨m, rfl⟩ : ∃ q, m = q + 1 := ⟨m - 1, by omega⟩
  rw [run_succ tn_43, e43]; rfl
theorem tn_r44 {m : Nat} (hm : 0 < m) (a0 : Val) (h : Heap) : run tn.get m 44 [a0] h = s44 (run tn.get (m - 1)) (m - 1) a0 h := by
  obtain ⟨m, rfl⟩ : ∃ q, m = q + 1 := ⟨m - 1, by omega⟩
  rw [run_succ tn_44, e44]; rfl
theorem tn_r45 {m : Nat} (hm : 0 < m) (a0 : Val) (a1 : Val) (a2 : Val) (h : Heap) : run tn.get m 45 [a0, a1, a2] h = s45 (run tn.get (m - 1)) (m - 1) a0 a1 a2 h := by
  obtain ⟨m, rfl⟩ : ∃ q, m = q + 1 := ⟨m - 1, by omega⟩
  rw [run_succ tn_45, e45]; rfl
theorem tn_r46 {m : Nat} (hm : 0 < m) (a0 : Val) (a1 : Val) (h : Heap) : run tn.get m 46 [a0, a1] h = s46 (run tn.get (m - 1)) (m - 1) a0 a1 h := by
  obtain ⟨m, rfl⟩ : ∃ q, m = q + 1 := ⟨m - 1, by omega⟩
  rw [run_succ tn_46, e46]; rfl
theorem tn_r47 {m : Nat} (hm : 0 < m) (a0 : Val) (h : Heap) : run tn.get m 47 [a0] h = s47 (run tn.get (m - 1)) (m - 1) a0 h := by
  obtain ⟨m, rfl⟩ : ∃ q, m = q + 1 := ⟨m - 1, by omega⟩
  rw [run_succ tn_47, e47]; rfl
theorem tn_r48 {m : Nat} (hm : 0 < m) (a0 : Val) (h : Heap) : run tn.get m 48 [a0] h = s48 (run tn.get (m - 1)) (m - 1) a0 h := by
  obtain ⟨m, rfl⟩ : ∃ q, m = q + 1 := ⟨m - 1, by omega⟩
  rw [run_succ tn_48, e48]; rfl
theorem tn_r49 {m : Nat} (hm : 0 < m) (a0 : Val) (h : Heap) : run tn.get m 49 [a0] h = s49 (run tn.get (m - 1)) (m - 1) a0 h := by
  obtain ⟨m, rfl⟩ : ∃ q, m = q + 1 := ⟨m - 1, by omega⟩
  rw [run_succ tn_49, e49]; rfl
theorem tn_r50 {m : Nat} (hm : 0 < m) (a0 : Val) (h : Heap) : run tn.get m 50 [a0] h = s50 (run tn.get (m - 1)) (m - 1) a0 h := by
  obtain ⟨m, rfl⟩ : ∃ q, m = q + 1 := ⟨m - 1, by omega⟩
  rw [run_succ tn_50, e50]; rfl
theorem tn_r51 {m : Nat} (hm : 0 < m) (a0 : Val) (h : Heap) : run tn.get m 51 [a0] h = s51 (run tn.get (m - 1)) (m - 1) a0 h := by
  obtain ⟨m, rfl⟩ : ∃ q, m = q + 1 := ⟨m - 1, by omega⟩
  rw [run_succ tn_51, e51]; rfl
theorem tn_r52 {m : Nat} (hm : 0 < m) (xs : List Val) (h : Heap) : run tn.get m 52 xs h = ((sumF gTrue)) xs h := by
  obtain ⟨m, rfl⟩ : ∃ q, m = q + 1 := ⟨m - 1, by omega⟩
  rw [run_succ tn_52]; rfl
theorem tn_r53 {m : Nat} (hm : 0 < m) (h : Heap) : run tn.get m 53 [] h = s53 (run tn.get (m - 1)) (m - 1) h := by
  obtain ⟨m, rfl⟩ : ∃ q, m = q + 1 := ⟨m - 1, by omega⟩
  rw [run_succ tn_53, e53]; rfl
theorem tn_r54 {m : Nat} (hm : 0 < m) (a0 : Val) (a1 : Val) (a2 : Val) (a3 : Val) (h : Heap) : run tn.get m 54 [a0, a1, a2, a3] h = s54 (run tn.get (m - 1)) (m - 1) a0 a1 a2 a3 h := by
  obtain ⟨m, rfl⟩ : ∃ q, m = q + 1 := ⟨m - 1, by omega⟩
  rw [run_succ tn_54, e54]; rfl
theorem tn_r55 {m : Nat} (hm : 0 < m) (a0 : Val) (a1 : Val) (h : Heap) : run tn.get m 55 [a0, a1] h = s55 (run tn.get (m - 1)) (m - 1) a0 a1 h := by
  obtain ⟨m, rfl⟩ : ∃ q, m = q + 1 := ⟨m - 1, by omega⟩
  rw [run_succ tn_55, e55]; rfl
theorem tn_r56 {m : Nat} (hm : 0 < m) (a0 : Val) (a1 : Val) (h : Heap) : run tn.get m 56 [a0, a1] h = s56 (run tn.get (m - 1)) (m - 1) a0 a1 h := by
  obtain ⟨m, rfl⟩ : ∃ q, m = q + 1 := ⟨m - 1, by omega⟩
  rw [run_succ tn_56, e56]; rfl
theorem tn_r57 {m : Nat} (hm : 0 < m) (a0 : Val) (h : Heap) : run tn.get m 57 [a0] h = s57 (run tn.get (m - 1)) (m - 1) a0 h := by
  obtain ⟨m, rfl⟩ : ∃ q, m = q + 1 := ⟨m - 1, by omega⟩
  rw [run_succ tn_57, e57]; rfl
theorem tn_r58 {m : Nat} (hm : 0 < m) (a0 : Val) (a1 : Val) (a2 : Val) (a3 : Val) (h : Heap) : run tn.get m 58 [a0, a1, a2, a3] h = s58 (run tn.get (m - 1)) (m - 1) a0 a1 a2 a3 h := by
  obtain ⟨m, rfl⟩ : ∃ q, m = q + 1 := ⟨m - 1, by omega⟩
  rw [run_succ tn_58, e58]; rfl
theorem tn_r61 {m : Nat} (hm : 0 < m) (a0 : Val) (a1 : Val) (a2 : Val) (h : Heap) : run tn.get m 61 [a0, a1, a2] h = s61 (run tn.get (m - 1)) (m - 1) a0 a1 a2 h := by
  obtain ⟨m, rfl⟩ : ∃ q, m = q + 1 := ⟨m - 1, by omega⟩
  rw [run_succ tn_61, e61]; rfl
theorem tn_r62 {m : Nat} (hm : 0 < m) (a0 : Val) (a1 : Val) (h : Heap) : run tn.get m 62 [a0, a1] h = s62 (run tn.get (m - 1)) (m - 1) a0 a1 h := by
  obtain ⟨m, rfl⟩ : ∃ q, m = q + 1 := ⟨m - 1, by omega⟩
  rw [run_succ tn_62, e62]; rfl
theorem tn_r70 {m : Nat} (hm : 0 < m) (a0 : Val) (h : Heap) : run tn.get m 70 [a0] h = s70 (run tn.get (m - 1)) (m - 1) a0 h := by
  obtain ⟨m, rfl⟩ : ∃ q, m = q + 1 := ⟨m - 1, by omega⟩
  rw [run_succ tn_70, e70]; rfl
theorem tn_r71 {m : Nat} (hm : 0 < m) (a0 : Val) (a1 : Val) (a2 : Val) (h : Heap) : run tn.get m 71 [a0, a1, a2] h = s71 (run tn.get (m - 1)) (m - 1) a0 a1 a2 h := by
  obtain ⟨m, rfl⟩ : ∃ q, m = q + 1 := ⟨m - 1, by omega⟩
  rw [run_succ tn_71, e71]; rfl
theorem tn_r72 {m : Nat} (hm : 0 < m) (a0 : Val) (a1 : Val) (h : Heap) : run tn.get m 72 [a0, a1] h = s72 (run tn.get (m - 1)) (m - 1) a0 a1 h := by
  obtain ⟨m, rfl⟩ : ∃ q, m = q + 1 := ⟨m - 1, by omega⟩
  rw [run_succ tn_72, e72]; rfl
theorem tn_r73 {m : Nat} (hm : 0 < m) (a0 : Val) (a1 : Val) (h : Heap) : run tn.get m 73 [a0, a1] h = s73 (run tn.get (m - 1)) (m - 1) a0 a1 h := by
  obtain ⟨m, rfl⟩ : ∃ q, m = q + 1 := ⟨m - 1, by omega⟩
  rw [run_succ tn_73, e73]; rfl
theorem tn_r74 {m : Nat} (hm : 0 < m) (a0 : Val) (a1 : Val) (a2 : Val) (h : Heap) : run tn.get m 74 [a0, a1, a2] h = s74 (run tn.get (m - 1)) (m - 1) a0 a1 a2 h := by
  obtain ⟨m, rfl⟩ : ∃ q, m = q + 1 := ⟨m - 1, by omega⟩
  rw [run_succ tn_74, e74]; rfl
theorem tn_r75 {m : Nat} (hm : 0 < m) (a0 : Val) (a1 : Val) (a2 : Val) (h : Heap) : run tn.get m 75 [a0, a1, a2] h = s75 (run tn.get (m - 1)) (m - 1) a0 a1 a2 h := by
  obtain ⟨m, rfl⟩ : ∃ q, m = q + 1 := ⟨m - 1, by omega⟩
  rw [run_succ tn_75, e75]; rfl
theorem tn_r76 {m : Nat} (hm : 0 < m) (a0 : Val) (a1 : Val) (h : Heap) : run tn.get m 76 [a0, a1] h = s76 (run tn.get (m - 1)) (m - 1) a0 a1 h := by
  obtain ⟨m, rfl⟩ : ∃ q, m = q + 1 := ⟨m - 1, by omega⟩
  rw [run_succ tn_76, e76]; rfl
theorem tn_r77 {m : Nat} (hm : 0 < m) (a0 : Val) (a1 : Val) (h : Heap) : run tn.get m 77 [a0, a1] h = s77 (run tn.get (m - 1)) (m - 1) a0 a1 h := by
  obtain ⟨m, rfl⟩ : ∃ q, m = q + 1 := ⟨m - 1, by omega⟩
  rw [run_succ tn_77, e77]; rfl
theorem tn_r78 {m : Nat} (hm : 0 < m) (a0 : Val) (h : Heap) : run tn.get m 78 [a0] h = s78 (run tn.get (m - 1)) (m - 1) a0 h := by
  obtain ⟨m, rfl⟩ : ∃ q, m = q + 1 := ⟨m - 1, by omega⟩
  rw [run_succ tn_78, e78]; rfl
theorem tn_r79 {m : Nat} (hm : 0 < m) (a0 : Val) (h : Heap) : run tn.get m 79 [a0] h = s79 (run tn.get (m - 1)) (m - 1) a0 h := by
  obtain ⟨m, rfl⟩ : ∃ q, m = q + 1 := ⟨m - 1, by omega⟩
  rw [run_succ tn_79, e79]; rfl
theorem tn_r83 {m : Nat} (hm : 0 < m) (a0 : Val) (a1 : Val) (a2 : Val) (h : Heap) : run tn.get m 83 [a0, a1, a2] h = s83 (run tn.get (m - 1)) (m - 1) a0 a1 a2 h := by
  obtain ⟨m, rfl⟩ : ∃ q, m = q + 1 := ⟨m - 1, by omega⟩
  rw [run_succ tn_83, e83]; rfl
theorem tn_r84 {m : Nat} (hm : 0 < m) (a0 : Val) (h : Heap) : run tn.get m 84 [a0] h = s84 (run tn.get (m - 1)) (m - 1) a0 h := by
  obtain ⟨m, rfl⟩ : ∃ q, m = q + 1 := ⟨m - 1, by omega⟩
  rw [run_succ tn_84, e84]; rfl
theorem tn_r85 {m : Nat} (hm : 0 < m) (a0 : Val) (a1 : Val) (a2 : Val) (a3 : Val) (h : Heap) : run tn.get m 85 [a0, a1, a2, a3] h = s85 (run tn.get (m - 1)) (m - 1) a0 a1 a2 a3 h := by
  obtain ⟨m, rfl⟩ : ∃ q, m = q + 1 := ⟨m - 1, by omega⟩
  rw [run_succ tn_85, e85]; rfl
theorem tn_r86 {m : Nat} (hm : 0 < m) (a0 : Val) (h : Heap) : run tn.get m 86 [a0] h = s86 (run tn.get (m - 1)) (m - 1) a0 h := by
  obtain ⟨m, rfl⟩ : ∃ q, m = q + 1 := ⟨m - 1, by omega⟩
  rw [run_succ tn_86, e86]; rfl
theorem tn_r87 {m : Nat} (hm : 0 < m) (a0 : Val) (h : Heap) : run tn.get m 87 [a0] h = s87 (run tn.get (m - 1)) (m - 1) a0 h := by
  obtain ⟨m, rfl⟩ : ∃ q, m = q + 1 := ⟨m - 1, by omega⟩
  rw [run_succ tn_87, e87]; rfl
theorem tn_r88 {m : Nat} (hm : 0 < m) (xs : List Val) (h : Heap) : run tn.get m 88 xs h = pRepeat xs h := by
  obtain ⟨m, rfl⟩ : ∃ q, m = q + 1 := ⟨m - 1, by omega⟩
  rw [run_succ tn_88]; rfl
theorem tn_r89 {m : Nat} (hm : 0 < m) (a0 : Val) (h : Heap) : run tn.get m 89 [a0] h = s89 (run tn.get (m - 1)) (m - 1) a0 h := by
  obtain ⟨m, rfl⟩ : ∃ q, m = q + 1 := ⟨m - 1, by omega⟩
  rw [run_succ tn_89, e89]; rfl
theorem tn_r90 {m : Nat} (hm : 0 < m) (a0 : Val) (a1 : Val) (a2 : Val) (h : Heap) : run tn.get m 90 [a0, a1, a2] h = s90 (run tn.get (m - 1)) (m - 1) a0 a1 a2 h := by
  obtain ⟨m, rfl⟩ : ∃ q, m = q + 1 := ⟨m - 1, by omega⟩
  rw [run_succ tn_90, e90]; rfl
theorem tn_r92 {m : Nat} (hm : 0 < m) (a0 : Val) (a1 : Val) (h : Heap) : run tn.get m 92 [a0, a1] h = s92 (run tn.get (m - 1)) (m - 1) a0 a1 h := by
  obtain ⟨m, rfl⟩ : ∃ q, m = q + 1 := ⟨m - 1, by omega⟩
  rw [run_succ tn_92, e92]; rfl
theorem tn_r93 {m : Nat} (hm : 0 < m) (h : Heap) : run tn.get m 93 [] h = s93 (run tn.get (m - 1)) (m - 1) h := by
  obtain ⟨m, rfl⟩ : ∃ q, m = q + 1 := ⟨m - 1, by omega⟩
  rw [run_succ tn_93, e93]; rfl
theorem tn_r94 {m : Nat} (hm : 0 < m) (h : Heap) : run tn.get m 94 [] h = s94 (run tn.get (m - 1)) (m - 1) h := by
  obtain ⟨m, rfl⟩ : ∃ q, m = q + 1 := ⟨m - 1, by omega⟩
  rw [run_succ tn_94, e94]; rfl
theorem tn_r95 {m : Nat} (hm : 0 < m) (a0 : Val) (h : Heap) : run tn.get m 95 [a0] h = s95 (run tn.get (m - 1)) (m - 1) a0 h := by
  obtain ⟨m, rfl⟩ : ∃ q, m = q + 1 := ⟨m - 1, by omega⟩
  rw [run_succ tn_95, e95]; rfl
theorem tn_r96 {m : Nat} (hm : 0 < m) (a0 : Val) (h : Heap) : run tn.get m 96 [a0] h = s96 (run tn.get (m - 1)) (m - 1) a0 h := by
  obtain ⟨m, rfl⟩ : ∃ q, m = q + 1 := ⟨m - 1, by omega⟩
  rw [run_succ tn_96, e96]; rfl
theorem tn_r97 {m : Nat} (hm : 0 < m) (a0 : Val) (h : Heap) : run tn.get m 97 [a0] h = s97 (run tn.get (m - 1)) (m - 1) a0 h := by
  obtain ⟨m, rfl⟩ : ∃ q, m = q + 1 := ⟨m - 1, by omega⟩
  rw [run_succ tn_97, e97]; rfl
theorem tn_r98 {m : Nat} (hm : 0 < m) (a0 : Val) (h : Heap) : run tn.get m 98 [a0] h = s98 (run tn.get (m - 1)) (m - 1) a0 h := by
  obtain ⟨m, rfl⟩ : ∃ q, m = q + 1 := ⟨m - 1, by omega⟩
  rw [run_succ tn_98, e98]; rfl
theorem tn_r99 {m : Nat} (hm : 0 < m) (a0 : Val) (a1 : Val) (h : Heap) : run tn.get m 99 [a0, a1] h = s99 (run tn.get (m - 1)) (m - 1) a0 a1 h := by
  obtain ⟨m, rfl⟩ : ∃ q, m = q + 1 := ⟨m - 1, by omega⟩
  rw [run_succ tn_99, e99]; rfl
theorem tn_r100 {m : Nat} (hm : 0 < m) (a0 : Val) (a1 : Val) (h : Heap) : run tn.get m 100 [a0, a1] h = s100 (run tn.get (m - 1)) (m - 1) a0 a1 h := by
  obtain ⟨m, rfl⟩ : ∃ q, m = q + 1 := ⟨m - 1, by omega⟩
  rw [run_succ tn_100, e100]; rfl
theorem tn_r101 {m : Nat} (hm : 0 < m) (a0 : Val) (a1 : Val) (h : Heap) : run tn.get m 101 [a0, a1] h = s101 (run tn.get (m - 1)) (m - 1) a0 a1 h := by
  obtain ⟨m, rfl⟩ : ∃ q, m = q + 1 := ⟨m - 1, by omega⟩
  rw [run_succ tn_101, e101]; rfl
theorem tn_r102 {m : Nat} (hm : 0 < m) (a0 : Val) (a1 : Val) (a2 : Val) (h : Heap) : run tn.get m 102 [a0, a1, a2] h = s102 (run tn.get (m - 1)) (m - 1) a0 a1 a2 h := by
  obtain ⟨m, rfl⟩ : ∃ q, m = q + 1 := ⟨m - 1, by omega⟩
  rw [run_succ tn_102, e102]; rfl
theorem tn_r103 {m : Nat} (hm : 0 < m) (a0 : Val) (h : Heap) : run tn.get m 103 [a0] h = s103 (run tn.get (m - 1)) (m - 1) a0 h := by
  obtain ⟨m, rfl⟩ : ∃ q, m = q + 1 := ⟨m - 1, by omega⟩
  rw [run_succ tn_103, e103]; rfl
theorem tn_r104 {m : Nat} (hm : 0 < m) (a0 : Val) (h : Heap) : run tn.get m 104 [a0] h = s104 (run tn.get (m - 1)) (m - 1) a0 h := by
  obtain ⟨m, rfl⟩ : ∃ q, m = q + 1 := ⟨m - 1, by omega⟩
  rw [run_succ tn_104, e104]; rfl
theorem tn_r105 {m : Nat} (hm : 0 < m) (a0 : Val) (h : Heap) : run tn.get m 105 [a0] h = s105 (run tn.get (m - 1)) (m - 1) a0 h := by
  obtain ⟨m, rfl⟩ : ∃ q, m = q + 1 := ⟨m - 1, by omega⟩
  rw [run_succ tn_105, e105]; rfl
theorem tn_r106 {m : Nat} (hm : 0 < m) (a0 : Val) (a1 : Val) (a2 : Val) (a3 : Val) (h : Heap) : run tn.get m 106 [a0, a1, a2, a3] h = s106 (run tn.get (m - 1)) (m - 1) a0 a1 a2 a3 h := by
  obtain ⟨m, rfl⟩ : ∃ q, m = q + 1 := ⟨m - 1, by omega⟩
  rw [run_succ tn_106, e106]; rfl
theorem tn_r107 {m : Nat} (hm : 0 < m) (a0 : Val) (h : Heap) : run tn.get m 107 [a0] h = s107 (run tn.get (m - 1)) (m - 1) a0 h := by
  obtain ⟨m, rfl⟩ : ∃ q, m = q + 1 := ⟨m - 1, by omega⟩
  rw [run_succ tn_107, e107]; rfl
theorem tn_r108 {m : Nat} (hm : 0 < m) (a0 : Val) (a1 : Val) (h : Heap) : run tn.get m 108 [a0, a1] h = s108 (run tn.get (m - 1)) (m - 1) a0 a1 h := by
  obtain ⟨m, rfl⟩ : ∃ q, m = q + 1 := ⟨m - 1, by omega⟩
  rw [run_succ tn_108, e108]; rfl
theorem tn_r109 {m : Nat} (hm : 0 < m) (a0 : Val) (a1 : Val) (a2 : Val) (h : Heap) : run tn.get m 109 [a0, a1, a2] h = s109 (run tn.get (m - 1)) (m - 1) a0 a1 a2 h := by
  obtain ⟨m, rfl⟩ : ∃ q, m = q + 1 := ⟨m - 1, by omega⟩
  rw [run_succ tn_109, e109]; rfl
theorem tn_r110 {m : Nat} (hm : 0 < m) (a0 : Val) (a1 : Val) (a2 : Val) (h : Heap) : run tn.get m 110 [a0, a1, a2] h = s110 (run tn.get (m - 1)) (m - 1) a0 a1 a2 h := by
  obtain ⟨m, rfl⟩ : ∃ q, m = q + 1 := ⟨m - 1, by omega⟩
  rw [run_succ tn_110, e110]; rfl
theorem tn_r112 {m : Nat} (hm : 0 < m) (a0 : Val) (h : Heap) : run tn.get m 112 [a0] h = s112 (run tn.get (m - 1)) (m - 1) a0 h := by
  obtain ⟨m, rfl⟩ : ∃ q, m = q + 1 := ⟨m - 1, by omega⟩
  rw [run_succ tn_112, e112]; rfl
theorem tn_r113 {m : Nat} (hm : 0 < m) (a0 : Val) (a1 : Val) (h : Heap) : run tn.get m 113 [a0, a1] h = s113 (run tn.get (m - 1)) (m - 1) a0 a1 h := by
  obtain ⟨m, rfl⟩ : ∃ q, m = q + 1 := ⟨m - 1, by omega⟩
  rw [run_succ tn_113, e113]; rfl
theorem tn_r114 {m : Nat} (hm : 0 < m) (a0 : Val) (a1 : Val) (h : Heap) : run tn.get m 114 [a0, a1] h = s114 (run tn.get (m - 1)) (m - 1) a0 a1 h := by
  obtain ⟨m, rfl⟩ : ∃ q, m = q + 1 := ⟨m - 1, by omega⟩
  rw [run_succ tn_114, e114]; rfl
theorem tn_r120 {m : Nat} (hm : 0 < m) (a0 : Val) (h : Heap) : run tn.get m 120 [a0] h = s120 (run tn.get (m - 1)) (m - 1) a0 h := by
  obtain ⟨m, rfl⟩ : ∃ q, m = q + 1 := ⟨m - 1, by omega⟩
  rw [run_succ tn_120, e120]; rfl
theorem tn_r121 {m : Nat} (hm : 0 < m) (a0 : Val) (a1 : Val) (h : Heap) : run tn.get m 121 [a0, a1] h = s121 (run tn.get (m - 1)) (m - 1) a0 a1 h := by
  obtain ⟨m, rfl⟩ : ∃ q, m = q + 1 := ⟨m - 1, by omega⟩
  rw [run_succ tn_121, e121]; rfl
theorem tn_r122 {m : Nat} (hm : 0 < m) (a0 : Val) (h : Heap) : run tn.get m 122 [a0] h = s122 (run tn.get (m - 1)) (m - 1) a0 h := by
  obtain ⟨m, rfl⟩ : ∃ q, m = q + 1 := ⟨m - 1, by omega⟩
  rw [run_succ tn_122, e122]; rfl
theorem tn_r123 {m : Nat} (hm : 0 < m) (a0 : Val) (h : Heap) : run tn.get m 123 [a0] h = s123 (run tn.get (m - 1)) (m - 1) a0 h := by
  obtain ⟨m, rfl⟩ : ∃ q, m = q + 1 := ⟨m - 1, by omega⟩
  rw [run_succ tn_123, e123]; rfl
theorem tn_r124 {m : Nat} (hm : 0 < m) (a0 : Val) (h : Heap) : run tn.get m 124 [a0] h = s124 (run tn.get (m - 1)) (m - 1) a0 h := by
  obtain ⟨m, rfl⟩ : ∃ q, m = q + 1 := ⟨m - 1, by omega⟩
  rw [run_succ tn_124, e124]; rfl
theorem tn_r125 {m : Nat} (hm : 0 < m) (a0 : Val) (a1 : Val) (a2 : Val) (h : Heap) : run tn.get m 125 [a0, a1, a2] h = s125 (run tn.get (m - 1)) (m - 1) a0 a1 a2 h := by
  obtain ⟨m, rfl⟩ : ∃ q, m = q + 1 := ⟨m - 1, by omega⟩
  rw [run_succ tn_125, e125]; rfl
theorem tn_r126 {m : Nat} (hm : 0 < m) (a0 : Val) (h : Heap) : run tn.get m 126 [a0] h = s126 (run tn.get (m - 1)) (m - 1) a0 h := by
  obtain ⟨m, rfl⟩ : ∃ q, m = q + 1 := ⟨m - 1, by omega⟩
  rw [run_succ tn_126, e126]; rfl
theorem tn_r127 {m : Nat} (hm : 0 < m) (a0 : Val) (a1 : Val) (a2 : Val) (h : Heap) : run tn.get m 127 [a0, a1, a2] h = s127 (run tn.get (m - 1)) (m - 1) a0 a1 a2 h := by
  obtain ⟨m, rfl⟩ : ∃ q, m = q + 1 := ⟨m - 1, by omega⟩
  rw [run_succ tn_127, e127]; rfl
theorem tn_r128 {m : Nat} (hm : 0 < m) (xs : List Val) (h : Heap) : run tn.get m 128 xs h = pJoin xs h := by
  obtain ⟨m, rfl⟩ : ∃ q, m = q + 1 := ⟨m - 1, by omega⟩
  rw [run_succ tn_128]; rfl
theorem tn_r129 {m : Nat} (hm : 0 < m) (a0 : Val) (h : Heap) : run tn.get m 129 [a0] h = s129 (run tn.get (m - 1)) (m - 1) a0 h := by
  obtain ⟨m, rfl⟩ : ∃ q, m = q + 1 := ⟨m - 1, by omega⟩
  rw [run_succ tn_129, e129]; rfl
theorem tn_r130 {m : Nat} (hm : 0 < m) (a0 : Val) (a1 : Val) (h : Heap) : run tn.get m 130 [a0, a1] h = s130 (run tn.get (m - 1)) (m - 1) a0 a1 h := by
  obtain ⟨m, rfl⟩ : ∃ q, m = q + 1 := ⟨m - 1, by omega⟩
  rw [run_succ tn_130, e130]; rfl
theorem tn_r131 {m : Nat} (hm : 0 < m) (a0 : Val) (a1 : Val) (a2 : Val) (h : Heap) : run tn.get m 131 [a0, a1, a2] h = s131 (run tn.get (m - 1)) (m - 1) a0 a1 a2 h := by
  obtain ⟨m, rfl⟩ : ∃ q, m = q + 1 := ⟨m - 1, by omega⟩
  rw [run_succ tn_131, e131]; rfl
theorem tn_r132 {m : Nat} (hm : 0 < m) (a0 : Val) (a1 : Val) (a2 : Val) (h : Heap) : run tn.get m 132 [a0, a1, a2] h = s132 (run tn.get (m - 1)) (m - 1) a0 a1 a2 h := by
  obtain ⟨m, rfl⟩ : ∃ q, m = q + 1 := ⟨m - 1, by omega⟩
  rw [run_succ tn_132, e132]; rfl
theorem tn_r133 {m : Nat} (hm : 0 < m) (a0 : Val) (h : Heap) : run tn.get m 133 [a0] h = s133 (run tn.get (m - 1)) (m - 1) a0 h := by
  obtain ⟨m, rfl⟩ : ∃ q, m = q + 1 := ⟨m - 1, by omega⟩
  rw [run_succ tn_133, e133]; rfl
theorem tn_r134 {m : Nat} (hm : 0 < m) (a0 : Val) (a1 : Val) (h : Heap) : run tn.get m 134 [a0, a1] h = s134 (run tn.get (m - 1)) (m - 1) a0 a1 h := by
  obtain ⟨m, rfl⟩ : ∃ q, m = q + 1 := ⟨m - 1, by omega⟩
  rw [run_succ tn_134, e134]; rfl
theorem tn_r135 {m : Nat} (hm : 0 < m) (a0 : Val) (a1 : Val) (h : Heap) : run tn.get m 135 [a0, a1] h = s135 (run tn.get (m - 1)) (m - 1) a0 a1 h := by
  obtain ⟨m, rfl⟩ : ∃ q, m = q + 1 := ⟨m - 1, by omega⟩
  rw [run_succ tn_135, e135]; rfl
theorem tn_r142 {m : Nat} (hm : 0 < m) (a0 : Val) (a1 : Val) (a2 : Val) (h : Heap) : run tn.get m 142 [a0, a1, a2] h = s142 (run tn.get (m - 1)) (m - 1) a0 a1 a2 h := by
  obtain ⟨m, rfl⟩ : ∃ q, m = q + 1 := ⟨m - 1, by omega⟩
  rw [run_succ tn_142, e142]; rfl
theorem tn_r143 {m : Nat} (hm : 0 < m) (a0 : Val) (a1 : Val) (a2 : Val) (h : Heap) : run tn.get m 143 [a0, a1, a2] h = s143 (run tn.get (m - 1)) (m - 1) a0 a1 a2 h := by
  obtain ⟨m, rfl⟩ : ∃ q, m = q + 1 := ⟨m - 1, by omega⟩
  rw [run_succ tn_143, e143]; rfl
theorem tn_r145 {m : Nat} (hm : 0 < m) (a0 : Val) (h : Heap) : run tn.get m 145 [a0] h = s145 (run tn.get (m - 1)) (m - 1) a0 h := by
  obtain ⟨m, rfl⟩ : ∃ q, m = q + 1 := ⟨m - 1, by omega⟩
  rw [run_succ tn_145, e145]; rfl
theorem tn_r146 {m : Nat} (hm : 0 < m) (a0 : Val) (a1 : Val) (h : Heap) : run tn.get m 146 [a0, a1] h = s146 (run tn.get (m - 1)) (m - 1) a0 a1 h := by
  obtain ⟨m, rfl⟩ : ∃ q, m = q + 1 := ⟨m - 1, by omega⟩
  rw [run_succ tn_146, e146]; rfl
theorem tn_r147 {m : Nat} (hm : 0 < m) (a0 : Val) (a1 : Val) (h : Heap) : run tn.get m 147 [a0, a1] h = s147 (run tn.get (m - 1)) (m - 1) a0 a1 h := by
  obtain ⟨m, rfl⟩ : ∃ q, m = q + 1 := ⟨m - 1, by omega⟩
  rw [run_succ tn_147, e147]; rfl
theorem tn_r148 {m : Nat} (hm : 0 < m) (a0 : Val) (h : Heap) : run tn.get m 148 [a0] h = s148 (run tn.get (m - 1)) (m - 1) a0 h := by
  obtain ⟨m, rfl⟩ : ∃ q, m = q + 1 := ⟨m - 1, by omega⟩
  rw [run_succ tn_148, e148]; rfl
theorem tn_r149 {m : Nat} (hm : 0 < m) (a0 : Val) (a1 : Val) (h : Heap) : run tn.get m 149 [a0, a1] h = s149 (run tn.get (m - 1)) (m - 1) a0 a1 h := by
  obtain ⟨m, rfl⟩ : ∃ q, m = q + 1 := ⟨m - 1, by omega⟩
  rw [run_succ tn_149, e149]; rfl
theorem tn_r152 {m : Nat} (hm : 0 < m) (a0 : Val) (a1 : Val) (h : Heap) : run tn.get m 152 [a0, a1] h = s152 (run tn.get (m - 1)) (m - 1) a0 a1 h := by
  obtain ⟨m, rfl⟩ : ∃ q, m = q + 1 := ⟨m - 1, by omega⟩
  rw [run_succ tn_152, e152]; rfl
theorem tn_r153 {m : Nat} (hm : 0 < m) (a0 : Val) (a1 : Val) (h : Heap) : run tn.get m 153 [a0, a1] h = s153 (run tn.get (m - 1)) (m - 1) a0 a1 h := by
  obtain ⟨m, rfl⟩ : ∃ q, m = q + 1 := ⟨m - 1, by omega⟩
  rw [run_succ tn_153, e153]; rfl
theorem tn_r155 {m : Nat} (hm : 0 < m) (a0 : Val) (h : Heap) : run tn.get m 155 [a0] h = s155 (run tn.get (m - 1)) (m - 1) a0 h := by
  obtain ⟨m, rfl⟩ : ∃ q, m = q + 1 := ⟨m - 1, by omega⟩
  rw [run_succ tn_155, e155]; rfl
theorem tn_r156 {m : Nat} (hm : 0 < m) (a0 : Val) (h : Heap) : run tn.get m 156 [a0] h = s156 (run tn.get (m - 1)) (m - 1) a0 h := by
  obtain ⟨m, rfl⟩ : ∃ q, m = q + 1 := ⟨m - 1, by omega⟩
  rw [run_succ tn_156, e156]; rfl
theorem tn_r157 {m : Nat} (hm : 0 < m) (a0 : Val) (h : Heap) : run tn.get m 157 [a0] h = s157 (run tn.get (m - 1)) (m - 1) a0 h := by
  obtain ⟨m, rfl⟩ : ∃ q, m = q + 1 := ⟨m - 1, by omega⟩
  rw [run_succ tn_157, e157]; rfl
theorem tn_r158 {m : Nat} (hm : 0 < m) (a0 : Val) (a1 : Val) (h : Heap) : run tn.get m 158 [a0, a1] h = s158 (run tn.get (m - 1)) (m - 1) a0 a1 h := by
  obtain ⟨m, rfl⟩ : ∃ q, m = q + 1 := ⟨m - 1, by omega⟩
  rw [run_succ tn_158, e158]; rfl
theorem tn_r159 {m : Nat} (hm : 0 < m) (a0 : Val) (h : Heap) : run tn.get m 159 [a0] h = s159 (run tn.get (m - 1)) (m - 1) a0 h := by
  obtain ⟨m, rfl⟩ : ∃ q, m = q + 1 := ⟨m - 1, by omega⟩
  rw [run_succ tn_159, e159]; rfl
theorem tn_r160 {m : Nat} (hm : 0 < m) (a0 : Val) (a1 : Val) (h : Heap) : run tn.get m 160 [a0, a1] h = s160 (run tn.get (m - 1)) (m - 1) a0 a1 h := by
  obtain ⟨m, rfl⟩ : ∃ q, m = q + 1 := ⟨m - 1, by omega⟩
  rw [run_succ tn_160, e160]; rfl
theorem tn_r161 {m : Nat} (hm : 0 < m) (a0 : Val) (h : Heap) : run tn.get m 161 [a0] h = s161 (run tn.get (m - 1)) (m - 1) a0 h := by
  obtain ⟨m, rfl⟩ : ∃ q, m = q + 1 := ⟨m - 1, by omega⟩
  rw [run_succ tn_161, e161]; rfl
theorem tn_r167 {m : Nat} (hm : 0 < m) (a0 : Val) (a1 : Val) (h : Heap) : run tn.get m 167 [a0, a1] h = s167 (run tn.get (m - 1)) (m - 1) a0 a1 h := by
  obtain ⟨m, rfl⟩ : ∃ q, m = q + 1 := ⟨m - 1, by omega⟩
  rw [run_succ tn_167, e167]; rfl
theorem tn_r168 {m : Nat} (hm : 0 < m) (a0 : Val) (h : Heap) : run tn.get m 168 [a0] h = s168 (run tn.get (m - 1)) (m - 1) a0 h := by
  obtain ⟨m, rfl⟩ : ∃ q, m = q + 1 := ⟨m - 1, by omega⟩
  rw [run_succ tn_168, e168]; rfl
theorem tn_r169 {m : Nat} (hm : 0 < m) (a0 : Val) (a1 : Val) (h : Heap) : run tn.get m 169 [a0, a1] h = s169 (run tn.get (m - 1)) (m - 1) a0 a1 h := by
  obtain ⟨m, rfl⟩ : ∃ q, m = q + 1 := ⟨m - 1, by omega⟩
  rw [run_succ tn_169, e169]; rfl
theorem tn_r170 {m : Nat} (hm : 0 < m) (a0 : Val) (h : Heap) : run tn.get m 170 [a0] h = s170 (run tn.get (m - 1)) (m - 1) a0 h := by
  obtain ⟨m, rfl⟩ : ∃ q, m = q + 1 := ⟨m - 1, by omega⟩
  rw [run_succ tn_170, e170]; rfl
theorem tn_r171 {m : Nat} (hm : 0 < m) (a0 : Val) (a1 : Val) (h : Heap) : run tn.get m 171 [a0, a1] h = s171 (run tn.get (m - 1)) (m - 1) a0 a1 h := by
  obtain ⟨m, rfl⟩ : ∃ q, m = q + 1 := ⟨m - 1, by omega⟩
  rw [run_succ tn_171, e171]; rfl
def fn : ST := .node 93 (.node 51 (.node 35 (.node 27 (.node 21 (.node 10 (.leaf 8 (ap3 s8)) (.node 20 (.leaf 10 (ap1 s10)) (.leaf 20 (ap3 s20)))) (.node 24 (.node 23 (.leaf 21 (ap2 s21)) (.leaf 23 (ap2 s23))) (.node 26 (.leaf 24 (ap1 s24)) (.leaf 26 (ap1 s26))))) (.node 30 (.node 28 (.leaf 27 (ap1 s27)) (.node 29 (.leaf 28 (ap1 s28)) (.leaf 29 (ap1 s29)))) (.node 33 (.node 31 (.leaf 30 (ap3 s30)) (.leaf 31 (ap2 s31))) (.node 34 (.leaf 33 (ap1 s33)) (.leaf 34 (ap1 s34)))))) (.node 43 (.node 39 (.node 36 (.leaf 35 (ap1 s35)) (.node 38 (.leaf 36 (ap2 s36)) (.leaf 38 (fun _ _ => (sumF gTrue))))) (.node 41 (.node 40 (.leaf 39 (ap2 s39)) (.leaf 40 (ap2 s40))) (.node 42 (.leaf 41 (ap5 s41)) (.leaf 42 (ap2 s42))))) (.node 47 (.node 45 (.node 44 (.leaf 43 (ap2 s43)) (.leaf 44 (ap1 s44))) (.node 46 (.leaf 45 (ap3 s45)) (.leaf 46 (ap2 s46)))) (.node 49 (.node 48 (.leaf 47 (ap1 s47)) (.leaf 48 (ap1 s48))) (.node 50 (.leaf 49 (ap1 s49)) (.leaf 50 (ap1 s50))))))) (.node 74 (.node 58 (.node 54 (.node 52 (.leaf 51 (ap1 s51)) (.node 53 (.leaf 52 (fun _ _ => (sumF gTrue))) (.leaf 53 (ap0 s53)))) (.node 56 (.node 55 (.leaf 54 (ap4 s54)) (.leaf 55 (ap2 s55))) (.node 57 (.leaf 56 (ap2 s56)) (.leaf 57 (ap1 s57))))) (.node 70 (.node 61 (.leaf 58 (ap4 s58)) (.node 62 (.leaf 61 (ap3 s61)) (.leaf 62 (ap2 s62)))) (.node 72 (.node 71 (.leaf 70 (ap1 s70)) (.leaf 71 (ap3 s71))) (.node 73 (.leaf 72 (ap2 s72)) (.leaf 73 (ap2 s73)))))) (.node 84 (.node 77 (.node 75 (.leaf 74 (ap3 s74)) (.node 76 (.leaf 75 (ap3 s75)) (.leaf 76 (ap2 s76)))) (.node 79 (.node 78 (.leaf 77 (ap2 s77)) (.leaf 78 (ap1 s78))) (.node 83 (.leaf 79 (ap1 s79)) (.leaf 83 (ap3 s83))))) (.node 88 (.node 86 (.node 85 (.leaf 84 (ap1 s84)) (.leaf 85 (ap4 s85))) (.node 87 (.leaf 86 (ap1 s86)) (.leaf 87 (ap1 s87)))) (.node 90 (.node 89 (.leaf 88 (fun _ _ => pRepeat)) (.leaf 89 (ap1 s89))) (.node 92 (.leaf 90 (ap3 s90)) (.leaf 92 (ap2 s92)))))))) (.node 128 (.node 107 (.node 100 (.node 96 (.node 94 (.leaf 93 (ap0 s93)) (.node 95 (.leaf 94 (ap0 s94)) (.leaf 95 (ap1 s95)))) (.node 98 (.node 97 (.leaf 96 (ap1 s96)) (.leaf 97 (ap1 s97))) (.node 99 (.leaf 98 (ap1 s98)) (.leaf 99 (ap2 s99))))) (.node 103 (.node 101 (.leaf 100 (ap2 s100)) (.node 102 (.leaf 101 (ap2 s101)) (.leaf 102 (ap3 s102)))) (.node 105 (.node 104 (.leaf 103 (ap1 s103)) (.leaf 104 (ap1 s104))) (.node 106 (.leaf 105 (ap1 s105)) (.leaf 106 (ap4 s106)))))) (.node 120 (.node 110 (.node 108 (.leaf 107 (ap1 s107)) (.node 109 (.leaf 108 (ap2 s108)) (.leaf 109 (ap3 s109)))) (.node 113 (.node 112 (.leaf 110 (ap3 s110)) (.leaf 112 (ap1 s112))) (.node 114 (.leaf 113 (ap2 s113)) (.leaf 114 (ap2 s114))))) (.node 124 (.node 122 (.node 121 (.leaf 120 (ap1 s120)) (.leaf 121 (ap2 s121))) (.node 123 (.leaf 122 (ap1 s122)) (.leaf 123 (ap1 s123)))) (.node 126 (.node 125 (.leaf 124 (ap1 s124)) (.leaf 125 (ap3 s125))) (.node 127 (.leaf 126 (ap1 s126)) (.leaf 127 (ap3 s127))))))) (.node 149 (.node 135 (.node 131 (.node 129 (.leaf 128 (fun _ _ => pJoin)) (.node 130 (.leaf 129 (ap1 s129)) (.leaf 130 (ap2 s130)))) (.node 133 (.node 132 (.leaf 131 (ap3 s131)) (.leaf 132 (ap3 s132))) (.node 134 (.leaf 133 (ap1 s133)) (.leaf 134 (ap2 s134))))) (.node 145 (.node 142 (.leaf 135 (ap2 s135)) (.node 143 (.leaf 142 (ap3 s142)) (.leaf 143 (ap3 s143)))) (.node 147 (.node 146 (.leaf 145 (ap1 s145)) (.leaf 146 (ap2 s146))) (.node 148 (.leaf 147 (ap2 s147)) (.leaf 148 (ap1 s148)))))) (.node 159 (.node 155 (.node 152 (.leaf 149 (ap2 s149)) (.node 153 (.leaf 152 (ap2 s152)) (.leaf 153 (ap2 s153)))) (.node 157 (.node 156 (.leaf 155 (ap1 s155)) (.leaf 156 (ap1 s156))) (.node 158 (.leaf 157 (ap1 s157)) (.leaf 158 (ap2 s158))))) (.node 168 (.node 161 (.node 160 (.leaf 159 (ap1 s159)) (.leaf 160 (ap2 s160))) (.node 167 (.leaf 161 (ap1 s161)) (.leaf 167 (ap2 s167)))) (.node 170 (.node 169 (.leaf 168 (ap1 s168)) (.leaf 169 (ap2 s169))) (.node 171 (.leaf 170 (ap1 s170)) (.leaf 171 (ap2 s171))))))))
theorem sim_fn : Sim tn fn := ⟨rfl, ⟨rfl, ⟨rfl, ⟨rfl, ⟨rfl, ⟨rfl, ⟨rfl, sm3 rfl e8⟩, ⟨rfl, ⟨rfl, sm1 rfl e10⟩, ⟨rfl, sm3 rfl e20⟩⟩⟩, ⟨rfl, ⟨rfl, ⟨rfl, sm2 rfl e21⟩, ⟨rfl, sm2 rfl e23⟩⟩, ⟨rfl, ⟨rfl, sm1 rfl e24⟩, ⟨rfl, sm1 rfl e26⟩⟩⟩⟩, ⟨rfl, ⟨rfl, ⟨rfl, sm1 rfl e27⟩, ⟨rfl, ⟨rfl, sm1 rfl e28⟩, ⟨rfl, sm1 rfl e29⟩⟩⟩, ⟨rfl, ⟨rfl, ⟨rfl, sm3 rfl e30⟩, ⟨rfl, sm2 rfl e31⟩⟩, ⟨rfl, ⟨rfl, sm1 rfl e33⟩, ⟨rfl, sm1 rfl e34⟩⟩⟩⟩⟩, ⟨rfl, ⟨rfl, ⟨rfl, ⟨rfl, sm1 rfl e35⟩, ⟨rfl, ⟨rfl, sm2 rfl e36⟩, ⟨rfl, fun _ _ _ _ => rfl⟩⟩⟩, ⟨rfl, ⟨rfl, ⟨rfl, sm2 rfl e39⟩, ⟨rfl, sm2 rfl e40⟩⟩, ⟨rfl, ⟨rfl, sm5 rfl e41⟩, ⟨rfl, sm2 rfl e42⟩⟩⟩⟩, ⟨rfl, ⟨rfl, ⟨rfl, ⟨rfl, sm2 rfl e43⟩, ⟨rfl, sm1 rfl e44⟩⟩, ⟨rfl, ⟨rfl, sm3 rfl e45⟩, ⟨rfl, sm2 rfl e46⟩⟩⟩, ⟨rfl, ⟨rfl, ⟨rfl, sm1 rfl e47⟩, ⟨rfl, sm1 rfl e48⟩⟩, ⟨rfl, ⟨rfl, sm1 rfl e49⟩, ⟨rfl, sm1 rfl e50⟩⟩⟩⟩⟩⟩, ⟨rfl, ⟨rfl, ⟨rfl, ⟨rfl, ⟨rfl, sm1 rfl e51⟩, ⟨rfl, ⟨rfl, fun _ _ _ _ => rfl⟩, ⟨rfl, sm0 rfl e53⟩⟩⟩, ⟨rfl, ⟨rfl, ⟨rfl, sm4 rfl e54⟩, ⟨rfl, sm2 rfl e55⟩⟩, ⟨rfl, ⟨rfl, sm2 rfl e56⟩, ⟨rfl, sm1 rfl e57⟩⟩⟩⟩, ⟨rfl, ⟨rfl, ⟨rfl, sm4 rfl e58⟩, ⟨rfl, ⟨rfl, sm3 rfl e61⟩, ⟨rfl, sm2 rfl e62⟩⟩⟩, ⟨rfl, ⟨rfl, ⟨rfl, sm1 rfl e70⟩, ⟨rfl, sm3 rfl e71⟩⟩, ⟨rfl, ⟨rfl, sm2 rfl e72⟩, ⟨rfl, sm2 rfl e73⟩⟩⟩⟩⟩, ⟨rfl, ⟨rfl, ⟨rfl, ⟨rfl, sm3 rfl e74⟩, ⟨rfl, ⟨rfl, sm3 rfl e75⟩, ⟨rfl, sm2 rfl e76⟩⟩⟩, ⟨rfl, ⟨rfl, ⟨rfl, sm2 rfl e77⟩, ⟨rfl, sm1 rfl e78⟩⟩, ⟨rfl, ⟨rfl, sm1 rfl e79⟩, ⟨rfl, sm3 rfl e83⟩⟩⟩⟩, ⟨rfl, ⟨rfl, ⟨rfl, ⟨rfl, sm1 rfl e84⟩, ⟨rfl, sm4 rfl e85⟩⟩, ⟨rfl, ⟨rfl, sm1 rfl e86⟩, ⟨rfl, sm1 rfl e87⟩⟩⟩, ⟨rfl, ⟨rfl, ⟨rfl, fun _ _ _ _ => rfl⟩, ⟨rfl, sm1 rfl e89⟩⟩, ⟨rfl, ⟨rfl, sm3 rfl e90⟩, ⟨rfl, sm2 rfl e92⟩⟩⟩⟩⟩⟩⟩, ⟨rfl, ⟨rfl, ⟨rfl, ⟨rfl, ⟨rfl, ⟨rfl, sm0 rfl e93⟩, ⟨rfl, ⟨rfl, sm0 rfl e94⟩, ⟨rfl, sm1 rfl e95⟩⟩⟩, ⟨rfl, ⟨rfl, ⟨rfl, sm1 rfl e96⟩, ⟨rfl, sm1 rfl e97⟩⟩, ⟨rfl, ⟨rfl, sm1 rfl e98⟩, ⟨rfl, sm2 rfl e99⟩⟩⟩⟩, ⟨rfl, ⟨rfl, ⟨rfl, sm2 rfl e100⟩, ⟨rfl, ⟨rfl, sm2 rfl e101⟩, ⟨rfl, sm3 rfl e102⟩⟩⟩, ⟨rfl, ⟨rfl, ⟨rfl, sm1 rfl e103⟩, ⟨rfl, sm1 rfl e104⟩⟩, ⟨rfl, ⟨rfl, sm1 rfl e105⟩, ⟨rfl, sm4 rfl e106⟩⟩⟩⟩⟩, ⟨rfl, ⟨rfl, ⟨rfl, ⟨rfl, sm1 rfl e107⟩, ⟨rfl, ⟨rfl, sm2 rfl e108⟩, ⟨rfl, sm3 rfl e109⟩⟩⟩, ⟨rfl, ⟨rfl, ⟨rfl, sm3 rfl e110⟩, ⟨rfl, sm1 rfl e112⟩⟩, ⟨rfl, ⟨rfl, sm2 rfl e113⟩, ⟨rfl, sm2 rfl e114⟩⟩⟩⟩, ⟨rfl, ⟨rfl, ⟨rfl, ⟨rfl, sm1 rfl e120⟩, ⟨rfl, sm2 rfl e121⟩⟩, ⟨rfl, ⟨rfl, sm1 rfl e122⟩, ⟨rfl, sm1 rfl e123⟩⟩⟩, ⟨rfl, ⟨rfl, ⟨rfl, sm1 rfl e124⟩, ⟨rfl, sm3 rfl e125⟩⟩, ⟨rfl, ⟨rfl, sm1 rfl e126⟩, ⟨rfl, sm3 rfl e127⟩⟩⟩⟩⟩⟩, ⟨rfl, ⟨rfl, ⟨rfl, ⟨rfl, ⟨rfl, fun _ _ _ _ => rfl⟩, ⟨rfl, ⟨rfl, sm1 rfl e129⟩, ⟨rfl, sm2 rfl e130⟩⟩⟩, ⟨rfl, ⟨rfl, ⟨rfl, sm3 rfl e131⟩, ⟨rfl, sm3 rfl e132⟩⟩, ⟨rfl, ⟨rfl, sm1 rfl e133⟩, ⟨rfl, sm2 rfl e134⟩⟩⟩⟩, ⟨rfl, ⟨rfl, ⟨rfl, sm2 rfl e135⟩, ⟨rfl, ⟨rfl, sm3 rfl e142⟩, ⟨rfl, sm3 rfl e143⟩⟩⟩, ⟨rfl, ⟨rfl, ⟨rfl, sm1 rfl e145⟩, ⟨rfl, sm2 rfl e146⟩⟩, ⟨rfl, ⟨rfl, sm2 rfl e147⟩, ⟨rfl, sm1 rfl e148⟩⟩⟩⟩⟩, ⟨rfl, ⟨rfl, ⟨rfl, ⟨rfl, sm2 rfl e149⟩, ⟨rfl, ⟨rfl, sm2 rfl e152⟩, ⟨rfl, sm2 rfl e153⟩⟩⟩, ⟨rfl, ⟨rfl, ⟨rfl, sm1 rfl e155⟩, ⟨rfl, sm1 rfl e156⟩⟩, ⟨rfl, ⟨rfl, sm1 rfl e157⟩, ⟨rfl, sm2 rfl e158⟩⟩⟩⟩, ⟨rfl, ⟨rfl, ⟨rfl, ⟨rfl, sm1 rfl e159⟩, ⟨rfl, sm2 rfl e160⟩⟩, ⟨rfl, ⟨rfl, sm1 rfl e161⟩, ⟨rfl, sm2 rfl e167⟩⟩⟩, ⟨rfl, ⟨rfl, ⟨rfl, sm1 rfl e168⟩, ⟨rfl, sm2 rfl e169⟩⟩, ⟨rfl, ⟨rfl, sm1 rfl e170⟩, ⟨rfl, sm2 rfl e171⟩⟩⟩⟩⟩⟩⟩⟩
theorem hp_tn_88 (N : Nat) : PrimOk Q N 88 pRepeat := pr_repeat N
theorem hp_tn_128 (N : Nat) : PrimOk Q N 128 pJoin := pr_join N
theorem hp_tn_38 (N : Nat) : PrimOk Q N 38 (sumF gTrue) := sum_true (calls_of ok_tp) (by kernel_rfl) eight_eq N
theorem hp_tn_52 (N : Nat) : PrimOk Q N 52 (sumF gTrue) := sum_true (calls_of ok_tp) (by kernel_rfl) three_eq N
theorem ok_tn (N : Nat) : tn.All fun f fn => okFn Q (drOk Q) f fn = true ∨ ∃ F, fn = .prim F ∧ PrimOk Q N f F := ⟨⟨⟨⟨⟨⟨.inl ok8, ⟨.inl ok10, .inl ok20⟩⟩, ⟨⟨.inl ok21, .inl ok23⟩, ⟨.inl ok24, .inl ok26⟩⟩⟩, ⟨⟨.inl ok27, ⟨.inl ok28, .inl ok29⟩⟩, ⟨⟨.inl ok30, .inl ok31⟩, ⟨.inl ok33, .inl ok34⟩⟩⟩⟩, ⟨⟨⟨.inl ok35, ⟨.inl ok36, .inr ⟨_, rfl, hp_tn_38 N⟩⟩⟩, ⟨⟨.inl ok39, .inl ok40⟩, ⟨.inl ok41, .inl ok42⟩⟩⟩, ⟨⟨⟨.inl ok43, .inl ok44⟩, ⟨.inl ok45, .inl ok46⟩⟩, ⟨⟨.inl ok47, .inl ok48⟩, ⟨.inl ok49, .inl ok50⟩⟩⟩⟩⟩, ⟨⟨⟨⟨.inl ok51, ⟨.inr ⟨_, rfl, hp_tn_52 N⟩, .inl ok53⟩⟩, ⟨⟨.inl ok54, .inl ok55⟩, ⟨.inl ok56, .inl ok57⟩⟩⟩, ⟨⟨.inl ok58, ⟨.inl ok61, .inl ok62⟩⟩, ⟨⟨.inl ok70, .inl ok71⟩, ⟨.inl ok72, .inl ok73⟩⟩⟩⟩, ⟨⟨⟨.inl ok74, ⟨.inl ok75, .inl ok76⟩⟩, ⟨⟨.inl ok77, .inl ok78⟩, ⟨.inl ok79, .inl ok83⟩⟩⟩, ⟨⟨⟨.inl ok84, .inl ok85⟩, ⟨.inl ok86, .inl ok87⟩⟩, ⟨⟨.inr ⟨_, rfl, hp_tn_88 N⟩, .inl ok89⟩, ⟨.inl ok90, .inl ok92⟩⟩⟩⟩⟩⟩, ⟨⟨⟨⟨⟨.inl ok93, ⟨.inl ok94, .inl ok95⟩⟩, ⟨⟨.inl ok96, .inl ok97⟩, ⟨.inl ok98, .inl ok99⟩⟩⟩, ⟨⟨.inl ok100, ⟨.inl ok101, .inl ok102⟩⟩, ⟨⟨.inl ok103, .inl ok104⟩, ⟨.inl ok105, .inl ok106⟩⟩⟩⟩, ⟨⟨⟨.inl ok107, ⟨.inl ok108, .inl ok109⟩⟩, ⟨⟨.inl ok110, .inl ok112⟩, ⟨.inl ok113, .inl ok114⟩⟩⟩, ⟨⟨⟨.inl ok120, .inl ok121⟩, ⟨.inl ok122, .inl ok123⟩⟩, ⟨⟨.inl ok124, .inl ok125⟩, ⟨.inl ok126, .inl ok127⟩⟩⟩⟩⟩, ⟨⟨⟨⟨.inr ⟨_, rfl, hp_tn_128 N⟩, ⟨.inl ok129, .inl ok130⟩⟩, ⟨⟨.inl ok131, .inl ok132⟩, ⟨.inl ok133, .inl ok134⟩⟩⟩, ⟨⟨.inl ok135, ⟨.inl ok142, .inl ok143⟩⟩, ⟨⟨.inl ok145, .inl ok146⟩, ⟨.inl ok147, .inl ok148⟩⟩⟩⟩, ⟨⟨⟨.inl ok149, ⟨.inl ok152, .inl ok153⟩⟩, ⟨⟨.inl ok155, .inl ok156⟩, ⟨.inl ok157, .inl ok158⟩⟩⟩, ⟨⟨⟨.inl ok159, .inl ok160⟩, ⟨.inl ok161, .inl ok167⟩⟩, ⟨⟨.inl ok168, .inl ok169⟩, ⟨.inl ok170, .inl ok171⟩⟩⟩⟩⟩⟩⟩
theorem ex_of {r : R} {v : Val} (h : r.map (·.1) = some v) : ∃ h', r = some (v, h') := by
  cases r with
  | none => cases h
  | some q => cases h; exact ⟨q.2, rfl⟩
def argsG : List (Bool × List Lf) := [(false, [.i .i64]), (false, [.i .i64]), (true, [.i .i64, .s])]
theorem argsG_eq : argsOf Q Go.Proofs.Try.f8.params.toList = some argsG := by kernel_rfl
theorem law_seglognil (us : List Val) (hT : HasT argsG us) : ∃ n h', run tn.get n 8 us heap0 = some (.bool true, h') := by
  cases hT with | cons _ _ _ us0 vs0 hL0 hT =>
  cases hT with | cons _ _ _ us1 vs1 hL1 hT =>
  cases hT with | cons _ _ _ us2 vs2 hL2 hT =>
  cases hT
  cases hL0 with | cons _ _ v0 _ h0 hL0 =>
  cases hL0
  cases hL1 with | cons _ _ v1 _ h1 hL1 =>
  cases hL1
  cases hL2 with | cons _ _ v5 _ h5 hL2 =>
  cases hL2 with | cons _ _ v6 _ h6 hL2 =>
  cases hL2
  cases h6 with | s s =>
  cases h0 with | i _ a0 _ =>
  cases h1 with | i _ a1 _ =>
  refine ⟨30, ?_⟩
  rw [← runS_eq sim_fn]
  show ∃ h', s8 (runS fn 29) 29 (.int .i64 a0) (.int .i64 a1) (.agg [v5, .str s]) heap0 = some (.bool true, h')
  simp only [s8, mk]
  rw [boxC_e (z := 2) rfl, faC_p]
  rw [ldC_p (blk_add_same _) (by simp [cells])]
  simp only [cells, List.drop_succ_cons, List.drop_zero, List.take_succ_cons, List.take_zero, mk_f, lensC_s, cmC_int, Nat.zero_add]
  cases hb : icmp COp.gt (s.length : Int) 900 with
  | true => exact ex_of (by kernel_rfl)
  | false => exact ex_of (by kernel_rfl)
end Go.AM.T

import Derived.Test.YtfpkdeokpomocaaNP2
import Derived.Test.YtfpkdeokpomocaaNS
import Derived.Test.YtfpkdeokpomocaaAMSym2
set_option linter.constructorNameAsVariable false
set_option maxRecDepth 1000000
set_option linter.unusedVariables false
set_option linter.unusedSimpArgs false
namespace Go.AM.T
open Go Go.AM
def tn : TT := .node 86 (.node 62 (.node 26 (.node 20 (.node 14 (.leaf 6 F6) (.node 19 (.leaf 14 (.prim (sumF gTrue))) (.leaf 19 F19))) (.node 23 (.node 21 (.leaf 20 F20) (.leaf 21 F21)) (.node 24 (.leaf 23 F23) (.leaf 24 F24)))) (.node 30 (.node 28 (.node 27 (.leaf 26 F26) (.leaf 27 F27)) (.node 29 (.leaf 28 F28) (.leaf 29 F29))) (.node 33 (.node 31 (.leaf 30 F30) (.leaf 31 F31)) (.node 34 (.leaf 33 F33) (.leaf 34 F34))))) (.node 75 (.node 71 (.node 69 (.node 63 (.leaf 62 F62) (.leaf 63 F63)) (.node 70 (.leaf 69 F69) (.leaf 70 F70))) (.node 73 (.node 72 (.leaf 71 F71) (.leaf 72 F72)) (.node 74 (.leaf 73 F73) (.leaf 74 F74)))) (.node 79 (.node 77 (.node 76 (.leaf 75 F75) (.leaf 76 F76)) (.node 78 (.leaf 77 F77) (.leaf 78 F78))) (.node 84 (.node 83 (.leaf 79 F79) (.leaf 83 F83)) (.node 85 (.leaf 84 F84) (.leaf 85 F85)))))) (.node 129 (.node 121 (.node 114 (.node 88 (.node 87 (.leaf 86 F86) (.leaf 87 F87)) (.node 104 (.leaf 88 (.prim pRepeat)) (.leaf 104 F104))) (.node 116 (.node 115 (.leaf 114 F114) (.leaf 115 F115)) (.node 120 (.leaf 116 F116) (.leaf 120 F120)))) (.node 125 (.node 123 (.node 122 (.leaf 121 F121) (.leaf 122 F122)) (.node 124 (.leaf 123 F123) (.leaf 124 F124))) (.node 127 (.node 126 (.leaf 125 F125) (.leaf 126 F126)) (.node 128 (.leaf 127 F127) (.leaf 128 (.prim pJoin)))))) (.node 155 (.node 133 (.node 131 (.node 130 (.leaf 129 F129) (.leaf 130 F130)) (.node 132 (.leaf 131 F131) (.leaf 132 F132))) (.node 135 (.node 134 (.leaf 133 F133) (.leaf 134 F134)) (.node 153 (.leaf 135 F135) (.leaf 153 F153)))) (.node 159 (.node 157 (.node 156 (.leaf 155 F155) (.leaf 156 F156)) (.node 158 (.leaf 157 F157) (.leaf 158 F158))) (.node 161 (.node 160 (.leaf 159 F159) (.leaf 160 F160)) (.node 171 (.leaf 161 F161) (.leaf 171 F171))))))
theorem tn_6 : tn.get 6 = some F6 := rfl
theorem tn_14 : tn.get 14 = some (.prim (sumF gTrue)) := rfl
theorem tn_19 : tn.get 19 = some F19 := rfl
theorem tn_20 : tn.get 20 = some F20 := rfl
theorem tn_21 : tn.get 21 = some F21 := rfl
theorem tn_23 : tn.get 23 = some F23 := rfl
theorem tn_24 : tn.get 24 = some F24 := rfl
theorem tn_26 : tn.get 26 = some F26 := rfl
theorem tn_27 : tn.get 27 = some F27 := rfl
theorem tn_28 : tn.get 28 = some F28 := rfl
theorem tn_29 : tn.get 29 = some F29 := rfl
theorem tn_30 : tn.get 30 = some F30 := rfl
theorem tn_31 : tn.get 31 = some F31 := rfl
theorem tn_33 : tn.get 33 = some F33 := rfl
theorem tn_34 : tn.get 34 = some F34 := rfl
theorem tn_62 : tn.get 62 = some F62 := rfl
theorem tn_63 : tn.get 63 = some F63 := rfl
theorem tn_69 : tn.get 69 = some F69 := rfl
theorem tn_70 : tn.get 70 = some F70 := rfl
theorem tn_71 : tn.get 71 = some F71 := rfl
theorem tn_72 : tn.get 72 = some F72 := rfl
theorem tn_73 : tn.get 73 = some F73 := rfl
theorem tn_74 : tn.get 74 = some F74 := rfl
theorem tn_75 : tn.get 75 = some F75 := rfl
theorem tn_76 : tn.get 76 = some F76 := rfl
theorem tn_77 : tn.get 77 = some F77 := rfl
theorem tn_78 : tn.get 78 = some F78 := rfl
theorem tn_79 : tn.get 79 = some F79 := rfl
theorem tn_83 : tn.get 83 = some F83 := rfl
theorem tn_84 : tn.get 84 = some F84 := rfl
theorem tn_85 : tn.get 85 = some F85 := rfl
theorem tn_86 : tn.get 86 = some F86 := rfl
theorem tn_87 : tn.get 87 = some F87 := rfl
theorem tn_88 : tn.get 88 = some (.prim pRepeat) := rfl
theorem tn_104 : tn.get 104 = some F104 := rfl
theorem tn_114 : tn.get 114 = some F114 := rfl
theorem tn_115 : tn.get 115 = some F115 := rfl
theorem tn_116 : tn.get 116 = some F116 := rfl
theorem tn_120 : tn.get 120 = some F120 := rfl
theorem tn_121 : tn.get 121 = some F121 := rfl
theorem tn_122 : tn.get 122 = some F122 := rfl
theorem tn_123 : tn.get 123 = some F123 := rfl
theorem tn_124 : tn.get 124 = some F124 := rfl
theorem tn_125 : tn.get 125 = some F125 := rfl
theorem tn_126 : tn.get 126 = some F126 := rfl
theorem tn_127 : tn.get 127 = some F127 := rfl
theorem tn_128 : tn.get 128 = some (.prim pJoin) := rfl
theorem tn_129 : tn.get 129 = some F129 := rfl
theorem tn_130 : tn.get 130 = some F130 := rfl
theorem tn_131 : tn.get 131 = some F131 := rfl
theorem tn_132 : tn.get 132 = some F132 := rfl
theorem tn_133 : tn.get 133 = some F133 := rfl
theorem tn_134 : tn.get 134 = some F134 := rfl
theorem tn_135 : tn.get 135 = some F135 := rfl
theorem tn_153 : tn.get 153 = some F153 := rfl
theorem tn_155 : tn.get 155 = some F155 := rfl
theorem tn_156 : tn.get 156 = some F156 := rfl
theorem tn_157 : tn.get 157 = some F157 := rfl
theorem tn_158 : tn.get 158 = some F158 := rfl
theorem tn_159 : tn.get 159 = some F159 := rfl
theorem tn_160 : tn.get 160 = some F160 := rfl
theorem tn_161 : tn.get 161 = some F161 := rfl
theorem tn_171 : tn.get 171 = some F171 := rfl
theorem tn_r6 {m : Nat} (hm : 0 < m) (a0 : Val) (a1 : Val) (a2 : Val) (h : Heap) : run tn.get m 6 [a0, a1, a2] h = s6 (run tn.get (m - 1)) (m - 1) a0 a1 a2 h := by
  obtain ⟨m, rfl⟩ : ∃ q, m = q + 1 := ⟨m - 1, by omega⟩
  rw [run_succ tn_6, e6]; rfl
theorem tn_r14 {m : Nat} (hm : 0 < m) (xs : List Val) (h : Heap) : run tn.get m 14 xs h = ((sumF gTrue)) xs h := by
  obtain ⟨m, rfl⟩ : ∃ q, m = q + 1 := ⟨m - 1, by omega⟩
  rw [run_succ tn_14]; rfl
theorem tn_r19 {m : Nat} (hm : 0 < m) (h : Heap) : run tn.get m 19 [] h = s19 (run tn.get (m - 1)) (m - 1) h := by
  obtain ⟨m, rfl⟩ : ∃ q, m = q + 1 := ⟨m - 1, by omega⟩
  rw [run_succ tn_19, e19]; rfl
theorem tn_r20 {m : Nat} (hm : 0 < m) (a0 : Val) (a1 : Val) (a2 : Val) (h : Heap) : run tn.get m 20 [a0, a1, a2] h = s20 (run tn.get (m - 1)) (m - 1) a0 a1 a2 h := by
  obtain ⟨m, rfl⟩ : ∃ q, m = q + 1 := ⟨m - 1, by omega⟩
  rw [run_succ tn_20, e20]; rfl
theorem tn_r21 {m : Nat} (hm : 0 < m) (a0 : Val) (a1 : Val) (h : Heap) : run tn.get m 21 [a0, a1] h = s21 (run tn.get (m - 1)) (m - 1) a0 a1 h := by
  obtain ⟨m, rfl⟩ : ∃ q, m = q + 1 := ⟨m - 1, by omega⟩
  rw [run_succ tn_21, e21]; rfl
theorem tn_r23 {m : Nat} (hm : 0 < m) (a0 : Val) (a1 : Val) (h : Heap) : run tn.get m 23 [a0, a1] h = s23 (run tn.get (m - 1)) (m - 1) a0 a1 h := by
  obtain ⟨m, rfl⟩ : ∃ q, m = q + 1 := ⟨m - 1, by omega⟩
  rw [run_succ tn_23, e23]; rfl
theorem tn_r24 {m : Nat} (hm : 0 < m) (a0 : Val) (h : Heap) : run tn.get m 24 [a0] h = s24 (run tn.get (m - 1)) (m - 1) a0 h := by
  obtain ⟨m, rfl⟩ : ∃ q, m = q + 1 := ⟨m - 1, by omega⟩
  rw [run_succ tn_24, e24]; rfl
theorem tn_r26 {m : Nat} (hm : 0 < m) (a0 : Val) (h : Heap) : run tn.get m 26 [a0] h = s26 (run tn.get (m - 1)) (m - 1) a0 h := by
  obtain ⟨m, rfl⟩ : ∃ q, m = q + 1 := ⟨m - 1, by omega⟩
  rw [run_succ tn_26, e26]; rfl
theorem tn_r27 {m : Nat} (hm : 0 < m) (a0 : Val) (h : Heap) : run tn.get m 27 [a0] h = s27 (run tn.get (m - 1)) (m - 1) a0 h := by
  obtain ⟨m, rfl⟩ : ∃ q, m = q + 1 := ⟨m - 1, by omega⟩
  rw [run_succ tn_27, e27]; rfl
theorem tn_r28 {m : Nat} (hm : 0 < m) (a0 : Val) (h : Heap) : run tn.get m 28 [a0] h = s28 (run tn.get (m - 1)) (m - 1) a0 h := by
  obtain ⟨m, rfl⟩ : ∃ q, m = q + 1 := ⟨m - 1, by omega⟩
  rw [run_succ tn_28, e28]; rfl
theorem tn_r29 {m : Nat} (hm : 0 < m) (a0 : Val) (h : Heap) : run tn.get m 29 [a0] h = s29 (run tn.get (m - 1)) (m - 1) a0 h := by
  obtain ⟨m, rfl⟩ : ∃ q, m = q + 1 := ⟨m - 1, by omega⟩
  rw [run_succ tn_29, e29]; rfl
theorem tn_r30 {m : Nat} (hm : 0 < m) (a0 : Val) (a1 : Val) (a2 : Val) (h : Heap) : run tn.get m 30 [a0, a1, a2] h = s30 (run tn.get (m - 1)) (m - 1) a0 a1 a2 h := by
  obtain ⟨m, rfl⟩ : ∃ q, m = q + 1 := ⟨m - 1, by omega⟩
  rw [run_succ tn_30, e30]; rfl
theorem tn_r31 {m : Nat} (hm : 0 < m) (a0 : Val) (a1 : Val) (h : Heap) : run tn.get m 31 [a0, a1] h = s31 (run tn.get (m - 1)) (m - 1) a0 a1 h := by
  obtain ⟨m, rfl⟩ : ∃ q, m = q + 1 := ⟨m - 1, by omega⟩
  rw [run_succ tn_31, e31]; rfl
theorem tn_r33 {m : Nat} (hm : 0 < m) (a0 : Val) (h : Heap) : run tn.get m 33 [a0] h = s33 (run tn.get (m - 1)) (m - 1) a0 h := by
  obtain ⟨m, rfl⟩ : ∃ q, m = q + 1 := ⟨m - 1, by omega⟩
  rw [run_succ tn_33, e33]; rfl
theorem tn_r34 {m : Nat} (hm : 0 < m) (a0 : Val) (h : Heap) : run tn.get m 34 [a0] h = s34 (run tn.get (m - 1)) (m - 1) a0 h := by
  obtain ⟨m, rfl⟩ : ∃ q, m = q + 1 := ⟨m - 1, by omega⟩
  rw [run_succ tn_34, e34]; rfl
theorem tn_r62 {m : Nat} (hm : 0 < m) (a0 : Val) (a1 : Val) (h : Heap) : run tn.get m 62 [a0, a1] h = s62 (run tn.get (m - 1)) (m - 1) a0 a1 h := by
  obtain ⟨m, rfl⟩ : ∃ q, m = q + 1 := ⟨m - 1, by omega⟩
  rw [run_succ tn_62, e62]; rfl
theorem tn_r63 {m : Nat} (hm : 0 < m) (a0 : Val) (h : Heap) : run tn.get m 63 [a0] h = s63 (run tn.get (m - 1)) (m - 1) a0 h := by
  obtain ⟨m, rfl⟩ : ∃ q, m = q + 1 := ⟨m - 1, by omega⟩
  rw [run_succ tn_63, e63]; rfl
theorem tn_r69 {m : Nat} (hm : 0 < m) (a0 : Val) (a1 : Val) (a2 : Val) (h : Heap) : run tn.get m 69 [a0, a1, a2] h = s69 (run tn.get (m - 1)) (m - 1) a0 a1 a2 h := by
  obtain ⟨m, rfl⟩ : ∃ q, m = q + 1 := ⟨m - 1, by omega⟩
  rw [run_succ tn_69, e69]; rfl
theorem tn_r70 {m : Nat} (hm : 0 < m) (a0 : Val) (h : Heap) : run tn.get m 70 [a0] h = s70 (run tn.get (m - 1)) (m - 1) a0 h := by
  obtain ⟨m, rfl⟩ : ∃ q, m = q + 1 := ⟨m - 1, by omega⟩
  rw [run_succ tn_70, e70]; rfl
theorem tn_r71 {m : Nat} (hm : 0 < m) (a0 : Val) (a1 : Val) (a2 : Val) (h : Heap) : run tn.get m 71 [a0, a1, a2] h = s71 (run tn.get (m - 1)) (m - 1) a0 a1 a2 h := by
  obtain ⟨m, rfl⟩ : ∃ q, m = q + 1 := ⟨m - 1, by omega⟩
  rw [run_succ tn_71, e71]; rfl
theorem tn_r72 {m : Nat} (hm : 0 < m) (a0 : Val) (a1 : Val) (h : Heap) : run tn.get m 72 [a0, a1] h = s72 (run tn.get (m - 1)) (m - 1) a0 a1 h := by
  obtain ⟨m, rfl⟩ : ∃ q, m = q + 1 := ⟨m - 1, by omega⟩
  rw [run_succ tn_72, e72]; rfl
theorem tn_r73 {m : Nat} (hm : 0 < m) (a0 : Val) (a1 : Val) (h : Heap) : run tn.get m 73 [a0, a1] h = s73 (run tn.get (m - 1)) (m - 1) a0 a1 h := by
  obtain ⟨m, rfl⟩ : ∃ q, m = q + 1 := ⟨m - 1, by omega⟩
  rw [run_succ tn_73, e73]; rfl
theorem tn_r74 {m : Nat} (hm : 0 < m) (a0 : Val) (a1 : Val) (a2 : Val) (h : Heap) : run tn.get m 74 [a0, a1, a2] h = s74 (run tn.get (m - 1)) (m - 1) a0 a1 a2 h := by
  obtain ⟨m, rfl⟩ : ∃ q, m = q + 1 := ⟨m - 1, by omega⟩
  rw [run_succ tn_74, e74]; rfl
theorem tn_r75 {m : Nat} (hm : 0 < m) (a0 : Val) (a1 : Val) (a2 : Val) (h : Heap) : run tn.get m 75 [a0, a1, a2] h = s75 (run tn.get (m - 1)) (m - 1) a0 a1 a2 h := by
  obtain ⟨m, rfl⟩ : ∃ q, m = q + 1 := ⟨m - 1, by omega⟩
  rw [run_succ tn_75, e75]; rfl
theorem tn_r76 {m : Nat} (hm : 0 < m) (a0 : Val) (a1 : Val) (h : Heap) : run tn.get m 76 [a0, a1] h = s76 (run tn.get (m - 1)) (m - 1) a0 a1 h := by
  obtain ⟨m, rfl⟩ : ∃ q, m = q + 1 := ⟨m - 1, by omega⟩
  rw [run_succ tn_76, e76]; rfl
theorem tn_r77 {m : Nat} (hm : 0 < m) (a0 : Val) (a1 : Val) (h : Heap) : run tn.get m 77 [a0, a1] h = s77 (run tn.get (m - 1)) (m - 1) a0 a1 h := by
  obtain ⟨m, rfl⟩ : ∃ q, m = q + 1 := ⟨m - 1, by omega⟩
  rw [run_succ tn_77, e77]; rfl
theorem tn_r78 {m : Nat} (hm : 0 < m) (a0 : Val) (h : Heap) : run tn.get m 78 [a0] h = s78 (run tn.get (m - 1)) (m - 1) a0 h := by
  obtain ⟨m, rfl⟩ : ∃ q, m = q + 1 := ⟨m - 1, by omega⟩
  rw [run_succ tn_78, e78]; rfl
theorem tn_r79 {m : Nat} (hm : 0 < m) (a0 : Val) (h : Heap) : run tn.get m 79 [a0] h = s79 (run tn.get (m - 1)) (m - 1) a0 h := by
  obtain ⟨m, rfl⟩ : ∃ q, m = q + 1 := ⟨m - 1, by omega⟩
  rw [run_succ tn_79, e79]; rfl
theorem tn_r83 {m : Nat} (hm : 0 < m) (a0 : Val) (a1 : Val) (a2 : Val) (h : Heap) : run tn.get m 83 [a0, a1, a2] h = s83 (run tn.get (m - 1)) (m - 1) a0 a1 a2 h := by
  obtain ⟨m, rfl⟩ : ∃ q, m = q + 1 := ⟨m - 1, by omega⟩
  rw [run_succ tn_83, e83]; rfl
theorem tn_r84 {m : Nat} (hm : 0 < m) (a0 : Val) (h : Heap) : run tn.get m 84 [a0] h = s84 (run tn.get (m - 1)) (m - 1) a0 h := by
  obtain ⟨m, rfl⟩ : ∃ q, m = q + 1 := ⟨m - 1, by omega⟩
  rw [run_succ tn_84, e84]; rfl
theorem tn_r85 {m : Nat} (hm : 0 < m) (a0 : Val) (a1 : Val) (a2 : Val) (a3 : Val) (h : Heap) : run tn.get m 85 [a0, a1, a2, a3] h = s85 (run tn.get (m - 1)) (m - 1) a0 a1 a2 a3 h := by
  obtain ⟨m, rfl⟩ : ∃ q, m = q + 1 := ⟨m - 1, by omega⟩
  rw [run_succ tn_85, e85]; rfl
theorem tn_r86 {m : Nat} (hm : 0 < m) (a0 : Val) (h : Heap) : run tn.get m 86 [a0] h = s86 (run tn.get (m - 1)) (m - 1) a0 h := by
  obtain ⟨m, rfl⟩ : ∃ q, m = q + 1 := ⟨m - 1, by omega⟩
  rw [run_succ tn_86, e86]; rfl
theorem tn_r87 {m : Nat} (hm : 0 < m) (a0 : Val) (h : Heap) : run tn.get m 87 [a0] h = s87 (run tn.get (m - 1)) (m - 1) a0 h := by
  obtain ⟨m, rfl⟩ : ∃ q, m = q + 1 := ⟨m - 1, by omega⟩
  rw [run_succ tn_87, e87]; rfl
theorem tn_r88 {m : Nat} (hm : 0 < m) (xs : List Val) (h : Heap) : run tn.get m 88 xs h = pRepeat xs h := by
  obtain ⟨m, rfl⟩ : ∃ q, m = q + 1 := ⟨m - 1, by omega⟩
  rw [run_succ tn_88]; rfl
theorem tn_r104 {m : Nat} (hm : 0 < m) (a0 : Val) (h : Heap) : run tn.get m 104 [a0] h = s104 (run tn.get (m - 1)) (m - 1) a0 h := by
  obtain ⟨m, rfl⟩ : ∃ q, m = q + 1 := ⟨m - 1, by omega⟩
  rw [run_succ tn_104, e104]; rfl
theorem tn_r114 {m : Nat} (hm : 0 < m) (a0 : Val) (a1 : Val) (h : Heap) : run tn.get m 114 [a0, a1] h = s114 (run tn.get (m - 1)) (m - 1) a0 a1 h := by
  obtain ⟨m, rfl⟩ : ∃ q, m = q + 1 := ⟨m - 1, by omega⟩
  rw [run_succ tn_114, e114]; rfl
theorem tn_r115 {m : Nat} (hm : 0 < m) (a0 : Val) (h : Heap) : run tn.get m 115 [a0] h = s115 (run tn.get (m - 1)) (m - 1) a0 h := by
  obtain ⟨m, rfl⟩ : ∃ q, m = q + 1 := ⟨m - 1, by omega⟩
  rw [run_succ tn_115, e115]; rfl
theorem tn_r116 {m : Nat} (hm : 0 < m) (a0 : Val) (a1 : Val) (h : Heap) : run tn.get m 116 [a0, a1] h = s116 (run tn.get (m - 1)) (m - 1) a0 a1 h := by
  obtain ⟨m, rfl⟩ : ∃ q, m = q + 1 := ⟨m - 1, by omega⟩
  rw [run_succ tn_116, e116]; rfl
theorem tn_r120 {m : Nat} (hm : 0 < m) (a0 : Val) (h : Heap) : run tn.get m 120 [a0] h = s120 (run tn.get (m - 1)) (m - 1) a0 h := by
  obtain ⟨m, rfl⟩ : ∃ q, m = q + 1 := ⟨m - 1, by omega⟩
  rw [run_succ tn_120, e120]; rfl
theorem tn_r121 {m : Nat} (hm : 0 < m) (a0 : Val) (a1 : Val) (h : Heap) : run tn.get m 121 [a0, a1] h = s121 (run tn.get (m - 1)) (m - 1) a0 a1 h := by
  obtain ⟨m, rfl⟩ : ∃ q, m = q + 1 := ⟨m - 1, by omega⟩
  rw [run_succ tn_121, e121]; rfl
theorem tn_r122 {m : Nat} (hm : 0 < m) (a0 : Val) (h : Heap) : run tn.get m 122 [a0] h = s122 (run tn.get (m - 1)) (m - 1) a0 h := by
  obtain ⟨m, rfl⟩ : ∃ q, m = q + 1 := ⟨m - 1, by omega⟩
  rw [run_succ tn_122, e122]; rfl
theorem tn_r123 {m : Nat} (hm : 0 < m) (a0 : Val) (h : Heap) : run tn.get m 123 [a0] h = s123 (run tn.get (m - 1)) (m - 1) a0 h := by
  obtain ⟨m, rfl⟩ : ∃ q, m = q + 1 := ⟨m - 1, by omega⟩
  rw [run_succ tn_123, e123]; rfl
theorem tn_r124 {m : Nat} (hm : 0 < m) (a0 : Val) (h : Heap) : run tn.get m 124 [a0] h = s124 (run tn.get (m - 1)) (m - 1) a0 h := by
  obtain ⟨m, rfl⟩ : ∃ q, m = q + 1 := ⟨m - 1, by omega⟩
  rw [run_succ tn_124, e124]; rfl
theorem tn_r125 {m : Nat} (hm : 0 < m) (a0 : Val) (a1 : Val) (a2 : Val) (h : Heap) : run tn.get m 125 [a0, a1, a2] h = s125 (run tn.get (m - 1)) (m - 1) a0 a1 a2 h := by
  obtain ⟨m, rfl⟩ : ∃ q, m = q + 1 := ⟨m - 1, by omega⟩
  rw [run_succ tn_125, e125]; rfl
theorem tn_r126 {m : Nat} (hm : 0 < m) (a0 : Val) (h : Heap) : run tn.get m 126 [a0] h = s126 (run tn.get (m - 1)) (m - 1) a0 h := by
  obtain ⟨m, rfl⟩ : ∃ q, m = q + 1 := ⟨m - 1, by omega⟩
  rw [run_succ tn_126, e126]; rfl
theorem tn_r127 {m : Nat} (hm : 0 < m) (a0 : Val) (a1 : Val) (a2 : Val) (h : Heap) : run tn.get m 127 [a0, a1, a2] h = s127 (run tn.get (m - 1)) (m - 1) a0 a1 a2 h := by
  obtain ⟨m, rfl⟩ : ∃ q, m = q + 1 := ⟨m - 1, by omega⟩
  rw [run_succ tn_127, e127]; rfl
theorem tn_r128 {m : Nat} (hm : 0 < m) (xs : List Val) (h : Heap) : run tn.get m 128 xs h = pJoin xs h := by
  obtain ⟨m, rfl⟩ : ∃ q, m = q + 1 := ⟨m - 1, by omega⟩
  rw [run_succ tn_128]; rfl
theorem tn_r129 {m : Nat} (hm : 0 < m) (a0 : Val) (h : Heap) : run tn.get m 129 [a0] h = s129 (run tn.get (m - 1)) (m - 1) a0 h := by
  obtain ⟨m, rfl⟩ : ∃ q, m = q + 1 := ⟨m - 1, by omega⟩
  rw [run_succ tn_129, e129]; rfl
theorem tn_r130 {m : Nat} (hm : 0 < m) (a0 : Val) (a1 : Val) (h : Heap) : run tn.get m 130 [a0, a1] h = s130 (run tn.get (m - 1)) (m - 1) a0 a1 h := by
  obtain ⟨m, rfl⟩ : ∃ q, m = q + 1 := ⟨m - 1, by omega⟩
  rw [run_succ tn_130, e130]; rfl
theorem tn_r131 {m : Nat} (hm : 0 < m) (a0 : Val) (a1 : Val) (a2 : Val) (h : Heap) : run tn.get m 131 [a0, a1, a2] h = s131 (run tn.get (m - 1)) (m - 1) a0 a1 a2 h := by
  obtain ⟨m, rfl⟩ : ∃ q, m = q + 1 := ⟨m - 1, by omega⟩
  rw [run_succ tn_131, e131]; rfl
theorem tn_r132 {m : Nat} (hm : 0 < m) (a0 : Val) (a1 : Val) (a2 : Val) (h : Heap) : run tn.get m 132 [a0, a1, a2] h = s132 (run tn.get (m - 1)) (m - 1) a0 a1 a2 h := by
  obtain ⟨m, rfl⟩ : ∃ q, m = q + 1 := ⟨m - 1, by omega⟩
  rw [run_succ tn_132, e132]; rfl
theorem tn_r133 {m : Nat} (hm : 0 < m) (a0 : Val) (h : Heap) : run tn.get m 133 [a0] h = s133 (run tn.get (m - 1)) (m - 1) a0 h := by
  obtain ⟨m, rfl⟩ : ∃ q, m = q + 1 := ⟨m - 1, by omega⟩
  rw [run_succ tn_133, e133]; rfl
theorem tn_r134 {m : Nat} (hm : 0 < m) (a0 : Val) (a1 : Val) (h : Heap) : run tn.get m 134 [a0, a1] h = s134 (run tn.get (m - 1)) (m - 1) a0 a1 h := by
  obtain ⟨m, rfl⟩ : ∃ q, m = q + 1 := ⟨m - 1, by omega⟩
  rw [run_succ tn_134, e134]; rfl
theorem tn_r135 {m : Nat} (hm : 0 < m) (a0 : Val) (a1 : Val) (h : Heap) : run tn.get m 135 [a0, a1] h = s135 (run tn.get (m - 1)) (m - 1) a0 a1 h := by
  obtain ⟨m, rfl⟩ : ∃ q, m = q + 1 := ⟨m - 1, by omega⟩
  rw [run_succ tn_135, e135]; rfl
theorem tn_r153 {m : Nat} (hm : 0 < m) (a0 : Val) (a1 : Val) (h : Heap) : run tn.get m 153 [a0, a1] h = s153 (run tn.get (m - 1)) (m - 1) a0 a1 h := by
  obtain ⟨m, rfl⟩ : ∃ q, m = q + 1 := ⟨m - 1, by omega⟩
  rw [run_succ tn_153, e153]; rfl
theorem tn_r155 {m : Nat} (hm : 0 < m) (a0 : Val) (h : Heap) : run tn.get m 155 [a0] h = s155 (run tn.get (m - 1)) (m - 1) a0 h := by
  obtain ⟨m, rfl⟩ : ∃ q, m = q + 1 := ⟨m - 1, by omega⟩
  rw [run_succ tn_155, e155]; rfl
theorem tn_r156 {m : Nat} (hm : 0 < m) (a0 : Val) (h : Heap) : run tn.get m 156 [a0] h = s156 (run tn.get (m - 1)) (m - 1) a0 h := by
  obtain ⟨m, rfl⟩ : ∃ q, m = q + 1 := ⟨m - 1, by omega⟩
  rw [run_succ tn_156, e156]; rfl
theorem tn_r157 {m : Nat} (hm : 0 < m) (a0 : Val) (h : Heap) : run tn.get m 157 [a0] h = s157 (run tn.get (m - 1)) (m - 1) a0 h := by
  obtain ⟨m, rfl⟩ : ∃ q, m = q + 1 := ⟨m - 1, by omega⟩
  rw [run_succ tn_157, e157]; rfl
theorem tn_r158 {m : Nat} (hm : 0 < m) (a0 : Val) (a1 : Val) (h : Heap) : run tn.get m 158 [a0, a1] h = s158 (run tn.get (m - 1)) (m - 1) a0 a1 h := by
  obtain ⟨m, rfl⟩ : ∃ q, m = q + 1 := ⟨m - 1, by omega⟩
  rw [run_succ tn_158, e158]; rfl
theorem tn_r159 {m : Nat} (hm : 0 < m) (a0 : Val) (h : Heap) : run tn.get m 159 [a0] h = s159 (run tn.get (m - 1)) (m - 1) a0 h := by
  obtain ⟨m, rfl⟩ : ∃ q, m = q + 1 := ⟨m - 1, by omega⟩
  rw [run_succ tn_159, e159]; rfl
theorem tn_r160 {m : Nat} (hm : 0 < m) (a0 : Val) (a1 : Val) (h : Heap) : run tn.get m 160 [a0, a1] h = s160 (run tn.get (m - 1)) (m - 1) a0 a1 h := by
  obtain ⟨m, rfl⟩ : ∃ q, m = q + 1 := ⟨m - 1, by omega⟩
  rw [run_succ tn_160, e160]; rfl
theorem tn_r161 {m : Nat} (hm : 0 < m) (a0 : Val) (h : Heap) : run tn.get m 161 [a0] h = s161 (run tn.get (m - 1)) (m - 1) a0 h := by
  obtain ⟨m, rfl⟩ : ∃ q, m = q + 1 := ⟨m - 1, by omega⟩
  rw [run_succ tn_161, e161]; rfl
theorem tn_r171 {m : Nat} (hm : 0 < m) (a0 : Val) (a1 : Val) (h : Heap) : run tn.get m 171 [a0, a1] h = s171 (run tn.get (m - 1)) (m - 1) a0 a1 h := by
  obtain ⟨m, rfl⟩ : ∃ q, m = q + 1 := ⟨m - 1, by omega⟩
  rw [run_succ tn_171, e171]; rfl
theorem hp_tn_88 (N : Nat) : PrimOk Q N 88 pRepeat := pr_repeat N
theorem hp_tn_128 (N : Nat) : PrimOk Q N 128 pJoin := pr_join N
theorem hp_tn_14 (N : Nat) : PrimOk Q N 14 (sumF gTrue) := sum_true (calls_of ok_tp) (by kernel_rfl) put_eq N
theorem ok_tn (N : Nat) : tn.All fun f fn => okFn Q (drOk Q) f fn = true ∨ ∃ F, fn = .prim F ∧ PrimOk Q N f F := ⟨⟨⟨⟨⟨.inl ok6, ⟨.inr ⟨_, rfl, hp_tn_14 N⟩, .inl ok19⟩⟩, ⟨⟨.inl ok20, .inl ok21⟩, ⟨.inl ok23, .inl ok24⟩⟩⟩, ⟨⟨⟨.inl ok26, .inl ok27⟩, ⟨.inl ok28, .inl ok29⟩⟩, ⟨⟨.inl ok30, .inl ok31⟩, ⟨.inl ok33, .inl ok34⟩⟩⟩⟩, ⟨⟨⟨⟨.inl ok62, .inl ok63⟩, ⟨.inl ok69, .inl ok70⟩⟩, ⟨⟨.inl ok71, .inl ok72⟩, ⟨.inl ok73, .inl ok74⟩⟩⟩, ⟨⟨⟨.inl ok75, .inl ok76⟩, ⟨.inl ok77, .inl ok78⟩⟩, ⟨⟨.inl ok79, .inl ok83⟩, ⟨.inl ok84, .inl ok85⟩⟩⟩⟩⟩, ⟨⟨⟨⟨⟨.inl ok86, .inl ok87⟩, ⟨.inr ⟨_, rfl, hp_tn_88 N⟩, .inl ok104⟩⟩, ⟨⟨.inl ok114, .inl ok115⟩, ⟨.inl ok116, .inl ok120⟩⟩⟩, ⟨⟨⟨.inl ok121, .inl ok122⟩, ⟨.inl ok123, .inl ok124⟩⟩, ⟨⟨.inl ok125, .inl ok126⟩, ⟨.inl ok127, .inr ⟨_, rfl, hp_tn_128 N⟩⟩⟩⟩⟩, ⟨⟨⟨⟨.inl ok129, .inl ok130⟩, ⟨.inl ok131, .inl ok132⟩⟩, ⟨⟨.inl ok133, .inl ok134⟩, ⟨.inl ok135, .inl ok153⟩⟩⟩, ⟨⟨⟨.inl ok155, .inl ok156⟩, ⟨.inl ok157, .inl ok158⟩⟩, ⟨⟨.inl ok159, .inl ok160⟩, ⟨.inl ok161, .inl ok171⟩⟩⟩⟩⟩⟩
theorem tn_put {n : Nat} (h : Heap) : run tn.get (n + 1) 14 [] h = some (.bool true, h) := rfl
def argsL : List (Bool × List Lf) := [(false, [.i .i64]), (true, [.i .i64, .i .u32, .i .u32, .i .i64]), (true, [.i .i64, .s])]
theorem argsL_eq : argsOf Q Go.Proofs.Try.f6.params.toList = some argsL := by kernel_rfl
theorem ex_of {r : R} {v : Val} (h : r.map (·.1) = some v) : ∃ h', r = some (v, h') := by
  cases r with
  | none => cases h
  | some q => cases h; exact ⟨q.2, rfl⟩
theorem law_nil (us : List Val) (hT : HasT argsL us) : ∃ n h', run tn.get n 6 us heap0 = some (.bool true, h') := by
  cases hT with | cons _ _ _ us0 vs0 hL0 hT =>
  cases hT with | cons _ _ _ us1 vs1 hL1 hT =>
  cases hT with | cons _ _ _ us2 vs2 hL2 hT =>
  cases hT
  cases hL0 with | cons _ _ v0 _ h0 hL0 =>
  cases hL0
  cases hL1 with | cons _ _ v1 _ h1 hL1 =>
  cases hL1 with | cons _ _ v2 _ h2 hL1 =>
  cases hL1 with | cons _ _ v3 _ h3 hL1 =>
  cases hL1 with | cons _ _ v4 _ h4 hL1 =>
  cases hL1
  cases hL2 with | cons _ _ v5 _ h5 hL2 =>
  cases hL2 with | cons _ _ v6 _ h6 hL2 =>
  cases hL2
  cases h6 with | s s =>
  refine ⟨30, ?_⟩
  rw [tn_r6 (by decide)]
  simp only [s6, mk]
  rw [boxC_e (z := 4) rfl, boxC_e (z := 2) rfl, faC_p]
  rw [ldC_p (blk_add_same _) (by simp [cells])]
  simp only [cells, List.drop_succ_cons, List.drop_zero, List.take_succ_cons, List.take_zero, mk_f, lensC_s, cmC_int, Nat.zero_add]
  cases hb : icmp COp.gt (s.length : Int) 900 with
  | true => exact ex_of (by kernel_rfl)
  | false => exact ex_of (by kernel_rfl)
end Go.AM.T

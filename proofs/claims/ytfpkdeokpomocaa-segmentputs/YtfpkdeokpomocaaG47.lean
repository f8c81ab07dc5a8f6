import Derived.Test.YtfpkdeokpomocaaG45
import Derived.Test.YtfpkdeokpomocaaG46
import Derived.Test.YtfpkdeokpomocaaQS
import Derived.Test.YtfpkdeokpomocaaAMFast
import Derived.Test.YtfpkdeokpomocaaAMRow3
set_option linter.constructorNameAsVariable false
set_option linter.unusedVariables false
set_option linter.unusedSimpArgs false
set_option maxRecDepth 1000000
set_option linter.unusedVariables false
set_option linter.unusedSimpArgs false
namespace Go.AM.T
open Go Go.AM
theorem hp_t4_63 (N : Nat) : PrimOk Q N 63 (sumF gROpen) := ok_ropen N
theorem hp_t4_69 (N : Nat) : PrimOk Q N 69 (sumF gRSeal) := ok_rseal N
theorem hp_t4_16 (N : Nat) : PrimOk Q N 16 (sumF gBlank) := ok_blank N
theorem hp_t4_64 (N : Nat) : PrimOk Q N 64 (sumF gPut) := ok_put N
theorem hp_t4_82 (N : Nat) : PrimOk Q N 82 (sumF gRun) := ok_run N
theorem hp_t4_65 (N : Nat) : PrimOk Q N 65 (sumF gRPcs) := ok_rpcs N
theorem hp_t4_68 (N : Nat) : PrimOk Q N 68 (sumF gREnc) := ok_renc N
theorem hp_t4_81 (N : Nat) : PrimOk Q N 81 (sumF gRDec) := ok_rdec N
theorem hp_t4_67 (N : Nat) : PrimOk Q N 67 (sumF gWrong) := ok_wrong N
theorem hp_t4_66 (N : Nat) : PrimOk Q N 66 (sumF gRHEnc) := ok_rhenc N
theorem hp_t4_80 (N : Nat) : PrimOk Q N 80 (sumF gRHDec) := ok_rhdec N
theorem ok_t4 (N : Nat) : t4.All fun f fn => okFn Q (drOk Q) f fn = true ∨ ∃ F, fn = .prim F ∧ PrimOk Q N f F := ⟨⟨⟨⟨.inl ok13, .inl ok15⟩, ⟨.inr ⟨_, rfl, hp_t4_16 N⟩, .inl ok17⟩⟩, ⟨⟨.inl ok18, .inl ok22⟩, ⟨.inr ⟨_, rfl, hp_t4_63 N⟩, .inr ⟨_, rfl, hp_t4_64 N⟩⟩⟩⟩, ⟨⟨⟨.inr ⟨_, rfl, hp_t4_65 N⟩, .inr ⟨_, rfl, hp_t4_66 N⟩⟩, ⟨.inr ⟨_, rfl, hp_t4_67 N⟩, .inr ⟨_, rfl, hp_t4_68 N⟩⟩⟩, ⟨⟨.inr ⟨_, rfl, hp_t4_69 N⟩, .inr ⟨_, rfl, hp_t4_80 N⟩⟩, ⟨.inr ⟨_, rfl, hp_t4_81 N⟩, .inr ⟨_, rfl, hp_t4_82 N⟩⟩⟩⟩⟩
theorem calls_t4 (N n : Nat) : CallOk Q N (run t4.get n) := calls_of ok_t4 N n
theorem pureVs_sec (x : Sec) : pureVs (secC x) = true := pureVs_strs x
theorem pure_made (w : Own) (d : Made) (hw : pureV (.sl w 2 []) = true) : pureVs (madeC w d) = true := by
  unfold madeC
  rw [pureVs_append _ (pureVs_sec _)]
  show (true && (true && (true && (true && (pureV _ && (true && true)))))) = true
  rw [pureV_own w 2 _ hw (pureVs_frs _)]; rfl
theorem ok_create (N : Nat) : PrimOk Q N 15 (sumF gCreate) := by
  refine sum_prim calls_t4 (by kernel_rfl) (fun args v hv => ?_) N
  unfold gCreate at hv
  split at hv
  · rename_i l log gen st base
    split at hv
    · rename_i x hx
      obtain ⟨hb, rfl⟩ := cnd_some hv
      simp only [Bool.and_eq_true, decide_eq_true_eq] at hb
      obtain ⟨⟨⟨⟨⟨⟨h1, h2⟩, h3⟩, h4⟩, h5⟩, h6⟩, h7⟩ := hb
      obtain ⟨gen, rfl, k1⟩ := u32B_iff h1
      obtain ⟨st, rfl, k2⟩ := u32B_iff h2
      obtain ⟨log, rfl⟩ := Int.eq_ofNat_of_zero_le h3
      obtain ⟨base, rfl⟩ := Int.eq_ofNat_of_zero_le h5
      have e1 := strsOf_some hx
      subst e1
      obtain ⟨h', e⟩ := t4_create (m := 30) (log := log) (gen := gen) (st := st) (base := base) (x := x) (by omega) (by omega) k1 k2 (by omega) (Nat.eq_of_beq_eq_true h7) heap0
      refine ⟨?_, pure_made _ _ rfl, _, h', _, e, ?_⟩
      · show (pureVs _ && (true && true)) = true
        rw [pureVs_strs]; rfl
      · show madeV .nl _ = .agg (roVs (madeC .nl _))
        unfold madeC
        rw [roVs_append, roVs_sec]
        rfl
    · cases hv
  · cases hv
theorem ok_append (N : Nat) : PrimOk Q N 17 (sumF gAppend) := by
  refine sum_prim calls_t4 (by kernel_rfl) (fun args v hv => ?_) N
  unfold gAppend at hv
  split at hv
  · rename_i l k p
    split at hv
    · rename_i w d hm
      obtain ⟨hb, rfl⟩ := cnd_some hv
      have hp : p.length ≤ 1000 := by simpa using hb
      obtain ⟨rfl, hd, hw⟩ := madeOf_some hm
      obtain ⟨w', h', e, h1, h2⟩ := t4_append (m := 40) (w := w) hd (f := (k, p)) (by omega) hp Fit.zero
      have ro1 : ∀ (u : Own) (x : List Fr), pureV (.sl u 2 []) = true → roV (.sl u 2 (x.map frV)) = .sl u 2 (x.map frV) := fun u x hu => by
        cases u with
        | tok t => cases hu
        | _ => simp [roV, roVs_frs]
      have roA : ∀ (u v : Own) (r : Made × Nat × Nat), roV (.sl u 2 (r.1.l.map frV)) = .sl v 2 (r.1.l.map frV) → roV (appV u r) = appV v r := fun u v r hr => by
        show Val.agg (roVs (madeC u r.1 ++ [.int .i64 r.2.1, .int .i64 r.2.2])) = _
        unfold madeC appV
        rw [roVs_append, roVs_append, roVs_sec]
        show Val.agg ([.int .i64 r.1.log, .int .u32 r.1.gen, .int .u32 r.1.st, .int .i64 r.1.base, roV (.sl u 2 (r.1.l.map frV)), .int .i64 r.1.e] ++ _ ++ _) = _
        rw [hr]; rfl
      have pA : ∀ (v : Own) (r : Made × Nat × Nat), pureV (.sl v 2 []) = true → pureV (appV v r) = true := fun v r hv => by
        show pureVs (madeC v r.1 ++ [.int .i64 r.2.1, .int .i64 r.2.2]) = true
        exact pureVs_append (pure_made v r.1 hv) rfl
      refine ⟨?_, ?_, _, h', _, e, ?_⟩
      · show (pureVs _ && (pureVs _ && true)) = true
        rw [pure_made w d hw]; rfl
      · split
        · exact pA _ _ rfl
        · exact pA _ _ hw
      · split
        · rename_i h0
          obtain ⟨t, rfl⟩ := h2 h0
          exact (roA _ _ _ (by simp [roV, roVs_frs])).symm
        · rename_i h0
          rw [h1 h0]
          exact (roA _ _ _ (ro1 w _ hw)).symm
    · cases hv
  · cases hv
theorem ok_load (N : Nat) : PrimOk Q N 22 (sumF gLoad) := by
  refine sum_prim calls_t4 (by kernel_rfl) (fun args v hv => ?_) N
  unfold gLoad at hv
  split at hv
  · rename_i l
    split at hv
    · rename_i x hx
      obtain ⟨hb, rfl⟩ := cnd_some hv
      have e1 := strsOf_some hx
      subst e1
      obtain ⟨w, h', e, hw⟩ := t4_load (m := 40) (x := x) (by omega) (Nat.eq_of_beq_eq_true hb) Fit.zero
      refine ⟨?_, ?_, _, h', _, e, ?_⟩
      · show (pureVs _ && true) = true
        rw [pureVs_strs]; rfl
      · cases loadM x with
        | none => rfl
        | some d =>
          obtain ⟨log, gen, st, base, l, e⟩ := d
          cases l with
          | nil => rfl
          | cons f l =>
            show (true && (true && (true && (true && (pureVs ((f :: l).map frV) && (true && (true && true))))))) = true
            rw [pureVs_frs]; rfl
      · cases hl : loadM x with
        | none => rfl
        | some d =>
          obtain ⟨k1, k2⟩ := hw d hl
          obtain ⟨log, gen, st, base, l, en⟩ := d
          cases l with
          | nil => rw [k1 rfl]; rfl
          | cons f l =>
            obtain ⟨t, rfl⟩ := k2 (by simp)
            show _ = Val.agg (roVs (ldedC (.tok t) _))
            show Val.agg (ldedC .ro _) = Val.agg [.int .i64 log, .int .u32 gen, .int .u32 st, .int .i64 base, .sl .ro 2 (roVs ((f :: l).map frV)), .int .i64 en, .bool true]
            rw [roVs_frs]; rfl
    · cases hv
  · cases hv
end Go.AM.T
set_option maxRecDepth 1000000
set_option linter.unusedVariables false
namespace Go.AM.T
open Go Go.AM
def tp : TT := .node 78 (.node 29 (.node 18 (.node 13 (.node 5 (.node 4 (.leaf 3 F3) (.leaf 4 F4)) (.node 11 (.leaf 5 F5) (.node 12 (.leaf 11 F11) (.leaf 12 F12)))) (.node 15 (.node 14 (.leaf 13 F13) (.leaf 14 F14)) (.node 16 (.leaf 15 F15) (.node 17 (.leaf 16 F16) (.leaf 17 F17))))) (.node 23 (.node 20 (.node 19 (.leaf 18 F18) (.leaf 19 F19)) (.node 21 (.leaf 20 F20) (.node 22 (.leaf 21 F21) (.leaf 22 F22)))) (.node 26 (.node 24 (.leaf 23 F23) (.node 25 (.leaf 24 F24) (.leaf 25 F25))) (.node 27 (.leaf 26 F26) (.node 28 (.leaf 27 F27) (.leaf 28 F28)))))) (.node 67 (.node 34 (.node 31 (.node 30 (.leaf 29 F29) (.leaf 30 F30)) (.node 32 (.leaf 31 F31) (.node 33 (.leaf 32 F32) (.leaf 33 F33)))) (.node 64 (.node 62 (.leaf 34 F34) (.node 63 (.leaf 62 F62) (.leaf 63 F63))) (.node 65 (.leaf 64 F64) (.node 66 (.leaf 65 F65) (.leaf 66 F66))))) (.node 72 (.node 69 (.node 68 (.leaf 67 F67) (.leaf 68 F68)) (.node 70 (.leaf 69 F69) (.node 71 (.leaf 70 F70) (.leaf 71 F71)))) (.node 75 (.node 73 (.leaf 72 F72) (.node 74 (.leaf 73 F73) (.leaf 74 F74))) (.node 76 (.leaf 75 F75) (.node 77 (.leaf 76 F76) (.leaf 77 F77))))))) (.node 124 (.node 104 (.node 83 (.node 80 (.node 79 (.leaf 78 F78) (.leaf 79 F79)) (.node 81 (.leaf 80 F80) (.node 82 (.leaf 81 F81) (.leaf 82 F82)))) (.node 86 (.node 84 (.leaf 83 F83) (.node 85 (.leaf 84 F84) (.leaf 85 F85))) (.node 87 (.leaf 86 F86) (.node 88 (.leaf 87 F87) (.leaf 88 (.prim pRepeat)))))) (.node 118 (.node 115 (.node 114 (.leaf 104 F104) (.leaf 114 F114)) (.node 116 (.leaf 115 F115) (.node 117 (.leaf 116 F116) (.leaf 117 F117)))) (.node 121 (.node 119 (.leaf 118 F118) (.node 120 (.leaf 119 F119) (.leaf 120 F120))) (.node 122 (.leaf 121 F121) (.node 123 (.leaf 122 F122) (.leaf 123 F123)))))) (.node 135 (.node 129 (.node 126 (.node 125 (.leaf 124 F124) (.leaf 125 F125)) (.node 127 (.leaf 126 F126) (.node 128 (.leaf 127 F127) (.leaf 128 (.prim pJoin))))) (.node 132 (.node 130 (.leaf 129 F129) (.node 131 (.leaf 130 F130) (.leaf 131 F131))) (.node 133 (.leaf 132 F132) (.node 134 (.leaf 133 F133) (.leaf 134 F134))))) (.node 157 (.node 154 (.node 153 (.leaf 135 F135) (.leaf 153 F153)) (.node 155 (.leaf 154 F154) (.node 156 (.leaf 155 F155) (.leaf 156 F156)))) (.node 160 (.node 158 (.leaf 157 F157) (.node 159 (.leaf 158 F158) (.leaf 159 F159))) (.node 161 (.leaf 160 F160) (.node 171 (.leaf 161 F161) (.leaf 171 F171)))))))
def fp : ST := .node 78 (.node 29 (.node 18 (.node 13 (.node 5 (.node 4 (.leaf 3 (ap3 s3)) (.leaf 4 (ap2 s4))) (.node 11 (.leaf 5 (ap3 s5)) (.node 12 (.leaf 11 (ap1 s11)) (.leaf 12 (ap1 s12))))) (.node 15 (.node 14 (.leaf 13 (ap1 s13)) (.leaf 14 (ap0 s14))) (.node 16 (.leaf 15 (ap2 s15)) (.node 17 (.leaf 16 (ap0 s16)) (.leaf 17 (ap2 s17)))))) (.node 23 (.node 20 (.node 19 (.leaf 18 (ap2 s18)) (.leaf 19 (ap0 s19))) (.node 21 (.leaf 20 (ap3 s20)) (.node 22 (.leaf 21 (ap2 s21)) (.leaf 22 (ap1 s22))))) (.node 26 (.node 24 (.leaf 23 (ap2 s23)) (.node 25 (.leaf 24 (ap1 s24)) (.leaf 25 (ap2 s25)))) (.node 27 (.leaf 26 (ap1 s26)) (.node 28 (.leaf 27 (ap1 s27)) (.leaf 28 (ap1 s28))))))) (.node 67 (.node 34 (.node 31 (.node 30 (.leaf 29 (ap1 s29)) (.leaf 30 (ap3 s30))) (.node 32 (.leaf 31 (ap2 s31)) (.node 33 (.leaf 32 (ap2 s32)) (.leaf 33 (ap1 s33))))) (.node 64 (.node 62 (.leaf 34 (ap1 s34)) (.node 63 (.leaf 62 (ap2 s62)) (.leaf 63 (ap1 s63)))) (.node 65 (.leaf 64 (ap5 s64)) (.node 66 (.leaf 65 (ap1 s65)) (.leaf 66 (ap1 s66)))))) (.node 72 (.node 69 (.node 68 (.leaf 67 (ap2 s67)) (.leaf 68 (ap3 s68))) (.node 70 (.leaf 69 (ap3 s69)) (.node 71 (.leaf 70 (ap1 s70)) (.leaf 71 (ap3 s71))))) (.node 75 (.node 73 (.leaf 72 (ap2 s72)) (.node 74 (.leaf 73 (ap2 s73)) (.leaf 74 (ap3 s74)))) (.node 76 (.leaf 75 (ap3 s75)) (.node 77 (.leaf 76 (ap2 s76)) (.leaf 77 (ap2 s77)))))))) (.node 124 (.node 104 (.node 83 (.node 80 (.node 79 (.leaf 78 (ap1 s78)) (.leaf 79 (ap1 s79))) (.node 81 (.leaf 80 (ap1 s80)) (.node 82 (.leaf 81 (ap3 s81)) (.leaf 82 (ap4 s82))))) (.node 86 (.node 84 (.leaf 83 (ap3 s83)) (.node 85 (.leaf 84 (ap1 s84)) (.leaf 85 (ap4 s85)))) (.node 87 (.leaf 86 (ap1 s86)) (.node 88 (.leaf 87 (ap1 s87)) (.leaf 88 (fun _ _ => pRepeat)))))) (.node 118 (.node 115 (.node 114 (.leaf 104 (ap1 s104)) (.leaf 114 (ap2 s114))) (.node 116 (.leaf 115 (ap1 s115)) (.node 117 (.leaf 116 (ap2 s116)) (.leaf 117 (ap2 s117))))) (.node 121 (.node 119 (.leaf 118 (ap1 s118)) (.node 120 (.leaf 119 (ap4 s119)) (.leaf 120 (ap1 s120)))) (.node 122 (.leaf 121 (ap2 s121)) (.node 123 (.leaf 122 (ap1 s122)) (.leaf 123 (ap1 s123))))))) (.node 135 (.node 129 (.node 126 (.node 125 (.leaf 124 (ap1 s124)) (.leaf 125 (ap3 s125))) (.node 127 (.leaf 126 (ap1 s126)) (.node 128 (.leaf 127 (ap3 s127)) (.leaf 128 (fun _ _ => pJoin))))) (.node 132 (.node 130 (.leaf 129 (ap1 s129)) (.node 131 (.leaf 130 (ap2 s130)) (.leaf 131 (ap3 s131)))) (.node 133 (.leaf 132 (ap3 s132)) (.node 134 (.leaf 133 (ap1 s133)) (.leaf 134 (ap2 s134)))))) (.node 157 (.node 154 (.node 153 (.leaf 135 (ap2 s135)) (.leaf 153 (ap2 s153))) (.node 155 (.leaf 154 (ap1 s154)) (.node 156 (.leaf 155 (ap1 s155)) (.leaf 156 (ap1 s156))))) (.node 160 (.node 158 (.leaf 157 (ap1 s157)) (.node 159 (.leaf 158 (ap2 s158)) (.leaf 159 (ap1 s159)))) (.node 161 (.leaf 160 (ap2 s160)) (.node 171 (.leaf 161 (ap1 s161)) (.leaf 171 (ap2 s171))))))))
theorem sim_fp : Sim tp fp := ⟨rfl, ⟨rfl, ⟨rfl, ⟨rfl, ⟨rfl, ⟨rfl, ⟨rfl, sm3 rfl e3⟩, ⟨rfl, sm2 rfl e4⟩⟩, ⟨rfl, ⟨rfl, sm3 rfl e5⟩, ⟨rfl, ⟨rfl, sm1 rfl e11⟩, ⟨rfl, sm1 rfl e12⟩⟩⟩⟩, ⟨rfl, ⟨rfl, ⟨rfl, sm1 rfl e13⟩, ⟨rfl, sm0 rfl e14⟩⟩, ⟨rfl, ⟨rfl, sm2 rfl e15⟩, ⟨rfl, ⟨rfl, sm0 rfl e16⟩, ⟨rfl, sm2 rfl e17⟩⟩⟩⟩⟩, ⟨rfl, ⟨rfl, ⟨rfl, ⟨rfl, sm2 rfl e18⟩, ⟨rfl, sm0 rfl e19⟩⟩, ⟨rfl, ⟨rfl, sm3 rfl e20⟩, ⟨rfl, ⟨rfl, sm2 rfl e21⟩, ⟨rfl, sm1 rfl e22⟩⟩⟩⟩, ⟨rfl, ⟨rfl, ⟨rfl, sm2 rfl e23⟩, ⟨rfl, ⟨rfl, sm1 rfl e24⟩, ⟨rfl, sm2 rfl e25⟩⟩⟩, ⟨rfl, ⟨rfl, sm1 rfl e26⟩, ⟨rfl, ⟨rfl, sm1 rfl e27⟩, ⟨rfl, sm1 rfl e28⟩⟩⟩⟩⟩⟩, ⟨rfl, ⟨rfl, ⟨rfl, ⟨rfl, ⟨rfl, sm1 rfl e29⟩, ⟨rfl, sm3 rfl e30⟩⟩, ⟨rfl, ⟨rfl, sm2 rfl e31⟩, ⟨rfl, ⟨rfl, sm2 rfl e32⟩, ⟨rfl, sm1 rfl e33⟩⟩⟩⟩, ⟨rfl, ⟨rfl, ⟨rfl, sm1 rfl e34⟩, ⟨rfl, ⟨rfl, sm2 rfl e62⟩, ⟨rfl, sm1 rfl e63⟩⟩⟩, ⟨rfl, ⟨rfl, sm5 rfl e64⟩, ⟨rfl, ⟨rfl, sm1 rfl e65⟩, ⟨rfl, sm1 rfl e66⟩⟩⟩⟩⟩, ⟨rfl, ⟨rfl, ⟨rfl, ⟨rfl, sm2 rfl e67⟩, ⟨rfl, sm3 rfl e68⟩⟩, ⟨rfl, ⟨rfl, sm3 rfl e69⟩, ⟨rfl, ⟨rfl, sm1 rfl e70⟩, ⟨rfl, sm3 rfl e71⟩⟩⟩⟩, ⟨rfl, ⟨rfl, ⟨rfl, sm2 rfl e72⟩, ⟨rfl, ⟨rfl, sm2 rfl e73⟩, ⟨rfl, sm3 rfl e74⟩⟩⟩, ⟨rfl, ⟨rfl, sm3 rfl e75⟩, ⟨rfl, ⟨rfl, sm2 rfl e76⟩, ⟨rfl, sm2 rfl e77⟩⟩⟩⟩⟩⟩⟩, ⟨rfl, ⟨rfl, ⟨rfl, ⟨rfl, ⟨rfl, ⟨rfl, sm1 rfl e78⟩, ⟨rfl, sm1 rfl e79⟩⟩, ⟨rfl, ⟨rfl, sm1 rfl e80⟩, ⟨rfl, ⟨rfl, sm3 rfl e81⟩, ⟨rfl, sm4 rfl e82⟩⟩⟩⟩, ⟨rfl, ⟨rfl, ⟨rfl, sm3 rfl e83⟩, ⟨rfl, ⟨rfl, sm1 rfl e84⟩, ⟨rfl, sm4 rfl e85⟩⟩⟩, ⟨rfl, ⟨rfl, sm1 rfl e86⟩, ⟨rfl, ⟨rfl, sm1 rfl e87⟩, ⟨rfl, fun _ _ _ _ => rfl⟩⟩⟩⟩⟩, ⟨rfl, ⟨rfl, ⟨rfl, ⟨rfl, sm1 rfl e104⟩, ⟨rfl, sm2 rfl e114⟩⟩, ⟨rfl, ⟨rfl, sm1 rfl e115⟩, ⟨rfl, ⟨rfl, sm2 rfl e116⟩, ⟨rfl, sm2 rfl e117⟩⟩⟩⟩, ⟨rfl, ⟨rfl, ⟨rfl, sm1 rfl e118⟩, ⟨rfl, ⟨rfl, sm4 rfl e119⟩, ⟨rfl, sm1 rfl e120⟩⟩⟩, ⟨rfl, ⟨rfl, sm2 rfl e121⟩, ⟨rfl, ⟨rfl, sm1 rfl e122⟩, ⟨rfl, sm1 rfl e123⟩⟩⟩⟩⟩⟩, ⟨rfl, ⟨rfl, ⟨rfl, ⟨rfl, ⟨rfl, sm1 rfl e124⟩, ⟨rfl, sm3 rfl e125⟩⟩, ⟨rfl, ⟨rfl, sm1 rfl e126⟩, ⟨rfl, ⟨rfl, sm3 rfl e127⟩, ⟨rfl, fun _ _ _ _ => rfl⟩⟩⟩⟩, ⟨rfl, ⟨rfl, ⟨rfl, sm1 rfl e129⟩, ⟨rfl, ⟨rfl, sm2 rfl e130⟩, ⟨rfl, sm3 rfl e131⟩⟩⟩, ⟨rfl, ⟨rfl, sm3 rfl e132⟩, ⟨rfl, ⟨rfl, sm1 rfl e133⟩, ⟨rfl, sm2 rfl e134⟩⟩⟩⟩⟩, ⟨rfl, ⟨rfl, ⟨rfl, ⟨rfl, sm2 rfl e135⟩, ⟨rfl, sm2 rfl e153⟩⟩, ⟨rfl, ⟨rfl, sm1 rfl e154⟩, ⟨rfl, ⟨rfl, sm1 rfl e155⟩, ⟨rfl, sm1 rfl e156⟩⟩⟩⟩, ⟨rfl, ⟨rfl, ⟨rfl, sm1 rfl e157⟩, ⟨rfl, ⟨rfl, sm2 rfl e158⟩, ⟨rfl, sm1 rfl e159⟩⟩⟩, ⟨rfl, ⟨rfl, sm2 rfl e160⟩, ⟨rfl, ⟨rfl, sm1 rfl e161⟩, ⟨rfl, sm2 rfl e171⟩⟩⟩⟩⟩⟩⟩⟩
theorem hp_tp_88 (N : Nat) : PrimOk Q N 88 pRepeat := pr_repeat N
theorem hp_tp_128 (N : Nat) : PrimOk Q N 128 pJoin := pr_join N
theorem ok_tp (N : Nat) : tp.All fun f fn => okFn Q (drOk Q) f fn = true ∨ ∃ F, fn = .prim F ∧ PrimOk Q N f F := ⟨⟨⟨⟨⟨⟨.inl ok3, .inl ok4⟩, ⟨.inl ok5, ⟨.inl ok11, .inl ok12⟩⟩⟩, ⟨⟨.inl ok13, .inl ok14⟩, ⟨.inl ok15, ⟨.inl ok16, .inl ok17⟩⟩⟩⟩, ⟨⟨⟨.inl ok18, .inl ok19⟩, ⟨.inl ok20, ⟨.inl ok21, .inl ok22⟩⟩⟩, ⟨⟨.inl ok23, ⟨.inl ok24, .inl ok25⟩⟩, ⟨.inl ok26, ⟨.inl ok27, .inl ok28⟩⟩⟩⟩⟩, ⟨⟨⟨⟨.inl ok29, .inl ok30⟩, ⟨.inl ok31, ⟨.inl ok32, .inl ok33⟩⟩⟩, ⟨⟨.inl ok34, ⟨.inl ok62, .inl ok63⟩⟩, ⟨.inl ok64, ⟨.inl ok65, .inl ok66⟩⟩⟩⟩, ⟨⟨⟨.inl ok67, .inl ok68⟩, ⟨.inl ok69, ⟨.inl ok70, .inl ok71⟩⟩⟩, ⟨⟨.inl ok72, ⟨.inl ok73, .inl ok74⟩⟩, ⟨.inl ok75, ⟨.inl ok76, .inl ok77⟩⟩⟩⟩⟩⟩, ⟨⟨⟨⟨⟨.inl ok78, .inl ok79⟩, ⟨.inl ok80, ⟨.inl ok81, .inl ok82⟩⟩⟩, ⟨⟨.inl ok83, ⟨.inl ok84, .inl ok85⟩⟩, ⟨.inl ok86, ⟨.inl ok87, .inr ⟨_, rfl, hp_tp_88 N⟩⟩⟩⟩⟩, ⟨⟨⟨.inl ok104, .inl ok114⟩, ⟨.inl ok115, ⟨.inl ok116, .inl ok117⟩⟩⟩, ⟨⟨.inl ok118, ⟨.inl ok119, .inl ok120⟩⟩, ⟨.inl ok121, ⟨.inl ok122, .inl ok123⟩⟩⟩⟩⟩, ⟨⟨⟨⟨.inl ok124, .inl ok125⟩, ⟨.inl ok126, ⟨.inl ok127, .inr ⟨_, rfl, hp_tp_128 N⟩⟩⟩⟩, ⟨⟨.inl ok129, ⟨.inl ok130, .inl ok131⟩⟩, ⟨.inl ok132, ⟨.inl ok133, .inl ok134⟩⟩⟩⟩, ⟨⟨⟨.inl ok135, .inl ok153⟩, ⟨.inl ok154, ⟨.inl ok155, .inl ok156⟩⟩⟩, ⟨⟨.inl ok157, ⟨.inl ok158, .inl ok159⟩⟩, ⟨.inl ok160, ⟨.inl ok161, .inl ok171⟩⟩⟩⟩⟩⟩⟩
def gTrue : List Val → Option Val
  | [] => some (.bool true)
  | _ => none
theorem sum_true {t : TT} {f : Nat} {k : Nat} (hc : ∀ N n, CallOk Q N (run t.get n)) (hf : okFun Q f = true) (hr : (run t.get k f [] heap0).map (·.1) = some (.bool true)) (N : Nat) : PrimOk Q N f (sumF gTrue) := by
  refine sum_prim hc hf (fun args v hv => ?_) N
  match args, hv with
  | [], hv =>
    cases hv
    refine ⟨rfl, rfl, k, ?_⟩
    cases e : run t.get k f [] heap0 with
    | none => rw [e] at hr; cases hr
    | some q =>
      rw [e] at hr
      obtain ⟨a, b⟩ := q
      simp only [Option.map_some, Option.some.injEq] at hr
      exact ⟨b, a, rfl, by rw [hr]; rfl⟩
end Go.AM.T
set_option maxRecDepth 1000000
namespace Go.AM.T
open Go Go.AM
theorem put_fast : (runS fp 300 14 [] heap0).map (·.1) = some (.bool true) := by kernel_rfl
theorem put_eq : (run tp.get 300 14 [] heap0).map (·.1) = some (.bool true) := by rw [← runS_eq sim_fp]; exact put_fast
end Go.AM.T
set_option maxRecDepth 1000000
set_option linter.unusedVariables false
set_option linter.unusedSimpArgs false
namespace Go.AM.T
open Go Go.AM
theorem gTrue_eq : gTrue5 = gTrue := by funext l; cases l <;> rfl
theorem hp_t5_132 (N : Nat) : PrimOk Q N 132 (sumF gSeal) := ok_seal N
theorem hp_t5_123 (N : Nat) : PrimOk Q N 123 (sumF gOpen) := ok_open N
theorem hp_t5_83 (N : Nat) : PrimOk Q N 83 (sumF gEnc) := ok_enc N
theorem hp_t5_127 (N : Nat) : PrimOk Q N 127 (sumF gDec) := ok_dec N
theorem hp_t5_84 (N : Nat) : PrimOk Q N 84 (sumF gPcs) := ok_pcs N
theorem hp_t5_87 (N : Nat) : PrimOk Q N 87 (sumF gHEnc) := ok_henc N
theorem hp_t5_124 (N : Nat) : PrimOk Q N 124 (sumF gHDec) := ok_hdec N
theorem hp_t5_126 (N : Nat) : PrimOk Q N 126 (sumF gTold) := ok_told N
theorem hp_t5_128 (N : Nat) : PrimOk Q N 128 pJoin := pr_join N
theorem hp_t5_88 (N : Nat) : PrimOk Q N 88 pRepeat := pr_repeat N
theorem hp_t5_25 (N : Nat) : PrimOk Q N 25 (sumF gSame) := ok_same N
theorem hp_t5_12 (N : Nat) : PrimOk Q N 12 (sumF gMay) := ok_may N
theorem hp_t5_15 (N : Nat) : PrimOk Q N 15 (sumF gCreate) := ok_create N
theorem hp_t5_17 (N : Nat) : PrimOk Q N 17 (sumF gAppend) := ok_append N
theorem hp_t5_22 (N : Nat) : PrimOk Q N 22 (sumF gLoad) := ok_load N
theorem hp_t5_16 (N : Nat) : PrimOk Q N 16 (sumF gBlank) := ok_blank N
theorem hp_t5_14 (N : Nat) : PrimOk Q N 14 (sumF gTrue5) := by rw [gTrue_eq]; exact sum_true (calls_of ok_tp) (by kernel_rfl) put_eq N
theorem ok_t5 (N : Nat) : t5.All fun f fn => okFn Q (drOk Q) f fn = true ∨ ∃ F, fn = .prim F ∧ PrimOk Q N f F := ⟨⟨⟨⟨⟨.inl ok4, ⟨.inl ok5, .inl ok11⟩⟩, ⟨.inr ⟨_, rfl, hp_t5_12 N⟩, ⟨.inl ok13, .inr ⟨_, rfl, hp_t5_14 N⟩⟩⟩⟩, ⟨⟨.inr ⟨_, rfl, hp_t5_15 N⟩, ⟨.inr ⟨_, rfl, hp_t5_16 N⟩, .inr ⟨_, rfl, hp_t5_17 N⟩⟩⟩, ⟨⟨.inl ok19, .inl ok20⟩, ⟨.inl ok21, .inr ⟨_, rfl, hp_t5_22 N⟩⟩⟩⟩⟩, ⟨⟨⟨.inl ok23, ⟨.inl ok24, .inr ⟨_, rfl, hp_t5_25 N⟩⟩⟩, ⟨⟨.inl ok26, .inl ok27⟩, ⟨.inl ok28, .inl ok29⟩⟩⟩, ⟨⟨.inl ok30, ⟨.inl ok31, .inl ok32⟩⟩, ⟨⟨.inl ok33, .inl ok34⟩, ⟨.inl ok62, .inl ok70⟩⟩⟩⟩⟩, ⟨⟨⟨⟨.inl ok71, ⟨.inl ok72, .inl ok73⟩⟩, ⟨.inl ok74, ⟨.inl ok75, .inl ok76⟩⟩⟩, ⟨⟨.inl ok77, ⟨.inl ok78, .inl ok79⟩⟩, ⟨⟨.inr ⟨_, rfl, hp_t5_83 N⟩, .inr ⟨_, rfl, hp_t5_84 N⟩⟩, ⟨.inl ok85, .inl ok86⟩⟩⟩⟩, ⟨⟨⟨.inr ⟨_, rfl, hp_t5_87 N⟩, ⟨.inr ⟨_, rfl, hp_t5_88 N⟩, .inl ok114⟩⟩, ⟨⟨.inl ok120, .inl ok121⟩, ⟨.inl ok122, .inr ⟨_, rfl, hp_t5_123 N⟩⟩⟩⟩, ⟨⟨.inr ⟨_, rfl, hp_t5_124 N⟩, ⟨.inl ok125, .inr ⟨_, rfl, hp_t5_126 N⟩⟩⟩, ⟨⟨.inr ⟨_, rfl, hp_t5_127 N⟩, .inr ⟨_, rfl, hp_t5_128 N⟩⟩, ⟨.inr ⟨_, rfl, hp_t5_132 N⟩, .inl ok153⟩⟩⟩⟩⟩⟩
theorem has_frs {l : List Val} (h : HasA true [.i .i64, .s] l) : ∃ xs : List Fr, l = xs.map frV := by
  induction l with
  | nil => exact ⟨[], rfl⟩
  | cons v l ih =>
    cases h with | cons _ _ us _ h hs =>
    obtain ⟨xs, rfl⟩ := ih hs
    cases h with | cons _ _ v0 _ h0 h =>
    cases h with | cons _ _ v1 _ h1 h =>
    cases h
    cases h0 with | i _ k _ =>
    cases h1 with | s s =>
    exact ⟨(k, s) :: xs, rfl⟩
theorem has_frsl {v : Val} (h : Has (.sl true [.i .i64, .s]) v) : ∃ (u : Own) (xs : List Fr), v = .sl u 2 (xs.map frV) := by
  cases h with
  | nl => exact ⟨.nl, [], rfl⟩
  | sl _ _ l h =>
    obtain ⟨xs, rfl⟩ := has_frs h
    exact ⟨.ro, xs, rfl⟩
theorem wf_u32 {n : Int} (h : (Lit.int .u32 n).wf = true) : 0 ≤ n ∧ n < 4294967296 := by
  simp [Lit.wf, IntKind.min, IntKind.max, IntKind.signed, IntKind.bits] at h
  omega
def argsP : List (Bool × List Lf) := [(true, [.i .i64, .i .u32, .i .u32, .i .i64]), (false, [.sl true [.i .i64, .s]]), (false, [.i .i64])]
theorem argsP_eq : argsOf Q Go.Proofs.Try.f5.params.toList = some argsP := by kernel_rfl
theorem law_segmentputs (us : List Val) (hT : HasT argsP us) : ∃ n h', run t5.get n 5 us heap0 = some (.bool true, h') := by
  cases hT with | cons _ _ _ us0 vs0 hL0 hT =>
  cases hT with | cons _ _ _ us1 vs1 hL1 hT =>
  cases hT with | cons _ _ _ us2 vs2 hL2 hT =>
  cases hT
  cases hL0 with | cons _ _ v1 _ h1 hL0 =>
  cases hL0 with | cons _ _ v2 _ h2 hL0 =>
  cases hL0 with | cons _ _ v3 _ h3 hL0 =>
  cases hL0 with | cons _ _ v4 _ h4 hL0 =>
  cases hL0
  cases hL1 with | cons _ _ v5 _ h5 hL1 =>
  cases hL1
  cases hL2 with | cons _ _ v6 _ h6 hL2 =>
  cases hL2
  cases h1 with | i _ log _ =>
  cases h2 with | i _ gen w2 =>
  cases h3 with | i _ st w3 =>
  cases h4 with | i _ base _ =>
  cases h6 with | i _ k _ =>
  obtain ⟨u, xs, rfl⟩ := has_frsl h5
  exact law_puts (wf_u32 w2) (wf_u32 w3)
end Go.AM.T

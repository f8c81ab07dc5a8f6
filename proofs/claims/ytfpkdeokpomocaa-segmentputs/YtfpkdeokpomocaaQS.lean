import Derived.Test.YtfpkdeokpomocaaQA
import Derived.KernelRfl
set_option linter.constructorNameAsVariable false
set_option linter.unusedVariables false
set_option linter.unusedSimpArgs false
set_option maxRecDepth 100000
set_option linter.unusedVariables false
namespace Go.AM.T
def s3_l2 (call : Call) (n : Nat) (again0 : List Val → Heap → R) (again1 : List Val → Heap → R) (again2 : List Val → Heap → R) (c10 : Val) (c13 : Val) (y62 : Val) (h : Heap) : R :=
 cmC .lt y62 (.int .i64 16 : Val) fun x63_55 =>
 cnd x63_55 (
 biC .add (.int .i64 2 : Val) y62 fun x67_56 =>
 faC 0 c10 fun x69_57 =>
 ixpC 16 1 x69_57 y62 fun x70_58 =>
 ldC false 1 x70_58 h fun x71_59 =>
 clC call 20 [c13, x67_56, x71_59] h fun x72_60 h =>
 cmC .ne x72_60 (.int .i64 0 : Val) fun x73_61 =>
 cnd x73_61 (
 some ((.bool false : Val), h)) (
 biC .add y62 (.int .i64 1 : Val) fun x74_62 =>
 again2 [x74_62] h)) (
 clC call 21 [c13, (.int .i64 0 : Val)] h fun x77_63 h =>
 exC 0 x77_63 fun x78_64 =>
 exC 1 x77_63 fun x79_65 =>
 ldC true 16 c10 h fun x80_66 =>
 clC call 22 [x80_66] h fun x81_67 h =>
 allocC [.int .i64 0, .int .u32 0, .int .u32 0, .int .i64 0, .sl .nl 2 [], .int .i64 0, .bool false] h fun x17_68 h =>
 stC 7 x17_68 x81_67 h fun h =>
 faC 6 x17_68 fun x82_70 =>
 ldC false 1 x82_70 h fun x83_71 =>
 notC x83_71 fun x84_72 =>
 cnd x84_72 (
 cmC .eq x79_65 (.int .i64 4 : Val) fun x86_73 =>
 gdC x86_73 true h (fun k => k x78_64 h) fun x88_74 h =>
 gdC x86_73 true h (fun k => ceC .p false x88_74 (.nilp : Val) fun x89_75 => k x89_75 h) fun x89_76 h =>
 pickC x86_73 x89_76 (.bool false : Val) fun x90_77 =>
 gdC x90_77 true h (fun k => clC call 14 [] h fun x92_78 h => k x92_78 h) fun x92_79 h =>
 pickC x90_77 x92_79 (.bool false : Val) fun x93_80 =>
 some (x93_80, h)) (
 aggC [.int .i64 0, .str []] [(0, 1, (.int .i64 1 : Val))] fun x96_81 =>
 clC call 23 [x78_64, x96_81] h fun x97_82 h =>
 exC 0 x97_82 fun x98_83 =>
 exC 1 x97_82 fun x99_84 =>
 cmC .eq x79_65 (.int .i64 0 : Val) fun x101_85 =>
 gdC x101_85 true h (fun k => k x99_84 h) fun x103_86 h =>
 gdC x101_85 true h (fun k => cmC .eq x103_86 (.int .i64 39 : Val) fun x104_87 => k x104_87 h) fun x104_88 h =>
 pickC x101_85 x104_88 (.bool false : Val) fun x105_89 =>
 gdC x105_89 true h (fun k => k x78_64 h) fun x107_90 h =>
 gdC x105_89 true h (fun k => faC 0 x17_68 fun x110_91 => k x110_91 h) fun x110_92 h =>
 gdC x105_89 true h (fun k => ldC true 4 x110_92 h fun x111_93 => k x111_93 h) fun x111_94 h =>
 gdC x105_89 true h (fun k => clC call 24 [x107_90] h fun x108_95 h => k x108_95 h) fun x108_96 h =>
 gdC x105_89 true h (fun k => ldC true 4 x110_92 h fun v98 => k v98 h) fun v97 _ =>
 bif eqv v97 x111_94 then
 gdC x105_89 true h (fun k => clC call 13 [x108_96] h fun x109_99 h => k x109_99 h) fun x109_100 h =>
 gdC x105_89 true h (fun k => ldC true 4 x110_92 h fun v102 => k v102 h) fun v101 _ =>
 bif eqv v101 x111_94 then
 gdC x105_89 true h (fun k => ceaC [.i, .i, .i, .i] false x109_100 x111_94 fun x112_103 => k x112_103 h) fun x112_104 h =>
 pickC x105_89 x112_104 (.bool false : Val) fun x113_105 =>
 gdC x113_105 true h (fun k => k x78_64 h) fun x115_106 h =>
 gdC x113_105 true h (fun k => faC 4 x17_68 fun x117_107 => k x117_107 h) fun x117_108 h =>
 gdC x113_105 true h (fun k => ldC false 1 x117_108 h fun x118_109 => k x118_109 h) fun x118_110 h =>
 gdC x113_105 true h (fun k => clC call 26 [x115_106] h fun x116_111 h => k x116_111 h) fun x116_112 h =>
 gdC x113_105 true h (fun k => ldC false 1 x117_108 h fun v114 => k v114 h) fun v113 _ =>
 bif eqv v113 x118_110 then
 gdC x113_105 true h (fun k => clC call 25 [x116_112, x118_110] h fun x119_115 h => k x119_115 h) fun x119_116 h =>
 pickC x113_105 x119_116 (.bool false : Val) fun x120_117 =>
 gdC x120_117 true h (fun k => k x78_64 h) fun x122_118 h =>
 gdC x120_117 true h (fun k => faC 5 x17_68 fun x124_119 => k x124_119 h) fun x124_120 h =>
 gdC x120_117 true h (fun k => ldC false 1 x124_120 h fun x125_121 => k x125_121 h) fun x125_122 h =>
 gdC x120_117 true h (fun k => clC call 27 [x122_118] h fun x123_123 h => k x123_123 h) fun x123_124 h =>
 gdC x120_117 true h (fun k => ldC false 1 x124_120 h fun v126 => k v126 h) fun v125 _ =>
 bif eqv v125 x125_122 then
 gdC x120_117 true h (fun k => cmC .eq x123_124 x125_122 fun x126_127 => k x126_127 h) fun x126_128 h =>
 pickC x120_117 x126_128 (.bool false : Val) fun x127_129 =>
 gdC x127_129 true h (fun k => k x78_64 h) fun x129_130 h =>
 gdC x127_129 true h (fun k => faC 4 x17_68 fun x131_131 => k x131_131 h) fun x131_132 h =>
 gdC x127_129 true h (fun k => ldC false 1 x131_132 h fun x132_133 => k x132_133 h) fun x132_134 h =>
 gdC x127_129 true h (fun k => lenlC x132_134 fun x133_135 => k x133_135 h) fun x133_136 h =>
 gdC x127_129 true h (fun k => clC call 28 [x129_130] h fun x130_137 h => k x130_137 h) fun x130_138 h =>
 gdC x127_129 true h (fun k => ldC false 1 x131_132 h fun v140 => k v140 h) fun v139 _ =>
 bif eqv v139 x132_134 then
 gdC x127_129 true h (fun k => cmC .eq x130_138 x133_136 fun x134_141 => k x134_141 h) fun x134_142 h =>
 pickC x127_129 x134_142 (.bool false : Val) fun x135_143 =>
 gdC x135_143 true h (fun k => k x78_64 h) fun x137_144 h =>
 gdC x135_143 true h (fun k => clC call 29 [x137_144] h fun x138_145 h => k x138_145 h) fun x138_146 h =>
 pickC x135_143 x138_146 (.bool false : Val) fun x139_147 =>
 gdC x139_147 true h (fun k => clC call 14 [] h fun x141_148 h => k x141_148 h) fun x141_149 h =>
 pickC x139_147 x141_149 (.bool false : Val) fun x142_150 =>
 some (x142_150, h) else none else none else none else none else none))
def s3_l1 (call : Call) (n : Nat) (again0 : List Val → Heap → R) (again1 : List Val → Heap → R) (c10 : Val) (c51 : Val) (c52 : Val) (y53 : Val) (h : Heap) : R :=
 cmC .lt y53 c52 fun x54_44 =>
 cnd x54_44 (
 ixsC 5 c51 y53 fun x55_45 =>
 ldC true 5 x55_45 h fun x56_46 =>
 allocC [.int .i64 0, .int .i64 0, .int .u32 0, .int .i64 0, .int .i64 0] h fun x12_47 h =>
 stC 5 x12_47 x56_46 h fun h =>
 ldC true 5 x12_47 h fun x57_49 =>
 ldC true 16 c10 h fun x58_50 =>
 clC call 18 [x57_49, x58_50] h fun x59_51 h =>
 stC 16 c10 x59_51 h fun h =>
 biC .add y53 (.int .i64 1 : Val) fun x60_53 =>
 again1 [x60_53] h) (
 clC call 19 [] h fun x61_54 h =>
 iter n (fun again2 xs h => s3_l2 call n again0 again1 again2 c10 x61_54 (getN xs 0) h) [(.int .i64 0 : Val)] h)
def s3_l0 (call : Call) (n : Nat) (again0 : List Val → Heap → R) (c2 : Val) (c7 : Val) (c38 : Val) (c39 : Val) (y40 : Val) (h : Heap) : R :=
 cmC .lt y40 c39 fun x41_28 =>
 cnd x41_28 (
 ixsC 2 c38 y40 fun x42_29 =>
 ldC true 2 x42_29 h fun x43_30 =>
 allocC [.int .i64 0, .str []] h fun x9_31 h =>
 stC 2 x9_31 x43_30 h fun h =>
 ldC true 22 c7 h fun x44_33 =>
 ldC true 2 x9_31 h fun x45_34 =>
 clC call 17 [x44_33, x45_34] h fun x46_35 h =>
 fdC true 0 22 x46_35 fun x47_36 =>
 stC 22 c7 x47_36 h fun h =>
 biC .add y40 (.int .i64 1 : Val) fun x48_38 =>
 again0 [x48_38] h) (
 faC 6 c7 fun x49_39 =>
 ldC true 16 x49_39 h fun x50_40 =>
 allocC (reps 16 (.str [])) h fun x10_41 h =>
 stC 16 x10_41 x50_40 h fun h =>
 lenlC c2 fun x52_43 =>
 iter n (fun again1 xs h => s3_l1 call n again0 again1 x10_41 c2 x52_43 (getN xs 0) h) [(.int .i64 0 : Val)] h)
def s3 (call : Call) (n : Nat) (a0 : Val) (a1 : Val) (a2 : Val) (h : Heap) : R :=
 boxC 4 a0 h fun x3_1 h =>
 clC call 11 [a1] h fun x21_2 h =>
 gdC x21_2 false h (fun k => ldC true 4 x3_1 h fun x23_3 => k x23_3 h) fun x23_4 h =>
 gdC x21_2 false h (fun k => clC call 13 [x23_4] h fun x24_5 h => k x24_5 h) fun x24_6 h =>
 gdC x21_2 false h (fun k => clC call 12 [x24_6] h fun x25_7 h => k x25_7 h) fun x25_8 h =>
 gdC x21_2 false h (fun k => notC x25_8 fun x26_9 => k x26_9 h) fun x26_10 h =>
 pickC x21_2 (.bool true : Val) x26_10 fun x27_11 =>
 gdC x27_11 false h (fun k => k a2 h) fun x29_12 h =>
 gdC x27_11 false h (fun k => lenlC x29_12 fun x30_13 => k x30_13 h) fun x30_14 h =>
 gdC x27_11 false h (fun k => cmC .gt x30_14 (.int .i64 30 : Val) fun x31_15 => k x31_15 h) fun x31_16 h =>
 pickC x27_11 (.bool true : Val) x31_16 fun x32_17 =>
 cnd x32_17 (
 clC call 14 [] h fun x33_18 h =>
 some (x33_18, h)) (
 ldC true 4 x3_1 h fun x35_19 =>
 clC call 16 [] h fun x34_20 h =>
 ldC true 4 x3_1 h fun v22 =>
 bif eqv v22 x35_19 then
 clC call 13 [x35_19] h fun x36_23 h =>
 clC call 15 [x34_20, x36_23] h fun x37_24 h =>
 allocC [.int .i64 0, .int .u32 0, .int .u32 0, .int .i64 0, .sl .nl 2 [], .int .i64 0, .str [], .str [], .str [], .str [], .str [], .str [], .str [], .str [], .str [], .str [], .str [], .str [], .str [], .str [], .str [], .str []] h fun x7_25 h =>
 stC 22 x7_25 x37_24 h fun h =>
 lenlC a1 fun x39_27 =>
 iter n (fun again0 xs h => s3_l0 call n again0 a2 x7_25 a1 x39_27 (getN xs 0) h) [(.int .i64 0 : Val)] h else none)
theorem e3 (call : Call) (n : Nat) (a0 : Val) (a1 : Val) (a2 : Val) (h : Heap) : runFn call n F3 [a0, a1, a2] h = s3 call n a0 a1 a2 h := by kernel_rfl
def s4_l0 (call : Call) (n : Nat) (again0 : List Val → Heap → R) (c2 : Val) (c5 : Val) (c6 : Val) (c7 : Val) (c31 : Val) (c32 : Val) (y33 : Val) (h : Heap) : R :=
 cmC .lt y33 c32 fun x34_19 =>
 cnd x34_19 (
 ixsC 2 c31 y33 fun x35_20 =>
 ldC true 2 x35_20 h fun x36_21 =>
 allocC [.int .i64 0, .str []] h fun x9_22 h =>
 stC 2 x9_22 x36_21 h fun h =>
 ldC true 2 x9_22 h fun x38_24 =>
 clC call 23 [c6, x38_24] h fun x39_25 h =>
 biC .add y33 (.int .i64 1 : Val) fun x40_26 =>
 again0 [x40_26] h) (
 clC call 21 [c5, (.int .i64 1 : Val)] h fun x43_27 h =>
 exC 0 x43_27 fun x44_28 =>
 exC 1 x43_27 fun x45_29 =>
 cmC .ne c7 (.int .i64 0 : Val) fun x47_30 =>
 gdC x47_30 false h (fun k => k x45_29 h) fun x49_31 h =>
 gdC x47_30 false h (fun k => cmC .ne x49_31 (.int .i64 0 : Val) fun x50_32 => k x50_32 h) fun x50_33 h =>
 pickC x47_30 (.bool true : Val) x50_33 fun x51_34 =>
 gdC x51_34 false h (fun k => k c6 h) fun x53_35 h =>
 gdC x51_34 false h (fun k => k x44_28 h) fun x55_36 h =>
 gdC x51_34 false h (fun k => clC call 26 [x53_35] h fun x54_37 h => k x54_37 h) fun x54_38 h =>
 gdC x51_34 false h (fun k => clC call 26 [x55_36] h fun x56_39 h => k x56_39 h) fun x56_40 h =>
 gdC x51_34 false h (fun k => clC call 25 [x54_38, x56_40] h fun x57_41 h => k x57_41 h) fun x57_42 h =>
 gdC x51_34 false h (fun k => notC x57_42 fun x58_43 => k x58_43 h) fun x58_44 h =>
 pickC x51_34 (.bool true : Val) x58_44 fun x59_45 =>
 gdC x59_45 false h (fun k => k x44_28 h) fun x61_46 h =>
 gdC x59_45 false h (fun k => ldC true 4 c2 h fun x63_47 => k x63_47 h) fun x63_48 h =>
 gdC x59_45 false h (fun k => clC call 24 [x61_46] h fun x62_49 h => k x62_49 h) fun x62_50 h =>
 gdC x59_45 false h (fun k => ldC true 4 c2 h fun v52 => k v52 h) fun v51 _ =>
 bif eqv v51 x63_48 then
 gdC x59_45 false h (fun k => ceaC [.i, .i, .i, .i] true x62_50 x63_48 fun x64_53 => k x64_53 h) fun x64_54 h =>
 pickC x59_45 (.bool true : Val) x64_54 fun x65_55 =>
 gdC x65_55 false h (fun k => k x44_28 h) fun x67_56 h =>
 gdC x65_55 false h (fun k => k c6 h) fun x69_57 h =>
 gdC x65_55 false h (fun k => clC call 27 [x67_56] h fun x68_58 h => k x68_58 h) fun x68_59 h =>
 gdC x65_55 false h (fun k => clC call 27 [x69_57] h fun x70_60 h => k x70_60 h) fun x70_61 h =>
 gdC x65_55 false h (fun k => cmC .ne x68_59 x70_61 fun x71_62 => k x71_62 h) fun x71_63 h =>
 pickC x65_55 (.bool true : Val) x71_63 fun x72_64 =>
 cnd x72_64 (
 some ((.bool false : Val), h)) (
 clC call 31 [c5, (.int .i64 1 : Val)] h fun x74_65 h =>
 clC call 21 [c5, (.int .i64 1 : Val)] h fun x77_66 h =>
 exC 0 x77_66 fun x78_67 =>
 exC 1 x77_66 fun x79_68 =>
 cmC .eq x74_65 (.int .i64 0 : Val) fun x81_69 =>
 gdC x81_69 true h (fun k => k x79_68 h) fun x83_70 h =>
 gdC x81_69 true h (fun k => cmC .eq x83_70 (.int .i64 4 : Val) fun x84_71 => k x84_71 h) fun x84_72 h =>
 pickC x81_69 x84_72 (.bool false : Val) fun x85_73 =>
 gdC x85_73 true h (fun k => k x78_67 h) fun x87_74 h =>
 gdC x85_73 true h (fun k => ceC .p false x87_74 (.nilp : Val) fun x88_75 => k x88_75 h) fun x88_76 h =>
 pickC x85_73 x88_76 (.bool false : Val) fun x89_77 =>
 gdC x89_77 true h (fun k => k c5 h) fun x91_78 h =>
 gdC x89_77 true h (fun k => clC call 31 [x91_78, (.int .i64 2 : Val)] h fun x92_79 h => k x92_79 h) fun x92_80 h =>
 gdC x89_77 true h (fun k => cmC .eq x92_80 (.int .i64 20 : Val) fun x93_81 => k x93_81 h) fun x93_82 h =>
 pickC x89_77 x93_82 (.bool false : Val) fun x94_83 =>
 gdC x94_83 true h (fun k => clC call 14 [] h fun x96_84 h => k x96_84 h) fun x96_85 h =>
 pickC x94_83 x96_85 (.bool false : Val) fun x97_86 =>
 some (x97_86, h)) else none)
def s4 (call : Call) (n : Nat) (a0 : Val) (a1 : Val) (h : Heap) : R :=
 boxC 4 a0 h fun x2_1 h =>
 clC call 11 [a1] h fun x16_2 h =>
 gdC x16_2 false h (fun k => ldC true 4 x2_1 h fun x18_3 => k x18_3 h) fun x18_4 h =>
 gdC x16_2 false h (fun k => clC call 13 [x18_4] h fun x19_5 h => k x19_5 h) fun x19_6 h =>
 gdC x16_2 false h (fun k => clC call 12 [x19_6] h fun x20_7 h => k x20_7 h) fun x20_8 h =>
 gdC x16_2 false h (fun k => notC x20_8 fun x21_9 => k x21_9 h) fun x21_10 h =>
 pickC x16_2 (.bool true : Val) x21_10 fun x22_11 =>
 cnd x22_11 (
 clC call 14 [] h fun x23_12 h =>
 some (x23_12, h)) (
 clC call 19 [] h fun x24_13 h =>
 ldC true 4 x2_1 h fun x27_14 =>
 clC call 30 [x24_13, (.int .i64 1 : Val), x27_14] h fun x28_15 h =>
 exC 0 x28_15 fun x29_16 =>
 exC 1 x28_15 fun x30_17 =>
 lenlC a1 fun x32_18 =>
 iter n (fun again0 xs h => s4_l0 call n again0 x2_1 x24_13 x29_16 x30_17 a1 x32_18 (getN xs 0) h) [(.int .i64 0 : Val)] h)
theorem e4 (call : Call) (n : Nat) (a0 : Val) (a1 : Val) (h : Heap) : runFn call n F4 [a0, a1] h = s4 call n a0 a1 h := by kernel_rfl
def s5_l0 (call : Call) (n : Nat) (again0 : List Val → Heap → R) (c2 : Val) (c3 : Val) (c7 : Val) (c8 : Val) (c9 : Val) (c10 : Val) (c62 : Val) (c63 : Val) (y64 : Val) (h : Heap) : R :=
 cmC .lt y64 c63 fun x65_43 =>
 cnd x65_43 (
 ixsC 2 c62 y64 fun x66_44 =>
 ldC true 2 x66_44 h fun x67_45 =>
 allocC [.int .i64 0, .str []] h fun x12_46 h =>
 stC 2 x12_46 x67_45 h fun h =>
 ldC true 2 x12_46 h fun x70_48 =>
 clC call 23 [c8, x70_48] h fun x71_49 h =>
 exC 0 x71_49 fun x72_50 =>
 exC 1 x71_49 fun x73_51 =>
 ldC true 22 c10 h fun x74_52 =>
 ldC true 2 x12_46 h fun x75_53 =>
 clC call 17 [x74_52, x75_53] h fun x76_54 h =>
 allocC [.int .i64 0, .int .u32 0, .int .u32 0, .int .i64 0, .sl .nl 2 [], .int .i64 0, .str [], .str [], .str [], .str [], .str [], .str [], .str [], .str [], .str [], .str [], .str [], .str [], .str [], .str [], .str [], .str [], .int .i64 0, .int .i64 0] h fun x15_55 h =>
 stC 24 x15_55 x76_54 h fun h =>
 faC 23 x15_55 fun x78_57 =>
 ldC false 1 x78_57 h fun x79_58 =>
 cmC .ne x73_51 x79_58 fun x80_59 =>
 gdC x80_59 false h (fun k => k x72_50 h) fun x82_60 h =>
 gdC x80_59 false h (fun k => faC 22 x15_55 fun x83_61 => k x83_61 h) fun x83_62 h =>
 gdC x80_59 false h (fun k => ldC false 1 x83_62 h fun x84_63 => k x84_63 h) fun x84_64 h =>
 gdC x80_59 false h (fun k => cmC .ne x82_60 x84_64 fun x85_65 => k x85_65 h) fun x85_66 h =>
 pickC x80_59 (.bool true : Val) x85_66 fun x86_67 =>
 cnd x86_67 (
 some ((.bool false : Val), h)) (
 faC 0 x15_55 fun x87_68 =>
 ldC true 22 x87_68 h fun x88_69 =>
 stC 22 c10 x88_69 h fun h =>
 clC call 32 [c7, c2] h fun x91_71 h =>
 allocC [.str [], .str [], .str [], .str [], .str [], .str [], .str [], .str [], .str [], .str [], .str [], .str [], .str [], .str [], .str [], .str [], .bool false] h fun x16_72 h =>
 stC 17 x16_72 x91_71 h fun h =>
 faC 16 x16_72 fun x92_74 =>
 ldC false 1 x92_74 h fun x93_75 =>
 notC x93_75 fun x94_76 =>
 gdC x94_76 false h (fun k => faC 0 x16_72 fun x96_77 => k x96_77 h) fun x96_78 h =>
 gdC x94_76 false h (fun k => ldC true 16 x96_78 h fun x97_79 => k x97_79 h) fun x97_80 h =>
 gdC x94_76 false h (fun k => faC 6 c10 fun x98_81 => k x98_81 h) fun x98_82 h =>
 gdC x94_76 false h (fun k => ldC true 16 x98_82 h fun x99_83 => k x99_83 h) fun x99_84 h =>
 gdC x94_76 false h (fun k => ceaC [.s, .s, .s, .s, .s, .s, .s, .s, .s, .s, .s, .s, .s, .s, .s, .s] true x97_80 x99_84 fun x100_85 => k x100_85 h) fun x100_86 h =>
 pickC x94_76 (.bool true : Val) x100_86 fun x101_87 =>
 gdC x101_87 false h (fun k => k c8 h) fun x103_88 h =>
 gdC x101_87 false h (fun k => faC 5 c10 fun x105_89 => k x105_89 h) fun x105_90 h =>
 gdC x101_87 false h (fun k => ldC false 1 x105_90 h fun x106_91 => k x106_91 h) fun x106_92 h =>
 gdC x101_87 false h (fun k => clC call 27 [x103_88] h fun x104_93 h => k x104_93 h) fun x104_94 h =>
 gdC x101_87 false h (fun k => ldC false 1 x105_90 h fun v96 => k v96 h) fun v95 _ =>
 bif eqv v95 x106_92 then
 gdC x101_87 false h (fun k => cmC .ne x104_94 x106_92 fun x107_97 => k x107_97 h) fun x107_98 h =>
 pickC x101_87 (.bool true : Val) x107_98 fun x108_99 =>
 gdC x108_99 false h (fun k => k c8 h) fun x110_100 h =>
 gdC x108_99 false h (fun k => faC 4 c10 fun x112_101 => k x112_101 h) fun x112_102 h =>
 gdC x108_99 false h (fun k => ldC false 1 x112_102 h fun x113_103 => k x113_103 h) fun x113_104 h =>
 gdC x108_99 false h (fun k => lenlC x113_104 fun x114_105 => k x114_105 h) fun x114_106 h =>
 gdC x108_99 false h (fun k => clC call 28 [x110_100] h fun x111_107 h => k x111_107 h) fun x111_108 h =>
 gdC x108_99 false h (fun k => ldC false 1 x112_102 h fun v110 => k v110 h) fun v109 _ =>
 bif eqv v109 x113_104 then
 gdC x108_99 false h (fun k => cmC .ne x111_108 x114_106 fun x115_111 => k x115_111 h) fun x115_112 h =>
 pickC x108_99 (.bool true : Val) x115_112 fun x116_113 =>
 cnd x116_113 (
 some ((.bool false : Val), h)) (
 biC .add y64 (.int .i64 1 : Val) fun x117_114 =>
 again0 [x117_114] h) else none else none)) (
 clC call 33 [c8] h fun x119_115 h =>
 aggC [.int .i64 0, .str []] [(0, 1, (.int .i64 1 : Val))] fun x122_116 =>
 clC call 23 [c8, x122_116] h fun x123_117 h =>
 exC 0 x123_117 fun x124_118 =>
 exC 1 x123_117 fun x125_119 =>
 cmC .eq c9 (.int .i64 0 : Val) fun x127_120 =>
 gdC x127_120 true h (fun k => k x125_119 h) fun x129_121 h =>
 gdC x127_120 true h (fun k => cmC .eq x129_121 (.int .i64 39 : Val) fun x130_122 => k x130_122 h) fun x130_123 h =>
 pickC x127_120 x130_123 (.bool false : Val) fun x131_124 =>
 gdC x131_124 true h (fun k => k c8 h) fun x133_125 h =>
 gdC x131_124 true h (fun k => clC call 29 [x133_125] h fun x134_126 h => k x134_126 h) fun x134_127 h =>
 pickC x131_124 x134_127 (.bool false : Val) fun x135_128 =>
 gdC x135_128 true h (fun k => k c8 h) fun x137_129 h =>
 gdC x135_128 true h (fun k => faC 4 c10 fun x139_130 => k x139_130 h) fun x139_131 h =>
 gdC x135_128 true h (fun k => ldC false 1 x139_131 h fun x140_132 => k x140_132 h) fun x140_133 h =>
 gdC x135_128 true h (fun k => clC call 26 [x137_129] h fun x138_134 h => k x138_134 h) fun x138_135 h =>
 gdC x135_128 true h (fun k => ldC false 1 x139_131 h fun v137 => k v137 h) fun v136 _ =>
 bif eqv v136 x140_133 then
 gdC x135_128 true h (fun k => clC call 25 [x138_135, x140_133] h fun x141_138 h => k x141_138 h) fun x141_139 h =>
 pickC x135_128 x141_139 (.bool false : Val) fun x142_140 =>
 gdC x142_140 true h (fun k => k c8 h) fun x144_141 h =>
 gdC x142_140 true h (fun k => ldC true 4 c3 h fun x146_142 => k x146_142 h) fun x146_143 h =>
 gdC x142_140 true h (fun k => clC call 24 [x144_141] h fun x145_144 h => k x145_144 h) fun x145_145 h =>
 gdC x142_140 true h (fun k => ldC true 4 c3 h fun v147 => k v147 h) fun v146 _ =>
 bif eqv v146 x146_143 then
 gdC x142_140 true h (fun k => ceaC [.i, .i, .i, .i] false x145_145 x146_143 fun x147_148 => k x147_148 h) fun x147_149 h =>
 pickC x142_140 x147_149 (.bool false : Val) fun x148_150 =>
 gdC x148_150 true h (fun k => k c8 h) fun x150_151 h =>
 gdC x148_150 true h (fun k => k c2 h) fun x152_152 h =>
 gdC x148_150 true h (fun k => clC call 34 [x150_151] h fun x151_153 h => k x151_153 h) fun x151_154 h =>
 gdC x148_150 true h (fun k => cmC .eq x151_154 x152_152 fun x153_155 => k x153_155 h) fun x153_156 h =>
 pickC x148_150 x153_156 (.bool false : Val) fun x154_157 =>
 gdC x154_157 true h (fun k => clC call 14 [] h fun x156_158 h => k x156_158 h) fun x156_159 h =>
 pickC x154_157 x156_159 (.bool false : Val) fun x157_160 =>
 some (x157_160, h) else none else none)
def s5 (call : Call) (n : Nat) (a0 : Val) (a1 : Val) (a2 : Val) (h : Heap) : R :=
 boxC 4 a0 h fun x3_1 h =>
 clC call 11 [a1] h fun x20_2 h =>
 cnd x20_2 (
 clC call 14 [] h fun x21_3 h =>
 some (x21_3, h)) (
 clC call 19 [] h fun x22_4 h =>
 ldC true 4 x3_1 h fun x26_5 =>
 clC call 30 [x22_4, a2, x26_5] h fun x27_6 h =>
 exC 0 x27_6 fun x28_7 =>
 exC 1 x27_6 fun x29_8 =>
 cmC .lt a2 (.int .i64 0 : Val) fun x31_9 =>
 gdC x31_9 false h (fun k => k a2 h) fun x33_10 h =>
 gdC x31_9 false h (fun k => cmC .gt x33_10 (.int .i64 1 : Val) fun x34_11 => k x34_11 h) fun x34_12 h =>
 pickC x31_9 (.bool true : Val) x34_12 fun x35_13 =>
 cnd x35_13 (
 cmC .eq x29_8 (.int .i64 20 : Val) fun x37_14 =>
 gdC x37_14 true h (fun k => k x28_7 h) fun x39_15 h =>
 gdC x37_14 true h (fun k => ceC .p false x39_15 (.nilp : Val) fun x40_16 => k x40_16 h) fun x40_17 h =>
 pickC x37_14 x40_17 (.bool false : Val) fun x41_18 =>
 gdC x41_18 true h (fun k => clC call 14 [] h fun x43_19 h => k x43_19 h) fun x43_20 h =>
 pickC x41_18 x43_20 (.bool false : Val) fun x44_21 =>
 some (x44_21, h)) (
 ldC true 4 x3_1 h fun x45_22 =>
 clC call 13 [x45_22] h fun x46_23 h =>
 clC call 12 [x46_23] h fun x47_24 h =>
 notC x47_24 fun x48_25 =>
 cnd x48_25 (
 cmC .eq x29_8 (.int .i64 1 : Val) fun x50_26 =>
 gdC x50_26 true h (fun k => k x28_7 h) fun x52_27 h =>
 gdC x50_26 true h (fun k => ceC .p false x52_27 (.nilp : Val) fun x53_28 => k x53_28 h) fun x53_29 h =>
 pickC x50_26 x53_29 (.bool false : Val) fun x54_30 =>
 gdC x54_30 true h (fun k => clC call 14 [] h fun x56_31 h => k x56_31 h) fun x56_32 h =>
 pickC x54_30 x56_32 (.bool false : Val) fun x57_33 =>
 some (x57_33, h)) (
 ldC true 4 x3_1 h fun x59_34 =>
 clC call 16 [] h fun x58_35 h =>
 ldC true 4 x3_1 h fun v37 =>
 bif eqv v37 x59_34 then
 clC call 13 [x59_34] h fun x60_38 h =>
 clC call 15 [x58_35, x60_38] h fun x61_39 h =>
 allocC [.int .i64 0, .int .u32 0, .int .u32 0, .int .i64 0, .sl .nl 2 [], .int .i64 0, .str [], .str [], .str [], .str [], .str [], .str [], .str [], .str [], .str [], .str [], .str [], .str [], .str [], .str [], .str [], .str []] h fun x10_40 h =>
 stC 22 x10_40 x61_39 h fun h =>
 lenlC a1 fun x63_42 =>
 iter n (fun again0 xs h => s5_l0 call n again0 a2 x3_1 x22_4 x28_7 x29_8 x10_40 a1 x63_42 (getN xs 0) h) [(.int .i64 0 : Val)] h else none)))
theorem e5 (call : Call) (n : Nat) (a0 : Val) (a1 : Val) (a2 : Val) (h : Heap) : runFn call n F5 [a0, a1, a2] h = s5 call n a0 a1 a2 h := by kernel_rfl
def s11_l0 (call : Call) (n : Nat) (again0 : List Val → Heap → R) (c8 : Val) (c9 : Val) (y10 : Val) (h : Heap) : R :=
 cmC .lt y10 c9 fun x11_4 =>
 cnd x11_4 (
 ixsC 2 c8 y10 fun x12_5 =>
 ldC true 2 x12_5 h fun x13_6 =>
 allocC [.int .i64 0, .str []] h fun x4_7 h =>
 stC 2 x4_7 x13_6 h fun h =>
 faC 1 x4_7 fun x14_9 =>
 ldC false 1 x14_9 h fun x15_10 =>
 lensC x15_10 fun x16_11 =>
 cmC .gt x16_11 (.int .i64 900 : Val) fun x17_12 =>
 cnd x17_12 (
 some ((.bool true : Val), h)) (
 biC .add y10 (.int .i64 1 : Val) fun x18_13 =>
 again0 [x18_13] h)) (
 some ((.bool false : Val), h))
def s11 (call : Call) (n : Nat) (a0 : Val) (h : Heap) : R :=
 lenlC a0 fun x6_1 =>
 cmC .gt x6_1 (.int .i64 40 : Val) fun x7_2 =>
 cnd x7_2 (
 some ((.bool true : Val), h)) (
 lenlC a0 fun x9_3 =>
 iter n (fun again0 xs h => s11_l0 call n again0 a0 x9_3 (getN xs 0) h) [(.int .i64 0 : Val)] h)
theorem e11 (call : Call) (n : Nat) (a0 : Val) (h : Heap) : runFn call n F11 [a0] h = s11 call n a0 h := by kernel_rfl
def s12 (call : Call) (n : Nat) (a0 : Val) (h : Heap) : R :=
 boxC 4 a0 h fun x1_1 h =>
 faC 0 x1_1 fun x3_2 =>
 ldC false 1 x3_2 h fun x4_3 =>
 cmC .ge x4_3 (.int .i64 1 : Val) fun x5_4 =>
 gdC x5_4 true h (fun k => faC 0 x1_1 fun x7_5 => k x7_5 h) fun x7_6 h =>
 gdC x5_4 true h (fun k => ldC false 1 x7_6 h fun x8_7 => k x8_7 h) fun x8_8 h =>
 gdC x5_4 true h (fun k => cmC .le x8_8 (.int .i64 65535 : Val) fun x9_9 => k x9_9 h) fun x9_10 h =>
 pickC x5_4 x9_10 (.bool false : Val) fun x10_11 =>
 gdC x10_11 true h (fun k => faC 3 x1_1 fun x12_12 => k x12_12 h) fun x12_13 h =>
 gdC x10_11 true h (fun k => ldC false 1 x12_13 h fun x13_14 => k x13_14 h) fun x13_15 h =>
 gdC x10_11 true h (fun k => cmC .ge x13_15 (.int .i64 0 : Val) fun x14_16 => k x14_16 h) fun x14_17 h =>
 pickC x10_11 x14_17 (.bool false : Val) fun x15_18 =>
 gdC x15_18 true h (fun k => faC 3 x1_1 fun x17_19 => k x17_19 h) fun x17_20 h =>
 gdC x15_18 true h (fun k => ldC false 1 x17_20 h fun x18_21 => k x18_21 h) fun x18_22 h =>
 gdC x15_18 true h (fun k => cmC .le x18_22 (.int .i64 1099511627776 : Val) fun x19_23 => k x19_23 h) fun x19_24 h =>
 pickC x15_18 x19_24 (.bool false : Val) fun x20_25 =>
 some (x20_25, h)
theorem e12 (call : Call) (n : Nat) (a0 : Val) (h : Heap) : runFn call n F12 [a0] h = s12 call n a0 h := by kernel_rfl
def s13 (call : Call) (n : Nat) (a0 : Val) (h : Heap) : R :=
 boxC 4 a0 h fun x1_1 h =>
 allocC [.int .i64 0, .int .u32 0, .int .u32 0, .int .i64 0] h fun x2_2 h =>
 faC 0 x1_1 fun x3_3 =>
 ldC false 1 x3_3 h fun x4_4 =>
 faC 1 x1_1 fun x5_5 =>
 ldC false 1 x5_5 h fun x6_6 =>
 faC 2 x1_1 fun x7_7 =>
 ldC false 1 x7_7 h fun x8_8 =>
 faC 3 x1_1 fun x9_9 =>
 ldC false 1 x9_9 h fun x10_10 =>
 aggC [.int .i64 0, .int .u32 0, .int .u32 0, .int .i64 0] [(0, 1, x4_4), (1, 1, x6_6), (2, 1, x8_8), (3, 1, x10_10)] fun x11_11 =>
 stC 4 x2_2 x11_11 h fun h =>
 ldC true 4 x2_2 h fun v13 =>
 some (v13, h)
theorem e13 (call : Call) (n : Nat) (a0 : Val) (h : Heap) : runFn call n F13 [a0] h = s13 call n a0 h := by kernel_rfl
def s14 (call : Call) (n : Nat) (h : Heap) : R :=
 clC call 19 [] h fun x12_1 h =>
 aggC [.int .i64 0, .int .u32 0, .int .u32 0, .int .i64 0] [(0, 1, (.int .i64 4 : Val)), (1, 1, (.int .u32 1 : Val)), (2, 1, (.int .u32 9 : Val)), (3, 1, (.int .i64 5 : Val))] fun x15_2 =>
 clC call 30 [x12_1, (.int .i64 1 : Val), x15_2] h fun x16_3 h =>
 exC 0 x16_3 fun x17_4 =>
 exC 1 x16_3 fun x18_5 =>
 aggC [.int .i64 0, .str []] [(0, 1, (.int .i64 1 : Val)), (1, 1, (.str [97, 98, 99] : Val))] fun x21_6 =>
 clC call 23 [x17_4, x21_6] h fun x22_7 h =>
 exC 0 x22_7 fun x23_8 =>
 exC 1 x22_7 fun x24_9 =>
 clC call 21 [x12_1, (.int .i64 1 : Val)] h fun x27_10 h =>
 exC 0 x27_10 fun x28_11 =>
 exC 1 x27_10 fun x29_12 =>
 clC call 21 [x12_1, (.int .i64 0 : Val)] h fun x32_13 h =>
 exC 0 x32_13 fun x33_14 =>
 exC 1 x32_13 fun x34_15 =>
 clC call 62 [x12_1, (.int .i64 19 : Val)] h fun x37_16 h =>
 exC 0 x37_16 fun x38_17 =>
 exC 1 x37_16 fun x39_18 =>
 cmC .eq x18_5 (.int .i64 0 : Val) fun x41_19 =>
 gdC x41_19 true h (fun k => k x24_9 h) fun x43_20 h =>
 gdC x41_19 true h (fun k => cmC .eq x43_20 (.int .i64 0 : Val) fun x44_21 => k x44_21 h) fun x44_22 h =>
 pickC x41_19 x44_22 (.bool false : Val) fun x45_23 =>
 gdC x45_23 true h (fun k => k x29_12 h) fun x47_24 h =>
 gdC x45_23 true h (fun k => cmC .eq x47_24 (.int .i64 0 : Val) fun x48_25 => k x48_25 h) fun x48_26 h =>
 pickC x45_23 x48_26 (.bool false : Val) fun x49_27 =>
 gdC x49_27 true h (fun k => k x34_15 h) fun x51_28 h =>
 gdC x49_27 true h (fun k => cmC .eq x51_28 (.int .i64 4 : Val) fun x52_29 => k x52_29 h) fun x52_30 h =>
 pickC x49_27 x52_30 (.bool false : Val) fun x53_31 =>
 gdC x53_31 true h (fun k => k x39_18 h) fun x55_32 h =>
 gdC x53_31 true h (fun k => cmC .eq x55_32 (.int .i64 0 : Val) fun x56_33 => k x56_33 h) fun x56_34 h =>
 pickC x53_31 x56_34 (.bool false : Val) fun x57_35 =>
 gdC x57_35 true h (fun k => k x23_8 h) fun x59_36 h =>
 gdC x57_35 true h (fun k => cmC .eq x59_36 (.int .i64 1 : Val) fun x60_37 => k x60_37 h) fun x60_38 h =>
 pickC x57_35 x60_38 (.bool false : Val) fun x61_39 =>
 gdC x61_39 true h (fun k => k x17_4 h) fun x63_40 h =>
 gdC x61_39 true h (fun k => clC call 27 [x63_40] h fun x64_41 h => k x64_41 h) fun x64_42 h =>
 gdC x61_39 true h (fun k => cmC .eq x64_42 (.int .i64 2 : Val) fun x65_43 => k x65_43 h) fun x65_44 h =>
 pickC x61_39 x65_44 (.bool false : Val) fun x66_45 =>
 gdC x66_45 true h (fun k => k x28_11 h) fun x68_46 h =>
 gdC x66_45 true h (fun k => clC call 27 [x68_46] h fun x69_47 h => k x69_47 h) fun x69_48 h =>
 gdC x66_45 true h (fun k => cmC .eq x69_48 (.int .i64 2 : Val) fun x70_49 => k x70_49 h) fun x70_50 h =>
 pickC x66_45 x70_50 (.bool false : Val) fun x71_51 =>
 gdC x71_51 true h (fun k => k x28_11 h) fun x73_52 h =>
 gdC x71_51 true h (fun k => clC call 28 [x73_52] h fun x74_53 h => k x74_53 h) fun x74_54 h =>
 gdC x71_51 true h (fun k => cmC .eq x74_54 (.int .i64 1 : Val) fun x75_55 => k x75_55 h) fun x75_56 h =>
 pickC x71_51 x75_56 (.bool false : Val) fun x76_57 =>
 gdC x76_57 true h (fun k => k x28_11 h) fun x78_58 h =>
 gdC x76_57 true h (fun k => clC call 29 [x78_58] h fun x79_59 h => k x79_59 h) fun x79_60 h =>
 pickC x76_57 x79_60 (.bool false : Val) fun x80_61 =>
 gdC x80_61 true h (fun k => k x17_4 h) fun x82_62 h =>
 gdC x80_61 true h (fun k => clC call 29 [x82_62] h fun x83_63 h => k x83_63 h) fun x83_64 h =>
 gdC x80_61 true h (fun k => notC x83_64 fun x84_65 => k x84_65 h) fun x84_66 h =>
 pickC x80_61 x84_66 (.bool false : Val) fun x85_67 =>
 gdC x85_67 true h (fun k => k x28_11 h) fun x87_68 h =>
 gdC x85_67 true h (fun k => clC call 24 [x87_68] h fun x88_69 h => k x88_69 h) fun x88_70 h =>
 gdC x85_67 true h (fun k => fdC false 3 1 x88_70 fun x89_71 => k x89_71 h) fun x89_72 h =>
 gdC x85_67 true h (fun k => cmC .eq x89_72 (.int .i64 5 : Val) fun x90_73 => k x90_73 h) fun x90_74 h =>
 pickC x85_67 x90_74 (.bool false : Val) fun x91_75 =>
 gdC x91_75 true h (fun k => k x38_17 h) fun x93_76 h =>
 gdC x91_75 true h (fun k => clC call 63 [x93_76] h fun x94_77 h => k x94_77 h) fun x94_78 h =>
 gdC x91_75 true h (fun k => fdC false 1 1 x94_78 fun x95_79 => k x95_79 h) fun x95_80 h =>
 gdC x91_75 true h (fun k => cmC .eq x95_80 (.int .i64 2 : Val) fun x96_81 => k x96_81 h) fun x96_82 h =>
 pickC x91_75 x96_82 (.bool false : Val) fun x97_83 =>
 some (x97_83, h)
theorem e14 (call : Call) (n : Nat) (h : Heap) : runFn call n F14 [] h = s14 call n h := by kernel_rfl
def s15 (call : Call) (n : Nat) (a0 : Val) (a1 : Val) (h : Heap) : R :=
 boxC 16 a0 h fun x2_1 h =>
 boxC 4 a1 h fun x3_2 h =>
 allocC [.int .i64 0, .int .u32 0, .int .u32 0, .int .i64 0, .sl .nl 2 [], .int .i64 0, .str [], .str [], .str [], .str [], .str [], .str [], .str [], .str [], .str [], .str [], .str [], .str [], .str [], .str [], .str [], .str []] h fun x4_3 h =>
 ldC true 4 x3_2 h fun x5_4 =>
 ldC true 16 x2_1 h fun x6_5 =>
 faC 2 x3_2 fun x7_6 =>
 ldC false 1 x7_6 h fun x8_7 =>
 ldC true 4 x3_2 h fun x9_8 =>
 clC call 66 [x9_8] h fun x10_9 h =>
 ldC true 4 x3_2 h fun v11 =>
 bif eqv v11 x5_4 then
 ldC true 16 x2_1 h fun v13 =>
 bif eqv v13 x6_5 then
 ldC false 1 x7_6 h fun v15 =>
 bif eqv v15 x8_7 then
 clC call 65 [x10_9] h fun x11_16 h =>
 ldC true 4 x3_2 h fun v18 =>
 bif eqv v18 x5_4 then
 ldC true 16 x2_1 h fun v20 =>
 bif eqv v20 x6_5 then
 ldC false 1 x7_6 h fun v22 =>
 bif eqv v22 x8_7 then
 clC call 64 [x6_5, x8_7, (.int .i64 0 : Val), (.int .i64 1 : Val), x11_16] h fun x12_23 h =>
 ldC true 4 x3_2 h fun v25 =>
 bif eqv v25 x5_4 then
 aggC [.int .i64 0, .int .u32 0, .int .u32 0, .int .i64 0, .sl .nl 2 [], .int .i64 0, .str [], .str [], .str [], .str [], .str [], .str [], .str [], .str [], .str [], .str [], .str [], .str [], .str [], .str [], .str [], .str []] [(0, 4, x5_4), (5, 1, (.int .i64 1 : Val)), (6, 16, x12_23)] fun x13_26 =>
 stC 22 x4_3 x13_26 h fun h =>
 ldC true 22 x4_3 h fun v28 =>
 some (v28, h) else none else none else none else none else none else none else none
theorem e15 (call : Call) (n : Nat) (a0 : Val) (a1 : Val) (h : Heap) : runFn call n F15 [a0, a1] h = s15 call n a0 a1 h := by kernel_rfl
def s16_l0 (call : Call) (n : Nat) (again0 : List Val → Heap → R) (c0 : Val) (c1 : Val) (y4 : Val) (h : Heap) : R :=
 cmC .lt y4 (.int .i64 16 : Val) fun x5_5 =>
 cnd x5_5 (
 mspC 1 (.int .u8 0) (.int .i64 64 : Val) (.int .i64 64 : Val) fun x8_6 =>
 cvsC x8_6 h fun x9_7 =>
 faC 0 c1 fun x10_8 =>
 ixpC 16 1 x10_8 y4 fun x11_9 =>
 stC 1 x11_9 x9_7 h fun h =>
 biC .add y4 (.int .i64 1 : Val) fun x12_11 =>
 again0 [x12_11] h) (
 ldC true 16 c1 h fun x13_12 =>
 stC 16 c0 x13_12 h fun h =>
 ldC true 16 c0 h fun v14 =>
 some (v14, h))
def s16 (call : Call) (n : Nat) (h : Heap) : R :=
 allocC (reps 16 (.str [])) h fun x0_1 h =>
 aggC (reps 16 (.str [])) [] fun x3_2 =>
 allocC (reps 16 (.str [])) h fun x1_3 h =>
 stC 16 x1_3 x3_2 h fun h =>
 iter n (fun again0 xs h => s16_l0 call n again0 x0_1 x1_3 (getN xs 0) h) [(.int .i64 0 : Val)] h
theorem e16 (call : Call) (n : Nat) (h : Heap) : runFn call n F16 [] h = s16 call n h := by kernel_rfl
def s17_j0 (call : Call) (n : Nat) (w2 : Val) (w3 : Val) (w4 : Val) (w5 : Val) (h : Heap) : R :=
 ldC true 2 w3 h fun x14_7 =>
 clC call 67 [w5, x14_7] h fun x15_8 h =>
 cmC .ne x15_8 (.int .i64 0 : Val) fun x17_9 =>
 cnd x17_9 (
 ldC true 22 w2 h fun x18_10 =>
 aggC [.int .i64 0, .int .u32 0, .int .u32 0, .int .i64 0, .sl .nl 2 [], .int .i64 0, .str [], .str [], .str [], .str [], .str [], .str [], .str [], .str [], .str [], .str [], .str [], .str [], .str [], .str [], .str [], .str [], .int .i64 0, .int .i64 0] [(0, 22, x18_10), (22, 1, (.int .i64 0 : Val)), (23, 1, x15_8)] fun x20_11 =>
 stC 24 w4 x20_11 h fun h =>
 ldC true 24 w4 h fun v13 =>
 some (v13, h)) (
 faC 0 w2 fun x21_14 =>
 faC 2 x21_14 fun x22_15 =>
 ldC false 1 x22_15 h fun x23_16 =>
 ldC true 2 w3 h fun x25_17 =>
 clC call 68 [x23_16, w5, x25_17] h fun x26_18 h =>
 clC call 65 [x26_18] h fun x27_19 h =>
 faC 5 w2 fun x28_20 =>
 ldC false 1 x28_20 h fun x29_21 =>
 lenlC x27_19 fun x31_22 =>
 biC .add x29_21 x31_22 fun x32_23 =>
 cmC .gt x32_23 (.int .i64 16 : Val) fun x33_24 =>
 cnd x33_24 (
 ldC true 22 w2 h fun x34_25 =>
 aggC [.int .i64 0, .int .u32 0, .int .u32 0, .int .i64 0, .sl .nl 2 [], .int .i64 0, .str [], .str [], .str [], .str [], .str [], .str [], .str [], .str [], .str [], .str [], .str [], .str [], .str [], .str [], .str [], .str [], .int .i64 0, .int .i64 0] [(0, 22, x34_25), (22, 1, (.int .i64 0 : Val)), (23, 1, (.int .i64 5 : Val))] fun x35_26 =>
 stC 24 w4 x35_26 h fun h =>
 ldC true 24 w4 h fun v28 =>
 some (v28, h)) (
 faC 4 w2 fun x37_29 =>
 ldC false 1 x37_29 h fun x38_30 =>
 appC true 2 (.sl .nl 2 [] : Val) x38_30 h fun x39_31 h =>
 ldC true 2 w3 h fun x41_32 =>
 bslC 2 [x41_32] fun x42_33 =>
 appC true 2 x39_31 x42_33 h fun x43_34 h =>
 faC 0 w2 fun x44_35 =>
 ldC true 4 x44_35 h fun x45_36 =>
 faC 5 w2 fun x47_37 =>
 ldC false 1 x47_37 h fun x48_38 =>
 lenlC x27_19 fun x50_39 =>
 biC .add x48_38 x50_39 fun x51_40 =>
 faC 6 w2 fun x52_41 =>
 ldC true 16 x52_41 h fun x53_42 =>
 faC 0 w2 fun x54_43 =>
 faC 2 x54_43 fun x55_44 =>
 ldC false 1 x55_44 h fun x56_45 =>
 faC 5 w2 fun x57_46 =>
 ldC false 1 x57_46 h fun x58_47 =>
 faC 4 w2 fun x59_48 =>
 ldC false 1 x59_48 h fun x60_49 =>
 lenlC x60_49 fun x61_50 =>
 biC .add x61_50 (.int .i64 2 : Val) fun x62_51 =>
 faC 5 w2 fun x66_52 =>
 ldC false 1 x66_52 h fun x67_53 =>
 clC call 64 [x53_42, x56_45, x58_47, x62_51, x27_19] h fun x64_54 h =>
 ldC true 4 x44_35 h fun v56 =>
 bif eqv v56 x45_36 then
 ldC false 1 x47_37 h fun v58 =>
 bif eqv v58 x48_38 then
 ldC false 1 x66_52 h fun v60 =>
 bif eqv v60 x67_53 then
 aggC [.int .i64 0, .int .u32 0, .int .u32 0, .int .i64 0, .sl .nl 2 [], .int .i64 0, .str [], .str [], .str [], .str [], .str [], .str [], .str [], .str [], .str [], .str [], .str [], .str [], .str [], .str [], .str [], .str []] [(0, 4, x45_36), (4, 1, x43_34), (5, 1, x51_40), (6, 16, x64_54)] fun x65_61 =>
 aggC [.int .i64 0, .int .u32 0, .int .u32 0, .int .i64 0, .sl .nl 2 [], .int .i64 0, .str [], .str [], .str [], .str [], .str [], .str [], .str [], .str [], .str [], .str [], .str [], .str [], .str [], .str [], .str [], .str [], .int .i64 0, .int .i64 0] [(0, 22, x65_61), (22, 1, x67_53), (23, 1, (.int .i64 0 : Val))] fun x68_62 =>
 stC 24 w4 x68_62 h fun h =>
 ldC true 24 w4 h fun v64 =>
 some (v64, h) else none else none else none))
def s17 (call : Call) (n : Nat) (a0 : Val) (a1 : Val) (h : Heap) : R :=
 boxC 22 a0 h fun x2_1 h =>
 boxC 2 a1 h fun x3_2 h =>
 allocC [.int .i64 0, .int .u32 0, .int .u32 0, .int .i64 0, .sl .nl 2 [], .int .i64 0, .str [], .str [], .str [], .str [], .str [], .str [], .str [], .str [], .str [], .str [], .str [], .str [], .str [], .str [], .str [], .str [], .int .i64 0, .int .i64 0] h fun x4_3 h =>
 faC 5 x2_1 fun x9_4 =>
 ldC false 1 x9_4 h fun x10_5 =>
 cmC .eq x10_5 (.int .i64 16 : Val) fun x12_6 =>
 cnd x12_6 (
 s17_j0 call n x2_1 x3_2 x4_3 (.int .i64 15 : Val) h) (
 s17_j0 call n x2_1 x3_2 x4_3 x10_5 h)
theorem e17 (call : Call) (n : Nat) (a0 : Val) (a1 : Val) (h : Heap) : runFn call n F17 [a0, a1] h = s17 call n a0 a1 h := by kernel_rfl
def s18_j0 (call : Call) (n : Nat) (w3 : Val) (w4 : Val) (h : Heap) : R :=
 ldC true 16 w3 h fun x84_68 =>
 stC 16 w4 x84_68 h fun h =>
 ldC true 16 w4 h fun v70 =>
 some (v70, h)
def s18 (call : Call) (n : Nat) (a0 : Val) (a1 : Val) (h : Heap) : R :=
 boxC 5 a0 h fun x2_1 h =>
 boxC 16 a1 h fun x3_2 h =>
 allocC (reps 16 (.str [])) h fun x4_3 h =>
 faC 0 x2_1 fun x6_4 =>
 ldC false 1 x6_4 h fun x7_5 =>
 cmC .lt x7_5 (.int .i64 0 : Val) fun x8_6 =>
 gdC x8_6 false h (fun k => faC 0 x2_1 fun x10_7 => k x10_7 h) fun x10_8 h =>
 gdC x8_6 false h (fun k => ldC false 1 x10_8 h fun x11_9 => k x11_9 h) fun x11_10 h =>
 gdC x8_6 false h (fun k => cmC .gt x11_10 (.int .i64 15 : Val) fun x12_11 => k x12_11 h) fun x12_12 h =>
 pickC x8_6 (.bool true : Val) x12_12 fun x13_13 =>
 gdC x13_13 false h (fun k => faC 1 x2_1 fun x15_14 => k x15_14 h) fun x15_15 h =>
 gdC x13_13 false h (fun k => ldC false 1 x15_15 h fun x16_16 => k x16_16 h) fun x16_17 h =>
 gdC x13_13 false h (fun k => cmC .lt x16_17 (.int .i64 0 : Val) fun x17_18 => k x17_18 h) fun x17_19 h =>
 pickC x13_13 (.bool true : Val) x17_19 fun x18_20 =>
 gdC x18_20 false h (fun k => faC 1 x2_1 fun x20_21 => k x20_21 h) fun x20_22 h =>
 gdC x18_20 false h (fun k => ldC false 1 x20_22 h fun x21_23 => k x21_23 h) fun x21_24 h =>
 gdC x18_20 false h (fun k => cmC .gt x21_24 (.int .i64 15 : Val) fun x22_25 => k x22_25 h) fun x22_26 h =>
 pickC x18_20 (.bool true : Val) x22_26 fun x23_27 =>
 cnd x23_27 (
 ldC true 16 x3_2 h fun x24_28 =>
 stC 16 x4_3 x24_28 h fun h =>
 ldC true 16 x4_3 h fun v30 =>
 some (v30, h)) (
 faC 4 x2_1 fun x25_31 =>
 ldC false 1 x25_31 h fun x26_32 =>
 cmC .ge x26_32 (.int .i64 0 : Val) fun x27_33 =>
 gdC x27_33 true h (fun k => faC 4 x2_1 fun x29_34 => k x29_34 h) fun x29_35 h =>
 gdC x27_33 true h (fun k => ldC false 1 x29_35 h fun x30_36 => k x30_36 h) fun x30_37 h =>
 gdC x27_33 true h (fun k => cmC .lt x30_37 (.int .i64 512 : Val) fun x31_38 => k x31_38 h) fun x31_39 h =>
 pickC x27_33 x31_39 (.bool false : Val) fun x32_40 =>
 cnd x32_40 (
 faC 0 x2_1 fun x33_41 =>
 ldC false 1 x33_41 h fun x34_42 =>
 faC 0 x3_2 fun x35_43 =>
 ixpC 16 1 x35_43 x34_42 fun x36_44 =>
 ldC false 1 x36_44 h fun x37_45 =>
 cvbC x37_45 h fun x38_46 h =>
 faC 4 x2_1 fun x40_47 =>
 ldC false 1 x40_47 h fun x41_48 =>
 biC .quo x41_48 (.int .i64 8 : Val) fun x42_49 =>
 faC 4 x2_1 fun x44_50 =>
 ldC false 1 x44_50 h fun x45_51 =>
 biC .quo x45_51 (.int .i64 8 : Val) fun x46_52 =>
 ixsC 1 x38_46 x46_52 fun x47_53 =>
 ldC false 1 x47_53 h fun x48_54 =>
 faC 4 x2_1 fun x49_55 =>
 ldC false 1 x49_55 h fun x50_56 =>
 biC .rem x50_56 (.int .i64 8 : Val) fun x51_57 =>
 shC .shl (.int .u8 1 : Val) x51_57 fun x52_58 =>
 biC .xor x48_54 x52_58 fun x53_59 =>
 ixsC 1 x38_46 x42_49 fun x54_60 =>
 stC 1 x54_60 x53_59 h fun h =>
 faC 0 x2_1 fun x55_62 =>
 ldC false 1 x55_62 h fun x56_63 =>
 cvsC x38_46 h fun x58_64 =>
 faC 0 x3_2 fun x59_65 =>
 ixpC 16 1 x59_65 x56_63 fun x60_66 =>
 stC 1 x60_66 x58_64 h fun h =>
 s18_j0 call n x3_2 x4_3 h) (
 faC 3 x2_1 fun x61_71 =>
 ldC false 1 x61_71 h fun x62_72 =>
 cmC .ge x62_72 (.int .i64 1 : Val) fun x63_73 =>
 gdC x63_73 true h (fun k => faC 3 x2_1 fun x65_74 => k x65_74 h) fun x65_75 h =>
 gdC x63_73 true h (fun k => ldC false 1 x65_75 h fun x66_76 => k x66_76 h) fun x66_77 h =>
 gdC x63_73 true h (fun k => cmC .le x66_77 (.int .i64 65535 : Val) fun x67_78 => k x67_78 h) fun x67_79 h =>
 pickC x63_73 x67_79 (.bool false : Val) fun x68_80 =>
 cnd x68_80 (
 faC 0 x2_1 fun x69_81 =>
 ldC false 1 x69_81 h fun x70_82 =>
 faC 2 x2_1 fun x71_83 =>
 ldC false 1 x71_83 h fun x72_84 =>
 faC 3 x2_1 fun x73_85 =>
 ldC false 1 x73_85 h fun x74_86 =>
 faC 1 x2_1 fun x75_87 =>
 ldC false 1 x75_87 h fun x76_88 =>
 faC 0 x3_2 fun x77_89 =>
 ixpC 16 1 x77_89 x76_88 fun x78_90 =>
 ldC false 1 x78_90 h fun x79_91 =>
 slsC x79_91 (some (.int .i64 6 : Val)) (some (.int .i64 58 : Val)) fun x80_92 =>
 faC 0 x3_2 fun x82_93 =>
 clC call 69 [x72_84, x74_86, x80_92] h fun x81_94 h =>
 ldC false 1 x69_81 h fun v96 =>
 bif eqv v96 x70_82 then
 ixpC 16 1 x82_93 x70_82 fun x83_97 =>
 stC 1 x83_97 x81_94 h fun h =>
 s18_j0 call n x3_2 x4_3 h else none) (
 s18_j0 call n x3_2 x4_3 h)))
theorem e18 (call : Call) (n : Nat) (a0 : Val) (a1 : Val) (h : Heap) : runFn call n F18 [a0, a1] h = s18 call n a0 a1 h := by kernel_rfl
def s19 (call : Call) (n : Nat) (h : Heap) : R :=
 clC call 70 [(.int .i64 36 : Val)] h fun x6_1 h =>
 exC 0 x6_1 fun x7_2 =>
 exC 1 x6_1 fun x8_3 =>
 clC call 71 [x7_2, (.int .i64 1 : Val), (.int .i64 34 : Val)] h fun x11_4 h =>
 exC 0 x11_4 fun x12_5 =>
 exC 1 x11_4 fun x13_6 =>
 some (x12_5, h)
theorem e19 (call : Call) (n : Nat) (h : Heap) : runFn call n F19 [] h = s19 call n h := by kernel_rfl
def s20 (call : Call) (n : Nat) (a0 : Val) (a1 : Val) (a2 : Val) (h : Heap) : R :=
 boxC 1 a0 h fun x3_1 h =>
 boxC 1 a1 h fun x4_2 h =>
 boxC 1 a2 h fun x5_3 h =>
 ldC false 1 x3_1 h fun x8_4 =>
 ceC .p false x8_4 (.nilp : Val) fun x9_5 =>
 cnd x9_5 (
 some ((.int .i64 7 : Val), h)) (
 ldC false 1 x3_1 h fun x11_6 =>
 ldC false 1 x4_2 h fun x12_7 =>
 clC call 72 [x11_6, x12_7] h fun x13_8 h =>
 notC x13_8 fun x14_9 =>
 cnd x14_9 (
 some ((.int .i64 20 : Val), h)) (
 ldC false 1 x5_3 h fun x16_10 =>
 lensC x16_10 fun x17_11 =>
 cmC .ne x17_11 (.int .i64 64 : Val) fun x18_12 =>
 cnd x18_12 (
 some ((.int .i64 1 : Val), h)) (
 ldC false 1 x3_1 h fun x19_13 =>
 clC call 73 [x19_13, (.func 74 [x3_1, x4_2, x5_3] : Val)] h fun x21_14 h =>
 some (x21_14, h))))
theorem e20 (call : Call) (n : Nat) (a0 : Val) (a1 : Val) (a2 : Val) (h : Heap) : runFn call n F20 [a0, a1, a2] h = s20 call n a0 a1 a2 h := by kernel_rfl
def s21_l0 (call : Call) (n : Nat) (again0 : List Val → Heap → R) (c8 : Val) (h : Heap) : R :=
 clC call 79 [c8] h fun x35_13 h =>
 cnd x35_13 (
 again0 [] h) (
 nilC c8 fun x37_14 =>
 faC 0 x37_14 fun x38_15 =>
 ldC false 1 x38_15 h fun x39_16 =>
 some (.tup [x39_16, (.int .i64 0 : Val)], h))
def s21 (call : Call) (n : Nat) (a0 : Val) (a1 : Val) (h : Heap) : R :=
 clC call 76 [a0, a1] h fun x13_1 h =>
 exC 0 x13_1 fun x14_2 =>
 exC 1 x13_1 fun x15_3 =>
 cmC .ne x15_3 (.int .i64 0 : Val) fun x17_4 =>
 cnd x17_4 (
 some (.tup [(.nilp : Val), x15_3], h)) (
 aggC [.nilp, .int .i64 0, .int .i64 0, .int .u32 0, .int .u32 0, .int .i64 0, .sl .nl 2 [], .int .i64 0, .bool false] [(0, 1, a0), (1, 1, a1), (7, 1, (.int .i64 1 : Val)), (8, 1, (.bool true : Val))] fun x21_5 =>
 boxC 9 x21_5 h fun x22_6 h =>
 aggC [.nilp, .str [], .str [], .str [], .str [], .str [], .str [], .str [], .str [], .str [], .str [], .str [], .str [], .str [], .str [], .str [], .str [], .int .u32 0, .int .u32 0, .int .u32 0, .int .u32 0, .int .u32 0, .int .u32 0, .int .u32 0, .int .u32 0, .int .u32 0, .int .u32 0, .int .u32 0, .int .u32 0, .int .u32 0, .int .u32 0, .int .u32 0, .int .u32 0, .int .i64 0, .int .i64 0, .int .i64 0, .int .i64 0, .int .i64 0, .int .i64 0, .int .i64 0, .int .i64 0, .int .i64 0, .int .i64 0, .int .i64 0, .int .i64 0, .int .i64 0, .int .i64 0, .int .i64 0, .int .i64 0] [(0, 1, x22_6)] fun x23_7 =>
 boxC 49 x23_7 h fun x24_8 h =>
 clC call 77 [x24_8, x14_2] h fun x27_9 h =>
 cmC .ne x27_9 (.int .i64 0 : Val) fun x29_10 =>
 cnd x29_10 (
 some (.tup [(.nilp : Val), x27_9], h)) (
 clC call 78 [x24_8] h fun x32_11 h =>
 notC x32_11 fun x33_12 =>
 cnd x33_12 (
 some (.tup [(.nilp : Val), (.int .i64 4 : Val)], h)) (
 iter n (fun again0 xs h => s21_l0 call n again0 x24_8  h) [] h)))
theorem e21 (call : Call) (n : Nat) (a0 : Val) (a1 : Val) (h : Heap) : runFn call n F21 [a0, a1] h = s21 call n a0 a1 h := by kernel_rfl
def s22_j0 (call : Call) (n : Nat) (again0 : List Val → Heap → R) (w2 : Val) (w5 : Val) (h : Heap) : R :=
 ldC true 7 w5 h fun x75_79 =>
 stC 7 w2 x75_79 h fun h =>
 ldC true 7 w2 h fun v81 =>
 some (v81, h)
def s22_l0 (call : Call) (n : Nat) (again0 : List Val → Heap → R) (c1 : Val) (c2 : Val) (c3 : Val) (c5 : Val) (h : Heap) : R :=
 faC 5 c5 fun x39_52 =>
 ldC false 1 x39_52 h fun x40_53 =>
 cmC .lt x40_53 (.int .i64 16 : Val) fun x41_54 =>
 cnd x41_54 (
 faC 0 c3 fun x42_55 =>
 ldC false 1 x42_55 h fun x43_56 =>
 faC 5 c5 fun x44_57 =>
 ldC false 1 x44_57 h fun x45_58 =>
 ldC true 16 c1 h fun x46_59 =>
 faC 0 c3 fun x47_60 =>
 ldC false 1 x47_60 h fun x48_61 =>
 faC 5 c5 fun x49_62 =>
 ldC false 1 x49_62 h fun x50_63 =>
 faC 4 c5 fun x51_64 =>
 ldC false 1 x51_64 h fun x52_65 =>
 lenlC x52_65 fun x53_66 =>
 biC .add x53_66 (.int .i64 2 : Val) fun x54_67 =>
 clC call 82 [x46_59, x48_61, x50_63, x54_67] h fun x55_68 h =>
 ldC false 1 x42_55 h fun v70 =>
 bif eqv v70 x43_56 then
 ldC false 1 x44_57 h fun v72 =>
 bif eqv v72 x45_58 then
 clC call 81 [x43_56, x45_58, x55_68] h fun x56_73 h =>
 allocC [.int .i64 0, .str [], .int .i64 0, .int .i64 0] h fun x6_74 h =>
 stC 4 x6_74 x56_73 h fun h =>
 faC 3 x6_74 fun x57_76 =>
 ldC false 1 x57_76 h fun x58_77 =>
 cmC .ne x58_77 (.int .i64 0 : Val) fun x59_78 =>
 cnd x59_78 (
 s22_j0 call n again0 c2 c5 h) (
 faC 4 c5 fun x60_82 =>
 ldC false 1 x60_82 h fun x61_83 =>
 faC 0 x6_74 fun x62_84 =>
 ldC true 2 x62_84 h fun x63_85 =>
 bslC 2 [x63_85] fun x64_86 =>
 appC true 2 x61_83 x64_86 h fun x65_87 h =>
 faC 4 c5 fun x66_88 =>
 stC 1 x66_88 x65_87 h fun h =>
 faC 5 c5 fun x67_90 =>
 ldC false 1 x67_90 h fun x68_91 =>
 faC 2 x6_74 fun x69_92 =>
 ldC false 1 x69_92 h fun x70_93 =>
 biC .add x70_93 (.int .i64 51 : Val) fun x71_94 =>
 biC .quo x71_94 (.int .i64 52 : Val) fun x72_95 =>
 biC .add x68_91 x72_95 fun x73_96 =>
 faC 5 c5 fun x74_97 =>
 stC 1 x74_97 x73_96 h fun h =>
 again0 [] h) else none else none) (
 s22_j0 call n again0 c2 c5 h)
def s22 (call : Call) (n : Nat) (a0 : Val) (h : Heap) : R :=
 boxC 16 a0 h fun x1_1 h =>
 allocC [.int .i64 0, .int .u32 0, .int .u32 0, .int .i64 0, .sl .nl 2 [], .int .i64 0, .bool false] h fun x2_2 h =>
 faC 0 x1_1 fun x7_3 =>
 ixpC 16 1 x7_3 (.int .i64 0 : Val) fun x8_4 =>
 ldC false 1 x8_4 h fun x9_5 =>
 clC call 63 [x9_5] h fun x10_6 h =>
 allocC [.int .u32 0, .int .i64 0, .str [], .bool false] h fun x3_7 h =>
 stC 4 x3_7 x10_6 h fun h =>
 faC 2 x3_7 fun x11_9 =>
 ldC false 1 x11_9 h fun x12_10 =>
 clC call 80 [x12_10] h fun x13_11 h =>
 allocC [.int .i64 0, .int .u32 0, .int .u32 0, .int .i64 0, .int .i64 0] h fun x4_12 h =>
 stC 5 x4_12 x13_11 h fun h =>
 faC 3 x3_7 fun x14_14 =>
 ldC false 1 x14_14 h fun x15_15 =>
 notC x15_15 fun x16_16 =>
 gdC x16_16 false h (fun k => faC 1 x3_7 fun x18_17 => k x18_17 h) fun x18_18 h =>
 gdC x16_16 false h (fun k => ldC false 1 x18_18 h fun x19_19 => k x19_19 h) fun x19_20 h =>
 gdC x16_16 false h (fun k => cmC .ne x19_20 (.int .i64 1 : Val) fun x20_21 => k x20_21 h) fun x20_22 h =>
 pickC x16_16 (.bool true : Val) x20_22 fun x21_23 =>
 gdC x21_23 false h (fun k => faC 4 x4_12 fun x23_24 => k x23_24 h) fun x23_25 h =>
 gdC x21_23 false h (fun k => ldC false 1 x23_25 h fun x24_26 => k x24_26 h) fun x24_27 h =>
 gdC x21_23 false h (fun k => cmC .ne x24_27 (.int .i64 0 : Val) fun x25_28 => k x25_28 h) fun x25_29 h =>
 pickC x21_23 (.bool true : Val) x25_29 fun x26_30 =>
 gdC x26_30 false h (fun k => faC 0 x4_12 fun x28_31 => k x28_31 h) fun x28_32 h =>
 gdC x26_30 false h (fun k => faC 2 x28_32 fun x29_33 => k x29_33 h) fun x29_34 h =>
 gdC x26_30 false h (fun k => ldC false 1 x29_34 h fun x30_35 => k x30_35 h) fun x30_36 h =>
 gdC x26_30 false h (fun k => faC 0 x3_7 fun x31_37 => k x31_37 h) fun x31_38 h =>
 gdC x26_30 false h (fun k => ldC false 1 x31_38 h fun x32_39 => k x32_39 h) fun x32_40 h =>
 gdC x26_30 false h (fun k => cmC .ne x30_36 x32_40 fun x33_41 => k x33_41 h) fun x33_42 h =>
 pickC x26_30 (.bool true : Val) x33_42 fun x34_43 =>
 cnd x34_43 (
 aggC [.int .i64 0, .int .u32 0, .int .u32 0, .int .i64 0, .sl .nl 2 [], .int .i64 0, .bool false] [] fun x35_44 =>
 stC 7 x2_2 x35_44 h fun h =>
 ldC true 7 x2_2 h fun v46 =>
 some (v46, h)) (
 faC 0 x4_12 fun x36_47 =>
 ldC true 4 x36_47 h fun x37_48 =>
 aggC [.int .i64 0, .int .u32 0, .int .u32 0, .int .i64 0, .sl .nl 2 [], .int .i64 0, .bool false] [(0, 4, x37_48), (5, 1, (.int .i64 1 : Val)), (6, 1, (.bool true : Val))] fun x38_49 =>
 allocC [.int .i64 0, .int .u32 0, .int .u32 0, .int .i64 0, .sl .nl 2 [], .int .i64 0, .bool false] h fun x5_50 h =>
 stC 7 x5_50 x38_49 h fun h =>
 iter n (fun again0 xs h => s22_l0 call n again0 x1_1 x2_2 x3_7 x5_50  h) [] h)
theorem e22 (call : Call) (n : Nat) (a0 : Val) (h : Heap) : runFn call n F22 [a0] h = s22 call n a0 h := by kernel_rfl
def s23 (call : Call) (n : Nat) (a0 : Val) (a1 : Val) (h : Heap) : R :=
 boxC 2 a1 h fun x3_1 h =>
 ceC .p false a0 (.nilp : Val) fun x13_2 =>
 cnd x13_2 (
 some (.tup [(.int .i64 0 : Val), (.int .i64 7 : Val)], h)) (
 nilC a0 fun x16_3 =>
 faC 8 x16_3 fun x17_4 =>
 ldC false 1 x17_4 h fun x18_5 =>
 cnd x18_5 (
 some (.tup [(.int .i64 0 : Val), (.int .i64 39 : Val)], h)) (
 nilC a0 fun x20_6 =>
 faC 7 x20_6 fun x21_7 =>
 ldC false 1 x21_7 h fun x22_8 =>
 nilC a0 fun x25_9 =>
 faC 2 x25_9 fun x26_10 =>
 faC 2 x26_10 fun x27_11 =>
 ldC false 1 x27_11 h fun x28_12 =>
 mnC x22_8 (.int .i64 15 : Val) fun x30_13 =>
 ldC true 2 x3_1 h fun x31_14 =>
 clC call 83 [x28_12, x30_13, x31_14] h fun x32_15 h =>
 exC 0 x32_15 fun x33_16 =>
 exC 1 x32_15 fun x34_17 =>
 cmC .ne x34_17 (.int .i64 0 : Val) fun x36_18 =>
 cnd x36_18 (
 some (.tup [(.int .i64 0 : Val), x34_17], h)) (
 clC call 84 [x33_16] h fun x39_19 h =>
 lenlC x39_19 fun x41_20 =>
 biC .sub (.int .i64 16 : Val) x22_8 fun x43_21 =>
 cmC .gt x41_20 x43_21 fun x44_22 =>
 cnd x44_22 (
 some (.tup [(.int .i64 0 : Val), (.int .i64 5 : Val)], h)) (
 nilC a0 fun x48_23 =>
 faC 6 x48_23 fun x49_24 =>
 ldC false 1 x49_24 h fun x50_25 =>
 lenlC x50_25 fun x51_26 =>
 biC .add x51_26 (.int .i64 2 : Val) fun x52_27 =>
 clC call 85 [a0, x22_8, x52_27, x39_19] h fun x54_28 h =>
 cmC .ne x54_28 (.int .i64 0 : Val) fun x56_29 =>
 cnd x56_29 (
 some (.tup [(.int .i64 0 : Val), x54_28], h)) (
 nilC a0 fun x60_30 =>
 faC 6 x60_30 fun x61_31 =>
 ldC false 1 x61_31 h fun x62_32 =>
 ldC true 2 x3_1 h fun x63_33 =>
 bslC 2 [x63_33] fun x64_34 =>
 appC true 2 x62_32 x64_34 h fun x65_35 h =>
 nilC a0 fun x66_36 =>
 faC 6 x66_36 fun x67_37 =>
 stC 1 x67_37 x65_35 h fun h =>
 nilC a0 fun x69_39 =>
 faC 7 x69_39 fun x70_40 =>
 ldC false 1 x70_40 h fun x71_41 =>
 lenlC x39_19 fun x73_42 =>
 biC .add x71_41 x73_42 fun x74_43 =>
 nilC a0 fun x75_44 =>
 faC 7 x75_44 fun x76_45 =>
 stC 1 x76_45 x74_43 h fun h =>
 some (.tup [x22_8, (.int .i64 0 : Val)], h))))))
theorem e23 (call : Call) (n : Nat) (a0 : Val) (a1 : Val) (h : Heap) : runFn call n F23 [a0, a1] h = s23 call n a0 a1 h := by kernel_rfl
def s24 (call : Call) (n : Nat) (a0 : Val) (h : Heap) : R :=
 allocC [.int .i64 0, .int .u32 0, .int .u32 0, .int .i64 0] h fun x2_1 h =>
 ceC .p false a0 (.nilp : Val) fun x4_2 =>
 cnd x4_2 (
 aggC [.int .i64 0, .int .u32 0, .int .u32 0, .int .i64 0] [] fun x5_3 =>
 stC 4 x2_1 x5_3 h fun h =>
 ldC true 4 x2_1 h fun v5 =>
 some (v5, h)) (
 nilC a0 fun x7_6 =>
 faC 2 x7_6 fun x8_7 =>
 ldC true 4 x8_7 h fun x9_8 =>
 stC 4 x2_1 x9_8 h fun h =>
 ldC true 4 x2_1 h fun v10 =>
 some (v10, h))
theorem e24 (call : Call) (n : Nat) (a0 : Val) (h : Heap) : runFn call n F24 [a0] h = s24 call n a0 h := by kernel_rfl
def s25_l0 (call : Call) (n : Nat) (again0 : List Val → Heap → R) (c1 : Val) (c12 : Val) (c13 : Val) (y14 : Val) (h : Heap) : R :=
 cmC .lt y14 c13 fun x15_5 =>
 cnd x15_5 (
 ixsC 2 c12 y14 fun x17_6 =>
 ldC true 2 x17_6 h fun x18_7 =>
 allocC [.int .i64 0, .str []] h fun x6_8 h =>
 stC 2 x6_8 x18_7 h fun h =>
 ldC true 2 x6_8 h fun x19_10 =>
 ixsC 2 c1 y14 fun x22_11 =>
 ldC true 2 x22_11 h fun x23_12 =>
 ceaC [.i, .s] true x19_10 x23_12 fun x24_13 =>
 cnd x24_13 (
 some ((.bool false : Val), h)) (
 biC .add y14 (.int .i64 1 : Val) fun x25_14 =>
 again0 [x25_14] h)) (
 some ((.bool true : Val), h))
def s25 (call : Call) (n : Nat) (a0 : Val) (a1 : Val) (h : Heap) : R :=
 lenlC a0 fun x8_1 =>
 lenlC a1 fun x10_2 =>
 cmC .ne x8_1 x10_2 fun x11_3 =>
 cnd x11_3 (
 some ((.bool false : Val), h)) (
 lenlC a0 fun x13_4 =>
 iter n (fun again0 xs h => s25_l0 call n again0 a1 a0 x13_4 (getN xs 0) h) [(.int .i64 0 : Val)] h)
theorem e25 (call : Call) (n : Nat) (a0 : Val) (a1 : Val) (h : Heap) : runFn call n F25 [a0, a1] h = s25 call n a0 a1 h := by kernel_rfl
def s26 (call : Call) (n : Nat) (a0 : Val) (h : Heap) : R :=
 ceC .p false a0 (.nilp : Val) fun x4_1 =>
 cnd x4_1 (
 some ((.sl .nl 2 [] : Val), h)) (
 nilC a0 fun x6_2 =>
 faC 6 x6_2 fun x7_3 =>
 ldC false 1 x7_3 h fun x8_4 =>
 clC call 86 [x8_4] h fun x9_5 h =>
 some (x9_5, h))
theorem e26 (call : Call) (n : Nat) (a0 : Val) (h : Heap) : runFn call n F26 [a0] h = s26 call n a0 h := by kernel_rfl
def s27 (call : Call) (n : Nat) (a0 : Val) (h : Heap) : R :=
 ceC .p false a0 (.nilp : Val) fun x4_1 =>
 cnd x4_1 (
 some ((.int .i64 0 : Val), h)) (
 nilC a0 fun x6_2 =>
 faC 7 x6_2 fun x7_3 =>
 ldC false 1 x7_3 h fun x8_4 =>
 some (x8_4, h))
theorem e27 (call : Call) (n : Nat) (a0 : Val) (h : Heap) : runFn call n F27 [a0] h = s27 call n a0 h := by kernel_rfl
def s28 (call : Call) (n : Nat) (a0 : Val) (h : Heap) : R :=
 ceC .p false a0 (.nilp : Val) fun x4_1 =>
 cnd x4_1 (
 some ((.int .i64 0 : Val), h)) (
 nilC a0 fun x6_2 =>
 faC 6 x6_2 fun x7_3 =>
 ldC false 1 x7_3 h fun x8_4 =>
 lenlC x8_4 fun x9_5 =>
 some (x9_5, h))
theorem e28 (call : Call) (n : Nat) (a0 : Val) (h : Heap) : runFn call n F28 [a0] h = s28 call n a0 h := by kernel_rfl
def s29 (call : Call) (n : Nat) (a0 : Val) (h : Heap) : R :=
 ceC .p false a0 (.nilp : Val) fun x4_1 =>
 gdC x4_1 false h (fun k => k a0 h) fun x6_2 h =>
 gdC x4_1 false h (fun k => nilC x6_2 fun x7_3 => k x7_3 h) fun x7_4 h =>
 gdC x4_1 false h (fun k => faC 8 x7_4 fun x8_5 => k x8_5 h) fun x8_6 h =>
 gdC x4_1 false h (fun k => ldC false 1 x8_6 h fun x9_7 => k x9_7 h) fun x9_8 h =>
 pickC x4_1 (.bool true : Val) x9_8 fun x10_9 =>
 some (x10_9, h)
theorem e29 (call : Call) (n : Nat) (a0 : Val) (h : Heap) : runFn call n F29 [a0] h = s29 call n a0 h := by kernel_rfl
def s30 (call : Call) (n : Nat) (a0 : Val) (a1 : Val) (a2 : Val) (h : Heap) : R :=
 boxC 4 a2 h fun x5_1 h =>
 clC call 76 [a0, a1] h fun x17_2 h =>
 exC 0 x17_2 fun x18_3 =>
 exC 1 x17_2 fun x19_4 =>
 cmC .ne x19_4 (.int .i64 0 : Val) fun x21_5 =>
 cnd x21_5 (
 some (.tup [(.nilp : Val), x19_4], h)) (
 ldC true 4 x5_1 h fun x24_6 =>
 clC call 87 [x24_6] h fun x25_7 h =>
 exC 0 x25_7 fun x26_8 =>
 exC 1 x25_7 fun x27_9 =>
 cmC .ne x27_9 (.int .i64 0 : Val) fun x29_10 =>
 cnd x29_10 (
 some (.tup [(.nilp : Val), x27_9], h)) (
 ldC true 4 x5_1 h fun x33_11 =>
 aggC [.nilp, .int .i64 0, .int .i64 0, .int .u32 0, .int .u32 0, .int .i64 0, .sl .nl 2 [], .int .i64 0, .bool false] [(0, 1, a0), (1, 1, a1), (2, 4, x33_11), (7, 1, (.int .i64 1 : Val))] fun x34_12 =>
 boxC 9 x34_12 h fun x35_13 h =>
 clC call 84 [x26_8] h fun x38_14 h =>
 clC call 85 [x35_13, (.int .i64 0 : Val), (.int .i64 1 : Val), x38_14] h fun x39_15 h =>
 cmC .ne x39_15 (.int .i64 0 : Val) fun x41_16 =>
 cnd x41_16 (
 some (.tup [(.nilp : Val), x39_15], h)) (
 some (.tup [x35_13, (.int .i64 0 : Val)], h))))
theorem e30 (call : Call) (n : Nat) (a0 : Val) (a1 : Val) (a2 : Val) (h : Heap) : runFn call n F30 [a0, a1, a2] h = s30 call n a0 a1 a2 h := by kernel_rfl
def s31 (call : Call) (n : Nat) (a0 : Val) (a1 : Val) (h : Heap) : R :=
 clC call 76 [a0, a1] h fun x10_1 h =>
 exC 0 x10_1 fun x11_2 =>
 exC 1 x10_1 fun x12_3 =>
 cmC .ne x12_3 (.int .i64 0 : Val) fun x14_4 =>
 cnd x14_4 (
 some (x12_3, h)) (
 clC call 88 [(.str [0] : Val), (.int .i64 64 : Val)] h fun x18_5 h =>
 clC call 20 [a0, x11_2, x18_5] h fun x19_6 h =>
 some (x19_6, h))
theorem e31 (call : Call) (n : Nat) (a0 : Val) (a1 : Val) (h : Heap) : runFn call n F31 [a0, a1] h = s31 call n a0 a1 h := by kernel_rfl
def s32_l0 (call : Call) (n : Nat) (again0 : List Val → Heap → R) (c0 : Val) (c1 : Val) (c4 : Val) (c5 : Val) (y10 : Val) (h : Heap) : R :=
 cmC .lt y10 (.int .i64 16 : Val) fun x11_5 =>
 cnd x11_5 (
 biC .mul (.int .i64 16 : Val) c1 fun x16_6 =>
 biC .add (.int .i64 2 : Val) x16_6 fun x17_7 =>
 biC .add x17_7 y10 fun x19_8 =>
 clC call 62 [c0, x19_8] h fun x20_9 h =>
 exC 0 x20_9 fun x21_10 =>
 exC 1 x20_9 fun x22_11 =>
 faC 0 c5 fun x25_12 =>
 faC 0 x25_12 fun x26_13 =>
 ixpC 16 1 x26_13 y10 fun x27_14 =>
 stC 1 x27_14 x21_10 h fun h =>
 faC 16 c5 fun x28_16 =>
 ldC false 1 x28_16 h fun x29_17 =>
 gdC x29_17 true h (fun k => k x22_11 h) fun x31_18 h =>
 gdC x29_17 true h (fun k => cmC .eq x31_18 (.int .i64 0 : Val) fun x32_19 => k x32_19 h) fun x32_20 h =>
 pickC x29_17 x32_20 (.bool false : Val) fun x33_21 =>
 faC 16 c5 fun x34_22 =>
 stC 1 x34_22 x33_21 h fun h =>
 biC .add y10 (.int .i64 1 : Val) fun x35_24 =>
 again0 [x35_24] h) (
 ldC true 17 c5 h fun x36_25 =>
 stC 17 c4 x36_25 h fun h =>
 ldC true 17 c4 h fun v27 =>
 some (v27, h))
def s32 (call : Call) (n : Nat) (a0 : Val) (a1 : Val) (h : Heap) : R :=
 allocC [.str [], .str [], .str [], .str [], .str [], .str [], .str [], .str [], .str [], .str [], .str [], .str [], .str [], .str [], .str [], .str [], .bool false] h fun x4_1 h =>
 aggC [.str [], .str [], .str [], .str [], .str [], .str [], .str [], .str [], .str [], .str [], .str [], .str [], .str [], .str [], .str [], .str [], .bool false] [(16, 1, (.bool true : Val))] fun x9_2 =>
 allocC [.str [], .str [], .str [], .str [], .str [], .str [], .str [], .str [], .str [], .str [], .str [], .str [], .str [], .str [], .str [], .str [], .bool false] h fun x5_3 h =>
 stC 17 x5_3 x9_2 h fun h =>
 iter n (fun again0 xs h => s32_l0 call n again0 a0 a1 x4_1 x5_3 (getN xs 0) h) [(.int .i64 0 : Val)] h
theorem e32 (call : Call) (n : Nat) (a0 : Val) (a1 : Val) (h : Heap) : runFn call n F32 [a0, a1] h = s32 call n a0 a1 h := by kernel_rfl
def s33 (call : Call) (n : Nat) (a0 : Val) (h : Heap) : R :=
 ceC .p true a0 (.nilp : Val) fun x3_1 =>
 cnd x3_1 (
 nilC a0 fun x5_2 =>
 faC 8 x5_2 fun x6_3 =>
 stC 1 x6_3 (.bool true : Val) h fun h =>
 some (.tup [], h)) (
 some (.tup [], h))
theorem e33 (call : Call) (n : Nat) (a0 : Val) (h : Heap) : runFn call n F33 [a0] h = s33 call n a0 h := by kernel_rfl
def s34 (call : Call) (n : Nat) (a0 : Val) (h : Heap) : R :=
 ceC .p false a0 (.nilp : Val) fun x4_1 =>
 cnd x4_1 (
 some ((.int .i64 0 : Val), h)) (
 nilC a0 fun x6_2 =>
 faC 1 x6_2 fun x7_3 =>
 ldC false 1 x7_3 h fun x8_4 =>
 some (x8_4, h))
theorem e34 (call : Call) (n : Nat) (a0 : Val) (h : Heap) : runFn call n F34 [a0] h = s34 call n a0 h := by kernel_rfl
def s62 (call : Call) (n : Nat) (a0 : Val) (a1 : Val) (h : Heap) : R :=
 ceC .p false a0 (.nilp : Val) fun x8_1 =>
 cnd x8_1 (
 some (.tup [(.str [] : Val), (.int .i64 7 : Val)], h)) (
 clC call 72 [a0, a1] h fun x12_2 h =>
 notC x12_2 fun x13_3 =>
 cnd x13_3 (
 some (.tup [(.str [] : Val), (.int .i64 20 : Val)], h)) (
 nilC a0 fun x16_4 =>
 faC 5 x16_4 fun x17_5 =>
 ldC false 1 x17_5 h fun x18_6 =>
 cnd x18_6 (
 some (.tup [(.str [] : Val), (.int .i64 21 : Val)], h)) (
 nilC a0 fun x20_7 =>
 faC 0 x20_7 fun x21_8 =>
 ldC false 1 x21_8 h fun x22_9 =>
 nilC a0 fun x24_10 =>
 faC 1 x24_10 fun x25_11 =>
 ldC false 1 x25_11 h fun x26_12 =>
 biC .add x26_12 a1 fun x28_13 =>
 clC call 114 [x22_9, x28_13] h fun x29_14 h =>
 exC 0 x29_14 fun x30_15 =>
 exC 1 x29_14 fun x31_16 =>
 some (.tup [x30_15, x31_16], h))))
theorem e62 (call : Call) (n : Nat) (a0 : Val) (a1 : Val) (h : Heap) : runFn call n F62 [a0, a1] h = s62 call n a0 a1 h := by kernel_rfl
def s63 (call : Call) (n : Nat) (a0 : Val) (h : Heap) : R :=
 allocC [.int .u32 0, .int .i64 0, .str [], .bool false] h fun x2_1 h =>
 lensC a0 fun x6_2 =>
 cmC .ne x6_2 (.int .i64 64 : Val) fun x7_3 =>
 cnd x7_3 (
 aggC [.int .u32 0, .int .i64 0, .str [], .bool false] [] fun x8_4 =>
 stC 4 x2_1 x8_4 h fun h =>
 ldC true 4 x2_1 h fun v6 =>
 some (v6, h)) (
 slsC a0 none (some (.int .i64 4 : Val)) fun x10_7 =>
 clC call 115 [x10_7] h fun x11_8 h =>
 cviC .u32 x11_8 fun x12_9 =>
 slsC a0 (some (.int .i64 4 : Val)) (some (.int .i64 6 : Val)) fun x14_10 =>
 clC call 115 [x14_10] h fun x15_11 h =>
 cviC .i64 x15_11 fun x16_12 =>
 cmC .eq x16_12 (.int .i64 0 : Val) fun x18_13 =>
 gdC x18_13 false h (fun k => k x12_9 h) fun x20_14 h =>
 gdC x18_13 false h (fun k => k x16_12 h) fun x21_15 h =>
 gdC x18_13 false h (fun k => k a0 h) fun x22_16 h =>
 gdC x18_13 false h (fun k => slsC x22_16 (some (.int .i64 6 : Val)) (some (.int .i64 58 : Val)) fun x23_17 => k x23_17 h) fun x23_18 h =>
 gdC x18_13 false h (fun k => clC call 69 [x20_14, x21_15, x23_18] h fun x24_19 h => k x24_19 h) fun x24_20 h =>
 gdC x18_13 false h (fun k => k a0 h) fun x25_21 h =>
 gdC x18_13 false h (fun k => cmC .ne x24_20 x25_21 fun x26_22 => k x26_22 h) fun x26_23 h =>
 pickC x18_13 (.bool true : Val) x26_23 fun x27_24 =>
 cnd x27_24 (
 aggC [.int .u32 0, .int .i64 0, .str [], .bool false] [] fun x28_25 =>
 stC 4 x2_1 x28_25 h fun h =>
 ldC true 4 x2_1 h fun v27 =>
 some (v27, h)) (
 slsC a0 (some (.int .i64 6 : Val)) (some (.int .i64 58 : Val)) fun x32_28 =>
 aggC [.int .u32 0, .int .i64 0, .str [], .bool false] [(0, 1, x12_9), (1, 1, x16_12), (2, 1, x32_28), (3, 1, (.bool true : Val))] fun x33_29 =>
 stC 4 x2_1 x33_29 h fun h =>
 ldC true 4 x2_1 h fun v31 =>
 some (v31, h)))
theorem e63 (call : Call) (n : Nat) (a0 : Val) (h : Heap) : runFn call n F63 [a0] h = s63 call n a0 h := by kernel_rfl
def s64_l0 (call : Call) (n : Nat) (again0 : List Val → Heap → R) (c1 : Val) (c2 : Val) (c3 : Val) (c5 : Val) (c10 : Val) (c13 : Val) (c14 : Val) (y15 : Val) (h : Heap) : R :=
 cmC .lt y15 c14 fun x16_4 =>
 cnd x16_4 (
 ixsC 1 c13 y15 fun x18_5 =>
 ldC false 1 x18_5 h fun x19_6 =>
 biC .add c2 y15 fun x22_7 =>
 clC call 69 [c1, c3, x19_6] h fun x26_8 h =>
 faC 0 c5 fun x27_9 =>
 ixpC 16 1 x27_9 x22_7 fun x28_10 =>
 stC 1 x28_10 x26_8 h fun h =>
 biC .add y15 (.int .i64 1 : Val) fun x29_12 =>
 again0 [x29_12] h) (
 ldC true 16 c5 h fun x30_13 =>
 stC 16 c10 x30_13 h fun h =>
 ldC true 16 c10 h fun v15 =>
 some (v15, h))
def s64 (call : Call) (n : Nat) (a0 : Val) (a1 : Val) (a2 : Val) (a3 : Val) (a4 : Val) (h : Heap) : R :=
 boxC 16 a0 h fun x5_1 h =>
 allocC (reps 16 (.str [])) h fun x10_2 h =>
 lenlC a4 fun x14_3 =>
 iter n (fun again0 xs h => s64_l0 call n again0 a1 a2 a3 x5_1 x10_2 a4 x14_3 (getN xs 0) h) [(.int .i64 0 : Val)] h
theorem e64 (call : Call) (n : Nat) (a0 : Val) (a1 : Val) (a2 : Val) (a3 : Val) (a4 : Val) (h : Heap) : runFn call n F64 [a0, a1, a2, a3, a4] h = s64 call n a0 a1 a2 a3 a4 h := by kernel_rfl
def s65_l0 (call : Call) (n : Nat) (again0 : List Val → Heap → R) (c24 : Val) (c25 : Val) (y3 : Val) (y26 : Val) (h : Heap) : R :=
 cmC .lt y26 c25 fun x27_15 =>
 cnd x27_15 (
 ixsC 1 c24 y26 fun x28_16 =>
 ldC false 1 x28_16 h fun x29_17 =>
 bslC 1 [x29_17] fun x32_18 =>
 appC false 1 y3 x32_18 h fun x33_19 h =>
 biC .add y26 (.int .i64 1 : Val) fun x34_20 =>
 again0 [x33_19, x34_20] h) (
 some (y3, h))
def s65 (call : Call) (n : Nat) (a0 : Val) (h : Heap) : R :=
 cmC .eq a0 (.str [] : Val) fun x7_1 =>
 cnd x7_1 (
 some ((.sl .nl 1 [] : Val), h)) (
 lensC a0 fun x9_2 =>
 cmC .le x9_2 (.int .i64 52 : Val) fun x10_3 =>
 cnd x10_3 (
 lensC a0 fun x13_4 =>
 biC .sub (.int .i64 52 : Val) x13_4 fun x14_5 =>
 mspC 1 (.int .u8 0) x14_5 x14_5 fun x15_6 =>
 cvsC x15_6 h fun x16_7 =>
 addSC a0 x16_7 fun x17_8 =>
 bslC 1 [x17_8] fun x18_9 =>
 some (x18_9, h)) (
 slsC a0 none (some (.int .i64 52 : Val)) fun x20_10 =>
 bslC 1 [x20_10] fun x21_11 =>
 slsC a0 (some (.int .i64 52 : Val)) none fun x23_12 =>
 clC call 65 [x23_12] h fun x24_13 h =>
 lenlC x24_13 fun x25_14 =>
 iter n (fun again0 xs h => s65_l0 call n again0 x24_13 x25_14 (getN xs 0) (getN xs 1) h) [x21_11, (.int .i64 0 : Val)] h))
theorem e65 (call : Call) (n : Nat) (a0 : Val) (h : Heap) : runFn call n F65 [a0] h = s65 call n a0 h := by kernel_rfl
def s66 (call : Call) (n : Nat) (a0 : Val) (h : Heap) : R :=
 boxC 4 a0 h fun x1_1 h =>
 faC 0 x1_1 fun x4_2 =>
 ldC false 1 x4_2 h fun x5_3 =>
 cviC .u64 x5_3 fun x6_4 =>
 faC 1 x1_1 fun x9_5 =>
 ldC false 1 x9_5 h fun x10_6 =>
 cviC .u64 x10_6 fun x11_7 =>
 faC 2 x1_1 fun x14_8 =>
 ldC false 1 x14_8 h fun x15_9 =>
 cviC .u64 x15_9 fun x16_10 =>
 faC 3 x1_1 fun x19_11 =>
 ldC false 1 x19_11 h fun x20_12 =>
 cviC .u64 x20_12 fun x21_13 =>
 mspC 1 (.int .u8 0) (.int .i64 8 : Val) (.int .i64 8 : Val) fun x24_14 =>
 cvsC x24_14 h fun x25_15 =>
 clC call 116 [x6_4, (.int .i64 2 : Val)] h fun x7_16 h =>
 ldC false 1 x9_5 h fun v18 =>
 bif eqv v18 x10_6 then
 ldC false 1 x14_8 h fun v20 =>
 bif eqv v20 x15_9 then
 ldC false 1 x19_11 h fun v22 =>
 bif eqv v22 x20_12 then
 cvsC x24_14 h fun v24 =>
 bif eqv v24 x25_15 then
 addSC (.str [87, 83] : Val) x7_16 fun x8_25 =>
 clC call 116 [x11_7, (.int .i64 4 : Val)] h fun x12_26 h =>
 ldC false 1 x14_8 h fun v28 =>
 bif eqv v28 x15_9 then
 ldC false 1 x19_11 h fun v30 =>
 bif eqv v30 x20_12 then
 cvsC x24_14 h fun v32 =>
 bif eqv v32 x25_15 then
 addSC x8_25 x12_26 fun x13_33 =>
 clC call 116 [x16_10, (.int .i64 4 : Val)] h fun x17_34 h =>
 ldC false 1 x19_11 h fun v36 =>
 bif eqv v36 x20_12 then
 cvsC x24_14 h fun v38 =>
 bif eqv v38 x25_15 then
 addSC x13_33 x17_34 fun x18_39 =>
 clC call 116 [x21_13, (.int .i64 8 : Val)] h fun x22_40 h =>
 cvsC x24_14 h fun v42 =>
 bif eqv v42 x25_15 then
 addSC x18_39 x22_40 fun x23_43 =>
 addSC x23_43 x25_15 fun x26_44 =>
 clC call 117 [(.int .u32 0 : Val), x26_44] h fun x29_45 h =>
 cviC .u64 x29_45 fun x30_46 =>
 clC call 116 [x30_46, (.int .i64 4 : Val)] h fun x31_47 h =>
 addSC x26_44 x31_47 fun x32_48 =>
 some (x32_48, h) else none else none else none else none else none else none else none else none else none else none
theorem e66 (call : Call) (n : Nat) (a0 : Val) (h : Heap) : runFn call n F66 [a0] h = s66 call n a0 h := by kernel_rfl
def s67 (call : Call) (n : Nat) (a0 : Val) (a1 : Val) (h : Heap) : R :=
 boxC 2 a1 h fun x3_1 h =>
 faC 0 x3_1 fun x5_2 =>
 ldC false 1 x5_2 h fun x6_3 =>
 cmC .lt x6_3 (.int .i64 1 : Val) fun x7_4 =>
 gdC x7_4 false h (fun k => faC 0 x3_1 fun x9_5 => k x9_5 h) fun x9_6 h =>
 gdC x7_4 false h (fun k => ldC false 1 x9_6 h fun x10_7 => k x10_7 h) fun x10_8 h =>
 gdC x7_4 false h (fun k => cmC .gt x10_8 (.int .i64 255 : Val) fun x11_9 => k x11_9 h) fun x11_10 h =>
 pickC x7_4 (.bool true : Val) x11_10 fun x12_11 =>
 gdC x12_11 false h (fun k => k a0 h) fun x14_12 h =>
 gdC x12_11 false h (fun k => clC call 118 [x14_12] h fun x15_13 h => k x15_13 h) fun x15_14 h =>
 gdC x12_11 false h (fun k => notC x15_14 fun x16_15 => k x16_15 h) fun x16_16 h =>
 pickC x12_11 (.bool true : Val) x16_16 fun x17_17 =>
 cnd x17_17 (
 some ((.int .i64 1 : Val), h)) (
 faC 1 x3_1 fun x18_18 =>
 ldC false 1 x18_18 h fun x19_19 =>
 lensC x19_19 fun x20_20 =>
 cmC .gt x20_20 (.int .i64 773 : Val) fun x21_21 =>
 cnd x21_21 (
 some ((.int .i64 2 : Val), h)) (
 some ((.int .i64 0 : Val), h)))
theorem e67 (call : Call) (n : Nat) (a0 : Val) (a1 : Val) (h : Heap) : runFn call n F67 [a0, a1] h = s67 call n a0 a1 h := by kernel_rfl
def s68 (call : Call) (n : Nat) (a0 : Val) (a1 : Val) (a2 : Val) (h : Heap) : R :=
 boxC 2 a2 h fun x5_1 h =>
 faC 1 x5_1 fun x7_2 =>
 ldC false 1 x7_2 h fun x8_3 =>
 lensC x8_3 fun x9_4 =>
 biC .add x9_4 (.int .i64 1 : Val) fun x10_5 =>
 cviC .u64 x10_5 fun x11_6 =>
 faC 0 x5_1 fun x15_7 =>
 ldC false 1 x15_7 h fun x16_8 =>
 faC 1 x5_1 fun x17_9 =>
 ldC false 1 x17_9 h fun x18_10 =>
 faC 0 x5_1 fun x23_11 =>
 ldC false 1 x23_11 h fun x24_12 =>
 cviC .u8 x24_12 fun x25_13 =>
 bslC 1 [x25_13] fun x26_14 =>
 cvsC x26_14 h fun x27_15 =>
 faC 1 x5_1 fun x29_16 =>
 ldC false 1 x29_16 h fun x30_17 =>
 clC call 116 [x11_6, (.int .i64 2 : Val)] h fun x12_18 h =>
 ldC false 1 x15_7 h fun v20 =>
 bif eqv v20 x16_8 then
 ldC false 1 x17_9 h fun v22 =>
 bif eqv v22 x18_10 then
 ldC false 1 x23_11 h fun v24 =>
 bif eqv v24 x24_12 then
 cvsC x26_14 h fun v26 =>
 bif eqv v26 x27_15 then
 ldC false 1 x29_16 h fun v28 =>
 bif eqv v28 x30_17 then
 clC call 119 [a0, a1, x16_8, x18_10] h fun x19_29 h =>
 ldC false 1 x23_11 h fun v31 =>
 bif eqv v31 x24_12 then
 cvsC x26_14 h fun v33 =>
 bif eqv v33 x27_15 then
 ldC false 1 x29_16 h fun v35 =>
 bif eqv v35 x30_17 then
 cviC .u64 x19_29 fun x20_36 =>
 clC call 116 [x20_36, (.int .i64 4 : Val)] h fun x21_37 h =>
 ldC false 1 x23_11 h fun v39 =>
 bif eqv v39 x24_12 then
 cvsC x26_14 h fun v41 =>
 bif eqv v41 x27_15 then
 ldC false 1 x29_16 h fun v43 =>
 bif eqv v43 x30_17 then
 addSC x12_18 x21_37 fun x22_44 =>
 addSC x22_44 x27_15 fun x28_45 =>
 addSC x28_45 x30_17 fun x31_46 =>
 some (x31_46, h) else none else none else none else none else none else none else none else none else none else none else none
theorem e68 (call : Call) (n : Nat) (a0 : Val) (a1 : Val) (a2 : Val) (h : Heap) : runFn call n F68 [a0, a1, a2] h = s68 call n a0 a1 a2 h := by kernel_rfl
def s69 (call : Call) (n : Nat) (a0 : Val) (a1 : Val) (a2 : Val) (h : Heap) : R :=
 cviC .u64 a0 fun x9_1 =>
 clC call 116 [x9_1, (.int .i64 4 : Val)] h fun x10_2 h =>
 cviC .u64 a1 fun x12_3 =>
 clC call 116 [x12_3, (.int .i64 2 : Val)] h fun x13_4 h =>
 addSC x10_2 x13_4 fun x14_5 =>
 addSC x14_5 a2 fun x17_6 =>
 addSC x17_6 x14_5 fun x19_7 =>
 some (x19_7, h)
theorem e69 (call : Call) (n : Nat) (a0 : Val) (a1 : Val) (a2 : Val) (h : Heap) : runFn call n F69 [a0, a1, a2] h = s69 call n a0 a1 a2 h := by kernel_rfl
def s70 (call : Call) (n : Nat) (a0 : Val) (h : Heap) : R :=
 cmC .lt a0 (.int .i64 1 : Val) fun x5_1 =>
 gdC x5_1 false h (fun k => k a0 h) fun x7_2 h =>
 gdC x5_1 false h (fun k => cmC .gt x7_2 (.int .i64 8192 : Val) fun x8_3 => k x8_3 h) fun x8_4 h =>
 pickC x5_1 (.bool true : Val) x8_4 fun x9_5 =>
 cnd x9_5 (
 some (.tup [(.nilp : Val), (.int .i64 1 : Val)], h)) (
 msmC 64 (.agg [.int .u8 0, .int .u8 0, .int .u8 0, .int .u8 0, .int .u8 0, .int .u8 0, .int .u8 0, .int .u8 0, .int .u8 0, .int .u8 0, .int .u8 0, .int .u8 0, .int .u8 0, .int .u8 0, .int .u8 0, .int .u8 0, .int .u8 0, .int .u8 0, .int .u8 0, .int .u8 0, .int .u8 0, .int .u8 0, .int .u8 0, .int .u8 0, .int .u8 0, .int .u8 0, .int .u8 0, .int .u8 0, .int .u8 0, .int .u8 0, .int .u8 0, .int .u8 0, .int .u8 0, .int .u8 0, .int .u8 0, .int .u8 0, .int .u8 0, .int .u8 0, .int .u8 0, .int .u8 0, .int .u8 0, .int .u8 0, .int .u8 0, .int .u8 0, .int .u8 0, .int .u8 0, .int .u8 0, .int .u8 0, .int .u8 0, .int .u8 0, .int .u8 0, .int .u8 0, .int .u8 0, .int .u8 0, .int .u8 0, .int .u8 0, .int .u8 0, .int .u8 0, .int .u8 0, .int .u8 0, .int .u8 0, .int .u8 0, .int .u8 0, .int .u8 0]) a0 a0 h fun x11_6 h =>
 aggC [.sl .nl 64 [], .sl .nl 65 []] [(0, 1, x11_6)] fun x12_7 =>
 boxC 2 x12_7 h fun x13_8 h =>
 some (.tup [x13_8, (.int .i64 0 : Val)], h))
theorem e70 (call : Call) (n : Nat) (a0 : Val) (h : Heap) : runFn call n F70 [a0] h = s70 call n a0 h := by kernel_rfl
def s71 (call : Call) (n : Nat) (a0 : Val) (a1 : Val) (a2 : Val) (h : Heap) : R :=
 ceC .p false a0 (.nilp : Val) fun x10_1 =>
 cnd x10_1 (
 some (.tup [(.nilp : Val), (.int .i64 7 : Val)], h)) (
 cmC .lt a1 (.int .i64 0 : Val) fun x13_2 =>
 gdC x13_2 false h (fun k => k a2 h) fun x15_3 h =>
 gdC x13_2 false h (fun k => cmC .lt x15_3 (.int .i64 1 : Val) fun x16_4 => k x16_4 h) fun x16_5 h =>
 pickC x13_2 (.bool true : Val) x16_5 fun x17_6 =>
 gdC x17_6 false h (fun k => k a1 h) fun x19_7 h =>
 gdC x17_6 false h (fun k => k a0 h) fun x20_8 h =>
 gdC x17_6 false h (fun k => clC call 120 [x20_8] h fun x21_9 h => k x21_9 h) fun x21_10 h =>
 gdC x17_6 false h (fun k => cmC .gt x19_7 x21_10 fun x22_11 => k x22_11 h) fun x22_12 h =>
 pickC x17_6 (.bool true : Val) x22_12 fun x23_13 =>
 gdC x23_13 false h (fun k => k a2 h) fun x25_14 h =>
 gdC x23_13 false h (fun k => k a0 h) fun x26_15 h =>
 gdC x23_13 false h (fun k => clC call 120 [x26_15] h fun x27_16 h => k x27_16 h) fun x27_17 h =>
 gdC x23_13 false h (fun k => k a1 h) fun x28_18 h =>
 gdC x23_13 false h (fun k => biC .sub x27_17 x28_18 fun x29_19 => k x29_19 h) fun x29_20 h =>
 gdC x23_13 false h (fun k => cmC .gt x25_14 x29_20 fun x30_21 => k x30_21 h) fun x30_22 h =>
 pickC x23_13 (.bool true : Val) x30_22 fun x31_23 =>
 cnd x31_23 (
 some (.tup [(.nilp : Val), (.int .i64 20 : Val)], h)) (
 aggC [.nilp, .int .i64 0, .int .i64 0, .int .i64 0, .int .i64 0, .bool false] [(0, 1, a0), (1, 1, a1), (2, 1, a2), (3, 1, (.int .i64 (-1) : Val))] fun x35_24 =>
 boxC 6 x35_24 h fun x36_25 h =>
 some (.tup [x36_25, (.int .i64 0 : Val)], h)))
theorem e71 (call : Call) (n : Nat) (a0 : Val) (a1 : Val) (a2 : Val) (h : Heap) : runFn call n F71 [a0, a1, a2] h = s71 call n a0 a1 a2 h := by kernel_rfl
def s72 (call : Call) (n : Nat) (a0 : Val) (a1 : Val) (h : Heap) : R :=
 cmC .ge a1 (.int .i64 0 : Val) fun x6_1 =>
 gdC x6_1 true h (fun k => k a1 h) fun x8_2 h =>
 gdC x6_1 true h (fun k => k a0 h) fun x9_3 h =>
 gdC x6_1 true h (fun k => nilC x9_3 fun x10_4 => k x10_4 h) fun x10_5 h =>
 gdC x6_1 true h (fun k => faC 2 x10_5 fun x11_6 => k x11_6 h) fun x11_7 h =>
 gdC x6_1 true h (fun k => ldC false 1 x11_7 h fun x12_8 => k x12_8 h) fun x12_9 h =>
 gdC x6_1 true h (fun k => cmC .lt x8_2 x12_9 fun x13_10 => k x13_10 h) fun x13_11 h =>
 pickC x6_1 x13_11 (.bool false : Val) fun x14_12 =>
 some (x14_12, h)
theorem e72 (call : Call) (n : Nat) (a0 : Val) (a1 : Val) (h : Heap) : runFn call n F72 [a0, a1] h = s72 call n a0 a1 h := by kernel_rfl
def s73_j1 (call : Call) (n : Nat) (w0 : Val) (w1 : Val) (h : Heap) : R :=
 nilC w0 fun x30_22 =>
 faC 4 x30_22 fun x31_23 =>
 ldC false 1 x31_23 h fun x32_24 =>
 biC .add x32_24 (.int .i64 1 : Val) fun x33_25 =>
 nilC w0 fun x34_26 =>
 faC 4 x34_26 fun x35_27 =>
 stC 1 x35_27 x33_25 h fun h =>
 cvC call w1 [] h fun x37_29 h =>
 some (x37_29, h)
def s73_j0 (call : Call) (n : Nat) (w0 : Val) (w1 : Val) (h : Heap) : R :=
 nilC w0 fun x14_8 =>
 faC 5 x14_8 fun x15_9 =>
 ldC false 1 x15_9 h fun x16_10 =>
 cnd x16_10 (
 some ((.int .i64 21 : Val), h)) (
 nilC w0 fun x18_11 =>
 faC 3 x18_11 fun x19_12 =>
 ldC false 1 x19_12 h fun x20_13 =>
 cmC .gt x20_13 (.int .i64 0 : Val) fun x21_14 =>
 cnd x21_14 (
 nilC w0 fun x23_15 =>
 faC 3 x23_15 fun x24_16 =>
 ldC false 1 x24_16 h fun x25_17 =>
 biC .sub x25_17 (.int .i64 1 : Val) fun x26_18 =>
 nilC w0 fun x27_19 =>
 faC 3 x27_19 fun x28_20 =>
 stC 1 x28_20 x26_18 h fun h =>
 s73_j1 call n w0 w1 h) (
 s73_j1 call n w0 w1 h))
def s73 (call : Call) (n : Nat) (a0 : Val) (a1 : Val) (h : Heap) : R :=
 nilC a0 fun x6_1 =>
 faC 3 x6_1 fun x7_2 =>
 ldC false 1 x7_2 h fun x8_3 =>
 cmC .eq x8_3 (.int .i64 0 : Val) fun x9_4 =>
 cnd x9_4 (
 nilC a0 fun x11_5 =>
 faC 5 x11_5 fun x12_6 =>
 stC 1 x12_6 (.bool true : Val) h fun h =>
 s73_j0 call n a0 a1 h) (
 s73_j0 call n a0 a1 h)
theorem e73 (call : Call) (n : Nat) (a0 : Val) (a1 : Val) (h : Heap) : runFn call n F73 [a0, a1] h = s73 call n a0 a1 h := by kernel_rfl
def s74 (call : Call) (n : Nat) (a0 : Val) (a1 : Val) (a2 : Val) (h : Heap) : R :=
 ldC false 1 a0 h fun x4_1 =>
 nilC x4_1 fun x5_2 =>
 faC 0 x5_2 fun x6_3 =>
 ldC false 1 x6_3 h fun x7_4 =>
 ldC false 1 a0 h fun x8_5 =>
 nilC x8_5 fun x9_6 =>
 faC 1 x9_6 fun x10_7 =>
 ldC false 1 x10_7 h fun x11_8 =>
 ldC false 1 a1 h fun x12_9 =>
 biC .add x11_8 x12_9 fun x13_10 =>
 ldC false 1 a2 h fun x14_11 =>
 clC call 75 [x7_4, x13_10, x14_11] h fun x15_12 h =>
 some (x15_12, h)
theorem e74 (call : Call) (n : Nat) (a0 : Val) (a1 : Val) (a2 : Val) (h : Heap) : runFn call n F74 [a0, a1, a2] h = s74 call n a0 a1 a2 h := by kernel_rfl
def s75 (call : Call) (n : Nat) (a0 : Val) (a1 : Val) (a2 : Val) (h : Heap) : R :=
 ceC .p false a0 (.nilp : Val) fun x10_1 =>
 cnd x10_1 (
 some ((.int .i64 7 : Val), h)) (
 clC call 121 [a0, a1] h fun x14_2 h =>
 notC x14_2 fun x15_3 =>
 cnd x15_3 (
 some ((.int .i64 20 : Val), h)) (
 lensC a2 fun x18_4 =>
 cmC .ne x18_4 (.int .i64 64 : Val) fun x19_5 =>
 cnd x19_5 (
 some ((.int .i64 1 : Val), h)) (
 aggC [.int .i64 0, .int .u8 0, .int .u8 0, .int .u8 0, .int .u8 0, .int .u8 0, .int .u8 0, .int .u8 0, .int .u8 0, .int .u8 0, .int .u8 0, .int .u8 0, .int .u8 0, .int .u8 0, .int .u8 0, .int .u8 0, .int .u8 0, .int .u8 0, .int .u8 0, .int .u8 0, .int .u8 0, .int .u8 0, .int .u8 0, .int .u8 0, .int .u8 0, .int .u8 0, .int .u8 0, .int .u8 0, .int .u8 0, .int .u8 0, .int .u8 0, .int .u8 0, .int .u8 0, .int .u8 0, .int .u8 0, .int .u8 0, .int .u8 0, .int .u8 0, .int .u8 0, .int .u8 0, .int .u8 0, .int .u8 0, .int .u8 0, .int .u8 0, .int .u8 0, .int .u8 0, .int .u8 0, .int .u8 0, .int .u8 0, .int .u8 0, .int .u8 0, .int .u8 0, .int .u8 0, .int .u8 0, .int .u8 0, .int .u8 0, .int .u8 0, .int .u8 0, .int .u8 0, .int .u8 0, .int .u8 0, .int .u8 0, .int .u8 0, .int .u8 0, .int .u8 0] [(0, 1, a1)] fun x21_6 =>
 allocC [.int .i64 0, .int .u8 0, .int .u8 0, .int .u8 0, .int .u8 0, .int .u8 0, .int .u8 0, .int .u8 0, .int .u8 0, .int .u8 0, .int .u8 0, .int .u8 0, .int .u8 0, .int .u8 0, .int .u8 0, .int .u8 0, .int .u8 0, .int .u8 0, .int .u8 0, .int .u8 0, .int .u8 0, .int .u8 0, .int .u8 0, .int .u8 0, .int .u8 0, .int .u8 0, .int .u8 0, .int .u8 0, .int .u8 0, .int .u8 0, .int .u8 0, .int .u8 0, .int .u8 0, .int .u8 0, .int .u8 0, .int .u8 0, .int .u8 0, .int .u8 0, .int .u8 0, .int .u8 0, .int .u8 0, .int .u8 0, .int .u8 0, .int .u8 0, .int .u8 0, .int .u8 0, .int .u8 0, .int .u8 0, .int .u8 0, .int .u8 0, .int .u8 0, .int .u8 0, .int .u8 0, .int .u8 0, .int .u8 0, .int .u8 0, .int .u8 0, .int .u8 0, .int .u8 0, .int .u8 0, .int .u8 0, .int .u8 0, .int .u8 0, .int .u8 0, .int .u8 0] h fun x7_7 h =>
 stC 65 x7_7 x21_6 h fun h =>
 faC 1 x7_7 fun x22_9 =>
 slaC 64 1 x22_9 none none fun x23_10 =>
 cpyC 1 x23_10 a2 h fun x25_11 h =>
 nilC a0 fun x28_12 =>
 faC 1 x28_12 fun x29_13 =>
 ldC false 1 x29_13 h fun x30_14 =>
 ldC true 65 x7_7 h fun x31_15 =>
 bslC 65 [x31_15] fun x32_16 =>
 appC true 65 x30_14 x32_16 h fun x33_17 h =>
 nilC a0 fun x34_18 =>
 faC 1 x34_18 fun x35_19 =>
 stC 1 x35_19 x33_17 h fun h =>
 some ((.int .i64 0 : Val), h))))
theorem e75 (call : Call) (n : Nat) (a0 : Val) (a1 : Val) (a2 : Val) (h : Heap) : runFn call n F75 [a0, a1, a2] h = s75 call n a0 a1 a2 h := by kernel_rfl
def s76 (call : Call) (n : Nat) (a0 : Val) (a1 : Val) (h : Heap) : R :=
 ceC .p false a0 (.nilp : Val) fun x8_1 =>
 cnd x8_1 (
 some (.tup [(.int .i64 0 : Val), (.int .i64 7 : Val)], h)) (
 cmC .lt a1 (.int .i64 0 : Val) fun x11_2 =>
 gdC x11_2 false h (fun k => k a1 h) fun x13_3 h =>
 gdC x11_2 false h (fun k => k a0 h) fun x14_4 h =>
 gdC x11_2 false h (fun k => clC call 122 [x14_4] h fun x15_5 h => k x15_5 h) fun x15_6 h =>
 gdC x11_2 false h (fun k => biC .sub x15_6 (.int .i64 2 : Val) fun x16_7 => k x16_7 h) fun x16_8 h =>
 gdC x11_2 false h (fun k => biC .quo x16_8 (.int .i64 16 : Val) fun x17_9 => k x17_9 h) fun x17_10 h =>
 gdC x11_2 false h (fun k => cmC .ge x13_3 x17_10 fun x18_11 => k x18_11 h) fun x18_12 h =>
 pickC x11_2 (.bool true : Val) x18_12 fun x19_13 =>
 cnd x19_13 (
 some (.tup [(.int .i64 0 : Val), (.int .i64 20 : Val)], h)) (
 biC .mul (.int .i64 16 : Val) a1 fun x21_14 =>
 biC .add (.int .i64 2 : Val) x21_14 fun x22_15 =>
 some (.tup [x22_15, (.int .i64 0 : Val)], h)))
theorem e76 (call : Call) (n : Nat) (a0 : Val) (a1 : Val) (h : Heap) : runFn call n F76 [a0, a1] h = s76 call n a0 a1 h := by kernel_rfl
def s77_j0 (call : Call) (n : Nat) (again0 : List Val → Heap → R) (w0 : Val) (w1 : Val) (w12 : Val) (h : Heap) : R :=
 biC .add w12 (.int .i64 1 : Val) fun x59_31 =>
 again0 [x59_31] h
def s77_l0 (call : Call) (n : Nat) (again0 : List Val → Heap → R) (c0 : Val) (c1 : Val) (y12 : Val) (h : Heap) : R :=
 cmC .lt y12 (.int .i64 16 : Val) fun x13_1 =>
 cnd x13_1 (
 nilC c0 fun x17_2 =>
 faC 0 x17_2 fun x18_3 =>
 ldC false 1 x18_3 h fun x19_4 =>
 nilC x19_4 fun x20_5 =>
 faC 0 x20_5 fun x21_6 =>
 ldC false 1 x21_6 h fun x22_7 =>
 biC .add c1 y12 fun x25_8 =>
 clC call 62 [x22_7, x25_8] h fun x26_9 h =>
 exC 0 x26_9 fun x27_10 =>
 exC 1 x26_9 fun x28_11 =>
 cmC .ne x28_11 (.int .i64 0 : Val) fun x30_12 =>
 cnd x30_12 (
 some (x28_11, h)) (
 clC call 123 [x27_10] h fun x34_13 h =>
 exC 0 x34_13 fun x35_14 =>
 exC 1 x34_13 fun x36_15 =>
 exC 2 x34_13 fun x37_16 =>
 exC 3 x34_13 fun x38_17 =>
 cmC .eq x38_17 (.int .i64 0 : Val) fun x40_18 =>
 cnd x40_18 (
 nilC c0 fun x44_19 =>
 faC 1 x44_19 fun x45_20 =>
 ixpC 16 1 x45_20 y12 fun x46_21 =>
 stC 1 x46_21 x37_16 h fun h =>
 nilC c0 fun x50_23 =>
 faC 17 x50_23 fun x51_24 =>
 ixpC 16 1 x51_24 y12 fun x52_25 =>
 stC 1 x52_25 x35_14 h fun h =>
 nilC c0 fun x56_27 =>
 faC 33 x56_27 fun x57_28 =>
 ixpC 16 1 x57_28 y12 fun x58_29 =>
 stC 1 x58_29 x36_15 h fun h =>
 s77_j0 call n again0 c0 c1 y12 h) (
 s77_j0 call n again0 c0 c1 y12 h))) (
 some ((.int .i64 0 : Val), h))
def s77 (call : Call) (n : Nat) (a0 : Val) (a1 : Val) (h : Heap) : R :=
 iter n (fun again0 xs h => s77_l0 call n again0 a0 a1 (getN xs 0) h) [(.int .i64 0 : Val)] h
theorem e77 (call : Call) (n : Nat) (a0 : Val) (a1 : Val) (h : Heap) : runFn call n F77 [a0, a1] h = s77 call n a0 a1 h := by kernel_rfl
def s78 (call : Call) (n : Nat) (a0 : Val) (h : Heap) : R :=
 nilC a0 fun x7_1 =>
 faC 1 x7_1 fun x8_2 =>
 ixpC 16 1 x8_2 (.int .i64 0 : Val) fun x9_3 =>
 ldC false 1 x9_3 h fun x10_4 =>
 clC call 124 [x10_4] h fun x11_5 h =>
 exC 0 x11_5 fun x12_6 =>
 exC 1 x11_5 fun x13_7 =>
 allocC [.int .i64 0, .int .u32 0, .int .u32 0, .int .i64 0] h fun x3_8 h =>
 stC 4 x3_8 x12_6 h fun h =>
 nilC a0 fun x15_10 =>
 faC 33 x15_10 fun x16_11 =>
 ixpC 16 1 x16_11 (.int .i64 0 : Val) fun x17_12 =>
 ldC false 1 x17_12 h fun x18_13 =>
 cmC .ne x18_13 (.int .i64 1 : Val) fun x19_14 =>
 gdC x19_14 false h (fun k => k x13_7 h) fun x21_15 h =>
 gdC x19_14 false h (fun k => cmC .ne x21_15 (.int .i64 0 : Val) fun x22_16 => k x22_16 h) fun x22_17 h =>
 pickC x19_14 (.bool true : Val) x22_17 fun x23_18 =>
 gdC x23_18 false h (fun k => faC 2 x3_8 fun x25_19 => k x25_19 h) fun x25_20 h =>
 gdC x23_18 false h (fun k => ldC false 1 x25_20 h fun x26_21 => k x26_21 h) fun x26_22 h =>
 gdC x23_18 false h (fun k => k a0 h) fun x27_23 h =>
 gdC x23_18 false h (fun k => nilC x27_23 fun x28_24 => k x28_24 h) fun x28_25 h =>
 gdC x23_18 false h (fun k => faC 17 x28_25 fun x29_26 => k x29_26 h) fun x29_27 h =>
 gdC x23_18 false h (fun k => ixpC 16 1 x29_27 (.int .i64 0 : Val) fun x30_28 => k x30_28 h) fun x30_29 h =>
 gdC x23_18 false h (fun k => ldC false 1 x30_29 h fun x31_30 => k x31_30 h) fun x31_31 h =>
 gdC x23_18 false h (fun k => cmC .ne x26_22 x31_31 fun x32_32 => k x32_32 h) fun x32_33 h =>
 pickC x23_18 (.bool true : Val) x32_33 fun x33_34 =>
 cnd x33_34 (
 some ((.bool false : Val), h)) (
 nilC a0 fun x35_35 =>
 faC 0 x35_35 fun x36_36 =>
 ldC false 1 x36_36 h fun x37_37 =>
 ldC true 4 x3_8 h fun x38_38 =>
 nilC x37_37 fun x39_39 =>
 faC 2 x39_39 fun x40_40 =>
 stC 4 x40_40 x38_38 h fun h =>
 some ((.bool true : Val), h))
theorem e78 (call : Call) (n : Nat) (a0 : Val) (h : Heap) : runFn call n F78 [a0] h = s78 call n a0 h := by kernel_rfl
def s79 (call : Call) (n : Nat) (a0 : Val) (h : Heap) : R :=
 nilC a0 fun x9_1 =>
 faC 0 x9_1 fun x10_2 =>
 ldC false 1 x10_2 h fun x11_3 =>
 nilC x11_3 fun x12_4 =>
 faC 6 x12_4 fun x13_5 =>
 ldC false 1 x13_5 h fun x14_6 =>
 lenlC x14_6 fun x15_7 =>
 biC .add x15_7 (.int .i64 2 : Val) fun x16_8 =>
 clC call 125 [a0, (.int .i64 1 : Val), x16_8] h fun x19_9 h =>
 notC x19_9 fun x20_10 =>
 cnd x20_10 (
 some ((.bool false : Val), h)) (
 nilC a0 fun x23_11 =>
 faC 0 x23_11 fun x24_12 =>
 ldC false 1 x24_12 h fun x25_13 =>
 nilC x25_13 fun x26_14 =>
 faC 7 x26_14 fun x27_15 =>
 ldC false 1 x27_15 h fun x28_16 =>
 nilC a0 fun x29_17 =>
 faC 1 x29_17 fun x30_18 =>
 ixpC 16 1 x30_18 x28_16 fun x31_19 =>
 ldC false 1 x31_19 h fun x32_20 =>
 clC call 126 [x32_20] h fun x33_21 h =>
 clC call 125 [a0, x33_21, x16_8] h fun x37_22 h =>
 notC x37_22 fun x38_23 =>
 cnd x38_23 (
 some ((.bool false : Val), h)) (
 nilC a0 fun x41_24 =>
 faC 0 x41_24 fun x42_25 =>
 ldC false 1 x42_25 h fun x43_26 =>
 nilC x43_26 fun x44_27 =>
 faC 2 x44_27 fun x45_28 =>
 faC 2 x45_28 fun x46_29 =>
 ldC false 1 x46_29 h fun x47_30 =>
 nilC a0 fun x49_31 =>
 faC 0 x49_31 fun x50_32 =>
 ldC false 1 x50_32 h fun x51_33 =>
 nilC x51_33 fun x52_34 =>
 faC 7 x52_34 fun x53_35 =>
 ldC false 1 x53_35 h fun x54_36 =>
 nilC a0 fun x56_37 =>
 faC 1 x56_37 fun x57_38 =>
 nilC a0 fun x59_39 =>
 faC 0 x59_39 fun x60_40 =>
 ldC false 1 x60_40 h fun x61_41 =>
 nilC x61_41 fun x62_42 =>
 faC 7 x62_42 fun x63_43 =>
 ldC false 1 x63_43 h fun x64_44 =>
 nilC a0 fun x66_45 =>
 faC 0 x66_45 fun x67_46 =>
 ldC false 1 x67_46 h fun x68_47 =>
 nilC x68_47 fun x69_48 =>
 faC 7 x69_48 fun x70_49 =>
 ldC false 1 x70_49 h fun x71_50 =>
 biC .add x71_50 x33_21 fun x73_51 =>
 slaC 16 1 x57_38 (some x64_44) (some x73_51) fun x74_52 =>
 clC call 128 [x74_52, (.str [] : Val)] h fun x75_53 h =>
 ldC false 1 x42_25 h fun v55 =>
 bif eqv v55 x43_26 then
 ldC false 1 x46_29 h fun v57 =>
 bif eqv v57 x47_30 then
 ldC false 1 x50_32 h fun v59 =>
 bif eqv v59 x51_33 then
 ldC false 1 x53_35 h fun v61 =>
 bif eqv v61 x54_36 then
 clC call 127 [x47_30, x54_36, x75_53] h fun x76_62 h =>
 exC 0 x76_62 fun x77_63 =>
 exC 1 x76_62 fun x78_64 =>
 exC 2 x76_62 fun x79_65 =>
 allocC [.int .i64 0, .str []] h fun x5_66 h =>
 stC 2 x5_66 x77_63 h fun h =>
 cmC .ne x79_65 (.int .i64 0 : Val) fun x81_68 =>
 cnd x81_68 (
 some ((.bool false : Val), h)) (
 nilC a0 fun x83_69 =>
 faC 0 x83_69 fun x84_70 =>
 ldC false 1 x84_70 h fun x85_71 =>
 nilC a0 fun x87_72 =>
 faC 0 x87_72 fun x88_73 =>
 ldC false 1 x88_73 h fun x89_74 =>
 nilC x89_74 fun x90_75 =>
 faC 6 x90_75 fun x91_76 =>
 ldC false 1 x91_76 h fun x92_77 =>
 ldC true 2 x5_66 h fun x93_78 =>
 bslC 2 [x93_78] fun x94_79 =>
 appC true 2 x92_77 x94_79 h fun x95_80 h =>
 ldC false 1 x84_70 h fun v82 =>
 bif eqv v82 x85_71 then
 nilC x85_71 fun x96_83 =>
 faC 6 x96_83 fun x97_84 =>
 stC 1 x97_84 x95_80 h fun h =>
 nilC a0 fun x99_86 =>
 faC 0 x99_86 fun x100_87 =>
 ldC false 1 x100_87 h fun x101_88 =>
 nilC x101_88 fun x102_89 =>
 faC 7 x102_89 fun x103_90 =>
 ldC false 1 x103_90 h fun x104_91 =>
 biC .add x104_91 x33_21 fun x106_92 =>
 nilC x101_88 fun x107_93 =>
 faC 7 x107_93 fun x108_94 =>
 stC 1 x108_94 x106_92 h fun h =>
 some ((.bool true : Val), h) else none) else none else none else none else none))
theorem e79 (call : Call) (n : Nat) (a0 : Val) (h : Heap) : runFn call n F79 [a0] h = s79 call n a0 h := by kernel_rfl
def s80 (call : Call) (n : Nat) (a0 : Val) (h : Heap) : R :=
 allocC [.int .i64 0, .int .u32 0, .int .u32 0, .int .i64 0, .int .i64 0] h fun x2_1 h =>
 lensC a0 fun x6_2 =>
 cmC .lt x6_2 (.int .i64 32 : Val) fun x7_3 =>
 cnd x7_3 (
 aggC [.int .i64 0, .int .u32 0, .int .u32 0, .int .i64 0, .int .i64 0] [(4, 1, (.int .i64 3 : Val))] fun x8_4 =>
 stC 5 x2_1 x8_4 h fun h =>
 ldC true 5 x2_1 h fun v6 =>
 some (v6, h)) (
 slsC a0 (some (.int .i64 12 : Val)) (some (.int .i64 20 : Val)) fun x10_7 =>
 clC call 115 [x10_7] h fun x11_8 h =>
 cmC .gt x11_8 (.int .u64 1099511627776 : Val) fun x13_9 =>
 cnd x13_9 (
 aggC [.int .i64 0, .int .u32 0, .int .u32 0, .int .i64 0, .int .i64 0] [(4, 1, (.int .i64 4 : Val))] fun x14_10 =>
 stC 5 x2_1 x14_10 h fun h =>
 ldC true 5 x2_1 h fun v12 =>
 some (v12, h)) (
 slsC a0 (some (.int .i64 2 : Val)) (some (.int .i64 4 : Val)) fun x16_13 =>
 slsC a0 (some (.int .i64 4 : Val)) (some (.int .i64 8 : Val)) fun x20_14 =>
 slsC a0 (some (.int .i64 8 : Val)) (some (.int .i64 12 : Val)) fun x24_15 =>
 cviC .i64 x11_8 fun x28_16 =>
 clC call 115 [x16_13] h fun x17_17 h =>
 cviC .i64 x17_17 fun x18_18 =>
 clC call 115 [x20_14] h fun x21_19 h =>
 cviC .u32 x21_19 fun x22_20 =>
 clC call 115 [x24_15] h fun x25_21 h =>
 cviC .u32 x25_21 fun x26_22 =>
 aggC [.int .i64 0, .int .u32 0, .int .u32 0, .int .i64 0] [(0, 1, x18_18), (1, 1, x22_20), (2, 1, x26_22), (3, 1, x28_16)] fun x29_23 =>
 allocC [.int .i64 0, .int .u32 0, .int .u32 0, .int .i64 0] h fun x4_24 h =>
 stC 4 x4_24 x29_23 h fun h =>
 ldC true 4 x4_24 h fun x30_26 =>
 clC call 12 [x30_26] h fun x31_27 h =>
 notC x31_27 fun x32_28 =>
 gdC x32_28 false h (fun k => ldC true 4 x4_24 h fun x34_29 => k x34_29 h) fun x34_30 h =>
 gdC x32_28 false h (fun k => k a0 h) fun x36_31 h =>
 gdC x32_28 false h (fun k => slsC x36_31 none (some (.int .i64 32 : Val)) fun x37_32 => k x37_32 h) fun x37_33 h =>
 gdC x32_28 false h (fun k => clC call 66 [x34_30] h fun x35_34 h => k x35_34 h) fun x35_35 h =>
 gdC x32_28 false h (fun k => cmC .ne x35_35 x37_33 fun x38_36 => k x38_36 h) fun x38_37 h =>
 pickC x32_28 (.bool true : Val) x38_37 fun x39_38 =>
 cnd x39_38 (
 aggC [.int .i64 0, .int .u32 0, .int .u32 0, .int .i64 0, .int .i64 0] [(4, 1, (.int .i64 4 : Val))] fun x40_39 =>
 stC 5 x2_1 x40_39 h fun h =>
 ldC true 5 x2_1 h fun v41 =>
 some (v41, h)) (
 ldC true 4 x4_24 h fun x41_42 =>
 aggC [.int .i64 0, .int .u32 0, .int .u32 0, .int .i64 0, .int .i64 0] [(0, 4, x41_42)] fun x42_43 =>
 stC 5 x2_1 x42_43 h fun h =>
 ldC true 5 x2_1 h fun v45 =>
 some (v45, h))))
theorem e80 (call : Call) (n : Nat) (a0 : Val) (h : Heap) : runFn call n F80 [a0] h = s80 call n a0 h := by kernel_rfl
def s81 (call : Call) (n : Nat) (a0 : Val) (a1 : Val) (a2 : Val) (h : Heap) : R :=
 allocC [.int .i64 0, .str [], .int .i64 0, .int .i64 0] h fun x6_1 h =>
 clC call 118 [a1] h fun x10_2 h =>
 notC x10_2 fun x11_3 =>
 cnd x11_3 (
 aggC [.int .i64 0, .str [], .int .i64 0, .int .i64 0] [(3, 1, (.int .i64 1 : Val))] fun x12_4 =>
 stC 4 x6_1 x12_4 h fun h =>
 ldC true 4 x6_1 h fun v6 =>
 some (v6, h)) (
 lensC a2 fun x14_7 =>
 cmC .lt x14_7 (.int .i64 2 : Val) fun x15_8 =>
 cnd x15_8 (
 aggC [.int .i64 0, .str [], .int .i64 0, .int .i64 0] [(3, 1, (.int .i64 3 : Val))] fun x16_9 =>
 stC 4 x6_1 x16_9 h fun h =>
 ldC true 4 x6_1 h fun v11 =>
 some (v11, h)) (
 ixtC a2 (.int .i64 0 : Val) fun x18_12 =>
 cviC .i64 x18_12 fun x19_13 =>
 biC .mul x19_13 (.int .i64 256 : Val) fun x20_14 =>
 ixtC a2 (.int .i64 1 : Val) fun x22_15 =>
 cviC .i64 x22_15 fun x23_16 =>
 biC .add x20_14 x23_16 fun x24_17 =>
 cmC .eq x24_17 (.int .i64 0 : Val) fun x26_18 =>
 cnd x26_18 (
 aggC [.int .i64 0, .str [], .int .i64 0, .int .i64 0] [(3, 1, (.int .i64 6 : Val))] fun x27_19 =>
 stC 4 x6_1 x27_19 h fun h =>
 ldC true 4 x6_1 h fun v21 =>
 some (v21, h)) (
 cmC .gt x24_17 (.int .i64 774 : Val) fun x29_22 =>
 cnd x29_22 (
 aggC [.int .i64 0, .str [], .int .i64 0, .int .i64 0] [(3, 1, (.int .i64 2 : Val))] fun x30_23 =>
 stC 4 x6_1 x30_23 h fun h =>
 ldC true 4 x6_1 h fun v25 =>
 some (v25, h)) (
 lensC a2 fun x32_26 =>
 biC .add (.int .i64 6 : Val) x24_17 fun x34_27 =>
 cmC .lt x32_26 x34_27 fun x35_28 =>
 cnd x35_28 (
 aggC [.int .i64 0, .str [], .int .i64 0, .int .i64 0] [(3, 1, (.int .i64 3 : Val))] fun x36_29 =>
 stC 4 x6_1 x36_29 h fun h =>
 ldC true 4 x6_1 h fun v31 =>
 some (v31, h)) (
 ixtC a2 (.int .i64 6 : Val) fun x38_32 =>
 cviC .i64 x38_32 fun x39_33 =>
 biC .add (.int .i64 6 : Val) x24_17 fun x42_34 =>
 slsC a2 (some (.int .i64 7 : Val)) (some x42_34) fun x43_35 =>
 aggC [.int .i64 0, .str []] [(0, 1, x39_33), (1, 1, x43_35)] fun x44_36 =>
 allocC [.int .i64 0, .str []] h fun x8_37 h =>
 stC 2 x8_37 x44_36 h fun h =>
 faC 0 x8_37 fun x45_39 =>
 ldC false 1 x45_39 h fun x46_40 =>
 cmC .eq x46_40 (.int .i64 0 : Val) fun x47_41 =>
 gdC x47_41 false h (fun k => k a0 h) fun x49_42 h =>
 gdC x47_41 false h (fun k => k a1 h) fun x50_43 h =>
 gdC x47_41 false h (fun k => ldC true 2 x8_37 h fun x51_44 => k x51_44 h) fun x51_45 h =>
 gdC x47_41 false h (fun k => k a2 h) fun x53_46 h =>
 gdC x47_41 false h (fun k => k x24_17 h) fun x54_47 h =>
 gdC x47_41 false h (fun k => biC .add (.int .i64 6 : Val) x54_47 fun x55_48 => k x55_48 h) fun x55_49 h =>
 gdC x47_41 false h (fun k => slsC x53_46 none (some x55_49) fun x56_50 => k x56_50 h) fun x56_51 h =>
 gdC x47_41 false h (fun k => clC call 68 [x49_42, x50_43, x51_45] h fun x52_52 h => k x52_52 h) fun x52_53 h =>
 gdC x47_41 false h (fun k => cmC .ne x52_53 x56_51 fun x57_54 => k x57_54 h) fun x57_55 h =>
 pickC x47_41 (.bool true : Val) x57_55 fun x58_56 =>
 cnd x58_56 (
 aggC [.int .i64 0, .str [], .int .i64 0, .int .i64 0] [(3, 1, (.int .i64 4 : Val))] fun x59_57 =>
 stC 4 x6_1 x59_57 h fun h =>
 ldC true 4 x6_1 h fun v59 =>
 some (v59, h)) (
 ldC true 2 x8_37 h fun x60_60 =>
 biC .add (.int .i64 6 : Val) x24_17 fun x62_61 =>
 aggC [.int .i64 0, .str [], .int .i64 0, .int .i64 0] [(0, 2, x60_60), (2, 1, x62_61)] fun x63_62 =>
 stC 4 x6_1 x63_62 h fun h =>
 ldC true 4 x6_1 h fun v64 =>
 some (v64, h)))))))
theorem e81 (call : Call) (n : Nat) (a0 : Val) (a1 : Val) (a2 : Val) (h : Heap) : runFn call n F81 [a0, a1, a2] h = s81 call n a0 a1 a2 h := by kernel_rfl
def s82_j0 (call : Call) (n : Nat) (again0 : List Val → Heap → R) (w9 : Val) (h : Heap) : R :=
 some (w9, h)
def s82_l0 (call : Call) (n : Nat) (again0 : List Val → Heap → R) (c1 : Val) (c3 : Val) (c4 : Val) (y9 : Val) (y10 : Val) (h : Heap) : R :=
 cmC .lt y10 (.int .i64 16 : Val) fun x14_2 =>
 cnd x14_2 (
 faC 0 c4 fun x18_3 =>
 ixpC 16 1 x18_3 y10 fun x19_4 =>
 ldC false 1 x19_4 h fun x20_5 =>
 clC call 63 [x20_5] h fun x21_6 h =>
 allocC [.int .u32 0, .int .i64 0, .str [], .bool false] h fun x11_7 h =>
 stC 4 x11_7 x21_6 h fun h =>
 faC 3 x11_7 fun x22_9 =>
 ldC false 1 x22_9 h fun x23_10 =>
 notC x23_10 fun x24_11 =>
 gdC x24_11 false h (fun k => faC 0 x11_7 fun x26_12 => k x26_12 h) fun x26_13 h =>
 gdC x24_11 false h (fun k => ldC false 1 x26_13 h fun x27_14 => k x27_14 h) fun x27_15 h =>
 gdC x24_11 false h (fun k => k c1 h) fun x28_16 h =>
 gdC x24_11 false h (fun k => cmC .ne x27_15 x28_16 fun x29_17 => k x29_17 h) fun x29_18 h =>
 pickC x24_11 (.bool true : Val) x29_18 fun x30_19 =>
 gdC x30_19 false h (fun k => faC 1 x11_7 fun x32_20 => k x32_20 h) fun x32_21 h =>
 gdC x30_19 false h (fun k => ldC false 1 x32_21 h fun x33_22 => k x33_22 h) fun x33_23 h =>
 gdC x30_19 false h (fun k => k c3 h) fun x34_24 h =>
 gdC x30_19 false h (fun k => cmC .ne x33_23 x34_24 fun x35_25 => k x35_25 h) fun x35_26 h =>
 pickC x30_19 (.bool true : Val) x35_26 fun x36_27 =>
 cnd x36_27 (
 s82_j0 call n again0 y9 h) (
 faC 2 x11_7 fun x38_28 =>
 ldC false 1 x38_28 h fun x39_29 =>
 addSC y9 x39_29 fun x40_30 =>
 biC .add y10 (.int .i64 1 : Val) fun x16_31 =>
 again0 [x40_30, x16_31] h)) (
 s82_j0 call n again0 y9 h)
def s82 (call : Call) (n : Nat) (a0 : Val) (a1 : Val) (a2 : Val) (a3 : Val) (h : Heap) : R :=
 boxC 16 a0 h fun x4_1 h =>
 iter n (fun again0 xs h => s82_l0 call n again0 a1 a3 x4_1 (getN xs 0) (getN xs 1) h) [(.str [] : Val), a2] h
theorem e82 (call : Call) (n : Nat) (a0 : Val) (a1 : Val) (a2 : Val) (a3 : Val) (h : Heap) : runFn call n F82 [a0, a1, a2, a3] h = s82 call n a0 a1 a2 a3 h := by kernel_rfl
def s83 (call : Call) (n : Nat) (a0 : Val) (a1 : Val) (a2 : Val) (h : Heap) : R :=
 boxC 2 a2 h fun x5_1 h =>
 faC 0 x5_1 fun x10_2 =>
 ldC false 1 x10_2 h fun x11_3 =>
 cmC .lt x11_3 (.int .i64 1 : Val) fun x12_4 =>
 gdC x12_4 false h (fun k => faC 0 x5_1 fun x14_5 => k x14_5 h) fun x14_6 h =>
 gdC x12_4 false h (fun k => ldC false 1 x14_6 h fun x15_7 => k x15_7 h) fun x15_8 h =>
 gdC x12_4 false h (fun k => cmC .gt x15_8 (.int .i64 255 : Val) fun x16_9 => k x16_9 h) fun x16_10 h =>
 pickC x12_4 (.bool true : Val) x16_10 fun x17_11 =>
 gdC x17_11 false h (fun k => k a1 h) fun x19_12 h =>
 gdC x17_11 false h (fun k => clC call 129 [x19_12] h fun x20_13 h => k x20_13 h) fun x20_14 h =>
 gdC x17_11 false h (fun k => notC x20_14 fun x21_15 => k x21_15 h) fun x21_16 h =>
 pickC x17_11 (.bool true : Val) x21_16 fun x22_17 =>
 cnd x22_17 (
 some (.tup [(.str [] : Val), (.int .i64 1 : Val)], h)) (
 faC 1 x5_1 fun x24_18 =>
 ldC false 1 x24_18 h fun x25_19 =>
 lensC x25_19 fun x26_20 =>
 cmC .gt x26_20 (.int .i64 773 : Val) fun x27_21 =>
 cnd x27_21 (
 some (.tup [(.str [] : Val), (.int .i64 2 : Val)], h)) (
 faC 0 x5_1 fun x28_22 =>
 ldC false 1 x28_22 h fun x29_23 =>
 cviC .u8 x29_23 fun x30_24 =>
 bslC 1 [x30_24] fun x31_25 =>
 cvsC x31_25 h fun x32_26 =>
 faC 1 x5_1 fun x33_27 =>
 ldC false 1 x33_27 h fun x34_28 =>
 addSC x32_26 x34_28 fun x35_29 =>
 lensC x35_29 fun x37_30 =>
 clC call 130 [x37_30, (.int .i64 2 : Val)] h fun x38_31 h =>
 clC call 131 [a0, a1, x35_29] h fun x42_32 h =>
 cviC .i64 x42_32 fun x43_33 =>
 clC call 130 [x43_33, (.int .i64 4 : Val)] h fun x44_34 h =>
 addSC x38_31 x44_34 fun x45_35 =>
 addSC x45_35 x35_29 fun x47_36 =>
 some (.tup [x47_36, (.int .i64 0 : Val)], h)))
theorem e83 (call : Call) (n : Nat) (a0 : Val) (a1 : Val) (a2 : Val) (h : Heap) : runFn call n F83 [a0, a1, a2] h = s83 call n a0 a1 a2 h := by kernel_rfl
def s84_l0 (call : Call) (n : Nat) (again0 : List Val → Heap → R) (c7 : Val) (y0 : Val) (y3 : Val) (y8 : Val) (h : Heap) : R :=
 cmC .lt y8 c7 fun x9_3 =>
 cnd x9_3 (
 lensC y0 fun x11_4 =>
 mnC x11_4 (.int .i64 52 : Val) fun x12_5 =>
 slsC y0 none (some x12_5) fun x16_6 =>
 biC .sub (.int .i64 52 : Val) x12_5 fun x18_7 =>
 clC call 88 [(.str [0] : Val), x18_7] h fun x19_8 h =>
 addSC x16_6 x19_8 fun x20_9 =>
 bslC 1 [x20_9] fun x21_10 =>
 appC false 1 y3 x21_10 h fun x22_11 h =>
 slsC y0 (some x12_5) none fun x25_12 =>
 biC .add y8 (.int .i64 1 : Val) fun x26_13 =>
 again0 [x25_12, x22_11, x26_13] h) (
 some (y3, h))
def s84 (call : Call) (n : Nat) (a0 : Val) (h : Heap) : R :=
 lensC a0 fun x6_1 =>
 clC call 104 [x6_1] h fun x7_2 h =>
 iter n (fun again0 xs h => s84_l0 call n again0 x7_2 (getN xs 0) (getN xs 1) (getN xs 2) h) [a0, (.sl .nl 1 [] : Val), (.int .i64 0 : Val)] h
theorem e84 (call : Call) (n : Nat) (a0 : Val) (h : Heap) : runFn call n F84 [a0] h = s84 call n a0 h := by kernel_rfl
def s85_l0 (call : Call) (n : Nat) (again0 : List Val → Heap → R) (c0 : Val) (c1 : Val) (c2 : Val) (c9 : Val) (c31 : Val) (c32 : Val) (y33 : Val) (h : Heap) : R :=
 cmC .lt y33 c32 fun x34_12 =>
 cnd x34_12 (
 ixsC 1 c31 y33 fun x36_13 =>
 ldC false 1 x36_13 h fun x37_14 =>
 nilC c0 fun x40_15 =>
 faC 2 x40_15 fun x41_16 =>
 faC 2 x41_16 fun x42_17 =>
 ldC false 1 x42_17 h fun x43_18 =>
 clC call 132 [x43_18, c2, x37_14] h fun x46_19 h =>
 exC 0 x46_19 fun x47_20 =>
 exC 1 x46_19 fun x48_21 =>
 cmC .ne x48_21 (.int .i64 0 : Val) fun x50_22 =>
 cnd x50_22 (
 some (x48_21, h)) (
 nilC c0 fun x53_23 =>
 faC 0 x53_23 fun x54_24 =>
 ldC false 1 x54_24 h fun x55_25 =>
 biC .add c9 c1 fun x58_26 =>
 biC .add x58_26 y33 fun x60_27 =>
 clC call 20 [x55_25, x60_27, x47_20] h fun x62_28 h =>
 cmC .ne x62_28 (.int .i64 0 : Val) fun x64_29 =>
 cnd x64_29 (
 some (x62_28, h)) (
 biC .add y33 (.int .i64 1 : Val) fun x66_30 =>
 again0 [x66_30] h))) (
 some ((.int .i64 0 : Val), h))
def s85 (call : Call) (n : Nat) (a0 : Val) (a1 : Val) (a2 : Val) (a3 : Val) (h : Heap) : R :=
 nilC a0 fun x18_1 =>
 faC 0 x18_1 fun x19_2 =>
 ldC false 1 x19_2 h fun x20_3 =>
 nilC a0 fun x22_4 =>
 faC 1 x22_4 fun x23_5 =>
 ldC false 1 x23_5 h fun x24_6 =>
 clC call 76 [x20_3, x24_6] h fun x25_7 h =>
 exC 0 x25_7 fun x26_8 =>
 exC 1 x25_7 fun x27_9 =>
 cmC .ne x27_9 (.int .i64 0 : Val) fun x29_10 =>
 cnd x29_10 (
 some (x27_9, h)) (
 lenlC a3 fun x32_11 =>
 iter n (fun again0 xs h => s85_l0 call n again0 a0 a1 a2 x26_8 a3 x32_11 (getN xs 0) h) [(.int .i64 0 : Val)] h)
theorem e85 (call : Call) (n : Nat) (a0 : Val) (a1 : Val) (a2 : Val) (a3 : Val) (h : Heap) : runFn call n F85 [a0, a1, a2, a3] h = s85 call n a0 a1 a2 a3 h := by kernel_rfl
def s86 (call : Call) (n : Nat) (a0 : Val) (h : Heap) : R :=
 ceC .l false a0 (.sl .nl 2 [] : Val) fun x4_1 =>
 cnd x4_1 (
 some ((.sl .nl 2 [] : Val), h)) (
 bslC 2 [] fun x5_2 =>
 appC true 2 x5_2 a0 h fun x7_3 h =>
 some (x7_3, h))
theorem e86 (call : Call) (n : Nat) (a0 : Val) (h : Heap) : runFn call n F86 [a0] h = s86 call n a0 h := by kernel_rfl
def s87_l0 (call : Call) (n : Nat) (again0 : List Val → Heap → R) (c30 : Val) (y4 : Val) (y31 : Val) (h : Heap) : R :=
 cmC .lt y31 (.int .i64 4 : Val) fun x32_28 =>
 cnd x32_28 (
 ixaC true 4 2 c30 y31 fun x33_29 =>
 allocC [.int .u64 0, .int .i64 0] h fun x6_30 h =>
 stC 2 x6_30 x33_29 h fun h =>
 faC 0 x6_30 fun x35_32 =>
 ldC false 1 x35_32 h fun x36_33 =>
 faC 1 x6_30 fun x37_34 =>
 ldC false 1 x37_34 h fun x38_35 =>
 clC call 134 [x36_33, x38_35] h fun x39_36 h =>
 exC 0 x39_36 fun x40_37 =>
 exC 1 x39_36 fun x41_38 =>
 addSC y4 x40_37 fun x44_39 =>
 biC .add y31 (.int .i64 1 : Val) fun x45_40 =>
 again0 [x44_39, x45_40] h) (
 addSC y4 (.str [0, 0, 0, 0, 0, 0, 0, 0] : Val) fun x47_41 =>
 clC call 135 [(.int .u32 0 : Val), x47_41] h fun x50_42 h =>
 cviC .u64 x50_42 fun x51_43 =>
 clC call 134 [x51_43, (.int .i64 4 : Val)] h fun x52_44 h =>
 exC 0 x52_44 fun x53_45 =>
 exC 1 x52_44 fun x54_46 =>
 addSC x47_41 x53_45 fun x57_47 =>
 some (.tup [x57_47, (.int .i64 0 : Val)], h))
def s87 (call : Call) (n : Nat) (a0 : Val) (h : Heap) : R :=
 boxC 4 a0 h fun x1_1 h =>
 faC 0 x1_1 fun x11_2 =>
 ldC false 1 x11_2 h fun x12_3 =>
 cmC .lt x12_3 (.int .i64 1 : Val) fun x13_4 =>
 gdC x13_4 false h (fun k => faC 0 x1_1 fun x15_5 => k x15_5 h) fun x15_6 h =>
 gdC x13_4 false h (fun k => ldC false 1 x15_6 h fun x16_7 => k x16_7 h) fun x16_8 h =>
 gdC x13_4 false h (fun k => cmC .gt x16_8 (.int .i64 65535 : Val) fun x17_9 => k x17_9 h) fun x17_10 h =>
 pickC x13_4 (.bool true : Val) x17_10 fun x18_11 =>
 gdC x18_11 false h (fun k => faC 3 x1_1 fun x20_12 => k x20_12 h) fun x20_13 h =>
 gdC x18_11 false h (fun k => ldC false 1 x20_13 h fun x21_14 => k x21_14 h) fun x21_15 h =>
 gdC x18_11 false h (fun k => cmC .lt x21_15 (.int .i64 0 : Val) fun x22_16 => k x22_16 h) fun x22_17 h =>
 pickC x18_11 (.bool true : Val) x22_17 fun x23_18 =>
 gdC x23_18 false h (fun k => faC 3 x1_1 fun x25_19 => k x25_19 h) fun x25_20 h =>
 gdC x23_18 false h (fun k => ldC false 1 x25_20 h fun x26_21 => k x26_21 h) fun x26_22 h =>
 gdC x23_18 false h (fun k => cmC .gt x26_22 (.int .i64 1099511627776 : Val) fun x27_23 => k x27_23 h) fun x27_24 h =>
 pickC x23_18 (.bool true : Val) x27_24 fun x28_25 =>
 cnd x28_25 (
 some (.tup [(.str [] : Val), (.int .i64 1 : Val)], h)) (
 ldC true 4 x1_1 h fun x29_26 =>
 clC call 133 [x29_26] h fun x30_27 h =>
 iter n (fun again0 xs h => s87_l0 call n again0 x30_27 (getN xs 0) (getN xs 1) h) [(.str [87, 83] : Val), (.int .i64 0 : Val)] h)
theorem e87 (call : Call) (n : Nat) (a0 : Val) (h : Heap) : runFn call n F87 [a0] h = s87 call n a0 h := by kernel_rfl
def s104 (call : Call) (n : Nat) (a0 : Val) (h : Heap) : R :=
 cmC .lt a0 (.int .i64 1 : Val) fun x4_1 =>
 cnd x4_1 (
 some ((.int .i64 0 : Val), h)) (
 biC .sub a0 (.int .i64 1 : Val) fun x6_2 =>
 biC .quo x6_2 (.int .i64 52 : Val) fun x7_3 =>
 biC .add x7_3 (.int .i64 1 : Val) fun x8_4 =>
 some (x8_4, h))
theorem e104 (call : Call) (n : Nat) (a0 : Val) (h : Heap) : runFn call n F104 [a0] h = s104 call n a0 h := by kernel_rfl
def s114_j0 (call : Call) (n : Nat) (again0 : List Val → Heap → R) (w1 : Val) (w6 : Val) (w22 : Val) (w23 : Val) (w24 : Val) (h : Heap) : R :=
 biC .add w24 (.int .i64 1 : Val) fun x35_20 =>
 again0 [w6, x35_20] h
def s114_l0 (call : Call) (n : Nat) (again0 : List Val → Heap → R) (c1 : Val) (c22 : Val) (c23 : Val) (y6 : Val) (y24 : Val) (h : Heap) : R :=
 cmC .lt y24 c23 fun x25_9 =>
 cnd x25_9 (
 ixsC 65 c22 y24 fun x26_10 =>
 ldC true 65 x26_10 h fun x27_11 =>
 allocC [.int .i64 0, .int .u8 0, .int .u8 0, .int .u8 0, .int .u8 0, .int .u8 0, .int .u8 0, .int .u8 0, .int .u8 0, .int .u8 0, .int .u8 0, .int .u8 0, .int .u8 0, .int .u8 0, .int .u8 0, .int .u8 0, .int .u8 0, .int .u8 0, .int .u8 0, .int .u8 0, .int .u8 0, .int .u8 0, .int .u8 0, .int .u8 0, .int .u8 0, .int .u8 0, .int .u8 0, .int .u8 0, .int .u8 0, .int .u8 0, .int .u8 0, .int .u8 0, .int .u8 0, .int .u8 0, .int .u8 0, .int .u8 0, .int .u8 0, .int .u8 0, .int .u8 0, .int .u8 0, .int .u8 0, .int .u8 0, .int .u8 0, .int .u8 0, .int .u8 0, .int .u8 0, .int .u8 0, .int .u8 0, .int .u8 0, .int .u8 0, .int .u8 0, .int .u8 0, .int .u8 0, .int .u8 0, .int .u8 0, .int .u8 0, .int .u8 0, .int .u8 0, .int .u8 0, .int .u8 0, .int .u8 0, .int .u8 0, .int .u8 0, .int .u8 0, .int .u8 0] h fun x9_12 h =>
 stC 65 x9_12 x27_11 h fun h =>
 faC 0 x9_12 fun x28_14 =>
 ldC false 1 x28_14 h fun x29_15 =>
 cmC .eq x29_15 c1 fun x31_16 =>
 cnd x31_16 (
 faC 1 x9_12 fun x32_17 =>
 slaC 64 1 x32_17 none none fun x33_18 =>
 cvsC x33_18 h fun x34_19 =>
 s114_j0 call n again0 c1 x34_19 c22 c23 y24 h) (
 s114_j0 call n again0 c1 y6 c22 c23 y24 h)) (
 some (.tup [y6, (.int .i64 0 : Val)], h))
def s114 (call : Call) (n : Nat) (a0 : Val) (a1 : Val) (h : Heap) : R :=
 clC call 153 [a0, a1] h fun x13_1 h =>
 exC 0 x13_1 fun x14_2 =>
 exC 1 x13_1 fun x15_3 =>
 cmC .ne x15_3 (.int .i64 0 : Val) fun x17_4 =>
 cnd x17_4 (
 some (.tup [(.str [] : Val), x15_3], h)) (
 nilC a0 fun x20_5 =>
 faC 1 x20_5 fun x21_6 =>
 ldC false 1 x21_6 h fun x22_7 =>
 lenlC x22_7 fun x23_8 =>
 iter n (fun again0 xs h => s114_l0 call n again0 a1 x22_7 x23_8 (getN xs 0) (getN xs 1) h) [x14_2, (.int .i64 0 : Val)] h)
theorem e114 (call : Call) (n : Nat) (a0 : Val) (a1 : Val) (h : Heap) : runFn call n F114 [a0, a1] h = s114 call n a0 a1 h := by kernel_rfl
def s115_l0 (call : Call) (n : Nat) (again0 : List Val → Heap → R) (c0 : Val) (c6 : Val) (y3 : Val) (y7 : Val) (h : Heap) : R :=
 cmC .lt y7 c6 fun x8_2 =>
 cnd x8_2 (
 biC .mul (.int .u64 256 : Val) y3 fun x11_3 =>
 ixtC c0 y7 fun x14_4 =>
 cviC .u64 x14_4 fun x15_5 =>
 biC .add x11_3 x15_5 fun x16_6 =>
 biC .add y7 (.int .i64 1 : Val) fun x17_7 =>
 again0 [x16_6, x17_7] h) (
 some (y3, h))
def s115 (call : Call) (n : Nat) (a0 : Val) (h : Heap) : R :=
 lensC a0 fun x6_1 =>
 iter n (fun again0 xs h => s115_l0 call n again0 a0 x6_1 (getN xs 0) (getN xs 1) h) [(.int .u64 0 : Val), (.int .i64 0 : Val)] h
theorem e115 (call : Call) (n : Nat) (a0 : Val) (h : Heap) : runFn call n F115 [a0] h = s115 call n a0 h := by kernel_rfl
def s116_l0 (call : Call) (n : Nat) (again0 : List Val → Heap → R) (c6 : Val) (y0 : Val) (y5 : Val) (y7 : Val) (h : Heap) : R :=
 cmC .lt y7 c6 fun x8_1 =>
 cnd x8_1 (
 biC .rem y0 (.int .u64 256 : Val) fun x10_2 =>
 cviC .u8 x10_2 fun x11_3 =>
 bslC 1 [x11_3] fun x12_4 =>
 cvsC x12_4 h fun x13_5 =>
 addSC x13_5 y5 fun x15_6 =>
 biC .quo y0 (.int .u64 256 : Val) fun x17_7 =>
 biC .add y7 (.int .i64 1 : Val) fun x18_8 =>
 again0 [x17_7, x15_6, x18_8] h) (
 some (y5, h))
def s116 (call : Call) (n : Nat) (a0 : Val) (a1 : Val) (h : Heap) : R :=
 iter n (fun again0 xs h => s116_l0 call n again0 a1 (getN xs 0) (getN xs 1) (getN xs 2) h) [a0, (.str [] : Val), (.int .i64 0 : Val)] h
theorem e116 (call : Call) (n : Nat) (a0 : Val) (a1 : Val) (h : Heap) : runFn call n F116 [a0, a1] h = s116 call n a0 a1 h := by kernel_rfl
def s117_l1 (call : Call) (n : Nat) (again0 : List Val → Heap → R) (again1 : List Val → Heap → R) (c1 : Val) (c10 : Val) (c11 : Val) (y5 : Val) (y20 : Val) (h : Heap) : R :=
 cmC .lt y20 (.int .i64 8 : Val) fun x21_7 =>
 cnd x21_7 (
 clC call 154 [y5] h fun x23_8 h =>
 biC .add y20 (.int .i64 1 : Val) fun x24_9 =>
 again1 [x23_8, x24_9] h) (
 biC .add c11 (.int .i64 1 : Val) fun x25_10 =>
 again0 [y5, x25_10] h)
def s117_l0 (call : Call) (n : Nat) (again0 : List Val → Heap → R) (c1 : Val) (c10 : Val) (y5 : Val) (y11 : Val) (h : Heap) : R :=
 cmC .lt y11 c10 fun x12_3 =>
 cnd x12_3 (
 ixtC c1 y11 fun x17_4 =>
 cviC .u32 x17_4 fun x18_5 =>
 biC .xor y5 x18_5 fun x19_6 =>
 iter n (fun again1 xs h => s117_l1 call n again0 again1 c1 c10 y11 (getN xs 0) (getN xs 1) h) [x19_6, (.int .i64 0 : Val)] h) (
 biC .sub (.int .u32 4294967295 : Val) y5 fun x27_11 =>
 some (x27_11, h))
def s117 (call : Call) (n : Nat) (a0 : Val) (a1 : Val) (h : Heap) : R :=
 biC .sub (.int .u32 4294967295 : Val) a0 fun x8_1 =>
 lensC a1 fun x10_2 =>
 iter n (fun again0 xs h => s117_l0 call n again0 a1 x10_2 (getN xs 0) (getN xs 1) h) [x8_1, (.int .i64 0 : Val)] h
theorem e117 (call : Call) (n : Nat) (a0 : Val) (a1 : Val) (h : Heap) : runFn call n F117 [a0, a1] h = s117 call n a0 a1 h := by kernel_rfl
def s118 (call : Call) (n : Nat) (a0 : Val) (h : Heap) : R :=
 cmC .ge a0 (.int .i64 1 : Val) fun x4_1 =>
 gdC x4_1 true h (fun k => k a0 h) fun x6_2 h =>
 gdC x4_1 true h (fun k => cmC .lt x6_2 (.int .i64 16 : Val) fun x7_3 => k x7_3 h) fun x7_4 h =>
 pickC x4_1 x7_4 (.bool false : Val) fun x8_5 =>
 some (x8_5, h)
theorem e118 (call : Call) (n : Nat) (a0 : Val) (h : Heap) : runFn call n F118 [a0] h = s118 call n a0 h := by kernel_rfl
def s119 (call : Call) (n : Nat) (a0 : Val) (a1 : Val) (a2 : Val) (a3 : Val) (h : Heap) : R :=
 cviC .u64 a0 fun x11_1 =>
 clC call 116 [x11_1, (.int .i64 4 : Val)] h fun x12_2 h =>
 cviC .u64 a1 fun x14_3 =>
 clC call 116 [x14_3, (.int .i64 2 : Val)] h fun x15_4 h =>
 addSC x12_2 x15_4 fun x16_5 =>
 lensC a3 fun x18_6 =>
 biC .add x18_6 (.int .i64 1 : Val) fun x19_7 =>
 cviC .u64 x19_7 fun x20_8 =>
 clC call 116 [x20_8, (.int .i64 2 : Val)] h fun x21_9 h =>
 addSC x16_5 x21_9 fun x22_10 =>
 cviC .u8 a2 fun x25_11 =>
 bslC 1 [x25_11] fun x26_12 =>
 cvsC x26_12 h fun x27_13 =>
 addSC x22_10 x27_13 fun x28_14 =>
 addSC x28_14 a3 fun x30_15 =>
 clC call 117 [(.int .u32 0 : Val), x30_15] h fun x31_16 h =>
 some (x31_16, h)
theorem e119 (call : Call) (n : Nat) (a0 : Val) (a1 : Val) (a2 : Val) (a3 : Val) (h : Heap) : runFn call n F119 [a0, a1, a2, a3] h = s119 call n a0 a1 a2 a3 h := by kernel_rfl
def s120 (call : Call) (n : Nat) (a0 : Val) (h : Heap) : R :=
 ceC .p false a0 (.nilp : Val) fun x4_1 =>
 cnd x4_1 (
 some ((.int .i64 0 : Val), h)) (
 nilC a0 fun x6_2 =>
 faC 0 x6_2 fun x7_3 =>
 ldC false 1 x7_3 h fun x8_4 =>
 lenlC x8_4 fun x9_5 =>
 some (x9_5, h))
theorem e120 (call : Call) (n : Nat) (a0 : Val) (h : Heap) : runFn call n F120 [a0] h = s120 call n a0 h := by kernel_rfl
def s121 (call : Call) (n : Nat) (a0 : Val) (a1 : Val) (h : Heap) : R :=
 cmC .ge a1 (.int .i64 0 : Val) fun x6_1 =>
 gdC x6_1 true h (fun k => k a1 h) fun x8_2 h =>
 gdC x6_1 true h (fun k => k a0 h) fun x9_3 h =>
 gdC x6_1 true h (fun k => clC call 120 [x9_3] h fun x10_4 h => k x10_4 h) fun x10_5 h =>
 gdC x6_1 true h (fun k => cmC .lt x8_2 x10_5 fun x11_6 => k x11_6 h) fun x11_7 h =>
 pickC x6_1 x11_7 (.bool false : Val) fun x12_8 =>
 some (x12_8, h)
theorem e121 (call : Call) (n : Nat) (a0 : Val) (a1 : Val) (h : Heap) : runFn call n F121 [a0, a1] h = s121 call n a0 a1 h := by kernel_rfl
def s122 (call : Call) (n : Nat) (a0 : Val) (h : Heap) : R :=
 ceC .p false a0 (.nilp : Val) fun x4_1 =>
 cnd x4_1 (
 some ((.int .i64 0 : Val), h)) (
 nilC a0 fun x6_2 =>
 faC 2 x6_2 fun x7_3 =>
 ldC false 1 x7_3 h fun x8_4 =>
 some (x8_4, h))
theorem e122 (call : Call) (n : Nat) (a0 : Val) (h : Heap) : runFn call n F122 [a0] h = s122 call n a0 h := by kernel_rfl
def s123 (call : Call) (n : Nat) (a0 : Val) (h : Heap) : R :=
 lensC a0 fun x11_1 =>
 cmC .ne x11_1 (.int .i64 64 : Val) fun x12_2 =>
 gdC x12_2 false h (fun k => k a0 h) fun x14_3 h =>
 gdC x12_2 false h (fun k => slsC x14_3 none (some (.int .i64 6 : Val)) fun x15_4 => k x15_4 h) fun x15_5 h =>
 gdC x12_2 false h (fun k => k a0 h) fun x16_6 h =>
 gdC x12_2 false h (fun k => slsC x16_6 (some (.int .i64 58 : Val)) none fun x17_7 => k x17_7 h) fun x17_8 h =>
 gdC x12_2 false h (fun k => cmC .ne x15_5 x17_8 fun x18_9 => k x18_9 h) fun x18_10 h =>
 pickC x12_2 (.bool true : Val) x18_10 fun x19_11 =>
 cnd x19_11 (
 some (.tup [(.int .u32 0 : Val), (.int .i64 0 : Val), (.str [] : Val), (.int .i64 4 : Val)], h)) (
 slsC a0 none (some (.int .i64 4 : Val)) fun x22_12 =>
 clC call 155 [x22_12] h fun x23_13 h =>
 exC 0 x23_13 fun x24_14 =>
 exC 1 x23_13 fun x25_15 =>
 slsC a0 (some (.int .i64 4 : Val)) (some (.int .i64 6 : Val)) fun x28_16 =>
 clC call 155 [x28_16] h fun x29_17 h =>
 exC 0 x29_17 fun x30_18 =>
 exC 1 x29_17 fun x31_19 =>
 cmC .eq x30_18 (.int .u64 0 : Val) fun x33_20 =>
 cnd x33_20 (
 some (.tup [(.int .u32 0 : Val), (.int .i64 0 : Val), (.str [] : Val), (.int .i64 4 : Val)], h)) (
 cviC .u32 x24_14 fun x35_21 =>
 cviC .i64 x30_18 fun x37_22 =>
 slsC a0 (some (.int .i64 6 : Val)) (some (.int .i64 58 : Val)) fun x39_23 =>
 some (.tup [x35_21, x37_22, x39_23, (.int .i64 0 : Val)], h)))
theorem e123 (call : Call) (n : Nat) (a0 : Val) (h : Heap) : runFn call n F123 [a0] h = s123 call n a0 h := by kernel_rfl
def s124_l0 (call : Call) (n : Nat) (again0 : List Val → Heap → R) (c0 : Val) (c2 : Val) (c4 : Val) (c18 : Val) (y5 : Val) (y19 : Val) (h : Heap) : R :=
 cmC .lt y19 (.int .i64 4 : Val) fun x20_10 =>
 cnd x20_10 (
 ixaC true 4 2 c18 y19 fun x22_11 =>
 allocC [.int .u64 0, .int .i64 0] h fun x7_12 h =>
 stC 2 x7_12 x22_11 h fun h =>
 faC 1 x7_12 fun x27_14 =>
 ldC false 1 x27_14 h fun x28_15 =>
 biC .add y5 x28_15 fun x29_16 =>
 slsC c0 (some y5) (some x29_16) fun x30_17 =>
 clC call 155 [x30_17] h fun x31_18 h =>
 exC 0 x31_18 fun x32_19 =>
 exC 1 x31_18 fun x33_20 =>
 ixpC 4 1 c4 y19 fun x36_21 =>
 stC 1 x36_21 x32_19 h fun h =>
 faC 1 x7_12 fun x38_23 =>
 ldC false 1 x38_23 h fun x39_24 =>
 biC .add y5 x39_24 fun x40_25 =>
 biC .add y19 (.int .i64 1 : Val) fun x41_26 =>
 again0 [x40_25, x41_26] h) (
 ixpC 4 1 c4 (.int .i64 3 : Val) fun x42_27 =>
 ldC false 1 x42_27 h fun x43_28 =>
 cmC .gt x43_28 (.int .u64 1099511627776 : Val) fun x44_29 =>
 cnd x44_29 (
 aggC [.int .i64 0, .int .u32 0, .int .u32 0, .int .i64 0] [] fun x45_30 =>
 stC 4 c2 x45_30 h fun h =>
 ldC true 4 c2 h fun v32 =>
 some (.tup [v32, (.int .i64 4 : Val)], h)) (
 ixpC 4 1 c4 (.int .i64 0 : Val) fun x46_33 =>
 ldC false 1 x46_33 h fun x47_34 =>
 cviC .i64 x47_34 fun x48_35 =>
 ixpC 4 1 c4 (.int .i64 1 : Val) fun x49_36 =>
 ldC false 1 x49_36 h fun x50_37 =>
 cviC .u32 x50_37 fun x51_38 =>
 ixpC 4 1 c4 (.int .i64 2 : Val) fun x52_39 =>
 ldC false 1 x52_39 h fun x53_40 =>
 cviC .u32 x53_40 fun x54_41 =>
 ixpC 4 1 c4 (.int .i64 3 : Val) fun x55_42 =>
 ldC false 1 x55_42 h fun x56_43 =>
 cviC .i64 x56_43 fun x57_44 =>
 aggC [.int .i64 0, .int .u32 0, .int .u32 0, .int .i64 0] [(0, 1, x48_35), (1, 1, x51_38), (2, 1, x54_41), (3, 1, x57_44)] fun x58_45 =>
 allocC [.int .i64 0, .int .u32 0, .int .u32 0, .int .i64 0] h fun x10_46 h =>
 stC 4 x10_46 x58_45 h fun h =>
 ldC true 4 x10_46 h fun x60_48 =>
 clC call 87 [x60_48] h fun x61_49 h =>
 exC 0 x61_49 fun x62_50 =>
 exC 1 x61_49 fun x63_51 =>
 cmC .ne x63_51 (.int .i64 0 : Val) fun x65_52 =>
 gdC x65_52 false h (fun k => k x62_50 h) fun x67_53 h =>
 gdC x65_52 false h (fun k => k c0 h) fun x68_54 h =>
 gdC x65_52 false h (fun k => slsC x68_54 none (some (.int .i64 32 : Val)) fun x69_55 => k x69_55 h) fun x69_56 h =>
 gdC x65_52 false h (fun k => cmC .ne x67_53 x69_56 fun x70_57 => k x70_57 h) fun x70_58 h =>
 pickC x65_52 (.bool true : Val) x70_58 fun x71_59 =>
 cnd x71_59 (
 aggC [.int .i64 0, .int .u32 0, .int .u32 0, .int .i64 0] [] fun x72_60 =>
 stC 4 c2 x72_60 h fun h =>
 ldC true 4 c2 h fun v62 =>
 some (.tup [v62, (.int .i64 4 : Val)], h)) (
 ldC true 4 x10_46 h fun x73_63 =>
 stC 4 c2 x73_63 h fun h =>
 ldC true 4 c2 h fun v65 =>
 some (.tup [v65, (.int .i64 0 : Val)], h))))
def s124 (call : Call) (n : Nat) (a0 : Val) (h : Heap) : R :=
 allocC [.int .i64 0, .int .u32 0, .int .u32 0, .int .i64 0] h fun x2_1 h =>
 lensC a0 fun x14_2 =>
 cmC .lt x14_2 (.int .i64 32 : Val) fun x15_3 =>
 cnd x15_3 (
 aggC [.int .i64 0, .int .u32 0, .int .u32 0, .int .i64 0] [] fun x16_4 =>
 stC 4 x2_1 x16_4 h fun h =>
 ldC true 4 x2_1 h fun v6 =>
 some (.tup [v6, (.int .i64 3 : Val)], h)) (
 allocC [.int .u64 0, .int .u64 0, .int .u64 0, .int .u64 0] h fun x4_7 h =>
 aggC [.int .i64 0, .int .u32 0, .int .u32 0, .int .i64 0] [] fun x17_8 =>
 clC call 133 [x17_8] h fun x18_9 h =>
 iter n (fun again0 xs h => s124_l0 call n again0 a0 x2_1 x4_7 x18_9 (getN xs 0) (getN xs 1) h) [(.int .i64 2 : Val), (.int .i64 0 : Val)] h)
theorem e124 (call : Call) (n : Nat) (a0 : Val) (h : Heap) : runFn call n F124 [a0] h = s124 call n a0 h := by kernel_rfl
def s125_l0 (call : Call) (n : Nat) (again0 : List Val → Heap → R) (c0 : Val) (c2 : Val) (c18 : Val) (y19 : Val) (h : Heap) : R :=
 cmC .lt y19 c18 fun x20_9 =>
 cnd x20_9 (
 nilC c0 fun x24_10 =>
 faC 0 x24_10 fun x25_11 =>
 ldC false 1 x25_11 h fun x26_12 =>
 nilC x26_12 fun x27_13 =>
 faC 7 x27_13 fun x28_14 =>
 ldC false 1 x28_14 h fun x29_15 =>
 biC .add x29_15 y19 fun x31_16 =>
 nilC c0 fun x32_17 =>
 faC 33 x32_17 fun x33_18 =>
 ixpC 16 1 x33_18 x31_16 fun x34_19 =>
 ldC false 1 x34_19 h fun x35_20 =>
 cmC .ne x35_20 c2 fun x37_21 =>
 gdC x37_21 false h (fun k => k c0 h) fun x39_22 h =>
 gdC x37_21 false h (fun k => k c0 h) fun x40_23 h =>
 gdC x37_21 false h (fun k => nilC x40_23 fun x41_24 => k x41_24 h) fun x41_25 h =>
 gdC x37_21 false h (fun k => faC 0 x41_25 fun x42_26 => k x42_26 h) fun x42_27 h =>
 gdC x37_21 false h (fun k => ldC false 1 x42_27 h fun x43_28 => k x43_28 h) fun x43_29 h =>
 gdC x37_21 false h (fun k => nilC x43_29 fun x44_30 => k x44_30 h) fun x44_31 h =>
 gdC x37_21 false h (fun k => faC 7 x44_31 fun x45_32 => k x45_32 h) fun x45_33 h =>
 gdC x37_21 false h (fun k => ldC false 1 x45_33 h fun x46_34 => k x46_34 h) fun x46_35 h =>
 gdC x37_21 false h (fun k => k y19 h) fun x47_36 h =>
 gdC x37_21 false h (fun k => biC .add x46_35 x47_36 fun x48_37 => k x48_37 h) fun x48_38 h =>
 gdC x37_21 false h (fun k => nilC x39_22 fun x49_39 => k x49_39 h) fun x49_40 h =>
 gdC x37_21 false h (fun k => faC 17 x49_40 fun x50_41 => k x50_41 h) fun x50_42 h =>
 gdC x37_21 false h (fun k => ixpC 16 1 x50_42 x48_38 fun x51_43 => k x51_43 h) fun x51_44 h =>
 gdC x37_21 false h (fun k => ldC false 1 x51_44 h fun x52_45 => k x52_45 h) fun x52_46 h =>
 gdC x37_21 false h (fun k => k c0 h) fun x53_47 h =>
 gdC x37_21 false h (fun k => nilC x53_47 fun x54_48 => k x54_48 h) fun x54_49 h =>
 gdC x37_21 false h (fun k => faC 0 x54_49 fun x55_50 => k x55_50 h) fun x55_51 h =>
 gdC x37_21 false h (fun k => ldC false 1 x55_51 h fun x56_52 => k x56_52 h) fun x56_53 h =>
 gdC x37_21 false h (fun k => nilC x56_53 fun x57_54 => k x57_54 h) fun x57_55 h =>
 gdC x37_21 false h (fun k => faC 2 x57_55 fun x58_56 => k x58_56 h) fun x58_57 h =>
 gdC x37_21 false h (fun k => faC 2 x58_57 fun x59_58 => k x59_58 h) fun x59_59 h =>
 gdC x37_21 false h (fun k => ldC false 1 x59_59 h fun x60_60 => k x60_60 h) fun x60_61 h =>
 gdC x37_21 false h (fun k => cmC .ne x52_46 x60_61 fun x61_62 => k x61_62 h) fun x61_63 h =>
 pickC x37_21 (.bool true : Val) x61_63 fun x62_64 =>
 cnd x62_64 (
 some ((.bool false : Val), h)) (
 biC .add y19 (.int .i64 1 : Val) fun x63_65 =>
 again0 [x63_65] h)) (
 some ((.bool true : Val), h))
def s125 (call : Call) (n : Nat) (a0 : Val) (a1 : Val) (a2 : Val) (h : Heap) : R :=
 nilC a0 fun x10_1 =>
 faC 0 x10_1 fun x11_2 =>
 ldC false 1 x11_2 h fun x12_3 =>
 nilC x12_3 fun x13_4 =>
 faC 7 x13_4 fun x14_5 =>
 ldC false 1 x14_5 h fun x15_6 =>
 biC .sub (.int .i64 16 : Val) x15_6 fun x16_7 =>
 cmC .gt a1 x16_7 fun x17_8 =>
 cnd x17_8 (
 some ((.bool false : Val), h)) (
 iter n (fun again0 xs h => s125_l0 call n again0 a0 a2 a1 (getN xs 0) h) [(.int .i64 0 : Val)] h)
theorem e125 (call : Call) (n : Nat) (a0 : Val) (a1 : Val) (a2 : Val) (h : Heap) : runFn call n F125 [a0, a1, a2] h = s125 call n a0 a1 a2 h := by kernel_rfl
def s126 (call : Call) (n : Nat) (a0 : Val) (h : Heap) : R :=
 ixtC a0 (.int .i64 0 : Val) fun x5_1 =>
 cviC .i64 x5_1 fun x6_2 =>
 shC .shl x6_2 (.int .u64 8 : Val) fun x7_3 =>
 ixtC a0 (.int .i64 1 : Val) fun x9_4 =>
 cviC .i64 x9_4 fun x10_5 =>
 biC .or x7_3 x10_5 fun x11_6 =>
 biC .add x11_6 (.int .i64 7 : Val) fun x13_7 =>
 biC .sub x13_7 (.int .i64 1 : Val) fun x14_8 =>
 clC call 104 [x14_8] h fun x15_9 h =>
 some (x15_9, h)
theorem e126 (call : Call) (n : Nat) (a0 : Val) (h : Heap) : runFn call n F126 [a0] h = s126 call n a0 h := by kernel_rfl
def s127 (call : Call) (n : Nat) (a0 : Val) (a1 : Val) (a2 : Val) (h : Heap) : R :=
 allocC [.int .i64 0, .str []] h fun x6_1 h =>
 clC call 129 [a1] h fun x13_2 h =>
 notC x13_2 fun x14_3 =>
 cnd x14_3 (
 aggC [.int .i64 0, .str []] [] fun x15_4 =>
 stC 2 x6_1 x15_4 h fun h =>
 ldC true 2 x6_1 h fun v6 =>
 some (.tup [v6, (.int .i64 0 : Val), (.int .i64 1 : Val)], h)) (
 lensC a2 fun x18_7 =>
 cmC .lt x18_7 (.int .i64 2 : Val) fun x19_8 =>
 cnd x19_8 (
 aggC [.int .i64 0, .str []] [] fun x20_9 =>
 stC 2 x6_1 x20_9 h fun h =>
 ldC true 2 x6_1 h fun v11 =>
 some (.tup [v11, (.int .i64 0 : Val), (.int .i64 3 : Val)], h)) (
 slsC a2 none (some (.int .i64 2 : Val)) fun x22_12 =>
 clC call 156 [x22_12] h fun x23_13 h =>
 cmC .eq x23_13 (.int .i64 0 : Val) fun x26_14 =>
 cnd x26_14 (
 aggC [.int .i64 0, .str []] [] fun x27_15 =>
 stC 2 x6_1 x27_15 h fun h =>
 ldC true 2 x6_1 h fun v17 =>
 some (.tup [v17, (.int .i64 0 : Val), (.int .i64 6 : Val)], h)) (
 cmC .gt x23_13 (.int .i64 774 : Val) fun x30_18 =>
 cnd x30_18 (
 aggC [.int .i64 0, .str []] [] fun x31_19 =>
 stC 2 x6_1 x31_19 h fun h =>
 ldC true 2 x6_1 h fun v21 =>
 some (.tup [v21, (.int .i64 0 : Val), (.int .i64 2 : Val)], h)) (
 lensC a2 fun x34_22 =>
 biC .add (.int .i64 6 : Val) x23_13 fun x36_23 =>
 cmC .lt x34_22 x36_23 fun x37_24 =>
 cnd x37_24 (
 aggC [.int .i64 0, .str []] [] fun x38_25 =>
 stC 2 x6_1 x38_25 h fun h =>
 ldC true 2 x6_1 h fun v27 =>
 some (.tup [v27, (.int .i64 0 : Val), (.int .i64 3 : Val)], h)) (
 biC .add (.int .i64 6 : Val) x23_13 fun x41_28 =>
 slsC a2 (some (.int .i64 6 : Val)) (some x41_28) fun x42_29 =>
 ixtC x42_29 (.int .i64 0 : Val) fun x44_30 =>
 cmC .eq x44_30 (.int .u8 0 : Val) fun x45_31 =>
 gdC x45_31 false h (fun k => k a2 h) fun x47_32 h =>
 gdC x45_31 false h (fun k => slsC x47_32 (some (.int .i64 2 : Val)) (some (.int .i64 6 : Val)) fun x48_33 => k x48_33 h) fun x48_34 h =>
 gdC x45_31 false h (fun k => clC call 156 [x48_34] h fun x49_35 h => k x49_35 h) fun x49_36 h =>
 gdC x45_31 false h (fun k => k a0 h) fun x50_37 h =>
 gdC x45_31 false h (fun k => k a1 h) fun x51_38 h =>
 gdC x45_31 false h (fun k => k x42_29 h) fun x52_39 h =>
 gdC x45_31 false h (fun k => clC call 131 [x50_37, x51_38, x52_39] h fun x53_40 h => k x53_40 h) fun x53_41 h =>
 gdC x45_31 false h (fun k => cviC .i64 x53_41 fun x54_42 => k x54_42 h) fun x54_43 h =>
 gdC x45_31 false h (fun k => cmC .ne x49_36 x54_43 fun x55_44 => k x55_44 h) fun x55_45 h =>
 pickC x45_31 (.bool true : Val) x55_45 fun x56_46 =>
 cnd x56_46 (
 aggC [.int .i64 0, .str []] [] fun x57_47 =>
 stC 2 x6_1 x57_47 h fun h =>
 ldC true 2 x6_1 h fun v49 =>
 some (.tup [v49, (.int .i64 0 : Val), (.int .i64 4 : Val)], h)) (
 ixtC x42_29 (.int .i64 0 : Val) fun x59_50 =>
 cviC .i64 x59_50 fun x60_51 =>
 slsC x42_29 (some (.int .i64 1 : Val)) none fun x62_52 =>
 aggC [.int .i64 0, .str []] [(0, 1, x60_51), (1, 1, x62_52)] fun x63_53 =>
 biC .add (.int .i64 6 : Val) x23_13 fun x65_54 =>
 stC 2 x6_1 x63_53 h fun h =>
 ldC true 2 x6_1 h fun v56 =>
 some (.tup [v56, x65_54, (.int .i64 0 : Val)], h)))))))
theorem e127 (call : Call) (n : Nat) (a0 : Val) (a1 : Val) (a2 : Val) (h : Heap) : runFn call n F127 [a0, a1, a2] h = s127 call n a0 a1 a2 h := by kernel_rfl
def s129 (call : Call) (n : Nat) (a0 : Val) (h : Heap) : R :=
 cmC .ge a0 (.int .i64 1 : Val) fun x4_1 =>
 gdC x4_1 true h (fun k => k a0 h) fun x6_2 h =>
 gdC x4_1 true h (fun k => cmC .lt x6_2 (.int .i64 16 : Val) fun x7_3 => k x7_3 h) fun x7_4 h =>
 pickC x4_1 x7_4 (.bool false : Val) fun x8_5 =>
 some (x8_5, h)
theorem e129 (call : Call) (n : Nat) (a0 : Val) (h : Heap) : runFn call n F129 [a0] h = s129 call n a0 h := by kernel_rfl
def s130 (call : Call) (n : Nat) (a0 : Val) (a1 : Val) (h : Heap) : R :=
 cviC .u64 a0 fun x9_1 =>
 clC call 134 [x9_1, a1] h fun x11_2 h =>
 exC 0 x11_2 fun x12_3 =>
 exC 1 x11_2 fun x13_4 =>
 some (x12_3, h)
theorem e130 (call : Call) (n : Nat) (a0 : Val) (a1 : Val) (h : Heap) : runFn call n F130 [a0, a1] h = s130 call n a0 a1 h := by kernel_rfl
def s131 (call : Call) (n : Nat) (a0 : Val) (a1 : Val) (a2 : Val) (h : Heap) : R :=
 cviC .i64 a0 fun x8_1 =>
 clC call 130 [x8_1, (.int .i64 4 : Val)] h fun x9_2 h =>
 clC call 130 [a1, (.int .i64 2 : Val)] h fun x11_3 h =>
 lensC a2 fun x13_4 =>
 clC call 130 [x13_4, (.int .i64 2 : Val)] h fun x14_5 h =>
 bslC 1 [x9_2, x11_3, x14_5, a2] fun x16_6 =>
 clC call 157 [x16_6] h fun x17_7 h =>
 some (x17_7, h)
theorem e131 (call : Call) (n : Nat) (a0 : Val) (a1 : Val) (a2 : Val) (h : Heap) : runFn call n F131 [a0, a1, a2] h = s131 call n a0 a1 a2 h := by kernel_rfl
def s132 (call : Call) (n : Nat) (a0 : Val) (a1 : Val) (a2 : Val) (h : Heap) : R :=
 cmC .lt a1 (.int .i64 1 : Val) fun x11_1 =>
 gdC x11_1 false h (fun k => k a1 h) fun x13_2 h =>
 gdC x11_1 false h (fun k => cmC .gt x13_2 (.int .i64 65535 : Val) fun x14_3 => k x14_3 h) fun x14_4 h =>
 pickC x11_1 (.bool true : Val) x14_4 fun x15_5 =>
 gdC x15_5 false h (fun k => k a2 h) fun x17_6 h =>
 gdC x15_5 false h (fun k => lensC x17_6 fun x18_7 => k x18_7 h) fun x18_8 h =>
 gdC x15_5 false h (fun k => cmC .ne x18_8 (.int .i64 52 : Val) fun x19_9 => k x19_9 h) fun x19_10 h =>
 pickC x15_5 (.bool true : Val) x19_10 fun x20_11 =>
 cnd x20_11 (
 some (.tup [(.str [] : Val), (.int .i64 1 : Val)], h)) (
 allocC (reps 64 (.int .u8 0)) h fun x8_12 h =>
 clC call 158 [a0, a1] h fun x23_13 h =>
 slaC 64 1 x8_12 none none fun x24_14 =>
 cpyC 1 x24_14 x23_13 h fun x26_15 h =>
 slaC 64 1 x8_12 (some (.int .i64 6 : Val)) none fun x27_16 =>
 cpyC 1 x27_16 a2 h fun x29_17 h =>
 slaC 64 1 x8_12 (some (.int .i64 58 : Val)) none fun x30_18 =>
 cpyC 1 x30_18 x23_13 h fun x32_19 h =>
 slaC 64 1 x8_12 none none fun x33_20 =>
 cvsC x33_20 h fun x34_21 =>
 some (.tup [x34_21, (.int .i64 0 : Val)], h))
theorem e132 (call : Call) (n : Nat) (a0 : Val) (a1 : Val) (a2 : Val) (h : Heap) : runFn call n F132 [a0, a1, a2] h = s132 call n a0 a1 a2 h := by kernel_rfl
def s133 (call : Call) (n : Nat) (a0 : Val) (h : Heap) : R :=
 boxC 4 a0 h fun x1_1 h =>
 allocC [.int .u64 0, .int .i64 0, .int .u64 0, .int .i64 0, .int .u64 0, .int .i64 0, .int .u64 0, .int .i64 0] h fun x2_2 h =>
 faC 0 x1_1 fun x3_3 =>
 ldC false 1 x3_3 h fun x4_4 =>
 cviC .u64 x4_4 fun x5_5 =>
 aggC [.int .u64 0, .int .i64 0] [(0, 1, x5_5), (1, 1, (.int .i64 2 : Val))] fun x6_6 =>
 faC 1 x1_1 fun x7_7 =>
 ldC false 1 x7_7 h fun x8_8 =>
 cviC .u64 x8_8 fun x9_9 =>
 aggC [.int .u64 0, .int .i64 0] [(0, 1, x9_9), (1, 1, (.int .i64 4 : Val))] fun x10_10 =>
 faC 2 x1_1 fun x11_11 =>
 ldC false 1 x11_11 h fun x12_12 =>
 cviC .u64 x12_12 fun x13_13 =>
 aggC [.int .u64 0, .int .i64 0] [(0, 1, x13_13), (1, 1, (.int .i64 4 : Val))] fun x14_14 =>
 faC 3 x1_1 fun x15_15 =>
 ldC false 1 x15_15 h fun x16_16 =>
 cviC .u64 x16_16 fun x17_17 =>
 aggC [.int .u64 0, .int .i64 0] [(0, 1, x17_17), (1, 1, (.int .i64 8 : Val))] fun x18_18 =>
 aggC [.int .u64 0, .int .i64 0, .int .u64 0, .int .i64 0, .int .u64 0, .int .i64 0, .int .u64 0, .int .i64 0] [(0, 2, x6_6), (2, 2, x10_10), (4, 2, x14_14), (6, 2, x18_18)] fun x19_19 =>
 stC 8 x2_2 x19_19 h fun h =>
 ldC true 8 x2_2 h fun v21 =>
 some (v21, h)
theorem e133 (call : Call) (n : Nat) (a0 : Val) (h : Heap) : runFn call n F133 [a0] h = s133 call n a0 h := by kernel_rfl
def s134_l0 (call : Call) (n : Nat) (again0 : List Val → Heap → R) (c0 : Val) (c1 : Val) (c6 : Val) (c25 : Val) (y26 : Val) (h : Heap) : R :=
 cmC .lt y26 c25 fun x27_22 =>
 cnd x27_22 (
 biC .sub c1 (.int .i64 1 : Val) fun x32_23 =>
 biC .sub x32_23 y26 fun x34_24 =>
 biC .mul (.int .i64 8 : Val) x34_24 fun x35_25 =>
 shC .shr c0 x35_25 fun x36_26 =>
 cviC .u8 x36_26 fun x37_27 =>
 ixpC 8 1 c6 y26 fun x38_28 =>
 stC 1 x38_28 x37_27 h fun h =>
 biC .add y26 (.int .i64 1 : Val) fun x39_30 =>
 again0 [x39_30] h) (
 slaC 8 1 c6 none (some c1) fun x41_31 =>
 cvsC x41_31 h fun x42_32 =>
 some (.tup [x42_32, (.int .i64 0 : Val)], h))
def s134 (call : Call) (n : Nat) (a0 : Val) (a1 : Val) (h : Heap) : R :=
 cmC .lt a1 (.int .i64 1 : Val) fun x9_1 =>
 gdC x9_1 false h (fun k => k a1 h) fun x11_2 h =>
 gdC x9_1 false h (fun k => cmC .gt x11_2 (.int .i64 8 : Val) fun x12_3 => k x12_3 h) fun x12_4 h =>
 pickC x9_1 (.bool true : Val) x12_4 fun x13_5 =>
 gdC x13_5 false h (fun k => k a1 h) fun x15_6 h =>
 gdC x13_5 false h (fun k => cmC .lt x15_6 (.int .i64 8 : Val) fun x16_7 => k x16_7 h) fun x16_8 h =>
 gdC x13_5 false h (fun k => k x16_8 h) fun x17_9 h =>
 gdC x17_9 true h (fun k => k a0 h) fun x18_10 h =>
 gdC x17_9 true h (fun k => k a1 h) fun x19_11 h =>
 gdC x17_9 true h (fun k => biC .mul (.int .i64 8 : Val) x19_11 fun x20_12 => k x20_12 h) fun x20_13 h =>
 gdC x17_9 true h (fun k => shC .shr x18_10 x20_13 fun x21_14 => k x21_14 h) fun x21_15 h =>
 gdC x17_9 true h (fun k => cmC .ne x21_15 (.int .u64 0 : Val) fun x22_16 => k x22_16 h) fun x22_17 h =>
 gdC x13_5 false h (fun k => pickC x17_9 x22_17 (.bool false : Val) fun x23_18 => k x23_18 h) fun x23_19 h =>
 pickC x13_5 (.bool true : Val) x23_19 fun x24_20 =>
 cnd x24_20 (
 some (.tup [(.str [] : Val), (.int .i64 1 : Val)], h)) (
 allocC [.int .u8 0, .int .u8 0, .int .u8 0, .int .u8 0, .int .u8 0, .int .u8 0, .int .u8 0, .int .u8 0] h fun x6_21 h =>
 iter n (fun again0 xs h => s134_l0 call n again0 a0 a1 x6_21 a1 (getN xs 0) h) [(.int .i64 0 : Val)] h)
theorem e134 (call : Call) (n : Nat) (a0 : Val) (a1 : Val) (h : Heap) : runFn call n F134 [a0, a1] h = s134 call n a0 a1 h := by kernel_rfl
def s135 (call : Call) (n : Nat) (a0 : Val) (a1 : Val) (h : Heap) : R :=
 clC call 159 [a0] h fun x7_1 h =>
 clC call 160 [x7_1, a1] h fun x10_2 h =>
 clC call 161 [x7_1] h fun x12_3 h =>
 some (x12_3, h)
theorem e135 (call : Call) (n : Nat) (a0 : Val) (a1 : Val) (h : Heap) : runFn call n F135 [a0, a1] h = s135 call n a0 a1 h := by kernel_rfl
def s153 (call : Call) (n : Nat) (a0 : Val) (a1 : Val) (h : Heap) : R :=
 ceC .p false a0 (.nilp : Val) fun x8_1 =>
 cnd x8_1 (
 some (.tup [(.str [] : Val), (.int .i64 7 : Val)], h)) (
 clC call 121 [a0, a1] h fun x12_2 h =>
 notC x12_2 fun x13_3 =>
 cnd x13_3 (
 some (.tup [(.str [] : Val), (.int .i64 20 : Val)], h)) (
 nilC a0 fun x15_4 =>
 faC 0 x15_4 fun x16_5 =>
 ldC false 1 x16_5 h fun x17_6 =>
 ixsC 64 x17_6 a1 fun x19_7 =>
 slaC 64 1 x19_7 none none fun x20_8 =>
 cvsC x20_8 h fun x21_9 =>
 some (.tup [x21_9, (.int .i64 0 : Val)], h)))
theorem e153 (call : Call) (n : Nat) (a0 : Val) (a1 : Val) (h : Heap) : runFn call n F153 [a0, a1] h = s153 call n a0 a1 h := by kernel_rfl
def s154 (call : Call) (n : Nat) (a0 : Val) (h : Heap) : R :=
 biC .rem a0 (.int .u32 2 : Val) fun x4_1 =>
 cmC .eq x4_1 (.int .u32 1 : Val) fun x5_2 =>
 cnd x5_2 (
 biC .quo a0 (.int .u32 2 : Val) fun x7_3 =>
 biC .xor x7_3 (.int .u32 3988292384 : Val) fun x8_4 =>
 some (x8_4, h)) (
 biC .quo a0 (.int .u32 2 : Val) fun x10_5 =>
 some (x10_5, h))
theorem e154 (call : Call) (n : Nat) (a0 : Val) (h : Heap) : runFn call n F154 [a0] h = s154 call n a0 h := by kernel_rfl
def s155_l0 (call : Call) (n : Nat) (again0 : List Val → Heap → R) (c0 : Val) (c14 : Val) (y4 : Val) (y15 : Val) (h : Heap) : R :=
 cmC .lt y15 c14 fun x16_9 =>
 cnd x16_9 (
 shC .shl y4 (.int .u64 8 : Val) fun x19_10 =>
 ixtC c0 y15 fun x22_11 =>
 cviC .u64 x22_11 fun x23_12 =>
 biC .or x19_10 x23_12 fun x24_13 =>
 biC .add y15 (.int .i64 1 : Val) fun x25_14 =>
 again0 [x24_13, x25_14] h) (
 some (.tup [y4, (.int .i64 0 : Val)], h))
def s155 (call : Call) (n : Nat) (a0 : Val) (h : Heap) : R :=
 cmC .eq a0 (.str [] : Val) fun x7_1 =>
 gdC x7_1 false h (fun k => k a0 h) fun x9_2 h =>
 gdC x7_1 false h (fun k => lensC x9_2 fun x10_3 => k x10_3 h) fun x10_4 h =>
 gdC x7_1 false h (fun k => cmC .gt x10_4 (.int .i64 8 : Val) fun x11_5 => k x11_5 h) fun x11_6 h =>
 pickC x7_1 (.bool true : Val) x11_6 fun x12_7 =>
 cnd x12_7 (
 some (.tup [(.int .u64 0 : Val), (.int .i64 1 : Val)], h)) (
 lensC a0 fun x14_8 =>
 iter n (fun again0 xs h => s155_l0 call n again0 a0 x14_8 (getN xs 0) (getN xs 1) h) [(.int .u64 0 : Val), (.int .i64 0 : Val)] h)
theorem e155 (call : Call) (n : Nat) (a0 : Val) (h : Heap) : runFn call n F155 [a0] h = s155 call n a0 h := by kernel_rfl
def s156 (call : Call) (n : Nat) (a0 : Val) (h : Heap) : R :=
 clC call 155 [a0] h fun x7_1 h =>
 exC 0 x7_1 fun x8_2 =>
 exC 1 x7_1 fun x9_3 =>
 cviC .i64 x8_2 fun x11_4 =>
 some (x11_4, h)
theorem e156 (call : Call) (n : Nat) (a0 : Val) (h : Heap) : runFn call n F156 [a0] h = s156 call n a0 h := by kernel_rfl
def s157_l0 (call : Call) (n : Nat) (again0 : List Val → Heap → R) (c3 : Val) (c7 : Val) (c8 : Val) (y9 : Val) (h : Heap) : R :=
 cmC .lt y9 c8 fun x10_3 =>
 cnd x10_3 (
 ixsC 1 c7 y9 fun x11_4 =>
 ldC false 1 x11_4 h fun x12_5 =>
 clC call 160 [c3, x12_5] h fun x15_6 h =>
 biC .add y9 (.int .i64 1 : Val) fun x16_7 =>
 again0 [x16_7] h) (
 clC call 161 [c3] h fun x18_8 h =>
 some (x18_8, h))
def s157 (call : Call) (n : Nat) (a0 : Val) (h : Heap) : R :=
 clC call 159 [(.int .u32 0 : Val)] h fun x6_1 h =>
 lenlC a0 fun x8_2 =>
 iter n (fun again0 xs h => s157_l0 call n again0 x6_1 a0 x8_2 (getN xs 0) h) [(.int .i64 0 : Val)] h
theorem e157 (call : Call) (n : Nat) (a0 : Val) (h : Heap) : runFn call n F157 [a0] h = s157 call n a0 h := by kernel_rfl
def s158 (call : Call) (n : Nat) (a0 : Val) (a1 : Val) (h : Heap) : R :=
 cviC .u64 a0 fun x11_1 =>
 clC call 134 [x11_1, (.int .i64 4 : Val)] h fun x12_2 h =>
 exC 0 x12_2 fun x13_3 =>
 exC 1 x12_2 fun x14_4 =>
 cviC .u64 a1 fun x17_5 =>
 clC call 134 [x17_5, (.int .i64 2 : Val)] h fun x18_6 h =>
 exC 0 x18_6 fun x19_7 =>
 exC 1 x18_6 fun x20_8 =>
 addSC x13_3 x19_7 fun x23_9 =>
 some (x23_9, h)
theorem e158 (call : Call) (n : Nat) (a0 : Val) (a1 : Val) (h : Heap) : runFn call n F158 [a0, a1] h = s158 call n a0 a1 h := by kernel_rfl
def s159 (call : Call) (n : Nat) (a0 : Val) (h : Heap) : R :=
 cplC a0 fun x4_1 =>
 aggC [.int .u32 0] [(0, 1, x4_1)] fun x5_2 =>
 boxC 1 x5_2 h fun x6_3 h =>
 some (x6_3, h)
theorem e159 (call : Call) (n : Nat) (a0 : Val) (h : Heap) : runFn call n F159 [a0] h = s159 call n a0 h := by kernel_rfl
def s160_l0 (call : Call) (n : Nat) (again0 : List Val → Heap → R) (c0 : Val) (c1 : Val) (c8 : Val) (y9 : Val) (h : Heap) : R :=
 cmC .lt y9 c8 fun x10_3 =>
 cnd x10_3 (
 nilC c0 fun x14_4 =>
 faC 0 x14_4 fun x15_5 =>
 ldC false 1 x15_5 h fun x16_6 =>
 ixtC c1 y9 fun x19_7 =>
 clC call 171 [x16_6, x19_7] h fun x20_8 h =>
 nilC c0 fun x21_9 =>
 faC 0 x21_9 fun x22_10 =>
 stC 1 x22_10 x20_8 h fun h =>
 biC .add y9 (.int .i64 1 : Val) fun x23_12 =>
 again0 [x23_12] h) (
 some (.tup [], h))
def s160 (call : Call) (n : Nat) (a0 : Val) (a1 : Val) (h : Heap) : R :=
 ceC .p false a0 (.nilp : Val) fun x6_1 =>
 cnd x6_1 (
 some (.tup [], h)) (
 lensC a1 fun x8_2 =>
 iter n (fun again0 xs h => s160_l0 call n again0 a0 a1 x8_2 (getN xs 0) h) [(.int .i64 0 : Val)] h)
theorem e160 (call : Call) (n : Nat) (a0 : Val) (a1 : Val) (h : Heap) : runFn call n F160 [a0, a1] h = s160 call n a0 a1 h := by kernel_rfl
def s161 (call : Call) (n : Nat) (a0 : Val) (h : Heap) : R :=
 ceC .p false a0 (.nilp : Val) fun x4_1 =>
 cnd x4_1 (
 some ((.int .u32 0 : Val), h)) (
 nilC a0 fun x6_2 =>
 faC 0 x6_2 fun x7_3 =>
 ldC false 1 x7_3 h fun x8_4 =>
 cplC x8_4 fun x9_5 =>
 some (x9_5, h))
theorem e161 (call : Call) (n : Nat) (a0 : Val) (h : Heap) : runFn call n F161 [a0] h = s161 call n a0 h := by kernel_rfl
def s171_l0 (call : Call) (n : Nat) (again0 : List Val → Heap → R) (y0 : Val) (y10 : Val) (h : Heap) : R :=
 cmC .lt y10 (.int .i64 8 : Val) fun x11_3 =>
 cnd x11_3 (
 biC .and y0 (.int .u32 1 : Val) fun x13_4 =>
 negC x13_4 fun x14_5 =>
 shC .shr y0 (.int .u64 1 : Val) fun x16_6 =>
 biC .and x14_5 (.int .u32 3988292384 : Val) fun x18_7 =>
 biC .xor x16_6 x18_7 fun x19_8 =>
 biC .add y10 (.int .i64 1 : Val) fun x20_9 =>
 again0 [x19_8, x20_9] h) (
 some (y0, h))
def s171 (call : Call) (n : Nat) (a0 : Val) (a1 : Val) (h : Heap) : R :=
 cviC .u32 a1 fun x8_1 =>
 biC .xor a0 x8_1 fun x9_2 =>
 iter n (fun again0 xs h => s171_l0 call n again0 (getN xs 0) (getN xs 1) h) [x9_2, (.int .i64 0 : Val)] h
theorem e171 (call : Call) (n : Nat) (a0 : Val) (a1 : Val) (h : Heap) : runFn call n F171 [a0, a1] h = s171 call n a0 a1 h := by kernel_rfl
end Go.AM.T

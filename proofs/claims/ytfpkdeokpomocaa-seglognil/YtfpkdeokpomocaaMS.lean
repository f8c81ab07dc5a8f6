import Derived.Test.YtfpkdeokpomocaaMA
import Derived.KernelRfl
set_option linter.constructorNameAsVariable false
set_option linter.unusedSimpArgs false
set_option maxRecDepth 100000
set_option linter.unusedVariables false
namespace Go.AM.T
def s8 (call : Call) (n : Nat) (a0 : Val) (a1 : Val) (a2 : Val) (h : Heap) : R :=
 boxC 2 a2 h fun x5_1 h =>
 faC 1 x5_1 fun x14_2 =>
 ldC false 1 x14_2 h fun x15_3 =>
 lensC x15_3 fun x16_4 =>
 cmC .gt x16_4 (.int .i64 900 : Val) fun x17_5 =>
 cnd x17_5 (
 clC call 38 [] h fun x18_6 h =>
 some (x18_6, h)) (
 ldC true 2 x5_1 h fun x21_7 =>
 clC call 39 [(.nilp : Val), x21_7] h fun x22_8 h =>
 exC 0 x22_8 fun x23_9 =>
 exC 1 x22_8 fun x24_10 =>
 clC call 40 [(.nilp : Val), a0] h fun x28_11 h =>
 exC 0 x28_11 fun x29_12 =>
 exC 1 x28_11 fun x30_13 =>
 allocC [.int .i64 0, .str []] h fun x10_14 h =>
 stC 2 x10_14 x29_12 h fun h =>
 clC call 41 [(.nilp : Val), (.nilp : Val), a0, (.int .u32 0 : Val), a0] h fun x34_16 h =>
 exC 0 x34_16 fun x35_17 =>
 exC 1 x34_16 fun x36_18 =>
 cmC .eq x23_9 (.int .i64 0 : Val) fun x38_19 =>
 gdC x38_19 true h (fun k => k x24_10 h) fun x40_20 h =>
 gdC x38_19 true h (fun k => cmC .eq x40_20 (.int .i64 7 : Val) fun x41_21 => k x41_21 h) fun x41_22 h =>
 pickC x38_19 x41_22 (.bool false : Val) fun x42_23 =>
 gdC x42_23 true h (fun k => ldC true 2 x10_14 h fun x44_24 => k x44_24 h) fun x44_25 h =>
 gdC x42_23 true h (fun k => aggC [.int .i64 0, .str []] [] fun x45_26 => k x45_26 h) fun x45_27 h =>
 gdC x42_23 true h (fun k => ceaC [.i, .s] false x44_25 x45_27 fun x46_28 => k x46_28 h) fun x46_29 h =>
 pickC x42_23 x46_29 (.bool false : Val) fun x47_30 =>
 gdC x47_30 true h (fun k => k x30_13 h) fun x49_31 h =>
 gdC x47_30 true h (fun k => cmC .eq x49_31 (.int .i64 7 : Val) fun x50_32 => k x50_32 h) fun x50_33 h =>
 pickC x47_30 x50_33 (.bool false : Val) fun x51_34 =>
 gdC x51_34 true h (fun k => k x35_17 h) fun x53_35 h =>
 gdC x51_34 true h (fun k => ceC .p false x53_35 (.nilp : Val) fun x54_36 => k x54_36 h) fun x54_37 h =>
 pickC x51_34 x54_37 (.bool false : Val) fun x55_38 =>
 gdC x55_38 true h (fun k => k x36_18 h) fun x57_39 h =>
 gdC x55_38 true h (fun k => cmC .eq x57_39 (.int .i64 7 : Val) fun x58_40 => k x58_40 h) fun x58_41 h =>
 pickC x55_38 x58_41 (.bool false : Val) fun x59_42 =>
 gdC x59_42 true h (fun k => k (.nilp : Val) h) fun x61_43 h =>
 gdC x59_42 true h (fun k => clC call 42 [x61_43, (.sl .nl 1 [] : Val)] h fun x62_44 h => k x62_44 h) fun x62_45 h =>
 gdC x59_42 true h (fun k => cmC .eq x62_45 (.int .i64 7 : Val) fun x63_46 => k x63_46 h) fun x63_47 h =>
 pickC x59_42 x63_47 (.bool false : Val) fun x64_48 =>
 gdC x64_48 true h (fun k => k (.nilp : Val) h) fun x66_49 h =>
 gdC x64_48 true h (fun k => k a0 h) fun x67_50 h =>
 gdC x64_48 true h (fun k => clC call 43 [x66_49, x67_50] h fun x68_51 h => k x68_51 h) fun x68_52 h =>
 gdC x64_48 true h (fun k => cmC .eq x68_52 (.int .i64 7 : Val) fun x69_53 => k x69_53 h) fun x69_54 h =>
 pickC x64_48 x69_54 (.bool false : Val) fun x70_55 =>
 gdC x70_55 true h (fun k => k (.nilp : Val) h) fun x72_56 h =>
 gdC x70_55 true h (fun k => clC call 44 [x72_56] h fun x73_57 h => k x73_57 h) fun x73_58 h =>
 gdC x70_55 true h (fun k => cmC .eq x73_58 (.int .i64 7 : Val) fun x74_59 => k x74_59 h) fun x74_60 h =>
 pickC x70_55 x74_60 (.bool false : Val) fun x75_61 =>
 gdC x75_61 true h (fun k => k (.nilp : Val) h) fun x77_62 h =>
 gdC x75_61 true h (fun k => k a0 h) fun x78_63 h =>
 gdC x75_61 true h (fun k => k a1 h) fun x79_64 h =>
 gdC x75_61 true h (fun k => clC call 45 [x77_62, x78_63, x79_64] h fun x80_65 h => k x80_65 h) fun x80_66 h =>
 gdC x75_61 true h (fun k => lenlC x80_66 fun x81_67 => k x81_67 h) fun x81_68 h =>
 gdC x75_61 true h (fun k => cmC .eq x81_68 (.int .i64 0 : Val) fun x82_69 => k x82_69 h) fun x82_70 h =>
 pickC x75_61 x82_70 (.bool false : Val) fun x83_71 =>
 gdC x83_71 true h (fun k => k (.nilp : Val) h) fun x85_72 h =>
 gdC x83_71 true h (fun k => ldC true 2 x5_1 h fun x86_73 => k x86_73 h) fun x86_74 h =>
 gdC x83_71 true h (fun k => clC call 46 [x85_72, x86_74] h fun x87_75 h => k x87_75 h) fun x87_76 h =>
 gdC x83_71 true h (fun k => notC x87_76 fun x88_77 => k x88_77 h) fun x88_78 h =>
 pickC x83_71 x88_78 (.bool false : Val) fun x89_79 =>
 gdC x89_79 true h (fun k => k (.nilp : Val) h) fun x91_80 h =>
 gdC x89_79 true h (fun k => clC call 47 [x91_80] h fun x92_81 h => k x92_81 h) fun x92_82 h =>
 gdC x89_79 true h (fun k => cmC .eq x92_82 (.int .i64 0 : Val) fun x93_83 => k x93_83 h) fun x93_84 h =>
 pickC x89_79 x93_84 (.bool false : Val) fun x94_85 =>
 gdC x94_85 true h (fun k => k (.nilp : Val) h) fun x96_86 h =>
 gdC x94_85 true h (fun k => clC call 48 [x96_86] h fun x97_87 h => k x97_87 h) fun x97_88 h =>
 gdC x94_85 true h (fun k => cmC .eq x97_88 (.int .i64 0 : Val) fun x98_89 => k x98_89 h) fun x98_90 h =>
 pickC x94_85 x98_90 (.bool false : Val) fun x99_91 =>
 gdC x99_91 true h (fun k => k (.nilp : Val) h) fun x101_92 h =>
 gdC x99_91 true h (fun k => clC call 49 [x101_92] h fun x102_93 h => k x102_93 h) fun x102_94 h =>
 gdC x99_91 true h (fun k => cmC .eq x102_94 (.int .i64 0 : Val) fun x103_95 => k x103_95 h) fun x103_96 h =>
 pickC x99_91 x103_96 (.bool false : Val) fun x104_97 =>
 gdC x104_97 true h (fun k => k (.nilp : Val) h) fun x106_98 h =>
 gdC x104_97 true h (fun k => clC call 50 [x106_98] h fun x107_99 h => k x107_99 h) fun x107_100 h =>
 gdC x104_97 true h (fun k => cmC .eq x107_100 (.int .u32 0 : Val) fun x108_101 => k x108_101 h) fun x108_102 h =>
 pickC x104_97 x108_102 (.bool false : Val) fun x109_103 =>
 gdC x109_103 true h (fun k => k (.nilp : Val) h) fun x111_104 h =>
 gdC x109_103 true h (fun k => clC call 51 [x111_104] h fun x112_105 h => k x112_105 h) fun x112_106 h =>
 gdC x109_103 true h (fun k => lenlC x112_106 fun x113_107 => k x113_107 h) fun x113_108 h =>
 gdC x109_103 true h (fun k => cmC .eq x113_108 (.int .i64 0 : Val) fun x114_109 => k x114_109 h) fun x114_110 h =>
 pickC x109_103 x114_110 (.bool false : Val) fun x115_111 =>
 gdC x115_111 true h (fun k => clC call 38 [] h fun x117_112 h => k x117_112 h) fun x117_113 h =>
 pickC x115_111 x117_113 (.bool false : Val) fun x118_114 =>
 some (x118_114, h))
theorem e8 (call : Call) (n : Nat) (a0 : Val) (a1 : Val) (a2 : Val) (h : Heap) : runFn call n F8 [a0, a1, a2] h = s8 call n a0 a1 a2 h := by kernel_rfl
def s10 (call : Call) (n : Nat) (a0 : Val) (h : Heap) : R :=
 clC call 55 [(.nilp : Val), a0] h fun x13_1 h =>
 exC 0 x13_1 fun x14_2 =>
 exC 1 x13_1 fun x15_3 =>
 clC call 53 [] h fun x16_4 h =>
 clC call 36 [x16_4, (.int .i64 0 : Val)] h fun x18_5 h =>
 clC call 35 [x16_4] h fun x20_6 h =>
 clC call 55 [x16_4, (.int .i64 1 : Val)] h fun x23_7 h =>
 exC 0 x23_7 fun x24_8 =>
 exC 1 x23_7 fun x25_9 =>
 clC call 53 [] h fun x27_10 h =>
 mnC a0 (.int .i64 9 : Val) fun x29_11 =>
 clC call 55 [x27_10, x29_11] h fun x30_12 h =>
 exC 0 x30_12 fun x31_13 =>
 exC 1 x30_12 fun x32_14 =>
 cmC .gt a0 (.int .i64 6 : Val) fun x34_15 =>
 gdC x34_15 true h (fun k => k x32_14 h) fun x36_16 h =>
 gdC x34_15 true h (fun k => cmC .ne x36_16 (.int .i64 20 : Val) fun x37_17 => k x37_17 h) fun x37_18 h =>
 gdC x34_15 true h (fun k => k x37_18 h) fun x38_19 h =>
 gdC x38_19 false h (fun k => k x31_13 h) fun x39_20 h =>
 gdC x38_19 false h (fun k => lenlC x39_20 fun x40_21 => k x40_21 h) fun x40_22 h =>
 gdC x38_19 false h (fun k => cmC .ne x40_22 (.int .i64 0 : Val) fun x41_23 => k x41_23 h) fun x41_24 h =>
 gdC x34_15 true h (fun k => pickC x38_19 (.bool true : Val) x41_24 fun x42_25 => k x42_25 h) fun x42_26 h =>
 pickC x34_15 x42_26 (.bool false : Val) fun x43_27 =>
 gdC x43_27 false h (fun k => k a0 h) fun x45_28 h =>
 gdC x43_27 false h (fun k => cmC .le x45_28 (.int .i64 6 : Val) fun x46_29 => k x46_29 h) fun x46_30 h =>
 gdC x43_27 false h (fun k => k x46_30 h) fun x47_31 h =>
 gdC x47_31 true h (fun k => k x32_14 h) fun x48_32 h =>
 gdC x47_31 true h (fun k => cmC .ne x48_32 (.int .i64 0 : Val) fun x49_33 => k x49_33 h) fun x49_34 h =>
 gdC x47_31 true h (fun k => k x49_34 h) fun x50_35 h =>
 gdC x50_35 false h (fun k => k x31_13 h) fun x51_36 h =>
 gdC x50_35 false h (fun k => lenlC x51_36 fun x52_37 => k x52_37 h) fun x52_38 h =>
 gdC x50_35 false h (fun k => cmC .ne x52_38 (.int .i64 0 : Val) fun x53_39 => k x53_39 h) fun x53_40 h =>
 gdC x47_31 true h (fun k => pickC x50_35 (.bool true : Val) x53_40 fun x54_41 => k x54_41 h) fun x54_42 h =>
 gdC x43_27 false h (fun k => pickC x47_31 x54_42 (.bool false : Val) fun x55_43 => k x55_43 h) fun x55_44 h =>
 pickC x43_27 (.bool true : Val) x55_44 fun x56_45 =>
 cnd x56_45 (
 some ((.bool false : Val), h)) (
 lenlC x14_2 fun x58_46 =>
 cmC .eq x58_46 (.int .i64 0 : Val) fun x59_47 =>
 gdC x59_47 true h (fun k => k x24_8 h) fun x61_48 h =>
 gdC x59_47 true h (fun k => lenlC x61_48 fun x62_49 => k x62_49 h) fun x62_50 h =>
 gdC x59_47 true h (fun k => cmC .eq x62_50 (.int .i64 0 : Val) fun x63_51 => k x63_51 h) fun x63_52 h =>
 pickC x59_47 x63_52 (.bool false : Val) fun x64_53 =>
 gdC x64_53 true h (fun k => k x15_3 h) fun x66_54 h =>
 gdC x64_53 true h (fun k => cmC .eq x66_54 (.int .i64 7 : Val) fun x67_55 => k x67_55 h) fun x67_56 h =>
 pickC x64_53 x67_56 (.bool false : Val) fun x68_57 =>
 gdC x68_57 true h (fun k => k x20_6 h) fun x70_58 h =>
 gdC x68_57 true h (fun k => cmC .eq x70_58 (.int .i64 21 : Val) fun x71_59 => k x71_59 h) fun x71_60 h =>
 pickC x68_57 x71_60 (.bool false : Val) fun x72_61 =>
 gdC x72_61 true h (fun k => k x25_9 h) fun x74_62 h =>
 gdC x72_61 true h (fun k => cmC .eq x74_62 (.int .i64 21 : Val) fun x75_63 => k x75_63 h) fun x75_64 h =>
 pickC x72_61 x75_64 (.bool false : Val) fun x76_65 =>
 gdC x76_65 true h (fun k => clC call 61 [(.nilp : Val), (.sl .nl 1 [] : Val), (.sl .nl 1 [] : Val)] h fun x78_66 h => k x78_66 h) fun x78_67 h =>
 gdC x76_65 true h (fun k => cmC .eq x78_67 (.int .i64 7 : Val) fun x79_68 => k x79_68 h) fun x79_69 h =>
 pickC x76_65 x79_69 (.bool false : Val) fun x80_70 =>
 gdC x80_70 true h (fun k => k x16_4 h) fun x82_71 h =>
 gdC x80_70 true h (fun k => clC call 61 [x82_71, (.sl .nl 1 [] : Val), (.sl .nl 1 [] : Val)] h fun x83_72 h => k x83_72 h) fun x83_73 h =>
 gdC x80_70 true h (fun k => cmC .eq x83_73 (.int .i64 21 : Val) fun x84_74 => k x84_74 h) fun x84_75 h =>
 pickC x80_70 x84_75 (.bool false : Val) fun x85_76 =>
 gdC x85_76 true h (fun k => k a0 h) fun x87_77 h =>
 gdC x85_76 true h (fun k => k a0 h) fun x88_78 h =>
 gdC x85_76 true h (fun k => clC call 58 [(.sl .nl 1 [] : Val), x87_77, (.int .u32 0 : Val), x88_78] h fun x89_79 h => k x89_79 h) fun x89_80 h =>
 gdC x85_76 true h (fun k => lenlC x89_80 fun x90_81 => k x90_81 h) fun x90_82 h =>
 gdC x85_76 true h (fun k => cmC .eq x90_82 (.int .i64 0 : Val) fun x91_83 => k x91_83 h) fun x91_84 h =>
 pickC x85_76 x91_84 (.bool false : Val) fun x92_85 =>
 gdC x92_85 true h (fun k => clC call 52 [] h fun x94_86 h => k x94_86 h) fun x94_87 h =>
 pickC x92_85 x94_87 (.bool false : Val) fun x95_88 =>
 some (x95_88, h))
theorem e10 (call : Call) (n : Nat) (a0 : Val) (h : Heap) : runFn call n F10 [a0] h = s10 call n a0 h := by kernel_rfl
def s20 (call : Call) (n : Nat) (a0 : Val) (a1 : Val) (a2 : Val) (h : Heap) : R :=
 boxC 1 a0 h fun x3_1 h =>
 boxC 1 a1 h fun x4_2 h =>
 boxC 1 a2 h fun x5_3 h =>
 ldC false 1 x3_1 h fun x8_4 =>
 ceC .p false x8_4 (.nilp : Val) fun x9_5 =>
 cnd x9_5 (
 some ((.int .i64 7 : Val), h)) (
 ldC false 1 x3_1 h fun x11_6 =>
 ldC false 1 x4_2 h fun x12_7 =>
 clC call 72 [x11_6, x12_7] h fun x13_8 h =>
 notC x13_8 fun x14_9 =>
 cnd x14_9 (
 some ((.int .i64 20 : Val), h)) (
 ldC false 1 x5_3 h fun x16_10 =>
 lensC x16_10 fun x17_11 =>
 cmC .ne x17_11 (.int .i64 64 : Val) fun x18_12 =>
 cnd x18_12 (
 some ((.int .i64 1 : Val), h)) (
 ldC false 1 x3_1 h fun x19_13 =>
 clC call 73 [x19_13, (.func 74 [x3_1, x4_2, x5_3] : Val)] h fun x21_14 h =>
 some (x21_14, h))))
theorem e20 (call : Call) (n : Nat) (a0 : Val) (a1 : Val) (a2 : Val) (h : Heap) : runFn call n F20 [a0, a1, a2] h = s20 call n a0 a1 a2 h := by kernel_rfl
def s21_l0 (call : Call) (n : Nat) (again0 : List Val → Heap → R) (c8 : Val) (h : Heap) : R :=
 clC call 79 [c8] h fun x35_13 h =>
 cnd x35_13 (
 again0 [] h) (
 nilC c8 fun x37_14 =>
 faC 0 x37_14 fun x38_15 =>
 ldC false 1 x38_15 h fun x39_16 =>
 some (.tup [x39_16, (.int .i64 0 : Val)], h))
def s21 (call : Call) (n : Nat) (a0 : Val) (a1 : Val) (h : Heap) : R :=
 clC call 76 [a0, a1] h fun x13_1 h =>
 exC 0 x13_1 fun x14_2 =>
 exC 1 x13_1 fun x15_3 =>
 cmC .ne x15_3 (.int .i64 0 : Val) fun x17_4 =>
 cnd x17_4 (
 some (.tup [(.nilp : Val), x15_3], h)) (
 aggC [.nilp, .int .i64 0, .int .i64 0, .int .u32 0, .int .u32 0, .int .i64 0, .sl .nl 2 [], .int .i64 0, .bool false] [(0, 1, a0), (1, 1, a1), (7, 1, (.int .i64 1 : Val)), (8, 1, (.bool true : Val))] fun x21_5 =>
 boxC 9 x21_5 h fun x22_6 h =>
 aggC [.nilp, .str [], .str [], .str [], .str [], .str [], .str [], .str [], .str [], .str [], .str [], .str [], .str [], .str [], .str [], .str [], .str [], .int .u32 0, .int .u32 0, .int .u32 0, .int .u32 0, .int .u32 0, .int .u32 0, .int .u32 0, .int .u32 0, .int .u32 0, .int .u32 0, .int .u32 0, .int .u32 0, .int .u32 0, .int .u32 0, .int .u32 0, .int .u32 0, .int .i64 0, .int .i64 0, .int .i64 0, .int .i64 0, .int .i64 0, .int .i64 0, .int .i64 0, .int .i64 0, .int .i64 0, .int .i64 0, .int .i64 0, .int .i64 0, .int .i64 0, .int .i64 0, .int .i64 0, .int .i64 0] [(0, 1, x22_6)] fun x23_7 =>
 boxC 49 x23_7 h fun x24_8 h =>
 clC call 77 [x24_8, x14_2] h fun x27_9 h =>
 cmC .ne x27_9 (.int .i64 0 : Val) fun x29_10 =>
 cnd x29_10 (
 some (.tup [(.nilp : Val), x27_9], h)) (
 clC call 78 [x24_8] h fun x32_11 h =>
 notC x32_11 fun x33_12 =>
 cnd x33_12 (
 some (.tup [(.nilp : Val), (.int .i64 4 : Val)], h)) (
 iter n (fun again0 xs h => s21_l0 call n again0 x24_8  h) [] h)))
theorem e21 (call : Call) (n : Nat) (a0 : Val) (a1 : Val) (h : Heap) : runFn call n F21 [a0, a1] h = s21 call n a0 a1 h := by kernel_rfl
def s23 (call : Call) (n : Nat) (a0 : Val) (a1 : Val) (h : Heap) : R :=
 boxC 2 a1 h fun x3_1 h =>
 ceC .p false a0 (.nilp : Val) fun x13_2 =>
 cnd x13_2 (
 some (.tup [(.int .i64 0 : Val), (.int .i64 7 : Val)], h)) (
 nilC a0 fun x16_3 =>
 faC 8 x16_3 fun x17_4 =>
 ldC false 1 x17_4 h fun x18_5 =>
 cnd x18_5 (
 some (.tup [(.int .i64 0 : Val), (.int .i64 39 : Val)], h)) (
 nilC a0 fun x20_6 =>
 faC 7 x20_6 fun x21_7 =>
 ldC false 1 x21_7 h fun x22_8 =>
 nilC a0 fun x25_9 =>
 faC 2 x25_9 fun x26_10 =>
 faC 2 x26_10 fun x27_11 =>
 ldC false 1 x27_11 h fun x28_12 =>
 mnC x22_8 (.int .i64 15 : Val) fun x30_13 =>
 ldC true 2 x3_1 h fun x31_14 =>
 clC call 83 [x28_12, x30_13, x31_14] h fun x32_15 h =>
 exC 0 x32_15 fun x33_16 =>
 exC 1 x32_15 fun x34_17 =>
 cmC .ne x34_17 (.int .i64 0 : Val) fun x36_18 =>
 cnd x36_18 (
 some (.tup [(.int .i64 0 : Val), x34_17], h)) (
 clC call 84 [x33_16] h fun x39_19 h =>
 lenlC x39_19 fun x41_20 =>
 biC .sub (.int .i64 16 : Val) x22_8 fun x43_21 =>
 cmC .gt x41_20 x43_21 fun x44_22 =>
 cnd x44_22 (
 some (.tup [(.int .i64 0 : Val), (.int .i64 5 : Val)], h)) (
 nilC a0 fun x48_23 =>
 faC 6 x48_23 fun x49_24 =>
 ldC false 1 x49_24 h fun x50_25 =>
 lenlC x50_25 fun x51_26 =>
 biC .add x51_26 (.int .i64 2 : Val) fun x52_27 =>
 clC call 85 [a0, x22_8, x52_27, x39_19] h fun x54_28 h =>
 cmC .ne x54_28 (.int .i64 0 : Val) fun x56_29 =>
 cnd x56_29 (
 some (.tup [(.int .i64 0 : Val), x54_28], h)) (
 nilC a0 fun x60_30 =>
 faC 6 x60_30 fun x61_31 =>
 ldC false 1 x61_31 h fun x62_32 =>
 ldC true 2 x3_1 h fun x63_33 =>
 bslC 2 [x63_33] fun x64_34 =>
 appC true 2 x62_32 x64_34 h fun x65_35 h =>
 nilC a0 fun x66_36 =>
 faC 6 x66_36 fun x67_37 =>
 stC 1 x67_37 x65_35 h fun h =>
 nilC a0 fun x69_39 =>
 faC 7 x69_39 fun x70_40 =>
 ldC false 1 x70_40 h fun x71_41 =>
 lenlC x39_19 fun x73_42 =>
 biC .add x71_41 x73_42 fun x74_43 =>
 nilC a0 fun x75_44 =>
 faC 7 x75_44 fun x76_45 =>
 stC 1 x76_45 x74_43 h fun h =>
 some (.tup [x22_8, (.int .i64 0 : Val)], h))))))
theorem e23 (call : Call) (n : Nat) (a0 : Val) (a1 : Val) (h : Heap) : runFn call n F23 [a0, a1] h = s23 call n a0 a1 h := by kernel_rfl
def s24 (call : Call) (n : Nat) (a0 : Val) (h : Heap) : R :=
 allocC [.int .i64 0, .int .u32 0, .int .u32 0, .int .i64 0] h fun x2_1 h =>
 ceC .p false a0 (.nilp : Val) fun x4_2 =>
 cnd x4_2 (
 aggC [.int .i64 0, .int .u32 0, .int .u32 0, .int .i64 0] [] fun x5_3 =>
 stC 4 x2_1 x5_3 h fun h =>
 ldC true 4 x2_1 h fun v5 =>
 some (v5, h)) (
 nilC a0 fun x7_6 =>
 faC 2 x7_6 fun x8_7 =>
 ldC true 4 x8_7 h fun x9_8 =>
 stC 4 x2_1 x9_8 h fun h =>
 ldC true 4 x2_1 h fun v10 =>
 some (v10, h))
theorem e24 (call : Call) (n : Nat) (a0 : Val) (h : Heap) : runFn call n F24 [a0] h = s24 call n a0 h := by kernel_rfl
def s26 (call : Call) (n : Nat) (a0 : Val) (h : Heap) : R :=
 ceC .p false a0 (.nilp : Val) fun x4_1 =>
 cnd x4_1 (
 some ((.sl .nl 2 [] : Val), h)) (
 nilC a0 fun x6_2 =>
 faC 6 x6_2 fun x7_3 =>
 ldC false 1 x7_3 h fun x8_4 =>
 clC call 86 [x8_4] h fun x9_5 h =>
 some (x9_5, h))
theorem e26 (call : Call) (n : Nat) (a0 : Val) (h : Heap) : runFn call n F26 [a0] h = s26 call n a0 h := by kernel_rfl
def s27 (call : Call) (n : Nat) (a0 : Val) (h : Heap) : R :=
 ceC .p false a0 (.nilp : Val) fun x4_1 =>
 cnd x4_1 (
 some ((.int .i64 0 : Val), h)) (
 nilC a0 fun x6_2 =>
 faC 7 x6_2 fun x7_3 =>
 ldC false 1 x7_3 h fun x8_4 =>
 some (x8_4, h))
theorem e27 (call : Call) (n : Nat) (a0 : Val) (h : Heap) : runFn call n F27 [a0] h = s27 call n a0 h := by kernel_rfl
def s28 (call : Call) (n : Nat) (a0 : Val) (h : Heap) : R :=
 ceC .p false a0 (.nilp : Val) fun x4_1 =>
 cnd x4_1 (
 some ((.int .i64 0 : Val), h)) (
 nilC a0 fun x6_2 =>
 faC 6 x6_2 fun x7_3 =>
 ldC false 1 x7_3 h fun x8_4 =>
 lenlC x8_4 fun x9_5 =>
 some (x9_5, h))
theorem e28 (call : Call) (n : Nat) (a0 : Val) (h : Heap) : runFn call n F28 [a0] h = s28 call n a0 h := by kernel_rfl
def s29 (call : Call) (n : Nat) (a0 : Val) (h : Heap) : R :=
 ceC .p false a0 (.nilp : Val) fun x4_1 =>
 gdC x4_1 false h (fun k => k a0 h) fun x6_2 h =>
 gdC x4_1 false h (fun k => nilC x6_2 fun x7_3 => k x7_3 h) fun x7_4 h =>
 gdC x4_1 false h (fun k => faC 8 x7_4 fun x8_5 => k x8_5 h) fun x8_6 h =>
 gdC x4_1 false h (fun k => ldC false 1 x8_6 h fun x9_7 => k x9_7 h) fun x9_8 h =>
 pickC x4_1 (.bool true : Val) x9_8 fun x10_9 =>
 some (x10_9, h)
theorem e29 (call : Call) (n : Nat) (a0 : Val) (h : Heap) : runFn call n F29 [a0] h = s29 call n a0 h := by kernel_rfl
def s30 (call : Call) (n : Nat) (a0 : Val) (a1 : Val) (a2 : Val) (h : Heap) : R :=
 boxC 4 a2 h fun x5_1 h =>
 clC call 76 [a0, a1] h fun x17_2 h =>
 exC 0 x17_2 fun x18_3 =>
 exC 1 x17_2 fun x19_4 =>
 cmC .ne x19_4 (.int .i64 0 : Val) fun x21_5 =>
 cnd x21_5 (
 some (.tup [(.nilp : Val), x19_4], h)) (
 ldC true 4 x5_1 h fun x24_6 =>
 clC call 87 [x24_6] h fun x25_7 h =>
 exC 0 x25_7 fun x26_8 =>
 exC 1 x25_7 fun x27_9 =>
 cmC .ne x27_9 (.int .i64 0 : Val) fun x29_10 =>
 cnd x29_10 (
 some (.tup [(.nilp : Val), x27_9], h)) (
 ldC true 4 x5_1 h fun x33_11 =>
 aggC [.nilp, .int .i64 0, .int .i64 0, .int .u32 0, .int .u32 0, .int .i64 0, .sl .nl 2 [], .int .i64 0, .bool false] [(0, 1, a0), (1, 1, a1), (2, 4, x33_11), (7, 1, (.int .i64 1 : Val))] fun x34_12 =>
 boxC 9 x34_12 h fun x35_13 h =>
 clC call 84 [x26_8] h fun x38_14 h =>
 clC call 85 [x35_13, (.int .i64 0 : Val), (.int .i64 1 : Val), x38_14] h fun x39_15 h =>
 cmC .ne x39_15 (.int .i64 0 : Val) fun x41_16 =>
 cnd x41_16 (
 some (.tup [(.nilp : Val), x39_15], h)) (
 some (.tup [x35_13, (.int .i64 0 : Val)], h))))
theorem e30 (call : Call) (n : Nat) (a0 : Val) (a1 : Val) (a2 : Val) (h : Heap) : runFn call n F30 [a0, a1, a2] h = s30 call n a0 a1 a2 h := by kernel_rfl
def s31 (call : Call) (n : Nat) (a0 : Val) (a1 : Val) (h : Heap) : R :=
 clC call 76 [a0, a1] h fun x10_1 h =>
 exC 0 x10_1 fun x11_2 =>
 exC 1 x10_1 fun x12_3 =>
 cmC .ne x12_3 (.int .i64 0 : Val) fun x14_4 =>
 cnd x14_4 (
 some (x12_3, h)) (
 clC call 88 [(.str [0] : Val), (.int .i64 64 : Val)] h fun x18_5 h =>
 clC call 20 [a0, x11_2, x18_5] h fun x19_6 h =>
 some (x19_6, h))
theorem e31 (call : Call) (n : Nat) (a0 : Val) (a1 : Val) (h : Heap) : runFn call n F31 [a0, a1] h = s31 call n a0 a1 h := by kernel_rfl
def s33 (call : Call) (n : Nat) (a0 : Val) (h : Heap) : R :=
 ceC .p true a0 (.nilp : Val) fun x3_1 =>
 cnd x3_1 (
 nilC a0 fun x5_2 =>
 faC 8 x5_2 fun x6_3 =>
 stC 1 x6_3 (.bool true : Val) h fun h =>
 some (.tup [], h)) (
 some (.tup [], h))
theorem e33 (call : Call) (n : Nat) (a0 : Val) (h : Heap) : runFn call n F33 [a0] h = s33 call n a0 h := by kernel_rfl
def s34 (call : Call) (n : Nat) (a0 : Val) (h : Heap) : R :=
 ceC .p false a0 (.nilp : Val) fun x4_1 =>
 cnd x4_1 (
 some ((.int .i64 0 : Val), h)) (
 nilC a0 fun x6_2 =>
 faC 1 x6_2 fun x7_3 =>
 ldC false 1 x7_3 h fun x8_4 =>
 some (x8_4, h))
theorem e34 (call : Call) (n : Nat) (a0 : Val) (h : Heap) : runFn call n F34 [a0] h = s34 call n a0 h := by kernel_rfl
def s35 (call : Call) (n : Nat) (a0 : Val) (h : Heap) : R :=
 boxC 1 a0 h fun x1_1 h =>
 ldC false 1 x1_1 h fun x3_2 =>
 ceC .p false x3_2 (.nilp : Val) fun x4_3 =>
 cnd x4_3 (
 some ((.int .i64 7 : Val), h)) (
 ldC false 1 x1_1 h fun x5_4 =>
 clC call 73 [x5_4, (.func 89 [x1_1] : Val)] h fun x7_5 h =>
 some (x7_5, h))
theorem e35 (call : Call) (n : Nat) (a0 : Val) (h : Heap) : runFn call n F35 [a0] h = s35 call n a0 h := by kernel_rfl
def s36 (call : Call) (n : Nat) (a0 : Val) (a1 : Val) (h : Heap) : R :=
 ceC .p true a0 (.nilp : Val) fun x5_1 =>
 gdC x5_1 true h (fun k => k a0 h) fun x7_2 h =>
 gdC x5_1 true h (fun k => nilC x7_2 fun x8_3 => k x8_3 h) fun x8_4 h =>
 gdC x5_1 true h (fun k => faC 5 x8_4 fun x9_5 => k x9_5 h) fun x9_6 h =>
 gdC x5_1 true h (fun k => ldC false 1 x9_6 h fun x10_7 => k x10_7 h) fun x10_8 h =>
 gdC x5_1 true h (fun k => notC x10_8 fun x11_9 => k x11_9 h) fun x11_10 h =>
 pickC x5_1 x11_10 (.bool false : Val) fun x12_11 =>
 cnd x12_11 (
 mxC a1 (.int .i64 (-1) : Val) fun x15_12 =>
 nilC a0 fun x16_13 =>
 faC 3 x16_13 fun x17_14 =>
 stC 1 x17_14 x15_12 h fun h =>
 some (.tup [], h)) (
 some (.tup [], h))
theorem e36 (call : Call) (n : Nat) (a0 : Val) (a1 : Val) (h : Heap) : runFn call n F36 [a0, a1] h = s36 call n a0 a1 h := by kernel_rfl
def s38_l0 (call : Call) (n : Nat) (again0 : List Val → Heap → R) (c1 : Val) (c2 : Val) (c3 : Val) (c4 : Val) (y5 : Val) (y20 : Val) (h : Heap) : R :=
 cmC .lt y20 (.int .i64 8 : Val) fun x21_8 =>
 cnd x21_8 (
 clC call 94 [] h fun x24_9 h =>
 clC call 39 [c3, x24_9] h fun x25_10 h =>
 exC 0 x25_10 fun x26_11 =>
 exC 1 x25_10 fun x27_12 =>
 cmC .ne x27_12 (.int .i64 0 : Val) fun x29_13 =>
 cnd x29_13 (
 some ((.bool false : Val), h)) (
 biC .add y20 (.int .i64 1 : Val) fun x31_14 =>
 again0 [x26_11, x31_14] h)) (
 clC call 40 [c3, (.int .i64 107 : Val)] h fun x34_15 h =>
 exC 0 x34_15 fun x35_16 =>
 exC 1 x34_15 fun x36_17 =>
 allocC [.int .i64 0, .str []] h fun x8_18 h =>
 stC 2 x8_18 x35_16 h fun h =>
 cmC .eq c2 (.int .i64 0 : Val) fun x38_20 =>
 gdC x38_20 true h (fun k => k c4 h) fun x40_21 h =>
 gdC x38_20 true h (fun k => cmC .eq x40_21 (.int .i64 0 : Val) fun x41_22 => k x41_22 h) fun x41_23 h =>
 pickC x38_20 x41_23 (.bool false : Val) fun x42_24 =>
 gdC x42_24 true h (fun k => k x36_17 h) fun x44_25 h =>
 gdC x42_24 true h (fun k => cmC .eq x44_25 (.int .i64 0 : Val) fun x45_26 => k x45_26 h) fun x45_27 h =>
 pickC x42_24 x45_27 (.bool false : Val) fun x46_28 =>
 gdC x46_28 true h (fun k => k y5 h) fun x48_29 h =>
 gdC x46_28 true h (fun k => cmC .eq x48_29 (.int .i64 107 : Val) fun x49_30 => k x49_30 h) fun x49_31 h =>
 pickC x46_28 x49_31 (.bool false : Val) fun x50_32 =>
 gdC x50_32 true h (fun k => ldC true 2 x8_18 h fun x52_33 => k x52_33 h) fun x52_34 h =>
 gdC x50_32 true h (fun k => clC call 94 [] h fun x53_35 h => k x53_35 h) fun x53_36 h =>
 gdC x50_32 true h (fun k => ldC true 2 x8_18 h fun v38 => k v38 h) fun v37 _ =>
 bif eqv v37 x52_34 then
 gdC x50_32 true h (fun k => ceaC [.i, .s] false x52_34 x53_36 fun x54_39 => k x54_39 h) fun x54_40 h =>
 pickC x50_32 x54_40 (.bool false : Val) fun x55_41 =>
 gdC x55_41 true h (fun k => k c3 h) fun x57_42 h =>
 gdC x55_41 true h (fun k => bslC 1 [(.int .i64 0 : Val), (.int .i64 1 : Val)] fun x59_43 => k x59_43 h) fun x59_44 h =>
 gdC x55_41 true h (fun k => clC call 51 [x57_42] h fun x58_45 h => k x58_45 h) fun x58_46 h =>
 gdC x55_41 true h (fun k => clC call 56 [x58_46, x59_44] h fun x60_47 h => k x60_47 h) fun x60_48 h =>
 pickC x55_41 x60_48 (.bool false : Val) fun x61_49 =>
 gdC x61_49 true h (fun k => k c3 h) fun x63_50 h =>
 gdC x61_49 true h (fun k => clC call 48 [x63_50] h fun x64_51 h => k x64_51 h) fun x64_52 h =>
 gdC x61_49 true h (fun k => cmC .eq x64_52 (.int .i64 108 : Val) fun x65_53 => k x65_53 h) fun x65_54 h =>
 pickC x61_49 x65_54 (.bool false : Val) fun x66_55 =>
 gdC x66_55 true h (fun k => k c3 h) fun x68_56 h =>
 gdC x66_55 true h (fun k => clC call 47 [x68_56] h fun x69_57 h => k x69_57 h) fun x69_58 h =>
 gdC x66_55 true h (fun k => cmC .eq x69_58 (.int .i64 100 : Val) fun x70_59 => k x70_59 h) fun x70_60 h =>
 pickC x66_55 x70_60 (.bool false : Val) fun x71_61 =>
 gdC x71_61 true h (fun k => k c3 h) fun x73_62 h =>
 gdC x71_61 true h (fun k => clC call 49 [x73_62] h fun x74_63 h => k x74_63 h) fun x74_64 h =>
 gdC x71_61 true h (fun k => cmC .eq x74_64 (.int .i64 9 : Val) fun x75_65 => k x75_65 h) fun x75_66 h =>
 pickC x71_61 x75_66 (.bool false : Val) fun x76_67 =>
 gdC x76_67 true h (fun k => k c3 h) fun x78_68 h =>
 gdC x76_67 true h (fun k => clC call 50 [x78_68] h fun x79_69 h => k x79_69 h) fun x79_70 h =>
 gdC x76_67 true h (fun k => cmC .eq x79_70 (.int .u32 4 : Val) fun x80_71 => k x80_71 h) fun x80_72 h =>
 pickC x76_67 x80_72 (.bool false : Val) fun x81_73 =>
 gdC x81_73 true h (fun k => k c1 h) fun x83_74 h =>
 gdC x81_73 true h (fun k => clC call 95 [x83_74] h fun x84_75 h => k x84_75 h) fun x84_76 h =>
 gdC x81_73 true h (fun k => cmC .eq x84_76 (.int .i64 4 : Val) fun x85_77 => k x85_77 h) fun x85_78 h =>
 pickC x81_73 x85_78 (.bool false : Val) fun x86_79 =>
 some (x86_79, h) else none)
def s38 (call : Call) (n : Nat) (h : Heap) : R :=
 clC call 92 [(.int .i64 6 : Val), (.int .i64 1 : Val)] h fun x11_1 h =>
 exC 0 x11_1 fun x12_2 =>
 exC 1 x11_1 fun x13_3 =>
 clC call 93 [] h fun x15_4 h =>
 clC call 41 [x15_4, x12_2, (.int .i64 9 : Val), (.int .u32 4 : Val), (.int .i64 100 : Val)] h fun x17_5 h =>
 exC 0 x17_5 fun x18_6 =>
 exC 1 x17_5 fun x19_7 =>
 iter n (fun again0 xs h => s38_l0 call n again0 x12_2 x13_3 x18_6 x19_7 (getN xs 0) (getN xs 1) h) [(.int .i64 0 : Val), (.int .i64 0 : Val)] h
theorem e38 (call : Call) (n : Nat) (h : Heap) : runFn call n F38 [] h = s38 call n h := by kernel_rfl
def s39_j0 (call : Call) (n : Nat) (w0 : Val) (w3 : Val) (h : Heap) : R :=
 clC call 98 [w0] h fun x44_17 h =>
 exC 0 x44_17 fun x45_18 =>
 exC 1 x44_17 fun x46_19 =>
 cmC .ne x46_19 (.int .i64 0 : Val) fun x48_20 =>
 cnd x48_20 (
 some (.tup [(.int .i64 0 : Val), x46_19], h)) (
 ldC true 2 w3 h fun x52_21 =>
 clC call 23 [x45_18, x52_21] h fun x53_22 h =>
 exC 0 x53_22 fun x54_23 =>
 exC 1 x53_22 fun x55_24 =>
 cmC .ne x55_24 (.int .i64 0 : Val) fun x57_25 =>
 cnd x57_25 (
 nilC w0 fun x59_26 =>
 faC 1 x59_26 fun x60_27 =>
 ldC false 1 x60_27 h fun x61_28 =>
 clC call 34 [x45_18] h fun x63_29 h =>
 ldC false 1 x60_27 h fun v31 =>
 bif eqv v31 x61_28 then
 clC call 99 [x61_28, x63_29] h fun x64_32 h =>
 some (.tup [(.int .i64 0 : Val), x55_24], h) else none) (
 nilC w0 fun x68_33 =>
 faC 6 x68_33 fun x69_34 =>
 ldC false 1 x69_34 h fun x70_35 =>
 bslC 1 [x45_18] fun x72_36 =>
 appC false 1 x70_35 x72_36 h fun x73_37 h =>
 nilC w0 fun x74_38 =>
 faC 6 x74_38 fun x75_39 =>
 stC 1 x75_39 x73_37 h fun h =>
 clC call 97 [w0] h fun x77_41 h =>
 some (.tup [x77_41, (.int .i64 0 : Val)], h)))
def s39 (call : Call) (n : Nat) (a0 : Val) (a1 : Val) (h : Heap) : R :=
 boxC 2 a1 h fun x3_1 h =>
 ceC .p false a0 (.nilp : Val) fun x16_2 =>
 cnd x16_2 (
 some (.tup [(.int .i64 0 : Val), (.int .i64 7 : Val)], h)) (
 ldC true 2 x3_1 h fun x18_3 =>
 clC call 83 [(.int .u32 0 : Val), (.int .i64 1 : Val), x18_3] h fun x19_4 h =>
 exC 0 x19_4 fun x20_5 =>
 exC 1 x19_4 fun x21_6 =>
 cmC .ne x21_6 (.int .i64 0 : Val) fun x23_7 =>
 cnd x23_7 (
 some (.tup [(.int .i64 0 : Val), x21_6], h)) (
 clC call 96 [a0] h fun x26_8 h =>
 ceC .p true x26_8 (.nilp : Val) fun x28_9 =>
 cnd x28_9 (
 ldC true 2 x3_1 h fun x31_10 =>
 clC call 23 [x26_8, x31_10] h fun x32_11 h =>
 exC 0 x32_11 fun x33_12 =>
 exC 1 x32_11 fun x34_13 =>
 cmC .eq x34_13 (.int .i64 0 : Val) fun x36_14 =>
 cnd x36_14 (
 clC call 97 [a0] h fun x38_15 h =>
 some (.tup [x38_15, (.int .i64 0 : Val)], h)) (
 cmC .ne x34_13 (.int .i64 5 : Val) fun x40_16 =>
 cnd x40_16 (
 some (.tup [(.int .i64 0 : Val), x34_13], h)) (
 s39_j0 call n a0 x3_1 h))) (
 s39_j0 call n a0 x3_1 h)))
theorem e39 (call : Call) (n : Nat) (a0 : Val) (a1 : Val) (h : Heap) : runFn call n F39 [a0, a1] h = s39 call n a0 a1 h := by kernel_rfl
def s40 (call : Call) (n : Nat) (a0 : Val) (a1 : Val) (h : Heap) : R :=
 allocC [.int .i64 0, .str []] h fun x4_1 h =>
 ceC .p false a0 (.nilp : Val) fun x9_2 =>
 cnd x9_2 (
 aggC [.int .i64 0, .str []] [] fun x10_3 =>
 stC 2 x4_1 x10_3 h fun h =>
 ldC true 2 x4_1 h fun v5 =>
 some (.tup [v5, (.int .i64 7 : Val)], h)) (
 nilC a0 fun x14_6 =>
 faC 4 x14_6 fun x15_7 =>
 ldC false 1 x15_7 h fun x16_8 =>
 cmC .lt a1 x16_8 fun x17_9 =>
 gdC x17_9 false h (fun k => k a1 h) fun x19_10 h =>
 gdC x17_9 false h (fun k => k a0 h) fun x20_11 h =>
 gdC x17_9 false h (fun k => nilC x20_11 fun x21_12 => k x21_12 h) fun x21_13 h =>
 gdC x17_9 false h (fun k => faC 5 x21_13 fun x22_14 => k x22_14 h) fun x22_15 h =>
 gdC x17_9 false h (fun k => ldC false 1 x22_15 h fun x23_16 => k x23_16 h) fun x23_17 h =>
 gdC x17_9 false h (fun k => cmC .ge x19_10 x23_17 fun x24_18 => k x24_18 h) fun x24_19 h =>
 pickC x17_9 (.bool true : Val) x24_19 fun x25_20 =>
 cnd x25_20 (
 aggC [.int .i64 0, .str []] [] fun x26_21 =>
 stC 2 x4_1 x26_21 h fun h =>
 ldC true 2 x4_1 h fun v23 =>
 some (.tup [v23, (.int .i64 34 : Val)], h)) (
 nilC a0 fun x28_24 =>
 faC 6 x28_24 fun x29_25 =>
 ldC false 1 x29_25 h fun x30_26 =>
 clC call 100 [a0, a1] h fun x33_27 h =>
 ldC false 1 x29_25 h fun v29 =>
 bif eqv v29 x30_26 then
 ixsC 1 x30_26 x33_27 fun x34_30 =>
 ldC false 1 x34_30 h fun x35_31 =>
 clC call 26 [x35_31] h fun x37_32 h =>
 clC call 24 [x35_31] h fun x40_33 h =>
 fdC false 3 1 x40_33 fun x41_34 =>
 biC .sub a1 x41_34 fun x42_35 =>
 ixsC 2 x37_32 x42_35 fun x43_36 =>
 ldC true 2 x43_36 h fun x44_37 =>
 stC 2 x4_1 x44_37 h fun h =>
 ldC true 2 x4_1 h fun v39 =>
 some (.tup [v39, (.int .i64 0 : Val)], h) else none))
theorem e40 (call : Call) (n : Nat) (a0 : Val) (a1 : Val) (h : Heap) : runFn call n F40 [a0, a1] h = s40 call n a0 a1 h := by kernel_rfl
def s41 (call : Call) (n : Nat) (a0 : Val) (a1 : Val) (a2 : Val) (a3 : Val) (a4 : Val) (h : Heap) : R :=
 ceC .p false a0 (.nilp : Val) fun x14_1 =>
 gdC x14_1 false h (fun k => k a1 h) fun x16_2 h =>
 gdC x14_1 false h (fun k => ceC .p false x16_2 (.nilp : Val) fun x17_3 => k x17_3 h) fun x17_4 h =>
 pickC x14_1 (.bool true : Val) x17_4 fun x18_5 =>
 cnd x18_5 (
 some (.tup [(.nilp : Val), (.int .i64 7 : Val)], h)) (
 cmC .lt a2 (.int .i64 1 : Val) fun x21_6 =>
 gdC x21_6 false h (fun k => k a2 h) fun x23_7 h =>
 gdC x21_6 false h (fun k => cmC .gt x23_7 (.int .i64 65535 : Val) fun x24_8 => k x24_8 h) fun x24_9 h =>
 pickC x21_6 (.bool true : Val) x24_9 fun x25_10 =>
 gdC x25_10 false h (fun k => k a4 h) fun x27_11 h =>
 gdC x25_10 false h (fun k => cmC .lt x27_11 (.int .i64 0 : Val) fun x28_12 => k x28_12 h) fun x28_13 h =>
 pickC x25_10 (.bool true : Val) x28_13 fun x29_14 =>
 gdC x29_14 false h (fun k => k a4 h) fun x31_15 h =>
 gdC x29_14 false h (fun k => cmC .gt x31_15 (.int .i64 1099511627776 : Val) fun x32_16 => k x32_16 h) fun x32_17 h =>
 pickC x29_14 (.bool true : Val) x32_17 fun x33_18 =>
 cnd x33_18 (
 some (.tup [(.nilp : Val), (.int .i64 1 : Val)], h)) (
 aggC [.nilp, .nilp, .int .i64 0, .int .u32 0, .int .i64 0, .int .i64 0, .sl .nl 1 []] [(0, 1, a0), (1, 1, a1), (2, 1, a2), (3, 1, a3), (4, 1, a4), (5, 1, a4)] fun x40_19 =>
 boxC 7 x40_19 h fun x41_20 h =>
 some (.tup [x41_20, (.int .i64 0 : Val)], h)))
theorem e41 (call : Call) (n : Nat) (a0 : Val) (a1 : Val) (a2 : Val) (a3 : Val) (a4 : Val) (h : Heap) : runFn call n F41 [a0, a1, a2, a3, a4] h = s41 call n a0 a1 a2 a3 a4 h := by kernel_rfl
def s42_l1 (call : Call) (n : Nat) (again0 : List Val → Heap → R) (again1 : List Val → Heap → R) (c0 : Val) (c7 : Val) (c50 : Val) (c51 : Val) (y52 : Val) (h : Heap) : R :=
 cmC .lt y52 c51 fun x53_35 =>
 cnd x53_35 (
 ixsC 1 c50 y52 fun x54_36 =>
 ldC false 1 x54_36 h fun x55_37 =>
 nilC c0 fun x57_38 =>
 faC 1 x57_38 fun x58_39 =>
 ldC false 1 x58_39 h fun x59_40 =>
 clC call 34 [x55_37] h fun x61_41 h =>
 ldC false 1 x58_39 h fun v43 =>
 bif eqv v43 x59_40 then
 clC call 99 [x59_40, x61_41] h fun x62_44 h =>
 biC .add y52 (.int .i64 1 : Val) fun x63_45 =>
 again1 [x63_45] h else none) (
 some (c7, h))
def s42_j0 (call : Call) (n : Nat) (again0 : List Val → Heap → R) (again2 : List Val → Heap → R) (h : Heap) : R :=
 some ((.int .i64 0 : Val), h)
def s42_l2 (call : Call) (n : Nat) (again0 : List Val → Heap → R) (again2 : List Val → Heap → R) (c0 : Val) (c1 : Val) (c66 : Val) (c67 : Val) (y68 : Val) (h : Heap) : R :=
 cmC .lt y68 c67 fun x69_48 =>
 cnd x69_48 (
 ixsC 1 c66 y68 fun x70_49 =>
 ldC false 1 x70_49 h fun x71_50 =>
 clC call 33 [x71_50] h fun x73_51 h =>
 nilC c0 fun x76_52 =>
 faC 6 x76_52 fun x77_53 =>
 ldC false 1 x77_53 h fun x78_54 =>
 bslC 1 [x71_50] fun x80_55 =>
 appC false 1 x78_54 x80_55 h fun x81_56 h =>
 nilC c0 fun x82_57 =>
 faC 6 x82_57 fun x83_58 =>
 stC 1 x83_58 x81_56 h fun h =>
 clC call 24 [x71_50] h fun x86_60 h =>
 fdC false 3 1 x86_60 fun x87_61 =>
 clC call 28 [x71_50] h fun x89_62 h =>
 biC .add x87_61 x89_62 fun x90_63 =>
 nilC c0 fun x91_64 =>
 faC 5 x91_64 fun x92_65 =>
 stC 1 x92_65 x90_63 h fun h =>
 biC .add y68 (.int .i64 1 : Val) fun x93_67 =>
 again2 [x93_67] h) (
 lenlC c1 fun x95_68 =>
 cmC .gt x95_68 (.int .i64 0 : Val) fun x96_69 =>
 cnd x96_69 (
 ixsC 1 c1 (.int .i64 0 : Val) fun x99_70 =>
 ldC false 1 x99_70 h fun x100_71 =>
 clC call 24 [x100_71] h fun x101_72 h =>
 fdC false 3 1 x101_72 fun x102_73 =>
 nilC c0 fun x103_74 =>
 faC 4 x103_74 fun x104_75 =>
 stC 1 x104_75 x102_73 h fun h =>
 s42_j0 call n again0 again2 h) (
 s42_j0 call n again0 again2 h))
def s42_l0 (call : Call) (n : Nat) (again0 : List Val → Heap → R) (c0 : Val) (c1 : Val) (c28 : Val) (c29 : Val) (y30 : Val) (h : Heap) : R :=
 cmC .lt y30 c29 fun x31_17 =>
 cnd x31_17 (
 ixsC 1 c28 y30 fun x33_18 =>
 ldC false 1 x33_18 h fun x34_19 =>
 nilC c0 fun x36_20 =>
 faC 1 x36_20 fun x37_21 =>
 ldC false 1 x37_21 h fun x38_22 =>
 nilC c0 fun x42_23 =>
 faC 2 x42_23 fun x43_24 =>
 ldC false 1 x43_24 h fun x44_25 =>
 clC call 34 [x34_19] h fun x40_26 h =>
 ldC false 1 x37_21 h fun v28 =>
 bif eqv v28 x38_22 then
 ldC false 1 x43_24 h fun v30 =>
 bif eqv v30 x44_25 then
 clC call 102 [x38_22, x40_26, x44_25] h fun x45_31 h =>
 cmC .ne x45_31 (.int .i64 0 : Val) fun x47_32 =>
 cnd x47_32 (
 sllC 1 c1 none (some y30) fun x50_33 =>
 lenlC x50_33 fun x51_34 =>
 iter n (fun again1 xs h => s42_l1 call n again0 again1 c0 x45_31 x50_33 x51_34 (getN xs 0) h) [(.int .i64 0 : Val)] h) (
 biC .add y30 (.int .i64 1 : Val) fun x65_46 =>
 again0 [x65_46] h) else none else none) (
 lenlC c1 fun x67_47 =>
 iter n (fun again2 xs h => s42_l2 call n again0 again2 c0 c1 c1 x67_47 (getN xs 0) h) [(.int .i64 0 : Val)] h)
def s42 (call : Call) (n : Nat) (a0 : Val) (a1 : Val) (h : Heap) : R :=
 ceC .p false a0 (.nilp : Val) fun x14_1 =>
 gdC x14_1 false h (fun k => k a0 h) fun x16_2 h =>
 gdC x14_1 false h (fun k => nilC x16_2 fun x17_3 => k x17_3 h) fun x17_4 h =>
 gdC x14_1 false h (fun k => faC 6 x17_4 fun x18_5 => k x18_5 h) fun x18_6 h =>
 gdC x14_1 false h (fun k => ldC false 1 x18_6 h fun x19_7 => k x19_7 h) fun x19_8 h =>
 gdC x14_1 false h (fun k => lenlC x19_8 fun x20_9 => k x20_9 h) fun x20_10 h =>
 gdC x14_1 false h (fun k => cmC .gt x20_10 (.int .i64 0 : Val) fun x21_11 => k x21_11 h) fun x21_12 h =>
 pickC x14_1 (.bool true : Val) x21_12 fun x22_13 =>
 cnd x22_13 (
 some ((.int .i64 7 : Val), h)) (
 clC call 101 [a0, a1] h fun x26_14 h =>
 notC x26_14 fun x27_15 =>
 cnd x27_15 (
 some ((.int .i64 4 : Val), h)) (
 lenlC a1 fun x29_16 =>
 iter n (fun again0 xs h => s42_l0 call n again0 a0 a1 a1 x29_16 (getN xs 0) h) [(.int .i64 0 : Val)] h))
theorem e42 (call : Call) (n : Nat) (a0 : Val) (a1 : Val) (h : Heap) : runFn call n F42 [a0, a1] h = s42 call n a0 a1 h := by kernel_rfl
def s43_l0 (call : Call) (n : Nat) (again0 : List Val → Heap → R) (c0 : Val) (c1 : Val) (h : Heap) : R :=
 nilC c0 fun x9_2 =>
 faC 6 x9_2 fun x10_3 =>
 ldC false 1 x10_3 h fun x11_4 =>
 lenlC x11_4 fun x12_5 =>
 cmC .gt x12_5 (.int .i64 1 : Val) fun x13_6 =>
 gdC x13_6 true h (fun k => k c0 h) fun x15_7 h =>
 gdC x13_6 true h (fun k => nilC x15_7 fun x16_8 => k x16_8 h) fun x16_9 h =>
 gdC x13_6 true h (fun k => faC 6 x16_9 fun x17_10 => k x17_10 h) fun x17_11 h =>
 gdC x13_6 true h (fun k => ldC false 1 x17_11 h fun x18_12 => k x18_12 h) fun x18_13 h =>
 gdC x13_6 true h (fun k => ixsC 1 x18_13 (.int .i64 0 : Val) fun x19_14 => k x19_14 h) fun x19_15 h =>
 gdC x13_6 true h (fun k => ldC false 1 x19_15 h fun x20_16 => k x20_16 h) fun x20_17 h =>
 gdC x13_6 true h (fun k => k c0 h) fun x23_18 h =>
 gdC x13_6 true h (fun k => nilC x23_18 fun x24_19 => k x24_19 h) fun x24_20 h =>
 gdC x13_6 true h (fun k => faC 6 x24_20 fun x25_21 => k x25_21 h) fun x25_22 h =>
 gdC x13_6 true h (fun k => ldC false 1 x25_22 h fun x26_23 => k x26_23 h) fun x26_24 h =>
 gdC x13_6 true h (fun k => ixsC 1 x26_24 (.int .i64 0 : Val) fun x27_25 => k x27_25 h) fun x27_26 h =>
 gdC x13_6 true h (fun k => ldC false 1 x27_26 h fun x28_27 => k x28_27 h) fun x28_28 h =>
 gdC x13_6 true h (fun k => k c1 h) fun x31_29 h =>
 gdC x13_6 true h (fun k => clC call 24 [x20_17] h fun x21_30 h => k x21_30 h) fun x21_31 h =>
 gdC x13_6 true h (fun k => ldC false 1 x25_22 h fun v33 => k v33 h) fun v32 _ =>
 bif eqv v32 x26_24 then
 gdC x13_6 true h (fun k => ldC false 1 x27_26 h fun v35 => k v35 h) fun v34 _ =>
 bif eqv v34 x28_28 then
 gdC x13_6 true h (fun k => fdC false 3 1 x21_31 fun x22_36 => k x22_36 h) fun x22_37 h =>
 gdC x13_6 true h (fun k => clC call 28 [x28_28] h fun x29_38 h => k x29_38 h) fun x29_39 h =>
 gdC x13_6 true h (fun k => biC .add x22_37 x29_39 fun x30_40 => k x30_40 h) fun x30_41 h =>
 gdC x13_6 true h (fun k => cmC .le x30_41 x31_29 fun x32_42 => k x32_42 h) fun x32_43 h =>
 pickC x13_6 x32_43 (.bool false : Val) fun x33_44 =>
 cnd x33_44 (
 clC call 103 [c0] h fun x35_45 h =>
 cmC .ne x35_45 (.int .i64 0 : Val) fun x37_46 =>
 cnd x37_46 (
 some (x35_45, h)) (
 again0 [] h)) (
 some ((.int .i64 0 : Val), h)) else none else none
def s43 (call : Call) (n : Nat) (a0 : Val) (a1 : Val) (h : Heap) : R :=
 ceC .p false a0 (.nilp : Val) fun x7_1 =>
 cnd x7_1 (
 some ((.int .i64 7 : Val), h)) (
 iter n (fun again0 xs h => s43_l0 call n again0 a0 a1  h) [] h)
theorem e43 (call : Call) (n : Nat) (a0 : Val) (a1 : Val) (h : Heap) : runFn call n F43 [a0, a1] h = s43 call n a0 a1 h := by kernel_rfl
def s44_l0 (call : Call) (n : Nat) (again0 : List Val → Heap → R) (c0 : Val) (h : Heap) : R :=
 nilC c0 fun x7_2 =>
 faC 6 x7_2 fun x8_3 =>
 ldC false 1 x8_3 h fun x9_4 =>
 lenlC x9_4 fun x10_5 =>
 cmC .gt x10_5 (.int .i64 0 : Val) fun x11_6 =>
 cnd x11_6 (
 clC call 103 [c0] h fun x13_7 h =>
 cmC .ne x13_7 (.int .i64 0 : Val) fun x15_8 =>
 cnd x15_8 (
 some (x13_7, h)) (
 again0 [] h)) (
 some ((.int .i64 0 : Val), h))
def s44 (call : Call) (n : Nat) (a0 : Val) (h : Heap) : R :=
 ceC .p false a0 (.nilp : Val) fun x5_1 =>
 cnd x5_1 (
 some ((.int .i64 7 : Val), h)) (
 iter n (fun again0 xs h => s44_l0 call n again0 a0  h) [] h)
theorem e44 (call : Call) (n : Nat) (a0 : Val) (h : Heap) : runFn call n F44 [a0] h = s44 call n a0 h := by kernel_rfl
def s45_j0 (call : Call) (n : Nat) (again0 : List Val → Heap → R) (again1 : List Val → Heap → R) (w1 : Val) (w2 : Val) (w7 : Val) (w9 : Val) (w37 : Val) (w38 : Val) (w39 : Val) (w44 : Val) (w45 : Val) (w46 : Val) (h : Heap) : R :=
 biC .add w46 (.int .i64 1 : Val) fun x68_56 =>
 again1 [w7, x68_56] h
def s45_l1 (call : Call) (n : Nat) (again0 : List Val → Heap → R) (again1 : List Val → Heap → R) (c1 : Val) (c2 : Val) (c9 : Val) (c37 : Val) (c38 : Val) (c39 : Val) (c44 : Val) (c45 : Val) (y7 : Val) (y46 : Val) (h : Heap) : R :=
 cmC .lt y46 c45 fun x47_37 =>
 cnd x47_37 (
 ixsC 2 c44 y46 fun x49_38 =>
 ldC true 2 x49_38 h fun x50_39 =>
 allocC [.int .i64 0, .str []] h fun x11_40 h =>
 stC 2 x11_40 x50_39 h fun h =>
 clC call 24 [c9] h fun x52_42 h =>
 fdC false 3 1 x52_42 fun x53_43 =>
 biC .add x53_43 y46 fun x55_44 =>
 cmC .ge x55_44 c1 fun x57_45 =>
 gdC x57_45 true h (fun k => k y7 h) fun x59_46 h =>
 gdC x57_45 true h (fun k => lenlC x59_46 fun x60_47 => k x60_47 h) fun x60_48 h =>
 gdC x57_45 true h (fun k => k c2 h) fun x61_49 h =>
 gdC x57_45 true h (fun k => cmC .lt x60_48 x61_49 fun x62_50 => k x62_50 h) fun x62_51 h =>
 pickC x57_45 x62_51 (.bool false : Val) fun x63_52 =>
 cnd x63_52 (
 ldC true 2 x11_40 h fun x65_53 =>
 bslC 2 [x65_53] fun x66_54 =>
 appC true 2 y7 x66_54 h fun x67_55 h =>
 s45_j0 call n again0 again1 c1 c2 x67_55 c9 c37 c38 c39 c44 c45 y46 h) (
 s45_j0 call n again0 again1 c1 c2 y7 c9 c37 c38 c39 c44 c45 y46 h)) (
 biC .add c39 (.int .i64 1 : Val) fun x69_57 =>
 again0 [y7, x69_57] h)
def s45_l0 (call : Call) (n : Nat) (again0 : List Val → Heap → R) (c1 : Val) (c2 : Val) (c37 : Val) (c38 : Val) (y7 : Val) (y39 : Val) (h : Heap) : R :=
 cmC .lt y39 c38 fun x40_32 =>
 cnd x40_32 (
 ixsC 1 c37 y39 fun x41_33 =>
 ldC false 1 x41_33 h fun x42_34 =>
 clC call 26 [x42_34] h fun x44_35 h =>
 lenlC x44_35 fun x45_36 =>
 iter n (fun again1 xs h => s45_l1 call n again0 again1 c1 c2 x42_34 c37 c38 y39 x44_35 x45_36 (getN xs 0) (getN xs 1) h) [y7, (.int .i64 0 : Val)] h) (
 some (y7, h))
def s45 (call : Call) (n : Nat) (a0 : Val) (a1 : Val) (a2 : Val) (h : Heap) : R :=
 ceC .p false a0 (.nilp : Val) fun x13_1 =>
 gdC x13_1 false h (fun k => k a1 h) fun x15_2 h =>
 gdC x13_1 false h (fun k => k a0 h) fun x16_3 h =>
 gdC x13_1 false h (fun k => nilC x16_3 fun x17_4 => k x17_4 h) fun x17_5 h =>
 gdC x13_1 false h (fun k => faC 4 x17_5 fun x18_6 => k x18_6 h) fun x18_7 h =>
 gdC x13_1 false h (fun k => ldC false 1 x18_7 h fun x19_8 => k x19_8 h) fun x19_9 h =>
 gdC x13_1 false h (fun k => cmC .lt x15_2 x19_9 fun x20_10 => k x20_10 h) fun x20_11 h =>
 pickC x13_1 (.bool true : Val) x20_11 fun x21_12 =>
 gdC x21_12 false h (fun k => k a1 h) fun x23_13 h =>
 gdC x21_12 false h (fun k => k a0 h) fun x24_14 h =>
 gdC x21_12 false h (fun k => nilC x24_14 fun x25_15 => k x25_15 h) fun x25_16 h =>
 gdC x21_12 false h (fun k => faC 5 x25_16 fun x26_17 => k x26_17 h) fun x26_18 h =>
 gdC x21_12 false h (fun k => ldC false 1 x26_18 h fun x27_19 => k x27_19 h) fun x27_20 h =>
 gdC x21_12 false h (fun k => cmC .ge x23_13 x27_20 fun x28_21 => k x28_21 h) fun x28_22 h =>
 pickC x21_12 (.bool true : Val) x28_22 fun x29_23 =>
 cnd x29_23 (
 some ((.sl .nl 2 [] : Val), h)) (
 nilC a0 fun x31_24 =>
 faC 6 x31_24 fun x32_25 =>
 ldC false 1 x32_25 h fun x33_26 =>
 clC call 100 [a0, a1] h fun x36_27 h =>
 ldC false 1 x32_25 h fun v29 =>
 bif eqv v29 x33_26 then
 sllC 1 x33_26 (some x36_27) none fun x37_30 =>
 lenlC x37_30 fun x38_31 =>
 iter n (fun again0 xs h => s45_l0 call n again0 a1 a2 x37_30 x38_31 (getN xs 0) (getN xs 1) h) [(.sl .nl 2 [] : Val), (.int .i64 0 : Val)] h else none)
theorem e45 (call : Call) (n : Nat) (a0 : Val) (a1 : Val) (a2 : Val) (h : Heap) : runFn call n F45 [a0, a1, a2] h = s45 call n a0 a1 a2 h := by kernel_rfl
def s46 (call : Call) (n : Nat) (a0 : Val) (a1 : Val) (h : Heap) : R :=
 boxC 2 a1 h fun x3_1 h =>
 ceC .p false a0 (.nilp : Val) fun x8_2 =>
 gdC x8_2 false h (fun k => k a0 h) fun x10_3 h =>
 gdC x8_2 false h (fun k => clC call 96 [x10_3] h fun x11_4 h => k x11_4 h) fun x11_5 h =>
 gdC x8_2 false h (fun k => ceC .p false x11_5 (.nilp : Val) fun x12_6 => k x12_6 h) fun x12_7 h =>
 pickC x8_2 (.bool true : Val) x12_7 fun x13_8 =>
 cnd x13_8 (
 some ((.bool false : Val), h)) (
 ldC true 2 x3_1 h fun x15_9 =>
 clC call 83 [(.int .u32 0 : Val), (.int .i64 1 : Val), x15_9] h fun x16_10 h =>
 exC 0 x16_10 fun x17_11 =>
 exC 1 x16_10 fun x18_12 =>
 cmC .eq x18_12 (.int .i64 0 : Val) fun x20_13 =>
 gdC x20_13 true h (fun k => ldC true 2 x3_1 h fun x22_14 => k x22_14 h) fun x22_15 h =>
 gdC x20_13 true h (fun k => clC call 105 [x22_15] h fun x23_16 h => k x23_16 h) fun x23_17 h =>
 gdC x20_13 true h (fun k => clC call 104 [x23_17] h fun x24_18 h => k x24_18 h) fun x24_19 h =>
 gdC x20_13 true h (fun k => k a0 h) fun x25_20 h =>
 gdC x20_13 true h (fun k => clC call 96 [x25_20] h fun x26_21 h => k x26_21 h) fun x26_22 h =>
 gdC x20_13 true h (fun k => clC call 27 [x26_22] h fun x27_23 h => k x27_23 h) fun x27_24 h =>
 gdC x20_13 true h (fun k => biC .sub (.int .i64 16 : Val) x27_24 fun x28_25 => k x28_25 h) fun x28_26 h =>
 gdC x20_13 true h (fun k => cmC .le x24_19 x28_26 fun x29_27 => k x29_27 h) fun x29_28 h =>
 pickC x20_13 x29_28 (.bool false : Val) fun x30_29 =>
 some (x30_29, h))
theorem e46 (call : Call) (n : Nat) (a0 : Val) (a1 : Val) (h : Heap) : runFn call n F46 [a0, a1] h = s46 call n a0 a1 h := by kernel_rfl
def s47 (call : Call) (n : Nat) (a0 : Val) (h : Heap) : R :=
 ceC .p false a0 (.nilp : Val) fun x4_1 =>
 cnd x4_1 (
 some ((.int .i64 0 : Val), h)) (
 nilC a0 fun x6_2 =>
 faC 4 x6_2 fun x7_3 =>
 ldC false 1 x7_3 h fun x8_4 =>
 some (x8_4, h))
theorem e47 (call : Call) (n : Nat) (a0 : Val) (h : Heap) : runFn call n F47 [a0] h = s47 call n a0 h := by kernel_rfl
def s48 (call : Call) (n : Nat) (a0 : Val) (h : Heap) : R :=
 ceC .p false a0 (.nilp : Val) fun x4_1 =>
 cnd x4_1 (
 some ((.int .i64 0 : Val), h)) (
 nilC a0 fun x6_2 =>
 faC 5 x6_2 fun x7_3 =>
 ldC false 1 x7_3 h fun x8_4 =>
 some (x8_4, h))
theorem e48 (call : Call) (n : Nat) (a0 : Val) (h : Heap) : runFn call n F48 [a0] h = s48 call n a0 h := by kernel_rfl
def s49 (call : Call) (n : Nat) (a0 : Val) (h : Heap) : R :=
 ceC .p false a0 (.nilp : Val) fun x4_1 =>
 cnd x4_1 (
 some ((.int .i64 0 : Val), h)) (
 nilC a0 fun x6_2 =>
 faC 2 x6_2 fun x7_3 =>
 ldC false 1 x7_3 h fun x8_4 =>
 some (x8_4, h))
theorem e49 (call : Call) (n : Nat) (a0 : Val) (h : Heap) : runFn call n F49 [a0] h = s49 call n a0 h := by kernel_rfl
def s50 (call : Call) (n : Nat) (a0 : Val) (h : Heap) : R :=
 ceC .p false a0 (.nilp : Val) fun x4_1 =>
 cnd x4_1 (
 some ((.int .u32 0 : Val), h)) (
 nilC a0 fun x6_2 =>
 faC 3 x6_2 fun x7_3 =>
 ldC false 1 x7_3 h fun x8_4 =>
 some (x8_4, h))
theorem e50 (call : Call) (n : Nat) (a0 : Val) (h : Heap) : runFn call n F50 [a0] h = s50 call n a0 h := by kernel_rfl
def s51_l0 (call : Call) (n : Nat) (again0 : List Val → Heap → R) (c11 : Val) (c12 : Val) (y3 : Val) (y13 : Val) (h : Heap) : R :=
 cmC .lt y13 c12 fun x14_6 =>
 cnd x14_6 (
 ixsC 1 c11 y13 fun x15_7 =>
 ldC false 1 x15_7 h fun x16_8 =>
 clC call 34 [x16_8] h fun x19_9 h =>
 bslC 1 [x19_9] fun x20_10 =>
 appC false 1 y3 x20_10 h fun x21_11 h =>
 biC .add y13 (.int .i64 1 : Val) fun x22_12 =>
 again0 [x21_11, x22_12] h) (
 some (y3, h))
def s51 (call : Call) (n : Nat) (a0 : Val) (h : Heap) : R :=
 ceC .p false a0 (.nilp : Val) fun x7_1 =>
 cnd x7_1 (
 some ((.sl .nl 1 [] : Val), h)) (
 nilC a0 fun x9_2 =>
 faC 6 x9_2 fun x10_3 =>
 ldC false 1 x10_3 h fun x11_4 =>
 lenlC x11_4 fun x12_5 =>
 iter n (fun again0 xs h => s51_l0 call n again0 x11_4 x12_5 (getN xs 0) (getN xs 1) h) [(.sl .nl 1 [] : Val), (.int .i64 0 : Val)] h)
theorem e51 (call : Call) (n : Nat) (a0 : Val) (h : Heap) : runFn call n F51 [a0] h = s51 call n a0 h := by kernel_rfl
def s52 (call : Call) (n : Nat) (h : Heap) : R :=
 clC call 53 [] h fun x11_1 h =>
 aggC [.int .i64 0, .int .u32 0, .int .u32 0, .int .i64 0] [(0, 1, (.int .i64 3 : Val)), (1, 1, (.int .u32 1 : Val)), (2, 1, (.int .u32 1 : Val)), (3, 1, (.int .i64 9 : Val))] fun x13_2 =>
 clC call 54 [x11_1, (.int .i64 0 : Val), x13_2, (.int .i64 2 : Val)] h fun x14_3 h =>
 aggC [.int .i64 0, .int .u32 0, .int .u32 0, .int .i64 0] [(0, 1, (.int .i64 3 : Val)), (1, 1, (.int .u32 1 : Val)), (2, 1, (.int .u32 2 : Val)), (3, 1, (.int .i64 0 : Val))] fun x16_4 =>
 clC call 54 [x11_1, (.int .i64 2 : Val), x16_4, (.int .i64 5 : Val)] h fun x17_5 h =>
 aggC [.int .i64 0, .int .u32 0, .int .u32 0, .int .i64 0] [(0, 1, (.int .i64 3 : Val)), (1, 1, (.int .u32 1 : Val)), (2, 1, (.int .u32 3 : Val)), (3, 1, (.int .i64 5 : Val))] fun x19_6 =>
 clC call 54 [x11_1, (.int .i64 3 : Val), x19_6, (.int .i64 3 : Val)] h fun x20_7 h =>
 clC call 55 [x11_1, (.int .i64 6 : Val)] h fun x23_8 h =>
 exC 0 x23_8 fun x24_9 =>
 exC 1 x23_8 fun x25_10 =>
 clC call 58 [x24_9, (.int .i64 3 : Val), (.int .u32 1 : Val), (.int .i64 2 : Val)] h fun x27_11 h =>
 clC call 61 [x11_1, x24_9, x27_11] h fun x31_12 h =>
 clC call 55 [x11_1, (.int .i64 6 : Val)] h fun x34_13 h =>
 exC 0 x34_13 fun x35_14 =>
 exC 1 x34_13 fun x36_15 =>
 gdC x14_3 true h (fun k => k x17_5 h) fun x39_16 h =>
 pickC x14_3 x39_16 (.bool false : Val) fun x40_17 =>
 gdC x40_17 true h (fun k => k x20_7 h) fun x42_18 h =>
 pickC x40_17 x42_18 (.bool false : Val) fun x43_19 =>
 gdC x43_19 true h (fun k => k x25_10 h) fun x45_20 h =>
 gdC x43_19 true h (fun k => cmC .eq x45_20 (.int .i64 0 : Val) fun x46_21 => k x46_21 h) fun x46_22 h =>
 pickC x43_19 x46_22 (.bool false : Val) fun x47_23 =>
 gdC x47_23 true h (fun k => k x31_12 h) fun x49_24 h =>
 gdC x47_23 true h (fun k => cmC .eq x49_24 (.int .i64 0 : Val) fun x50_25 => k x50_25 h) fun x50_26 h =>
 pickC x47_23 x50_26 (.bool false : Val) fun x51_27 =>
 gdC x51_27 true h (fun k => k x36_15 h) fun x53_28 h =>
 gdC x51_27 true h (fun k => cmC .eq x53_28 (.int .i64 0 : Val) fun x54_29 => k x54_29 h) fun x54_30 h =>
 pickC x51_27 x54_30 (.bool false : Val) fun x55_31 =>
 gdC x55_31 true h (fun k => k x24_9 h) fun x57_32 h =>
 gdC x55_31 true h (fun k => clC call 57 [x57_32] h fun x58_33 h => k x58_33 h) fun x58_34 h =>
 gdC x55_31 true h (fun k => bslC 1 [(.int .i64 0 : Val), (.int .i64 2 : Val), (.int .i64 3 : Val)] fun x59_35 => k x59_35 h) fun x59_36 h =>
 gdC x55_31 true h (fun k => clC call 56 [x58_34, x59_36] h fun x60_37 h => k x60_37 h) fun x60_38 h =>
 pickC x55_31 x60_38 (.bool false : Val) fun x61_39 =>
 gdC x61_39 true h (fun k => k x27_11 h) fun x63_40 h =>
 gdC x61_39 true h (fun k => clC call 57 [x63_40] h fun x64_41 h => k x64_41 h) fun x64_42 h =>
 gdC x61_39 true h (fun k => bslC 1 [(.int .i64 2 : Val), (.int .i64 3 : Val)] fun x65_43 => k x65_43 h) fun x65_44 h =>
 gdC x61_39 true h (fun k => clC call 56 [x64_42, x65_44] h fun x66_45 h => k x66_45 h) fun x66_46 h =>
 pickC x61_39 x66_46 (.bool false : Val) fun x67_47 =>
 gdC x67_47 true h (fun k => k x35_14 h) fun x69_48 h =>
 gdC x67_47 true h (fun k => clC call 57 [x69_48] h fun x70_49 h => k x70_49 h) fun x70_50 h =>
 gdC x67_47 true h (fun k => bslC 1 [(.int .i64 2 : Val), (.int .i64 3 : Val)] fun x71_51 => k x71_51 h) fun x71_52 h =>
 gdC x67_47 true h (fun k => clC call 56 [x70_50, x71_52] h fun x72_53 h => k x72_53 h) fun x72_54 h =>
 pickC x67_47 x72_54 (.bool false : Val) fun x73_55 =>
 some (x73_55, h)
theorem e52 (call : Call) (n : Nat) (h : Heap) : runFn call n F52 [] h = s52 call n h := by kernel_rfl
def s53 (call : Call) (n : Nat) (h : Heap) : R :=
 clC call 70 [(.int .i64 98 : Val)] h fun x6_1 h =>
 exC 0 x6_1 fun x7_2 =>
 exC 1 x6_1 fun x8_3 =>
 clC call 71 [x7_2, (.int .i64 0 : Val), (.int .i64 98 : Val)] h fun x11_4 h =>
 exC 0 x11_4 fun x12_5 =>
 exC 1 x11_4 fun x13_6 =>
 some (x12_5, h)
theorem e53 (call : Call) (n : Nat) (h : Heap) : runFn call n F53 [] h = s53 call n h := by kernel_rfl
def s54_l0 (call : Call) (n : Nat) (again0 : List Val → Heap → R) (c9 : Val) (c10 : Val) (c21 : Val) (y22 : Val) (h : Heap) : R :=
 cmC .lt y22 c21 fun x23_6 =>
 cnd x23_6 (
 biC .add (.int .i64 1 : Val) y22 fun x28_7 =>
 aggC [.int .i64 0, .str []] [(0, 1, x28_7)] fun x29_8 =>
 clC call 23 [c9, x29_8] h fun x30_9 h =>
 exC 0 x30_9 fun x31_10 =>
 exC 1 x30_9 fun x32_11 =>
 cmC .ne x32_11 (.int .i64 0 : Val) fun x34_12 =>
 cnd x34_12 (
 some ((.bool false : Val), h)) (
 biC .add y22 (.int .i64 1 : Val) fun x35_13 =>
 again0 [x35_13] h)) (
 cmC .eq c10 (.int .i64 0 : Val) fun x37_14 =>
 some (x37_14, h))
def s54 (call : Call) (n : Nat) (a0 : Val) (a1 : Val) (a2 : Val) (a3 : Val) (h : Heap) : R :=
 boxC 4 a2 h fun x6_1 h =>
 ldC true 4 x6_1 h fun x17_2 =>
 clC call 30 [a0, a1, x17_2] h fun x18_3 h =>
 exC 0 x18_3 fun x19_4 =>
 exC 1 x18_3 fun x20_5 =>
 iter n (fun again0 xs h => s54_l0 call n again0 x19_4 x20_5 a3 (getN xs 0) h) [(.int .i64 0 : Val)] h
theorem e54 (call : Call) (n : Nat) (a0 : Val) (a1 : Val) (a2 : Val) (a3 : Val) (h : Heap) : runFn call n F54 [a0, a1, a2, a3] h = s54 call n a0 a1 a2 a3 h := by kernel_rfl
def s55_j0 (call : Call) (n : Nat) (again0 : List Val → Heap → R) (w0 : Val) (w6 : Val) (w13 : Val) (w14 : Val) (h : Heap) : R :=
 biC .add w14 (.int .i64 1 : Val) fun x33_10 =>
 again0 [w6, x33_10] h
def s55_l0 (call : Call) (n : Nat) (again0 : List Val → Heap → R) (c0 : Val) (c13 : Val) (y6 : Val) (y14 : Val) (h : Heap) : R :=
 cmC .lt y14 c13 fun x15_3 =>
 cnd x15_3 (
 clC call 21 [c0, y14] h fun x20_4 h =>
 exC 0 x20_4 fun x21_5 =>
 exC 1 x20_4 fun x22_6 =>
 cmC .eq x22_6 (.int .i64 0 : Val) fun x26_7 =>
 cnd x26_7 (
 bslC 1 [x21_5] fun x29_8 =>
 appC false 1 y6 x29_8 h fun x30_9 h =>
 s55_j0 call n again0 c0 x30_9 c13 y14 h) (
 cmC .eq x22_6 (.int .i64 4 : Val) fun x32_11 =>
 cnd x32_11 (
 s55_j0 call n again0 c0 y6 c13 y14 h) (
 some (.tup [(.sl .nl 1 [] : Val), x22_6], h)))) (
 some (.tup [y6, (.int .i64 0 : Val)], h))
def s55 (call : Call) (n : Nat) (a0 : Val) (a1 : Val) (h : Heap) : R :=
 ceC .p false a0 (.nilp : Val) fun x11_1 =>
 cnd x11_1 (
 some (.tup [(.sl .nl 1 [] : Val), (.int .i64 7 : Val)], h)) (
 mxC a1 (.int .i64 0 : Val) fun x13_2 =>
 iter n (fun again0 xs h => s55_l0 call n again0 a0 x13_2 (getN xs 0) (getN xs 1) h) [(.sl .nl 1 [] : Val), (.int .i64 0 : Val)] h)
theorem e55 (call : Call) (n : Nat) (a0 : Val) (a1 : Val) (h : Heap) : runFn call n F55 [a0, a1] h = s55 call n a0 a1 h := by kernel_rfl
def s56_l0 (call : Call) (n : Nat) (again0 : List Val → Heap → R) (c0 : Val) (c1 : Val) (c12 : Val) (y13 : Val) (h : Heap) : R :=
 cmC .lt y13 c12 fun x14_5 =>
 cnd x14_5 (
 ixsC 1 c0 y13 fun x18_6 =>
 ldC false 1 x18_6 h fun x19_7 =>
 ixsC 1 c1 y13 fun x22_8 =>
 ldC false 1 x22_8 h fun x23_9 =>
 cmC .ne x19_7 x23_9 fun x24_10 =>
 cnd x24_10 (
 some ((.bool false : Val), h)) (
 biC .add y13 (.int .i64 1 : Val) fun x25_11 =>
 again0 [x25_11] h)) (
 some ((.bool true : Val), h))
def s56 (call : Call) (n : Nat) (a0 : Val) (a1 : Val) (h : Heap) : R :=
 lenlC a0 fun x7_1 =>
 lenlC a1 fun x9_2 =>
 cmC .ne x7_1 x9_2 fun x10_3 =>
 cnd x10_3 (
 some ((.bool false : Val), h)) (
 lenlC a0 fun x12_4 =>
 iter n (fun again0 xs h => s56_l0 call n again0 a0 a1 x12_4 (getN xs 0) h) [(.int .i64 0 : Val)] h)
theorem e56 (call : Call) (n : Nat) (a0 : Val) (a1 : Val) (h : Heap) : runFn call n F56 [a0, a1] h = s56 call n a0 a1 h := by kernel_rfl
def s57_l0 (call : Call) (n : Nat) (again0 : List Val → Heap → R) (c6 : Val) (c7 : Val) (y3 : Val) (y8 : Val) (h : Heap) : R :=
 cmC .lt y8 c7 fun x9_2 =>
 cnd x9_2 (
 ixsC 1 c6 y8 fun x10_3 =>
 ldC false 1 x10_3 h fun x11_4 =>
 clC call 34 [x11_4] h fun x14_5 h =>
 bslC 1 [x14_5] fun x15_6 =>
 appC false 1 y3 x15_6 h fun x16_7 h =>
 biC .add y8 (.int .i64 1 : Val) fun x17_8 =>
 again0 [x16_7, x17_8] h) (
 some (y3, h))
def s57 (call : Call) (n : Nat) (a0 : Val) (h : Heap) : R :=
 lenlC a0 fun x7_1 =>
 iter n (fun again0 xs h => s57_l0 call n again0 a0 x7_1 (getN xs 0) (getN xs 1) h) [(.sl .nl 1 [] : Val), (.int .i64 0 : Val)] h
theorem e57 (call : Call) (n : Nat) (a0 : Val) (h : Heap) : runFn call n F57 [a0] h = s57 call n a0 h := by kernel_rfl
def s58_l0 (call : Call) (n : Nat) (again0 : List Val → Heap → R) (c0 : Val) (c9 : Val) (y10 : Val) (y11 : Val) (h : Heap) : R :=
 ceC .p true y11 (.nilp : Val) fun x18_7 =>
 cnd x18_7 (
 bslC 1 [y11] fun x21_8 =>
 appC false 1 y10 x21_8 h fun x22_9 h =>
 clC call 107 [y11] h fun x24_10 h =>
 allocC [.int .i64 0] h fun x12_11 h =>
 stC 1 x12_11 x24_10 h fun h =>
 clC call 108 [c0, (.func 110 [c9, x12_11] : Val)] h fun x27_13 h =>
 again0 [x22_9, x27_13] h) (
 some (y10, h))
def s58 (call : Call) (n : Nat) (a0 : Val) (a1 : Val) (a2 : Val) (a3 : Val) (h : Heap) : R :=
 boxC 1 a1 h fun x5_1 h =>
 boxC 1 a2 h fun x6_2 h =>
 boxC 1 a3 h fun x7_3 h =>
 allocC [.nilf] h fun x9_4 h =>
 stC 1 x9_4 (.func 106 [x5_1, x6_2, x7_3] : Val) h fun h =>
 clC call 108 [a0, (.func 109 [x9_4, x7_3] : Val)] h fun x16_6 h =>
 iter n (fun again0 xs h => s58_l0 call n again0 a0 x9_4 (getN xs 0) (getN xs 1) h) [(.sl .nl 1 [] : Val), x16_6] h
theorem e58 (call : Call) (n : Nat) (a0 : Val) (a1 : Val) (a2 : Val) (a3 : Val) (h : Heap) : runFn call n F58 [a0, a1, a2, a3] h = s58 call n a0 a1 a2 a3 h := by kernel_rfl
def s61_j0 (call : Call) (n : Nat) (again0 : List Val → Heap → R) (w0 : Val) (w7 : Val) (w16 : Val) (w17 : Val) (w18 : Val) (h : Heap) : R :=
 biC .add w18 (.int .i64 1 : Val) fun x31_9 =>
 again0 [x31_9] h
def s61_l0 (call : Call) (n : Nat) (again0 : List Val → Heap → R) (c0 : Val) (c7 : Val) (c16 : Val) (c17 : Val) (y18 : Val) (h : Heap) : R :=
 cmC .lt y18 c17 fun x19_5 =>
 cnd x19_5 (
 ixsC 1 c16 y18 fun x20_6 =>
 ldC false 1 x20_6 h fun x21_7 =>
 clC call 113 [c7, x21_7] h fun x24_8 h =>
 cnd x24_8 (
 s61_j0 call n again0 c0 c7 c16 c17 y18 h) (
 clC call 31 [c0, x21_7] h fun x27_10 h =>
 cmC .ne x27_10 (.int .i64 0 : Val) fun x29_11 =>
 cnd x29_11 (
 some (x27_10, h)) (
 s61_j0 call n again0 c0 c7 c16 c17 y18 h))) (
 clC call 35 [c0] h fun x33_12 h =>
 some (x33_12, h))
def s61 (call : Call) (n : Nat) (a0 : Val) (a1 : Val) (a2 : Val) (h : Heap) : R :=
 ceC .p false a0 (.nilp : Val) fun x12_1 =>
 cnd x12_1 (
 some ((.int .i64 7 : Val), h)) (
 clC call 112 [a2] h fun x14_2 h =>
 clC call 112 [a1] h fun x16_3 h =>
 lenlC x16_3 fun x17_4 =>
 iter n (fun again0 xs h => s61_l0 call n again0 a0 x14_2 x16_3 x17_4 (getN xs 0) h) [(.int .i64 0 : Val)] h)
theorem e61 (call : Call) (n : Nat) (a0 : Val) (a1 : Val) (a2 : Val) (h : Heap) : runFn call n F61 [a0, a1, a2] h = s61 call n a0 a1 a2 h := by kernel_rfl
def s62 (call : Call) (n : Nat) (a0 : Val) (a1 : Val) (h : Heap) : R :=
 ceC .p false a0 (.nilp : Val) fun x8_1 =>
 cnd x8_1 (
 some (.tup [(.str [] : Val), (.int .i64 7 : Val)], h)) (
 clC call 72 [a0, a1] h fun x12_2 h =>
 notC x12_2 fun x13_3 =>
 cnd x13_3 (
 some (.tup [(.str [] : Val), (.int .i64 20 : Val)], h)) (
 nilC a0 fun x16_4 =>
 faC 5 x16_4 fun x17_5 =>
 ldC false 1 x17_5 h fun x18_6 =>
 cnd x18_6 (
 some (.tup [(.str [] : Val), (.int .i64 21 : Val)], h)) (
 nilC a0 fun x20_7 =>
 faC 0 x20_7 fun x21_8 =>
 ldC false 1 x21_8 h fun x22_9 =>
 nilC a0 fun x24_10 =>
 faC 1 x24_10 fun x25_11 =>
 ldC false 1 x25_11 h fun x26_12 =>
 biC .add x26_12 a1 fun x28_13 =>
 clC call 114 [x22_9, x28_13] h fun x29_14 h =>
 exC 0 x29_14 fun x30_15 =>
 exC 1 x29_14 fun x31_16 =>
 some (.tup [x30_15, x31_16], h))))
theorem e62 (call : Call) (n : Nat) (a0 : Val) (a1 : Val) (h : Heap) : runFn call n F62 [a0, a1] h = s62 call n a0 a1 h := by kernel_rfl
def s70 (call : Call) (n : Nat) (a0 : Val) (h : Heap) : R :=
 cmC .lt a0 (.int .i64 1 : Val) fun x5_1 =>
 gdC x5_1 false h (fun k => k a0 h) fun x7_2 h =>
 gdC x5_1 false h (fun k => cmC .gt x7_2 (.int .i64 8192 : Val) fun x8_3 => k x8_3 h) fun x8_4 h =>
 pickC x5_1 (.bool true : Val) x8_4 fun x9_5 =>
 cnd x9_5 (
 some (.tup [(.nilp : Val), (.int .i64 1 : Val)], h)) (
 msmC 64 (.agg [.int .u8 0, .int .u8 0, .int .u8 0, .int .u8 0, .int .u8 0, .int .u8 0, .int .u8 0, .int .u8 0, .int .u8 0, .int .u8 0, .int .u8 0, .int .u8 0, .int .u8 0, .int .u8 0, .int .u8 0, .int .u8 0, .int .u8 0, .int .u8 0, .int .u8 0, .int .u8 0, .int .u8 0, .int .u8 0, .int .u8 0, .int .u8 0, .int .u8 0, .int .u8 0, .int .u8 0, .int .u8 0, .int .u8 0, .int .u8 0, .int .u8 0, .int .u8 0, .int .u8 0, .int .u8 0, .int .u8 0, .int .u8 0, .int .u8 0, .int .u8 0, .int .u8 0, .int .u8 0, .int .u8 0, .int .u8 0, .int .u8 0, .int .u8 0, .int .u8 0, .int .u8 0, .int .u8 0, .int .u8 0, .int .u8 0, .int .u8 0, .int .u8 0, .int .u8 0, .int .u8 0, .int .u8 0, .int .u8 0, .int .u8 0, .int .u8 0, .int .u8 0, .int .u8 0, .int .u8 0, .int .u8 0, .int .u8 0, .int .u8 0, .int .u8 0]) a0 a0 h fun x11_6 h =>
 aggC [.sl .nl 64 [], .sl .nl 65 []] [(0, 1, x11_6)] fun x12_7 =>
 boxC 2 x12_7 h fun x13_8 h =>
 some (.tup [x13_8, (.int .i64 0 : Val)], h))
theorem e70 (call : Call) (n : Nat) (a0 : Val) (h : Heap) : runFn call n F70 [a0] h = s70 call n a0 h := by kernel_rfl
def s71 (call : Call) (n : Nat) (a0 : Val) (a1 : Val) (a2 : Val) (h : Heap) : R :=
 ceC .p false a0 (.nilp : Val) fun x10_1 =>
 cnd x10_1 (
 some (.tup [(.nilp : Val), (.int .i64 7 : Val)], h)) (
 cmC .lt a1 (.int .i64 0 : Val) fun x13_2 =>
 gdC x13_2 false h (fun k => k a2 h) fun x15_3 h =>
 gdC x13_2 false h (fun k => cmC .lt x15_3 (.int .i64 1 : Val) fun x16_4 => k x16_4 h) fun x16_5 h =>
 pickC x13_2 (.bool true : Val) x16_5 fun x17_6 =>
 gdC x17_6 false h (fun k => k a1 h) fun x19_7 h =>
 gdC x17_6 false h (fun k => k a0 h) fun x20_8 h =>
 gdC x17_6 false h (fun k => clC call 120 [x20_8] h fun x21_9 h => k x21_9 h) fun x21_10 h =>
 gdC x17_6 false h (fun k => cmC .gt x19_7 x21_10 fun x22_11 => k x22_11 h) fun x22_12 h =>
 pickC x17_6 (.bool true : Val) x22_12 fun x23_13 =>
 gdC x23_13 false h (fun k => k a2 h) fun x25_14 h =>
 gdC x23_13 false h (fun k => k a0 h) fun x26_15 h =>
 gdC x23_13 false h (fun k => clC call 120 [x26_15] h fun x27_16 h => k x27_16 h) fun x27_17 h =>
 gdC x23_13 false h (fun k => k a1 h) fun x28_18 h =>
 gdC x23_13 false h (fun k => biC .sub x27_17 x28_18 fun x29_19 => k x29_19 h) fun x29_20 h =>
 gdC x23_13 false h (fun k => cmC .gt x25_14 x29_20 fun x30_21 => k x30_21 h) fun x30_22 h =>
 pickC x23_13 (.bool true : Val) x30_22 fun x31_23 =>
 cnd x31_23 (
 some (.tup [(.nilp : Val), (.int .i64 20 : Val)], h)) (
 aggC [.nilp, .int .i64 0, .int .i64 0, .int .i64 0, .int .i64 0, .bool false] [(0, 1, a0), (1, 1, a1), (2, 1, a2), (3, 1, (.int .i64 (-1) : Val))] fun x35_24 =>
 boxC 6 x35_24 h fun x36_25 h =>
 some (.tup [x36_25, (.int .i64 0 : Val)], h)))
theorem e71 (call : Call) (n : Nat) (a0 : Val) (a1 : Val) (a2 : Val) (h : Heap) : runFn call n F71 [a0, a1, a2] h = s71 call n a0 a1 a2 h := by kernel_rfl
def s72 (call : Call) (n : Nat) (a0 : Val) (a1 : Val) (h : Heap) : R :=
 cmC .ge a1 (.int .i64 0 : Val) fun x6_1 =>
 gdC x6_1 true h (fun k => k a1 h) fun x8_2 h =>
 gdC x6_1 true h (fun k => k a0 h) fun x9_3 h =>
 gdC x6_1 true h (fun k => nilC x9_3 fun x10_4 => k x10_4 h) fun x10_5 h =>
 gdC x6_1 true h (fun k => faC 2 x10_5 fun x11_6 => k x11_6 h) fun x11_7 h =>
 gdC x6_1 true h (fun k => ldC false 1 x11_7 h fun x12_8 => k x12_8 h) fun x12_9 h =>
 gdC x6_1 true h (fun k => cmC .lt x8_2 x12_9 fun x13_10 => k x13_10 h) fun x13_11 h =>
 pickC x6_1 x13_11 (.bool false : Val) fun x14_12 =>
 some (x14_12, h)
theorem e72 (call : Call) (n : Nat) (a0 : Val) (a1 : Val) (h : Heap) : runFn call n F72 [a0, a1] h = s72 call n a0 a1 h := by kernel_rfl
def s73_j1 (call : Call) (n : Nat) (w0 : Val) (w1 : Val) (h : Heap) : R :=
 nilC w0 fun x30_22 =>
 faC 4 x30_22 fun x31_23 =>
 ldC false 1 x31_23 h fun x32_24 =>
 biC .add x32_24 (.int .i64 1 : Val) fun x33_25 =>
 nilC w0 fun x34_26 =>
 faC 4 x34_26 fun x35_27 =>
 stC 1 x35_27 x33_25 h fun h =>
 cvC call w1 [] h fun x37_29 h =>
 some (x37_29, h)
def s73_j0 (call : Call) (n : Nat) (w0 : Val) (w1 : Val) (h : Heap) : R :=
 nilC w0 fun x14_8 =>
 faC 5 x14_8 fun x15_9 =>
 ldC false 1 x15_9 h fun x16_10 =>
 cnd x16_10 (
 some ((.int .i64 21 : Val), h)) (
 nilC w0 fun x18_11 =>
 faC 3 x18_11 fun x19_12 =>
 ldC false 1 x19_12 h fun x20_13 =>
 cmC .gt x20_13 (.int .i64 0 : Val) fun x21_14 =>
 cnd x21_14 (
 nilC w0 fun x23_15 =>
 faC 3 x23_15 fun x24_16 =>
 ldC false 1 x24_16 h fun x25_17 =>
 biC .sub x25_17 (.int .i64 1 : Val) fun x26_18 =>
 nilC w0 fun x27_19 =>
 faC 3 x27_19 fun x28_20 =>
 stC 1 x28_20 x26_18 h fun h =>
 s73_j1 call n w0 w1 h) (
 s73_j1 call n w0 w1 h))
def s73 (call : Call) (n : Nat) (a0 : Val) (a1 : Val) (h : Heap) : R :=
 nilC a0 fun x6_1 =>
 faC 3 x6_1 fun x7_2 =>
 ldC false 1 x7_2 h fun x8_3 =>
 cmC .eq x8_3 (.int .i64 0 : Val) fun x9_4 =>
 cnd x9_4 (
 nilC a0 fun x11_5 =>
 faC 5 x11_5 fun x12_6 =>
 stC 1 x12_6 (.bool true : Val) h fun h =>
 s73_j0 call n a0 a1 h) (
 s73_j0 call n a0 a1 h)
theorem e73 (call : Call) (n : Nat) (a0 : Val) (a1 : Val) (h : Heap) : runFn call n F73 [a0, a1] h = s73 call n a0 a1 h := by kernel_rfl
def s74 (call : Call) (n : Nat) (a0 : Val) (a1 : Val) (a2 : Val) (h : Heap) : R :=
 ldC false 1 a0 h fun x4_1 =>
 nilC x4_1 fun x5_2 =>
 faC 0 x5_2 fun x6_3 =>
 ldC false 1 x6_3 h fun x7_4 =>
 ldC false 1 a0 h fun x8_5 =>
 nilC x8_5 fun x9_6 =>
 faC 1 x9_6 fun x10_7 =>
 ldC false 1 x10_7 h fun x11_8 =>
 ldC false 1 a1 h fun x12_9 =>
 biC .add x11_8 x12_9 fun x13_10 =>
 ldC false 1 a2 h fun x14_11 =>
 clC call 75 [x7_4, x13_10, x14_11] h fun x15_12 h =>
 some (x15_12, h)
theorem e74 (call : Call) (n : Nat) (a0 : Val) (a1 : Val) (a2 : Val) (h : Heap) : runFn call n F74 [a0, a1, a2] h = s74 call n a0 a1 a2 h := by kernel_rfl
def s75 (call : Call) (n : Nat) (a0 : Val) (a1 : Val) (a2 : Val) (h : Heap) : R :=
 ceC .p false a0 (.nilp : Val) fun x10_1 =>
 cnd x10_1 (
 some ((.int .i64 7 : Val), h)) (
 clC call 121 [a0, a1] h fun x14_2 h =>
 notC x14_2 fun x15_3 =>
 cnd x15_3 (
 some ((.int .i64 20 : Val), h)) (
 lensC a2 fun x18_4 =>
 cmC .ne x18_4 (.int .i64 64 : Val) fun x19_5 =>
 cnd x19_5 (
 some ((.int .i64 1 : Val), h)) (
 aggC [.int .i64 0, .int .u8 0, .int .u8 0, .int .u8 0, .int .u8 0, .int .u8 0, .int .u8 0, .int .u8 0, .int .u8 0, .int .u8 0, .int .u8 0, .int .u8 0, .int .u8 0, .int .u8 0, .int .u8 0, .int .u8 0, .int .u8 0, .int .u8 0, .int .u8 0, .int .u8 0, .int .u8 0, .int .u8 0, .int .u8 0, .int .u8 0, .int .u8 0, .int .u8 0, .int .u8 0, .int .u8 0, .int .u8 0, .int .u8 0, .int .u8 0, .int .u8 0, .int .u8 0, .int .u8 0, .int .u8 0, .int .u8 0, .int .u8 0, .int .u8 0, .int .u8 0, .int .u8 0, .int .u8 0, .int .u8 0, .int .u8 0, .int .u8 0, .int .u8 0, .int .u8 0, .int .u8 0, .int .u8 0, .int .u8 0, .int .u8 0, .int .u8 0, .int .u8 0, .int .u8 0, .int .u8 0, .int .u8 0, .int .u8 0, .int .u8 0, .int .u8 0, .int .u8 0, .int .u8 0, .int .u8 0, .int .u8 0, .int .u8 0, .int .u8 0, .int .u8 0] [(0, 1, a1)] fun x21_6 =>
 allocC [.int .i64 0, .int .u8 0, .int .u8 0, .int .u8 0, .int .u8 0, .int .u8 0, .int .u8 0, .int .u8 0, .int .u8 0, .int .u8 0, .int .u8 0, .int .u8 0, .int .u8 0, .int .u8 0, .int .u8 0, .int .u8 0, .int .u8 0, .int .u8 0, .int .u8 0, .int .u8 0, .int .u8 0, .int .u8 0, .int .u8 0, .int .u8 0, .int .u8 0, .int .u8 0, .int .u8 0, .int .u8 0, .int .u8 0, .int .u8 0, .int .u8 0, .int .u8 0, .int .u8 0, .int .u8 0, .int .u8 0, .int .u8 0, .int .u8 0, .int .u8 0, .int .u8 0, .int .u8 0, .int .u8 0, .int .u8 0, .int .u8 0, .int .u8 0, .int .u8 0, .int .u8 0, .int .u8 0, .int .u8 0, .int .u8 0, .int .u8 0, .int .u8 0, .int .u8 0, .int .u8 0, .int .u8 0, .int .u8 0, .int .u8 0, .int .u8 0, .int .u8 0, .int .u8 0, .int .u8 0, .int .u8 0, .int .u8 0, .int .u8 0, .int .u8 0, .int .u8 0] h fun x7_7 h =>
 stC 65 x7_7 x21_6 h fun h =>
 faC 1 x7_7 fun x22_9 =>
 slaC 64 1 x22_9 none none fun x23_10 =>
 cpyC 1 x23_10 a2 h fun x25_11 h =>
 nilC a0 fun x28_12 =>
 faC 1 x28_12 fun x29_13 =>
 ldC false 1 x29_13 h fun x30_14 =>
 ldC true 65 x7_7 h fun x31_15 =>
 bslC 65 [x31_15] fun x32_16 =>
 appC true 65 x30_14 x32_16 h fun x33_17 h =>
 nilC a0 fun x34_18 =>
 faC 1 x34_18 fun x35_19 =>
 stC 1 x35_19 x33_17 h fun h =>
 some ((.int .i64 0 : Val), h))))
theorem e75 (call : Call) (n : Nat) (a0 : Val) (a1 : Val) (a2 : Val) (h : Heap) : runFn call n F75 [a0, a1, a2] h = s75 call n a0 a1 a2 h := by kernel_rfl
def s76 (call : Call) (n : Nat) (a0 : Val) (a1 : Val) (h : Heap) : R :=
 ceC .p false a0 (.nilp : Val) fun x8_1 =>
 cnd x8_1 (
 some (.tup [(.int .i64 0 : Val), (.int .i64 7 : Val)], h)) (
 cmC .lt a1 (.int .i64 0 : Val) fun x11_2 =>
 gdC x11_2 false h (fun k => k a1 h) fun x13_3 h =>
 gdC x11_2 false h (fun k => k a0 h) fun x14_4 h =>
 gdC x11_2 false h (fun k => clC call 122 [x14_4] h fun x15_5 h => k x15_5 h) fun x15_6 h =>
 gdC x11_2 false h (fun k => biC .sub x15_6 (.int .i64 2 : Val) fun x16_7 => k x16_7 h) fun x16_8 h =>
 gdC x11_2 false h (fun k => biC .quo x16_8 (.int .i64 16 : Val) fun x17_9 => k x17_9 h) fun x17_10 h =>
 gdC x11_2 false h (fun k => cmC .ge x13_3 x17_10 fun x18_11 => k x18_11 h) fun x18_12 h =>
 pickC x11_2 (.bool true : Val) x18_12 fun x19_13 =>
 cnd x19_13 (
 some (.tup [(.int .i64 0 : Val), (.int .i64 20 : Val)], h)) (
 biC .mul (.int .i64 16 : Val) a1 fun x21_14 =>
 biC .add (.int .i64 2 : Val) x21_14 fun x22_15 =>
 some (.tup [x22_15, (.int .i64 0 : Val)], h)))
theorem e76 (call : Call) (n : Nat) (a0 : Val) (a1 : Val) (h : Heap) : runFn call n F76 [a0, a1] h = s76 call n a0 a1 h := by kernel_rfl
def s77_j0 (call : Call) (n : Nat) (again0 : List Val → Heap → R) (w0 : Val) (w1 : Val) (w12 : Val) (h : Heap) : R :=
 biC .add w12 (.int .i64 1 : Val) fun x59_31 =>
 again0 [x59_31] h
def s77_l0 (call : Call) (n : Nat) (again0 : List Val → Heap → R) (c0 : Val) (c1 : Val) (y12 : Val) (h : Heap) : R :=
 cmC .lt y12 (.int .i64 16 : Val) fun x13_1 =>
 cnd x13_1 (
 nilC c0 fun x17_2 =>
 faC 0 x17_2 fun x18_3 =>
 ldC false 1 x18_3 h fun x19_4 =>
 nilC x19_4 fun x20_5 =>
 faC 0 x20_5 fun x21_6 =>
 ldC false 1 x21_6 h fun x22_7 =>
 biC .add c1 y12 fun x25_8 =>
 clC call 62 [x22_7, x25_8] h fun x26_9 h =>
 exC 0 x26_9 fun x27_10 =>
 exC 1 x26_9 fun x28_11 =>
 cmC .ne x28_11 (.int .i64 0 : Val) fun x30_12 =>
 cnd x30_12 (
 some (x28_11, h)) (
 clC call 123 [x27_10] h fun x34_13 h =>
 exC 0 x34_13 fun x35_14 =>
 exC 1 x34_13 fun x36_15 =>
 exC 2 x34_13 fun x37_16 =>
 exC 3 x34_13 fun x38_17 =>
 cmC .eq x38_17 (.int .i64 0 : Val) fun x40_18 =>
 cnd x40_18 (
 nilC c0 fun x44_19 =>
 faC 1 x44_19 fun x45_20 =>
 ixpC 16 1 x45_20 y12 fun x46_21 =>
 stC 1 x46_21 x37_16 h fun h =>
 nilC c0 fun x50_23 =>
 faC 17 x50_23 fun x51_24 =>
 ixpC 16 1 x51_24 y12 fun x52_25 =>
 stC 1 x52_25 x35_14 h fun h =>
 nilC c0 fun x56_27 =>
 faC 33 x56_27 fun x57_28 =>
 ixpC 16 1 x57_28 y12 fun x58_29 =>
 stC 1 x58_29 x36_15 h fun h =>
 s77_j0 call n again0 c0 c1 y12 h) (
 s77_j0 call n again0 c0 c1 y12 h))) (
 some ((.int .i64 0 : Val), h))
def s77 (call : Call) (n : Nat) (a0 : Val) (a1 : Val) (h : Heap) : R :=
 iter n (fun again0 xs h => s77_l0 call n again0 a0 a1 (getN xs 0) h) [(.int .i64 0 : Val)] h
theorem e77 (call : Call) (n : Nat) (a0 : Val) (a1 : Val) (h : Heap) : runFn call n F77 [a0, a1] h = s77 call n a0 a1 h := by kernel_rfl
def s78 (call : Call) (n : Nat) (a0 : Val) (h : Heap) : R :=
 nilC a0 fun x7_1 =>
 faC 1 x7_1 fun x8_2 =>
 ixpC 16 1 x8_2 (.int .i64 0 : Val) fun x9_3 =>
 ldC false 1 x9_3 h fun x10_4 =>
 clC call 124 [x10_4] h fun x11_5 h =>
 exC 0 x11_5 fun x12_6 =>
 exC 1 x11_5 fun x13_7 =>
 allocC [.int .i64 0, .int .u32 0, .int .u32 0, .int .i64 0] h fun x3_8 h =>
 stC 4 x3_8 x12_6 h fun h =>
 nilC a0 fun x15_10 =>
 faC 33 x15_10 fun x16_11 =>
 ixpC 16 1 x16_11 (.int .i64 0 : Val) fun x17_12 =>
 ldC false 1 x17_12 h fun x18_13 =>
 cmC .ne x18_13 (.int .i64 1 : Val) fun x19_14 =>
 gdC x19_14 false h (fun k => k x13_7 h) fun x21_15 h =>
 gdC x19_14 false h (fun k => cmC .ne x21_15 (.int .i64 0 : Val) fun x22_16 => k x22_16 h) fun x22_17 h =>
 pickC x19_14 (.bool true : Val) x22_17 fun x23_18 =>
 gdC x23_18 false h (fun k => faC 2 x3_8 fun x25_19 => k x25_19 h) fun x25_20 h =>
 gdC x23_18 false h (fun k => ldC false 1 x25_20 h fun x26_21 => k x26_21 h) fun x26_22 h =>
 gdC x23_18 false h (fun k => k a0 h) fun x27_23 h =>
 gdC x23_18 false h (fun k => nilC x27_23 fun x28_24 => k x28_24 h) fun x28_25 h =>
 gdC x23_18 false h (fun k => faC 17 x28_25 fun x29_26 => k x29_26 h) fun x29_27 h =>
 gdC x23_18 false h (fun k => ixpC 16 1 x29_27 (.int .i64 0 : Val) fun x30_28 => k x30_28 h) fun x30_29 h =>
 gdC x23_18 false h (fun k => ldC false 1 x30_29 h fun x31_30 => k x31_30 h) fun x31_31 h =>
 gdC x23_18 false h (fun k => cmC .ne x26_22 x31_31 fun x32_32 => k x32_32 h) fun x32_33 h =>
 pickC x23_18 (.bool true : Val) x32_33 fun x33_34 =>
 cnd x33_34 (
 some ((.bool false : Val), h)) (
 nilC a0 fun x35_35 =>
 faC 0 x35_35 fun x36_36 =>
 ldC false 1 x36_36 h fun x37_37 =>
 ldC true 4 x3_8 h fun x38_38 =>
 nilC x37_37 fun x39_39 =>
 faC 2 x39_39 fun x40_40 =>
 stC 4 x40_40 x38_38 h fun h =>
 some ((.bool true : Val), h))
theorem e78 (call : Call) (n : Nat) (a0 : Val) (h : Heap) : runFn call n F78 [a0] h = s78 call n a0 h := by kernel_rfl
def s79 (call : Call) (n : Nat) (a0 : Val) (h : Heap) : R :=
 nilC a0 fun x9_1 =>
 faC 0 x9_1 fun x10_2 =>
 ldC false 1 x10_2 h fun x11_3 =>
 nilC x11_3 fun x12_4 =>
 faC 6 x12_4 fun x13_5 =>
 ldC false 1 x13_5 h fun x14_6 =>
 lenlC x14_6 fun x15_7 =>
 biC .add x15_7 (.int .i64 2 : Val) fun x16_8 =>
 clC call 125 [a0, (.int .i64 1 : Val), x16_8] h fun x19_9 h =>
 notC x19_9 fun x20_10 =>
 cnd x20_10 (
 some ((.bool false : Val), h)) (
 nilC a0 fun x23_11 =>
 faC 0 x23_11 fun x24_12 =>
 ldC false 1 x24_12 h fun x25_13 =>
 nilC x25_13 fun x26_14 =>
 faC 7 x26_14 fun x27_15 =>
 ldC false 1 x27_15 h fun x28_16 =>
 nilC a0 fun x29_17 =>
 faC 1 x29_17 fun x30_18 =>
 ixpC 16 1 x30_18 x28_16 fun x31_19 =>
 ldC false 1 x31_19 h fun x32_20 =>
 clC call 126 [x32_20] h fun x33_21 h =>
 clC call 125 [a0, x33_21, x16_8] h fun x37_22 h =>
 notC x37_22 fun x38_23 =>
 cnd x38_23 (
 some ((.bool false : Val), h)) (
 nilC a0 fun x41_24 =>
 faC 0 x41_24 fun x42_25 =>
 ldC false 1 x42_25 h fun x43_26 =>
 nilC x43_26 fun x44_27 =>
 faC 2 x44_27 fun x45_28 =>
 faC 2 x45_28 fun x46_29 =>
 ldC false 1 x46_29 h fun x47_30 =>
 nilC a0 fun x49_31 =>
 faC 0 x49_31 fun x50_32 =>
 ldC false 1 x50_32 h fun x51_33 =>
 nilC x51_33 fun x52_34 =>
 faC 7 x52_34 fun x53_35 =>
 ldC false 1 x53_35 h fun x54_36 =>
 nilC a0 fun x56_37 =>
 faC 1 x56_37 fun x57_38 =>
 nilC a0 fun x59_39 =>
 faC 0 x59_39 fun x60_40 =>
 ldC false 1 x60_40 h fun x61_41 =>
 nilC x61_41 fun x62_42 =>
 faC 7 x62_42 fun x63_43 =>
 ldC false 1 x63_43 h fun x64_44 =>
 nilC a0 fun x66_45 =>
 faC 0 x66_45 fun x67_46 =>
 ldC false 1 x67_46 h fun x68_47 =>
 nilC x68_47 fun x69_48 =>
 faC 7 x69_48 fun x70_49 =>
 ldC false 1 x70_49 h fun x71_50 =>
 biC .add x71_50 x33_21 fun x73_51 =>
 slaC 16 1 x57_38 (some x64_44) (some x73_51) fun x74_52 =>
 clC call 128 [x74_52, (.str [] : Val)] h fun x75_53 h =>
 ldC false 1 x42_25 h fun v55 =>
 bif eqv v55 x43_26 then
 ldC false 1 x46_29 h fun v57 =>
 bif eqv v57 x47_30 then
 ldC false 1 x50_32 h fun v59 =>
 bif eqv v59 x51_33 then
 ldC false 1 x53_35 h fun v61 =>
 bif eqv v61 x54_36 then
 clC call 127 [x47_30, x54_36, x75_53] h fun x76_62 h =>
 exC 0 x76_62 fun x77_63 =>
 exC 1 x76_62 fun x78_64 =>
 exC 2 x76_62 fun x79_65 =>
 allocC [.int .i64 0, .str []] h fun x5_66 h =>
 stC 2 x5_66 x77_63 h fun h =>
 cmC .ne x79_65 (.int .i64 0 : Val) fun x81_68 =>
 cnd x81_68 (
 some ((.bool false : Val), h)) (
 nilC a0 fun x83_69 =>
 faC 0 x83_69 fun x84_70 =>
 ldC false 1 x84_70 h fun x85_71 =>
 nilC a0 fun x87_72 =>
 faC 0 x87_72 fun x88_73 =>
 ldC false 1 x88_73 h fun x89_74 =>
 nilC x89_74 fun x90_75 =>
 faC 6 x90_75 fun x91_76 =>
 ldC false 1 x91_76 h fun x92_77 =>
 ldC true 2 x5_66 h fun x93_78 =>
 bslC 2 [x93_78] fun x94_79 =>
 appC true 2 x92_77 x94_79 h fun x95_80 h =>
 ldC false 1 x84_70 h fun v82 =>
 bif eqv v82 x85_71 then
 nilC x85_71 fun x96_83 =>
 faC 6 x96_83 fun x97_84 =>
 stC 1 x97_84 x95_80 h fun h =>
 nilC a0 fun x99_86 =>
 faC 0 x99_86 fun x100_87 =>
 ldC false 1 x100_87 h fun x101_88 =>
 nilC x101_88 fun x102_89 =>
 faC 7 x102_89 fun x103_90 =>
 ldC false 1 x103_90 h fun x104_91 =>
 biC .add x104_91 x33_21 fun x106_92 =>
 nilC x101_88 fun x107_93 =>
 faC 7 x107_93 fun x108_94 =>
 stC 1 x108_94 x106_92 h fun h =>
 some ((.bool true : Val), h) else none) else none else none else none else none))
theorem e79 (call : Call) (n : Nat) (a0 : Val) (h : Heap) : runFn call n F79 [a0] h = s79 call n a0 h := by kernel_rfl
def s83 (call : Call) (n : Nat) (a0 : Val) (a1 : Val) (a2 : Val) (h : Heap) : R :=
 boxC 2 a2 h fun x5_1 h =>
 faC 0 x5_1 fun x10_2 =>
 ldC false 1 x10_2 h fun x11_3 =>
 cmC .lt x11_3 (.int .i64 1 : Val) fun x12_4 =>
 gdC x12_4 false h (fun k => faC 0 x5_1 fun x14_5 => k x14_5 h) fun x14_6 h =>
 gdC x12_4 false h (fun k => ldC false 1 x14_6 h fun x15_7 => k x15_7 h) fun x15_8 h =>
 gdC x12_4 false h (fun k => cmC .gt x15_8 (.int .i64 255 : Val) fun x16_9 => k x16_9 h) fun x16_10 h =>
 pickC x12_4 (.bool true : Val) x16_10 fun x17_11 =>
 gdC x17_11 false h (fun k => k a1 h) fun x19_12 h =>
 gdC x17_11 false h (fun k => clC call 129 [x19_12] h fun x20_13 h => k x20_13 h) fun x20_14 h =>
 gdC x17_11 false h (fun k => notC x20_14 fun x21_15 => k x21_15 h) fun x21_16 h =>
 pickC x17_11 (.bool true : Val) x21_16 fun x22_17 =>
 cnd x22_17 (
 some (.tup [(.str [] : Val), (.int .i64 1 : Val)], h)) (
 faC 1 x5_1 fun x24_18 =>
 ldC false 1 x24_18 h fun x25_19 =>
 lensC x25_19 fun x26_20 =>
 cmC .gt x26_20 (.int .i64 773 : Val) fun x27_21 =>
 cnd x27_21 (
 some (.tup [(.str [] : Val), (.int .i64 2 : Val)], h)) (
 faC 0 x5_1 fun x28_22 =>
 ldC false 1 x28_22 h fun x29_23 =>
 cviC .u8 x29_23 fun x30_24 =>
 bslC 1 [x30_24] fun x31_25 =>
 cvsC x31_25 h fun x32_26 =>
 faC 1 x5_1 fun x33_27 =>
 ldC false 1 x33_27 h fun x34_28 =>
 addSC x32_26 x34_28 fun x35_29 =>
 lensC x35_29 fun x37_30 =>
 clC call 130 [x37_30, (.int .i64 2 : Val)] h fun x38_31 h =>
 clC call 131 [a0, a1, x35_29] h fun x42_32 h =>
 cviC .i64 x42_32 fun x43_33 =>
 clC call 130 [x43_33, (.int .i64 4 : Val)] h fun x44_34 h =>
 addSC x38_31 x44_34 fun x45_35 =>
 addSC x45_35 x35_29 fun x47_36 =>
 some (.tup [x47_36, (.int .i64 0 : Val)], h)))
theorem e83 (call : Call) (n : Nat) (a0 : Val) (a1 : Val) (a2 : Val) (h : Heap) : runFn call n F83 [a0, a1, a2] h = s83 call n a0 a1 a2 h := by kernel_rfl
def s84_l0 (call : Call) (n : Nat) (again0 : List Val → Heap → R) (c7 : Val) (y0 : Val) (y3 : Val) (y8 : Val) (h : Heap) : R :=
 cmC .lt y8 c7 fun x9_3 =>
 cnd x9_3 (
 lensC y0 fun x11_4 =>
 mnC x11_4 (.int .i64 52 : Val) fun x12_5 =>
 slsC y0 none (some x12_5) fun x16_6 =>
 biC .sub (.int .i64 52 : Val) x12_5 fun x18_7 =>
 clC call 88 [(.str [0] : Val), x18_7] h fun x19_8 h =>
 addSC x16_6 x19_8 fun x20_9 =>
 bslC 1 [x20_9] fun x21_10 =>
 appC false 1 y3 x21_10 h fun x22_11 h =>
 slsC y0 (some x12_5) none fun x25_12 =>
 biC .add y8 (.int .i64 1 : Val) fun x26_13 =>
 again0 [x25_12, x22_11, x26_13] h) (
 some (y3, h))
def s84 (call : Call) (n : Nat) (a0 : Val) (h : Heap) : R :=
 lensC a0 fun x6_1 =>
 clC call 104 [x6_1] h fun x7_2 h =>
 iter n (fun again0 xs h => s84_l0 call n again0 x7_2 (getN xs 0) (getN xs 1) (getN xs 2) h) [a0, (.sl .nl 1 [] : Val), (.int .i64 0 : Val)] h
theorem e84 (call : Call) (n : Nat) (a0 : Val) (h : Heap) : runFn call n F84 [a0] h = s84 call n a0 h := by kernel_rfl
def s85_l0 (call : Call) (n : Nat) (again0 : List Val → Heap → R) (c0 : Val) (c1 : Val) (c2 : Val) (c9 : Val) (c31 : Val) (c32 : Val) (y33 : Val) (h : Heap) : R :=
 cmC .lt y33 c32 fun x34_12 =>
 cnd x34_12 (
 ixsC 1 c31 y33 fun x36_13 =>
 ldC false 1 x36_13 h fun x37_14 =>
 nilC c0 fun x40_15 =>
 faC 2 x40_15 fun x41_16 =>
 faC 2 x41_16 fun x42_17 =>
 ldC false 1 x42_17 h fun x43_18 =>
 clC call 132 [x43_18, c2, x37_14] h fun x46_19 h =>
 exC 0 x46_19 fun x47_20 =>
 exC 1 x46_19 fun x48_21 =>
 cmC .ne x48_21 (.int .i64 0 : Val) fun x50_22 =>
 cnd x50_22 (
 some (x48_21, h)) (
 nilC c0 fun x53_23 =>
 faC 0 x53_23 fun x54_24 =>
 ldC false 1 x54_24 h fun x55_25 =>
 biC .add c9 c1 fun x58_26 =>
 biC .add x58_26 y33 fun x60_27 =>
 clC call 20 [x55_25, x60_27, x47_20] h fun x62_28 h =>
 cmC .ne x62_28 (.int .i64 0 : Val) fun x64_29 =>
 cnd x64_29 (
 some (x62_28, h)) (
 biC .add y33 (.int .i64 1 : Val) fun x66_30 =>
 again0 [x66_30] h))) (
 some ((.int .i64 0 : Val), h))
def s85 (call : Call) (n : Nat) (a0 : Val) (a1 : Val) (a2 : Val) (a3 : Val) (h : Heap) : R :=
 nilC a0 fun x18_1 =>
 faC 0 x18_1 fun x19_2 =>
 ldC false 1 x19_2 h fun x20_3 =>
 nilC a0 fun x22_4 =>
 faC 1 x22_4 fun x23_5 =>
 ldC false 1 x23_5 h fun x24_6 =>
 clC call 76 [x20_3, x24_6] h fun x25_7 h =>
 exC 0 x25_7 fun x26_8 =>
 exC 1 x25_7 fun x27_9 =>
 cmC .ne x27_9 (.int .i64 0 : Val) fun x29_10 =>
 cnd x29_10 (
 some (x27_9, h)) (
 lenlC a3 fun x32_11 =>
 iter n (fun again0 xs h => s85_l0 call n again0 a0 a1 a2 x26_8 a3 x32_11 (getN xs 0) h) [(.int .i64 0 : Val)] h)
theorem e85 (call : Call) (n : Nat) (a0 : Val) (a1 : Val) (a2 : Val) (a3 : Val) (h : Heap) : runFn call n F85 [a0, a1, a2, a3] h = s85 call n a0 a1 a2 a3 h := by kernel_rfl
def s86 (call : Call) (n : Nat) (a0 : Val) (h : Heap) : R :=
 ceC .l false a0 (.sl .nl 2 [] : Val) fun x4_1 =>
 cnd x4_1 (
 some ((.sl .nl 2 [] : Val), h)) (
 bslC 2 [] fun x5_2 =>
 appC true 2 x5_2 a0 h fun x7_3 h =>
 some (x7_3, h))
theorem e86 (call : Call) (n : Nat) (a0 : Val) (h : Heap) : runFn call n F86 [a0] h = s86 call n a0 h := by kernel_rfl
def s87_l0 (call : Call) (n : Nat) (again0 : List Val → Heap → R) (c30 : Val) (y4 : Val) (y31 : Val) (h : Heap) : R :=
 cmC .lt y31 (.int .i64 4 : Val) fun x32_28 =>
 cnd x32_28 (
 ixaC true 4 2 c30 y31 fun x33_29 =>
 allocC [.int .u64 0, .int .i64 0] h fun x6_30 h =>
 stC 2 x6_30 x33_29 h fun h =>
 faC 0 x6_30 fun x35_32 =>
 ldC false 1 x35_32 h fun x36_33 =>
 faC 1 x6_30 fun x37_34 =>
 ldC false 1 x37_34 h fun x38_35 =>
 clC call 134 [x36_33, x38_35] h fun x39_36 h =>
 exC 0 x39_36 fun x40_37 =>
 exC 1 x39_36 fun x41_38 =>
 addSC y4 x40_37 fun x44_39 =>
 biC .add y31 (.int .i64 1 : Val) fun x45_40 =>
 again0 [x44_39, x45_40] h) (
 addSC y4 (.str [0, 0, 0, 0, 0, 0, 0, 0] : Val) fun x47_41 =>
 clC call 135 [(.int .u32 0 : Val), x47_41] h fun x50_42 h =>
 cviC .u64 x50_42 fun x51_43 =>
 clC call 134 [x51_43, (.int .i64 4 : Val)] h fun x52_44 h =>
 exC 0 x52_44 fun x53_45 =>
 exC 1 x52_44 fun x54_46 =>
 addSC x47_41 x53_45 fun x57_47 =>
 some (.tup [x57_47, (.int .i64 0 : Val)], h))
def s87 (call : Call) (n : Nat) (a0 : Val) (h : Heap) : R :=
 boxC 4 a0 h fun x1_1 h =>
 faC 0 x1_1 fun x11_2 =>
 ldC false 1 x11_2 h fun x12_3 =>
 cmC .lt x12_3 (.int .i64 1 : Val) fun x13_4 =>
 gdC x13_4 false h (fun k => faC 0 x1_1 fun x15_5 => k x15_5 h) fun x15_6 h =>
 gdC x13_4 false h (fun k => ldC false 1 x15_6 h fun x16_7 => k x16_7 h) fun x16_8 h =>
 gdC x13_4 false h (fun k => cmC .gt x16_8 (.int .i64 65535 : Val) fun x17_9 => k x17_9 h) fun x17_10 h =>
 pickC x13_4 (.bool true : Val) x17_10 fun x18_11 =>
 gdC x18_11 false h (fun k => faC 3 x1_1 fun x20_12 => k x20_12 h) fun x20_13 h =>
 gdC x18_11 false h (fun k => ldC false 1 x20_13 h fun x21_14 => k x21_14 h) fun x21_15 h =>
 gdC x18_11 false h (fun k => cmC .lt x21_15 (.int .i64 0 : Val) fun x22_16 => k x22_16 h) fun x22_17 h =>
 pickC x18_11 (.bool true : Val) x22_17 fun x23_18 =>
 gdC x23_18 false h (fun k => faC 3 x1_1 fun x25_19 => k x25_19 h) fun x25_20 h =>
 gdC x23_18 false h (fun k => ldC false 1 x25_20 h fun x26_21 => k x26_21 h) fun x26_22 h =>
 gdC x23_18 false h (fun k => cmC .gt x26_22 (.int .i64 1099511627776 : Val) fun x27_23 => k x27_23 h) fun x27_24 h =>
 pickC x23_18 (.bool true : Val) x27_24 fun x28_25 =>
 cnd x28_25 (
 some (.tup [(.str [] : Val), (.int .i64 1 : Val)], h)) (
 ldC true 4 x1_1 h fun x29_26 =>
 clC call 133 [x29_26] h fun x30_27 h =>
 iter n (fun again0 xs h => s87_l0 call n again0 x30_27 (getN xs 0) (getN xs 1) h) [(.str [87, 83] : Val), (.int .i64 0 : Val)] h)
theorem e87 (call : Call) (n : Nat) (a0 : Val) (h : Heap) : runFn call n F87 [a0] h = s87 call n a0 h := by kernel_rfl
def s89 (call : Call) (n : Nat) (a0 : Val) (h : Heap) : R :=
 ldC false 1 a0 h fun x2_1 =>
 nilC x2_1 fun x3_2 =>
 faC 0 x3_2 fun x4_3 =>
 ldC false 1 x4_3 h fun x5_4 =>
 ldC false 1 a0 h fun x6_5 =>
 nilC x6_5 fun x7_6 =>
 faC 1 x7_6 fun x8_7 =>
 ldC false 1 x8_7 h fun x9_8 =>
 ldC false 1 a0 h fun x10_9 =>
 nilC x10_9 fun x11_10 =>
 faC 2 x11_10 fun x12_11 =>
 ldC false 1 x12_11 h fun x13_12 =>
 clC call 90 [x5_4, x9_8, x13_12] h fun x14_13 h =>
 some (x14_13, h)
theorem e89 (call : Call) (n : Nat) (a0 : Val) (h : Heap) : runFn call n F89 [a0] h = s89 call n a0 h := by kernel_rfl
def s90_l0 (call : Call) (n : Nat) (again0 : List Val → Heap → R) (c0 : Val) (c8 : Val) (c27 : Val) (c28 : Val) (y29 : Val) (h : Heap) : R :=
 cmC .lt y29 c28 fun x30_8 =>
 cnd x30_8 (
 ixsC 65 c27 y29 fun x31_9 =>
 ldC true 65 x31_9 h fun x32_10 =>
 allocC [.int .i64 0, .int .u8 0, .int .u8 0, .int .u8 0, .int .u8 0, .int .u8 0, .int .u8 0, .int .u8 0, .int .u8 0, .int .u8 0, .int .u8 0, .int .u8 0, .int .u8 0, .int .u8 0, .int .u8 0, .int .u8 0, .int .u8 0, .int .u8 0, .int .u8 0, .int .u8 0, .int .u8 0, .int .u8 0, .int .u8 0, .int .u8 0, .int .u8 0, .int .u8 0, .int .u8 0, .int .u8 0, .int .u8 0, .int .u8 0, .int .u8 0, .int .u8 0, .int .u8 0, .int .u8 0, .int .u8 0, .int .u8 0, .int .u8 0, .int .u8 0, .int .u8 0, .int .u8 0, .int .u8 0, .int .u8 0, .int .u8 0, .int .u8 0, .int .u8 0, .int .u8 0, .int .u8 0, .int .u8 0, .int .u8 0, .int .u8 0, .int .u8 0, .int .u8 0, .int .u8 0, .int .u8 0, .int .u8 0, .int .u8 0, .int .u8 0, .int .u8 0, .int .u8 0, .int .u8 0, .int .u8 0, .int .u8 0, .int .u8 0, .int .u8 0, .int .u8 0] h fun x10_11 h =>
 stC 65 x10_11 x32_10 h fun h =>
 nilC c0 fun x34_13 =>
 faC 0 x34_13 fun x35_14 =>
 ldC false 1 x35_14 h fun x36_15 =>
 faC 0 x10_11 fun x37_16 =>
 ldC false 1 x37_16 h fun x38_17 =>
 faC 1 x10_11 fun x39_18 =>
 ldC true 64 x39_18 h fun x40_19 =>
 ixsC 64 x36_15 x38_17 fun x41_20 =>
 stC 64 x41_20 x40_19 h fun h =>
 biC .add y29 (.int .i64 1 : Val) fun x42_22 =>
 again0 [x42_22] h) (
 nilC c0 fun x45_23 =>
 faC 1 x45_23 fun x46_24 =>
 stC 1 x46_24 c8 h fun h =>
 some ((.int .i64 0 : Val), h))
def s90 (call : Call) (n : Nat) (a0 : Val) (a1 : Val) (a2 : Val) (h : Heap) : R :=
 ceC .p false a0 (.nilp : Val) fun x13_1 =>
 cnd x13_1 (
 some ((.int .i64 7 : Val), h)) (
 clC call 142 [a0, a1, a2] h fun x18_2 h =>
 notC x18_2 fun x19_3 =>
 cnd x19_3 (
 some ((.int .i64 20 : Val), h)) (
 clC call 143 [a0, a1, a2] h fun x24_4 h =>
 exC 0 x24_4 fun x25_5 =>
 exC 1 x24_4 fun x26_6 =>
 lenlC x25_5 fun x28_7 =>
 iter n (fun again0 xs h => s90_l0 call n again0 a0 x26_6 x25_5 x28_7 (getN xs 0) h) [(.int .i64 0 : Val)] h))
theorem e90 (call : Call) (n : Nat) (a0 : Val) (a1 : Val) (a2 : Val) (h : Heap) : runFn call n F90 [a0, a1, a2] h = s90 call n a0 a1 a2 h := by kernel_rfl
def s92 (call : Call) (n : Nat) (a0 : Val) (a1 : Val) (h : Heap) : R :=
 cmC .lt a0 (.int .i64 6 : Val) fun x7_1 =>
 gdC x7_1 false h (fun k => k a0 h) fun x9_2 h =>
 gdC x7_1 false h (fun k => cmC .gt x9_2 (.int .i64 64 : Val) fun x10_3 => k x10_3 h) fun x10_4 h =>
 pickC x7_1 (.bool true : Val) x10_4 fun x11_5 =>
 gdC x11_5 false h (fun k => k a1 h) fun x13_6 h =>
 gdC x11_5 false h (fun k => cmC .lt x13_6 (.int .i64 0 : Val) fun x14_7 => k x14_7 h) fun x14_8 h =>
 pickC x11_5 (.bool true : Val) x14_8 fun x15_9 =>
 gdC x15_9 false h (fun k => k a1 h) fun x17_10 h =>
 gdC x15_9 false h (fun k => cmC .gt x17_10 (.int .i64 65535 : Val) fun x18_11 => k x18_11 h) fun x18_12 h =>
 pickC x15_9 (.bool true : Val) x18_12 fun x19_13 =>
 cnd x19_13 (
 some (.tup [(.nilp : Val), (.int .i64 1 : Val)], h)) (
 msmC 1 (.int .i64 0) a0 a0 h fun x21_14 h =>
 aggC [.sl .nl 1 [], .int .i64 0, .int .i64 0] [(0, 1, x21_14), (1, 1, a1)] fun x23_15 =>
 boxC 3 x23_15 h fun x24_16 h =>
 some (.tup [x24_16, (.int .i64 0 : Val)], h))
theorem e92 (call : Call) (n : Nat) (a0 : Val) (a1 : Val) (h : Heap) : runFn call n F92 [a0, a1] h = s92 call n a0 a1 h := by kernel_rfl
def s93 (call : Call) (n : Nat) (h : Heap) : R :=
 clC call 70 [(.int .i64 98 : Val)] h fun x6_1 h =>
 exC 0 x6_1 fun x7_2 =>
 exC 1 x6_1 fun x8_3 =>
 clC call 71 [x7_2, (.int .i64 0 : Val), (.int .i64 98 : Val)] h fun x11_4 h =>
 exC 0 x11_4 fun x12_5 =>
 exC 1 x11_4 fun x13_6 =>
 some (x12_5, h)
theorem e93 (call : Call) (n : Nat) (h : Heap) : runFn call n F93 [] h = s93 call n h := by kernel_rfl
def s94 (call : Call) (n : Nat) (h : Heap) : R :=
 allocC [.int .i64 0, .str []] h fun x0_1 h =>
 mspC 1 (.int .u8 0) (.int .i64 46 : Val) (.int .i64 46 : Val) fun x1_2 =>
 cvsC x1_2 h fun x2_3 =>
 aggC [.int .i64 0, .str []] [(0, 1, (.int .i64 3 : Val)), (1, 1, x2_3)] fun x3_4 =>
 stC 2 x0_1 x3_4 h fun h =>
 ldC true 2 x0_1 h fun v6 =>
 some (v6, h)
theorem e94 (call : Call) (n : Nat) (h : Heap) : runFn call n F94 [] h = s94 call n h := by kernel_rfl
def s95 (call : Call) (n : Nat) (a0 : Val) (h : Heap) : R :=
 clC call 145 [a0] h fun x4_1 h =>
 lenlC x4_1 fun x5_2 =>
 some (x5_2, h)
theorem e95 (call : Call) (n : Nat) (a0 : Val) (h : Heap) : runFn call n F95 [a0] h = s95 call n a0 h := by kernel_rfl
def s96 (call : Call) (n : Nat) (a0 : Val) (h : Heap) : R :=
 nilC a0 fun x4_1 =>
 faC 6 x4_1 fun x5_2 =>
 ldC false 1 x5_2 h fun x6_3 =>
 lenlC x6_3 fun x7_4 =>
 cmC .eq x7_4 (.int .i64 0 : Val) fun x8_5 =>
 gdC x8_5 false h (fun k => k a0 h) fun x10_6 h =>
 gdC x8_5 false h (fun k => nilC x10_6 fun x11_7 => k x11_7 h) fun x11_8 h =>
 gdC x8_5 false h (fun k => faC 6 x11_8 fun x12_9 => k x12_9 h) fun x12_10 h =>
 gdC x8_5 false h (fun k => ldC false 1 x12_10 h fun x13_11 => k x13_11 h) fun x13_12 h =>
 gdC x8_5 false h (fun k => k a0 h) fun x14_13 h =>
 gdC x8_5 false h (fun k => nilC x14_13 fun x15_14 => k x15_14 h) fun x15_15 h =>
 gdC x8_5 false h (fun k => faC 6 x15_15 fun x16_16 => k x16_16 h) fun x16_17 h =>
 gdC x8_5 false h (fun k => ldC false 1 x16_17 h fun x17_18 => k x17_18 h) fun x17_19 h =>
 gdC x8_5 false h (fun k => lenlC x17_19 fun x18_20 => k x18_20 h) fun x18_21 h =>
 gdC x8_5 false h (fun k => biC .sub x18_21 (.int .i64 1 : Val) fun x19_22 => k x19_22 h) fun x19_23 h =>
 gdC x8_5 false h (fun k => ixsC 1 x13_12 x19_23 fun x20_24 => k x20_24 h) fun x20_25 h =>
 gdC x8_5 false h (fun k => ldC false 1 x20_25 h fun x21_26 => k x21_26 h) fun x21_27 h =>
 gdC x8_5 false h (fun k => clC call 29 [x21_27] h fun x22_28 h => k x22_28 h) fun x22_29 h =>
 pickC x8_5 (.bool true : Val) x22_29 fun x23_30 =>
 cnd x23_30 (
 some ((.nilp : Val), h)) (
 nilC a0 fun x25_31 =>
 faC 6 x25_31 fun x26_32 =>
 ldC false 1 x26_32 h fun x27_33 =>
 nilC a0 fun x29_34 =>
 faC 6 x29_34 fun x30_35 =>
 ldC false 1 x30_35 h fun x31_36 =>
 lenlC x31_36 fun x32_37 =>
 biC .sub x32_37 (.int .i64 1 : Val) fun x33_38 =>
 ixsC 1 x27_33 x33_38 fun x34_39 =>
 ldC false 1 x34_39 h fun x35_40 =>
 some (x35_40, h))
theorem e96 (call : Call) (n : Nat) (a0 : Val) (h : Heap) : runFn call n F96 [a0] h = s96 call n a0 h := by kernel_rfl
def s97 (call : Call) (n : Nat) (a0 : Val) (h : Heap) : R :=
 nilC a0 fun x4_1 =>
 faC 5 x4_1 fun x5_2 =>
 ldC false 1 x5_2 h fun x6_3 =>
 biC .add x6_3 (.int .i64 1 : Val) fun x7_4 =>
 nilC a0 fun x8_5 =>
 faC 5 x8_5 fun x9_6 =>
 stC 1 x9_6 x7_4 h fun h =>
 nilC a0 fun x11_8 =>
 faC 5 x11_8 fun x12_9 =>
 ldC false 1 x12_9 h fun x13_10 =>
 biC .sub x13_10 (.int .i64 1 : Val) fun x14_11 =>
 some (x14_11, h)
theorem e97 (call : Call) (n : Nat) (a0 : Val) (h : Heap) : runFn call n F97 [a0] h = s97 call n a0 h := by kernel_rfl
def s98 (call : Call) (n : Nat) (a0 : Val) (h : Heap) : R :=
 nilC a0 fun x10_1 =>
 faC 1 x10_1 fun x11_2 =>
 ldC false 1 x11_2 h fun x12_3 =>
 nilC a0 fun x14_4 =>
 faC 2 x14_4 fun x15_5 =>
 ldC false 1 x15_5 h fun x16_6 =>
 clC call 146 [x12_3, x16_6] h fun x17_7 h =>
 exC 0 x17_7 fun x18_8 =>
 exC 1 x17_7 fun x19_9 =>
 exC 2 x17_7 fun x20_10 =>
 cmC .ne x20_10 (.int .i64 0 : Val) fun x22_11 =>
 cnd x22_11 (
 some (.tup [(.nilp : Val), x20_10], h)) (
 nilC a0 fun x26_12 =>
 faC 0 x26_12 fun x27_13 =>
 ldC false 1 x27_13 h fun x28_14 =>
 nilC a0 fun x31_15 =>
 faC 2 x31_15 fun x32_16 =>
 ldC false 1 x32_16 h fun x33_17 =>
 nilC a0 fun x35_18 =>
 faC 3 x35_18 fun x36_19 =>
 ldC false 1 x36_19 h fun x37_20 =>
 nilC a0 fun x40_21 =>
 faC 5 x40_21 fun x41_22 =>
 ldC false 1 x41_22 h fun x42_23 =>
 aggC [.int .i64 0, .int .u32 0, .int .u32 0, .int .i64 0] [(0, 1, x33_17), (1, 1, x37_20), (2, 1, x19_9), (3, 1, x42_23)] fun x43_24 =>
 clC call 30 [x28_14, x18_8, x43_24] h fun x44_25 h =>
 exC 0 x44_25 fun x45_26 =>
 exC 1 x44_25 fun x46_27 =>
 cmC .ne x46_27 (.int .i64 0 : Val) fun x48_28 =>
 cnd x48_28 (
 nilC a0 fun x50_29 =>
 faC 1 x50_29 fun x51_30 =>
 ldC false 1 x51_30 h fun x52_31 =>
 clC call 99 [x52_31, x18_8] h fun x54_32 h =>
 some (.tup [(.nilp : Val), x46_27], h)) (
 some (.tup [x45_26, (.int .i64 0 : Val)], h)))
theorem e98 (call : Call) (n : Nat) (a0 : Val) (h : Heap) : runFn call n F98 [a0] h = s98 call n a0 h := by kernel_rfl
def s99 (call : Call) (n : Nat) (a0 : Val) (a1 : Val) (h : Heap) : R :=
 ceC .p false a0 (.nilp : Val) fun x7_1 =>
 cnd x7_1 (
 some ((.int .i64 7 : Val), h)) (
 clC call 147 [a0, a1] h fun x11_2 h =>
 notC x11_2 fun x12_3 =>
 cnd x12_3 (
 some ((.int .i64 20 : Val), h)) (
 nilC a0 fun x15_4 =>
 faC 0 x15_4 fun x16_5 =>
 ldC false 1 x16_5 h fun x17_6 =>
 ixsC 1 x17_6 a1 fun x19_7 =>
 ldC false 1 x19_7 h fun x20_8 =>
 cmC .eq x20_8 (.int .i64 0 : Val) fun x21_9 =>
 cnd x21_9 (
 some ((.int .i64 6 : Val), h)) (
 nilC a0 fun x23_10 =>
 faC 0 x23_10 fun x24_11 =>
 ldC false 1 x24_11 h fun x25_12 =>
 ixsC 1 x25_12 a1 fun x27_13 =>
 stC 1 x27_13 (.int .i64 0 : Val) h fun h =>
 some ((.int .i64 0 : Val), h))))
theorem e99 (call : Call) (n : Nat) (a0 : Val) (a1 : Val) (h : Heap) : runFn call n F99 [a0, a1] h = s99 call n a0 a1 h := by kernel_rfl
def s100_l0 (call : Call) (n : Nat) (again0 : List Val → Heap → R) (c0 : Val) (c1 : Val) (y5 : Val) (y6 : Val) (h : Heap) : R :=
 biC .sub y6 y5 fun x15_5 =>
 cmC .gt x15_5 (.int .i64 1 : Val) fun x16_6 =>
 cnd x16_6 (
 biC .add y5 y6 fun x19_7 =>
 biC .quo x19_7 (.int .i64 2 : Val) fun x20_8 =>
 nilC c0 fun x22_9 =>
 faC 6 x22_9 fun x23_10 =>
 ldC false 1 x23_10 h fun x24_11 =>
 ixsC 1 x24_11 x20_8 fun x26_12 =>
 ldC false 1 x26_12 h fun x27_13 =>
 clC call 24 [x27_13] h fun x28_14 h =>
 fdC false 3 1 x28_14 fun x29_15 =>
 cmC .le x29_15 c1 fun x31_16 =>
 cnd x31_16 (
 again0 [x20_8, y6] h) (
 again0 [y5, x20_8] h)) (
 some (y5, h))
def s100 (call : Call) (n : Nat) (a0 : Val) (a1 : Val) (h : Heap) : R :=
 nilC a0 fun x9_1 =>
 faC 6 x9_1 fun x10_2 =>
 ldC false 1 x10_2 h fun x11_3 =>
 lenlC x11_3 fun x12_4 =>
 iter n (fun again0 xs h => s100_l0 call n again0 a0 a1 (getN xs 0) (getN xs 1) h) [(.int .i64 0 : Val), x12_4] h
theorem e100 (call : Call) (n : Nat) (a0 : Val) (a1 : Val) (h : Heap) : runFn call n F100 [a0, a1] h = s100 call n a0 a1 h := by kernel_rfl
def s101_l0 (call : Call) (n : Nat) (again0 : List Val → Heap → R) (c0 : Val) (c1 : Val) (c8 : Val) (c9 : Val) (y10 : Val) (h : Heap) : R :=
 cmC .lt y10 c9 fun x11_2 =>
 cnd x11_2 (
 ixsC 1 c8 y10 fun x13_3 =>
 ldC false 1 x13_3 h fun x14_4 =>
 clC call 24 [x14_4] h fun x16_5 h =>
 allocC [.int .i64 0, .int .u32 0, .int .u32 0, .int .i64 0] h fun x7_6 h =>
 stC 4 x7_6 x16_5 h fun h =>
 ceC .p false x14_4 (.nilp : Val) fun x19_8 =>
 gdC x19_8 false h (fun k => faC 0 x7_6 fun x21_9 => k x21_9 h) fun x21_10 h =>
 gdC x19_8 false h (fun k => ldC false 1 x21_10 h fun x22_11 => k x22_11 h) fun x22_12 h =>
 gdC x19_8 false h (fun k => k c0 h) fun x23_13 h =>
 gdC x19_8 false h (fun k => nilC x23_13 fun x24_14 => k x24_14 h) fun x24_15 h =>
 gdC x19_8 false h (fun k => faC 2 x24_15 fun x25_16 => k x25_16 h) fun x25_17 h =>
 gdC x19_8 false h (fun k => ldC false 1 x25_17 h fun x26_18 => k x26_18 h) fun x26_19 h =>
 gdC x19_8 false h (fun k => cmC .ne x22_12 x26_19 fun x27_20 => k x27_20 h) fun x27_21 h =>
 pickC x19_8 (.bool true : Val) x27_21 fun x28_22 =>
 gdC x28_22 false h (fun k => faC 1 x7_6 fun x30_23 => k x30_23 h) fun x30_24 h =>
 gdC x28_22 false h (fun k => ldC false 1 x30_24 h fun x31_25 => k x31_25 h) fun x31_26 h =>
 gdC x28_22 false h (fun k => k c0 h) fun x32_27 h =>
 gdC x28_22 false h (fun k => nilC x32_27 fun x33_28 => k x33_28 h) fun x33_29 h =>
 gdC x28_22 false h (fun k => faC 3 x33_29 fun x34_30 => k x34_30 h) fun x34_31 h =>
 gdC x28_22 false h (fun k => ldC false 1 x34_31 h fun x35_32 => k x35_32 h) fun x35_33 h =>
 gdC x28_22 false h (fun k => cmC .ne x31_26 x35_33 fun x36_34 => k x36_34 h) fun x36_35 h =>
 pickC x28_22 (.bool true : Val) x36_35 fun x37_36 =>
 cnd x37_36 (
 some ((.bool false : Val), h)) (
 cmC .eq y10 (.int .i64 0 : Val) fun x40_37 =>
 gdC x40_37 true h (fun k => faC 3 x7_6 fun x42_38 => k x42_38 h) fun x42_39 h =>
 gdC x40_37 true h (fun k => ldC false 1 x42_39 h fun x43_40 => k x43_40 h) fun x43_41 h =>
 gdC x40_37 true h (fun k => k c0 h) fun x44_42 h =>
 gdC x40_37 true h (fun k => nilC x44_42 fun x45_43 => k x45_43 h) fun x45_44 h =>
 gdC x40_37 true h (fun k => faC 4 x45_44 fun x46_45 => k x46_45 h) fun x46_46 h =>
 gdC x40_37 true h (fun k => ldC false 1 x46_46 h fun x47_47 => k x47_47 h) fun x47_48 h =>
 gdC x40_37 true h (fun k => cmC .gt x43_41 x47_48 fun x48_49 => k x48_49 h) fun x48_50 h =>
 pickC x40_37 x48_50 (.bool false : Val) fun x49_51 =>
 cnd x49_51 (
 some ((.bool false : Val), h)) (
 cmC .gt y10 (.int .i64 0 : Val) fun x52_52 =>
 gdC x52_52 true h (fun k => faC 3 x7_6 fun x54_53 => k x54_53 h) fun x54_54 h =>
 gdC x52_52 true h (fun k => ldC false 1 x54_54 h fun x55_55 => k x55_55 h) fun x55_56 h =>
 gdC x52_52 true h (fun k => k c1 h) fun x56_57 h =>
 gdC x52_52 true h (fun k => k y10 h) fun x57_58 h =>
 gdC x52_52 true h (fun k => biC .sub x57_58 (.int .i64 1 : Val) fun x58_59 => k x58_59 h) fun x58_60 h =>
 gdC x52_52 true h (fun k => ixsC 1 x56_57 x58_60 fun x59_61 => k x59_61 h) fun x59_62 h =>
 gdC x52_52 true h (fun k => ldC false 1 x59_62 h fun x60_63 => k x60_63 h) fun x60_64 h =>
 gdC x52_52 true h (fun k => k c1 h) fun x63_65 h =>
 gdC x52_52 true h (fun k => k y10 h) fun x64_66 h =>
 gdC x52_52 true h (fun k => biC .sub x64_66 (.int .i64 1 : Val) fun x65_67 => k x65_67 h) fun x65_68 h =>
 gdC x52_52 true h (fun k => ixsC 1 x63_65 x65_68 fun x66_69 => k x66_69 h) fun x66_70 h =>
 gdC x52_52 true h (fun k => ldC false 1 x66_70 h fun x67_71 => k x67_71 h) fun x67_72 h =>
 gdC x52_52 true h (fun k => clC call 24 [x60_64] h fun x61_73 h => k x61_73 h) fun x61_74 h =>
 gdC x52_52 true h (fun k => ldC false 1 x54_54 h fun v76 => k v76 h) fun v75 _ =>
 bif eqv v75 x55_56 then
 gdC x52_52 true h (fun k => ldC false 1 x66_70 h fun v78 => k v78 h) fun v77 _ =>
 bif eqv v77 x67_72 then
 gdC x52_52 true h (fun k => fdC false 3 1 x61_74 fun x62_79 => k x62_79 h) fun x62_80 h =>
 gdC x52_52 true h (fun k => clC call 28 [x67_72] h fun x68_81 h => k x68_81 h) fun x68_82 h =>
 gdC x52_52 true h (fun k => ldC false 1 x54_54 h fun v84 => k v84 h) fun v83 _ =>
 bif eqv v83 x55_56 then
 gdC x52_52 true h (fun k => biC .add x62_80 x68_82 fun x69_85 => k x69_85 h) fun x69_86 h =>
 gdC x52_52 true h (fun k => cmC .ne x55_56 x69_86 fun x70_87 => k x70_87 h) fun x70_88 h =>
 pickC x52_52 x70_88 (.bool false : Val) fun x71_89 =>
 cnd x71_89 (
 some ((.bool false : Val), h)) (
 biC .add y10 (.int .i64 1 : Val) fun x72_90 =>
 again0 [x72_90] h) else none else none else none))) (
 some ((.bool true : Val), h))
def s101 (call : Call) (n : Nat) (a0 : Val) (a1 : Val) (h : Heap) : R :=
 lenlC a1 fun x9_1 =>
 iter n (fun again0 xs h => s101_l0 call n again0 a0 a1 a1 x9_1 (getN xs 0) h) [(.int .i64 0 : Val)] h
theorem e101 (call : Call) (n : Nat) (a0 : Val) (a1 : Val) (h : Heap) : runFn call n F101 [a0, a1] h = s101 call n a0 a1 h := by kernel_rfl
def s102 (call : Call) (n : Nat) (a0 : Val) (a1 : Val) (a2 : Val) (h : Heap) : R :=
 ceC .p false a0 (.nilp : Val) fun x9_1 =>
 cnd x9_1 (
 some ((.int .i64 7 : Val), h)) (
 clC call 147 [a0, a1] h fun x13_2 h =>
 notC x13_2 fun x14_3 =>
 cnd x14_3 (
 some ((.int .i64 20 : Val), h)) (
 clC call 148 [a2] h fun x17_4 h =>
 notC x17_4 fun x18_5 =>
 cnd x18_5 (
 some ((.int .i64 1 : Val), h)) (
 nilC a0 fun x21_6 =>
 faC 0 x21_6 fun x22_7 =>
 ldC false 1 x22_7 h fun x23_8 =>
 ixsC 1 x23_8 a1 fun x25_9 =>
 ldC false 1 x25_9 h fun x26_10 =>
 cmC .ne x26_10 (.int .i64 0 : Val) fun x27_11 =>
 cnd x27_11 (
 some ((.int .i64 8 : Val), h)) (
 nilC a0 fun x29_12 =>
 faC 0 x29_12 fun x30_13 =>
 ldC false 1 x30_13 h fun x31_14 =>
 ixsC 1 x31_14 a1 fun x34_15 =>
 stC 1 x34_15 a2 h fun h =>
 some ((.int .i64 0 : Val), h)))))
theorem e102 (call : Call) (n : Nat) (a0 : Val) (a1 : Val) (a2 : Val) (h : Heap) : runFn call n F102 [a0, a1, a2] h = s102 call n a0 a1 a2 h := by kernel_rfl
def s103 (call : Call) (n : Nat) (a0 : Val) (h : Heap) : R :=
 nilC a0 fun x6_1 =>
 faC 6 x6_1 fun x7_2 =>
 ldC false 1 x7_2 h fun x8_3 =>
 ixsC 1 x8_3 (.int .i64 0 : Val) fun x9_4 =>
 ldC false 1 x9_4 h fun x10_5 =>
 nilC a0 fun x12_6 =>
 faC 0 x12_6 fun x13_7 =>
 ldC false 1 x13_7 h fun x14_8 =>
 clC call 34 [x10_5] h fun x16_9 h =>
 ldC false 1 x13_7 h fun v11 =>
 bif eqv v11 x14_8 then
 clC call 31 [x14_8, x16_9] h fun x17_12 h =>
 cmC .ne x17_12 (.int .i64 0 : Val) fun x19_13 =>
 cnd x19_13 (
 some (x17_12, h)) (
 nilC a0 fun x22_14 =>
 faC 1 x22_14 fun x23_15 =>
 ldC false 1 x23_15 h fun x24_16 =>
 clC call 34 [x10_5] h fun x26_17 h =>
 ldC false 1 x23_15 h fun v19 =>
 bif eqv v19 x24_16 then
 clC call 99 [x24_16, x26_17] h fun x27_20 h =>
 nilC a0 fun x30_21 =>
 faC 6 x30_21 fun x31_22 =>
 ldC false 1 x31_22 h fun x32_23 =>
 sllC 1 x32_23 (some (.int .i64 1 : Val)) none fun x33_24 =>
 nilC a0 fun x34_25 =>
 faC 6 x34_25 fun x35_26 =>
 stC 1 x35_26 x33_24 h fun h =>
 clC call 24 [x10_5] h fun x38_28 h =>
 fdC false 3 1 x38_28 fun x39_29 =>
 clC call 28 [x10_5] h fun x41_30 h =>
 biC .add x39_29 x41_30 fun x42_31 =>
 nilC a0 fun x43_32 =>
 faC 4 x43_32 fun x44_33 =>
 stC 1 x44_33 x42_31 h fun h =>
 some ((.int .i64 0 : Val), h) else none) else none
theorem e103 (call : Call) (n : Nat) (a0 : Val) (h : Heap) : runFn call n F103 [a0] h = s103 call n a0 h := by kernel_rfl
def s104 (call : Call) (n : Nat) (a0 : Val) (h : Heap) : R :=
 cmC .lt a0 (.int .i64 1 : Val) fun x4_1 =>
 cnd x4_1 (
 some ((.int .i64 0 : Val), h)) (
 biC .sub a0 (.int .i64 1 : Val) fun x6_2 =>
 biC .quo x6_2 (.int .i64 52 : Val) fun x7_3 =>
 biC .add x7_3 (.int .i64 1 : Val) fun x8_4 =>
 some (x8_4, h))
theorem e104 (call : Call) (n : Nat) (a0 : Val) (h : Heap) : runFn call n F104 [a0] h = s104 call n a0 h := by kernel_rfl
def s105 (call : Call) (n : Nat) (a0 : Val) (h : Heap) : R :=
 boxC 2 a0 h fun x1_1 h =>
 faC 1 x1_1 fun x3_2 =>
 ldC false 1 x3_2 h fun x4_3 =>
 lensC x4_3 fun x5_4 =>
 biC .add (.int .i64 7 : Val) x5_4 fun x6_5 =>
 some (x6_5, h)
theorem e105 (call : Call) (n : Nat) (a0 : Val) (h : Heap) : runFn call n F105 [a0] h = s105 call n a0 h := by kernel_rfl
def s106 (call : Call) (n : Nat) (a0 : Val) (a1 : Val) (a2 : Val) (a3 : Val) (h : Heap) : R :=
 clC call 24 [a0] h fun x8_1 h =>
 allocC [.int .i64 0, .int .u32 0, .int .u32 0, .int .i64 0] h fun x6_2 h =>
 stC 4 x6_2 x8_1 h fun h =>
 clC call 28 [a0] h fun x10_4 h =>
 cmC .gt x10_4 (.int .i64 0 : Val) fun x11_5 =>
 gdC x11_5 true h (fun k => faC 0 x6_2 fun x13_6 => k x13_6 h) fun x13_7 h =>
 gdC x11_5 true h (fun k => ldC false 1 x13_7 h fun x14_8 => k x14_8 h) fun x14_9 h =>
 gdC x11_5 true h (fun k => ldC false 1 a1 h fun x15_10 => k x15_10 h) fun x15_11 h =>
 gdC x11_5 true h (fun k => cmC .eq x14_9 x15_11 fun x16_12 => k x16_12 h) fun x16_13 h =>
 pickC x11_5 x16_13 (.bool false : Val) fun x17_14 =>
 gdC x17_14 true h (fun k => faC 1 x6_2 fun x19_15 => k x19_15 h) fun x19_16 h =>
 gdC x17_14 true h (fun k => ldC false 1 x19_16 h fun x20_17 => k x20_17 h) fun x20_18 h =>
 gdC x17_14 true h (fun k => ldC false 1 a2 h fun x21_19 => k x21_19 h) fun x21_20 h =>
 gdC x17_14 true h (fun k => cmC .eq x20_18 x21_20 fun x22_21 => k x22_21 h) fun x22_22 h =>
 pickC x17_14 x22_22 (.bool false : Val) fun x23_23 =>
 gdC x23_23 true h (fun k => k a0 h) fun x25_24 h =>
 gdC x23_23 true h (fun k => ldC false 1 a3 h fun x27_25 => k x27_25 h) fun x27_26 h =>
 gdC x23_23 true h (fun k => clC call 107 [x25_24] h fun x26_27 h => k x26_27 h) fun x26_28 h =>
 gdC x23_23 true h (fun k => ldC false 1 a3 h fun v30 => k v30 h) fun v29 _ =>
 bif eqv v29 x27_26 then
 gdC x23_23 true h (fun k => cmC .gt x26_28 x27_26 fun x28_31 => k x28_31 h) fun x28_32 h =>
 pickC x23_23 x28_32 (.bool false : Val) fun x29_33 =>
 some (x29_33, h) else none
theorem e106 (call : Call) (n : Nat) (a0 : Val) (a1 : Val) (a2 : Val) (a3 : Val) (h : Heap) : runFn call n F106 [a0, a1, a2, a3] h = s106 call n a0 a1 a2 a3 h := by kernel_rfl
def s107 (call : Call) (n : Nat) (a0 : Val) (h : Heap) : R :=
 clC call 24 [a0] h fun x4_1 h =>
 fdC false 3 1 x4_1 fun x5_2 =>
 clC call 28 [a0] h fun x7_3 h =>
 biC .add x5_2 x7_3 fun x8_4 =>
 some (x8_4, h)
theorem e107 (call : Call) (n : Nat) (a0 : Val) (h : Heap) : runFn call n F107 [a0] h = s107 call n a0 h := by kernel_rfl
def s108_j0 (call : Call) (n : Nat) (again0 : List Val → Heap → R) (w1 : Val) (w5 : Val) (w8 : Val) (w9 : Val) (w10 : Val) (h : Heap) : R :=
 biC .add w10 (.int .i64 1 : Val) fun x29_21 =>
 again0 [w5, x29_21] h
def s108_l0 (call : Call) (n : Nat) (again0 : List Val → Heap → R) (c1 : Val) (c8 : Val) (c9 : Val) (y5 : Val) (y10 : Val) (h : Heap) : R :=
 cmC .lt y10 c9 fun x11_2 =>
 cnd x11_2 (
 ixsC 1 c8 y10 fun x12_3 =>
 ldC false 1 x12_3 h fun x13_4 =>
 cvC call c1 [x13_4] h fun x16_5 h =>
 gdC x16_5 true h (fun k => k y5 h) fun x18_6 h =>
 gdC x16_5 true h (fun k => ceC .p false x18_6 (.nilp : Val) fun x19_7 => k x19_7 h) fun x19_8 h =>
 gdC x16_5 true h (fun k => k x19_8 h) fun x20_9 h =>
 gdC x20_9 false h (fun k => k x13_4 h) fun x21_10 h =>
 gdC x20_9 false h (fun k => clC call 24 [x21_10] h fun x22_11 h => k x22_11 h) fun x22_12 h =>
 gdC x20_9 false h (fun k => k y5 h) fun x23_13 h =>
 gdC x20_9 false h (fun k => clC call 24 [x23_13] h fun x24_14 h => k x24_14 h) fun x24_15 h =>
 gdC x20_9 false h (fun k => clC call 149 [x22_12, x24_15] h fun x25_16 h => k x25_16 h) fun x25_17 h =>
 gdC x16_5 true h (fun k => pickC x20_9 (.bool true : Val) x25_17 fun x26_18 => k x26_18 h) fun x26_19 h =>
 pickC x16_5 x26_19 (.bool false : Val) fun x27_20 =>
 cnd x27_20 (
 s108_j0 call n again0 c1 x13_4 c8 c9 y10 h) (
 s108_j0 call n again0 c1 y5 c8 c9 y10 h)) (
 some (y5, h))
def s108 (call : Call) (n : Nat) (a0 : Val) (a1 : Val) (h : Heap) : R :=
 lenlC a0 fun x9_1 =>
 iter n (fun again0 xs h => s108_l0 call n again0 a1 a0 x9_1 (getN xs 0) (getN xs 1) h) [(.nilp : Val), (.int .i64 0 : Val)] h
theorem e108 (call : Call) (n : Nat) (a0 : Val) (a1 : Val) (h : Heap) : runFn call n F108 [a0, a1] h = s108 call n a0 a1 h := by kernel_rfl
def s109 (call : Call) (n : Nat) (a0 : Val) (a1 : Val) (a2 : Val) (h : Heap) : R :=
 ldC false 1 a1 h fun x5_1 =>
 cvC call x5_1 [a0] h fun x7_2 h =>
 gdC x7_2 true h (fun k => k a0 h) fun x9_3 h =>
 gdC x7_2 true h (fun k => ldC false 1 a2 h fun x12_4 => k x12_4 h) fun x12_5 h =>
 gdC x7_2 true h (fun k => clC call 24 [x9_3] h fun x10_6 h => k x10_6 h) fun x10_7 h =>
 gdC x7_2 true h (fun k => ldC false 1 a2 h fun v9 => k v9 h) fun v8 _ =>
 bif eqv v8 x12_5 then
 gdC x7_2 true h (fun k => fdC false 3 1 x10_7 fun x11_10 => k x11_10 h) fun x11_11 h =>
 gdC x7_2 true h (fun k => cmC .le x11_11 x12_5 fun x13_12 => k x13_12 h) fun x13_13 h =>
 pickC x7_2 x13_13 (.bool false : Val) fun x14_14 =>
 some (x14_14, h) else none
theorem e109 (call : Call) (n : Nat) (a0 : Val) (a1 : Val) (a2 : Val) (h : Heap) : runFn call n F109 [a0, a1, a2] h = s109 call n a0 a1 a2 h := by kernel_rfl
def s110 (call : Call) (n : Nat) (a0 : Val) (a1 : Val) (a2 : Val) (h : Heap) : R :=
 ldC false 1 a1 h fun x5_1 =>
 cvC call x5_1 [a0] h fun x7_2 h =>
 gdC x7_2 true h (fun k => k a0 h) fun x9_3 h =>
 gdC x7_2 true h (fun k => ldC false 1 a2 h fun x12_4 => k x12_4 h) fun x12_5 h =>
 gdC x7_2 true h (fun k => clC call 24 [x9_3] h fun x10_6 h => k x10_6 h) fun x10_7 h =>
 gdC x7_2 true h (fun k => ldC false 1 a2 h fun v9 => k v9 h) fun v8 _ =>
 bif eqv v8 x12_5 then
 gdC x7_2 true h (fun k => fdC false 3 1 x10_7 fun x11_10 => k x11_10 h) fun x11_11 h =>
 gdC x7_2 true h (fun k => cmC .eq x11_11 x12_5 fun x13_12 => k x13_12 h) fun x13_13 h =>
 pickC x7_2 x13_13 (.bool false : Val) fun x14_14 =>
 some (x14_14, h) else none
theorem e110 (call : Call) (n : Nat) (a0 : Val) (a1 : Val) (a2 : Val) (h : Heap) : runFn call n F110 [a0, a1, a2] h = s110 call n a0 a1 a2 h := by kernel_rfl
def s112_j0 (call : Call) (n : Nat) (again0 : List Val → Heap → R) (w3 : Val) (w6 : Val) (w7 : Val) (w8 : Val) (h : Heap) : R :=
 biC .add w8 (.int .i64 1 : Val) fun x19_9 =>
 again0 [w3, x19_9] h
def s112_l0 (call : Call) (n : Nat) (again0 : List Val → Heap → R) (c6 : Val) (c7 : Val) (y3 : Val) (y8 : Val) (h : Heap) : R :=
 cmC .lt y8 c7 fun x9_2 =>
 cnd x9_2 (
 ixsC 1 c6 y8 fun x10_3 =>
 ldC false 1 x10_3 h fun x11_4 =>
 ceC .p true x11_4 (.nilp : Val) fun x13_5 =>
 cnd x13_5 (
 clC call 34 [x11_4] h fun x16_6 h =>
 bslC 1 [x16_6] fun x17_7 =>
 appC false 1 y3 x17_7 h fun x18_8 h =>
 s112_j0 call n again0 x18_8 c6 c7 y8 h) (
 s112_j0 call n again0 y3 c6 c7 y8 h)) (
 some (y3, h))
def s112 (call : Call) (n : Nat) (a0 : Val) (h : Heap) : R :=
 lenlC a0 fun x7_1 =>
 iter n (fun again0 xs h => s112_l0 call n again0 a0 x7_1 (getN xs 0) (getN xs 1) h) [(.sl .nl 1 [] : Val), (.int .i64 0 : Val)] h
theorem e112 (call : Call) (n : Nat) (a0 : Val) (h : Heap) : runFn call n F112 [a0] h = s112 call n a0 h := by kernel_rfl
def s113 (call : Call) (n : Nat) (a0 : Val) (a1 : Val) (h : Heap) : R :=
 clC call 152 [a0, a1] h fun x7_1 h =>
 cmC .ge x7_1 (.int .i64 0 : Val) fun x8_2 =>
 some (x8_2, h)
theorem e113 (call : Call) (n : Nat) (a0 : Val) (a1 : Val) (h : Heap) : runFn call n F113 [a0, a1] h = s113 call n a0 a1 h := by kernel_rfl
def s114_j0 (call : Call) (n : Nat) (again0 : List Val → Heap → R) (w1 : Val) (w6 : Val) (w22 : Val) (w23 : Val) (w24 : Val) (h : Heap) : R :=
 biC .add w24 (.int .i64 1 : Val) fun x35_20 =>
 again0 [w6, x35_20] h
def s114_l0 (call : Call) (n : Nat) (again0 : List Val → Heap → R) (c1 : Val) (c22 : Val) (c23 : Val) (y6 : Val) (y24 : Val) (h : Heap) : R :=
 cmC .lt y24 c23 fun x25_9 =>
 cnd x25_9 (
 ixsC 65 c22 y24 fun x26_10 =>
 ldC true 65 x26_10 h fun x27_11 =>
 allocC [.int .i64 0, .int .u8 0, .int .u8 0, .int .u8 0, .int .u8 0, .int .u8 0, .int .u8 0, .int .u8 0, .int .u8 0, .int .u8 0, .int .u8 0, .int .u8 0, .int .u8 0, .int .u8 0, .int .u8 0, .int .u8 0, .int .u8 0, .int .u8 0, .int .u8 0, .int .u8 0, .int .u8 0, .int .u8 0, .int .u8 0, .int .u8 0, .int .u8 0, .int .u8 0, .int .u8 0, .int .u8 0, .int .u8 0, .int .u8 0, .int .u8 0, .int .u8 0, .int .u8 0, .int .u8 0, .int .u8 0, .int .u8 0, .int .u8 0, .int .u8 0, .int .u8 0, .int .u8 0, .int .u8 0, .int .u8 0, .int .u8 0, .int .u8 0, .int .u8 0, .int .u8 0, .int .u8 0, .int .u8 0, .int .u8 0, .int .u8 0, .int .u8 0, .int .u8 0, .int .u8 0, .int .u8 0, .int .u8 0, .int .u8 0, .int .u8 0, .int .u8 0, .int .u8 0, .int .u8 0, .int .u8 0, .int .u8 0, .int .u8 0, .int .u8 0, .int .u8 0] h fun x9_12 h =>
 stC 65 x9_12 x27_11 h fun h =>
 faC 0 x9_12 fun x28_14 =>
 ldC false 1 x28_14 h fun x29_15 =>
 cmC .eq x29_15 c1 fun x31_16 =>
 cnd x31_16 (
 faC 1 x9_12 fun x32_17 =>
 slaC 64 1 x32_17 none none fun x33_18 =>
 cvsC x33_18 h fun x34_19 =>
 s114_j0 call n again0 c1 x34_19 c22 c23 y24 h) (
 s114_j0 call n again0 c1 y6 c22 c23 y24 h)) (
 some (.tup [y6, (.int .i64 0 : Val)], h))
def s114 (call : Call) (n : Nat) (a0 : Val) (a1 : Val) (h : Heap) : R :=
 clC call 153 [a0, a1] h fun x13_1 h =>
 exC 0 x13_1 fun x14_2 =>
 exC 1 x13_1 fun x15_3 =>
 cmC .ne x15_3 (.int .i64 0 : Val) fun x17_4 =>
 cnd x17_4 (
 some (.tup [(.str [] : Val), x15_3], h)) (
 nilC a0 fun x20_5 =>
 faC 1 x20_5 fun x21_6 =>
 ldC false 1 x21_6 h fun x22_7 =>
 lenlC x22_7 fun x23_8 =>
 iter n (fun again0 xs h => s114_l0 call n again0 a1 x22_7 x23_8 (getN xs 0) (getN xs 1) h) [x14_2, (.int .i64 0 : Val)] h)
theorem e114 (call : Call) (n : Nat) (a0 : Val) (a1 : Val) (h : Heap) : runFn call n F114 [a0, a1] h = s114 call n a0 a1 h := by kernel_rfl
def s120 (call : Call) (n : Nat) (a0 : Val) (h : Heap) : R :=
 ceC .p false a0 (.nilp : Val) fun x4_1 =>
 cnd x4_1 (
 some ((.int .i64 0 : Val), h)) (
 nilC a0 fun x6_2 =>
 faC 0 x6_2 fun x7_3 =>
 ldC false 1 x7_3 h fun x8_4 =>
 lenlC x8_4 fun x9_5 =>
 some (x9_5, h))
theorem e120 (call : Call) (n : Nat) (a0 : Val) (h : Heap) : runFn call n F120 [a0] h = s120 call n a0 h := by kernel_rfl
def s121 (call : Call) (n : Nat) (a0 : Val) (a1 : Val) (h : Heap) : R :=
 cmC .ge a1 (.int .i64 0 : Val) fun x6_1 =>
 gdC x6_1 true h (fun k => k a1 h) fun x8_2 h =>
 gdC x6_1 true h (fun k => k a0 h) fun x9_3 h =>
 gdC x6_1 true h (fun k => clC call 120 [x9_3] h fun x10_4 h => k x10_4 h) fun x10_5 h =>
 gdC x6_1 true h (fun k => cmC .lt x8_2 x10_5 fun x11_6 => k x11_6 h) fun x11_7 h =>
 pickC x6_1 x11_7 (.bool false : Val) fun x12_8 =>
 some (x12_8, h)
theorem e121 (call : Call) (n : Nat) (a0 : Val) (a1 : Val) (h : Heap) : runFn call n F121 [a0, a1] h = s121 call n a0 a1 h := by kernel_rfl
def s122 (call : Call) (n : Nat) (a0 : Val) (h : Heap) : R :=
 ceC .p false a0 (.nilp : Val) fun x4_1 =>
 cnd x4_1 (
 some ((.int .i64 0 : Val), h)) (
 nilC a0 fun x6_2 =>
 faC 2 x6_2 fun x7_3 =>
 ldC false 1 x7_3 h fun x8_4 =>
 some (x8_4, h))
theorem e122 (call : Call) (n : Nat) (a0 : Val) (h : Heap) : runFn call n F122 [a0] h = s122 call n a0 h := by kernel_rfl
def s123 (call : Call) (n : Nat) (a0 : Val) (h : Heap) : R :=
 lensC a0 fun x11_1 =>
 cmC .ne x11_1 (.int .i64 64 : Val) fun x12_2 =>
 gdC x12_2 false h (fun k => k a0 h) fun x14_3 h =>
 gdC x12_2 false h (fun k => slsC x14_3 none (some (.int .i64 6 : Val)) fun x15_4 => k x15_4 h) fun x15_5 h =>
 gdC x12_2 false h (fun k => k a0 h) fun x16_6 h =>
 gdC x12_2 false h (fun k => slsC x16_6 (some (.int .i64 58 : Val)) none fun x17_7 => k x17_7 h) fun x17_8 h =>
 gdC x12_2 false h (fun k => cmC .ne x15_5 x17_8 fun x18_9 => k x18_9 h) fun x18_10 h =>
 pickC x12_2 (.bool true : Val) x18_10 fun x19_11 =>
 cnd x19_11 (
 some (.tup [(.int .u32 0 : Val), (.int .i64 0 : Val), (.str [] : Val), (.int .i64 4 : Val)], h)) (
 slsC a0 none (some (.int .i64 4 : Val)) fun x22_12 =>
 clC call 155 [x22_12] h fun x23_13 h =>
 exC 0 x23_13 fun x24_14 =>
 exC 1 x23_13 fun x25_15 =>
 slsC a0 (some (.int .i64 4 : Val)) (some (.int .i64 6 : Val)) fun x28_16 =>
 clC call 155 [x28_16] h fun x29_17 h =>
 exC 0 x29_17 fun x30_18 =>
 exC 1 x29_17 fun x31_19 =>
 cmC .eq x30_18 (.int .u64 0 : Val) fun x33_20 =>
 cnd x33_20 (
 some (.tup [(.int .u32 0 : Val), (.int .i64 0 : Val), (.str [] : Val), (.int .i64 4 : Val)], h)) (
 cviC .u32 x24_14 fun x35_21 =>
 cviC .i64 x30_18 fun x37_22 =>
 slsC a0 (some (.int .i64 6 : Val)) (some (.int .i64 58 : Val)) fun x39_23 =>
 some (.tup [x35_21, x37_22, x39_23, (.int .i64 0 : Val)], h)))
theorem e123 (call : Call) (n : Nat) (a0 : Val) (h : Heap) : runFn call n F123 [a0] h = s123 call n a0 h := by kernel_rfl
def s124_l0 (call : Call) (n : Nat) (again0 : List Val → Heap → R) (c0 : Val) (c2 : Val) (c4 : Val) (c18 : Val) (y5 : Val) (y19 : Val) (h : Heap) : R :=
 cmC .lt y19 (.int .i64 4 : Val) fun x20_10 =>
 cnd x20_10 (
 ixaC true 4 2 c18 y19 fun x22_11 =>
 allocC [.int .u64 0, .int .i64 0] h fun x7_12 h =>
 stC 2 x7_12 x22_11 h fun h =>
 faC 1 x7_12 fun x27_14 =>
 ldC false 1 x27_14 h fun x28_15 =>
 biC .add y5 x28_15 fun x29_16 =>
 slsC c0 (some y5) (some x29_16) fun x30_17 =>
 clC call 155 [x30_17] h fun x31_18 h =>
 exC 0 x31_18 fun x32_19 =>
 exC 1 x31_18 fun x33_20 =>
 ixpC 4 1 c4 y19 fun x36_21 =>
 stC 1 x36_21 x32_19 h fun h =>
 faC 1 x7_12 fun x38_23 =>
 ldC false 1 x38_23 h fun x39_24 =>
 biC .add y5 x39_24 fun x40_25 =>
 biC .add y19 (.int .i64 1 : Val) fun x41_26 =>
 again0 [x40_25, x41_26] h) (
 ixpC 4 1 c4 (.int .i64 3 : Val) fun x42_27 =>
 ldC false 1 x42_27 h fun x43_28 =>
 cmC .gt x43_28 (.int .u64 1099511627776 : Val) fun x44_29 =>
 cnd x44_29 (
 aggC [.int .i64 0, .int .u32 0, .int .u32 0, .int .i64 0] [] fun x45_30 =>
 stC 4 c2 x45_30 h fun h =>
 ldC true 4 c2 h fun v32 =>
 some (.tup [v32, (.int .i64 4 : Val)], h)) (
 ixpC 4 1 c4 (.int .i64 0 : Val) fun x46_33 =>
 ldC false 1 x46_33 h fun x47_34 =>
 cviC .i64 x47_34 fun x48_35 =>
 ixpC 4 1 c4 (.int .i64 1 : Val) fun x49_36 =>
 ldC false 1 x49_36 h fun x50_37 =>
 cviC .u32 x50_37 fun x51_38 =>
 ixpC 4 1 c4 (.int .i64 2 : Val) fun x52_39 =>
 ldC false 1 x52_39 h fun x53_40 =>
 cviC .u32 x53_40 fun x54_41 =>
 ixpC 4 1 c4 (.int .i64 3 : Val) fun x55_42 =>
 ldC false 1 x55_42 h fun x56_43 =>
 cviC .i64 x56_43 fun x57_44 =>
 aggC [.int .i64 0, .int .u32 0, .int .u32 0, .int .i64 0] [(0, 1, x48_35), (1, 1, x51_38), (2, 1, x54_41), (3, 1, x57_44)] fun x58_45 =>
 allocC [.int .i64 0, .int .u32 0, .int .u32 0, .int .i64 0] h fun x10_46 h =>
 stC 4 x10_46 x58_45 h fun h =>
 ldC true 4 x10_46 h fun x60_48 =>
 clC call 87 [x60_48] h fun x61_49 h =>
 exC 0 x61_49 fun x62_50 =>
 exC 1 x61_49 fun x63_51 =>
 cmC .ne x63_51 (.int .i64 0 : Val) fun x65_52 =>
 gdC x65_52 false h (fun k => k x62_50 h) fun x67_53 h =>
 gdC x65_52 false h (fun k => k c0 h) fun x68_54 h =>
 gdC x65_52 false h (fun k => slsC x68_54 none (some (.int .i64 32 : Val)) fun x69_55 => k x69_55 h) fun x69_56 h =>
 gdC x65_52 false h (fun k => cmC .ne x67_53 x69_56 fun x70_57 => k x70_57 h) fun x70_58 h =>
 pickC x65_52 (.bool true : Val) x70_58 fun x71_59 =>
 cnd x71_59 (
 aggC [.int .i64 0, .int .u32 0, .int .u32 0, .int .i64 0] [] fun x72_60 =>
 stC 4 c2 x72_60 h fun h =>
 ldC true 4 c2 h fun v62 =>
 some (.tup [v62, (.int .i64 4 : Val)], h)) (
 ldC true 4 x10_46 h fun x73_63 =>
 stC 4 c2 x73_63 h fun h =>
 ldC true 4 c2 h fun v65 =>
 some (.tup [v65, (.int .i64 0 : Val)], h))))
def s124 (call : Call) (n : Nat) (a0 : Val) (h : Heap) : R :=
 allocC [.int .i64 0, .int .u32 0, .int .u32 0, .int .i64 0] h fun x2_1 h =>
 lensC a0 fun x14_2 =>
 cmC .lt x14_2 (.int .i64 32 : Val) fun x15_3 =>
 cnd x15_3 (
 aggC [.int .i64 0, .int .u32 0, .int .u32 0, .int .i64 0] [] fun x16_4 =>
 stC 4 x2_1 x16_4 h fun h =>
 ldC true 4 x2_1 h fun v6 =>
 some (.tup [v6, (.int .i64 3 : Val)], h)) (
 allocC [.int .u64 0, .int .u64 0, .int .u64 0, .int .u64 0] h fun x4_7 h =>
 aggC [.int .i64 0, .int .u32 0, .int .u32 0, .int .i64 0] [] fun x17_8 =>
 clC call 133 [x17_8] h fun x18_9 h =>
 iter n (fun again0 xs h => s124_l0 call n again0 a0 x2_1 x4_7 x18_9 (getN xs 0) (getN xs 1) h) [(.int .i64 2 : Val), (.int .i64 0 : Val)] h)
theorem e124 (call : Call) (n : Nat) (a0 : Val) (h : Heap) : runFn call n F124 [a0] h = s124 call n a0 h := by kernel_rfl
def s125_l0 (call : Call) (n : Nat) (again0 : List Val → Heap → R) (c0 : Val) (c2 : Val) (c18 : Val) (y19 : Val) (h : Heap) : R :=
 cmC .lt y19 c18 fun x20_9 =>
 cnd x20_9 (
 nilC c0 fun x24_10 =>
 faC 0 x24_10 fun x25_11 =>
 ldC false 1 x25_11 h fun x26_12 =>
 nilC x26_12 fun x27_13 =>
 faC 7 x27_13 fun x28_14 =>
 ldC false 1 x28_14 h fun x29_15 =>
 biC .add x29_15 y19 fun x31_16 =>
 nilC c0 fun x32_17 =>
 faC 33 x32_17 fun x33_18 =>
 ixpC 16 1 x33_18 x31_16 fun x34_19 =>
 ldC false 1 x34_19 h fun x35_20 =>
 cmC .ne x35_20 c2 fun x37_21 =>
 gdC x37_21 false h (fun k => k c0 h) fun x39_22 h =>
 gdC x37_21 false h (fun k => k c0 h) fun x40_23 h =>
 gdC x37_21 false h (fun k => nilC x40_23 fun x41_24 => k x41_24 h) fun x41_25 h =>
 gdC x37_21 false h (fun k => faC 0 x41_25 fun x42_26 => k x42_26 h) fun x42_27 h =>
 gdC x37_21 false h (fun k => ldC false 1 x42_27 h fun x43_28 => k x43_28 h) fun x43_29 h =>
 gdC x37_21 false h (fun k => nilC x43_29 fun x44_30 => k x44_30 h) fun x44_31 h =>
 gdC x37_21 false h (fun k => faC 7 x44_31 fun x45_32 => k x45_32 h) fun x45_33 h =>
 gdC x37_21 false h (fun k => ldC false 1 x45_33 h fun x46_34 => k x46_34 h) fun x46_35 h =>
 gdC x37_21 false h (fun k => k y19 h) fun x47_36 h =>
 gdC x37_21 false h (fun k => biC .add x46_35 x47_36 fun x48_37 => k x48_37 h) fun x48_38 h =>
 gdC x37_21 false h (fun k => nilC x39_22 fun x49_39 => k x49_39 h) fun x49_40 h =>
 gdC x37_21 false h (fun k => faC 17 x49_40 fun x50_41 => k x50_41 h) fun x50_42 h =>
 gdC x37_21 false h (fun k => ixpC 16 1 x50_42 x48_38 fun x51_43 => k x51_43 h) fun x51_44 h =>
 gdC x37_21 false h (fun k => ldC false 1 x51_44 h fun x52_45 => k x52_45 h) fun x52_46 h =>
 gdC x37_21 false h (fun k => k c0 h) fun x53_47 h =>
 gdC x37_21 false h (fun k => nilC x53_47 fun x54_48 => k x54_48 h) fun x54_49 h =>
 gdC x37_21 false h (fun k => faC 0 x54_49 fun x55_50 => k x55_50 h) fun x55_51 h =>
 gdC x37_21 false h (fun k => ldC false 1 x55_51 h fun x56_52 => k x56_52 h) fun x56_53 h =>
 gdC x37_21 false h (fun k => nilC x56_53 fun x57_54 => k x57_54 h) fun x57_55 h =>
 gdC x37_21 false h (fun k => faC 2 x57_55 fun x58_56 => k x58_56 h) fun x58_57 h =>
 gdC x37_21 false h (fun k => faC 2 x58_57 fun x59_58 => k x59_58 h) fun x59_59 h =>
 gdC x37_21 false h (fun k => ldC false 1 x59_59 h fun x60_60 => k x60_60 h) fun x60_61 h =>
 gdC x37_21 false h (fun k => cmC .ne x52_46 x60_61 fun x61_62 => k x61_62 h) fun x61_63 h =>
 pickC x37_21 (.bool true : Val) x61_63 fun x62_64 =>
 cnd x62_64 (
 some ((.bool false : Val), h)) (
 biC .add y19 (.int .i64 1 : Val) fun x63_65 =>
 again0 [x63_65] h)) (
 some ((.bool true : Val), h))
def s125 (call : Call) (n : Nat) (a0 : Val) (a1 : Val) (a2 : Val) (h : Heap) : R :=
 nilC a0 fun x10_1 =>
 faC 0 x10_1 fun x11_2 =>
 ldC false 1 x11_2 h fun x12_3 =>
 nilC x12_3 fun x13_4 =>
 faC 7 x13_4 fun x14_5 =>
 ldC false 1 x14_5 h fun x15_6 =>
 biC .sub (.int .i64 16 : Val) x15_6 fun x16_7 =>
 cmC .gt a1 x16_7 fun x17_8 =>
 cnd x17_8 (
 some ((.bool false : Val), h)) (
 iter n (fun again0 xs h => s125_l0 call n again0 a0 a2 a1 (getN xs 0) h) [(.int .i64 0 : Val)] h)
theorem e125 (call : Call) (n : Nat) (a0 : Val) (a1 : Val) (a2 : Val) (h : Heap) : runFn call n F125 [a0, a1, a2] h = s125 call n a0 a1 a2 h := by kernel_rfl
def s126 (call : Call) (n : Nat) (a0 : Val) (h : Heap) : R :=
 ixtC a0 (.int .i64 0 : Val) fun x5_1 =>
 cviC .i64 x5_1 fun x6_2 =>
 shC .shl x6_2 (.int .u64 8 : Val) fun x7_3 =>
 ixtC a0 (.int .i64 1 : Val) fun x9_4 =>
 cviC .i64 x9_4 fun x10_5 =>
 biC .or x7_3 x10_5 fun x11_6 =>
 biC .add x11_6 (.int .i64 7 : Val) fun x13_7 =>
 biC .sub x13_7 (.int .i64 1 : Val) fun x14_8 =>
 clC call 104 [x14_8] h fun x15_9 h =>
 some (x15_9, h)
theorem e126 (call : Call) (n : Nat) (a0 : Val) (h : Heap) : runFn call n F126 [a0] h = s126 call n a0 h := by kernel_rfl
def s127 (call : Call) (n : Nat) (a0 : Val) (a1 : Val) (a2 : Val) (h : Heap) : R :=
 allocC [.int .i64 0, .str []] h fun x6_1 h =>
 clC call 129 [a1] h fun x13_2 h =>
 notC x13_2 fun x14_3 =>
 cnd x14_3 (
 aggC [.int .i64 0, .str []] [] fun x15_4 =>
 stC 2 x6_1 x15_4 h fun h =>
 ldC true 2 x6_1 h fun v6 =>
 some (.tup [v6, (.int .i64 0 : Val), (.int .i64 1 : Val)], h)) (
 lensC a2 fun x18_7 =>
 cmC .lt x18_7 (.int .i64 2 : Val) fun x19_8 =>
 cnd x19_8 (
 aggC [.int .i64 0, .str []] [] fun x20_9 =>
 stC 2 x6_1 x20_9 h fun h =>
 ldC true 2 x6_1 h fun v11 =>
 some (.tup [v11, (.int .i64 0 : Val), (.int .i64 3 : Val)], h)) (
 slsC a2 none (some (.int .i64 2 : Val)) fun x22_12 =>
 clC call 156 [x22_12] h fun x23_13 h =>
 cmC .eq x23_13 (.int .i64 0 : Val) fun x26_14 =>
 cnd x26_14 (
 aggC [.int .i64 0, .str []] [] fun x27_15 =>
 stC 2 x6_1 x27_15 h fun h =>
 ldC true 2 x6_1 h fun v17 =>
 some (.tup [v17, (.int .i64 0 : Val), (.int .i64 6 : Val)], h)) (
 cmC .gt x23_13 (.int .i64 774 : Val) fun x30_18 =>
 cnd x30_18 (
 aggC [.int .i64 0, .str []] [] fun x31_19 =>
 stC 2 x6_1 x31_19 h fun h =>
 ldC true 2 x6_1 h fun v21 =>
 some (.tup [v21, (.int .i64 0 : Val), (.int .i64 2 : Val)], h)) (
 lensC a2 fun x34_22 =>
 biC .add (.int .i64 6 : Val) x23_13 fun x36_23 =>
 cmC .lt x34_22 x36_23 fun x37_24 =>
 cnd x37_24 (
 aggC [.int .i64 0, .str []] [] fun x38_25 =>
 stC 2 x6_1 x38_25 h fun h =>
 ldC true 2 x6_1 h fun v27 =>
 some (.tup [v27, (.int .i64 0 : Val), (.int .i64 3 : Val)], h)) (
 biC .add (.int .i64 6 : Val) x23_13 fun x41_28 =>
 slsC a2 (some (.int .i64 6 : Val)) (some x41_28) fun x42_29 =>
 ixtC x42_29 (.int .i64 0 : Val) fun x44_30 =>
 cmC .eq x44_30 (.int .u8 0 : Val) fun x45_31 =>
 gdC x45_31 false h (fun k => k a2 h) fun x47_32 h =>
 gdC x45_31 false h (fun k => slsC x47_32 (some (.int .i64 2 : Val)) (some (.int .i64 6 : Val)) fun x48_33 => k x48_33 h) fun x48_34 h =>
 gdC x45_31 false h (fun k => clC call 156 [x48_34] h fun x49_35 h => k x49_35 h) fun x49_36 h =>
 gdC x45_31 false h (fun k => k a0 h) fun x50_37 h =>
 gdC x45_31 false h (fun k => k a1 h) fun x51_38 h =>
 gdC x45_31 false h (fun k => k x42_29 h) fun x52_39 h =>
 gdC x45_31 false h (fun k => clC call 131 [x50_37, x51_38, x52_39] h fun x53_40 h => k x53_40 h) fun x53_41 h =>
 gdC x45_31 false h (fun k => cviC .i64 x53_41 fun x54_42 => k x54_42 h) fun x54_43 h =>
 gdC x45_31 false h (fun k => cmC .ne x49_36 x54_43 fun x55_44 => k x55_44 h) fun x55_45 h =>
 pickC x45_31 (.bool true : Val) x55_45 fun x56_46 =>
 cnd x56_46 (
 aggC [.int .i64 0, .str []] [] fun x57_47 =>
 stC 2 x6_1 x57_47 h fun h =>
 ldC true 2 x6_1 h fun v49 =>
 some (.tup [v49, (.int .i64 0 : Val), (.int .i64 4 : Val)], h)) (
 ixtC x42_29 (.int .i64 0 : Val) fun x59_50 =>
 cviC .i64 x59_50 fun x60_51 =>
 slsC x42_29 (some (.int .i64 1 : Val)) none fun x62_52 =>
 aggC [.int .i64 0, .str []] [(0, 1, x60_51), (1, 1, x62_52)] fun x63_53 =>
 biC .add (.int .i64 6 : Val) x23_13 fun x65_54 =>
 stC 2 x6_1 x63_53 h fun h =>
 ldC true 2 x6_1 h fun v56 =>
 some (.tup [v56, x65_54, (.int .i64 0 : Val)], h)))))))
theorem e127 (call : Call) (n : Nat) (a0 : Val) (a1 : Val) (a2 : Val) (h : Heap) : runFn call n F127 [a0, a1, a2] h = s127 call n a0 a1 a2 h := by kernel_rfl
def s129 (call : Call) (n : Nat) (a0 : Val) (h : Heap) : R :=
 cmC .ge a0 (.int .i64 1 : Val) fun x4_1 =>
 gdC x4_1 true h (fun k => k a0 h) fun x6_2 h =>
 gdC x4_1 true h (fun k => cmC .lt x6_2 (.int .i64 16 : Val) fun x7_3 => k x7_3 h) fun x7_4 h =>
 pickC x4_1 x7_4 (.bool false : Val) fun x8_5 =>
 some (x8_5, h)
theorem e129 (call : Call) (n : Nat) (a0 : Val) (h : Heap) : runFn call n F129 [a0] h = s129 call n a0 h := by kernel_rfl
def s130 (call : Call) (n : Nat) (a0 : Val) (a1 : Val) (h : Heap) : R :=
 cviC .u64 a0 fun x9_1 =>
 clC call 134 [x9_1, a1] h fun x11_2 h =>
 exC 0 x11_2 fun x12_3 =>
 exC 1 x11_2 fun x13_4 =>
 some (x12_3, h)
theorem e130 (call : Call) (n : Nat) (a0 : Val) (a1 : Val) (h : Heap) : runFn call n F130 [a0, a1] h = s130 call n a0 a1 h := by kernel_rfl
def s131 (call : Call) (n : Nat) (a0 : Val) (a1 : Val) (a2 : Val) (h : Heap) : R :=
 cviC .i64 a0 fun x8_1 =>
 clC call 130 [x8_1, (.int .i64 4 : Val)] h fun x9_2 h =>
 clC call 130 [a1, (.int .i64 2 : Val)] h fun x11_3 h =>
 lensC a2 fun x13_4 =>
 clC call 130 [x13_4, (.int .i64 2 : Val)] h fun x14_5 h =>
 bslC 1 [x9_2, x11_3, x14_5, a2] fun x16_6 =>
 clC call 157 [x16_6] h fun x17_7 h =>
 some (x17_7, h)
theorem e131 (call : Call) (n : Nat) (a0 : Val) (a1 : Val) (a2 : Val) (h : Heap) : runFn call n F131 [a0, a1, a2] h = s131 call n a0 a1 a2 h := by kernel_rfl
def s132 (call : Call) (n : Nat) (a0 : Val) (a1 : Val) (a2 : Val) (h : Heap) : R :=
 cmC .lt a1 (.int .i64 1 : Val) fun x11_1 =>
 gdC x11_1 false h (fun k => k a1 h) fun x13_2 h =>
 gdC x11_1 false h (fun k => cmC .gt x13_2 (.int .i64 65535 : Val) fun x14_3 => k x14_3 h) fun x14_4 h =>
 pickC x11_1 (.bool true : Val) x14_4 fun x15_5 =>
 gdC x15_5 false h (fun k => k a2 h) fun x17_6 h =>
 gdC x15_5 false h (fun k => lensC x17_6 fun x18_7 => k x18_7 h) fun x18_8 h =>
 gdC x15_5 false h (fun k => cmC .ne x18_8 (.int .i64 52 : Val) fun x19_9 => k x19_9 h) fun x19_10 h =>
 pickC x15_5 (.bool true : Val) x19_10 fun x20_11 =>
 cnd x20_11 (
 some (.tup [(.str [] : Val), (.int .i64 1 : Val)], h)) (
 allocC (reps 64 (.int .u8 0)) h fun x8_12 h =>
 clC call 158 [a0, a1] h fun x23_13 h =>
 slaC 64 1 x8_12 none none fun x24_14 =>
 cpyC 1 x24_14 x23_13 h fun x26_15 h =>
 slaC 64 1 x8_12 (some (.int .i64 6 : Val)) none fun x27_16 =>
 cpyC 1 x27_16 a2 h fun x29_17 h =>
 slaC 64 1 x8_12 (some (.int .i64 58 : Val)) none fun x30_18 =>
 cpyC 1 x30_18 x23_13 h fun x32_19 h =>
 slaC 64 1 x8_12 none none fun x33_20 =>
 cvsC x33_20 h fun x34_21 =>
 some (.tup [x34_21, (.int .i64 0 : Val)], h))
theorem e132 (call : Call) (n : Nat) (a0 : Val) (a1 : Val) (a2 : Val) (h : Heap) : runFn call n F132 [a0, a1, a2] h = s132 call n a0 a1 a2 h := by kernel_rfl
def s133 (call : Call) (n : Nat) (a0 : Val) (h : Heap) : R :=
 boxC 4 a0 h fun x1_1 h =>
 allocC [.int .u64 0, .int .i64 0, .int .u64 0, .int .i64 0, .int .u64 0, .int .i64 0, .int .u64 0, .int .i64 0] h fun x2_2 h =>
 faC 0 x1_1 fun x3_3 =>
 ldC false 1 x3_3 h fun x4_4 =>
 cviC .u64 x4_4 fun x5_5 =>
 aggC [.int .u64 0, .int .i64 0] [(0, 1, x5_5), (1, 1, (.int .i64 2 : Val))] fun x6_6 =>
 faC 1 x1_1 fun x7_7 =>
 ldC false 1 x7_7 h fun x8_8 =>
 cviC .u64 x8_8 fun x9_9 =>
 aggC [.int .u64 0, .int .i64 0] [(0, 1, x9_9), (1, 1, (.int .i64 4 : Val))] fun x10_10 =>
 faC 2 x1_1 fun x11_11 =>
 ldC false 1 x11_11 h fun x12_12 =>
 cviC .u64 x12_12 fun x13_13 =>
 aggC [.int .u64 0, .int .i64 0] [(0, 1, x13_13), (1, 1, (.int .i64 4 : Val))] fun x14_14 =>
 faC 3 x1_1 fun x15_15 =>
 ldC false 1 x15_15 h fun x16_16 =>
 cviC .u64 x16_16 fun x17_17 =>
 aggC [.int .u64 0, .int .i64 0] [(0, 1, x17_17), (1, 1, (.int .i64 8 : Val))] fun x18_18 =>
 aggC [.int .u64 0, .int .i64 0, .int .u64 0, .int .i64 0, .int .u64 0, .int .i64 0, .int .u64 0, .int .i64 0] [(0, 2, x6_6), (2, 2, x10_10), (4, 2, x14_14), (6, 2, x18_18)] fun x19_19 =>
 stC 8 x2_2 x19_19 h fun h =>
 ldC true 8 x2_2 h fun v21 =>
 some (v21, h)
theorem e133 (call : Call) (n : Nat) (a0 : Val) (h : Heap) : runFn call n F133 [a0] h = s133 call n a0 h := by kernel_rfl
def s134_l0 (call : Call) (n : Nat) (again0 : List Val → Heap → R) (c0 : Val) (c1 : Val) (c6 : Val) (c25 : Val) (y26 : Val) (h : Heap) : R :=
 cmC .lt y26 c25 fun x27_22 =>
 cnd x27_22 (
 biC .sub c1 (.int .i64 1 : Val) fun x32_23 =>
 biC .sub x32_23 y26 fun x34_24 =>
 biC .mul (.int .i64 8 : Val) x34_24 fun x35_25 =>
 shC .shr c0 x35_25 fun x36_26 =>
 cviC .u8 x36_26 fun x37_27 =>
 ixpC 8 1 c6 y26 fun x38_28 =>
 stC 1 x38_28 x37_27 h fun h =>
 biC .add y26 (.int .i64 1 : Val) fun x39_30 =>
 again0 [x39_30] h) (
 slaC 8 1 c6 none (some c1) fun x41_31 =>
 cvsC x41_31 h fun x42_32 =>
 some (.tup [x42_32, (.int .i64 0 : Val)], h))
def s134 (call : Call) (n : Nat) (a0 : Val) (a1 : Val) (h : Heap) : R :=
 cmC .lt a1 (.int .i64 1 : Val) fun x9_1 =>
 gdC x9_1 false h (fun k => k a1 h) fun x11_2 h =>
 gdC x9_1 false h (fun k => cmC .gt x11_2 (.int .i64 8 : Val) fun x12_3 => k x12_3 h) fun x12_4 h =>
 pickC x9_1 (.bool true : Val) x12_4 fun x13_5 =>
 gdC x13_5 false h (fun k => k a1 h) fun x15_6 h =>
 gdC x13_5 false h (fun k => cmC .lt x15_6 (.int .i64 8 : Val) fun x16_7 => k x16_7 h) fun x16_8 h =>
 gdC x13_5 false h (fun k => k x16_8 h) fun x17_9 h =>
 gdC x17_9 true h (fun k => k a0 h) fun x18_10 h =>
 gdC x17_9 true h (fun k => k a1 h) fun x19_11 h =>
 gdC x17_9 true h (fun k => biC .mul (.int .i64 8 : Val) x19_11 fun x20_12 => k x20_12 h) fun x20_13 h =>
 gdC x17_9 true h (fun k => shC .shr x18_10 x20_13 fun x21_14 => k x21_14 h) fun x21_15 h =>
 gdC x17_9 true h (fun k => cmC .ne x21_15 (.int .u64 0 : Val) fun x22_16 => k x22_16 h) fun x22_17 h =>
 gdC x13_5 false h (fun k => pickC x17_9 x22_17 (.bool false : Val) fun x23_18 => k x23_18 h) fun x23_19 h =>
 pickC x13_5 (.bool true : Val) x23_19 fun x24_20 =>
 cnd x24_20 (
 some (.tup [(.str [] : Val), (.int .i64 1 : Val)], h)) (
 allocC [.int .u8 0, .int .u8 0, .int .u8 0, .int .u8 0, .int .u8 0, .int .u8 0, .int .u8 0, .int .u8 0] h fun x6_21 h =>
 iter n (fun again0 xs h => s134_l0 call n again0 a0 a1 x6_21 a1 (getN xs 0) h) [(.int .i64 0 : Val)] h)
theorem e134 (call : Call) (n : Nat) (a0 : Val) (a1 : Val) (h : Heap) : runFn call n F134 [a0, a1] h = s134 call n a0 a1 h := by kernel_rfl
def s135 (call : Call) (n : Nat) (a0 : Val) (a1 : Val) (h : Heap) : R :=
 clC call 159 [a0] h fun x7_1 h =>
 clC call 160 [x7_1, a1] h fun x10_2 h =>
 clC call 161 [x7_1] h fun x12_3 h =>
 some (x12_3, h)
theorem e135 (call : Call) (n : Nat) (a0 : Val) (a1 : Val) (h : Heap) : runFn call n F135 [a0, a1] h = s135 call n a0 a1 h := by kernel_rfl
def s142 (call : Call) (n : Nat) (a0 : Val) (a1 : Val) (a2 : Val) (h : Heap) : R :=
 cmC .ge a1 (.int .i64 0 : Val) fun x8_1 =>
 gdC x8_1 true h (fun k => k a2 h) fun x10_2 h =>
 gdC x8_1 true h (fun k => cmC .ge x10_2 (.int .i64 0 : Val) fun x11_3 => k x11_3 h) fun x11_4 h =>
 pickC x8_1 x11_4 (.bool false : Val) fun x12_5 =>
 gdC x12_5 true h (fun k => k a1 h) fun x14_6 h =>
 gdC x12_5 true h (fun k => k a0 h) fun x15_7 h =>
 gdC x12_5 true h (fun k => clC call 120 [x15_7] h fun x16_8 h => k x16_8 h) fun x16_9 h =>
 gdC x12_5 true h (fun k => cmC .le x14_6 x16_9 fun x17_10 => k x17_10 h) fun x17_11 h =>
 pickC x12_5 x17_11 (.bool false : Val) fun x18_12 =>
 gdC x18_12 true h (fun k => k a2 h) fun x20_13 h =>
 gdC x18_12 true h (fun k => k a0 h) fun x21_14 h =>
 gdC x18_12 true h (fun k => clC call 120 [x21_14] h fun x22_15 h => k x22_15 h) fun x22_16 h =>
 gdC x18_12 true h (fun k => k a1 h) fun x23_17 h =>
 gdC x18_12 true h (fun k => biC .sub x22_16 x23_17 fun x24_18 => k x24_18 h) fun x24_19 h =>
 gdC x18_12 true h (fun k => cmC .le x20_13 x24_19 fun x25_20 => k x25_20 h) fun x25_21 h =>
 pickC x18_12 x25_21 (.bool false : Val) fun x26_22 =>
 some (x26_22, h)
theorem e142 (call : Call) (n : Nat) (a0 : Val) (a1 : Val) (a2 : Val) (h : Heap) : runFn call n F142 [a0, a1, a2] h = s142 call n a0 a1 a2 h := by kernel_rfl
def s143_j0 (call : Call) (n : Nat) (again0 : List Val → Heap → R) (w1 : Val) (w2 : Val) (w8 : Val) (w9 : Val) (w15 : Val) (w16 : Val) (w17 : Val) (h : Heap) : R :=
 biC .add w17 (.int .i64 1 : Val) fun x41_27 =>
 again0 [w8, w9, x41_27] h
def s143_l0 (call : Call) (n : Nat) (again0 : List Val → Heap → R) (c1 : Val) (c2 : Val) (c15 : Val) (c16 : Val) (y8 : Val) (y9 : Val) (y17 : Val) (h : Heap) : R :=
 cmC .lt y17 c16 fun x18_5 =>
 cnd x18_5 (
 ixsC 65 c15 y17 fun x19_6 =>
 ldC true 65 x19_6 h fun x20_7 =>
 allocC [.int .i64 0, .int .u8 0, .int .u8 0, .int .u8 0, .int .u8 0, .int .u8 0, .int .u8 0, .int .u8 0, .int .u8 0, .int .u8 0, .int .u8 0, .int .u8 0, .int .u8 0, .int .u8 0, .int .u8 0, .int .u8 0, .int .u8 0, .int .u8 0, .int .u8 0, .int .u8 0, .int .u8 0, .int .u8 0, .int .u8 0, .int .u8 0, .int .u8 0, .int .u8 0, .int .u8 0, .int .u8 0, .int .u8 0, .int .u8 0, .int .u8 0, .int .u8 0, .int .u8 0, .int .u8 0, .int .u8 0, .int .u8 0, .int .u8 0, .int .u8 0, .int .u8 0, .int .u8 0, .int .u8 0, .int .u8 0, .int .u8 0, .int .u8 0, .int .u8 0, .int .u8 0, .int .u8 0, .int .u8 0, .int .u8 0, .int .u8 0, .int .u8 0, .int .u8 0, .int .u8 0, .int .u8 0, .int .u8 0, .int .u8 0, .int .u8 0, .int .u8 0, .int .u8 0, .int .u8 0, .int .u8 0, .int .u8 0, .int .u8 0, .int .u8 0, .int .u8 0] h fun x11_8 h =>
 stC 65 x11_8 x20_7 h fun h =>
 faC 0 x11_8 fun x21_10 =>
 ldC false 1 x21_10 h fun x22_11 =>
 cmC .ge x22_11 c1 fun x24_12 =>
 gdC x24_12 true h (fun k => faC 0 x11_8 fun x26_13 => k x26_13 h) fun x26_14 h =>
 gdC x24_12 true h (fun k => ldC false 1 x26_14 h fun x27_15 => k x27_15 h) fun x27_16 h =>
 gdC x24_12 true h (fun k => k c1 h) fun x28_17 h =>
 gdC x24_12 true h (fun k => biC .sub x27_16 x28_17 fun x29_18 => k x29_18 h) fun x29_19 h =>
 gdC x24_12 true h (fun k => k c2 h) fun x30_20 h =>
 gdC x24_12 true h (fun k => cmC .lt x29_19 x30_20 fun x31_21 => k x31_21 h) fun x31_22 h =>
 pickC x24_12 x31_22 (.bool false : Val) fun x32_23 =>
 cnd x32_23 (
 ldC true 65 x11_8 h fun x34_24 =>
 bslC 65 [x34_24] fun x35_25 =>
 appC true 65 y8 x35_25 h fun x36_26 h =>
 s143_j0 call n again0 c1 c2 x36_26 y9 c15 c16 y17 h) (
 ldC true 65 x11_8 h fun x38_28 =>
 bslC 65 [x38_28] fun x39_29 =>
 appC true 65 y9 x39_29 h fun x40_30 h =>
 s143_j0 call n again0 c1 c2 y8 x40_30 c15 c16 y17 h)) (
 some (.tup [y8, y9], h))
def s143 (call : Call) (n : Nat) (a0 : Val) (a1 : Val) (a2 : Val) (h : Heap) : R :=
 nilC a0 fun x13_1 =>
 faC 1 x13_1 fun x14_2 =>
 ldC false 1 x14_2 h fun x15_3 =>
 lenlC x15_3 fun x16_4 =>
 iter n (fun again0 xs h => s143_l0 call n again0 a1 a2 x15_3 x16_4 (getN xs 0) (getN xs 1) (getN xs 2) h) [(.sl .nl 65 [] : Val), (.sl .nl 65 [] : Val), (.int .i64 0 : Val)] h
theorem e143 (call : Call) (n : Nat) (a0 : Val) (a1 : Val) (a2 : Val) (h : Heap) : runFn call n F143 [a0, a1, a2] h = s143 call n a0 a1 a2 h := by kernel_rfl
def s145 (call : Call) (n : Nat) (a0 : Val) (h : Heap) : R :=
 clC call 167 [a0, (.func 168 [] : Val)] h fun x4_1 h =>
 some (x4_1, h)
theorem e145 (call : Call) (n : Nat) (a0 : Val) (h : Heap) : runFn call n F145 [a0] h = s145 call n a0 h := by kernel_rfl
def s146 (call : Call) (n : Nat) (a0 : Val) (a1 : Val) (h : Heap) : R :=
 ceC .p false a0 (.nilp : Val) fun x12_1 =>
 cnd x12_1 (
 some (.tup [(.int .i64 0 : Val), (.int .u32 0 : Val), (.int .i64 7 : Val)], h)) (
 clC call 148 [a1] h fun x15_2 h =>
 notC x15_2 fun x16_3 =>
 cnd x16_3 (
 some (.tup [(.int .i64 0 : Val), (.int .u32 0 : Val), (.int .i64 1 : Val)], h)) (
 clC call 145 [a0] h fun x18_4 h =>
 nilC a0 fun x21_5 =>
 faC 1 x21_5 fun x22_6 =>
 ldC false 1 x22_6 h fun x23_7 =>
 nilC a0 fun x25_8 =>
 faC 2 x25_8 fun x26_9 =>
 ldC false 1 x26_9 h fun x27_10 =>
 clC call 169 [x23_7, x27_10] h fun x28_11 h =>
 exC 0 x28_11 fun x29_12 =>
 exC 1 x28_11 fun x30_13 =>
 lenlC x18_4 fun x32_14 =>
 cmC .eq x32_14 (.int .i64 0 : Val) fun x33_15 =>
 gdC x33_15 false h (fun k => k x30_13 h) fun x35_16 h =>
 gdC x33_15 false h (fun k => cmC .ne x35_16 (.int .i64 0 : Val) fun x36_17 => k x36_17 h) fun x36_18 h =>
 pickC x33_15 (.bool true : Val) x36_18 fun x37_19 =>
 cnd x37_19 (
 some (.tup [(.int .i64 0 : Val), (.int .u32 0 : Val), (.int .i64 32 : Val)], h)) (
 nilC a0 fun x39_20 =>
 faC 0 x39_20 fun x40_21 =>
 ldC false 1 x40_21 h fun x41_22 =>
 ixsC 1 x18_4 (.int .i64 0 : Val) fun x43_23 =>
 ldC false 1 x43_23 h fun x44_24 =>
 ixsC 1 x41_22 x44_24 fun x46_25 =>
 stC 1 x46_25 a1 h fun h =>
 nilC a0 fun x48_27 =>
 faC 2 x48_27 fun x49_28 =>
 ldC false 1 x49_28 h fun x50_29 =>
 biC .add x50_29 (.int .i64 1 : Val) fun x51_30 =>
 nilC a0 fun x52_31 =>
 faC 2 x52_31 fun x53_32 =>
 stC 1 x53_32 x51_30 h fun h =>
 ixsC 1 x18_4 (.int .i64 0 : Val) fun x55_34 =>
 ldC false 1 x55_34 h fun x56_35 =>
 some (.tup [x56_35, x29_12, (.int .i64 0 : Val)], h))))
theorem e146 (call : Call) (n : Nat) (a0 : Val) (a1 : Val) (h : Heap) : runFn call n F146 [a0, a1] h = s146 call n a0 a1 h := by kernel_rfl
def s147 (call : Call) (n : Nat) (a0 : Val) (a1 : Val) (h : Heap) : R :=
 cmC .ge a1 (.int .i64 0 : Val) fun x6_1 =>
 gdC x6_1 true h (fun k => k a1 h) fun x8_2 h =>
 gdC x6_1 true h (fun k => k a0 h) fun x9_3 h =>
 gdC x6_1 true h (fun k => clC call 170 [x9_3] h fun x10_4 h => k x10_4 h) fun x10_5 h =>
 gdC x6_1 true h (fun k => cmC .lt x8_2 x10_5 fun x11_6 => k x11_6 h) fun x11_7 h =>
 pickC x6_1 x11_7 (.bool false : Val) fun x12_8 =>
 some (x12_8, h)
theorem e147 (call : Call) (n : Nat) (a0 : Val) (a1 : Val) (h : Heap) : runFn call n F147 [a0, a1] h = s147 call n a0 a1 h := by kernel_rfl
def s148 (call : Call) (n : Nat) (a0 : Val) (h : Heap) : R :=
 cmC .gt a0 (.int .i64 0 : Val) fun x4_1 =>
 gdC x4_1 true h (fun k => k a0 h) fun x6_2 h =>
 gdC x4_1 true h (fun k => cmC .le x6_2 (.int .i64 65535 : Val) fun x7_3 => k x7_3 h) fun x7_4 h =>
 pickC x4_1 x7_4 (.bool false : Val) fun x8_5 =>
 some (x8_5, h)
theorem e148 (call : Call) (n : Nat) (a0 : Val) (h : Heap) : runFn call n F148 [a0] h = s148 call n a0 h := by kernel_rfl
def s149 (call : Call) (n : Nat) (a0 : Val) (a1 : Val) (h : Heap) : R :=
 boxC 4 a0 h fun x2_1 h =>
 boxC 4 a1 h fun x3_2 h =>
 faC 3 x2_1 fun x5_3 =>
 ldC false 1 x5_3 h fun x6_4 =>
 faC 3 x3_2 fun x7_5 =>
 ldC false 1 x7_5 h fun x8_6 =>
 cmC .ne x6_4 x8_6 fun x9_7 =>
 cnd x9_7 (
 faC 3 x2_1 fun x10_8 =>
 ldC false 1 x10_8 h fun x11_9 =>
 faC 3 x3_2 fun x12_10 =>
 ldC false 1 x12_10 h fun x13_11 =>
 cmC .lt x11_9 x13_11 fun x14_12 =>
 some (x14_12, h)) (
 faC 2 x2_1 fun x15_13 =>
 ldC false 1 x15_13 h fun x16_14 =>
 faC 2 x3_2 fun x17_15 =>
 ldC false 1 x17_15 h fun x18_16 =>
 cmC .lt x16_14 x18_16 fun x19_17 =>
 some (x19_17, h))
theorem e149 (call : Call) (n : Nat) (a0 : Val) (a1 : Val) (h : Heap) : runFn call n F149 [a0, a1] h = s149 call n a0 a1 h := by kernel_rfl
def s152_l0 (call : Call) (n : Nat) (again0 : List Val → Heap → R) (c0 : Val) (c1 : Val) (c7 : Val) (y8 : Val) (h : Heap) : R :=
 cmC .lt y8 c7 fun x9_2 =>
 cnd x9_2 (
 ixsC 1 c0 y8 fun x14_3 =>
 ldC false 1 x14_3 h fun x15_4 =>
 cmC .eq c1 x15_4 fun x16_5 =>
 cnd x16_5 (
 some (y8, h)) (
 biC .add y8 (.int .i64 1 : Val) fun x18_6 =>
 again0 [x18_6] h)) (
 some ((.int .i64 (-1) : Val), h))
def s152 (call : Call) (n : Nat) (a0 : Val) (a1 : Val) (h : Heap) : R :=
 lenlC a0 fun x7_1 =>
 iter n (fun again0 xs h => s152_l0 call n again0 a0 a1 x7_1 (getN xs 0) h) [(.int .i64 0 : Val)] h
theorem e152 (call : Call) (n : Nat) (a0 : Val) (a1 : Val) (h : Heap) : runFn call n F152 [a0, a1] h = s152 call n a0 a1 h := by kernel_rfl
def s153 (call : Call) (n : Nat) (a0 : Val) (a1 : Val) (h : Heap) : R :=
 ceC .p false a0 (.nilp : Val) fun x8_1 =>
 cnd x8_1 (
 some (.tup [(.str [] : Val), (.int .i64 7 : Val)], h)) (
 clC call 121 [a0, a1] h fun x12_2 h =>
 notC x12_2 fun x13_3 =>
 cnd x13_3 (
 some (.tup [(.str [] : Val), (.int .i64 20 : Val)], h)) (
 nilC a0 fun x15_4 =>
 faC 0 x15_4 fun x16_5 =>
 ldC false 1 x16_5 h fun x17_6 =>
 ixsC 64 x17_6 a1 fun x19_7 =>
 slaC 64 1 x19_7 none none fun x20_8 =>
 cvsC x20_8 h fun x21_9 =>
 some (.tup [x21_9, (.int .i64 0 : Val)], h)))
theorem e153 (call : Call) (n : Nat) (a0 : Val) (a1 : Val) (h : Heap) : runFn call n F153 [a0, a1] h = s153 call n a0 a1 h := by kernel_rfl
def s155_l0 (call : Call) (n : Nat) (again0 : List Val → Heap → R) (c0 : Val) (c14 : Val) (y4 : Val) (y15 : Val) (h : Heap) : R :=
 cmC .lt y15 c14 fun x16_9 =>
 cnd x16_9 (
 shC .shl y4 (.int .u64 8 : Val) fun x19_10 =>
 ixtC c0 y15 fun x22_11 =>
 cviC .u64 x22_11 fun x23_12 =>
 biC .or x19_10 x23_12 fun x24_13 =>
 biC .add y15 (.int .i64 1 : Val) fun x25_14 =>
 again0 [x24_13, x25_14] h) (
 some (.tup [y4, (.int .i64 0 : Val)], h))
def s155 (call : Call) (n : Nat) (a0 : Val) (h : Heap) : R :=
 cmC .eq a0 (.str [] : Val) fun x7_1 =>
 gdC x7_1 false h (fun k => k a0 h) fun x9_2 h =>
 gdC x7_1 false h (fun k => lensC x9_2 fun x10_3 => k x10_3 h) fun x10_4 h =>
 gdC x7_1 false h (fun k => cmC .gt x10_4 (.int .i64 8 : Val) fun x11_5 => k x11_5 h) fun x11_6 h =>
 pickC x7_1 (.bool true : Val) x11_6 fun x12_7 =>
 cnd x12_7 (
 some (.tup [(.int .u64 0 : Val), (.int .i64 1 : Val)], h)) (
 lensC a0 fun x14_8 =>
 iter n (fun again0 xs h => s155_l0 call n again0 a0 x14_8 (getN xs 0) (getN xs 1) h) [(.int .u64 0 : Val), (.int .i64 0 : Val)] h)
theorem e155 (call : Call) (n : Nat) (a0 : Val) (h : Heap) : runFn call n F155 [a0] h = s155 call n a0 h := by kernel_rfl
def s156 (call : Call) (n : Nat) (a0 : Val) (h : Heap) : R :=
 clC call 155 [a0] h fun x7_1 h =>
 exC 0 x7_1 fun x8_2 =>
 exC 1 x7_1 fun x9_3 =>
 cviC .i64 x8_2 fun x11_4 =>
 some (x11_4, h)
theorem e156 (call : Call) (n : Nat) (a0 : Val) (h : Heap) : runFn call n F156 [a0] h = s156 call n a0 h := by kernel_rfl
def s157_l0 (call : Call) (n : Nat) (again0 : List Val → Heap → R) (c3 : Val) (c7 : Val) (c8 : Val) (y9 : Val) (h : Heap) : R :=
 cmC .lt y9 c8 fun x10_3 =>
 cnd x10_3 (
 ixsC 1 c7 y9 fun x11_4 =>
 ldC false 1 x11_4 h fun x12_5 =>
 clC call 160 [c3, x12_5] h fun x15_6 h =>
 biC .add y9 (.int .i64 1 : Val) fun x16_7 =>
 again0 [x16_7] h) (
 clC call 161 [c3] h fun x18_8 h =>
 some (x18_8, h))
def s157 (call : Call) (n : Nat) (a0 : Val) (h : Heap) : R :=
 clC call 159 [(.int .u32 0 : Val)] h fun x6_1 h =>
 lenlC a0 fun x8_2 =>
 iter n (fun again0 xs h => s157_l0 call n again0 x6_1 a0 x8_2 (getN xs 0) h) [(.int .i64 0 : Val)] h
theorem e157 (call : Call) (n : Nat) (a0 : Val) (h : Heap) : runFn call n F157 [a0] h = s157 call n a0 h := by kernel_rfl
def s158 (call : Call) (n : Nat) (a0 : Val) (a1 : Val) (h : Heap) : R :=
 cviC .u64 a0 fun x11_1 =>
 clC call 134 [x11_1, (.int .i64 4 : Val)] h fun x12_2 h =>
 exC 0 x12_2 fun x13_3 =>
 exC 1 x12_2 fun x14_4 =>
 cviC .u64 a1 fun x17_5 =>
 clC call 134 [x17_5, (.int .i64 2 : Val)] h fun x18_6 h =>
 exC 0 x18_6 fun x19_7 =>
 exC 1 x18_6 fun x20_8 =>
 addSC x13_3 x19_7 fun x23_9 =>
 some (x23_9, h)
theorem e158 (call : Call) (n : Nat) (a0 : Val) (a1 : Val) (h : Heap) : runFn call n F158 [a0, a1] h = s158 call n a0 a1 h := by kernel_rfl
def s159 (call : Call) (n : Nat) (a0 : Val) (h : Heap) : R :=
 cplC a0 fun x4_1 =>
 aggC [.int .u32 0] [(0, 1, x4_1)] fun x5_2 =>
 boxC 1 x5_2 h fun x6_3 h =>
 some (x6_3, h)
theorem e159 (call : Call) (n : Nat) (a0 : Val) (h : Heap) : runFn call n F159 [a0] h = s159 call n a0 h := by kernel_rfl
def s160_l0 (call : Call) (n : Nat) (again0 : List Val → Heap → R) (c0 : Val) (c1 : Val) (c8 : Val) (y9 : Val) (h : Heap) : R :=
 cmC .lt y9 c8 fun x10_3 =>
 cnd x10_3 (
 nilC c0 fun x14_4 =>
 faC 0 x14_4 fun x15_5 =>
 ldC false 1 x15_5 h fun x16_6 =>
 ixtC c1 y9 fun x19_7 =>
 clC call 171 [x16_6, x19_7] h fun x20_8 h =>
 nilC c0 fun x21_9 =>
 faC 0 x21_9 fun x22_10 =>
 stC 1 x22_10 x20_8 h fun h =>
 biC .add y9 (.int .i64 1 : Val) fun x23_12 =>
 again0 [x23_12] h) (
 some (.tup [], h))
def s160 (call : Call) (n : Nat) (a0 : Val) (a1 : Val) (h : Heap) : R :=
 ceC .p false a0 (.nilp : Val) fun x6_1 =>
 cnd x6_1 (
 some (.tup [], h)) (
 lensC a1 fun x8_2 =>
 iter n (fun again0 xs h => s160_l0 call n again0 a0 a1 x8_2 (getN xs 0) h) [(.int .i64 0 : Val)] h)
theorem e160 (call : Call) (n : Nat) (a0 : Val) (a1 : Val) (h : Heap) : runFn call n F160 [a0, a1] h = s160 call n a0 a1 h := by kernel_rfl
def s161 (call : Call) (n : Nat) (a0 : Val) (h : Heap) : R :=
 ceC .p false a0 (.nilp : Val) fun x4_1 =>
 cnd x4_1 (
 some ((.int .u32 0 : Val), h)) (
 nilC a0 fun x6_2 =>
 faC 0 x6_2 fun x7_3 =>
 ldC false 1 x7_3 h fun x8_4 =>
 cplC x8_4 fun x9_5 =>
 some (x9_5, h))
theorem e161 (call : Call) (n : Nat) (a0 : Val) (h : Heap) : runFn call n F161 [a0] h = s161 call n a0 h := by kernel_rfl
def s167_j0 (call : Call) (n : Nat) (again0 : List Val → Heap → R) (w1 : Val) (w5 : Val) (w13 : Val) (w14 : Val) (w15 : Val) (h : Heap) : R :=
 biC .add w15 (.int .i64 1 : Val) fun x27_12 =>
 again0 [w5, x27_12] h
def s167_l0 (call : Call) (n : Nat) (again0 : List Val → Heap → R) (c1 : Val) (c13 : Val) (c14 : Val) (y5 : Val) (y15 : Val) (h : Heap) : R :=
 cmC .lt y15 c14 fun x16_6 =>
 cnd x16_6 (
 ixsC 1 c13 y15 fun x18_7 =>
 ldC false 1 x18_7 h fun x19_8 =>
 cvC call c1 [x19_8] h fun x22_9 h =>
 cnd x22_9 (
 bslC 1 [y15] fun x25_10 =>
 appC false 1 y5 x25_10 h fun x26_11 h =>
 s167_j0 call n again0 c1 x26_11 c13 c14 y15 h) (
 s167_j0 call n again0 c1 y5 c13 c14 y15 h)) (
 some (y5, h))
def s167 (call : Call) (n : Nat) (a0 : Val) (a1 : Val) (h : Heap) : R :=
 ceC .p false a0 (.nilp : Val) fun x9_1 =>
 cnd x9_1 (
 some ((.sl .nl 1 [] : Val), h)) (
 nilC a0 fun x11_2 =>
 faC 0 x11_2 fun x12_3 =>
 ldC false 1 x12_3 h fun x13_4 =>
 lenlC x13_4 fun x14_5 =>
 iter n (fun again0 xs h => s167_l0 call n again0 a1 x13_4 x14_5 (getN xs 0) (getN xs 1) h) [(.sl .nl 1 [] : Val), (.int .i64 0 : Val)] h)
theorem e167 (call : Call) (n : Nat) (a0 : Val) (a1 : Val) (h : Heap) : runFn call n F167 [a0, a1] h = s167 call n a0 a1 h := by kernel_rfl
def s168 (call : Call) (n : Nat) (a0 : Val) (h : Heap) : R :=
 cmC .eq a0 (.int .i64 0 : Val) fun x4_1 =>
 some (x4_1, h)
theorem e168 (call : Call) (n : Nat) (a0 : Val) (h : Heap) : runFn call n F168 [a0] h = s168 call n a0 h := by kernel_rfl
def s169 (call : Call) (n : Nat) (a0 : Val) (a1 : Val) (h : Heap) : R :=
 cmC .lt a0 (.int .i64 0 : Val) fun x7_1 =>
 gdC x7_1 false h (fun k => k a0 h) fun x9_2 h =>
 gdC x7_1 false h (fun k => cmC .gt x9_2 (.int .i64 65535 : Val) fun x10_3 => k x10_3 h) fun x10_4 h =>
 pickC x7_1 (.bool true : Val) x10_4 fun x11_5 =>
 gdC x11_5 false h (fun k => k a1 h) fun x13_6 h =>
 gdC x11_5 false h (fun k => cmC .lt x13_6 (.int .i64 0 : Val) fun x14_7 => k x14_7 h) fun x14_8 h =>
 pickC x11_5 (.bool true : Val) x14_8 fun x15_9 =>
 gdC x15_9 false h (fun k => k a1 h) fun x17_10 h =>
 gdC x15_9 false h (fun k => cmC .gt x17_10 (.int .i64 65535 : Val) fun x18_11 => k x18_11 h) fun x18_12 h =>
 pickC x15_9 (.bool true : Val) x18_12 fun x19_13 =>
 cnd x19_13 (
 some (.tup [(.int .u32 0 : Val), (.int .i64 1 : Val)], h)) (
 cviC .u32 a0 fun x21_14 =>
 shC .shl x21_14 (.int .u64 16 : Val) fun x22_15 =>
 cviC .u32 a1 fun x24_16 =>
 biC .or x22_15 x24_16 fun x25_17 =>
 some (.tup [x25_17, (.int .i64 0 : Val)], h))
theorem e169 (call : Call) (n : Nat) (a0 : Val) (a1 : Val) (h : Heap) : runFn call n F169 [a0, a1] h = s169 call n a0 a1 h := by kernel_rfl
def s170 (call : Call) (n : Nat) (a0 : Val) (h : Heap) : R :=
 ceC .p false a0 (.nilp : Val) fun x4_1 =>
 cnd x4_1 (
 some ((.int .i64 0 : Val), h)) (
 nilC a0 fun x6_2 =>
 faC 0 x6_2 fun x7_3 =>
 ldC false 1 x7_3 h fun x8_4 =>
 lenlC x8_4 fun x9_5 =>
 some (x9_5, h))
theorem e170 (call : Call) (n : Nat) (a0 : Val) (h : Heap) : runFn call n F170 [a0] h = s170 call n a0 h := by kernel_rfl
def s171_l0 (call : Call) (n : Nat) (again0 : List Val → Heap → R) (y0 : Val) (y10 : Val) (h : Heap) : R :=
 cmC .lt y10 (.int .i64 8 : Val) fun x11_3 =>
 cnd x11_3 (
 biC .and y0 (.int .u32 1 : Val) fun x13_4 =>
 negC x13_4 fun x14_5 =>
 shC .shr y0 (.int .u64 1 : Val) fun x16_6 =>
 biC .and x14_5 (.int .u32 3988292384 : Val) fun x18_7 =>
 biC .xor x16_6 x18_7 fun x19_8 =>
 biC .add y10 (.int .i64 1 : Val) fun x20_9 =>
 again0 [x19_8, x20_9] h) (
 some (y0, h))
def s171 (call : Call) (n : Nat) (a0 : Val) (a1 : Val) (h : Heap) : R :=
 cviC .u32 a1 fun x8_1 =>
 biC .xor a0 x8_1 fun x9_2 =>
 iter n (fun again0 xs h => s171_l0 call n again0 (getN xs 0) (getN xs 1) h) [x9_2, (.int .i64 0 : Val)] h
theorem e171 (call : Call) (n : Nat) (a0 : Val) (a1 : Val) (h : Heap) : runFn call n F171 [a0, a1] h = s171 call n a0 a1 h := by kernel_rfl
end Go.AM.T

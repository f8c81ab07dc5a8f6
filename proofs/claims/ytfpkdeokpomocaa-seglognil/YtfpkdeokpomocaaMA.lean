import Derived.Test.YtfpkdeokpomocaaAMCore
set_option linter.constructorNameAsVariable false
set_option linter.unusedSimpArgs false
set_option maxRecDepth 100000
set_option linter.unusedVariables false
namespace Go.AM.T
def F8 : Fn := .code 3 116 [.tmp 6] (
  .seq (.region [⟨some 5, .box 2 (.t 2), none⟩,
      ⟨some 6, .mov (.c (.bool false)), none⟩])
  (.seq (.region [⟨some 7, .mov (.c (.nilp)), none⟩])
  (.seq (.seq (.region [⟨some 14, .fa 1 (.t 5), none⟩,
        ⟨some 15, .ld false 1 (.t 14), none⟩,
        ⟨some 16, .lens (.t 15), none⟩,
        ⟨some 17, .cm .gt (.t 16) (.c (.int .i64 900)), none⟩])
    (.cond (.t 17) (.seq (.region [⟨some 18, .cl 38 [], none⟩,
          ⟨some 6, .mov (.t 18), none⟩])
      (.ret))
    (.skip)))
  (.seq (.region [⟨some 20, .mov (.t 7), none⟩,
      ⟨some 21, .ld true 2 (.t 5), none⟩,
      ⟨some 22, .cl 39 [.t 20, .t 21], none⟩,
      ⟨some 19, .mov (.t 22), none⟩,
      ⟨some 23, .ex 0 (.t 19), none⟩,
      ⟨some 24, .ex 1 (.t 19), none⟩,
      ⟨some 8, .mov (.t 23), none⟩,
      ⟨some 9, .mov (.t 24), none⟩])
  (.seq (.region [⟨some 26, .mov (.t 7), none⟩,
      ⟨some 27, .mov (.t 0), none⟩,
      ⟨some 28, .cl 40 [.t 26, .t 27], none⟩,
      ⟨some 25, .mov (.t 28), none⟩,
      ⟨some 29, .ex 0 (.t 25), none⟩,
      ⟨some 30, .ex 1 (.t 25), none⟩,
      ⟨some 10, .alloc [.int .i64 0, .str []], none⟩,
      ⟨none, .st 2 (.t 10) (.t 29), none⟩,
      ⟨some 11, .mov (.t 30), none⟩])
  (.seq (.region [⟨some 32, .mov (.t 0), none⟩,
      ⟨some 33, .mov (.t 0), none⟩,
      ⟨some 34, .cl 41 [.c (.nilp), .c (.nilp), .t 32, .c (.int .u32 0), .t 33], none⟩,
      ⟨some 31, .mov (.t 34), none⟩,
      ⟨some 35, .ex 0 (.t 31), none⟩,
      ⟨some 36, .ex 1 (.t 31), none⟩,
      ⟨some 12, .mov (.t 35), none⟩,
      ⟨some 13, .mov (.t 36), none⟩])
  (.seq (.region [⟨some 37, .mov (.t 8), none⟩,
      ⟨some 38, .cm .eq (.t 37) (.c (.int .i64 0)), none⟩,
      ⟨some 39, .mov (.t 38), none⟩,
      ⟨some 40, .mov (.t 9), some (39, true)⟩,
      ⟨some 41, .cm .eq (.t 40) (.c (.int .i64 7)), some (39, true)⟩,
      ⟨some 42, .pick (.t 39) (.t 41) (.c (.bool false)), none⟩,
      ⟨some 43, .mov (.t 42), none⟩,
      ⟨some 44, .ld true 2 (.t 10), some (43, true)⟩,
      ⟨some 45, .agg [.int .i64 0, .str []] [], some (43, true)⟩,
      ⟨some 46, .cea [.i, .s] false (.t 44) (.t 45), some (43, true)⟩,
      ⟨some 47, .pick (.t 43) (.t 46) (.c (.bool false)), none⟩,
      ⟨some 48, .mov (.t 47), none⟩,
      ⟨some 49, .mov (.t 11), some (48, true)⟩,
      ⟨some 50, .cm .eq (.t 49) (.c (.int .i64 7)), some (48, true)⟩,
      ⟨some 51, .pick (.t 48) (.t 50) (.c (.bool false)), none⟩,
      ⟨some 52, .mov (.t 51), none⟩,
      ⟨some 53, .mov (.t 12), some (52, true)⟩,
      ⟨some 54, .ce .p false (.t 53) (.c (.nilp)), some (52, true)⟩,
      ⟨some 55, .pick (.t 52) (.t 54) (.c (.bool false)), none⟩,
      ⟨some 56, .mov (.t 55), none⟩,
      ⟨some 57, .mov (.t 13), some (56, true)⟩,
      ⟨some 58, .cm .eq (.t 57) (.c (.int .i64 7)), some (56, true)⟩,
      ⟨some 59, .pick (.t 56) (.t 58) (.c (.bool false)), none⟩,
      ⟨some 60, .mov (.t 59), none⟩,
      ⟨some 61, .mov (.t 7), some (60, true)⟩,
      ⟨some 62, .cl 42 [.t 61, .c (.sl .nl 1 [])], some (60, true)⟩,
      ⟨some 63, .cm .eq (.t 62) (.c (.int .i64 7)), some (60, true)⟩,
      ⟨some 64, .pick (.t 60) (.t 63) (.c (.bool false)), none⟩,
      ⟨some 65, .mov (.t 64), none⟩,
      ⟨some 66, .mov (.t 7), some (65, true)⟩,
      ⟨some 67, .mov (.t 0), some (65, true)⟩,
      ⟨some 68, .cl 43 [.t 66, .t 67], some (65, true)⟩,
      ⟨some 69, .cm .eq (.t 68) (.c (.int .i64 7)), some (65, true)⟩,
      ⟨some 70, .pick (.t 65) (.t 69) (.c (.bool false)), none⟩,
      ⟨some 71, .mov (.t 70), none⟩,
      ⟨some 72, .mov (.t 7), some (71, true)⟩,
      ⟨some 73, .cl 44 [.t 72], some (71, true)⟩,
      ⟨some 74, .cm .eq (.t 73) (.c (.int .i64 7)), some (71, true)⟩,
      ⟨some 75, .pick (.t 71) (.t 74) (.c (.bool false)), none⟩,
      ⟨some 76, .mov (.t 75), none⟩,
      ⟨some 77, .mov (.t 7), some (76, true)⟩,
      ⟨some 78, .mov (.t 0), some (76, true)⟩,
      ⟨some 79, .mov (.t 1), some (76, true)⟩,
      ⟨some 80, .cl 45 [.t 77, .t 78, .t 79], some (76, true)⟩,
      ⟨some 81, .lenl (.t 80), some (76, true)⟩,
      ⟨some 82, .cm .eq (.t 81) (.c (.int .i64 0)), some (76, true)⟩,
      ⟨some 83, .pick (.t 76) (.t 82) (.c (.bool false)), none⟩,
      ⟨some 84, .mov (.t 83), none⟩,
      ⟨some 85, .mov (.t 7), some (84, true)⟩,
      ⟨some 86, .ld true 2 (.t 5), some (84, true)⟩,
      ⟨some 87, .cl 46 [.t 85, .t 86], some (84, true)⟩,
      ⟨some 88, .not (.t 87), some (84, true)⟩,
      ⟨some 89, .pick (.t 84) (.t 88) (.c (.bool false)), none⟩,
      ⟨some 90, .mov (.t 89), none⟩,
      ⟨some 91, .mov (.t 7), some (90, true)⟩,
      ⟨some 92, .cl 47 [.t 91], some (90, true)⟩,
      ⟨some 93, .cm .eq (.t 92) (.c (.int .i64 0)), some (90, true)⟩,
      ⟨some 94, .pick (.t 90) (.t 93) (.c (.bool false)), none⟩,
      ⟨some 95, .mov (.t 94), none⟩,
      ⟨some 96, .mov (.t 7), some (95, true)⟩,
      ⟨some 97, .cl 48 [.t 96], some (95, true)⟩,
      ⟨some 98, .cm .eq (.t 97) (.c (.int .i64 0)), some (95, true)⟩,
      ⟨some 99, .pick (.t 95) (.t 98) (.c (.bool false)), none⟩,
      ⟨some 100, .mov (.t 99), none⟩,
      ⟨some 101, .mov (.t 7), some (100, true)⟩,
      ⟨some 102, .cl 49 [.t 101], some (100, true)⟩,
      ⟨some 103, .cm .eq (.t 102) (.c (.int .i64 0)), some (100, true)⟩,
      ⟨some 104, .pick (.t 100) (.t 103) (.c (.bool false)), none⟩,
      ⟨some 105, .mov (.t 104), none⟩,
      ⟨some 106, .mov (.t 7), some (105, true)⟩,
      ⟨some 107, .cl 50 [.t 106], some (105, true)⟩,
      ⟨some 108, .cm .eq (.t 107) (.c (.int .u32 0)), some (105, true)⟩,
      ⟨some 109, .pick (.t 105) (.t 108) (.c (.bool false)), none⟩,
      ⟨some 110, .mov (.t 109), none⟩,
      ⟨some 111, .mov (.t 7), some (110, true)⟩,
      ⟨some 112, .cl 51 [.t 111], some (110, true)⟩,
      ⟨some 113, .lenl (.t 112), some (110, true)⟩,
      ⟨some 114, .cm .eq (.t 113) (.c (.int .i64 0)), some (110, true)⟩,
      ⟨some 115, .pick (.t 110) (.t 114) (.c (.bool false)), none⟩,
      ⟨some 116, .mov (.t 115), none⟩,
      ⟨some 117, .cl 38 [], some (116, true)⟩,
      ⟨some 118, .pick (.t 116) (.t 117) (.c (.bool false)), none⟩,
      ⟨some 6, .mov (.t 118), none⟩])
  (.ret))))))))
def F10 : Fn := .code 1 95 [.tmp 2] (
  .seq (.region [⟨some 2, .mov (.c (.bool false)), none⟩])
  (.seq (.region [⟨some 12, .mov (.t 0), none⟩,
      ⟨some 13, .cl 55 [.c (.nilp), .t 12], none⟩,
      ⟨some 11, .mov (.t 13), none⟩,
      ⟨some 14, .ex 0 (.t 11), none⟩,
      ⟨some 15, .ex 1 (.t 11), none⟩,
      ⟨some 3, .mov (.t 14), none⟩,
      ⟨some 4, .mov (.t 15), none⟩])
  (.seq (.region [⟨some 16, .cl 53 [], none⟩,
      ⟨some 5, .mov (.t 16), none⟩])
  (.seq (.region [⟨some 17, .mov (.t 5), none⟩,
      ⟨some 18, .cl 36 [.t 17, .c (.int .i64 0)], none⟩])
  (.seq (.region [⟨some 19, .mov (.t 5), none⟩,
      ⟨some 20, .cl 35 [.t 19], none⟩,
      ⟨some 6, .mov (.t 20), none⟩])
  (.seq (.region [⟨some 22, .mov (.t 5), none⟩,
      ⟨some 23, .cl 55 [.t 22, .c (.int .i64 1)], none⟩,
      ⟨some 21, .mov (.t 23), none⟩,
      ⟨some 24, .ex 0 (.t 21), none⟩,
      ⟨some 25, .ex 1 (.t 21), none⟩,
      ⟨some 7, .mov (.t 24), none⟩,
      ⟨some 8, .mov (.t 25), none⟩])
  (.seq (.region [⟨some 27, .cl 53 [], none⟩,
      ⟨some 28, .mov (.t 0), none⟩,
      ⟨some 29, .min (.t 28) (.c (.int .i64 9)), none⟩,
      ⟨some 30, .cl 55 [.t 27, .t 29], none⟩,
      ⟨some 26, .mov (.t 30), none⟩,
      ⟨some 31, .ex 0 (.t 26), none⟩,
      ⟨some 32, .ex 1 (.t 26), none⟩,
      ⟨some 9, .mov (.t 31), none⟩,
      ⟨some 10, .mov (.t 32), none⟩])
  (.seq (.seq (.region [⟨some 33, .mov (.t 0), none⟩,
        ⟨some 34, .cm .gt (.t 33) (.c (.int .i64 6)), none⟩,
        ⟨some 35, .mov (.t 34), none⟩,
        ⟨some 36, .mov (.t 10), some (35, true)⟩,
        ⟨some 37, .cm .ne (.t 36) (.c (.int .i64 20)), some (35, true)⟩,
        ⟨some 38, .mov (.t 37), some (35, true)⟩,
        ⟨some 39, .mov (.t 9), some (38, false)⟩,
        ⟨some 40, .lenl (.t 39), some (38, false)⟩,
        ⟨some 41, .cm .ne (.t 40) (.c (.int .i64 0)), some (38, false)⟩,
        ⟨some 42, .pick (.t 38) (.c (.bool true)) (.t 41), some (35, true)⟩,
        ⟨some 43, .pick (.t 35) (.t 42) (.c (.bool false)), none⟩,
        ⟨some 44, .mov (.t 43), none⟩,
        ⟨some 45, .mov (.t 0), some (44, false)⟩,
        ⟨some 46, .cm .le (.t 45) (.c (.int .i64 6)), some (44, false)⟩,
        ⟨some 47, .mov (.t 46), some (44, false)⟩,
        ⟨some 48, .mov (.t 10), some (47, true)⟩,
        ⟨some 49, .cm .ne (.t 48) (.c (.int .i64 0)), some (47, true)⟩,
        ⟨some 50, .mov (.t 49), some (47, true)⟩,
        ⟨some 51, .mov (.t 9), some (50, false)⟩,
        ⟨some 52, .lenl (.t 51), some (50, false)⟩,
        ⟨some 53, .cm .ne (.t 52) (.c (.int .i64 0)), some (50, false)⟩,
        ⟨some 54, .pick (.t 50) (.c (.bool true)) (.t 53), some (47, true)⟩,
        ⟨some 55, .pick (.t 47) (.t 54) (.c (.bool false)), some (44, false)⟩,
        ⟨some 56, .pick (.t 44) (.c (.bool true)) (.t 55), none⟩])
    (.cond (.t 56) (.seq (.region [⟨some 2, .mov (.c (.bool false)), none⟩])
      (.ret))
    (.skip)))
  (.seq (.region [⟨some 57, .mov (.t 3), none⟩,
      ⟨some 58, .lenl (.t 57), none⟩,
      ⟨some 59, .cm .eq (.t 58) (.c (.int .i64 0)), none⟩,
      ⟨some 60, .mov (.t 59), none⟩,
      ⟨some 61, .mov (.t 7), some (60, true)⟩,
      ⟨some 62, .lenl (.t 61), some (60, true)⟩,
      ⟨some 63, .cm .eq (.t 62) (.c (.int .i64 0)), some (60, true)⟩,
      ⟨some 64, .pick (.t 60) (.t 63) (.c (.bool false)), none⟩,
      ⟨some 65, .mov (.t 64), none⟩,
      ⟨some 66, .mov (.t 4), some (65, true)⟩,
      ⟨some 67, .cm .eq (.t 66) (.c (.int .i64 7)), some (65, true)⟩,
      ⟨some 68, .pick (.t 65) (.t 67) (.c (.bool false)), none⟩,
      ⟨some 69, .mov (.t 68), none⟩,
      ⟨some 70, .mov (.t 6), some (69, true)⟩,
      ⟨some 71, .cm .eq (.t 70) (.c (.int .i64 21)), some (69, true)⟩,
      ⟨some 72, .pick (.t 69) (.t 71) (.c (.bool false)), none⟩,
      ⟨some 73, .mov (.t 72), none⟩,
      ⟨some 74, .mov (.t 8), some (73, true)⟩,
      ⟨some 75, .cm .eq (.t 74) (.c (.int .i64 21)), some (73, true)⟩,
      ⟨some 76, .pick (.t 73) (.t 75) (.c (.bool false)), none⟩,
      ⟨some 77, .mov (.t 76), none⟩,
      ⟨some 78, .cl 61 [.c (.nilp), .c (.sl .nl 1 []), .c (.sl .nl 1 [])], some (77, true)⟩,
      ⟨some 79, .cm .eq (.t 78) (.c (.int .i64 7)), some (77, true)⟩,
      ⟨some 80, .pick (.t 77) (.t 79) (.c (.bool false)), none⟩,
      ⟨some 81, .mov (.t 80), none⟩,
      ⟨some 82, .mov (.t 5), some (81, true)⟩,
      ⟨some 83, .cl 61 [.t 82, .c (.sl .nl 1 []), .c (.sl .nl 1 [])], some (81, true)⟩,
      ⟨some 84, .cm .eq (.t 83) (.c (.int .i64 21)), some (81, true)⟩,
      ⟨some 85, .pick (.t 81) (.t 84) (.c (.bool false)), none⟩,
      ⟨some 86, .mov (.t 85), none⟩,
      ⟨some 87, .mov (.t 0), some (86, true)⟩,
      ⟨some 88, .mov (.t 0), some (86, true)⟩,
      ⟨some 89, .cl 58 [.c (.sl .nl 1 []), .t 87, .c (.int .u32 0), .t 88], some (86, true)⟩,
      ⟨some 90, .lenl (.t 89), some (86, true)⟩,
      ⟨some 91, .cm .eq (.t 90) (.c (.int .i64 0)), some (86, true)⟩,
      ⟨some 92, .pick (.t 86) (.t 91) (.c (.bool false)), none⟩,
      ⟨some 93, .mov (.t 92), none⟩,
      ⟨some 94, .cl 52 [], some (93, true)⟩,
      ⟨some 95, .pick (.t 93) (.t 94) (.c (.bool false)), none⟩,
      ⟨some 2, .mov (.t 95), none⟩])
  (.ret))))))))))
def F20 : Fn := .code 3 19 [.tmp 6] (
  .seq (.region [⟨some 3, .box 1 (.t 0), none⟩,
      ⟨some 4, .box 1 (.t 1), none⟩,
      ⟨some 5, .box 1 (.t 2), none⟩,
      ⟨some 6, .mov (.c (.int .i64 0)), none⟩])
  (.seq (.block 0 (.seq (.region [⟨some 8, .ld false 1 (.t 3), none⟩,
          ⟨some 9, .ce .p false (.t 8) (.c (.nilp)), none⟩,
          ⟨some 7, .mov (.t 9), none⟩])
      (.cond (.t 7) (.seq (.region [⟨some 6, .mov (.c (.int .i64 7)), none⟩])
        (.ret))
      (.seq (.region [⟨some 11, .ld false 1 (.t 3), none⟩,
            ⟨some 12, .ld false 1 (.t 4), none⟩,
            ⟨some 13, .cl 72 [.t 11, .t 12], none⟩,
            ⟨some 14, .not (.t 13), none⟩,
            ⟨some 10, .mov (.t 14), none⟩])
        (.cond (.t 10) (.seq (.region [⟨some 6, .mov (.c (.int .i64 20)), none⟩])
          (.ret))
        (.seq (.region [⟨some 16, .ld false 1 (.t 5), none⟩,
              ⟨some 17, .lens (.t 16), none⟩,
              ⟨some 18, .cm .ne (.t 17) (.c (.int .i64 64)), none⟩,
              ⟨some 15, .mov (.t 18), none⟩])
          (.cond (.t 15) (.seq (.region [⟨some 6, .mov (.c (.int .i64 1)), none⟩])
            (.ret))
          (.skip))))))))
  (.seq (.region [⟨some 19, .ld false 1 (.t 3), none⟩,
      ⟨some 20, .mkf 74 [.t 3, .t 4, .t 5], none⟩,
      ⟨some 21, .cl 73 [.t 19, .t 20], none⟩,
      ⟨some 6, .mov (.t 21), none⟩])
  (.ret))))
def F21 : Fn := .code 2 38 [.tmp 4, .tmp 5] (
  .seq (.region [⟨some 4, .mov (.c (.nilp)), none⟩,
      ⟨some 5, .mov (.c (.int .i64 0)), none⟩])
  (.seq (.region [⟨some 11, .mov (.t 0), none⟩,
      ⟨some 12, .mov (.t 1), none⟩,
      ⟨some 13, .cl 76 [.t 11, .t 12], none⟩,
      ⟨some 10, .mov (.t 13), none⟩,
      ⟨some 14, .ex 0 (.t 10), none⟩,
      ⟨some 15, .ex 1 (.t 10), none⟩,
      ⟨some 6, .mov (.t 14), none⟩,
      ⟨some 7, .mov (.t 15), none⟩])
  (.seq (.seq (.region [⟨some 16, .mov (.t 7), none⟩,
        ⟨some 17, .cm .ne (.t 16) (.c (.int .i64 0)), none⟩])
    (.cond (.t 17) (.seq (.region [⟨some 18, .mov (.t 7), none⟩,
          ⟨some 4, .mov (.c (.nilp)), none⟩,
          ⟨some 5, .mov (.t 18), none⟩])
      (.ret))
    (.skip)))
  (.seq (.region [⟨some 19, .mov (.t 0), none⟩,
      ⟨some 20, .mov (.t 1), none⟩,
      ⟨some 21, .agg [.nilp, .int .i64 0, .int .i64 0, .int .u32 0, .int .u32 0, .int .i64 0, .sl .nl 2 [], .int .i64 0, .bool false] [(0, 1, .t 19), (1, 1, .t 20), (7, 1, .c (.int .i64 1)), (8, 1, .c (.bool true))], none⟩,
      ⟨some 22, .box 9 (.t 21), none⟩,
      ⟨some 23, .agg [.nilp, .str [], .str [], .str [], .str [], .str [], .str [], .str [], .str [], .str [], .str [], .str [], .str [], .str [], .str [], .str [], .str [], .int .u32 0, .int .u32 0, .int .u32 0, .int .u32 0, .int .u32 0, .int .u32 0, .int .u32 0, .int .u32 0, .int .u32 0, .int .u32 0, .int .u32 0, .int .u32 0, .int .u32 0, .int .u32 0, .int .u32 0, .int .u32 0, .int .i64 0, .int .i64 0, .int .i64 0, .int .i64 0, .int .i64 0, .int .i64 0, .int .i64 0, .int .i64 0, .int .i64 0, .int .i64 0, .int .i64 0, .int .i64 0, .int .i64 0, .int .i64 0, .int .i64 0, .int .i64 0] [(0, 1, .t 22)], none⟩,
      ⟨some 24, .box 49 (.t 23), none⟩,
      ⟨some 8, .mov (.t 24), none⟩])
  (.seq (.seq (.region [⟨some 25, .mov (.t 8), none⟩,
        ⟨some 26, .mov (.t 6), none⟩,
        ⟨some 27, .cl 77 [.t 25, .t 26], none⟩,
        ⟨some 9, .mov (.t 27), none⟩])
    (.seq (.region [⟨some 28, .mov (.t 9), none⟩,
        ⟨some 29, .cm .ne (.t 28) (.c (.int .i64 0)), none⟩])
    (.cond (.t 29) (.seq (.region [⟨some 30, .mov (.t 9), none⟩,
          ⟨some 4, .mov (.c (.nilp)), none⟩,
          ⟨some 5, .mov (.t 30), none⟩])
      (.ret))
    (.skip))))
  (.seq (.seq (.region [⟨some 31, .mov (.t 8), none⟩,
        ⟨some 32, .cl 78 [.t 31], none⟩,
        ⟨some 33, .not (.t 32), none⟩])
    (.cond (.t 33) (.seq (.region [⟨some 4, .mov (.c (.nilp)), none⟩,
          ⟨some 5, .mov (.c (.int .i64 4)), none⟩])
      (.ret))
    (.skip)))
  (.seq (.block 0 (.loop [] [34, 35] (.seq (.seq (.region [⟨some 34, .mov (.t 8), none⟩,
              ⟨some 35, .cl 79 [.t 34], none⟩])
          (.cond (.t 35) (.skip)
          (.exit 0)))
        (.block 1 (.skip)))))
  (.seq (.region [⟨some 36, .mov (.t 8), none⟩,
      ⟨some 37, .nil (.t 36), none⟩,
      ⟨some 38, .fa 0 (.t 37), none⟩,
      ⟨some 39, .ld false 1 (.t 38), none⟩,
      ⟨some 4, .mov (.t 39), none⟩,
      ⟨some 5, .mov (.c (.int .i64 0)), none⟩])
  (.ret)))))))))
def F23 : Fn := .code 2 76 [.tmp 4, .tmp 5] (
  .seq (.region [⟨some 3, .box 2 (.t 1), none⟩,
      ⟨some 4, .mov (.c (.int .i64 0)), none⟩,
      ⟨some 5, .mov (.c (.int .i64 0)), none⟩])
  (.seq (.block 0 (.seq (.region [⟨some 12, .mov (.t 0), none⟩,
          ⟨some 13, .ce .p false (.t 12) (.c (.nilp)), none⟩,
          ⟨some 11, .mov (.t 13), none⟩])
      (.cond (.t 11) (.seq (.region [⟨some 4, .mov (.c (.int .i64 0)), none⟩,
            ⟨some 5, .mov (.c (.int .i64 7)), none⟩])
        (.ret))
      (.seq (.region [⟨some 15, .mov (.t 0), none⟩,
            ⟨some 16, .nil (.t 15), none⟩,
            ⟨some 17, .fa 8 (.t 16), none⟩,
            ⟨some 18, .ld false 1 (.t 17), none⟩,
            ⟨some 14, .mov (.t 18), none⟩])
        (.cond (.t 14) (.seq (.region [⟨some 4, .mov (.c (.int .i64 0)), none⟩,
              ⟨some 5, .mov (.c (.int .i64 39)), none⟩])
          (.ret))
        (.skip))))))
  (.seq (.region [⟨some 19, .mov (.t 0), none⟩,
      ⟨some 20, .nil (.t 19), none⟩,
      ⟨some 21, .fa 7 (.t 20), none⟩,
      ⟨some 22, .ld false 1 (.t 21), none⟩,
      ⟨some 6, .mov (.t 22), none⟩])
  (.seq (.draw [.real 0 ⟨some 24, .mov (.t 0), none⟩,
      .real 1 ⟨some 25, .nil (.t 24), none⟩,
      .real 2 ⟨some 26, .fa 2 (.t 25), none⟩,
      .real 3 ⟨some 27, .fa 2 (.t 26), none⟩,
      .real 4 ⟨some 28, .ld false 1 (.t 27), none⟩,
      .real 5 ⟨some 29, .mov (.t 6), none⟩,
      .real 6 ⟨some 30, .min (.t 29) (.c (.int .i64 15)), none⟩,
      .real 7 ⟨some 31, .ld true 2 (.t 3), none⟩,
      .real 8 ⟨some 32, .cl 83 [.t 28, .t 30, .t 31], none⟩,
      .real 9 ⟨some 23, .mov (.t 32), none⟩,
      .real 10 ⟨some 33, .ex 0 (.t 23), none⟩,
      .real 11 ⟨some 34, .ex 1 (.t 23), none⟩,
      .real 12 ⟨some 7, .mov (.t 33), none⟩,
      .real 13 ⟨some 8, .mov (.t 34), none⟩])
  (.seq (.seq (.region [⟨some 35, .mov (.t 8), none⟩,
        ⟨some 36, .cm .ne (.t 35) (.c (.int .i64 0)), none⟩])
    (.cond (.t 36) (.seq (.region [⟨some 37, .mov (.t 8), none⟩,
          ⟨some 4, .mov (.c (.int .i64 0)), none⟩,
          ⟨some 5, .mov (.t 37), none⟩])
      (.ret))
    (.skip)))
  (.seq (.region [⟨some 38, .mov (.t 7), none⟩,
      ⟨some 39, .cl 84 [.t 38], none⟩,
      ⟨some 9, .mov (.t 39), none⟩])
  (.seq (.seq (.region [⟨some 40, .mov (.t 9), none⟩,
        ⟨some 41, .lenl (.t 40), none⟩,
        ⟨some 42, .mov (.t 6), none⟩,
        ⟨some 43, .bi .sub (.c (.int .i64 16)) (.t 42), none⟩,
        ⟨some 44, .cm .gt (.t 41) (.t 43), none⟩])
    (.cond (.t 44) (.seq (.region [⟨some 4, .mov (.c (.int .i64 0)), none⟩,
          ⟨some 5, .mov (.c (.int .i64 5)), none⟩])
      (.ret))
    (.skip)))
  (.seq (.seq (.region [⟨some 45, .mov (.t 0), none⟩,
        ⟨some 46, .mov (.t 6), none⟩,
        ⟨some 47, .mov (.t 0), none⟩,
        ⟨some 48, .nil (.t 47), none⟩,
        ⟨some 49, .fa 6 (.t 48), none⟩,
        ⟨some 50, .ld false 1 (.t 49), none⟩,
        ⟨some 51, .lenl (.t 50), none⟩,
        ⟨some 52, .bi .add (.t 51) (.c (.int .i64 2)), none⟩,
        ⟨some 53, .mov (.t 9), none⟩,
        ⟨some 54, .cl 85 [.t 45, .t 46, .t 52, .t 53], none⟩,
        ⟨some 10, .mov (.t 54), none⟩])
    (.seq (.region [⟨some 55, .mov (.t 10), none⟩,
        ⟨some 56, .cm .ne (.t 55) (.c (.int .i64 0)), none⟩])
    (.cond (.t 56) (.seq (.region [⟨some 57, .mov (.t 10), none⟩,
          ⟨some 4, .mov (.c (.int .i64 0)), none⟩,
          ⟨some 5, .mov (.t 57), none⟩])
      (.ret))
    (.skip))))
  (.seq (.draw [.real 0 ⟨some 58, .mov (.t 0), none⟩,
      .real 1 ⟨some 59, .mov (.t 0), none⟩,
      .real 2 ⟨some 60, .nil (.t 59), none⟩,
      .real 3 ⟨some 61, .fa 6 (.t 60), none⟩,
      .real 4 ⟨some 62, .ld false 1 (.t 61), none⟩,
      .real 5 ⟨some 63, .ld true 2 (.t 3), none⟩,
      .real 6 ⟨some 64, .bsl 2 [.t 63], none⟩,
      .real 7 ⟨some 65, .app true 2 (.t 62) (.t 64), none⟩,
      .real 8 ⟨some 66, .nil (.t 58), none⟩,
      .real 9 ⟨some 67, .fa 6 (.t 66), none⟩,
      .real 10 ⟨none, .st 1 (.t 67) (.t 65), none⟩])
  (.seq (.region [⟨some 68, .mov (.t 0), none⟩,
      ⟨some 69, .nil (.t 68), none⟩,
      ⟨some 70, .fa 7 (.t 69), none⟩,
      ⟨some 71, .ld false 1 (.t 70), none⟩,
      ⟨some 72, .mov (.t 9), none⟩,
      ⟨some 73, .lenl (.t 72), none⟩,
      ⟨some 74, .bi .add (.t 71) (.t 73), none⟩,
      ⟨some 75, .nil (.t 68), none⟩,
      ⟨some 76, .fa 7 (.t 75), none⟩,
      ⟨none, .st 1 (.t 76) (.t 74), none⟩])
  (.seq (.region [⟨some 77, .mov (.t 6), none⟩,
      ⟨some 4, .mov (.t 77), none⟩,
      ⟨some 5, .mov (.c (.int .i64 0)), none⟩])
  (.ret))))))))))))
def F24 : Fn := .code 1 9 [.cell true 4 2] (
  .seq (.region [⟨some 2, .alloc [.int .i64 0, .int .u32 0, .int .u32 0, .int .i64 0], none⟩])
  (.seq (.seq (.region [⟨some 3, .mov (.t 0), none⟩,
        ⟨some 4, .ce .p false (.t 3) (.c (.nilp)), none⟩])
    (.cond (.t 4) (.seq (.region [⟨some 5, .agg [.int .i64 0, .int .u32 0, .int .u32 0, .int .i64 0] [], none⟩,
          ⟨none, .st 4 (.t 2) (.t 5), none⟩])
      (.ret))
    (.skip)))
  (.seq (.region [⟨some 6, .mov (.t 0), none⟩,
      ⟨some 7, .nil (.t 6), none⟩,
      ⟨some 8, .fa 2 (.t 7), none⟩,
      ⟨some 9, .ld true 4 (.t 8), none⟩,
      ⟨none, .st 4 (.t 2) (.t 9), none⟩])
  (.ret))))
def F26 : Fn := .code 1 9 [.tmp 2] (
  .seq (.region [⟨some 2, .mov (.c (.sl .nl 2 [])), none⟩])
  (.seq (.seq (.region [⟨some 3, .mov (.t 0), none⟩,
        ⟨some 4, .ce .p false (.t 3) (.c (.nilp)), none⟩])
    (.cond (.t 4) (.seq (.region [⟨some 2, .mov (.c (.sl .nl 2 [])), none⟩])
      (.ret))
    (.skip)))
  (.seq (.region [⟨some 5, .mov (.t 0), none⟩,
      ⟨some 6, .nil (.t 5), none⟩,
      ⟨some 7, .fa 6 (.t 6), none⟩,
      ⟨some 8, .ld false 1 (.t 7), none⟩,
      ⟨some 9, .cl 86 [.t 8], none⟩,
      ⟨some 2, .mov (.t 9), none⟩])
  (.ret))))
def F27 : Fn := .code 1 8 [.tmp 2] (
  .seq (.region [⟨some 2, .mov (.c (.int .i64 0)), none⟩])
  (.seq (.seq (.region [⟨some 3, .mov (.t 0), none⟩,
        ⟨some 4, .ce .p false (.t 3) (.c (.nilp)), none⟩])
    (.cond (.t 4) (.seq (.region [⟨some 2, .mov (.c (.int .i64 0)), none⟩])
      (.ret))
    (.skip)))
  (.seq (.region [⟨some 5, .mov (.t 0), none⟩,
      ⟨some 6, .nil (.t 5), none⟩,
      ⟨some 7, .fa 7 (.t 6), none⟩,
      ⟨some 8, .ld false 1 (.t 7), none⟩,
      ⟨some 2, .mov (.t 8), none⟩])
  (.ret))))
def F28 : Fn := .code 1 9 [.tmp 2] (
  .seq (.region [⟨some 2, .mov (.c (.int .i64 0)), none⟩])
  (.seq (.seq (.region [⟨some 3, .mov (.t 0), none⟩,
        ⟨some 4, .ce .p false (.t 3) (.c (.nilp)), none⟩])
    (.cond (.t 4) (.seq (.region [⟨some 2, .mov (.c (.int .i64 0)), none⟩])
      (.ret))
    (.skip)))
  (.seq (.region [⟨some 5, .mov (.t 0), none⟩,
      ⟨some 6, .nil (.t 5), none⟩,
      ⟨some 7, .fa 6 (.t 6), none⟩,
      ⟨some 8, .ld false 1 (.t 7), none⟩,
      ⟨some 9, .lenl (.t 8), none⟩,
      ⟨some 2, .mov (.t 9), none⟩])
  (.ret))))
def F29 : Fn := .code 1 10 [.tmp 2] (
  .seq (.region [⟨some 2, .mov (.c (.bool false)), none⟩])
  (.seq (.region [⟨some 3, .mov (.t 0), none⟩,
      ⟨some 4, .ce .p false (.t 3) (.c (.nilp)), none⟩,
      ⟨some 5, .mov (.t 4), none⟩,
      ⟨some 6, .mov (.t 0), some (5, false)⟩,
      ⟨some 7, .nil (.t 6), some (5, false)⟩,
      ⟨some 8, .fa 8 (.t 7), some (5, false)⟩,
      ⟨some 9, .ld false 1 (.t 8), some (5, false)⟩,
      ⟨some 10, .pick (.t 5) (.c (.bool true)) (.t 9), none⟩,
      ⟨some 2, .mov (.t 10), none⟩])
  (.ret)))
def F30 : Fn := .code 3 41 [.tmp 6, .tmp 7] (
  .seq (.region [⟨some 5, .box 4 (.t 2), none⟩,
      ⟨some 6, .mov (.c (.nilp)), none⟩,
      ⟨some 7, .mov (.c (.int .i64 0)), none⟩])
  (.seq (.seq (.region [⟨some 15, .mov (.t 0), none⟩,
        ⟨some 16, .mov (.t 1), none⟩,
        ⟨some 17, .cl 76 [.t 15, .t 16], none⟩,
        ⟨some 14, .mov (.t 17), none⟩,
        ⟨some 18, .ex 0 (.t 14), none⟩,
        ⟨some 19, .ex 1 (.t 14), none⟩,
        ⟨some 8, .mov (.t 18), none⟩,
        ⟨some 9, .mov (.t 19), none⟩])
    (.seq (.region [⟨some 20, .mov (.t 9), none⟩,
        ⟨some 21, .cm .ne (.t 20) (.c (.int .i64 0)), none⟩])
    (.cond (.t 21) (.seq (.region [⟨some 22, .mov (.t 9), none⟩,
          ⟨some 6, .mov (.c (.nilp)), none⟩,
          ⟨some 7, .mov (.t 22), none⟩])
      (.ret))
    (.skip))))
  (.seq (.region [⟨some 24, .ld true 4 (.t 5), none⟩,
      ⟨some 25, .cl 87 [.t 24], none⟩,
      ⟨some 23, .mov (.t 25), none⟩,
      ⟨some 26, .ex 0 (.t 23), none⟩,
      ⟨some 27, .ex 1 (.t 23), none⟩,
      ⟨some 10, .mov (.t 26), none⟩,
      ⟨some 11, .mov (.t 27), none⟩])
  (.seq (.seq (.region [⟨some 28, .mov (.t 11), none⟩,
        ⟨some 29, .cm .ne (.t 28) (.c (.int .i64 0)), none⟩])
    (.cond (.t 29) (.seq (.region [⟨some 30, .mov (.t 11), none⟩,
          ⟨some 6, .mov (.c (.nilp)), none⟩,
          ⟨some 7, .mov (.t 30), none⟩])
      (.ret))
    (.skip)))
  (.seq (.region [⟨some 31, .mov (.t 0), none⟩,
      ⟨some 32, .mov (.t 1), none⟩,
      ⟨some 33, .ld true 4 (.t 5), none⟩,
      ⟨some 34, .agg [.nilp, .int .i64 0, .int .i64 0, .int .u32 0, .int .u32 0, .int .i64 0, .sl .nl 2 [], .int .i64 0, .bool false] [(0, 1, .t 31), (1, 1, .t 32), (2, 4, .t 33), (7, 1, .c (.int .i64 1))], none⟩,
      ⟨some 35, .box 9 (.t 34), none⟩,
      ⟨some 12, .mov (.t 35), none⟩])
  (.seq (.seq (.region [⟨some 36, .mov (.t 12), none⟩,
        ⟨some 37, .mov (.t 10), none⟩,
        ⟨some 38, .cl 84 [.t 37], none⟩,
        ⟨some 39, .cl 85 [.t 36, .c (.int .i64 0), .c (.int .i64 1), .t 38], none⟩,
        ⟨some 13, .mov (.t 39), none⟩])
    (.seq (.region [⟨some 40, .mov (.t 13), none⟩,
        ⟨some 41, .cm .ne (.t 40) (.c (.int .i64 0)), none⟩])
    (.cond (.t 41) (.seq (.region [⟨some 42, .mov (.t 13), none⟩,
          ⟨some 6, .mov (.c (.nilp)), none⟩,
          ⟨some 7, .mov (.t 42), none⟩])
      (.ret))
    (.skip))))
  (.seq (.region [⟨some 43, .mov (.t 12), none⟩,
      ⟨some 6, .mov (.t 43), none⟩,
      ⟨some 7, .mov (.c (.int .i64 0)), none⟩])
  (.ret))))))))
def F31 : Fn := .code 2 18 [.tmp 4] (
  .seq (.region [⟨some 4, .mov (.c (.int .i64 0)), none⟩])
  (.seq (.region [⟨some 8, .mov (.t 0), none⟩,
      ⟨some 9, .mov (.t 1), none⟩,
      ⟨some 10, .cl 76 [.t 8, .t 9], none⟩,
      ⟨some 7, .mov (.t 10), none⟩,
      ⟨some 11, .ex 0 (.t 7), none⟩,
      ⟨some 12, .ex 1 (.t 7), none⟩,
      ⟨some 5, .mov (.t 11), none⟩,
      ⟨some 6, .mov (.t 12), none⟩])
  (.seq (.seq (.region [⟨some 13, .mov (.t 6), none⟩,
        ⟨some 14, .cm .ne (.t 13) (.c (.int .i64 0)), none⟩])
    (.cond (.t 14) (.seq (.region [⟨some 15, .mov (.t 6), none⟩,
          ⟨some 4, .mov (.t 15), none⟩])
      (.ret))
    (.skip)))
  (.seq (.region [⟨some 16, .mov (.t 0), none⟩,
      ⟨some 17, .mov (.t 5), none⟩,
      ⟨some 18, .cl 88 [.c (.str [0]), .c (.int .i64 64)], none⟩,
      ⟨some 19, .cl 20 [.t 16, .t 17, .t 18], none⟩,
      ⟨some 4, .mov (.t 19), none⟩])
  (.ret)))))
def F33 : Fn := .code 1 6 [] (
  .seq (.region [⟨some 2, .mov (.t 0), none⟩,
      ⟨some 3, .ce .p true (.t 2) (.c (.nilp)), none⟩])
  (.cond (.t 3) (.region [⟨some 4, .mov (.t 0), none⟩,
      ⟨some 5, .nil (.t 4), none⟩,
      ⟨some 6, .fa 8 (.t 5), none⟩,
      ⟨none, .st 1 (.t 6) (.c (.bool true)), none⟩])
  (.skip)))
def F34 : Fn := .code 1 8 [.tmp 2] (
  .seq (.region [⟨some 2, .mov (.c (.int .i64 0)), none⟩])
  (.seq (.seq (.region [⟨some 3, .mov (.t 0), none⟩,
        ⟨some 4, .ce .p false (.t 3) (.c (.nilp)), none⟩])
    (.cond (.t 4) (.seq (.region [⟨some 2, .mov (.c (.int .i64 0)), none⟩])
      (.ret))
    (.skip)))
  (.seq (.region [⟨some 5, .mov (.t 0), none⟩,
      ⟨some 6, .nil (.t 5), none⟩,
      ⟨some 7, .fa 1 (.t 6), none⟩,
      ⟨some 8, .ld false 1 (.t 7), none⟩,
      ⟨some 2, .mov (.t 8), none⟩])
  (.ret))))
def F35 : Fn := .code 1 7 [.tmp 2] (
  .seq (.region [⟨some 1, .box 1 (.t 0), none⟩,
      ⟨some 2, .mov (.c (.int .i64 0)), none⟩])
  (.seq (.seq (.region [⟨some 3, .ld false 1 (.t 1), none⟩,
        ⟨some 4, .ce .p false (.t 3) (.c (.nilp)), none⟩])
    (.cond (.t 4) (.seq (.region [⟨some 2, .mov (.c (.int .i64 7)), none⟩])
      (.ret))
    (.skip)))
  (.seq (.region [⟨some 5, .ld false 1 (.t 1), none⟩,
      ⟨some 6, .mkf 89 [.t 1], none⟩,
      ⟨some 7, .cl 73 [.t 5, .t 6], none⟩,
      ⟨some 2, .mov (.t 7), none⟩])
  (.ret))))
def F36 : Fn := .code 2 16 [] (
  .seq (.region [⟨some 4, .mov (.t 0), none⟩,
      ⟨some 5, .ce .p true (.t 4) (.c (.nilp)), none⟩,
      ⟨some 6, .mov (.t 5), none⟩,
      ⟨some 7, .mov (.t 0), some (6, true)⟩,
      ⟨some 8, .nil (.t 7), some (6, true)⟩,
      ⟨some 9, .fa 5 (.t 8), some (6, true)⟩,
      ⟨some 10, .ld false 1 (.t 9), some (6, true)⟩,
      ⟨some 11, .not (.t 10), some (6, true)⟩,
      ⟨some 12, .pick (.t 6) (.t 11) (.c (.bool false)), none⟩])
  (.cond (.t 12) (.region [⟨some 13, .mov (.t 0), none⟩,
      ⟨some 14, .mov (.t 1), none⟩,
      ⟨some 15, .max (.t 14) (.c (.int .i64 (-1))), none⟩,
      ⟨some 16, .nil (.t 13), none⟩,
      ⟨some 17, .fa 3 (.t 16), none⟩,
      ⟨none, .st 1 (.t 17) (.t 15), none⟩])
  (.skip)))
def F38 : Fn := .code 0 87 [.tmp 0] (
  .seq (.region [⟨some 0, .mov (.c (.bool false)), none⟩])
  (.seq (.region [⟨some 11, .cl 92 [.c (.int .i64 6), .c (.int .i64 1)], none⟩,
      ⟨some 10, .mov (.t 11), none⟩,
      ⟨some 12, .ex 0 (.t 10), none⟩,
      ⟨some 13, .ex 1 (.t 10), none⟩,
      ⟨some 1, .mov (.t 12), none⟩,
      ⟨some 2, .mov (.t 13), none⟩])
  (.seq (.region [⟨some 15, .cl 93 [], none⟩,
      ⟨some 16, .mov (.t 1), none⟩,
      ⟨some 17, .cl 41 [.t 15, .t 16, .c (.int .i64 9), .c (.int .u32 4), .c (.int .i64 100)], none⟩,
      ⟨some 14, .mov (.t 17), none⟩,
      ⟨some 18, .ex 0 (.t 14), none⟩,
      ⟨some 19, .ex 1 (.t 14), none⟩,
      ⟨some 3, .mov (.t 18), none⟩,
      ⟨some 4, .mov (.t 19), none⟩])
  (.seq (.region [⟨some 5, .mov (.c (.int .i64 0)), none⟩])
  (.seq (.seq (.region [⟨some 20, .mov (.c (.int .i64 0)), none⟩])
    (.block 0 (.loop [5, 20] [0, 6, 7, 21, 22, 23, 24, 25, 26, 27, 28, 29, 30, 31] (.seq (.region [⟨some 21, .cm .lt (.t 20) (.c (.int .i64 8)), none⟩])
        (.seq (.cond (.t 21) (.skip)
          (.exit 0))
        (.seq (.block 1 (.seq (.region [⟨some 23, .mov (.t 3), none⟩,
                ⟨some 24, .cl 94 [], none⟩,
                ⟨some 25, .cl 39 [.t 23, .t 24], none⟩,
                ⟨some 22, .mov (.t 25), none⟩,
                ⟨some 26, .ex 0 (.t 22), none⟩,
                ⟨some 27, .ex 1 (.t 22), none⟩,
                ⟨some 6, .mov (.t 26), none⟩,
                ⟨some 7, .mov (.t 27), none⟩])
            (.seq (.seq (.region [⟨some 28, .mov (.t 7), none⟩,
                  ⟨some 29, .cm .ne (.t 28) (.c (.int .i64 0)), none⟩])
              (.cond (.t 29) (.seq (.region [⟨some 0, .mov (.c (.bool false)), none⟩])
                (.ret))
              (.skip)))
            (.region [⟨some 30, .mov (.t 6), none⟩,
              ⟨some 5, .mov (.t 30), none⟩]))))
        (.region [⟨some 31, .bi .add (.t 20) (.c (.int .i64 1)), none⟩,
          ⟨some 20, .mov (.t 31), none⟩])))))))
  (.seq (.region [⟨some 33, .mov (.t 3), none⟩,
      ⟨some 34, .cl 40 [.t 33, .c (.int .i64 107)], none⟩,
      ⟨some 32, .mov (.t 34), none⟩,
      ⟨some 35, .ex 0 (.t 32), none⟩,
      ⟨some 36, .ex 1 (.t 32), none⟩,
      ⟨some 8, .alloc [.int .i64 0, .str []], none⟩,
      ⟨none, .st 2 (.t 8) (.t 35), none⟩,
      ⟨some 9, .mov (.t 36), none⟩])
  (.seq (.draw [.real 0 ⟨some 37, .mov (.t 2), none⟩,
      .real 1 ⟨some 38, .cm .eq (.t 37) (.c (.int .i64 0)), none⟩,
      .real 2 ⟨some 39, .mov (.t 38), none⟩,
      .real 3 ⟨some 40, .mov (.t 4), some (39, true)⟩,
      .real 4 ⟨some 41, .cm .eq (.t 40) (.c (.int .i64 0)), some (39, true)⟩,
      .real 5 ⟨some 42, .pick (.t 39) (.t 41) (.c (.bool false)), none⟩,
      .real 6 ⟨some 43, .mov (.t 42), none⟩,
      .real 7 ⟨some 44, .mov (.t 9), some (43, true)⟩,
      .real 8 ⟨some 45, .cm .eq (.t 44) (.c (.int .i64 0)), some (43, true)⟩,
      .real 9 ⟨some 46, .pick (.t 43) (.t 45) (.c (.bool false)), none⟩,
      .real 10 ⟨some 47, .mov (.t 46), none⟩,
      .real 11 ⟨some 48, .mov (.t 5), some (47, true)⟩,
      .real 12 ⟨some 49, .cm .eq (.t 48) (.c (.int .i64 107)), some (47, true)⟩,
      .real 13 ⟨some 50, .pick (.t 47) (.t 49) (.c (.bool false)), none⟩,
      .real 14 ⟨some 51, .mov (.t 50), none⟩,
      .real 15 ⟨some 52, .ld true 2 (.t 8), some (51, true)⟩,
      .real 16 ⟨some 53, .cl 94 [], some (51, true)⟩,
      .chk ⟨some 52, .ld true 2 (.t 8), some (51, true)⟩,
      .real 17 ⟨some 54, .cea [.i, .s] false (.t 52) (.t 53), some (51, true)⟩,
      .real 18 ⟨some 55, .pick (.t 51) (.t 54) (.c (.bool false)), none⟩,
      .real 19 ⟨some 56, .mov (.t 55), none⟩,
      .real 20 ⟨some 57, .mov (.t 3), some (56, true)⟩,
      .real 22 ⟨some 59, .bsl 1 [.c (.int .i64 0), .c (.int .i64 1)], some (56, true)⟩,
      .real 21 ⟨some 58, .cl 51 [.t 57], some (56, true)⟩,
      .real 23 ⟨some 60, .cl 56 [.t 58, .t 59], some (56, true)⟩,
      .real 24 ⟨some 61, .pick (.t 56) (.t 60) (.c (.bool false)), none⟩,
      .real 25 ⟨some 62, .mov (.t 61), none⟩,
      .real 26 ⟨some 63, .mov (.t 3), some (62, true)⟩,
      .real 27 ⟨some 64, .cl 48 [.t 63], some (62, true)⟩,
      .real 28 ⟨some 65, .cm .eq (.t 64) (.c (.int .i64 108)), some (62, true)⟩,
      .real 29 ⟨some 66, .pick (.t 62) (.t 65) (.c (.bool false)), none⟩,
      .real 30 ⟨some 67, .mov (.t 66), none⟩,
      .real 31 ⟨some 68, .mov (.t 3), some (67, true)⟩,
      .real 32 ⟨some 69, .cl 47 [.t 68], some (67, true)⟩,
      .real 33 ⟨some 70, .cm .eq (.t 69) (.c (.int .i64 100)), some (67, true)⟩,
      .real 34 ⟨some 71, .pick (.t 67) (.t 70) (.c (.bool false)), none⟩,
      .real 35 ⟨some 72, .mov (.t 71), none⟩,
      .real 36 ⟨some 73, .mov (.t 3), some (72, true)⟩,
      .real 37 ⟨some 74, .cl 49 [.t 73], some (72, true)⟩,
      .real 38 ⟨some 75, .cm .eq (.t 74) (.c (.int .i64 9)), some (72, true)⟩,
      .real 39 ⟨some 76, .pick (.t 72) (.t 75) (.c (.bool false)), none⟩,
      .real 40 ⟨some 77, .mov (.t 76), none⟩,
      .real 41 ⟨some 78, .mov (.t 3), some (77, true)⟩,
      .real 42 ⟨some 79, .cl 50 [.t 78], some (77, true)⟩,
      .real 43 ⟨some 80, .cm .eq (.t 79) (.c (.int .u32 4)), some (77, true)⟩,
      .real 44 ⟨some 81, .pick (.t 77) (.t 80) (.c (.bool false)), none⟩,
      .real 45 ⟨some 82, .mov (.t 81), none⟩,
      .real 46 ⟨some 83, .mov (.t 1), some (82, true)⟩,
      .real 47 ⟨some 84, .cl 95 [.t 83], some (82, true)⟩,
      .real 48 ⟨some 85, .cm .eq (.t 84) (.c (.int .i64 4)), some (82, true)⟩,
      .real 49 ⟨some 86, .pick (.t 82) (.t 85) (.c (.bool false)), none⟩,
      .real 50 ⟨some 0, .mov (.t 86), none⟩])
  (.ret))))))))
def F39 : Fn := .code 2 76 [.tmp 4, .tmp 5] (
  .seq (.region [⟨some 3, .box 2 (.t 1), none⟩,
      ⟨some 4, .mov (.c (.int .i64 0)), none⟩,
      ⟨some 5, .mov (.c (.int .i64 0)), none⟩])
  (.seq (.seq (.region [⟨some 15, .mov (.t 0), none⟩,
        ⟨some 16, .ce .p false (.t 15) (.c (.nilp)), none⟩])
    (.cond (.t 16) (.seq (.region [⟨some 4, .mov (.c (.int .i64 0)), none⟩,
          ⟨some 5, .mov (.c (.int .i64 7)), none⟩])
      (.ret))
    (.skip)))
  (.seq (.seq (.region [⟨some 18, .ld true 2 (.t 3), none⟩,
        ⟨some 19, .cl 83 [.c (.int .u32 0), .c (.int .i64 1), .t 18], none⟩,
        ⟨some 17, .mov (.t 19), none⟩,
        ⟨some 20, .ex 0 (.t 17), none⟩,
        ⟨some 21, .ex 1 (.t 17), none⟩,
        ⟨some 6, .mov (.t 20), none⟩,
        ⟨some 7, .mov (.t 21), none⟩])
    (.seq (.region [⟨some 22, .mov (.t 7), none⟩,
        ⟨some 23, .cm .ne (.t 22) (.c (.int .i64 0)), none⟩])
    (.cond (.t 23) (.seq (.region [⟨some 24, .mov (.t 7), none⟩,
          ⟨some 4, .mov (.c (.int .i64 0)), none⟩,
          ⟨some 5, .mov (.t 24), none⟩])
      (.ret))
    (.skip))))
  (.seq (.seq (.region [⟨some 25, .mov (.t 0), none⟩,
        ⟨some 26, .cl 96 [.t 25], none⟩,
        ⟨some 8, .mov (.t 26), none⟩])
    (.seq (.region [⟨some 27, .mov (.t 8), none⟩,
        ⟨some 28, .ce .p true (.t 27) (.c (.nilp)), none⟩])
    (.cond (.t 28) (.seq (.region [⟨some 30, .mov (.t 8), none⟩,
          ⟨some 31, .ld true 2 (.t 3), none⟩,
          ⟨some 32, .cl 23 [.t 30, .t 31], none⟩,
          ⟨some 29, .mov (.t 32), none⟩,
          ⟨some 33, .ex 0 (.t 29), none⟩,
          ⟨some 34, .ex 1 (.t 29), none⟩,
          ⟨some 9, .mov (.t 33), none⟩,
          ⟨some 10, .mov (.t 34), none⟩])
      (.seq (.seq (.region [⟨some 35, .mov (.t 10), none⟩,
            ⟨some 36, .cm .eq (.t 35) (.c (.int .i64 0)), none⟩])
        (.cond (.t 36) (.seq (.region [⟨some 37, .mov (.t 0), none⟩,
              ⟨some 38, .cl 97 [.t 37], none⟩,
              ⟨some 4, .mov (.t 38), none⟩,
              ⟨some 5, .mov (.c (.int .i64 0)), none⟩])
          (.ret))
        (.skip)))
      (.seq (.region [⟨some 39, .mov (.t 10), none⟩,
          ⟨some 40, .cm .ne (.t 39) (.c (.int .i64 5)), none⟩])
      (.cond (.t 40) (.seq (.region [⟨some 41, .mov (.t 10), none⟩,
            ⟨some 4, .mov (.c (.int .i64 0)), none⟩,
            ⟨some 5, .mov (.t 41), none⟩])
        (.ret))
      (.skip)))))
    (.skip))))
  (.seq (.region [⟨some 43, .mov (.t 0), none⟩,
      ⟨some 44, .cl 98 [.t 43], none⟩,
      ⟨some 42, .mov (.t 44), none⟩,
      ⟨some 45, .ex 0 (.t 42), none⟩,
      ⟨some 46, .ex 1 (.t 42), none⟩,
      ⟨some 11, .mov (.t 45), none⟩,
      ⟨some 12, .mov (.t 46), none⟩])
  (.seq (.seq (.region [⟨some 47, .mov (.t 12), none⟩,
        ⟨some 48, .cm .ne (.t 47) (.c (.int .i64 0)), none⟩])
    (.cond (.t 48) (.seq (.region [⟨some 49, .mov (.t 12), none⟩,
          ⟨some 4, .mov (.c (.int .i64 0)), none⟩,
          ⟨some 5, .mov (.t 49), none⟩])
      (.ret))
    (.skip)))
  (.seq (.seq (.region [⟨some 51, .mov (.t 11), none⟩,
        ⟨some 52, .ld true 2 (.t 3), none⟩,
        ⟨some 53, .cl 23 [.t 51, .t 52], none⟩,
        ⟨some 50, .mov (.t 53), none⟩,
        ⟨some 54, .ex 0 (.t 50), none⟩,
        ⟨some 55, .ex 1 (.t 50), none⟩,
        ⟨some 13, .mov (.t 54), none⟩,
        ⟨some 14, .mov (.t 55), none⟩])
    (.seq (.region [⟨some 56, .mov (.t 14), none⟩,
        ⟨some 57, .cm .ne (.t 56) (.c (.int .i64 0)), none⟩])
    (.cond (.t 57) (.seq (.draw [.real 0 ⟨some 58, .mov (.t 0), none⟩,
          .real 1 ⟨some 59, .nil (.t 58), none⟩,
          .real 2 ⟨some 60, .fa 1 (.t 59), none⟩,
          .real 3 ⟨some 61, .ld false 1 (.t 60), none⟩,
          .real 4 ⟨some 62, .mov (.t 11), none⟩,
          .real 5 ⟨some 63, .cl 34 [.t 62], none⟩,
          .chk ⟨some 61, .ld false 1 (.t 60), none⟩,
          .real 6 ⟨some 64, .cl 99 [.t 61, .t 63], none⟩])
      (.seq (.region [⟨some 65, .mov (.t 14), none⟩,
          ⟨some 4, .mov (.c (.int .i64 0)), none⟩,
          ⟨some 5, .mov (.t 65), none⟩])
      (.ret)))
    (.skip))))
  (.seq (.region [⟨some 66, .mov (.t 0), none⟩,
      ⟨some 67, .mov (.t 0), none⟩,
      ⟨some 68, .nil (.t 67), none⟩,
      ⟨some 69, .fa 6 (.t 68), none⟩,
      ⟨some 70, .ld false 1 (.t 69), none⟩,
      ⟨some 71, .mov (.t 11), none⟩,
      ⟨some 72, .bsl 1 [.t 71], none⟩,
      ⟨some 73, .app false 1 (.t 70) (.t 72), none⟩,
      ⟨some 74, .nil (.t 66), none⟩,
      ⟨some 75, .fa 6 (.t 74), none⟩,
      ⟨none, .st 1 (.t 75) (.t 73), none⟩])
  (.seq (.region [⟨some 76, .mov (.t 0), none⟩,
      ⟨some 77, .cl 97 [.t 76], none⟩,
      ⟨some 4, .mov (.t 77), none⟩,
      ⟨some 5, .mov (.c (.int .i64 0)), none⟩])
  (.ret))))))))))
def F40 : Fn := .code 2 43 [.cell true 2 4, .tmp 5] (
  .seq (.region [⟨some 4, .alloc [.int .i64 0, .str []], none⟩,
      ⟨some 5, .mov (.c (.int .i64 0)), none⟩])
  (.seq (.block 0 (.seq (.region [⟨some 8, .mov (.t 0), none⟩,
          ⟨some 9, .ce .p false (.t 8) (.c (.nilp)), none⟩,
          ⟨some 7, .mov (.t 9), none⟩])
      (.cond (.t 7) (.seq (.region [⟨some 10, .agg [.int .i64 0, .str []] [], none⟩,
            ⟨none, .st 2 (.t 4) (.t 10), none⟩,
            ⟨some 5, .mov (.c (.int .i64 7)), none⟩])
        (.ret))
      (.seq (.region [⟨some 12, .mov (.t 1), none⟩,
            ⟨some 13, .mov (.t 0), none⟩,
            ⟨some 14, .nil (.t 13), none⟩,
            ⟨some 15, .fa 4 (.t 14), none⟩,
            ⟨some 16, .ld false 1 (.t 15), none⟩,
            ⟨some 17, .cm .lt (.t 12) (.t 16), none⟩,
            ⟨some 18, .mov (.t 17), none⟩,
            ⟨some 19, .mov (.t 1), some (18, false)⟩,
            ⟨some 20, .mov (.t 0), some (18, false)⟩,
            ⟨some 21, .nil (.t 20), some (18, false)⟩,
            ⟨some 22, .fa 5 (.t 21), some (18, false)⟩,
            ⟨some 23, .ld false 1 (.t 22), some (18, false)⟩,
            ⟨some 24, .cm .ge (.t 19) (.t 23), some (18, false)⟩,
            ⟨some 25, .pick (.t 18) (.c (.bool true)) (.t 24), none⟩,
            ⟨some 11, .mov (.t 25), none⟩])
        (.cond (.t 11) (.seq (.region [⟨some 26, .agg [.int .i64 0, .str []] [], none⟩,
              ⟨none, .st 2 (.t 4) (.t 26), none⟩,
              ⟨some 5, .mov (.c (.int .i64 34)), none⟩])
          (.ret))
        (.skip))))))
  (.seq (.draw [.real 0 ⟨some 27, .mov (.t 0), none⟩,
      .real 1 ⟨some 28, .nil (.t 27), none⟩,
      .real 2 ⟨some 29, .fa 6 (.t 28), none⟩,
      .real 3 ⟨some 30, .ld false 1 (.t 29), none⟩,
      .real 4 ⟨some 31, .mov (.t 0), none⟩,
      .real 5 ⟨some 32, .mov (.t 1), none⟩,
      .real 6 ⟨some 33, .cl 100 [.t 31, .t 32], none⟩,
      .chk ⟨some 30, .ld false 1 (.t 29), none⟩,
      .real 7 ⟨some 34, .ixs 1 (.t 30) (.t 33), none⟩,
      .real 8 ⟨some 35, .ld false 1 (.t 34), none⟩,
      .real 9 ⟨some 6, .mov (.t 35), none⟩])
  (.seq (.region [⟨some 36, .mov (.t 6), none⟩,
      ⟨some 37, .cl 26 [.t 36], none⟩,
      ⟨some 38, .mov (.t 1), none⟩,
      ⟨some 39, .mov (.t 6), none⟩,
      ⟨some 40, .cl 24 [.t 39], none⟩,
      ⟨some 41, .fd false 3 1 (.t 40), none⟩,
      ⟨some 42, .bi .sub (.t 38) (.t 41), none⟩,
      ⟨some 43, .ixs 2 (.t 37) (.t 42), none⟩,
      ⟨some 44, .ld true 2 (.t 43), none⟩,
      ⟨none, .st 2 (.t 4) (.t 44), none⟩,
      ⟨some 5, .mov (.c (.int .i64 0)), none⟩])
  (.ret)))))
def F41 : Fn := .code 5 37 [.tmp 10, .tmp 11] (
  .seq (.region [⟨some 10, .mov (.c (.nilp)), none⟩,
      ⟨some 11, .mov (.c (.int .i64 0)), none⟩])
  (.seq (.block 0 (.seq (.region [⟨some 13, .mov (.t 0), none⟩,
          ⟨some 14, .ce .p false (.t 13) (.c (.nilp)), none⟩,
          ⟨some 15, .mov (.t 14), none⟩,
          ⟨some 16, .mov (.t 1), some (15, false)⟩,
          ⟨some 17, .ce .p false (.t 16) (.c (.nilp)), some (15, false)⟩,
          ⟨some 18, .pick (.t 15) (.c (.bool true)) (.t 17), none⟩,
          ⟨some 12, .mov (.t 18), none⟩])
      (.cond (.t 12) (.seq (.region [⟨some 10, .mov (.c (.nilp)), none⟩,
            ⟨some 11, .mov (.c (.int .i64 7)), none⟩])
        (.ret))
      (.seq (.region [⟨some 20, .mov (.t 2), none⟩,
            ⟨some 21, .cm .lt (.t 20) (.c (.int .i64 1)), none⟩,
            ⟨some 22, .mov (.t 21), none⟩,
            ⟨some 23, .mov (.t 2), some (22, false)⟩,
            ⟨some 24, .cm .gt (.t 23) (.c (.int .i64 65535)), some (22, false)⟩,
            ⟨some 25, .pick (.t 22) (.c (.bool true)) (.t 24), none⟩,
            ⟨some 26, .mov (.t 25), none⟩,
            ⟨some 27, .mov (.t 4), some (26, false)⟩,
            ⟨some 28, .cm .lt (.t 27) (.c (.int .i64 0)), some (26, false)⟩,
            ⟨some 29, .pick (.t 26) (.c (.bool true)) (.t 28), none⟩,
            ⟨some 30, .mov (.t 29), none⟩,
            ⟨some 31, .mov (.t 4), some (30, false)⟩,
            ⟨some 32, .cm .gt (.t 31) (.c (.int .i64 1099511627776)), some (30, false)⟩,
            ⟨some 33, .pick (.t 30) (.c (.bool true)) (.t 32), none⟩,
            ⟨some 19, .mov (.t 33), none⟩])
        (.cond (.t 19) (.seq (.region [⟨some 10, .mov (.c (.nilp)), none⟩,
              ⟨some 11, .mov (.c (.int .i64 1)), none⟩])
          (.ret))
        (.skip))))))
  (.seq (.region [⟨some 34, .mov (.t 0), none⟩,
      ⟨some 35, .mov (.t 1), none⟩,
      ⟨some 36, .mov (.t 2), none⟩,
      ⟨some 37, .mov (.t 3), none⟩,
      ⟨some 38, .mov (.t 4), none⟩,
      ⟨some 39, .mov (.t 4), none⟩,
      ⟨some 40, .agg [.nilp, .nilp, .int .i64 0, .int .u32 0, .int .i64 0, .int .i64 0, .sl .nl 1 []] [(0, 1, .t 34), (1, 1, .t 35), (2, 1, .t 36), (3, 1, .t 37), (4, 1, .t 38), (5, 1, .t 39)], none⟩,
      ⟨some 41, .box 7 (.t 40), none⟩,
      ⟨some 10, .mov (.t 41), none⟩,
      ⟨some 11, .mov (.c (.int .i64 0)), none⟩])
  (.ret))))
def F42 : Fn := .code 2 103 [.tmp 4] (
  .seq (.region [⟨some 4, .mov (.c (.int .i64 0)), none⟩])
  (.seq (.block 0 (.seq (.region [⟨some 13, .mov (.t 0), none⟩,
          ⟨some 14, .ce .p false (.t 13) (.c (.nilp)), none⟩,
          ⟨some 15, .mov (.t 14), none⟩,
          ⟨some 16, .mov (.t 0), some (15, false)⟩,
          ⟨some 17, .nil (.t 16), some (15, false)⟩,
          ⟨some 18, .fa 6 (.t 17), some (15, false)⟩,
          ⟨some 19, .ld false 1 (.t 18), some (15, false)⟩,
          ⟨some 20, .lenl (.t 19), some (15, false)⟩,
          ⟨some 21, .cm .gt (.t 20) (.c (.int .i64 0)), some (15, false)⟩,
          ⟨some 22, .pick (.t 15) (.c (.bool true)) (.t 21), none⟩,
          ⟨some 12, .mov (.t 22), none⟩])
      (.cond (.t 12) (.seq (.region [⟨some 4, .mov (.c (.int .i64 7)), none⟩])
        (.ret))
      (.seq (.region [⟨some 24, .mov (.t 0), none⟩,
            ⟨some 25, .mov (.t 1), none⟩,
            ⟨some 26, .cl 101 [.t 24, .t 25], none⟩,
            ⟨some 27, .not (.t 26), none⟩,
            ⟨some 23, .mov (.t 27), none⟩])
        (.cond (.t 23) (.seq (.region [⟨some 4, .mov (.c (.int .i64 4)), none⟩])
          (.ret))
        (.skip))))))
  (.seq (.seq (.region [⟨some 28, .mov (.t 1), none⟩,
        ⟨some 29, .lenl (.t 28), none⟩,
        ⟨some 30, .mov (.c (.int .i64 0)), none⟩])
    (.block 1 (.loop [30] [4, 5, 6, 7, 9, 31, 32, 33, 34, 35, 36, 37, 38, 39, 40, 41, 42, 43, 44, 45, 46, 47, 48, 49, 50, 51, 52, 53, 54, 55, 56, 57, 58, 59, 60, 61, 62, 63, 64, 65] (.seq (.region [⟨some 31, .cm .lt (.t 30) (.t 29), none⟩])
        (.seq (.cond (.t 31) (.skip)
          (.exit 1))
        (.seq (.block 2 (.seq (.region [⟨some 32, .mov (.t 30), none⟩,
                ⟨some 33, .ixs 1 (.t 28) (.t 30), none⟩,
                ⟨some 34, .ld false 1 (.t 33), none⟩,
                ⟨some 5, .mov (.t 32), none⟩,
                ⟨some 6, .mov (.t 34), none⟩])
            (.seq (.draw [.real 0 ⟨some 35, .mov (.t 0), none⟩,
                .real 1 ⟨some 36, .nil (.t 35), none⟩,
                .real 2 ⟨some 37, .fa 1 (.t 36), none⟩,
                .real 3 ⟨some 38, .ld false 1 (.t 37), none⟩,
                .real 4 ⟨some 39, .mov (.t 6), none⟩,
                .real 6 ⟨some 41, .mov (.t 0), none⟩,
                .real 7 ⟨some 42, .nil (.t 41), none⟩,
                .real 8 ⟨some 43, .fa 2 (.t 42), none⟩,
                .real 9 ⟨some 44, .ld false 1 (.t 43), none⟩,
                .real 5 ⟨some 40, .cl 34 [.t 39], none⟩,
                .chk ⟨some 38, .ld false 1 (.t 37), none⟩,
                .chk ⟨some 44, .ld false 1 (.t 43), none⟩,
                .real 10 ⟨some 45, .cl 102 [.t 38, .t 40, .t 44], none⟩,
                .real 11 ⟨some 7, .mov (.t 45), none⟩])
            (.seq (.region [⟨some 46, .mov (.t 7), none⟩,
                ⟨some 47, .cm .ne (.t 46) (.c (.int .i64 0)), none⟩])
            (.cond (.t 47) (.seq (.seq (.region [⟨some 48, .mov (.t 1), none⟩,
                    ⟨some 49, .mov (.t 5), none⟩,
                    ⟨some 50, .sll 1 (.t 48) none (some (.t 49)), none⟩,
                    ⟨some 51, .lenl (.t 50), none⟩,
                    ⟨some 52, .mov (.c (.int .i64 0)), none⟩])
                (.block 3 (.loop [52] [9, 53, 54, 55, 56, 57, 58, 59, 60, 61, 62, 63] (.seq (.region [⟨some 53, .cm .lt (.t 52) (.t 51), none⟩])
                    (.seq (.cond (.t 53) (.skip)
                      (.exit 3))
                    (.seq (.block 4 (.seq (.region [⟨some 54, .ixs 1 (.t 50) (.t 52), none⟩,
                            ⟨some 55, .ld false 1 (.t 54), none⟩,
                            ⟨some 9, .mov (.t 55), none⟩])
                        (.draw [.real 0 ⟨some 56, .mov (.t 0), none⟩,
                          .real 1 ⟨some 57, .nil (.t 56), none⟩,
                          .real 2 ⟨some 58, .fa 1 (.t 57), none⟩,
                          .real 3 ⟨some 59, .ld false 1 (.t 58), none⟩,
                          .real 4 ⟨some 60, .mov (.t 9), none⟩,
                          .real 5 ⟨some 61, .cl 34 [.t 60], none⟩,
                          .chk ⟨some 59, .ld false 1 (.t 58), none⟩,
                          .real 6 ⟨some 62, .cl 99 [.t 59, .t 61], none⟩])))
                    (.region [⟨some 63, .bi .add (.t 52) (.c (.int .i64 1)), none⟩,
                      ⟨some 52, .mov (.t 63), none⟩])))))))
              (.seq (.region [⟨some 64, .mov (.t 7), none⟩,
                  ⟨some 4, .mov (.t 64), none⟩])
              (.ret)))
            (.skip))))))
        (.region [⟨some 65, .bi .add (.t 30) (.c (.int .i64 1)), none⟩,
          ⟨some 30, .mov (.t 65), none⟩])))))))
  (.seq (.seq (.region [⟨some 66, .mov (.t 1), none⟩,
        ⟨some 67, .lenl (.t 66), none⟩,
        ⟨some 68, .mov (.c (.int .i64 0)), none⟩])
    (.block 5 (.loop [68] [11, 69, 70, 71, 72, 73, 74, 75, 76, 77, 78, 79, 80, 81, 82, 83, 84, 85, 86, 87, 88, 89, 90, 91, 92, 93] (.seq (.region [⟨some 69, .cm .lt (.t 68) (.t 67), none⟩])
        (.seq (.cond (.t 69) (.skip)
          (.exit 5))
        (.seq (.block 6 (.seq (.region [⟨some 70, .ixs 1 (.t 66) (.t 68), none⟩,
                ⟨some 71, .ld false 1 (.t 70), none⟩,
                ⟨some 11, .mov (.t 71), none⟩])
            (.seq (.region [⟨some 72, .mov (.t 11), none⟩,
                ⟨some 73, .cl 33 [.t 72], none⟩])
            (.seq (.region [⟨some 74, .mov (.t 0), none⟩,
                ⟨some 75, .mov (.t 0), none⟩,
                ⟨some 76, .nil (.t 75), none⟩,
                ⟨some 77, .fa 6 (.t 76), none⟩,
                ⟨some 78, .ld false 1 (.t 77), none⟩,
                ⟨some 79, .mov (.t 11), none⟩,
                ⟨some 80, .bsl 1 [.t 79], none⟩,
                ⟨some 81, .app false 1 (.t 78) (.t 80), none⟩,
                ⟨some 82, .nil (.t 74), none⟩,
                ⟨some 83, .fa 6 (.t 82), none⟩,
                ⟨none, .st 1 (.t 83) (.t 81), none⟩])
            (.region [⟨some 84, .mov (.t 0), none⟩,
              ⟨some 85, .mov (.t 11), none⟩,
              ⟨some 86, .cl 24 [.t 85], none⟩,
              ⟨some 87, .fd false 3 1 (.t 86), none⟩,
              ⟨some 88, .mov (.t 11), none⟩,
              ⟨some 89, .cl 28 [.t 88], none⟩,
              ⟨some 90, .bi .add (.t 87) (.t 89), none⟩,
              ⟨some 91, .nil (.t 84), none⟩,
              ⟨some 92, .fa 5 (.t 91), none⟩,
              ⟨none, .st 1 (.t 92) (.t 90), none⟩])))))
        (.region [⟨some 93, .bi .add (.t 68) (.c (.int .i64 1)), none⟩,
          ⟨some 68, .mov (.t 93), none⟩])))))))
  (.seq (.seq (.region [⟨some 94, .mov (.t 1), none⟩,
        ⟨some 95, .lenl (.t 94), none⟩,
        ⟨some 96, .cm .gt (.t 95) (.c (.int .i64 0)), none⟩])
    (.cond (.t 96) (.region [⟨some 97, .mov (.t 0), none⟩,
        ⟨some 98, .mov (.t 1), none⟩,
        ⟨some 99, .ixs 1 (.t 98) (.c (.int .i64 0)), none⟩,
        ⟨some 100, .ld false 1 (.t 99), none⟩,
        ⟨some 101, .cl 24 [.t 100], none⟩,
        ⟨some 102, .fd false 3 1 (.t 101), none⟩,
        ⟨some 103, .nil (.t 97), none⟩,
        ⟨some 104, .fa 4 (.t 103), none⟩,
        ⟨none, .st 1 (.t 104) (.t 102), none⟩])
    (.skip)))
  (.seq (.region [⟨some 4, .mov (.c (.int .i64 0)), none⟩])
  (.ret)))))))
def F43 : Fn := .code 2 37 [.tmp 4] (
  .seq (.region [⟨some 4, .mov (.c (.int .i64 0)), none⟩])
  (.seq (.seq (.region [⟨some 6, .mov (.t 0), none⟩,
        ⟨some 7, .ce .p false (.t 6) (.c (.nilp)), none⟩])
    (.cond (.t 7) (.seq (.region [⟨some 4, .mov (.c (.int .i64 7)), none⟩])
      (.ret))
    (.skip)))
  (.seq (.block 0 (.loop [] [4, 5, 8, 9, 10, 11, 12, 13, 14, 15, 16, 17, 18, 19, 20, 21, 22, 23, 24, 25, 26, 27, 28, 29, 30, 31, 32, 33, 34, 35, 36, 37, 38] (.seq (.seq (.draw [.real 0 ⟨some 8, .mov (.t 0), none⟩,
              .real 1 ⟨some 9, .nil (.t 8), none⟩,
              .real 2 ⟨some 10, .fa 6 (.t 9), none⟩,
              .real 3 ⟨some 11, .ld false 1 (.t 10), none⟩,
              .real 4 ⟨some 12, .lenl (.t 11), none⟩,
              .real 5 ⟨some 13, .cm .gt (.t 12) (.c (.int .i64 1)), none⟩,
              .real 6 ⟨some 14, .mov (.t 13), none⟩,
              .real 7 ⟨some 15, .mov (.t 0), some (14, true)⟩,
              .real 8 ⟨some 16, .nil (.t 15), some (14, true)⟩,
              .real 9 ⟨some 17, .fa 6 (.t 16), some (14, true)⟩,
              .real 10 ⟨some 18, .ld false 1 (.t 17), some (14, true)⟩,
              .real 11 ⟨some 19, .ixs 1 (.t 18) (.c (.int .i64 0)), some (14, true)⟩,
              .real 12 ⟨some 20, .ld false 1 (.t 19), some (14, true)⟩,
              .real 15 ⟨some 23, .mov (.t 0), some (14, true)⟩,
              .real 16 ⟨some 24, .nil (.t 23), some (14, true)⟩,
              .real 17 ⟨some 25, .fa 6 (.t 24), some (14, true)⟩,
              .real 18 ⟨some 26, .ld false 1 (.t 25), some (14, true)⟩,
              .real 19 ⟨some 27, .ixs 1 (.t 26) (.c (.int .i64 0)), some (14, true)⟩,
              .real 20 ⟨some 28, .ld false 1 (.t 27), some (14, true)⟩,
              .real 23 ⟨some 31, .mov (.t 1), some (14, true)⟩,
              .real 13 ⟨some 21, .cl 24 [.t 20], some (14, true)⟩,
              .chk ⟨some 26, .ld false 1 (.t 25), some (14, true)⟩,
              .chk ⟨some 28, .ld false 1 (.t 27), some (14, true)⟩,
              .real 14 ⟨some 22, .fd false 3 1 (.t 21), some (14, true)⟩,
              .real 21 ⟨some 29, .cl 28 [.t 28], some (14, true)⟩,
              .real 22 ⟨some 30, .bi .add (.t 22) (.t 29), some (14, true)⟩,
              .real 24 ⟨some 32, .cm .le (.t 30) (.t 31), some (14, true)⟩,
              .real 25 ⟨some 33, .pick (.t 14) (.t 32) (.c (.bool false)), none⟩])
          (.cond (.t 33) (.skip)
          (.exit 0)))
        (.block 1 (.seq (.region [⟨some 34, .mov (.t 0), none⟩,
              ⟨some 35, .cl 103 [.t 34], none⟩,
              ⟨some 5, .mov (.t 35), none⟩])
          (.seq (.region [⟨some 36, .mov (.t 5), none⟩,
              ⟨some 37, .cm .ne (.t 36) (.c (.int .i64 0)), none⟩])
          (.cond (.t 37) (.seq (.region [⟨some 38, .mov (.t 5), none⟩,
                ⟨some 4, .mov (.t 38), none⟩])
            (.ret))
          (.skip))))))))
  (.seq (.region [⟨some 4, .mov (.c (.int .i64 0)), none⟩])
  (.ret)))))
def F44 : Fn := .code 1 16 [.tmp 2] (
  .seq (.region [⟨some 2, .mov (.c (.int .i64 0)), none⟩])
  (.seq (.seq (.region [⟨some 4, .mov (.t 0), none⟩,
        ⟨some 5, .ce .p false (.t 4) (.c (.nilp)), none⟩])
    (.cond (.t 5) (.seq (.region [⟨some 2, .mov (.c (.int .i64 7)), none⟩])
      (.ret))
    (.skip)))
  (.seq (.block 0 (.loop [] [2, 3, 6, 7, 8, 9, 10, 11, 12, 13, 14, 15, 16] (.seq (.seq (.region [⟨some 6, .mov (.t 0), none⟩,
              ⟨some 7, .nil (.t 6), none⟩,
              ⟨some 8, .fa 6 (.t 7), none⟩,
              ⟨some 9, .ld false 1 (.t 8), none⟩,
              ⟨some 10, .lenl (.t 9), none⟩,
              ⟨some 11, .cm .gt (.t 10) (.c (.int .i64 0)), none⟩])
          (.cond (.t 11) (.skip)
          (.exit 0)))
        (.block 1 (.seq (.region [⟨some 12, .mov (.t 0), none⟩,
              ⟨some 13, .cl 103 [.t 12], none⟩,
              ⟨some 3, .mov (.t 13), none⟩])
          (.seq (.region [⟨some 14, .mov (.t 3), none⟩,
              ⟨some 15, .cm .ne (.t 14) (.c (.int .i64 0)), none⟩])
          (.cond (.t 15) (.seq (.region [⟨some 16, .mov (.t 3), none⟩,
                ⟨some 2, .mov (.t 16), none⟩])
            (.ret))
          (.skip))))))))
  (.seq (.region [⟨some 2, .mov (.c (.int .i64 0)), none⟩])
  (.ret)))))
def F45 : Fn := .code 3 68 [.tmp 6] (
  .seq (.region [⟨some 6, .mov (.c (.sl .nl 2 [])), none⟩])
  (.seq (.region [⟨some 7, .mov (.c (.sl .nl 2 [])), none⟩])
  (.seq (.seq (.region [⟨some 12, .mov (.t 0), none⟩,
        ⟨some 13, .ce .p false (.t 12) (.c (.nilp)), none⟩,
        ⟨some 14, .mov (.t 13), none⟩,
        ⟨some 15, .mov (.t 1), some (14, false)⟩,
        ⟨some 16, .mov (.t 0), some (14, false)⟩,
        ⟨some 17, .nil (.t 16), some (14, false)⟩,
        ⟨some 18, .fa 4 (.t 17), some (14, false)⟩,
        ⟨some 19, .ld false 1 (.t 18), some (14, false)⟩,
        ⟨some 20, .cm .lt (.t 15) (.t 19), some (14, false)⟩,
        ⟨some 21, .pick (.t 14) (.c (.bool true)) (.t 20), none⟩,
        ⟨some 22, .mov (.t 21), none⟩,
        ⟨some 23, .mov (.t 1), some (22, false)⟩,
        ⟨some 24, .mov (.t 0), some (22, false)⟩,
        ⟨some 25, .nil (.t 24), some (22, false)⟩,
        ⟨some 26, .fa 5 (.t 25), some (22, false)⟩,
        ⟨some 27, .ld false 1 (.t 26), some (22, false)⟩,
        ⟨some 28, .cm .ge (.t 23) (.t 27), some (22, false)⟩,
        ⟨some 29, .pick (.t 22) (.c (.bool true)) (.t 28), none⟩])
    (.cond (.t 29) (.seq (.region [⟨some 6, .mov (.c (.sl .nl 2 [])), none⟩])
      (.ret))
    (.skip)))
  (.seq (.seq (.draw [.real 0 ⟨some 30, .mov (.t 0), none⟩,
        .real 1 ⟨some 31, .nil (.t 30), none⟩,
        .real 2 ⟨some 32, .fa 6 (.t 31), none⟩,
        .real 3 ⟨some 33, .ld false 1 (.t 32), none⟩,
        .real 4 ⟨some 34, .mov (.t 0), none⟩,
        .real 5 ⟨some 35, .mov (.t 1), none⟩,
        .real 9 ⟨some 39, .mov (.c (.int .i64 0)), none⟩,
        .real 6 ⟨some 36, .cl 100 [.t 34, .t 35], none⟩,
        .chk ⟨some 33, .ld false 1 (.t 32), none⟩,
        .real 7 ⟨some 37, .sll 1 (.t 33) (some (.t 36)) none, none⟩,
        .real 8 ⟨some 38, .lenl (.t 37), none⟩])
    (.block 0 (.loop [7, 39] [9, 10, 11, 40, 41, 42, 43, 44, 45, 46, 47, 48, 49, 50, 51, 52, 53, 54, 55, 56, 57, 58, 59, 60, 61, 62, 63, 64, 65, 66, 67, 68, 69] (.seq (.region [⟨some 40, .cm .lt (.t 39) (.t 38), none⟩])
        (.seq (.cond (.t 40) (.skip)
          (.exit 0))
        (.seq (.block 1 (.seq (.region [⟨some 41, .ixs 1 (.t 37) (.t 39), none⟩,
                ⟨some 42, .ld false 1 (.t 41), none⟩,
                ⟨some 9, .mov (.t 42), none⟩])
            (.seq (.region [⟨some 43, .mov (.t 9), none⟩,
                ⟨some 44, .cl 26 [.t 43], none⟩,
                ⟨some 45, .lenl (.t 44), none⟩,
                ⟨some 46, .mov (.c (.int .i64 0)), none⟩])
            (.block 2 (.loop [7, 46] [10, 11, 47, 48, 49, 50, 51, 52, 53, 54, 55, 56, 57, 58, 59, 60, 61, 62, 63, 64, 65, 66, 67, 68] (.seq (.region [⟨some 47, .cm .lt (.t 46) (.t 45), none⟩])
                (.seq (.cond (.t 47) (.skip)
                  (.exit 2))
                (.seq (.block 3 (.seq (.region [⟨some 48, .mov (.t 46), none⟩,
                        ⟨some 49, .ixs 2 (.t 44) (.t 46), none⟩,
                        ⟨some 50, .ld true 2 (.t 49), none⟩,
                        ⟨some 11, .alloc [.int .i64 0, .str []], none⟩,
                        ⟨some 10, .mov (.t 48), none⟩,
                        ⟨none, .st 2 (.t 11) (.t 50), none⟩])
                    (.seq (.region [⟨some 51, .mov (.t 9), none⟩,
                        ⟨some 52, .cl 24 [.t 51], none⟩,
                        ⟨some 53, .fd false 3 1 (.t 52), none⟩,
                        ⟨some 54, .mov (.t 10), none⟩,
                        ⟨some 55, .bi .add (.t 53) (.t 54), none⟩,
                        ⟨some 56, .mov (.t 1), none⟩,
                        ⟨some 57, .cm .ge (.t 55) (.t 56), none⟩,
                        ⟨some 58, .mov (.t 57), none⟩,
                        ⟨some 59, .mov (.t 7), some (58, true)⟩,
                        ⟨some 60, .lenl (.t 59), some (58, true)⟩,
                        ⟨some 61, .mov (.t 2), some (58, true)⟩,
                        ⟨some 62, .cm .lt (.t 60) (.t 61), some (58, true)⟩,
                        ⟨some 63, .pick (.t 58) (.t 62) (.c (.bool false)), none⟩])
                    (.cond (.t 63) (.region [⟨some 64, .mov (.t 7), none⟩,
                        ⟨some 65, .ld true 2 (.t 11), none⟩,
                        ⟨some 66, .bsl 2 [.t 65], none⟩,
                        ⟨some 67, .app true 2 (.t 64) (.t 66), none⟩,
                        ⟨some 7, .mov (.t 67), none⟩])
                    (.skip)))))
                (.region [⟨some 68, .bi .add (.t 46) (.c (.int .i64 1)), none⟩,
                  ⟨some 46, .mov (.t 68), none⟩])))))))))
        (.region [⟨some 69, .bi .add (.t 39) (.c (.int .i64 1)), none⟩,
          ⟨some 39, .mov (.t 69), none⟩])))))))
  (.seq (.region [⟨some 70, .mov (.t 7), none⟩,
      ⟨some 6, .mov (.t 70), none⟩])
  (.ret))))))
def F46 : Fn := .code 2 29 [.tmp 4] (
  .seq (.region [⟨some 3, .box 2 (.t 1), none⟩,
      ⟨some 4, .mov (.c (.bool false)), none⟩])
  (.seq (.seq (.region [⟨some 7, .mov (.t 0), none⟩,
        ⟨some 8, .ce .p false (.t 7) (.c (.nilp)), none⟩,
        ⟨some 9, .mov (.t 8), none⟩,
        ⟨some 10, .mov (.t 0), some (9, false)⟩,
        ⟨some 11, .cl 96 [.t 10], some (9, false)⟩,
        ⟨some 12, .ce .p false (.t 11) (.c (.nilp)), some (9, false)⟩,
        ⟨some 13, .pick (.t 9) (.c (.bool true)) (.t 12), none⟩])
    (.cond (.t 13) (.seq (.region [⟨some 4, .mov (.c (.bool false)), none⟩])
      (.ret))
    (.skip)))
  (.seq (.region [⟨some 15, .ld true 2 (.t 3), none⟩,
      ⟨some 16, .cl 83 [.c (.int .u32 0), .c (.int .i64 1), .t 15], none⟩,
      ⟨some 14, .mov (.t 16), none⟩,
      ⟨some 17, .ex 0 (.t 14), none⟩,
      ⟨some 18, .ex 1 (.t 14), none⟩,
      ⟨some 5, .mov (.t 17), none⟩,
      ⟨some 6, .mov (.t 18), none⟩])
  (.seq (.region [⟨some 19, .mov (.t 6), none⟩,
      ⟨some 20, .cm .eq (.t 19) (.c (.int .i64 0)), none⟩,
      ⟨some 21, .mov (.t 20), none⟩,
      ⟨some 22, .ld true 2 (.t 3), some (21, true)⟩,
      ⟨some 23, .cl 105 [.t 22], some (21, true)⟩,
      ⟨some 24, .cl 104 [.t 23], some (21, true)⟩,
      ⟨some 25, .mov (.t 0), some (21, true)⟩,
      ⟨some 26, .cl 96 [.t 25], some (21, true)⟩,
      ⟨some 27, .cl 27 [.t 26], some (21, true)⟩,
      ⟨some 28, .bi .sub (.c (.int .i64 16)) (.t 27), some (21, true)⟩,
      ⟨some 29, .cm .le (.t 24) (.t 28), some (21, true)⟩,
      ⟨some 30, .pick (.t 21) (.t 29) (.c (.bool false)), none⟩,
      ⟨some 4, .mov (.t 30), none⟩])
  (.ret)))))
def F47 : Fn := .code 1 8 [.tmp 2] (
  .seq (.region [⟨some 2, .mov (.c (.int .i64 0)), none⟩])
  (.seq (.seq (.region [⟨some 3, .mov (.t 0), none⟩,
        ⟨some 4, .ce .p false (.t 3) (.c (.nilp)), none⟩])
    (.cond (.t 4) (.seq (.region [⟨some 2, .mov (.c (.int .i64 0)), none⟩])
      (.ret))
    (.skip)))
  (.seq (.region [⟨some 5, .mov (.t 0), none⟩,
      ⟨some 6, .nil (.t 5), none⟩,
      ⟨some 7, .fa 4 (.t 6), none⟩,
      ⟨some 8, .ld false 1 (.t 7), none⟩,
      ⟨some 2, .mov (.t 8), none⟩])
  (.ret))))
def F48 : Fn := .code 1 8 [.tmp 2] (
  .seq (.region [⟨some 2, .mov (.c (.int .i64 0)), none⟩])
  (.seq (.seq (.region [⟨some 3, .mov (.t 0), none⟩,
        ⟨some 4, .ce .p false (.t 3) (.c (.nilp)), none⟩])
    (.cond (.t 4) (.seq (.region [⟨some 2, .mov (.c (.int .i64 0)), none⟩])
      (.ret))
    (.skip)))
  (.seq (.region [⟨some 5, .mov (.t 0), none⟩,
      ⟨some 6, .nil (.t 5), none⟩,
      ⟨some 7, .fa 5 (.t 6), none⟩,
      ⟨some 8, .ld false 1 (.t 7), none⟩,
      ⟨some 2, .mov (.t 8), none⟩])
  (.ret))))
def F49 : Fn := .code 1 8 [.tmp 2] (
  .seq (.region [⟨some 2, .mov (.c (.int .i64 0)), none⟩])
  (.seq (.seq (.region [⟨some 3, .mov (.t 0), none⟩,
        ⟨some 4, .ce .p false (.t 3) (.c (.nilp)), none⟩])
    (.cond (.t 4) (.seq (.region [⟨some 2, .mov (.c (.int .i64 0)), none⟩])
      (.ret))
    (.skip)))
  (.seq (.region [⟨some 5, .mov (.t 0), none⟩,
      ⟨some 6, .nil (.t 5), none⟩,
      ⟨some 7, .fa 2 (.t 6), none⟩,
      ⟨some 8, .ld false 1 (.t 7), none⟩,
      ⟨some 2, .mov (.t 8), none⟩])
  (.ret))))
def F50 : Fn := .code 1 8 [.tmp 2] (
  .seq (.region [⟨some 2, .mov (.c (.int .u32 0)), none⟩])
  (.seq (.seq (.region [⟨some 3, .mov (.t 0), none⟩,
        ⟨some 4, .ce .p false (.t 3) (.c (.nilp)), none⟩])
    (.cond (.t 4) (.seq (.region [⟨some 2, .mov (.c (.int .u32 0)), none⟩])
      (.ret))
    (.skip)))
  (.seq (.region [⟨some 5, .mov (.t 0), none⟩,
      ⟨some 6, .nil (.t 5), none⟩,
      ⟨some 7, .fa 3 (.t 6), none⟩,
      ⟨some 8, .ld false 1 (.t 7), none⟩,
      ⟨some 2, .mov (.t 8), none⟩])
  (.ret))))
def F51 : Fn := .code 1 23 [.tmp 2] (
  .seq (.region [⟨some 2, .mov (.c (.sl .nl 1 [])), none⟩])
  (.seq (.region [⟨some 3, .mov (.c (.sl .nl 1 [])), none⟩])
  (.seq (.seq (.region [⟨some 6, .mov (.t 0), none⟩,
        ⟨some 7, .ce .p false (.t 6) (.c (.nilp)), none⟩])
    (.cond (.t 7) (.seq (.region [⟨some 2, .mov (.c (.sl .nl 1 [])), none⟩])
      (.ret))
    (.skip)))
  (.seq (.seq (.region [⟨some 8, .mov (.t 0), none⟩,
        ⟨some 9, .nil (.t 8), none⟩,
        ⟨some 10, .fa 6 (.t 9), none⟩,
        ⟨some 11, .ld false 1 (.t 10), none⟩,
        ⟨some 12, .lenl (.t 11), none⟩,
        ⟨some 13, .mov (.c (.int .i64 0)), none⟩])
    (.block 0 (.loop [3, 13] [5, 14, 15, 16, 17, 18, 19, 20, 21, 22] (.seq (.region [⟨some 14, .cm .lt (.t 13) (.t 12), none⟩])
        (.seq (.cond (.t 14) (.skip)
          (.exit 0))
        (.seq (.block 1 (.seq (.region [⟨some 15, .ixs 1 (.t 11) (.t 13), none⟩,
                ⟨some 16, .ld false 1 (.t 15), none⟩,
                ⟨some 5, .mov (.t 16), none⟩])
            (.region [⟨some 17, .mov (.t 3), none⟩,
              ⟨some 18, .mov (.t 5), none⟩,
              ⟨some 19, .cl 34 [.t 18], none⟩,
              ⟨some 20, .bsl 1 [.t 19], none⟩,
              ⟨some 21, .app false 1 (.t 17) (.t 20), none⟩,
              ⟨some 3, .mov (.t 21), none⟩])))
        (.region [⟨some 22, .bi .add (.t 13) (.c (.int .i64 1)), none⟩,
          ⟨some 13, .mov (.t 22), none⟩])))))))
  (.seq (.region [⟨some 23, .mov (.t 3), none⟩,
      ⟨some 2, .mov (.t 23), none⟩])
  (.ret))))))
def F52 : Fn := .code 0 74 [.tmp 0] (
  .seq (.region [⟨some 0, .mov (.c (.bool false)), none⟩])
  (.seq (.region [⟨some 11, .cl 53 [], none⟩,
      ⟨some 1, .mov (.t 11), none⟩])
  (.seq (.region [⟨some 12, .mov (.t 1), none⟩,
      ⟨some 13, .agg [.int .i64 0, .int .u32 0, .int .u32 0, .int .i64 0] [(0, 1, .c (.int .i64 3)), (1, 1, .c (.int .u32 1)), (2, 1, .c (.int .u32 1)), (3, 1, .c (.int .i64 9))], none⟩,
      ⟨some 14, .cl 54 [.t 12, .c (.int .i64 0), .t 13, .c (.int .i64 2)], none⟩,
      ⟨some 2, .mov (.t 14), none⟩])
  (.seq (.region [⟨some 15, .mov (.t 1), none⟩,
      ⟨some 16, .agg [.int .i64 0, .int .u32 0, .int .u32 0, .int .i64 0] [(0, 1, .c (.int .i64 3)), (1, 1, .c (.int .u32 1)), (2, 1, .c (.int .u32 2)), (3, 1, .c (.int .i64 0))], none⟩,
      ⟨some 17, .cl 54 [.t 15, .c (.int .i64 2), .t 16, .c (.int .i64 5)], none⟩,
      ⟨some 3, .mov (.t 17), none⟩])
  (.seq (.region [⟨some 18, .mov (.t 1), none⟩,
      ⟨some 19, .agg [.int .i64 0, .int .u32 0, .int .u32 0, .int .i64 0] [(0, 1, .c (.int .i64 3)), (1, 1, .c (.int .u32 1)), (2, 1, .c (.int .u32 3)), (3, 1, .c (.int .i64 5))], none⟩,
      ⟨some 20, .cl 54 [.t 18, .c (.int .i64 3), .t 19, .c (.int .i64 3)], none⟩,
      ⟨some 4, .mov (.t 20), none⟩])
  (.seq (.region [⟨some 22, .mov (.t 1), none⟩,
      ⟨some 23, .cl 55 [.t 22, .c (.int .i64 6)], none⟩,
      ⟨some 21, .mov (.t 23), none⟩,
      ⟨some 24, .ex 0 (.t 21), none⟩,
      ⟨some 25, .ex 1 (.t 21), none⟩,
      ⟨some 5, .mov (.t 24), none⟩,
      ⟨some 6, .mov (.t 25), none⟩])
  (.seq (.region [⟨some 26, .mov (.t 5), none⟩,
      ⟨some 27, .cl 58 [.t 26, .c (.int .i64 3), .c (.int .u32 1), .c (.int .i64 2)], none⟩,
      ⟨some 7, .mov (.t 27), none⟩])
  (.seq (.region [⟨some 28, .mov (.t 1), none⟩,
      ⟨some 29, .mov (.t 5), none⟩,
      ⟨some 30, .mov (.t 7), none⟩,
      ⟨some 31, .cl 61 [.t 28, .t 29, .t 30], none⟩,
      ⟨some 8, .mov (.t 31), none⟩])
  (.seq (.region [⟨some 33, .mov (.t 1), none⟩,
      ⟨some 34, .cl 55 [.t 33, .c (.int .i64 6)], none⟩,
      ⟨some 32, .mov (.t 34), none⟩,
      ⟨some 35, .ex 0 (.t 32), none⟩,
      ⟨some 36, .ex 1 (.t 32), none⟩,
      ⟨some 9, .mov (.t 35), none⟩,
      ⟨some 10, .mov (.t 36), none⟩])
  (.seq (.region [⟨some 37, .mov (.t 2), none⟩,
      ⟨some 38, .mov (.t 37), none⟩,
      ⟨some 39, .mov (.t 3), some (38, true)⟩,
      ⟨some 40, .pick (.t 38) (.t 39) (.c (.bool false)), none⟩,
      ⟨some 41, .mov (.t 40), none⟩,
      ⟨some 42, .mov (.t 4), some (41, true)⟩,
      ⟨some 43, .pick (.t 41) (.t 42) (.c (.bool false)), none⟩,
      ⟨some 44, .mov (.t 43), none⟩,
      ⟨some 45, .mov (.t 6), some (44, true)⟩,
      ⟨some 46, .cm .eq (.t 45) (.c (.int .i64 0)), some (44, true)⟩,
      ⟨some 47, .pick (.t 44) (.t 46) (.c (.bool false)), none⟩,
      ⟨some 48, .mov (.t 47), none⟩,
      ⟨some 49, .mov (.t 8), some (48, true)⟩,
      ⟨some 50, .cm .eq (.t 49) (.c (.int .i64 0)), some (48, true)⟩,
      ⟨some 51, .pick (.t 48) (.t 50) (.c (.bool false)), none⟩,
      ⟨some 52, .mov (.t 51), none⟩,
      ⟨some 53, .mov (.t 10), some (52, true)⟩,
      ⟨some 54, .cm .eq (.t 53) (.c (.int .i64 0)), some (52, true)⟩,
      ⟨some 55, .pick (.t 52) (.t 54) (.c (.bool false)), none⟩,
      ⟨some 56, .mov (.t 55), none⟩,
      ⟨some 57, .mov (.t 5), some (56, true)⟩,
      ⟨some 58, .cl 57 [.t 57], some (56, true)⟩,
      ⟨some 59, .bsl 1 [.c (.int .i64 0), .c (.int .i64 2), .c (.int .i64 3)], some (56, true)⟩,
      ⟨some 60, .cl 56 [.t 58, .t 59], some (56, true)⟩,
      ⟨some 61, .pick (.t 56) (.t 60) (.c (.bool false)), none⟩,
      ⟨some 62, .mov (.t 61), none⟩,
      ⟨some 63, .mov (.t 7), some (62, true)⟩,
      ⟨some 64, .cl 57 [.t 63], some (62, true)⟩,
      ⟨some 65, .bsl 1 [.c (.int .i64 2), .c (.int .i64 3)], some (62, true)⟩,
      ⟨some 66, .cl 56 [.t 64, .t 65], some (62, true)⟩,
      ⟨some 67, .pick (.t 62) (.t 66) (.c (.bool false)), none⟩,
      ⟨some 68, .mov (.t 67), none⟩,
      ⟨some 69, .mov (.t 9), some (68, true)⟩,
      ⟨some 70, .cl 57 [.t 69], some (68, true)⟩,
      ⟨some 71, .bsl 1 [.c (.int .i64 2), .c (.int .i64 3)], some (68, true)⟩,
      ⟨some 72, .cl 56 [.t 70, .t 71], some (68, true)⟩,
      ⟨some 73, .pick (.t 68) (.t 72) (.c (.bool false)), none⟩,
      ⟨some 0, .mov (.t 73), none⟩])
  (.ret)))))))))))
def F53 : Fn := .code 0 15 [.tmp 0] (
  .seq (.region [⟨some 0, .mov (.c (.nilp)), none⟩])
  (.seq (.region [⟨some 6, .cl 70 [.c (.int .i64 98)], none⟩,
      ⟨some 5, .mov (.t 6), none⟩,
      ⟨some 7, .ex 0 (.t 5), none⟩,
      ⟨some 8, .ex 1 (.t 5), none⟩,
      ⟨some 1, .mov (.t 7), none⟩,
      ⟨some 2, .mov (.t 8), none⟩])
  (.seq (.region [⟨some 10, .mov (.t 1), none⟩,
      ⟨some 11, .cl 71 [.t 10, .c (.int .i64 0), .c (.int .i64 98)], none⟩,
      ⟨some 9, .mov (.t 11), none⟩,
      ⟨some 12, .ex 0 (.t 9), none⟩,
      ⟨some 13, .ex 1 (.t 9), none⟩,
      ⟨some 3, .mov (.t 12), none⟩,
      ⟨some 4, .mov (.t 13), none⟩])
  (.seq (.region [⟨some 14, .mov (.t 3), none⟩,
      ⟨some 0, .mov (.t 14), none⟩])
  (.ret)))))
def F54 : Fn := .code 4 34 [.tmp 8] (
  .seq (.region [⟨some 6, .box 4 (.t 2), none⟩,
      ⟨some 8, .mov (.c (.bool false)), none⟩])
  (.seq (.region [⟨some 15, .mov (.t 0), none⟩,
      ⟨some 16, .mov (.t 1), none⟩,
      ⟨some 17, .ld true 4 (.t 6), none⟩,
      ⟨some 18, .cl 30 [.t 15, .t 16, .t 17], none⟩,
      ⟨some 14, .mov (.t 18), none⟩,
      ⟨some 19, .ex 0 (.t 14), none⟩,
      ⟨some 20, .ex 1 (.t 14), none⟩,
      ⟨some 9, .mov (.t 19), none⟩,
      ⟨some 10, .mov (.t 20), none⟩])
  (.seq (.seq (.region [⟨some 21, .mov (.t 3), none⟩,
        ⟨some 22, .mov (.c (.int .i64 0)), none⟩])
    (.block 0 (.loop [22] [8, 11, 12, 13, 23, 24, 25, 26, 27, 28, 29, 30, 31, 32, 33, 34, 35] (.seq (.region [⟨some 23, .cm .lt (.t 22) (.t 21), none⟩])
        (.seq (.cond (.t 23) (.skip)
          (.exit 0))
        (.seq (.block 1 (.seq (.region [⟨some 24, .mov (.t 22), none⟩,
                ⟨some 11, .mov (.t 24), none⟩])
            (.seq (.region [⟨some 26, .mov (.t 9), none⟩,
                ⟨some 27, .mov (.t 11), none⟩,
                ⟨some 28, .bi .add (.c (.int .i64 1)) (.t 27), none⟩,
                ⟨some 29, .agg [.int .i64 0, .str []] [(0, 1, .t 28)], none⟩,
                ⟨some 30, .cl 23 [.t 26, .t 29], none⟩,
                ⟨some 25, .mov (.t 30), none⟩,
                ⟨some 31, .ex 0 (.t 25), none⟩,
                ⟨some 32, .ex 1 (.t 25), none⟩,
                ⟨some 12, .mov (.t 31), none⟩,
                ⟨some 13, .mov (.t 32), none⟩])
            (.seq (.region [⟨some 33, .mov (.t 13), none⟩,
                ⟨some 34, .cm .ne (.t 33) (.c (.int .i64 0)), none⟩])
            (.cond (.t 34) (.seq (.region [⟨some 8, .mov (.c (.bool false)), none⟩])
              (.ret))
            (.skip))))))
        (.region [⟨some 35, .bi .add (.t 22) (.c (.int .i64 1)), none⟩,
          ⟨some 22, .mov (.t 35), none⟩])))))))
  (.seq (.region [⟨some 36, .mov (.t 10), none⟩,
      ⟨some 37, .cm .eq (.t 36) (.c (.int .i64 0)), none⟩,
      ⟨some 8, .mov (.t 37), none⟩])
  (.ret)))))
def F55 : Fn := .code 2 33 [.tmp 4, .tmp 5] (
  .seq (.region [⟨some 4, .mov (.c (.sl .nl 1 [])), none⟩,
      ⟨some 5, .mov (.c (.int .i64 0)), none⟩])
  (.seq (.seq (.region [⟨some 10, .mov (.t 0), none⟩,
        ⟨some 11, .ce .p false (.t 10) (.c (.nilp)), none⟩])
    (.cond (.t 11) (.seq (.region [⟨some 4, .mov (.c (.sl .nl 1 [])), none⟩,
          ⟨some 5, .mov (.c (.int .i64 7)), none⟩])
      (.ret))
    (.skip)))
  (.seq (.region [⟨some 6, .mov (.c (.sl .nl 1 [])), none⟩])
  (.seq (.seq (.region [⟨some 12, .mov (.t 1), none⟩,
        ⟨some 13, .max (.t 12) (.c (.int .i64 0)), none⟩,
        ⟨some 14, .mov (.c (.int .i64 0)), none⟩])
    (.block 0 (.loop [6, 14] [4, 5, 7, 8, 9, 15, 16, 17, 18, 19, 20, 21, 22, 23, 24, 25, 26, 27, 28, 29, 30, 31, 32, 33] (.seq (.region [⟨some 15, .cm .lt (.t 14) (.t 13), none⟩])
        (.seq (.cond (.t 15) (.skip)
          (.exit 0))
        (.seq (.block 1 (.seq (.region [⟨some 16, .mov (.t 14), none⟩,
                ⟨some 7, .mov (.t 16), none⟩])
            (.seq (.region [⟨some 18, .mov (.t 0), none⟩,
                ⟨some 19, .mov (.t 7), none⟩,
                ⟨some 20, .cl 21 [.t 18, .t 19], none⟩,
                ⟨some 17, .mov (.t 20), none⟩,
                ⟨some 21, .ex 0 (.t 17), none⟩,
                ⟨some 22, .ex 1 (.t 17), none⟩,
                ⟨some 8, .mov (.t 21), none⟩,
                ⟨some 9, .mov (.t 22), none⟩])
            (.seq (.region [⟨some 23, .mov (.t 9), none⟩])
            (.block 2 (.seq (.region [⟨some 26, .cm .eq (.t 23) (.c (.int .i64 0)), none⟩,
                  ⟨some 25, .mov (.t 26), none⟩])
              (.cond (.t 25) (.region [⟨some 27, .mov (.t 6), none⟩,
                  ⟨some 28, .mov (.t 8), none⟩,
                  ⟨some 29, .bsl 1 [.t 28], none⟩,
                  ⟨some 30, .app false 1 (.t 27) (.t 29), none⟩,
                  ⟨some 6, .mov (.t 30), none⟩])
              (.seq (.region [⟨some 32, .cm .eq (.t 23) (.c (.int .i64 4)), none⟩,
                    ⟨some 31, .mov (.t 32), none⟩])
                (.cond (.t 31) (.skip)
                (.seq (.region [⟨some 24, .mov (.t 9), none⟩,
                      ⟨some 4, .mov (.c (.sl .nl 1 [])), none⟩,
                      ⟨some 5, .mov (.t 24), none⟩])
                  (.ret)))))))))))
        (.region [⟨some 33, .bi .add (.t 14) (.c (.int .i64 1)), none⟩,
          ⟨some 14, .mov (.t 33), none⟩])))))))
  (.seq (.region [⟨some 34, .mov (.t 6), none⟩,
      ⟨some 4, .mov (.t 34), none⟩,
      ⟨some 5, .mov (.c (.int .i64 0)), none⟩])
  (.ret))))))
def F56 : Fn := .code 2 24 [.tmp 4] (
  .seq (.region [⟨some 4, .mov (.c (.bool false)), none⟩])
  (.seq (.seq (.region [⟨some 6, .mov (.t 0), none⟩,
        ⟨some 7, .lenl (.t 6), none⟩,
        ⟨some 8, .mov (.t 1), none⟩,
        ⟨some 9, .lenl (.t 8), none⟩,
        ⟨some 10, .cm .ne (.t 7) (.t 9), none⟩])
    (.cond (.t 10) (.seq (.region [⟨some 4, .mov (.c (.bool false)), none⟩])
      (.ret))
    (.skip)))
  (.seq (.seq (.region [⟨some 11, .mov (.t 0), none⟩,
        ⟨some 12, .lenl (.t 11), none⟩,
        ⟨some 13, .mov (.c (.int .i64 0)), none⟩])
    (.block 0 (.loop [13] [4, 5, 14, 15, 16, 17, 18, 19, 20, 21, 22, 23, 24, 25] (.seq (.region [⟨some 14, .cm .lt (.t 13) (.t 12), none⟩])
        (.seq (.cond (.t 14) (.skip)
          (.exit 0))
        (.seq (.block 1 (.seq (.region [⟨some 15, .mov (.t 13), none⟩,
                ⟨some 5, .mov (.t 15), none⟩])
            (.seq (.draw [.real 0 ⟨some 16, .mov (.t 0), none⟩,
                .real 1 ⟨some 17, .mov (.t 5), none⟩,
                .real 2 ⟨some 18, .ixs 1 (.t 16) (.t 17), none⟩,
                .real 3 ⟨some 19, .ld false 1 (.t 18), none⟩,
                .real 4 ⟨some 20, .mov (.t 1), none⟩,
                .real 5 ⟨some 21, .mov (.t 5), none⟩,
                .real 6 ⟨some 22, .ixs 1 (.t 20) (.t 21), none⟩,
                .real 7 ⟨some 23, .ld false 1 (.t 22), none⟩,
                .real 8 ⟨some 24, .cm .ne (.t 19) (.t 23), none⟩])
            (.cond (.t 24) (.seq (.region [⟨some 4, .mov (.c (.bool false)), none⟩])
              (.ret))
            (.skip)))))
        (.region [⟨some 25, .bi .add (.t 13) (.c (.int .i64 1)), none⟩,
          ⟨some 13, .mov (.t 25), none⟩])))))))
  (.seq (.region [⟨some 4, .mov (.c (.bool true)), none⟩])
  (.ret)))))
def F57 : Fn := .code 1 18 [.tmp 2] (
  .seq (.region [⟨some 2, .mov (.c (.sl .nl 1 [])), none⟩])
  (.seq (.region [⟨some 3, .mov (.c (.sl .nl 1 [])), none⟩])
  (.seq (.seq (.region [⟨some 6, .mov (.t 0), none⟩,
        ⟨some 7, .lenl (.t 6), none⟩,
        ⟨some 8, .mov (.c (.int .i64 0)), none⟩])
    (.block 0 (.loop [3, 8] [5, 9, 10, 11, 12, 13, 14, 15, 16, 17] (.seq (.region [⟨some 9, .cm .lt (.t 8) (.t 7), none⟩])
        (.seq (.cond (.t 9) (.skip)
          (.exit 0))
        (.seq (.block 1 (.seq (.region [⟨some 10, .ixs 1 (.t 6) (.t 8), none⟩,
                ⟨some 11, .ld false 1 (.t 10), none⟩,
                ⟨some 5, .mov (.t 11), none⟩])
            (.region [⟨some 12, .mov (.t 3), none⟩,
              ⟨some 13, .mov (.t 5), none⟩,
              ⟨some 14, .cl 34 [.t 13], none⟩,
              ⟨some 15, .bsl 1 [.t 14], none⟩,
              ⟨some 16, .app false 1 (.t 12) (.t 15), none⟩,
              ⟨some 3, .mov (.t 16), none⟩])))
        (.region [⟨some 17, .bi .add (.t 8) (.c (.int .i64 1)), none⟩,
          ⟨some 8, .mov (.t 17), none⟩])))))))
  (.seq (.region [⟨some 18, .mov (.t 3), none⟩,
      ⟨some 2, .mov (.t 18), none⟩])
  (.ret)))))
def F58 : Fn := .code 4 25 [.tmp 8] (
  .seq (.region [⟨some 5, .box 1 (.t 1), none⟩,
      ⟨some 6, .box 1 (.t 2), none⟩,
      ⟨some 7, .box 1 (.t 3), none⟩,
      ⟨some 8, .mov (.c (.sl .nl 1 [])), none⟩])
  (.seq (.region [⟨some 13, .mkf 106 [.t 5, .t 6, .t 7], none⟩,
      ⟨some 9, .alloc [.nilf], none⟩,
      ⟨none, .st 1 (.t 9) (.t 13), none⟩])
  (.seq (.region [⟨some 10, .mov (.c (.sl .nl 1 [])), none⟩])
  (.seq (.region [⟨some 14, .mov (.t 0), none⟩,
      ⟨some 15, .mkf 109 [.t 9, .t 7], none⟩,
      ⟨some 16, .cl 108 [.t 14, .t 15], none⟩,
      ⟨some 11, .mov (.t 16), none⟩])
  (.seq (.block 0 (.loop [10, 11] [12, 17, 18, 19, 20, 21, 22, 23, 24, 25, 26, 27] (.seq (.seq (.region [⟨some 17, .mov (.t 11), none⟩,
              ⟨some 18, .ce .p true (.t 17) (.c (.nilp)), none⟩])
          (.cond (.t 18) (.skip)
          (.exit 0)))
        (.block 1 (.seq (.region [⟨some 19, .mov (.t 10), none⟩,
              ⟨some 20, .mov (.t 11), none⟩,
              ⟨some 21, .bsl 1 [.t 20], none⟩,
              ⟨some 22, .app false 1 (.t 19) (.t 21), none⟩,
              ⟨some 10, .mov (.t 22), none⟩])
          (.seq (.region [⟨some 23, .mov (.t 11), none⟩,
              ⟨some 24, .cl 107 [.t 23], none⟩,
              ⟨some 12, .alloc [.int .i64 0], none⟩,
              ⟨none, .st 1 (.t 12) (.t 24), none⟩])
          (.region [⟨some 25, .mov (.t 0), none⟩,
            ⟨some 26, .mkf 110 [.t 9, .t 12], none⟩,
            ⟨some 27, .cl 108 [.t 25, .t 26], none⟩,
            ⟨some 11, .mov (.t 27), none⟩])))))))
  (.seq (.region [⟨some 28, .mov (.t 10), none⟩,
      ⟨some 8, .mov (.t 28), none⟩])
  (.ret)))))))
def F61 : Fn := .code 3 31 [.tmp 6] (
  .seq (.region [⟨some 6, .mov (.c (.int .i64 0)), none⟩])
  (.seq (.seq (.region [⟨some 11, .mov (.t 0), none⟩,
        ⟨some 12, .ce .p false (.t 11) (.c (.nilp)), none⟩])
    (.cond (.t 12) (.seq (.region [⟨some 6, .mov (.c (.int .i64 7)), none⟩])
      (.ret))
    (.skip)))
  (.seq (.region [⟨some 13, .mov (.t 2), none⟩,
      ⟨some 14, .cl 112 [.t 13], none⟩,
      ⟨some 7, .mov (.t 14), none⟩])
  (.seq (.seq (.region [⟨some 15, .mov (.t 1), none⟩,
        ⟨some 16, .cl 112 [.t 15], none⟩,
        ⟨some 17, .lenl (.t 16), none⟩,
        ⟨some 18, .mov (.c (.int .i64 0)), none⟩])
    (.block 0 (.loop [18] [6, 9, 10, 19, 20, 21, 22, 23, 24, 25, 26, 27, 28, 29, 30, 31] (.seq (.region [⟨some 19, .cm .lt (.t 18) (.t 17), none⟩])
        (.seq (.cond (.t 19) (.skip)
          (.exit 0))
        (.seq (.block 1 (.seq (.region [⟨some 20, .ixs 1 (.t 16) (.t 18), none⟩,
                ⟨some 21, .ld false 1 (.t 20), none⟩,
                ⟨some 9, .mov (.t 21), none⟩])
            (.seq (.seq (.region [⟨some 22, .mov (.t 7), none⟩,
                  ⟨some 23, .mov (.t 9), none⟩,
                  ⟨some 24, .cl 113 [.t 22, .t 23], none⟩])
              (.cond (.t 24) (.exit 1)
              (.skip)))
            (.seq (.region [⟨some 25, .mov (.t 0), none⟩,
                ⟨some 26, .mov (.t 9), none⟩,
                ⟨some 27, .cl 31 [.t 25, .t 26], none⟩,
                ⟨some 10, .mov (.t 27), none⟩])
            (.seq (.region [⟨some 28, .mov (.t 10), none⟩,
                ⟨some 29, .cm .ne (.t 28) (.c (.int .i64 0)), none⟩])
            (.cond (.t 29) (.seq (.region [⟨some 30, .mov (.t 10), none⟩,
                  ⟨some 6, .mov (.t 30), none⟩])
              (.ret))
            (.skip)))))))
        (.region [⟨some 31, .bi .add (.t 18) (.c (.int .i64 1)), none⟩,
          ⟨some 18, .mov (.t 31), none⟩])))))))
  (.seq (.region [⟨some 32, .mov (.t 0), none⟩,
      ⟨some 33, .cl 35 [.t 32], none⟩,
      ⟨some 6, .mov (.t 33), none⟩])
  (.ret))))))
def F62 : Fn := .code 2 30 [.tmp 4, .tmp 5] (
  .seq (.region [⟨some 4, .mov (.c (.str [])), none⟩,
      ⟨some 5, .mov (.c (.int .i64 0)), none⟩])
  (.seq (.block 0 (.seq (.region [⟨some 7, .mov (.t 0), none⟩,
          ⟨some 8, .ce .p false (.t 7) (.c (.nilp)), none⟩,
          ⟨some 6, .mov (.t 8), none⟩])
      (.cond (.t 6) (.seq (.region [⟨some 4, .mov (.c (.str [])), none⟩,
            ⟨some 5, .mov (.c (.int .i64 7)), none⟩])
        (.ret))
      (.seq (.region [⟨some 10, .mov (.t 0), none⟩,
            ⟨some 11, .mov (.t 1), none⟩,
            ⟨some 12, .cl 72 [.t 10, .t 11], none⟩,
            ⟨some 13, .not (.t 12), none⟩,
            ⟨some 9, .mov (.t 13), none⟩])
        (.cond (.t 9) (.seq (.region [⟨some 4, .mov (.c (.str [])), none⟩,
              ⟨some 5, .mov (.c (.int .i64 20)), none⟩])
          (.ret))
        (.seq (.region [⟨some 15, .mov (.t 0), none⟩,
              ⟨some 16, .nil (.t 15), none⟩,
              ⟨some 17, .fa 5 (.t 16), none⟩,
              ⟨some 18, .ld false 1 (.t 17), none⟩,
              ⟨some 14, .mov (.t 18), none⟩])
          (.cond (.t 14) (.seq (.region [⟨some 4, .mov (.c (.str [])), none⟩,
                ⟨some 5, .mov (.c (.int .i64 21)), none⟩])
            (.ret))
          (.skip))))))))
  (.seq (.draw [.real 0 ⟨some 19, .mov (.t 0), none⟩,
      .real 1 ⟨some 20, .nil (.t 19), none⟩,
      .real 2 ⟨some 21, .fa 0 (.t 20), none⟩,
      .real 3 ⟨some 22, .ld false 1 (.t 21), none⟩,
      .real 4 ⟨some 23, .mov (.t 0), none⟩,
      .real 5 ⟨some 24, .nil (.t 23), none⟩,
      .real 6 ⟨some 25, .fa 1 (.t 24), none⟩,
      .real 7 ⟨some 26, .ld false 1 (.t 25), none⟩,
      .real 8 ⟨some 27, .mov (.t 1), none⟩,
      .real 9 ⟨some 28, .bi .add (.t 26) (.t 27), none⟩,
      .real 10 ⟨some 29, .cl 114 [.t 22, .t 28], none⟩,
      .real 11 ⟨some 30, .ex 0 (.t 29), none⟩,
      .real 12 ⟨some 31, .ex 1 (.t 29), none⟩,
      .real 13 ⟨some 4, .mov (.t 30), none⟩,
      .real 14 ⟨some 5, .mov (.t 31), none⟩])
  (.ret))))
def F70 : Fn := .code 1 13 [.tmp 2, .tmp 3] (
  .seq (.region [⟨some 2, .mov (.c (.nilp)), none⟩,
      ⟨some 3, .mov (.c (.int .i64 0)), none⟩])
  (.seq (.seq (.region [⟨some 4, .mov (.t 0), none⟩,
        ⟨some 5, .cm .lt (.t 4) (.c (.int .i64 1)), none⟩,
        ⟨some 6, .mov (.t 5), none⟩,
        ⟨some 7, .mov (.t 0), some (6, false)⟩,
        ⟨some 8, .cm .gt (.t 7) (.c (.int .i64 8192)), some (6, false)⟩,
        ⟨some 9, .pick (.t 6) (.c (.bool true)) (.t 8), none⟩])
    (.cond (.t 9) (.seq (.region [⟨some 2, .mov (.c (.nilp)), none⟩,
          ⟨some 3, .mov (.c (.int .i64 1)), none⟩])
      (.ret))
    (.skip)))
  (.seq (.region [⟨some 10, .mov (.t 0), none⟩,
      ⟨some 11, .msm 64 (.agg [.int .u8 0, .int .u8 0, .int .u8 0, .int .u8 0, .int .u8 0, .int .u8 0, .int .u8 0, .int .u8 0, .int .u8 0, .int .u8 0, .int .u8 0, .int .u8 0, .int .u8 0, .int .u8 0, .int .u8 0, .int .u8 0, .int .u8 0, .int .u8 0, .int .u8 0, .int .u8 0, .int .u8 0, .int .u8 0, .int .u8 0, .int .u8 0, .int .u8 0, .int .u8 0, .int .u8 0, .int .u8 0, .int .u8 0, .int .u8 0, .int .u8 0, .int .u8 0, .int .u8 0, .int .u8 0, .int .u8 0, .int .u8 0, .int .u8 0, .int .u8 0, .int .u8 0, .int .u8 0, .int .u8 0, .int .u8 0, .int .u8 0, .int .u8 0, .int .u8 0, .int .u8 0, .int .u8 0, .int .u8 0, .int .u8 0, .int .u8 0, .int .u8 0, .int .u8 0, .int .u8 0, .int .u8 0, .int .u8 0, .int .u8 0, .int .u8 0, .int .u8 0, .int .u8 0, .int .u8 0, .int .u8 0, .int .u8 0, .int .u8 0, .int .u8 0]) (.t 10) (.t 10), none⟩,
      ⟨some 12, .agg [.sl .nl 64 [], .sl .nl 65 []] [(0, 1, .t 11)], none⟩,
      ⟨some 13, .box 2 (.t 12), none⟩,
      ⟨some 2, .mov (.t 13), none⟩,
      ⟨some 3, .mov (.c (.int .i64 0)), none⟩])
  (.ret))))
def F71 : Fn := .code 3 34 [.tmp 6, .tmp 7] (
  .seq (.region [⟨some 6, .mov (.c (.nilp)), none⟩,
      ⟨some 7, .mov (.c (.int .i64 0)), none⟩])
  (.seq (.block 0 (.seq (.region [⟨some 9, .mov (.t 0), none⟩,
          ⟨some 10, .ce .p false (.t 9) (.c (.nilp)), none⟩,
          ⟨some 8, .mov (.t 10), none⟩])
      (.cond (.t 8) (.seq (.region [⟨some 6, .mov (.c (.nilp)), none⟩,
            ⟨some 7, .mov (.c (.int .i64 7)), none⟩])
        (.ret))
      (.seq (.region [⟨some 12, .mov (.t 1), none⟩,
            ⟨some 13, .cm .lt (.t 12) (.c (.int .i64 0)), none⟩,
            ⟨some 14, .mov (.t 13), none⟩,
            ⟨some 15, .mov (.t 2), some (14, false)⟩,
            ⟨some 16, .cm .lt (.t 15) (.c (.int .i64 1)), some (14, false)⟩,
            ⟨some 17, .pick (.t 14) (.c (.bool true)) (.t 16), none⟩,
            ⟨some 18, .mov (.t 17), none⟩,
            ⟨some 19, .mov (.t 1), some (18, false)⟩,
            ⟨some 20, .mov (.t 0), some (18, false)⟩,
            ⟨some 21, .cl 120 [.t 20], some (18, false)⟩,
            ⟨some 22, .cm .gt (.t 19) (.t 21), some (18, false)⟩,
            ⟨some 23, .pick (.t 18) (.c (.bool true)) (.t 22), none⟩,
            ⟨some 24, .mov (.t 23), none⟩,
            ⟨some 25, .mov (.t 2), some (24, false)⟩,
            ⟨some 26, .mov (.t 0), some (24, false)⟩,
            ⟨some 27, .cl 120 [.t 26], some (24, false)⟩,
            ⟨some 28, .mov (.t 1), some (24, false)⟩,
            ⟨some 29, .bi .sub (.t 27) (.t 28), some (24, false)⟩,
            ⟨some 30, .cm .gt (.t 25) (.t 29), some (24, false)⟩,
            ⟨some 31, .pick (.t 24) (.c (.bool true)) (.t 30), none⟩,
            ⟨some 11, .mov (.t 31), none⟩])
        (.cond (.t 11) (.seq (.region [⟨some 6, .mov (.c (.nilp)), none⟩,
              ⟨some 7, .mov (.c (.int .i64 20)), none⟩])
          (.ret))
        (.skip))))))
  (.seq (.region [⟨some 32, .mov (.t 0), none⟩,
      ⟨some 33, .mov (.t 1), none⟩,
      ⟨some 34, .mov (.t 2), none⟩,
      ⟨some 35, .agg [.nilp, .int .i64 0, .int .i64 0, .int .i64 0, .int .i64 0, .bool false] [(0, 1, .t 32), (1, 1, .t 33), (2, 1, .t 34), (3, 1, .c (.int .i64 (-1)))], none⟩,
      ⟨some 36, .box 6 (.t 35), none⟩,
      ⟨some 6, .mov (.t 36), none⟩,
      ⟨some 7, .mov (.c (.int .i64 0)), none⟩])
  (.ret))))
def F72 : Fn := .code 2 13 [.tmp 4] (
  .seq (.region [⟨some 4, .mov (.c (.bool false)), none⟩])
  (.seq (.region [⟨some 5, .mov (.t 1), none⟩,
      ⟨some 6, .cm .ge (.t 5) (.c (.int .i64 0)), none⟩,
      ⟨some 7, .mov (.t 6), none⟩,
      ⟨some 8, .mov (.t 1), some (7, true)⟩,
      ⟨some 9, .mov (.t 0), some (7, true)⟩,
      ⟨some 10, .nil (.t 9), some (7, true)⟩,
      ⟨some 11, .fa 2 (.t 10), some (7, true)⟩,
      ⟨some 12, .ld false 1 (.t 11), some (7, true)⟩,
      ⟨some 13, .cm .lt (.t 8) (.t 12), some (7, true)⟩,
      ⟨some 14, .pick (.t 7) (.t 13) (.c (.bool false)), none⟩,
      ⟨some 4, .mov (.t 14), none⟩])
  (.ret)))
def F73 : Fn := .code 2 36 [.tmp 4] (
  .seq (.region [⟨some 4, .mov (.c (.int .i64 0)), none⟩])
  (.seq (.seq (.region [⟨some 5, .mov (.t 0), none⟩,
        ⟨some 6, .nil (.t 5), none⟩,
        ⟨some 7, .fa 3 (.t 6), none⟩,
        ⟨some 8, .ld false 1 (.t 7), none⟩,
        ⟨some 9, .cm .eq (.t 8) (.c (.int .i64 0)), none⟩])
    (.cond (.t 9) (.region [⟨some 10, .mov (.t 0), none⟩,
        ⟨some 11, .nil (.t 10), none⟩,
        ⟨some 12, .fa 5 (.t 11), none⟩,
        ⟨none, .st 1 (.t 12) (.c (.bool true)), none⟩])
    (.skip)))
  (.seq (.seq (.region [⟨some 13, .mov (.t 0), none⟩,
        ⟨some 14, .nil (.t 13), none⟩,
        ⟨some 15, .fa 5 (.t 14), none⟩,
        ⟨some 16, .ld false 1 (.t 15), none⟩])
    (.cond (.t 16) (.seq (.region [⟨some 4, .mov (.c (.int .i64 21)), none⟩])
      (.ret))
    (.skip)))
  (.seq (.seq (.region [⟨some 17, .mov (.t 0), none⟩,
        ⟨some 18, .nil (.t 17), none⟩,
        ⟨some 19, .fa 3 (.t 18), none⟩,
        ⟨some 20, .ld false 1 (.t 19), none⟩,
        ⟨some 21, .cm .gt (.t 20) (.c (.int .i64 0)), none⟩])
    (.cond (.t 21) (.region [⟨some 22, .mov (.t 0), none⟩,
        ⟨some 23, .nil (.t 22), none⟩,
        ⟨some 24, .fa 3 (.t 23), none⟩,
        ⟨some 25, .ld false 1 (.t 24), none⟩,
        ⟨some 26, .bi .sub (.t 25) (.c (.int .i64 1)), none⟩,
        ⟨some 27, .nil (.t 22), none⟩,
        ⟨some 28, .fa 3 (.t 27), none⟩,
        ⟨none, .st 1 (.t 28) (.t 26), none⟩])
    (.skip)))
  (.seq (.region [⟨some 29, .mov (.t 0), none⟩,
      ⟨some 30, .nil (.t 29), none⟩,
      ⟨some 31, .fa 4 (.t 30), none⟩,
      ⟨some 32, .ld false 1 (.t 31), none⟩,
      ⟨some 33, .bi .add (.t 32) (.c (.int .i64 1)), none⟩,
      ⟨some 34, .nil (.t 29), none⟩,
      ⟨some 35, .fa 4 (.t 34), none⟩,
      ⟨none, .st 1 (.t 35) (.t 33), none⟩])
  (.seq (.region [⟨some 36, .mov (.t 1), none⟩,
      ⟨some 37, .cv (.t 36) [], none⟩,
      ⟨some 4, .mov (.t 37), none⟩])
  (.ret)))))))
def F74 : Fn := .code 3 13 [.tmp 3] (
  .seq (.region [⟨some 3, .mov (.c (.int .i64 0)), none⟩])
  (.seq (.draw [.real 0 ⟨some 4, .ld false 1 (.t 0), none⟩,
      .real 1 ⟨some 5, .nil (.t 4), none⟩,
      .real 2 ⟨some 6, .fa 0 (.t 5), none⟩,
      .real 3 ⟨some 7, .ld false 1 (.t 6), none⟩,
      .real 4 ⟨some 8, .ld false 1 (.t 0), none⟩,
      .real 5 ⟨some 9, .nil (.t 8), none⟩,
      .real 6 ⟨some 10, .fa 1 (.t 9), none⟩,
      .real 7 ⟨some 11, .ld false 1 (.t 10), none⟩,
      .real 8 ⟨some 12, .ld false 1 (.t 1), none⟩,
      .real 9 ⟨some 13, .bi .add (.t 11) (.t 12), none⟩,
      .real 10 ⟨some 14, .ld false 1 (.t 2), none⟩,
      .real 11 ⟨some 15, .cl 75 [.t 7, .t 13, .t 14], none⟩,
      .real 12 ⟨some 3, .mov (.t 15), none⟩])
  (.ret)))
def F75 : Fn := .code 3 33 [.tmp 6] (
  .seq (.region [⟨some 6, .mov (.c (.int .i64 0)), none⟩])
  (.seq (.block 0 (.seq (.region [⟨some 9, .mov (.t 0), none⟩,
          ⟨some 10, .ce .p false (.t 9) (.c (.nilp)), none⟩,
          ⟨some 8, .mov (.t 10), none⟩])
      (.cond (.t 8) (.seq (.region [⟨some 6, .mov (.c (.int .i64 7)), none⟩])
        (.ret))
      (.seq (.region [⟨some 12, .mov (.t 0), none⟩,
            ⟨some 13, .mov (.t 1), none⟩,
            ⟨some 14, .cl 121 [.t 12, .t 13], none⟩,
            ⟨some 15, .not (.t 14), none⟩,
            ⟨some 11, .mov (.t 15), none⟩])
        (.cond (.t 11) (.seq (.region [⟨some 6, .mov (.c (.int .i64 20)), none⟩])
          (.ret))
        (.seq (.region [⟨some 17, .mov (.t 2), none⟩,
              ⟨some 18, .lens (.t 17), none⟩,
              ⟨some 19, .cm .ne (.t 18) (.c (.int .i64 64)), none⟩,
              ⟨some 16, .mov (.t 19), none⟩])
          (.cond (.t 16) (.seq (.region [⟨some 6, .mov (.c (.int .i64 1)), none⟩])
            (.ret))
          (.skip))))))))
  (.seq (.region [⟨some 20, .mov (.t 1), none⟩,
      ⟨some 21, .agg [.int .i64 0, .int .u8 0, .int .u8 0, .int .u8 0, .int .u8 0, .int .u8 0, .int .u8 0, .int .u8 0, .int .u8 0, .int .u8 0, .int .u8 0, .int .u8 0, .int .u8 0, .int .u8 0, .int .u8 0, .int .u8 0, .int .u8 0, .int .u8 0, .int .u8 0, .int .u8 0, .int .u8 0, .int .u8 0, .int .u8 0, .int .u8 0, .int .u8 0, .int .u8 0, .int .u8 0, .int .u8 0, .int .u8 0, .int .u8 0, .int .u8 0, .int .u8 0, .int .u8 0, .int .u8 0, .int .u8 0, .int .u8 0, .int .u8 0, .int .u8 0, .int .u8 0, .int .u8 0, .int .u8 0, .int .u8 0, .int .u8 0, .int .u8 0, .int .u8 0, .int .u8 0, .int .u8 0, .int .u8 0, .int .u8 0, .int .u8 0, .int .u8 0, .int .u8 0, .int .u8 0, .int .u8 0, .int .u8 0, .int .u8 0, .int .u8 0, .int .u8 0, .int .u8 0, .int .u8 0, .int .u8 0, .int .u8 0, .int .u8 0, .int .u8 0, .int .u8 0] [(0, 1, .t 20)], none⟩,
      ⟨some 7, .alloc [.int .i64 0, .int .u8 0, .int .u8 0, .int .u8 0, .int .u8 0, .int .u8 0, .int .u8 0, .int .u8 0, .int .u8 0, .int .u8 0, .int .u8 0, .int .u8 0, .int .u8 0, .int .u8 0, .int .u8 0, .int .u8 0, .int .u8 0, .int .u8 0, .int .u8 0, .int .u8 0, .int .u8 0, .int .u8 0, .int .u8 0, .int .u8 0, .int .u8 0, .int .u8 0, .int .u8 0, .int .u8 0, .int .u8 0, .int .u8 0, .int .u8 0, .int .u8 0, .int .u8 0, .int .u8 0, .int .u8 0, .int .u8 0, .int .u8 0, .int .u8 0, .int .u8 0, .int .u8 0, .int .u8 0, .int .u8 0, .int .u8 0, .int .u8 0, .int .u8 0, .int .u8 0, .int .u8 0, .int .u8 0, .int .u8 0, .int .u8 0, .int .u8 0, .int .u8 0, .int .u8 0, .int .u8 0, .int .u8 0, .int .u8 0, .int .u8 0, .int .u8 0, .int .u8 0, .int .u8 0, .int .u8 0, .int .u8 0, .int .u8 0, .int .u8 0, .int .u8 0], none⟩,
      ⟨none, .st 65 (.t 7) (.t 21), none⟩])
  (.seq (.region [⟨some 22, .fa 1 (.t 7), none⟩,
      ⟨some 23, .sla 64 1 (.t 22) none none, none⟩,
      ⟨some 24, .mov (.t 2), none⟩,
      ⟨some 25, .cpy 1 (.t 23) (.t 24), none⟩])
  (.seq (.draw [.real 0 ⟨some 26, .mov (.t 0), none⟩,
      .real 1 ⟨some 27, .mov (.t 0), none⟩,
      .real 2 ⟨some 28, .nil (.t 27), none⟩,
      .real 3 ⟨some 29, .fa 1 (.t 28), none⟩,
      .real 4 ⟨some 30, .ld false 1 (.t 29), none⟩,
      .real 5 ⟨some 31, .ld true 65 (.t 7), none⟩,
      .real 6 ⟨some 32, .bsl 65 [.t 31], none⟩,
      .real 7 ⟨some 33, .app true 65 (.t 30) (.t 32), none⟩,
      .real 8 ⟨some 34, .nil (.t 26), none⟩,
      .real 9 ⟨some 35, .fa 1 (.t 34), none⟩,
      .real 10 ⟨none, .st 1 (.t 35) (.t 33), none⟩])
  (.seq (.region [⟨some 6, .mov (.c (.int .i64 0)), none⟩])
  (.ret)))))))
def F76 : Fn := .code 2 21 [.tmp 4, .tmp 5] (
  .seq (.region [⟨some 4, .mov (.c (.int .i64 0)), none⟩,
      ⟨some 5, .mov (.c (.int .i64 0)), none⟩])
  (.seq (.block 0 (.seq (.region [⟨some 7, .mov (.t 0), none⟩,
          ⟨some 8, .ce .p false (.t 7) (.c (.nilp)), none⟩,
          ⟨some 6, .mov (.t 8), none⟩])
      (.cond (.t 6) (.seq (.region [⟨some 4, .mov (.c (.int .i64 0)), none⟩,
            ⟨some 5, .mov (.c (.int .i64 7)), none⟩])
        (.ret))
      (.seq (.region [⟨some 10, .mov (.t 1), none⟩,
            ⟨some 11, .cm .lt (.t 10) (.c (.int .i64 0)), none⟩,
            ⟨some 12, .mov (.t 11), none⟩,
            ⟨some 13, .mov (.t 1), some (12, false)⟩,
            ⟨some 14, .mov (.t 0), some (12, false)⟩,
            ⟨some 15, .cl 122 [.t 14], some (12, false)⟩,
            ⟨some 16, .bi .sub (.t 15) (.c (.int .i64 2)), some (12, false)⟩,
            ⟨some 17, .bi .quo (.t 16) (.c (.int .i64 16)), some (12, false)⟩,
            ⟨some 18, .cm .ge (.t 13) (.t 17), some (12, false)⟩,
            ⟨some 19, .pick (.t 12) (.c (.bool true)) (.t 18), none⟩,
            ⟨some 9, .mov (.t 19), none⟩])
        (.cond (.t 9) (.seq (.region [⟨some 4, .mov (.c (.int .i64 0)), none⟩,
              ⟨some 5, .mov (.c (.int .i64 20)), none⟩])
          (.ret))
        (.skip))))))
  (.seq (.region [⟨some 20, .mov (.t 1), none⟩,
      ⟨some 21, .bi .mul (.c (.int .i64 16)) (.t 20), none⟩,
      ⟨some 22, .bi .add (.c (.int .i64 2)) (.t 21), none⟩,
      ⟨some 4, .mov (.t 22), none⟩,
      ⟨some 5, .mov (.c (.int .i64 0)), none⟩])
  (.ret))))
def F77 : Fn := .code 2 58 [.tmp 4] (
  .seq (.region [⟨some 4, .mov (.c (.int .i64 0)), none⟩])
  (.seq (.seq (.region [⟨some 12, .mov (.c (.int .i64 0)), none⟩])
    (.block 0 (.loop [12] [4, 5, 6, 7, 8, 9, 10, 11, 13, 14, 15, 16, 17, 18, 19, 20, 21, 22, 23, 24, 25, 26, 27, 28, 29, 30, 31, 32, 33, 34, 35, 36, 37, 38, 39, 40, 41, 42, 43, 44, 45, 46, 47, 48, 49, 50, 51, 52, 53, 54, 55, 56, 57, 58, 59] (.seq (.region [⟨some 13, .cm .lt (.t 12) (.c (.int .i64 16)), none⟩])
        (.seq (.cond (.t 13) (.skip)
          (.exit 0))
        (.seq (.block 1 (.seq (.region [⟨some 14, .mov (.t 12), none⟩,
                ⟨some 5, .mov (.t 14), none⟩])
            (.seq (.region [⟨some 16, .mov (.t 0), none⟩,
                ⟨some 17, .nil (.t 16), none⟩,
                ⟨some 18, .fa 0 (.t 17), none⟩,
                ⟨some 19, .ld false 1 (.t 18), none⟩,
                ⟨some 20, .nil (.t 19), none⟩,
                ⟨some 21, .fa 0 (.t 20), none⟩,
                ⟨some 22, .ld false 1 (.t 21), none⟩,
                ⟨some 23, .mov (.t 1), none⟩,
                ⟨some 24, .mov (.t 5), none⟩,
                ⟨some 25, .bi .add (.t 23) (.t 24), none⟩,
                ⟨some 26, .cl 62 [.t 22, .t 25], none⟩,
                ⟨some 15, .mov (.t 26), none⟩,
                ⟨some 27, .ex 0 (.t 15), none⟩,
                ⟨some 28, .ex 1 (.t 15), none⟩,
                ⟨some 6, .mov (.t 27), none⟩,
                ⟨some 7, .mov (.t 28), none⟩])
            (.seq (.seq (.region [⟨some 29, .mov (.t 7), none⟩,
                  ⟨some 30, .cm .ne (.t 29) (.c (.int .i64 0)), none⟩])
              (.cond (.t 30) (.seq (.region [⟨some 31, .mov (.t 7), none⟩,
                    ⟨some 4, .mov (.t 31), none⟩])
                (.ret))
              (.skip)))
            (.seq (.region [⟨some 33, .mov (.t 6), none⟩,
                ⟨some 34, .cl 123 [.t 33], none⟩,
                ⟨some 32, .mov (.t 34), none⟩,
                ⟨some 35, .ex 0 (.t 32), none⟩,
                ⟨some 36, .ex 1 (.t 32), none⟩,
                ⟨some 37, .ex 2 (.t 32), none⟩,
                ⟨some 38, .ex 3 (.t 32), none⟩,
                ⟨some 8, .mov (.t 35), none⟩,
                ⟨some 9, .mov (.t 36), none⟩,
                ⟨some 10, .mov (.t 37), none⟩,
                ⟨some 11, .mov (.t 38), none⟩])
            (.seq (.region [⟨some 39, .mov (.t 11), none⟩,
                ⟨some 40, .cm .eq (.t 39) (.c (.int .i64 0)), none⟩])
            (.cond (.t 40) (.seq (.region [⟨some 41, .mov (.t 0), none⟩,
                  ⟨some 42, .mov (.t 5), none⟩,
                  ⟨some 43, .mov (.t 10), none⟩,
                  ⟨some 44, .nil (.t 41), none⟩,
                  ⟨some 45, .fa 1 (.t 44), none⟩,
                  ⟨some 46, .ixp 16 1 (.t 45) (.t 42), none⟩,
                  ⟨none, .st 1 (.t 46) (.t 43), none⟩])
              (.seq (.region [⟨some 47, .mov (.t 0), none⟩,
                  ⟨some 48, .mov (.t 5), none⟩,
                  ⟨some 49, .mov (.t 8), none⟩,
                  ⟨some 50, .nil (.t 47), none⟩,
                  ⟨some 51, .fa 17 (.t 50), none⟩,
                  ⟨some 52, .ixp 16 1 (.t 51) (.t 48), none⟩,
                  ⟨none, .st 1 (.t 52) (.t 49), none⟩])
              (.region [⟨some 53, .mov (.t 0), none⟩,
                ⟨some 54, .mov (.t 5), none⟩,
                ⟨some 55, .mov (.t 9), none⟩,
                ⟨some 56, .nil (.t 53), none⟩,
                ⟨some 57, .fa 33 (.t 56), none⟩,
                ⟨some 58, .ixp 16 1 (.t 57) (.t 54), none⟩,
                ⟨none, .st 1 (.t 58) (.t 55), none⟩])))
            (.skip))))))))
        (.region [⟨some 59, .bi .add (.t 12) (.c (.int .i64 1)), none⟩,
          ⟨some 12, .mov (.t 59), none⟩])))))))
  (.seq (.region [⟨some 4, .mov (.c (.int .i64 0)), none⟩])
  (.ret))))
def F78 : Fn := .code 1 40 [.tmp 2] (
  .seq (.region [⟨some 2, .mov (.c (.bool false)), none⟩])
  (.seq (.region [⟨some 6, .mov (.t 0), none⟩,
      ⟨some 7, .nil (.t 6), none⟩,
      ⟨some 8, .fa 1 (.t 7), none⟩,
      ⟨some 9, .ixp 16 1 (.t 8) (.c (.int .i64 0)), none⟩,
      ⟨some 10, .ld false 1 (.t 9), none⟩,
      ⟨some 11, .cl 124 [.t 10], none⟩,
      ⟨some 5, .mov (.t 11), none⟩,
      ⟨some 12, .ex 0 (.t 5), none⟩,
      ⟨some 13, .ex 1 (.t 5), none⟩,
      ⟨some 3, .alloc [.int .i64 0, .int .u32 0, .int .u32 0, .int .i64 0], none⟩,
      ⟨none, .st 4 (.t 3) (.t 12), none⟩,
      ⟨some 4, .mov (.t 13), none⟩])
  (.seq (.seq (.draw [.real 0 ⟨some 14, .mov (.t 0), none⟩,
        .real 1 ⟨some 15, .nil (.t 14), none⟩,
        .real 2 ⟨some 16, .fa 33 (.t 15), none⟩,
        .real 3 ⟨some 17, .ixp 16 1 (.t 16) (.c (.int .i64 0)), none⟩,
        .real 4 ⟨some 18, .ld false 1 (.t 17), none⟩,
        .real 5 ⟨some 19, .cm .ne (.t 18) (.c (.int .i64 1)), none⟩,
        .real 6 ⟨some 20, .mov (.t 19), none⟩,
        .real 7 ⟨some 21, .mov (.t 4), some (20, false)⟩,
        .real 8 ⟨some 22, .cm .ne (.t 21) (.c (.int .i64 0)), some (20, false)⟩,
        .real 9 ⟨some 23, .pick (.t 20) (.c (.bool true)) (.t 22), none⟩,
        .real 10 ⟨some 24, .mov (.t 23), none⟩,
        .real 11 ⟨some 25, .fa 2 (.t 3), some (24, false)⟩,
        .real 12 ⟨some 26, .ld false 1 (.t 25), some (24, false)⟩,
        .real 13 ⟨some 27, .mov (.t 0), some (24, false)⟩,
        .real 14 ⟨some 28, .nil (.t 27), some (24, false)⟩,
        .real 15 ⟨some 29, .fa 17 (.t 28), some (24, false)⟩,
        .real 16 ⟨some 30, .ixp 16 1 (.t 29) (.c (.int .i64 0)), some (24, false)⟩,
        .real 17 ⟨some 31, .ld false 1 (.t 30), some (24, false)⟩,
        .real 18 ⟨some 32, .cm .ne (.t 26) (.t 31), some (24, false)⟩,
        .real 19 ⟨some 33, .pick (.t 24) (.c (.bool true)) (.t 32), none⟩])
    (.cond (.t 33) (.seq (.region [⟨some 2, .mov (.c (.bool false)), none⟩])
      (.ret))
    (.skip)))
  (.seq (.draw [.real 0 ⟨some 34, .mov (.t 0), none⟩,
      .real 1 ⟨some 35, .nil (.t 34), none⟩,
      .real 2 ⟨some 36, .fa 0 (.t 35), none⟩,
      .real 3 ⟨some 37, .ld false 1 (.t 36), none⟩,
      .real 4 ⟨some 38, .ld true 4 (.t 3), none⟩,
      .real 5 ⟨some 39, .nil (.t 37), none⟩,
      .real 6 ⟨some 40, .fa 2 (.t 39), none⟩,
      .real 7 ⟨none, .st 4 (.t 40) (.t 38), none⟩])
  (.seq (.region [⟨some 2, .mov (.c (.bool true)), none⟩])
  (.ret))))))
def F79 : Fn := .code 1 108 [.tmp 2] (
  .seq (.region [⟨some 2, .mov (.c (.bool false)), none⟩])
  (.seq (.region [⟨some 8, .mov (.t 0), none⟩,
      ⟨some 9, .nil (.t 8), none⟩,
      ⟨some 10, .fa 0 (.t 9), none⟩,
      ⟨some 11, .ld false 1 (.t 10), none⟩,
      ⟨some 12, .nil (.t 11), none⟩,
      ⟨some 13, .fa 6 (.t 12), none⟩,
      ⟨some 14, .ld false 1 (.t 13), none⟩,
      ⟨some 15, .lenl (.t 14), none⟩,
      ⟨some 16, .bi .add (.t 15) (.c (.int .i64 2)), none⟩,
      ⟨some 3, .mov (.t 16), none⟩])
  (.seq (.seq (.region [⟨some 17, .mov (.t 0), none⟩,
        ⟨some 18, .mov (.t 3), none⟩,
        ⟨some 19, .cl 125 [.t 17, .c (.int .i64 1), .t 18], none⟩,
        ⟨some 20, .not (.t 19), none⟩])
    (.cond (.t 20) (.seq (.region [⟨some 2, .mov (.c (.bool false)), none⟩])
      (.ret))
    (.skip)))
  (.seq (.draw [.real 0 ⟨some 21, .mov (.t 0), none⟩,
      .real 1 ⟨some 22, .mov (.t 0), none⟩,
      .real 2 ⟨some 23, .nil (.t 22), none⟩,
      .real 3 ⟨some 24, .fa 0 (.t 23), none⟩,
      .real 4 ⟨some 25, .ld false 1 (.t 24), none⟩,
      .real 5 ⟨some 26, .nil (.t 25), none⟩,
      .real 6 ⟨some 27, .fa 7 (.t 26), none⟩,
      .real 7 ⟨some 28, .ld false 1 (.t 27), none⟩,
      .real 8 ⟨some 29, .nil (.t 21), none⟩,
      .real 9 ⟨some 30, .fa 1 (.t 29), none⟩,
      .real 10 ⟨some 31, .ixp 16 1 (.t 30) (.t 28), none⟩,
      .real 11 ⟨some 32, .ld false 1 (.t 31), none⟩,
      .real 12 ⟨some 33, .cl 126 [.t 32], none⟩,
      .real 13 ⟨some 4, .mov (.t 33), none⟩])
  (.seq (.seq (.region [⟨some 34, .mov (.t 0), none⟩,
        ⟨some 35, .mov (.t 4), none⟩,
        ⟨some 36, .mov (.t 3), none⟩,
        ⟨some 37, .cl 125 [.t 34, .t 35, .t 36], none⟩,
        ⟨some 38, .not (.t 37), none⟩])
    (.cond (.t 38) (.seq (.region [⟨some 2, .mov (.c (.bool false)), none⟩])
      (.ret))
    (.skip)))
  (.seq (.draw [.real 0 ⟨some 40, .mov (.t 0), none⟩,
      .real 1 ⟨some 41, .nil (.t 40), none⟩,
      .real 2 ⟨some 42, .fa 0 (.t 41), none⟩,
      .real 3 ⟨some 43, .ld false 1 (.t 42), none⟩,
      .real 4 ⟨some 44, .nil (.t 43), none⟩,
      .real 5 ⟨some 45, .fa 2 (.t 44), none⟩,
      .real 6 ⟨some 46, .fa 2 (.t 45), none⟩,
      .real 7 ⟨some 47, .ld false 1 (.t 46), none⟩,
      .real 8 ⟨some 48, .mov (.t 0), none⟩,
      .real 9 ⟨some 49, .nil (.t 48), none⟩,
      .real 10 ⟨some 50, .fa 0 (.t 49), none⟩,
      .real 11 ⟨some 51, .ld false 1 (.t 50), none⟩,
      .real 12 ⟨some 52, .nil (.t 51), none⟩,
      .real 13 ⟨some 53, .fa 7 (.t 52), none⟩,
      .real 14 ⟨some 54, .ld false 1 (.t 53), none⟩,
      .real 15 ⟨some 55, .mov (.t 0), none⟩,
      .real 16 ⟨some 56, .nil (.t 55), none⟩,
      .real 17 ⟨some 57, .fa 1 (.t 56), none⟩,
      .real 18 ⟨some 58, .mov (.t 0), none⟩,
      .real 19 ⟨some 59, .nil (.t 58), none⟩,
      .real 20 ⟨some 60, .fa 0 (.t 59), none⟩,
      .real 21 ⟨some 61, .ld false 1 (.t 60), none⟩,
      .real 22 ⟨some 62, .nil (.t 61), none⟩,
      .real 23 ⟨some 63, .fa 7 (.t 62), none⟩,
      .real 24 ⟨some 64, .ld false 1 (.t 63), none⟩,
      .real 25 ⟨some 65, .mov (.t 0), none⟩,
      .real 26 ⟨some 66, .nil (.t 65), none⟩,
      .real 27 ⟨some 67, .fa 0 (.t 66), none⟩,
      .real 28 ⟨some 68, .ld false 1 (.t 67), none⟩,
      .real 29 ⟨some 69, .nil (.t 68), none⟩,
      .real 30 ⟨some 70, .fa 7 (.t 69), none⟩,
      .real 31 ⟨some 71, .ld false 1 (.t 70), none⟩,
      .real 32 ⟨some 72, .mov (.t 4), none⟩,
      .real 33 ⟨some 73, .bi .add (.t 71) (.t 72), none⟩,
      .real 34 ⟨some 74, .sla 16 1 (.t 57) (some (.t 64)) (some (.t 73)), none⟩,
      .real 35 ⟨some 75, .cl 128 [.t 74, .c (.str [])], none⟩,
      .chk ⟨some 43, .ld false 1 (.t 42), none⟩,
      .chk ⟨some 47, .ld false 1 (.t 46), none⟩,
      .chk ⟨some 51, .ld false 1 (.t 50), none⟩,
      .chk ⟨some 54, .ld false 1 (.t 53), none⟩,
      .real 36 ⟨some 76, .cl 127 [.t 47, .t 54, .t 75], none⟩,
      .real 37 ⟨some 39, .mov (.t 76), none⟩,
      .real 38 ⟨some 77, .ex 0 (.t 39), none⟩,
      .real 39 ⟨some 78, .ex 1 (.t 39), none⟩,
      .real 40 ⟨some 79, .ex 2 (.t 39), none⟩,
      .real 41 ⟨some 5, .alloc [.int .i64 0, .str []], none⟩,
      .real 42 ⟨none, .st 2 (.t 5) (.t 77), none⟩,
      .real 43 ⟨some 6, .mov (.t 78), none⟩,
      .real 44 ⟨some 7, .mov (.t 79), none⟩])
  (.seq (.seq (.region [⟨some 80, .mov (.t 7), none⟩,
        ⟨some 81, .cm .ne (.t 80) (.c (.int .i64 0)), none⟩])
    (.cond (.t 81) (.seq (.region [⟨some 2, .mov (.c (.bool false)), none⟩])
      (.ret))
    (.skip)))
  (.seq (.draw [.real 0 ⟨some 82, .mov (.t 0), none⟩,
      .real 1 ⟨some 83, .nil (.t 82), none⟩,
      .real 2 ⟨some 84, .fa 0 (.t 83), none⟩,
      .real 3 ⟨some 85, .ld false 1 (.t 84), none⟩,
      .real 4 ⟨some 86, .mov (.t 0), none⟩,
      .real 5 ⟨some 87, .nil (.t 86), none⟩,
      .real 6 ⟨some 88, .fa 0 (.t 87), none⟩,
      .real 7 ⟨some 89, .ld false 1 (.t 88), none⟩,
      .real 8 ⟨some 90, .nil (.t 89), none⟩,
      .real 9 ⟨some 91, .fa 6 (.t 90), none⟩,
      .real 10 ⟨some 92, .ld false 1 (.t 91), none⟩,
      .real 11 ⟨some 93, .ld true 2 (.t 5), none⟩,
      .real 12 ⟨some 94, .bsl 2 [.t 93], none⟩,
      .real 13 ⟨some 95, .app true 2 (.t 92) (.t 94), none⟩,
      .chk ⟨some 85, .ld false 1 (.t 84), none⟩,
      .real 14 ⟨some 96, .nil (.t 85), none⟩,
      .real 15 ⟨some 97, .fa 6 (.t 96), none⟩,
      .real 16 ⟨none, .st 1 (.t 97) (.t 95), none⟩])
  (.seq (.region [⟨some 98, .mov (.t 0), none⟩,
      ⟨some 99, .nil (.t 98), none⟩,
      ⟨some 100, .fa 0 (.t 99), none⟩,
      ⟨some 101, .ld false 1 (.t 100), none⟩,
      ⟨some 102, .nil (.t 101), none⟩,
      ⟨some 103, .fa 7 (.t 102), none⟩,
      ⟨some 104, .ld false 1 (.t 103), none⟩,
      ⟨some 105, .mov (.t 4), none⟩,
      ⟨some 106, .bi .add (.t 104) (.t 105), none⟩,
      ⟨some 107, .nil (.t 101), none⟩,
      ⟨some 108, .fa 7 (.t 107), none⟩,
      ⟨none, .st 1 (.t 108) (.t 106), none⟩])
  (.seq (.region [⟨some 2, .mov (.c (.bool true)), none⟩])
  (.ret)))))))))))
def F83 : Fn := .code 3 45 [.tmp 6, .tmp 7] (
  .seq (.region [⟨some 5, .box 2 (.t 2), none⟩,
      ⟨some 6, .mov (.c (.str [])), none⟩,
      ⟨some 7, .mov (.c (.int .i64 0)), none⟩])
  (.seq (.block 0 (.seq (.region [⟨some 10, .fa 0 (.t 5), none⟩,
          ⟨some 11, .ld false 1 (.t 10), none⟩,
          ⟨some 12, .cm .lt (.t 11) (.c (.int .i64 1)), none⟩,
          ⟨some 13, .mov (.t 12), none⟩,
          ⟨some 14, .fa 0 (.t 5), some (13, false)⟩,
          ⟨some 15, .ld false 1 (.t 14), some (13, false)⟩,
          ⟨some 16, .cm .gt (.t 15) (.c (.int .i64 255)), some (13, false)⟩,
          ⟨some 17, .pick (.t 13) (.c (.bool true)) (.t 16), none⟩,
          ⟨some 18, .mov (.t 17), none⟩,
          ⟨some 19, .mov (.t 1), some (18, false)⟩,
          ⟨some 20, .cl 129 [.t 19], some (18, false)⟩,
          ⟨some 21, .not (.t 20), some (18, false)⟩,
          ⟨some 22, .pick (.t 18) (.c (.bool true)) (.t 21), none⟩,
          ⟨some 9, .mov (.t 22), none⟩])
      (.cond (.t 9) (.seq (.region [⟨some 6, .mov (.c (.str [])), none⟩,
            ⟨some 7, .mov (.c (.int .i64 1)), none⟩])
        (.ret))
      (.seq (.region [⟨some 24, .fa 1 (.t 5), none⟩,
            ⟨some 25, .ld false 1 (.t 24), none⟩,
            ⟨some 26, .lens (.t 25), none⟩,
            ⟨some 27, .cm .gt (.t 26) (.c (.int .i64 773)), none⟩,
            ⟨some 23, .mov (.t 27), none⟩])
        (.cond (.t 23) (.seq (.region [⟨some 6, .mov (.c (.str [])), none⟩,
              ⟨some 7, .mov (.c (.int .i64 2)), none⟩])
          (.ret))
        (.skip))))))
  (.seq (.region [⟨some 28, .fa 0 (.t 5), none⟩,
      ⟨some 29, .ld false 1 (.t 28), none⟩,
      ⟨some 30, .cvi .u8 (.t 29), none⟩,
      ⟨some 31, .bsl 1 [.t 30], none⟩,
      ⟨some 32, .cvs (.t 31), none⟩,
      ⟨some 33, .fa 1 (.t 5), none⟩,
      ⟨some 34, .ld false 1 (.t 33), none⟩,
      ⟨some 35, .adds (.t 32) (.t 34), none⟩,
      ⟨some 8, .mov (.t 35), none⟩])
  (.seq (.region [⟨some 36, .mov (.t 8), none⟩,
      ⟨some 37, .lens (.t 36), none⟩,
      ⟨some 38, .cl 130 [.t 37, .c (.int .i64 2)], none⟩,
      ⟨some 39, .mov (.t 0), none⟩,
      ⟨some 40, .mov (.t 1), none⟩,
      ⟨some 41, .mov (.t 8), none⟩,
      ⟨some 42, .cl 131 [.t 39, .t 40, .t 41], none⟩,
      ⟨some 43, .cvi .i64 (.t 42), none⟩,
      ⟨some 44, .cl 130 [.t 43, .c (.int .i64 4)], none⟩,
      ⟨some 45, .adds (.t 38) (.t 44), none⟩,
      ⟨some 46, .mov (.t 8), none⟩,
      ⟨some 47, .adds (.t 45) (.t 46), none⟩,
      ⟨some 6, .mov (.t 47), none⟩,
      ⟨some 7, .mov (.c (.int .i64 0)), none⟩])
  (.ret)))))
def F84 : Fn := .code 1 27 [.tmp 2] (
  .seq (.region [⟨some 2, .mov (.c (.sl .nl 1 [])), none⟩])
  (.seq (.region [⟨some 3, .mov (.c (.sl .nl 1 [])), none⟩])
  (.seq (.seq (.region [⟨some 5, .mov (.t 0), none⟩,
        ⟨some 6, .lens (.t 5), none⟩,
        ⟨some 7, .cl 104 [.t 6], none⟩,
        ⟨some 8, .mov (.c (.int .i64 0)), none⟩])
    (.block 0 (.loop [0, 3, 8] [4, 9, 10, 11, 12, 13, 14, 15, 16, 17, 18, 19, 20, 21, 22, 23, 24, 25, 26] (.seq (.region [⟨some 9, .cm .lt (.t 8) (.t 7), none⟩])
        (.seq (.cond (.t 9) (.skip)
          (.exit 0))
        (.seq (.block 1 (.seq (.region [⟨some 10, .mov (.t 0), none⟩,
                ⟨some 11, .lens (.t 10), none⟩,
                ⟨some 12, .min (.t 11) (.c (.int .i64 52)), none⟩,
                ⟨some 4, .mov (.t 12), none⟩])
            (.seq (.draw [.real 0 ⟨some 13, .mov (.t 3), none⟩,
                .real 1 ⟨some 14, .mov (.t 0), none⟩,
                .real 2 ⟨some 15, .mov (.t 4), none⟩,
                .real 3 ⟨some 16, .sls (.t 14) none (some (.t 15)), none⟩,
                .real 4 ⟨some 17, .mov (.t 4), none⟩,
                .real 5 ⟨some 18, .bi .sub (.c (.int .i64 52)) (.t 17), none⟩,
                .real 6 ⟨some 19, .cl 88 [.c (.str [0]), .t 18], none⟩,
                .real 7 ⟨some 20, .adds (.t 16) (.t 19), none⟩,
                .real 8 ⟨some 21, .bsl 1 [.t 20], none⟩,
                .real 9 ⟨some 22, .app false 1 (.t 13) (.t 21), none⟩,
                .real 10 ⟨some 3, .mov (.t 22), none⟩])
            (.region [⟨some 23, .mov (.t 0), none⟩,
              ⟨some 24, .mov (.t 4), none⟩,
              ⟨some 25, .sls (.t 23) (some (.t 24)) none, none⟩,
              ⟨some 0, .mov (.t 25), none⟩]))))
        (.region [⟨some 26, .bi .add (.t 8) (.c (.int .i64 1)), none⟩,
          ⟨some 8, .mov (.t 26), none⟩])))))))
  (.seq (.region [⟨some 27, .mov (.t 3), none⟩,
      ⟨some 2, .mov (.t 27), none⟩])
  (.ret)))))
def F85 : Fn := .code 4 63 [.tmp 8] (
  .seq (.region [⟨some 8, .mov (.c (.int .i64 0)), none⟩])
  (.seq (.draw [.real 0 ⟨some 17, .mov (.t 0), none⟩,
      .real 1 ⟨some 18, .nil (.t 17), none⟩,
      .real 2 ⟨some 19, .fa 0 (.t 18), none⟩,
      .real 3 ⟨some 20, .ld false 1 (.t 19), none⟩,
      .real 4 ⟨some 21, .mov (.t 0), none⟩,
      .real 5 ⟨some 22, .nil (.t 21), none⟩,
      .real 6 ⟨some 23, .fa 1 (.t 22), none⟩,
      .real 7 ⟨some 24, .ld false 1 (.t 23), none⟩,
      .real 8 ⟨some 25, .cl 76 [.t 20, .t 24], none⟩,
      .real 9 ⟨some 16, .mov (.t 25), none⟩,
      .real 10 ⟨some 26, .ex 0 (.t 16), none⟩,
      .real 11 ⟨some 27, .ex 1 (.t 16), none⟩,
      .real 12 ⟨some 9, .mov (.t 26), none⟩,
      .real 13 ⟨some 10, .mov (.t 27), none⟩])
  (.seq (.seq (.region [⟨some 28, .mov (.t 10), none⟩,
        ⟨some 29, .cm .ne (.t 28) (.c (.int .i64 0)), none⟩])
    (.cond (.t 29) (.seq (.region [⟨some 30, .mov (.t 10), none⟩,
          ⟨some 8, .mov (.t 30), none⟩])
      (.ret))
    (.skip)))
  (.seq (.seq (.region [⟨some 31, .mov (.t 3), none⟩,
        ⟨some 32, .lenl (.t 31), none⟩,
        ⟨some 33, .mov (.c (.int .i64 0)), none⟩])
    (.block 0 (.loop [33] [8, 11, 12, 13, 14, 15, 34, 35, 36, 37, 38, 39, 40, 41, 42, 43, 44, 45, 46, 47, 48, 49, 50, 51, 52, 53, 54, 55, 56, 57, 58, 59, 60, 61, 62, 63, 64, 65, 66] (.seq (.region [⟨some 34, .cm .lt (.t 33) (.t 32), none⟩])
        (.seq (.cond (.t 34) (.skip)
          (.exit 0))
        (.seq (.block 1 (.seq (.region [⟨some 35, .mov (.t 33), none⟩,
                ⟨some 36, .ixs 1 (.t 31) (.t 33), none⟩,
                ⟨some 37, .ld false 1 (.t 36), none⟩,
                ⟨some 11, .mov (.t 35), none⟩,
                ⟨some 12, .mov (.t 37), none⟩])
            (.seq (.region [⟨some 39, .mov (.t 0), none⟩,
                ⟨some 40, .nil (.t 39), none⟩,
                ⟨some 41, .fa 2 (.t 40), none⟩,
                ⟨some 42, .fa 2 (.t 41), none⟩,
                ⟨some 43, .ld false 1 (.t 42), none⟩,
                ⟨some 44, .mov (.t 2), none⟩,
                ⟨some 45, .mov (.t 12), none⟩,
                ⟨some 46, .cl 132 [.t 43, .t 44, .t 45], none⟩,
                ⟨some 38, .mov (.t 46), none⟩,
                ⟨some 47, .ex 0 (.t 38), none⟩,
                ⟨some 48, .ex 1 (.t 38), none⟩,
                ⟨some 13, .mov (.t 47), none⟩,
                ⟨some 14, .mov (.t 48), none⟩])
            (.seq (.seq (.region [⟨some 49, .mov (.t 14), none⟩,
                  ⟨some 50, .cm .ne (.t 49) (.c (.int .i64 0)), none⟩])
              (.cond (.t 50) (.seq (.region [⟨some 51, .mov (.t 14), none⟩,
                    ⟨some 8, .mov (.t 51), none⟩])
                (.ret))
              (.skip)))
            (.seq (.region [⟨some 52, .mov (.t 0), none⟩,
                ⟨some 53, .nil (.t 52), none⟩,
                ⟨some 54, .fa 0 (.t 53), none⟩,
                ⟨some 55, .ld false 1 (.t 54), none⟩,
                ⟨some 56, .mov (.t 9), none⟩,
                ⟨some 57, .mov (.t 1), none⟩,
                ⟨some 58, .bi .add (.t 56) (.t 57), none⟩,
                ⟨some 59, .mov (.t 11), none⟩,
                ⟨some 60, .bi .add (.t 58) (.t 59), none⟩,
                ⟨some 61, .mov (.t 13), none⟩,
                ⟨some 62, .cl 20 [.t 55, .t 60, .t 61], none⟩,
                ⟨some 15, .mov (.t 62), none⟩])
            (.seq (.region [⟨some 63, .mov (.t 15), none⟩,
                ⟨some 64, .cm .ne (.t 63) (.c (.int .i64 0)), none⟩])
            (.cond (.t 64) (.seq (.region [⟨some 65, .mov (.t 15), none⟩,
                  ⟨some 8, .mov (.t 65), none⟩])
              (.ret))
            (.skip))))))))
        (.region [⟨some 66, .bi .add (.t 33) (.c (.int .i64 1)), none⟩,
          ⟨some 33, .mov (.t 66), none⟩])))))))
  (.seq (.region [⟨some 8, .mov (.c (.int .i64 0)), none⟩])
  (.ret))))))
def F86 : Fn := .code 1 7 [.tmp 2] (
  .seq (.region [⟨some 2, .mov (.c (.sl .nl 2 [])), none⟩])
  (.seq (.seq (.region [⟨some 3, .mov (.t 0), none⟩,
        ⟨some 4, .ce .l false (.t 3) (.c (.sl .nl 2 [])), none⟩])
    (.cond (.t 4) (.seq (.region [⟨some 2, .mov (.c (.sl .nl 2 [])), none⟩])
      (.ret))
    (.skip)))
  (.seq (.region [⟨some 5, .bsl 2 [], none⟩,
      ⟨some 6, .mov (.t 0), none⟩,
      ⟨some 7, .app true 2 (.t 5) (.t 6), none⟩,
      ⟨some 2, .mov (.t 7), none⟩])
  (.ret))))
def F87 : Fn := .code 1 57 [.tmp 2, .tmp 3] (
  .seq (.region [⟨some 1, .box 4 (.t 0), none⟩,
      ⟨some 2, .mov (.c (.str [])), none⟩,
      ⟨some 3, .mov (.c (.int .i64 0)), none⟩])
  (.seq (.seq (.region [⟨some 11, .fa 0 (.t 1), none⟩,
        ⟨some 12, .ld false 1 (.t 11), none⟩,
        ⟨some 13, .cm .lt (.t 12) (.c (.int .i64 1)), none⟩,
        ⟨some 14, .mov (.t 13), none⟩,
        ⟨some 15, .fa 0 (.t 1), some (14, false)⟩,
        ⟨some 16, .ld false 1 (.t 15), some (14, false)⟩,
        ⟨some 17, .cm .gt (.t 16) (.c (.int .i64 65535)), some (14, false)⟩,
        ⟨some 18, .pick (.t 14) (.c (.bool true)) (.t 17), none⟩,
        ⟨some 19, .mov (.t 18), none⟩,
        ⟨some 20, .fa 3 (.t 1), some (19, false)⟩,
        ⟨some 21, .ld false 1 (.t 20), some (19, false)⟩,
        ⟨some 22, .cm .lt (.t 21) (.c (.int .i64 0)), some (19, false)⟩,
        ⟨some 23, .pick (.t 19) (.c (.bool true)) (.t 22), none⟩,
        ⟨some 24, .mov (.t 23), none⟩,
        ⟨some 25, .fa 3 (.t 1), some (24, false)⟩,
        ⟨some 26, .ld false 1 (.t 25), some (24, false)⟩,
        ⟨some 27, .cm .gt (.t 26) (.c (.int .i64 1099511627776)), some (24, false)⟩,
        ⟨some 28, .pick (.t 24) (.c (.bool true)) (.t 27), none⟩])
    (.cond (.t 28) (.seq (.region [⟨some 2, .mov (.c (.str [])), none⟩,
          ⟨some 3, .mov (.c (.int .i64 1)), none⟩])
      (.ret))
    (.skip)))
  (.seq (.region [⟨some 4, .mov (.c (.str [87, 83])), none⟩])
  (.seq (.seq (.region [⟨some 29, .ld true 4 (.t 1), none⟩,
        ⟨some 30, .cl 133 [.t 29], none⟩,
        ⟨some 31, .mov (.c (.int .i64 0)), none⟩])
    (.block 0 (.loop [4, 31] [6, 7, 8, 32, 33, 34, 35, 36, 37, 38, 39, 40, 41, 42, 43, 44, 45] (.seq (.region [⟨some 32, .cm .lt (.t 31) (.c (.int .i64 4)), none⟩])
        (.seq (.cond (.t 32) (.skip)
          (.exit 0))
        (.seq (.block 1 (.seq (.region [⟨some 33, .ixa true 4 2 (.t 30) (.t 31), none⟩,
                ⟨some 6, .alloc [.int .u64 0, .int .i64 0], none⟩,
                ⟨none, .st 2 (.t 6) (.t 33), none⟩])
            (.seq (.region [⟨some 35, .fa 0 (.t 6), none⟩,
                ⟨some 36, .ld false 1 (.t 35), none⟩,
                ⟨some 37, .fa 1 (.t 6), none⟩,
                ⟨some 38, .ld false 1 (.t 37), none⟩,
                ⟨some 39, .cl 134 [.t 36, .t 38], none⟩,
                ⟨some 34, .mov (.t 39), none⟩,
                ⟨some 40, .ex 0 (.t 34), none⟩,
                ⟨some 41, .ex 1 (.t 34), none⟩,
                ⟨some 7, .mov (.t 40), none⟩,
                ⟨some 8, .mov (.t 41), none⟩])
            (.region [⟨some 42, .mov (.t 4), none⟩,
              ⟨some 43, .mov (.t 7), none⟩,
              ⟨some 44, .adds (.t 42) (.t 43), none⟩,
              ⟨some 4, .mov (.t 44), none⟩]))))
        (.region [⟨some 45, .bi .add (.t 31) (.c (.int .i64 1)), none⟩,
          ⟨some 31, .mov (.t 45), none⟩])))))))
  (.seq (.region [⟨some 46, .mov (.t 4), none⟩,
      ⟨some 47, .adds (.t 46) (.c (.str [0, 0, 0, 0, 0, 0, 0, 0])), none⟩,
      ⟨some 4, .mov (.t 47), none⟩])
  (.seq (.region [⟨some 49, .mov (.t 4), none⟩,
      ⟨some 50, .cl 135 [.c (.int .u32 0), .t 49], none⟩,
      ⟨some 51, .cvi .u64 (.t 50), none⟩,
      ⟨some 52, .cl 134 [.t 51, .c (.int .i64 4)], none⟩,
      ⟨some 48, .mov (.t 52), none⟩,
      ⟨some 53, .ex 0 (.t 48), none⟩,
      ⟨some 54, .ex 1 (.t 48), none⟩,
      ⟨some 9, .mov (.t 53), none⟩,
      ⟨some 10, .mov (.t 54), none⟩])
  (.seq (.region [⟨some 55, .mov (.t 4), none⟩,
      ⟨some 56, .mov (.t 9), none⟩,
      ⟨some 57, .adds (.t 55) (.t 56), none⟩,
      ⟨some 2, .mov (.t 57), none⟩,
      ⟨some 3, .mov (.c (.int .i64 0)), none⟩])
  (.ret))))))))
def F89 : Fn := .code 1 14 [.tmp 1] (
  .seq (.region [⟨some 1, .mov (.c (.int .i64 0)), none⟩])
  (.seq (.draw [.real 0 ⟨some 2, .ld false 1 (.t 0), none⟩,
      .real 1 ⟨some 3, .nil (.t 2), none⟩,
      .real 2 ⟨some 4, .fa 0 (.t 3), none⟩,
      .real 3 ⟨some 5, .ld false 1 (.t 4), none⟩,
      .real 4 ⟨some 6, .ld false 1 (.t 0), none⟩,
      .real 5 ⟨some 7, .nil (.t 6), none⟩,
      .real 6 ⟨some 8, .fa 1 (.t 7), none⟩,
      .real 7 ⟨some 9, .ld false 1 (.t 8), none⟩,
      .real 8 ⟨some 10, .ld false 1 (.t 0), none⟩,
      .real 9 ⟨some 11, .nil (.t 10), none⟩,
      .real 10 ⟨some 12, .fa 2 (.t 11), none⟩,
      .real 11 ⟨some 13, .ld false 1 (.t 12), none⟩,
      .real 12 ⟨some 14, .cl 90 [.t 5, .t 9, .t 13], none⟩,
      .real 13 ⟨some 1, .mov (.t 14), none⟩])
  (.ret)))
def F90 : Fn := .code 3 44 [.tmp 6] (
  .seq (.region [⟨some 6, .mov (.c (.int .i64 0)), none⟩])
  (.seq (.block 0 (.seq (.region [⟨some 12, .mov (.t 0), none⟩,
          ⟨some 13, .ce .p false (.t 12) (.c (.nilp)), none⟩,
          ⟨some 11, .mov (.t 13), none⟩])
      (.cond (.t 11) (.seq (.region [⟨some 6, .mov (.c (.int .i64 7)), none⟩])
        (.ret))
      (.seq (.region [⟨some 15, .mov (.t 0), none⟩,
            ⟨some 16, .mov (.t 1), none⟩,
            ⟨some 17, .mov (.t 2), none⟩,
            ⟨some 18, .cl 142 [.t 15, .t 16, .t 17], none⟩,
            ⟨some 19, .not (.t 18), none⟩,
            ⟨some 14, .mov (.t 19), none⟩])
        (.cond (.t 14) (.seq (.region [⟨some 6, .mov (.c (.int .i64 20)), none⟩])
          (.ret))
        (.skip))))))
  (.seq (.region [⟨some 21, .mov (.t 0), none⟩,
      ⟨some 22, .mov (.t 1), none⟩,
      ⟨some 23, .mov (.t 2), none⟩,
      ⟨some 24, .cl 143 [.t 21, .t 22, .t 23], none⟩,
      ⟨some 20, .mov (.t 24), none⟩,
      ⟨some 25, .ex 0 (.t 20), none⟩,
      ⟨some 26, .ex 1 (.t 20), none⟩,
      ⟨some 7, .mov (.t 25), none⟩,
      ⟨some 8, .mov (.t 26), none⟩])
  (.seq (.seq (.region [⟨some 27, .mov (.t 7), none⟩,
        ⟨some 28, .lenl (.t 27), none⟩,
        ⟨some 29, .mov (.c (.int .i64 0)), none⟩])
    (.block 1 (.loop [29] [10, 30, 31, 32, 33, 34, 35, 36, 37, 38, 39, 40, 41, 42] (.seq (.region [⟨some 30, .cm .lt (.t 29) (.t 28), none⟩])
        (.seq (.cond (.t 30) (.skip)
          (.exit 1))
        (.seq (.block 2 (.seq (.region [⟨some 31, .ixs 65 (.t 27) (.t 29), none⟩,
                ⟨some 32, .ld true 65 (.t 31), none⟩,
                ⟨some 10, .alloc [.int .i64 0, .int .u8 0, .int .u8 0, .int .u8 0, .int .u8 0, .int .u8 0, .int .u8 0, .int .u8 0, .int .u8 0, .int .u8 0, .int .u8 0, .int .u8 0, .int .u8 0, .int .u8 0, .int .u8 0, .int .u8 0, .int .u8 0, .int .u8 0, .int .u8 0, .int .u8 0, .int .u8 0, .int .u8 0, .int .u8 0, .int .u8 0, .int .u8 0, .int .u8 0, .int .u8 0, .int .u8 0, .int .u8 0, .int .u8 0, .int .u8 0, .int .u8 0, .int .u8 0, .int .u8 0, .int .u8 0, .int .u8 0, .int .u8 0, .int .u8 0, .int .u8 0, .int .u8 0, .int .u8 0, .int .u8 0, .int .u8 0, .int .u8 0, .int .u8 0, .int .u8 0, .int .u8 0, .int .u8 0, .int .u8 0, .int .u8 0, .int .u8 0, .int .u8 0, .int .u8 0, .int .u8 0, .int .u8 0, .int .u8 0, .int .u8 0, .int .u8 0, .int .u8 0, .int .u8 0, .int .u8 0, .int .u8 0, .int .u8 0, .int .u8 0, .int .u8 0], none⟩,
                ⟨none, .st 65 (.t 10) (.t 32), none⟩])
            (.draw [.real 0 ⟨some 33, .mov (.t 0), none⟩,
              .real 1 ⟨some 34, .nil (.t 33), none⟩,
              .real 2 ⟨some 35, .fa 0 (.t 34), none⟩,
              .real 3 ⟨some 36, .ld false 1 (.t 35), none⟩,
              .real 4 ⟨some 37, .fa 0 (.t 10), none⟩,
              .real 5 ⟨some 38, .ld false 1 (.t 37), none⟩,
              .real 6 ⟨some 39, .fa 1 (.t 10), none⟩,
              .real 7 ⟨some 40, .ld true 64 (.t 39), none⟩,
              .real 8 ⟨some 41, .ixs 64 (.t 36) (.t 38), none⟩,
              .real 9 ⟨none, .st 64 (.t 41) (.t 40), none⟩])))
        (.region [⟨some 42, .bi .add (.t 29) (.c (.int .i64 1)), none⟩,
          ⟨some 29, .mov (.t 42), none⟩])))))))
  (.seq (.region [⟨some 43, .mov (.t 0), none⟩,
      ⟨some 44, .mov (.t 8), none⟩,
      ⟨some 45, .nil (.t 43), none⟩,
      ⟨some 46, .fa 1 (.t 45), none⟩,
      ⟨none, .st 1 (.t 46) (.t 44), none⟩])
  (.seq (.region [⟨some 6, .mov (.c (.int .i64 0)), none⟩])
  (.ret)))))))
def F92 : Fn := .code 2 23 [.tmp 4, .tmp 5] (
  .seq (.region [⟨some 4, .mov (.c (.nilp)), none⟩,
      ⟨some 5, .mov (.c (.int .i64 0)), none⟩])
  (.seq (.seq (.region [⟨some 6, .mov (.t 0), none⟩,
        ⟨some 7, .cm .lt (.t 6) (.c (.int .i64 6)), none⟩,
        ⟨some 8, .mov (.t 7), none⟩,
        ⟨some 9, .mov (.t 0), some (8, false)⟩,
        ⟨some 10, .cm .gt (.t 9) (.c (.int .i64 64)), some (8, false)⟩,
        ⟨some 11, .pick (.t 8) (.c (.bool true)) (.t 10), none⟩,
        ⟨some 12, .mov (.t 11), none⟩,
        ⟨some 13, .mov (.t 1), some (12, false)⟩,
        ⟨some 14, .cm .lt (.t 13) (.c (.int .i64 0)), some (12, false)⟩,
        ⟨some 15, .pick (.t 12) (.c (.bool true)) (.t 14), none⟩,
        ⟨some 16, .mov (.t 15), none⟩,
        ⟨some 17, .mov (.t 1), some (16, false)⟩,
        ⟨some 18, .cm .gt (.t 17) (.c (.int .i64 65535)), some (16, false)⟩,
        ⟨some 19, .pick (.t 16) (.c (.bool true)) (.t 18), none⟩])
    (.cond (.t 19) (.seq (.region [⟨some 4, .mov (.c (.nilp)), none⟩,
          ⟨some 5, .mov (.c (.int .i64 1)), none⟩])
      (.ret))
    (.skip)))
  (.seq (.region [⟨some 20, .mov (.t 0), none⟩,
      ⟨some 21, .msm 1 (.int .i64 0) (.t 20) (.t 20), none⟩,
      ⟨some 22, .mov (.t 1), none⟩,
      ⟨some 23, .agg [.sl .nl 1 [], .int .i64 0, .int .i64 0] [(0, 1, .t 21), (1, 1, .t 22)], none⟩,
      ⟨some 24, .box 3 (.t 23), none⟩,
      ⟨some 4, .mov (.t 24), none⟩,
      ⟨some 5, .mov (.c (.int .i64 0)), none⟩])
  (.ret))))
def F93 : Fn := .code 0 15 [.tmp 0] (
  .seq (.region [⟨some 0, .mov (.c (.nilp)), none⟩])
  (.seq (.region [⟨some 6, .cl 70 [.c (.int .i64 98)], none⟩,
      ⟨some 5, .mov (.t 6), none⟩,
      ⟨some 7, .ex 0 (.t 5), none⟩,
      ⟨some 8, .ex 1 (.t 5), none⟩,
      ⟨some 1, .mov (.t 7), none⟩,
      ⟨some 2, .mov (.t 8), none⟩])
  (.seq (.region [⟨some 10, .mov (.t 1), none⟩,
      ⟨some 11, .cl 71 [.t 10, .c (.int .i64 0), .c (.int .i64 98)], none⟩,
      ⟨some 9, .mov (.t 11), none⟩,
      ⟨some 12, .ex 0 (.t 9), none⟩,
      ⟨some 13, .ex 1 (.t 9), none⟩,
      ⟨some 3, .mov (.t 12), none⟩,
      ⟨some 4, .mov (.t 13), none⟩])
  (.seq (.region [⟨some 14, .mov (.t 3), none⟩,
      ⟨some 0, .mov (.t 14), none⟩])
  (.ret)))))
def F94 : Fn := .code 0 4 [.cell true 2 0] (
  .seq (.region [⟨some 0, .alloc [.int .i64 0, .str []], none⟩])
  (.seq (.region [⟨some 1, .msp 1 (.int .u8 0) (.c (.int .i64 46)) (.c (.int .i64 46)), none⟩,
      ⟨some 2, .cvs (.t 1), none⟩,
      ⟨some 3, .agg [.int .i64 0, .str []] [(0, 1, .c (.int .i64 3)), (1, 1, .t 2)], none⟩,
      ⟨none, .st 2 (.t 0) (.t 3), none⟩])
  (.ret)))
def F95 : Fn := .code 1 5 [.tmp 2] (
  .seq (.region [⟨some 2, .mov (.c (.int .i64 0)), none⟩])
  (.seq (.region [⟨some 3, .mov (.t 0), none⟩,
      ⟨some 4, .cl 145 [.t 3], none⟩,
      ⟨some 5, .lenl (.t 4), none⟩,
      ⟨some 2, .mov (.t 5), none⟩])
  (.ret)))
def F96 : Fn := .code 1 35 [.tmp 2] (
  .seq (.region [⟨some 2, .mov (.c (.nilp)), none⟩])
  (.seq (.seq (.draw [.real 0 ⟨some 3, .mov (.t 0), none⟩,
        .real 1 ⟨some 4, .nil (.t 3), none⟩,
        .real 2 ⟨some 5, .fa 6 (.t 4), none⟩,
        .real 3 ⟨some 6, .ld false 1 (.t 5), none⟩,
        .real 4 ⟨some 7, .lenl (.t 6), none⟩,
        .real 5 ⟨some 8, .cm .eq (.t 7) (.c (.int .i64 0)), none⟩,
        .real 6 ⟨some 9, .mov (.t 8), none⟩,
        .real 7 ⟨some 10, .mov (.t 0), some (9, false)⟩,
        .real 8 ⟨some 11, .nil (.t 10), some (9, false)⟩,
        .real 9 ⟨some 12, .fa 6 (.t 11), some (9, false)⟩,
        .real 10 ⟨some 13, .ld false 1 (.t 12), some (9, false)⟩,
        .real 11 ⟨some 14, .mov (.t 0), some (9, false)⟩,
        .real 12 ⟨some 15, .nil (.t 14), some (9, false)⟩,
        .real 13 ⟨some 16, .fa 6 (.t 15), some (9, false)⟩,
        .real 14 ⟨some 17, .ld false 1 (.t 16), some (9, false)⟩,
        .real 15 ⟨some 18, .lenl (.t 17), some (9, false)⟩,
        .real 16 ⟨some 19, .bi .sub (.t 18) (.c (.int .i64 1)), some (9, false)⟩,
        .real 17 ⟨some 20, .ixs 1 (.t 13) (.t 19), some (9, false)⟩,
        .real 18 ⟨some 21, .ld false 1 (.t 20), some (9, false)⟩,
        .real 19 ⟨some 22, .cl 29 [.t 21], some (9, false)⟩,
        .real 20 ⟨some 23, .pick (.t 9) (.c (.bool true)) (.t 22), none⟩])
    (.cond (.t 23) (.seq (.region [⟨some 2, .mov (.c (.nilp)), none⟩])
      (.ret))
    (.skip)))
  (.seq (.draw [.real 0 ⟨some 24, .mov (.t 0), none⟩,
      .real 1 ⟨some 25, .nil (.t 24), none⟩,
      .real 2 ⟨some 26, .fa 6 (.t 25), none⟩,
      .real 3 ⟨some 27, .ld false 1 (.t 26), none⟩,
      .real 4 ⟨some 28, .mov (.t 0), none⟩,
      .real 5 ⟨some 29, .nil (.t 28), none⟩,
      .real 6 ⟨some 30, .fa 6 (.t 29), none⟩,
      .real 7 ⟨some 31, .ld false 1 (.t 30), none⟩,
      .real 8 ⟨some 32, .lenl (.t 31), none⟩,
      .real 9 ⟨some 33, .bi .sub (.t 32) (.c (.int .i64 1)), none⟩,
      .real 10 ⟨some 34, .ixs 1 (.t 27) (.t 33), none⟩,
      .real 11 ⟨some 35, .ld false 1 (.t 34), none⟩,
      .real 12 ⟨some 2, .mov (.t 35), none⟩])
  (.ret))))
def F97 : Fn := .code 1 14 [.tmp 2] (
  .seq (.region [⟨some 2, .mov (.c (.int .i64 0)), none⟩])
  (.seq (.region [⟨some 3, .mov (.t 0), none⟩,
      ⟨some 4, .nil (.t 3), none⟩,
      ⟨some 5, .fa 5 (.t 4), none⟩,
      ⟨some 6, .ld false 1 (.t 5), none⟩,
      ⟨some 7, .bi .add (.t 6) (.c (.int .i64 1)), none⟩,
      ⟨some 8, .nil (.t 3), none⟩,
      ⟨some 9, .fa 5 (.t 8), none⟩,
      ⟨none, .st 1 (.t 9) (.t 7), none⟩])
  (.seq (.region [⟨some 10, .mov (.t 0), none⟩,
      ⟨some 11, .nil (.t 10), none⟩,
      ⟨some 12, .fa 5 (.t 11), none⟩,
      ⟨some 13, .ld false 1 (.t 12), none⟩,
      ⟨some 14, .bi .sub (.t 13) (.c (.int .i64 1)), none⟩,
      ⟨some 2, .mov (.t 14), none⟩])
  (.ret))))
def F98 : Fn := .code 1 56 [.tmp 2, .tmp 3] (
  .seq (.region [⟨some 2, .mov (.c (.nilp)), none⟩,
      ⟨some 3, .mov (.c (.int .i64 0)), none⟩])
  (.seq (.draw [.real 0 ⟨some 9, .mov (.t 0), none⟩,
      .real 1 ⟨some 10, .nil (.t 9), none⟩,
      .real 2 ⟨some 11, .fa 1 (.t 10), none⟩,
      .real 3 ⟨some 12, .ld false 1 (.t 11), none⟩,
      .real 4 ⟨some 13, .mov (.t 0), none⟩,
      .real 5 ⟨some 14, .nil (.t 13), none⟩,
      .real 6 ⟨some 15, .fa 2 (.t 14), none⟩,
      .real 7 ⟨some 16, .ld false 1 (.t 15), none⟩,
      .real 8 ⟨some 17, .cl 146 [.t 12, .t 16], none⟩,
      .real 9 ⟨some 8, .mov (.t 17), none⟩,
      .real 10 ⟨some 18, .ex 0 (.t 8), none⟩,
      .real 11 ⟨some 19, .ex 1 (.t 8), none⟩,
      .real 12 ⟨some 20, .ex 2 (.t 8), none⟩,
      .real 13 ⟨some 4, .mov (.t 18), none⟩,
      .real 14 ⟨some 5, .mov (.t 19), none⟩,
      .real 15 ⟨some 6, .mov (.t 20), none⟩])
  (.seq (.seq (.region [⟨some 21, .mov (.t 6), none⟩,
        ⟨some 22, .cm .ne (.t 21) (.c (.int .i64 0)), none⟩])
    (.cond (.t 22) (.seq (.region [⟨some 23, .mov (.t 6), none⟩,
          ⟨some 2, .mov (.c (.nilp)), none⟩,
          ⟨some 3, .mov (.t 23), none⟩])
      (.ret))
    (.skip)))
  (.seq (.draw [.real 0 ⟨some 25, .mov (.t 0), none⟩,
      .real 1 ⟨some 26, .nil (.t 25), none⟩,
      .real 2 ⟨some 27, .fa 0 (.t 26), none⟩,
      .real 3 ⟨some 28, .ld false 1 (.t 27), none⟩,
      .real 4 ⟨some 29, .mov (.t 4), none⟩,
      .real 5 ⟨some 30, .mov (.t 0), none⟩,
      .real 6 ⟨some 31, .nil (.t 30), none⟩,
      .real 7 ⟨some 32, .fa 2 (.t 31), none⟩,
      .real 8 ⟨some 33, .ld false 1 (.t 32), none⟩,
      .real 9 ⟨some 34, .mov (.t 0), none⟩,
      .real 10 ⟨some 35, .nil (.t 34), none⟩,
      .real 11 ⟨some 36, .fa 3 (.t 35), none⟩,
      .real 12 ⟨some 37, .ld false 1 (.t 36), none⟩,
      .real 13 ⟨some 38, .mov (.t 5), none⟩,
      .real 14 ⟨some 39, .mov (.t 0), none⟩,
      .real 15 ⟨some 40, .nil (.t 39), none⟩,
      .real 16 ⟨some 41, .fa 5 (.t 40), none⟩,
      .real 17 ⟨some 42, .ld false 1 (.t 41), none⟩,
      .real 18 ⟨some 43, .agg [.int .i64 0, .int .u32 0, .int .u32 0, .int .i64 0] [(0, 1, .t 33), (1, 1, .t 37), (2, 1, .t 38), (3, 1, .t 42)], none⟩,
      .real 19 ⟨some 44, .cl 30 [.t 28, .t 29, .t 43], none⟩,
      .real 20 ⟨some 24, .mov (.t 44), none⟩,
      .real 21 ⟨some 45, .ex 0 (.t 24), none⟩,
      .real 22 ⟨some 46, .ex 1 (.t 24), none⟩,
      .real 23 ⟨some 7, .mov (.t 45), none⟩,
      .real 24 ⟨some 6, .mov (.t 46), none⟩])
  (.seq (.seq (.region [⟨some 47, .mov (.t 6), none⟩,
        ⟨some 48, .cm .ne (.t 47) (.c (.int .i64 0)), none⟩])
    (.cond (.t 48) (.seq (.region [⟨some 49, .mov (.t 0), none⟩,
          ⟨some 50, .nil (.t 49), none⟩,
          ⟨some 51, .fa 1 (.t 50), none⟩,
          ⟨some 52, .ld false 1 (.t 51), none⟩,
          ⟨some 53, .mov (.t 4), none⟩,
          ⟨some 54, .cl 99 [.t 52, .t 53], none⟩])
      (.seq (.region [⟨some 55, .mov (.t 6), none⟩,
          ⟨some 2, .mov (.c (.nilp)), none⟩,
          ⟨some 3, .mov (.t 55), none⟩])
      (.ret)))
    (.skip)))
  (.seq (.region [⟨some 56, .mov (.t 7), none⟩,
      ⟨some 2, .mov (.t 56), none⟩,
      ⟨some 3, .mov (.c (.int .i64 0)), none⟩])
  (.ret)))))))
def F99 : Fn := .code 2 26 [.tmp 4] (
  .seq (.region [⟨some 4, .mov (.c (.int .i64 0)), none⟩])
  (.seq (.block 0 (.seq (.region [⟨some 6, .mov (.t 0), none⟩,
          ⟨some 7, .ce .p false (.t 6) (.c (.nilp)), none⟩,
          ⟨some 5, .mov (.t 7), none⟩])
      (.cond (.t 5) (.seq (.region [⟨some 4, .mov (.c (.int .i64 7)), none⟩])
        (.ret))
      (.seq (.region [⟨some 9, .mov (.t 0), none⟩,
            ⟨some 10, .mov (.t 1), none⟩,
            ⟨some 11, .cl 147 [.t 9, .t 10], none⟩,
            ⟨some 12, .not (.t 11), none⟩,
            ⟨some 8, .mov (.t 12), none⟩])
        (.cond (.t 8) (.seq (.region [⟨some 4, .mov (.c (.int .i64 20)), none⟩])
          (.ret))
        (.seq (.region [⟨some 14, .mov (.t 0), none⟩,
              ⟨some 15, .nil (.t 14), none⟩,
              ⟨some 16, .fa 0 (.t 15), none⟩,
              ⟨some 17, .ld false 1 (.t 16), none⟩,
              ⟨some 18, .mov (.t 1), none⟩,
              ⟨some 19, .ixs 1 (.t 17) (.t 18), none⟩,
              ⟨some 20, .ld false 1 (.t 19), none⟩,
              ⟨some 21, .cm .eq (.t 20) (.c (.int .i64 0)), none⟩,
              ⟨some 13, .mov (.t 21), none⟩])
          (.cond (.t 13) (.seq (.region [⟨some 4, .mov (.c (.int .i64 6)), none⟩])
            (.ret))
          (.skip))))))))
  (.seq (.region [⟨some 22, .mov (.t 0), none⟩,
      ⟨some 23, .nil (.t 22), none⟩,
      ⟨some 24, .fa 0 (.t 23), none⟩,
      ⟨some 25, .ld false 1 (.t 24), none⟩,
      ⟨some 26, .mov (.t 1), none⟩,
      ⟨some 27, .ixs 1 (.t 25) (.t 26), none⟩,
      ⟨none, .st 1 (.t 27) (.c (.int .i64 0)), none⟩])
  (.seq (.region [⟨some 4, .mov (.c (.int .i64 0)), none⟩])
  (.ret)))))
def F100 : Fn := .code 2 33 [.tmp 4] (
  .seq (.region [⟨some 4, .mov (.c (.int .i64 0)), none⟩])
  (.scope (.seq (.draw [.real 0 ⟨some 8, .mov (.t 0), none⟩,
        .real 1 ⟨some 9, .nil (.t 8), none⟩,
        .real 2 ⟨some 10, .fa 6 (.t 9), none⟩,
        .real 3 ⟨some 11, .ld false 1 (.t 10), none⟩,
        .real 4 ⟨some 12, .lenl (.t 11), none⟩,
        .real 5 ⟨some 5, .mov (.c (.int .i64 0)), none⟩,
        .real 6 ⟨some 6, .mov (.t 12), none⟩])
    (.seq (.skip)
    (.seq (.block 0 (.loop [5, 6] [7, 13, 14, 15, 16, 17, 18, 19, 20, 21, 22, 23, 24, 25, 26, 27, 28, 29, 30, 31, 32, 33] (.seq (.seq (.region [⟨some 13, .mov (.t 6), none⟩,
                ⟨some 14, .mov (.t 5), none⟩,
                ⟨some 15, .bi .sub (.t 13) (.t 14), none⟩,
                ⟨some 16, .cm .gt (.t 15) (.c (.int .i64 1)), none⟩])
            (.cond (.t 16) (.skip)
            (.exit 0)))
          (.block 1 (.seq (.region [⟨some 17, .mov (.t 5), none⟩,
                ⟨some 18, .mov (.t 6), none⟩,
                ⟨some 19, .bi .add (.t 17) (.t 18), none⟩,
                ⟨some 20, .bi .quo (.t 19) (.c (.int .i64 2)), none⟩,
                ⟨some 7, .mov (.t 20), none⟩])
            (.seq (.seq (.region [⟨some 21, .mov (.t 0), none⟩,
                  ⟨some 22, .nil (.t 21), none⟩,
                  ⟨some 23, .fa 6 (.t 22), none⟩,
                  ⟨some 24, .ld false 1 (.t 23), none⟩,
                  ⟨some 25, .mov (.t 7), none⟩,
                  ⟨some 26, .ixs 1 (.t 24) (.t 25), none⟩,
                  ⟨some 27, .ld false 1 (.t 26), none⟩,
                  ⟨some 28, .cl 24 [.t 27], none⟩,
                  ⟨some 29, .fd false 3 1 (.t 28), none⟩,
                  ⟨some 30, .mov (.t 1), none⟩,
                  ⟨some 31, .cm .le (.t 29) (.t 30), none⟩])
              (.cond (.t 31) (.seq (.region [⟨some 32, .mov (.t 7), none⟩,
                    ⟨some 5, .mov (.t 32), none⟩])
                (.exit 1))
              (.skip)))
            (.region [⟨some 33, .mov (.t 7), none⟩,
              ⟨some 6, .mov (.t 33), none⟩])))))))
    (.seq (.region [⟨some 34, .mov (.t 5), none⟩,
        ⟨some 4, .mov (.t 34), none⟩])
    (.ret)))))))
def F101 : Fn := .code 2 71 [.tmp 4] (
  .seq (.region [⟨some 4, .mov (.c (.bool false)), none⟩])
  (.seq (.seq (.region [⟨some 8, .mov (.t 1), none⟩,
        ⟨some 9, .lenl (.t 8), none⟩,
        ⟨some 10, .mov (.c (.int .i64 0)), none⟩])
    (.block 0 (.loop [10] [4, 5, 6, 7, 11, 12, 13, 14, 15, 16, 17, 18, 19, 20, 21, 22, 23, 24, 25, 26, 27, 28, 29, 30, 31, 32, 33, 34, 35, 36, 37, 38, 39, 40, 41, 42, 43, 44, 45, 46, 47, 48, 49, 50, 51, 52, 53, 54, 55, 56, 57, 58, 59, 60, 61, 62, 63, 64, 65, 66, 67, 68, 69, 70, 71, 72] (.seq (.region [⟨some 11, .cm .lt (.t 10) (.t 9), none⟩])
        (.seq (.cond (.t 11) (.skip)
          (.exit 0))
        (.seq (.block 1 (.seq (.region [⟨some 12, .mov (.t 10), none⟩,
                ⟨some 13, .ixs 1 (.t 8) (.t 10), none⟩,
                ⟨some 14, .ld false 1 (.t 13), none⟩,
                ⟨some 5, .mov (.t 12), none⟩,
                ⟨some 6, .mov (.t 14), none⟩])
            (.seq (.region [⟨some 15, .mov (.t 6), none⟩,
                ⟨some 16, .cl 24 [.t 15], none⟩,
                ⟨some 7, .alloc [.int .i64 0, .int .u32 0, .int .u32 0, .int .i64 0], none⟩,
                ⟨none, .st 4 (.t 7) (.t 16), none⟩])
            (.block 2 (.seq (.draw [.real 0 ⟨some 18, .mov (.t 6), none⟩,
                  .real 1 ⟨some 19, .ce .p false (.t 18) (.c (.nilp)), none⟩,
                  .real 2 ⟨some 20, .mov (.t 19), none⟩,
                  .real 3 ⟨some 21, .fa 0 (.t 7), some (20, false)⟩,
                  .real 4 ⟨some 22, .ld false 1 (.t 21), some (20, false)⟩,
                  .real 5 ⟨some 23, .mov (.t 0), some (20, false)⟩,
                  .real 6 ⟨some 24, .nil (.t 23), some (20, false)⟩,
                  .real 7 ⟨some 25, .fa 2 (.t 24), some (20, false)⟩,
                  .real 8 ⟨some 26, .ld false 1 (.t 25), some (20, false)⟩,
                  .real 9 ⟨some 27, .cm .ne (.t 22) (.t 26), some (20, false)⟩,
                  .real 10 ⟨some 28, .pick (.t 20) (.c (.bool true)) (.t 27), none⟩,
                  .real 11 ⟨some 29, .mov (.t 28), none⟩,
                  .real 12 ⟨some 30, .fa 1 (.t 7), some (29, false)⟩,
                  .real 13 ⟨some 31, .ld false 1 (.t 30), some (29, false)⟩,
                  .real 14 ⟨some 32, .mov (.t 0), some (29, false)⟩,
                  .real 15 ⟨some 33, .nil (.t 32), some (29, false)⟩,
                  .real 16 ⟨some 34, .fa 3 (.t 33), some (29, false)⟩,
                  .real 17 ⟨some 35, .ld false 1 (.t 34), some (29, false)⟩,
                  .real 18 ⟨some 36, .cm .ne (.t 31) (.t 35), some (29, false)⟩,
                  .real 19 ⟨some 37, .pick (.t 29) (.c (.bool true)) (.t 36), none⟩,
                  .real 20 ⟨some 17, .mov (.t 37), none⟩])
              (.cond (.t 17) (.seq (.region [⟨some 4, .mov (.c (.bool false)), none⟩])
                (.ret))
              (.seq (.draw [.real 0 ⟨some 39, .mov (.t 5), none⟩,
                    .real 1 ⟨some 40, .cm .eq (.t 39) (.c (.int .i64 0)), none⟩,
                    .real 2 ⟨some 41, .mov (.t 40), none⟩,
                    .real 3 ⟨some 42, .fa 3 (.t 7), some (41, true)⟩,
                    .real 4 ⟨some 43, .ld false 1 (.t 42), some (41, true)⟩,
                    .real 5 ⟨some 44, .mov (.t 0), some (41, true)⟩,
                    .real 6 ⟨some 45, .nil (.t 44), some (41, true)⟩,
                    .real 7 ⟨some 46, .fa 4 (.t 45), some (41, true)⟩,
                    .real 8 ⟨some 47, .ld false 1 (.t 46), some (41, true)⟩,
                    .real 9 ⟨some 48, .cm .gt (.t 43) (.t 47), some (41, true)⟩,
                    .real 10 ⟨some 49, .pick (.t 41) (.t 48) (.c (.bool false)), none⟩,
                    .real 11 ⟨some 38, .mov (.t 49), none⟩])
                (.cond (.t 38) (.seq (.region [⟨some 4, .mov (.c (.bool false)), none⟩])
                  (.ret))
                (.seq (.draw [.real 0 ⟨some 51, .mov (.t 5), none⟩,
                      .real 1 ⟨some 52, .cm .gt (.t 51) (.c (.int .i64 0)), none⟩,
                      .real 2 ⟨some 53, .mov (.t 52), none⟩,
                      .real 3 ⟨some 54, .fa 3 (.t 7), some (53, true)⟩,
                      .real 4 ⟨some 55, .ld false 1 (.t 54), some (53, true)⟩,
                      .real 5 ⟨some 56, .mov (.t 1), some (53, true)⟩,
                      .real 6 ⟨some 57, .mov (.t 5), some (53, true)⟩,
                      .real 7 ⟨some 58, .bi .sub (.t 57) (.c (.int .i64 1)), some (53, true)⟩,
                      .real 8 ⟨some 59, .ixs 1 (.t 56) (.t 58), some (53, true)⟩,
                      .real 9 ⟨some 60, .ld false 1 (.t 59), some (53, true)⟩,
                      .real 12 ⟨some 63, .mov (.t 1), some (53, true)⟩,
                      .real 13 ⟨some 64, .mov (.t 5), some (53, true)⟩,
                      .real 14 ⟨some 65, .bi .sub (.t 64) (.c (.int .i64 1)), some (53, true)⟩,
                      .real 15 ⟨some 66, .ixs 1 (.t 63) (.t 65), some (53, true)⟩,
                      .real 16 ⟨some 67, .ld false 1 (.t 66), some (53, true)⟩,
                      .real 10 ⟨some 61, .cl 24 [.t 60], some (53, true)⟩,
                      .chk ⟨some 55, .ld false 1 (.t 54), some (53, true)⟩,
                      .chk ⟨some 67, .ld false 1 (.t 66), some (53, true)⟩,
                      .real 11 ⟨some 62, .fd false 3 1 (.t 61), some (53, true)⟩,
                      .real 17 ⟨some 68, .cl 28 [.t 67], some (53, true)⟩,
                      .chk ⟨some 55, .ld false 1 (.t 54), some (53, true)⟩,
                      .real 18 ⟨some 69, .bi .add (.t 62) (.t 68), some (53, true)⟩,
                      .real 19 ⟨some 70, .cm .ne (.t 55) (.t 69), some (53, true)⟩,
                      .real 20 ⟨some 71, .pick (.t 53) (.t 70) (.c (.bool false)), none⟩,
                      .real 21 ⟨some 50, .mov (.t 71), none⟩])
                  (.cond (.t 50) (.seq (.region [⟨some 4, .mov (.c (.bool false)), none⟩])
                    (.ret))
                  (.skip)))))))))))
        (.region [⟨some 72, .bi .add (.t 10) (.c (.int .i64 1)), none⟩,
          ⟨some 10, .mov (.t 72), none⟩])))))))
  (.seq (.region [⟨some 4, .mov (.c (.bool true)), none⟩])
  (.ret))))
def F102 : Fn := .code 3 32 [.tmp 6] (
  .seq (.region [⟨some 6, .mov (.c (.int .i64 0)), none⟩])
  (.seq (.block 0 (.seq (.region [⟨some 8, .mov (.t 0), none⟩,
          ⟨some 9, .ce .p false (.t 8) (.c (.nilp)), none⟩,
          ⟨some 7, .mov (.t 9), none⟩])
      (.cond (.t 7) (.seq (.region [⟨some 6, .mov (.c (.int .i64 7)), none⟩])
        (.ret))
      (.seq (.region [⟨some 11, .mov (.t 0), none⟩,
            ⟨some 12, .mov (.t 1), none⟩,
            ⟨some 13, .cl 147 [.t 11, .t 12], none⟩,
            ⟨some 14, .not (.t 13), none⟩,
            ⟨some 10, .mov (.t 14), none⟩])
        (.cond (.t 10) (.seq (.region [⟨some 6, .mov (.c (.int .i64 20)), none⟩])
          (.ret))
        (.seq (.region [⟨some 16, .mov (.t 2), none⟩,
              ⟨some 17, .cl 148 [.t 16], none⟩,
              ⟨some 18, .not (.t 17), none⟩,
              ⟨some 15, .mov (.t 18), none⟩])
          (.cond (.t 15) (.seq (.region [⟨some 6, .mov (.c (.int .i64 1)), none⟩])
            (.ret))
          (.seq (.region [⟨some 20, .mov (.t 0), none⟩,
                ⟨some 21, .nil (.t 20), none⟩,
                ⟨some 22, .fa 0 (.t 21), none⟩,
                ⟨some 23, .ld false 1 (.t 22), none⟩,
                ⟨some 24, .mov (.t 1), none⟩,
                ⟨some 25, .ixs 1 (.t 23) (.t 24), none⟩,
                ⟨some 26, .ld false 1 (.t 25), none⟩,
                ⟨some 27, .cm .ne (.t 26) (.c (.int .i64 0)), none⟩,
                ⟨some 19, .mov (.t 27), none⟩])
            (.cond (.t 19) (.seq (.region [⟨some 6, .mov (.c (.int .i64 8)), none⟩])
              (.ret))
            (.skip))))))))))
  (.seq (.region [⟨some 28, .mov (.t 0), none⟩,
      ⟨some 29, .nil (.t 28), none⟩,
      ⟨some 30, .fa 0 (.t 29), none⟩,
      ⟨some 31, .ld false 1 (.t 30), none⟩,
      ⟨some 32, .mov (.t 1), none⟩,
      ⟨some 33, .mov (.t 2), none⟩,
      ⟨some 34, .ixs 1 (.t 31) (.t 32), none⟩,
      ⟨none, .st 1 (.t 34) (.t 33), none⟩])
  (.seq (.region [⟨some 6, .mov (.c (.int .i64 0)), none⟩])
  (.ret)))))
def F103 : Fn := .code 1 44 [.tmp 2] (
  .seq (.region [⟨some 2, .mov (.c (.int .i64 0)), none⟩])
  (.seq (.region [⟨some 5, .mov (.t 0), none⟩,
      ⟨some 6, .nil (.t 5), none⟩,
      ⟨some 7, .fa 6 (.t 6), none⟩,
      ⟨some 8, .ld false 1 (.t 7), none⟩,
      ⟨some 9, .ixs 1 (.t 8) (.c (.int .i64 0)), none⟩,
      ⟨some 10, .ld false 1 (.t 9), none⟩,
      ⟨some 3, .mov (.t 10), none⟩])
  (.seq (.seq (.draw [.real 0 ⟨some 11, .mov (.t 0), none⟩,
        .real 1 ⟨some 12, .nil (.t 11), none⟩,
        .real 2 ⟨some 13, .fa 0 (.t 12), none⟩,
        .real 3 ⟨some 14, .ld false 1 (.t 13), none⟩,
        .real 4 ⟨some 15, .mov (.t 3), none⟩,
        .real 5 ⟨some 16, .cl 34 [.t 15], none⟩,
        .chk ⟨some 14, .ld false 1 (.t 13), none⟩,
        .real 6 ⟨some 17, .cl 31 [.t 14, .t 16], none⟩,
        .real 7 ⟨some 4, .mov (.t 17), none⟩])
    (.seq (.region [⟨some 18, .mov (.t 4), none⟩,
        ⟨some 19, .cm .ne (.t 18) (.c (.int .i64 0)), none⟩])
    (.cond (.t 19) (.seq (.region [⟨some 20, .mov (.t 4), none⟩,
          ⟨some 2, .mov (.t 20), none⟩])
      (.ret))
    (.skip))))
  (.seq (.draw [.real 0 ⟨some 21, .mov (.t 0), none⟩,
      .real 1 ⟨some 22, .nil (.t 21), none⟩,
      .real 2 ⟨some 23, .fa 1 (.t 22), none⟩,
      .real 3 ⟨some 24, .ld false 1 (.t 23), none⟩,
      .real 4 ⟨some 25, .mov (.t 3), none⟩,
      .real 5 ⟨some 26, .cl 34 [.t 25], none⟩,
      .chk ⟨some 24, .ld false 1 (.t 23), none⟩,
      .real 6 ⟨some 27, .cl 99 [.t 24, .t 26], none⟩])
  (.seq (.region [⟨some 28, .mov (.t 0), none⟩,
      ⟨some 29, .mov (.t 0), none⟩,
      ⟨some 30, .nil (.t 29), none⟩,
      ⟨some 31, .fa 6 (.t 30), none⟩,
      ⟨some 32, .ld false 1 (.t 31), none⟩,
      ⟨some 33, .sll 1 (.t 32) (some (.c (.int .i64 1))) none, none⟩,
      ⟨some 34, .nil (.t 28), none⟩,
      ⟨some 35, .fa 6 (.t 34), none⟩,
      ⟨none, .st 1 (.t 35) (.t 33), none⟩])
  (.seq (.region [⟨some 36, .mov (.t 0), none⟩,
      ⟨some 37, .mov (.t 3), none⟩,
      ⟨some 38, .cl 24 [.t 37], none⟩,
      ⟨some 39, .fd false 3 1 (.t 38), none⟩,
      ⟨some 40, .mov (.t 3), none⟩,
      ⟨some 41, .cl 28 [.t 40], none⟩,
      ⟨some 42, .bi .add (.t 39) (.t 41), none⟩,
      ⟨some 43, .nil (.t 36), none⟩,
      ⟨some 44, .fa 4 (.t 43), none⟩,
      ⟨none, .st 1 (.t 44) (.t 42), none⟩])
  (.seq (.region [⟨some 2, .mov (.c (.int .i64 0)), none⟩])
  (.ret))))))))
def F104 : Fn := .code 1 8 [.tmp 2] (
  .seq (.region [⟨some 2, .mov (.c (.int .i64 0)), none⟩])
  (.seq (.seq (.region [⟨some 3, .mov (.t 0), none⟩,
        ⟨some 4, .cm .lt (.t 3) (.c (.int .i64 1)), none⟩])
    (.cond (.t 4) (.seq (.region [⟨some 2, .mov (.c (.int .i64 0)), none⟩])
      (.ret))
    (.skip)))
  (.seq (.region [⟨some 5, .mov (.t 0), none⟩,
      ⟨some 6, .bi .sub (.t 5) (.c (.int .i64 1)), none⟩,
      ⟨some 7, .bi .quo (.t 6) (.c (.int .i64 52)), none⟩,
      ⟨some 8, .bi .add (.t 7) (.c (.int .i64 1)), none⟩,
      ⟨some 2, .mov (.t 8), none⟩])
  (.ret))))
def F105 : Fn := .code 1 6 [.tmp 2] (
  .seq (.region [⟨some 1, .box 2 (.t 0), none⟩,
      ⟨some 2, .mov (.c (.int .i64 0)), none⟩])
  (.seq (.region [⟨some 3, .fa 1 (.t 1), none⟩,
      ⟨some 4, .ld false 1 (.t 3), none⟩,
      ⟨some 5, .lens (.t 4), none⟩,
      ⟨some 6, .bi .add (.c (.int .i64 7)) (.t 5), none⟩,
      ⟨some 2, .mov (.t 6), none⟩])
  (.ret)))
def F106 : Fn := .code 4 26 [.tmp 5] (
  .seq (.region [⟨some 5, .mov (.c (.bool false)), none⟩])
  (.seq (.region [⟨some 7, .mov (.t 0), none⟩,
      ⟨some 8, .cl 24 [.t 7], none⟩,
      ⟨some 6, .alloc [.int .i64 0, .int .u32 0, .int .u32 0, .int .i64 0], none⟩,
      ⟨none, .st 4 (.t 6) (.t 8), none⟩])
  (.seq (.draw [.real 0 ⟨some 9, .mov (.t 0), none⟩,
      .real 1 ⟨some 10, .cl 28 [.t 9], none⟩,
      .real 2 ⟨some 11, .cm .gt (.t 10) (.c (.int .i64 0)), none⟩,
      .real 3 ⟨some 12, .mov (.t 11), none⟩,
      .real 4 ⟨some 13, .fa 0 (.t 6), some (12, true)⟩,
      .real 5 ⟨some 14, .ld false 1 (.t 13), some (12, true)⟩,
      .real 6 ⟨some 15, .ld false 1 (.t 1), some (12, true)⟩,
      .real 7 ⟨some 16, .cm .eq (.t 14) (.t 15), some (12, true)⟩,
      .real 8 ⟨some 17, .pick (.t 12) (.t 16) (.c (.bool false)), none⟩,
      .real 9 ⟨some 18, .mov (.t 17), none⟩,
      .real 10 ⟨some 19, .fa 1 (.t 6), some (18, true)⟩,
      .real 11 ⟨some 20, .ld false 1 (.t 19), some (18, true)⟩,
      .real 12 ⟨some 21, .ld false 1 (.t 2), some (18, true)⟩,
      .real 13 ⟨some 22, .cm .eq (.t 20) (.t 21), some (18, true)⟩,
      .real 14 ⟨some 23, .pick (.t 18) (.t 22) (.c (.bool false)), none⟩,
      .real 15 ⟨some 24, .mov (.t 23), none⟩,
      .real 16 ⟨some 25, .mov (.t 0), some (24, true)⟩,
      .real 18 ⟨some 27, .ld false 1 (.t 3), some (24, true)⟩,
      .real 17 ⟨some 26, .cl 107 [.t 25], some (24, true)⟩,
      .chk ⟨some 27, .ld false 1 (.t 3), some (24, true)⟩,
      .real 19 ⟨some 28, .cm .gt (.t 26) (.t 27), some (24, true)⟩,
      .real 20 ⟨some 29, .pick (.t 24) (.t 28) (.c (.bool false)), none⟩,
      .real 21 ⟨some 5, .mov (.t 29), none⟩])
  (.ret))))
def F107 : Fn := .code 1 8 [.tmp 2] (
  .seq (.region [⟨some 2, .mov (.c (.int .i64 0)), none⟩])
  (.seq (.region [⟨some 3, .mov (.t 0), none⟩,
      ⟨some 4, .cl 24 [.t 3], none⟩,
      ⟨some 5, .fd false 3 1 (.t 4), none⟩,
      ⟨some 6, .mov (.t 0), none⟩,
      ⟨some 7, .cl 28 [.t 6], none⟩,
      ⟨some 8, .bi .add (.t 5) (.t 7), none⟩,
      ⟨some 2, .mov (.t 8), none⟩])
  (.ret)))
def F108 : Fn := .code 2 29 [.tmp 4] (
  .seq (.region [⟨some 4, .mov (.c (.nilp)), none⟩])
  (.seq (.region [⟨some 5, .mov (.c (.nilp)), none⟩])
  (.seq (.seq (.region [⟨some 8, .mov (.t 0), none⟩,
        ⟨some 9, .lenl (.t 8), none⟩,
        ⟨some 10, .mov (.c (.int .i64 0)), none⟩])
    (.block 0 (.loop [5, 10] [7, 11, 12, 13, 14, 15, 16, 17, 18, 19, 20, 21, 22, 23, 24, 25, 26, 27, 28, 29] (.seq (.region [⟨some 11, .cm .lt (.t 10) (.t 9), none⟩])
        (.seq (.cond (.t 11) (.skip)
          (.exit 0))
        (.seq (.block 1 (.seq (.region [⟨some 12, .ixs 1 (.t 8) (.t 10), none⟩,
                ⟨some 13, .ld false 1 (.t 12), none⟩,
                ⟨some 7, .mov (.t 13), none⟩])
            (.seq (.region [⟨some 14, .mov (.t 1), none⟩,
                ⟨some 15, .mov (.t 7), none⟩,
                ⟨some 16, .cv (.t 14) [.t 15], none⟩,
                ⟨some 17, .mov (.t 16), none⟩,
                ⟨some 18, .mov (.t 5), some (17, true)⟩,
                ⟨some 19, .ce .p false (.t 18) (.c (.nilp)), some (17, true)⟩,
                ⟨some 20, .mov (.t 19), some (17, true)⟩,
                ⟨some 21, .mov (.t 7), some (20, false)⟩,
                ⟨some 22, .cl 24 [.t 21], some (20, false)⟩,
                ⟨some 23, .mov (.t 5), some (20, false)⟩,
                ⟨some 24, .cl 24 [.t 23], some (20, false)⟩,
                ⟨some 25, .cl 149 [.t 22, .t 24], some (20, false)⟩,
                ⟨some 26, .pick (.t 20) (.c (.bool true)) (.t 25), some (17, true)⟩,
                ⟨some 27, .pick (.t 17) (.t 26) (.c (.bool false)), none⟩])
            (.cond (.t 27) (.region [⟨some 28, .mov (.t 7), none⟩,
                ⟨some 5, .mov (.t 28), none⟩])
            (.skip)))))
        (.region [⟨some 29, .bi .add (.t 10) (.c (.int .i64 1)), none⟩,
          ⟨some 10, .mov (.t 29), none⟩])))))))
  (.seq (.region [⟨some 30, .mov (.t 5), none⟩,
      ⟨some 4, .mov (.t 30), none⟩])
  (.ret)))))
def F109 : Fn := .code 3 12 [.tmp 4] (
  .seq (.region [⟨some 4, .mov (.c (.bool false)), none⟩])
  (.seq (.draw [.real 0 ⟨some 5, .ld false 1 (.t 1), none⟩,
      .real 1 ⟨some 6, .mov (.t 0), none⟩,
      .real 2 ⟨some 7, .cv (.t 5) [.t 6], none⟩,
      .real 3 ⟨some 8, .mov (.t 7), none⟩,
      .real 4 ⟨some 9, .mov (.t 0), some (8, true)⟩,
      .real 7 ⟨some 12, .ld false 1 (.t 2), some (8, true)⟩,
      .real 5 ⟨some 10, .cl 24 [.t 9], some (8, true)⟩,
      .chk ⟨some 12, .ld false 1 (.t 2), some (8, true)⟩,
      .real 6 ⟨some 11, .fd false 3 1 (.t 10), some (8, true)⟩,
      .real 8 ⟨some 13, .cm .le (.t 11) (.t 12), some (8, true)⟩,
      .real 9 ⟨some 14, .pick (.t 8) (.t 13) (.c (.bool false)), none⟩,
      .real 10 ⟨some 4, .mov (.t 14), none⟩])
  (.ret)))
def F110 : Fn := .code 3 12 [.tmp 4] (
  .seq (.region [⟨some 4, .mov (.c (.bool false)), none⟩])
  (.seq (.draw [.real 0 ⟨some 5, .ld false 1 (.t 1), none⟩,
      .real 1 ⟨some 6, .mov (.t 0), none⟩,
      .real 2 ⟨some 7, .cv (.t 5) [.t 6], none⟩,
      .real 3 ⟨some 8, .mov (.t 7), none⟩,
      .real 4 ⟨some 9, .mov (.t 0), some (8, true)⟩,
      .real 7 ⟨some 12, .ld false 1 (.t 2), some (8, true)⟩,
      .real 5 ⟨some 10, .cl 24 [.t 9], some (8, true)⟩,
      .chk ⟨some 12, .ld false 1 (.t 2), some (8, true)⟩,
      .real 6 ⟨some 11, .fd false 3 1 (.t 10), some (8, true)⟩,
      .real 8 ⟨some 13, .cm .eq (.t 11) (.t 12), some (8, true)⟩,
      .real 9 ⟨some 14, .pick (.t 8) (.t 13) (.c (.bool false)), none⟩,
      .real 10 ⟨some 4, .mov (.t 14), none⟩])
  (.ret)))
def F112 : Fn := .code 1 20 [.tmp 2] (
  .seq (.region [⟨some 2, .mov (.c (.sl .nl 1 [])), none⟩])
  (.seq (.region [⟨some 3, .mov (.c (.sl .nl 1 [])), none⟩])
  (.seq (.seq (.region [⟨some 6, .mov (.t 0), none⟩,
        ⟨some 7, .lenl (.t 6), none⟩,
        ⟨some 8, .mov (.c (.int .i64 0)), none⟩])
    (.block 0 (.loop [3, 8] [5, 9, 10, 11, 12, 13, 14, 15, 16, 17, 18, 19] (.seq (.region [⟨some 9, .cm .lt (.t 8) (.t 7), none⟩])
        (.seq (.cond (.t 9) (.skip)
          (.exit 0))
        (.seq (.block 1 (.seq (.region [⟨some 10, .ixs 1 (.t 6) (.t 8), none⟩,
                ⟨some 11, .ld false 1 (.t 10), none⟩,
                ⟨some 5, .mov (.t 11), none⟩])
            (.seq (.region [⟨some 12, .mov (.t 5), none⟩,
                ⟨some 13, .ce .p true (.t 12) (.c (.nilp)), none⟩])
            (.cond (.t 13) (.region [⟨some 14, .mov (.t 3), none⟩,
                ⟨some 15, .mov (.t 5), none⟩,
                ⟨some 16, .cl 34 [.t 15], none⟩,
                ⟨some 17, .bsl 1 [.t 16], none⟩,
                ⟨some 18, .app false 1 (.t 14) (.t 17), none⟩,
                ⟨some 3, .mov (.t 18), none⟩])
            (.skip)))))
        (.region [⟨some 19, .bi .add (.t 8) (.c (.int .i64 1)), none⟩,
          ⟨some 8, .mov (.t 19), none⟩])))))))
  (.seq (.region [⟨some 20, .mov (.t 3), none⟩,
      ⟨some 2, .mov (.t 20), none⟩])
  (.ret)))))
def F113 : Fn := .code 2 7 [.tmp 4] (
  .seq (.region [⟨some 4, .mov (.c (.bool false)), none⟩])
  (.seq (.region [⟨some 5, .mov (.t 0), none⟩,
      ⟨some 6, .mov (.t 1), none⟩,
      ⟨some 7, .cl 152 [.t 5, .t 6], none⟩,
      ⟨some 8, .cm .ge (.t 7) (.c (.int .i64 0)), none⟩,
      ⟨some 4, .mov (.t 8), none⟩])
  (.ret)))
def F114 : Fn := .code 2 35 [.tmp 4, .tmp 5] (
  .seq (.region [⟨some 4, .mov (.c (.str [])), none⟩,
      ⟨some 5, .mov (.c (.int .i64 0)), none⟩])
  (.seq (.region [⟨some 11, .mov (.t 0), none⟩,
      ⟨some 12, .mov (.t 1), none⟩,
      ⟨some 13, .cl 153 [.t 11, .t 12], none⟩,
      ⟨some 10, .mov (.t 13), none⟩,
      ⟨some 14, .ex 0 (.t 10), none⟩,
      ⟨some 15, .ex 1 (.t 10), none⟩,
      ⟨some 6, .mov (.t 14), none⟩,
      ⟨some 7, .mov (.t 15), none⟩])
  (.seq (.seq (.region [⟨some 16, .mov (.t 7), none⟩,
        ⟨some 17, .cm .ne (.t 16) (.c (.int .i64 0)), none⟩])
    (.cond (.t 17) (.seq (.region [⟨some 18, .mov (.t 7), none⟩,
          ⟨some 4, .mov (.c (.str [])), none⟩,
          ⟨some 5, .mov (.t 18), none⟩])
      (.ret))
    (.skip)))
  (.seq (.seq (.region [⟨some 19, .mov (.t 0), none⟩,
        ⟨some 20, .nil (.t 19), none⟩,
        ⟨some 21, .fa 1 (.t 20), none⟩,
        ⟨some 22, .ld false 1 (.t 21), none⟩,
        ⟨some 23, .lenl (.t 22), none⟩,
        ⟨some 24, .mov (.c (.int .i64 0)), none⟩])
    (.block 0 (.loop [6, 24] [9, 25, 26, 27, 28, 29, 30, 31, 32, 33, 34, 35] (.seq (.region [⟨some 25, .cm .lt (.t 24) (.t 23), none⟩])
        (.seq (.cond (.t 25) (.skip)
          (.exit 0))
        (.seq (.block 1 (.seq (.region [⟨some 26, .ixs 65 (.t 22) (.t 24), none⟩,
                ⟨some 27, .ld true 65 (.t 26), none⟩,
                ⟨some 9, .alloc [.int .i64 0, .int .u8 0, .int .u8 0, .int .u8 0, .int .u8 0, .int .u8 0, .int .u8 0, .int .u8 0, .int .u8 0, .int .u8 0, .int .u8 0, .int .u8 0, .int .u8 0, .int .u8 0, .int .u8 0, .int .u8 0, .int .u8 0, .int .u8 0, .int .u8 0, .int .u8 0, .int .u8 0, .int .u8 0, .int .u8 0, .int .u8 0, .int .u8 0, .int .u8 0, .int .u8 0, .int .u8 0, .int .u8 0, .int .u8 0, .int .u8 0, .int .u8 0, .int .u8 0, .int .u8 0, .int .u8 0, .int .u8 0, .int .u8 0, .int .u8 0, .int .u8 0, .int .u8 0, .int .u8 0, .int .u8 0, .int .u8 0, .int .u8 0, .int .u8 0, .int .u8 0, .int .u8 0, .int .u8 0, .int .u8 0, .int .u8 0, .int .u8 0, .int .u8 0, .int .u8 0, .int .u8 0, .int .u8 0, .int .u8 0, .int .u8 0, .int .u8 0, .int .u8 0, .int .u8 0, .int .u8 0, .int .u8 0, .int .u8 0, .int .u8 0, .int .u8 0], none⟩,
                ⟨none, .st 65 (.t 9) (.t 27), none⟩])
            (.seq (.region [⟨some 28, .fa 0 (.t 9), none⟩,
                ⟨some 29, .ld false 1 (.t 28), none⟩,
                ⟨some 30, .mov (.t 1), none⟩,
                ⟨some 31, .cm .eq (.t 29) (.t 30), none⟩])
            (.cond (.t 31) (.region [⟨some 32, .fa 1 (.t 9), none⟩,
                ⟨some 33, .sla 64 1 (.t 32) none none, none⟩,
                ⟨some 34, .cvs (.t 33), none⟩,
                ⟨some 6, .mov (.t 34), none⟩])
            (.skip)))))
        (.region [⟨some 35, .bi .add (.t 24) (.c (.int .i64 1)), none⟩,
          ⟨some 24, .mov (.t 35), none⟩])))))))
  (.seq (.region [⟨some 36, .mov (.t 6), none⟩,
      ⟨some 4, .mov (.t 36), none⟩,
      ⟨some 5, .mov (.c (.int .i64 0)), none⟩])
  (.ret))))))
def F120 : Fn := .code 1 9 [.tmp 2] (
  .seq (.region [⟨some 2, .mov (.c (.int .i64 0)), none⟩])
  (.seq (.seq (.region [⟨some 3, .mov (.t 0), none⟩,
        ⟨some 4, .ce .p false (.t 3) (.c (.nilp)), none⟩])
    (.cond (.t 4) (.seq (.region [⟨some 2, .mov (.c (.int .i64 0)), none⟩])
      (.ret))
    (.skip)))
  (.seq (.region [⟨some 5, .mov (.t 0), none⟩,
      ⟨some 6, .nil (.t 5), none⟩,
      ⟨some 7, .fa 0 (.t 6), none⟩,
      ⟨some 8, .ld false 1 (.t 7), none⟩,
      ⟨some 9, .lenl (.t 8), none⟩,
      ⟨some 2, .mov (.t 9), none⟩])
  (.ret))))
def F121 : Fn := .code 2 11 [.tmp 4] (
  .seq (.region [⟨some 4, .mov (.c (.bool false)), none⟩])
  (.seq (.region [⟨some 5, .mov (.t 1), none⟩,
      ⟨some 6, .cm .ge (.t 5) (.c (.int .i64 0)), none⟩,
      ⟨some 7, .mov (.t 6), none⟩,
      ⟨some 8, .mov (.t 1), some (7, true)⟩,
      ⟨some 9, .mov (.t 0), some (7, true)⟩,
      ⟨some 10, .cl 120 [.t 9], some (7, true)⟩,
      ⟨some 11, .cm .lt (.t 8) (.t 10), some (7, true)⟩,
      ⟨some 12, .pick (.t 7) (.t 11) (.c (.bool false)), none⟩,
      ⟨some 4, .mov (.t 12), none⟩])
  (.ret)))
def F122 : Fn := .code 1 8 [.tmp 2] (
  .seq (.region [⟨some 2, .mov (.c (.int .i64 0)), none⟩])
  (.seq (.seq (.region [⟨some 3, .mov (.t 0), none⟩,
        ⟨some 4, .ce .p false (.t 3) (.c (.nilp)), none⟩])
    (.cond (.t 4) (.seq (.region [⟨some 2, .mov (.c (.int .i64 0)), none⟩])
      (.ret))
    (.skip)))
  (.seq (.region [⟨some 5, .mov (.t 0), none⟩,
      ⟨some 6, .nil (.t 5), none⟩,
      ⟨some 7, .fa 2 (.t 6), none⟩,
      ⟨some 8, .ld false 1 (.t 7), none⟩,
      ⟨some 2, .mov (.t 8), none⟩])
  (.ret))))
def F123 : Fn := .code 1 39 [.tmp 2, .tmp 3, .tmp 4, .tmp 5] (
  .seq (.region [⟨some 2, .mov (.c (.int .u32 0)), none⟩,
      ⟨some 3, .mov (.c (.int .i64 0)), none⟩,
      ⟨some 4, .mov (.c (.str [])), none⟩,
      ⟨some 5, .mov (.c (.int .i64 0)), none⟩])
  (.seq (.seq (.draw [.real 0 ⟨some 10, .mov (.t 0), none⟩,
        .real 1 ⟨some 11, .lens (.t 10), none⟩,
        .real 2 ⟨some 12, .cm .ne (.t 11) (.c (.int .i64 64)), none⟩,
        .real 3 ⟨some 13, .mov (.t 12), none⟩,
        .real 4 ⟨some 14, .mov (.t 0), some (13, false)⟩,
        .real 5 ⟨some 15, .sls (.t 14) none (some (.c (.int .i64 6))), some (13, false)⟩,
        .real 6 ⟨some 16, .mov (.t 0), some (13, false)⟩,
        .real 7 ⟨some 17, .sls (.t 16) (some (.c (.int .i64 58))) none, some (13, false)⟩,
        .real 8 ⟨some 18, .cm .ne (.t 15) (.t 17), some (13, false)⟩,
        .real 9 ⟨some 19, .pick (.t 13) (.c (.bool true)) (.t 18), none⟩])
    (.cond (.t 19) (.seq (.region [⟨some 2, .mov (.c (.int .u32 0)), none⟩,
          ⟨some 3, .mov (.c (.int .i64 0)), none⟩,
          ⟨some 4, .mov (.c (.str [])), none⟩,
          ⟨some 5, .mov (.c (.int .i64 4)), none⟩])
      (.ret))
    (.skip)))
  (.seq (.region [⟨some 21, .mov (.t 0), none⟩,
      ⟨some 22, .sls (.t 21) none (some (.c (.int .i64 4))), none⟩,
      ⟨some 23, .cl 155 [.t 22], none⟩,
      ⟨some 20, .mov (.t 23), none⟩,
      ⟨some 24, .ex 0 (.t 20), none⟩,
      ⟨some 25, .ex 1 (.t 20), none⟩,
      ⟨some 6, .mov (.t 24), none⟩,
      ⟨some 7, .mov (.t 25), none⟩])
  (.seq (.region [⟨some 27, .mov (.t 0), none⟩,
      ⟨some 28, .sls (.t 27) (some (.c (.int .i64 4))) (some (.c (.int .i64 6))), none⟩,
      ⟨some 29, .cl 155 [.t 28], none⟩,
      ⟨some 26, .mov (.t 29), none⟩,
      ⟨some 30, .ex 0 (.t 26), none⟩,
      ⟨some 31, .ex 1 (.t 26), none⟩,
      ⟨some 8, .mov (.t 30), none⟩,
      ⟨some 9, .mov (.t 31), none⟩])
  (.seq (.seq (.region [⟨some 32, .mov (.t 8), none⟩,
        ⟨some 33, .cm .eq (.t 32) (.c (.int .u64 0)), none⟩])
    (.cond (.t 33) (.seq (.region [⟨some 2, .mov (.c (.int .u32 0)), none⟩,
          ⟨some 3, .mov (.c (.int .i64 0)), none⟩,
          ⟨some 4, .mov (.c (.str [])), none⟩,
          ⟨some 5, .mov (.c (.int .i64 4)), none⟩])
      (.ret))
    (.skip)))
  (.seq (.draw [.real 0 ⟨some 34, .mov (.t 6), none⟩,
      .real 1 ⟨some 35, .cvi .u32 (.t 34), none⟩,
      .real 2 ⟨some 36, .mov (.t 8), none⟩,
      .real 3 ⟨some 37, .cvi .i64 (.t 36), none⟩,
      .real 4 ⟨some 38, .mov (.t 0), none⟩,
      .real 5 ⟨some 39, .sls (.t 38) (some (.c (.int .i64 6))) (some (.c (.int .i64 58))), none⟩,
      .real 6 ⟨some 2, .mov (.t 35), none⟩,
      .real 7 ⟨some 3, .mov (.t 37), none⟩,
      .real 8 ⟨some 4, .mov (.t 39), none⟩,
      .real 9 ⟨some 5, .mov (.c (.int .i64 0)), none⟩])
  (.ret)))))))
def F124 : Fn := .code 1 73 [.cell true 4 2, .tmp 3] (
  .seq (.region [⟨some 2, .alloc [.int .i64 0, .int .u32 0, .int .u32 0, .int .i64 0], none⟩,
      ⟨some 3, .mov (.c (.int .i64 0)), none⟩])
  (.seq (.seq (.region [⟨some 13, .mov (.t 0), none⟩,
        ⟨some 14, .lens (.t 13), none⟩,
        ⟨some 15, .cm .lt (.t 14) (.c (.int .i64 32)), none⟩])
    (.cond (.t 15) (.seq (.region [⟨some 16, .agg [.int .i64 0, .int .u32 0, .int .u32 0, .int .i64 0] [], none⟩,
          ⟨none, .st 4 (.t 2) (.t 16), none⟩,
          ⟨some 3, .mov (.c (.int .i64 3)), none⟩])
      (.ret))
    (.skip)))
  (.seq (.region [⟨some 4, .alloc [.int .u64 0, .int .u64 0, .int .u64 0, .int .u64 0], none⟩])
  (.seq (.region [⟨some 5, .mov (.c (.int .i64 2)), none⟩])
  (.seq (.seq (.region [⟨some 17, .agg [.int .i64 0, .int .u32 0, .int .u32 0, .int .i64 0] [], none⟩,
        ⟨some 18, .cl 133 [.t 17], none⟩,
        ⟨some 19, .mov (.c (.int .i64 0)), none⟩])
    (.block 0 (.loop [5, 19] [6, 7, 8, 9, 20, 21, 22, 23, 24, 25, 26, 27, 28, 29, 30, 31, 32, 33, 34, 35, 36, 37, 38, 39, 40, 41] (.seq (.region [⟨some 20, .cm .lt (.t 19) (.c (.int .i64 4)), none⟩])
        (.seq (.cond (.t 20) (.skip)
          (.exit 0))
        (.seq (.block 1 (.seq (.region [⟨some 21, .mov (.t 19), none⟩,
                ⟨some 22, .ixa true 4 2 (.t 18) (.t 19), none⟩,
                ⟨some 7, .alloc [.int .u64 0, .int .i64 0], none⟩,
                ⟨some 6, .mov (.t 21), none⟩,
                ⟨none, .st 2 (.t 7) (.t 22), none⟩])
            (.seq (.region [⟨some 24, .mov (.t 0), none⟩,
                ⟨some 25, .mov (.t 5), none⟩,
                ⟨some 26, .mov (.t 5), none⟩,
                ⟨some 27, .fa 1 (.t 7), none⟩,
                ⟨some 28, .ld false 1 (.t 27), none⟩,
                ⟨some 29, .bi .add (.t 26) (.t 28), none⟩,
                ⟨some 30, .sls (.t 24) (some (.t 25)) (some (.t 29)), none⟩,
                ⟨some 31, .cl 155 [.t 30], none⟩,
                ⟨some 23, .mov (.t 31), none⟩,
                ⟨some 32, .ex 0 (.t 23), none⟩,
                ⟨some 33, .ex 1 (.t 23), none⟩,
                ⟨some 8, .mov (.t 32), none⟩,
                ⟨some 9, .mov (.t 33), none⟩])
            (.seq (.region [⟨some 34, .mov (.t 6), none⟩,
                ⟨some 35, .mov (.t 8), none⟩,
                ⟨some 36, .ixp 4 1 (.t 4) (.t 34), none⟩,
                ⟨none, .st 1 (.t 36) (.t 35), none⟩])
            (.region [⟨some 37, .mov (.t 5), none⟩,
              ⟨some 38, .fa 1 (.t 7), none⟩,
              ⟨some 39, .ld false 1 (.t 38), none⟩,
              ⟨some 40, .bi .add (.t 37) (.t 39), none⟩,
              ⟨some 5, .mov (.t 40), none⟩])))))
        (.region [⟨some 41, .bi .add (.t 19) (.c (.int .i64 1)), none⟩,
          ⟨some 19, .mov (.t 41), none⟩])))))))
  (.seq (.seq (.region [⟨some 42, .ixp 4 1 (.t 4) (.c (.int .i64 3)), none⟩,
        ⟨some 43, .ld false 1 (.t 42), none⟩,
        ⟨some 44, .cm .gt (.t 43) (.c (.int .u64 1099511627776)), none⟩])
    (.cond (.t 44) (.seq (.region [⟨some 45, .agg [.int .i64 0, .int .u32 0, .int .u32 0, .int .i64 0] [], none⟩,
          ⟨none, .st 4 (.t 2) (.t 45), none⟩,
          ⟨some 3, .mov (.c (.int .i64 4)), none⟩])
      (.ret))
    (.skip)))
  (.seq (.region [⟨some 46, .ixp 4 1 (.t 4) (.c (.int .i64 0)), none⟩,
      ⟨some 47, .ld false 1 (.t 46), none⟩,
      ⟨some 48, .cvi .i64 (.t 47), none⟩,
      ⟨some 49, .ixp 4 1 (.t 4) (.c (.int .i64 1)), none⟩,
      ⟨some 50, .ld false 1 (.t 49), none⟩,
      ⟨some 51, .cvi .u32 (.t 50), none⟩,
      ⟨some 52, .ixp 4 1 (.t 4) (.c (.int .i64 2)), none⟩,
      ⟨some 53, .ld false 1 (.t 52), none⟩,
      ⟨some 54, .cvi .u32 (.t 53), none⟩,
      ⟨some 55, .ixp 4 1 (.t 4) (.c (.int .i64 3)), none⟩,
      ⟨some 56, .ld false 1 (.t 55), none⟩,
      ⟨some 57, .cvi .i64 (.t 56), none⟩,
      ⟨some 58, .agg [.int .i64 0, .int .u32 0, .int .u32 0, .int .i64 0] [(0, 1, .t 48), (1, 1, .t 51), (2, 1, .t 54), (3, 1, .t 57)], none⟩,
      ⟨some 10, .alloc [.int .i64 0, .int .u32 0, .int .u32 0, .int .i64 0], none⟩,
      ⟨none, .st 4 (.t 10) (.t 58), none⟩])
  (.seq (.region [⟨some 60, .ld true 4 (.t 10), none⟩,
      ⟨some 61, .cl 87 [.t 60], none⟩,
      ⟨some 59, .mov (.t 61), none⟩,
      ⟨some 62, .ex 0 (.t 59), none⟩,
      ⟨some 63, .ex 1 (.t 59), none⟩,
      ⟨some 11, .mov (.t 62), none⟩,
      ⟨some 12, .mov (.t 63), none⟩])
  (.seq (.seq (.region [⟨some 64, .mov (.t 12), none⟩,
        ⟨some 65, .cm .ne (.t 64) (.c (.int .i64 0)), none⟩,
        ⟨some 66, .mov (.t 65), none⟩,
        ⟨some 67, .mov (.t 11), some (66, false)⟩,
        ⟨some 68, .mov (.t 0), some (66, false)⟩,
        ⟨some 69, .sls (.t 68) none (some (.c (.int .i64 32))), some (66, false)⟩,
        ⟨some 70, .cm .ne (.t 67) (.t 69), some (66, false)⟩,
        ⟨some 71, .pick (.t 66) (.c (.bool true)) (.t 70), none⟩])
    (.cond (.t 71) (.seq (.region [⟨some 72, .agg [.int .i64 0, .int .u32 0, .int .u32 0, .int .i64 0] [], none⟩,
          ⟨none, .st 4 (.t 2) (.t 72), none⟩,
          ⟨some 3, .mov (.c (.int .i64 4)), none⟩])
      (.ret))
    (.skip)))
  (.seq (.region [⟨some 73, .ld true 4 (.t 10), none⟩,
      ⟨none, .st 4 (.t 2) (.t 73), none⟩,
      ⟨some 3, .mov (.c (.int .i64 0)), none⟩])
  (.ret)))))))))))
def F125 : Fn := .code 3 61 [.tmp 6] (
  .seq (.region [⟨some 6, .mov (.c (.bool false)), none⟩])
  (.seq (.seq (.region [⟨some 8, .mov (.t 1), none⟩,
        ⟨some 9, .mov (.t 0), none⟩,
        ⟨some 10, .nil (.t 9), none⟩,
        ⟨some 11, .fa 0 (.t 10), none⟩,
        ⟨some 12, .ld false 1 (.t 11), none⟩,
        ⟨some 13, .nil (.t 12), none⟩,
        ⟨some 14, .fa 7 (.t 13), none⟩,
        ⟨some 15, .ld false 1 (.t 14), none⟩,
        ⟨some 16, .bi .sub (.c (.int .i64 16)) (.t 15), none⟩,
        ⟨some 17, .cm .gt (.t 8) (.t 16), none⟩])
    (.cond (.t 17) (.seq (.region [⟨some 6, .mov (.c (.bool false)), none⟩])
      (.ret))
    (.skip)))
  (.seq (.seq (.region [⟨some 18, .mov (.t 1), none⟩,
        ⟨some 19, .mov (.c (.int .i64 0)), none⟩])
    (.block 0 (.loop [19] [6, 7, 20, 21, 22, 23, 24, 25, 26, 27, 28, 29, 30, 31, 32, 33, 34, 35, 36, 37, 38, 39, 40, 41, 42, 43, 44, 45, 46, 47, 48, 49, 50, 51, 52, 53, 54, 55, 56, 57, 58, 59, 60, 61, 62, 63] (.seq (.region [⟨some 20, .cm .lt (.t 19) (.t 18), none⟩])
        (.seq (.cond (.t 20) (.skip)
          (.exit 0))
        (.seq (.block 1 (.seq (.region [⟨some 21, .mov (.t 19), none⟩,
                ⟨some 7, .mov (.t 21), none⟩])
            (.seq (.draw [.real 0 ⟨some 22, .mov (.t 0), none⟩,
                .real 1 ⟨some 23, .mov (.t 0), none⟩,
                .real 2 ⟨some 24, .nil (.t 23), none⟩,
                .real 3 ⟨some 25, .fa 0 (.t 24), none⟩,
                .real 4 ⟨some 26, .ld false 1 (.t 25), none⟩,
                .real 5 ⟨some 27, .nil (.t 26), none⟩,
                .real 6 ⟨some 28, .fa 7 (.t 27), none⟩,
                .real 7 ⟨some 29, .ld false 1 (.t 28), none⟩,
                .real 8 ⟨some 30, .mov (.t 7), none⟩,
                .real 9 ⟨some 31, .bi .add (.t 29) (.t 30), none⟩,
                .real 10 ⟨some 32, .nil (.t 22), none⟩,
                .real 11 ⟨some 33, .fa 33 (.t 32), none⟩,
                .real 12 ⟨some 34, .ixp 16 1 (.t 33) (.t 31), none⟩,
                .real 13 ⟨some 35, .ld false 1 (.t 34), none⟩,
                .real 14 ⟨some 36, .mov (.t 2), none⟩,
                .real 15 ⟨some 37, .cm .ne (.t 35) (.t 36), none⟩,
                .real 16 ⟨some 38, .mov (.t 37), none⟩,
                .real 17 ⟨some 39, .mov (.t 0), some (38, false)⟩,
                .real 18 ⟨some 40, .mov (.t 0), some (38, false)⟩,
                .real 19 ⟨some 41, .nil (.t 40), some (38, false)⟩,
                .real 20 ⟨some 42, .fa 0 (.t 41), some (38, false)⟩,
                .real 21 ⟨some 43, .ld false 1 (.t 42), some (38, false)⟩,
                .real 22 ⟨some 44, .nil (.t 43), some (38, false)⟩,
                .real 23 ⟨some 45, .fa 7 (.t 44), some (38, false)⟩,
                .real 24 ⟨some 46, .ld false 1 (.t 45), some (38, false)⟩,
                .real 25 ⟨some 47, .mov (.t 7), some (38, false)⟩,
                .real 26 ⟨some 48, .bi .add (.t 46) (.t 47), some (38, false)⟩,
                .real 27 ⟨some 49, .nil (.t 39), some (38, false)⟩,
                .real 28 ⟨some 50, .fa 17 (.t 49), some (38, false)⟩,
                .real 29 ⟨some 51, .ixp 16 1 (.t 50) (.t 48), some (38, false)⟩,
                .real 30 ⟨some 52, .ld false 1 (.t 51), some (38, false)⟩,
                .real 31 ⟨some 53, .mov (.t 0), some (38, false)⟩,
                .real 32 ⟨some 54, .nil (.t 53), some (38, false)⟩,
                .real 33 ⟨some 55, .fa 0 (.t 54), some (38, false)⟩,
                .real 34 ⟨some 56, .ld false 1 (.t 55), some (38, false)⟩,
                .real 35 ⟨some 57, .nil (.t 56), some (38, false)⟩,
                .real 36 ⟨some 58, .fa 2 (.t 57), some (38, false)⟩,
                .real 37 ⟨some 59, .fa 2 (.t 58), some (38, false)⟩,
                .real 38 ⟨some 60, .ld false 1 (.t 59), some (38, false)⟩,
                .real 39 ⟨some 61, .cm .ne (.t 52) (.t 60), some (38, false)⟩,
                .real 40 ⟨some 62, .pick (.t 38) (.c (.bool true)) (.t 61), none⟩])
            (.cond (.t 62) (.seq (.region [⟨some 6, .mov (.c (.bool false)), none⟩])
              (.ret))
            (.skip)))))
        (.region [⟨some 63, .bi .add (.t 19) (.c (.int .i64 1)), none⟩,
          ⟨some 19, .mov (.t 63), none⟩])))))))
  (.seq (.region [⟨some 6, .mov (.c (.bool true)), none⟩])
  (.ret)))))
def F126 : Fn := .code 1 15 [.tmp 2] (
  .seq (.region [⟨some 2, .mov (.c (.int .i64 0)), none⟩])
  (.seq (.draw [.real 0 ⟨some 4, .mov (.t 0), none⟩,
      .real 1 ⟨some 5, .ixt (.t 4) (.c (.int .i64 0)), none⟩,
      .real 2 ⟨some 6, .cvi .i64 (.t 5), none⟩,
      .real 3 ⟨some 7, .sh .shl (.t 6) (.c (.int .u64 8)), none⟩,
      .real 4 ⟨some 8, .mov (.t 0), none⟩,
      .real 5 ⟨some 9, .ixt (.t 8) (.c (.int .i64 1)), none⟩,
      .real 6 ⟨some 10, .cvi .i64 (.t 9), none⟩,
      .real 7 ⟨some 11, .bi .or (.t 7) (.t 10), none⟩,
      .real 8 ⟨some 3, .mov (.t 11), none⟩])
  (.seq (.region [⟨some 12, .mov (.t 3), none⟩,
      ⟨some 13, .bi .add (.t 12) (.c (.int .i64 7)), none⟩,
      ⟨some 14, .bi .sub (.t 13) (.c (.int .i64 1)), none⟩,
      ⟨some 15, .cl 104 [.t 14], none⟩,
      ⟨some 2, .mov (.t 15), none⟩])
  (.ret))))
def F127 : Fn := .code 3 63 [.cell true 2 6, .tmp 7, .tmp 8] (
  .seq (.region [⟨some 6, .alloc [.int .i64 0, .str []], none⟩,
      ⟨some 7, .mov (.c (.int .i64 0)), none⟩,
      ⟨some 8, .mov (.c (.int .i64 0)), none⟩])
  (.seq (.block 0 (.seq (.region [⟨some 12, .mov (.t 1), none⟩,
          ⟨some 13, .cl 129 [.t 12], none⟩,
          ⟨some 14, .not (.t 13), none⟩,
          ⟨some 11, .mov (.t 14), none⟩])
      (.cond (.t 11) (.seq (.region [⟨some 15, .agg [.int .i64 0, .str []] [], none⟩,
            ⟨none, .st 2 (.t 6) (.t 15), none⟩,
            ⟨some 7, .mov (.c (.int .i64 0)), none⟩,
            ⟨some 8, .mov (.c (.int .i64 1)), none⟩])
        (.ret))
      (.seq (.region [⟨some 17, .mov (.t 2), none⟩,
            ⟨some 18, .lens (.t 17), none⟩,
            ⟨some 19, .cm .lt (.t 18) (.c (.int .i64 2)), none⟩,
            ⟨some 16, .mov (.t 19), none⟩])
        (.cond (.t 16) (.seq (.region [⟨some 20, .agg [.int .i64 0, .str []] [], none⟩,
              ⟨none, .st 2 (.t 6) (.t 20), none⟩,
              ⟨some 7, .mov (.c (.int .i64 0)), none⟩,
              ⟨some 8, .mov (.c (.int .i64 3)), none⟩])
          (.ret))
        (.skip))))))
  (.seq (.region [⟨some 21, .mov (.t 2), none⟩,
      ⟨some 22, .sls (.t 21) none (some (.c (.int .i64 2))), none⟩,
      ⟨some 23, .cl 156 [.t 22], none⟩,
      ⟨some 9, .mov (.t 23), none⟩])
  (.seq (.block 1 (.seq (.region [⟨some 25, .mov (.t 9), none⟩,
          ⟨some 26, .cm .eq (.t 25) (.c (.int .i64 0)), none⟩,
          ⟨some 24, .mov (.t 26), none⟩])
      (.cond (.t 24) (.seq (.region [⟨some 27, .agg [.int .i64 0, .str []] [], none⟩,
            ⟨none, .st 2 (.t 6) (.t 27), none⟩,
            ⟨some 7, .mov (.c (.int .i64 0)), none⟩,
            ⟨some 8, .mov (.c (.int .i64 6)), none⟩])
        (.ret))
      (.seq (.region [⟨some 29, .mov (.t 9), none⟩,
            ⟨some 30, .cm .gt (.t 29) (.c (.int .i64 774)), none⟩,
            ⟨some 28, .mov (.t 30), none⟩])
        (.cond (.t 28) (.seq (.region [⟨some 31, .agg [.int .i64 0, .str []] [], none⟩,
              ⟨none, .st 2 (.t 6) (.t 31), none⟩,
              ⟨some 7, .mov (.c (.int .i64 0)), none⟩,
              ⟨some 8, .mov (.c (.int .i64 2)), none⟩])
          (.ret))
        (.seq (.region [⟨some 33, .mov (.t 2), none⟩,
              ⟨some 34, .lens (.t 33), none⟩,
              ⟨some 35, .mov (.t 9), none⟩,
              ⟨some 36, .bi .add (.c (.int .i64 6)) (.t 35), none⟩,
              ⟨some 37, .cm .lt (.t 34) (.t 36), none⟩,
              ⟨some 32, .mov (.t 37), none⟩])
          (.cond (.t 32) (.seq (.region [⟨some 38, .agg [.int .i64 0, .str []] [], none⟩,
                ⟨none, .st 2 (.t 6) (.t 38), none⟩,
                ⟨some 7, .mov (.c (.int .i64 0)), none⟩,
                ⟨some 8, .mov (.c (.int .i64 3)), none⟩])
            (.ret))
          (.skip))))))))
  (.seq (.region [⟨some 39, .mov (.t 2), none⟩,
      ⟨some 40, .mov (.t 9), none⟩,
      ⟨some 41, .bi .add (.c (.int .i64 6)) (.t 40), none⟩,
      ⟨some 42, .sls (.t 39) (some (.c (.int .i64 6))) (some (.t 41)), none⟩,
      ⟨some 10, .mov (.t 42), none⟩])
  (.seq (.seq (.region [⟨some 43, .mov (.t 10), none⟩,
        ⟨some 44, .ixt (.t 43) (.c (.int .i64 0)), none⟩,
        ⟨some 45, .cm .eq (.t 44) (.c (.int .u8 0)), none⟩,
        ⟨some 46, .mov (.t 45), none⟩,
        ⟨some 47, .mov (.t 2), some (46, false)⟩,
        ⟨some 48, .sls (.t 47) (some (.c (.int .i64 2))) (some (.c (.int .i64 6))), some (46, false)⟩,
        ⟨some 49, .cl 156 [.t 48], some (46, false)⟩,
        ⟨some 50, .mov (.t 0), some (46, false)⟩,
        ⟨some 51, .mov (.t 1), some (46, false)⟩,
        ⟨some 52, .mov (.t 10), some (46, false)⟩,
        ⟨some 53, .cl 131 [.t 50, .t 51, .t 52], some (46, false)⟩,
        ⟨some 54, .cvi .i64 (.t 53), some (46, false)⟩,
        ⟨some 55, .cm .ne (.t 49) (.t 54), some (46, false)⟩,
        ⟨some 56, .pick (.t 46) (.c (.bool true)) (.t 55), none⟩])
    (.cond (.t 56) (.seq (.region [⟨some 57, .agg [.int .i64 0, .str []] [], none⟩,
          ⟨none, .st 2 (.t 6) (.t 57), none⟩,
          ⟨some 7, .mov (.c (.int .i64 0)), none⟩,
          ⟨some 8, .mov (.c (.int .i64 4)), none⟩])
      (.ret))
    (.skip)))
  (.seq (.draw [.real 0 ⟨some 58, .mov (.t 10), none⟩,
      .real 1 ⟨some 59, .ixt (.t 58) (.c (.int .i64 0)), none⟩,
      .real 2 ⟨some 60, .cvi .i64 (.t 59), none⟩,
      .real 3 ⟨some 61, .mov (.t 10), none⟩,
      .real 4 ⟨some 62, .sls (.t 61) (some (.c (.int .i64 1))) none, none⟩,
      .real 5 ⟨some 63, .agg [.int .i64 0, .str []] [(0, 1, .t 60), (1, 1, .t 62)], none⟩,
      .real 6 ⟨some 64, .mov (.t 9), none⟩,
      .real 7 ⟨some 65, .bi .add (.c (.int .i64 6)) (.t 64), none⟩,
      .real 8 ⟨none, .st 2 (.t 6) (.t 63), none⟩,
      .real 9 ⟨some 7, .mov (.t 65), none⟩,
      .real 10 ⟨some 8, .mov (.c (.int .i64 0)), none⟩])
  (.ret))))))))
def F129 : Fn := .code 1 8 [.tmp 2] (
  .seq (.region [⟨some 2, .mov (.c (.bool false)), none⟩])
  (.seq (.region [⟨some 3, .mov (.t 0), none⟩,
      ⟨some 4, .cm .ge (.t 3) (.c (.int .i64 1)), none⟩,
      ⟨some 5, .mov (.t 4), none⟩,
      ⟨some 6, .mov (.t 0), some (5, true)⟩,
      ⟨some 7, .cm .lt (.t 6) (.c (.int .i64 16)), some (5, true)⟩,
      ⟨some 8, .pick (.t 5) (.t 7) (.c (.bool false)), none⟩,
      ⟨some 2, .mov (.t 8), none⟩])
  (.ret)))
def F130 : Fn := .code 2 13 [.tmp 4] (
  .seq (.region [⟨some 4, .mov (.c (.str [])), none⟩])
  (.seq (.region [⟨some 8, .mov (.t 0), none⟩,
      ⟨some 9, .cvi .u64 (.t 8), none⟩,
      ⟨some 10, .mov (.t 1), none⟩,
      ⟨some 11, .cl 134 [.t 9, .t 10], none⟩,
      ⟨some 7, .mov (.t 11), none⟩,
      ⟨some 12, .ex 0 (.t 7), none⟩,
      ⟨some 13, .ex 1 (.t 7), none⟩,
      ⟨some 5, .mov (.t 12), none⟩,
      ⟨some 6, .mov (.t 13), none⟩])
  (.seq (.region [⟨some 14, .mov (.t 5), none⟩,
      ⟨some 4, .mov (.t 14), none⟩])
  (.ret))))
def F131 : Fn := .code 3 15 [.tmp 6] (
  .seq (.region [⟨some 6, .mov (.c (.int .u32 0)), none⟩])
  (.seq (.region [⟨some 7, .mov (.t 0), none⟩,
      ⟨some 8, .cvi .i64 (.t 7), none⟩,
      ⟨some 9, .cl 130 [.t 8, .c (.int .i64 4)], none⟩,
      ⟨some 10, .mov (.t 1), none⟩,
      ⟨some 11, .cl 130 [.t 10, .c (.int .i64 2)], none⟩,
      ⟨some 12, .mov (.t 2), none⟩,
      ⟨some 13, .lens (.t 12), none⟩,
      ⟨some 14, .cl 130 [.t 13, .c (.int .i64 2)], none⟩,
      ⟨some 15, .mov (.t 2), none⟩,
      ⟨some 16, .bsl 1 [.t 9, .t 11, .t 14, .t 15], none⟩,
      ⟨some 17, .cl 157 [.t 16], none⟩,
      ⟨some 6, .mov (.t 17), none⟩])
  (.ret)))
def F132 : Fn := .code 3 32 [.tmp 6, .tmp 7] (
  .seq (.region [⟨some 6, .mov (.c (.str [])), none⟩,
      ⟨some 7, .mov (.c (.int .i64 0)), none⟩])
  (.seq (.seq (.region [⟨some 10, .mov (.t 1), none⟩,
        ⟨some 11, .cm .lt (.t 10) (.c (.int .i64 1)), none⟩,
        ⟨some 12, .mov (.t 11), none⟩,
        ⟨some 13, .mov (.t 1), some (12, false)⟩,
        ⟨some 14, .cm .gt (.t 13) (.c (.int .i64 65535)), some (12, false)⟩,
        ⟨some 15, .pick (.t 12) (.c (.bool true)) (.t 14), none⟩,
        ⟨some 16, .mov (.t 15), none⟩,
        ⟨some 17, .mov (.t 2), some (16, false)⟩,
        ⟨some 18, .lens (.t 17), some (16, false)⟩,
        ⟨some 19, .cm .ne (.t 18) (.c (.int .i64 52)), some (16, false)⟩,
        ⟨some 20, .pick (.t 16) (.c (.bool true)) (.t 19), none⟩])
    (.cond (.t 20) (.seq (.region [⟨some 6, .mov (.c (.str [])), none⟩,
          ⟨some 7, .mov (.c (.int .i64 1)), none⟩])
      (.ret))
    (.skip)))
  (.seq (.region [⟨some 8, .alloc (reps 64 (.int .u8 0)), none⟩])
  (.seq (.region [⟨some 21, .mov (.t 0), none⟩,
      ⟨some 22, .mov (.t 1), none⟩,
      ⟨some 23, .cl 158 [.t 21, .t 22], none⟩,
      ⟨some 9, .mov (.t 23), none⟩])
  (.seq (.region [⟨some 24, .sla 64 1 (.t 8) none none, none⟩,
      ⟨some 25, .mov (.t 9), none⟩,
      ⟨some 26, .cpy 1 (.t 24) (.t 25), none⟩])
  (.seq (.region [⟨some 27, .sla 64 1 (.t 8) (some (.c (.int .i64 6))) none, none⟩,
      ⟨some 28, .mov (.t 2), none⟩,
      ⟨some 29, .cpy 1 (.t 27) (.t 28), none⟩])
  (.seq (.region [⟨some 30, .sla 64 1 (.t 8) (some (.c (.int .i64 58))) none, none⟩,
      ⟨some 31, .mov (.t 9), none⟩,
      ⟨some 32, .cpy 1 (.t 30) (.t 31), none⟩])
  (.seq (.region [⟨some 33, .sla 64 1 (.t 8) none none, none⟩,
      ⟨some 34, .cvs (.t 33), none⟩,
      ⟨some 6, .mov (.t 34), none⟩,
      ⟨some 7, .mov (.c (.int .i64 0)), none⟩])
  (.ret)))))))))
def F133 : Fn := .code 1 19 [.cell true 8 2] (
  .seq (.region [⟨some 1, .box 4 (.t 0), none⟩,
      ⟨some 2, .alloc [.int .u64 0, .int .i64 0, .int .u64 0, .int .i64 0, .int .u64 0, .int .i64 0, .int .u64 0, .int .i64 0], none⟩])
  (.seq (.region [⟨some 3, .fa 0 (.t 1), none⟩,
      ⟨some 4, .ld false 1 (.t 3), none⟩,
      ⟨some 5, .cvi .u64 (.t 4), none⟩,
      ⟨some 6, .agg [.int .u64 0, .int .i64 0] [(0, 1, .t 5), (1, 1, .c (.int .i64 2))], none⟩,
      ⟨some 7, .fa 1 (.t 1), none⟩,
      ⟨some 8, .ld false 1 (.t 7), none⟩,
      ⟨some 9, .cvi .u64 (.t 8), none⟩,
      ⟨some 10, .agg [.int .u64 0, .int .i64 0] [(0, 1, .t 9), (1, 1, .c (.int .i64 4))], none⟩,
      ⟨some 11, .fa 2 (.t 1), none⟩,
      ⟨some 12, .ld false 1 (.t 11), none⟩,
      ⟨some 13, .cvi .u64 (.t 12), none⟩,
      ⟨some 14, .agg [.int .u64 0, .int .i64 0] [(0, 1, .t 13), (1, 1, .c (.int .i64 4))], none⟩,
      ⟨some 15, .fa 3 (.t 1), none⟩,
      ⟨some 16, .ld false 1 (.t 15), none⟩,
      ⟨some 17, .cvi .u64 (.t 16), none⟩,
      ⟨some 18, .agg [.int .u64 0, .int .i64 0] [(0, 1, .t 17), (1, 1, .c (.int .i64 8))], none⟩,
      ⟨some 19, .agg [.int .u64 0, .int .i64 0, .int .u64 0, .int .i64 0, .int .u64 0, .int .i64 0, .int .u64 0, .int .i64 0] [(0, 2, .t 6), (2, 2, .t 10), (4, 2, .t 14), (6, 2, .t 18)], none⟩,
      ⟨none, .st 8 (.t 2) (.t 19), none⟩])
  (.ret)))
def F134 : Fn := .code 2 41 [.tmp 4, .tmp 5] (
  .seq (.region [⟨some 4, .mov (.c (.str [])), none⟩,
      ⟨some 5, .mov (.c (.int .i64 0)), none⟩])
  (.seq (.seq (.region [⟨some 8, .mov (.t 1), none⟩,
        ⟨some 9, .cm .lt (.t 8) (.c (.int .i64 1)), none⟩,
        ⟨some 10, .mov (.t 9), none⟩,
        ⟨some 11, .mov (.t 1), some (10, false)⟩,
        ⟨some 12, .cm .gt (.t 11) (.c (.int .i64 8)), some (10, false)⟩,
        ⟨some 13, .pick (.t 10) (.c (.bool true)) (.t 12), none⟩,
        ⟨some 14, .mov (.t 13), none⟩,
        ⟨some 15, .mov (.t 1), some (14, false)⟩,
        ⟨some 16, .cm .lt (.t 15) (.c (.int .i64 8)), some (14, false)⟩,
        ⟨some 17, .mov (.t 16), some (14, false)⟩,
        ⟨some 18, .mov (.t 0), some (17, true)⟩,
        ⟨some 19, .mov (.t 1), some (17, true)⟩,
        ⟨some 20, .bi .mul (.c (.int .i64 8)) (.t 19), some (17, true)⟩,
        ⟨some 21, .sh .shr (.t 18) (.t 20), some (17, true)⟩,
        ⟨some 22, .cm .ne (.t 21) (.c (.int .u64 0)), some (17, true)⟩,
        ⟨some 23, .pick (.t 17) (.t 22) (.c (.bool false)), some (14, false)⟩,
        ⟨some 24, .pick (.t 14) (.c (.bool true)) (.t 23), none⟩])
    (.cond (.t 24) (.seq (.region [⟨some 4, .mov (.c (.str [])), none⟩,
          ⟨some 5, .mov (.c (.int .i64 1)), none⟩])
      (.ret))
    (.skip)))
  (.seq (.region [⟨some 6, .alloc [.int .u8 0, .int .u8 0, .int .u8 0, .int .u8 0, .int .u8 0, .int .u8 0, .int .u8 0, .int .u8 0], none⟩])
  (.seq (.seq (.region [⟨some 25, .mov (.t 1), none⟩,
        ⟨some 26, .mov (.c (.int .i64 0)), none⟩])
    (.block 0 (.loop [26] [7, 27, 28, 29, 30, 31, 32, 33, 34, 35, 36, 37, 38, 39] (.seq (.region [⟨some 27, .cm .lt (.t 26) (.t 25), none⟩])
        (.seq (.cond (.t 27) (.skip)
          (.exit 0))
        (.seq (.block 1 (.seq (.region [⟨some 28, .mov (.t 26), none⟩,
                ⟨some 7, .mov (.t 28), none⟩])
            (.region [⟨some 29, .mov (.t 7), none⟩,
              ⟨some 30, .mov (.t 0), none⟩,
              ⟨some 31, .mov (.t 1), none⟩,
              ⟨some 32, .bi .sub (.t 31) (.c (.int .i64 1)), none⟩,
              ⟨some 33, .mov (.t 7), none⟩,
              ⟨some 34, .bi .sub (.t 32) (.t 33), none⟩,
              ⟨some 35, .bi .mul (.c (.int .i64 8)) (.t 34), none⟩,
              ⟨some 36, .sh .shr (.t 30) (.t 35), none⟩,
              ⟨some 37, .cvi .u8 (.t 36), none⟩,
              ⟨some 38, .ixp 8 1 (.t 6) (.t 29), none⟩,
              ⟨none, .st 1 (.t 38) (.t 37), none⟩])))
        (.region [⟨some 39, .bi .add (.t 26) (.c (.int .i64 1)), none⟩,
          ⟨some 26, .mov (.t 39), none⟩])))))))
  (.seq (.region [⟨some 40, .mov (.t 1), none⟩,
      ⟨some 41, .sla 8 1 (.t 6) none (some (.t 40)), none⟩,
      ⟨some 42, .cvs (.t 41), none⟩,
      ⟨some 4, .mov (.t 42), none⟩,
      ⟨some 5, .mov (.c (.int .i64 0)), none⟩])
  (.ret))))))
def F135 : Fn := .code 2 11 [.tmp 4] (
  .seq (.region [⟨some 4, .mov (.c (.int .u32 0)), none⟩])
  (.seq (.region [⟨some 6, .mov (.t 0), none⟩,
      ⟨some 7, .cl 159 [.t 6], none⟩,
      ⟨some 5, .mov (.t 7), none⟩])
  (.seq (.region [⟨some 8, .mov (.t 5), none⟩,
      ⟨some 9, .mov (.t 1), none⟩,
      ⟨some 10, .cl 160 [.t 8, .t 9], none⟩])
  (.seq (.region [⟨some 11, .mov (.t 5), none⟩,
      ⟨some 12, .cl 161 [.t 11], none⟩,
      ⟨some 4, .mov (.t 12), none⟩])
  (.ret)))))
def F142 : Fn := .code 3 24 [.tmp 6] (
  .seq (.region [⟨some 6, .mov (.c (.bool false)), none⟩])
  (.seq (.region [⟨some 7, .mov (.t 1), none⟩,
      ⟨some 8, .cm .ge (.t 7) (.c (.int .i64 0)), none⟩,
      ⟨some 9, .mov (.t 8), none⟩,
      ⟨some 10, .mov (.t 2), some (9, true)⟩,
      ⟨some 11, .cm .ge (.t 10) (.c (.int .i64 0)), some (9, true)⟩,
      ⟨some 12, .pick (.t 9) (.t 11) (.c (.bool false)), none⟩,
      ⟨some 13, .mov (.t 12), none⟩,
      ⟨some 14, .mov (.t 1), some (13, true)⟩,
      ⟨some 15, .mov (.t 0), some (13, true)⟩,
      ⟨some 16, .cl 120 [.t 15], some (13, true)⟩,
      ⟨some 17, .cm .le (.t 14) (.t 16), some (13, true)⟩,
      ⟨some 18, .pick (.t 13) (.t 17) (.c (.bool false)), none⟩,
      ⟨some 19, .mov (.t 18), none⟩,
      ⟨some 20, .mov (.t 2), some (19, true)⟩,
      ⟨some 21, .mov (.t 0), some (19, true)⟩,
      ⟨some 22, .cl 120 [.t 21], some (19, true)⟩,
      ⟨some 23, .mov (.t 1), some (19, true)⟩,
      ⟨some 24, .bi .sub (.t 22) (.t 23), some (19, true)⟩,
      ⟨some 25, .cm .le (.t 20) (.t 24), some (19, true)⟩,
      ⟨some 26, .pick (.t 19) (.t 25) (.c (.bool false)), none⟩,
      ⟨some 6, .mov (.t 26), none⟩])
  (.ret)))
def F143 : Fn := .code 3 41 [.tmp 6, .tmp 7] (
  .seq (.region [⟨some 6, .mov (.c (.sl .nl 65 [])), none⟩,
      ⟨some 7, .mov (.c (.sl .nl 65 [])), none⟩])
  (.seq (.region [⟨some 8, .mov (.c (.sl .nl 65 [])), none⟩,
      ⟨some 9, .mov (.c (.sl .nl 65 [])), none⟩])
  (.seq (.seq (.region [⟨some 12, .mov (.t 0), none⟩,
        ⟨some 13, .nil (.t 12), none⟩,
        ⟨some 14, .fa 1 (.t 13), none⟩,
        ⟨some 15, .ld false 1 (.t 14), none⟩,
        ⟨some 16, .lenl (.t 15), none⟩,
        ⟨some 17, .mov (.c (.int .i64 0)), none⟩])
    (.block 0 (.loop [8, 9, 17] [11, 18, 19, 20, 21, 22, 23, 24, 25, 26, 27, 28, 29, 30, 31, 32, 33, 34, 35, 36, 37, 38, 39, 40, 41] (.seq (.region [⟨some 18, .cm .lt (.t 17) (.t 16), none⟩])
        (.seq (.cond (.t 18) (.skip)
          (.exit 0))
        (.seq (.block 1 (.seq (.region [⟨some 19, .ixs 65 (.t 15) (.t 17), none⟩,
                ⟨some 20, .ld true 65 (.t 19), none⟩,
                ⟨some 11, .alloc [.int .i64 0, .int .u8 0, .int .u8 0, .int .u8 0, .int .u8 0, .int .u8 0, .int .u8 0, .int .u8 0, .int .u8 0, .int .u8 0, .int .u8 0, .int .u8 0, .int .u8 0, .int .u8 0, .int .u8 0, .int .u8 0, .int .u8 0, .int .u8 0, .int .u8 0, .int .u8 0, .int .u8 0, .int .u8 0, .int .u8 0, .int .u8 0, .int .u8 0, .int .u8 0, .int .u8 0, .int .u8 0, .int .u8 0, .int .u8 0, .int .u8 0, .int .u8 0, .int .u8 0, .int .u8 0, .int .u8 0, .int .u8 0, .int .u8 0, .int .u8 0, .int .u8 0, .int .u8 0, .int .u8 0, .int .u8 0, .int .u8 0, .int .u8 0, .int .u8 0, .int .u8 0, .int .u8 0, .int .u8 0, .int .u8 0, .int .u8 0, .int .u8 0, .int .u8 0, .int .u8 0, .int .u8 0, .int .u8 0, .int .u8 0, .int .u8 0, .int .u8 0, .int .u8 0, .int .u8 0, .int .u8 0, .int .u8 0, .int .u8 0, .int .u8 0, .int .u8 0], none⟩,
                ⟨none, .st 65 (.t 11) (.t 20), none⟩])
            (.seq (.region [⟨some 21, .fa 0 (.t 11), none⟩,
                ⟨some 22, .ld false 1 (.t 21), none⟩,
                ⟨some 23, .mov (.t 1), none⟩,
                ⟨some 24, .cm .ge (.t 22) (.t 23), none⟩,
                ⟨some 25, .mov (.t 24), none⟩,
                ⟨some 26, .fa 0 (.t 11), some (25, true)⟩,
                ⟨some 27, .ld false 1 (.t 26), some (25, true)⟩,
                ⟨some 28, .mov (.t 1), some (25, true)⟩,
                ⟨some 29, .bi .sub (.t 27) (.t 28), some (25, true)⟩,
                ⟨some 30, .mov (.t 2), some (25, true)⟩,
                ⟨some 31, .cm .lt (.t 29) (.t 30), some (25, true)⟩,
                ⟨some 32, .pick (.t 25) (.t 31) (.c (.bool false)), none⟩])
            (.cond (.t 32) (.region [⟨some 33, .mov (.t 8), none⟩,
                ⟨some 34, .ld true 65 (.t 11), none⟩,
                ⟨some 35, .bsl 65 [.t 34], none⟩,
                ⟨some 36, .app true 65 (.t 33) (.t 35), none⟩,
                ⟨some 8, .mov (.t 36), none⟩])
            (.region [⟨some 37, .mov (.t 9), none⟩,
                ⟨some 38, .ld true 65 (.t 11), none⟩,
                ⟨some 39, .bsl 65 [.t 38], none⟩,
                ⟨some 40, .app true 65 (.t 37) (.t 39), none⟩,
                ⟨some 9, .mov (.t 40), none⟩])))))
        (.region [⟨some 41, .bi .add (.t 17) (.c (.int .i64 1)), none⟩,
          ⟨some 17, .mov (.t 41), none⟩])))))))
  (.seq (.region [⟨some 42, .mov (.t 8), none⟩,
      ⟨some 43, .mov (.t 9), none⟩,
      ⟨some 6, .mov (.t 42), none⟩,
      ⟨some 7, .mov (.t 43), none⟩])
  (.ret)))))
def F145 : Fn := .code 1 4 [.tmp 2] (
  .seq (.region [⟨some 2, .mov (.c (.sl .nl 1 [])), none⟩])
  (.seq (.region [⟨some 3, .mov (.t 0), none⟩,
      ⟨some 4, .cl 167 [.t 3, .c (.func 168 [])], none⟩,
      ⟨some 2, .mov (.t 4), none⟩])
  (.ret)))
def F146 : Fn := .code 2 56 [.tmp 4, .tmp 5, .tmp 6] (
  .seq (.region [⟨some 4, .mov (.c (.int .i64 0)), none⟩,
      ⟨some 5, .mov (.c (.int .u32 0)), none⟩,
      ⟨some 6, .mov (.c (.int .i64 0)), none⟩])
  (.seq (.block 0 (.seq (.region [⟨some 11, .mov (.t 0), none⟩,
          ⟨some 12, .ce .p false (.t 11) (.c (.nilp)), none⟩,
          ⟨some 10, .mov (.t 12), none⟩])
      (.cond (.t 10) (.seq (.region [⟨some 4, .mov (.c (.int .i64 0)), none⟩,
            ⟨some 5, .mov (.c (.int .u32 0)), none⟩,
            ⟨some 6, .mov (.c (.int .i64 7)), none⟩])
        (.ret))
      (.seq (.region [⟨some 14, .mov (.t 1), none⟩,
            ⟨some 15, .cl 148 [.t 14], none⟩,
            ⟨some 16, .not (.t 15), none⟩,
            ⟨some 13, .mov (.t 16), none⟩])
        (.cond (.t 13) (.seq (.region [⟨some 4, .mov (.c (.int .i64 0)), none⟩,
              ⟨some 5, .mov (.c (.int .u32 0)), none⟩,
              ⟨some 6, .mov (.c (.int .i64 1)), none⟩])
          (.ret))
        (.skip))))))
  (.seq (.region [⟨some 17, .mov (.t 0), none⟩,
      ⟨some 18, .cl 145 [.t 17], none⟩,
      ⟨some 7, .mov (.t 18), none⟩])
  (.seq (.draw [.real 0 ⟨some 20, .mov (.t 0), none⟩,
      .real 1 ⟨some 21, .nil (.t 20), none⟩,
      .real 2 ⟨some 22, .fa 1 (.t 21), none⟩,
      .real 3 ⟨some 23, .ld false 1 (.t 22), none⟩,
      .real 4 ⟨some 24, .mov (.t 0), none⟩,
      .real 5 ⟨some 25, .nil (.t 24), none⟩,
      .real 6 ⟨some 26, .fa 2 (.t 25), none⟩,
      .real 7 ⟨some 27, .ld false 1 (.t 26), none⟩,
      .real 8 ⟨some 28, .cl 169 [.t 23, .t 27], none⟩,
      .real 9 ⟨some 19, .mov (.t 28), none⟩,
      .real 10 ⟨some 29, .ex 0 (.t 19), none⟩,
      .real 11 ⟨some 30, .ex 1 (.t 19), none⟩,
      .real 12 ⟨some 8, .mov (.t 29), none⟩,
      .real 13 ⟨some 9, .mov (.t 30), none⟩])
  (.seq (.seq (.region [⟨some 31, .mov (.t 7), none⟩,
        ⟨some 32, .lenl (.t 31), none⟩,
        ⟨some 33, .cm .eq (.t 32) (.c (.int .i64 0)), none⟩,
        ⟨some 34, .mov (.t 33), none⟩,
        ⟨some 35, .mov (.t 9), some (34, false)⟩,
        ⟨some 36, .cm .ne (.t 35) (.c (.int .i64 0)), some (34, false)⟩,
        ⟨some 37, .pick (.t 34) (.c (.bool true)) (.t 36), none⟩])
    (.cond (.t 37) (.seq (.region [⟨some 4, .mov (.c (.int .i64 0)), none⟩,
          ⟨some 5, .mov (.c (.int .u32 0)), none⟩,
          ⟨some 6, .mov (.c (.int .i64 32)), none⟩])
      (.ret))
    (.skip)))
  (.seq (.draw [.real 0 ⟨some 38, .mov (.t 0), none⟩,
      .real 1 ⟨some 39, .nil (.t 38), none⟩,
      .real 2 ⟨some 40, .fa 0 (.t 39), none⟩,
      .real 3 ⟨some 41, .ld false 1 (.t 40), none⟩,
      .real 4 ⟨some 42, .mov (.t 7), none⟩,
      .real 5 ⟨some 43, .ixs 1 (.t 42) (.c (.int .i64 0)), none⟩,
      .real 6 ⟨some 44, .ld false 1 (.t 43), none⟩,
      .real 7 ⟨some 45, .mov (.t 1), none⟩,
      .real 8 ⟨some 46, .ixs 1 (.t 41) (.t 44), none⟩,
      .real 9 ⟨none, .st 1 (.t 46) (.t 45), none⟩])
  (.seq (.region [⟨some 47, .mov (.t 0), none⟩,
      ⟨some 48, .nil (.t 47), none⟩,
      ⟨some 49, .fa 2 (.t 48), none⟩,
      ⟨some 50, .ld false 1 (.t 49), none⟩,
      ⟨some 51, .bi .add (.t 50) (.c (.int .i64 1)), none⟩,
      ⟨some 52, .nil (.t 47), none⟩,
      ⟨some 53, .fa 2 (.t 52), none⟩,
      ⟨none, .st 1 (.t 53) (.t 51), none⟩])
  (.seq (.region [⟨some 54, .mov (.t 7), none⟩,
      ⟨some 55, .ixs 1 (.t 54) (.c (.int .i64 0)), none⟩,
      ⟨some 56, .ld false 1 (.t 55), none⟩,
      ⟨some 57, .mov (.t 8), none⟩,
      ⟨some 4, .mov (.t 56), none⟩,
      ⟨some 5, .mov (.t 57), none⟩,
      ⟨some 6, .mov (.c (.int .i64 0)), none⟩])
  (.ret)))))))))
def F147 : Fn := .code 2 11 [.tmp 4] (
  .seq (.region [⟨some 4, .mov (.c (.bool false)), none⟩])
  (.seq (.region [⟨some 5, .mov (.t 1), none⟩,
      ⟨some 6, .cm .ge (.t 5) (.c (.int .i64 0)), none⟩,
      ⟨some 7, .mov (.t 6), none⟩,
      ⟨some 8, .mov (.t 1), some (7, true)⟩,
      ⟨some 9, .mov (.t 0), some (7, true)⟩,
      ⟨some 10, .cl 170 [.t 9], some (7, true)⟩,
      ⟨some 11, .cm .lt (.t 8) (.t 10), some (7, true)⟩,
      ⟨some 12, .pick (.t 7) (.t 11) (.c (.bool false)), none⟩,
      ⟨some 4, .mov (.t 12), none⟩])
  (.ret)))
def F148 : Fn := .code 1 8 [.tmp 2] (
  .seq (.region [⟨some 2, .mov (.c (.bool false)), none⟩])
  (.seq (.region [⟨some 3, .mov (.t 0), none⟩,
      ⟨some 4, .cm .gt (.t 3) (.c (.int .i64 0)), none⟩,
      ⟨some 5, .mov (.t 4), none⟩,
      ⟨some 6, .mov (.t 0), some (5, true)⟩,
      ⟨some 7, .cm .le (.t 6) (.c (.int .i64 65535)), some (5, true)⟩,
      ⟨some 8, .pick (.t 5) (.t 7) (.c (.bool false)), none⟩,
      ⟨some 2, .mov (.t 8), none⟩])
  (.ret)))
def F149 : Fn := .code 2 18 [.tmp 4] (
  .seq (.region [⟨some 2, .box 4 (.t 0), none⟩,
      ⟨some 3, .box 4 (.t 1), none⟩,
      ⟨some 4, .mov (.c (.bool false)), none⟩])
  (.seq (.seq (.region [⟨some 5, .fa 3 (.t 2), none⟩,
        ⟨some 6, .ld false 1 (.t 5), none⟩,
        ⟨some 7, .fa 3 (.t 3), none⟩,
        ⟨some 8, .ld false 1 (.t 7), none⟩,
        ⟨some 9, .cm .ne (.t 6) (.t 8), none⟩])
    (.cond (.t 9) (.seq (.region [⟨some 10, .fa 3 (.t 2), none⟩,
          ⟨some 11, .ld false 1 (.t 10), none⟩,
          ⟨some 12, .fa 3 (.t 3), none⟩,
          ⟨some 13, .ld false 1 (.t 12), none⟩,
          ⟨some 14, .cm .lt (.t 11) (.t 13), none⟩,
          ⟨some 4, .mov (.t 14), none⟩])
      (.ret))
    (.skip)))
  (.seq (.region [⟨some 15, .fa 2 (.t 2), none⟩,
      ⟨some 16, .ld false 1 (.t 15), none⟩,
      ⟨some 17, .fa 2 (.t 3), none⟩,
      ⟨some 18, .ld false 1 (.t 17), none⟩,
      ⟨some 19, .cm .lt (.t 16) (.t 18), none⟩,
      ⟨some 4, .mov (.t 19), none⟩])
  (.ret))))
def F152 : Fn := .code 2 17 [.tmp 4] (
  .seq (.region [⟨some 4, .mov (.c (.int .i64 0)), none⟩])
  (.seq (.seq (.region [⟨some 6, .mov (.t 0), none⟩,
        ⟨some 7, .lenl (.t 6), none⟩,
        ⟨some 8, .mov (.c (.int .i64 0)), none⟩])
    (.block 0 (.loop [8] [4, 5, 9, 10, 11, 12, 13, 14, 15, 16, 17, 18] (.seq (.region [⟨some 9, .cm .lt (.t 8) (.t 7), none⟩])
        (.seq (.cond (.t 9) (.skip)
          (.exit 0))
        (.seq (.block 1 (.seq (.region [⟨some 10, .mov (.t 8), none⟩,
                ⟨some 5, .mov (.t 10), none⟩])
            (.seq (.region [⟨some 11, .mov (.t 1), none⟩,
                ⟨some 12, .mov (.t 0), none⟩,
                ⟨some 13, .mov (.t 5), none⟩,
                ⟨some 14, .ixs 1 (.t 12) (.t 13), none⟩,
                ⟨some 15, .ld false 1 (.t 14), none⟩,
                ⟨some 16, .cm .eq (.t 11) (.t 15), none⟩])
            (.cond (.t 16) (.seq (.region [⟨some 17, .mov (.t 5), none⟩,
                  ⟨some 4, .mov (.t 17), none⟩])
              (.ret))
            (.skip)))))
        (.region [⟨some 18, .bi .add (.t 8) (.c (.int .i64 1)), none⟩,
          ⟨some 8, .mov (.t 18), none⟩])))))))
  (.seq (.region [⟨some 4, .mov (.c (.int .i64 (-1))), none⟩])
  (.ret))))
def F153 : Fn := .code 2 20 [.tmp 4, .tmp 5] (
  .seq (.region [⟨some 4, .mov (.c (.str [])), none⟩,
      ⟨some 5, .mov (.c (.int .i64 0)), none⟩])
  (.seq (.block 0 (.seq (.region [⟨some 7, .mov (.t 0), none⟩,
          ⟨some 8, .ce .p false (.t 7) (.c (.nilp)), none⟩,
          ⟨some 6, .mov (.t 8), none⟩])
      (.cond (.t 6) (.seq (.region [⟨some 4, .mov (.c (.str [])), none⟩,
            ⟨some 5, .mov (.c (.int .i64 7)), none⟩])
        (.ret))
      (.seq (.region [⟨some 10, .mov (.t 0), none⟩,
            ⟨some 11, .mov (.t 1), none⟩,
            ⟨some 12, .cl 121 [.t 10, .t 11], none⟩,
            ⟨some 13, .not (.t 12), none⟩,
            ⟨some 9, .mov (.t 13), none⟩])
        (.cond (.t 9) (.seq (.region [⟨some 4, .mov (.c (.str [])), none⟩,
              ⟨some 5, .mov (.c (.int .i64 20)), none⟩])
          (.ret))
        (.skip))))))
  (.seq (.region [⟨some 14, .mov (.t 0), none⟩,
      ⟨some 15, .nil (.t 14), none⟩,
      ⟨some 16, .fa 0 (.t 15), none⟩,
      ⟨some 17, .ld false 1 (.t 16), none⟩,
      ⟨some 18, .mov (.t 1), none⟩,
      ⟨some 19, .ixs 64 (.t 17) (.t 18), none⟩,
      ⟨some 20, .sla 64 1 (.t 19) none none, none⟩,
      ⟨some 21, .cvs (.t 20), none⟩,
      ⟨some 4, .mov (.t 21), none⟩,
      ⟨some 5, .mov (.c (.int .i64 0)), none⟩])
  (.ret))))
def F155 : Fn := .code 1 26 [.tmp 2, .tmp 3] (
  .seq (.region [⟨some 2, .mov (.c (.int .u64 0)), none⟩,
      ⟨some 3, .mov (.c (.int .i64 0)), none⟩])
  (.seq (.seq (.region [⟨some 6, .mov (.t 0), none⟩,
        ⟨some 7, .cm .eq (.t 6) (.c (.str [])), none⟩,
        ⟨some 8, .mov (.t 7), none⟩,
        ⟨some 9, .mov (.t 0), some (8, false)⟩,
        ⟨some 10, .lens (.t 9), some (8, false)⟩,
        ⟨some 11, .cm .gt (.t 10) (.c (.int .i64 8)), some (8, false)⟩,
        ⟨some 12, .pick (.t 8) (.c (.bool true)) (.t 11), none⟩])
    (.cond (.t 12) (.seq (.region [⟨some 2, .mov (.c (.int .u64 0)), none⟩,
          ⟨some 3, .mov (.c (.int .i64 1)), none⟩])
      (.ret))
    (.skip)))
  (.seq (.region [⟨some 4, .mov (.c (.int .u64 0)), none⟩])
  (.seq (.seq (.region [⟨some 13, .mov (.t 0), none⟩,
        ⟨some 14, .lens (.t 13), none⟩,
        ⟨some 15, .mov (.c (.int .i64 0)), none⟩])
    (.block 0 (.loop [4, 15] [5, 16, 17, 18, 19, 20, 21, 22, 23, 24, 25] (.seq (.region [⟨some 16, .cm .lt (.t 15) (.t 14), none⟩])
        (.seq (.cond (.t 16) (.skip)
          (.exit 0))
        (.seq (.block 1 (.seq (.region [⟨some 17, .mov (.t 15), none⟩,
                ⟨some 5, .mov (.t 17), none⟩])
            (.region [⟨some 18, .mov (.t 4), none⟩,
              ⟨some 19, .sh .shl (.t 18) (.c (.int .u64 8)), none⟩,
              ⟨some 20, .mov (.t 0), none⟩,
              ⟨some 21, .mov (.t 5), none⟩,
              ⟨some 22, .ixt (.t 20) (.t 21), none⟩,
              ⟨some 23, .cvi .u64 (.t 22), none⟩,
              ⟨some 24, .bi .or (.t 19) (.t 23), none⟩,
              ⟨some 4, .mov (.t 24), none⟩])))
        (.region [⟨some 25, .bi .add (.t 15) (.c (.int .i64 1)), none⟩,
          ⟨some 15, .mov (.t 25), none⟩])))))))
  (.seq (.region [⟨some 26, .mov (.t 4), none⟩,
      ⟨some 2, .mov (.t 26), none⟩,
      ⟨some 3, .mov (.c (.int .i64 0)), none⟩])
  (.ret))))))
def F156 : Fn := .code 1 11 [.tmp 2] (
  .seq (.region [⟨some 2, .mov (.c (.int .i64 0)), none⟩])
  (.seq (.region [⟨some 6, .mov (.t 0), none⟩,
      ⟨some 7, .cl 155 [.t 6], none⟩,
      ⟨some 5, .mov (.t 7), none⟩,
      ⟨some 8, .ex 0 (.t 5), none⟩,
      ⟨some 9, .ex 1 (.t 5), none⟩,
      ⟨some 3, .mov (.t 8), none⟩,
      ⟨some 4, .mov (.t 9), none⟩])
  (.seq (.region [⟨some 10, .mov (.t 3), none⟩,
      ⟨some 11, .cvi .i64 (.t 10), none⟩,
      ⟨some 2, .mov (.t 11), none⟩])
  (.ret))))
def F157 : Fn := .code 1 18 [.tmp 2] (
  .seq (.region [⟨some 2, .mov (.c (.int .u32 0)), none⟩])
  (.seq (.region [⟨some 6, .cl 159 [.c (.int .u32 0)], none⟩,
      ⟨some 3, .mov (.t 6), none⟩])
  (.seq (.seq (.region [⟨some 7, .mov (.t 0), none⟩,
        ⟨some 8, .lenl (.t 7), none⟩,
        ⟨some 9, .mov (.c (.int .i64 0)), none⟩])
    (.block 0 (.loop [9] [5, 10, 11, 12, 13, 14, 15, 16] (.seq (.region [⟨some 10, .cm .lt (.t 9) (.t 8), none⟩])
        (.seq (.cond (.t 10) (.skip)
          (.exit 0))
        (.seq (.block 1 (.seq (.region [⟨some 11, .ixs 1 (.t 7) (.t 9), none⟩,
                ⟨some 12, .ld false 1 (.t 11), none⟩,
                ⟨some 5, .mov (.t 12), none⟩])
            (.region [⟨some 13, .mov (.t 3), none⟩,
              ⟨some 14, .mov (.t 5), none⟩,
              ⟨some 15, .cl 160 [.t 13, .t 14], none⟩])))
        (.region [⟨some 16, .bi .add (.t 9) (.c (.int .i64 1)), none⟩,
          ⟨some 9, .mov (.t 16), none⟩])))))))
  (.seq (.region [⟨some 17, .mov (.t 3), none⟩,
      ⟨some 18, .cl 161 [.t 17], none⟩,
      ⟨some 2, .mov (.t 18), none⟩])
  (.ret)))))
def F158 : Fn := .code 2 22 [.tmp 4] (
  .seq (.region [⟨some 4, .mov (.c (.str [])), none⟩])
  (.seq (.region [⟨some 10, .mov (.t 0), none⟩,
      ⟨some 11, .cvi .u64 (.t 10), none⟩,
      ⟨some 12, .cl 134 [.t 11, .c (.int .i64 4)], none⟩,
      ⟨some 9, .mov (.t 12), none⟩,
      ⟨some 13, .ex 0 (.t 9), none⟩,
      ⟨some 14, .ex 1 (.t 9), none⟩,
      ⟨some 5, .mov (.t 13), none⟩,
      ⟨some 6, .mov (.t 14), none⟩])
  (.seq (.region [⟨some 16, .mov (.t 1), none⟩,
      ⟨some 17, .cvi .u64 (.t 16), none⟩,
      ⟨some 18, .cl 134 [.t 17, .c (.int .i64 2)], none⟩,
      ⟨some 15, .mov (.t 18), none⟩,
      ⟨some 19, .ex 0 (.t 15), none⟩,
      ⟨some 20, .ex 1 (.t 15), none⟩,
      ⟨some 7, .mov (.t 19), none⟩,
      ⟨some 8, .mov (.t 20), none⟩])
  (.seq (.region [⟨some 21, .mov (.t 5), none⟩,
      ⟨some 22, .mov (.t 7), none⟩,
      ⟨some 23, .adds (.t 21) (.t 22), none⟩,
      ⟨some 4, .mov (.t 23), none⟩])
  (.ret)))))
def F159 : Fn := .code 1 6 [.tmp 2] (
  .seq (.region [⟨some 2, .mov (.c (.nilp)), none⟩])
  (.seq (.region [⟨some 3, .mov (.t 0), none⟩,
      ⟨some 4, .cpl (.t 3), none⟩,
      ⟨some 5, .agg [.int .u32 0] [(0, 1, .t 4)], none⟩,
      ⟨some 6, .box 1 (.t 5), none⟩,
      ⟨some 2, .mov (.t 6), none⟩])
  (.ret)))
def F160 : Fn := .code 2 22 [] (
  .seq (.seq (.region [⟨some 5, .mov (.t 0), none⟩,
        ⟨some 6, .ce .p false (.t 5) (.c (.nilp)), none⟩])
    (.cond (.t 6) (.ret)
    (.skip)))
  (.seq (.region [⟨some 7, .mov (.t 1), none⟩,
      ⟨some 8, .lens (.t 7), none⟩,
      ⟨some 9, .mov (.c (.int .i64 0)), none⟩])
  (.block 0 (.loop [9] [4, 10, 11, 12, 13, 14, 15, 16, 17, 18, 19, 20, 21, 22, 23] (.seq (.region [⟨some 10, .cm .lt (.t 9) (.t 8), none⟩])
      (.seq (.cond (.t 10) (.skip)
        (.exit 0))
      (.seq (.block 1 (.seq (.region [⟨some 11, .mov (.t 9), none⟩,
              ⟨some 4, .mov (.t 11), none⟩])
          (.draw [.real 0 ⟨some 12, .mov (.t 0), none⟩,
            .real 1 ⟨some 13, .mov (.t 0), none⟩,
            .real 2 ⟨some 14, .nil (.t 13), none⟩,
            .real 3 ⟨some 15, .fa 0 (.t 14), none⟩,
            .real 4 ⟨some 16, .ld false 1 (.t 15), none⟩,
            .real 5 ⟨some 17, .mov (.t 1), none⟩,
            .real 6 ⟨some 18, .mov (.t 4), none⟩,
            .real 7 ⟨some 19, .ixt (.t 17) (.t 18), none⟩,
            .real 8 ⟨some 20, .cl 171 [.t 16, .t 19], none⟩,
            .real 9 ⟨some 21, .nil (.t 12), none⟩,
            .real 10 ⟨some 22, .fa 0 (.t 21), none⟩,
            .real 11 ⟨none, .st 1 (.t 22) (.t 20), none⟩])))
      (.region [⟨some 23, .bi .add (.t 9) (.c (.int .i64 1)), none⟩,
        ⟨some 9, .mov (.t 23), none⟩]))))))))
def F161 : Fn := .code 1 9 [.tmp 2] (
  .seq (.region [⟨some 2, .mov (.c (.int .u32 0)), none⟩])
  (.seq (.seq (.region [⟨some 3, .mov (.t 0), none⟩,
        ⟨some 4, .ce .p false (.t 3) (.c (.nilp)), none⟩])
    (.cond (.t 4) (.seq (.region [⟨some 2, .mov (.c (.int .u32 0)), none⟩])
      (.ret))
    (.skip)))
  (.seq (.region [⟨some 5, .mov (.t 0), none⟩,
      ⟨some 6, .nil (.t 5), none⟩,
      ⟨some 7, .fa 0 (.t 6), none⟩,
      ⟨some 8, .ld false 1 (.t 7), none⟩,
      ⟨some 9, .cpl (.t 8), none⟩,
      ⟨some 2, .mov (.t 9), none⟩])
  (.ret))))
def F167 : Fn := .code 2 27 [.tmp 4] (
  .seq (.region [⟨some 4, .mov (.c (.sl .nl 1 [])), none⟩])
  (.seq (.region [⟨some 5, .mov (.c (.sl .nl 1 [])), none⟩])
  (.seq (.seq (.region [⟨some 8, .mov (.t 0), none⟩,
        ⟨some 9, .ce .p false (.t 8) (.c (.nilp)), none⟩])
    (.cond (.t 9) (.seq (.region [⟨some 4, .mov (.c (.sl .nl 1 [])), none⟩])
      (.ret))
    (.skip)))
  (.seq (.seq (.region [⟨some 10, .mov (.t 0), none⟩,
        ⟨some 11, .nil (.t 10), none⟩,
        ⟨some 12, .fa 0 (.t 11), none⟩,
        ⟨some 13, .ld false 1 (.t 12), none⟩,
        ⟨some 14, .lenl (.t 13), none⟩,
        ⟨some 15, .mov (.c (.int .i64 0)), none⟩])
    (.block 0 (.loop [5, 15] [6, 7, 16, 17, 18, 19, 20, 21, 22, 23, 24, 25, 26, 27] (.seq (.region [⟨some 16, .cm .lt (.t 15) (.t 14), none⟩])
        (.seq (.cond (.t 16) (.skip)
          (.exit 0))
        (.seq (.block 1 (.seq (.region [⟨some 17, .mov (.t 15), none⟩,
                ⟨some 18, .ixs 1 (.t 13) (.t 15), none⟩,
                ⟨some 19, .ld false 1 (.t 18), none⟩,
                ⟨some 6, .mov (.t 17), none⟩,
                ⟨some 7, .mov (.t 19), none⟩])
            (.seq (.region [⟨some 20, .mov (.t 1), none⟩,
                ⟨some 21, .mov (.t 7), none⟩,
                ⟨some 22, .cv (.t 20) [.t 21], none⟩])
            (.cond (.t 22) (.region [⟨some 23, .mov (.t 5), none⟩,
                ⟨some 24, .mov (.t 6), none⟩,
                ⟨some 25, .bsl 1 [.t 24], none⟩,
                ⟨some 26, .app false 1 (.t 23) (.t 25), none⟩,
                ⟨some 5, .mov (.t 26), none⟩])
            (.skip)))))
        (.region [⟨some 27, .bi .add (.t 15) (.c (.int .i64 1)), none⟩,
          ⟨some 15, .mov (.t 27), none⟩])))))))
  (.seq (.region [⟨some 28, .mov (.t 5), none⟩,
      ⟨some 4, .mov (.t 28), none⟩])
  (.ret))))))
def F168 : Fn := .code 1 4 [.tmp 2] (
  .seq (.region [⟨some 2, .mov (.c (.bool false)), none⟩])
  (.seq (.region [⟨some 3, .mov (.t 0), none⟩,
      ⟨some 4, .cm .eq (.t 3) (.c (.int .i64 0)), none⟩,
      ⟨some 2, .mov (.t 4), none⟩])
  (.ret)))
def F169 : Fn := .code 2 24 [.tmp 4, .tmp 5] (
  .seq (.region [⟨some 4, .mov (.c (.int .u32 0)), none⟩,
      ⟨some 5, .mov (.c (.int .i64 0)), none⟩])
  (.seq (.seq (.region [⟨some 6, .mov (.t 0), none⟩,
        ⟨some 7, .cm .lt (.t 6) (.c (.int .i64 0)), none⟩,
        ⟨some 8, .mov (.t 7), none⟩,
        ⟨some 9, .mov (.t 0), some (8, false)⟩,
        ⟨some 10, .cm .gt (.t 9) (.c (.int .i64 65535)), some (8, false)⟩,
        ⟨some 11, .pick (.t 8) (.c (.bool true)) (.t 10), none⟩,
        ⟨some 12, .mov (.t 11), none⟩,
        ⟨some 13, .mov (.t 1), some (12, false)⟩,
        ⟨some 14, .cm .lt (.t 13) (.c (.int .i64 0)), some (12, false)⟩,
        ⟨some 15, .pick (.t 12) (.c (.bool true)) (.t 14), none⟩,
        ⟨some 16, .mov (.t 15), none⟩,
        ⟨some 17, .mov (.t 1), some (16, false)⟩,
        ⟨some 18, .cm .gt (.t 17) (.c (.int .i64 65535)), some (16, false)⟩,
        ⟨some 19, .pick (.t 16) (.c (.bool true)) (.t 18), none⟩])
    (.cond (.t 19) (.seq (.region [⟨some 4, .mov (.c (.int .u32 0)), none⟩,
          ⟨some 5, .mov (.c (.int .i64 1)), none⟩])
      (.ret))
    (.skip)))
  (.seq (.region [⟨some 20, .mov (.t 0), none⟩,
      ⟨some 21, .cvi .u32 (.t 20), none⟩,
      ⟨some 22, .sh .shl (.t 21) (.c (.int .u64 16)), none⟩,
      ⟨some 23, .mov (.t 1), none⟩,
      ⟨some 24, .cvi .u32 (.t 23), none⟩,
      ⟨some 25, .bi .or (.t 22) (.t 24), none⟩,
      ⟨some 4, .mov (.t 25), none⟩,
      ⟨some 5, .mov (.c (.int .i64 0)), none⟩])
  (.ret))))
def F170 : Fn := .code 1 9 [.tmp 2] (
  .seq (.region [⟨some 2, .mov (.c (.int .i64 0)), none⟩])
  (.seq (.seq (.region [⟨some 3, .mov (.t 0), none⟩,
        ⟨some 4, .ce .p false (.t 3) (.c (.nilp)), none⟩])
    (.cond (.t 4) (.seq (.region [⟨some 2, .mov (.c (.int .i64 0)), none⟩])
      (.ret))
    (.skip)))
  (.seq (.region [⟨some 5, .mov (.t 0), none⟩,
      ⟨some 6, .nil (.t 5), none⟩,
      ⟨some 7, .fa 0 (.t 6), none⟩,
      ⟨some 8, .ld false 1 (.t 7), none⟩,
      ⟨some 9, .lenl (.t 8), none⟩,
      ⟨some 2, .mov (.t 9), none⟩])
  (.ret))))
def F171 : Fn := .code 2 20 [.tmp 4] (
  .seq (.region [⟨some 4, .mov (.c (.int .u32 0)), none⟩])
  (.seq (.region [⟨some 6, .mov (.t 0), none⟩,
      ⟨some 7, .mov (.t 1), none⟩,
      ⟨some 8, .cvi .u32 (.t 7), none⟩,
      ⟨some 9, .bi .xor (.t 6) (.t 8), none⟩,
      ⟨some 0, .mov (.t 9), none⟩])
  (.seq (.seq (.region [⟨some 10, .mov (.c (.int .i64 0)), none⟩])
    (.block 0 (.loop [0, 10] [5, 11, 12, 13, 14, 15, 16, 17, 18, 19, 20] (.seq (.region [⟨some 11, .cm .lt (.t 10) (.c (.int .i64 8)), none⟩])
        (.seq (.cond (.t 11) (.skip)
          (.exit 0))
        (.seq (.block 1 (.seq (.region [⟨some 12, .mov (.t 0), none⟩,
                ⟨some 13, .bi .and (.t 12) (.c (.int .u32 1)), none⟩,
                ⟨some 14, .neg (.t 13), none⟩,
                ⟨some 5, .mov (.t 14), none⟩])
            (.region [⟨some 15, .mov (.t 0), none⟩,
              ⟨some 16, .sh .shr (.t 15) (.c (.int .u64 1)), none⟩,
              ⟨some 17, .mov (.t 5), none⟩,
              ⟨some 18, .bi .and (.t 17) (.c (.int .u32 3988292384)), none⟩,
              ⟨some 19, .bi .xor (.t 16) (.t 18), none⟩,
              ⟨some 0, .mov (.t 19), none⟩])))
        (.region [⟨some 20, .bi .add (.t 10) (.c (.int .i64 1)), none⟩,
          ⟨some 10, .mov (.t 20), none⟩])))))))
  (.seq (.region [⟨some 21, .mov (.t 0), none⟩,
      ⟨some 4, .mov (.t 21), none⟩])
  (.ret)))))
end Go.AM.T

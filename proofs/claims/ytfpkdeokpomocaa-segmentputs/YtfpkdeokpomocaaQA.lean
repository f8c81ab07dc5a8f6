import Derived.Test.YtfpkdeokpomocaaAMCore
set_option linter.constructorNameAsVariable false
set_option linter.unusedVariables false
set_option linter.unusedSimpArgs false
set_option maxRecDepth 100000
set_option linter.unusedVariables false
namespace Go.AM.T
def F3 : Fn := .code 3 140 [.tmp 6] (
  .seq (.region [⟨some 3, .box 4 (.t 0), none⟩,
      ⟨some 6, .mov (.c (.bool false)), none⟩])
  (.seq (.seq (.region [⟨some 20, .mov (.t 1), none⟩,
        ⟨some 21, .cl 11 [.t 20], none⟩,
        ⟨some 22, .mov (.t 21), none⟩,
        ⟨some 23, .ld true 4 (.t 3), some (22, false)⟩,
        ⟨some 24, .cl 13 [.t 23], some (22, false)⟩,
        ⟨some 25, .cl 12 [.t 24], some (22, false)⟩,
        ⟨some 26, .not (.t 25), some (22, false)⟩,
        ⟨some 27, .pick (.t 22) (.c (.bool true)) (.t 26), none⟩,
        ⟨some 28, .mov (.t 27), none⟩,
        ⟨some 29, .mov (.t 2), some (28, false)⟩,
        ⟨some 30, .lenl (.t 29), some (28, false)⟩,
        ⟨some 31, .cm .gt (.t 30) (.c (.int .i64 30)), some (28, false)⟩,
        ⟨some 32, .pick (.t 28) (.c (.bool true)) (.t 31), none⟩])
    (.cond (.t 32) (.seq (.region [⟨some 33, .cl 14 [], none⟩,
          ⟨some 6, .mov (.t 33), none⟩])
      (.ret))
    (.skip)))
  (.seq (.draw [.real 1 ⟨some 35, .ld true 4 (.t 3), none⟩,
      .real 0 ⟨some 34, .cl 16 [], none⟩,
      .chk ⟨some 35, .ld true 4 (.t 3), none⟩,
      .real 2 ⟨some 36, .cl 13 [.t 35], none⟩,
      .real 3 ⟨some 37, .cl 15 [.t 34, .t 36], none⟩,
      .real 4 ⟨some 7, .alloc [.int .i64 0, .int .u32 0, .int .u32 0, .int .i64 0, .sl .nl 2 [], .int .i64 0, .str [], .str [], .str [], .str [], .str [], .str [], .str [], .str [], .str [], .str [], .str [], .str [], .str [], .str [], .str [], .str []], none⟩,
      .real 5 ⟨none, .st 22 (.t 7) (.t 37), none⟩])
  (.seq (.seq (.region [⟨some 38, .mov (.t 1), none⟩,
        ⟨some 39, .lenl (.t 38), none⟩,
        ⟨some 40, .mov (.c (.int .i64 0)), none⟩])
    (.block 0 (.loop [40] [9, 41, 42, 43, 44, 45, 46, 47, 48] (.seq (.region [⟨some 41, .cm .lt (.t 40) (.t 39), none⟩])
        (.seq (.cond (.t 41) (.skip)
          (.exit 0))
        (.seq (.block 1 (.seq (.region [⟨some 42, .ixs 2 (.t 38) (.t 40), none⟩,
                ⟨some 43, .ld true 2 (.t 42), none⟩,
                ⟨some 9, .alloc [.int .i64 0, .str []], none⟩,
                ⟨none, .st 2 (.t 9) (.t 43), none⟩])
            (.region [⟨some 44, .ld true 22 (.t 7), none⟩,
              ⟨some 45, .ld true 2 (.t 9), none⟩,
              ⟨some 46, .cl 17 [.t 44, .t 45], none⟩,
              ⟨some 47, .fd true 0 22 (.t 46), none⟩,
              ⟨none, .st 22 (.t 7) (.t 47), none⟩])))
        (.region [⟨some 48, .bi .add (.t 40) (.c (.int .i64 1)), none⟩,
          ⟨some 40, .mov (.t 48), none⟩])))))))
  (.seq (.region [⟨some 49, .fa 6 (.t 7), none⟩,
      ⟨some 50, .ld true 16 (.t 49), none⟩,
      ⟨some 10, .alloc (reps 16 (.str [])), none⟩,
      ⟨none, .st 16 (.t 10) (.t 50), none⟩])
  (.seq (.seq (.region [⟨some 51, .mov (.t 2), none⟩,
        ⟨some 52, .lenl (.t 51), none⟩,
        ⟨some 53, .mov (.c (.int .i64 0)), none⟩])
    (.block 2 (.loop [53] [12, 54, 55, 56, 57, 58, 59, 60] (.seq (.region [⟨some 54, .cm .lt (.t 53) (.t 52), none⟩])
        (.seq (.cond (.t 54) (.skip)
          (.exit 2))
        (.seq (.block 3 (.seq (.region [⟨some 55, .ixs 5 (.t 51) (.t 53), none⟩,
                ⟨some 56, .ld true 5 (.t 55), none⟩,
                ⟨some 12, .alloc [.int .i64 0, .int .i64 0, .int .u32 0, .int .i64 0, .int .i64 0], none⟩,
                ⟨none, .st 5 (.t 12) (.t 56), none⟩])
            (.region [⟨some 57, .ld true 5 (.t 12), none⟩,
              ⟨some 58, .ld true 16 (.t 10), none⟩,
              ⟨some 59, .cl 18 [.t 57, .t 58], none⟩,
              ⟨none, .st 16 (.t 10) (.t 59), none⟩])))
        (.region [⟨some 60, .bi .add (.t 53) (.c (.int .i64 1)), none⟩,
          ⟨some 53, .mov (.t 60), none⟩])))))))
  (.seq (.region [⟨some 61, .cl 19 [], none⟩,
      ⟨some 13, .mov (.t 61), none⟩])
  (.seq (.seq (.region [⟨some 62, .mov (.c (.int .i64 0)), none⟩])
    (.block 4 (.loop [62] [6, 14, 63, 64, 65, 66, 67, 68, 69, 70, 71, 72, 73, 74] (.seq (.region [⟨some 63, .cm .lt (.t 62) (.c (.int .i64 16)), none⟩])
        (.seq (.cond (.t 63) (.skip)
          (.exit 4))
        (.seq (.block 5 (.seq (.region [⟨some 64, .mov (.t 62), none⟩,
                ⟨some 14, .mov (.t 64), none⟩])
            (.seq (.region [⟨some 65, .mov (.t 13), none⟩,
                ⟨some 66, .mov (.t 14), none⟩,
                ⟨some 67, .bi .add (.c (.int .i64 2)) (.t 66), none⟩,
                ⟨some 68, .mov (.t 14), none⟩,
                ⟨some 69, .fa 0 (.t 10), none⟩,
                ⟨some 70, .ixp 16 1 (.t 69) (.t 68), none⟩,
                ⟨some 71, .ld false 1 (.t 70), none⟩,
                ⟨some 72, .cl 20 [.t 65, .t 67, .t 71], none⟩,
                ⟨some 73, .cm .ne (.t 72) (.c (.int .i64 0)), none⟩])
            (.cond (.t 73) (.seq (.region [⟨some 6, .mov (.c (.bool false)), none⟩])
              (.ret))
            (.skip)))))
        (.region [⟨some 74, .bi .add (.t 62) (.c (.int .i64 1)), none⟩,
          ⟨some 62, .mov (.t 74), none⟩])))))))
  (.seq (.region [⟨some 76, .mov (.t 13), none⟩,
      ⟨some 77, .cl 21 [.t 76, .c (.int .i64 0)], none⟩,
      ⟨some 75, .mov (.t 77), none⟩,
      ⟨some 78, .ex 0 (.t 75), none⟩,
      ⟨some 79, .ex 1 (.t 75), none⟩,
      ⟨some 15, .mov (.t 78), none⟩,
      ⟨some 16, .mov (.t 79), none⟩])
  (.seq (.region [⟨some 80, .ld true 16 (.t 10), none⟩,
      ⟨some 81, .cl 22 [.t 80], none⟩,
      ⟨some 17, .alloc [.int .i64 0, .int .u32 0, .int .u32 0, .int .i64 0, .sl .nl 2 [], .int .i64 0, .bool false], none⟩,
      ⟨none, .st 7 (.t 17) (.t 81), none⟩])
  (.seq (.seq (.region [⟨some 82, .fa 6 (.t 17), none⟩,
        ⟨some 83, .ld false 1 (.t 82), none⟩,
        ⟨some 84, .not (.t 83), none⟩])
    (.cond (.t 84) (.seq (.region [⟨some 85, .mov (.t 16), none⟩,
          ⟨some 86, .cm .eq (.t 85) (.c (.int .i64 4)), none⟩,
          ⟨some 87, .mov (.t 86), none⟩,
          ⟨some 88, .mov (.t 15), some (87, true)⟩,
          ⟨some 89, .ce .p false (.t 88) (.c (.nilp)), some (87, true)⟩,
          ⟨some 90, .pick (.t 87) (.t 89) (.c (.bool false)), none⟩,
          ⟨some 91, .mov (.t 90), none⟩,
          ⟨some 92, .cl 14 [], some (91, true)⟩,
          ⟨some 93, .pick (.t 91) (.t 92) (.c (.bool false)), none⟩,
          ⟨some 6, .mov (.t 93), none⟩])
      (.ret))
    (.skip)))
  (.seq (.region [⟨some 95, .mov (.t 15), none⟩,
      ⟨some 96, .agg [.int .i64 0, .str []] [(0, 1, .c (.int .i64 1))], none⟩,
      ⟨some 97, .cl 23 [.t 95, .t 96], none⟩,
      ⟨some 94, .mov (.t 97), none⟩,
      ⟨some 98, .ex 0 (.t 94), none⟩,
      ⟨some 99, .ex 1 (.t 94), none⟩,
      ⟨some 18, .mov (.t 98), none⟩,
      ⟨some 19, .mov (.t 99), none⟩])
  (.seq (.draw [.real 0 ⟨some 100, .mov (.t 16), none⟩,
      .real 1 ⟨some 101, .cm .eq (.t 100) (.c (.int .i64 0)), none⟩,
      .real 2 ⟨some 102, .mov (.t 101), none⟩,
      .real 3 ⟨some 103, .mov (.t 19), some (102, true)⟩,
      .real 4 ⟨some 104, .cm .eq (.t 103) (.c (.int .i64 39)), some (102, true)⟩,
      .real 5 ⟨some 105, .pick (.t 102) (.t 104) (.c (.bool false)), none⟩,
      .real 6 ⟨some 106, .mov (.t 105), none⟩,
      .real 7 ⟨some 107, .mov (.t 15), some (106, true)⟩,
      .real 10 ⟨some 110, .fa 0 (.t 17), some (106, true)⟩,
      .real 11 ⟨some 111, .ld true 4 (.t 110), some (106, true)⟩,
      .real 8 ⟨some 108, .cl 24 [.t 107], some (106, true)⟩,
      .chk ⟨some 111, .ld true 4 (.t 110), some (106, true)⟩,
      .real 9 ⟨some 109, .cl 13 [.t 108], some (106, true)⟩,
      .chk ⟨some 111, .ld true 4 (.t 110), some (106, true)⟩,
      .real 12 ⟨some 112, .cea [.i, .i, .i, .i] false (.t 109) (.t 111), some (106, true)⟩,
      .real 13 ⟨some 113, .pick (.t 106) (.t 112) (.c (.bool false)), none⟩,
      .real 14 ⟨some 114, .mov (.t 113), none⟩,
      .real 15 ⟨some 115, .mov (.t 15), some (114, true)⟩,
      .real 17 ⟨some 117, .fa 4 (.t 17), some (114, true)⟩,
      .real 18 ⟨some 118, .ld false 1 (.t 117), some (114, true)⟩,
      .real 16 ⟨some 116, .cl 26 [.t 115], some (114, true)⟩,
      .chk ⟨some 118, .ld false 1 (.t 117), some (114, true)⟩,
      .real 19 ⟨some 119, .cl 25 [.t 116, .t 118], some (114, true)⟩,
      .real 20 ⟨some 120, .pick (.t 114) (.t 119) (.c (.bool false)), none⟩,
      .real 21 ⟨some 121, .mov (.t 120), none⟩,
      .real 22 ⟨some 122, .mov (.t 15), some (121, true)⟩,
      .real 24 ⟨some 124, .fa 5 (.t 17), some (121, true)⟩,
      .real 25 ⟨some 125, .ld false 1 (.t 124), some (121, true)⟩,
      .real 23 ⟨some 123, .cl 27 [.t 122], some (121, true)⟩,
      .chk ⟨some 125, .ld false 1 (.t 124), some (121, true)⟩,
      .real 26 ⟨some 126, .cm .eq (.t 123) (.t 125), some (121, true)⟩,
      .real 27 ⟨some 127, .pick (.t 121) (.t 126) (.c (.bool false)), none⟩,
      .real 28 ⟨some 128, .mov (.t 127), none⟩,
      .real 29 ⟨some 129, .mov (.t 15), some (128, true)⟩,
      .real 31 ⟨some 131, .fa 4 (.t 17), some (128, true)⟩,
      .real 32 ⟨some 132, .ld false 1 (.t 131), some (128, true)⟩,
      .real 33 ⟨some 133, .lenl (.t 132), some (128, true)⟩,
      .real 30 ⟨some 130, .cl 28 [.t 129], some (128, true)⟩,
      .chk ⟨some 132, .ld false 1 (.t 131), some (128, true)⟩,
      .real 34 ⟨some 134, .cm .eq (.t 130) (.t 133), some (128, true)⟩,
      .real 35 ⟨some 135, .pick (.t 128) (.t 134) (.c (.bool false)), none⟩,
      .real 36 ⟨some 136, .mov (.t 135), none⟩,
      .real 37 ⟨some 137, .mov (.t 15), some (136, true)⟩,
      .real 38 ⟨some 138, .cl 29 [.t 137], some (136, true)⟩,
      .real 39 ⟨some 139, .pick (.t 136) (.t 138) (.c (.bool false)), none⟩,
      .real 40 ⟨some 140, .mov (.t 139), none⟩,
      .real 41 ⟨some 141, .cl 14 [], some (140, true)⟩,
      .real 42 ⟨some 142, .pick (.t 140) (.t 141) (.c (.bool false)), none⟩,
      .real 43 ⟨some 6, .mov (.t 142), none⟩])
  (.ret))))))))))))))
def F4 : Fn := .code 2 96 [.tmp 4] (
  .seq (.region [⟨some 2, .box 4 (.t 0), none⟩,
      ⟨some 4, .mov (.c (.bool false)), none⟩])
  (.seq (.seq (.region [⟨some 15, .mov (.t 1), none⟩,
        ⟨some 16, .cl 11 [.t 15], none⟩,
        ⟨some 17, .mov (.t 16), none⟩,
        ⟨some 18, .ld true 4 (.t 2), some (17, false)⟩,
        ⟨some 19, .cl 13 [.t 18], some (17, false)⟩,
        ⟨some 20, .cl 12 [.t 19], some (17, false)⟩,
        ⟨some 21, .not (.t 20), some (17, false)⟩,
        ⟨some 22, .pick (.t 17) (.c (.bool true)) (.t 21), none⟩])
    (.cond (.t 22) (.seq (.region [⟨some 23, .cl 14 [], none⟩,
          ⟨some 4, .mov (.t 23), none⟩])
      (.ret))
    (.skip)))
  (.seq (.region [⟨some 24, .cl 19 [], none⟩,
      ⟨some 5, .mov (.t 24), none⟩])
  (.seq (.region [⟨some 26, .mov (.t 5), none⟩,
      ⟨some 27, .ld true 4 (.t 2), none⟩,
      ⟨some 28, .cl 30 [.t 26, .c (.int .i64 1), .t 27], none⟩,
      ⟨some 25, .mov (.t 28), none⟩,
      ⟨some 29, .ex 0 (.t 25), none⟩,
      ⟨some 30, .ex 1 (.t 25), none⟩,
      ⟨some 6, .mov (.t 29), none⟩,
      ⟨some 7, .mov (.t 30), none⟩])
  (.seq (.seq (.region [⟨some 31, .mov (.t 1), none⟩,
        ⟨some 32, .lenl (.t 31), none⟩,
        ⟨some 33, .mov (.c (.int .i64 0)), none⟩])
    (.block 0 (.loop [33] [9, 34, 35, 36, 37, 38, 39, 40] (.seq (.region [⟨some 34, .cm .lt (.t 33) (.t 32), none⟩])
        (.seq (.cond (.t 34) (.skip)
          (.exit 0))
        (.seq (.block 1 (.seq (.region [⟨some 35, .ixs 2 (.t 31) (.t 33), none⟩,
                ⟨some 36, .ld true 2 (.t 35), none⟩,
                ⟨some 9, .alloc [.int .i64 0, .str []], none⟩,
                ⟨none, .st 2 (.t 9) (.t 36), none⟩])
            (.region [⟨some 37, .mov (.t 6), none⟩,
              ⟨some 38, .ld true 2 (.t 9), none⟩,
              ⟨some 39, .cl 23 [.t 37, .t 38], none⟩])))
        (.region [⟨some 40, .bi .add (.t 33) (.c (.int .i64 1)), none⟩,
          ⟨some 33, .mov (.t 40), none⟩])))))))
  (.seq (.region [⟨some 42, .mov (.t 5), none⟩,
      ⟨some 43, .cl 21 [.t 42, .c (.int .i64 1)], none⟩,
      ⟨some 41, .mov (.t 43), none⟩,
      ⟨some 44, .ex 0 (.t 41), none⟩,
      ⟨some 45, .ex 1 (.t 41), none⟩,
      ⟨some 10, .mov (.t 44), none⟩,
      ⟨some 11, .mov (.t 45), none⟩])
  (.seq (.seq (.draw [.real 0 ⟨some 46, .mov (.t 7), none⟩,
        .real 1 ⟨some 47, .cm .ne (.t 46) (.c (.int .i64 0)), none⟩,
        .real 2 ⟨some 48, .mov (.t 47), none⟩,
        .real 3 ⟨some 49, .mov (.t 11), some (48, false)⟩,
        .real 4 ⟨some 50, .cm .ne (.t 49) (.c (.int .i64 0)), some (48, false)⟩,
        .real 5 ⟨some 51, .pick (.t 48) (.c (.bool true)) (.t 50), none⟩,
        .real 6 ⟨some 52, .mov (.t 51), none⟩,
        .real 7 ⟨some 53, .mov (.t 6), some (52, false)⟩,
        .real 9 ⟨some 55, .mov (.t 10), some (52, false)⟩,
        .real 8 ⟨some 54, .cl 26 [.t 53], some (52, false)⟩,
        .real 10 ⟨some 56, .cl 26 [.t 55], some (52, false)⟩,
        .real 11 ⟨some 57, .cl 25 [.t 54, .t 56], some (52, false)⟩,
        .real 12 ⟨some 58, .not (.t 57), some (52, false)⟩,
        .real 13 ⟨some 59, .pick (.t 52) (.c (.bool true)) (.t 58), none⟩,
        .real 14 ⟨some 60, .mov (.t 59), none⟩,
        .real 15 ⟨some 61, .mov (.t 10), some (60, false)⟩,
        .real 17 ⟨some 63, .ld true 4 (.t 2), some (60, false)⟩,
        .real 16 ⟨some 62, .cl 24 [.t 61], some (60, false)⟩,
        .chk ⟨some 63, .ld true 4 (.t 2), some (60, false)⟩,
        .real 18 ⟨some 64, .cea [.i, .i, .i, .i] true (.t 62) (.t 63), some (60, false)⟩,
        .real 19 ⟨some 65, .pick (.t 60) (.c (.bool true)) (.t 64), none⟩,
        .real 20 ⟨some 66, .mov (.t 65), none⟩,
        .real 21 ⟨some 67, .mov (.t 10), some (66, false)⟩,
        .real 23 ⟨some 69, .mov (.t 6), some (66, false)⟩,
        .real 22 ⟨some 68, .cl 27 [.t 67], some (66, false)⟩,
        .real 24 ⟨some 70, .cl 27 [.t 69], some (66, false)⟩,
        .real 25 ⟨some 71, .cm .ne (.t 68) (.t 70), some (66, false)⟩,
        .real 26 ⟨some 72, .pick (.t 66) (.c (.bool true)) (.t 71), none⟩])
    (.cond (.t 72) (.seq (.region [⟨some 4, .mov (.c (.bool false)), none⟩])
      (.ret))
    (.skip)))
  (.seq (.region [⟨some 73, .mov (.t 5), none⟩,
      ⟨some 74, .cl 31 [.t 73, .c (.int .i64 1)], none⟩,
      ⟨some 12, .mov (.t 74), none⟩])
  (.seq (.region [⟨some 76, .mov (.t 5), none⟩,
      ⟨some 77, .cl 21 [.t 76, .c (.int .i64 1)], none⟩,
      ⟨some 75, .mov (.t 77), none⟩,
      ⟨some 78, .ex 0 (.t 75), none⟩,
      ⟨some 79, .ex 1 (.t 75), none⟩,
      ⟨some 13, .mov (.t 78), none⟩,
      ⟨some 14, .mov (.t 79), none⟩])
  (.seq (.region [⟨some 80, .mov (.t 12), none⟩,
      ⟨some 81, .cm .eq (.t 80) (.c (.int .i64 0)), none⟩,
      ⟨some 82, .mov (.t 81), none⟩,
      ⟨some 83, .mov (.t 14), some (82, true)⟩,
      ⟨some 84, .cm .eq (.t 83) (.c (.int .i64 4)), some (82, true)⟩,
      ⟨some 85, .pick (.t 82) (.t 84) (.c (.bool false)), none⟩,
      ⟨some 86, .mov (.t 85), none⟩,
      ⟨some 87, .mov (.t 13), some (86, true)⟩,
      ⟨some 88, .ce .p false (.t 87) (.c (.nilp)), some (86, true)⟩,
      ⟨some 89, .pick (.t 86) (.t 88) (.c (.bool false)), none⟩,
      ⟨some 90, .mov (.t 89), none⟩,
      ⟨some 91, .mov (.t 5), some (90, true)⟩,
      ⟨some 92, .cl 31 [.t 91, .c (.int .i64 2)], some (90, true)⟩,
      ⟨some 93, .cm .eq (.t 92) (.c (.int .i64 20)), some (90, true)⟩,
      ⟨some 94, .pick (.t 90) (.t 93) (.c (.bool false)), none⟩,
      ⟨some 95, .mov (.t 94), none⟩,
      ⟨some 96, .cl 14 [], some (95, true)⟩,
      ⟨some 97, .pick (.t 95) (.t 96) (.c (.bool false)), none⟩,
      ⟨some 4, .mov (.t 97), none⟩])
  (.ret)))))))))))
def F5 : Fn := .code 3 155 [.tmp 6] (
  .seq (.region [⟨some 3, .box 4 (.t 0), none⟩,
      ⟨some 6, .mov (.c (.bool false)), none⟩])
  (.seq (.seq (.region [⟨some 19, .mov (.t 1), none⟩,
        ⟨some 20, .cl 11 [.t 19], none⟩])
    (.cond (.t 20) (.seq (.region [⟨some 21, .cl 14 [], none⟩,
          ⟨some 6, .mov (.t 21), none⟩])
      (.ret))
    (.skip)))
  (.seq (.region [⟨some 22, .cl 19 [], none⟩,
      ⟨some 7, .mov (.t 22), none⟩])
  (.seq (.region [⟨some 24, .mov (.t 7), none⟩,
      ⟨some 25, .mov (.t 2), none⟩,
      ⟨some 26, .ld true 4 (.t 3), none⟩,
      ⟨some 27, .cl 30 [.t 24, .t 25, .t 26], none⟩,
      ⟨some 23, .mov (.t 27), none⟩,
      ⟨some 28, .ex 0 (.t 23), none⟩,
      ⟨some 29, .ex 1 (.t 23), none⟩,
      ⟨some 8, .mov (.t 28), none⟩,
      ⟨some 9, .mov (.t 29), none⟩])
  (.seq (.seq (.region [⟨some 30, .mov (.t 2), none⟩,
        ⟨some 31, .cm .lt (.t 30) (.c (.int .i64 0)), none⟩,
        ⟨some 32, .mov (.t 31), none⟩,
        ⟨some 33, .mov (.t 2), some (32, false)⟩,
        ⟨some 34, .cm .gt (.t 33) (.c (.int .i64 1)), some (32, false)⟩,
        ⟨some 35, .pick (.t 32) (.c (.bool true)) (.t 34), none⟩])
    (.cond (.t 35) (.seq (.region [⟨some 36, .mov (.t 9), none⟩,
          ⟨some 37, .cm .eq (.t 36) (.c (.int .i64 20)), none⟩,
          ⟨some 38, .mov (.t 37), none⟩,
          ⟨some 39, .mov (.t 8), some (38, true)⟩,
          ⟨some 40, .ce .p false (.t 39) (.c (.nilp)), some (38, true)⟩,
          ⟨some 41, .pick (.t 38) (.t 40) (.c (.bool false)), none⟩,
          ⟨some 42, .mov (.t 41), none⟩,
          ⟨some 43, .cl 14 [], some (42, true)⟩,
          ⟨some 44, .pick (.t 42) (.t 43) (.c (.bool false)), none⟩,
          ⟨some 6, .mov (.t 44), none⟩])
      (.ret))
    (.skip)))
  (.seq (.seq (.region [⟨some 45, .ld true 4 (.t 3), none⟩,
        ⟨some 46, .cl 13 [.t 45], none⟩,
        ⟨some 47, .cl 12 [.t 46], none⟩,
        ⟨some 48, .not (.t 47), none⟩])
    (.cond (.t 48) (.seq (.region [⟨some 49, .mov (.t 9), none⟩,
          ⟨some 50, .cm .eq (.t 49) (.c (.int .i64 1)), none⟩,
          ⟨some 51, .mov (.t 50), none⟩,
          ⟨some 52, .mov (.t 8), some (51, true)⟩,
          ⟨some 53, .ce .p false (.t 52) (.c (.nilp)), some (51, true)⟩,
          ⟨some 54, .pick (.t 51) (.t 53) (.c (.bool false)), none⟩,
          ⟨some 55, .mov (.t 54), none⟩,
          ⟨some 56, .cl 14 [], some (55, true)⟩,
          ⟨some 57, .pick (.t 55) (.t 56) (.c (.bool false)), none⟩,
          ⟨some 6, .mov (.t 57), none⟩])
      (.ret))
    (.skip)))
  (.seq (.draw [.real 1 ⟨some 59, .ld true 4 (.t 3), none⟩,
      .real 0 ⟨some 58, .cl 16 [], none⟩,
      .chk ⟨some 59, .ld true 4 (.t 3), none⟩,
      .real 2 ⟨some 60, .cl 13 [.t 59], none⟩,
      .real 3 ⟨some 61, .cl 15 [.t 58, .t 60], none⟩,
      .real 4 ⟨some 10, .alloc [.int .i64 0, .int .u32 0, .int .u32 0, .int .i64 0, .sl .nl 2 [], .int .i64 0, .str [], .str [], .str [], .str [], .str [], .str [], .str [], .str [], .str [], .str [], .str [], .str [], .str [], .str [], .str [], .str []], none⟩,
      .real 5 ⟨none, .st 22 (.t 10) (.t 61), none⟩])
  (.seq (.seq (.region [⟨some 62, .mov (.t 1), none⟩,
        ⟨some 63, .lenl (.t 62), none⟩,
        ⟨some 64, .mov (.c (.int .i64 0)), none⟩])
    (.block 0 (.loop [64] [6, 12, 13, 14, 15, 16, 65, 66, 67, 68, 69, 70, 71, 72, 73, 74, 75, 76, 77, 78, 79, 80, 81, 82, 83, 84, 85, 86, 87, 88, 89, 90, 91, 92, 93, 94, 95, 96, 97, 98, 99, 100, 101, 102, 103, 104, 105, 106, 107, 108, 109, 110, 111, 112, 113, 114, 115, 116, 117] (.seq (.region [⟨some 65, .cm .lt (.t 64) (.t 63), none⟩])
        (.seq (.cond (.t 65) (.skip)
          (.exit 0))
        (.seq (.block 1 (.seq (.region [⟨some 66, .ixs 2 (.t 62) (.t 64), none⟩,
                ⟨some 67, .ld true 2 (.t 66), none⟩,
                ⟨some 12, .alloc [.int .i64 0, .str []], none⟩,
                ⟨none, .st 2 (.t 12) (.t 67), none⟩])
            (.seq (.region [⟨some 69, .mov (.t 8), none⟩,
                ⟨some 70, .ld true 2 (.t 12), none⟩,
                ⟨some 71, .cl 23 [.t 69, .t 70], none⟩,
                ⟨some 68, .mov (.t 71), none⟩,
                ⟨some 72, .ex 0 (.t 68), none⟩,
                ⟨some 73, .ex 1 (.t 68), none⟩,
                ⟨some 13, .mov (.t 72), none⟩,
                ⟨some 14, .mov (.t 73), none⟩])
            (.seq (.region [⟨some 74, .ld true 22 (.t 10), none⟩,
                ⟨some 75, .ld true 2 (.t 12), none⟩,
                ⟨some 76, .cl 17 [.t 74, .t 75], none⟩,
                ⟨some 15, .alloc [.int .i64 0, .int .u32 0, .int .u32 0, .int .i64 0, .sl .nl 2 [], .int .i64 0, .str [], .str [], .str [], .str [], .str [], .str [], .str [], .str [], .str [], .str [], .str [], .str [], .str [], .str [], .str [], .str [], .int .i64 0, .int .i64 0], none⟩,
                ⟨none, .st 24 (.t 15) (.t 76), none⟩])
            (.seq (.seq (.region [⟨some 77, .mov (.t 14), none⟩,
                  ⟨some 78, .fa 23 (.t 15), none⟩,
                  ⟨some 79, .ld false 1 (.t 78), none⟩,
                  ⟨some 80, .cm .ne (.t 77) (.t 79), none⟩,
                  ⟨some 81, .mov (.t 80), none⟩,
                  ⟨some 82, .mov (.t 13), some (81, false)⟩,
                  ⟨some 83, .fa 22 (.t 15), some (81, false)⟩,
                  ⟨some 84, .ld false 1 (.t 83), some (81, false)⟩,
                  ⟨some 85, .cm .ne (.t 82) (.t 84), some (81, false)⟩,
                  ⟨some 86, .pick (.t 81) (.c (.bool true)) (.t 85), none⟩])
              (.cond (.t 86) (.seq (.region [⟨some 6, .mov (.c (.bool false)), none⟩])
                (.ret))
              (.skip)))
            (.seq (.region [⟨some 87, .fa 0 (.t 15), none⟩,
                ⟨some 88, .ld true 22 (.t 87), none⟩,
                ⟨none, .st 22 (.t 10) (.t 88), none⟩])
            (.seq (.region [⟨some 89, .mov (.t 7), none⟩,
                ⟨some 90, .mov (.t 2), none⟩,
                ⟨some 91, .cl 32 [.t 89, .t 90], none⟩,
                ⟨some 16, .alloc [.str [], .str [], .str [], .str [], .str [], .str [], .str [], .str [], .str [], .str [], .str [], .str [], .str [], .str [], .str [], .str [], .bool false], none⟩,
                ⟨none, .st 17 (.t 16) (.t 91), none⟩])
            (.seq (.draw [.real 0 ⟨some 92, .fa 16 (.t 16), none⟩,
                .real 1 ⟨some 93, .ld false 1 (.t 92), none⟩,
                .real 2 ⟨some 94, .not (.t 93), none⟩,
                .real 3 ⟨some 95, .mov (.t 94), none⟩,
                .real 4 ⟨some 96, .fa 0 (.t 16), some (95, false)⟩,
                .real 5 ⟨some 97, .ld true 16 (.t 96), some (95, false)⟩,
                .real 6 ⟨some 98, .fa 6 (.t 10), some (95, false)⟩,
                .real 7 ⟨some 99, .ld true 16 (.t 98), some (95, false)⟩,
                .real 8 ⟨some 100, .cea [.s, .s, .s, .s, .s, .s, .s, .s, .s, .s, .s, .s, .s, .s, .s, .s] true (.t 97) (.t 99), some (95, false)⟩,
                .real 9 ⟨some 101, .pick (.t 95) (.c (.bool true)) (.t 100), none⟩,
                .real 10 ⟨some 102, .mov (.t 101), none⟩,
                .real 11 ⟨some 103, .mov (.t 8), some (102, false)⟩,
                .real 13 ⟨some 105, .fa 5 (.t 10), some (102, false)⟩,
                .real 14 ⟨some 106, .ld false 1 (.t 105), some (102, false)⟩,
                .real 12 ⟨some 104, .cl 27 [.t 103], some (102, false)⟩,
                .chk ⟨some 106, .ld false 1 (.t 105), some (102, false)⟩,
                .real 15 ⟨some 107, .cm .ne (.t 104) (.t 106), some (102, false)⟩,
                .real 16 ⟨some 108, .pick (.t 102) (.c (.bool true)) (.t 107), none⟩,
                .real 17 ⟨some 109, .mov (.t 108), none⟩,
                .real 18 ⟨some 110, .mov (.t 8), some (109, false)⟩,
                .real 20 ⟨some 112, .fa 4 (.t 10), some (109, false)⟩,
                .real 21 ⟨some 113, .ld false 1 (.t 112), some (109, false)⟩,
                .real 22 ⟨some 114, .lenl (.t 113), some (109, false)⟩,
                .real 19 ⟨some 111, .cl 28 [.t 110], some (109, false)⟩,
                .chk ⟨some 113, .ld false 1 (.t 112), some (109, false)⟩,
                .real 23 ⟨some 115, .cm .ne (.t 111) (.t 114), some (109, false)⟩,
                .real 24 ⟨some 116, .pick (.t 109) (.c (.bool true)) (.t 115), none⟩])
            (.cond (.t 116) (.seq (.region [⟨some 6, .mov (.c (.bool false)), none⟩])
              (.ret))
            (.skip))))))))))
        (.region [⟨some 117, .bi .add (.t 64) (.c (.int .i64 1)), none⟩,
          ⟨some 64, .mov (.t 117), none⟩])))))))
  (.seq (.region [⟨some 118, .mov (.t 8), none⟩,
      ⟨some 119, .cl 33 [.t 118], none⟩])
  (.seq (.region [⟨some 121, .mov (.t 8), none⟩,
      ⟨some 122, .agg [.int .i64 0, .str []] [(0, 1, .c (.int .i64 1))], none⟩,
      ⟨some 123, .cl 23 [.t 121, .t 122], none⟩,
      ⟨some 120, .mov (.t 123), none⟩,
      ⟨some 124, .ex 0 (.t 120), none⟩,
      ⟨some 125, .ex 1 (.t 120), none⟩,
      ⟨some 17, .mov (.t 124), none⟩,
      ⟨some 18, .mov (.t 125), none⟩])
  (.seq (.draw [.real 0 ⟨some 126, .mov (.t 9), none⟩,
      .real 1 ⟨some 127, .cm .eq (.t 126) (.c (.int .i64 0)), none⟩,
      .real 2 ⟨some 128, .mov (.t 127), none⟩,
      .real 3 ⟨some 129, .mov (.t 18), some (128, true)⟩,
      .real 4 ⟨some 130, .cm .eq (.t 129) (.c (.int .i64 39)), some (128, true)⟩,
      .real 5 ⟨some 131, .pick (.t 128) (.t 130) (.c (.bool false)), none⟩,
      .real 6 ⟨some 132, .mov (.t 131), none⟩,
      .real 7 ⟨some 133, .mov (.t 8), some (132, true)⟩,
      .real 8 ⟨some 134, .cl 29 [.t 133], some (132, true)⟩,
      .real 9 ⟨some 135, .pick (.t 132) (.t 134) (.c (.bool false)), none⟩,
      .real 10 ⟨some 136, .mov (.t 135), none⟩,
      .real 11 ⟨some 137, .mov (.t 8), some (136, true)⟩,
      .real 13 ⟨some 139, .fa 4 (.t 10), some (136, true)⟩,
      .real 14 ⟨some 140, .ld false 1 (.t 139), some (136, true)⟩,
      .real 12 ⟨some 138, .cl 26 [.t 137], some (136, true)⟩,
      .chk ⟨some 140, .ld false 1 (.t 139), some (136, true)⟩,
      .real 15 ⟨some 141, .cl 25 [.t 138, .t 140], some (136, true)⟩,
      .real 16 ⟨some 142, .pick (.t 136) (.t 141) (.c (.bool false)), none⟩,
      .real 17 ⟨some 143, .mov (.t 142), none⟩,
      .real 18 ⟨some 144, .mov (.t 8), some (143, true)⟩,
      .real 20 ⟨some 146, .ld true 4 (.t 3), some (143, true)⟩,
      .real 19 ⟨some 145, .cl 24 [.t 144], some (143, true)⟩,
      .chk ⟨some 146, .ld true 4 (.t 3), some (143, true)⟩,
      .real 21 ⟨some 147, .cea [.i, .i, .i, .i] false (.t 145) (.t 146), some (143, true)⟩,
      .real 22 ⟨some 148, .pick (.t 143) (.t 147) (.c (.bool false)), none⟩,
      .real 23 ⟨some 149, .mov (.t 148), none⟩,
      .real 24 ⟨some 150, .mov (.t 8), some (149, true)⟩,
      .real 26 ⟨some 152, .mov (.t 2), some (149, true)⟩,
      .real 25 ⟨some 151, .cl 34 [.t 150], some (149, true)⟩,
      .real 27 ⟨some 153, .cm .eq (.t 151) (.t 152), some (149, true)⟩,
      .real 28 ⟨some 154, .pick (.t 149) (.t 153) (.c (.bool false)), none⟩,
      .real 29 ⟨some 155, .mov (.t 154), none⟩,
      .real 30 ⟨some 156, .cl 14 [], some (155, true)⟩,
      .real 31 ⟨some 157, .pick (.t 155) (.t 156) (.c (.bool false)), none⟩,
      .real 32 ⟨some 6, .mov (.t 157), none⟩])
  (.ret))))))))))))
def F11 : Fn := .code 1 18 [.tmp 2] (
  .seq (.region [⟨some 2, .mov (.c (.bool false)), none⟩])
  (.seq (.seq (.region [⟨some 5, .mov (.t 0), none⟩,
        ⟨some 6, .lenl (.t 5), none⟩,
        ⟨some 7, .cm .gt (.t 6) (.c (.int .i64 40)), none⟩])
    (.cond (.t 7) (.seq (.region [⟨some 2, .mov (.c (.bool true)), none⟩])
      (.ret))
    (.skip)))
  (.seq (.seq (.region [⟨some 8, .mov (.t 0), none⟩,
        ⟨some 9, .lenl (.t 8), none⟩,
        ⟨some 10, .mov (.c (.int .i64 0)), none⟩])
    (.block 0 (.loop [10] [2, 4, 11, 12, 13, 14, 15, 16, 17, 18] (.seq (.region [⟨some 11, .cm .lt (.t 10) (.t 9), none⟩])
        (.seq (.cond (.t 11) (.skip)
          (.exit 0))
        (.seq (.block 1 (.seq (.region [⟨some 12, .ixs 2 (.t 8) (.t 10), none⟩,
                ⟨some 13, .ld true 2 (.t 12), none⟩,
                ⟨some 4, .alloc [.int .i64 0, .str []], none⟩,
                ⟨none, .st 2 (.t 4) (.t 13), none⟩])
            (.seq (.region [⟨some 14, .fa 1 (.t 4), none⟩,
                ⟨some 15, .ld false 1 (.t 14), none⟩,
                ⟨some 16, .lens (.t 15), none⟩,
                ⟨some 17, .cm .gt (.t 16) (.c (.int .i64 900)), none⟩])
            (.cond (.t 17) (.seq (.region [⟨some 2, .mov (.c (.bool true)), none⟩])
              (.ret))
            (.skip)))))
        (.region [⟨some 18, .bi .add (.t 10) (.c (.int .i64 1)), none⟩,
          ⟨some 10, .mov (.t 18), none⟩])))))))
  (.seq (.region [⟨some 2, .mov (.c (.bool false)), none⟩])
  (.ret)))))
def F12 : Fn := .code 1 20 [.tmp 2] (
  .seq (.region [⟨some 1, .box 4 (.t 0), none⟩,
      ⟨some 2, .mov (.c (.bool false)), none⟩])
  (.seq (.region [⟨some 3, .fa 0 (.t 1), none⟩,
      ⟨some 4, .ld false 1 (.t 3), none⟩,
      ⟨some 5, .cm .ge (.t 4) (.c (.int .i64 1)), none⟩,
      ⟨some 6, .mov (.t 5), none⟩,
      ⟨some 7, .fa 0 (.t 1), some (6, true)⟩,
      ⟨some 8, .ld false 1 (.t 7), some (6, true)⟩,
      ⟨some 9, .cm .le (.t 8) (.c (.int .i64 65535)), some (6, true)⟩,
      ⟨some 10, .pick (.t 6) (.t 9) (.c (.bool false)), none⟩,
      ⟨some 11, .mov (.t 10), none⟩,
      ⟨some 12, .fa 3 (.t 1), some (11, true)⟩,
      ⟨some 13, .ld false 1 (.t 12), some (11, true)⟩,
      ⟨some 14, .cm .ge (.t 13) (.c (.int .i64 0)), some (11, true)⟩,
      ⟨some 15, .pick (.t 11) (.t 14) (.c (.bool false)), none⟩,
      ⟨some 16, .mov (.t 15), none⟩,
      ⟨some 17, .fa 3 (.t 1), some (16, true)⟩,
      ⟨some 18, .ld false 1 (.t 17), some (16, true)⟩,
      ⟨some 19, .cm .le (.t 18) (.c (.int .i64 1099511627776)), some (16, true)⟩,
      ⟨some 20, .pick (.t 16) (.t 19) (.c (.bool false)), none⟩,
      ⟨some 2, .mov (.t 20), none⟩])
  (.ret)))
def F13 : Fn := .code 1 11 [.cell true 4 2] (
  .seq (.region [⟨some 1, .box 4 (.t 0), none⟩,
      ⟨some 2, .alloc [.int .i64 0, .int .u32 0, .int .u32 0, .int .i64 0], none⟩])
  (.seq (.region [⟨some 3, .fa 0 (.t 1), none⟩,
      ⟨some 4, .ld false 1 (.t 3), none⟩,
      ⟨some 5, .fa 1 (.t 1), none⟩,
      ⟨some 6, .ld false 1 (.t 5), none⟩,
      ⟨some 7, .fa 2 (.t 1), none⟩,
      ⟨some 8, .ld false 1 (.t 7), none⟩,
      ⟨some 9, .fa 3 (.t 1), none⟩,
      ⟨some 10, .ld false 1 (.t 9), none⟩,
      ⟨some 11, .agg [.int .i64 0, .int .u32 0, .int .u32 0, .int .i64 0] [(0, 1, .t 4), (1, 1, .t 6), (2, 1, .t 8), (3, 1, .t 10)], none⟩,
      ⟨none, .st 4 (.t 2) (.t 11), none⟩])
  (.ret)))
def F14 : Fn := .code 0 98 [.tmp 0] (
  .seq (.region [⟨some 0, .mov (.c (.bool false)), none⟩])
  (.seq (.region [⟨some 12, .cl 19 [], none⟩,
      ⟨some 1, .mov (.t 12), none⟩])
  (.seq (.region [⟨some 14, .mov (.t 1), none⟩,
      ⟨some 15, .agg [.int .i64 0, .int .u32 0, .int .u32 0, .int .i64 0] [(0, 1, .c (.int .i64 4)), (1, 1, .c (.int .u32 1)), (2, 1, .c (.int .u32 9)), (3, 1, .c (.int .i64 5))], none⟩,
      ⟨some 16, .cl 30 [.t 14, .c (.int .i64 1), .t 15], none⟩,
      ⟨some 13, .mov (.t 16), none⟩,
      ⟨some 17, .ex 0 (.t 13), none⟩,
      ⟨some 18, .ex 1 (.t 13), none⟩,
      ⟨some 2, .mov (.t 17), none⟩,
      ⟨some 3, .mov (.t 18), none⟩])
  (.seq (.region [⟨some 20, .mov (.t 2), none⟩,
      ⟨some 21, .agg [.int .i64 0, .str []] [(0, 1, .c (.int .i64 1)), (1, 1, .c (.str [97, 98, 99]))], none⟩,
      ⟨some 22, .cl 23 [.t 20, .t 21], none⟩,
      ⟨some 19, .mov (.t 22), none⟩,
      ⟨some 23, .ex 0 (.t 19), none⟩,
      ⟨some 24, .ex 1 (.t 19), none⟩,
      ⟨some 4, .mov (.t 23), none⟩,
      ⟨some 5, .mov (.t 24), none⟩])
  (.seq (.region [⟨some 26, .mov (.t 1), none⟩,
      ⟨some 27, .cl 21 [.t 26, .c (.int .i64 1)], none⟩,
      ⟨some 25, .mov (.t 27), none⟩,
      ⟨some 28, .ex 0 (.t 25), none⟩,
      ⟨some 29, .ex 1 (.t 25), none⟩,
      ⟨some 6, .mov (.t 28), none⟩,
      ⟨some 7, .mov (.t 29), none⟩])
  (.seq (.region [⟨some 31, .mov (.t 1), none⟩,
      ⟨some 32, .cl 21 [.t 31, .c (.int .i64 0)], none⟩,
      ⟨some 30, .mov (.t 32), none⟩,
      ⟨some 33, .ex 0 (.t 30), none⟩,
      ⟨some 34, .ex 1 (.t 30), none⟩,
      ⟨some 8, .mov (.t 33), none⟩,
      ⟨some 9, .mov (.t 34), none⟩])
  (.seq (.region [⟨some 36, .mov (.t 1), none⟩,
      ⟨some 37, .cl 62 [.t 36, .c (.int .i64 19)], none⟩,
      ⟨some 35, .mov (.t 37), none⟩,
      ⟨some 38, .ex 0 (.t 35), none⟩,
      ⟨some 39, .ex 1 (.t 35), none⟩,
      ⟨some 10, .mov (.t 38), none⟩,
      ⟨some 11, .mov (.t 39), none⟩])
  (.seq (.region [⟨some 40, .mov (.t 3), none⟩,
      ⟨some 41, .cm .eq (.t 40) (.c (.int .i64 0)), none⟩,
      ⟨some 42, .mov (.t 41), none⟩,
      ⟨some 43, .mov (.t 5), some (42, true)⟩,
      ⟨some 44, .cm .eq (.t 43) (.c (.int .i64 0)), some (42, true)⟩,
      ⟨some 45, .pick (.t 42) (.t 44) (.c (.bool false)), none⟩,
      ⟨some 46, .mov (.t 45), none⟩,
      ⟨some 47, .mov (.t 7), some (46, true)⟩,
      ⟨some 48, .cm .eq (.t 47) (.c (.int .i64 0)), some (46, true)⟩,
      ⟨some 49, .pick (.t 46) (.t 48) (.c (.bool false)), none⟩,
      ⟨some 50, .mov (.t 49), none⟩,
      ⟨some 51, .mov (.t 9), some (50, true)⟩,
      ⟨some 52, .cm .eq (.t 51) (.c (.int .i64 4)), some (50, true)⟩,
      ⟨some 53, .pick (.t 50) (.t 52) (.c (.bool false)), none⟩,
      ⟨some 54, .mov (.t 53), none⟩,
      ⟨some 55, .mov (.t 11), some (54, true)⟩,
      ⟨some 56, .cm .eq (.t 55) (.c (.int .i64 0)), some (54, true)⟩,
      ⟨some 57, .pick (.t 54) (.t 56) (.c (.bool false)), none⟩,
      ⟨some 58, .mov (.t 57), none⟩,
      ⟨some 59, .mov (.t 4), some (58, true)⟩,
      ⟨some 60, .cm .eq (.t 59) (.c (.int .i64 1)), some (58, true)⟩,
      ⟨some 61, .pick (.t 58) (.t 60) (.c (.bool false)), none⟩,
      ⟨some 62, .mov (.t 61), none⟩,
      ⟨some 63, .mov (.t 2), some (62, true)⟩,
      ⟨some 64, .cl 27 [.t 63], some (62, true)⟩,
      ⟨some 65, .cm .eq (.t 64) (.c (.int .i64 2)), some (62, true)⟩,
      ⟨some 66, .pick (.t 62) (.t 65) (.c (.bool false)), none⟩,
      ⟨some 67, .mov (.t 66), none⟩,
      ⟨some 68, .mov (.t 6), some (67, true)⟩,
      ⟨some 69, .cl 27 [.t 68], some (67, true)⟩,
      ⟨some 70, .cm .eq (.t 69) (.c (.int .i64 2)), some (67, true)⟩,
      ⟨some 71, .pick (.t 67) (.t 70) (.c (.bool false)), none⟩,
      ⟨some 72, .mov (.t 71), none⟩,
      ⟨some 73, .mov (.t 6), some (72, true)⟩,
      ⟨some 74, .cl 28 [.t 73], some (72, true)⟩,
      ⟨some 75, .cm .eq (.t 74) (.c (.int .i64 1)), some (72, true)⟩,
      ⟨some 76, .pick (.t 72) (.t 75) (.c (.bool false)), none⟩,
      ⟨some 77, .mov (.t 76), none⟩,
      ⟨some 78, .mov (.t 6), some (77, true)⟩,
      ⟨some 79, .cl 29 [.t 78], some (77, true)⟩,
      ⟨some 80, .pick (.t 77) (.t 79) (.c (.bool false)), none⟩,
      ⟨some 81, .mov (.t 80), none⟩,
      ⟨some 82, .mov (.t 2), some (81, true)⟩,
      ⟨some 83, .cl 29 [.t 82], some (81, true)⟩,
      ⟨some 84, .not (.t 83), some (81, true)⟩,
      ⟨some 85, .pick (.t 81) (.t 84) (.c (.bool false)), none⟩,
      ⟨some 86, .mov (.t 85), none⟩,
      ⟨some 87, .mov (.t 6), some (86, true)⟩,
      ⟨some 88, .cl 24 [.t 87], some (86, true)⟩,
      ⟨some 89, .fd false 3 1 (.t 88), some (86, true)⟩,
      ⟨some 90, .cm .eq (.t 89) (.c (.int .i64 5)), some (86, true)⟩,
      ⟨some 91, .pick (.t 86) (.t 90) (.c (.bool false)), none⟩,
      ⟨some 92, .mov (.t 91), none⟩,
      ⟨some 93, .mov (.t 10), some (92, true)⟩,
      ⟨some 94, .cl 63 [.t 93], some (92, true)⟩,
      ⟨some 95, .fd false 1 1 (.t 94), some (92, true)⟩,
      ⟨some 96, .cm .eq (.t 95) (.c (.int .i64 2)), some (92, true)⟩,
      ⟨some 97, .pick (.t 92) (.t 96) (.c (.bool false)), none⟩,
      ⟨some 0, .mov (.t 97), none⟩])
  (.ret)))))))))
def F15 : Fn := .code 2 12 [.cell true 22 4] (
  .seq (.region [⟨some 2, .box 16 (.t 0), none⟩,
      ⟨some 3, .box 4 (.t 1), none⟩,
      ⟨some 4, .alloc [.int .i64 0, .int .u32 0, .int .u32 0, .int .i64 0, .sl .nl 2 [], .int .i64 0, .str [], .str [], .str [], .str [], .str [], .str [], .str [], .str [], .str [], .str [], .str [], .str [], .str [], .str [], .str [], .str []], none⟩])
  (.seq (.draw [.real 0 ⟨some 5, .ld true 4 (.t 3), none⟩,
      .real 1 ⟨some 6, .ld true 16 (.t 2), none⟩,
      .real 2 ⟨some 7, .fa 2 (.t 3), none⟩,
      .real 3 ⟨some 8, .ld false 1 (.t 7), none⟩,
      .real 4 ⟨some 9, .ld true 4 (.t 3), none⟩,
      .real 5 ⟨some 10, .cl 66 [.t 9], none⟩,
      .chk ⟨some 5, .ld true 4 (.t 3), none⟩,
      .chk ⟨some 6, .ld true 16 (.t 2), none⟩,
      .chk ⟨some 8, .ld false 1 (.t 7), none⟩,
      .real 6 ⟨some 11, .cl 65 [.t 10], none⟩,
      .chk ⟨some 5, .ld true 4 (.t 3), none⟩,
      .chk ⟨some 6, .ld true 16 (.t 2), none⟩,
      .chk ⟨some 8, .ld false 1 (.t 7), none⟩,
      .real 7 ⟨some 12, .cl 64 [.t 6, .t 8, .c (.int .i64 0), .c (.int .i64 1), .t 11], none⟩,
      .chk ⟨some 5, .ld true 4 (.t 3), none⟩,
      .real 8 ⟨some 13, .agg [.int .i64 0, .int .u32 0, .int .u32 0, .int .i64 0, .sl .nl 2 [], .int .i64 0, .str [], .str [], .str [], .str [], .str [], .str [], .str [], .str [], .str [], .str [], .str [], .str [], .str [], .str [], .str [], .str []] [(0, 4, .t 5), (5, 1, .c (.int .i64 1)), (6, 16, .t 12)], none⟩,
      .real 9 ⟨none, .st 22 (.t 4) (.t 13), none⟩])
  (.ret)))
def F16 : Fn := .code 0 14 [.cell true 16 0] (
  .seq (.region [⟨some 0, .alloc (reps 16 (.str [])), none⟩])
  (.seq (.region [⟨some 3, .agg (reps 16 (.str [])) [], none⟩,
      ⟨some 1, .alloc (reps 16 (.str [])), none⟩,
      ⟨none, .st 16 (.t 1) (.t 3), none⟩])
  (.seq (.seq (.region [⟨some 4, .mov (.c (.int .i64 0)), none⟩])
    (.block 0 (.loop [4] [2, 5, 6, 7, 8, 9, 10, 11, 12] (.seq (.region [⟨some 5, .cm .lt (.t 4) (.c (.int .i64 16)), none⟩])
        (.seq (.cond (.t 5) (.skip)
          (.exit 0))
        (.seq (.block 1 (.seq (.region [⟨some 6, .mov (.t 4), none⟩,
                ⟨some 2, .mov (.t 6), none⟩])
            (.region [⟨some 7, .mov (.t 2), none⟩,
              ⟨some 8, .msp 1 (.int .u8 0) (.c (.int .i64 64)) (.c (.int .i64 64)), none⟩,
              ⟨some 9, .cvs (.t 8), none⟩,
              ⟨some 10, .fa 0 (.t 1), none⟩,
              ⟨some 11, .ixp 16 1 (.t 10) (.t 7), none⟩,
              ⟨none, .st 1 (.t 11) (.t 9), none⟩])))
        (.region [⟨some 12, .bi .add (.t 4) (.c (.int .i64 1)), none⟩,
          ⟨some 4, .mov (.t 12), none⟩])))))))
  (.seq (.region [⟨some 13, .ld true 16 (.t 1), none⟩,
      ⟨none, .st 16 (.t 0) (.t 13), none⟩])
  (.ret)))))
def F17 : Fn := .code 2 67 [.cell true 24 4] (
  .seq (.region [⟨some 2, .box 22 (.t 0), none⟩,
      ⟨some 3, .box 2 (.t 1), none⟩,
      ⟨some 4, .alloc [.int .i64 0, .int .u32 0, .int .u32 0, .int .i64 0, .sl .nl 2 [], .int .i64 0, .str [], .str [], .str [], .str [], .str [], .str [], .str [], .str [], .str [], .str [], .str [], .str [], .str [], .str [], .str [], .str [], .int .i64 0, .int .i64 0], none⟩])
  (.seq (.region [⟨some 9, .fa 5 (.t 2), none⟩,
      ⟨some 10, .ld false 1 (.t 9), none⟩,
      ⟨some 5, .mov (.t 10), none⟩])
  (.seq (.seq (.region [⟨some 11, .mov (.t 5), none⟩,
        ⟨some 12, .cm .eq (.t 11) (.c (.int .i64 16)), none⟩])
    (.cond (.t 12) (.region [⟨some 5, .mov (.c (.int .i64 15)), none⟩])
    (.skip)))
  (.seq (.seq (.region [⟨some 13, .mov (.t 5), none⟩,
        ⟨some 14, .ld true 2 (.t 3), none⟩,
        ⟨some 15, .cl 67 [.t 13, .t 14], none⟩,
        ⟨some 6, .mov (.t 15), none⟩])
    (.seq (.region [⟨some 16, .mov (.t 6), none⟩,
        ⟨some 17, .cm .ne (.t 16) (.c (.int .i64 0)), none⟩])
    (.cond (.t 17) (.seq (.region [⟨some 18, .ld true 22 (.t 2), none⟩,
          ⟨some 19, .mov (.t 6), none⟩,
          ⟨some 20, .agg [.int .i64 0, .int .u32 0, .int .u32 0, .int .i64 0, .sl .nl 2 [], .int .i64 0, .str [], .str [], .str [], .str [], .str [], .str [], .str [], .str [], .str [], .str [], .str [], .str [], .str [], .str [], .str [], .str [], .int .i64 0, .int .i64 0] [(0, 22, .t 18), (22, 1, .c (.int .i64 0)), (23, 1, .t 19)], none⟩,
          ⟨none, .st 24 (.t 4) (.t 20), none⟩])
      (.ret))
    (.skip))))
  (.seq (.region [⟨some 21, .fa 0 (.t 2), none⟩,
      ⟨some 22, .fa 2 (.t 21), none⟩,
      ⟨some 23, .ld false 1 (.t 22), none⟩,
      ⟨some 24, .mov (.t 5), none⟩,
      ⟨some 25, .ld true 2 (.t 3), none⟩,
      ⟨some 26, .cl 68 [.t 23, .t 24, .t 25], none⟩,
      ⟨some 27, .cl 65 [.t 26], none⟩,
      ⟨some 7, .mov (.t 27), none⟩])
  (.seq (.seq (.region [⟨some 28, .fa 5 (.t 2), none⟩,
        ⟨some 29, .ld false 1 (.t 28), none⟩,
        ⟨some 30, .mov (.t 7), none⟩,
        ⟨some 31, .lenl (.t 30), none⟩,
        ⟨some 32, .bi .add (.t 29) (.t 31), none⟩,
        ⟨some 33, .cm .gt (.t 32) (.c (.int .i64 16)), none⟩])
    (.cond (.t 33) (.seq (.region [⟨some 34, .ld true 22 (.t 2), none⟩,
          ⟨some 35, .agg [.int .i64 0, .int .u32 0, .int .u32 0, .int .i64 0, .sl .nl 2 [], .int .i64 0, .str [], .str [], .str [], .str [], .str [], .str [], .str [], .str [], .str [], .str [], .str [], .str [], .str [], .str [], .str [], .str [], .int .i64 0, .int .i64 0] [(0, 22, .t 34), (22, 1, .c (.int .i64 0)), (23, 1, .c (.int .i64 5))], none⟩,
          ⟨none, .st 24 (.t 4) (.t 35), none⟩])
      (.ret))
    (.skip)))
  (.seq (.region [⟨some 8, .mov (.c (.sl .nl 2 [])), none⟩])
  (.seq (.region [⟨some 36, .mov (.t 8), none⟩,
      ⟨some 37, .fa 4 (.t 2), none⟩,
      ⟨some 38, .ld false 1 (.t 37), none⟩,
      ⟨some 39, .app true 2 (.t 36) (.t 38), none⟩,
      ⟨some 8, .mov (.t 39), none⟩])
  (.seq (.region [⟨some 40, .mov (.t 8), none⟩,
      ⟨some 41, .ld true 2 (.t 3), none⟩,
      ⟨some 42, .bsl 2 [.t 41], none⟩,
      ⟨some 43, .app true 2 (.t 40) (.t 42), none⟩,
      ⟨some 8, .mov (.t 43), none⟩])
  (.seq (.draw [.real 0 ⟨some 44, .fa 0 (.t 2), none⟩,
      .real 1 ⟨some 45, .ld true 4 (.t 44), none⟩,
      .real 2 ⟨some 46, .mov (.t 8), none⟩,
      .real 3 ⟨some 47, .fa 5 (.t 2), none⟩,
      .real 4 ⟨some 48, .ld false 1 (.t 47), none⟩,
      .real 5 ⟨some 49, .mov (.t 7), none⟩,
      .real 6 ⟨some 50, .lenl (.t 49), none⟩,
      .real 7 ⟨some 51, .bi .add (.t 48) (.t 50), none⟩,
      .real 8 ⟨some 52, .fa 6 (.t 2), none⟩,
      .real 9 ⟨some 53, .ld true 16 (.t 52), none⟩,
      .real 10 ⟨some 54, .fa 0 (.t 2), none⟩,
      .real 11 ⟨some 55, .fa 2 (.t 54), none⟩,
      .real 12 ⟨some 56, .ld false 1 (.t 55), none⟩,
      .real 13 ⟨some 57, .fa 5 (.t 2), none⟩,
      .real 14 ⟨some 58, .ld false 1 (.t 57), none⟩,
      .real 15 ⟨some 59, .fa 4 (.t 2), none⟩,
      .real 16 ⟨some 60, .ld false 1 (.t 59), none⟩,
      .real 17 ⟨some 61, .lenl (.t 60), none⟩,
      .real 18 ⟨some 62, .bi .add (.t 61) (.c (.int .i64 2)), none⟩,
      .real 19 ⟨some 63, .mov (.t 7), none⟩,
      .real 22 ⟨some 66, .fa 5 (.t 2), none⟩,
      .real 23 ⟨some 67, .ld false 1 (.t 66), none⟩,
      .real 20 ⟨some 64, .cl 64 [.t 53, .t 56, .t 58, .t 62, .t 63], none⟩,
      .chk ⟨some 45, .ld true 4 (.t 44), none⟩,
      .chk ⟨some 48, .ld false 1 (.t 47), none⟩,
      .chk ⟨some 67, .ld false 1 (.t 66), none⟩,
      .real 21 ⟨some 65, .agg [.int .i64 0, .int .u32 0, .int .u32 0, .int .i64 0, .sl .nl 2 [], .int .i64 0, .str [], .str [], .str [], .str [], .str [], .str [], .str [], .str [], .str [], .str [], .str [], .str [], .str [], .str [], .str [], .str []] [(0, 4, .t 45), (4, 1, .t 46), (5, 1, .t 51), (6, 16, .t 64)], none⟩,
      .real 24 ⟨some 68, .agg [.int .i64 0, .int .u32 0, .int .u32 0, .int .i64 0, .sl .nl 2 [], .int .i64 0, .str [], .str [], .str [], .str [], .str [], .str [], .str [], .str [], .str [], .str [], .str [], .str [], .str [], .str [], .str [], .str [], .int .i64 0, .int .i64 0] [(0, 22, .t 65), (22, 1, .t 67), (23, 1, .c (.int .i64 0))], none⟩,
      .real 25 ⟨none, .st 24 (.t 4) (.t 68), none⟩])
  (.ret)))))))))))
def F18 : Fn := .code 2 83 [.cell true 16 4] (
  .seq (.region [⟨some 2, .box 5 (.t 0), none⟩,
      ⟨some 3, .box 16 (.t 1), none⟩,
      ⟨some 4, .alloc (reps 16 (.str [])), none⟩])
  (.seq (.seq (.region [⟨some 6, .fa 0 (.t 2), none⟩,
        ⟨some 7, .ld false 1 (.t 6), none⟩,
        ⟨some 8, .cm .lt (.t 7) (.c (.int .i64 0)), none⟩,
        ⟨some 9, .mov (.t 8), none⟩,
        ⟨some 10, .fa 0 (.t 2), some (9, false)⟩,
        ⟨some 11, .ld false 1 (.t 10), some (9, false)⟩,
        ⟨some 12, .cm .gt (.t 11) (.c (.int .i64 15)), some (9, false)⟩,
        ⟨some 13, .pick (.t 9) (.c (.bool true)) (.t 12), none⟩,
        ⟨some 14, .mov (.t 13), none⟩,
        ⟨some 15, .fa 1 (.t 2), some (14, false)⟩,
        ⟨some 16, .ld false 1 (.t 15), some (14, false)⟩,
        ⟨some 17, .cm .lt (.t 16) (.c (.int .i64 0)), some (14, false)⟩,
        ⟨some 18, .pick (.t 14) (.c (.bool true)) (.t 17), none⟩,
        ⟨some 19, .mov (.t 18), none⟩,
        ⟨some 20, .fa 1 (.t 2), some (19, false)⟩,
        ⟨some 21, .ld false 1 (.t 20), some (19, false)⟩,
        ⟨some 22, .cm .gt (.t 21) (.c (.int .i64 15)), some (19, false)⟩,
        ⟨some 23, .pick (.t 19) (.c (.bool true)) (.t 22), none⟩])
    (.cond (.t 23) (.seq (.region [⟨some 24, .ld true 16 (.t 3), none⟩,
          ⟨none, .st 16 (.t 4) (.t 24), none⟩])
      (.ret))
    (.skip)))
  (.seq (.seq (.region [⟨some 25, .fa 4 (.t 2), none⟩,
        ⟨some 26, .ld false 1 (.t 25), none⟩,
        ⟨some 27, .cm .ge (.t 26) (.c (.int .i64 0)), none⟩,
        ⟨some 28, .mov (.t 27), none⟩,
        ⟨some 29, .fa 4 (.t 2), some (28, true)⟩,
        ⟨some 30, .ld false 1 (.t 29), some (28, true)⟩,
        ⟨some 31, .cm .lt (.t 30) (.c (.int .i64 512)), some (28, true)⟩,
        ⟨some 32, .pick (.t 28) (.t 31) (.c (.bool false)), none⟩])
    (.cond (.t 32) (.seq (.region [⟨some 33, .fa 0 (.t 2), none⟩,
          ⟨some 34, .ld false 1 (.t 33), none⟩,
          ⟨some 35, .fa 0 (.t 3), none⟩,
          ⟨some 36, .ixp 16 1 (.t 35) (.t 34), none⟩,
          ⟨some 37, .ld false 1 (.t 36), none⟩,
          ⟨some 38, .cvb (.t 37), none⟩,
          ⟨some 5, .mov (.t 38), none⟩])
      (.seq (.draw [.real 0 ⟨some 39, .mov (.t 5), none⟩,
          .real 1 ⟨some 40, .fa 4 (.t 2), none⟩,
          .real 2 ⟨some 41, .ld false 1 (.t 40), none⟩,
          .real 3 ⟨some 42, .bi .quo (.t 41) (.c (.int .i64 8)), none⟩,
          .real 4 ⟨some 43, .mov (.t 5), none⟩,
          .real 5 ⟨some 44, .fa 4 (.t 2), none⟩,
          .real 6 ⟨some 45, .ld false 1 (.t 44), none⟩,
          .real 7 ⟨some 46, .bi .quo (.t 45) (.c (.int .i64 8)), none⟩,
          .real 8 ⟨some 47, .ixs 1 (.t 43) (.t 46), none⟩,
          .real 9 ⟨some 48, .ld false 1 (.t 47), none⟩,
          .real 10 ⟨some 49, .fa 4 (.t 2), none⟩,
          .real 11 ⟨some 50, .ld false 1 (.t 49), none⟩,
          .real 12 ⟨some 51, .bi .rem (.t 50) (.c (.int .i64 8)), none⟩,
          .real 13 ⟨some 52, .sh .shl (.c (.int .u8 1)) (.t 51), none⟩,
          .real 14 ⟨some 53, .bi .xor (.t 48) (.t 52), none⟩,
          .real 15 ⟨some 54, .ixs 1 (.t 39) (.t 42), none⟩,
          .real 16 ⟨none, .st 1 (.t 54) (.t 53), none⟩])
      (.region [⟨some 55, .fa 0 (.t 2), none⟩,
        ⟨some 56, .ld false 1 (.t 55), none⟩,
        ⟨some 57, .mov (.t 5), none⟩,
        ⟨some 58, .cvs (.t 57), none⟩,
        ⟨some 59, .fa 0 (.t 3), none⟩,
        ⟨some 60, .ixp 16 1 (.t 59) (.t 56), none⟩,
        ⟨none, .st 1 (.t 60) (.t 58), none⟩])))
    (.seq (.region [⟨some 61, .fa 3 (.t 2), none⟩,
          ⟨some 62, .ld false 1 (.t 61), none⟩,
          ⟨some 63, .cm .ge (.t 62) (.c (.int .i64 1)), none⟩,
          ⟨some 64, .mov (.t 63), none⟩,
          ⟨some 65, .fa 3 (.t 2), some (64, true)⟩,
          ⟨some 66, .ld false 1 (.t 65), some (64, true)⟩,
          ⟨some 67, .cm .le (.t 66) (.c (.int .i64 65535)), some (64, true)⟩,
          ⟨some 68, .pick (.t 64) (.t 67) (.c (.bool false)), none⟩])
      (.cond (.t 68) (.draw [.real 0 ⟨some 69, .fa 0 (.t 2), none⟩,
          .real 1 ⟨some 70, .ld false 1 (.t 69), none⟩,
          .real 2 ⟨some 71, .fa 2 (.t 2), none⟩,
          .real 3 ⟨some 72, .ld false 1 (.t 71), none⟩,
          .real 4 ⟨some 73, .fa 3 (.t 2), none⟩,
          .real 5 ⟨some 74, .ld false 1 (.t 73), none⟩,
          .real 6 ⟨some 75, .fa 1 (.t 2), none⟩,
          .real 7 ⟨some 76, .ld false 1 (.t 75), none⟩,
          .real 8 ⟨some 77, .fa 0 (.t 3), none⟩,
          .real 9 ⟨some 78, .ixp 16 1 (.t 77) (.t 76), none⟩,
          .real 10 ⟨some 79, .ld false 1 (.t 78), none⟩,
          .real 11 ⟨some 80, .sls (.t 79) (some (.c (.int .i64 6))) (some (.c (.int .i64 58))), none⟩,
          .real 13 ⟨some 82, .fa 0 (.t 3), none⟩,
          .real 12 ⟨some 81, .cl 69 [.t 72, .t 74, .t 80], none⟩,
          .chk ⟨some 70, .ld false 1 (.t 69), none⟩,
          .real 14 ⟨some 83, .ixp 16 1 (.t 82) (.t 70), none⟩,
          .real 15 ⟨none, .st 1 (.t 83) (.t 81), none⟩])
      (.skip)))))
  (.seq (.region [⟨some 84, .ld true 16 (.t 3), none⟩,
      ⟨none, .st 16 (.t 4) (.t 84), none⟩])
  (.ret)))))
def F19 : Fn := .code 0 15 [.tmp 0] (
  .seq (.region [⟨some 0, .mov (.c (.nilp)), none⟩])
  (.seq (.region [⟨some 6, .cl 70 [.c (.int .i64 36)], none⟩,
      ⟨some 5, .mov (.t 6), none⟩,
      ⟨some 7, .ex 0 (.t 5), none⟩,
      ⟨some 8, .ex 1 (.t 5), none⟩,
      ⟨some 1, .mov (.t 7), none⟩,
      ⟨some 2, .mov (.t 8), none⟩])
  (.seq (.region [⟨some 10, .mov (.t 1), none⟩,
      ⟨some 11, .cl 71 [.t 10, .c (.int .i64 1), .c (.int .i64 34)], none⟩,
      ⟨some 9, .mov (.t 11), none⟩,
      ⟨some 12, .ex 0 (.t 9), none⟩,
      ⟨some 13, .ex 1 (.t 9), none⟩,
      ⟨some 3, .mov (.t 12), none⟩,
      ⟨some 4, .mov (.t 13), none⟩])
  (.seq (.region [⟨some 14, .mov (.t 3), none⟩,
      ⟨some 0, .mov (.t 14), none⟩])
  (.ret)))))
def F20 : Fn := .code 3 19 [.tmp 6] (
  .seq (.region [⟨some 3, .box 1 (.t 0), none⟩,
      ⟨some 4, .box 1 (.t 1), none⟩,
      ⟨some 5, .box 1 (.t 2), none⟩,
      ⟨some 6, .mov (.c (.int .i64 0)), none⟩])
  (.seq (.block 0 (.seq (.region [⟨some 8, .ld false 1 (.t 3), none⟩,
          ⟨some 9, .ce .p false (.t 8) (.c (.nilp)), none⟩,
          ⟨some 7, .mov (.t 9), none⟩])
      (.cond (.t 7) (.seq (.region [⟨some 6, .mov (.c (.int .i64 7)), none⟩])
        (.ret))
      (.seq (.region [⟨some 11, .ld false 1 (.t 3), none⟩,
            ⟨some 12, .ld false 1 (.t 4), none⟩,
            ⟨some 13, .cl 72 [.t 11, .t 12], none⟩,
            ⟨some 14, .not (.t 13), none⟩,
            ⟨some 10, .mov (.t 14), none⟩])
        (.cond (.t 10) (.seq (.region [⟨some 6, .mov (.c (.int .i64 20)), none⟩])
          (.ret))
        (.seq (.region [⟨some 16, .ld false 1 (.t 5), none⟩,
              ⟨some 17, .lens (.t 16), none⟩,
              ⟨some 18, .cm .ne (.t 17) (.c (.int .i64 64)), none⟩,
              ⟨some 15, .mov (.t 18), none⟩])
          (.cond (.t 15) (.seq (.region [⟨some 6, .mov (.c (.int .i64 1)), none⟩])
            (.ret))
          (.skip))))))))
  (.seq (.region [⟨some 19, .ld false 1 (.t 3), none⟩,
      ⟨some 20, .mkf 74 [.t 3, .t 4, .t 5], none⟩,
      ⟨some 21, .cl 73 [.t 19, .t 20], none⟩,
      ⟨some 6, .mov (.t 21), none⟩])
  (.ret))))
def F21 : Fn := .code 2 38 [.tmp 4, .tmp 5] (
  .seq (.region [⟨some 4, .mov (.c (.nilp)), none⟩,
      ⟨some 5, .mov (.c (.int .i64 0)), none⟩])
  (.seq (.region [⟨some 11, .mov (.t 0), none⟩,
      ⟨some 12, .mov (.t 1), none⟩,
      ⟨some 13, .cl 76 [.t 11, .t 12], none⟩,
      ⟨some 10, .mov (.t 13), none⟩,
      ⟨some 14, .ex 0 (.t 10), none⟩,
      ⟨some 15, .ex 1 (.t 10), none⟩,
      ⟨some 6, .mov (.t 14), none⟩,
      ⟨some 7, .mov (.t 15), none⟩])
  (.seq (.seq (.region [⟨some 16, .mov (.t 7), none⟩,
        ⟨some 17, .cm .ne (.t 16) (.c (.int .i64 0)), none⟩])
    (.cond (.t 17) (.seq (.region [⟨some 18, .mov (.t 7), none⟩,
          ⟨some 4, .mov (.c (.nilp)), none⟩,
          ⟨some 5, .mov (.t 18), none⟩])
      (.ret))
    (.skip)))
  (.seq (.region [⟨some 19, .mov (.t 0), none⟩,
      ⟨some 20, .mov (.t 1), none⟩,
      ⟨some 21, .agg [.nilp, .int .i64 0, .int .i64 0, .int .u32 0, .int .u32 0, .int .i64 0, .sl .nl 2 [], .int .i64 0, .bool false] [(0, 1, .t 19), (1, 1, .t 20), (7, 1, .c (.int .i64 1)), (8, 1, .c (.bool true))], none⟩,
      ⟨some 22, .box 9 (.t 21), none⟩,
      ⟨some 23, .agg [.nilp, .str [], .str [], .str [], .str [], .str [], .str [], .str [], .str [], .str [], .str [], .str [], .str [], .str [], .str [], .str [], .str [], .int .u32 0, .int .u32 0, .int .u32 0, .int .u32 0, .int .u32 0, .int .u32 0, .int .u32 0, .int .u32 0, .int .u32 0, .int .u32 0, .int .u32 0, .int .u32 0, .int .u32 0, .int .u32 0, .int .u32 0, .int .u32 0, .int .i64 0, .int .i64 0, .int .i64 0, .int .i64 0, .int .i64 0, .int .i64 0, .int .i64 0, .int .i64 0, .int .i64 0, .int .i64 0, .int .i64 0, .int .i64 0, .int .i64 0, .int .i64 0, .int .i64 0, .int .i64 0] [(0, 1, .t 22)], none⟩,
      ⟨some 24, .box 49 (.t 23), none⟩,
      ⟨some 8, .mov (.t 24), none⟩])
  (.seq (.seq (.region [⟨some 25, .mov (.t 8), none⟩,
        ⟨some 26, .mov (.t 6), none⟩,
        ⟨some 27, .cl 77 [.t 25, .t 26], none⟩,
        ⟨some 9, .mov (.t 27), none⟩])
    (.seq (.region [⟨some 28, .mov (.t 9), none⟩,
        ⟨some 29, .cm .ne (.t 28) (.c (.int .i64 0)), none⟩])
    (.cond (.t 29) (.seq (.region [⟨some 30, .mov (.t 9), none⟩,
          ⟨some 4, .mov (.c (.nilp)), none⟩,
          ⟨some 5, .mov (.t 30), none⟩])
      (.ret))
    (.skip))))
  (.seq (.seq (.region [⟨some 31, .mov (.t 8), none⟩,
        ⟨some 32, .cl 78 [.t 31], none⟩,
        ⟨some 33, .not (.t 32), none⟩])
    (.cond (.t 33) (.seq (.region [⟨some 4, .mov (.c (.nilp)), none⟩,
          ⟨some 5, .mov (.c (.int .i64 4)), none⟩])
      (.ret))
    (.skip)))
  (.seq (.block 0 (.loop [] [34, 35] (.seq (.seq (.region [⟨some 34, .mov (.t 8), none⟩,
              ⟨some 35, .cl 79 [.t 34], none⟩])
          (.cond (.t 35) (.skip)
          (.exit 0)))
        (.block 1 (.skip)))))
  (.seq (.region [⟨some 36, .mov (.t 8), none⟩,
      ⟨some 37, .nil (.t 36), none⟩,
      ⟨some 38, .fa 0 (.t 37), none⟩,
      ⟨some 39, .ld false 1 (.t 38), none⟩,
      ⟨some 4, .mov (.t 39), none⟩,
      ⟨some 5, .mov (.c (.int .i64 0)), none⟩])
  (.ret)))))))))
def F22 : Fn := .code 1 75 [.cell true 7 2] (
  .seq (.region [⟨some 1, .box 16 (.t 0), none⟩,
      ⟨some 2, .alloc [.int .i64 0, .int .u32 0, .int .u32 0, .int .i64 0, .sl .nl 2 [], .int .i64 0, .bool false], none⟩])
  (.seq (.region [⟨some 7, .fa 0 (.t 1), none⟩,
      ⟨some 8, .ixp 16 1 (.t 7) (.c (.int .i64 0)), none⟩,
      ⟨some 9, .ld false 1 (.t 8), none⟩,
      ⟨some 10, .cl 63 [.t 9], none⟩,
      ⟨some 3, .alloc [.int .u32 0, .int .i64 0, .str [], .bool false], none⟩,
      ⟨none, .st 4 (.t 3) (.t 10), none⟩])
  (.seq (.region [⟨some 11, .fa 2 (.t 3), none⟩,
      ⟨some 12, .ld false 1 (.t 11), none⟩,
      ⟨some 13, .cl 80 [.t 12], none⟩,
      ⟨some 4, .alloc [.int .i64 0, .int .u32 0, .int .u32 0, .int .i64 0, .int .i64 0], none⟩,
      ⟨none, .st 5 (.t 4) (.t 13), none⟩])
  (.seq (.seq (.region [⟨some 14, .fa 3 (.t 3), none⟩,
        ⟨some 15, .ld false 1 (.t 14), none⟩,
        ⟨some 16, .not (.t 15), none⟩,
        ⟨some 17, .mov (.t 16), none⟩,
        ⟨some 18, .fa 1 (.t 3), some (17, false)⟩,
        ⟨some 19, .ld false 1 (.t 18), some (17, false)⟩,
        ⟨some 20, .cm .ne (.t 19) (.c (.int .i64 1)), some (17, false)⟩,
        ⟨some 21, .pick (.t 17) (.c (.bool true)) (.t 20), none⟩,
        ⟨some 22, .mov (.t 21), none⟩,
        ⟨some 23, .fa 4 (.t 4), some (22, false)⟩,
        ⟨some 24, .ld false 1 (.t 23), some (22, false)⟩,
        ⟨some 25, .cm .ne (.t 24) (.c (.int .i64 0)), some (22, false)⟩,
        ⟨some 26, .pick (.t 22) (.c (.bool true)) (.t 25), none⟩,
        ⟨some 27, .mov (.t 26), none⟩,
        ⟨some 28, .fa 0 (.t 4), some (27, false)⟩,
        ⟨some 29, .fa 2 (.t 28), some (27, false)⟩,
        ⟨some 30, .ld false 1 (.t 29), some (27, false)⟩,
        ⟨some 31, .fa 0 (.t 3), some (27, false)⟩,
        ⟨some 32, .ld false 1 (.t 31), some (27, false)⟩,
        ⟨some 33, .cm .ne (.t 30) (.t 32), some (27, false)⟩,
        ⟨some 34, .pick (.t 27) (.c (.bool true)) (.t 33), none⟩])
    (.cond (.t 34) (.seq (.region [⟨some 35, .agg [.int .i64 0, .int .u32 0, .int .u32 0, .int .i64 0, .sl .nl 2 [], .int .i64 0, .bool false] [], none⟩,
          ⟨none, .st 7 (.t 2) (.t 35), none⟩])
      (.ret))
    (.skip)))
  (.seq (.region [⟨some 36, .fa 0 (.t 4), none⟩,
      ⟨some 37, .ld true 4 (.t 36), none⟩,
      ⟨some 38, .agg [.int .i64 0, .int .u32 0, .int .u32 0, .int .i64 0, .sl .nl 2 [], .int .i64 0, .bool false] [(0, 4, .t 37), (5, 1, .c (.int .i64 1)), (6, 1, .c (.bool true))], none⟩,
      ⟨some 5, .alloc [.int .i64 0, .int .u32 0, .int .u32 0, .int .i64 0, .sl .nl 2 [], .int .i64 0, .bool false], none⟩,
      ⟨none, .st 7 (.t 5) (.t 38), none⟩])
  (.seq (.block 0 (.loop [] [6, 39, 40, 41, 42, 43, 44, 45, 46, 47, 48, 49, 50, 51, 52, 53, 54, 55, 56, 57, 58, 59, 60, 61, 62, 63, 64, 65, 66, 67, 68, 69, 70, 71, 72, 73, 74] (.seq (.seq (.region [⟨some 39, .fa 5 (.t 5), none⟩,
              ⟨some 40, .ld false 1 (.t 39), none⟩,
              ⟨some 41, .cm .lt (.t 40) (.c (.int .i64 16)), none⟩])
          (.cond (.t 41) (.skip)
          (.exit 0)))
        (.block 1 (.seq (.draw [.real 0 ⟨some 42, .fa 0 (.t 3), none⟩,
              .real 1 ⟨some 43, .ld false 1 (.t 42), none⟩,
              .real 2 ⟨some 44, .fa 5 (.t 5), none⟩,
              .real 3 ⟨some 45, .ld false 1 (.t 44), none⟩,
              .real 4 ⟨some 46, .ld true 16 (.t 1), none⟩,
              .real 5 ⟨some 47, .fa 0 (.t 3), none⟩,
              .real 6 ⟨some 48, .ld false 1 (.t 47), none⟩,
              .real 7 ⟨some 49, .fa 5 (.t 5), none⟩,
              .real 8 ⟨some 50, .ld false 1 (.t 49), none⟩,
              .real 9 ⟨some 51, .fa 4 (.t 5), none⟩,
              .real 10 ⟨some 52, .ld false 1 (.t 51), none⟩,
              .real 11 ⟨some 53, .lenl (.t 52), none⟩,
              .real 12 ⟨some 54, .bi .add (.t 53) (.c (.int .i64 2)), none⟩,
              .real 13 ⟨some 55, .cl 82 [.t 46, .t 48, .t 50, .t 54], none⟩,
              .chk ⟨some 43, .ld false 1 (.t 42), none⟩,
              .chk ⟨some 45, .ld false 1 (.t 44), none⟩,
              .real 14 ⟨some 56, .cl 81 [.t 43, .t 45, .t 55], none⟩,
              .real 15 ⟨some 6, .alloc [.int .i64 0, .str [], .int .i64 0, .int .i64 0], none⟩,
              .real 16 ⟨none, .st 4 (.t 6) (.t 56), none⟩])
          (.seq (.seq (.region [⟨some 57, .fa 3 (.t 6), none⟩,
                ⟨some 58, .ld false 1 (.t 57), none⟩,
                ⟨some 59, .cm .ne (.t 58) (.c (.int .i64 0)), none⟩])
            (.cond (.t 59) (.exit 0)
            (.skip)))
          (.seq (.region [⟨some 60, .fa 4 (.t 5), none⟩,
              ⟨some 61, .ld false 1 (.t 60), none⟩,
              ⟨some 62, .fa 0 (.t 6), none⟩,
              ⟨some 63, .ld true 2 (.t 62), none⟩,
              ⟨some 64, .bsl 2 [.t 63], none⟩,
              ⟨some 65, .app true 2 (.t 61) (.t 64), none⟩,
              ⟨some 66, .fa 4 (.t 5), none⟩,
              ⟨none, .st 1 (.t 66) (.t 65), none⟩])
          (.region [⟨some 67, .fa 5 (.t 5), none⟩,
            ⟨some 68, .ld false 1 (.t 67), none⟩,
            ⟨some 69, .fa 2 (.t 6), none⟩,
            ⟨some 70, .ld false 1 (.t 69), none⟩,
            ⟨some 71, .bi .add (.t 70) (.c (.int .i64 51)), none⟩,
            ⟨some 72, .bi .quo (.t 71) (.c (.int .i64 52)), none⟩,
            ⟨some 73, .bi .add (.t 68) (.t 72), none⟩,
            ⟨some 74, .fa 5 (.t 5), none⟩,
            ⟨none, .st 1 (.t 74) (.t 73), none⟩]))))))))
  (.seq (.region [⟨some 75, .ld true 7 (.t 5), none⟩,
      ⟨none, .st 7 (.t 2) (.t 75), none⟩])
  (.ret))))))))
def F23 : Fn := .code 2 76 [.tmp 4, .tmp 5] (
  .seq (.region [⟨some 3, .box 2 (.t 1), none⟩,
      ⟨some 4, .mov (.c (.int .i64 0)), none⟩,
      ⟨some 5, .mov (.c (.int .i64 0)), none⟩])
  (.seq (.block 0 (.seq (.region [⟨some 12, .mov (.t 0), none⟩,
          ⟨some 13, .ce .p false (.t 12) (.c (.nilp)), none⟩,
          ⟨some 11, .mov (.t 13), none⟩])
      (.cond (.t 11) (.seq (.region [⟨some 4, .mov (.c (.int .i64 0)), none⟩,
            ⟨some 5, .mov (.c (.int .i64 7)), none⟩])
        (.ret))
      (.seq (.region [⟨some 15, .mov (.t 0), none⟩,
            ⟨some 16, .nil (.t 15), none⟩,
            ⟨some 17, .fa 8 (.t 16), none⟩,
            ⟨some 18, .ld false 1 (.t 17), none⟩,
            ⟨some 14, .mov (.t 18), none⟩])
        (.cond (.t 14) (.seq (.region [⟨some 4, .mov (.c (.int .i64 0)), none⟩,
              ⟨some 5, .mov (.c (.int .i64 39)), none⟩])
          (.ret))
        (.skip))))))
  (.seq (.region [⟨some 19, .mov (.t 0), none⟩,
      ⟨some 20, .nil (.t 19), none⟩,
      ⟨some 21, .fa 7 (.t 20), none⟩,
      ⟨some 22, .ld false 1 (.t 21), none⟩,
      ⟨some 6, .mov (.t 22), none⟩])
  (.seq (.draw [.real 0 ⟨some 24, .mov (.t 0), none⟩,
      .real 1 ⟨some 25, .nil (.t 24), none⟩,
      .real 2 ⟨some 26, .fa 2 (.t 25), none⟩,
      .real 3 ⟨some 27, .fa 2 (.t 26), none⟩,
      .real 4 ⟨some 28, .ld false 1 (.t 27), none⟩,
      .real 5 ⟨some 29, .mov (.t 6), none⟩,
      .real 6 ⟨some 30, .min (.t 29) (.c (.int .i64 15)), none⟩,
      .real 7 ⟨some 31, .ld true 2 (.t 3), none⟩,
      .real 8 ⟨some 32, .cl 83 [.t 28, .t 30, .t 31], none⟩,
      .real 9 ⟨some 23, .mov (.t 32), none⟩,
      .real 10 ⟨some 33, .ex 0 (.t 23), none⟩,
      .real 11 ⟨some 34, .ex 1 (.t 23), none⟩,
      .real 12 ⟨some 7, .mov (.t 33), none⟩,
      .real 13 ⟨some 8, .mov (.t 34), none⟩])
  (.seq (.seq (.region [⟨some 35, .mov (.t 8), none⟩,
        ⟨some 36, .cm .ne (.t 35) (.c (.int .i64 0)), none⟩])
    (.cond (.t 36) (.seq (.region [⟨some 37, .mov (.t 8), none⟩,
          ⟨some 4, .mov (.c (.int .i64 0)), none⟩,
          ⟨some 5, .mov (.t 37), none⟩])
      (.ret))
    (.skip)))
  (.seq (.region [⟨some 38, .mov (.t 7), none⟩,
      ⟨some 39, .cl 84 [.t 38], none⟩,
      ⟨some 9, .mov (.t 39), none⟩])
  (.seq (.seq (.region [⟨some 40, .mov (.t 9), none⟩,
        ⟨some 41, .lenl (.t 40), none⟩,
        ⟨some 42, .mov (.t 6), none⟩,
        ⟨some 43, .bi .sub (.c (.int .i64 16)) (.t 42), none⟩,
        ⟨some 44, .cm .gt (.t 41) (.t 43), none⟩])
    (.cond (.t 44) (.seq (.region [⟨some 4, .mov (.c (.int .i64 0)), none⟩,
          ⟨some 5, .mov (.c (.int .i64 5)), none⟩])
      (.ret))
    (.skip)))
  (.seq (.seq (.region [⟨some 45, .mov (.t 0), none⟩,
        ⟨some 46, .mov (.t 6), none⟩,
        ⟨some 47, .mov (.t 0), none⟩,
        ⟨some 48, .nil (.t 47), none⟩,
        ⟨some 49, .fa 6 (.t 48), none⟩,
        ⟨some 50, .ld false 1 (.t 49), none⟩,
        ⟨some 51, .lenl (.t 50), none⟩,
        ⟨some 52, .bi .add (.t 51) (.c (.int .i64 2)), none⟩,
        ⟨some 53, .mov (.t 9), none⟩,
        ⟨some 54, .cl 85 [.t 45, .t 46, .t 52, .t 53], none⟩,
        ⟨some 10, .mov (.t 54), none⟩])
    (.seq (.region [⟨some 55, .mov (.t 10), none⟩,
        ⟨some 56, .cm .ne (.t 55) (.c (.int .i64 0)), none⟩])
    (.cond (.t 56) (.seq (.region [⟨some 57, .mov (.t 10), none⟩,
          ⟨some 4, .mov (.c (.int .i64 0)), none⟩,
          ⟨some 5, .mov (.t 57), none⟩])
      (.ret))
    (.skip))))
  (.seq (.draw [.real 0 ⟨some 58, .mov (.t 0), none⟩,
      .real 1 ⟨some 59, .mov (.t 0), none⟩,
      .real 2 ⟨some 60, .nil (.t 59), none⟩,
      .real 3 ⟨some 61, .fa 6 (.t 60), none⟩,
      .real 4 ⟨some 62, .ld false 1 (.t 61), none⟩,
      .real 5 ⟨some 63, .ld true 2 (.t 3), none⟩,
      .real 6 ⟨some 64, .bsl 2 [.t 63], none⟩,
      .real 7 ⟨some 65, .app true 2 (.t 62) (.t 64), none⟩,
      .real 8 ⟨some 66, .nil (.t 58), none⟩,
      .real 9 ⟨some 67, .fa 6 (.t 66), none⟩,
      .real 10 ⟨none, .st 1 (.t 67) (.t 65), none⟩])
  (.seq (.region [⟨some 68, .mov (.t 0), none⟩,
      ⟨some 69, .nil (.t 68), none⟩,
      ⟨some 70, .fa 7 (.t 69), none⟩,
      ⟨some 71, .ld false 1 (.t 70), none⟩,
      ⟨some 72, .mov (.t 9), none⟩,
      ⟨some 73, .lenl (.t 72), none⟩,
      ⟨some 74, .bi .add (.t 71) (.t 73), none⟩,
      ⟨some 75, .nil (.t 68), none⟩,
      ⟨some 76, .fa 7 (.t 75), none⟩,
      ⟨none, .st 1 (.t 76) (.t 74), none⟩])
  (.seq (.region [⟨some 77, .mov (.t 6), none⟩,
      ⟨some 4, .mov (.t 77), none⟩,
      ⟨some 5, .mov (.c (.int .i64 0)), none⟩])
  (.ret))))))))))))
def F24 : Fn := .code 1 9 [.cell true 4 2] (
  .seq (.region [⟨some 2, .alloc [.int .i64 0, .int .u32 0, .int .u32 0, .int .i64 0], none⟩])
  (.seq (.seq (.region [⟨some 3, .mov (.t 0), none⟩,
        ⟨some 4, .ce .p false (.t 3) (.c (.nilp)), none⟩])
    (.cond (.t 4) (.seq (.region [⟨some 5, .agg [.int .i64 0, .int .u32 0, .int .u32 0, .int .i64 0] [], none⟩,
          ⟨none, .st 4 (.t 2) (.t 5), none⟩])
      (.ret))
    (.skip)))
  (.seq (.region [⟨some 6, .mov (.t 0), none⟩,
      ⟨some 7, .nil (.t 6), none⟩,
      ⟨some 8, .fa 2 (.t 7), none⟩,
      ⟨some 9, .ld true 4 (.t 8), none⟩,
      ⟨none, .st 4 (.t 2) (.t 9), none⟩])
  (.ret))))
def F25 : Fn := .code 2 24 [.tmp 4] (
  .seq (.region [⟨some 4, .mov (.c (.bool false)), none⟩])
  (.seq (.seq (.region [⟨some 7, .mov (.t 0), none⟩,
        ⟨some 8, .lenl (.t 7), none⟩,
        ⟨some 9, .mov (.t 1), none⟩,
        ⟨some 10, .lenl (.t 9), none⟩,
        ⟨some 11, .cm .ne (.t 8) (.t 10), none⟩])
    (.cond (.t 11) (.seq (.region [⟨some 4, .mov (.c (.bool false)), none⟩])
      (.ret))
    (.skip)))
  (.seq (.seq (.region [⟨some 12, .mov (.t 0), none⟩,
        ⟨some 13, .lenl (.t 12), none⟩,
        ⟨some 14, .mov (.c (.int .i64 0)), none⟩])
    (.block 0 (.loop [14] [4, 5, 6, 15, 16, 17, 18, 19, 20, 21, 22, 23, 24, 25] (.seq (.region [⟨some 15, .cm .lt (.t 14) (.t 13), none⟩])
        (.seq (.cond (.t 15) (.skip)
          (.exit 0))
        (.seq (.block 1 (.seq (.region [⟨some 16, .mov (.t 14), none⟩,
                ⟨some 17, .ixs 2 (.t 12) (.t 14), none⟩,
                ⟨some 18, .ld true 2 (.t 17), none⟩,
                ⟨some 6, .alloc [.int .i64 0, .str []], none⟩,
                ⟨some 5, .mov (.t 16), none⟩,
                ⟨none, .st 2 (.t 6) (.t 18), none⟩])
            (.seq (.draw [.real 0 ⟨some 19, .ld true 2 (.t 6), none⟩,
                .real 1 ⟨some 20, .mov (.t 1), none⟩,
                .real 2 ⟨some 21, .mov (.t 5), none⟩,
                .real 3 ⟨some 22, .ixs 2 (.t 20) (.t 21), none⟩,
                .real 4 ⟨some 23, .ld true 2 (.t 22), none⟩,
                .real 5 ⟨some 24, .cea [.i, .s] true (.t 19) (.t 23), none⟩])
            (.cond (.t 24) (.seq (.region [⟨some 4, .mov (.c (.bool false)), none⟩])
              (.ret))
            (.skip)))))
        (.region [⟨some 25, .bi .add (.t 14) (.c (.int .i64 1)), none⟩,
          ⟨some 14, .mov (.t 25), none⟩])))))))
  (.seq (.region [⟨some 4, .mov (.c (.bool true)), none⟩])
  (.ret)))))
def F26 : Fn := .code 1 9 [.tmp 2] (
  .seq (.region [⟨some 2, .mov (.c (.sl .nl 2 [])), none⟩])
  (.seq (.seq (.region [⟨some 3, .mov (.t 0), none⟩,
        ⟨some 4, .ce .p false (.t 3) (.c (.nilp)), none⟩])
    (.cond (.t 4) (.seq (.region [⟨some 2, .mov (.c (.sl .nl 2 [])), none⟩])
      (.ret))
    (.skip)))
  (.seq (.region [⟨some 5, .mov (.t 0), none⟩,
      ⟨some 6, .nil (.t 5), none⟩,
      ⟨some 7, .fa 6 (.t 6), none⟩,
      ⟨some 8, .ld false 1 (.t 7), none⟩,
      ⟨some 9, .cl 86 [.t 8], none⟩,
      ⟨some 2, .mov (.t 9), none⟩])
  (.ret))))
def F27 : Fn := .code 1 8 [.tmp 2] (
  .seq (.region [⟨some 2, .mov (.c (.int .i64 0)), none⟩])
  (.seq (.seq (.region [⟨some 3, .mov (.t 0), none⟩,
        ⟨some 4, .ce .p false (.t 3) (.c (.nilp)), none⟩])
    (.cond (.t 4) (.seq (.region [⟨some 2, .mov (.c (.int .i64 0)), none⟩])
      (.ret))
    (.skip)))
  (.seq (.region [⟨some 5, .mov (.t 0), none⟩,
      ⟨some 6, .nil (.t 5), none⟩,
      ⟨some 7, .fa 7 (.t 6), none⟩,
      ⟨some 8, .ld false 1 (.t 7), none⟩,
      ⟨some 2, .mov (.t 8), none⟩])
  (.ret))))
def F28 : Fn := .code 1 9 [.tmp 2] (
  .seq (.region [⟨some 2, .mov (.c (.int .i64 0)), none⟩])
  (.seq (.seq (.region [⟨some 3, .mov (.t 0), none⟩,
        ⟨some 4, .ce .p false (.t 3) (.c (.nilp)), none⟩])
    (.cond (.t 4) (.seq (.region [⟨some 2, .mov (.c (.int .i64 0)), none⟩])
      (.ret))
    (.skip)))
  (.seq (.region [⟨some 5, .mov (.t 0), none⟩,
      ⟨some 6, .nil (.t 5), none⟩,
      ⟨some 7, .fa 6 (.t 6), none⟩,
      ⟨some 8, .ld false 1 (.t 7), none⟩,
      ⟨some 9, .lenl (.t 8), none⟩,
      ⟨some 2, .mov (.t 9), none⟩])
  (.ret))))
def F29 : Fn := .code 1 10 [.tmp 2] (
  .seq (.region [⟨some 2, .mov (.c (.bool false)), none⟩])
  (.seq (.region [⟨some 3, .mov (.t 0), none⟩,
      ⟨some 4, .ce .p false (.t 3) (.c (.nilp)), none⟩,
      ⟨some 5, .mov (.t 4), none⟩,
      ⟨some 6, .mov (.t 0), some (5, false)⟩,
      ⟨some 7, .nil (.t 6), some (5, false)⟩,
      ⟨some 8, .fa 8 (.t 7), some (5, false)⟩,
      ⟨some 9, .ld false 1 (.t 8), some (5, false)⟩,
      ⟨some 10, .pick (.t 5) (.c (.bool true)) (.t 9), none⟩,
      ⟨some 2, .mov (.t 10), none⟩])
  (.ret)))
def F30 : Fn := .code 3 41 [.tmp 6, .tmp 7] (
  .seq (.region [⟨some 5, .box 4 (.t 2), none⟩,
      ⟨some 6, .mov (.c (.nilp)), none⟩,
      ⟨some 7, .mov (.c (.int .i64 0)), none⟩])
  (.seq (.seq (.region [⟨some 15, .mov (.t 0), none⟩,
        ⟨some 16, .mov (.t 1), none⟩,
        ⟨some 17, .cl 76 [.t 15, .t 16], none⟩,
        ⟨some 14, .mov (.t 17), none⟩,
        ⟨some 18, .ex 0 (.t 14), none⟩,
        ⟨some 19, .ex 1 (.t 14), none⟩,
        ⟨some 8, .mov (.t 18), none⟩,
        ⟨some 9, .mov (.t 19), none⟩])
    (.seq (.region [⟨some 20, .mov (.t 9), none⟩,
        ⟨some 21, .cm .ne (.t 20) (.c (.int .i64 0)), none⟩])
    (.cond (.t 21) (.seq (.region [⟨some 22, .mov (.t 9), none⟩,
          ⟨some 6, .mov (.c (.nilp)), none⟩,
          ⟨some 7, .mov (.t 22), none⟩])
      (.ret))
    (.skip))))
  (.seq (.region [⟨some 24, .ld true 4 (.t 5), none⟩,
      ⟨some 25, .cl 87 [.t 24], none⟩,
      ⟨some 23, .mov (.t 25), none⟩,
      ⟨some 26, .ex 0 (.t 23), none⟩,
      ⟨some 27, .ex 1 (.t 23), none⟩,
      ⟨some 10, .mov (.t 26), none⟩,
      ⟨some 11, .mov (.t 27), none⟩])
  (.seq (.seq (.region [⟨some 28, .mov (.t 11), none⟩,
        ⟨some 29, .cm .ne (.t 28) (.c (.int .i64 0)), none⟩])
    (.cond (.t 29) (.seq (.region [⟨some 30, .mov (.t 11), none⟩,
          ⟨some 6, .mov (.c (.nilp)), none⟩,
          ⟨some 7, .mov (.t 30), none⟩])
      (.ret))
    (.skip)))
  (.seq (.region [⟨some 31, .mov (.t 0), none⟩,
      ⟨some 32, .mov (.t 1), none⟩,
      ⟨some 33, .ld true 4 (.t 5), none⟩,
      ⟨some 34, .agg [.nilp, .int .i64 0, .int .i64 0, .int .u32 0, .int .u32 0, .int .i64 0, .sl .nl 2 [], .int .i64 0, .bool false] [(0, 1, .t 31), (1, 1, .t 32), (2, 4, .t 33), (7, 1, .c (.int .i64 1))], none⟩,
      ⟨some 35, .box 9 (.t 34), none⟩,
      ⟨some 12, .mov (.t 35), none⟩])
  (.seq (.seq (.region [⟨some 36, .mov (.t 12), none⟩,
        ⟨some 37, .mov (.t 10), none⟩,
        ⟨some 38, .cl 84 [.t 37], none⟩,
        ⟨some 39, .cl 85 [.t 36, .c (.int .i64 0), .c (.int .i64 1), .t 38], none⟩,
        ⟨some 13, .mov (.t 39), none⟩])
    (.seq (.region [⟨some 40, .mov (.t 13), none⟩,
        ⟨some 41, .cm .ne (.t 40) (.c (.int .i64 0)), none⟩])
    (.cond (.t 41) (.seq (.region [⟨some 42, .mov (.t 13), none⟩,
          ⟨some 6, .mov (.c (.nilp)), none⟩,
          ⟨some 7, .mov (.t 42), none⟩])
      (.ret))
    (.skip))))
  (.seq (.region [⟨some 43, .mov (.t 12), none⟩,
      ⟨some 6, .mov (.t 43), none⟩,
      ⟨some 7, .mov (.c (.int .i64 0)), none⟩])
  (.ret))))))))
def F31 : Fn := .code 2 18 [.tmp 4] (
  .seq (.region [⟨some 4, .mov (.c (.int .i64 0)), none⟩])
  (.seq (.region [⟨some 8, .mov (.t 0), none⟩,
      ⟨some 9, .mov (.t 1), none⟩,
      ⟨some 10, .cl 76 [.t 8, .t 9], none⟩,
      ⟨some 7, .mov (.t 10), none⟩,
      ⟨some 11, .ex 0 (.t 7), none⟩,
      ⟨some 12, .ex 1 (.t 7), none⟩,
      ⟨some 5, .mov (.t 11), none⟩,
      ⟨some 6, .mov (.t 12), none⟩])
  (.seq (.seq (.region [⟨some 13, .mov (.t 6), none⟩,
        ⟨some 14, .cm .ne (.t 13) (.c (.int .i64 0)), none⟩])
    (.cond (.t 14) (.seq (.region [⟨some 15, .mov (.t 6), none⟩,
          ⟨some 4, .mov (.t 15), none⟩])
      (.ret))
    (.skip)))
  (.seq (.region [⟨some 16, .mov (.t 0), none⟩,
      ⟨some 17, .mov (.t 5), none⟩,
      ⟨some 18, .cl 88 [.c (.str [0]), .c (.int .i64 64)], none⟩,
      ⟨some 19, .cl 20 [.t 16, .t 17, .t 18], none⟩,
      ⟨some 4, .mov (.t 19), none⟩])
  (.ret)))))
def F32 : Fn := .code 2 35 [.cell true 17 4] (
  .seq (.region [⟨some 4, .alloc [.str [], .str [], .str [], .str [], .str [], .str [], .str [], .str [], .str [], .str [], .str [], .str [], .str [], .str [], .str [], .str [], .bool false], none⟩])
  (.seq (.region [⟨some 9, .agg [.str [], .str [], .str [], .str [], .str [], .str [], .str [], .str [], .str [], .str [], .str [], .str [], .str [], .str [], .str [], .str [], .bool false] [(16, 1, .c (.bool true))], none⟩,
      ⟨some 5, .alloc [.str [], .str [], .str [], .str [], .str [], .str [], .str [], .str [], .str [], .str [], .str [], .str [], .str [], .str [], .str [], .str [], .bool false], none⟩,
      ⟨none, .st 17 (.t 5) (.t 9), none⟩])
  (.seq (.seq (.region [⟨some 10, .mov (.c (.int .i64 0)), none⟩])
    (.block 0 (.loop [10] [6, 7, 8, 11, 12, 13, 14, 15, 16, 17, 18, 19, 20, 21, 22, 23, 24, 25, 26, 27, 28, 29, 30, 31, 32, 33, 34, 35] (.seq (.region [⟨some 11, .cm .lt (.t 10) (.c (.int .i64 16)), none⟩])
        (.seq (.cond (.t 11) (.skip)
          (.exit 0))
        (.seq (.block 1 (.seq (.region [⟨some 12, .mov (.t 10), none⟩,
                ⟨some 6, .mov (.t 12), none⟩])
            (.seq (.region [⟨some 14, .mov (.t 0), none⟩,
                ⟨some 15, .mov (.t 1), none⟩,
                ⟨some 16, .bi .mul (.c (.int .i64 16)) (.t 15), none⟩,
                ⟨some 17, .bi .add (.c (.int .i64 2)) (.t 16), none⟩,
                ⟨some 18, .mov (.t 6), none⟩,
                ⟨some 19, .bi .add (.t 17) (.t 18), none⟩,
                ⟨some 20, .cl 62 [.t 14, .t 19], none⟩,
                ⟨some 13, .mov (.t 20), none⟩,
                ⟨some 21, .ex 0 (.t 13), none⟩,
                ⟨some 22, .ex 1 (.t 13), none⟩,
                ⟨some 7, .mov (.t 21), none⟩,
                ⟨some 8, .mov (.t 22), none⟩])
            (.seq (.region [⟨some 23, .mov (.t 6), none⟩,
                ⟨some 24, .mov (.t 7), none⟩,
                ⟨some 25, .fa 0 (.t 5), none⟩,
                ⟨some 26, .fa 0 (.t 25), none⟩,
                ⟨some 27, .ixp 16 1 (.t 26) (.t 23), none⟩,
                ⟨none, .st 1 (.t 27) (.t 24), none⟩])
            (.region [⟨some 28, .fa 16 (.t 5), none⟩,
              ⟨some 29, .ld false 1 (.t 28), none⟩,
              ⟨some 30, .mov (.t 29), none⟩,
              ⟨some 31, .mov (.t 8), some (30, true)⟩,
              ⟨some 32, .cm .eq (.t 31) (.c (.int .i64 0)), some (30, true)⟩,
              ⟨some 33, .pick (.t 30) (.t 32) (.c (.bool false)), none⟩,
              ⟨some 34, .fa 16 (.t 5), none⟩,
              ⟨none, .st 1 (.t 34) (.t 33), none⟩])))))
        (.region [⟨some 35, .bi .add (.t 10) (.c (.int .i64 1)), none⟩,
          ⟨some 10, .mov (.t 35), none⟩])))))))
  (.seq (.region [⟨some 36, .ld true 17 (.t 5), none⟩,
      ⟨none, .st 17 (.t 4) (.t 36), none⟩])
  (.ret)))))
def F33 : Fn := .code 1 6 [] (
  .seq (.region [⟨some 2, .mov (.t 0), none⟩,
      ⟨some 3, .ce .p true (.t 2) (.c (.nilp)), none⟩])
  (.cond (.t 3) (.region [⟨some 4, .mov (.t 0), none⟩,
      ⟨some 5, .nil (.t 4), none⟩,
      ⟨some 6, .fa 8 (.t 5), none⟩,
      ⟨none, .st 1 (.t 6) (.c (.bool true)), none⟩])
  (.skip)))
def F34 : Fn := .code 1 8 [.tmp 2] (
  .seq (.region [⟨some 2, .mov (.c (.int .i64 0)), none⟩])
  (.seq (.seq (.region [⟨some 3, .mov (.t 0), none⟩,
        ⟨some 4, .ce .p false (.t 3) (.c (.nilp)), none⟩])
    (.cond (.t 4) (.seq (.region [⟨some 2, .mov (.c (.int .i64 0)), none⟩])
      (.ret))
    (.skip)))
  (.seq (.region [⟨some 5, .mov (.t 0), none⟩,
      ⟨some 6, .nil (.t 5), none⟩,
      ⟨some 7, .fa 1 (.t 6), none⟩,
      ⟨some 8, .ld false 1 (.t 7), none⟩,
      ⟨some 2, .mov (.t 8), none⟩])
  (.ret))))
def F62 : Fn := .code 2 30 [.tmp 4, .tmp 5] (
  .seq (.region [⟨some 4, .mov (.c (.str [])), none⟩,
      ⟨some 5, .mov (.c (.int .i64 0)), none⟩])
  (.seq (.block 0 (.seq (.region [⟨some 7, .mov (.t 0), none⟩,
          ⟨some 8, .ce .p false (.t 7) (.c (.nilp)), none⟩,
          ⟨some 6, .mov (.t 8), none⟩])
      (.cond (.t 6) (.seq (.region [⟨some 4, .mov (.c (.str [])), none⟩,
            ⟨some 5, .mov (.c (.int .i64 7)), none⟩])
        (.ret))
      (.seq (.region [⟨some 10, .mov (.t 0), none⟩,
            ⟨some 11, .mov (.t 1), none⟩,
            ⟨some 12, .cl 72 [.t 10, .t 11], none⟩,
            ⟨some 13, .not (.t 12), none⟩,
            ⟨some 9, .mov (.t 13), none⟩])
        (.cond (.t 9) (.seq (.region [⟨some 4, .mov (.c (.str [])), none⟩,
              ⟨some 5, .mov (.c (.int .i64 20)), none⟩])
          (.ret))
        (.seq (.region [⟨some 15, .mov (.t 0), none⟩,
              ⟨some 16, .nil (.t 15), none⟩,
              ⟨some 17, .fa 5 (.t 16), none⟩,
              ⟨some 18, .ld false 1 (.t 17), none⟩,
              ⟨some 14, .mov (.t 18), none⟩])
          (.cond (.t 14) (.seq (.region [⟨some 4, .mov (.c (.str [])), none⟩,
                ⟨some 5, .mov (.c (.int .i64 21)), none⟩])
            (.ret))
          (.skip))))))))
  (.seq (.draw [.real 0 ⟨some 19, .mov (.t 0), none⟩,
      .real 1 ⟨some 20, .nil (.t 19), none⟩,
      .real 2 ⟨some 21, .fa 0 (.t 20), none⟩,
      .real 3 ⟨some 22, .ld false 1 (.t 21), none⟩,
      .real 4 ⟨some 23, .mov (.t 0), none⟩,
      .real 5 ⟨some 24, .nil (.t 23), none⟩,
      .real 6 ⟨some 25, .fa 1 (.t 24), none⟩,
      .real 7 ⟨some 26, .ld false 1 (.t 25), none⟩,
      .real 8 ⟨some 27, .mov (.t 1), none⟩,
      .real 9 ⟨some 28, .bi .add (.t 26) (.t 27), none⟩,
      .real 10 ⟨some 29, .cl 114 [.t 22, .t 28], none⟩,
      .real 11 ⟨some 30, .ex 0 (.t 29), none⟩,
      .real 12 ⟨some 31, .ex 1 (.t 29), none⟩,
      .real 13 ⟨some 4, .mov (.t 30), none⟩,
      .real 14 ⟨some 5, .mov (.t 31), none⟩])
  (.ret))))
def F63 : Fn := .code 1 33 [.cell true 4 2] (
  .seq (.region [⟨some 2, .alloc [.int .u32 0, .int .i64 0, .str [], .bool false], none⟩])
  (.seq (.seq (.region [⟨some 5, .mov (.t 0), none⟩,
        ⟨some 6, .lens (.t 5), none⟩,
        ⟨some 7, .cm .ne (.t 6) (.c (.int .i64 64)), none⟩])
    (.cond (.t 7) (.seq (.region [⟨some 8, .agg [.int .u32 0, .int .i64 0, .str [], .bool false] [], none⟩,
          ⟨none, .st 4 (.t 2) (.t 8), none⟩])
      (.ret))
    (.skip)))
  (.seq (.region [⟨some 9, .mov (.t 0), none⟩,
      ⟨some 10, .sls (.t 9) none (some (.c (.int .i64 4))), none⟩,
      ⟨some 11, .cl 115 [.t 10], none⟩,
      ⟨some 12, .cvi .u32 (.t 11), none⟩,
      ⟨some 3, .mov (.t 12), none⟩])
  (.seq (.region [⟨some 13, .mov (.t 0), none⟩,
      ⟨some 14, .sls (.t 13) (some (.c (.int .i64 4))) (some (.c (.int .i64 6))), none⟩,
      ⟨some 15, .cl 115 [.t 14], none⟩,
      ⟨some 16, .cvi .i64 (.t 15), none⟩,
      ⟨some 4, .mov (.t 16), none⟩])
  (.seq (.seq (.region [⟨some 17, .mov (.t 4), none⟩,
        ⟨some 18, .cm .eq (.t 17) (.c (.int .i64 0)), none⟩,
        ⟨some 19, .mov (.t 18), none⟩,
        ⟨some 20, .mov (.t 3), some (19, false)⟩,
        ⟨some 21, .mov (.t 4), some (19, false)⟩,
        ⟨some 22, .mov (.t 0), some (19, false)⟩,
        ⟨some 23, .sls (.t 22) (some (.c (.int .i64 6))) (some (.c (.int .i64 58))), some (19, false)⟩,
        ⟨some 24, .cl 69 [.t 20, .t 21, .t 23], some (19, false)⟩,
        ⟨some 25, .mov (.t 0), some (19, false)⟩,
        ⟨some 26, .cm .ne (.t 24) (.t 25), some (19, false)⟩,
        ⟨some 27, .pick (.t 19) (.c (.bool true)) (.t 26), none⟩])
    (.cond (.t 27) (.seq (.region [⟨some 28, .agg [.int .u32 0, .int .i64 0, .str [], .bool false] [], none⟩,
          ⟨none, .st 4 (.t 2) (.t 28), none⟩])
      (.ret))
    (.skip)))
  (.seq (.region [⟨some 29, .mov (.t 3), none⟩,
      ⟨some 30, .mov (.t 4), none⟩,
      ⟨some 31, .mov (.t 0), none⟩,
      ⟨some 32, .sls (.t 31) (some (.c (.int .i64 6))) (some (.c (.int .i64 58))), none⟩,
      ⟨some 33, .agg [.int .u32 0, .int .i64 0, .str [], .bool false] [(0, 1, .t 29), (1, 1, .t 30), (2, 1, .t 32), (3, 1, .c (.bool true))], none⟩,
      ⟨none, .st 4 (.t 2) (.t 33), none⟩])
  (.ret)))))))
def F64 : Fn := .code 5 26 [.cell true 16 10] (
  .seq (.region [⟨some 5, .box 16 (.t 0), none⟩,
      ⟨some 10, .alloc (reps 16 (.str [])), none⟩])
  (.seq (.seq (.region [⟨some 13, .mov (.t 4), none⟩,
        ⟨some 14, .lenl (.t 13), none⟩,
        ⟨some 15, .mov (.c (.int .i64 0)), none⟩])
    (.block 0 (.loop [15] [11, 12, 16, 17, 18, 19, 20, 21, 22, 23, 24, 25, 26, 27, 28, 29] (.seq (.region [⟨some 16, .cm .lt (.t 15) (.t 14), none⟩])
        (.seq (.cond (.t 16) (.skip)
          (.exit 0))
        (.seq (.block 1 (.seq (.region [⟨some 17, .mov (.t 15), none⟩,
                ⟨some 18, .ixs 1 (.t 13) (.t 15), none⟩,
                ⟨some 19, .ld false 1 (.t 18), none⟩,
                ⟨some 11, .mov (.t 17), none⟩,
                ⟨some 12, .mov (.t 19), none⟩])
            (.region [⟨some 20, .mov (.t 2), none⟩,
              ⟨some 21, .mov (.t 11), none⟩,
              ⟨some 22, .bi .add (.t 20) (.t 21), none⟩,
              ⟨some 23, .mov (.t 1), none⟩,
              ⟨some 24, .mov (.t 3), none⟩,
              ⟨some 25, .mov (.t 12), none⟩,
              ⟨some 26, .cl 69 [.t 23, .t 24, .t 25], none⟩,
              ⟨some 27, .fa 0 (.t 5), none⟩,
              ⟨some 28, .ixp 16 1 (.t 27) (.t 22), none⟩,
              ⟨none, .st 1 (.t 28) (.t 26), none⟩])))
        (.region [⟨some 29, .bi .add (.t 15) (.c (.int .i64 1)), none⟩,
          ⟨some 15, .mov (.t 29), none⟩])))))))
  (.seq (.region [⟨some 30, .ld true 16 (.t 5), none⟩,
      ⟨none, .st 16 (.t 10) (.t 30), none⟩])
  (.ret))))
def F65 : Fn := .code 1 35 [.tmp 2] (
  .seq (.region [⟨some 2, .mov (.c (.sl .nl 1 [])), none⟩])
  (.seq (.seq (.region [⟨some 6, .mov (.t 0), none⟩,
        ⟨some 7, .cm .eq (.t 6) (.c (.str [])), none⟩])
    (.cond (.t 7) (.seq (.region [⟨some 2, .mov (.c (.sl .nl 1 [])), none⟩])
      (.ret))
    (.skip)))
  (.seq (.seq (.region [⟨some 8, .mov (.t 0), none⟩,
        ⟨some 9, .lens (.t 8), none⟩,
        ⟨some 10, .cm .le (.t 9) (.c (.int .i64 52)), none⟩])
    (.cond (.t 10) (.seq (.region [⟨some 11, .mov (.t 0), none⟩,
          ⟨some 12, .mov (.t 0), none⟩,
          ⟨some 13, .lens (.t 12), none⟩,
          ⟨some 14, .bi .sub (.c (.int .i64 52)) (.t 13), none⟩,
          ⟨some 15, .msp 1 (.int .u8 0) (.t 14) (.t 14), none⟩,
          ⟨some 16, .cvs (.t 15), none⟩,
          ⟨some 17, .adds (.t 11) (.t 16), none⟩,
          ⟨some 18, .bsl 1 [.t 17], none⟩,
          ⟨some 2, .mov (.t 18), none⟩])
      (.ret))
    (.skip)))
  (.seq (.region [⟨some 19, .mov (.t 0), none⟩,
      ⟨some 20, .sls (.t 19) none (some (.c (.int .i64 52))), none⟩,
      ⟨some 21, .bsl 1 [.t 20], none⟩,
      ⟨some 3, .mov (.t 21), none⟩])
  (.seq (.seq (.region [⟨some 22, .mov (.t 0), none⟩,
        ⟨some 23, .sls (.t 22) (some (.c (.int .i64 52))) none, none⟩,
        ⟨some 24, .cl 65 [.t 23], none⟩,
        ⟨some 25, .lenl (.t 24), none⟩,
        ⟨some 26, .mov (.c (.int .i64 0)), none⟩])
    (.block 0 (.loop [3, 26] [5, 27, 28, 29, 30, 31, 32, 33, 34] (.seq (.region [⟨some 27, .cm .lt (.t 26) (.t 25), none⟩])
        (.seq (.cond (.t 27) (.skip)
          (.exit 0))
        (.seq (.block 1 (.seq (.region [⟨some 28, .ixs 1 (.t 24) (.t 26), none⟩,
                ⟨some 29, .ld false 1 (.t 28), none⟩,
                ⟨some 5, .mov (.t 29), none⟩])
            (.region [⟨some 30, .mov (.t 3), none⟩,
              ⟨some 31, .mov (.t 5), none⟩,
              ⟨some 32, .bsl 1 [.t 31], none⟩,
              ⟨some 33, .app false 1 (.t 30) (.t 32), none⟩,
              ⟨some 3, .mov (.t 33), none⟩])))
        (.region [⟨some 34, .bi .add (.t 26) (.c (.int .i64 1)), none⟩,
          ⟨some 26, .mov (.t 34), none⟩])))))))
  (.seq (.region [⟨some 35, .mov (.t 3), none⟩,
      ⟨some 2, .mov (.t 35), none⟩])
  (.ret)))))))
def F66 : Fn := .code 1 32 [.tmp 2] (
  .seq (.region [⟨some 1, .box 4 (.t 0), none⟩,
      ⟨some 2, .mov (.c (.str [])), none⟩])
  (.seq (.draw [.real 0 ⟨some 4, .fa 0 (.t 1), none⟩,
      .real 1 ⟨some 5, .ld false 1 (.t 4), none⟩,
      .real 2 ⟨some 6, .cvi .u64 (.t 5), none⟩,
      .real 5 ⟨some 9, .fa 1 (.t 1), none⟩,
      .real 6 ⟨some 10, .ld false 1 (.t 9), none⟩,
      .real 7 ⟨some 11, .cvi .u64 (.t 10), none⟩,
      .real 10 ⟨some 14, .fa 2 (.t 1), none⟩,
      .real 11 ⟨some 15, .ld false 1 (.t 14), none⟩,
      .real 12 ⟨some 16, .cvi .u64 (.t 15), none⟩,
      .real 15 ⟨some 19, .fa 3 (.t 1), none⟩,
      .real 16 ⟨some 20, .ld false 1 (.t 19), none⟩,
      .real 17 ⟨some 21, .cvi .u64 (.t 20), none⟩,
      .real 20 ⟨some 24, .msp 1 (.int .u8 0) (.c (.int .i64 8)) (.c (.int .i64 8)), none⟩,
      .real 21 ⟨some 25, .cvs (.t 24), none⟩,
      .real 3 ⟨some 7, .cl 116 [.t 6, .c (.int .i64 2)], none⟩,
      .chk ⟨some 10, .ld false 1 (.t 9), none⟩,
      .chk ⟨some 15, .ld false 1 (.t 14), none⟩,
      .chk ⟨some 20, .ld false 1 (.t 19), none⟩,
      .chk ⟨some 25, .cvs (.t 24), none⟩,
      .real 4 ⟨some 8, .adds (.c (.str [87, 83])) (.t 7), none⟩,
      .real 8 ⟨some 12, .cl 116 [.t 11, .c (.int .i64 4)], none⟩,
      .chk ⟨some 15, .ld false 1 (.t 14), none⟩,
      .chk ⟨some 20, .ld false 1 (.t 19), none⟩,
      .chk ⟨some 25, .cvs (.t 24), none⟩,
      .real 9 ⟨some 13, .adds (.t 8) (.t 12), none⟩,
      .real 13 ⟨some 17, .cl 116 [.t 16, .c (.int .i64 4)], none⟩,
      .chk ⟨some 20, .ld false 1 (.t 19), none⟩,
      .chk ⟨some 25, .cvs (.t 24), none⟩,
      .real 14 ⟨some 18, .adds (.t 13) (.t 17), none⟩,
      .real 18 ⟨some 22, .cl 116 [.t 21, .c (.int .i64 8)], none⟩,
      .chk ⟨some 25, .cvs (.t 24), none⟩,
      .real 19 ⟨some 23, .adds (.t 18) (.t 22), none⟩,
      .real 22 ⟨some 26, .adds (.t 23) (.t 25), none⟩,
      .real 23 ⟨some 3, .mov (.t 26), none⟩])
  (.seq (.region [⟨some 27, .mov (.t 3), none⟩,
      ⟨some 28, .mov (.t 3), none⟩,
      ⟨some 29, .cl 117 [.c (.int .u32 0), .t 28], none⟩,
      ⟨some 30, .cvi .u64 (.t 29), none⟩,
      ⟨some 31, .cl 116 [.t 30, .c (.int .i64 4)], none⟩,
      ⟨some 32, .adds (.t 27) (.t 31), none⟩,
      ⟨some 2, .mov (.t 32), none⟩])
  (.ret))))
def F67 : Fn := .code 2 20 [.tmp 4] (
  .seq (.region [⟨some 3, .box 2 (.t 1), none⟩,
      ⟨some 4, .mov (.c (.int .i64 0)), none⟩])
  (.seq (.seq (.region [⟨some 5, .fa 0 (.t 3), none⟩,
        ⟨some 6, .ld false 1 (.t 5), none⟩,
        ⟨some 7, .cm .lt (.t 6) (.c (.int .i64 1)), none⟩,
        ⟨some 8, .mov (.t 7), none⟩,
        ⟨some 9, .fa 0 (.t 3), some (8, false)⟩,
        ⟨some 10, .ld false 1 (.t 9), some (8, false)⟩,
        ⟨some 11, .cm .gt (.t 10) (.c (.int .i64 255)), some (8, false)⟩,
        ⟨some 12, .pick (.t 8) (.c (.bool true)) (.t 11), none⟩,
        ⟨some 13, .mov (.t 12), none⟩,
        ⟨some 14, .mov (.t 0), some (13, false)⟩,
        ⟨some 15, .cl 118 [.t 14], some (13, false)⟩,
        ⟨some 16, .not (.t 15), some (13, false)⟩,
        ⟨some 17, .pick (.t 13) (.c (.bool true)) (.t 16), none⟩])
    (.cond (.t 17) (.seq (.region [⟨some 4, .mov (.c (.int .i64 1)), none⟩])
      (.ret))
    (.skip)))
  (.seq (.seq (.region [⟨some 18, .fa 1 (.t 3), none⟩,
        ⟨some 19, .ld false 1 (.t 18), none⟩,
        ⟨some 20, .lens (.t 19), none⟩,
        ⟨some 21, .cm .gt (.t 20) (.c (.int .i64 773)), none⟩])
    (.cond (.t 21) (.seq (.region [⟨some 4, .mov (.c (.int .i64 2)), none⟩])
      (.ret))
    (.skip)))
  (.seq (.region [⟨some 4, .mov (.c (.int .i64 0)), none⟩])
  (.ret)))))
def F68 : Fn := .code 3 29 [.tmp 6] (
  .seq (.region [⟨some 5, .box 2 (.t 2), none⟩,
      ⟨some 6, .mov (.c (.str [])), none⟩])
  (.seq (.draw [.real 0 ⟨some 7, .fa 1 (.t 5), none⟩,
      .real 1 ⟨some 8, .ld false 1 (.t 7), none⟩,
      .real 2 ⟨some 9, .lens (.t 8), none⟩,
      .real 3 ⟨some 10, .bi .add (.t 9) (.c (.int .i64 1)), none⟩,
      .real 4 ⟨some 11, .cvi .u64 (.t 10), none⟩,
      .real 6 ⟨some 13, .mov (.t 0), none⟩,
      .real 7 ⟨some 14, .mov (.t 1), none⟩,
      .real 8 ⟨some 15, .fa 0 (.t 5), none⟩,
      .real 9 ⟨some 16, .ld false 1 (.t 15), none⟩,
      .real 10 ⟨some 17, .fa 1 (.t 5), none⟩,
      .real 11 ⟨some 18, .ld false 1 (.t 17), none⟩,
      .real 16 ⟨some 23, .fa 0 (.t 5), none⟩,
      .real 17 ⟨some 24, .ld false 1 (.t 23), none⟩,
      .real 18 ⟨some 25, .cvi .u8 (.t 24), none⟩,
      .real 19 ⟨some 26, .bsl 1 [.t 25], none⟩,
      .real 20 ⟨some 27, .cvs (.t 26), none⟩,
      .real 22 ⟨some 29, .fa 1 (.t 5), none⟩,
      .real 23 ⟨some 30, .ld false 1 (.t 29), none⟩,
      .real 5 ⟨some 12, .cl 116 [.t 11, .c (.int .i64 2)], none⟩,
      .chk ⟨some 16, .ld false 1 (.t 15), none⟩,
      .chk ⟨some 18, .ld false 1 (.t 17), none⟩,
      .chk ⟨some 24, .ld false 1 (.t 23), none⟩,
      .chk ⟨some 27, .cvs (.t 26), none⟩,
      .chk ⟨some 30, .ld false 1 (.t 29), none⟩,
      .real 12 ⟨some 19, .cl 119 [.t 13, .t 14, .t 16, .t 18], none⟩,
      .chk ⟨some 24, .ld false 1 (.t 23), none⟩,
      .chk ⟨some 27, .cvs (.t 26), none⟩,
      .chk ⟨some 30, .ld false 1 (.t 29), none⟩,
      .real 13 ⟨some 20, .cvi .u64 (.t 19), none⟩,
      .real 14 ⟨some 21, .cl 116 [.t 20, .c (.int .i64 4)], none⟩,
      .chk ⟨some 24, .ld false 1 (.t 23), none⟩,
      .chk ⟨some 27, .cvs (.t 26), none⟩,
      .chk ⟨some 30, .ld false 1 (.t 29), none⟩,
      .real 15 ⟨some 22, .adds (.t 12) (.t 21), none⟩,
      .real 21 ⟨some 28, .adds (.t 22) (.t 27), none⟩,
      .real 24 ⟨some 31, .adds (.t 28) (.t 30), none⟩,
      .real 25 ⟨some 6, .mov (.t 31), none⟩])
  (.ret)))
def F69 : Fn := .code 3 17 [.tmp 6] (
  .seq (.region [⟨some 6, .mov (.c (.str [])), none⟩])
  (.seq (.region [⟨some 8, .mov (.t 0), none⟩,
      ⟨some 9, .cvi .u64 (.t 8), none⟩,
      ⟨some 10, .cl 116 [.t 9, .c (.int .i64 4)], none⟩,
      ⟨some 11, .mov (.t 1), none⟩,
      ⟨some 12, .cvi .u64 (.t 11), none⟩,
      ⟨some 13, .cl 116 [.t 12, .c (.int .i64 2)], none⟩,
      ⟨some 14, .adds (.t 10) (.t 13), none⟩,
      ⟨some 7, .mov (.t 14), none⟩])
  (.seq (.region [⟨some 15, .mov (.t 7), none⟩,
      ⟨some 16, .mov (.t 2), none⟩,
      ⟨some 17, .adds (.t 15) (.t 16), none⟩,
      ⟨some 18, .mov (.t 7), none⟩,
      ⟨some 19, .adds (.t 17) (.t 18), none⟩,
      ⟨some 6, .mov (.t 19), none⟩])
  (.ret))))
def F70 : Fn := .code 1 13 [.tmp 2, .tmp 3] (
  .seq (.region [⟨some 2, .mov (.c (.nilp)), none⟩,
      ⟨some 3, .mov (.c (.int .i64 0)), none⟩])
  (.seq (.seq (.region [⟨some 4, .mov (.t 0), none⟩,
        ⟨some 5, .cm .lt (.t 4) (.c (.int .i64 1)), none⟩,
        ⟨some 6, .mov (.t 5), none⟩,
        ⟨some 7, .mov (.t 0), some (6, false)⟩,
        ⟨some 8, .cm .gt (.t 7) (.c (.int .i64 8192)), some (6, false)⟩,
        ⟨some 9, .pick (.t 6) (.c (.bool true)) (.t 8), none⟩])
    (.cond (.t 9) (.seq (.region [⟨some 2, .mov (.c (.nilp)), none⟩,
          ⟨some 3, .mov (.c (.int .i64 1)), none⟩])
      (.ret))
    (.skip)))
  (.seq (.region [⟨some 10, .mov (.t 0), none⟩,
      ⟨some 11, .msm 64 (.agg [.int .u8 0, .int .u8 0, .int .u8 0, .int .u8 0, .int .u8 0, .int .u8 0, .int .u8 0, .int .u8 0, .int .u8 0, .int .u8 0, .int .u8 0, .int .u8 0, .int .u8 0, .int .u8 0, .int .u8 0, .int .u8 0, .int .u8 0, .int .u8 0, .int .u8 0, .int .u8 0, .int .u8 0, .int .u8 0, .int .u8 0, .int .u8 0, .int .u8 0, .int .u8 0, .int .u8 0, .int .u8 0, .int .u8 0, .int .u8 0, .int .u8 0, .int .u8 0, .int .u8 0, .int .u8 0, .int .u8 0, .int .u8 0, .int .u8 0, .int .u8 0, .int .u8 0, .int .u8 0, .int .u8 0, .int .u8 0, .int .u8 0, .int .u8 0, .int .u8 0, .int .u8 0, .int .u8 0, .int .u8 0, .int .u8 0, .int .u8 0, .int .u8 0, .int .u8 0, .int .u8 0, .int .u8 0, .int .u8 0, .int .u8 0, .int .u8 0, .int .u8 0, .int .u8 0, .int .u8 0, .int .u8 0, .int .u8 0, .int .u8 0, .int .u8 0]) (.t 10) (.t 10), none⟩,
      ⟨some 12, .agg [.sl .nl 64 [], .sl .nl 65 []] [(0, 1, .t 11)], none⟩,
      ⟨some 13, .box 2 (.t 12), none⟩,
      ⟨some 2, .mov (.t 13), none⟩,
      ⟨some 3, .mov (.c (.int .i64 0)), none⟩])
  (.ret))))
def F71 : Fn := .code 3 34 [.tmp 6, .tmp 7] (
  .seq (.region [⟨some 6, .mov (.c (.nilp)), none⟩,
      ⟨some 7, .mov (.c (.int .i64 0)), none⟩])
  (.seq (.block 0 (.seq (.region [⟨some 9, .mov (.t 0), none⟩,
          ⟨some 10, .ce .p false (.t 9) (.c (.nilp)), none⟩,
          ⟨some 8, .mov (.t 10), none⟩])
      (.cond (.t 8) (.seq (.region [⟨some 6, .mov (.c (.nilp)), none⟩,
            ⟨some 7, .mov (.c (.int .i64 7)), none⟩])
        (.ret))
      (.seq (.region [⟨some 12, .mov (.t 1), none⟩,
            ⟨some 13, .cm .lt (.t 12) (.c (.int .i64 0)), none⟩,
            ⟨some 14, .mov (.t 13), none⟩,
            ⟨some 15, .mov (.t 2), some (14, false)⟩,
            ⟨some 16, .cm .lt (.t 15) (.c (.int .i64 1)), some (14, false)⟩,
            ⟨some 17, .pick (.t 14) (.c (.bool true)) (.t 16), none⟩,
            ⟨some 18, .mov (.t 17), none⟩,
            ⟨some 19, .mov (.t 1), some (18, false)⟩,
            ⟨some 20, .mov (.t 0), some (18, false)⟩,
            ⟨some 21, .cl 120 [.t 20], some (18, false)⟩,
            ⟨some 22, .cm .gt (.t 19) (.t 21), some (18, false)⟩,
            ⟨some 23, .pick (.t 18) (.c (.bool true)) (.t 22), none⟩,
            ⟨some 24, .mov (.t 23), none⟩,
            ⟨some 25, .mov (.t 2), some (24, false)⟩,
            ⟨some 26, .mov (.t 0), some (24, false)⟩,
            ⟨some 27, .cl 120 [.t 26], some (24, false)⟩,
            ⟨some 28, .mov (.t 1), some (24, false)⟩,
            ⟨some 29, .bi .sub (.t 27) (.t 28), some (24, false)⟩,
            ⟨some 30, .cm .gt (.t 25) (.t 29), some (24, false)⟩,
            ⟨some 31, .pick (.t 24) (.c (.bool true)) (.t 30), none⟩,
            ⟨some 11, .mov (.t 31), none⟩])
        (.cond (.t 11) (.seq (.region [⟨some 6, .mov (.c (.nilp)), none⟩,
              ⟨some 7, .mov (.c (.int .i64 20)), none⟩])
          (.ret))
        (.skip))))))
  (.seq (.region [⟨some 32, .mov (.t 0), none⟩,
      ⟨some 33, .mov (.t 1), none⟩,
      ⟨some 34, .mov (.t 2), none⟩,
      ⟨some 35, .agg [.nilp, .int .i64 0, .int .i64 0, .int .i64 0, .int .i64 0, .bool false] [(0, 1, .t 32), (1, 1, .t 33), (2, 1, .t 34), (3, 1, .c (.int .i64 (-1)))], none⟩,
      ⟨some 36, .box 6 (.t 35), none⟩,
      ⟨some 6, .mov (.t 36), none⟩,
      ⟨some 7, .mov (.c (.int .i64 0)), none⟩])
  (.ret))))
def F72 : Fn := .code 2 13 [.tmp 4] (
  .seq (.region [⟨some 4, .mov (.c (.bool false)), none⟩])
  (.seq (.region [⟨some 5, .mov (.t 1), none⟩,
      ⟨some 6, .cm .ge (.t 5) (.c (.int .i64 0)), none⟩,
      ⟨some 7, .mov (.t 6), none⟩,
      ⟨some 8, .mov (.t 1), some (7, true)⟩,
      ⟨some 9, .mov (.t 0), some (7, true)⟩,
      ⟨some 10, .nil (.t 9), some (7, true)⟩,
      ⟨some 11, .fa 2 (.t 10), some (7, true)⟩,
      ⟨some 12, .ld false 1 (.t 11), some (7, true)⟩,
      ⟨some 13, .cm .lt (.t 8) (.t 12), some (7, true)⟩,
      ⟨some 14, .pick (.t 7) (.t 13) (.c (.bool false)), none⟩,
      ⟨some 4, .mov (.t 14), none⟩])
  (.ret)))
def F73 : Fn := .code 2 36 [.tmp 4] (
  .seq (.region [⟨some 4, .mov (.c (.int .i64 0)), none⟩])
  (.seq (.seq (.region [⟨some 5, .mov (.t 0), none⟩,
        ⟨some 6, .nil (.t 5), none⟩,
        ⟨some 7, .fa 3 (.t 6), none⟩,
        ⟨some 8, .ld false 1 (.t 7), none⟩,
        ⟨some 9, .cm .eq (.t 8) (.c (.int .i64 0)), none⟩])
    (.cond (.t 9) (.region [⟨some 10, .mov (.t 0), none⟩,
        ⟨some 11, .nil (.t 10), none⟩,
        ⟨some 12, .fa 5 (.t 11), none⟩,
        ⟨none, .st 1 (.t 12) (.c (.bool true)), none⟩])
    (.skip)))
  (.seq (.seq (.region [⟨some 13, .mov (.t 0), none⟩,
        ⟨some 14, .nil (.t 13), none⟩,
        ⟨some 15, .fa 5 (.t 14), none⟩,
        ⟨some 16, .ld false 1 (.t 15), none⟩])
    (.cond (.t 16) (.seq (.region [⟨some 4, .mov (.c (.int .i64 21)), none⟩])
      (.ret))
    (.skip)))
  (.seq (.seq (.region [⟨some 17, .mov (.t 0), none⟩,
        ⟨some 18, .nil (.t 17), none⟩,
        ⟨some 19, .fa 3 (.t 18), none⟩,
        ⟨some 20, .ld false 1 (.t 19), none⟩,
        ⟨some 21, .cm .gt (.t 20) (.c (.int .i64 0)), none⟩])
    (.cond (.t 21) (.region [⟨some 22, .mov (.t 0), none⟩,
        ⟨some 23, .nil (.t 22), none⟩,
        ⟨some 24, .fa 3 (.t 23), none⟩,
        ⟨some 25, .ld false 1 (.t 24), none⟩,
        ⟨some 26, .bi .sub (.t 25) (.c (.int .i64 1)), none⟩,
        ⟨some 27, .nil (.t 22), none⟩,
        ⟨some 28, .fa 3 (.t 27), none⟩,
        ⟨none, .st 1 (.t 28) (.t 26), none⟩])
    (.skip)))
  (.seq (.region [⟨some 29, .mov (.t 0), none⟩,
      ⟨some 30, .nil (.t 29), none⟩,
      ⟨some 31, .fa 4 (.t 30), none⟩,
      ⟨some 32, .ld false 1 (.t 31), none⟩,
      ⟨some 33, .bi .add (.t 32) (.c (.int .i64 1)), none⟩,
      ⟨some 34, .nil (.t 29), none⟩,
      ⟨some 35, .fa 4 (.t 34), none⟩,
      ⟨none, .st 1 (.t 35) (.t 33), none⟩])
  (.seq (.region [⟨some 36, .mov (.t 1), none⟩,
      ⟨some 37, .cv (.t 36) [], none⟩,
      ⟨some 4, .mov (.t 37), none⟩])
  (.ret)))))))
def F74 : Fn := .code 3 13 [.tmp 3] (
  .seq (.region [⟨some 3, .mov (.c (.int .i64 0)), none⟩])
  (.seq (.draw [.real 0 ⟨some 4, .ld false 1 (.t 0), none⟩,
      .real 1 ⟨some 5, .nil (.t 4), none⟩,
      .real 2 ⟨some 6, .fa 0 (.t 5), none⟩,
      .real 3 ⟨some 7, .ld false 1 (.t 6), none⟩,
      .real 4 ⟨some 8, .ld false 1 (.t 0), none⟩,
      .real 5 ⟨some 9, .nil (.t 8), none⟩,
      .real 6 ⟨some 10, .fa 1 (.t 9), none⟩,
      .real 7 ⟨some 11, .ld false 1 (.t 10), none⟩,
      .real 8 ⟨some 12, .ld false 1 (.t 1), none⟩,
      .real 9 ⟨some 13, .bi .add (.t 11) (.t 12), none⟩,
      .real 10 ⟨some 14, .ld false 1 (.t 2), none⟩,
      .real 11 ⟨some 15, .cl 75 [.t 7, .t 13, .t 14], none⟩,
      .real 12 ⟨some 3, .mov (.t 15), none⟩])
  (.ret)))
def F75 : Fn := .code 3 33 [.tmp 6] (
  .seq (.region [⟨some 6, .mov (.c (.int .i64 0)), none⟩])
  (.seq (.block 0 (.seq (.region [⟨some 9, .mov (.t 0), none⟩,
          ⟨some 10, .ce .p false (.t 9) (.c (.nilp)), none⟩,
          ⟨some 8, .mov (.t 10), none⟩])
      (.cond (.t 8) (.seq (.region [⟨some 6, .mov (.c (.int .i64 7)), none⟩])
        (.ret))
      (.seq (.region [⟨some 12, .mov (.t 0), none⟩,
            ⟨some 13, .mov (.t 1), none⟩,
            ⟨some 14, .cl 121 [.t 12, .t 13], none⟩,
            ⟨some 15, .not (.t 14), none⟩,
            ⟨some 11, .mov (.t 15), none⟩])
        (.cond (.t 11) (.seq (.region [⟨some 6, .mov (.c (.int .i64 20)), none⟩])
          (.ret))
        (.seq (.region [⟨some 17, .mov (.t 2), none⟩,
              ⟨some 18, .lens (.t 17), none⟩,
              ⟨some 19, .cm .ne (.t 18) (.c (.int .i64 64)), none⟩,
              ⟨some 16, .mov (.t 19), none⟩])
          (.cond (.t 16) (.seq (.region [⟨some 6, .mov (.c (.int .i64 1)), none⟩])
            (.ret))
          (.skip))))))))
  (.seq (.region [⟨some 20, .mov (.t 1), none⟩,
      ⟨some 21, .agg [.int .i64 0, .int .u8 0, .int .u8 0, .int .u8 0, .int .u8 0, .int .u8 0, .int .u8 0, .int .u8 0, .int .u8 0, .int .u8 0, .int .u8 0, .int .u8 0, .int .u8 0, .int .u8 0, .int .u8 0, .int .u8 0, .int .u8 0, .int .u8 0, .int .u8 0, .int .u8 0, .int .u8 0, .int .u8 0, .int .u8 0, .int .u8 0, .int .u8 0, .int .u8 0, .int .u8 0, .int .u8 0, .int .u8 0, .int .u8 0, .int .u8 0, .int .u8 0, .int .u8 0, .int .u8 0, .int .u8 0, .int .u8 0, .int .u8 0, .int .u8 0, .int .u8 0, .int .u8 0, .int .u8 0, .int .u8 0, .int .u8 0, .int .u8 0, .int .u8 0, .int .u8 0, .int .u8 0, .int .u8 0, .int .u8 0, .int .u8 0, .int .u8 0, .int .u8 0, .int .u8 0, .int .u8 0, .int .u8 0, .int .u8 0, .int .u8 0, .int .u8 0, .int .u8 0, .int .u8 0, .int .u8 0, .int .u8 0, .int .u8 0, .int .u8 0, .int .u8 0] [(0, 1, .t 20)], none⟩,
      ⟨some 7, .alloc [.int .i64 0, .int .u8 0, .int .u8 0, .int .u8 0, .int .u8 0, .int .u8 0, .int .u8 0, .int .u8 0, .int .u8 0, .int .u8 0, .int .u8 0, .int .u8 0, .int .u8 0, .int .u8 0, .int .u8 0, .int .u8 0, .int .u8 0, .int .u8 0, .int .u8 0, .int .u8 0, .int .u8 0, .int .u8 0, .int .u8 0, .int .u8 0, .int .u8 0, .int .u8 0, .int .u8 0, .int .u8 0, .int .u8 0, .int .u8 0, .int .u8 0, .int .u8 0, .int .u8 0, .int .u8 0, .int .u8 0, .int .u8 0, .int .u8 0, .int .u8 0, .int .u8 0, .int .u8 0, .int .u8 0, .int .u8 0, .int .u8 0, .int .u8 0, .int .u8 0, .int .u8 0, .int .u8 0, .int .u8 0, .int .u8 0, .int .u8 0, .int .u8 0, .int .u8 0, .int .u8 0, .int .u8 0, .int .u8 0, .int .u8 0, .int .u8 0, .int .u8 0, .int .u8 0, .int .u8 0, .int .u8 0, .int .u8 0, .int .u8 0, .int .u8 0, .int .u8 0], none⟩,
      ⟨none, .st 65 (.t 7) (.t 21), none⟩])
  (.seq (.region [⟨some 22, .fa 1 (.t 7), none⟩,
      ⟨some 23, .sla 64 1 (.t 22) none none, none⟩,
      ⟨some 24, .mov (.t 2), none⟩,
      ⟨some 25, .cpy 1 (.t 23) (.t 24), none⟩])
  (.seq (.draw [.real 0 ⟨some 26, .mov (.t 0), none⟩,
      .real 1 ⟨some 27, .mov (.t 0), none⟩,
      .real 2 ⟨some 28, .nil (.t 27), none⟩,
      .real 3 ⟨some 29, .fa 1 (.t 28), none⟩,
      .real 4 ⟨some 30, .ld false 1 (.t 29), none⟩,
      .real 5 ⟨some 31, .ld true 65 (.t 7), none⟩,
      .real 6 ⟨some 32, .bsl 65 [.t 31], none⟩,
      .real 7 ⟨some 33, .app true 65 (.t 30) (.t 32), none⟩,
      .real 8 ⟨some 34, .nil (.t 26), none⟩,
      .real 9 ⟨some 35, .fa 1 (.t 34), none⟩,
      .real 10 ⟨none, .st 1 (.t 35) (.t 33), none⟩])
  (.seq (.region [⟨some 6, .mov (.c (.int .i64 0)), none⟩])
  (.ret)))))))
def F76 : Fn := .code 2 21 [.tmp 4, .tmp 5] (
  .seq (.region [⟨some 4, .mov (.c (.int .i64 0)), none⟩,
      ⟨some 5, .mov (.c (.int .i64 0)), none⟩])
  (.seq (.block 0 (.seq (.region [⟨some 7, .mov (.t 0), none⟩,
          ⟨some 8, .ce .p false (.t 7) (.c (.nilp)), none⟩,
          ⟨some 6, .mov (.t 8), none⟩])
      (.cond (.t 6) (.seq (.region [⟨some 4, .mov (.c (.int .i64 0)), none⟩,
            ⟨some 5, .mov (.c (.int .i64 7)), none⟩])
        (.ret))
      (.seq (.region [⟨some 10, .mov (.t 1), none⟩,
            ⟨some 11, .cm .lt (.t 10) (.c (.int .i64 0)), none⟩,
            ⟨some 12, .mov (.t 11), none⟩,
            ⟨some 13, .mov (.t 1), some (12, false)⟩,
            ⟨some 14, .mov (.t 0), some (12, false)⟩,
            ⟨some 15, .cl 122 [.t 14], some (12, false)⟩,
            ⟨some 16, .bi .sub (.t 15) (.c (.int .i64 2)), some (12, false)⟩,
            ⟨some 17, .bi .quo (.t 16) (.c (.int .i64 16)), some (12, false)⟩,
            ⟨some 18, .cm .ge (.t 13) (.t 17), some (12, false)⟩,
            ⟨some 19, .pick (.t 12) (.c (.bool true)) (.t 18), none⟩,
            ⟨some 9, .mov (.t 19), none⟩])
        (.cond (.t 9) (.seq (.region [⟨some 4, .mov (.c (.int .i64 0)), none⟩,
              ⟨some 5, .mov (.c (.int .i64 20)), none⟩])
          (.ret))
        (.skip))))))
  (.seq (.region [⟨some 20, .mov (.t 1), none⟩,
      ⟨some 21, .bi .mul (.c (.int .i64 16)) (.t 20), none⟩,
      ⟨some 22, .bi .add (.c (.int .i64 2)) (.t 21), none⟩,
      ⟨some 4, .mov (.t 22), none⟩,
      ⟨some 5, .mov (.c (.int .i64 0)), none⟩])
  (.ret))))
def F77 : Fn := .code 2 58 [.tmp 4] (
  .seq (.region [⟨some 4, .mov (.c (.int .i64 0)), none⟩])
  (.seq (.seq (.region [⟨some 12, .mov (.c (.int .i64 0)), none⟩])
    (.block 0 (.loop [12] [4, 5, 6, 7, 8, 9, 10, 11, 13, 14, 15, 16, 17, 18, 19, 20, 21, 22, 23, 24, 25, 26, 27, 28, 29, 30, 31, 32, 33, 34, 35, 36, 37, 38, 39, 40, 41, 42, 43, 44, 45, 46, 47, 48, 49, 50, 51, 52, 53, 54, 55, 56, 57, 58, 59] (.seq (.region [⟨some 13, .cm .lt (.t 12) (.c (.int .i64 16)), none⟩])
        (.seq (.cond (.t 13) (.skip)
          (.exit 0))
        (.seq (.block 1 (.seq (.region [⟨some 14, .mov (.t 12), none⟩,
                ⟨some 5, .mov (.t 14), none⟩])
            (.seq (.region [⟨some 16, .mov (.t 0), none⟩,
                ⟨some 17, .nil (.t 16), none⟩,
                ⟨some 18, .fa 0 (.t 17), none⟩,
                ⟨some 19, .ld false 1 (.t 18), none⟩,
                ⟨some 20, .nil (.t 19), none⟩,
                ⟨some 21, .fa 0 (.t 20), none⟩,
                ⟨some 22, .ld false 1 (.t 21), none⟩,
                ⟨some 23, .mov (.t 1), none⟩,
                ⟨some 24, .mov (.t 5), none⟩,
                ⟨some 25, .bi .add (.t 23) (.t 24), none⟩,
                ⟨some 26, .cl 62 [.t 22, .t 25], none⟩,
                ⟨some 15, .mov (.t 26), none⟩,
                ⟨some 27, .ex 0 (.t 15), none⟩,
                ⟨some 28, .ex 1 (.t 15), none⟩,
                ⟨some 6, .mov (.t 27), none⟩,
                ⟨some 7, .mov (.t 28), none⟩])
            (.seq (.seq (.region [⟨some 29, .mov (.t 7), none⟩,
                  ⟨some 30, .cm .ne (.t 29) (.c (.int .i64 0)), none⟩])
              (.cond (.t 30) (.seq (.region [⟨some 31, .mov (.t 7), none⟩,
                    ⟨some 4, .mov (.t 31), none⟩])
                (.ret))
              (.skip)))
            (.seq (.region [⟨some 33, .mov (.t 6), none⟩,
                ⟨some 34, .cl 123 [.t 33], none⟩,
                ⟨some 32, .mov (.t 34), none⟩,
                ⟨some 35, .ex 0 (.t 32), none⟩,
                ⟨some 36, .ex 1 (.t 32), none⟩,
                ⟨some 37, .ex 2 (.t 32), none⟩,
                ⟨some 38, .ex 3 (.t 32), none⟩,
                ⟨some 8, .mov (.t 35), none⟩,
                ⟨some 9, .mov (.t 36), none⟩,
                ⟨some 10, .mov (.t 37), none⟩,
                ⟨some 11, .mov (.t 38), none⟩])
            (.seq (.region [⟨some 39, .mov (.t 11), none⟩,
                ⟨some 40, .cm .eq (.t 39) (.c (.int .i64 0)), none⟩])
            (.cond (.t 40) (.seq (.region [⟨some 41, .mov (.t 0), none⟩,
                  ⟨some 42, .mov (.t 5), none⟩,
                  ⟨some 43, .mov (.t 10), none⟩,
                  ⟨some 44, .nil (.t 41), none⟩,
                  ⟨some 45, .fa 1 (.t 44), none⟩,
                  ⟨some 46, .ixp 16 1 (.t 45) (.t 42), none⟩,
                  ⟨none, .st 1 (.t 46) (.t 43), none⟩])
              (.seq (.region [⟨some 47, .mov (.t 0), none⟩,
                  ⟨some 48, .mov (.t 5), none⟩,
                  ⟨some 49, .mov (.t 8), none⟩,
                  ⟨some 50, .nil (.t 47), none⟩,
                  ⟨some 51, .fa 17 (.t 50), none⟩,
                  ⟨some 52, .ixp 16 1 (.t 51) (.t 48), none⟩,
                  ⟨none, .st 1 (.t 52) (.t 49), none⟩])
              (.region [⟨some 53, .mov (.t 0), none⟩,
                ⟨some 54, .mov (.t 5), none⟩,
                ⟨some 55, .mov (.t 9), none⟩,
                ⟨some 56, .nil (.t 53), none⟩,
                ⟨some 57, .fa 33 (.t 56), none⟩,
                ⟨some 58, .ixp 16 1 (.t 57) (.t 54), none⟩,
                ⟨none, .st 1 (.t 58) (.t 55), none⟩])))
            (.skip))))))))
        (.region [⟨some 59, .bi .add (.t 12) (.c (.int .i64 1)), none⟩,
          ⟨some 12, .mov (.t 59), none⟩])))))))
  (.seq (.region [⟨some 4, .mov (.c (.int .i64 0)), none⟩])
  (.ret))))
def F78 : Fn := .code 1 40 [.tmp 2] (
  .seq (.region [⟨some 2, .mov (.c (.bool false)), none⟩])
  (.seq (.region [⟨some 6, .mov (.t 0), none⟩,
      ⟨some 7, .nil (.t 6), none⟩,
      ⟨some 8, .fa 1 (.t 7), none⟩,
      ⟨some 9, .ixp 16 1 (.t 8) (.c (.int .i64 0)), none⟩,
      ⟨some 10, .ld false 1 (.t 9), none⟩,
      ⟨some 11, .cl 124 [.t 10], none⟩,
      ⟨some 5, .mov (.t 11), none⟩,
      ⟨some 12, .ex 0 (.t 5), none⟩,
      ⟨some 13, .ex 1 (.t 5), none⟩,
      ⟨some 3, .alloc [.int .i64 0, .int .u32 0, .int .u32 0, .int .i64 0], none⟩,
      ⟨none, .st 4 (.t 3) (.t 12), none⟩,
      ⟨some 4, .mov (.t 13), none⟩])
  (.seq (.seq (.draw [.real 0 ⟨some 14, .mov (.t 0), none⟩,
        .real 1 ⟨some 15, .nil (.t 14), none⟩,
        .real 2 ⟨some 16, .fa 33 (.t 15), none⟩,
        .real 3 ⟨some 17, .ixp 16 1 (.t 16) (.c (.int .i64 0)), none⟩,
        .real 4 ⟨some 18, .ld false 1 (.t 17), none⟩,
        .real 5 ⟨some 19, .cm .ne (.t 18) (.c (.int .i64 1)), none⟩,
        .real 6 ⟨some 20, .mov (.t 19), none⟩,
        .real 7 ⟨some 21, .mov (.t 4), some (20, false)⟩,
        .real 8 ⟨some 22, .cm .ne (.t 21) (.c (.int .i64 0)), some (20, false)⟩,
        .real 9 ⟨some 23, .pick (.t 20) (.c (.bool true)) (.t 22), none⟩,
        .real 10 ⟨some 24, .mov (.t 23), none⟩,
        .real 11 ⟨some 25, .fa 2 (.t 3), some (24, false)⟩,
        .real 12 ⟨some 26, .ld false 1 (.t 25), some (24, false)⟩,
        .real 13 ⟨some 27, .mov (.t 0), some (24, false)⟩,
        .real 14 ⟨some 28, .nil (.t 27), some (24, false)⟩,
        .real 15 ⟨some 29, .fa 17 (.t 28), some (24, false)⟩,
        .real 16 ⟨some 30, .ixp 16 1 (.t 29) (.c (.int .i64 0)), some (24, false)⟩,
        .real 17 ⟨some 31, .ld false 1 (.t 30), some (24, false)⟩,
        .real 18 ⟨some 32, .cm .ne (.t 26) (.t 31), some (24, false)⟩,
        .real 19 ⟨some 33, .pick (.t 24) (.c (.bool true)) (.t 32), none⟩])
    (.cond (.t 33) (.seq (.region [⟨some 2, .mov (.c (.bool false)), none⟩])
      (.ret))
    (.skip)))
  (.seq (.draw [.real 0 ⟨some 34, .mov (.t 0), none⟩,
      .real 1 ⟨some 35, .nil (.t 34), none⟩,
      .real 2 ⟨some 36, .fa 0 (.t 35), none⟩,
      .real 3 ⟨some 37, .ld false 1 (.t 36), none⟩,
      .real 4 ⟨some 38, .ld true 4 (.t 3), none⟩,
      .real 5 ⟨some 39, .nil (.t 37), none⟩,
      .real 6 ⟨some 40, .fa 2 (.t 39), none⟩,
      .real 7 ⟨none, .st 4 (.t 40) (.t 38), none⟩])
  (.seq (.region [⟨some 2, .mov (.c (.bool true)), none⟩])
  (.ret))))))
def F79 : Fn := .code 1 108 [.tmp 2] (
  .seq (.region [⟨some 2, .mov (.c (.bool false)), none⟩])
  (.seq (.region [⟨some 8, .mov (.t 0), none⟩,
      ⟨some 9, .nil (.t 8), none⟩,
      ⟨some 10, .fa 0 (.t 9), none⟩,
      ⟨some 11, .ld false 1 (.t 10), none⟩,
      ⟨some 12, .nil (.t 11), none⟩,
      ⟨some 13, .fa 6 (.t 12), none⟩,
      ⟨some 14, .ld false 1 (.t 13), none⟩,
      ⟨some 15, .lenl (.t 14), none⟩,
      ⟨some 16, .bi .add (.t 15) (.c (.int .i64 2)), none⟩,
      ⟨some 3, .mov (.t 16), none⟩])
  (.seq (.seq (.region [⟨some 17, .mov (.t 0), none⟩,
        ⟨some 18, .mov (.t 3), none⟩,
        ⟨some 19, .cl 125 [.t 17, .c (.int .i64 1), .t 18], none⟩,
        ⟨some 20, .not (.t 19), none⟩])
    (.cond (.t 20) (.seq (.region [⟨some 2, .mov (.c (.bool false)), none⟩])
      (.ret))
    (.skip)))
  (.seq (.draw [.real 0 ⟨some 21, .mov (.t 0), none⟩,
      .real 1 ⟨some 22, .mov (.t 0), none⟩,
      .real 2 ⟨some 23, .nil (.t 22), none⟩,
      .real 3 ⟨some 24, .fa 0 (.t 23), none⟩,
      .real 4 ⟨some 25, .ld false 1 (.t 24), none⟩,
      .real 5 ⟨some 26, .nil (.t 25), none⟩,
      .real 6 ⟨some 27, .fa 7 (.t 26), none⟩,
      .real 7 ⟨some 28, .ld false 1 (.t 27), none⟩,
      .real 8 ⟨some 29, .nil (.t 21), none⟩,
      .real 9 ⟨some 30, .fa 1 (.t 29), none⟩,
      .real 10 ⟨some 31, .ixp 16 1 (.t 30) (.t 28), none⟩,
      .real 11 ⟨some 32, .ld false 1 (.t 31), none⟩,
      .real 12 ⟨some 33, .cl 126 [.t 32], none⟩,
      .real 13 ⟨some 4, .mov (.t 33), none⟩])
  (.seq (.seq (.region [⟨some 34, .mov (.t 0), none⟩,
        ⟨some 35, .mov (.t 4), none⟩,
        ⟨some 36, .mov (.t 3), none⟩,
        ⟨some 37, .cl 125 [.t 34, .t 35, .t 36], none⟩,
        ⟨some 38, .not (.t 37), none⟩])
    (.cond (.t 38) (.seq (.region [⟨some 2, .mov (.c (.bool false)), none⟩])
      (.ret))
    (.skip)))
  (.seq (.draw [.real 0 ⟨some 40, .mov (.t 0), none⟩,
      .real 1 ⟨some 41, .nil (.t 40), none⟩,
      .real 2 ⟨some 42, .fa 0 (.t 41), none⟩,
      .real 3 ⟨some 43, .ld false 1 (.t 42), none⟩,
      .real 4 ⟨some 44, .nil (.t 43), none⟩,
      .real 5 ⟨some 45, .fa 2 (.t 44), none⟩,
      .real 6 ⟨some 46, .fa 2 (.t 45), none⟩,
      .real 7 ⟨some 47, .ld false 1 (.t 46), none⟩,
      .real 8 ⟨some 48, .mov (.t 0), none⟩,
      .real 9 ⟨some 49, .nil (.t 48), none⟩,
      .real 10 ⟨some 50, .fa 0 (.t 49), none⟩,
      .real 11 ⟨some 51, .ld false 1 (.t 50), none⟩,
      .real 12 ⟨some 52, .nil (.t 51), none⟩,
      .real 13 ⟨some 53, .fa 7 (.t 52), none⟩,
      .real 14 ⟨some 54, .ld false 1 (.t 53), none⟩,
      .real 15 ⟨some 55, .mov (.t 0), none⟩,
      .real 16 ⟨some 56, .nil (.t 55), none⟩,
      .real 17 ⟨some 57, .fa 1 (.t 56), none⟩,
      .real 18 ⟨some 58, .mov (.t 0), none⟩,
      .real 19 ⟨some 59, .nil (.t 58), none⟩,
      .real 20 ⟨some 60, .fa 0 (.t 59), none⟩,
      .real 21 ⟨some 61, .ld false 1 (.t 60), none⟩,
      .real 22 ⟨some 62, .nil (.t 61), none⟩,
      .real 23 ⟨some 63, .fa 7 (.t 62), none⟩,
      .real 24 ⟨some 64, .ld false 1 (.t 63), none⟩,
      .real 25 ⟨some 65, .mov (.t 0), none⟩,
      .real 26 ⟨some 66, .nil (.t 65), none⟩,
      .real 27 ⟨some 67, .fa 0 (.t 66), none⟩,
      .real 28 ⟨some 68, .ld false 1 (.t 67), none⟩,
      .real 29 ⟨some 69, .nil (.t 68), none⟩,
      .real 30 ⟨some 70, .fa 7 (.t 69), none⟩,
      .real 31 ⟨some 71, .ld false 1 (.t 70), none⟩,
      .real 32 ⟨some 72, .mov (.t 4), none⟩,
      .real 33 ⟨some 73, .bi .add (.t 71) (.t 72), none⟩,
      .real 34 ⟨some 74, .sla 16 1 (.t 57) (some (.t 64)) (some (.t 73)), none⟩,
      .real 35 ⟨some 75, .cl 128 [.t 74, .c (.str [])], none⟩,
      .chk ⟨some 43, .ld false 1 (.t 42), none⟩,
      .chk ⟨some 47, .ld false 1 (.t 46), none⟩,
      .chk ⟨some 51, .ld false 1 (.t 50), none⟩,
      .chk ⟨some 54, .ld false 1 (.t 53), none⟩,
      .real 36 ⟨some 76, .cl 127 [.t 47, .t 54, .t 75], none⟩,
      .real 37 ⟨some 39, .mov (.t 76), none⟩,
      .real 38 ⟨some 77, .ex 0 (.t 39), none⟩,
      .real 39 ⟨some 78, .ex 1 (.t 39), none⟩,
      .real 40 ⟨some 79, .ex 2 (.t 39), none⟩,
      .real 41 ⟨some 5, .alloc [.int .i64 0, .str []], none⟩,
      .real 42 ⟨none, .st 2 (.t 5) (.t 77), none⟩,
      .real 43 ⟨some 6, .mov (.t 78), none⟩,
      .real 44 ⟨some 7, .mov (.t 79), none⟩])
  (.seq (.seq (.region [⟨some 80, .mov (.t 7), none⟩,
        ⟨some 81, .cm .ne (.t 80) (.c (.int .i64 0)), none⟩])
    (.cond (.t 81) (.seq (.region [⟨some 2, .mov (.c (.bool false)), none⟩])
      (.ret))
    (.skip)))
  (.seq (.draw [.real 0 ⟨some 82, .mov (.t 0), none⟩,
      .real 1 ⟨some 83, .nil (.t 82), none⟩,
      .real 2 ⟨some 84, .fa 0 (.t 83), none⟩,
      .real 3 ⟨some 85, .ld false 1 (.t 84), none⟩,
      .real 4 ⟨some 86, .mov (.t 0), none⟩,
      .real 5 ⟨some 87, .nil (.t 86), none⟩,
      .real 6 ⟨some 88, .fa 0 (.t 87), none⟩,
      .real 7 ⟨some 89, .ld false 1 (.t 88), none⟩,
      .real 8 ⟨some 90, .nil (.t 89), none⟩,
      .real 9 ⟨some 91, .fa 6 (.t 90), none⟩,
      .real 10 ⟨some 92, .ld false 1 (.t 91), none⟩,
      .real 11 ⟨some 93, .ld true 2 (.t 5), none⟩,
      .real 12 ⟨some 94, .bsl 2 [.t 93], none⟩,
      .real 13 ⟨some 95, .app true 2 (.t 92) (.t 94), none⟩,
      .chk ⟨some 85, .ld false 1 (.t 84), none⟩,
      .real 14 ⟨some 96, .nil (.t 85), none⟩,
      .real 15 ⟨some 97, .fa 6 (.t 96), none⟩,
      .real 16 ⟨none, .st 1 (.t 97) (.t 95), none⟩])
  (.seq (.region [⟨some 98, .mov (.t 0), none⟩,
      ⟨some 99, .nil (.t 98), none⟩,
      ⟨some 100, .fa 0 (.t 99), none⟩,
      ⟨some 101, .ld false 1 (.t 100), none⟩,
      ⟨some 102, .nil (.t 101), none⟩,
      ⟨some 103, .fa 7 (.t 102), none⟩,
      ⟨some 104, .ld false 1 (.t 103), none⟩,
      ⟨some 105, .mov (.t 4), none⟩,
      ⟨some 106, .bi .add (.t 104) (.t 105), none⟩,
      ⟨some 107, .nil (.t 101), none⟩,
      ⟨some 108, .fa 7 (.t 107), none⟩,
      ⟨none, .st 1 (.t 108) (.t 106), none⟩])
  (.seq (.region [⟨some 2, .mov (.c (.bool true)), none⟩])
  (.ret)))))))))))
def F80 : Fn := .code 1 42 [.cell true 5 2] (
  .seq (.region [⟨some 2, .alloc [.int .i64 0, .int .u32 0, .int .u32 0, .int .i64 0, .int .i64 0], none⟩])
  (.seq (.seq (.region [⟨some 5, .mov (.t 0), none⟩,
        ⟨some 6, .lens (.t 5), none⟩,
        ⟨some 7, .cm .lt (.t 6) (.c (.int .i64 32)), none⟩])
    (.cond (.t 7) (.seq (.region [⟨some 8, .agg [.int .i64 0, .int .u32 0, .int .u32 0, .int .i64 0, .int .i64 0] [(4, 1, .c (.int .i64 3))], none⟩,
          ⟨none, .st 5 (.t 2) (.t 8), none⟩])
      (.ret))
    (.skip)))
  (.seq (.region [⟨some 9, .mov (.t 0), none⟩,
      ⟨some 10, .sls (.t 9) (some (.c (.int .i64 12))) (some (.c (.int .i64 20))), none⟩,
      ⟨some 11, .cl 115 [.t 10], none⟩,
      ⟨some 3, .mov (.t 11), none⟩])
  (.seq (.seq (.region [⟨some 12, .mov (.t 3), none⟩,
        ⟨some 13, .cm .gt (.t 12) (.c (.int .u64 1099511627776)), none⟩])
    (.cond (.t 13) (.seq (.region [⟨some 14, .agg [.int .i64 0, .int .u32 0, .int .u32 0, .int .i64 0, .int .i64 0] [(4, 1, .c (.int .i64 4))], none⟩,
          ⟨none, .st 5 (.t 2) (.t 14), none⟩])
      (.ret))
    (.skip)))
  (.seq (.draw [.real 0 ⟨some 15, .mov (.t 0), none⟩,
      .real 1 ⟨some 16, .sls (.t 15) (some (.c (.int .i64 2))) (some (.c (.int .i64 4))), none⟩,
      .real 4 ⟨some 19, .mov (.t 0), none⟩,
      .real 5 ⟨some 20, .sls (.t 19) (some (.c (.int .i64 4))) (some (.c (.int .i64 8))), none⟩,
      .real 8 ⟨some 23, .mov (.t 0), none⟩,
      .real 9 ⟨some 24, .sls (.t 23) (some (.c (.int .i64 8))) (some (.c (.int .i64 12))), none⟩,
      .real 12 ⟨some 27, .mov (.t 3), none⟩,
      .real 13 ⟨some 28, .cvi .i64 (.t 27), none⟩,
      .real 2 ⟨some 17, .cl 115 [.t 16], none⟩,
      .real 3 ⟨some 18, .cvi .i64 (.t 17), none⟩,
      .real 6 ⟨some 21, .cl 115 [.t 20], none⟩,
      .real 7 ⟨some 22, .cvi .u32 (.t 21), none⟩,
      .real 10 ⟨some 25, .cl 115 [.t 24], none⟩,
      .real 11 ⟨some 26, .cvi .u32 (.t 25), none⟩,
      .real 14 ⟨some 29, .agg [.int .i64 0, .int .u32 0, .int .u32 0, .int .i64 0] [(0, 1, .t 18), (1, 1, .t 22), (2, 1, .t 26), (3, 1, .t 28)], none⟩,
      .real 15 ⟨some 4, .alloc [.int .i64 0, .int .u32 0, .int .u32 0, .int .i64 0], none⟩,
      .real 16 ⟨none, .st 4 (.t 4) (.t 29), none⟩])
  (.seq (.seq (.draw [.real 0 ⟨some 30, .ld true 4 (.t 4), none⟩,
        .real 1 ⟨some 31, .cl 12 [.t 30], none⟩,
        .real 2 ⟨some 32, .not (.t 31), none⟩,
        .real 3 ⟨some 33, .mov (.t 32), none⟩,
        .real 4 ⟨some 34, .ld true 4 (.t 4), some (33, false)⟩,
        .real 6 ⟨some 36, .mov (.t 0), some (33, false)⟩,
        .real 7 ⟨some 37, .sls (.t 36) none (some (.c (.int .i64 32))), some (33, false)⟩,
        .real 5 ⟨some 35, .cl 66 [.t 34], some (33, false)⟩,
        .real 8 ⟨some 38, .cm .ne (.t 35) (.t 37), some (33, false)⟩,
        .real 9 ⟨some 39, .pick (.t 33) (.c (.bool true)) (.t 38), none⟩])
    (.cond (.t 39) (.seq (.region [⟨some 40, .agg [.int .i64 0, .int .u32 0, .int .u32 0, .int .i64 0, .int .i64 0] [(4, 1, .c (.int .i64 4))], none⟩,
          ⟨none, .st 5 (.t 2) (.t 40), none⟩])
      (.ret))
    (.skip)))
  (.seq (.region [⟨some 41, .ld true 4 (.t 4), none⟩,
      ⟨some 42, .agg [.int .i64 0, .int .u32 0, .int .u32 0, .int .i64 0, .int .i64 0] [(0, 4, .t 41)], none⟩,
      ⟨none, .st 5 (.t 2) (.t 42), none⟩])
  (.ret))))))))
def F81 : Fn := .code 3 61 [.cell true 4 6] (
  .seq (.region [⟨some 6, .alloc [.int .i64 0, .str [], .int .i64 0, .int .i64 0], none⟩])
  (.seq (.seq (.region [⟨some 9, .mov (.t 1), none⟩,
        ⟨some 10, .cl 118 [.t 9], none⟩,
        ⟨some 11, .not (.t 10), none⟩])
    (.cond (.t 11) (.seq (.region [⟨some 12, .agg [.int .i64 0, .str [], .int .i64 0, .int .i64 0] [(3, 1, .c (.int .i64 1))], none⟩,
          ⟨none, .st 4 (.t 6) (.t 12), none⟩])
      (.ret))
    (.skip)))
  (.seq (.seq (.region [⟨some 13, .mov (.t 2), none⟩,
        ⟨some 14, .lens (.t 13), none⟩,
        ⟨some 15, .cm .lt (.t 14) (.c (.int .i64 2)), none⟩])
    (.cond (.t 15) (.seq (.region [⟨some 16, .agg [.int .i64 0, .str [], .int .i64 0, .int .i64 0] [(3, 1, .c (.int .i64 3))], none⟩,
          ⟨none, .st 4 (.t 6) (.t 16), none⟩])
      (.ret))
    (.skip)))
  (.seq (.draw [.real 0 ⟨some 17, .mov (.t 2), none⟩,
      .real 1 ⟨some 18, .ixt (.t 17) (.c (.int .i64 0)), none⟩,
      .real 2 ⟨some 19, .cvi .i64 (.t 18), none⟩,
      .real 3 ⟨some 20, .bi .mul (.t 19) (.c (.int .i64 256)), none⟩,
      .real 4 ⟨some 21, .mov (.t 2), none⟩,
      .real 5 ⟨some 22, .ixt (.t 21) (.c (.int .i64 1)), none⟩,
      .real 6 ⟨some 23, .cvi .i64 (.t 22), none⟩,
      .real 7 ⟨some 24, .bi .add (.t 20) (.t 23), none⟩,
      .real 8 ⟨some 7, .mov (.t 24), none⟩])
  (.seq (.seq (.region [⟨some 25, .mov (.t 7), none⟩,
        ⟨some 26, .cm .eq (.t 25) (.c (.int .i64 0)), none⟩])
    (.cond (.t 26) (.seq (.region [⟨some 27, .agg [.int .i64 0, .str [], .int .i64 0, .int .i64 0] [(3, 1, .c (.int .i64 6))], none⟩,
          ⟨none, .st 4 (.t 6) (.t 27), none⟩])
      (.ret))
    (.skip)))
  (.seq (.seq (.region [⟨some 28, .mov (.t 7), none⟩,
        ⟨some 29, .cm .gt (.t 28) (.c (.int .i64 774)), none⟩])
    (.cond (.t 29) (.seq (.region [⟨some 30, .agg [.int .i64 0, .str [], .int .i64 0, .int .i64 0] [(3, 1, .c (.int .i64 2))], none⟩,
          ⟨none, .st 4 (.t 6) (.t 30), none⟩])
      (.ret))
    (.skip)))
  (.seq (.seq (.region [⟨some 31, .mov (.t 2), none⟩,
        ⟨some 32, .lens (.t 31), none⟩,
        ⟨some 33, .mov (.t 7), none⟩,
        ⟨some 34, .bi .add (.c (.int .i64 6)) (.t 33), none⟩,
        ⟨some 35, .cm .lt (.t 32) (.t 34), none⟩])
    (.cond (.t 35) (.seq (.region [⟨some 36, .agg [.int .i64 0, .str [], .int .i64 0, .int .i64 0] [(3, 1, .c (.int .i64 3))], none⟩,
          ⟨none, .st 4 (.t 6) (.t 36), none⟩])
      (.ret))
    (.skip)))
  (.seq (.draw [.real 0 ⟨some 37, .mov (.t 2), none⟩,
      .real 1 ⟨some 38, .ixt (.t 37) (.c (.int .i64 6)), none⟩,
      .real 2 ⟨some 39, .cvi .i64 (.t 38), none⟩,
      .real 3 ⟨some 40, .mov (.t 2), none⟩,
      .real 4 ⟨some 41, .mov (.t 7), none⟩,
      .real 5 ⟨some 42, .bi .add (.c (.int .i64 6)) (.t 41), none⟩,
      .real 6 ⟨some 43, .sls (.t 40) (some (.c (.int .i64 7))) (some (.t 42)), none⟩,
      .real 7 ⟨some 44, .agg [.int .i64 0, .str []] [(0, 1, .t 39), (1, 1, .t 43)], none⟩,
      .real 8 ⟨some 8, .alloc [.int .i64 0, .str []], none⟩,
      .real 9 ⟨none, .st 2 (.t 8) (.t 44), none⟩])
  (.seq (.seq (.draw [.real 0 ⟨some 45, .fa 0 (.t 8), none⟩,
        .real 1 ⟨some 46, .ld false 1 (.t 45), none⟩,
        .real 2 ⟨some 47, .cm .eq (.t 46) (.c (.int .i64 0)), none⟩,
        .real 3 ⟨some 48, .mov (.t 47), none⟩,
        .real 4 ⟨some 49, .mov (.t 0), some (48, false)⟩,
        .real 5 ⟨some 50, .mov (.t 1), some (48, false)⟩,
        .real 6 ⟨some 51, .ld true 2 (.t 8), some (48, false)⟩,
        .real 8 ⟨some 53, .mov (.t 2), some (48, false)⟩,
        .real 9 ⟨some 54, .mov (.t 7), some (48, false)⟩,
        .real 10 ⟨some 55, .bi .add (.c (.int .i64 6)) (.t 54), some (48, false)⟩,
        .real 11 ⟨some 56, .sls (.t 53) none (some (.t 55)), some (48, false)⟩,
        .real 7 ⟨some 52, .cl 68 [.t 49, .t 50, .t 51], some (48, false)⟩,
        .real 12 ⟨some 57, .cm .ne (.t 52) (.t 56), some (48, false)⟩,
        .real 13 ⟨some 58, .pick (.t 48) (.c (.bool true)) (.t 57), none⟩])
    (.cond (.t 58) (.seq (.region [⟨some 59, .agg [.int .i64 0, .str [], .int .i64 0, .int .i64 0] [(3, 1, .c (.int .i64 4))], none⟩,
          ⟨none, .st 4 (.t 6) (.t 59), none⟩])
      (.ret))
    (.skip)))
  (.seq (.region [⟨some 60, .ld true 2 (.t 8), none⟩,
      ⟨some 61, .mov (.t 7), none⟩,
      ⟨some 62, .bi .add (.c (.int .i64 6)) (.t 61), none⟩,
      ⟨some 63, .agg [.int .i64 0, .str [], .int .i64 0, .int .i64 0] [(0, 2, .t 60), (2, 1, .t 62)], none⟩,
      ⟨none, .st 4 (.t 6) (.t 63), none⟩])
  (.ret)))))))))))
def F82 : Fn := .code 4 38 [.tmp 8] (
  .seq (.region [⟨some 4, .box 16 (.t 0), none⟩,
      ⟨some 8, .mov (.c (.str [])), none⟩])
  (.seq (.region [⟨some 9, .mov (.c (.str [])), none⟩])
  (.seq (.seq (.region [⟨some 12, .mov (.t 2), none⟩,
        ⟨some 10, .mov (.t 12), none⟩])
    (.block 0 (.loop [9, 10] [11, 13, 14, 15, 16, 17, 18, 19, 20, 21, 22, 23, 24, 25, 26, 27, 28, 29, 30, 31, 32, 33, 34, 35, 36, 37, 38, 39, 40] (.seq (.seq (.region [⟨some 13, .mov (.t 10), none⟩,
              ⟨some 14, .cm .lt (.t 13) (.c (.int .i64 16)), none⟩])
          (.cond (.t 14) (.skip)
          (.exit 0)))
        (.seq (.block 1 (.seq (.region [⟨some 17, .mov (.t 10), none⟩,
                ⟨some 18, .fa 0 (.t 4), none⟩,
                ⟨some 19, .ixp 16 1 (.t 18) (.t 17), none⟩,
                ⟨some 20, .ld false 1 (.t 19), none⟩,
                ⟨some 21, .cl 63 [.t 20], none⟩,
                ⟨some 11, .alloc [.int .u32 0, .int .i64 0, .str [], .bool false], none⟩,
                ⟨none, .st 4 (.t 11) (.t 21), none⟩])
            (.seq (.seq (.region [⟨some 22, .fa 3 (.t 11), none⟩,
                  ⟨some 23, .ld false 1 (.t 22), none⟩,
                  ⟨some 24, .not (.t 23), none⟩,
                  ⟨some 25, .mov (.t 24), none⟩,
                  ⟨some 26, .fa 0 (.t 11), some (25, false)⟩,
                  ⟨some 27, .ld false 1 (.t 26), some (25, false)⟩,
                  ⟨some 28, .mov (.t 1), some (25, false)⟩,
                  ⟨some 29, .cm .ne (.t 27) (.t 28), some (25, false)⟩,
                  ⟨some 30, .pick (.t 25) (.c (.bool true)) (.t 29), none⟩,
                  ⟨some 31, .mov (.t 30), none⟩,
                  ⟨some 32, .fa 1 (.t 11), some (31, false)⟩,
                  ⟨some 33, .ld false 1 (.t 32), some (31, false)⟩,
                  ⟨some 34, .mov (.t 3), some (31, false)⟩,
                  ⟨some 35, .cm .ne (.t 33) (.t 34), some (31, false)⟩,
                  ⟨some 36, .pick (.t 31) (.c (.bool true)) (.t 35), none⟩])
              (.cond (.t 36) (.exit 0)
              (.skip)))
            (.region [⟨some 37, .mov (.t 9), none⟩,
              ⟨some 38, .fa 2 (.t 11), none⟩,
              ⟨some 39, .ld false 1 (.t 38), none⟩,
              ⟨some 40, .adds (.t 37) (.t 39), none⟩,
              ⟨some 9, .mov (.t 40), none⟩]))))
        (.region [⟨some 15, .mov (.t 10), none⟩,
          ⟨some 16, .bi .add (.t 15) (.c (.int .i64 1)), none⟩,
          ⟨some 10, .mov (.t 16), none⟩]))))))
  (.seq (.region [⟨some 41, .mov (.t 9), none⟩,
      ⟨some 8, .mov (.t 41), none⟩])
  (.ret)))))
def F83 : Fn := .code 3 45 [.tmp 6, .tmp 7] (
  .seq (.region [⟨some 5, .box 2 (.t 2), none⟩,
      ⟨some 6, .mov (.c (.str [])), none⟩,
      ⟨some 7, .mov (.c (.int .i64 0)), none⟩])
  (.seq (.block 0 (.seq (.region [⟨some 10, .fa 0 (.t 5), none⟩,
          ⟨some 11, .ld false 1 (.t 10), none⟩,
          ⟨some 12, .cm .lt (.t 11) (.c (.int .i64 1)), none⟩,
          ⟨some 13, .mov (.t 12), none⟩,
          ⟨some 14, .fa 0 (.t 5), some (13, false)⟩,
          ⟨some 15, .ld false 1 (.t 14), some (13, false)⟩,
          ⟨some 16, .cm .gt (.t 15) (.c (.int .i64 255)), some (13, false)⟩,
          ⟨some 17, .pick (.t 13) (.c (.bool true)) (.t 16), none⟩,
          ⟨some 18, .mov (.t 17), none⟩,
          ⟨some 19, .mov (.t 1), some (18, false)⟩,
          ⟨some 20, .cl 129 [.t 19], some (18, false)⟩,
          ⟨some 21, .not (.t 20), some (18, false)⟩,
          ⟨some 22, .pick (.t 18) (.c (.bool true)) (.t 21), none⟩,
          ⟨some 9, .mov (.t 22), none⟩])
      (.cond (.t 9) (.seq (.region [⟨some 6, .mov (.c (.str [])), none⟩,
            ⟨some 7, .mov (.c (.int .i64 1)), none⟩])
        (.ret))
      (.seq (.region [⟨some 24, .fa 1 (.t 5), none⟩,
            ⟨some 25, .ld false 1 (.t 24), none⟩,
            ⟨some 26, .lens (.t 25), none⟩,
            ⟨some 27, .cm .gt (.t 26) (.c (.int .i64 773)), none⟩,
            ⟨some 23, .mov (.t 27), none⟩])
        (.cond (.t 23) (.seq (.region [⟨some 6, .mov (.c (.str [])), none⟩,
              ⟨some 7, .mov (.c (.int .i64 2)), none⟩])
          (.ret))
        (.skip))))))
  (.seq (.region [⟨some 28, .fa 0 (.t 5), none⟩,
      ⟨some 29, .ld false 1 (.t 28), none⟩,
      ⟨some 30, .cvi .u8 (.t 29), none⟩,
      ⟨some 31, .bsl 1 [.t 30], none⟩,
      ⟨some 32, .cvs (.t 31), none⟩,
      ⟨some 33, .fa 1 (.t 5), none⟩,
      ⟨some 34, .ld false 1 (.t 33), none⟩,
      ⟨some 35, .adds (.t 32) (.t 34), none⟩,
      ⟨some 8, .mov (.t 35), none⟩])
  (.seq (.region [⟨some 36, .mov (.t 8), none⟩,
      ⟨some 37, .lens (.t 36), none⟩,
      ⟨some 38, .cl 130 [.t 37, .c (.int .i64 2)], none⟩,
      ⟨some 39, .mov (.t 0), none⟩,
      ⟨some 40, .mov (.t 1), none⟩,
      ⟨some 41, .mov (.t 8), none⟩,
      ⟨some 42, .cl 131 [.t 39, .t 40, .t 41], none⟩,
      ⟨some 43, .cvi .i64 (.t 42), none⟩,
      ⟨some 44, .cl 130 [.t 43, .c (.int .i64 4)], none⟩,
      ⟨some 45, .adds (.t 38) (.t 44), none⟩,
      ⟨some 46, .mov (.t 8), none⟩,
      ⟨some 47, .adds (.t 45) (.t 46), none⟩,
      ⟨some 6, .mov (.t 47), none⟩,
      ⟨some 7, .mov (.c (.int .i64 0)), none⟩])
  (.ret)))))
def F84 : Fn := .code 1 27 [.tmp 2] (
  .seq (.region [⟨some 2, .mov (.c (.sl .nl 1 [])), none⟩])
  (.seq (.region [⟨some 3, .mov (.c (.sl .nl 1 [])), none⟩])
  (.seq (.seq (.region [⟨some 5, .mov (.t 0), none⟩,
        ⟨some 6, .lens (.t 5), none⟩,
        ⟨some 7, .cl 104 [.t 6], none⟩,
        ⟨some 8, .mov (.c (.int .i64 0)), none⟩])
    (.block 0 (.loop [0, 3, 8] [4, 9, 10, 11, 12, 13, 14, 15, 16, 17, 18, 19, 20, 21, 22, 23, 24, 25, 26] (.seq (.region [⟨some 9, .cm .lt (.t 8) (.t 7), none⟩])
        (.seq (.cond (.t 9) (.skip)
          (.exit 0))
        (.seq (.block 1 (.seq (.region [⟨some 10, .mov (.t 0), none⟩,
                ⟨some 11, .lens (.t 10), none⟩,
                ⟨some 12, .min (.t 11) (.c (.int .i64 52)), none⟩,
                ⟨some 4, .mov (.t 12), none⟩])
            (.seq (.draw [.real 0 ⟨some 13, .mov (.t 3), none⟩,
                .real 1 ⟨some 14, .mov (.t 0), none⟩,
                .real 2 ⟨some 15, .mov (.t 4), none⟩,
                .real 3 ⟨some 16, .sls (.t 14) none (some (.t 15)), none⟩,
                .real 4 ⟨some 17, .mov (.t 4), none⟩,
                .real 5 ⟨some 18, .bi .sub (.c (.int .i64 52)) (.t 17), none⟩,
                .real 6 ⟨some 19, .cl 88 [.c (.str [0]), .t 18], none⟩,
                .real 7 ⟨some 20, .adds (.t 16) (.t 19), none⟩,
                .real 8 ⟨some 21, .bsl 1 [.t 20], none⟩,
                .real 9 ⟨some 22, .app false 1 (.t 13) (.t 21), none⟩,
                .real 10 ⟨some 3, .mov (.t 22), none⟩])
            (.region [⟨some 23, .mov (.t 0), none⟩,
              ⟨some 24, .mov (.t 4), none⟩,
              ⟨some 25, .sls (.t 23) (some (.t 24)) none, none⟩,
              ⟨some 0, .mov (.t 25), none⟩]))))
        (.region [⟨some 26, .bi .add (.t 8) (.c (.int .i64 1)), none⟩,
          ⟨some 8, .mov (.t 26), none⟩])))))))
  (.seq (.region [⟨some 27, .mov (.t 3), none⟩,
      ⟨some 2, .mov (.t 27), none⟩])
  (.ret)))))
def F85 : Fn := .code 4 63 [.tmp 8] (
  .seq (.region [⟨some 8, .mov (.c (.int .i64 0)), none⟩])
  (.seq (.draw [.real 0 ⟨some 17, .mov (.t 0), none⟩,
      .real 1 ⟨some 18, .nil (.t 17), none⟩,
      .real 2 ⟨some 19, .fa 0 (.t 18), none⟩,
      .real 3 ⟨some 20, .ld false 1 (.t 19), none⟩,
      .real 4 ⟨some 21, .mov (.t 0), none⟩,
      .real 5 ⟨some 22, .nil (.t 21), none⟩,
      .real 6 ⟨some 23, .fa 1 (.t 22), none⟩,
      .real 7 ⟨some 24, .ld false 1 (.t 23), none⟩,
      .real 8 ⟨some 25, .cl 76 [.t 20, .t 24], none⟩,
      .real 9 ⟨some 16, .mov (.t 25), none⟩,
      .real 10 ⟨some 26, .ex 0 (.t 16), none⟩,
      .real 11 ⟨some 27, .ex 1 (.t 16), none⟩,
      .real 12 ⟨some 9, .mov (.t 26), none⟩,
      .real 13 ⟨some 10, .mov (.t 27), none⟩])
  (.seq (.seq (.region [⟨some 28, .mov (.t 10), none⟩,
        ⟨some 29, .cm .ne (.t 28) (.c (.int .i64 0)), none⟩])
    (.cond (.t 29) (.seq (.region [⟨some 30, .mov (.t 10), none⟩,
          ⟨some 8, .mov (.t 30), none⟩])
      (.ret))
    (.skip)))
  (.seq (.seq (.region [⟨some 31, .mov (.t 3), none⟩,
        ⟨some 32, .lenl (.t 31), none⟩,
        ⟨some 33, .mov (.c (.int .i64 0)), none⟩])
    (.block 0 (.loop [33] [8, 11, 12, 13, 14, 15, 34, 35, 36, 37, 38, 39, 40, 41, 42, 43, 44, 45, 46, 47, 48, 49, 50, 51, 52, 53, 54, 55, 56, 57, 58, 59, 60, 61, 62, 63, 64, 65, 66] (.seq (.region [⟨some 34, .cm .lt (.t 33) (.t 32), none⟩])
        (.seq (.cond (.t 34) (.skip)
          (.exit 0))
        (.seq (.block 1 (.seq (.region [⟨some 35, .mov (.t 33), none⟩,
                ⟨some 36, .ixs 1 (.t 31) (.t 33), none⟩,
                ⟨some 37, .ld false 1 (.t 36), none⟩,
                ⟨some 11, .mov (.t 35), none⟩,
                ⟨some 12, .mov (.t 37), none⟩])
            (.seq (.region [⟨some 39, .mov (.t 0), none⟩,
                ⟨some 40, .nil (.t 39), none⟩,
                ⟨some 41, .fa 2 (.t 40), none⟩,
                ⟨some 42, .fa 2 (.t 41), none⟩,
                ⟨some 43, .ld false 1 (.t 42), none⟩,
                ⟨some 44, .mov (.t 2), none⟩,
                ⟨some 45, .mov (.t 12), none⟩,
                ⟨some 46, .cl 132 [.t 43, .t 44, .t 45], none⟩,
                ⟨some 38, .mov (.t 46), none⟩,
                ⟨some 47, .ex 0 (.t 38), none⟩,
                ⟨some 48, .ex 1 (.t 38), none⟩,
                ⟨some 13, .mov (.t 47), none⟩,
                ⟨some 14, .mov (.t 48), none⟩])
            (.seq (.seq (.region [⟨some 49, .mov (.t 14), none⟩,
                  ⟨some 50, .cm .ne (.t 49) (.c (.int .i64 0)), none⟩])
              (.cond (.t 50) (.seq (.region [⟨some 51, .mov (.t 14), none⟩,
                    ⟨some 8, .mov (.t 51), none⟩])
                (.ret))
              (.skip)))
            (.seq (.region [⟨some 52, .mov (.t 0), none⟩,
                ⟨some 53, .nil (.t 52), none⟩,
                ⟨some 54, .fa 0 (.t 53), none⟩,
                ⟨some 55, .ld false 1 (.t 54), none⟩,
                ⟨some 56, .mov (.t 9), none⟩,
                ⟨some 57, .mov (.t 1), none⟩,
                ⟨some 58, .bi .add (.t 56) (.t 57), none⟩,
                ⟨some 59, .mov (.t 11), none⟩,
                ⟨some 60, .bi .add (.t 58) (.t 59), none⟩,
                ⟨some 61, .mov (.t 13), none⟩,
                ⟨some 62, .cl 20 [.t 55, .t 60, .t 61], none⟩,
                ⟨some 15, .mov (.t 62), none⟩])
            (.seq (.region [⟨some 63, .mov (.t 15), none⟩,
                ⟨some 64, .cm .ne (.t 63) (.c (.int .i64 0)), none⟩])
            (.cond (.t 64) (.seq (.region [⟨some 65, .mov (.t 15), none⟩,
                  ⟨some 8, .mov (.t 65), none⟩])
              (.ret))
            (.skip))))))))
        (.region [⟨some 66, .bi .add (.t 33) (.c (.int .i64 1)), none⟩,
          ⟨some 33, .mov (.t 66), none⟩])))))))
  (.seq (.region [⟨some 8, .mov (.c (.int .i64 0)), none⟩])
  (.ret))))))
def F86 : Fn := .code 1 7 [.tmp 2] (
  .seq (.region [⟨some 2, .mov (.c (.sl .nl 2 [])), none⟩])
  (.seq (.seq (.region [⟨some 3, .mov (.t 0), none⟩,
        ⟨some 4, .ce .l false (.t 3) (.c (.sl .nl 2 [])), none⟩])
    (.cond (.t 4) (.seq (.region [⟨some 2, .mov (.c (.sl .nl 2 [])), none⟩])
      (.ret))
    (.skip)))
  (.seq (.region [⟨some 5, .bsl 2 [], none⟩,
      ⟨some 6, .mov (.t 0), none⟩,
      ⟨some 7, .app true 2 (.t 5) (.t 6), none⟩,
      ⟨some 2, .mov (.t 7), none⟩])
  (.ret))))
def F87 : Fn := .code 1 57 [.tmp 2, .tmp 3] (
  .seq (.region [⟨some 1, .box 4 (.t 0), none⟩,
      ⟨some 2, .mov (.c (.str [])), none⟩,
      ⟨some 3, .mov (.c (.int .i64 0)), none⟩])
  (.seq (.seq (.region [⟨some 11, .fa 0 (.t 1), none⟩,
        ⟨some 12, .ld false 1 (.t 11), none⟩,
        ⟨some 13, .cm .lt (.t 12) (.c (.int .i64 1)), none⟩,
        ⟨some 14, .mov (.t 13), none⟩,
        ⟨some 15, .fa 0 (.t 1), some (14, false)⟩,
        ⟨some 16, .ld false 1 (.t 15), some (14, false)⟩,
        ⟨some 17, .cm .gt (.t 16) (.c (.int .i64 65535)), some (14, false)⟩,
        ⟨some 18, .pick (.t 14) (.c (.bool true)) (.t 17), none⟩,
        ⟨some 19, .mov (.t 18), none⟩,
        ⟨some 20, .fa 3 (.t 1), some (19, false)⟩,
        ⟨some 21, .ld false 1 (.t 20), some (19, false)⟩,
        ⟨some 22, .cm .lt (.t 21) (.c (.int .i64 0)), some (19, false)⟩,
        ⟨some 23, .pick (.t 19) (.c (.bool true)) (.t 22), none⟩,
        ⟨some 24, .mov (.t 23), none⟩,
        ⟨some 25, .fa 3 (.t 1), some (24, false)⟩,
        ⟨some 26, .ld false 1 (.t 25), some (24, false)⟩,
        ⟨some 27, .cm .gt (.t 26) (.c (.int .i64 1099511627776)), some (24, false)⟩,
        ⟨some 28, .pick (.t 24) (.c (.bool true)) (.t 27), none⟩])
    (.cond (.t 28) (.seq (.region [⟨some 2, .mov (.c (.str [])), none⟩,
          ⟨some 3, .mov (.c (.int .i64 1)), none⟩])
      (.ret))
    (.skip)))
  (.seq (.region [⟨some 4, .mov (.c (.str [87, 83])), none⟩])
  (.seq (.seq (.region [⟨some 29, .ld true 4 (.t 1), none⟩,
        ⟨some 30, .cl 133 [.t 29], none⟩,
        ⟨some 31, .mov (.c (.int .i64 0)), none⟩])
    (.block 0 (.loop [4, 31] [6, 7, 8, 32, 33, 34, 35, 36, 37, 38, 39, 40, 41, 42, 43, 44, 45] (.seq (.region [⟨some 32, .cm .lt (.t 31) (.c (.int .i64 4)), none⟩])
        (.seq (.cond (.t 32) (.skip)
          (.exit 0))
        (.seq (.block 1 (.seq (.region [⟨some 33, .ixa true 4 2 (.t 30) (.t 31), none⟩,
                ⟨some 6, .alloc [.int .u64 0, .int .i64 0], none⟩,
                ⟨none, .st 2 (.t 6) (.t 33), none⟩])
            (.seq (.region [⟨some 35, .fa 0 (.t 6), none⟩,
                ⟨some 36, .ld false 1 (.t 35), none⟩,
                ⟨some 37, .fa 1 (.t 6), none⟩,
                ⟨some 38, .ld false 1 (.t 37), none⟩,
                ⟨some 39, .cl 134 [.t 36, .t 38], none⟩,
                ⟨some 34, .mov (.t 39), none⟩,
                ⟨some 40, .ex 0 (.t 34), none⟩,
                ⟨some 41, .ex 1 (.t 34), none⟩,
                ⟨some 7, .mov (.t 40), none⟩,
                ⟨some 8, .mov (.t 41), none⟩])
            (.region [⟨some 42, .mov (.t 4), none⟩,
              ⟨some 43, .mov (.t 7), none⟩,
              ⟨some 44, .adds (.t 42) (.t 43), none⟩,
              ⟨some 4, .mov (.t 44), none⟩]))))
        (.region [⟨some 45, .bi .add (.t 31) (.c (.int .i64 1)), none⟩,
          ⟨some 31, .mov (.t 45), none⟩])))))))
  (.seq (.region [⟨some 46, .mov (.t 4), none⟩,
      ⟨some 47, .adds (.t 46) (.c (.str [0, 0, 0, 0, 0, 0, 0, 0])), none⟩,
      ⟨some 4, .mov (.t 47), none⟩])
  (.seq (.region [⟨some 49, .mov (.t 4), none⟩,
      ⟨some 50, .cl 135 [.c (.int .u32 0), .t 49], none⟩,
      ⟨some 51, .cvi .u64 (.t 50), none⟩,
      ⟨some 52, .cl 134 [.t 51, .c (.int .i64 4)], none⟩,
      ⟨some 48, .mov (.t 52), none⟩,
      ⟨some 53, .ex 0 (.t 48), none⟩,
      ⟨some 54, .ex 1 (.t 48), none⟩,
      ⟨some 9, .mov (.t 53), none⟩,
      ⟨some 10, .mov (.t 54), none⟩])
  (.seq (.region [⟨some 55, .mov (.t 4), none⟩,
      ⟨some 56, .mov (.t 9), none⟩,
      ⟨some 57, .adds (.t 55) (.t 56), none⟩,
      ⟨some 2, .mov (.t 57), none⟩,
      ⟨some 3, .mov (.c (.int .i64 0)), none⟩])
  (.ret))))))))
def F104 : Fn := .code 1 8 [.tmp 2] (
  .seq (.region [⟨some 2, .mov (.c (.int .i64 0)), none⟩])
  (.seq (.seq (.region [⟨some 3, .mov (.t 0), none⟩,
        ⟨some 4, .cm .lt (.t 3) (.c (.int .i64 1)), none⟩])
    (.cond (.t 4) (.seq (.region [⟨some 2, .mov (.c (.int .i64 0)), none⟩])
      (.ret))
    (.skip)))
  (.seq (.region [⟨some 5, .mov (.t 0), none⟩,
      ⟨some 6, .bi .sub (.t 5) (.c (.int .i64 1)), none⟩,
      ⟨some 7, .bi .quo (.t 6) (.c (.int .i64 52)), none⟩,
      ⟨some 8, .bi .add (.t 7) (.c (.int .i64 1)), none⟩,
      ⟨some 2, .mov (.t 8), none⟩])
  (.ret))))
def F114 : Fn := .code 2 35 [.tmp 4, .tmp 5] (
  .seq (.region [⟨some 4, .mov (.c (.str [])), none⟩,
      ⟨some 5, .mov (.c (.int .i64 0)), none⟩])
  (.seq (.region [⟨some 11, .mov (.t 0), none⟩,
      ⟨some 12, .mov (.t 1), none⟩,
      ⟨some 13, .cl 153 [.t 11, .t 12], none⟩,
      ⟨some 10, .mov (.t 13), none⟩,
      ⟨some 14, .ex 0 (.t 10), none⟩,
      ⟨some 15, .ex 1 (.t 10), none⟩,
      ⟨some 6, .mov (.t 14), none⟩,
      ⟨some 7, .mov (.t 15), none⟩])
  (.seq (.seq (.region [⟨some 16, .mov (.t 7), none⟩,
        ⟨some 17, .cm .ne (.t 16) (.c (.int .i64 0)), none⟩])
    (.cond (.t 17) (.seq (.region [⟨some 18, .mov (.t 7), none⟩,
          ⟨some 4, .mov (.c (.str [])), none⟩,
          ⟨some 5, .mov (.t 18), none⟩])
      (.ret))
    (.skip)))
  (.seq (.seq (.region [⟨some 19, .mov (.t 0), none⟩,
        ⟨some 20, .nil (.t 19), none⟩,
        ⟨some 21, .fa 1 (.t 20), none⟩,
        ⟨some 22, .ld false 1 (.t 21), none⟩,
        ⟨some 23, .lenl (.t 22), none⟩,
        ⟨some 24, .mov (.c (.int .i64 0)), none⟩])
    (.block 0 (.loop [6, 24] [9, 25, 26, 27, 28, 29, 30, 31, 32, 33, 34, 35] (.seq (.region [⟨some 25, .cm .lt (.t 24) (.t 23), none⟩])
        (.seq (.cond (.t 25) (.skip)
          (.exit 0))
        (.seq (.block 1 (.seq (.region [⟨some 26, .ixs 65 (.t 22) (.t 24), none⟩,
                ⟨some 27, .ld true 65 (.t 26), none⟩,
                ⟨some 9, .alloc [.int .i64 0, .int .u8 0, .int .u8 0, .int .u8 0, .int .u8 0, .int .u8 0, .int .u8 0, .int .u8 0, .int .u8 0, .int .u8 0, .int .u8 0, .int .u8 0, .int .u8 0, .int .u8 0, .int .u8 0, .int .u8 0, .int .u8 0, .int .u8 0, .int .u8 0, .int .u8 0, .int .u8 0, .int .u8 0, .int .u8 0, .int .u8 0, .int .u8 0, .int .u8 0, .int .u8 0, .int .u8 0, .int .u8 0, .int .u8 0, .int .u8 0, .int .u8 0, .int .u8 0, .int .u8 0, .int .u8 0, .int .u8 0, .int .u8 0, .int .u8 0, .int .u8 0, .int .u8 0, .int .u8 0, .int .u8 0, .int .u8 0, .int .u8 0, .int .u8 0, .int .u8 0, .int .u8 0, .int .u8 0, .int .u8 0, .int .u8 0, .int .u8 0, .int .u8 0, .int .u8 0, .int .u8 0, .int .u8 0, .int .u8 0, .int .u8 0, .int .u8 0, .int .u8 0, .int .u8 0, .int .u8 0, .int .u8 0, .int .u8 0, .int .u8 0, .int .u8 0], none⟩,
                ⟨none, .st 65 (.t 9) (.t 27), none⟩])
            (.seq (.region [⟨some 28, .fa 0 (.t 9), none⟩,
                ⟨some 29, .ld false 1 (.t 28), none⟩,
                ⟨some 30, .mov (.t 1), none⟩,
                ⟨some 31, .cm .eq (.t 29) (.t 30), none⟩])
            (.cond (.t 31) (.region [⟨some 32, .fa 1 (.t 9), none⟩,
                ⟨some 33, .sla 64 1 (.t 32) none none, none⟩,
                ⟨some 34, .cvs (.t 33), none⟩,
                ⟨some 6, .mov (.t 34), none⟩])
            (.skip)))))
        (.region [⟨some 35, .bi .add (.t 24) (.c (.int .i64 1)), none⟩,
          ⟨some 24, .mov (.t 35), none⟩])))))))
  (.seq (.region [⟨some 36, .mov (.t 6), none⟩,
      ⟨some 4, .mov (.t 36), none⟩,
      ⟨some 5, .mov (.c (.int .i64 0)), none⟩])
  (.ret))))))
def F115 : Fn := .code 1 18 [.tmp 2] (
  .seq (.region [⟨some 2, .mov (.c (.int .u64 0)), none⟩])
  (.seq (.region [⟨some 3, .mov (.c (.int .u64 0)), none⟩])
  (.seq (.seq (.region [⟨some 5, .mov (.t 0), none⟩,
        ⟨some 6, .lens (.t 5), none⟩,
        ⟨some 7, .mov (.c (.int .i64 0)), none⟩])
    (.block 0 (.loop [3, 7] [4, 8, 9, 10, 11, 12, 13, 14, 15, 16, 17] (.seq (.region [⟨some 8, .cm .lt (.t 7) (.t 6), none⟩])
        (.seq (.cond (.t 8) (.skip)
          (.exit 0))
        (.seq (.block 1 (.seq (.region [⟨some 9, .mov (.t 7), none⟩,
                ⟨some 4, .mov (.t 9), none⟩])
            (.region [⟨some 10, .mov (.t 3), none⟩,
              ⟨some 11, .bi .mul (.c (.int .u64 256)) (.t 10), none⟩,
              ⟨some 12, .mov (.t 0), none⟩,
              ⟨some 13, .mov (.t 4), none⟩,
              ⟨some 14, .ixt (.t 12) (.t 13), none⟩,
              ⟨some 15, .cvi .u64 (.t 14), none⟩,
              ⟨some 16, .bi .add (.t 11) (.t 15), none⟩,
              ⟨some 3, .mov (.t 16), none⟩])))
        (.region [⟨some 17, .bi .add (.t 7) (.c (.int .i64 1)), none⟩,
          ⟨some 7, .mov (.t 17), none⟩])))))))
  (.seq (.region [⟨some 18, .mov (.t 3), none⟩,
      ⟨some 2, .mov (.t 18), none⟩])
  (.ret)))))
def F116 : Fn := .code 2 18 [.tmp 4] (
  .seq (.region [⟨some 4, .mov (.c (.str [])), none⟩])
  (.seq (.region [⟨some 5, .mov (.c (.str [])), none⟩])
  (.seq (.seq (.region [⟨some 6, .mov (.t 1), none⟩,
        ⟨some 7, .mov (.c (.int .i64 0)), none⟩])
    (.block 0 (.loop [0, 5, 7] [8, 9, 10, 11, 12, 13, 14, 15, 16, 17, 18] (.seq (.region [⟨some 8, .cm .lt (.t 7) (.t 6), none⟩])
        (.seq (.cond (.t 8) (.skip)
          (.exit 0))
        (.seq (.block 1 (.seq (.region [⟨some 9, .mov (.t 0), none⟩,
                ⟨some 10, .bi .rem (.t 9) (.c (.int .u64 256)), none⟩,
                ⟨some 11, .cvi .u8 (.t 10), none⟩,
                ⟨some 12, .bsl 1 [.t 11], none⟩,
                ⟨some 13, .cvs (.t 12), none⟩,
                ⟨some 14, .mov (.t 5), none⟩,
                ⟨some 15, .adds (.t 13) (.t 14), none⟩,
                ⟨some 5, .mov (.t 15), none⟩])
            (.region [⟨some 16, .mov (.t 0), none⟩,
              ⟨some 17, .bi .quo (.t 16) (.c (.int .u64 256)), none⟩,
              ⟨some 0, .mov (.t 17), none⟩])))
        (.region [⟨some 18, .bi .add (.t 7) (.c (.int .i64 1)), none⟩,
          ⟨some 7, .mov (.t 18), none⟩])))))))
  (.seq (.region [⟨some 19, .mov (.t 5), none⟩,
      ⟨some 4, .mov (.t 19), none⟩])
  (.ret)))))
def F117 : Fn := .code 2 26 [.tmp 4] (
  .seq (.region [⟨some 4, .mov (.c (.int .u32 0)), none⟩])
  (.seq (.region [⟨some 7, .mov (.t 0), none⟩,
      ⟨some 8, .bi .sub (.c (.int .u32 4294967295)) (.t 7), none⟩,
      ⟨some 5, .mov (.t 8), none⟩])
  (.seq (.seq (.region [⟨some 9, .mov (.t 1), none⟩,
        ⟨some 10, .lens (.t 9), none⟩,
        ⟨some 11, .mov (.c (.int .i64 0)), none⟩])
    (.block 0 (.loop [5, 11] [6, 12, 13, 14, 15, 16, 17, 18, 19, 20, 21, 22, 23, 24, 25] (.seq (.region [⟨some 12, .cm .lt (.t 11) (.t 10), none⟩])
        (.seq (.cond (.t 12) (.skip)
          (.exit 0))
        (.seq (.block 1 (.seq (.region [⟨some 13, .mov (.t 11), none⟩,
                ⟨some 6, .mov (.t 13), none⟩])
            (.seq (.region [⟨some 14, .mov (.t 5), none⟩,
                ⟨some 15, .mov (.t 1), none⟩,
                ⟨some 16, .mov (.t 6), none⟩,
                ⟨some 17, .ixt (.t 15) (.t 16), none⟩,
                ⟨some 18, .cvi .u32 (.t 17), none⟩,
                ⟨some 19, .bi .xor (.t 14) (.t 18), none⟩,
                ⟨some 5, .mov (.t 19), none⟩])
            (.seq (.region [⟨some 20, .mov (.c (.int .i64 0)), none⟩])
            (.block 2 (.loop [5, 20] [21, 22, 23, 24] (.seq (.region [⟨some 21, .cm .lt (.t 20) (.c (.int .i64 8)), none⟩])
                (.seq (.cond (.t 21) (.skip)
                  (.exit 2))
                (.seq (.block 3 (.region [⟨some 22, .mov (.t 5), none⟩,
                      ⟨some 23, .cl 154 [.t 22], none⟩,
                      ⟨some 5, .mov (.t 23), none⟩]))
                (.region [⟨some 24, .bi .add (.t 20) (.c (.int .i64 1)), none⟩,
                  ⟨some 20, .mov (.t 24), none⟩]))))))))))
        (.region [⟨some 25, .bi .add (.t 11) (.c (.int .i64 1)), none⟩,
          ⟨some 11, .mov (.t 25), none⟩])))))))
  (.seq (.region [⟨some 26, .mov (.t 5), none⟩,
      ⟨some 27, .bi .sub (.c (.int .u32 4294967295)) (.t 26), none⟩,
      ⟨some 4, .mov (.t 27), none⟩])
  (.ret)))))
def F118 : Fn := .code 1 8 [.tmp 2] (
  .seq (.region [⟨some 2, .mov (.c (.bool false)), none⟩])
  (.seq (.region [⟨some 3, .mov (.t 0), none⟩,
      ⟨some 4, .cm .ge (.t 3) (.c (.int .i64 1)), none⟩,
      ⟨some 5, .mov (.t 4), none⟩,
      ⟨some 6, .mov (.t 0), some (5, true)⟩,
      ⟨some 7, .cm .lt (.t 6) (.c (.int .i64 16)), some (5, true)⟩,
      ⟨some 8, .pick (.t 5) (.t 7) (.c (.bool false)), none⟩,
      ⟨some 2, .mov (.t 8), none⟩])
  (.ret)))
def F119 : Fn := .code 4 28 [.tmp 8] (
  .seq (.region [⟨some 8, .mov (.c (.int .u32 0)), none⟩])
  (.seq (.region [⟨some 10, .mov (.t 0), none⟩,
      ⟨some 11, .cvi .u64 (.t 10), none⟩,
      ⟨some 12, .cl 116 [.t 11, .c (.int .i64 4)], none⟩,
      ⟨some 13, .mov (.t 1), none⟩,
      ⟨some 14, .cvi .u64 (.t 13), none⟩,
      ⟨some 15, .cl 116 [.t 14, .c (.int .i64 2)], none⟩,
      ⟨some 16, .adds (.t 12) (.t 15), none⟩,
      ⟨some 17, .mov (.t 3), none⟩,
      ⟨some 18, .lens (.t 17), none⟩,
      ⟨some 19, .bi .add (.t 18) (.c (.int .i64 1)), none⟩,
      ⟨some 20, .cvi .u64 (.t 19), none⟩,
      ⟨some 21, .cl 116 [.t 20, .c (.int .i64 2)], none⟩,
      ⟨some 22, .adds (.t 16) (.t 21), none⟩,
      ⟨some 9, .mov (.t 22), none⟩])
  (.seq (.region [⟨some 23, .mov (.t 9), none⟩,
      ⟨some 24, .mov (.t 2), none⟩,
      ⟨some 25, .cvi .u8 (.t 24), none⟩,
      ⟨some 26, .bsl 1 [.t 25], none⟩,
      ⟨some 27, .cvs (.t 26), none⟩,
      ⟨some 28, .adds (.t 23) (.t 27), none⟩,
      ⟨some 29, .mov (.t 3), none⟩,
      ⟨some 30, .adds (.t 28) (.t 29), none⟩,
      ⟨some 31, .cl 117 [.c (.int .u32 0), .t 30], none⟩,
      ⟨some 8, .mov (.t 31), none⟩])
  (.ret))))
def F120 : Fn := .code 1 9 [.tmp 2] (
  .seq (.region [⟨some 2, .mov (.c (.int .i64 0)), none⟩])
  (.seq (.seq (.region [⟨some 3, .mov (.t 0), none⟩,
        ⟨some 4, .ce .p false (.t 3) (.c (.nilp)), none⟩])
    (.cond (.t 4) (.seq (.region [⟨some 2, .mov (.c (.int .i64 0)), none⟩])
      (.ret))
    (.skip)))
  (.seq (.region [⟨some 5, .mov (.t 0), none⟩,
      ⟨some 6, .nil (.t 5), none⟩,
      ⟨some 7, .fa 0 (.t 6), none⟩,
      ⟨some 8, .ld false 1 (.t 7), none⟩,
      ⟨some 9, .lenl (.t 8), none⟩,
      ⟨some 2, .mov (.t 9), none⟩])
  (.ret))))
def F121 : Fn := .code 2 11 [.tmp 4] (
  .seq (.region [⟨some 4, .mov (.c (.bool false)), none⟩])
  (.seq (.region [⟨some 5, .mov (.t 1), none⟩,
      ⟨some 6, .cm .ge (.t 5) (.c (.int .i64 0)), none⟩,
      ⟨some 7, .mov (.t 6), none⟩,
      ⟨some 8, .mov (.t 1), some (7, true)⟩,
      ⟨some 9, .mov (.t 0), some (7, true)⟩,
      ⟨some 10, .cl 120 [.t 9], some (7, true)⟩,
      ⟨some 11, .cm .lt (.t 8) (.t 10), some (7, true)⟩,
      ⟨some 12, .pick (.t 7) (.t 11) (.c (.bool false)), none⟩,
      ⟨some 4, .mov (.t 12), none⟩])
  (.ret)))
def F122 : Fn := .code 1 8 [.tmp 2] (
  .seq (.region [⟨some 2, .mov (.c (.int .i64 0)), none⟩])
  (.seq (.seq (.region [⟨some 3, .mov (.t 0), none⟩,
        ⟨some 4, .ce .p false (.t 3) (.c (.nilp)), none⟩])
    (.cond (.t 4) (.seq (.region [⟨some 2, .mov (.c (.int .i64 0)), none⟩])
      (.ret))
    (.skip)))
  (.seq (.region [⟨some 5, .mov (.t 0), none⟩,
      ⟨some 6, .nil (.t 5), none⟩,
      ⟨some 7, .fa 2 (.t 6), none⟩,
      ⟨some 8, .ld false 1 (.t 7), none⟩,
      ⟨some 2, .mov (.t 8), none⟩])
  (.ret))))
def F123 : Fn := .code 1 39 [.tmp 2, .tmp 3, .tmp 4, .tmp 5] (
  .seq (.region [⟨some 2, .mov (.c (.int .u32 0)), none⟩,
      ⟨some 3, .mov (.c (.int .i64 0)), none⟩,
      ⟨some 4, .mov (.c (.str [])), none⟩,
      ⟨some 5, .mov (.c (.int .i64 0)), none⟩])
  (.seq (.seq (.draw [.real 0 ⟨some 10, .mov (.t 0), none⟩,
        .real 1 ⟨some 11, .lens (.t 10), none⟩,
        .real 2 ⟨some 12, .cm .ne (.t 11) (.c (.int .i64 64)), none⟩,
        .real 3 ⟨some 13, .mov (.t 12), none⟩,
        .real 4 ⟨some 14, .mov (.t 0), some (13, false)⟩,
        .real 5 ⟨some 15, .sls (.t 14) none (some (.c (.int .i64 6))), some (13, false)⟩,
        .real 6 ⟨some 16, .mov (.t 0), some (13, false)⟩,
        .real 7 ⟨some 17, .sls (.t 16) (some (.c (.int .i64 58))) none, some (13, false)⟩,
        .real 8 ⟨some 18, .cm .ne (.t 15) (.t 17), some (13, false)⟩,
        .real 9 ⟨some 19, .pick (.t 13) (.c (.bool true)) (.t 18), none⟩])
    (.cond (.t 19) (.seq (.region [⟨some 2, .mov (.c (.int .u32 0)), none⟩,
          ⟨some 3, .mov (.c (.int .i64 0)), none⟩,
          ⟨some 4, .mov (.c (.str [])), none⟩,
          ⟨some 5, .mov (.c (.int .i64 4)), none⟩])
      (.ret))
    (.skip)))
  (.seq (.region [⟨some 21, .mov (.t 0), none⟩,
      ⟨some 22, .sls (.t 21) none (some (.c (.int .i64 4))), none⟩,
      ⟨some 23, .cl 155 [.t 22], none⟩,
      ⟨some 20, .mov (.t 23), none⟩,
      ⟨some 24, .ex 0 (.t 20), none⟩,
      ⟨some 25, .ex 1 (.t 20), none⟩,
      ⟨some 6, .mov (.t 24), none⟩,
      ⟨some 7, .mov (.t 25), none⟩])
  (.seq (.region [⟨some 27, .mov (.t 0), none⟩,
      ⟨some 28, .sls (.t 27) (some (.c (.int .i64 4))) (some (.c (.int .i64 6))), none⟩,
      ⟨some 29, .cl 155 [.t 28], none⟩,
      ⟨some 26, .mov (.t 29), none⟩,
      ⟨some 30, .ex 0 (.t 26), none⟩,
      ⟨some 31, .ex 1 (.t 26), none⟩,
      ⟨some 8, .mov (.t 30), none⟩,
      ⟨some 9, .mov (.t 31), none⟩])
  (.seq (.seq (.region [⟨some 32, .mov (.t 8), none⟩,
        ⟨some 33, .cm .eq (.t 32) (.c (.int .u64 0)), none⟩])
    (.cond (.t 33) (.seq (.region [⟨some 2, .mov (.c (.int .u32 0)), none⟩,
          ⟨some 3, .mov (.c (.int .i64 0)), none⟩,
          ⟨some 4, .mov (.c (.str [])), none⟩,
          ⟨some 5, .mov (.c (.int .i64 4)), none⟩])
      (.ret))
    (.skip)))
  (.seq (.draw [.real 0 ⟨some 34, .mov (.t 6), none⟩,
      .real 1 ⟨some 35, .cvi .u32 (.t 34), none⟩,
      .real 2 ⟨some 36, .mov (.t 8), none⟩,
      .real 3 ⟨some 37, .cvi .i64 (.t 36), none⟩,
      .real 4 ⟨some 38, .mov (.t 0), none⟩,
      .real 5 ⟨some 39, .sls (.t 38) (some (.c (.int .i64 6))) (some (.c (.int .i64 58))), none⟩,
      .real 6 ⟨some 2, .mov (.t 35), none⟩,
      .real 7 ⟨some 3, .mov (.t 37), none⟩,
      .real 8 ⟨some 4, .mov (.t 39), none⟩,
      .real 9 ⟨some 5, .mov (.c (.int .i64 0)), none⟩])
  (.ret)))))))
def F124 : Fn := .code 1 73 [.cell true 4 2, .tmp 3] (
  .seq (.region [⟨some 2, .alloc [.int .i64 0, .int .u32 0, .int .u32 0, .int .i64 0], none⟩,
      ⟨some 3, .mov (.c (.int .i64 0)), none⟩])
  (.seq (.seq (.region [⟨some 13, .mov (.t 0), none⟩,
        ⟨some 14, .lens (.t 13), none⟩,
        ⟨some 15, .cm .lt (.t 14) (.c (.int .i64 32)), none⟩])
    (.cond (.t 15) (.seq (.region [⟨some 16, .agg [.int .i64 0, .int .u32 0, .int .u32 0, .int .i64 0] [], none⟩,
          ⟨none, .st 4 (.t 2) (.t 16), none⟩,
          ⟨some 3, .mov (.c (.int .i64 3)), none⟩])
      (.ret))
    (.skip)))
  (.seq (.region [⟨some 4, .alloc [.int .u64 0, .int .u64 0, .int .u64 0, .int .u64 0], none⟩])
  (.seq (.region [⟨some 5, .mov (.c (.int .i64 2)), none⟩])
  (.seq (.seq (.region [⟨some 17, .agg [.int .i64 0, .int .u32 0, .int .u32 0, .int .i64 0] [], none⟩,
        ⟨some 18, .cl 133 [.t 17], none⟩,
        ⟨some 19, .mov (.c (.int .i64 0)), none⟩])
    (.block 0 (.loop [5, 19] [6, 7, 8, 9, 20, 21, 22, 23, 24, 25, 26, 27, 28, 29, 30, 31, 32, 33, 34, 35, 36, 37, 38, 39, 40, 41] (.seq (.region [⟨some 20, .cm .lt (.t 19) (.c (.int .i64 4)), none⟩])
        (.seq (.cond (.t 20) (.skip)
          (.exit 0))
        (.seq (.block 1 (.seq (.region [⟨some 21, .mov (.t 19), none⟩,
                ⟨some 22, .ixa true 4 2 (.t 18) (.t 19), none⟩,
                ⟨some 7, .alloc [.int .u64 0, .int .i64 0], none⟩,
                ⟨some 6, .mov (.t 21), none⟩,
                ⟨none, .st 2 (.t 7) (.t 22), none⟩])
            (.seq (.region [⟨some 24, .mov (.t 0), none⟩,
                ⟨some 25, .mov (.t 5), none⟩,
                ⟨some 26, .mov (.t 5), none⟩,
                ⟨some 27, .fa 1 (.t 7), none⟩,
                ⟨some 28, .ld false 1 (.t 27), none⟩,
                ⟨some 29, .bi .add (.t 26) (.t 28), none⟩,
                ⟨some 30, .sls (.t 24) (some (.t 25)) (some (.t 29)), none⟩,
                ⟨some 31, .cl 155 [.t 30], none⟩,
                ⟨some 23, .mov (.t 31), none⟩,
                ⟨some 32, .ex 0 (.t 23), none⟩,
                ⟨some 33, .ex 1 (.t 23), none⟩,
                ⟨some 8, .mov (.t 32), none⟩,
                ⟨some 9, .mov (.t 33), none⟩])
            (.seq (.region [⟨some 34, .mov (.t 6), none⟩,
                ⟨some 35, .mov (.t 8), none⟩,
                ⟨some 36, .ixp 4 1 (.t 4) (.t 34), none⟩,
                ⟨none, .st 1 (.t 36) (.t 35), none⟩])
            (.region [⟨some 37, .mov (.t 5), none⟩,
              ⟨some 38, .fa 1 (.t 7), none⟩,
              ⟨some 39, .ld false 1 (.t 38), none⟩,
              ⟨some 40, .bi .add (.t 37) (.t 39), none⟩,
              ⟨some 5, .mov (.t 40), none⟩])))))
        (.region [⟨some 41, .bi .add (.t 19) (.c (.int .i64 1)), none⟩,
          ⟨some 19, .mov (.t 41), none⟩])))))))
  (.seq (.seq (.region [⟨some 42, .ixp 4 1 (.t 4) (.c (.int .i64 3)), none⟩,
        ⟨some 43, .ld false 1 (.t 42), none⟩,
        ⟨some 44, .cm .gt (.t 43) (.c (.int .u64 1099511627776)), none⟩])
    (.cond (.t 44) (.seq (.region [⟨some 45, .agg [.int .i64 0, .int .u32 0, .int .u32 0, .int .i64 0] [], none⟩,
          ⟨none, .st 4 (.t 2) (.t 45), none⟩,
          ⟨some 3, .mov (.c (.int .i64 4)), none⟩])
      (.ret))
    (.skip)))
  (.seq (.region [⟨some 46, .ixp 4 1 (.t 4) (.c (.int .i64 0)), none⟩,
      ⟨some 47, .ld false 1 (.t 46), none⟩,
      ⟨some 48, .cvi .i64 (.t 47), none⟩,
      ⟨some 49, .ixp 4 1 (.t 4) (.c (.int .i64 1)), none⟩,
      ⟨some 50, .ld false 1 (.t 49), none⟩,
      ⟨some 51, .cvi .u32 (.t 50), none⟩,
      ⟨some 52, .ixp 4 1 (.t 4) (.c (.int .i64 2)), none⟩,
      ⟨some 53, .ld false 1 (.t 52), none⟩,
      ⟨some 54, .cvi .u32 (.t 53), none⟩,
      ⟨some 55, .ixp 4 1 (.t 4) (.c (.int .i64 3)), none⟩,
      ⟨some 56, .ld false 1 (.t 55), none⟩,
      ⟨some 57, .cvi .i64 (.t 56), none⟩,
      ⟨some 58, .agg [.int .i64 0, .int .u32 0, .int .u32 0, .int .i64 0] [(0, 1, .t 48), (1, 1, .t 51), (2, 1, .t 54), (3, 1, .t 57)], none⟩,
      ⟨some 10, .alloc [.int .i64 0, .int .u32 0, .int .u32 0, .int .i64 0], none⟩,
      ⟨none, .st 4 (.t 10) (.t 58), none⟩])
  (.seq (.region [⟨some 60, .ld true 4 (.t 10), none⟩,
      ⟨some 61, .cl 87 [.t 60], none⟩,
      ⟨some 59, .mov (.t 61), none⟩,
      ⟨some 62, .ex 0 (.t 59), none⟩,
      ⟨some 63, .ex 1 (.t 59), none⟩,
      ⟨some 11, .mov (.t 62), none⟩,
      ⟨some 12, .mov (.t 63), none⟩])
  (.seq (.seq (.region [⟨some 64, .mov (.t 12), none⟩,
        ⟨some 65, .cm .ne (.t 64) (.c (.int .i64 0)), none⟩,
        ⟨some 66, .mov (.t 65), none⟩,
        ⟨some 67, .mov (.t 11), some (66, false)⟩,
        ⟨some 68, .mov (.t 0), some (66, false)⟩,
        ⟨some 69, .sls (.t 68) none (some (.c (.int .i64 32))), some (66, false)⟩,
        ⟨some 70, .cm .ne (.t 67) (.t 69), some (66, false)⟩,
        ⟨some 71, .pick (.t 66) (.c (.bool true)) (.t 70), none⟩])
    (.cond (.t 71) (.seq (.region [⟨some 72, .agg [.int .i64 0, .int .u32 0, .int .u32 0, .int .i64 0] [], none⟩,
          ⟨none, .st 4 (.t 2) (.t 72), none⟩,
          ⟨some 3, .mov (.c (.int .i64 4)), none⟩])
      (.ret))
    (.skip)))
  (.seq (.region [⟨some 73, .ld true 4 (.t 10), none⟩,
      ⟨none, .st 4 (.t 2) (.t 73), none⟩,
      ⟨some 3, .mov (.c (.int .i64 0)), none⟩])
  (.ret)))))))))))
def F125 : Fn := .code 3 61 [.tmp 6] (
  .seq (.region [⟨some 6, .mov (.c (.bool false)), none⟩])
  (.seq (.seq (.region [⟨some 8, .mov (.t 1), none⟩,
        ⟨some 9, .mov (.t 0), none⟩,
        ⟨some 10, .nil (.t 9), none⟩,
        ⟨some 11, .fa 0 (.t 10), none⟩,
        ⟨some 12, .ld false 1 (.t 11), none⟩,
        ⟨some 13, .nil (.t 12), none⟩,
        ⟨some 14, .fa 7 (.t 13), none⟩,
        ⟨some 15, .ld false 1 (.t 14), none⟩,
        ⟨some 16, .bi .sub (.c (.int .i64 16)) (.t 15), none⟩,
        ⟨some 17, .cm .gt (.t 8) (.t 16), none⟩])
    (.cond (.t 17) (.seq (.region [⟨some 6, .mov (.c (.bool false)), none⟩])
      (.ret))
    (.skip)))
  (.seq (.seq (.region [⟨some 18, .mov (.t 1), none⟩,
        ⟨some 19, .mov (.c (.int .i64 0)), none⟩])
    (.block 0 (.loop [19] [6, 7, 20, 21, 22, 23, 24, 25, 26, 27, 28, 29, 30, 31, 32, 33, 34, 35, 36, 37, 38, 39, 40, 41, 42, 43, 44, 45, 46, 47, 48, 49, 50, 51, 52, 53, 54, 55, 56, 57, 58, 59, 60, 61, 62, 63] (.seq (.region [⟨some 20, .cm .lt (.t 19) (.t 18), none⟩])
        (.seq (.cond (.t 20) (.skip)
          (.exit 0))
        (.seq (.block 1 (.seq (.region [⟨some 21, .mov (.t 19), none⟩,
                ⟨some 7, .mov (.t 21), none⟩])
            (.seq (.draw [.real 0 ⟨some 22, .mov (.t 0), none⟩,
                .real 1 ⟨some 23, .mov (.t 0), none⟩,
                .real 2 ⟨some 24, .nil (.t 23), none⟩,
                .real 3 ⟨some 25, .fa 0 (.t 24), none⟩,
                .real 4 ⟨some 26, .ld false 1 (.t 25), none⟩,
                .real 5 ⟨some 27, .nil (.t 26), none⟩,
                .real 6 ⟨some 28, .fa 7 (.t 27), none⟩,
                .real 7 ⟨some 29, .ld false 1 (.t 28), none⟩,
                .real 8 ⟨some 30, .mov (.t 7), none⟩,
                .real 9 ⟨some 31, .bi .add (.t 29) (.t 30), none⟩,
                .real 10 ⟨some 32, .nil (.t 22), none⟩,
                .real 11 ⟨some 33, .fa 33 (.t 32), none⟩,
                .real 12 ⟨some 34, .ixp 16 1 (.t 33) (.t 31), none⟩,
                .real 13 ⟨some 35, .ld false 1 (.t 34), none⟩,
                .real 14 ⟨some 36, .mov (.t 2), none⟩,
                .real 15 ⟨some 37, .cm .ne (.t 35) (.t 36), none⟩,
                .real 16 ⟨some 38, .mov (.t 37), none⟩,
                .real 17 ⟨some 39, .mov (.t 0), some (38, false)⟩,
                .real 18 ⟨some 40, .mov (.t 0), some (38, false)⟩,
                .real 19 ⟨some 41, .nil (.t 40), some (38, false)⟩,
                .real 20 ⟨some 42, .fa 0 (.t 41), some (38, false)⟩,
                .real 21 ⟨some 43, .ld false 1 (.t 42), some (38, false)⟩,
                .real 22 ⟨some 44, .nil (.t 43), some (38, false)⟩,
                .real 23 ⟨some 45, .fa 7 (.t 44), some (38, false)⟩,
                .real 24 ⟨some 46, .ld false 1 (.t 45), some (38, false)⟩,
                .real 25 ⟨some 47, .mov (.t 7), some (38, false)⟩,
                .real 26 ⟨some 48, .bi .add (.t 46) (.t 47), some (38, false)⟩,
                .real 27 ⟨some 49, .nil (.t 39), some (38, false)⟩,
                .real 28 ⟨some 50, .fa 17 (.t 49), some (38, false)⟩,
                .real 29 ⟨some 51, .ixp 16 1 (.t 50) (.t 48), some (38, false)⟩,
                .real 30 ⟨some 52, .ld false 1 (.t 51), some (38, false)⟩,
                .real 31 ⟨some 53, .mov (.t 0), some (38, false)⟩,
                .real 32 ⟨some 54, .nil (.t 53), some (38, false)⟩,
                .real 33 ⟨some 55, .fa 0 (.t 54), some (38, false)⟩,
                .real 34 ⟨some 56, .ld false 1 (.t 55), some (38, false)⟩,
                .real 35 ⟨some 57, .nil (.t 56), some (38, false)⟩,
                .real 36 ⟨some 58, .fa 2 (.t 57), some (38, false)⟩,
                .real 37 ⟨some 59, .fa 2 (.t 58), some (38, false)⟩,
                .real 38 ⟨some 60, .ld false 1 (.t 59), some (38, false)⟩,
                .real 39 ⟨some 61, .cm .ne (.t 52) (.t 60), some (38, false)⟩,
                .real 40 ⟨some 62, .pick (.t 38) (.c (.bool true)) (.t 61), none⟩])
            (.cond (.t 62) (.seq (.region [⟨some 6, .mov (.c (.bool false)), none⟩])
              (.ret))
            (.skip)))))
        (.region [⟨some 63, .bi .add (.t 19) (.c (.int .i64 1)), none⟩,
          ⟨some 19, .mov (.t 63), none⟩])))))))
  (.seq (.region [⟨some 6, .mov (.c (.bool true)), none⟩])
  (.ret)))))
def F126 : Fn := .code 1 15 [.tmp 2] (
  .seq (.region [⟨some 2, .mov (.c (.int .i64 0)), none⟩])
  (.seq (.draw [.real 0 ⟨some 4, .mov (.t 0), none⟩,
      .real 1 ⟨some 5, .ixt (.t 4) (.c (.int .i64 0)), none⟩,
      .real 2 ⟨some 6, .cvi .i64 (.t 5), none⟩,
      .real 3 ⟨some 7, .sh .shl (.t 6) (.c (.int .u64 8)), none⟩,
      .real 4 ⟨some 8, .mov (.t 0), none⟩,
      .real 5 ⟨some 9, .ixt (.t 8) (.c (.int .i64 1)), none⟩,
      .real 6 ⟨some 10, .cvi .i64 (.t 9), none⟩,
      .real 7 ⟨some 11, .bi .or (.t 7) (.t 10), none⟩,
      .real 8 ⟨some 3, .mov (.t 11), none⟩])
  (.seq (.region [⟨some 12, .mov (.t 3), none⟩,
      ⟨some 13, .bi .add (.t 12) (.c (.int .i64 7)), none⟩,
      ⟨some 14, .bi .sub (.t 13) (.c (.int .i64 1)), none⟩,
      ⟨some 15, .cl 104 [.t 14], none⟩,
      ⟨some 2, .mov (.t 15), none⟩])
  (.ret))))
def F127 : Fn := .code 3 63 [.cell true 2 6, .tmp 7, .tmp 8] (
  .seq (.region [⟨some 6, .alloc [.int .i64 0, .str []], none⟩,
      ⟨some 7, .mov (.c (.int .i64 0)), none⟩,
      ⟨some 8, .mov (.c (.int .i64 0)), none⟩])
  (.seq (.block 0 (.seq (.region [⟨some 12, .mov (.t 1), none⟩,
          ⟨some 13, .cl 129 [.t 12], none⟩,
          ⟨some 14, .not (.t 13), none⟩,
          ⟨some 11, .mov (.t 14), none⟩])
      (.cond (.t 11) (.seq (.region [⟨some 15, .agg [.int .i64 0, .str []] [], none⟩,
            ⟨none, .st 2 (.t 6) (.t 15), none⟩,
            ⟨some 7, .mov (.c (.int .i64 0)), none⟩,
            ⟨some 8, .mov (.c (.int .i64 1)), none⟩])
        (.ret))
      (.seq (.region [⟨some 17, .mov (.t 2), none⟩,
            ⟨some 18, .lens (.t 17), none⟩,
            ⟨some 19, .cm .lt (.t 18) (.c (.int .i64 2)), none⟩,
            ⟨some 16, .mov (.t 19), none⟩])
        (.cond (.t 16) (.seq (.region [⟨some 20, .agg [.int .i64 0, .str []] [], none⟩,
              ⟨none, .st 2 (.t 6) (.t 20), none⟩,
              ⟨some 7, .mov (.c (.int .i64 0)), none⟩,
              ⟨some 8, .mov (.c (.int .i64 3)), none⟩])
          (.ret))
        (.skip))))))
  (.seq (.region [⟨some 21, .mov (.t 2), none⟩,
      ⟨some 22, .sls (.t 21) none (some (.c (.int .i64 2))), none⟩,
      ⟨some 23, .cl 156 [.t 22], none⟩,
      ⟨some 9, .mov (.t 23), none⟩])
  (.seq (.block 1 (.seq (.region [⟨some 25, .mov (.t 9), none⟩,
          ⟨some 26, .cm .eq (.t 25) (.c (.int .i64 0)), none⟩,
          ⟨some 24, .mov (.t 26), none⟩])
      (.cond (.t 24) (.seq (.region [⟨some 27, .agg [.int .i64 0, .str []] [], none⟩,
            ⟨none, .st 2 (.t 6) (.t 27), none⟩,
            ⟨some 7, .mov (.c (.int .i64 0)), none⟩,
            ⟨some 8, .mov (.c (.int .i64 6)), none⟩])
        (.ret))
      (.seq (.region [⟨some 29, .mov (.t 9), none⟩,
            ⟨some 30, .cm .gt (.t 29) (.c (.int .i64 774)), none⟩,
            ⟨some 28, .mov (.t 30), none⟩])
        (.cond (.t 28) (.seq (.region [⟨some 31, .agg [.int .i64 0, .str []] [], none⟩,
              ⟨none, .st 2 (.t 6) (.t 31), none⟩,
              ⟨some 7, .mov (.c (.int .i64 0)), none⟩,
              ⟨some 8, .mov (.c (.int .i64 2)), none⟩])
          (.ret))
        (.seq (.region [⟨some 33, .mov (.t 2), none⟩,
              ⟨some 34, .lens (.t 33), none⟩,
              ⟨some 35, .mov (.t 9), none⟩,
              ⟨some 36, .bi .add (.c (.int .i64 6)) (.t 35), none⟩,
              ⟨some 37, .cm .lt (.t 34) (.t 36), none⟩,
              ⟨some 32, .mov (.t 37), none⟩])
          (.cond (.t 32) (.seq (.region [⟨some 38, .agg [.int .i64 0, .str []] [], none⟩,
                ⟨none, .st 2 (.t 6) (.t 38), none⟩,
                ⟨some 7, .mov (.c (.int .i64 0)), none⟩,
                ⟨some 8, .mov (.c (.int .i64 3)), none⟩])
            (.ret))
          (.skip))))))))
  (.seq (.region [⟨some 39, .mov (.t 2), none⟩,
      ⟨some 40, .mov (.t 9), none⟩,
      ⟨some 41, .bi .add (.c (.int .i64 6)) (.t 40), none⟩,
      ⟨some 42, .sls (.t 39) (some (.c (.int .i64 6))) (some (.t 41)), none⟩,
      ⟨some 10, .mov (.t 42), none⟩])
  (.seq (.seq (.region [⟨some 43, .mov (.t 10), none⟩,
        ⟨some 44, .ixt (.t 43) (.c (.int .i64 0)), none⟩,
        ⟨some 45, .cm .eq (.t 44) (.c (.int .u8 0)), none⟩,
        ⟨some 46, .mov (.t 45), none⟩,
        ⟨some 47, .mov (.t 2), some (46, false)⟩,
        ⟨some 48, .sls (.t 47) (some (.c (.int .i64 2))) (some (.c (.int .i64 6))), some (46, false)⟩,
        ⟨some 49, .cl 156 [.t 48], some (46, false)⟩,
        ⟨some 50, .mov (.t 0), some (46, false)⟩,
        ⟨some 51, .mov (.t 1), some (46, false)⟩,
        ⟨some 52, .mov (.t 10), some (46, false)⟩,
        ⟨some 53, .cl 131 [.t 50, .t 51, .t 52], some (46, false)⟩,
        ⟨some 54, .cvi .i64 (.t 53), some (46, false)⟩,
        ⟨some 55, .cm .ne (.t 49) (.t 54), some (46, false)⟩,
        ⟨some 56, .pick (.t 46) (.c (.bool true)) (.t 55), none⟩])
    (.cond (.t 56) (.seq (.region [⟨some 57, .agg [.int .i64 0, .str []] [], none⟩,
          ⟨none, .st 2 (.t 6) (.t 57), none⟩,
          ⟨some 7, .mov (.c (.int .i64 0)), none⟩,
          ⟨some 8, .mov (.c (.int .i64 4)), none⟩])
      (.ret))
    (.skip)))
  (.seq (.draw [.real 0 ⟨some 58, .mov (.t 10), none⟩,
      .real 1 ⟨some 59, .ixt (.t 58) (.c (.int .i64 0)), none⟩,
      .real 2 ⟨some 60, .cvi .i64 (.t 59), none⟩,
      .real 3 ⟨some 61, .mov (.t 10), none⟩,
      .real 4 ⟨some 62, .sls (.t 61) (some (.c (.int .i64 1))) none, none⟩,
      .real 5 ⟨some 63, .agg [.int .i64 0, .str []] [(0, 1, .t 60), (1, 1, .t 62)], none⟩,
      .real 6 ⟨some 64, .mov (.t 9), none⟩,
      .real 7 ⟨some 65, .bi .add (.c (.int .i64 6)) (.t 64), none⟩,
      .real 8 ⟨none, .st 2 (.t 6) (.t 63), none⟩,
      .real 9 ⟨some 7, .mov (.t 65), none⟩,
      .real 10 ⟨some 8, .mov (.c (.int .i64 0)), none⟩])
  (.ret))))))))
def F129 : Fn := .code 1 8 [.tmp 2] (
  .seq (.region [⟨some 2, .mov (.c (.bool false)), none⟩])
  (.seq (.region [⟨some 3, .mov (.t 0), none⟩,
      ⟨some 4, .cm .ge (.t 3) (.c (.int .i64 1)), none⟩,
      ⟨some 5, .mov (.t 4), none⟩,
      ⟨some 6, .mov (.t 0), some (5, true)⟩,
      ⟨some 7, .cm .lt (.t 6) (.c (.int .i64 16)), some (5, true)⟩,
      ⟨some 8, .pick (.t 5) (.t 7) (.c (.bool false)), none⟩,
      ⟨some 2, .mov (.t 8), none⟩])
  (.ret)))
def F130 : Fn := .code 2 13 [.tmp 4] (
  .seq (.region [⟨some 4, .mov (.c (.str [])), none⟩])
  (.seq (.region [⟨some 8, .mov (.t 0), none⟩,
      ⟨some 9, .cvi .u64 (.t 8), none⟩,
      ⟨some 10, .mov (.t 1), none⟩,
      ⟨some 11, .cl 134 [.t 9, .t 10], none⟩,
      ⟨some 7, .mov (.t 11), none⟩,
      ⟨some 12, .ex 0 (.t 7), none⟩,
      ⟨some 13, .ex 1 (.t 7), none⟩,
      ⟨some 5, .mov (.t 12), none⟩,
      ⟨some 6, .mov (.t 13), none⟩])
  (.seq (.region [⟨some 14, .mov (.t 5), none⟩,
      ⟨some 4, .mov (.t 14), none⟩])
  (.ret))))
def F131 : Fn := .code 3 15 [.tmp 6] (
  .seq (.region [⟨some 6, .mov (.c (.int .u32 0)), none⟩])
  (.seq (.region [⟨some 7, .mov (.t 0), none⟩,
      ⟨some 8, .cvi .i64 (.t 7), none⟩,
      ⟨some 9, .cl 130 [.t 8, .c (.int .i64 4)], none⟩,
      ⟨some 10, .mov (.t 1), none⟩,
      ⟨some 11, .cl 130 [.t 10, .c (.int .i64 2)], none⟩,
      ⟨some 12, .mov (.t 2), none⟩,
      ⟨some 13, .lens (.t 12), none⟩,
      ⟨some 14, .cl 130 [.t 13, .c (.int .i64 2)], none⟩,
      ⟨some 15, .mov (.t 2), none⟩,
      ⟨some 16, .bsl 1 [.t 9, .t 11, .t 14, .t 15], none⟩,
      ⟨some 17, .cl 157 [.t 16], none⟩,
      ⟨some 6, .mov (.t 17), none⟩])
  (.ret)))
def F132 : Fn := .code 3 32 [.tmp 6, .tmp 7] (
  .seq (.region [⟨some 6, .mov (.c (.str [])), none⟩,
      ⟨some 7, .mov (.c (.int .i64 0)), none⟩])
  (.seq (.seq (.region [⟨some 10, .mov (.t 1), none⟩,
        ⟨some 11, .cm .lt (.t 10) (.c (.int .i64 1)), none⟩,
        ⟨some 12, .mov (.t 11), none⟩,
        ⟨some 13, .mov (.t 1), some (12, false)⟩,
        ⟨some 14, .cm .gt (.t 13) (.c (.int .i64 65535)), some (12, false)⟩,
        ⟨some 15, .pick (.t 12) (.c (.bool true)) (.t 14), none⟩,
        ⟨some 16, .mov (.t 15), none⟩,
        ⟨some 17, .mov (.t 2), some (16, false)⟩,
        ⟨some 18, .lens (.t 17), some (16, false)⟩,
        ⟨some 19, .cm .ne (.t 18) (.c (.int .i64 52)), some (16, false)⟩,
        ⟨some 20, .pick (.t 16) (.c (.bool true)) (.t 19), none⟩])
    (.cond (.t 20) (.seq (.region [⟨some 6, .mov (.c (.str [])), none⟩,
          ⟨some 7, .mov (.c (.int .i64 1)), none⟩])
      (.ret))
    (.skip)))
  (.seq (.region [⟨some 8, .alloc (reps 64 (.int .u8 0)), none⟩])
  (.seq (.region [⟨some 21, .mov (.t 0), none⟩,
      ⟨some 22, .mov (.t 1), none⟩,
      ⟨some 23, .cl 158 [.t 21, .t 22], none⟩,
      ⟨some 9, .mov (.t 23), none⟩])
  (.seq (.region [⟨some 24, .sla 64 1 (.t 8) none none, none⟩,
      ⟨some 25, .mov (.t 9), none⟩,
      ⟨some 26, .cpy 1 (.t 24) (.t 25), none⟩])
  (.seq (.region [⟨some 27, .sla 64 1 (.t 8) (some (.c (.int .i64 6))) none, none⟩,
      ⟨some 28, .mov (.t 2), none⟩,
      ⟨some 29, .cpy 1 (.t 27) (.t 28), none⟩])
  (.seq (.region [⟨some 30, .sla 64 1 (.t 8) (some (.c (.int .i64 58))) none, none⟩,
      ⟨some 31, .mov (.t 9), none⟩,
      ⟨some 32, .cpy 1 (.t 30) (.t 31), none⟩])
  (.seq (.region [⟨some 33, .sla 64 1 (.t 8) none none, none⟩,
      ⟨some 34, .cvs (.t 33), none⟩,
      ⟨some 6, .mov (.t 34), none⟩,
      ⟨some 7, .mov (.c (.int .i64 0)), none⟩])
  (.ret)))))))))
def F133 : Fn := .code 1 19 [.cell true 8 2] (
  .seq (.region [⟨some 1, .box 4 (.t 0), none⟩,
      ⟨some 2, .alloc [.int .u64 0, .int .i64 0, .int .u64 0, .int .i64 0, .int .u64 0, .int .i64 0, .int .u64 0, .int .i64 0], none⟩])
  (.seq (.region [⟨some 3, .fa 0 (.t 1), none⟩,
      ⟨some 4, .ld false 1 (.t 3), none⟩,
      ⟨some 5, .cvi .u64 (.t 4), none⟩,
      ⟨some 6, .agg [.int .u64 0, .int .i64 0] [(0, 1, .t 5), (1, 1, .c (.int .i64 2))], none⟩,
      ⟨some 7, .fa 1 (.t 1), none⟩,
      ⟨some 8, .ld false 1 (.t 7), none⟩,
      ⟨some 9, .cvi .u64 (.t 8), none⟩,
      ⟨some 10, .agg [.int .u64 0, .int .i64 0] [(0, 1, .t 9), (1, 1, .c (.int .i64 4))], none⟩,
      ⟨some 11, .fa 2 (.t 1), none⟩,
      ⟨some 12, .ld false 1 (.t 11), none⟩,
      ⟨some 13, .cvi .u64 (.t 12), none⟩,
      ⟨some 14, .agg [.int .u64 0, .int .i64 0] [(0, 1, .t 13), (1, 1, .c (.int .i64 4))], none⟩,
      ⟨some 15, .fa 3 (.t 1), none⟩,
      ⟨some 16, .ld false 1 (.t 15), none⟩,
      ⟨some 17, .cvi .u64 (.t 16), none⟩,
      ⟨some 18, .agg [.int .u64 0, .int .i64 0] [(0, 1, .t 17), (1, 1, .c (.int .i64 8))], none⟩,
      ⟨some 19, .agg [.int .u64 0, .int .i64 0, .int .u64 0, .int .i64 0, .int .u64 0, .int .i64 0, .int .u64 0, .int .i64 0] [(0, 2, .t 6), (2, 2, .t 10), (4, 2, .t 14), (6, 2, .t 18)], none⟩,
      ⟨none, .st 8 (.t 2) (.t 19), none⟩])
  (.ret)))
def F134 : Fn := .code 2 41 [.tmp 4, .tmp 5] (
  .seq (.region [⟨some 4, .mov (.c (.str [])), none⟩,
      ⟨some 5, .mov (.c (.int .i64 0)), none⟩])
  (.seq (.seq (.region [⟨some 8, .mov (.t 1), none⟩,
        ⟨some 9, .cm .lt (.t 8) (.c (.int .i64 1)), none⟩,
        ⟨some 10, .mov (.t 9), none⟩,
        ⟨some 11, .mov (.t 1), some (10, false)⟩,
        ⟨some 12, .cm .gt (.t 11) (.c (.int .i64 8)), some (10, false)⟩,
        ⟨some 13, .pick (.t 10) (.c (.bool true)) (.t 12), none⟩,
        ⟨some 14, .mov (.t 13), none⟩,
        ⟨some 15, .mov (.t 1), some (14, false)⟩,
        ⟨some 16, .cm .lt (.t 15) (.c (.int .i64 8)), some (14, false)⟩,
        ⟨some 17, .mov (.t 16), some (14, false)⟩,
        ⟨some 18, .mov (.t 0), some (17, true)⟩,
        ⟨some 19, .mov (.t 1), some (17, true)⟩,
        ⟨some 20, .bi .mul (.c (.int .i64 8)) (.t 19), some (17, true)⟩,
        ⟨some 21, .sh .shr (.t 18) (.t 20), some (17, true)⟩,
        ⟨some 22, .cm .ne (.t 21) (.c (.int .u64 0)), some (17, true)⟩,
        ⟨some 23, .pick (.t 17) (.t 22) (.c (.bool false)), some (14, false)⟩,
        ⟨some 24, .pick (.t 14) (.c (.bool true)) (.t 23), none⟩])
    (.cond (.t 24) (.seq (.region [⟨some 4, .mov (.c (.str [])), none⟩,
          ⟨some 5, .mov (.c (.int .i64 1)), none⟩])
      (.ret))
    (.skip)))
  (.seq (.region [⟨some 6, .alloc [.int .u8 0, .int .u8 0, .int .u8 0, .int .u8 0, .int .u8 0, .int .u8 0, .int .u8 0, .int .u8 0], none⟩])
  (.seq (.seq (.region [⟨some 25, .mov (.t 1), none⟩,
        ⟨some 26, .mov (.c (.int .i64 0)), none⟩])
    (.block 0 (.loop [26] [7, 27, 28, 29, 30, 31, 32, 33, 34, 35, 36, 37, 38, 39] (.seq (.region [⟨some 27, .cm .lt (.t 26) (.t 25), none⟩])
        (.seq (.cond (.t 27) (.skip)
          (.exit 0))
        (.seq (.block 1 (.seq (.region [⟨some 28, .mov (.t 26), none⟩,
                ⟨some 7, .mov (.t 28), none⟩])
            (.region [⟨some 29, .mov (.t 7), none⟩,
              ⟨some 30, .mov (.t 0), none⟩,
              ⟨some 31, .mov (.t 1), none⟩,
              ⟨some 32, .bi .sub (.t 31) (.c (.int .i64 1)), none⟩,
              ⟨some 33, .mov (.t 7), none⟩,
              ⟨some 34, .bi .sub (.t 32) (.t 33), none⟩,
              ⟨some 35, .bi .mul (.c (.int .i64 8)) (.t 34), none⟩,
              ⟨some 36, .sh .shr (.t 30) (.t 35), none⟩,
              ⟨some 37, .cvi .u8 (.t 36), none⟩,
              ⟨some 38, .ixp 8 1 (.t 6) (.t 29), none⟩,
              ⟨none, .st 1 (.t 38) (.t 37), none⟩])))
        (.region [⟨some 39, .bi .add (.t 26) (.c (.int .i64 1)), none⟩,
          ⟨some 26, .mov (.t 39), none⟩])))))))
  (.seq (.region [⟨some 40, .mov (.t 1), none⟩,
      ⟨some 41, .sla 8 1 (.t 6) none (some (.t 40)), none⟩,
      ⟨some 42, .cvs (.t 41), none⟩,
      ⟨some 4, .mov (.t 42), none⟩,
      ⟨some 5, .mov (.c (.int .i64 0)), none⟩])
  (.ret))))))
def F135 : Fn := .code 2 11 [.tmp 4] (
  .seq (.region [⟨some 4, .mov (.c (.int .u32 0)), none⟩])
  (.seq (.region [⟨some 6, .mov (.t 0), none⟩,
      ⟨some 7, .cl 159 [.t 6], none⟩,
      ⟨some 5, .mov (.t 7), none⟩])
  (.seq (.region [⟨some 8, .mov (.t 5), none⟩,
      ⟨some 9, .mov (.t 1), none⟩,
      ⟨some 10, .cl 160 [.t 8, .t 9], none⟩])
  (.seq (.region [⟨some 11, .mov (.t 5), none⟩,
      ⟨some 12, .cl 161 [.t 11], none⟩,
      ⟨some 4, .mov (.t 12), none⟩])
  (.ret)))))
def F153 : Fn := .code 2 20 [.tmp 4, .tmp 5] (
  .seq (.region [⟨some 4, .mov (.c (.str [])), none⟩,
      ⟨some 5, .mov (.c (.int .i64 0)), none⟩])
  (.seq (.block 0 (.seq (.region [⟨some 7, .mov (.t 0), none⟩,
          ⟨some 8, .ce .p false (.t 7) (.c (.nilp)), none⟩,
          ⟨some 6, .mov (.t 8), none⟩])
      (.cond (.t 6) (.seq (.region [⟨some 4, .mov (.c (.str [])), none⟩,
            ⟨some 5, .mov (.c (.int .i64 7)), none⟩])
        (.ret))
      (.seq (.region [⟨some 10, .mov (.t 0), none⟩,
            ⟨some 11, .mov (.t 1), none⟩,
            ⟨some 12, .cl 121 [.t 10, .t 11], none⟩,
            ⟨some 13, .not (.t 12), none⟩,
            ⟨some 9, .mov (.t 13), none⟩])
        (.cond (.t 9) (.seq (.region [⟨some 4, .mov (.c (.str [])), none⟩,
              ⟨some 5, .mov (.c (.int .i64 20)), none⟩])
          (.ret))
        (.skip))))))
  (.seq (.region [⟨some 14, .mov (.t 0), none⟩,
      ⟨some 15, .nil (.t 14), none⟩,
      ⟨some 16, .fa 0 (.t 15), none⟩,
      ⟨some 17, .ld false 1 (.t 16), none⟩,
      ⟨some 18, .mov (.t 1), none⟩,
      ⟨some 19, .ixs 64 (.t 17) (.t 18), none⟩,
      ⟨some 20, .sla 64 1 (.t 19) none none, none⟩,
      ⟨some 21, .cvs (.t 20), none⟩,
      ⟨some 4, .mov (.t 21), none⟩,
      ⟨some 5, .mov (.c (.int .i64 0)), none⟩])
  (.ret))))
def F154 : Fn := .code 1 10 [.tmp 2] (
  .seq (.region [⟨some 2, .mov (.c (.int .u32 0)), none⟩])
  (.seq (.seq (.region [⟨some 3, .mov (.t 0), none⟩,
        ⟨some 4, .bi .rem (.t 3) (.c (.int .u32 2)), none⟩,
        ⟨some 5, .cm .eq (.t 4) (.c (.int .u32 1)), none⟩])
    (.cond (.t 5) (.seq (.region [⟨some 6, .mov (.t 0), none⟩,
          ⟨some 7, .bi .quo (.t 6) (.c (.int .u32 2)), none⟩,
          ⟨some 8, .bi .xor (.t 7) (.c (.int .u32 3988292384)), none⟩,
          ⟨some 2, .mov (.t 8), none⟩])
      (.ret))
    (.skip)))
  (.seq (.region [⟨some 9, .mov (.t 0), none⟩,
      ⟨some 10, .bi .quo (.t 9) (.c (.int .u32 2)), none⟩,
      ⟨some 2, .mov (.t 10), none⟩])
  (.ret))))
def F155 : Fn := .code 1 26 [.tmp 2, .tmp 3] (
  .seq (.region [⟨some 2, .mov (.c (.int .u64 0)), none⟩,
      ⟨some 3, .mov (.c (.int .i64 0)), none⟩])
  (.seq (.seq (.region [⟨some 6, .mov (.t 0), none⟩,
        ⟨some 7, .cm .eq (.t 6) (.c (.str [])), none⟩,
        ⟨some 8, .mov (.t 7), none⟩,
        ⟨some 9, .mov (.t 0), some (8, false)⟩,
        ⟨some 10, .lens (.t 9), some (8, false)⟩,
        ⟨some 11, .cm .gt (.t 10) (.c (.int .i64 8)), some (8, false)⟩,
        ⟨some 12, .pick (.t 8) (.c (.bool true)) (.t 11), none⟩])
    (.cond (.t 12) (.seq (.region [⟨some 2, .mov (.c (.int .u64 0)), none⟩,
          ⟨some 3, .mov (.c (.int .i64 1)), none⟩])
      (.ret))
    (.skip)))
  (.seq (.region [⟨some 4, .mov (.c (.int .u64 0)), none⟩])
  (.seq (.seq (.region [⟨some 13, .mov (.t 0), none⟩,
        ⟨some 14, .lens (.t 13), none⟩,
        ⟨some 15, .mov (.c (.int .i64 0)), none⟩])
    (.block 0 (.loop [4, 15] [5, 16, 17, 18, 19, 20, 21, 22, 23, 24, 25] (.seq (.region [⟨some 16, .cm .lt (.t 15) (.t 14), none⟩])
        (.seq (.cond (.t 16) (.skip)
          (.exit 0))
        (.seq (.block 1 (.seq (.region [⟨some 17, .mov (.t 15), none⟩,
                ⟨some 5, .mov (.t 17), none⟩])
            (.region [⟨some 18, .mov (.t 4), none⟩,
              ⟨some 19, .sh .shl (.t 18) (.c (.int .u64 8)), none⟩,
              ⟨some 20, .mov (.t 0), none⟩,
              ⟨some 21, .mov (.t 5), none⟩,
              ⟨some 22, .ixt (.t 20) (.t 21), none⟩,
              ⟨some 23, .cvi .u64 (.t 22), none⟩,
              ⟨some 24, .bi .or (.t 19) (.t 23), none⟩,
              ⟨some 4, .mov (.t 24), none⟩])))
        (.region [⟨some 25, .bi .add (.t 15) (.c (.int .i64 1)), none⟩,
          ⟨some 15, .mov (.t 25), none⟩])))))))
  (.seq (.region [⟨some 26, .mov (.t 4), none⟩,
      ⟨some 2, .mov (.t 26), none⟩,
      ⟨some 3, .mov (.c (.int .i64 0)), none⟩])
  (.ret))))))
def F156 : Fn := .code 1 11 [.tmp 2] (
  .seq (.region [⟨some 2, .mov (.c (.int .i64 0)), none⟩])
  (.seq (.region [⟨some 6, .mov (.t 0), none⟩,
      ⟨some 7, .cl 155 [.t 6], none⟩,
      ⟨some 5, .mov (.t 7), none⟩,
      ⟨some 8, .ex 0 (.t 5), none⟩,
      ⟨some 9, .ex 1 (.t 5), none⟩,
      ⟨some 3, .mov (.t 8), none⟩,
      ⟨some 4, .mov (.t 9), none⟩])
  (.seq (.region [⟨some 10, .mov (.t 3), none⟩,
      ⟨some 11, .cvi .i64 (.t 10), none⟩,
      ⟨some 2, .mov (.t 11), none⟩])
  (.ret))))
def F157 : Fn := .code 1 18 [.tmp 2] (
  .seq (.region [⟨some 2, .mov (.c (.int .u32 0)), none⟩])
  (.seq (.region [⟨some 6, .cl 159 [.c (.int .u32 0)], none⟩,
      ⟨some 3, .mov (.t 6), none⟩])
  (.seq (.seq (.region [⟨some 7, .mov (.t 0), none⟩,
        ⟨some 8, .lenl (.t 7), none⟩,
        ⟨some 9, .mov (.c (.int .i64 0)), none⟩])
    (.block 0 (.loop [9] [5, 10, 11, 12, 13, 14, 15, 16] (.seq (.region [⟨some 10, .cm .lt (.t 9) (.t 8), none⟩])
        (.seq (.cond (.t 10) (.skip)
          (.exit 0))
        (.seq (.block 1 (.seq (.region [⟨some 11, .ixs 1 (.t 7) (.t 9), none⟩,
                ⟨some 12, .ld false 1 (.t 11), none⟩,
                ⟨some 5, .mov (.t 12), none⟩])
            (.region [⟨some 13, .mov (.t 3), none⟩,
              ⟨some 14, .mov (.t 5), none⟩,
              ⟨some 15, .cl 160 [.t 13, .t 14], none⟩])))
        (.region [⟨some 16, .bi .add (.t 9) (.c (.int .i64 1)), none⟩,
          ⟨some 9, .mov (.t 16), none⟩])))))))
  (.seq (.region [⟨some 17, .mov (.t 3), none⟩,
      ⟨some 18, .cl 161 [.t 17], none⟩,
      ⟨some 2, .mov (.t 18), none⟩])
  (.ret)))))
def F158 : Fn := .code 2 22 [.tmp 4] (
  .seq (.region [⟨some 4, .mov (.c (.str [])), none⟩])
  (.seq (.region [⟨some 10, .mov (.t 0), none⟩,
      ⟨some 11, .cvi .u64 (.t 10), none⟩,
      ⟨some 12, .cl 134 [.t 11, .c (.int .i64 4)], none⟩,
      ⟨some 9, .mov (.t 12), none⟩,
      ⟨some 13, .ex 0 (.t 9), none⟩,
      ⟨some 14, .ex 1 (.t 9), none⟩,
      ⟨some 5, .mov (.t 13), none⟩,
      ⟨some 6, .mov (.t 14), none⟩])
  (.seq (.region [⟨some 16, .mov (.t 1), none⟩,
      ⟨some 17, .cvi .u64 (.t 16), none⟩,
      ⟨some 18, .cl 134 [.t 17, .c (.int .i64 2)], none⟩,
      ⟨some 15, .mov (.t 18), none⟩,
      ⟨some 19, .ex 0 (.t 15), none⟩,
      ⟨some 20, .ex 1 (.t 15), none⟩,
      ⟨some 7, .mov (.t 19), none⟩,
      ⟨some 8, .mov (.t 20), none⟩])
  (.seq (.region [⟨some 21, .mov (.t 5), none⟩,
      ⟨some 22, .mov (.t 7), none⟩,
      ⟨some 23, .adds (.t 21) (.t 22), none⟩,
      ⟨some 4, .mov (.t 23), none⟩])
  (.ret)))))
def F159 : Fn := .code 1 6 [.tmp 2] (
  .seq (.region [⟨some 2, .mov (.c (.nilp)), none⟩])
  (.seq (.region [⟨some 3, .mov (.t 0), none⟩,
      ⟨some 4, .cpl (.t 3), none⟩,
      ⟨some 5, .agg [.int .u32 0] [(0, 1, .t 4)], none⟩,
      ⟨some 6, .box 1 (.t 5), none⟩,
      ⟨some 2, .mov (.t 6), none⟩])
  (.ret)))
def F160 : Fn := .code 2 22 [] (
  .seq (.seq (.region [⟨some 5, .mov (.t 0), none⟩,
        ⟨some 6, .ce .p false (.t 5) (.c (.nilp)), none⟩])
    (.cond (.t 6) (.ret)
    (.skip)))
  (.seq (.region [⟨some 7, .mov (.t 1), none⟩,
      ⟨some 8, .lens (.t 7), none⟩,
      ⟨some 9, .mov (.c (.int .i64 0)), none⟩])
  (.block 0 (.loop [9] [4, 10, 11, 12, 13, 14, 15, 16, 17, 18, 19, 20, 21, 22, 23] (.seq (.region [⟨some 10, .cm .lt (.t 9) (.t 8), none⟩])
      (.seq (.cond (.t 10) (.skip)
        (.exit 0))
      (.seq (.block 1 (.seq (.region [⟨some 11, .mov (.t 9), none⟩,
              ⟨some 4, .mov (.t 11), none⟩])
          (.draw [.real 0 ⟨some 12, .mov (.t 0), none⟩,
            .real 1 ⟨some 13, .mov (.t 0), none⟩,
            .real 2 ⟨some 14, .nil (.t 13), none⟩,
            .real 3 ⟨some 15, .fa 0 (.t 14), none⟩,
            .real 4 ⟨some 16, .ld false 1 (.t 15), none⟩,
            .real 5 ⟨some 17, .mov (.t 1), none⟩,
            .real 6 ⟨some 18, .mov (.t 4), none⟩,
            .real 7 ⟨some 19, .ixt (.t 17) (.t 18), none⟩,
            .real 8 ⟨some 20, .cl 171 [.t 16, .t 19], none⟩,
            .real 9 ⟨some 21, .nil (.t 12), none⟩,
            .real 10 ⟨some 22, .fa 0 (.t 21), none⟩,
            .real 11 ⟨none, .st 1 (.t 22) (.t 20), none⟩])))
      (.region [⟨some 23, .bi .add (.t 9) (.c (.int .i64 1)), none⟩,
        ⟨some 9, .mov (.t 23), none⟩]))))))))
def F161 : Fn := .code 1 9 [.tmp 2] (
  .seq (.region [⟨some 2, .mov (.c (.int .u32 0)), none⟩])
  (.seq (.seq (.region [⟨some 3, .mov (.t 0), none⟩,
        ⟨some 4, .ce .p false (.t 3) (.c (.nilp)), none⟩])
    (.cond (.t 4) (.seq (.region [⟨some 2, .mov (.c (.int .u32 0)), none⟩])
      (.ret))
    (.skip)))
  (.seq (.region [⟨some 5, .mov (.t 0), none⟩,
      ⟨some 6, .nil (.t 5), none⟩,
      ⟨some 7, .fa 0 (.t 6), none⟩,
      ⟨some 8, .ld false 1 (.t 7), none⟩,
      ⟨some 9, .cpl (.t 8), none⟩,
      ⟨some 2, .mov (.t 9), none⟩])
  (.ret))))
def F171 : Fn := .code 2 20 [.tmp 4] (
  .seq (.region [⟨some 4, .mov (.c (.int .u32 0)), none⟩])
  (.seq (.region [⟨some 6, .mov (.t 0), none⟩,
      ⟨some 7, .mov (.t 1), none⟩,
      ⟨some 8, .cvi .u32 (.t 7), none⟩,
      ⟨some 9, .bi .xor (.t 6) (.t 8), none⟩,
      ⟨some 0, .mov (.t 9), none⟩])
  (.seq (.seq (.region [⟨some 10, .mov (.c (.int .i64 0)), none⟩])
    (.block 0 (.loop [0, 10] [5, 11, 12, 13, 14, 15, 16, 17, 18, 19, 20] (.seq (.region [⟨some 11, .cm .lt (.t 10) (.c (.int .i64 8)), none⟩])
        (.seq (.cond (.t 11) (.skip)
          (.exit 0))
        (.seq (.block 1 (.seq (.region [⟨some 12, .mov (.t 0), none⟩,
                ⟨some 13, .bi .and (.t 12) (.c (.int .u32 1)), none⟩,
                ⟨some 14, .neg (.t 13), none⟩,
                ⟨some 5, .mov (.t 14), none⟩])
            (.region [⟨some 15, .mov (.t 0), none⟩,
              ⟨some 16, .sh .shr (.t 15) (.c (.int .u64 1)), none⟩,
              ⟨some 17, .mov (.t 5), none⟩,
              ⟨some 18, .bi .and (.t 17) (.c (.int .u32 3988292384)), none⟩,
              ⟨some 19, .bi .xor (.t 16) (.t 18), none⟩,
              ⟨some 0, .mov (.t 19), none⟩])))
        (.region [⟨some 20, .bi .add (.t 10) (.c (.int .i64 1)), none⟩,
          ⟨some 10, .mov (.t 20), none⟩])))))))
  (.seq (.region [⟨some 21, .mov (.t 0), none⟩,
      ⟨some 4, .mov (.t 21), none⟩])
  (.ret)))))
end Go.AM.T

/- Part 6 of the proof of BagTells: lemmas. -/
import Derived.Test.YtcmejdkjfekoeaaBagTellsJ5
import Derived.Test.YtcmejdkjfekoeaaProg
import Derived.KernelRfl
namespace Go.Proofs.Ytcmejdkjfekoeaa
open Go.Pl
/- cuboid/cuboidlaw08.BagEnds -/
def r3_0 : List POp := [⟨some 2, .mv (.k (.bool false)), none⟩]
def r3_1 : List POp := [⟨some 16, .mv (.t 0), none⟩,
  ⟨some 17, .len (.t 16), none⟩,
  ⟨some 18, .bin .gtr (.t 17) (.k (.int .i64 60)), none⟩]
def r3_2 : List POp := [⟨some 19, .call false 20 [], none⟩,
  ⟨some 2, .mv (.t 19), none⟩]
def r3_3 : List POp := [⟨some 20, .mv (.t 0), none⟩,
  ⟨some 21, .call false 21 [(.t 20)], none⟩,
  ⟨some 3, .mv (.t 21), none⟩]
def r3_4 : List POp := [⟨some 4, .mv (.k (.int .i64 0)), none⟩]
def r3_5 : List POp := [⟨some 22, .mv (.t 4), none⟩,
  ⟨some 23, .mv (.t 0), none⟩,
  ⟨some 24, .len (.t 23), none⟩,
  ⟨some 25, .bin .lss (.t 22) (.t 24), none⟩]
def r3_7 : List POp := [⟨some 28, .mv (.t 0), none⟩,
  ⟨some 29, .mv (.t 4), none⟩,
  ⟨some 30, .iaS 1 (.t 28) (.t 29), none⟩,
  ⟨some 31, .load false 1 (.t 30) [], none⟩,
  ⟨some 32, .mv (.t 0), none⟩,
  ⟨some 33, .mv (.t 4), none⟩,
  ⟨some 34, .iaS 1 (.t 32) (.t 33), none⟩,
  ⟨some 35, .load false 1 (.t 34) [], none⟩,
  ⟨some 5, .mv (.t 31), none⟩,
  ⟨some 6, .mv (.t 35), none⟩]
def r3_8 : List POp := [⟨some 36, .mv (.t 4), none⟩,
  ⟨some 7, .mv (.t 36), none⟩]
def r3_9 : List POp := [⟨some 37, .mv (.t 7), none⟩,
  ⟨some 38, .mv (.t 0), none⟩,
  ⟨some 39, .len (.t 38), none⟩,
  ⟨some 40, .bin .lss (.t 37) (.t 39), none⟩]
def r3_11 : List POp := [⟨some 43, .mv (.t 5), none⟩,
  ⟨some 44, .mv (.t 0), none⟩,
  ⟨some 45, .mv (.t 7), none⟩,
  ⟨some 46, .iaS 1 (.t 44) (.t 45), none⟩,
  ⟨some 47, .load false 1 (.t 46) [], none⟩,
  ⟨some 48, .mm false (.t 43) [(.t 47)], none⟩,
  ⟨some 49, .mv (.t 6), none⟩,
  ⟨some 50, .mv (.t 0), none⟩,
  ⟨some 51, .mv (.t 7), none⟩,
  ⟨some 52, .iaS 1 (.t 50) (.t 51), none⟩,
  ⟨some 53, .load false 1 (.t 52) [], none⟩,
  ⟨some 54, .mm true (.t 49) [(.t 53)], none⟩,
  ⟨some 5, .mv (.t 48), none⟩,
  ⟨some 6, .mv (.t 54), none⟩]
def r3_10 : List POp := [⟨some 41, .mv (.t 7), none⟩,
  ⟨some 42, .bin .add (.t 41) (.k (.int .i64 1)), none⟩,
  ⟨some 7, .mv (.t 42), none⟩]
def b3_1 : PCode := (.seq (.seq (.ops false r3_9) (.cond (.t 40) .skip (.exit 2))) (.seq (.block 3 (.ops true r3_11)) (.ops false r3_10)))
def r3_12 : List POp := [⟨some 56, .mv (.t 3), none⟩,
  ⟨some 57, .call false 22 [(.t 56)], none⟩,
  ⟨some 55, .mv (.t 57), none⟩,
  ⟨some 58, .ext (.t 55) 0, none⟩,
  ⟨some 59, .ext (.t 55) 1, none⟩,
  ⟨some 8, .mv (.t 58), none⟩,
  ⟨some 9, .mv (.t 59), none⟩]
def r3_13 : List POp := [⟨some 61, .mv (.t 3), none⟩,
  ⟨some 62, .call false 23 [(.t 61)], none⟩,
  ⟨some 60, .mv (.t 62), none⟩,
  ⟨some 63, .ext (.t 60) 0, none⟩,
  ⟨some 64, .ext (.t 60) 1, none⟩,
  ⟨some 10, .mv (.t 63), none⟩,
  ⟨some 11, .mv (.t 64), none⟩]
def r3_14 : List POp := [⟨some 65, .mv (.t 9), none⟩,
  ⟨some 66, .un .not (.t 65), none⟩,
  ⟨some 67, .mv (.t 66), none⟩,
  ⟨some 68, .mv (.t 11), (some (67, false))⟩,
  ⟨some 69, .un .not (.t 68), (some (67, false))⟩,
  ⟨some 70, .pick (.t 67) (.k (.bool true)) (.t 69), none⟩,
  ⟨some 71, .mv (.t 70), none⟩,
  ⟨some 72, .mv (.t 8), (some (71, false))⟩,
  ⟨some 73, .mv (.t 5), (some (71, false))⟩,
  ⟨some 74, .bin .neq (.t 72) (.t 73), (some (71, false))⟩,
  ⟨some 75, .pick (.t 71) (.k (.bool true)) (.t 74), none⟩,
  ⟨some 76, .mv (.t 75), none⟩,
  ⟨some 77, .mv (.t 10), (some (76, false))⟩,
  ⟨some 78, .mv (.t 6), (some (76, false))⟩,
  ⟨some 79, .bin .neq (.t 77) (.t 78), (some (76, false))⟩,
  ⟨some 80, .pick (.t 76) (.k (.bool true)) (.t 79), none⟩]
def r3_15 : List POp := [⟨some 2, .mv (.k (.bool false)), none⟩]
def r3_16 : List POp := [⟨some 82, .mv (.t 3), none⟩,
  ⟨some 83, .mv (.t 0), none⟩,
  ⟨some 84, .mv (.t 4), none⟩,
  ⟨some 85, .iaS 1 (.t 83) (.t 84), none⟩,
  ⟨some 86, .load false 1 (.t 85) [], none⟩,
  ⟨some 87, .bsl 1 1 [.int .i64 0] [(0, (.t 86))] false, none⟩,
  ⟨some 88, .call false 21 [(.t 87)], none⟩,
  ⟨some 89, .call false 24 [(.t 82), (.t 88)], none⟩,
  ⟨some 81, .mv (.t 89), none⟩,
  ⟨some 90, .ext (.t 81) 0, none⟩,
  ⟨some 91, .ext (.t 81) 1, none⟩,
  ⟨some 12, .mv (.t 90), none⟩,
  ⟨some 13, .mv (.t 91), none⟩]
def r3_17 : List POp := [⟨some 92, .mv (.t 13), none⟩,
  ⟨some 93, .un .not (.t 92), none⟩]
def r3_18 : List POp := [⟨some 2, .mv (.k (.bool false)), none⟩]
def r3_19 : List POp := [⟨some 94, .mv (.t 12), none⟩,
  ⟨some 3, .mv (.t 94), none⟩]
def r3_6 : List POp := [⟨some 26, .mv (.t 4), none⟩,
  ⟨some 27, .bin .add (.t 26) (.k (.int .i64 1)), none⟩,
  ⟨some 4, .mv (.t 27), none⟩]
def b3_0 : PCode := (.seq (.seq (.ops false r3_5) (.cond (.t 25) .skip (.exit 0))) (.seq (.block 1 (.seq (.ops true r3_7) (.seq (.seq (.ops false r3_8) (.block 2 (.loop b3_1))) (.seq (.ops false r3_12) (.seq (.ops false r3_13) (.seq (.seq (.ops false r3_14) (.cond (.t 80) (.seq (.ops false r3_15) .ret) .skip)) (.seq (.ops false r3_16) (.seq (.seq (.ops false r3_17) (.cond (.t 93) (.seq (.ops false r3_18) .ret) .skip)) (.ops false r3_19))))))))) (.ops false r3_6)))
def r3_20 : List POp := [⟨some 96, .mv (.t 3), none⟩,
  ⟨some 97, .call false 22 [(.t 96)], none⟩,
  ⟨some 95, .mv (.t 97), none⟩,
  ⟨some 98, .ext (.t 95) 0, none⟩,
  ⟨some 99, .ext (.t 95) 1, none⟩,
  ⟨some 14, .mv (.t 98), none⟩,
  ⟨some 15, .mv (.t 99), none⟩]
def r3_21 : List POp := [⟨some 100, .mv (.t 3), none⟩,
  ⟨some 101, .len (.t 100), none⟩,
  ⟨some 102, .bin .eql (.t 101) (.k (.int .i64 0)), none⟩,
  ⟨some 103, .mv (.t 102), none⟩,
  ⟨some 104, .mv (.t 15), (some (103, true))⟩,
  ⟨some 105, .un .not (.t 104), (some (103, true))⟩,
  ⟨some 106, .pick (.t 103) (.t 105) (.k (.bool false)), none⟩,
  ⟨some 107, .mv (.t 106), none⟩,
  ⟨some 108, .call false 20 [], (some (107, true))⟩,
  ⟨some 109, .pick (.t 107) (.t 108) (.k (.bool false)), none⟩,
  ⟨some 2, .mv (.t 109), none⟩]
def p3 : PCode := (.seq (.ops false r3_0) (.seq (.seq (.ops false r3_1) (.cond (.t 18) (.seq (.ops false r3_2) .ret) .skip)) (.seq (.ops false r3_3) (.seq (.seq (.ops false r3_4) (.block 0 (.loop b3_0))) (.seq (.ops false r3_20) (.seq (.ops false r3_21) .ret))))))
def rs3 : List RS := [.t 2]
theorem c3 : chkF Try.prog Try.f3 1 p3 rs3 = true := by kernel_rfl
/- cuboid/cuboidlaw08.BagMany -/
def r4_0 : List POp := [⟨some 6, .mv (.k (.bool false)), none⟩]
def r4_1 : List POp := [⟨some 15, .mv (.t 2), none⟩,
  ⟨some 16, .bin .rem (.t 15) (.k (.int .u64 1099511627776)), none⟩,
  ⟨some 17, .conv .i64 (.t 16), none⟩,
  ⟨some 7, .mv (.t 17), none⟩]
def r4_2 : List POp := [⟨some 18, .mv (.t 0), none⟩,
  ⟨some 19, .mv (.t 7), none⟩,
  ⟨some 20, .bin .sub (.k (.int .i64 1099511627776)) (.t 19), none⟩,
  ⟨some 21, .build [.int .i64 0, .int .i64 0] [(0, 1, (.t 18)), (1, 1, (.t 20))], none⟩,
  ⟨some 22, .bsl 2 1 [.int .i64 0, .int .i64 0] [(0, (.t 21))] false, none⟩,
  ⟨some 8, .mv (.t 22), none⟩]
def r4_3 : List POp := [⟨some 23, .mv (.t 1), none⟩,
  ⟨some 24, .mv (.t 7), none⟩,
  ⟨some 25, .build [.int .i64 0, .int .i64 0] [(0, 1, (.t 23)), (1, 1, (.t 24))], none⟩,
  ⟨some 26, .bsl 2 1 [.int .i64 0, .int .i64 0] [(0, (.t 25))] false, none⟩,
  ⟨some 9, .mv (.t 26), none⟩]
def r4_4 : List POp := [⟨some 27, .mv (.t 7), none⟩,
  ⟨some 28, .bin .eql (.t 27) (.k (.int .i64 0)), none⟩]
def r4_5 : List POp := [⟨some 9, .mv (.k (.sl [])), none⟩]
def r4_6 : List POp := [⟨some 29, .mv (.t 1), none⟩,
  ⟨some 30, .mv (.t 7), none⟩,
  ⟨some 31, .bin .add (.t 30) (.k (.int .i64 1)), none⟩,
  ⟨some 32, .build [.int .i64 0, .int .i64 0] [(0, 1, (.t 29)), (1, 1, (.t 31))], none⟩,
  ⟨some 33, .bsl 2 1 [.int .i64 0, .int .i64 0] [(0, (.t 32))] false, none⟩,
  ⟨some 10, .mv (.t 33), none⟩]
def r4_7 : List POp := [⟨some 35, .mv (.t 8), none⟩,
  ⟨some 36, .mv (.t 9), none⟩,
  ⟨some 37, .call false 25 [(.t 35), (.t 36)], none⟩,
  ⟨some 34, .mv (.t 37), none⟩,
  ⟨some 38, .ext (.t 34) 0, none⟩,
  ⟨some 39, .ext (.t 34) 1, none⟩,
  ⟨some 11, .mv (.t 38), none⟩,
  ⟨some 12, .mv (.t 39), none⟩]
def r4_8 : List POp := [⟨some 41, .mv (.t 8), none⟩,
  ⟨some 42, .mv (.t 10), none⟩,
  ⟨some 43, .call false 25 [(.t 41), (.t 42)], none⟩,
  ⟨some 40, .mv (.t 43), none⟩,
  ⟨some 44, .ext (.t 40) 0, none⟩,
  ⟨some 45, .ext (.t 40) 1, none⟩,
  ⟨some 13, .mv (.t 44), none⟩,
  ⟨some 14, .mv (.t 45), none⟩]
def r4_9 : List POp := [⟨some 46, .mv (.t 8), none⟩,
  ⟨some 47, .call false 26 [(.t 46)], none⟩,
  ⟨some 48, .mv (.t 47), none⟩,
  ⟨some 49, .mv (.t 12), (some (48, true))⟩,
  ⟨some 50, .pick (.t 48) (.t 49) (.k (.bool false)), none⟩,
  ⟨some 51, .mv (.t 50), none⟩,
  ⟨some 52, .mv (.t 11), (some (51, true))⟩,
  ⟨some 53, .call false 27 [(.t 52)], (some (51, true))⟩,
  ⟨some 54, .bin .eql (.t 53) (.k (.int .i64 1099511627776)), (some (51, true))⟩,
  ⟨some 55, .pick (.t 51) (.t 54) (.k (.bool false)), none⟩,
  ⟨some 56, .mv (.t 55), none⟩,
  ⟨some 57, .mv (.t 14), (some (56, true))⟩,
  ⟨some 58, .un .not (.t 57), (some (56, true))⟩,
  ⟨some 59, .pick (.t 56) (.t 58) (.k (.bool false)), none⟩,
  ⟨some 60, .mv (.t 59), none⟩,
  ⟨some 61, .mv (.t 0), (some (60, true))⟩,
  ⟨some 62, .build [.int .i64 0, .int .i64 0] [(0, 1, (.t 61)), (1, 1, (.k (.int .i64 1099511627777)))], (some (60, true))⟩,
  ⟨some 63, .bsl 2 1 [.int .i64 0, .int .i64 0] [(0, (.t 62))] false, (some (60, true))⟩,
  ⟨some 64, .call false 26 [(.t 63)], (some (60, true))⟩,
  ⟨some 65, .un .not (.t 64), (some (60, true))⟩,
  ⟨some 66, .pick (.t 60) (.t 65) (.k (.bool false)), none⟩,
  ⟨some 67, .mv (.t 66), none⟩,
  ⟨some 68, .call false 20 [], (some (67, true))⟩,
  ⟨some 69, .pick (.t 67) (.t 68) (.k (.bool false)), none⟩,
  ⟨some 6, .mv (.t 69), none⟩]
def p4 : PCode := (.seq (.ops false r4_0) (.seq (.ops false r4_1) (.seq (.ops false r4_2) (.seq (.ops false r4_3) (.seq (.seq (.ops false r4_4) (.cond (.t 28) (.ops false r4_5) .skip)) (.seq (.ops false r4_6) (.seq (.ops false r4_7) (.seq (.ops false r4_8) (.seq (.ops false r4_9) .ret)))))))))
def rs4 : List RS := [.t 6]
theorem c4 : chkF Try.prog Try.f4 3 p4 rs4 = true := by kernel_rfl
/- cuboid/cuboidlaw08.BagBack -/
def r6_0 : List POp := [⟨some 4, .mv (.k (.bool false)), none⟩]
def r6_1 : List POp := [⟨some 15, .mv (.t 0), none⟩,
  ⟨some 16, .len (.t 15), none⟩,
  ⟨some 17, .bin .gtr (.t 16) (.k (.int .i64 100)), none⟩,
  ⟨some 18, .mv (.t 17), none⟩,
  ⟨some 19, .mv (.t 1), (some (18, false))⟩,
  ⟨some 20, .len (.t 19), (some (18, false))⟩,
  ⟨some 21, .bin .gtr (.t 20) (.k (.int .i64 100)), (some (18, false))⟩,
  ⟨some 22, .pick (.t 18) (.k (.bool true)) (.t 21), none⟩]
def r6_2 : List POp := [⟨some 23, .call false 20 [], none⟩,
  ⟨some 4, .mv (.t 23), none⟩]
def r6_3 : List POp := [⟨some 24, .mv (.t 0), none⟩,
  ⟨some 25, .call false 21 [(.t 24)], none⟩,
  ⟨some 26, .mv (.t 1), none⟩,
  ⟨some 27, .call false 21 [(.t 26)], none⟩,
  ⟨some 5, .mv (.t 25), none⟩,
  ⟨some 6, .mv (.t 27), none⟩]
def r6_4 : List POp := [⟨some 29, .mv (.t 5), none⟩,
  ⟨some 30, .mv (.t 6), none⟩,
  ⟨some 31, .call false 25 [(.t 29), (.t 30)], none⟩,
  ⟨some 28, .mv (.t 31), none⟩,
  ⟨some 32, .ext (.t 28) 0, none⟩,
  ⟨some 33, .ext (.t 28) 1, none⟩,
  ⟨some 7, .mv (.t 32), none⟩,
  ⟨some 8, .mv (.t 33), none⟩]
def r6_5 : List POp := [⟨some 35, .mv (.t 6), none⟩,
  ⟨some 36, .mv (.t 5), none⟩,
  ⟨some 37, .call false 25 [(.t 35), (.t 36)], none⟩,
  ⟨some 34, .mv (.t 37), none⟩,
  ⟨some 38, .ext (.t 34) 0, none⟩,
  ⟨some 39, .ext (.t 34) 1, none⟩,
  ⟨some 9, .mv (.t 38), none⟩,
  ⟨some 10, .mv (.t 39), none⟩]
def r6_6 : List POp := [⟨some 41, .mv (.t 7), none⟩,
  ⟨some 42, .mv (.t 6), none⟩,
  ⟨some 43, .call false 24 [(.t 41), (.t 42)], none⟩,
  ⟨some 40, .mv (.t 43), none⟩,
  ⟨some 44, .ext (.t 40) 0, none⟩,
  ⟨some 45, .ext (.t 40) 1, none⟩,
  ⟨some 11, .mv (.t 44), none⟩,
  ⟨some 12, .mv (.t 45), none⟩]
def r6_7 : List POp := [⟨some 47, .mv (.t 5), none⟩,
  ⟨some 48, .mv (.t 5), none⟩,
  ⟨some 49, .call false 24 [(.t 47), (.t 48)], none⟩,
  ⟨some 46, .mv (.t 49), none⟩,
  ⟨some 50, .ext (.t 46) 0, none⟩,
  ⟨some 51, .ext (.t 46) 1, none⟩,
  ⟨some 13, .mv (.t 50), none⟩,
  ⟨some 14, .mv (.t 51), none⟩]
def r6_8 : List POp := [⟨some 52, .mv (.t 8), none⟩,
  ⟨some 53, .mv (.t 52), none⟩,
  ⟨some 54, .mv (.t 10), (some (53, true))⟩,
  ⟨some 55, .pick (.t 53) (.t 54) (.k (.bool false)), none⟩,
  ⟨some 56, .mv (.t 55), none⟩,
  ⟨some 57, .mv (.t 7), (some (56, true))⟩,
  ⟨some 58, .mv (.t 9), (some (56, true))⟩,
  ⟨some 59, .call false 29 [(.t 57), (.t 58)], (some (56, true))⟩,
  ⟨some 60, .pick (.t 56) (.t 59) (.k (.bool false)), none⟩,
  ⟨some 61, .mv (.t 60), none⟩,
  ⟨some 62, .mv (.t 12), (some (61, true))⟩,
  ⟨some 63, .pick (.t 61) (.t 62) (.k (.bool false)), none⟩,
  ⟨some 64, .mv (.t 63), none⟩,
  ⟨some 65, .mv (.t 11), (some (64, true))⟩,
  ⟨some 66, .mv (.t 5), (some (64, true))⟩,
  ⟨some 67, .call false 29 [(.t 65), (.t 66)], (some (64, true))⟩,
  ⟨some 68, .pick (.t 64) (.t 67) (.k (.bool false)), none⟩,
  ⟨some 69, .mv (.t 68), none⟩,
  ⟨some 70, .mv (.t 14), (some (69, true))⟩,
  ⟨some 71, .pick (.t 69) (.t 70) (.k (.bool false)), none⟩,
  ⟨some 72, .mv (.t 71), none⟩,
  ⟨some 73, .mv (.t 13), (some (72, true))⟩,
  ⟨some 74, .len (.t 73), (some (72, true))⟩,
  ⟨some 75, .bin .eql (.t 74) (.k (.int .i64 0)), (some (72, true))⟩,
  ⟨some 76, .pick (.t 72) (.t 75) (.k (.bool false)), none⟩,
  ⟨some 77, .mv (.t 76), none⟩,
  ⟨some 78, .mv (.t 7), (some (77, true))⟩,
  ⟨some 79, .bsl 1 0 [.int .i64 0] [] true, (some (77, true))⟩,
  ⟨some 80, .mv (.t 0), (some (77, true))⟩,
  ⟨some 81, .app 1 (.t 79) (.t 80) true, (some (77, true))⟩,
  ⟨some 82, .mv (.t 1), (some (77, true))⟩,
  ⟨some 83, .app 1 (.t 81) (.t 82) false, (some (77, true))⟩,
  ⟨some 84, .call false 21 [(.t 83)], (some (77, true))⟩,
  ⟨some 85, .call false 29 [(.t 78), (.t 84)], (some (77, true))⟩,
  ⟨some 86, .pick (.t 77) (.t 85) (.k (.bool false)), none⟩,
  ⟨some 87, .mv (.t 86), none⟩,
  ⟨some 88, .call false 20 [], (some (87, true))⟩,
  ⟨some 89, .pick (.t 87) (.t 88) (.k (.bool false)), none⟩,
  ⟨some 4, .mv (.t 89), none⟩]
def p6 : PCode := (.seq (.ops false r6_0) (.seq (.seq (.ops false r6_1) (.cond (.t 22) (.seq (.ops false r6_2) .ret) .skip)) (.seq (.ops false r6_3) (.seq (.ops false r6_4) (.seq (.ops false r6_5) (.seq (.ops false r6_6) (.seq (.ops false r6_7) (.seq (.ops false r6_8) .ret))))))))
def rs6 : List RS := [.t 4]
theorem c6 : chkF Try.prog Try.f6 2 p6 rs6 = true := by kernel_rfl
/- cuboid/cuboidlaw08.BagTells -/
def r7_0 : List POp := [⟨some 6, .mv (.k (.bool false)), none⟩]
def r7_1 : List POp := [⟨some 20, .mv (.t 0), none⟩,
  ⟨some 21, .len (.t 20), none⟩,
  ⟨some 22, .bin .gtr (.t 21) (.k (.int .i64 60)), none⟩,
  ⟨some 23, .mv (.t 22), none⟩,
  ⟨some 24, .mv (.t 1), (some (23, false))⟩,
  ⟨some 25, .len (.t 24), (some (23, false))⟩,
  ⟨some 26, .bin .gtr (.t 25) (.k (.int .i64 60)), (some (23, false))⟩,
  ⟨some 27, .pick (.t 23) (.k (.bool true)) (.t 26), none⟩,
  ⟨some 28, .mv (.t 27), none⟩,
  ⟨some 29, .mv (.t 2), (some (28, false))⟩,
  ⟨some 30, .len (.t 29), (some (28, false))⟩,
  ⟨some 31, .bin .gtr (.t 30) (.k (.int .i64 60)), (some (28, false))⟩,
  ⟨some 32, .pick (.t 28) (.k (.bool true)) (.t 31), none⟩]
def r7_2 : List POp := [⟨some 33, .call false 20 [], none⟩,
  ⟨some 6, .mv (.t 33), none⟩]
def r7_3 : List POp := [⟨some 34, .mv (.t 2), none⟩,
  ⟨some 35, .len (.t 34), none⟩,
  ⟨some 36, .bin .quo (.t 35) (.k (.int .i64 2)), none⟩,
  ⟨some 7, .mv (.t 36), none⟩]
def r7_4 : List POp := [⟨some 37, .mv (.t 0), none⟩,
  ⟨some 38, .mv (.t 1), none⟩,
  ⟨some 39, .mv (.t 2), none⟩,
  ⟨some 40, .call false 33 [(.t 39)], none⟩,
  ⟨some 41, .mv (.t 2), none⟩,
  ⟨some 42, .mv (.t 7), none⟩,
  ⟨some 43, .slc 1 (.t 41) none (some (.t 42)), none⟩,
  ⟨some 44, .call false 33 [(.t 43)], none⟩,
  ⟨some 45, .bsl 1 4 [.sl []] [(0, (.t 37)), (1, (.t 38)), (2, (.t 40)), (3, (.t 44))] false, none⟩,
  ⟨some 8, .mv (.t 45), none⟩]
def r7_5 : List POp := [⟨some 46, .mv (.t 8), none⟩,
  ⟨some 47, .len (.t 46), none⟩,
  ⟨some 48, .mv (.k (.int .i64 0)), none⟩]
def r7_6 : List POp := [⟨some 49, .bin .lss (.t 48) (.t 47), none⟩]
def r7_7 : List POp := [⟨some 50, .iaS 1 (.t 46) (.t 48), none⟩,
  ⟨some 51, .load false 1 (.t 50) [], none⟩,
  ⟨some 10, .mv (.t 51), none⟩]
def r7_8 : List POp := [⟨some 52, .mv (.t 10), none⟩,
  ⟨some 53, .call false 26 [(.t 52)], none⟩,
  ⟨some 54, .mv (.t 10), none⟩,
  ⟨some 55, .call false 34 [(.t 54)], none⟩,
  ⟨some 56, .eqs true false [.b] (.t 53) (.t 55), none⟩,
  ⟨some 57, .mv (.t 56), none⟩,
  ⟨some 58, .mv (.t 10), (some (57, false))⟩,
  ⟨some 59, .call false 27 [(.t 58)], (some (57, false))⟩,
  ⟨some 60, .mv (.t 10), (some (57, false))⟩,
  ⟨some 61, .call false 35 [(.t 60)], (some (57, false))⟩,
  ⟨some 62, .bin .neq (.t 59) (.t 61), (some (57, false))⟩,
  ⟨some 63, .pick (.t 57) (.k (.bool true)) (.t 62), none⟩,
  ⟨some 64, .mv (.t 63), none⟩,
  ⟨some 65, .mv (.t 10), (some (64, false))⟩,
  ⟨some 66, .call false 36 [(.t 65)], (some (64, false))⟩,
  ⟨some 67, .un .not (.t 66), (some (64, false))⟩,
  ⟨some 68, .pick (.t 64) (.k (.bool true)) (.t 67), none⟩,
  ⟨some 69, .mv (.t 68), none⟩,
  ⟨some 70, .mv (.t 10), (some (69, false))⟩,
  ⟨some 71, .call false 37 [(.t 70)], (some (69, false))⟩,
  ⟨some 72, .un .not (.t 71), (some (69, false))⟩,
  ⟨some 73, .pick (.t 69) (.k (.bool true)) (.t 72), none⟩]
def r7_9 : List POp := [⟨some 6, .mv (.k (.bool false)), none⟩]
def r7_10 : List POp := [⟨some 11, .mv (.k (.int .i64 0)), none⟩]
def r7_11 : List POp := [⟨some 74, .mv (.t 11), none⟩,
  ⟨some 75, .mv (.t 2), none⟩,
  ⟨some 76, .len (.t 75), none⟩,
  ⟨some 77, .bin .lss (.t 74) (.t 76), none⟩,
  ⟨some 78, .mv (.t 77), none⟩,
  ⟨some 79, .mv (.t 11), (some (78, true))⟩,
  ⟨some 80, .bin .lss (.t 79) (.k (.int .i64 3)), (some (78, true))⟩,
  ⟨some 81, .pick (.t 78) (.t 80) (.k (.bool false)), none⟩]
def r7_13 : List POp := [⟨some 84, .mv (.t 10), none⟩,
  ⟨some 85, .mv (.t 2), none⟩,
  ⟨some 86, .mv (.t 11), none⟩,
  ⟨some 87, .iaS 1 (.t 85) (.t 86), none⟩,
  ⟨some 88, .load false 1 (.t 87) [], none⟩,
  ⟨some 89, .call false 30 [(.t 84), (.t 88)], none⟩,
  ⟨some 90, .mv (.t 10), none⟩,
  ⟨some 91, .mv (.t 2), none⟩,
  ⟨some 92, .mv (.t 11), none⟩,
  ⟨some 93, .iaS 1 (.t 91) (.t 92), none⟩,
  ⟨some 94, .load false 1 (.t 93) [], none⟩,
  ⟨some 95, .call false 38 [(.t 90), (.t 94)], none⟩,
  ⟨some 96, .bin .neq (.t 89) (.t 95), none⟩]
def r7_14 : List POp := [⟨some 6, .mv (.k (.bool false)), none⟩]
def r7_12 : List POp := [⟨some 82, .mv (.t 11), none⟩,
  ⟨some 83, .bin .add (.t 82) (.k (.int .i64 1)), none⟩,
  ⟨some 11, .mv (.t 83), none⟩]
def b7_1 : PCode := (.seq (.seq (.ops false r7_11) (.cond (.t 81) .skip (.exit 2))) (.seq (.block 3 (.seq (.ops true r7_13) (.cond (.t 96) (.seq (.ops false r7_14) .ret) .skip))) (.ops false r7_12)))
def r7_15 : List POp := [⟨some 97, .mv (.t 8), none⟩,
  ⟨some 98, .len (.t 97), none⟩,
  ⟨some 99, .mv (.k (.int .i64 0)), none⟩]
def r7_16 : List POp := [⟨some 100, .bin .lss (.t 99) (.t 98), none⟩]
def r7_17 : List POp := [⟨some 101, .iaS 1 (.t 97) (.t 99), none⟩,
  ⟨some 102, .load false 1 (.t 101) [], none⟩,
  ⟨some 13, .mv (.t 102), none⟩]
def r7_18 : List POp := [⟨some 104, .mv (.t 10), none⟩,
  ⟨some 105, .mv (.t 13), none⟩,
  ⟨some 106, .call false 25 [(.t 104), (.t 105)], none⟩,
  ⟨some 103, .mv (.t 106), none⟩,
  ⟨some 107, .ext (.t 103) 0, none⟩,
  ⟨some 108, .ext (.t 103) 1, none⟩,
  ⟨some 14, .mv (.t 107), none⟩,
  ⟨some 15, .mv (.t 108), none⟩]
def r7_19 : List POp := [⟨some 110, .mv (.t 10), none⟩,
  ⟨some 111, .mv (.t 13), none⟩,
  ⟨some 112, .call false 24 [(.t 110), (.t 111)], none⟩,
  ⟨some 109, .mv (.t 112), none⟩,
  ⟨some 113, .ext (.t 109) 0, none⟩,
  ⟨some 114, .ext (.t 109) 1, none⟩,
  ⟨some 16, .mv (.t 113), none⟩,
  ⟨some 17, .mv (.t 114), none⟩]
def r7_20 : List POp := [⟨some 115, .mv (.t 10), none⟩,
  ⟨some 116, .mv (.t 13), none⟩,
  ⟨some 117, .call false 39 [(.t 115), (.t 116)], none⟩,
  ⟨some 118, .mv (.t 10), none⟩,
  ⟨some 119, .mv (.t 13), none⟩,
  ⟨some 120, .call false 40 [(.t 118), (.t 119)], none⟩,
  ⟨some 18, .alloc [.sl [], .bool false], none⟩,
  ⟨some 19, .alloc [.sl [], .bool false], none⟩,
  ⟨none, .store 2 (.t 18) (.t 117) [], none⟩,
  ⟨none, .store 2 (.t 19) (.t 120) [], none⟩]
def r7_21 : List POp := [⟨some 121, .mv (.t 15), none⟩,
  ⟨some 122, .fad 1 (.t 18), none⟩,
  ⟨some 123, .load false 1 (.t 122) [], none⟩,
  ⟨some 124, .eqs true false [.b] (.t 121) (.t 123), none⟩,
  ⟨some 125, .mv (.t 124), none⟩,
  ⟨some 126, .mv (.t 14), (some (125, false))⟩,
  ⟨some 127, .fad 0 (.t 18), (some (125, false))⟩,
  ⟨some 128, .load false 1 (.t 127) [], (some (125, false))⟩,
  ⟨some 129, .call false 41 [(.t 126), (.t 128)], (some (125, false))⟩,
  ⟨some 130, .un .not (.t 129), (some (125, false))⟩,
  ⟨some 131, .pick (.t 125) (.k (.bool true)) (.t 130), none⟩,
  ⟨some 132, .mv (.t 131), none⟩,
  ⟨some 133, .mv (.t 17), (some (132, false))⟩,
  ⟨some 134, .fad 1 (.t 19), (some (132, false))⟩,
  ⟨some 135, .load false 1 (.t 134) [], (some (132, false))⟩,
  ⟨some 136, .eqs true false [.b] (.t 133) (.t 135), (some (132, false))⟩,
  ⟨some 137, .pick (.t 132) (.k (.bool true)) (.t 136), none⟩,
  ⟨some 138, .mv (.t 137), none⟩,
  ⟨some 139, .mv (.t 16), (some (138, false))⟩,
  ⟨some 140, .fad 0 (.t 19), (some (138, false))⟩,
  ⟨some 141, .load false 1 (.t 140) [], (some (138, false))⟩,
  ⟨some 142, .call false 41 [(.t 139), (.t 141)], (some (138, false))⟩,
  ⟨some 143, .un .not (.t 142), (some (138, false))⟩,
  ⟨some 144, .pick (.t 138) (.k (.bool true)) (.t 143), none⟩,
  ⟨some 145, .mv (.t 144), none⟩,
  ⟨some 146, .mv (.t 10), (some (145, false))⟩,
  ⟨some 147, .mv (.t 13), (some (145, false))⟩,
  ⟨some 148, .call false 29 [(.t 146), (.t 147)], (some (145, false))⟩,
  ⟨some 149, .mv (.t 10), (some (145, false))⟩,
  ⟨some 150, .mv (.t 13), (some (145, false))⟩,
  ⟨some 151, .call false 41 [(.t 149), (.t 150)], (some (145, false))⟩,
  ⟨some 152, .eqs true false [.b] (.t 148) (.t 151), (some (145, false))⟩,
  ⟨some 153, .pick (.t 145) (.k (.bool true)) (.t 152), none⟩]
def r7_22 : List POp := [⟨some 6, .mv (.k (.bool false)), none⟩]
def r7_23 : List POp := [⟨some 154, .bin .add (.t 99) (.k (.int .i64 1)), none⟩,
  ⟨some 99, .mv (.t 154), none⟩]
def b7_2 : PCode := (.seq (.ops false r7_16) (.seq (.cond (.t 100) .skip (.exit 4)) (.seq (.block 5 (.seq (.ops false r7_17) (.seq (.ops false r7_18) (.seq (.ops false r7_19) (.seq (.ops false r7_20) (.seq (.ops false r7_21) (.cond (.t 153) (.seq (.ops false r7_22) .ret) .skip))))))) (.ops false r7_23))))
def r7_24 : List POp := [⟨some 155, .bin .add (.t 48) (.k (.int .i64 1)), none⟩,
  ⟨some 48, .mv (.t 155), none⟩]
def b7_0 : PCode := (.seq (.ops false r7_6) (.seq (.cond (.t 49) .skip (.exit 0)) (.seq (.block 1 (.seq (.ops false r7_7) (.seq (.seq (.ops false r7_8) (.cond (.t 73) (.seq (.ops false r7_9) .ret) .skip)) (.seq (.seq (.ops false r7_10) (.block 2 (.loop b7_1))) (.seq (.ops false r7_15) (.block 4 (.loop b7_2))))))) (.ops false r7_24))))
def r7_25 : List POp := [⟨some 156, .mv (.t 2), none⟩,
  ⟨some 157, .call false 21 [(.t 156)], none⟩,
  ⟨some 158, .mv (.t 8), none⟩,
  ⟨some 159, .iaS 1 (.t 158) (.k (.int .i64 2)), none⟩,
  ⟨some 160, .load false 1 (.t 159) [], none⟩,
  ⟨some 161, .call false 41 [(.t 157), (.t 160)], none⟩,
  ⟨some 162, .mv (.t 161), none⟩,
  ⟨some 163, .call false 20 [], (some (162, true))⟩,
  ⟨some 164, .pick (.t 162) (.t 163) (.k (.bool false)), none⟩,
  ⟨some 6, .mv (.t 164), none⟩]
def p7 : PCode := (.seq (.ops false r7_0) (.seq (.seq (.ops false r7_1) (.cond (.t 32) (.seq (.ops false r7_2) .ret) .skip)) (.seq (.ops false r7_3) (.seq (.ops true r7_4) (.seq (.seq (.ops false r7_5) (.block 0 (.loop b7_0))) (.seq (.ops true r7_25) .ret))))))
def rs7 : List RS := [.t 6]
theorem c7 : chkF Try.prog Try.f7 3 p7 rs7 = true := by kernel_rfl
/- cuboid/cuboidlaw08.wakes -/
def r20_0 : List POp := [⟨some 0, .mv (.k (.bool false)), none⟩]
def r20_1 : List POp := [⟨some 8, .bsl 1 3 [.int .i64 0] [(0, (.k (.int .i64 3))), (1, (.k (.int .i64 1))), (2, (.k (.int .i64 3)))] false, none⟩,
  ⟨some 9, .call false 21 [(.t 8)], none⟩,
  ⟨some 1, .mv (.t 9), none⟩]
def r20_2 : List POp := [⟨some 11, .mv (.t 1), none⟩,
  ⟨some 12, .call false 31 [(.t 11)], none⟩,
  ⟨some 10, .mv (.t 12), none⟩,
  ⟨some 13, .ext (.t 10) 0, none⟩,
  ⟨some 14, .ext (.t 10) 1, none⟩,
  ⟨some 2, .mv (.t 13), none⟩,
  ⟨some 3, .mv (.t 14), none⟩]
def r20_3 : List POp := [⟨some 16, .mv (.t 1), none⟩,
  ⟨some 17, .bsl 1 1 [.int .i64 0] [(0, (.k (.int .i64 3)))] false, none⟩,
  ⟨some 18, .call false 21 [(.t 17)], none⟩,
  ⟨some 19, .call false 24 [(.t 16), (.t 18)], none⟩,
  ⟨some 15, .mv (.t 19), none⟩,
  ⟨some 20, .ext (.t 15) 0, none⟩,
  ⟨some 21, .ext (.t 15) 1, none⟩,
  ⟨some 4, .mv (.t 20), none⟩,
  ⟨some 5, .mv (.t 21), none⟩]
def r20_4 : List POp := [⟨some 23, .mv (.t 1), none⟩,
  ⟨some 24, .bsl 1 2 [.int .i64 0] [(0, (.k (.int .i64 1))), (1, (.k (.int .i64 1)))] false, none⟩,
  ⟨some 25, .call false 21 [(.t 24)], none⟩,
  ⟨some 26, .call false 24 [(.t 23), (.t 25)], none⟩,
  ⟨some 22, .mv (.t 26), none⟩,
  ⟨some 27, .ext (.t 22) 0, none⟩,
  ⟨some 28, .ext (.t 22) 1, none⟩,
  ⟨some 6, .mv (.t 27), none⟩,
  ⟨some 7, .mv (.t 28), none⟩]
def r20_5 : List POp := [⟨some 29, .mv (.t 1), none⟩,
  ⟨some 30, .len (.t 29), none⟩,
  ⟨some 31, .bin .eql (.t 30) (.k (.int .i64 2)), none⟩,
  ⟨some 32, .mv (.t 31), none⟩,
  ⟨some 33, .mv (.t 1), (some (32, true))⟩,
  ⟨some 34, .iaS 2 (.t 33) (.k (.int .i64 1)), (some (32, true))⟩,
  ⟨some 35, .load true 2 (.t 34) [], (some (32, true))⟩,
  ⟨some 36, .build [.int .i64 0, .int .i64 0] [(0, 1, (.k (.int .i64 3))), (1, 1, (.k (.int .i64 2)))], (some (32, true))⟩,
  ⟨some 37, .eqs false true [.i, .i] (.t 35) (.t 36), (some (32, true))⟩,
  ⟨some 38, .pick (.t 32) (.t 37) (.k (.bool false)), none⟩,
  ⟨some 39, .mv (.t 38), none⟩,
  ⟨some 40, .mv (.t 2), (some (39, true))⟩,
  ⟨some 41, .bin .eql (.t 40) (.k (.int .i64 7)), (some (39, true))⟩,
  ⟨some 42, .pick (.t 39) (.t 41) (.k (.bool false)), none⟩,
  ⟨some 43, .mv (.t 42), none⟩,
  ⟨some 44, .mv (.t 3), (some (43, true))⟩,
  ⟨some 45, .pick (.t 43) (.t 44) (.k (.bool false)), none⟩,
  ⟨some 46, .mv (.t 45), none⟩,
  ⟨some 47, .mv (.t 5), (some (46, true))⟩,
  ⟨some 48, .pick (.t 46) (.t 47) (.k (.bool false)), none⟩,
  ⟨some 49, .mv (.t 48), none⟩,
  ⟨some 50, .mv (.t 4), (some (49, true))⟩,
  ⟨some 51, .call false 30 [(.t 50), (.k (.int .i64 3))], (some (49, true))⟩,
  ⟨some 52, .bin .eql (.t 51) (.k (.int .i64 1)), (some (49, true))⟩,
  ⟨some 53, .pick (.t 49) (.t 52) (.k (.bool false)), none⟩,
  ⟨some 54, .mv (.t 53), none⟩,
  ⟨some 55, .mv (.t 7), (some (54, true))⟩,
  ⟨some 56, .un .not (.t 55), (some (54, true))⟩,
  ⟨some 57, .pick (.t 54) (.t 56) (.k (.bool false)), none⟩,
  ⟨some 58, .mv (.t 57), none⟩,
  ⟨some 59, .mv (.t 1), (some (58, true))⟩,
  ⟨some 60, .call false 26 [(.t 59)], (some (58, true))⟩,
  ⟨some 61, .pick (.t 58) (.t 60) (.k (.bool false)), none⟩,
  ⟨some 62, .mv (.t 61), none⟩,
  ⟨some 63, .mv (.t 1), (some (62, true))⟩,
  ⟨some 64, .call false 27 [(.t 63)], (some (62, true))⟩,
  ⟨some 65, .bin .eql (.t 64) (.k (.int .i64 3)), (some (62, true))⟩,
  ⟨some 66, .pick (.t 62) (.t 65) (.k (.bool false)), none⟩,
  ⟨some 67, .mv (.t 66), none⟩,
  ⟨some 68, .build [.int .i64 0, .int .i64 0] [(0, 1, (.k (.int .i64 1)))], (some (67, true))⟩,
  ⟨some 69, .bsl 2 1 [.int .i64 0, .int .i64 0] [(0, (.t 68))] false, (some (67, true))⟩,
  ⟨some 70, .call false 26 [(.t 69)], (some (67, true))⟩,
  ⟨some 71, .un .not (.t 70), (some (67, true))⟩,
  ⟨some 72, .pick (.t 67) (.t 71) (.k (.bool false)), none⟩,
  ⟨some 0, .mv (.t 72), none⟩]
def p20 : PCode := (.seq (.ops false r20_0) (.seq (.ops false r20_1) (.seq (.ops false r20_2) (.seq (.ops false r20_3) (.seq (.ops false r20_4) (.seq (.ops false r20_5) .ret))))))
def rs20 : List RS := [.t 0]
theorem c20 : chkF Try.prog Try.f20 0 p20 rs20 = true := by kernel_rfl
/- cuboid/bag.Of -/
def r21_0 : List POp := [⟨some 2, .mv (.k (.sl [])), none⟩]
def r21_1 : List POp := [⟨some 3, .own0 2, none⟩]
def r21_2 : List POp := [⟨some 6, .mv (.t 0), none⟩,
  ⟨some 7, .call false 83 [(.t 6)], none⟩,
  ⟨some 8, .call false 82 [(.t 7)], none⟩,
  ⟨some 9, .len (.t 8), none⟩,
  ⟨some 10, .mv (.k (.int .i64 0)), none⟩]
def r21_3 : List POp := [⟨some 11, .bin .lss (.t 10) (.t 9), none⟩]
def r21_4 : List POp := [⟨some 12, .iaS 1 (.t 8) (.t 10), none⟩,
  ⟨some 13, .load false 1 (.t 12) [], none⟩,
  ⟨some 5, .mv (.t 13), none⟩]
def r21_5 : List POp := [⟨some 14, .mv (.t 3), none⟩,
  ⟨some 15, .mv (.t 5), none⟩,
  ⟨some 16, .call true 84 [(.t 14), (.t 15), (.k (.int .i64 1))], none⟩,
  ⟨some 3, .mv (.t 16), none⟩]
def r21_6 : List POp := [⟨some 17, .bin .add (.t 10) (.k (.int .i64 1)), none⟩,
  ⟨some 10, .mv (.t 17), none⟩]
def b21_0 : PCode := (.seq (.ops false r21_3) (.seq (.cond (.t 11) .skip (.exit 0)) (.seq (.block 1 (.seq (.ops false r21_4) (.ops false r21_5))) (.rn 3 3 (.ops false r21_6)))))
def r21_7 : List POp := [⟨some 18, .mv (.t 3), none⟩,
  ⟨some 2, .mv (.t 18), none⟩]
def p21 : PCode := (.seq (.ops false r21_0) (.seq (.ops false r21_1) (.seq (.seq (.ops false r21_2) (.block 0 (.loop b21_0))) (.seq (.ops false r21_7) .ret))))
def rs21 : List RS := [.t 2]
theorem c21 : chkF Try.prog Try.f21 1 p21 rs21 = true := by kernel_rfl
/- cuboid/bag.Least -/
def r22_0 : List POp := [⟨some 2, .mv (.k (.int .i64 0)), none⟩,
  ⟨some 3, .mv (.k (.bool false)), none⟩]
def r22_1 : List POp := [⟨some 4, .mv (.t 0), none⟩,
  ⟨some 5, .call false 85 [(.t 4), (.k (.bool false))], none⟩,
  ⟨some 6, .ext (.t 5) 0, none⟩,
  ⟨some 7, .ext (.t 5) 1, none⟩,
  ⟨some 2, .mv (.t 6), none⟩,
  ⟨some 3, .mv (.t 7), none⟩]
def p22 : PCode := (.seq (.ops false r22_0) (.seq (.ops false r22_1) .ret))
def rs22 : List RS := [.t 2, .t 3]
theorem c22 : chkF Try.prog Try.f22 1 p22 rs22 = true := by kernel_rfl
/- cuboid/bag.Greatest -/
def r23_0 : List POp := [⟨some 2, .mv (.k (.int .i64 0)), none⟩,
  ⟨some 3, .mv (.k (.bool false)), none⟩]
def r23_1 : List POp := [⟨some 4, .mv (.t 0), none⟩,
  ⟨some 5, .call false 85 [(.t 4), (.k (.bool true))], none⟩,
  ⟨some 6, .ext (.t 5) 0, none⟩,
  ⟨some 7, .ext (.t 5) 1, none⟩,
  ⟨some 2, .mv (.t 6), none⟩,
  ⟨some 3, .mv (.t 7), none⟩]
def p23 : PCode := (.seq (.ops false r23_0) (.seq (.ops false r23_1) .ret))
def rs23 : List RS := [.t 2, .t 3]
theorem c23 : chkF Try.prog Try.f23 1 p23 rs23 = true := by kernel_rfl
/- cuboid/bag.Minus -/
def r24_0 : List POp := [⟨some 4, .mv (.k (.sl [])), none⟩,
  ⟨some 5, .mv (.k (.bool false)), none⟩]
def r24_1 : List POp := [⟨some 9, .mv (.t 0), none⟩,
  ⟨some 10, .call false 26 [(.t 9)], none⟩,
  ⟨some 11, .un .not (.t 10), none⟩,
  ⟨some 12, .mv (.t 11), none⟩,
  ⟨some 13, .mv (.t 1), (some (12, false))⟩,
  ⟨some 14, .call false 26 [(.t 13)], (some (12, false))⟩,
  ⟨some 15, .un .not (.t 14), (some (12, false))⟩,
  ⟨some 16, .pick (.t 12) (.k (.bool true)) (.t 15), none⟩]
def r24_2 : List POp := [⟨some 4, .mv (.k (.sl [])), none⟩,
  ⟨some 5, .mv (.k (.bool false)), none⟩]
def r24_3 : List POp := [⟨some 6, .own0 2, none⟩]
def r24_4 : List POp := [⟨some 17, .mv (.t 0), none⟩,
  ⟨some 18, .len (.t 17), none⟩,
  ⟨some 19, .mv (.k (.int .i64 0)), none⟩]
def r24_5 : List POp := [⟨some 20, .bin .lss (.t 19) (.t 18), none⟩]
def r24_6 : List POp := [⟨some 21, .iaS 2 (.t 17) (.t 19), none⟩,
  ⟨some 22, .load true 2 (.t 21) [], none⟩,
  ⟨some 8, .alloc [.int .i64 0, .int .i64 0], none⟩,
  ⟨none, .store 2 (.t 8) (.t 22) [], none⟩]
def r24_7 : List POp := [⟨some 23, .mv (.t 1), none⟩,
  ⟨some 24, .len (.t 23), none⟩,
  ⟨some 25, .bin .gtr (.t 24) (.k (.int .i64 0)), none⟩,
  ⟨some 26, .mv (.t 25), none⟩,
  ⟨some 27, .mv (.t 1), (some (26, true))⟩,
  ⟨some 28, .iaS 2 (.t 27) (.k (.int .i64 0)), (some (26, true))⟩,
  ⟨some 29, .fad 0 (.t 28), (some (26, true))⟩,
  ⟨some 30, .load false 1 (.t 29) [], (some (26, true))⟩,
  ⟨some 31, .fad 0 (.t 8), (some (26, true))⟩,
  ⟨some 32, .load false 1 (.t 31) [], (some (26, true))⟩,
  ⟨some 33, .bin .eql (.t 30) (.t 32), (some (26, true))⟩,
  ⟨some 34, .pick (.t 26) (.t 33) (.k (.bool false)), none⟩]
def r24_8 : List POp := [⟨some 35, .fad 1 (.t 8), none⟩,
  ⟨some 36, .load false 1 (.t 35) [], none⟩,
  ⟨some 37, .mv (.t 1), none⟩,
  ⟨some 38, .iaS 2 (.t 37) (.k (.int .i64 0)), none⟩,
  ⟨some 39, .fad 1 (.t 38), none⟩,
  ⟨some 40, .load false 1 (.t 39) [], none⟩,
  ⟨some 41, .bin .sub (.t 36) (.t 40), none⟩,
  ⟨some 42, .fad 1 (.t 8), none⟩,
  ⟨none, .store 1 (.t 42) (.t 41) [], none⟩]
def r24_9 : List POp := [⟨some 43, .mv (.t 1), none⟩,
  ⟨some 44, .slc 2 (.t 43) (some (.k (.int .i64 1))) none, none⟩,
  ⟨some 1, .mv (.t 44), none⟩]
def r24_10 : List POp := [⟨some 45, .fad 1 (.t 8), none⟩,
  ⟨some 46, .load false 1 (.t 45) [], none⟩,
  ⟨some 47, .bin .lss (.t 46) (.k (.int .i64 0)), none⟩]
def r24_11 : List POp := [⟨some 4, .mv (.k (.sl [])), none⟩,
  ⟨some 5, .mv (.k (.bool false)), none⟩]
def r24_12 : List POp := [⟨some 48, .fad 1 (.t 8), none⟩,
  ⟨some 49, .load false 1 (.t 48) [], none⟩,
  ⟨some 50, .bin .gtr (.t 49) (.k (.int .i64 0)), none⟩]
def r24_13 : List POp := [⟨some 51, .mv (.t 6), none⟩,
  ⟨some 52, .load true 2 (.t 8) [], none⟩,
  ⟨some 53, .bsl 2 1 [.int .i64 0, .int .i64 0] [(0, (.t 52))] false, none⟩,
  ⟨some 54, .app 2 (.t 51) (.t 53) true, none⟩,
  ⟨some 6, .mv (.t 54), none⟩]
def r24_14 : List POp := [⟨some 55, .bin .add (.t 19) (.k (.int .i64 1)), none⟩,
  ⟨some 19, .mv (.t 55), none⟩]
def b24_0 : PCode := (.seq (.ops false r24_5) (.seq (.cond (.t 20) .skip (.exit 0)) (.seq (.block 1 (.seq (.ops false r24_6) (.seq (.seq (.ops true r24_7) (.cond (.t 34) (.seq (.ops true r24_8) (.ops false r24_9)) .skip)) (.seq (.seq (.ops false r24_10) (.cond (.t 47) (.seq (.ops false r24_11) .ret) .skip)) (.seq (.ops false r24_12) (.cond (.t 50) (.ops false r24_13) .skip)))))) (.rn 6 6 (.ops false r24_14)))))
def r24_15 : List POp := [⟨some 56, .mv (.t 1), none⟩,
  ⟨some 57, .len (.t 56), none⟩,
  ⟨some 58, .bin .gtr (.t 57) (.k (.int .i64 0)), none⟩]
def r24_16 : List POp := [⟨some 4, .mv (.k (.sl [])), none⟩,
  ⟨some 5, .mv (.k (.bool false)), none⟩]
def r24_17 : List POp := [⟨some 59, .mv (.t 6), none⟩,
  ⟨some 4, .mv (.t 59), none⟩,
  ⟨some 5, .mv (.k (.bool true)), none⟩]
def p24 : PCode := (.seq (.ops false r24_0) (.seq (.seq (.ops false r24_1) (.cond (.t 16) (.seq (.ops false r24_2) .ret) .skip)) (.seq (.ops false r24_3) (.seq (.seq (.ops false r24_4) (.block 0 (.loop b24_0))) (.seq (.seq (.ops false r24_15) (.cond (.t 58) (.seq (.ops false r24_16) .ret) .skip)) (.seq (.ops false r24_17) .ret))))))
def rs24 : List RS := [.t 4, .t 5]
theorem c24 : chkF Try.prog Try.f24 2 p24 rs24 = true := by kernel_rfl
/- cuboid/bag.Join -/
def r25_0 : List POp := [⟨some 2, .box 1 (.t 0), none⟩,
  ⟨some 3, .box 1 (.t 1), none⟩,
  ⟨some 4, .mv (.k (.sl [])), none⟩,
  ⟨some 5, .mv (.k (.bool false)), none⟩]
def r25_1 : List POp := [⟨some 8, .load false 1 (.t 2) [], none⟩,
  ⟨some 9, .call false 26 [(.t 8)], none⟩,
  ⟨some 10, .un .not (.t 9), none⟩,
  ⟨some 11, .mv (.t 10), none⟩,
  ⟨some 12, .load false 1 (.t 3) [], (some (11, false))⟩,
  ⟨some 13, .call false 26 [(.t 12)], (some (11, false))⟩,
  ⟨some 14, .un .not (.t 13), (some (11, false))⟩,
  ⟨some 15, .pick (.t 11) (.k (.bool true)) (.t 14), none⟩,
  ⟨some 16, .mv (.t 15), none⟩,
  ⟨some 17, .load false 1 (.t 2) [], (some (16, false))⟩,
  ⟨some 18, .call false 86 [(.t 17)], (some (16, false))⟩,
  ⟨some 19, .load false 1 (.t 3) [], (some (16, false))⟩,
  ⟨some 20, .call false 86 [(.t 19)], (some (16, false))⟩,
  ⟨some 21, .bin .sub (.k (.int .i64 1099511627776)) (.t 20), (some (16, false))⟩,
  ⟨some 22, .bin .gtr (.t 18) (.t 21), (some (16, false))⟩,
  ⟨some 23, .pick (.t 16) (.k (.bool true)) (.t 22), none⟩]
def r25_2 : List POp := [⟨some 4, .mv (.k (.sl [])), none⟩,
  ⟨some 5, .mv (.k (.bool false)), none⟩]
def r25_3 : List POp := [⟨some 6, .own0 2, none⟩]
def r25_4 : List POp := [⟨some 24, .load false 1 (.t 2) [], none⟩,
  ⟨some 25, .len (.t 24), none⟩,
  ⟨some 26, .bin .gtr (.t 25) (.k (.int .i64 0)), none⟩,
  ⟨some 27, .mv (.t 26), none⟩,
  ⟨some 28, .load false 1 (.t 3) [], (some (27, false))⟩,
  ⟨some 29, .len (.t 28), (some (27, false))⟩,
  ⟨some 30, .bin .gtr (.t 29) (.k (.int .i64 0)), (some (27, false))⟩,
  ⟨some 31, .pick (.t 27) (.k (.bool true)) (.t 30), none⟩]
def r25_5 : List POp := [⟨some 7, .mv (.t 2), none⟩]
def r25_6 : List POp := [⟨some 32, .load false 1 (.t 2) [], none⟩,
  ⟨some 33, .len (.t 32), none⟩,
  ⟨some 34, .bin .eql (.t 33) (.k (.int .i64 0)), none⟩,
  ⟨some 35, .mv (.t 34), none⟩,
  ⟨some 36, .load false 1 (.t 3) [], (some (35, false))⟩,
  ⟨some 37, .len (.t 36), (some (35, false))⟩,
  ⟨some 38, .bin .gtr (.t 37) (.k (.int .i64 0)), (some (35, false))⟩,
  ⟨some 39, .mv (.t 38), (some (35, false))⟩,
  ⟨some 40, .load false 1 (.t 3) [], (some (39, true))⟩,
  ⟨some 41, .iaS 2 (.t 40) (.k (.int .i64 0)), (some (39, true))⟩,
  ⟨some 42, .fad 0 (.t 41), (some (39, true))⟩,
  ⟨some 43, .load false 1 (.t 42) [], (some (39, true))⟩,
  ⟨some 44, .load false 1 (.t 2) [], (some (39, true))⟩,
  ⟨some 45, .iaS 2 (.t 44) (.k (.int .i64 0)), (some (39, true))⟩,
  ⟨some 46, .fad 0 (.t 45), (some (39, true))⟩,
  ⟨some 47, .load false 1 (.t 46) [], (some (39, true))⟩,
  ⟨some 48, .bin .lss (.t 43) (.t 47), (some (39, true))⟩,
  ⟨some 49, .pick (.t 39) (.t 48) (.k (.bool false)), (some (35, false))⟩,
  ⟨some 50, .pick (.t 35) (.k (.bool true)) (.t 49), none⟩]
def r25_7 : List POp := [⟨some 7, .mv (.t 3), none⟩]
def r25_8 : List POp := [⟨some 51, .mv (.t 6), none⟩,
  ⟨some 52, .mv (.t 7), none⟩,
  ⟨some 53, .nilc (.t 52), none⟩,
  ⟨some 54, .load false 1 (.t 53) [], none⟩,
  ⟨some 55, .iaS 2 (.t 54) (.k (.int .i64 0)), none⟩,
  ⟨some 56, .fad 0 (.t 55), none⟩,
  ⟨some 57, .load false 1 (.t 56) [], none⟩,
  ⟨some 58, .mv (.t 7), none⟩,
  ⟨some 59, .nilc (.t 58), none⟩,
  ⟨some 60, .load false 1 (.t 59) [], none⟩,
  ⟨some 61, .iaS 2 (.t 60) (.k (.int .i64 0)), none⟩,
  ⟨some 62, .fad 1 (.t 61), none⟩,
  ⟨some 63, .load false 1 (.t 62) [], none⟩,
  ⟨some 64, .call true 84 [(.t 51), (.t 57), (.t 63)], none⟩,
  ⟨some 6, .mv (.t 64), none⟩]
def r25_9 : List POp := [⟨some 65, .mv (.t 7), none⟩,
  ⟨some 66, .mv (.t 7), none⟩,
  ⟨some 67, .nilc (.t 66), none⟩,
  ⟨some 68, .load false 1 (.t 67) [], none⟩,
  ⟨some 69, .slc 2 (.t 68) (some (.k (.int .i64 1))) none, none⟩,
  ⟨some 70, .nilc (.t 65), none⟩,
  ⟨none, .store 1 (.t 70) (.t 69) [], none⟩]
def b25_0 : PCode := (.seq (.seq (.ops false r25_4) (.cond (.t 31) .skip (.exit 0))) (.block 1 (.seq (.ops false r25_5) (.seq (.seq (.ops true r25_6) (.cond (.t 50) (.ops false r25_7) .skip)) (.seq (.ops true r25_8) (.rn 6 6 (.ops false r25_9)))))))
def r25_10 : List POp := [⟨some 71, .mv (.t 6), none⟩,
  ⟨some 4, .mv (.t 71), none⟩,
  ⟨some 5, .mv (.k (.bool true)), none⟩]
def p25 : PCode := (.seq (.ops false r25_0) (.seq (.seq (.ops true r25_1) (.cond (.t 23) (.seq (.ops false r25_2) .ret) .skip)) (.seq (.ops false r25_3) (.seq (.block 0 (.loop b25_0)) (.seq (.ops false r25_10) .ret)))))
def rs25 : List RS := [.t 4, .t 5]
theorem c25 : chkF Try.prog Try.f25 2 p25 rs25 = true := by kernel_rfl
/- cuboid/bag.Good -/
def r26_0 : List POp := [⟨some 2, .mv (.k (.bool false)), none⟩]
def r26_1 : List POp := [⟨some 3, .mv (.k (.int .i64 0)), none⟩]
def r26_2 : List POp := [⟨some 6, .mv (.t 0), none⟩,
  ⟨some 7, .len (.t 6), none⟩,
  ⟨some 8, .mv (.k (.int .i64 0)), none⟩]
def r26_3 : List POp := [⟨some 9, .bin .lss (.t 8) (.t 7), none⟩]
def r26_4 : List POp := [⟨some 10, .mv (.t 8), none⟩,
  ⟨some 11, .iaS 2 (.t 6) (.t 8), none⟩,
  ⟨some 12, .load true 2 (.t 11) [], none⟩,
  ⟨some 5, .alloc [.int .i64 0, .int .i64 0], none⟩,
  ⟨some 4, .mv (.t 10), none⟩,
  ⟨none, .store 2 (.t 5) (.t 12) [], none⟩]
def r26_5 : List POp := [⟨some 13, .mv (.t 4), none⟩,
  ⟨some 14, .bin .gtr (.t 13) (.k (.int .i64 0)), none⟩,
  ⟨some 15, .mv (.t 14), none⟩,
  ⟨some 16, .mv (.t 0), (some (15, true))⟩,
  ⟨some 17, .mv (.t 4), (some (15, true))⟩,
  ⟨some 18, .bin .sub (.t 17) (.k (.int .i64 1)), (some (15, true))⟩,
  ⟨some 19, .iaS 2 (.t 16) (.t 18), (some (15, true))⟩,
  ⟨some 20, .fad 0 (.t 19), (some (15, true))⟩,
  ⟨some 21, .load false 1 (.t 20) [], (some (15, true))⟩,
  ⟨some 22, .fad 0 (.t 5), (some (15, true))⟩,
  ⟨some 23, .load false 1 (.t 22) [], (some (15, true))⟩,
  ⟨some 24, .bin .geq (.t 21) (.t 23), (some (15, true))⟩,
  ⟨some 25, .pick (.t 15) (.t 24) (.k (.bool false)), none⟩,
  ⟨some 26, .mv (.t 25), none⟩,
  ⟨some 27, .fad 1 (.t 5), (some (26, false))⟩,
  ⟨some 28, .load false 1 (.t 27) [], (some (26, false))⟩,
  ⟨some 29, .bin .lss (.t 28) (.k (.int .i64 1)), (some (26, false))⟩,
  ⟨some 30, .pick (.t 26) (.k (.bool true)) (.t 29), none⟩,
  ⟨some 31, .mv (.t 30), none⟩,
  ⟨some 32, .fad 1 (.t 5), (some (31, false))⟩,
  ⟨some 33, .load false 1 (.t 32) [], (some (31, false))⟩,
  ⟨some 34, .mv (.t 3), (some (31, false))⟩,
  ⟨some 35, .bin .sub (.k (.int .i64 1099511627776)) (.t 34), (some (31, false))⟩,
  ⟨some 36, .bin .gtr (.t 33) (.t 35), (some (31, false))⟩,
  ⟨some 37, .pick (.t 31) (.k (.bool true)) (.t 36), none⟩]
def r26_6 : List POp := [⟨some 2, .mv (.k (.bool false)), none⟩]
def r26_7 : List POp := [⟨some 38, .mv (.t 3), none⟩,
  ⟨some 39, .fad 1 (.t 5), none⟩,
  ⟨some 40, .load false 1 (.t 39) [], none⟩,
  ⟨some 41, .bin .add (.t 38) (.t 40), none⟩,
  ⟨some 3, .mv (.t 41), none⟩]
def r26_8 : List POp := [⟨some 42, .bin .add (.t 8) (.k (.int .i64 1)), none⟩,
  ⟨some 8, .mv (.t 42), none⟩]
def b26_0 : PCode := (.seq (.ops false r26_3) (.seq (.cond (.t 9) .skip (.exit 0)) (.seq (.block 1 (.seq (.ops false r26_4) (.seq (.seq (.ops true r26_5) (.cond (.t 37) (.seq (.ops false r26_6) .ret) .skip)) (.ops false r26_7)))) (.ops false r26_8))))
def r26_9 : List POp := [⟨some 2, .mv (.k (.bool true)), none⟩]
def p26 : PCode := (.seq (.ops false r26_0) (.seq (.ops false r26_1) (.seq (.seq (.ops false r26_2) (.block 0 (.loop b26_0))) (.seq (.ops false r26_9) .ret))))
def rs26 : List RS := [.t 2]
theorem c26 : chkF Try.prog Try.f26 1 p26 rs26 = true := by kernel_rfl
/- cuboid/bag.Count -/
def r27_0 : List POp := [⟨some 2, .mv (.k (.int .i64 0)), none⟩]
def r27_1 : List POp := [⟨some 3, .mv (.t 0), none⟩,
  ⟨some 4, .call false 26 [(.t 3)], none⟩,
  ⟨some 5, .un .not (.t 4), none⟩]
def r27_2 : List POp := [⟨some 2, .mv (.k (.int .i64 0)), none⟩]
def r27_3 : List POp := [⟨some 6, .mv (.t 0), none⟩,
  ⟨some 7, .call false 86 [(.t 6)], none⟩,
  ⟨some 2, .mv (.t 7), none⟩]
def p27 : PCode := (.seq (.ops false r27_0) (.seq (.seq (.ops false r27_1) (.cond (.t 5) (.seq (.ops false r27_2) .ret) .skip)) (.seq (.ops false r27_3) .ret)))
def rs27 : List RS := [.t 2]
theorem c27 : chkF Try.prog Try.f27 1 p27 rs27 = true := by kernel_rfl
/- cuboid/bag.Same -/
def r29_0 : List POp := [⟨some 4, .mv (.k (.bool false)), none⟩]
def r29_1 : List POp := [⟨some 5, .mv (.t 0), none⟩,
  ⟨some 6, .mv (.t 1), none⟩,
  ⟨some 7, .call false 87 [(.t 5), (.t 6)], none⟩,
  ⟨some 4, .mv (.t 7), none⟩]
def p29 : PCode := (.seq (.ops false r29_0) (.seq (.ops false r29_1) .ret))
def rs29 : List RS := [.t 4]
theorem c29 : chkF Try.prog Try.f29 2 p29 rs29 = true := by kernel_rfl
/- cuboid/bag.Has -/
def r30_0 : List POp := [⟨some 4, .mv (.k (.int .i64 0)), none⟩]
def r30_1 : List POp := [⟨some 7, .mv (.t 0), none⟩,
  ⟨some 8, .call false 26 [(.t 7)], none⟩,
  ⟨some 9, .un .not (.t 8), none⟩]
def r30_2 : List POp := [⟨some 4, .mv (.k (.int .i64 0)), none⟩]
def r30_3 : List POp := [⟨some 10, .mv (.t 0), none⟩,
  ⟨some 11, .len (.t 10), none⟩,
  ⟨some 12, .mv (.k (.int .i64 0)), none⟩]
def r30_4 : List POp := [⟨some 13, .bin .lss (.t 12) (.t 11), none⟩]
def r30_5 : List POp := [⟨some 14, .iaS 2 (.t 10) (.t 12), none⟩,
  ⟨some 15, .load true 2 (.t 14) [], none⟩,
  ⟨some 6, .alloc [.int .i64 0, .int .i64 0], none⟩,
  ⟨none, .store 2 (.t 6) (.t 15) [], none⟩]
def r30_6 : List POp := [⟨some 16, .fad 0 (.t 6), none⟩,
  ⟨some 17, .load false 1 (.t 16) [], none⟩,
  ⟨some 18, .mv (.t 1), none⟩,
  ⟨some 19, .bin .eql (.t 17) (.t 18), none⟩]
def r30_7 : List POp := [⟨some 20, .fad 1 (.t 6), none⟩,
  ⟨some 21, .load false 1 (.t 20) [], none⟩,
  ⟨some 4, .mv (.t 21), none⟩]
def r30_8 : List POp := [⟨some 22, .bin .add (.t 12) (.k (.int .i64 1)), none⟩,
  ⟨some 12, .mv (.t 22), none⟩]
def b30_0 : PCode := (.seq (.ops false r30_4) (.seq (.cond (.t 13) .skip (.exit 0)) (.seq (.block 1 (.seq (.ops false r30_5) (.seq (.ops false r30_6) (.cond (.t 19) (.seq (.ops false r30_7) .ret) .skip)))) (.ops false r30_8))))
def r30_9 : List POp := [⟨some 4, .mv (.k (.int .i64 0)), none⟩]
def p30 : PCode := (.seq (.ops false r30_0) (.seq (.seq (.ops false r30_1) (.cond (.t 9) (.seq (.ops false r30_2) .ret) .skip)) (.seq (.seq (.ops false r30_3) (.block 0 (.loop b30_0))) (.seq (.ops false r30_9) .ret))))
def rs30 : List RS := [.t 4]
theorem c30 : chkF Try.prog Try.f30 2 p30 rs30 = true := by kernel_rfl
/- cuboid/bag.Sum -/
def r31_0 : List POp := [⟨some 2, .mv (.k (.int .i64 0)), none⟩,
  ⟨some 3, .mv (.k (.bool false)), none⟩]
def r31_1 : List POp := [⟨some 4, .mv (.t 0), none⟩,
  ⟨some 5, .call false 26 [(.t 4)], none⟩,
  ⟨some 6, .un .not (.t 5), none⟩]
def r31_2 : List POp := [⟨some 2, .mv (.k (.int .i64 0)), none⟩,
  ⟨some 3, .mv (.k (.bool false)), none⟩]
def r31_3 : List POp := [⟨some 7, .mv (.t 0), none⟩,
  ⟨some 8, .call false 88 [(.t 7), (.k (.sl []))], none⟩,
  ⟨some 9, .call false 89 [(.t 8)], none⟩,
  ⟨some 10, .ext (.t 9) 0, none⟩,
  ⟨some 11, .ext (.t 9) 1, none⟩,
  ⟨some 2, .mv (.t 10), none⟩,
  ⟨some 3, .mv (.t 11), none⟩]
def p31 : PCode := (.seq (.ops false r31_0) (.seq (.seq (.ops false r31_1) (.cond (.t 6) (.seq (.ops false r31_2) .ret) .skip)) (.seq (.ops false r31_3) .ret)))
def rs31 : List RS := [.t 2, .t 3]
theorem c31 : chkF Try.prog Try.f31 1 p31 rs31 = true := by kernel_rfl
/- cuboid/calc.Total -/
def r32_0 : List POp := [⟨some 2, .mv (.k (.int .i64 0)), none⟩,
  ⟨some 3, .mv (.k (.bool false)), none⟩]
def r32_1 : List POp := [⟨some 4, .alloc [.int .i64 0, .int .u64 0], none⟩]
def r32_2 : List POp := [⟨some 7, .mv (.t 0), none⟩,
  ⟨some 8, .len (.t 7), none⟩,
  ⟨some 9, .mv (.k (.int .i64 0)), none⟩]
def r32_3 : List POp := [⟨some 10, .bin .lss (.t 9) (.t 8), none⟩]
def r32_4 : List POp := [⟨some 11, .iaS 1 (.t 7) (.t 9), none⟩,
  ⟨some 12, .load false 1 (.t 11) [], none⟩,
  ⟨some 6, .mv (.t 12), none⟩]
def r32_5 : List POp := [⟨some 13, .load true 2 (.t 4) [], none⟩,
  ⟨some 14, .mv (.t 6), none⟩,
  ⟨some 15, .call false 90 [(.t 13), (.t 14), (.k (.int .i64 1))], none⟩,
  ⟨none, .store 2 (.t 4) (.t 15) [], none⟩]
def r32_6 : List POp := [⟨some 16, .bin .add (.t 9) (.k (.int .i64 1)), none⟩,
  ⟨some 9, .mv (.t 16), none⟩]
def b32_0 : PCode := (.seq (.ops false r32_3) (.seq (.cond (.t 10) .skip (.exit 0)) (.seq (.block 1 (.seq (.ops false r32_4) (.ops false r32_5))) (.ops false r32_6))))
def r32_7 : List POp := [⟨some 17, .load true 2 (.t 4) [], none⟩,
  ⟨some 18, .call false 89 [(.t 17)], none⟩,
  ⟨some 19, .ext (.t 18) 0, none⟩,
  ⟨some 20, .ext (.t 18) 1, none⟩,
  ⟨some 2, .mv (.t 19), none⟩,
  ⟨some 3, .mv (.t 20), none⟩]
def p32 : PCode := (.seq (.ops false r32_0) (.seq (.ops false r32_1) (.seq (.seq (.ops false r32_2) (.block 0 (.loop b32_0))) (.seq (.ops false r32_7) .ret))))
def rs32 : List RS := [.t 2, .t 3]
theorem c32 : chkF Try.prog Try.f32 1 p32 rs32 = true := by kernel_rfl
/- cuboid/cuboidref08.Of -/
def r33_0 : List POp := [⟨some 2, .mv (.k (.sl [])), none⟩]
def r33_1 : List POp := [⟨some 3, .mv (.k (.sl [])), none⟩]
def r33_2 : List POp := [⟨some 4, .mv (.k (.int .i64 0)), none⟩]
def r33_3 : List POp := [⟨some 5, .mv (.t 4), none⟩,
  ⟨some 6, .mv (.t 0), none⟩,
  ⟨some 7, .len (.t 6), none⟩,
  ⟨some 8, .bin .lss (.t 5) (.t 7), none⟩]
def r33_5 : List POp := [⟨some 11, .mv (.t 3), none⟩,
  ⟨some 12, .mv (.t 0), none⟩,
  ⟨some 13, .mv (.t 4), none⟩,
  ⟨some 14, .iaS 1 (.t 12) (.t 13), none⟩,
  ⟨some 15, .load false 1 (.t 14) [], none⟩,
  ⟨some 16, .call false 81 [(.t 11), (.t 15), (.k (.int .i64 1))], none⟩,
  ⟨some 3, .mv (.t 16), none⟩]
def r33_4 : List POp := [⟨some 9, .mv (.t 4), none⟩,
  ⟨some 10, .bin .add (.t 9) (.k (.int .i64 1)), none⟩,
  ⟨some 4, .mv (.t 10), none⟩]
def b33_0 : PCode := (.seq (.seq (.ops false r33_3) (.cond (.t 8) .skip (.exit 0))) (.seq (.block 1 (.ops false r33_5)) (.ops false r33_4)))
def r33_6 : List POp := [⟨some 17, .mv (.t 3), none⟩,
  ⟨some 2, .mv (.t 17), none⟩]
def p33 : PCode := (.seq (.ops false r33_0) (.seq (.ops false r33_1) (.seq (.seq (.ops false r33_2) (.block 0 (.loop b33_0))) (.seq (.ops false r33_6) .ret))))
def rs33 : List RS := [.t 2]
theorem c33 : chkF Try.prog Try.f33 1 p33 rs33 = true := by kernel_rfl
/- cuboid/cuboidref08.Good -/
def r34_0 : List POp := [⟨some 2, .mv (.k (.bool false)), none⟩]
def r34_1 : List POp := [⟨some 3, .mv (.k (.int .i64 0)), none⟩]
def r34_2 : List POp := [⟨some 4, .mv (.k (.int .i64 0)), none⟩]
def r34_3 : List POp := [⟨some 5, .mv (.t 4), none⟩,
  ⟨some 6, .mv (.t 0), none⟩,
  ⟨some 7, .len (.t 6), none⟩,
  ⟨some 8, .bin .lss (.t 5) (.t 7), none⟩]
def r34_5 : List POp := [⟨some 11, .mv (.t 4), none⟩,
  ⟨some 12, .bin .gtr (.t 11) (.k (.int .i64 0)), none⟩,
  ⟨some 13, .mv (.t 12), none⟩,
  ⟨some 14, .mv (.t 0), (some (13, true))⟩,
  ⟨some 15, .mv (.t 4), (some (13, true))⟩,
  ⟨some 16, .bin .sub (.t 15) (.k (.int .i64 1)), (some (13, true))⟩,
  ⟨some 17, .iaS 2 (.t 14) (.t 16), (some (13, true))⟩,
  ⟨some 18, .fad 0 (.t 17), (some (13, true))⟩,
  ⟨some 19, .load false 1 (.t 18) [], (some (13, true))⟩,
  ⟨some 20, .mv (.t 0), (some (13, true))⟩,
  ⟨some 21, .mv (.t 4), (some (13, true))⟩,
  ⟨some 22, .iaS 2 (.t 20) (.t 21), (some (13, true))⟩,
  ⟨some 23, .fad 0 (.t 22), (some (13, true))⟩,
  ⟨some 24, .load false 1 (.t 23) [], (some (13, true))⟩,
  ⟨some 25, .bin .geq (.t 19) (.t 24), (some (13, true))⟩,
  ⟨some 26, .pick (.t 13) (.t 25) (.k (.bool false)), none⟩,
  ⟨some 27, .mv (.t 26), none⟩,
  ⟨some 28, .mv (.t 0), (some (27, false))⟩,
  ⟨some 29, .mv (.t 4), (some (27, false))⟩,
  ⟨some 30, .iaS 2 (.t 28) (.t 29), (some (27, false))⟩,
  ⟨some 31, .fad 1 (.t 30), (some (27, false))⟩,
  ⟨some 32, .load false 1 (.t 31) [], (some (27, false))⟩,
  ⟨some 33, .bin .lss (.t 32) (.k (.int .i64 1)), (some (27, false))⟩,
  ⟨some 34, .pick (.t 27) (.k (.bool true)) (.t 33), none⟩,
  ⟨some 35, .mv (.t 34), none⟩,
  ⟨some 36, .mv (.t 0), (some (35, false))⟩,
  ⟨some 37, .mv (.t 4), (some (35, false))⟩,
  ⟨some 38, .iaS 2 (.t 36) (.t 37), (some (35, false))⟩,
  ⟨some 39, .fad 1 (.t 38), (some (35, false))⟩,
  ⟨some 40, .load false 1 (.t 39) [], (some (35, false))⟩,
  ⟨some 41, .mv (.t 3), (some (35, false))⟩,
  ⟨some 42, .bin .sub (.k (.int .i64 1099511627776)) (.t 41), (some (35, false))⟩,
  ⟨some 43, .bin .gtr (.t 40) (.t 42), (some (35, false))⟩,
  ⟨some 44, .pick (.t 35) (.k (.bool true)) (.t 43), none⟩]
def r34_6 : List POp := [⟨some 2, .mv (.k (.bool false)), none⟩]
def r34_7 : List POp := [⟨some 45, .mv (.t 3), none⟩,
  ⟨some 46, .mv (.t 0), none⟩,
  ⟨some 47, .mv (.t 4), none⟩,
  ⟨some 48, .iaS 2 (.t 46) (.t 47), none⟩,
  ⟨some 49, .fad 1 (.t 48), none⟩,
  ⟨some 50, .load false 1 (.t 49) [], none⟩,
  ⟨some 51, .bin .add (.t 45) (.t 50), none⟩,
  ⟨some 3, .mv (.t 51), none⟩]
def r34_4 : List POp := [⟨some 9, .mv (.t 4), none⟩,
  ⟨some 10, .bin .add (.t 9) (.k (.int .i64 1)), none⟩,
  ⟨some 4, .mv (.t 10), none⟩]
def b34_0 : PCode := (.seq (.seq (.ops false r34_3) (.cond (.t 8) .skip (.exit 0))) (.seq (.block 1 (.seq (.seq (.ops true r34_5) (.cond (.t 44) (.seq (.ops false r34_6) .ret) .skip)) (.ops false r34_7))) (.ops false r34_4)))
def r34_8 : List POp := [⟨some 2, .mv (.k (.bool true)), none⟩]
def p34 : PCode := (.seq (.ops false r34_0) (.seq (.ops false r34_1) (.seq (.seq (.ops false r34_2) (.block 0 (.loop b34_0))) (.seq (.ops false r34_8) .ret))))
def rs34 : List RS := [.t 2]
theorem c34 : chkF Try.prog Try.f34 1 p34 rs34 = true := by kernel_rfl
/- cuboid/cuboidref08.Count -/
def r35_0 : List POp := [⟨some 2, .mv (.k (.int .i64 0)), none⟩]
def r35_1 : List POp := [⟨some 3, .mv (.k (.int .i64 0)), none⟩]
def r35_2 : List POp := [⟨some 4, .mv (.k (.int .i64 0)), none⟩]
def r35_3 : List POp := [⟨some 5, .mv (.t 0), none⟩,
  ⟨some 6, .call false 34 [(.t 5)], none⟩,
  ⟨some 7, .mv (.t 6), none⟩,
  ⟨some 8, .mv (.t 4), (some (7, true))⟩,
  ⟨some 9, .mv (.t 0), (some (7, true))⟩,
  ⟨some 10, .len (.t 9), (some (7, true))⟩,
  ⟨some 11, .bin .lss (.t 8) (.t 10), (some (7, true))⟩,
  ⟨some 12, .pick (.t 7) (.t 11) (.k (.bool false)), none⟩]
def r35_5 : List POp := [⟨some 15, .mv (.t 3), none⟩,
  ⟨some 16, .mv (.t 0), none⟩,
  ⟨some 17, .mv (.t 4), none⟩,
  ⟨some 18, .iaS 2 (.t 16) (.t 17), none⟩,
  ⟨some 19, .fad 1 (.t 18), none⟩,
  ⟨some 20, .load false 1 (.t 19) [], none⟩,
  ⟨some 21, .bin .add (.t 15) (.t 20), none⟩,
  ⟨some 3, .mv (.t 21), none⟩]
def r35_4 : List POp := [⟨some 13, .mv (.t 4), none⟩,
  ⟨some 14, .bin .add (.t 13) (.k (.int .i64 1)), none⟩,
  ⟨some 4, .mv (.t 14), none⟩]
def b35_0 : PCode := (.seq (.seq (.ops false r35_3) (.cond (.t 12) .skip (.exit 0))) (.seq (.block 1 (.ops false r35_5)) (.ops false r35_4)))
def r35_6 : List POp := [⟨some 22, .mv (.t 3), none⟩,
  ⟨some 2, .mv (.t 22), none⟩]
def p35 : PCode := (.seq (.ops false r35_0) (.seq (.ops false r35_1) (.seq (.seq (.ops false r35_2) (.block 0 (.loop b35_0))) (.seq (.ops false r35_6) .ret))))
def rs35 : List RS := [.t 2]
theorem c35 : chkF Try.prog Try.f35 1 p35 rs35 = true := by kernel_rfl
/- cuboid/cuboidlaw08.sum -/
def r36_0 : List POp := [⟨some 2, .mv (.k (.bool false)), none⟩]
def r36_1 : List POp := [⟨some 8, .mv (.t 0), none⟩,
  ⟨some 9, .call false 31 [(.t 8)], none⟩,
  ⟨some 7, .mv (.t 9), none⟩,
  ⟨some 10, .ext (.t 7) 0, none⟩,
  ⟨some 11, .ext (.t 7) 1, none⟩,
  ⟨some 3, .mv (.t 10), none⟩,
  ⟨some 4, .mv (.t 11), none⟩]
def r36_2 : List POp := [⟨some 13, .mv (.t 0), none⟩,
  ⟨some 14, .call false 92 [(.t 13)], none⟩,
  ⟨some 15, .call false 91 [(.t 14)], none⟩,
  ⟨some 12, .mv (.t 15), none⟩,
  ⟨some 16, .ext (.t 12) 0, none⟩,
  ⟨some 17, .ext (.t 12) 1, none⟩,
  ⟨some 5, .mv (.t 16), none⟩,
  ⟨some 6, .mv (.t 17), none⟩]
def r36_3 : List POp := [⟨some 18, .mv (.t 0), none⟩,
  ⟨some 19, .call false 34 [(.t 18)], none⟩,
  ⟨some 20, .un .not (.t 19), none⟩]
def r36_4 : List POp := [⟨some 21, .mv (.t 3), none⟩,
  ⟨some 22, .bin .eql (.t 21) (.k (.int .i64 0)), none⟩,
  ⟨some 23, .mv (.t 22), none⟩,
  ⟨some 24, .mv (.t 4), (some (23, true))⟩,
  ⟨some 25, .un .not (.t 24), (some (23, true))⟩,
  ⟨some 26, .pick (.t 23) (.t 25) (.k (.bool false)), none⟩,
  ⟨some 2, .mv (.t 26), none⟩]
def r36_5 : List POp := [⟨some 27, .mv (.t 4), none⟩,
  ⟨some 28, .mv (.t 6), none⟩,
  ⟨some 29, .eqs false false [.b] (.t 27) (.t 28), none⟩,
  ⟨some 30, .mv (.t 29), none⟩,
  ⟨some 31, .mv (.t 3), (some (30, true))⟩,
  ⟨some 32, .mv (.t 5), (some (30, true))⟩,
  ⟨some 33, .bin .eql (.t 31) (.t 32), (some (30, true))⟩,
  ⟨some 34, .pick (.t 30) (.t 33) (.k (.bool false)), none⟩,
  ⟨some 2, .mv (.t 34), none⟩]
def p36 : PCode := (.seq (.ops false r36_0) (.seq (.ops false r36_1) (.seq (.ops false r36_2) (.seq (.seq (.ops false r36_3) (.cond (.t 20) (.seq (.ops false r36_4) .ret) .skip)) (.seq (.ops false r36_5) .ret)))))
def rs36 : List RS := [.t 2]
theorem c36 : chkF Try.prog Try.f36 1 p36 rs36 = true := by kernel_rfl
/- cuboid/cuboidlaw08.ends -/
def r37_0 : List POp := [⟨some 2, .mv (.k (.bool false)), none⟩]
def r37_1 : List POp := [⟨some 8, .mv (.t 0), none⟩,
  ⟨some 9, .call false 22 [(.t 8)], none⟩,
  ⟨some 7, .mv (.t 9), none⟩,
  ⟨some 10, .ext (.t 7) 0, none⟩,
  ⟨some 11, .ext (.t 7) 1, none⟩,
  ⟨some 3, .mv (.t 10), none⟩,
  ⟨some 4, .mv (.t 11), none⟩]
def r37_2 : List POp := [⟨some 13, .mv (.t 0), none⟩,
  ⟨some 14, .call false 23 [(.t 13)], none⟩,
  ⟨some 12, .mv (.t 14), none⟩,
  ⟨some 15, .ext (.t 12) 0, none⟩,
  ⟨some 16, .ext (.t 12) 1, none⟩,
  ⟨some 5, .mv (.t 15), none⟩,
  ⟨some 6, .mv (.t 16), none⟩]
def r37_3 : List POp := [⟨some 17, .mv (.t 0), none⟩,
  ⟨some 18, .call false 34 [(.t 17)], none⟩,
  ⟨some 19, .un .not (.t 18), none⟩,
  ⟨some 20, .mv (.t 19), none⟩,
  ⟨some 21, .mv (.t 0), (some (20, false))⟩,
  ⟨some 22, .len (.t 21), (some (20, false))⟩,
  ⟨some 23, .bin .eql (.t 22) (.k (.int .i64 0)), (some (20, false))⟩,
  ⟨some 24, .pick (.t 20) (.k (.bool true)) (.t 23), none⟩]
def r37_4 : List POp := [⟨some 25, .mv (.t 4), none⟩,
  ⟨some 26, .un .not (.t 25), none⟩,
  ⟨some 27, .mv (.t 26), none⟩,
  ⟨some 28, .mv (.t 6), (some (27, true))⟩,
  ⟨some 29, .un .not (.t 28), (some (27, true))⟩,
  ⟨some 30, .pick (.t 27) (.t 29) (.k (.bool false)), none⟩,
  ⟨some 31, .mv (.t 30), none⟩,
  ⟨some 32, .mv (.t 3), (some (31, true))⟩,
  ⟨some 33, .bin .eql (.t 32) (.k (.int .i64 0)), (some (31, true))⟩,
  ⟨some 34, .pick (.t 31) (.t 33) (.k (.bool false)), none⟩,
  ⟨some 35, .mv (.t 34), none⟩,
  ⟨some 36, .mv (.t 5), (some (35, true))⟩,
  ⟨some 37, .bin .eql (.t 36) (.k (.int .i64 0)), (some (35, true))⟩,
  ⟨some 38, .pick (.t 35) (.t 37) (.k (.bool false)), none⟩,
  ⟨some 2, .mv (.t 38), none⟩]
def r37_5 : List POp := [⟨some 39, .mv (.t 4), none⟩,
  ⟨some 40, .mv (.t 39), none⟩,
  ⟨some 41, .mv (.t 6), (some (40, true))⟩,
  ⟨some 42, .pick (.t 40) (.t 41) (.k (.bool false)), none⟩,
  ⟨some 43, .mv (.t 42), none⟩,
  ⟨some 44, .mv (.t 3), (some (43, true))⟩,
  ⟨some 45, .mv (.t 0), (some (43, true))⟩,
  ⟨some 46, .iaS 2 (.t 45) (.k (.int .i64 0)), (some (43, true))⟩,
  ⟨some 47, .fad 0 (.t 46), (some (43, true))⟩,
  ⟨some 48, .load false 1 (.t 47) [], (some (43, true))⟩,
  ⟨some 49, .bin .eql (.t 44) (.t 48), (some (43, true))⟩,
  ⟨some 50, .pick (.t 43) (.t 49) (.k (.bool false)), none⟩,
  ⟨some 51, .mv (.t 50), none⟩,
  ⟨some 52, .mv (.t 5), (some (51, true))⟩,
  ⟨some 53, .mv (.t 0), (some (51, true))⟩,
  ⟨some 54, .mv (.t 0), (some (51, true))⟩,
  ⟨some 55, .len (.t 54), (some (51, true))⟩,
  ⟨some 56, .bin .sub (.t 55) (.k (.int .i64 1)), (some (51, true))⟩,
  ⟨some 57, .iaS 2 (.t 53) (.t 56), (some (51, true))⟩,
  ⟨some 58, .fad 0 (.t 57), (some (51, true))⟩,
  ⟨some 59, .load false 1 (.t 58) [], (some (51, true))⟩,
  ⟨some 60, .bin .eql (.t 52) (.t 59), (some (51, true))⟩,
  ⟨some 61, .pick (.t 51) (.t 60) (.k (.bool false)), none⟩,
  ⟨some 2, .mv (.t 61), none⟩]
def p37 : PCode := (.seq (.ops false r37_0) (.seq (.ops false r37_1) (.seq (.ops false r37_2) (.seq (.seq (.ops false r37_3) (.cond (.t 24) (.seq (.ops false r37_4) .ret) .skip)) (.seq (.ops false r37_5) .ret)))))
def rs37 : List RS := [.t 2]
theorem c37 : chkF Try.prog Try.f37 1 p37 rs37 = true := by kernel_rfl
/- cuboid/cuboidref08.Has -/
def r38_0 : List POp := [⟨some 4, .mv (.k (.int .i64 0)), none⟩]
def r38_1 : List POp := [⟨some 5, .mv (.k (.int .i64 0)), none⟩]
def r38_2 : List POp := [⟨some 6, .mv (.t 0), none⟩,
  ⟨some 7, .call false 34 [(.t 6)], none⟩,
  ⟨some 8, .mv (.t 7), none⟩,
  ⟨some 9, .mv (.t 5), (some (8, true))⟩,
  ⟨some 10, .mv (.t 0), (some (8, true))⟩,
  ⟨some 11, .len (.t 10), (some (8, true))⟩,
  ⟨some 12, .bin .lss (.t 9) (.t 11), (some (8, true))⟩,
  ⟨some 13, .pick (.t 8) (.t 12) (.k (.bool false)), none⟩]
def r38_4 : List POp := [⟨some 16, .mv (.t 0), none⟩,
  ⟨some 17, .mv (.t 5), none⟩,
  ⟨some 18, .iaS 2 (.t 16) (.t 17), none⟩,
  ⟨some 19, .fad 0 (.t 18), none⟩,
  ⟨some 20, .load false 1 (.t 19) [], none⟩,
  ⟨some 21, .mv (.t 1), none⟩,
  ⟨some 22, .bin .eql (.t 20) (.t 21), none⟩]
def r38_5 : List POp := [⟨some 23, .mv (.t 0), none⟩,
  ⟨some 24, .mv (.t 5), none⟩,
  ⟨some 25, .iaS 2 (.t 23) (.t 24), none⟩,
  ⟨some 26, .fad 1 (.t 25), none⟩,
  ⟨some 27, .load false 1 (.t 26) [], none⟩,
  ⟨some 4, .mv (.t 27), none⟩]
def r38_3 : List POp := [⟨some 14, .mv (.t 5), none⟩,
  ⟨some 15, .bin .add (.t 14) (.k (.int .i64 1)), none⟩,
  ⟨some 5, .mv (.t 15), none⟩]
def b38_0 : PCode := (.seq (.seq (.ops false r38_2) (.cond (.t 13) .skip (.exit 0))) (.seq (.block 1 (.seq (.ops false r38_4) (.cond (.t 22) (.seq (.ops false r38_5) .ret) .skip))) (.ops false r38_3)))
def r38_6 : List POp := [⟨some 4, .mv (.k (.int .i64 0)), none⟩]
def p38 : PCode := (.seq (.ops false r38_0) (.seq (.seq (.ops false r38_1) (.block 0 (.loop b38_0))) (.seq (.ops false r38_6) .ret)))
def rs38 : List RS := [.t 4]
theorem c38 : chkF Try.prog Try.f38 2 p38 rs38 = true := by kernel_rfl
/- cuboid/cuboidref08.Join -/
def r39_0 : List POp := [⟨some 4, .alloc [.sl [], .bool false], none⟩]
def r39_1 : List POp := [⟨some 7, .mv (.t 0), none⟩,
  ⟨some 8, .call false 34 [(.t 7)], none⟩,
  ⟨some 9, .un .not (.t 8), none⟩,
  ⟨some 10, .mv (.t 9), none⟩,
  ⟨some 11, .mv (.t 1), (some (10, false))⟩,
  ⟨some 12, .call false 34 [(.t 11)], (some (10, false))⟩,
  ⟨some 13, .un .not (.t 12), (some (10, false))⟩,
  ⟨some 14, .pick (.t 10) (.k (.bool true)) (.t 13), none⟩,
  ⟨some 15, .mv (.t 14), none⟩,
  ⟨some 16, .mv (.t 0), (some (15, false))⟩,
  ⟨some 17, .call false 35 [(.t 16)], (some (15, false))⟩,
  ⟨some 18, .mv (.t 1), (some (15, false))⟩,
  ⟨some 19, .call false 35 [(.t 18)], (some (15, false))⟩,
  ⟨some 20, .bin .add (.t 17) (.t 19), (some (15, false))⟩,
  ⟨some 21, .bin .gtr (.t 20) (.k (.int .i64 1099511627776)), (some (15, false))⟩,
  ⟨some 22, .pick (.t 15) (.k (.bool true)) (.t 21), none⟩]
def r39_2 : List POp := [⟨some 23, .build [.sl [], .bool false] [], none⟩,
  ⟨none, .store 2 (.t 4) (.t 23) [], none⟩]
def r39_3 : List POp := [⟨some 24, .mv (.t 0), none⟩,
  ⟨some 5, .mv (.t 24), none⟩]
def r39_4 : List POp := [⟨some 6, .mv (.k (.int .i64 0)), none⟩]
def r39_5 : List POp := [⟨some 25, .mv (.t 6), none⟩,
  ⟨some 26, .mv (.t 1), none⟩,
  ⟨some 27, .len (.t 26), none⟩,
  ⟨some 28, .bin .lss (.t 25) (.t 27), none⟩]
def r39_7 : List POp := [⟨some 31, .mv (.t 5), none⟩,
  ⟨some 32, .mv (.t 1), none⟩,
  ⟨some 33, .mv (.t 6), none⟩,
  ⟨some 34, .iaS 2 (.t 32) (.t 33), none⟩,
  ⟨some 35, .fad 0 (.t 34), none⟩,
  ⟨some 36, .load false 1 (.t 35) [], none⟩,
  ⟨some 37, .mv (.t 1), none⟩,
  ⟨some 38, .mv (.t 6), none⟩,
  ⟨some 39, .iaS 2 (.t 37) (.t 38), none⟩,
  ⟨some 40, .fad 1 (.t 39), none⟩,
  ⟨some 41, .load false 1 (.t 40) [], none⟩,
  ⟨some 42, .call false 81 [(.t 31), (.t 36), (.t 41)], none⟩,
  ⟨some 5, .mv (.t 42), none⟩]
def r39_6 : List POp := [⟨some 29, .mv (.t 6), none⟩,
  ⟨some 30, .bin .add (.t 29) (.k (.int .i64 1)), none⟩,
  ⟨some 6, .mv (.t 30), none⟩]
def b39_0 : PCode := (.seq (.seq (.ops false r39_5) (.cond (.t 28) .skip (.exit 0))) (.seq (.block 1 (.ops true r39_7)) (.ops false r39_6)))
def r39_8 : List POp := [⟨some 43, .mv (.t 5), none⟩,
  ⟨some 44, .build [.sl [], .bool false] [(0, 1, (.t 43)), (1, 1, (.k (.bool true)))], none⟩,
  ⟨none, .store 2 (.t 4) (.t 44) [], none⟩]
def p39 : PCode := (.seq (.ops false r39_0) (.seq (.seq (.ops false r39_1) (.cond (.t 22) (.seq (.ops false r39_2) .ret) .skip)) (.seq (.ops false r39_3) (.seq (.seq (.ops false r39_4) (.block 0 (.loop b39_0))) (.seq (.ops false r39_8) .ret)))))
def rs39 : List RS := [.cell 4 true 2]
theorem c39 : chkF Try.prog Try.f39 2 p39 rs39 = true := by kernel_rfl
/- cuboid/cuboidref08.Minus -/
def r40_0 : List POp := [⟨some 4, .alloc [.sl [], .bool false], none⟩]
def r40_1 : List POp := [⟨some 7, .mv (.t 0), none⟩,
  ⟨some 8, .call false 34 [(.t 7)], none⟩,
  ⟨some 9, .un .not (.t 8), none⟩,
  ⟨some 10, .mv (.t 9), none⟩,
  ⟨some 11, .mv (.t 1), (some (10, false))⟩,
  ⟨some 12, .call false 34 [(.t 11)], (some (10, false))⟩,
  ⟨some 13, .un .not (.t 12), (some (10, false))⟩,
  ⟨some 14, .pick (.t 10) (.k (.bool true)) (.t 13), none⟩]
def r40_2 : List POp := [⟨some 15, .build [.sl [], .bool false] [], none⟩,
  ⟨none, .store 2 (.t 4) (.t 15) [], none⟩]
def r40_3 : List POp := [⟨some 16, .mv (.t 0), none⟩,
  ⟨some 5, .mv (.t 16), none⟩]
def r40_4 : List POp := [⟨some 6, .mv (.k (.int .i64 0)), none⟩]
def r40_5 : List POp := [⟨some 17, .mv (.t 6), none⟩,
  ⟨some 18, .mv (.t 1), none⟩,
  ⟨some 19, .len (.t 18), none⟩,
  ⟨some 20, .bin .lss (.t 17) (.t 19), none⟩]
def r40_7 : List POp := [⟨some 23, .mv (.t 0), none⟩,
  ⟨some 24, .mv (.t 1), none⟩,
  ⟨some 25, .mv (.t 6), none⟩,
  ⟨some 26, .iaS 2 (.t 24) (.t 25), none⟩,
  ⟨some 27, .fad 0 (.t 26), none⟩,
  ⟨some 28, .load false 1 (.t 27) [], none⟩,
  ⟨some 29, .call false 38 [(.t 23), (.t 28)], none⟩,
  ⟨some 30, .mv (.t 1), none⟩,
  ⟨some 31, .mv (.t 6), none⟩,
  ⟨some 32, .iaS 2 (.t 30) (.t 31), none⟩,
  ⟨some 33, .fad 1 (.t 32), none⟩,
  ⟨some 34, .load false 1 (.t 33) [], none⟩,
  ⟨some 35, .bin .lss (.t 29) (.t 34), none⟩]
def r40_8 : List POp := [⟨some 36, .build [.sl [], .bool false] [], none⟩,
  ⟨none, .store 2 (.t 4) (.t 36) [], none⟩]
def r40_9 : List POp := [⟨some 37, .mv (.t 5), none⟩,
  ⟨some 38, .mv (.t 1), none⟩,
  ⟨some 39, .mv (.t 6), none⟩,
  ⟨some 40, .iaS 2 (.t 38) (.t 39), none⟩,
  ⟨some 41, .fad 0 (.t 40), none⟩,
  ⟨some 42, .load false 1 (.t 41) [], none⟩,
  ⟨some 43, .mv (.t 1), none⟩,
  ⟨some 44, .mv (.t 6), none⟩,
  ⟨some 45, .iaS 2 (.t 43) (.t 44), none⟩,
  ⟨some 46, .fad 1 (.t 45), none⟩,
  ⟨some 47, .load false 1 (.t 46) [], none⟩,
  ⟨some 48, .un .neg (.t 47), none⟩,
  ⟨some 49, .call false 81 [(.t 37), (.t 42), (.t 48)], none⟩,
  ⟨some 5, .mv (.t 49), none⟩]
def r40_6 : List POp := [⟨some 21, .mv (.t 6), none⟩,
  ⟨some 22, .bin .add (.t 21) (.k (.int .i64 1)), none⟩,
  ⟨some 6, .mv (.t 22), none⟩]
def b40_0 : PCode := (.seq (.seq (.ops false r40_5) (.cond (.t 20) .skip (.exit 0))) (.seq (.block 1 (.seq (.seq (.ops true r40_7) (.cond (.t 35) (.seq (.ops false r40_8) .ret) .skip)) (.ops true r40_9))) (.ops false r40_6)))
def r40_10 : List POp := [⟨some 50, .mv (.t 5), none⟩,
  ⟨some 51, .build [.sl [], .bool false] [(0, 1, (.t 50)), (1, 1, (.k (.bool true)))], none⟩,
  ⟨none, .store 2 (.t 4) (.t 51) [], none⟩]
def p40 : PCode := (.seq (.ops false r40_0) (.seq (.seq (.ops false r40_1) (.cond (.t 14) (.seq (.ops false r40_2) .ret) .skip)) (.seq (.ops false r40_3) (.seq (.seq (.ops false r40_4) (.block 0 (.loop b40_0))) (.seq (.ops false r40_10) .ret)))))
def rs40 : List RS := [.cell 4 true 2]
theorem c40 : chkF Try.prog Try.f40 2 p40 rs40 = true := by kernel_rfl
/- cuboid/cuboidref08.Same -/
def r41_0 : List POp := [⟨some 4, .mv (.k (.bool false)), none⟩]
def r41_1 : List POp := [⟨some 6, .mv (.t 0), none⟩,
  ⟨some 7, .len (.t 6), none⟩,
  ⟨some 8, .mv (.t 1), none⟩,
  ⟨some 9, .len (.t 8), none⟩,
  ⟨some 10, .bin .neq (.t 7) (.t 9), none⟩]
def r41_2 : List POp := [⟨some 4, .mv (.k (.bool false)), none⟩]
def r41_3 : List POp := [⟨some 5, .mv (.k (.int .i64 0)), none⟩]
def r41_4 : List POp := [⟨some 11, .mv (.t 5), none⟩,
  ⟨some 12, .mv (.t 0), none⟩,
  ⟨some 13, .len (.t 12), none⟩,
  ⟨some 14, .bin .lss (.t 11) (.t 13), none⟩]
def r41_6 : List POp := [⟨some 17, .mv (.t 0), none⟩,
  ⟨some 18, .mv (.t 5), none⟩,
  ⟨some 19, .iaS 2 (.t 17) (.t 18), none⟩,
  ⟨some 20, .load true 2 (.t 19) [], none⟩,
  ⟨some 21, .mv (.t 1), none⟩,
  ⟨some 22, .mv (.t 5), none⟩,
  ⟨some 23, .iaS 2 (.t 21) (.t 22), none⟩,
  ⟨some 24, .load true 2 (.t 23) [], none⟩,
  ⟨some 25, .eqs true true [.i, .i] (.t 20) (.t 24), none⟩]
def r41_7 : List POp := [⟨some 4, .mv (.k (.bool false)), none⟩]
def r41_5 : List POp := [⟨some 15, .mv (.t 5), none⟩,
  ⟨some 16, .bin .add (.t 15) (.k (.int .i64 1)), none⟩,
  ⟨some 5, .mv (.t 16), none⟩]
def b41_0 : PCode := (.seq (.seq (.ops false r41_4) (.cond (.t 14) .skip (.exit 0))) (.seq (.block 1 (.seq (.ops true r41_6) (.cond (.t 25) (.seq (.ops false r41_7) .ret) .skip))) (.ops false r41_5)))
def r41_8 : List POp := [⟨some 4, .mv (.k (.bool true)), none⟩]
def p41 : PCode := (.seq (.ops false r41_0) (.seq (.seq (.ops false r41_1) (.cond (.t 10) (.seq (.ops false r41_2) .ret) .skip)) (.seq (.seq (.ops false r41_3) (.block 0 (.loop b41_0))) (.seq (.ops false r41_8) .ret))))
def rs41 : List RS := [.t 4]
theorem c41 : chkF Try.prog Try.f41 2 p41 rs41 = true := by kernel_rfl
/- cuboid/cuboidref08.Lay -/
def r81_0 : List POp := [⟨some 6, .mv (.k (.sl [])), none⟩]
def r81_1 : List POp := [⟨some 7, .own0 2, none⟩]
def r81_2 : List POp := [⟨some 8, .mv (.k (.bool false)), none⟩]
def r81_3 : List POp := [⟨some 9, .mv (.k (.int .i64 0)), none⟩]
def r81_4 : List POp := [⟨some 11, .mv (.t 9), none⟩,
  ⟨some 12, .mv (.t 0), none⟩,
  ⟨some 13, .len (.t 12), none⟩,
  ⟨some 14, .bin .lss (.t 11) (.t 13), none⟩]
def r81_6 : List POp := [⟨some 17, .mv (.t 0), none⟩,
  ⟨some 18, .mv (.t 9), none⟩,
  ⟨some 19, .iaS 2 (.t 17) (.t 18), none⟩,
  ⟨some 20, .load true 2 (.t 19) [], none⟩,
  ⟨some 10, .alloc [.int .i64 0, .int .i64 0], none⟩,
  ⟨none, .store 2 (.t 10) (.t 20) [], none⟩]
def r81_7 : List POp := [⟨some 21, .mv (.t 8), none⟩,
  ⟨some 22, .un .not (.t 21), none⟩,
  ⟨some 23, .mv (.t 22), none⟩,
  ⟨some 24, .fad 0 (.t 10), (some (23, true))⟩,
  ⟨some 25, .load false 1 (.t 24) [], (some (23, true))⟩,
  ⟨some 26, .mv (.t 1), (some (23, true))⟩,
  ⟨some 27, .bin .geq (.t 25) (.t 26), (some (23, true))⟩,
  ⟨some 28, .pick (.t 23) (.t 27) (.k (.bool false)), none⟩]
def r81_8 : List POp := [⟨some 8, .mv (.k (.bool true)), none⟩]
def r81_9 : List POp := [⟨some 29, .fad 0 (.t 10), none⟩,
  ⟨some 30, .load false 1 (.t 29) [], none⟩,
  ⟨some 31, .mv (.t 1), none⟩,
  ⟨some 32, .bin .gtr (.t 30) (.t 31), none⟩]
def r81_10 : List POp := [⟨some 33, .mv (.t 7), none⟩,
  ⟨some 34, .mv (.t 1), none⟩,
  ⟨some 35, .mv (.t 2), none⟩,
  ⟨some 36, .build [.int .i64 0, .int .i64 0] [(0, 1, (.t 34)), (1, 1, (.t 35))], none⟩,
  ⟨some 37, .bsl 2 1 [.int .i64 0, .int .i64 0] [(0, (.t 36))] false, none⟩,
  ⟨some 38, .app 2 (.t 33) (.t 37) true, none⟩,
  ⟨some 7, .mv (.t 38), none⟩]
def r81_11 : List POp := [⟨some 39, .fad 1 (.t 10), none⟩,
  ⟨some 40, .load false 1 (.t 39) [], none⟩,
  ⟨some 41, .mv (.t 2), none⟩,
  ⟨some 42, .bin .add (.t 40) (.t 41), none⟩,
  ⟨some 43, .fad 1 (.t 10), none⟩,
  ⟨none, .store 1 (.t 43) (.t 42) [], none⟩]
def r81_12 : List POp := [⟨some 44, .fad 1 (.t 10), none⟩,
  ⟨some 45, .load false 1 (.t 44) [], none⟩,
  ⟨some 46, .bin .neq (.t 45) (.k (.int .i64 0)), none⟩]
def r81_13 : List POp := [⟨some 47, .mv (.t 7), none⟩,
  ⟨some 48, .load true 2 (.t 10) [], none⟩,
  ⟨some 49, .bsl 2 1 [.int .i64 0, .int .i64 0] [(0, (.t 48))] false, none⟩,
  ⟨some 50, .app 2 (.t 47) (.t 49) true, none⟩,
  ⟨some 7, .mv (.t 50), none⟩]
def r81_5 : List POp := [⟨some 15, .mv (.t 9), none⟩,
  ⟨some 16, .bin .add (.t 15) (.k (.int .i64 1)), none⟩,
  ⟨some 9, .mv (.t 16), none⟩]
def b81_0 : PCode := (.seq (.seq (.ops false r81_4) (.cond (.t 14) .skip (.exit 0))) (.seq (.block 1 (.seq (.ops false r81_6) (.seq (.seq (.ops false r81_7) (.cond (.t 28) (.seq (.ops false r81_8) (.seq (.ops false r81_9) (.cond (.t 32) (.ops false r81_10) (.ops false r81_11)))) .skip)) (.seq (.ops false r81_12) (.cond (.t 46) (.ops false r81_13) .skip))))) (.rn 7 7 (.ops false r81_5))))
def r81_14 : List POp := [⟨some 51, .mv (.t 8), none⟩,
  ⟨some 52, .un .not (.t 51), none⟩]
def r81_15 : List POp := [⟨some 53, .mv (.t 7), none⟩,
  ⟨some 54, .mv (.t 1), none⟩,
  ⟨some 55, .mv (.t 2), none⟩,
  ⟨some 56, .build [.int .i64 0, .int .i64 0] [(0, 1, (.t 54)), (1, 1, (.t 55))], none⟩,
  ⟨some 57, .bsl 2 1 [.int .i64 0, .int .i64 0] [(0, (.t 56))] false, none⟩,
  ⟨some 58, .app 2 (.t 53) (.t 57) true, none⟩,
  ⟨some 7, .mv (.t 58), none⟩]
def r81_16 : List POp := [⟨some 59, .mv (.t 7), none⟩,
  ⟨some 6, .mv (.t 59), none⟩]
def p81 : PCode := (.seq (.ops false r81_0) (.seq (.ops false r81_1) (.seq (.ops false r81_2) (.seq (.seq (.ops false r81_3) (.block 0 (.loop b81_0))) (.seq (.seq (.ops false r81_14) (.cond (.t 52) (.ops false r81_15) .skip)) (.seq (.ops false r81_16) .ret))))))
def rs81 : List RS := [.t 6]
theorem c81 : chkF Try.prog Try.f81 3 p81 rs81 = true := by kernel_rfl
/- cuboid/bag.more -/
def r84_0 : List POp := [⟨some 6, .own0 2, none⟩]
def r84_1 : List POp := [⟨some 8, .mv (.t 0), none⟩,
  ⟨some 9, .len (.t 8), none⟩,
  ⟨some 10, .bin .sub (.t 9) (.k (.int .i64 1)), none⟩,
  ⟨some 7, .mv (.t 10), none⟩]
def r84_2 : List POp := [⟨some 11, .mv (.t 7), none⟩,
  ⟨some 12, .bin .geq (.t 11) (.k (.int .i64 0)), none⟩,
  ⟨some 13, .mv (.t 12), none⟩,
  ⟨some 14, .mv (.t 0), (some (13, true))⟩,
  ⟨some 15, .mv (.t 7), (some (13, true))⟩,
  ⟨some 16, .iaS 2 (.t 14) (.t 15), (some (13, true))⟩,
  ⟨some 17, .fad 0 (.t 16), (some (13, true))⟩,
  ⟨some 18, .load false 1 (.t 17) [], (some (13, true))⟩,
  ⟨some 19, .mv (.t 1), (some (13, true))⟩,
  ⟨some 20, .bin .eql (.t 18) (.t 19), (some (13, true))⟩,
  ⟨some 21, .pick (.t 13) (.t 20) (.k (.bool false)), none⟩]
def r84_3 : List POp := [⟨some 22, .mv (.t 0), none⟩,
  ⟨some 23, .mv (.t 7), none⟩,
  ⟨some 24, .iaS 2 (.t 22) (.t 23), none⟩,
  ⟨some 25, .fad 1 (.t 24), none⟩,
  ⟨some 26, .load false 1 (.t 25) [], none⟩,
  ⟨some 27, .mv (.t 2), none⟩,
  ⟨some 28, .bin .add (.t 26) (.t 27), none⟩,
  ⟨some 29, .iaS 2 (.t 22) (.t 23), none⟩,
  ⟨some 30, .fad 1 (.t 29), none⟩,
  ⟨none, .store 1 (.t 30) (.t 28) [], none⟩]
def r84_4 : List POp := [⟨some 31, .mv (.t 0), none⟩,
  ⟨some 6, .mv (.t 31), none⟩]
def r84_5 : List POp := [⟨some 32, .mv (.t 0), none⟩,
  ⟨some 33, .mv (.t 1), none⟩,
  ⟨some 34, .mv (.t 2), none⟩,
  ⟨some 35, .build [.int .i64 0, .int .i64 0] [(0, 1, (.t 33)), (1, 1, (.t 34))], none⟩,
  ⟨some 36, .bsl 2 1 [.int .i64 0, .int .i64 0] [(0, (.t 35))] false, none⟩,
  ⟨some 37, .app 2 (.t 32) (.t 36) true, none⟩,
  ⟨some 6, .mv (.t 37), none⟩]
def p84 : PCode := (.seq (.ops false r84_0) (.seq (.seq (.ops false r84_1) (.seq (.ops false r84_2) (.cond (.t 21) (.seq (.ops false r84_3) (.seq (.ops false r84_4) .ret)) .skip))) (.seq (.ops false r84_5) .ret)))
def rs84 : List RS := [.t 6]
theorem c84 : chkF Try.prog Try.f84 3 p84 rs84 = true := by kernel_rfl
/- cuboid/bag.end -/
def r85_0 : List POp := [⟨some 4, .mv (.k (.int .i64 0)), none⟩,
  ⟨some 5, .mv (.k (.bool false)), none⟩]
def r85_1 : List POp := [⟨some 6, .mv (.t 0), none⟩,
  ⟨some 7, .call false 26 [(.t 6)], none⟩,
  ⟨some 8, .un .not (.t 7), none⟩,
  ⟨some 9, .mv (.t 8), none⟩,
  ⟨some 10, .mv (.t 0), (some (9, false))⟩,
  ⟨some 11, .len (.t 10), (some (9, false))⟩,
  ⟨some 12, .bin .eql (.t 11) (.k (.int .i64 0)), (some (9, false))⟩,
  ⟨some 13, .pick (.t 9) (.k (.bool true)) (.t 12), none⟩]
def r85_2 : List POp := [⟨some 4, .mv (.k (.int .i64 0)), none⟩,
  ⟨some 5, .mv (.k (.bool false)), none⟩]
def r85_3 : List POp := [⟨some 14, .mv (.t 1), none⟩]
def r85_4 : List POp := [⟨some 15, .mv (.t 0), none⟩,
  ⟨some 16, .mv (.t 0), none⟩,
  ⟨some 17, .len (.t 16), none⟩,
  ⟨some 18, .bin .sub (.t 17) (.k (.int .i64 1)), none⟩,
  ⟨some 19, .iaS 2 (.t 15) (.t 18), none⟩,
  ⟨some 20, .fad 0 (.t 19), none⟩,
  ⟨some 21, .load false 1 (.t 20) [], none⟩,
  ⟨some 4, .mv (.t 21), none⟩,
  ⟨some 5, .mv (.k (.bool true)), none⟩]
def r85_5 : List POp := [⟨some 22, .mv (.t 0), none⟩,
  ⟨some 23, .iaS 2 (.t 22) (.k (.int .i64 0)), none⟩,
  ⟨some 24, .fad 0 (.t 23), none⟩,
  ⟨some 25, .load false 1 (.t 24) [], none⟩,
  ⟨some 4, .mv (.t 25), none⟩,
  ⟨some 5, .mv (.k (.bool true)), none⟩]
def p85 : PCode := (.seq (.ops false r85_0) (.seq (.seq (.ops false r85_1) (.cond (.t 13) (.seq (.ops false r85_2) .ret) .skip)) (.seq (.seq (.ops false r85_3) (.cond (.t 14) (.seq (.ops false r85_4) .ret) .skip)) (.seq (.ops false r85_5) .ret))))
def rs85 : List RS := [.t 4, .t 5]
theorem c85 : chkF Try.prog Try.f85 2 p85 rs85 = true := by kernel_rfl
/- cuboid/bag.count -/
def r86_0 : List POp := [⟨some 2, .mv (.k (.int .i64 0)), none⟩]
def r86_1 : List POp := [⟨some 3, .mv (.k (.int .i64 0)), none⟩]
def r86_2 : List POp := [⟨some 6, .mv (.t 0), none⟩,
  ⟨some 7, .len (.t 6), none⟩,
  ⟨some 8, .mv (.k (.int .i64 0)), none⟩]
def r86_3 : List POp := [⟨some 9, .bin .lss (.t 8) (.t 7), none⟩]
def r86_4 : List POp := [⟨some 10, .iaS 2 (.t 6) (.t 8), none⟩,
  ⟨some 11, .load true 2 (.t 10) [], none⟩,
  ⟨some 5, .alloc [.int .i64 0, .int .i64 0], none⟩,
  ⟨none, .store 2 (.t 5) (.t 11) [], none⟩]
def r86_5 : List POp := [⟨some 12, .mv (.t 3), none⟩,
  ⟨some 13, .fad 1 (.t 5), none⟩,
  ⟨some 14, .load false 1 (.t 13) [], none⟩,
  ⟨some 15, .bin .add (.t 12) (.t 14), none⟩,
  ⟨some 3, .mv (.t 15), none⟩]
def r86_6 : List POp := [⟨some 16, .bin .add (.t 8) (.k (.int .i64 1)), none⟩,
  ⟨some 8, .mv (.t 16), none⟩]
def b86_0 : PCode := (.seq (.ops false r86_3) (.seq (.cond (.t 9) .skip (.exit 0)) (.seq (.block 1 (.seq (.ops false r86_4) (.ops false r86_5))) (.ops false r86_6))))
def r86_7 : List POp := [⟨some 17, .mv (.t 3), none⟩,
  ⟨some 2, .mv (.t 17), none⟩]
def p86 : PCode := (.seq (.ops false r86_0) (.seq (.ops false r86_1) (.seq (.seq (.ops false r86_2) (.block 0 (.loop b86_0))) (.seq (.ops false r86_7) .ret))))
def rs86 : List RS := [.t 2]
theorem c86 : chkF Try.prog Try.f86 1 p86 rs86 = true := by kernel_rfl
/- slices.Equal[[]cuboid/api.Run,cuboid/api.Run] -/
def r87_0 : List POp := [⟨some 4, .mv (.k (.bool false)), none⟩]
def r87_1 : List POp := [⟨some 6, .mv (.t 0), none⟩,
  ⟨some 7, .len (.t 6), none⟩,
  ⟨some 8, .mv (.t 1), none⟩,
  ⟨some 9, .len (.t 8), none⟩,
  ⟨some 10, .bin .neq (.t 7) (.t 9), none⟩]
def r87_2 : List POp := [⟨some 4, .mv (.k (.bool false)), none⟩]
def r87_3 : List POp := [⟨some 11, .mv (.t 0), none⟩,
  ⟨some 12, .len (.t 11), none⟩,
  ⟨some 13, .mv (.k (.int .i64 0)), none⟩]
def r87_4 : List POp := [⟨some 14, .bin .lss (.t 13) (.t 12), none⟩]
def r87_5 : List POp := [⟨some 15, .mv (.t 13), none⟩,
  ⟨some 5, .mv (.t 15), none⟩]
def r87_6 : List POp := [⟨some 16, .mv (.t 0), none⟩,
  ⟨some 17, .mv (.t 5), none⟩,
  ⟨some 18, .iaS 2 (.t 16) (.t 17), none⟩,
  ⟨some 19, .load true 2 (.t 18) [], none⟩,
  ⟨some 20, .mv (.t 1), none⟩,
  ⟨some 21, .mv (.t 5), none⟩,
  ⟨some 22, .iaS 2 (.t 20) (.t 21), none⟩,
  ⟨some 23, .load true 2 (.t 22) [], none⟩,
  ⟨some 24, .eqs true true [.i, .i] (.t 19) (.t 23), none⟩]
def r87_7 : List POp := [⟨some 4, .mv (.k (.bool false)), none⟩]
def r87_8 : List POp := [⟨some 25, .bin .add (.t 13) (.k (.int .i64 1)), none⟩,
  ⟨some 13, .mv (.t 25), none⟩]
def b87_0 : PCode := (.seq (.ops false r87_4) (.seq (.cond (.t 14) .skip (.exit 0)) (.seq (.block 1 (.seq (.ops false r87_5) (.seq (.ops true r87_6) (.cond (.t 24) (.seq (.ops false r87_7) .ret) .skip)))) (.ops false r87_8))))
def r87_9 : List POp := [⟨some 4, .mv (.k (.bool true)), none⟩]
def p87 : PCode := (.seq (.ops false r87_0) (.seq (.seq (.ops false r87_1) (.cond (.t 10) (.seq (.ops false r87_2) .ret) .skip)) (.seq (.seq (.ops false r87_3) (.block 0 (.loop b87_0))) (.seq (.ops false r87_9) .ret))))
def rs87 : List RS := [.t 4]
theorem c87 : chkF Try.prog Try.f87 2 p87 rs87 = true := by kernel_rfl
/- cuboid/bag.Part -/
def r88_0 : List POp := [⟨some 4, .alloc [.int .i64 0, .int .u64 0], none⟩]
def r88_1 : List POp := [⟨some 5, .alloc [.int .i64 0, .int .u64 0], none⟩]
def r88_2 : List POp := [⟨some 10, .mv (.t 0), none⟩,
  ⟨some 11, .len (.t 10), none⟩,
  ⟨some 12, .mv (.k (.int .i64 0)), none⟩]
def r88_3 : List POp := [⟨some 13, .bin .lss (.t 12) (.t 11), none⟩]
def r88_4 : List POp := [⟨some 14, .iaS 2 (.t 10) (.t 12), none⟩,
  ⟨some 15, .load true 2 (.t 14) [], none⟩,
  ⟨some 7, .alloc [.int .i64 0, .int .i64 0], none⟩,
  ⟨none, .store 2 (.t 7) (.t 15) [], none⟩]
def r88_5 : List POp := [⟨some 16, .load true 2 (.t 5) [], none⟩,
  ⟨some 17, .fad 0 (.t 7), none⟩,
  ⟨some 18, .load false 1 (.t 17) [], none⟩,
  ⟨some 19, .fad 1 (.t 7), none⟩,
  ⟨some 20, .load false 1 (.t 19) [], none⟩,
  ⟨some 21, .call false 90 [(.t 16), (.t 18), (.t 20)], none⟩,
  ⟨none, .store 2 (.t 5) (.t 21) [], none⟩]
def r88_6 : List POp := [⟨some 22, .bin .add (.t 12) (.k (.int .i64 1)), none⟩,
  ⟨some 12, .mv (.t 22), none⟩]
def b88_0 : PCode := (.seq (.ops false r88_3) (.seq (.cond (.t 13) .skip (.exit 0)) (.seq (.block 1 (.seq (.ops false r88_4) (.ops false r88_5))) (.ops false r88_6))))
def r88_7 : List POp := [⟨some 23, .mv (.t 1), none⟩,
  ⟨some 24, .len (.t 23), none⟩,
  ⟨some 25, .mv (.k (.int .i64 0)), none⟩]
def r88_8 : List POp := [⟨some 26, .bin .lss (.t 25) (.t 24), none⟩]
def r88_9 : List POp := [⟨some 27, .iaS 2 (.t 23) (.t 25), none⟩,
  ⟨some 28, .load true 2 (.t 27) [], none⟩,
  ⟨some 9, .alloc [.int .i64 0, .int .i64 0], none⟩,
  ⟨none, .store 2 (.t 9) (.t 28) [], none⟩]
def r88_10 : List POp := [⟨some 29, .load true 2 (.t 5) [], none⟩,
  ⟨some 30, .fad 0 (.t 9), none⟩,
  ⟨some 31, .load false 1 (.t 30) [], none⟩,
  ⟨some 32, .fad 1 (.t 9), none⟩,
  ⟨some 33, .load false 1 (.t 32) [], none⟩,
  ⟨some 34, .un .neg (.t 33), none⟩,
  ⟨some 35, .call false 90 [(.t 29), (.t 31), (.t 34)], none⟩,
  ⟨none, .store 2 (.t 5) (.t 35) [], none⟩]
def r88_11 : List POp := [⟨some 36, .bin .add (.t 25) (.k (.int .i64 1)), none⟩,
  ⟨some 25, .mv (.t 36), none⟩]
def b88_1 : PCode := (.seq (.ops false r88_8) (.seq (.cond (.t 26) .skip (.exit 2)) (.seq (.block 3 (.seq (.ops false r88_9) (.ops false r88_10))) (.ops false r88_11))))
def r88_12 : List POp := [⟨some 37, .load true 2 (.t 5) [], none⟩,
  ⟨none, .store 2 (.t 4) (.t 37) [], none⟩]
def p88 : PCode := (.seq (.ops false r88_0) (.seq (.ops false r88_1) (.seq (.seq (.ops false r88_2) (.block 0 (.loop b88_0))) (.seq (.seq (.ops false r88_7) (.block 2 (.loop b88_1))) (.seq (.ops false r88_12) .ret)))))
def rs88 : List RS := [.cell 4 true 2]
theorem c88 : chkF Try.prog Try.f88 2 p88 rs88 = true := by kernel_rfl
/- (cuboid/calc.Wide).Int -/
def r89_0 : List POp := [⟨some 1, .box 2 (.t 0), none⟩,
  ⟨some 2, .mv (.k (.int .i64 0)), none⟩,
  ⟨some 3, .mv (.k (.bool false)), none⟩]
def r89_1 : List POp := [⟨some 5, .fad 1 (.t 1), none⟩,
  ⟨some 6, .load false 1 (.t 5) [], none⟩,
  ⟨some 7, .conv .i64 (.t 6), none⟩,
  ⟨some 4, .mv (.t 7), none⟩]
def r89_2 : List POp := [⟨some 8, .fad 0 (.t 1), none⟩,
  ⟨some 9, .load false 1 (.t 8) [], none⟩,
  ⟨some 10, .mv (.t 4), none⟩,
  ⟨some 11, .bin .shr (.t 10) (.k (.int .u64 63)), none⟩,
  ⟨some 12, .bin .neq (.t 9) (.t 11), none⟩]
def r89_3 : List POp := [⟨some 2, .mv (.k (.int .i64 0)), none⟩,
  ⟨some 3, .mv (.k (.bool false)), none⟩]
def r89_4 : List POp := [⟨some 13, .mv (.t 4), none⟩,
  ⟨some 2, .mv (.t 13), none⟩,
  ⟨some 3, .mv (.k (.bool true)), none⟩]
def p89 : PCode := (.seq (.ops false r89_0) (.seq (.ops false r89_1) (.seq (.seq (.ops false r89_2) (.cond (.t 12) (.seq (.ops false r89_3) .ret) .skip)) (.seq (.ops false r89_4) .ret))))
def rs89 : List RS := [.t 2, .t 3]
theorem c89 : chkF Try.prog Try.f89 1 p89 rs89 = true := by kernel_rfl
/- (cuboid/calc.Wide).Plus -/
def r90_0 : List POp := [⟨some 3, .box 2 (.t 0), none⟩,
  ⟨some 6, .alloc [.int .i64 0, .int .u64 0], none⟩]
def r90_1 : List POp := [⟨some 12, .mv (.t 1), none⟩,
  ⟨some 13, .call false 119 [(.t 12)], none⟩,
  ⟨some 14, .mv (.t 2), none⟩,
  ⟨some 15, .call false 119 [(.t 14)], none⟩,
  ⟨some 16, .call false 118 [(.t 13), (.t 15)], none⟩,
  ⟨some 11, .mv (.t 16), none⟩,
  ⟨some 17, .ext (.t 11) 0, none⟩,
  ⟨some 18, .ext (.t 11) 1, none⟩,
  ⟨some 7, .mv (.t 17), none⟩,
  ⟨some 8, .mv (.t 18), none⟩]
def r90_2 : List POp := [⟨some 19, .mv (.t 1), none⟩,
  ⟨some 20, .bin .lss (.t 19) (.k (.int .i64 0)), none⟩,
  ⟨some 21, .mv (.t 2), none⟩,
  ⟨some 22, .bin .lss (.t 21) (.k (.int .i64 0)), none⟩,
  ⟨some 23, .eqs true false [.b] (.t 20) (.t 22), none⟩]
def r90_3 : List POp := [⟨some 9, .mv (.k (.int .u64 0)), none⟩]
def r90_4 : List POp := [⟨some 25, .mv (.t 8), none⟩,
  ⟨some 26, .xf .sbc [(.k (.int .u64 0)), (.t 25), (.k (.int .u64 0))], none⟩,
  ⟨some 24, .mv (.t 26), none⟩,
  ⟨some 27, .ext (.t 24) 0, none⟩,
  ⟨some 28, .ext (.t 24) 1, none⟩,
  ⟨some 8, .mv (.t 27), none⟩,
  ⟨some 9, .mv (.t 28), none⟩]
def r90_5 : List POp := [⟨some 30, .mv (.t 7), none⟩,
  ⟨some 31, .mv (.t 9), none⟩,
  ⟨some 32, .xf .sbc [(.k (.int .u64 0)), (.t 30), (.t 31)], none⟩,
  ⟨some 29, .mv (.t 32), none⟩,
  ⟨some 33, .ext (.t 29) 0, none⟩,
  ⟨some 34, .ext (.t 29) 1, none⟩,
  ⟨some 7, .mv (.t 33), none⟩]
def r90_6 : List POp := [⟨some 36, .fad 1 (.t 3), none⟩,
  ⟨some 37, .load false 1 (.t 36) [], none⟩,
  ⟨some 38, .mv (.t 8), none⟩,
  ⟨some 39, .xf .adc [(.t 37), (.t 38), (.k (.int .u64 0))], none⟩,
  ⟨some 35, .mv (.t 39), none⟩,
  ⟨some 40, .ext (.t 35) 0, none⟩,
  ⟨some 41, .ext (.t 35) 1, none⟩,
  ⟨some 8, .mv (.t 40), none⟩,
  ⟨some 10, .mv (.t 41), none⟩]
def r90_7 : List POp := [⟨some 43, .fad 0 (.t 3), none⟩,
  ⟨some 44, .load false 1 (.t 43) [], none⟩,
  ⟨some 45, .conv .u64 (.t 44), none⟩,
  ⟨some 46, .mv (.t 7), none⟩,
  ⟨some 47, .mv (.t 10), none⟩,
  ⟨some 48, .xf .adc [(.t 45), (.t 46), (.t 47)], none⟩,
  ⟨some 42, .mv (.t 48), none⟩,
  ⟨some 49, .ext (.t 42) 0, none⟩,
  ⟨some 50, .ext (.t 42) 1, none⟩,
  ⟨some 7, .mv (.t 49), none⟩]
def r90_8 : List POp := [⟨some 51, .mv (.t 7), none⟩,
  ⟨some 52, .conv .i64 (.t 51), none⟩,
  ⟨some 53, .mv (.t 8), none⟩,
  ⟨some 54, .build [.int .i64 0, .int .u64 0] [(0, 1, (.t 52)), (1, 1, (.t 53))], none⟩,
  ⟨none, .store 2 (.t 6) (.t 54) [], none⟩]
def p90 : PCode := (.seq (.ops false r90_0) (.seq (.ops false r90_1) (.seq (.seq (.ops false r90_2) (.cond (.t 23) (.seq (.ops false r90_3) (.seq (.ops false r90_4) (.ops false r90_5))) .skip)) (.seq (.ops false r90_6) (.seq (.ops false r90_7) (.seq (.ops false r90_8) .ret))))))
def rs90 : List RS := [.cell 6 true 2]
theorem c90 : chkF Try.prog Try.f90 3 p90 rs90 = true := by kernel_rfl
/- cuboid/cuboidref01.Back -/
def r91_0 : List POp := [⟨some 1, .box 3 (.t 0), none⟩,
  ⟨some 2, .mv (.k (.int .i64 0)), none⟩,
  ⟨some 3, .mv (.k (.bool false)), none⟩]
def r91_1 : List POp := [⟨some 5, .fad 1 (.t 1), none⟩,
  ⟨some 6, .load false 1 (.t 5) [], none⟩,
  ⟨some 7, .bin .neq (.t 6) (.k (.int .u64 0)), none⟩,
  ⟨some 8, .mv (.t 7), none⟩,
  ⟨some 9, .fad 2 (.t 1), (some (8, false))⟩,
  ⟨some 10, .load false 1 (.t 9) [], (some (8, false))⟩,
  ⟨some 11, .bin .gtr (.t 10) (.k (.int .u64 9223372036854775808)), (some (8, false))⟩,
  ⟨some 12, .pick (.t 8) (.k (.bool true)) (.t 11), none⟩,
  ⟨some 13, .mv (.t 12), none⟩,
  ⟨some 14, .fad 2 (.t 1), (some (13, false))⟩,
  ⟨some 15, .load false 1 (.t 14) [], (some (13, false))⟩,
  ⟨some 16, .bin .eql (.t 15) (.k (.int .u64 9223372036854775808)), (some (13, false))⟩,
  ⟨some 17, .mv (.t 16), (some (13, false))⟩,
  ⟨some 18, .fad 0 (.t 1), (some (17, true))⟩,
  ⟨some 19, .load false 1 (.t 18) [], (some (17, true))⟩,
  ⟨some 20, .un .not (.t 19), (some (17, true))⟩,
  ⟨some 21, .pick (.t 17) (.t 20) (.k (.bool false)), (some (13, false))⟩,
  ⟨some 22, .pick (.t 13) (.k (.bool true)) (.t 21), none⟩,
  ⟨some 4, .mv (.t 22), none⟩]
def r91_2 : List POp := [⟨some 2, .mv (.k (.int .i64 0)), none⟩,
  ⟨some 3, .mv (.k (.bool false)), none⟩]
def r91_3 : List POp := [⟨some 24, .fad 2 (.t 1), none⟩,
  ⟨some 25, .load false 1 (.t 24) [], none⟩,
  ⟨some 26, .bin .eql (.t 25) (.k (.int .u64 9223372036854775808)), none⟩,
  ⟨some 23, .mv (.t 26), none⟩]
def r91_4 : List POp := [⟨some 2, .mv (.k (.int .i64 (-9223372036854775808))), none⟩,
  ⟨some 3, .mv (.k (.bool true)), none⟩]
def r91_5 : List POp := [⟨some 28, .fad 0 (.t 1), none⟩,
  ⟨some 29, .load false 1 (.t 28) [], none⟩,
  ⟨some 27, .mv (.t 29), none⟩]
def r91_6 : List POp := [⟨some 30, .fad 2 (.t 1), none⟩,
  ⟨some 31, .load false 1 (.t 30) [], none⟩,
  ⟨some 32, .conv .i64 (.t 31), none⟩,
  ⟨some 33, .un .neg (.t 32), none⟩,
  ⟨some 2, .mv (.t 33), none⟩,
  ⟨some 3, .mv (.k (.bool true)), none⟩]
def r91_7 : List POp := [⟨some 34, .fad 2 (.t 1), none⟩,
  ⟨some 35, .load false 1 (.t 34) [], none⟩,
  ⟨some 36, .conv .i64 (.t 35), none⟩,
  ⟨some 2, .mv (.t 36), none⟩,
  ⟨some 3, .mv (.k (.bool true)), none⟩]
def p91 : PCode := (.seq (.ops false r91_0) (.seq (.block 0 (.seq (.ops false r91_1) (.cond (.t 4) (.seq (.ops false r91_2) .ret) (.seq (.ops false r91_3) (.cond (.t 23) (.seq (.ops false r91_4) .ret) (.seq (.ops false r91_5) (.cond (.t 27) (.seq (.ops false r91_6) .ret) .skip))))))) (.seq (.ops false r91_7) .ret)))
def rs91 : List RS := [.t 2, .t 3]
theorem c91 : chkF Try.prog Try.f91 1 p91 rs91 = true := by kernel_rfl
/- cuboid/cuboidref08.Wide -/
def r92_0 : List POp := [⟨some 2, .alloc [.bool false, .int .u64 0, .int .u64 0], none⟩]
def r92_1 : List POp := [⟨some 3, .alloc [.bool false, .int .u64 0, .int .u64 0], none⟩]
def r92_2 : List POp := [⟨some 4, .mv (.k (.int .i64 0)), none⟩]
def r92_3 : List POp := [⟨some 5, .mv (.t 4), none⟩,
  ⟨some 6, .mv (.t 0), none⟩,
  ⟨some 7, .len (.t 6), none⟩,
  ⟨some 8, .bin .lss (.t 5) (.t 7), none⟩]
def r92_5 : List POp := [⟨some 11, .load true 3 (.t 3) [], none⟩,
  ⟨some 12, .mv (.t 0), none⟩,
  ⟨some 13, .mv (.t 4), none⟩,
  ⟨some 14, .iaS 2 (.t 12) (.t 13), none⟩,
  ⟨some 15, .fad 0 (.t 14), none⟩,
  ⟨some 16, .load false 1 (.t 15) [], none⟩,
  ⟨some 17, .mv (.t 0), none⟩,
  ⟨some 18, .mv (.t 4), none⟩,
  ⟨some 19, .iaS 2 (.t 17) (.t 18), none⟩,
  ⟨some 20, .fad 1 (.t 19), none⟩,
  ⟨some 21, .load false 1 (.t 20) [], none⟩,
  ⟨some 22, .call false 100 [(.t 16), (.t 21)], none⟩,
  ⟨some 23, .call false 122 [(.t 11), (.t 22)], none⟩,
  ⟨none, .store 3 (.t 3) (.t 23) [], none⟩]
def r92_4 : List POp := [⟨some 9, .mv (.t 4), none⟩,
  ⟨some 10, .bin .add (.t 9) (.k (.int .i64 1)), none⟩,
  ⟨some 4, .mv (.t 10), none⟩]
def b92_0 : PCode := (.seq (.seq (.ops false r92_3) (.cond (.t 8) .skip (.exit 0))) (.seq (.block 1 (.ops true r92_5)) (.ops false r92_4)))
def r92_6 : List POp := [⟨some 24, .load true 3 (.t 3) [], none⟩,
  ⟨none, .store 3 (.t 2) (.t 24) [], none⟩]
def p92 : PCode := (.seq (.ops false r92_0) (.seq (.ops false r92_1) (.seq (.seq (.ops false r92_2) (.block 0 (.loop b92_0))) (.seq (.ops false r92_6) .ret))))
def rs92 : List RS := [.cell 2 true 3]
theorem c92 : chkF Try.prog Try.f92 1 p92 rs92 = true := by kernel_rfl
/- cuboid/cuboidref01.Times -/
def r100_0 : List POp := [⟨some 4, .alloc [.bool false, .int .u64 0, .int .u64 0], none⟩]
def r100_1 : List POp := [⟨some 13, .mv (.t 0), none⟩,
  ⟨some 14, .call false 123 [(.t 13)], none⟩,
  ⟨some 15, .mv (.t 1), none⟩,
  ⟨some 16, .call false 123 [(.t 15)], none⟩,
  ⟨some 5, .mv (.t 14), none⟩,
  ⟨some 6, .mv (.t 16), none⟩]
def r100_2 : List POp := [⟨some 17, .mv (.t 5), none⟩,
  ⟨some 18, .bin .shr (.t 17) (.k (.int .u64 32)), none⟩,
  ⟨some 19, .mv (.t 5), none⟩,
  ⟨some 20, .bin .and (.t 19) (.k (.int .u64 4294967295)), none⟩,
  ⟨some 21, .mv (.t 6), none⟩,
  ⟨some 22, .bin .shr (.t 21) (.k (.int .u64 32)), none⟩,
  ⟨some 23, .mv (.t 6), none⟩,
  ⟨some 24, .bin .and (.t 23) (.k (.int .u64 4294967295)), none⟩,
  ⟨some 7, .mv (.t 18), none⟩,
  ⟨some 8, .mv (.t 20), none⟩,
  ⟨some 9, .mv (.t 22), none⟩,
  ⟨some 10, .mv (.t 24), none⟩]
def r100_3 : List POp := [⟨some 25, .mv (.t 8), none⟩,
  ⟨some 26, .mv (.t 10), none⟩,
  ⟨some 27, .bin .mul (.t 25) (.t 26), none⟩,
  ⟨some 28, .bin .shr (.t 27) (.k (.int .u64 32)), none⟩,
  ⟨some 29, .mv (.t 7), none⟩,
  ⟨some 30, .mv (.t 10), none⟩,
  ⟨some 31, .bin .mul (.t 29) (.t 30), none⟩,
  ⟨some 32, .bin .and (.t 31) (.k (.int .u64 4294967295)), none⟩,
  ⟨some 33, .bin .add (.t 28) (.t 32), none⟩,
  ⟨some 34, .mv (.t 8), none⟩,
  ⟨some 35, .mv (.t 9), none⟩,
  ⟨some 36, .bin .mul (.t 34) (.t 35), none⟩,
  ⟨some 37, .bin .and (.t 36) (.k (.int .u64 4294967295)), none⟩,
  ⟨some 38, .bin .add (.t 33) (.t 37), none⟩,
  ⟨some 11, .mv (.t 38), none⟩]
def r100_4 : List POp := [⟨some 39, .mv (.t 0), none⟩,
  ⟨some 40, .bin .lss (.t 39) (.k (.int .i64 0)), none⟩,
  ⟨some 41, .mv (.t 1), none⟩,
  ⟨some 42, .bin .lss (.t 41) (.k (.int .i64 0)), none⟩,
  ⟨some 43, .eqs true false [.b] (.t 40) (.t 42), none⟩,
  ⟨some 44, .mv (.t 7), none⟩,
  ⟨some 45, .mv (.t 9), none⟩,
  ⟨some 46, .bin .mul (.t 44) (.t 45), none⟩,
  ⟨some 47, .mv (.t 7), none⟩,
  ⟨some 48, .mv (.t 10), none⟩,
  ⟨some 49, .bin .mul (.t 47) (.t 48), none⟩,
  ⟨some 50, .bin .shr (.t 49) (.k (.int .u64 32)), none⟩,
  ⟨some 51, .bin .add (.t 46) (.t 50), none⟩,
  ⟨some 52, .mv (.t 8), none⟩,
  ⟨some 53, .mv (.t 9), none⟩,
  ⟨some 54, .bin .mul (.t 52) (.t 53), none⟩,
  ⟨some 55, .bin .shr (.t 54) (.k (.int .u64 32)), none⟩,
  ⟨some 56, .bin .add (.t 51) (.t 55), none⟩,
  ⟨some 57, .mv (.t 11), none⟩,
  ⟨some 58, .bin .shr (.t 57) (.k (.int .u64 32)), none⟩,
  ⟨some 59, .bin .add (.t 56) (.t 58), none⟩,
  ⟨some 60, .mv (.t 11), none⟩,
  ⟨some 61, .bin .shl (.t 60) (.k (.int .u64 32)), none⟩,
  ⟨some 62, .mv (.t 8), none⟩,
  ⟨some 63, .mv (.t 10), none⟩,
  ⟨some 64, .bin .mul (.t 62) (.t 63), none⟩,
  ⟨some 65, .bin .and (.t 64) (.k (.int .u64 4294967295)), none⟩,
  ⟨some 66, .bin .or (.t 61) (.t 65), none⟩,
  ⟨some 67, .build [.bool false, .int .u64 0, .int .u64 0] [(0, 1, (.t 43)), (1, 1, (.t 59)), (2, 1, (.t 66))], none⟩,
  ⟨some 12, .alloc [.bool false, .int .u64 0, .int .u64 0], none⟩,
  ⟨none, .store 3 (.t 12) (.t 67) [], none⟩]
def r100_5 : List POp := [⟨some 68, .fad 1 (.t 12), none⟩,
  ⟨some 69, .load false 1 (.t 68) [], none⟩,
  ⟨some 70, .bin .eql (.t 69) (.k (.int .u64 0)), none⟩,
  ⟨some 71, .mv (.t 70), none⟩,
  ⟨some 72, .fad 2 (.t 12), (some (71, true))⟩,
  ⟨some 73, .load false 1 (.t 72) [], (some (71, true))⟩,
  ⟨some 74, .bin .eql (.t 73) (.k (.int .u64 0)), (some (71, true))⟩,
  ⟨some 75, .pick (.t 71) (.t 74) (.k (.bool false)), none⟩]
def r100_6 : List POp := [⟨some 76, .fad 0 (.t 12), none⟩,
  ⟨none, .store 1 (.t 76) (.k (.bool false)) [], none⟩]
def r100_7 : List POp := [⟨some 77, .load true 3 (.t 12) [], none⟩,
  ⟨none, .store 3 (.t 4) (.t 77) [], none⟩]
def p100 : PCode := (.seq (.ops false r100_0) (.seq (.ops false r100_1) (.seq (.ops false r100_2) (.seq (.ops false r100_3) (.seq (.ops false r100_4) (.seq (.seq (.ops false r100_5) (.cond (.t 75) (.ops false r100_6) .skip)) (.seq (.ops false r100_7) .ret)))))))
def rs100 : List RS := [.cell 4 true 3]
theorem c100 : chkF Try.prog Try.f100 2 p100 rs100 = true := by kernel_rfl
/- math/bits.Mul64 -/
def r118_0 : List POp := [⟨some 4, .mv (.k (.int .u64 0)), none⟩,
  ⟨some 5, .mv (.k (.int .u64 0)), none⟩]
def r118_1 : List POp := [⟨some 14, .mv (.t 0), none⟩,
  ⟨some 15, .bin .and (.t 14) (.k (.int .u64 4294967295)), none⟩,
  ⟨some 6, .mv (.t 15), none⟩]
def r118_2 : List POp := [⟨some 16, .mv (.t 0), none⟩,
  ⟨some 17, .bin .shr (.t 16) (.k (.int .u64 32)), none⟩,
  ⟨some 7, .mv (.t 17), none⟩]
def r118_3 : List POp := [⟨some 18, .mv (.t 1), none⟩,
  ⟨some 19, .bin .and (.t 18) (.k (.int .u64 4294967295)), none⟩,
  ⟨some 8, .mv (.t 19), none⟩]
def r118_4 : List POp := [⟨some 20, .mv (.t 1), none⟩,
  ⟨some 21, .bin .shr (.t 20) (.k (.int .u64 32)), none⟩,
  ⟨some 9, .mv (.t 21), none⟩]
def r118_5 : List POp := [⟨some 22, .mv (.t 6), none⟩,
  ⟨some 23, .mv (.t 8), none⟩,
  ⟨some 24, .bin .mul (.t 22) (.t 23), none⟩,
  ⟨some 10, .mv (.t 24), none⟩]
def r118_6 : List POp := [⟨some 25, .mv (.t 7), none⟩,
  ⟨some 26, .mv (.t 8), none⟩,
  ⟨some 27, .bin .mul (.t 25) (.t 26), none⟩,
  ⟨some 28, .mv (.t 10), none⟩,
  ⟨some 29, .bin .shr (.t 28) (.k (.int .u64 32)), none⟩,
  ⟨some 30, .bin .add (.t 27) (.t 29), none⟩,
  ⟨some 11, .mv (.t 30), none⟩]
def r118_7 : List POp := [⟨some 31, .mv (.t 11), none⟩,
  ⟨some 32, .bin .and (.t 31) (.k (.int .u64 4294967295)), none⟩,
  ⟨some 12, .mv (.t 32), none⟩]
def r118_8 : List POp := [⟨some 33, .mv (.t 11), none⟩,
  ⟨some 34, .bin .shr (.t 33) (.k (.int .u64 32)), none⟩,
  ⟨some 13, .mv (.t 34), none⟩]
def r118_9 : List POp := [⟨some 35, .mv (.t 12), none⟩,
  ⟨some 36, .mv (.t 6), none⟩,
  ⟨some 37, .mv (.t 9), none⟩,
  ⟨some 38, .bin .mul (.t 36) (.t 37), none⟩,
  ⟨some 39, .bin .add (.t 35) (.t 38), none⟩,
  ⟨some 12, .mv (.t 39), none⟩]
def r118_10 : List POp := [⟨some 40, .mv (.t 7), none⟩,
  ⟨some 41, .mv (.t 9), none⟩,
  ⟨some 42, .bin .mul (.t 40) (.t 41), none⟩,
  ⟨some 43, .mv (.t 13), none⟩,
  ⟨some 44, .bin .add (.t 42) (.t 43), none⟩,
  ⟨some 45, .mv (.t 12), none⟩,
  ⟨some 46, .bin .shr (.t 45) (.k (.int .u64 32)), none⟩,
  ⟨some 47, .bin .add (.t 44) (.t 46), none⟩,
  ⟨some 4, .mv (.t 47), none⟩]
def r118_11 : List POp := [⟨some 48, .mv (.t 0), none⟩,
  ⟨some 49, .mv (.t 1), none⟩,
  ⟨some 50, .bin .mul (.t 48) (.t 49), none⟩,
  ⟨some 5, .mv (.t 50), none⟩]
def p118 : PCode := (.seq (.ops false r118_0) (.seq (.ops false r118_1) (.seq (.ops false r118_2) (.seq (.ops false r118_3) (.seq (.ops false r118_4) (.seq (.ops false r118_5) (.seq (.ops false r118_6) (.seq (.ops false r118_7) (.seq (.ops false r118_8) (.seq (.ops false r118_9) (.seq (.ops false r118_10) (.seq (.ops false r118_11) .ret))))))))))))
def rs118 : List RS := [.t 4, .t 5]
theorem c118 : chkF Try.prog Try.f118 2 p118 rs118 = true := by kernel_rfl
/- cuboid/calc.Size -/
def r119_0 : List POp := [⟨some 2, .mv (.k (.int .u64 0)), none⟩]
def r119_1 : List POp := [⟨some 3, .mv (.t 0), none⟩,
  ⟨some 4, .bin .lss (.t 3) (.k (.int .i64 0)), none⟩]
def r119_2 : List POp := [⟨some 5, .mv (.t 0), none⟩,
  ⟨some 6, .conv .u64 (.t 5), none⟩,
  ⟨some 7, .un .neg (.t 6), none⟩,
  ⟨some 2, .mv (.t 7), none⟩]
def r119_3 : List POp := [⟨some 8, .mv (.t 0), none⟩,
  ⟨some 9, .conv .u64 (.t 8), none⟩,
  ⟨some 2, .mv (.t 9), none⟩]
def p119 : PCode := (.seq (.ops false r119_0) (.seq (.seq (.ops false r119_1) (.cond (.t 4) (.seq (.ops false r119_2) .ret) .skip)) (.seq (.ops false r119_3) .ret)))
def rs119 : List RS := [.t 2]
theorem c119 : chkF Try.prog Try.f119 1 p119 rs119 = true := by kernel_rfl
/- cuboid/cuboidref01.Plus -/
def r122_0 : List POp := [⟨some 2, .box 3 (.t 0), none⟩,
  ⟨some 3, .box 3 (.t 1), none⟩,
  ⟨some 4, .alloc [.bool false, .int .u64 0, .int .u64 0], none⟩]
def r122_1 : List POp := [⟨some 7, .fad 0 (.t 2), none⟩,
  ⟨some 8, .load false 1 (.t 7) [], none⟩,
  ⟨some 9, .fad 0 (.t 3), none⟩,
  ⟨some 10, .load false 1 (.t 9) [], none⟩,
  ⟨some 11, .eqs false false [.b] (.t 8) (.t 10), none⟩]
def r122_2 : List POp := [⟨some 12, .fad 0 (.t 2), none⟩,
  ⟨some 13, .load false 1 (.t 12) [], none⟩,
  ⟨some 14, .fad 1 (.t 2), none⟩,
  ⟨some 15, .load false 1 (.t 14) [], none⟩,
  ⟨some 16, .fad 1 (.t 3), none⟩,
  ⟨some 17, .load false 1 (.t 16) [], none⟩,
  ⟨some 18, .bin .add (.t 15) (.t 17), none⟩,
  ⟨some 19, .fad 2 (.t 2), none⟩,
  ⟨some 20, .load false 1 (.t 19) [], none⟩,
  ⟨some 21, .fad 2 (.t 3), none⟩,
  ⟨some 22, .load false 1 (.t 21) [], none⟩,
  ⟨some 23, .bin .add (.t 20) (.t 22), none⟩,
  ⟨some 24, .build [.bool false, .int .u64 0, .int .u64 0] [(0, 1, (.t 13)), (1, 1, (.t 18)), (2, 1, (.t 23))], none⟩,
  ⟨some 5, .alloc [.bool false, .int .u64 0, .int .u64 0], none⟩,
  ⟨none, .store 3 (.t 5) (.t 24) [], none⟩]
def r122_3 : List POp := [⟨some 25, .fad 2 (.t 5), none⟩,
  ⟨some 26, .load false 1 (.t 25) [], none⟩,
  ⟨some 27, .fad 2 (.t 2), none⟩,
  ⟨some 28, .load false 1 (.t 27) [], none⟩,
  ⟨some 29, .bin .lss (.t 26) (.t 28), none⟩]
def r122_4 : List POp := [⟨some 30, .fad 1 (.t 5), none⟩,
  ⟨some 31, .load false 1 (.t 30) [], none⟩,
  ⟨some 32, .bin .add (.t 31) (.k (.int .u64 1)), none⟩,
  ⟨some 33, .fad 1 (.t 5), none⟩,
  ⟨none, .store 1 (.t 33) (.t 32) [], none⟩]
def r122_5 : List POp := [⟨some 34, .load true 3 (.t 5) [], none⟩,
  ⟨none, .store 3 (.t 4) (.t 34) [], none⟩]
def r122_6 : List POp := [⟨some 35, .load true 3 (.t 2) [], none⟩,
  ⟨some 36, .load true 3 (.t 3) [], none⟩,
  ⟨some 37, .call false 129 [(.t 35), (.t 36)], none⟩]
def r122_7 : List POp := [⟨some 38, .load true 3 (.t 3) [], none⟩,
  ⟨some 39, .load true 3 (.t 2) [], none⟩,
  ⟨none, .store 3 (.t 2) (.t 38) [], none⟩,
  ⟨none, .store 3 (.t 3) (.t 39) [], none⟩]
def r122_8 : List POp := [⟨some 40, .fad 0 (.t 2), none⟩,
  ⟨some 41, .load false 1 (.t 40) [], none⟩,
  ⟨some 42, .fad 1 (.t 2), none⟩,
  ⟨some 43, .load false 1 (.t 42) [], none⟩,
  ⟨some 44, .fad 1 (.t 3), none⟩,
  ⟨some 45, .load false 1 (.t 44) [], none⟩,
  ⟨some 46, .bin .sub (.t 43) (.t 45), none⟩,
  ⟨some 47, .fad 2 (.t 2), none⟩,
  ⟨some 48, .load false 1 (.t 47) [], none⟩,
  ⟨some 49, .fad 2 (.t 3), none⟩,
  ⟨some 50, .load false 1 (.t 49) [], none⟩,
  ⟨some 51, .bin .sub (.t 48) (.t 50), none⟩,
  ⟨some 52, .build [.bool false, .int .u64 0, .int .u64 0] [(0, 1, (.t 41)), (1, 1, (.t 46)), (2, 1, (.t 51))], none⟩,
  ⟨some 6, .alloc [.bool false, .int .u64 0, .int .u64 0], none⟩,
  ⟨none, .store 3 (.t 6) (.t 52) [], none⟩]
def r122_9 : List POp := [⟨some 53, .fad 2 (.t 2), none⟩,
  ⟨some 54, .load false 1 (.t 53) [], none⟩,
  ⟨some 55, .fad 2 (.t 3), none⟩,
  ⟨some 56, .load false 1 (.t 55) [], none⟩,
  ⟨some 57, .bin .lss (.t 54) (.t 56), none⟩]
def r122_10 : List POp := [⟨some 58, .fad 1 (.t 6), none⟩,
  ⟨some 59, .load false 1 (.t 58) [], none⟩,
  ⟨some 60, .bin .sub (.t 59) (.k (.int .u64 1)), none⟩,
  ⟨some 61, .fad 1 (.t 6), none⟩,
  ⟨none, .store 1 (.t 61) (.t 60) [], none⟩]
def r122_11 : List POp := [⟨some 62, .fad 1 (.t 6), none⟩,
  ⟨some 63, .load false 1 (.t 62) [], none⟩,
  ⟨some 64, .bin .eql (.t 63) (.k (.int .u64 0)), none⟩,
  ⟨some 65, .mv (.t 64), none⟩,
  ⟨some 66, .fad 2 (.t 6), (some (65, true))⟩,
  ⟨some 67, .load false 1 (.t 66) [], (some (65, true))⟩,
  ⟨some 68, .bin .eql (.t 67) (.k (.int .u64 0)), (some (65, true))⟩,
  ⟨some 69, .pick (.t 65) (.t 68) (.k (.bool false)), none⟩]
def r122_12 : List POp := [⟨some 70, .fad 0 (.t 6), none⟩,
  ⟨none, .store 1 (.t 70) (.k (.bool false)) [], none⟩]
def r122_13 : List POp := [⟨some 71, .load true 3 (.t 6) [], none⟩,
  ⟨none, .store 3 (.t 4) (.t 71) [], none⟩]
def p122 : PCode := (.seq (.ops false r122_0) (.seq (.seq (.ops false r122_1) (.cond (.t 11) (.seq (.ops false r122_2) (.seq (.seq (.ops false r122_3) (.cond (.t 29) (.ops false r122_4) .skip)) (.seq (.ops false r122_5) .ret))) .skip)) (.seq (.seq (.ops false r122_6) (.cond (.t 37) (.ops false r122_7) .skip)) (.seq (.ops false r122_8) (.seq (.seq (.ops false r122_9) (.cond (.t 57) (.ops false r122_10) .skip)) (.seq (.seq (.ops false r122_11) (.cond (.t 69) (.ops false r122_12) .skip)) (.seq (.ops false r122_13) .ret)))))))
def rs122 : List RS := [.cell 4 true 3]
theorem c122 : chkF Try.prog Try.f122 2 p122 rs122 = true := by kernel_rfl
/- cuboid/cuboidref01.Size -/
def r123_0 : List POp := [⟨some 2, .mv (.k (.int .u64 0)), none⟩]
def r123_1 : List POp := [⟨some 3, .mv (.t 0), none⟩,
  ⟨some 4, .bin .lss (.t 3) (.k (.int .i64 0)), none⟩]
def r123_2 : List POp := [⟨some 5, .mv (.t 0), none⟩,
  ⟨some 6, .bin .add (.t 5) (.k (.int .i64 1)), none⟩,
  ⟨some 7, .un .neg (.t 6), none⟩,
  ⟨some 8, .conv .u64 (.t 7), none⟩,
  ⟨some 9, .bin .add (.t 8) (.k (.int .u64 1)), none⟩,
  ⟨some 2, .mv (.t 9), none⟩]
def r123_3 : List POp := [⟨some 10, .mv (.t 0), none⟩,
  ⟨some 11, .conv .u64 (.t 10), none⟩,
  ⟨some 2, .mv (.t 11), none⟩]
def p123 : PCode := (.seq (.ops false r123_0) (.seq (.seq (.ops false r123_1) (.cond (.t 4) (.seq (.ops false r123_2) .ret) .skip)) (.seq (.ops false r123_3) .ret)))
def rs123 : List RS := [.t 2]
theorem c123 : chkF Try.prog Try.f123 1 p123 rs123 = true := by kernel_rfl
/- cmp.isNaN[int64] -/
def r124_0 : List POp := [⟨some 2, .mv (.k (.bool false)), none⟩]
def r124_1 : List POp := [⟨some 3, .mv (.t 0), none⟩,
  ⟨some 4, .mv (.t 0), none⟩,
  ⟨some 5, .bin .neq (.t 3) (.t 4), none⟩,
  ⟨some 2, .mv (.t 5), none⟩]
def p124 : PCode := (.seq (.ops false r124_0) (.seq (.ops false r124_1) .ret))
def rs124 : List RS := [.t 2]
theorem c124 : chkF Try.prog Try.f124 1 p124 rs124 = true := by kernel_rfl
/- cuboid/cuboidref01.less -/
def r129_0 : List POp := [⟨some 2, .box 3 (.t 0), none⟩,
  ⟨some 3, .box 3 (.t 1), none⟩,
  ⟨some 4, .mv (.k (.bool false)), none⟩]
def r129_1 : List POp := [⟨some 5, .fad 1 (.t 2), none⟩,
  ⟨some 6, .load false 1 (.t 5) [], none⟩,
  ⟨some 7, .fad 1 (.t 3), none⟩,
  ⟨some 8, .load false 1 (.t 7) [], none⟩,
  ⟨some 9, .bin .lss (.t 6) (.t 8), none⟩,
  ⟨some 10, .mv (.t 9), none⟩,
  ⟨some 11, .fad 1 (.t 2), (some (10, false))⟩,
  ⟨some 12, .load false 1 (.t 11) [], (some (10, false))⟩,
  ⟨some 13, .fad 1 (.t 3), (some (10, false))⟩,
  ⟨some 14, .load false 1 (.t 13) [], (some (10, false))⟩,
  ⟨some 15, .bin .eql (.t 12) (.t 14), (some (10, false))⟩,
  ⟨some 16, .mv (.t 15), (some (10, false))⟩,
  ⟨some 17, .fad 2 (.t 2), (some (16, true))⟩,
  ⟨some 18, .load false 1 (.t 17) [], (some (16, true))⟩,
  ⟨some 19, .fad 2 (.t 3), (some (16, true))⟩,
  ⟨some 20, .load false 1 (.t 19) [], (some (16, true))⟩,
  ⟨some 21, .bin .lss (.t 18) (.t 20), (some (16, true))⟩,
  ⟨some 22, .pick (.t 16) (.t 21) (.k (.bool false)), (some (10, false))⟩,
  ⟨some 23, .pick (.t 10) (.k (.bool true)) (.t 22), none⟩,
  ⟨some 4, .mv (.t 23), none⟩]
def p129 : PCode := (.seq (.ops false r129_0) (.seq (.ops false r129_1) .ret))
def rs129 : List RS := [.t 4]
theorem c129 : chkF Try.prog Try.f129 2 p129 rs129 = true := by kernel_rfl
end Go.Proofs.Ytcmejdkjfekoeaa

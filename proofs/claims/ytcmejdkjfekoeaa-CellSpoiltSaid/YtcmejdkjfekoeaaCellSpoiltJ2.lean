/- Part of the proof of CellSpoilt: lemmas. -/
import Derived.Test.YtcmejdkjfekoeaaCSpoilS4
import Derived.Test.YtcmejdkjfekoeaaProg
import Derived.KernelRfl
set_option linter.unusedVariables false
set_option linter.unusedSimpArgs false
namespace Go.Proofs.Ytcmejdkjfekoeaa
open Go.Pl
/- cuboid/cuboidlaw08.BagEnds -/
def r3_0 : List POp := [⟨some 2, .mv (.k (.bool false)), none⟩]
def r3_1 : List POp := [⟨some 16, .mv (.t 0), none⟩,⟨some 17, .len (.t 16), none⟩,⟨some 18, .bin .gtr (.t 17) (.k (.int .i64 60)), none⟩]
def r3_2 : List POp := [⟨some 19, .call false 20 [], none⟩,⟨some 2, .mv (.t 19), none⟩]
def r3_3 : List POp := [⟨some 20, .mv (.t 0), none⟩,⟨some 21, .call false 21 [(.t 20)], none⟩,⟨some 3, .mv (.t 21), none⟩]
def r3_4 : List POp := [⟨some 4, .mv (.k (.int .i64 0)), none⟩]
def r3_5 : List POp := [⟨some 22, .mv (.t 4), none⟩,⟨some 23, .mv (.t 0), none⟩,⟨some 24, .len (.t 23), none⟩,⟨some 25, .bin .lss (.t 22) (.t 24), none⟩]
def r3_7 : List POp := [⟨some 28, .mv (.t 0), none⟩,⟨some 29, .mv (.t 4), none⟩,⟨some 30, .iaS 1 (.t 28) (.t 29), none⟩,⟨some 31, .load false 1 (.t 30) [], none⟩,⟨some 32, .mv (.t 0), none⟩,⟨some 33, .mv (.t 4), none⟩,⟨some 34, .iaS 1 (.t 32) (.t 33), none⟩,⟨some 35, .load false 1 (.t 34) [], none⟩,⟨some 5, .mv (.t 31), none⟩,⟨some 6, .mv (.t 35), none⟩]
def r3_8 : List POp := [⟨some 36, .mv (.t 4), none⟩,⟨some 7, .mv (.t 36), none⟩]
def r3_9 : List POp := [⟨some 37, .mv (.t 7), none⟩,⟨some 38, .mv (.t 0), none⟩,⟨some 39, .len (.t 38), none⟩,⟨some 40, .bin .lss (.t 37) (.t 39), none⟩]
def r3_11 : List POp := [⟨some 43, .mv (.t 5), none⟩,⟨some 44, .mv (.t 0), none⟩,⟨some 45, .mv (.t 7), none⟩,⟨some 46, .iaS 1 (.t 44) (.t 45), none⟩,⟨some 47, .load false 1 (.t 46) [], none⟩,⟨some 48, .mm false (.t 43) [(.t 47)], none⟩,⟨some 49, .mv (.t 6), none⟩,⟨some 50, .mv (.t 0), none⟩,⟨some 51, .mv (.t 7), none⟩,⟨some 52, .iaS 1 (.t 50) (.t 51), none⟩,⟨some 53, .load false 1 (.t 52) [], none⟩,⟨some 54, .mm true (.t 49) [(.t 53)], none⟩,⟨some 5, .mv (.t 48), none⟩,⟨some 6, .mv (.t 54), none⟩]
def r3_10 : List POp := [⟨some 41, .mv (.t 7), none⟩,⟨some 42, .bin .add (.t 41) (.k (.int .i64 1)), none⟩,⟨some 7, .mv (.t 42), none⟩]
def b3_1 : PCode := (.seq (.seq (.ops false r3_9) (.cond (.t 40) .skip (.exit 2))) (.seq (.block 3 (.ops true r3_11)) (.ops false r3_10)))
def r3_12 : List POp := [⟨some 56, .mv (.t 3), none⟩,⟨some 57, .call false 22 [(.t 56)], none⟩,⟨some 55, .mv (.t 57), none⟩,⟨some 58, .ext (.t 55) 0, none⟩,⟨some 59, .ext (.t 55) 1, none⟩,⟨some 8, .mv (.t 58), none⟩,⟨some 9, .mv (.t 59), none⟩]
def r3_13 : List POp := [⟨some 61, .mv (.t 3), none⟩,⟨some 62, .call false 23 [(.t 61)], none⟩,⟨some 60, .mv (.t 62), none⟩,⟨some 63, .ext (.t 60) 0, none⟩,⟨some 64, .ext (.t 60) 1, none⟩,⟨some 10, .mv (.t 63), none⟩,⟨some 11, .mv (.t 64), none⟩]
def r3_14 : List POp := [⟨some 65, .mv (.t 9), none⟩,⟨some 66, .un .not (.t 65), none⟩,⟨some 67, .mv (.t 66), none⟩,⟨some 68, .mv (.t 11), (some (67, false))⟩,⟨some 69, .un .not (.t 68), (some (67, false))⟩,⟨some 70, .pick (.t 67) (.k (.bool true)) (.t 69), none⟩,⟨some 71, .mv (.t 70), none⟩,⟨some 72, .mv (.t 8), (some (71, false))⟩,⟨some 73, .mv (.t 5), (some (71, false))⟩,⟨some 74, .bin .neq (.t 72) (.t 73), (some (71, false))⟩,⟨some 75, .pick (.t 71) (.k (.bool true)) (.t 74), none⟩,⟨some 76, .mv (.t 75), none⟩,⟨some 77, .mv (.t 10), (some (76, false))⟩,⟨some 78, .mv (.t 6), (some (76, false))⟩,⟨some 79, .bin .neq (.t 77) (.t 78), (some (76, false))⟩,⟨some 80, .pick (.t 76) (.k (.bool true)) (.t 79), none⟩]
def r3_15 : List POp := [⟨some 2, .mv (.k (.bool false)), none⟩]
def r3_16 : List POp := [⟨some 82, .mv (.t 3), none⟩,⟨some 83, .mv (.t 0), none⟩,⟨some 84, .mv (.t 4), none⟩,⟨some 85, .iaS 1 (.t 83) (.t 84), none⟩,⟨some 86, .load false 1 (.t 85) [], none⟩,⟨some 87, .bsl 1 1 [.int .i64 0] [(0, (.t 86))] false, none⟩,⟨some 88, .call false 21 [(.t 87)], none⟩,⟨some 89, .call false 24 [(.t 82), (.t 88)], none⟩,⟨some 81, .mv (.t 89), none⟩,⟨some 90, .ext (.t 81) 0, none⟩,⟨some 91, .ext (.t 81) 1, none⟩,⟨some 12, .mv (.t 90), none⟩,⟨some 13, .mv (.t 91), none⟩]
def r3_17 : List POp := [⟨some 92, .mv (.t 13), none⟩,⟨some 93, .un .not (.t 92), none⟩]
def r3_18 : List POp := [⟨some 2, .mv (.k (.bool false)), none⟩]
def r3_19 : List POp := [⟨some 94, .mv (.t 12), none⟩,⟨some 3, .mv (.t 94), none⟩]
def r3_6 : List POp := [⟨some 26, .mv (.t 4), none⟩,⟨some 27, .bin .add (.t 26) (.k (.int .i64 1)), none⟩,⟨some 4, .mv (.t 27), none⟩]
def b3_0 : PCode := (.seq (.seq (.ops false r3_5) (.cond (.t 25) .skip (.exit 0))) (.seq (.block 1 (.seq (.ops true r3_7) (.seq (.seq (.ops false r3_8) (.block 2 (.loop b3_1))) (.seq (.ops false r3_12) (.seq (.ops false r3_13) (.seq (.seq (.ops false r3_14) (.cond (.t 80) (.seq (.ops false r3_15) .ret) .skip)) (.seq (.ops false r3_16) (.seq (.seq (.ops false r3_17) (.cond (.t 93) (.seq (.ops false r3_18) .ret) .skip)) (.ops false r3_19))))))))) (.ops false r3_6)))
def r3_20 : List POp := [⟨some 96, .mv (.t 3), none⟩,⟨some 97, .call false 22 [(.t 96)], none⟩,⟨some 95, .mv (.t 97), none⟩,⟨some 98, .ext (.t 95) 0, none⟩,⟨some 99, .ext (.t 95) 1, none⟩,⟨some 14, .mv (.t 98), none⟩,⟨some 15, .mv (.t 99), none⟩]
def r3_21 : List POp := [⟨some 100, .mv (.t 3), none⟩,⟨some 101, .len (.t 100), none⟩,⟨some 102, .bin .eql (.t 101) (.k (.int .i64 0)), none⟩,⟨some 103, .mv (.t 102), none⟩,⟨some 104, .mv (.t 15), (some (103, true))⟩,⟨some 105, .un .not (.t 104), (some (103, true))⟩,⟨some 106, .pick (.t 103) (.t 105) (.k (.bool false)), none⟩,⟨some 107, .mv (.t 106), none⟩,⟨some 108, .call false 20 [], (some (107, true))⟩,⟨some 109, .pick (.t 107) (.t 108) (.k (.bool false)), none⟩,⟨some 2, .mv (.t 109), none⟩]
def p3 : PCode := (.seq (.ops false r3_0) (.seq (.seq (.ops false r3_1) (.cond (.t 18) (.seq (.ops false r3_2) .ret) .skip)) (.seq (.ops false r3_3) (.seq (.seq (.ops false r3_4) (.block 0 (.loop b3_0))) (.seq (.ops false r3_20) (.seq (.ops false r3_21) .ret))))))
def rs3 : List RS := [.t 2]
theorem c3 : chkF Try.prog Try.f3 1 p3 rs3 = true := by kernel_rfl
/- cuboid/cuboidlaw08.BagMany -/
def r4_0 : List POp := [⟨some 6, .mv (.k (.bool false)), none⟩]
def r4_1 : List POp := [⟨some 15, .mv (.t 2), none⟩,⟨some 16, .bin .rem (.t 15) (.k (.int .u64 1099511627776)), none⟩,⟨some 17, .conv .i64 (.t 16), none⟩,⟨some 7, .mv (.t 17), none⟩]
def r4_2 : List POp := [⟨some 18, .mv (.t 0), none⟩,⟨some 19, .mv (.t 7), none⟩,⟨some 20, .bin .sub (.k (.int .i64 1099511627776)) (.t 19), none⟩,⟨some 21, .build [.int .i64 0, .int .i64 0] [(0, 1, (.t 18)), (1, 1, (.t 20))], none⟩,⟨some 22, .bsl 2 1 [.int .i64 0, .int .i64 0] [(0, (.t 21))] false, none⟩,⟨some 8, .mv (.t 22), none⟩]
def r4_3 : List POp := [⟨some 23, .mv (.t 1), none⟩,⟨some 24, .mv (.t 7), none⟩,⟨some 25, .build [.int .i64 0, .int .i64 0] [(0, 1, (.t 23)), (1, 1, (.t 24))], none⟩,⟨some 26, .bsl 2 1 [.int .i64 0, .int .i64 0] [(0, (.t 25))] false, none⟩,⟨some 9, .mv (.t 26), none⟩]
def r4_4 : List POp := [⟨some 27, .mv (.t 7), none⟩,⟨some 28, .bin .eql (.t 27) (.k (.int .i64 0)), none⟩]
def r4_5 : List POp := [⟨some 9, .mv (.k (.sl [])), none⟩]
def r4_6 : List POp := [⟨some 29, .mv (.t 1), none⟩,⟨some 30, .mv (.t 7), none⟩,⟨some 31, .bin .add (.t 30) (.k (.int .i64 1)), none⟩,⟨some 32, .build [.int .i64 0, .int .i64 0] [(0, 1, (.t 29)), (1, 1, (.t 31))], none⟩,⟨some 33, .bsl 2 1 [.int .i64 0, .int .i64 0] [(0, (.t 32))] false, none⟩,⟨some 10, .mv (.t 33), none⟩]
def r4_7 : List POp := [⟨some 35, .mv (.t 8), none⟩,⟨some 36, .mv (.t 9), none⟩,⟨some 37, .call false 25 [(.t 35), (.t 36)], none⟩,⟨some 34, .mv (.t 37), none⟩,⟨some 38, .ext (.t 34) 0, none⟩,⟨some 39, .ext (.t 34) 1, none⟩,⟨some 11, .mv (.t 38), none⟩,⟨some 12, .mv (.t 39), none⟩]
def r4_8 : List POp := [⟨some 41, .mv (.t 8), none⟩,⟨some 42, .mv (.t 10), none⟩,⟨some 43, .call false 25 [(.t 41), (.t 42)], none⟩,⟨some 40, .mv (.t 43), none⟩,⟨some 44, .ext (.t 40) 0, none⟩,⟨some 45, .ext (.t 40) 1, none⟩,⟨some 13, .mv (.t 44), none⟩,⟨some 14, .mv (.t 45), none⟩]
def r4_9 : List POp := [⟨some 46, .mv (.t 8), none⟩,⟨some 47, .call false 26 [(.t 46)], none⟩,⟨some 48, .mv (.t 47), none⟩,⟨some 49, .mv (.t 12), (some (48, true))⟩,⟨some 50, .pick (.t 48) (.t 49) (.k (.bool false)), none⟩,⟨some 51, .mv (.t 50), none⟩,⟨some 52, .mv (.t 11), (some (51, true))⟩,⟨some 53, .call false 27 [(.t 52)], (some (51, true))⟩,⟨some 54, .bin .eql (.t 53) (.k (.int .i64 1099511627776)), (some (51, true))⟩,⟨some 55, .pick (.t 51) (.t 54) (.k (.bool false)), none⟩,⟨some 56, .mv (.t 55), none⟩,⟨some 57, .mv (.t 14), (some (56, true))⟩,⟨some 58, .un .not (.t 57), (some (56, true))⟩,⟨some 59, .pick (.t 56) (.t 58) (.k (.bool false)), none⟩,⟨some 60, .mv (.t 59), none⟩,⟨some 61, .mv (.t 0), (some (60, true))⟩,⟨some 62, .build [.int .i64 0, .int .i64 0] [(0, 1, (.t 61)), (1, 1, (.k (.int .i64 1099511627777)))], (some (60, true))⟩,⟨some 63, .bsl 2 1 [.int .i64 0, .int .i64 0] [(0, (.t 62))] false, (some (60, true))⟩,⟨some 64, .call false 26 [(.t 63)], (some (60, true))⟩,⟨some 65, .un .not (.t 64), (some (60, true))⟩,⟨some 66, .pick (.t 60) (.t 65) (.k (.bool false)), none⟩,⟨some 67, .mv (.t 66), none⟩,⟨some 68, .call false 20 [], (some (67, true))⟩,⟨some 69, .pick (.t 67) (.t 68) (.k (.bool false)), none⟩,⟨some 6, .mv (.t 69), none⟩]
def p4 : PCode := (.seq (.ops false r4_0) (.seq (.ops false r4_1) (.seq (.ops false r4_2) (.seq (.ops false r4_3) (.seq (.seq (.ops false r4_4) (.cond (.t 28) (.ops false r4_5) .skip)) (.seq (.ops false r4_6) (.seq (.ops false r4_7) (.seq (.ops false r4_8) (.seq (.ops false r4_9) .ret)))))))))
def rs4 : List RS := [.t 6]
theorem c4 : chkF Try.prog Try.f4 3 p4 rs4 = true := by kernel_rfl
/- cuboid/cuboidlaw09.CellJoins -/
def r9_0 : List POp := [⟨some 6, .mv (.k (.bool false)), none⟩]
def r9_1 : List POp := [⟨some 18, .mv (.t 1), none⟩,⟨some 19, .len (.t 18), none⟩,⟨some 20, .bin .gtr (.t 19) (.k (.int .i64 60)), none⟩,⟨some 21, .mv (.t 20), none⟩,⟨some 22, .mv (.t 2), (some (21, false))⟩,⟨some 23, .len (.t 22), (some (21, false))⟩,⟨some 24, .bin .gtr (.t 23) (.k (.int .i64 60)), (some (21, false))⟩,⟨some 25, .pick (.t 21) (.k (.bool true)) (.t 24), none⟩]
def r9_2 : List POp := [⟨some 26, .call false 43 [], none⟩,⟨some 6, .mv (.t 26), none⟩]
def r9_3 : List POp := [⟨some 27, .mv (.t 0), none⟩,⟨some 28, .call false 54 [(.t 27)], none⟩,⟨some 7, .mv (.t 28), none⟩]
def r9_4 : List POp := [⟨some 30, .mv (.t 7), none⟩,⟨some 31, .mv (.t 1), none⟩,⟨some 32, .call false 45 [(.t 30), (.t 31)], none⟩,⟨some 29, .mv (.t 32), none⟩,⟨some 33, .ext (.t 29) 0, none⟩,⟨some 34, .ext (.t 29) 1, none⟩,⟨some 8, .alloc [.int .i64 0, .int .i64 0, .int .i64 0, .sl [], .sl []], none⟩,⟨none, .store 5 (.t 8) (.t 33) [], none⟩,⟨some 9, .mv (.t 34), none⟩]
def r9_5 : List POp := [⟨some 36, .mv (.t 7), none⟩,⟨some 37, .mv (.t 2), none⟩,⟨some 38, .call false 45 [(.t 36), (.t 37)], none⟩,⟨some 35, .mv (.t 38), none⟩,⟨some 39, .ext (.t 35) 0, none⟩,⟨some 40, .ext (.t 35) 1, none⟩,⟨some 10, .alloc [.int .i64 0, .int .i64 0, .int .i64 0, .sl [], .sl []], none⟩,⟨none, .store 5 (.t 10) (.t 39) [], none⟩,⟨some 11, .mv (.t 40), none⟩]
def r9_6 : List POp := [⟨some 42, .mv (.t 7), none⟩,⟨some 43, .bsl 6 0 [.int .u8 0, .int .u8 0, .int .u8 0, .int .u8 0, .int .i64 0, .int .i64 0] [] true, none⟩,⟨some 44, .mv (.t 1), none⟩,⟨some 45, .app 6 (.t 43) (.t 44) true, none⟩,⟨some 46, .mv (.t 2), none⟩,⟨some 47, .app 6 (.t 45) (.t 46) false, none⟩,⟨some 48, .call false 45 [(.t 42), (.t 47)], none⟩,⟨some 41, .mv (.t 48), none⟩,⟨some 49, .ext (.t 41) 0, none⟩,⟨some 50, .ext (.t 41) 1, none⟩,⟨some 12, .alloc [.int .i64 0, .int .i64 0, .int .i64 0, .sl [], .sl []], none⟩,⟨none, .store 5 (.t 12) (.t 49) [], none⟩,⟨some 13, .mv (.t 50), none⟩]
def r9_7 : List POp := [⟨some 51, .mv (.t 9), none⟩,⟨some 52, .mv (.t 51), none⟩,⟨some 53, .mv (.t 11), (some (52, true))⟩,⟨some 54, .pick (.t 52) (.t 53) (.k (.bool false)), none⟩]
def r9_8 : List POp := [⟨some 56, .mv (.t 7), none⟩,⟨some 57, .load true 5 (.t 8) [], none⟩,⟨some 58, .load true 5 (.t 10) [], none⟩,⟨some 59, .call false 51 [(.t 56), (.t 57), (.t 58)], none⟩,⟨some 55, .mv (.t 59), none⟩,⟨some 60, .ext (.t 55) 0, none⟩,⟨some 61, .ext (.t 55) 1, none⟩,⟨some 14, .alloc [.int .i64 0, .int .i64 0, .int .i64 0, .sl [], .sl []], none⟩,⟨none, .store 5 (.t 14) (.t 60) [], none⟩,⟨some 15, .mv (.t 61), none⟩]
def r9_9 : List POp := [⟨some 63, .mv (.t 7), none⟩,⟨some 64, .load true 5 (.t 10) [], none⟩,⟨some 65, .load true 5 (.t 8) [], none⟩,⟨some 66, .call false 51 [(.t 63), (.t 64), (.t 65)], none⟩,⟨some 62, .mv (.t 66), none⟩,⟨some 67, .ext (.t 62) 0, none⟩,⟨some 68, .ext (.t 62) 1, none⟩,⟨some 16, .alloc [.int .i64 0, .int .i64 0, .int .i64 0, .sl [], .sl []], none⟩,⟨none, .store 5 (.t 16) (.t 67) [], none⟩,⟨some 17, .mv (.t 68), none⟩]
def r9_10 : List POp := [⟨some 69, .mv (.t 15), none⟩,⟨some 70, .mv (.t 13), none⟩,⟨some 71, .eqs false false [.b] (.t 69) (.t 70), none⟩,⟨some 72, .mv (.t 71), none⟩,⟨some 73, .mv (.t 17), (some (72, true))⟩,⟨some 74, .mv (.t 13), (some (72, true))⟩,⟨some 75, .eqs false false [.b] (.t 73) (.t 74), (some (72, true))⟩,⟨some 76, .pick (.t 72) (.t 75) (.k (.bool false)), none⟩,⟨some 77, .mv (.t 76), none⟩,⟨some 78, .load true 5 (.t 14) [], (some (77, true))⟩,⟨some 79, .load true 5 (.t 12) [], (some (77, true))⟩,⟨some 80, .call false 53 [(.t 78), (.t 79)], (some (77, true))⟩,⟨some 81, .pick (.t 77) (.t 80) (.k (.bool false)), none⟩,⟨some 82, .mv (.t 81), none⟩,⟨some 83, .load true 5 (.t 16) [], (some (82, true))⟩,⟨some 84, .load true 5 (.t 12) [], (some (82, true))⟩,⟨some 85, .call false 53 [(.t 83), (.t 84)], (some (82, true))⟩,⟨some 86, .pick (.t 82) (.t 85) (.k (.bool false)), none⟩,⟨some 87, .mv (.t 86), none⟩,⟨some 88, .call false 43 [], (some (87, true))⟩,⟨some 89, .pick (.t 87) (.t 88) (.k (.bool false)), none⟩,⟨some 6, .mv (.t 89), none⟩]
def r9_11 : List POp := [⟨some 90, .mv (.t 1), none⟩,⟨some 91, .len (.t 90), none⟩,⟨some 92, .bin .eql (.t 91) (.k (.int .i64 0)), none⟩,⟨some 93, .mv (.t 92), none⟩,⟨some 94, .mv (.t 9), (some (93, true))⟩,⟨some 95, .mv (.t 94), (some (93, true))⟩,⟨some 96, .mv (.t 11), (some (95, false))⟩,⟨some 97, .mv (.t 13), (some (95, false))⟩,⟨some 98, .eqs true false [.b] (.t 96) (.t 97), (some (95, false))⟩,⟨some 99, .pick (.t 95) (.k (.bool true)) (.t 98), (some (93, true))⟩,⟨some 100, .mv (.t 99), (some (93, true))⟩,⟨some 101, .load true 5 (.t 10) [], (some (100, false))⟩,⟨some 102, .load true 5 (.t 12) [], (some (100, false))⟩,⟨some 103, .call false 53 [(.t 101), (.t 102)], (some (100, false))⟩,⟨some 104, .un .not (.t 103), (some (100, false))⟩,⟨some 105, .pick (.t 100) (.k (.bool true)) (.t 104), (some (93, true))⟩,⟨some 106, .pick (.t 93) (.t 105) (.k (.bool false)), none⟩,⟨some 107, .mv (.t 106), none⟩,⟨some 108, .mv (.t 2), (some (107, false))⟩,⟨some 109, .len (.t 108), (some (107, false))⟩,⟨some 110, .bin .eql (.t 109) (.k (.int .i64 0)), (some (107, false))⟩,⟨some 111, .mv (.t 110), (some (107, false))⟩,⟨some 112, .mv (.t 11), (some (111, true))⟩,⟨some 113, .mv (.t 112), (some (111, true))⟩,⟨some 114, .mv (.t 9), (some (113, false))⟩,⟨some 115, .mv (.t 13), (some (113, false))⟩,⟨some 116, .eqs true false [.b] (.t 114) (.t 115), (some (113, false))⟩,⟨some 117, .pick (.t 113) (.k (.bool true)) (.t 116), (some (111, true))⟩,⟨some 118, .mv (.t 117), (some (111, true))⟩,⟨some 119, .load true 5 (.t 8) [], (some (118, false))⟩,⟨some 120, .load true 5 (.t 12) [], (some (118, false))⟩,⟨some 121, .call false 53 [(.t 119), (.t 120)], (some (118, false))⟩,⟨some 122, .un .not (.t 121), (some (118, false))⟩,⟨some 123, .pick (.t 118) (.k (.bool true)) (.t 122), (some (111, true))⟩,⟨some 124, .pick (.t 111) (.t 123) (.k (.bool false)), (some (107, false))⟩,⟨some 125, .pick (.t 107) (.k (.bool true)) (.t 124), none⟩]
def r9_12 : List POp := [⟨some 6, .mv (.k (.bool false)), none⟩]
def r9_13 : List POp := [⟨some 126, .call false 43 [], none⟩,⟨some 6, .mv (.t 126), none⟩]
def p9 : PCode := (.seq (.ops false r9_0) (.seq (.seq (.ops false r9_1) (.cond (.t 25) (.seq (.ops false r9_2) .ret) .skip)) (.seq (.ops false r9_3) (.seq (.ops false r9_4) (.seq (.ops false r9_5) (.seq (.ops false r9_6) (.seq (.seq (.ops false r9_7) (.cond (.t 54) (.seq (.ops false r9_8) (.seq (.ops false r9_9) (.seq (.ops false r9_10) .ret))) .skip)) (.seq (.seq (.ops false r9_11) (.cond (.t 125) (.seq (.ops false r9_12) .ret) .skip)) (.seq (.ops false r9_13) .ret)))))))))
def rs9 : List RS := [.t 6]
theorem c9 : chkF Try.prog Try.f9 3 p9 rs9 = true := by kernel_rfl
/- cuboid/cuboidlaw09.CellMean -/
/- cuboid/cuboidlaw09.CellSpoilt -/
def r13_0 : List POp := [⟨some 5, .box 2 (.t 2), none⟩,⟨some 6, .mv (.k (.bool false)), none⟩]
def r13_1 : List POp := [⟨some 15, .mv (.t 1), none⟩,⟨some 16, .len (.t 15), none⟩,⟨some 17, .bin .gtr (.t 16) (.k (.int .i64 60)), none⟩]
def r13_2 : List POp := [⟨some 18, .call false 43 [], none⟩,⟨some 6, .mv (.t 18), none⟩]
def r13_3 : List POp := [⟨some 19, .mv (.t 0), none⟩,⟨some 20, .call false 54 [(.t 19)], none⟩,⟨some 7, .mv (.t 20), none⟩]
def r13_4 : List POp := [⟨some 21, .mv (.t 7), none⟩,⟨some 22, .mv (.t 1), none⟩,⟨some 23, .call false 44 [(.t 21), (.t 22)], none⟩,⟨some 8, .alloc [.int .i64 0, .int .i64 0, .int .i64 0, .sl [], .sl [], .bool false], none⟩,⟨none, .store 6 (.t 8) (.t 23) [], none⟩]
def r13_5 : List POp := [⟨some 24, .fad 5 (.t 8), none⟩,⟨some 25, .load false 1 (.t 24) [], none⟩,⟨some 26, .un .not (.t 25), none⟩]
def r13_6 : List POp := [⟨some 27, .call false 43 [], none⟩,⟨some 6, .mv (.t 27), none⟩]
def r13_7 : List POp := [⟨some 28, .fad 0 (.t 8), none⟩,⟨some 29, .load true 5 (.t 28) [], none⟩,⟨some 9, .alloc [.int .i64 0, .int .i64 0, .int .i64 0, .sl [], .sl []], none⟩,⟨none, .store 5 (.t 9) (.t 29) [], none⟩]
def r13_8 : List POp := [⟨some 30, .fad 0 (.t 5), none⟩,⟨some 31, .load false 1 (.t 30) [], none⟩,⟨some 32, .bin .rem (.t 31) (.k (.int .u8 5)), none⟩]
def r13_12 : List POp := [⟨some 43, .bin .eql (.t 32) (.k (.int .u8 0)), none⟩,⟨some 42, .mv (.t 43), none⟩]
def r13_13 : List POp := [⟨some 44, .fad 0 (.t 9), none⟩,⟨some 45, .load false 1 (.t 44) [], none⟩,⟨some 46, .bin .add (.t 45) (.k (.int .i64 1)), none⟩,⟨some 47, .fad 0 (.t 9), none⟩,⟨none, .store 1 (.t 47) (.t 46) [], none⟩]
def r13_14 : List POp := [⟨some 49, .bin .eql (.t 32) (.k (.int .u8 1)), none⟩,⟨some 48, .mv (.t 49), none⟩]
def r13_15 : List POp := [⟨some 50, .fad 1 (.t 9), none⟩,⟨some 51, .iaA 2 1 (.t 50) (.k (.int .i64 0)), none⟩,⟨some 52, .load false 1 (.t 51) [], none⟩,⟨some 53, .fad 1 (.t 5), none⟩,⟨some 54, .load false 1 (.t 53) [], none⟩,⟨some 55, .bin .or (.t 54) (.k (.int .i64 1)), none⟩,⟨some 56, .bin .xor (.t 52) (.t 55), none⟩,⟨some 57, .fad 1 (.t 9), none⟩,⟨some 58, .iaA 2 1 (.t 57) (.k (.int .i64 0)), none⟩,⟨none, .store 1 (.t 58) (.t 56) [], none⟩]
def r13_16 : List POp := [⟨some 60, .bin .eql (.t 32) (.k (.int .u8 2)), none⟩,⟨some 59, .mv (.t 60), none⟩]
def r13_17 : List POp := [⟨some 61, .bsl 2 0 [.int .i64 0, .int .i64 0] [] true, none⟩,⟨some 62, .fad 3 (.t 9), none⟩,⟨some 63, .iaA 2 1 (.t 62) (.k (.int .i64 0)), none⟩,⟨some 64, .load false 1 (.t 63) [], none⟩,⟨some 65, .app 2 (.t 61) (.t 64) true, none⟩,⟨some 66, .fad 3 (.t 9), none⟩,⟨some 67, .iaA 2 1 (.t 66) (.k (.int .i64 0)), none⟩,⟨none, .store 1 (.t 67) (.t 65) [], none⟩]
def r13_18 : List POp := [⟨some 68, .fad 3 (.t 9), none⟩,⟨some 69, .iaA 2 1 (.t 68) (.k (.int .i64 0)), none⟩,⟨some 70, .load false 1 (.t 69) [], none⟩,⟨some 71, .iaS 2 (.t 70) (.k (.int .i64 0)), none⟩,⟨some 72, .fad 1 (.t 71), none⟩,⟨some 73, .load false 1 (.t 72) [], none⟩,⟨some 74, .bin .add (.t 73) (.k (.int .i64 1)), none⟩,⟨some 75, .iaS 2 (.t 70) (.k (.int .i64 0)), none⟩,⟨some 76, .fad 1 (.t 75), none⟩,⟨none, .store 1 (.t 76) (.t 74) [], none⟩]
def r13_19 : List POp := [⟨some 78, .bin .eql (.t 32) (.k (.int .u8 3)), none⟩,⟨some 77, .mv (.t 78), none⟩]
def r13_20 : List POp := [⟨some 79, .fad 3 (.t 9), none⟩,⟨some 80, .iaA 2 1 (.t 79) (.k (.int .i64 0)), none⟩,⟨some 81, .load false 1 (.t 80) [], none⟩,⟨some 82, .len (.t 81), none⟩,⟨some 83, .bin .sub (.t 82) (.k (.int .i64 1)), none⟩,⟨some 10, .mv (.t 83), none⟩]
def r13_21 : List POp := [⟨some 84, .bsl 2 0 [.int .i64 0, .int .i64 0] [] true, none⟩,⟨some 85, .fad 3 (.t 9), none⟩,⟨some 86, .iaA 2 1 (.t 85) (.k (.int .i64 0)), none⟩,⟨some 87, .load false 1 (.t 86) [84], none⟩,⟨some 88, .mv (.t 10), none⟩,⟨some 89, .iaS 2 (.t 87) (.t 88), none⟩,⟨some 90, .load true 2 (.t 89) [84], none⟩,⟨some 91, .bsl 2 1 [.int .i64 0, .int .i64 0] [(0, (.t 90))] false, none⟩,⟨some 92, .app 2 (.t 84) (.t 91) true, none⟩,⟨some 93, .fad 3 (.t 9), none⟩,⟨some 94, .iaA 2 1 (.t 93) (.k (.int .i64 0)), none⟩,⟨some 95, .load false 1 (.t 94) [84, 92], none⟩,⟨some 96, .mv (.t 10), none⟩,⟨some 97, .slc 2 (.t 95) none (some (.t 96)), none⟩,⟨some 98, .app 2 (.t 92) (.t 97) true, none⟩,⟨some 99, .fad 3 (.t 9), none⟩,⟨some 100, .iaA 2 1 (.t 99) (.k (.int .i64 0)), none⟩,⟨none, .store 1 (.t 100) (.t 98) [], none⟩]
def r13_22 : List POp := [⟨some 101, .mv (.t 10), none⟩,⟨some 102, .bin .eql (.t 101) (.k (.int .i64 0)), none⟩]
def r13_23 : List POp := [⟨some 103, .fad 3 (.t 9), none⟩,⟨some 104, .iaA 2 1 (.t 103) (.k (.int .i64 0)), none⟩,⟨some 105, .load false 1 (.t 104) [], none⟩,⟨some 106, .iaS 2 (.t 105) (.k (.int .i64 0)), none⟩,⟨some 107, .fad 1 (.t 106), none⟩,⟨none, .store 1 (.t 107) (.k (.int .i64 0)) [], none⟩]
def r13_9 : List POp := [⟨some 33, .fad 3 (.t 9), none⟩,⟨some 34, .iaA 2 1 (.t 33) (.k (.int .i64 1)), none⟩,⟨none, .store 1 (.t 34) (.k (.sl [])) [], none⟩]
def r13_10 : List POp := [⟨some 35, .mv (.t 0), none⟩,⟨some 36, .un .not (.t 35), none⟩]
def r13_11 : List POp := [⟨some 37, .fad 1 (.t 5), none⟩,⟨some 38, .load false 1 (.t 37) [], none⟩,⟨some 39, .bin .or (.t 38) (.k (.int .i64 1)), none⟩,⟨some 40, .fad 1 (.t 9), none⟩,⟨some 41, .iaA 2 1 (.t 40) (.k (.int .i64 1)), none⟩,⟨none, .store 1 (.t 41) (.t 39) [], none⟩]
def r13_24 : List POp := [⟨some 109, .mv (.t 7), none⟩,⟨some 110, .fad 0 (.t 8), none⟩,⟨some 111, .load true 5 (.t 110) [], none⟩,⟨some 112, .load true 5 (.t 9) [], none⟩,⟨some 113, .call false 51 [(.t 109), (.t 111), (.t 112)], none⟩,⟨some 108, .mv (.t 113), none⟩,⟨some 114, .ext (.t 108) 0, none⟩,⟨some 115, .ext (.t 108) 1, none⟩,⟨some 11, .alloc [.int .i64 0, .int .i64 0, .int .i64 0, .sl [], .sl []], none⟩,⟨none, .store 5 (.t 11) (.t 114) [], none⟩,⟨some 12, .mv (.t 115), none⟩]
def r13_25 : List POp := [⟨some 117, .mv (.t 7), none⟩,⟨some 118, .load true 5 (.t 9) [], none⟩,⟨some 119, .fad 0 (.t 8), none⟩,⟨some 120, .load true 5 (.t 119) [], none⟩,⟨some 121, .call false 51 [(.t 117), (.t 118), (.t 120)], none⟩,⟨some 116, .mv (.t 121), none⟩,⟨some 122, .ext (.t 116) 0, none⟩,⟨some 123, .ext (.t 116) 1, none⟩,⟨some 13, .alloc [.int .i64 0, .int .i64 0, .int .i64 0, .sl [], .sl []], none⟩,⟨none, .store 5 (.t 13) (.t 122) [], none⟩,⟨some 14, .mv (.t 123), none⟩]
def r13_26 : List POp := [⟨some 124, .mv (.t 7), none⟩,⟨some 125, .fad 0 (.t 8), none⟩,⟨some 126, .load true 5 (.t 125) [], none⟩,⟨some 127, .call false 47 [(.t 124), (.t 126)], none⟩,⟨some 128, .mv (.t 127), none⟩,⟨some 129, .mv (.t 7), (some (128, true))⟩,⟨some 130, .load true 5 (.t 9) [], (some (128, true))⟩,⟨some 131, .call false 47 [(.t 129), (.t 130)], (some (128, true))⟩,⟨some 132, .un .not (.t 131), (some (128, true))⟩,⟨some 133, .pick (.t 128) (.t 132) (.k (.bool false)), none⟩,⟨some 134, .mv (.t 133), none⟩,⟨some 135, .fad 0 (.t 8), (some (134, true))⟩,⟨some 136, .load true 5 (.t 135) [], (some (134, true))⟩,⟨some 137, .load true 5 (.t 9) [], (some (134, true))⟩,⟨some 138, .call false 53 [(.t 136), (.t 137)], (some (134, true))⟩,⟨some 139, .un .not (.t 138), (some (134, true))⟩,⟨some 140, .pick (.t 134) (.t 139) (.k (.bool false)), none⟩,⟨some 141, .mv (.t 140), none⟩,⟨some 142, .mv (.t 12), (some (141, true))⟩,⟨some 143, .un .not (.t 142), (some (141, true))⟩,⟨some 144, .pick (.t 141) (.t 143) (.k (.bool false)), none⟩,⟨some 145, .mv (.t 144), none⟩,⟨some 146, .mv (.t 14), (some (145, true))⟩,⟨some 147, .un .not (.t 146), (some (145, true))⟩,⟨some 148, .pick (.t 145) (.t 147) (.k (.bool false)), none⟩,⟨some 149, .mv (.t 148), none⟩,⟨some 150, .mv (.t 7), (some (149, true))⟩,⟨some 151, .build [.int .u8 0, .int .u8 0, .int .u8 0, .int .u8 0] [(0, 1, (.k (.int .u8 1)))], (some (149, true))⟩,⟨some 152, .load true 5 (.t 9) [], (some (149, true))⟩,⟨some 153, .call false 49 [(.t 150), (.t 151), (.t 152)], (some (149, true))⟩,⟨some 154, .build [.int .u8 0, .int .u8 0, .int .u8 0, .int .u8 0, .int .i64 0, .int .i64 0, .int .i64 0, .int .i64 0, .int .i64 0, .int .i64 0, .int .i64 0] [], (some (149, true))⟩,⟨some 155, .eqs false true [.i, .i, .i, .i, .i, .i, .i, .i, .i, .i, .i] (.t 153) (.t 154), (some (149, true))⟩,⟨some 156, .pick (.t 149) (.t 155) (.k (.bool false)), none⟩,⟨some 157, .mv (.t 156), none⟩,⟨some 158, .call false 43 [], (some (157, true))⟩,⟨some 159, .pick (.t 157) (.t 158) (.k (.bool false)), none⟩,⟨some 6, .mv (.t 159), none⟩]
def p13 : PCode := (.seq (.ops false r13_0) (.seq (.seq (.ops false r13_1) (.cond (.t 17) (.seq (.ops false r13_2) .ret) .skip)) (.seq (.ops false r13_3) (.seq (.ops false r13_4) (.seq (.seq (.ops false r13_5) (.cond (.t 26) (.seq (.ops false r13_6) .ret) .skip)) (.seq (.ops false r13_7) (.seq (.seq (.ops false r13_8) (.block 0 (.seq (.ops false r13_12) (.cond (.t 42) (.ops false r13_13) (.seq (.ops false r13_14) (.cond (.t 48) (.ops false r13_15) (.seq (.ops false r13_16) (.cond (.t 59) (.seq (.ops false r13_17) (.ops false r13_18)) (.seq (.ops false r13_19) (.cond (.t 77) (.seq (.ops false r13_20) (.seq (.opsB r13_21 [(1, 9), (2, 9), (3, 9), (5, 9), (6, 9), (8, 84), (9, 9), (10, 9), (11, 9), (14, 92), (15, 9), (16, 9), (17, 9)]) (.seq (.ops false r13_22) (.cond (.t 102) (.ops false r13_23) .skip)))) (.seq (.ops false r13_9) (.seq (.ops false r13_10) (.cond (.t 36) (.ops false r13_11) .skip))))))))))))) (.seq (.fzc 9 3 (.nvp 9 (.ops false r13_24))) (.seq (.ops false r13_25) (.seq (.ops false r13_26) .ret))))))))))
def rs13 : List RS := [.t 6]
theorem c13 : chkF Try.prog Try.f13 3 p13 rs13 = true := by kernel_rfl
/- cuboid/cuboidlaw08.wakes -/
/- cuboid/bag.Of -/
def r21_0 : List POp := [⟨some 2, .mv (.k (.sl [])), none⟩]
def r21_1 : List POp := [⟨some 3, .own0 2, none⟩]
def r21_2 : List POp := [⟨some 6, .mv (.t 0), none⟩,⟨some 7, .call false 83 [(.t 6)], none⟩,⟨some 8, .call false 82 [(.t 7)], none⟩,⟨some 9, .len (.t 8), none⟩,⟨some 10, .mv (.k (.int .i64 0)), none⟩]
def r21_3 : List POp := [⟨some 11, .bin .lss (.t 10) (.t 9), none⟩]
def r21_4 : List POp := [⟨some 12, .iaS 1 (.t 8) (.t 10), none⟩,⟨some 13, .load false 1 (.t 12) [], none⟩,⟨some 5, .mv (.t 13), none⟩]
def r21_5 : List POp := [⟨some 14, .mv (.t 3), none⟩,⟨some 15, .mv (.t 5), none⟩,⟨some 16, .call true 84 [(.t 14), (.t 15), (.k (.int .i64 1))], none⟩,⟨some 3, .mv (.t 16), none⟩]
def r21_6 : List POp := [⟨some 17, .bin .add (.t 10) (.k (.int .i64 1)), none⟩,⟨some 10, .mv (.t 17), none⟩]
def b21_0 : PCode := (.seq (.ops false r21_3) (.seq (.cond (.t 11) .skip (.exit 0)) (.seq (.block 1 (.seq (.ops false r21_4) (.ops false r21_5))) (.rn 3 3 (.ops false r21_6)))))
def r21_7 : List POp := [⟨some 18, .mv (.t 3), none⟩,⟨some 2, .mv (.t 18), none⟩]
def p21 : PCode := (.seq (.ops false r21_0) (.seq (.ops false r21_1) (.seq (.seq (.ops false r21_2) (.block 0 (.loop b21_0))) (.seq (.ops false r21_7) .ret))))
def rs21 : List RS := [.t 2]
theorem c21 : chkF Try.prog Try.f21 1 p21 rs21 = true := by kernel_rfl
/- cuboid/bag.Least -/
def r22_0 : List POp := [⟨some 2, .mv (.k (.int .i64 0)), none⟩,⟨some 3, .mv (.k (.bool false)), none⟩]
def r22_1 : List POp := [⟨some 4, .mv (.t 0), none⟩,⟨some 5, .call false 85 [(.t 4), (.k (.bool false))], none⟩,⟨some 6, .ext (.t 5) 0, none⟩,⟨some 7, .ext (.t 5) 1, none⟩,⟨some 2, .mv (.t 6), none⟩,⟨some 3, .mv (.t 7), none⟩]
def p22 : PCode := (.seq (.ops false r22_0) (.seq (.ops false r22_1) .ret))
def rs22 : List RS := [.t 2, .t 3]
theorem c22 : chkF Try.prog Try.f22 1 p22 rs22 = true := by kernel_rfl
/- cuboid/bag.Greatest -/
def r23_0 : List POp := [⟨some 2, .mv (.k (.int .i64 0)), none⟩,⟨some 3, .mv (.k (.bool false)), none⟩]
def r23_1 : List POp := [⟨some 4, .mv (.t 0), none⟩,⟨some 5, .call false 85 [(.t 4), (.k (.bool true))], none⟩,⟨some 6, .ext (.t 5) 0, none⟩,⟨some 7, .ext (.t 5) 1, none⟩,⟨some 2, .mv (.t 6), none⟩,⟨some 3, .mv (.t 7), none⟩]
def p23 : PCode := (.seq (.ops false r23_0) (.seq (.ops false r23_1) .ret))
def rs23 : List RS := [.t 2, .t 3]
theorem c23 : chkF Try.prog Try.f23 1 p23 rs23 = true := by kernel_rfl
/- cuboid/bag.Minus -/
/- cuboid/bag.Join -/
def r25_0 : List POp := [⟨some 2, .box 1 (.t 0), none⟩,⟨some 3, .box 1 (.t 1), none⟩,⟨some 4, .mv (.k (.sl [])), none⟩,⟨some 5, .mv (.k (.bool false)), none⟩]
def r25_1 : List POp := [⟨some 8, .load false 1 (.t 2) [], none⟩,⟨some 9, .call false 26 [(.t 8)], none⟩,⟨some 10, .un .not (.t 9), none⟩,⟨some 11, .mv (.t 10), none⟩,⟨some 12, .load false 1 (.t 3) [], (some (11, false))⟩,⟨some 13, .call false 26 [(.t 12)], (some (11, false))⟩,⟨some 14, .un .not (.t 13), (some (11, false))⟩,⟨some 15, .pick (.t 11) (.k (.bool true)) (.t 14), none⟩,⟨some 16, .mv (.t 15), none⟩,⟨some 17, .load false 1 (.t 2) [], (some (16, false))⟩,⟨some 18, .call false 86 [(.t 17)], (some (16, false))⟩,⟨some 19, .load false 1 (.t 3) [], (some (16, false))⟩,⟨some 20, .call false 86 [(.t 19)], (some (16, false))⟩,⟨some 21, .bin .sub (.k (.int .i64 1099511627776)) (.t 20), (some (16, false))⟩,⟨some 22, .bin .gtr (.t 18) (.t 21), (some (16, false))⟩,⟨some 23, .pick (.t 16) (.k (.bool true)) (.t 22), none⟩]
def r25_2 : List POp := [⟨some 4, .mv (.k (.sl [])), none⟩,⟨some 5, .mv (.k (.bool false)), none⟩]
def r25_3 : List POp := [⟨some 6, .own0 2, none⟩]
def r25_4 : List POp := [⟨some 24, .load false 1 (.t 2) [], none⟩,⟨some 25, .len (.t 24), none⟩,⟨some 26, .bin .gtr (.t 25) (.k (.int .i64 0)), none⟩,⟨some 27, .mv (.t 26), none⟩,⟨some 28, .load false 1 (.t 3) [], (some (27, false))⟩,⟨some 29, .len (.t 28), (some (27, false))⟩,⟨some 30, .bin .gtr (.t 29) (.k (.int .i64 0)), (some (27, false))⟩,⟨some 31, .pick (.t 27) (.k (.bool true)) (.t 30), none⟩]
def r25_5 : List POp := [⟨some 7, .mv (.t 2), none⟩]
def r25_6 : List POp := [⟨some 32, .load false 1 (.t 2) [], none⟩,⟨some 33, .len (.t 32), none⟩,⟨some 34, .bin .eql (.t 33) (.k (.int .i64 0)), none⟩,⟨some 35, .mv (.t 34), none⟩,⟨some 36, .load false 1 (.t 3) [], (some (35, false))⟩,⟨some 37, .len (.t 36), (some (35, false))⟩,⟨some 38, .bin .gtr (.t 37) (.k (.int .i64 0)), (some (35, false))⟩,⟨some 39, .mv (.t 38), (some (35, false))⟩,⟨some 40, .load false 1 (.t 3) [], (some (39, true))⟩,⟨some 41, .iaS 2 (.t 40) (.k (.int .i64 0)), (some (39, true))⟩,⟨some 42, .fad 0 (.t 41), (some (39, true))⟩,⟨some 43, .load false 1 (.t 42) [], (some (39, true))⟩,⟨some 44, .load false 1 (.t 2) [], (some (39, true))⟩,⟨some 45, .iaS 2 (.t 44) (.k (.int .i64 0)), (some (39, true))⟩,⟨some 46, .fad 0 (.t 45), (some (39, true))⟩,⟨some 47, .load false 1 (.t 46) [], (some (39, true))⟩,⟨some 48, .bin .lss (.t 43) (.t 47), (some (39, true))⟩,⟨some 49, .pick (.t 39) (.t 48) (.k (.bool false)), (some (35, false))⟩,⟨some 50, .pick (.t 35) (.k (.bool true)) (.t 49), none⟩]
def r25_7 : List POp := [⟨some 7, .mv (.t 3), none⟩]
def r25_8 : List POp := [⟨some 51, .mv (.t 6), none⟩,⟨some 52, .mv (.t 7), none⟩,⟨some 53, .nilc (.t 52), none⟩,⟨some 54, .load false 1 (.t 53) [], none⟩,⟨some 55, .iaS 2 (.t 54) (.k (.int .i64 0)), none⟩,⟨some 56, .fad 0 (.t 55), none⟩,⟨some 57, .load false 1 (.t 56) [], none⟩,⟨some 58, .mv (.t 7), none⟩,⟨some 59, .nilc (.t 58), none⟩,⟨some 60, .load false 1 (.t 59) [], none⟩,⟨some 61, .iaS 2 (.t 60) (.k (.int .i64 0)), none⟩,⟨some 62, .fad 1 (.t 61), none⟩,⟨some 63, .load false 1 (.t 62) [], none⟩,⟨some 64, .call true 84 [(.t 51), (.t 57), (.t 63)], none⟩,⟨some 6, .mv (.t 64), none⟩]
def r25_9 : List POp := [⟨some 65, .mv (.t 7), none⟩,⟨some 66, .mv (.t 7), none⟩,⟨some 67, .nilc (.t 66), none⟩,⟨some 68, .load false 1 (.t 67) [], none⟩,⟨some 69, .slc 2 (.t 68) (some (.k (.int .i64 1))) none, none⟩,⟨some 70, .nilc (.t 65), none⟩,⟨none, .store 1 (.t 70) (.t 69) [], none⟩]
def b25_0 : PCode := (.seq (.seq (.ops false r25_4) (.cond (.t 31) .skip (.exit 0))) (.block 1 (.seq (.ops false r25_5) (.seq (.seq (.ops true r25_6) (.cond (.t 50) (.ops false r25_7) .skip)) (.seq (.ops true r25_8) (.rn 6 6 (.ops false r25_9)))))))
def r25_10 : List POp := [⟨some 71, .mv (.t 6), none⟩,⟨some 4, .mv (.t 71), none⟩,⟨some 5, .mv (.k (.bool true)), none⟩]
def p25 : PCode := (.seq (.ops false r25_0) (.seq (.seq (.ops true r25_1) (.cond (.t 23) (.seq (.ops false r25_2) .ret) .skip)) (.seq (.ops false r25_3) (.seq (.block 0 (.loop b25_0)) (.seq (.ops false r25_10) .ret)))))
def rs25 : List RS := [.t 4, .t 5]
theorem c25 : chkF Try.prog Try.f25 2 p25 rs25 = true := by kernel_rfl
/- cuboid/bag.Good -/
def r26_0 : List POp := [⟨some 2, .mv (.k (.bool false)), none⟩]
def r26_1 : List POp := [⟨some 3, .mv (.k (.int .i64 0)), none⟩]
def r26_2 : List POp := [⟨some 6, .mv (.t 0), none⟩,⟨some 7, .len (.t 6), none⟩,⟨some 8, .mv (.k (.int .i64 0)), none⟩]
def r26_3 : List POp := [⟨some 9, .bin .lss (.t 8) (.t 7), none⟩]
def r26_4 : List POp := [⟨some 10, .mv (.t 8), none⟩,⟨some 11, .iaS 2 (.t 6) (.t 8), none⟩,⟨some 12, .load true 2 (.t 11) [], none⟩,⟨some 5, .alloc [.int .i64 0, .int .i64 0], none⟩,⟨some 4, .mv (.t 10), none⟩,⟨none, .store 2 (.t 5) (.t 12) [], none⟩]
def r26_5 : List POp := [⟨some 13, .mv (.t 4), none⟩,⟨some 14, .bin .gtr (.t 13) (.k (.int .i64 0)), none⟩,⟨some 15, .mv (.t 14), none⟩,⟨some 16, .mv (.t 0), (some (15, true))⟩,⟨some 17, .mv (.t 4), (some (15, true))⟩,⟨some 18, .bin .sub (.t 17) (.k (.int .i64 1)), (some (15, true))⟩,⟨some 19, .iaS 2 (.t 16) (.t 18), (some (15, true))⟩,⟨some 20, .fad 0 (.t 19), (some (15, true))⟩,⟨some 21, .load false 1 (.t 20) [], (some (15, true))⟩,⟨some 22, .fad 0 (.t 5), (some (15, true))⟩,⟨some 23, .load false 1 (.t 22) [], (some (15, true))⟩,⟨some 24, .bin .geq (.t 21) (.t 23), (some (15, true))⟩,⟨some 25, .pick (.t 15) (.t 24) (.k (.bool false)), none⟩,⟨some 26, .mv (.t 25), none⟩,⟨some 27, .fad 1 (.t 5), (some (26, false))⟩,⟨some 28, .load false 1 (.t 27) [], (some (26, false))⟩,⟨some 29, .bin .lss (.t 28) (.k (.int .i64 1)), (some (26, false))⟩,⟨some 30, .pick (.t 26) (.k (.bool true)) (.t 29), none⟩,⟨some 31, .mv (.t 30), none⟩,⟨some 32, .fad 1 (.t 5), (some (31, false))⟩,⟨some 33, .load false 1 (.t 32) [], (some (31, false))⟩,⟨some 34, .mv (.t 3), (some (31, false))⟩,⟨some 35, .bin .sub (.k (.int .i64 1099511627776)) (.t 34), (some (31, false))⟩,⟨some 36, .bin .gtr (.t 33) (.t 35), (some (31, false))⟩,⟨some 37, .pick (.t 31) (.k (.bool true)) (.t 36), none⟩]
def r26_6 : List POp := [⟨some 2, .mv (.k (.bool false)), none⟩]
def r26_7 : List POp := [⟨some 38, .mv (.t 3), none⟩,⟨some 39, .fad 1 (.t 5), none⟩,⟨some 40, .load false 1 (.t 39) [], none⟩,⟨some 41, .bin .add (.t 38) (.t 40), none⟩,⟨some 3, .mv (.t 41), none⟩]
def r26_8 : List POp := [⟨some 42, .bin .add (.t 8) (.k (.int .i64 1)), none⟩,⟨some 8, .mv (.t 42), none⟩]
def b26_0 : PCode := (.seq (.ops false r26_3) (.seq (.cond (.t 9) .skip (.exit 0)) (.seq (.block 1 (.seq (.ops false r26_4) (.seq (.seq (.ops true r26_5) (.cond (.t 37) (.seq (.ops false r26_6) .ret) .skip)) (.ops false r26_7)))) (.ops false r26_8))))
def r26_9 : List POp := [⟨some 2, .mv (.k (.bool true)), none⟩]
def p26 : PCode := (.seq (.ops false r26_0) (.seq (.ops false r26_1) (.seq (.seq (.ops false r26_2) (.block 0 (.loop b26_0))) (.seq (.ops false r26_9) .ret))))
def rs26 : List RS := [.t 2]
theorem c26 : chkF Try.prog Try.f26 1 p26 rs26 = true := by kernel_rfl
/- cuboid/bag.Count -/
def r27_0 : List POp := [⟨some 2, .mv (.k (.int .i64 0)), none⟩]
def r27_1 : List POp := [⟨some 3, .mv (.t 0), none⟩,⟨some 4, .call false 26 [(.t 3)], none⟩,⟨some 5, .un .not (.t 4), none⟩]
def r27_2 : List POp := [⟨some 2, .mv (.k (.int .i64 0)), none⟩]
def r27_3 : List POp := [⟨some 6, .mv (.t 0), none⟩,⟨some 7, .call false 86 [(.t 6)], none⟩,⟨some 2, .mv (.t 7), none⟩]
def p27 : PCode := (.seq (.ops false r27_0) (.seq (.seq (.ops false r27_1) (.cond (.t 5) (.seq (.ops false r27_2) .ret) .skip)) (.seq (.ops false r27_3) .ret)))
def rs27 : List RS := [.t 2]
theorem c27 : chkF Try.prog Try.f27 1 p27 rs27 = true := by kernel_rfl
/- cuboid/bag.Same -/
def r29_0 : List POp := [⟨some 4, .mv (.k (.bool false)), none⟩]
def r29_1 : List POp := [⟨some 5, .mv (.t 0), none⟩,⟨some 6, .mv (.t 1), none⟩,⟨some 7, .call false 87 [(.t 5), (.t 6)], none⟩,⟨some 4, .mv (.t 7), none⟩]
def p29 : PCode := (.seq (.ops false r29_0) (.seq (.ops false r29_1) .ret))
def rs29 : List RS := [.t 4]
theorem c29 : chkF Try.prog Try.f29 2 p29 rs29 = true := by kernel_rfl
/- cuboid/bag.Has -/
/- cuboid/bag.Sum -/
def r31_0 : List POp := [⟨some 2, .mv (.k (.int .i64 0)), none⟩,⟨some 3, .mv (.k (.bool false)), none⟩]
def r31_1 : List POp := [⟨some 4, .mv (.t 0), none⟩,⟨some 5, .call false 26 [(.t 4)], none⟩,⟨some 6, .un .not (.t 5), none⟩]
def r31_2 : List POp := [⟨some 2, .mv (.k (.int .i64 0)), none⟩,⟨some 3, .mv (.k (.bool false)), none⟩]
def r31_3 : List POp := [⟨some 7, .mv (.t 0), none⟩,⟨some 8, .call false 88 [(.t 7), (.k (.sl []))], none⟩,⟨some 9, .call false 89 [(.t 8)], none⟩,⟨some 10, .ext (.t 9) 0, none⟩,⟨some 11, .ext (.t 9) 1, none⟩,⟨some 2, .mv (.t 10), none⟩,⟨some 3, .mv (.t 11), none⟩]
def p31 : PCode := (.seq (.ops false r31_0) (.seq (.seq (.ops false r31_1) (.cond (.t 6) (.seq (.ops false r31_2) .ret) .skip)) (.seq (.ops false r31_3) .ret)))
def rs31 : List RS := [.t 2, .t 3]
theorem c31 : chkF Try.prog Try.f31 1 p31 rs31 = true := by kernel_rfl
/- cuboid/calc.Total -/
def r32_0 : List POp := [⟨some 2, .mv (.k (.int .i64 0)), none⟩,⟨some 3, .mv (.k (.bool false)), none⟩]
def r32_1 : List POp := [⟨some 4, .alloc [.int .i64 0, .int .u64 0], none⟩]
def r32_2 : List POp := [⟨some 7, .mv (.t 0), none⟩,⟨some 8, .len (.t 7), none⟩,⟨some 9, .mv (.k (.int .i64 0)), none⟩]
def r32_3 : List POp := [⟨some 10, .bin .lss (.t 9) (.t 8), none⟩]
def r32_4 : List POp := [⟨some 11, .iaS 1 (.t 7) (.t 9), none⟩,⟨some 12, .load false 1 (.t 11) [], none⟩,⟨some 6, .mv (.t 12), none⟩]
def r32_5 : List POp := [⟨some 13, .load true 2 (.t 4) [], none⟩,⟨some 14, .mv (.t 6), none⟩,⟨some 15, .call false 90 [(.t 13), (.t 14), (.k (.int .i64 1))], none⟩,⟨none, .store 2 (.t 4) (.t 15) [], none⟩]
def r32_6 : List POp := [⟨some 16, .bin .add (.t 9) (.k (.int .i64 1)), none⟩,⟨some 9, .mv (.t 16), none⟩]
def b32_0 : PCode := (.seq (.ops false r32_3) (.seq (.cond (.t 10) .skip (.exit 0)) (.seq (.block 1 (.seq (.ops false r32_4) (.ops false r32_5))) (.ops false r32_6))))
def r32_7 : List POp := [⟨some 17, .load true 2 (.t 4) [], none⟩,⟨some 18, .call false 89 [(.t 17)], none⟩,⟨some 19, .ext (.t 18) 0, none⟩,⟨some 20, .ext (.t 18) 1, none⟩,⟨some 2, .mv (.t 19), none⟩,⟨some 3, .mv (.t 20), none⟩]
def p32 : PCode := (.seq (.ops false r32_0) (.seq (.ops false r32_1) (.seq (.seq (.ops false r32_2) (.block 0 (.loop b32_0))) (.seq (.ops false r32_7) .ret))))
def rs32 : List RS := [.t 2, .t 3]
theorem c32 : chkF Try.prog Try.f32 1 p32 rs32 = true := by kernel_rfl
/- cuboid/cuboidref08.Of -/
/- cuboid/cuboidref08.Good -/
def r34_0 : List POp := [⟨some 2, .mv (.k (.bool false)), none⟩]
def r34_1 : List POp := [⟨some 3, .mv (.k (.int .i64 0)), none⟩]
def r34_2 : List POp := [⟨some 4, .mv (.k (.int .i64 0)), none⟩]
def r34_3 : List POp := [⟨some 5, .mv (.t 4), none⟩,⟨some 6, .mv (.t 0), none⟩,⟨some 7, .len (.t 6), none⟩,⟨some 8, .bin .lss (.t 5) (.t 7), none⟩]
def r34_5 : List POp := [⟨some 11, .mv (.t 4), none⟩,⟨some 12, .bin .gtr (.t 11) (.k (.int .i64 0)), none⟩,⟨some 13, .mv (.t 12), none⟩,⟨some 14, .mv (.t 0), (some (13, true))⟩,⟨some 15, .mv (.t 4), (some (13, true))⟩,⟨some 16, .bin .sub (.t 15) (.k (.int .i64 1)), (some (13, true))⟩,⟨some 17, .iaS 2 (.t 14) (.t 16), (some (13, true))⟩,⟨some 18, .fad 0 (.t 17), (some (13, true))⟩,⟨some 19, .load false 1 (.t 18) [], (some (13, true))⟩,⟨some 20, .mv (.t 0), (some (13, true))⟩,⟨some 21, .mv (.t 4), (some (13, true))⟩,⟨some 22, .iaS 2 (.t 20) (.t 21), (some (13, true))⟩,⟨some 23, .fad 0 (.t 22), (some (13, true))⟩,⟨some 24, .load false 1 (.t 23) [], (some (13, true))⟩,⟨some 25, .bin .geq (.t 19) (.t 24), (some (13, true))⟩,⟨some 26, .pick (.t 13) (.t 25) (.k (.bool false)), none⟩,⟨some 27, .mv (.t 26), none⟩,⟨some 28, .mv (.t 0), (some (27, false))⟩,⟨some 29, .mv (.t 4), (some (27, false))⟩,⟨some 30, .iaS 2 (.t 28) (.t 29), (some (27, false))⟩,⟨some 31, .fad 1 (.t 30), (some (27, false))⟩,⟨some 32, .load false 1 (.t 31) [], (some (27, false))⟩,⟨some 33, .bin .lss (.t 32) (.k (.int .i64 1)), (some (27, false))⟩,⟨some 34, .pick (.t 27) (.k (.bool true)) (.t 33), none⟩,⟨some 35, .mv (.t 34), none⟩,⟨some 36, .mv (.t 0), (some (35, false))⟩,⟨some 37, .mv (.t 4), (some (35, false))⟩,⟨some 38, .iaS 2 (.t 36) (.t 37), (some (35, false))⟩,⟨some 39, .fad 1 (.t 38), (some (35, false))⟩,⟨some 40, .load false 1 (.t 39) [], (some (35, false))⟩,⟨some 41, .mv (.t 3), (some (35, false))⟩,⟨some 42, .bin .sub (.k (.int .i64 1099511627776)) (.t 41), (some (35, false))⟩,⟨some 43, .bin .gtr (.t 40) (.t 42), (some (35, false))⟩,⟨some 44, .pick (.t 35) (.k (.bool true)) (.t 43), none⟩]
def r34_6 : List POp := [⟨some 2, .mv (.k (.bool false)), none⟩]
def r34_7 : List POp := [⟨some 45, .mv (.t 3), none⟩,⟨some 46, .mv (.t 0), none⟩,⟨some 47, .mv (.t 4), none⟩,⟨some 48, .iaS 2 (.t 46) (.t 47), none⟩,⟨some 49, .fad 1 (.t 48), none⟩,⟨some 50, .load false 1 (.t 49) [], none⟩,⟨some 51, .bin .add (.t 45) (.t 50), none⟩,⟨some 3, .mv (.t 51), none⟩]
def r34_4 : List POp := [⟨some 9, .mv (.t 4), none⟩,⟨some 10, .bin .add (.t 9) (.k (.int .i64 1)), none⟩,⟨some 4, .mv (.t 10), none⟩]
def b34_0 : PCode := (.seq (.seq (.ops false r34_3) (.cond (.t 8) .skip (.exit 0))) (.seq (.block 1 (.seq (.seq (.ops true r34_5) (.cond (.t 44) (.seq (.ops false r34_6) .ret) .skip)) (.ops false r34_7))) (.ops false r34_4)))
def r34_8 : List POp := [⟨some 2, .mv (.k (.bool true)), none⟩]
def p34 : PCode := (.seq (.ops false r34_0) (.seq (.ops false r34_1) (.seq (.seq (.ops false r34_2) (.block 0 (.loop b34_0))) (.seq (.ops false r34_8) .ret))))
def rs34 : List RS := [.t 2]
theorem c34 : chkF Try.prog Try.f34 1 p34 rs34 = true := by kernel_rfl
/- cuboid/cuboidref08.Count -/
def r35_0 : List POp := [⟨some 2, .mv (.k (.int .i64 0)), none⟩]
def r35_1 : List POp := [⟨some 3, .mv (.k (.int .i64 0)), none⟩]
def r35_2 : List POp := [⟨some 4, .mv (.k (.int .i64 0)), none⟩]
def r35_3 : List POp := [⟨some 5, .mv (.t 0), none⟩,⟨some 6, .call false 34 [(.t 5)], none⟩,⟨some 7, .mv (.t 6), none⟩,⟨some 8, .mv (.t 4), (some (7, true))⟩,⟨some 9, .mv (.t 0), (some (7, true))⟩,⟨some 10, .len (.t 9), (some (7, true))⟩,⟨some 11, .bin .lss (.t 8) (.t 10), (some (7, true))⟩,⟨some 12, .pick (.t 7) (.t 11) (.k (.bool false)), none⟩]
def r35_5 : List POp := [⟨some 15, .mv (.t 3), none⟩,⟨some 16, .mv (.t 0), none⟩,⟨some 17, .mv (.t 4), none⟩,⟨some 18, .iaS 2 (.t 16) (.t 17), none⟩,⟨some 19, .fad 1 (.t 18), none⟩,⟨some 20, .load false 1 (.t 19) [], none⟩,⟨some 21, .bin .add (.t 15) (.t 20), none⟩,⟨some 3, .mv (.t 21), none⟩]
def r35_4 : List POp := [⟨some 13, .mv (.t 4), none⟩,⟨some 14, .bin .add (.t 13) (.k (.int .i64 1)), none⟩,⟨some 4, .mv (.t 14), none⟩]
def b35_0 : PCode := (.seq (.seq (.ops false r35_3) (.cond (.t 12) .skip (.exit 0))) (.seq (.block 1 (.ops false r35_5)) (.ops false r35_4)))
def r35_6 : List POp := [⟨some 22, .mv (.t 3), none⟩,⟨some 2, .mv (.t 22), none⟩]
def p35 : PCode := (.seq (.ops false r35_0) (.seq (.ops false r35_1) (.seq (.seq (.ops false r35_2) (.block 0 (.loop b35_0))) (.seq (.ops false r35_6) .ret))))
def rs35 : List RS := [.t 2]
theorem c35 : chkF Try.prog Try.f35 1 p35 rs35 = true := by kernel_rfl
/- cuboid/cuboidlaw08.sum -/
/- cuboid/cuboidlaw08.ends -/
/- cuboid/cuboidref08.Has -/
/- cuboid/cuboidref08.Join -/
/- cuboid/cuboidref08.Minus -/
/- cuboid/cuboidref08.Same -/
/- cuboid/cuboidkeep.LightCell -/
/- cuboid/cuboidlaw09.wakes -/
def r43_0 : List POp := [⟨some 0, .mv (.k (.bool false)), none⟩]
def r43_1 : List POp := [⟨some 10, .build [.int .i64 0, .int .i64 0] [(0, 1, (.k (.int .i64 5))), (1, 1, (.k (.int .i64 1)))], none⟩,⟨some 11, .build [.int .u8 0, .int .u8 0, .int .u8 0, .int .u8 0, .int .i64 0, .int .i64 0] [(4, 2, (.t 10))], none⟩,⟨some 12, .build [.int .i64 0, .int .i64 0] [(0, 1, (.k (.int .i64 (-2)))), (1, 1, (.k (.int .i64 1)))], none⟩,⟨some 13, .build [.int .u8 0, .int .u8 0, .int .u8 0, .int .u8 0, .int .i64 0, .int .i64 0] [(4, 2, (.t 12))], none⟩,⟨some 1, .alloc [.int .u8 0, .int .u8 0, .int .u8 0, .int .u8 0, .int .i64 0, .int .i64 0], none⟩,⟨some 2, .alloc [.int .u8 0, .int .u8 0, .int .u8 0, .int .u8 0, .int .i64 0, .int .i64 0], none⟩,⟨none, .store 6 (.t 1) (.t 11) [], none⟩,⟨none, .store 6 (.t 2) (.t 13) [], none⟩]
def r43_2 : List POp := [⟨some 15, .load true 6 (.t 1) [], none⟩,⟨some 16, .load true 6 (.t 2) [], none⟩,⟨some 17, .bsl 6 2 [.int .u8 0, .int .u8 0, .int .u8 0, .int .u8 0, .int .i64 0, .int .i64 0] [(0, (.t 15)), (1, (.t 16))] false, none⟩,⟨some 18, .call false 45 [(.k (.int .i64 1)), (.t 17)], none⟩,⟨some 14, .mv (.t 18), none⟩,⟨some 19, .ext (.t 14) 0, none⟩,⟨some 20, .ext (.t 14) 1, none⟩,⟨some 3, .alloc [.int .i64 0, .int .i64 0, .int .i64 0, .sl [], .sl []], none⟩,⟨none, .store 5 (.t 3) (.t 19) [], none⟩,⟨some 4, .mv (.t 20), none⟩]
def r43_3 : List POp := [⟨some 21, .build [.int .u8 0, .int .u8 0, .int .u8 0, .int .u8 0] [(0, 1, (.k (.int .u8 3)))], none⟩,⟨some 22, .load true 5 (.t 3) [], none⟩,⟨some 23, .call false 49 [(.k (.int .i64 1)), (.t 21), (.t 22)], none⟩,⟨some 5, .alloc [.int .u8 0, .int .u8 0, .int .u8 0, .int .u8 0, .int .i64 0, .int .i64 0, .int .i64 0, .int .i64 0, .int .i64 0, .int .i64 0, .int .i64 0], none⟩,⟨none, .store 11 (.t 5) (.t 23) [], none⟩]
def r43_4 : List POp := [⟨some 25, .load true 5 (.t 3) [], none⟩,⟨some 26, .load true 5 (.t 3) [], none⟩,⟨some 27, .call false 51 [(.k (.int .i64 1)), (.t 25), (.t 26)], none⟩,⟨some 24, .mv (.t 27), none⟩,⟨some 28, .ext (.t 24) 0, none⟩,⟨some 29, .ext (.t 24) 1, none⟩,⟨some 6, .alloc [.int .i64 0, .int .i64 0, .int .i64 0, .sl [], .sl []], none⟩,⟨none, .store 5 (.t 6) (.t 28) [], none⟩,⟨some 7, .mv (.t 29), none⟩]
def r43_5 : List POp := [⟨some 30, .build [.int .u8 0, .int .u8 0, .int .u8 0, .int .u8 0, .int .i64 0, .int .i64 0, .int .i64 0, .int .i64 0, .int .i64 0, .int .i64 0, .int .i64 0] [(4, 1, (.k (.int .i64 2)))], none⟩,⟨some 31, .build [.int .u8 0, .int .u8 0, .int .u8 0, .int .u8 0, .int .i64 0, .int .i64 0, .int .i64 0, .int .i64 0, .int .i64 0, .int .i64 0, .int .i64 0] [(4, 1, (.k (.int .i64 3)))], none⟩,⟨some 8, .alloc [.int .u8 0, .int .u8 0, .int .u8 0, .int .u8 0, .int .i64 0, .int .i64 0, .int .i64 0, .int .i64 0, .int .i64 0, .int .i64 0, .int .i64 0], none⟩,⟨some 9, .alloc [.int .u8 0, .int .u8 0, .int .u8 0, .int .u8 0, .int .i64 0, .int .i64 0, .int .i64 0, .int .i64 0, .int .i64 0, .int .i64 0, .int .i64 0], none⟩,⟨none, .store 11 (.t 8) (.t 30) [], none⟩,⟨none, .store 11 (.t 9) (.t 31) [], none⟩]
def r43_6 : List POp := [⟨some 32, .fad 5 (.t 8), none⟩,⟨some 33, .iaA 2 1 (.t 32) (.k (.int .i64 0)), none⟩,⟨none, .store 1 (.t 33) (.k (.int .i64 3)) [], none⟩,⟨some 34, .fad 5 (.t 9), none⟩,⟨some 35, .iaA 2 1 (.t 34) (.k (.int .i64 0)), none⟩,⟨none, .store 1 (.t 35) (.k (.int .i64 4)) [], none⟩]
def r43_7 : List POp := [⟨some 36, .mv (.t 4), none⟩,⟨some 37, .mv (.t 36), none⟩,⟨some 38, .fad 0 (.t 3), (some (37, true))⟩,⟨some 39, .load false 1 (.t 38) [], (some (37, true))⟩,⟨some 40, .bin .eql (.t 39) (.k (.int .i64 2)), (some (37, true))⟩,⟨some 41, .pick (.t 37) (.t 40) (.k (.bool false)), none⟩,⟨some 42, .mv (.t 41), none⟩,⟨some 43, .fad 1 (.t 3), (some (42, true))⟩,⟨some 44, .iaA 2 1 (.t 43) (.k (.int .i64 0)), (some (42, true))⟩,⟨some 45, .load false 1 (.t 44) [], (some (42, true))⟩,⟨some 46, .bin .eql (.t 45) (.k (.int .i64 3)), (some (42, true))⟩,⟨some 47, .pick (.t 42) (.t 46) (.k (.bool false)), none⟩,⟨some 48, .mv (.t 47), none⟩,⟨some 49, .fad 7 (.t 5), (some (48, true))⟩,⟨some 50, .iaA 2 1 (.t 49) (.k (.int .i64 0)), (some (48, true))⟩,⟨some 51, .load false 1 (.t 50) [], (some (48, true))⟩,⟨some 52, .bin .eql (.t 51) (.k (.int .i64 (-2))), (some (48, true))⟩,⟨some 53, .pick (.t 48) (.t 52) (.k (.bool false)), none⟩,⟨some 54, .mv (.t 53), none⟩,⟨some 55, .fad 9 (.t 5), (some (54, true))⟩,⟨some 56, .iaA 2 1 (.t 55) (.k (.int .i64 0)), (some (54, true))⟩,⟨some 57, .load false 1 (.t 56) [], (some (54, true))⟩,⟨some 58, .bin .eql (.t 57) (.k (.int .i64 5)), (some (54, true))⟩,⟨some 59, .pick (.t 54) (.t 58) (.k (.bool false)), none⟩,⟨some 60, .mv (.t 59), none⟩,⟨some 61, .fad 0 (.t 5), (some (60, true))⟩,⟨some 62, .load true 4 (.t 61) [], (some (60, true))⟩,⟨some 63, .build [.int .u8 0, .int .u8 0, .int .u8 0, .int .u8 0] [(0, 1, (.k (.int .u8 3)))], (some (60, true))⟩,⟨some 64, .eqs false true [.i, .i, .i, .i] (.t 62) (.t 63), (some (60, true))⟩,⟨some 65, .pick (.t 60) (.t 64) (.k (.bool false)), none⟩,⟨some 66, .mv (.t 65), none⟩,⟨some 67, .mv (.t 7), (some (66, true))⟩,⟨some 68, .pick (.t 66) (.t 67) (.k (.bool false)), none⟩,⟨some 69, .mv (.t 68), none⟩,⟨some 70, .fad 0 (.t 6), (some (69, true))⟩,⟨some 71, .load false 1 (.t 70) [], (some (69, true))⟩,⟨some 72, .bin .eql (.t 71) (.k (.int .i64 4)), (some (69, true))⟩,⟨some 73, .pick (.t 69) (.t 72) (.k (.bool false)), none⟩,⟨some 74, .mv (.t 73), none⟩,⟨some 75, .load true 5 (.t 6) [], (some (74, true))⟩,⟨some 76, .call false 47 [(.k (.int .i64 1)), (.t 75)], (some (74, true))⟩,⟨some 77, .pick (.t 74) (.t 76) (.k (.bool false)), none⟩,⟨some 78, .mv (.t 77), none⟩,⟨some 79, .load true 5 (.t 6) [], (some (78, true))⟩,⟨some 80, .call false 47 [(.k (.int .i64 2)), (.t 79)], (some (78, true))⟩,⟨some 81, .un .not (.t 80), (some (78, true))⟩,⟨some 82, .pick (.t 78) (.t 81) (.k (.bool false)), none⟩,⟨some 83, .mv (.t 82), none⟩,⟨some 84, .load true 5 (.t 3) [], (some (83, true))⟩,⟨some 85, .load true 5 (.t 3) [], (some (83, true))⟩,⟨some 86, .call false 53 [(.t 84), (.t 85)], (some (83, true))⟩,⟨some 87, .pick (.t 83) (.t 86) (.k (.bool false)), none⟩,⟨some 88, .mv (.t 87), none⟩,⟨some 89, .load true 5 (.t 3) [], (some (88, true))⟩,⟨some 90, .load true 5 (.t 6) [], (some (88, true))⟩,⟨some 91, .call false 53 [(.t 89), (.t 90)], (some (88, true))⟩,⟨some 92, .un .not (.t 91), (some (88, true))⟩,⟨some 93, .pick (.t 88) (.t 92) (.k (.bool false)), none⟩,⟨some 94, .mv (.t 93), none⟩,⟨some 95, .load true 11 (.t 8) [], (some (94, true))⟩,⟨some 96, .load true 11 (.t 9) [], (some (94, true))⟩,⟨some 97, .call false 55 [(.k (.int .i64 5)), (.k (.int .i64 0)), (.t 95), (.t 96)], (some (94, true))⟩,⟨some 98, .bin .eql (.t 97) (.k (.int .i64 (-1))), (some (94, true))⟩,⟨some 99, .pick (.t 94) (.t 98) (.k (.bool false)), none⟩,⟨some 100, .mv (.t 99), none⟩,⟨some 101, .load true 11 (.t 8) [], (some (100, true))⟩,⟨some 102, .load true 11 (.t 9) [], (some (100, true))⟩,⟨some 103, .call false 55 [(.k (.int .i64 2)), (.k (.int .i64 0)), (.t 101), (.t 102)], (some (100, true))⟩,⟨some 104, .bin .eql (.t 103) (.k (.int .i64 1)), (some (100, true))⟩,⟨some 105, .pick (.t 100) (.t 104) (.k (.bool false)), none⟩,⟨some 0, .mv (.t 105), none⟩]
def p43 : PCode := (.seq (.ops false r43_0) (.seq (.ops false r43_1) (.seq (.ops false r43_2) (.seq (.ops false r43_3) (.seq (.ops false r43_4) (.seq (.ops false r43_5) (.seq (.ops false r43_6) (.seq (.ops false r43_7) .ret))))))))
def rs43 : List RS := [.t 0]
theorem c43 : chkF Try.prog Try.f43 0 p43 rs43 = true := by kernel_rfl
/- cuboid/cuboidref09.Of -/
def r44_0 : List POp := [⟨some 4, .alloc [.int .i64 0, .int .i64 0, .int .i64 0, .sl [], .sl [], .bool false], none⟩]
def r44_1 : List POp := [⟨some 8, .mv (.t 0), none⟩,⟨some 9, .bin .lss (.t 8) (.k (.int .i64 1)), none⟩,⟨some 10, .mv (.t 9), none⟩,⟨some 11, .mv (.t 0), (some (10, false))⟩,⟨some 12, .bin .gtr (.t 11) (.k (.int .i64 2)), (some (10, false))⟩,⟨some 13, .pick (.t 10) (.k (.bool true)) (.t 12), none⟩,⟨some 14, .mv (.t 13), none⟩,⟨some 15, .mv (.t 1), (some (14, false))⟩,⟨some 16, .len (.t 15), (some (14, false))⟩,⟨some 17, .bin .eql (.t 16) (.k (.int .i64 0)), (some (14, false))⟩,⟨some 18, .pick (.t 14) (.k (.bool true)) (.t 17), none⟩]
def r44_2 : List POp := [⟨some 19, .build [.int .i64 0, .int .i64 0, .int .i64 0, .sl [], .sl [], .bool false] [], none⟩,⟨none, .store 6 (.t 4) (.t 19) [], none⟩]
def r44_3 : List POp := [⟨some 5, .alloc [.sl [], .sl []], none⟩]
def r44_4 : List POp := [⟨some 6, .mv (.k (.int .i64 0)), none⟩]
def r44_5 : List POp := [⟨some 20, .mv (.t 6), none⟩,⟨some 21, .mv (.t 0), none⟩,⟨some 22, .bin .lss (.t 20) (.t 21), none⟩]
def r44_7 : List POp := [⟨some 7, .mv (.k (.int .i64 0)), none⟩]
def r44_8 : List POp := [⟨some 25, .mv (.t 7), none⟩,⟨some 26, .mv (.t 1), none⟩,⟨some 27, .len (.t 26), none⟩,⟨some 28, .bin .lss (.t 25) (.t 27), none⟩]
def r44_10 : List POp := [⟨some 31, .mv (.t 6), none⟩,⟨some 32, .mv (.t 6), none⟩,⟨some 33, .iaA 2 1 (.t 5) (.t 32), none⟩,⟨some 34, .load false 1 (.t 33) [], none⟩,⟨some 35, .mv (.t 1), none⟩,⟨some 36, .mv (.t 7), none⟩,⟨some 37, .mv (.t 6), none⟩,⟨some 38, .iaS 6 (.t 35) (.t 36), none⟩,⟨some 39, .fad 4 (.t 38), none⟩,⟨some 40, .iaA 2 1 (.t 39) (.t 37), none⟩,⟨some 41, .load false 1 (.t 40) [], none⟩,⟨some 42, .call false 81 [(.t 34), (.t 41), (.k (.int .i64 1))], none⟩,⟨some 43, .iaA 2 1 (.t 5) (.t 31), none⟩,⟨none, .store 1 (.t 43) (.t 42) [], none⟩]
def r44_9 : List POp := [⟨some 29, .mv (.t 7), none⟩,⟨some 30, .bin .add (.t 29) (.k (.int .i64 1)), none⟩,⟨some 7, .mv (.t 30), none⟩]
def b44_1 : PCode := (.seq (.seq (.ops false r44_8) (.cond (.t 28) .skip (.exit 2))) (.seq (.block 3 (.ops true r44_10)) (.ops false r44_9)))
def r44_6 : List POp := [⟨some 23, .mv (.t 6), none⟩,⟨some 24, .bin .add (.t 23) (.k (.int .i64 1)), none⟩,⟨some 6, .mv (.t 24), none⟩]
def b44_0 : PCode := (.seq (.seq (.ops false r44_5) (.cond (.t 22) .skip (.exit 0))) (.seq (.block 1 (.seq (.ops false r44_7) (.block 2 (.loop b44_1)))) (.ops false r44_6)))
def r44_11 : List POp := [⟨some 44, .mv (.t 0), none⟩,⟨some 45, .mv (.t 1), none⟩,⟨some 46, .len (.t 45), none⟩,⟨some 47, .load true 2 (.t 5) [], none⟩,⟨some 48, .call false 93 [(.t 44), (.t 46), (.t 47)], none⟩,⟨none, .store 6 (.t 4) (.t 48) [], none⟩]
def p44 : PCode := (.seq (.ops false r44_0) (.seq (.seq (.ops false r44_1) (.cond (.t 18) (.seq (.ops false r44_2) .ret) .skip)) (.seq (.ops false r44_3) (.seq (.seq (.ops false r44_4) (.block 0 (.loop b44_0))) (.seq (.ops false r44_11) .ret)))))
def rs44 : List RS := [.cell 4 true 6]
theorem c44 : chkF Try.prog Try.f44 2 p44 rs44 = true := by kernel_rfl
/- cuboid/cell.Of -/
def r45_0 : List POp := [⟨some 4, .alloc [.int .i64 0, .int .i64 0, .int .i64 0, .sl [], .sl []], none⟩,⟨some 5, .mv (.k (.bool false)), none⟩]
def r45_1 : List POp := [⟨some 13, .mv (.t 1), none⟩,⟨some 14, .len (.t 13), none⟩,⟨some 15, .build [.int .i64 0, .int .i64 0, .int .i64 0, .sl [], .sl []] [(0, 1, (.t 14))], none⟩,⟨some 6, .alloc [.int .i64 0, .int .i64 0, .int .i64 0, .sl [], .sl []], none⟩,⟨none, .store 5 (.t 6) (.t 15) [], none⟩]
def r45_2 : List POp := [⟨some 16, .mv (.t 0), none⟩,⟨some 17, .call false 94 [(.t 16)], none⟩,⟨some 18, .un .not (.t 17), none⟩,⟨some 19, .mv (.t 18), none⟩,⟨some 20, .mv (.t 1), (some (19, false))⟩,⟨some 21, .len (.t 20), (some (19, false))⟩,⟨some 22, .bin .eql (.t 21) (.k (.int .i64 0)), (some (19, false))⟩,⟨some 23, .pick (.t 19) (.k (.bool true)) (.t 22), none⟩]
def r45_3 : List POp := [⟨some 24, .build [.int .i64 0, .int .i64 0, .int .i64 0, .sl [], .sl []] [], none⟩,⟨none, .store 5 (.t 4) (.t 24) [], none⟩,⟨some 5, .mv (.k (.bool false)), none⟩]
def r45_4 : List POp := [⟨some 25, .mv (.t 0), none⟩,⟨some 26, .mv (.k (.int .i64 0)), none⟩]
def r45_5 : List POp := [⟨some 27, .bin .lss (.t 26) (.t 25), none⟩]
def r45_6 : List POp := [⟨some 28, .mv (.t 26), none⟩,⟨some 7, .mv (.t 28), none⟩]
def r45_7 : List POp := [⟨some 8, .own0 1, none⟩]
def r45_8 : List POp := [⟨some 29, .mv (.t 1), none⟩,⟨some 30, .len (.t 29), none⟩,⟨some 31, .mv (.k (.int .i64 0)), none⟩]
def r45_9 : List POp := [⟨some 32, .bin .lss (.t 31) (.t 30), none⟩]
def r45_10 : List POp := [⟨some 33, .iaS 6 (.t 29) (.t 31), none⟩,⟨some 34, .load true 6 (.t 33) [], none⟩,⟨some 10, .alloc [.int .u8 0, .int .u8 0, .int .u8 0, .int .u8 0, .int .i64 0, .int .i64 0], none⟩,⟨none, .store 6 (.t 10) (.t 34) [], none⟩]
def r45_11 : List POp := [⟨some 35, .mv (.t 8), none⟩,⟨some 36, .mv (.t 7), none⟩,⟨some 37, .fad 4 (.t 10), none⟩,⟨some 38, .iaA 2 1 (.t 37) (.t 36), none⟩,⟨some 39, .load false 1 (.t 38) [], none⟩,⟨some 40, .bsl 1 1 [.int .i64 0] [(0, (.t 39))] false, none⟩,⟨some 41, .app 1 (.t 35) (.t 40) true, none⟩,⟨some 8, .mv (.t 41), none⟩]
def r45_12 : List POp := [⟨some 42, .bin .add (.t 31) (.k (.int .i64 1)), none⟩,⟨some 31, .mv (.t 42), none⟩]
def b45_1 : PCode := (.seq (.ops false r45_9) (.seq (.cond (.t 32) .skip (.exit 2)) (.seq (.block 3 (.seq (.ops false r45_10) (.ops false r45_11))) (.rn 8 8 (.ops false r45_12)))))
def r45_13 : List POp := [⟨some 43, .mv (.t 7), none⟩,⟨some 44, .mv (.t 8), none⟩,⟨some 45, .call false 21 [(.t 44)], none⟩,⟨some 46, .fad 3 (.t 6), none⟩,⟨some 47, .iaA 2 1 (.t 46) (.t 43), none⟩,⟨none, .store 1 (.t 47) (.t 45) [], none⟩]
def r45_14 : List POp := [⟨some 49, .mv (.t 7), none⟩,⟨some 50, .fad 3 (.t 6), none⟩,⟨some 51, .iaA 2 1 (.t 50) (.t 49), none⟩,⟨some 52, .load false 1 (.t 51) [], none⟩,⟨some 53, .call false 31 [(.t 52)], none⟩,⟨some 48, .mv (.t 53), none⟩,⟨some 54, .ext (.t 48) 0, none⟩,⟨some 55, .ext (.t 48) 1, none⟩,⟨some 11, .mv (.t 54), none⟩,⟨some 12, .mv (.t 55), none⟩]
def r45_15 : List POp := [⟨some 56, .mv (.t 12), none⟩,⟨some 57, .un .not (.t 56), none⟩]
def r45_16 : List POp := [⟨some 58, .build [.int .i64 0, .int .i64 0, .int .i64 0, .sl [], .sl []] [], none⟩,⟨none, .store 5 (.t 4) (.t 58) [], none⟩,⟨some 5, .mv (.k (.bool false)), none⟩]
def r45_17 : List POp := [⟨some 59, .mv (.t 7), none⟩,⟨some 60, .mv (.t 11), none⟩,⟨some 61, .fad 1 (.t 6), none⟩,⟨some 62, .iaA 2 1 (.t 61) (.t 59), none⟩,⟨none, .store 1 (.t 62) (.t 60) [], none⟩]
def r45_18 : List POp := [⟨some 63, .bin .add (.t 26) (.k (.int .i64 1)), none⟩,⟨some 26, .mv (.t 63), none⟩]
def b45_0 : PCode := (.seq (.ops false r45_5) (.seq (.cond (.t 27) .skip (.exit 0)) (.seq (.block 1 (.seq (.ops false r45_6) (.seq (.ops false r45_7) (.seq (.seq (.ops false r45_8) (.block 2 (.loop b45_1))) (.seq (.fz 8 (.ops false r45_13)) (.seq (.ops false r45_14) (.seq (.seq (.ops false r45_15) (.cond (.t 57) (.seq (.ops false r45_16) .ret) .skip)) (.ops false r45_17)))))))) (.ops false r45_18))))
def r45_19 : List POp := [⟨some 64, .load true 5 (.t 6) [], none⟩,⟨none, .store 5 (.t 4) (.t 64) [], none⟩,⟨some 5, .mv (.k (.bool true)), none⟩]
def p45 : PCode := (.seq (.ops false r45_0) (.seq (.ops false r45_1) (.seq (.seq (.ops false r45_2) (.cond (.t 23) (.seq (.ops false r45_3) .ret) .skip)) (.seq (.seq (.ops false r45_4) (.block 0 (.loop b45_0))) (.seq (.ops false r45_19) .ret)))))
def rs45 : List RS := [.cell 4 true 5, .t 5]
theorem c45 : chkF Try.prog Try.f45 2 p45 rs45 = true := by kernel_rfl
/- cuboid/cuboidref09.Same -/
/- cuboid/cell.Good -/
def r47_0 : List POp := [⟨some 3, .box 5 (.t 1), none⟩,⟨some 4, .mv (.k (.bool false)), none⟩]
def r47_1 : List POp := [⟨some 9, .mv (.t 0), none⟩,⟨some 10, .call false 94 [(.t 9)], none⟩,⟨some 11, .un .not (.t 10), none⟩,⟨some 12, .mv (.t 11), none⟩,⟨some 13, .fad 0 (.t 3), (some (12, false))⟩,⟨some 14, .load false 1 (.t 13) [], (some (12, false))⟩,⟨some 15, .bin .lss (.t 14) (.k (.int .i64 1)), (some (12, false))⟩,⟨some 16, .pick (.t 12) (.k (.bool true)) (.t 15), none⟩,⟨some 17, .mv (.t 16), none⟩,⟨some 18, .fad 0 (.t 3), (some (17, false))⟩,⟨some 19, .load false 1 (.t 18) [], (some (17, false))⟩,⟨some 20, .bin .gtr (.t 19) (.k (.int .i64 1099511627776)), (some (17, false))⟩,⟨some 21, .pick (.t 17) (.k (.bool true)) (.t 20), none⟩]
def r47_2 : List POp := [⟨some 4, .mv (.k (.bool false)), none⟩]
def r47_3 : List POp := [⟨some 22, .fad 3 (.t 3), none⟩,⟨some 23, .load true 2 (.t 22) [], none⟩,⟨some 24, .mv (.k (.int .i64 0)), none⟩]
def r47_4 : List POp := [⟨some 25, .bin .lss (.t 24) (.k (.int .i64 2)), none⟩]
def r47_5 : List POp := [⟨some 26, .mv (.t 24), none⟩,⟨some 27, .idA false 2 1 (.t 23) (.t 24), none⟩,⟨some 5, .mv (.t 26), none⟩,⟨some 6, .mv (.t 27), none⟩]
def r47_6 : List POp := [⟨some 28, .mv (.t 5), none⟩,⟨some 29, .mv (.t 0), none⟩,⟨some 30, .bin .geq (.t 28) (.t 29), none⟩]
def r47_7 : List POp := [⟨some 31, .mv (.t 5), none⟩,⟨some 32, .fad 1 (.t 3), none⟩,⟨some 33, .iaA 2 1 (.t 32) (.t 31), none⟩,⟨some 34, .load false 1 (.t 33) [], none⟩,⟨some 35, .bin .neq (.t 34) (.k (.int .i64 0)), none⟩,⟨some 36, .mv (.t 35), none⟩,⟨some 37, .mv (.t 6), (some (36, false))⟩,⟨some 38, .len (.t 37), (some (36, false))⟩,⟨some 39, .bin .gtr (.t 38) (.k (.int .i64 0)), (some (36, false))⟩,⟨some 40, .pick (.t 36) (.k (.bool true)) (.t 39), none⟩]
def r47_8 : List POp := [⟨some 4, .mv (.k (.bool false)), none⟩]
def r47_9 : List POp := [⟨some 42, .mv (.t 6), none⟩,⟨some 43, .call false 31 [(.t 42)], none⟩,⟨some 41, .mv (.t 43), none⟩,⟨some 44, .ext (.t 41) 0, none⟩,⟨some 45, .ext (.t 41) 1, none⟩,⟨some 7, .mv (.t 44), none⟩,⟨some 8, .mv (.t 45), none⟩]
def r47_10 : List POp := [⟨some 46, .mv (.t 8), none⟩,⟨some 47, .un .not (.t 46), none⟩,⟨some 48, .mv (.t 47), none⟩,⟨some 49, .mv (.t 7), (some (48, false))⟩,⟨some 50, .mv (.t 5), (some (48, false))⟩,⟨some 51, .fad 1 (.t 3), (some (48, false))⟩,⟨some 52, .iaA 2 1 (.t 51) (.t 50), (some (48, false))⟩,⟨some 53, .load false 1 (.t 52) [], (some (48, false))⟩,⟨some 54, .bin .neq (.t 49) (.t 53), (some (48, false))⟩,⟨some 55, .pick (.t 48) (.k (.bool true)) (.t 54), none⟩,⟨some 56, .mv (.t 55), none⟩,⟨some 57, .mv (.t 6), (some (56, false))⟩,⟨some 58, .call false 27 [(.t 57)], (some (56, false))⟩,⟨some 59, .fad 0 (.t 3), (some (56, false))⟩,⟨some 60, .load false 1 (.t 59) [], (some (56, false))⟩,⟨some 61, .bin .neq (.t 58) (.t 60), (some (56, false))⟩,⟨some 62, .pick (.t 56) (.k (.bool true)) (.t 61), none⟩]
def r47_11 : List POp := [⟨some 4, .mv (.k (.bool false)), none⟩]
def r47_12 : List POp := [⟨some 63, .bin .add (.t 24) (.k (.int .i64 1)), none⟩,⟨some 24, .mv (.t 63), none⟩]
def b47_0 : PCode := (.seq (.ops false r47_4) (.seq (.cond (.t 25) .skip (.exit 0)) (.seq (.block 1 (.seq (.ops false r47_5) (.seq (.seq (.ops false r47_6) (.cond (.t 30) (.seq (.seq (.ops false r47_7) (.cond (.t 40) (.seq (.ops false r47_8) .ret) .skip)) (.exit 1)) .skip)) (.seq (.ops false r47_9) (.seq (.ops true r47_10) (.cond (.t 62) (.seq (.ops false r47_11) .ret) .skip)))))) (.ops false r47_12))))
def r47_13 : List POp := [⟨some 4, .mv (.k (.bool true)), none⟩]
def p47 : PCode := (.seq (.ops false r47_0) (.seq (.seq (.ops false r47_1) (.cond (.t 21) (.seq (.ops false r47_2) .ret) .skip)) (.seq (.seq (.ops false r47_3) (.block 0 (.loop b47_0))) (.seq (.ops false r47_13) .ret))))
def rs47 : List RS := [.t 4]
theorem c47 : chkF Try.prog Try.f47 2 p47 rs47 = true := by kernel_rfl
/- cuboid/cuboidref09.Good -/
def r48_0 : List POp := [⟨some 3, .box 5 (.t 1), none⟩,⟨some 4, .mv (.k (.bool false)), none⟩]
def r48_1 : List POp := [⟨some 6, .mv (.t 0), none⟩,⟨some 7, .bin .lss (.t 6) (.k (.int .i64 1)), none⟩,⟨some 8, .mv (.t 7), none⟩,⟨some 9, .mv (.t 0), (some (8, false))⟩,⟨some 10, .bin .gtr (.t 9) (.k (.int .i64 2)), (some (8, false))⟩,⟨some 11, .pick (.t 8) (.k (.bool true)) (.t 10), none⟩,⟨some 12, .mv (.t 11), none⟩,⟨some 13, .fad 0 (.t 3), (some (12, false))⟩,⟨some 14, .load false 1 (.t 13) [], (some (12, false))⟩,⟨some 15, .bin .lss (.t 14) (.k (.int .i64 1)), (some (12, false))⟩,⟨some 16, .pick (.t 12) (.k (.bool true)) (.t 15), none⟩,⟨some 17, .mv (.t 16), none⟩,⟨some 18, .fad 0 (.t 3), (some (17, false))⟩,⟨some 19, .load false 1 (.t 18) [], (some (17, false))⟩,⟨some 20, .bin .gtr (.t 19) (.k (.int .i64 1099511627776)), (some (17, false))⟩,⟨some 21, .pick (.t 17) (.k (.bool true)) (.t 20), none⟩]
def r48_2 : List POp := [⟨some 4, .mv (.k (.bool false)), none⟩]
def r48_3 : List POp := [⟨some 5, .mv (.k (.int .i64 0)), none⟩]
def r48_4 : List POp := [⟨some 22, .mv (.t 5), none⟩,⟨some 23, .bin .lss (.t 22) (.k (.int .i64 2)), none⟩]
def r48_6 : List POp := [⟨some 26, .mv (.t 5), none⟩,⟨some 27, .mv (.t 0), none⟩,⟨some 28, .bin .geq (.t 26) (.t 27), none⟩]
def r48_7 : List POp := [⟨some 29, .mv (.t 5), none⟩,⟨some 30, .fad 1 (.t 3), none⟩,⟨some 31, .iaA 2 1 (.t 30) (.t 29), none⟩,⟨some 32, .load false 1 (.t 31) [], none⟩,⟨some 33, .bin .neq (.t 32) (.k (.int .i64 0)), none⟩,⟨some 34, .mv (.t 33), none⟩,⟨some 35, .mv (.t 5), (some (34, false))⟩,⟨some 36, .fad 3 (.t 3), (some (34, false))⟩,⟨some 37, .iaA 2 1 (.t 36) (.t 35), (some (34, false))⟩,⟨some 38, .load false 1 (.t 37) [], (some (34, false))⟩,⟨some 39, .len (.t 38), (some (34, false))⟩,⟨some 40, .bin .gtr (.t 39) (.k (.int .i64 0)), (some (34, false))⟩,⟨some 41, .pick (.t 34) (.k (.bool true)) (.t 40), none⟩]
def r48_8 : List POp := [⟨some 4, .mv (.k (.bool false)), none⟩]
def r48_9 : List POp := [⟨some 42, .mv (.t 5), none⟩,⟨some 43, .fad 3 (.t 3), none⟩,⟨some 44, .iaA 2 1 (.t 43) (.t 42), none⟩,⟨some 45, .load false 1 (.t 44) [], none⟩,⟨some 46, .call false 34 [(.t 45)], none⟩,⟨some 47, .un .not (.t 46), none⟩,⟨some 48, .mv (.t 47), none⟩,⟨some 49, .mv (.t 5), (some (48, false))⟩,⟨some 50, .fad 3 (.t 3), (some (48, false))⟩,⟨some 51, .iaA 2 1 (.t 50) (.t 49), (some (48, false))⟩,⟨some 52, .load false 1 (.t 51) [], (some (48, false))⟩,⟨some 53, .call false 35 [(.t 52)], (some (48, false))⟩,⟨some 54, .fad 0 (.t 3), (some (48, false))⟩,⟨some 55, .load false 1 (.t 54) [], (some (48, false))⟩,⟨some 56, .bin .neq (.t 53) (.t 55), (some (48, false))⟩,⟨some 57, .pick (.t 48) (.k (.bool true)) (.t 56), none⟩,⟨some 58, .mv (.t 57), none⟩,⟨some 59, .mv (.t 5), (some (58, false))⟩,⟨some 60, .fad 3 (.t 3), (some (58, false))⟩,⟨some 61, .iaA 2 1 (.t 60) (.t 59), (some (58, false))⟩,⟨some 62, .load false 1 (.t 61) [], (some (58, false))⟩,⟨some 63, .call false 92 [(.t 62)], (some (58, false))⟩,⟨some 64, .mv (.t 5), (some (58, false))⟩,⟨some 65, .fad 1 (.t 3), (some (58, false))⟩,⟨some 66, .iaA 2 1 (.t 65) (.t 64), (some (58, false))⟩,⟨some 67, .load false 1 (.t 66) [], (some (58, false))⟩,⟨some 68, .call false 95 [(.t 67)], (some (58, false))⟩,⟨some 69, .eqs true true [.b, .i, .i] (.t 63) (.t 68), (some (58, false))⟩,⟨some 70, .pick (.t 58) (.k (.bool true)) (.t 69), none⟩]
def r48_10 : List POp := [⟨some 4, .mv (.k (.bool false)), none⟩]
def r48_5 : List POp := [⟨some 24, .mv (.t 5), none⟩,⟨some 25, .bin .add (.t 24) (.k (.int .i64 1)), none⟩,⟨some 5, .mv (.t 25), none⟩]
def b48_0 : PCode := (.seq (.seq (.ops false r48_4) (.cond (.t 23) .skip (.exit 0))) (.seq (.block 1 (.seq (.ops false r48_6) (.cond (.t 28) (.seq (.ops false r48_7) (.cond (.t 41) (.seq (.ops false r48_8) .ret) .skip)) (.seq (.ops true r48_9) (.cond (.t 70) (.seq (.ops false r48_10) .ret) .skip))))) (.ops false r48_5)))
def r48_11 : List POp := [⟨some 4, .mv (.k (.bool true)), none⟩]
def p48 : PCode := (.seq (.ops false r48_0) (.seq (.seq (.ops false r48_1) (.cond (.t 21) (.seq (.ops false r48_2) .ret) .skip)) (.seq (.seq (.ops false r48_3) (.block 0 (.loop b48_0))) (.seq (.ops false r48_11) .ret))))
def rs48 : List RS := [.t 4]
theorem c48 : chkF Try.prog Try.f48 2 p48 rs48 = true := by kernel_rfl
/- cuboid/cell.Line -/
def r49_0 : List POp := [⟨some 4, .box 4 (.t 1), none⟩,⟨some 5, .box 5 (.t 2), none⟩,⟨some 6, .alloc [.int .u8 0, .int .u8 0, .int .u8 0, .int .u8 0, .int .i64 0, .int .i64 0, .int .i64 0, .int .i64 0, .int .i64 0, .int .i64 0, .int .i64 0], none⟩]
def r49_1 : List POp := [⟨some 9, .mv (.t 0), none⟩,⟨some 10, .load true 5 (.t 5) [], none⟩,⟨some 11, .call false 47 [(.t 9), (.t 10)], none⟩,⟨some 12, .un .not (.t 11), none⟩]
def r49_2 : List POp := [⟨some 13, .build [.int .u8 0, .int .u8 0, .int .u8 0, .int .u8 0, .int .i64 0, .int .i64 0, .int .i64 0, .int .i64 0, .int .i64 0, .int .i64 0, .int .i64 0] [], none⟩,⟨none, .store 11 (.t 6) (.t 13) [], none⟩]
def r49_3 : List POp := [⟨some 14, .load true 4 (.t 4) [], none⟩,⟨some 15, .fad 0 (.t 5), none⟩,⟨some 16, .load false 1 (.t 15) [], none⟩,⟨some 17, .build [.int .u8 0, .int .u8 0, .int .u8 0, .int .u8 0, .int .i64 0, .int .i64 0, .int .i64 0, .int .i64 0, .int .i64 0, .int .i64 0, .int .i64 0] [(0, 4, (.t 14)), (4, 1, (.t 16))], none⟩,⟨some 7, .alloc [.int .u8 0, .int .u8 0, .int .u8 0, .int .u8 0, .int .i64 0, .int .i64 0, .int .i64 0, .int .i64 0, .int .i64 0, .int .i64 0, .int .i64 0], none⟩,⟨none, .store 11 (.t 7) (.t 17) [], none⟩]
def r49_4 : List POp := [⟨some 18, .mv (.t 0), none⟩,⟨some 19, .mv (.k (.int .i64 0)), none⟩]
def r49_5 : List POp := [⟨some 20, .bin .lss (.t 19) (.t 18), none⟩]
def r49_6 : List POp := [⟨some 21, .mv (.t 19), none⟩,⟨some 8, .mv (.t 21), none⟩]
def r49_7 : List POp := [⟨some 22, .mv (.t 8), none⟩,⟨some 23, .mv (.t 8), none⟩,⟨some 24, .fad 1 (.t 5), none⟩,⟨some 25, .iaA 2 1 (.t 24) (.t 23), none⟩,⟨some 26, .load false 1 (.t 25) [], none⟩,⟨some 27, .fad 5 (.t 7), none⟩,⟨some 28, .iaA 2 1 (.t 27) (.t 22), none⟩,⟨none, .store 1 (.t 28) (.t 26) [], none⟩]
def r49_8 : List POp := [⟨some 30, .mv (.t 8), none⟩,⟨some 31, .mv (.t 8), none⟩,⟨some 32, .fad 3 (.t 5), none⟩,⟨some 33, .iaA 2 1 (.t 32) (.t 31), none⟩,⟨some 34, .load false 1 (.t 33) [], none⟩,⟨some 35, .call false 22 [(.t 34)], none⟩,⟨some 29, .mv (.t 35), none⟩,⟨some 36, .ext (.t 29) 0, none⟩,⟨some 37, .ext (.t 29) 1, none⟩,⟨some 38, .fad 7 (.t 7), none⟩,⟨some 39, .iaA 2 1 (.t 38) (.t 30), none⟩,⟨none, .store 1 (.t 39) (.t 36) [], none⟩]
def r49_9 : List POp := [⟨some 41, .mv (.t 8), none⟩,⟨some 42, .mv (.t 8), none⟩,⟨some 43, .fad 3 (.t 5), none⟩,⟨some 44, .iaA 2 1 (.t 43) (.t 42), none⟩,⟨some 45, .load false 1 (.t 44) [], none⟩,⟨some 46, .call false 23 [(.t 45)], none⟩,⟨some 40, .mv (.t 46), none⟩,⟨some 47, .ext (.t 40) 0, none⟩,⟨some 48, .ext (.t 40) 1, none⟩,⟨some 49, .fad 9 (.t 7), none⟩,⟨some 50, .iaA 2 1 (.t 49) (.t 41), none⟩,⟨none, .store 1 (.t 50) (.t 47) [], none⟩]
def r49_10 : List POp := [⟨some 51, .bin .add (.t 19) (.k (.int .i64 1)), none⟩,⟨some 19, .mv (.t 51), none⟩]
def b49_0 : PCode := (.seq (.ops false r49_5) (.seq (.cond (.t 20) .skip (.exit 0)) (.seq (.block 1 (.seq (.ops false r49_6) (.seq (.ops false r49_7) (.seq (.ops false r49_8) (.ops false r49_9))))) (.ops false r49_10))))
def r49_11 : List POp := [⟨some 52, .load true 11 (.t 7) [], none⟩,⟨none, .store 11 (.t 6) (.t 52) [], none⟩]
def p49 : PCode := (.seq (.ops false r49_0) (.seq (.seq (.ops false r49_1) (.cond (.t 12) (.seq (.ops false r49_2) .ret) .skip)) (.seq (.ops false r49_3) (.seq (.seq (.ops false r49_4) (.block 0 (.loop b49_0))) (.seq (.ops false r49_11) .ret)))))
def rs49 : List RS := [.cell 6 true 11]
theorem c49 : chkF Try.prog Try.f49 3 p49 rs49 = true := by kernel_rfl
/- cuboid/cuboidref09.Line -/
/- cuboid/cell.Join -/
def r51_0 : List POp := [⟨some 4, .box 5 (.t 1), none⟩,⟨some 5, .box 5 (.t 2), none⟩,⟨some 6, .alloc [.int .i64 0, .int .i64 0, .int .i64 0, .sl [], .sl []], none⟩,⟨some 7, .mv (.k (.bool false)), none⟩]
def r51_1 : List POp := [⟨some 14, .mv (.t 0), none⟩,⟨some 15, .load true 5 (.t 4) [], none⟩,⟨some 16, .call false 47 [(.t 14), (.t 15)], none⟩,⟨some 17, .un .not (.t 16), none⟩,⟨some 18, .mv (.t 17), none⟩,⟨some 19, .mv (.t 0), (some (18, false))⟩,⟨some 20, .load true 5 (.t 5) [], (some (18, false))⟩,⟨some 21, .call false 47 [(.t 19), (.t 20)], (some (18, false))⟩,⟨some 22, .un .not (.t 21), (some (18, false))⟩,⟨some 23, .pick (.t 18) (.k (.bool true)) (.t 22), none⟩,⟨some 24, .mv (.t 23), none⟩,⟨some 25, .fad 0 (.t 4), (some (24, false))⟩,⟨some 26, .load false 1 (.t 25) [], (some (24, false))⟩,⟨some 27, .fad 0 (.t 5), (some (24, false))⟩,⟨some 28, .load false 1 (.t 27) [], (some (24, false))⟩,⟨some 29, .bin .sub (.k (.int .i64 1099511627776)) (.t 28), (some (24, false))⟩,⟨some 30, .bin .gtr (.t 26) (.t 29), (some (24, false))⟩,⟨some 31, .pick (.t 24) (.k (.bool true)) (.t 30), none⟩]
def r51_2 : List POp := [⟨some 32, .build [.int .i64 0, .int .i64 0, .int .i64 0, .sl [], .sl []] [], none⟩,⟨none, .store 5 (.t 6) (.t 32) [], none⟩,⟨some 7, .mv (.k (.bool false)), none⟩]
def r51_3 : List POp := [⟨some 33, .fad 0 (.t 4), none⟩,⟨some 34, .load false 1 (.t 33) [], none⟩,⟨some 35, .fad 0 (.t 5), none⟩,⟨some 36, .load false 1 (.t 35) [], none⟩,⟨some 37, .bin .add (.t 34) (.t 36), none⟩,⟨some 38, .build [.int .i64 0, .int .i64 0, .int .i64 0, .sl [], .sl []] [(0, 1, (.t 37))], none⟩,⟨some 8, .alloc [.int .i64 0, .int .i64 0, .int .i64 0, .sl [], .sl []], none⟩,⟨none, .store 5 (.t 8) (.t 38) [], none⟩]
def r51_4 : List POp := [⟨some 39, .mv (.t 0), none⟩,⟨some 40, .mv (.k (.int .i64 0)), none⟩]
def r51_5 : List POp := [⟨some 41, .bin .lss (.t 40) (.t 39), none⟩]
def r51_6 : List POp := [⟨some 42, .mv (.t 40), none⟩,⟨some 9, .mv (.t 42), none⟩]
def r51_7 : List POp := [⟨some 44, .mv (.t 9), none⟩,⟨some 45, .fad 3 (.t 4), none⟩,⟨some 46, .iaA 2 1 (.t 45) (.t 44), none⟩,⟨some 47, .load false 1 (.t 46) [], none⟩,⟨some 48, .mv (.t 9), none⟩,⟨some 49, .fad 3 (.t 5), none⟩,⟨some 50, .iaA 2 1 (.t 49) (.t 48), none⟩,⟨some 51, .load false 1 (.t 50) [], none⟩,⟨some 52, .call false 25 [(.t 47), (.t 51)], none⟩,⟨some 43, .mv (.t 52), none⟩,⟨some 53, .ext (.t 43) 0, none⟩,⟨some 54, .ext (.t 43) 1, none⟩,⟨some 10, .mv (.t 53), none⟩,⟨some 11, .mv (.t 54), none⟩]
def r51_8 : List POp := [⟨some 56, .mv (.t 9), none⟩,⟨some 57, .fad 1 (.t 4), none⟩,⟨some 58, .iaA 2 1 (.t 57) (.t 56), none⟩,⟨some 59, .load false 1 (.t 58) [], none⟩,⟨some 60, .mv (.t 9), none⟩,⟨some 61, .fad 1 (.t 5), none⟩,⟨some 62, .iaA 2 1 (.t 61) (.t 60), none⟩,⟨some 63, .load false 1 (.t 62) [], none⟩,⟨some 64, .call false 96 [(.t 59), (.t 63)], none⟩,⟨some 55, .mv (.t 64), none⟩,⟨some 65, .ext (.t 55) 0, none⟩,⟨some 66, .ext (.t 55) 1, none⟩,⟨some 12, .mv (.t 65), none⟩,⟨some 13, .mv (.t 66), none⟩]
def r51_9 : List POp := [⟨some 67, .mv (.t 11), none⟩,⟨some 68, .un .not (.t 67), none⟩,⟨some 69, .mv (.t 68), none⟩,⟨some 70, .mv (.t 13), (some (69, false))⟩,⟨some 71, .un .not (.t 70), (some (69, false))⟩,⟨some 72, .pick (.t 69) (.k (.bool true)) (.t 71), none⟩]
def r51_10 : List POp := [⟨some 73, .build [.int .i64 0, .int .i64 0, .int .i64 0, .sl [], .sl []] [], none⟩,⟨none, .store 5 (.t 6) (.t 73) [], none⟩,⟨some 7, .mv (.k (.bool false)), none⟩]
def r51_11 : List POp := [⟨some 74, .mv (.t 9), none⟩,⟨some 75, .mv (.t 9), none⟩,⟨some 76, .mv (.t 10), none⟩,⟨some 77, .mv (.t 12), none⟩,⟨some 78, .fad 3 (.t 8), none⟩,⟨some 79, .iaA 2 1 (.t 78) (.t 74), none⟩,⟨none, .store 1 (.t 79) (.t 76) [], none⟩,⟨some 80, .fad 1 (.t 8), none⟩,⟨some 81, .iaA 2 1 (.t 80) (.t 75), none⟩,⟨none, .store 1 (.t 81) (.t 77) [], none⟩]
def r51_12 : List POp := [⟨some 82, .bin .add (.t 40) (.k (.int .i64 1)), none⟩,⟨some 40, .mv (.t 82), none⟩]
def b51_0 : PCode := (.seq (.ops false r51_5) (.seq (.cond (.t 41) .skip (.exit 0)) (.seq (.block 1 (.seq (.ops false r51_6) (.seq (.ops true r51_7) (.seq (.ops true r51_8) (.seq (.seq (.ops false r51_9) (.cond (.t 72) (.seq (.ops false r51_10) .ret) .skip)) (.ops false r51_11)))))) (.ops false r51_12))))
def r51_13 : List POp := [⟨some 83, .load true 5 (.t 8) [], none⟩,⟨none, .store 5 (.t 6) (.t 83) [], none⟩,⟨some 7, .mv (.k (.bool true)), none⟩]
def p51 : PCode := (.seq (.ops false r51_0) (.seq (.seq (.ops false r51_1) (.cond (.t 31) (.seq (.ops false r51_2) .ret) .skip)) (.seq (.ops false r51_3) (.seq (.seq (.ops false r51_4) (.block 0 (.loop b51_0))) (.seq (.ops false r51_13) .ret)))))
def rs51 : List RS := [.cell 6 true 5, .t 7]
theorem c51 : chkF Try.prog Try.f51 3 p51 rs51 = true := by kernel_rfl
/- cuboid/cuboidref09.Join -/
/- cuboid/cell.Same -/
def r53_0 : List POp := [⟨some 2, .box 5 (.t 0), none⟩,⟨some 3, .box 5 (.t 1), none⟩,⟨some 4, .mv (.k (.bool false)), none⟩]
def r53_1 : List POp := [⟨some 6, .fad 0 (.t 2), none⟩,⟨some 7, .load false 1 (.t 6) [], none⟩,⟨some 8, .fad 0 (.t 3), none⟩,⟨some 9, .load false 1 (.t 8) [], none⟩,⟨some 10, .bin .neq (.t 7) (.t 9), none⟩,⟨some 11, .mv (.t 10), none⟩,⟨some 12, .fad 1 (.t 2), (some (11, false))⟩,⟨some 13, .load true 2 (.t 12) [], (some (11, false))⟩,⟨some 14, .fad 1 (.t 3), (some (11, false))⟩,⟨some 15, .load true 2 (.t 14) [], (some (11, false))⟩,⟨some 16, .eqs true true [.i, .i] (.t 13) (.t 15), (some (11, false))⟩,⟨some 17, .pick (.t 11) (.k (.bool true)) (.t 16), none⟩]
def r53_2 : List POp := [⟨some 4, .mv (.k (.bool false)), none⟩]
def r53_3 : List POp := [⟨some 18, .mv (.k (.int .i64 0)), none⟩]
def r53_4 : List POp := [⟨some 19, .bin .lss (.t 18) (.k (.int .i64 2)), none⟩]
def r53_5 : List POp := [⟨some 20, .mv (.t 18), none⟩,⟨some 5, .mv (.t 20), none⟩]
def r53_6 : List POp := [⟨some 21, .mv (.t 5), none⟩,⟨some 22, .fad 3 (.t 2), none⟩,⟨some 23, .iaA 2 1 (.t 22) (.t 21), none⟩,⟨some 24, .load false 1 (.t 23) [], none⟩,⟨some 25, .mv (.t 5), none⟩,⟨some 26, .fad 3 (.t 3), none⟩,⟨some 27, .iaA 2 1 (.t 26) (.t 25), none⟩,⟨some 28, .load false 1 (.t 27) [], none⟩,⟨some 29, .call false 29 [(.t 24), (.t 28)], none⟩,⟨some 30, .un .not (.t 29), none⟩]
def r53_7 : List POp := [⟨some 4, .mv (.k (.bool false)), none⟩]
def r53_8 : List POp := [⟨some 31, .bin .add (.t 18) (.k (.int .i64 1)), none⟩,⟨some 18, .mv (.t 31), none⟩]
def b53_0 : PCode := (.seq (.ops false r53_4) (.seq (.cond (.t 19) .skip (.exit 0)) (.seq (.block 1 (.seq (.ops false r53_5) (.seq (.ops true r53_6) (.cond (.t 30) (.seq (.ops false r53_7) .ret) .skip)))) (.ops false r53_8))))
def r53_9 : List POp := [⟨some 4, .mv (.k (.bool true)), none⟩]
def p53 : PCode := (.seq (.ops false r53_0) (.seq (.seq (.ops false r53_1) (.cond (.t 17) (.seq (.ops false r53_2) .ret) .skip)) (.seq (.seq (.ops false r53_3) (.block 0 (.loop b53_0))) (.seq (.ops false r53_9) .ret))))
def rs53 : List RS := [.t 4]
theorem c53 : chkF Try.prog Try.f53 2 p53 rs53 = true := by kernel_rfl
/- cuboid/cuboidlaw09.many -/
def r54_0 : List POp := [⟨some 2, .mv (.k (.int .i64 0)), none⟩]
def r54_1 : List POp := [⟨some 3, .mv (.t 0), none⟩]
def r54_2 : List POp := [⟨some 2, .mv (.k (.int .i64 2)), none⟩]
def r54_3 : List POp := [⟨some 2, .mv (.k (.int .i64 1)), none⟩]
def p54 : PCode := (.seq (.ops false r54_0) (.seq (.seq (.ops false r54_1) (.cond (.t 3) (.seq (.ops false r54_2) .ret) .skip)) (.seq (.ops false r54_3) .ret)))
def rs54 : List RS := [.t 2]
theorem c54 : chkF Try.prog Try.f54 1 p54 rs54 = true := by kernel_rfl
/- cuboid/cell.Ahead -/
def r55_0 : List POp := [⟨some 6, .box 11 (.t 2), none⟩,⟨some 7, .box 11 (.t 3), none⟩,⟨some 8, .mv (.k (.int .i64 0)), none⟩]
def r55_1 : List POp := [⟨some 9, .mv (.t 0), none⟩,⟨some 10, .bin .eql (.t 9) (.k (.int .i64 1)), none⟩]
def r55_2 : List POp := [⟨some 11, .fad 4 (.t 7), none⟩,⟨some 12, .load false 1 (.t 11) [], none⟩,⟨some 13, .fad 4 (.t 6), none⟩,⟨some 14, .load false 1 (.t 13) [], none⟩,⟨some 15, .call false 97 [(.t 12), (.t 14)], none⟩,⟨some 8, .mv (.t 15), none⟩]
def r55_3 : List POp := [⟨some 16, .mv (.t 1), none⟩,⟨some 17, .bin .lss (.t 16) (.k (.int .i64 0)), none⟩,⟨some 18, .mv (.t 17), none⟩,⟨some 19, .mv (.t 1), (some (18, false))⟩,⟨some 20, .bin .geq (.t 19) (.k (.int .i64 2)), (some (18, false))⟩,⟨some 21, .pick (.t 18) (.k (.bool true)) (.t 20), none⟩]
def r55_4 : List POp := [⟨some 8, .mv (.k (.int .i64 0)), none⟩]
def r55_5 : List POp := [⟨some 22, .mv (.t 0), none⟩]
def r55_6 : List POp := [⟨some 24, .bin .eql (.t 22) (.k (.int .i64 2)), none⟩,⟨some 23, .mv (.t 24), none⟩]
def r55_7 : List POp := [⟨some 25, .mv (.t 1), none⟩,⟨some 26, .fad 5 (.t 7), none⟩,⟨some 27, .iaA 2 1 (.t 26) (.t 25), none⟩,⟨some 28, .load false 1 (.t 27) [], none⟩,⟨some 29, .mv (.t 1), none⟩,⟨some 30, .fad 5 (.t 6), none⟩,⟨some 31, .iaA 2 1 (.t 30) (.t 29), none⟩,⟨some 32, .load false 1 (.t 31) [], none⟩,⟨some 33, .call false 97 [(.t 28), (.t 32)], none⟩,⟨some 8, .mv (.t 33), none⟩]
def r55_8 : List POp := [⟨some 35, .bin .eql (.t 22) (.k (.int .i64 3)), none⟩,⟨some 34, .mv (.t 35), none⟩]
def r55_9 : List POp := [⟨some 36, .mv (.t 1), none⟩,⟨some 37, .fad 7 (.t 7), none⟩,⟨some 38, .iaA 2 1 (.t 37) (.t 36), none⟩,⟨some 39, .load false 1 (.t 38) [], none⟩,⟨some 40, .mv (.t 1), none⟩,⟨some 41, .fad 7 (.t 6), none⟩,⟨some 42, .iaA 2 1 (.t 41) (.t 40), none⟩,⟨some 43, .load false 1 (.t 42) [], none⟩,⟨some 44, .call false 97 [(.t 39), (.t 43)], none⟩,⟨some 8, .mv (.t 44), none⟩]
def r55_10 : List POp := [⟨some 46, .bin .eql (.t 22) (.k (.int .i64 4)), none⟩,⟨some 45, .mv (.t 46), none⟩]
def r55_11 : List POp := [⟨some 47, .mv (.t 1), none⟩,⟨some 48, .fad 9 (.t 7), none⟩,⟨some 49, .iaA 2 1 (.t 48) (.t 47), none⟩,⟨some 50, .load false 1 (.t 49) [], none⟩,⟨some 51, .mv (.t 1), none⟩,⟨some 52, .fad 9 (.t 6), none⟩,⟨some 53, .iaA 2 1 (.t 52) (.t 51), none⟩,⟨some 54, .load false 1 (.t 53) [], none⟩,⟨some 55, .call false 97 [(.t 50), (.t 54)], none⟩,⟨some 8, .mv (.t 55), none⟩]
def r55_12 : List POp := [⟨some 57, .bin .eql (.t 22) (.k (.int .i64 5)), none⟩,⟨some 56, .mv (.t 57), none⟩]
def r55_13 : List POp := [⟨some 58, .mv (.t 1), none⟩,⟨some 59, .fad 5 (.t 7), none⟩,⟨some 60, .iaA 2 1 (.t 59) (.t 58), none⟩,⟨some 61, .load false 1 (.t 60) [], none⟩,⟨some 62, .fad 4 (.t 6), none⟩,⟨some 63, .load false 1 (.t 62) [], none⟩,⟨some 64, .mm true (.t 63) [(.k (.int .i64 1))], none⟩,⟨some 65, .mv (.t 1), none⟩,⟨some 66, .fad 5 (.t 6), none⟩,⟨some 67, .iaA 2 1 (.t 66) (.t 65), none⟩,⟨some 68, .load false 1 (.t 67) [], none⟩,⟨some 69, .fad 4 (.t 7), none⟩,⟨some 70, .load false 1 (.t 69) [], none⟩,⟨some 71, .mm true (.t 70) [(.k (.int .i64 1))], none⟩,⟨some 72, .call false 98 [(.t 61), (.t 64), (.t 68), (.t 71)], none⟩,⟨some 8, .mv (.t 72), none⟩]
def r55_14 : List POp := [⟨some 8, .mv (.k (.int .i64 0)), none⟩]
def p55 : PCode := (.seq (.ops false r55_0) (.seq (.seq (.ops false r55_1) (.cond (.t 10) (.seq (.ops false r55_2) .ret) .skip)) (.seq (.seq (.ops false r55_3) (.cond (.t 21) (.seq (.ops false r55_4) .ret) .skip)) (.seq (.seq (.ops false r55_5) (.block 0 (.seq (.ops false r55_6) (.cond (.t 23) (.seq (.ops true r55_7) .ret) (.seq (.ops false r55_8) (.cond (.t 34) (.seq (.ops true r55_9) .ret) (.seq (.ops false r55_10) (.cond (.t 45) (.seq (.ops true r55_11) .ret) (.seq (.ops false r55_12) (.cond (.t 56) (.seq (.ops true r55_13) .ret) .skip)))))))))) (.seq (.ops false r55_14) .ret)))))
def rs55 : List RS := [.t 8]
theorem c55 : chkF Try.prog Try.f55 4 p55 rs55 = true := by kernel_rfl
/- cuboid/cuboidref09.Ahead -/
/- cuboid/cuboidref08.Lay -/
def r81_0 : List POp := [⟨some 6, .mv (.k (.sl [])), none⟩]
def r81_1 : List POp := [⟨some 7, .own0 2, none⟩]
def r81_2 : List POp := [⟨some 8, .mv (.k (.bool false)), none⟩]
def r81_3 : List POp := [⟨some 9, .mv (.k (.int .i64 0)), none⟩]
def r81_4 : List POp := [⟨some 11, .mv (.t 9), none⟩,⟨some 12, .mv (.t 0), none⟩,⟨some 13, .len (.t 12), none⟩,⟨some 14, .bin .lss (.t 11) (.t 13), none⟩]
def r81_6 : List POp := [⟨some 17, .mv (.t 0), none⟩,⟨some 18, .mv (.t 9), none⟩,⟨some 19, .iaS 2 (.t 17) (.t 18), none⟩,⟨some 20, .load true 2 (.t 19) [], none⟩,⟨some 10, .alloc [.int .i64 0, .int .i64 0], none⟩,⟨none, .store 2 (.t 10) (.t 20) [], none⟩]
def r81_7 : List POp := [⟨some 21, .mv (.t 8), none⟩,⟨some 22, .un .not (.t 21), none⟩,⟨some 23, .mv (.t 22), none⟩,⟨some 24, .fad 0 (.t 10), (some (23, true))⟩,⟨some 25, .load false 1 (.t 24) [], (some (23, true))⟩,⟨some 26, .mv (.t 1), (some (23, true))⟩,⟨some 27, .bin .geq (.t 25) (.t 26), (some (23, true))⟩,⟨some 28, .pick (.t 23) (.t 27) (.k (.bool false)), none⟩]
def r81_8 : List POp := [⟨some 8, .mv (.k (.bool true)), none⟩]
def r81_9 : List POp := [⟨some 29, .fad 0 (.t 10), none⟩,⟨some 30, .load false 1 (.t 29) [], none⟩,⟨some 31, .mv (.t 1), none⟩,⟨some 32, .bin .gtr (.t 30) (.t 31), none⟩]
def r81_10 : List POp := [⟨some 33, .mv (.t 7), none⟩,⟨some 34, .mv (.t 1), none⟩,⟨some 35, .mv (.t 2), none⟩,⟨some 36, .build [.int .i64 0, .int .i64 0] [(0, 1, (.t 34)), (1, 1, (.t 35))], none⟩,⟨some 37, .bsl 2 1 [.int .i64 0, .int .i64 0] [(0, (.t 36))] false, none⟩,⟨some 38, .app 2 (.t 33) (.t 37) true, none⟩,⟨some 7, .mv (.t 38), none⟩]
def r81_11 : List POp := [⟨some 39, .fad 1 (.t 10), none⟩,⟨some 40, .load false 1 (.t 39) [], none⟩,⟨some 41, .mv (.t 2), none⟩,⟨some 42, .bin .add (.t 40) (.t 41), none⟩,⟨some 43, .fad 1 (.t 10), none⟩,⟨none, .store 1 (.t 43) (.t 42) [], none⟩]
def r81_12 : List POp := [⟨some 44, .fad 1 (.t 10), none⟩,⟨some 45, .load false 1 (.t 44) [], none⟩,⟨some 46, .bin .neq (.t 45) (.k (.int .i64 0)), none⟩]
def r81_13 : List POp := [⟨some 47, .mv (.t 7), none⟩,⟨some 48, .load true 2 (.t 10) [], none⟩,⟨some 49, .bsl 2 1 [.int .i64 0, .int .i64 0] [(0, (.t 48))] false, none⟩,⟨some 50, .app 2 (.t 47) (.t 49) true, none⟩,⟨some 7, .mv (.t 50), none⟩]
def r81_5 : List POp := [⟨some 15, .mv (.t 9), none⟩,⟨some 16, .bin .add (.t 15) (.k (.int .i64 1)), none⟩,⟨some 9, .mv (.t 16), none⟩]
def b81_0 : PCode := (.seq (.seq (.ops false r81_4) (.cond (.t 14) .skip (.exit 0))) (.seq (.block 1 (.seq (.ops false r81_6) (.seq (.seq (.ops false r81_7) (.cond (.t 28) (.seq (.ops false r81_8) (.seq (.ops false r81_9) (.cond (.t 32) (.ops false r81_10) (.ops false r81_11)))) .skip)) (.seq (.ops false r81_12) (.cond (.t 46) (.ops false r81_13) .skip))))) (.rn 7 7 (.ops false r81_5))))
def r81_14 : List POp := [⟨some 51, .mv (.t 8), none⟩,⟨some 52, .un .not (.t 51), none⟩]
def r81_15 : List POp := [⟨some 53, .mv (.t 7), none⟩,⟨some 54, .mv (.t 1), none⟩,⟨some 55, .mv (.t 2), none⟩,⟨some 56, .build [.int .i64 0, .int .i64 0] [(0, 1, (.t 54)), (1, 1, (.t 55))], none⟩,⟨some 57, .bsl 2 1 [.int .i64 0, .int .i64 0] [(0, (.t 56))] false, none⟩,⟨some 58, .app 2 (.t 53) (.t 57) true, none⟩,⟨some 7, .mv (.t 58), none⟩]
def r81_16 : List POp := [⟨some 59, .mv (.t 7), none⟩,⟨some 6, .mv (.t 59), none⟩]
def p81 : PCode := (.seq (.ops false r81_0) (.seq (.ops false r81_1) (.seq (.ops false r81_2) (.seq (.seq (.ops false r81_3) (.block 0 (.loop b81_0))) (.seq (.seq (.ops false r81_14) (.cond (.t 52) (.ops false r81_15) .skip)) (.seq (.ops false r81_16) .ret))))))
def rs81 : List RS := [.t 6]
theorem c81 : chkF Try.prog Try.f81 3 p81 rs81 = true := by kernel_rfl
/- cuboid/bag.more -/
def r84_0 : List POp := [⟨some 6, .own0 2, none⟩]
def r84_1 : List POp := [⟨some 8, .mv (.t 0), none⟩,⟨some 9, .len (.t 8), none⟩,⟨some 10, .bin .sub (.t 9) (.k (.int .i64 1)), none⟩,⟨some 7, .mv (.t 10), none⟩]
def r84_2 : List POp := [⟨some 11, .mv (.t 7), none⟩,⟨some 12, .bin .geq (.t 11) (.k (.int .i64 0)), none⟩,⟨some 13, .mv (.t 12), none⟩,⟨some 14, .mv (.t 0), (some (13, true))⟩,⟨some 15, .mv (.t 7), (some (13, true))⟩,⟨some 16, .iaS 2 (.t 14) (.t 15), (some (13, true))⟩,⟨some 17, .fad 0 (.t 16), (some (13, true))⟩,⟨some 18, .load false 1 (.t 17) [], (some (13, true))⟩,⟨some 19, .mv (.t 1), (some (13, true))⟩,⟨some 20, .bin .eql (.t 18) (.t 19), (some (13, true))⟩,⟨some 21, .pick (.t 13) (.t 20) (.k (.bool false)), none⟩]
def r84_3 : List POp := [⟨some 22, .mv (.t 0), none⟩,⟨some 23, .mv (.t 7), none⟩,⟨some 24, .iaS 2 (.t 22) (.t 23), none⟩,⟨some 25, .fad 1 (.t 24), none⟩,⟨some 26, .load false 1 (.t 25) [], none⟩,⟨some 27, .mv (.t 2), none⟩,⟨some 28, .bin .add (.t 26) (.t 27), none⟩,⟨some 29, .iaS 2 (.t 22) (.t 23), none⟩,⟨some 30, .fad 1 (.t 29), none⟩,⟨none, .store 1 (.t 30) (.t 28) [], none⟩]
def r84_4 : List POp := [⟨some 31, .mv (.t 0), none⟩,⟨some 6, .mv (.t 31), none⟩]
def r84_5 : List POp := [⟨some 32, .mv (.t 0), none⟩,⟨some 33, .mv (.t 1), none⟩,⟨some 34, .mv (.t 2), none⟩,⟨some 35, .build [.int .i64 0, .int .i64 0] [(0, 1, (.t 33)), (1, 1, (.t 34))], none⟩,⟨some 36, .bsl 2 1 [.int .i64 0, .int .i64 0] [(0, (.t 35))] false, none⟩,⟨some 37, .app 2 (.t 32) (.t 36) true, none⟩,⟨some 6, .mv (.t 37), none⟩]
def p84 : PCode := (.seq (.ops false r84_0) (.seq (.seq (.ops false r84_1) (.seq (.ops false r84_2) (.cond (.t 21) (.seq (.ops false r84_3) (.seq (.ops false r84_4) .ret)) .skip))) (.seq (.ops false r84_5) .ret)))
def rs84 : List RS := [.t 6]
theorem c84 : chkF Try.prog Try.f84 3 p84 rs84 = true := by kernel_rfl
/- cuboid/bag.end -/
def r85_0 : List POp := [⟨some 4, .mv (.k (.int .i64 0)), none⟩,⟨some 5, .mv (.k (.bool false)), none⟩]
def r85_1 : List POp := [⟨some 6, .mv (.t 0), none⟩,⟨some 7, .call false 26 [(.t 6)], none⟩,⟨some 8, .un .not (.t 7), none⟩,⟨some 9, .mv (.t 8), none⟩,⟨some 10, .mv (.t 0), (some (9, false))⟩,⟨some 11, .len (.t 10), (some (9, false))⟩,⟨some 12, .bin .eql (.t 11) (.k (.int .i64 0)), (some (9, false))⟩,⟨some 13, .pick (.t 9) (.k (.bool true)) (.t 12), none⟩]
def r85_2 : List POp := [⟨some 4, .mv (.k (.int .i64 0)), none⟩,⟨some 5, .mv (.k (.bool false)), none⟩]
def r85_3 : List POp := [⟨some 14, .mv (.t 1), none⟩]
def r85_4 : List POp := [⟨some 15, .mv (.t 0), none⟩,⟨some 16, .mv (.t 0), none⟩,⟨some 17, .len (.t 16), none⟩,⟨some 18, .bin .sub (.t 17) (.k (.int .i64 1)), none⟩,⟨some 19, .iaS 2 (.t 15) (.t 18), none⟩,⟨some 20, .fad 0 (.t 19), none⟩,⟨some 21, .load false 1 (.t 20) [], none⟩,⟨some 4, .mv (.t 21), none⟩,⟨some 5, .mv (.k (.bool true)), none⟩]
def r85_5 : List POp := [⟨some 22, .mv (.t 0), none⟩,⟨some 23, .iaS 2 (.t 22) (.k (.int .i64 0)), none⟩,⟨some 24, .fad 0 (.t 23), none⟩,⟨some 25, .load false 1 (.t 24) [], none⟩,⟨some 4, .mv (.t 25), none⟩,⟨some 5, .mv (.k (.bool true)), none⟩]
def p85 : PCode := (.seq (.ops false r85_0) (.seq (.seq (.ops false r85_1) (.cond (.t 13) (.seq (.ops false r85_2) .ret) .skip)) (.seq (.seq (.ops false r85_3) (.cond (.t 14) (.seq (.ops false r85_4) .ret) .skip)) (.seq (.ops false r85_5) .ret))))
def rs85 : List RS := [.t 4, .t 5]
theorem c85 : chkF Try.prog Try.f85 2 p85 rs85 = true := by kernel_rfl
/- cuboid/bag.count -/
def r86_0 : List POp := [⟨some 2, .mv (.k (.int .i64 0)), none⟩]
def r86_1 : List POp := [⟨some 3, .mv (.k (.int .i64 0)), none⟩]
def r86_2 : List POp := [⟨some 6, .mv (.t 0), none⟩,⟨some 7, .len (.t 6), none⟩,⟨some 8, .mv (.k (.int .i64 0)), none⟩]
def r86_3 : List POp := [⟨some 9, .bin .lss (.t 8) (.t 7), none⟩]
def r86_4 : List POp := [⟨some 10, .iaS 2 (.t 6) (.t 8), none⟩,⟨some 11, .load true 2 (.t 10) [], none⟩,⟨some 5, .alloc [.int .i64 0, .int .i64 0], none⟩,⟨none, .store 2 (.t 5) (.t 11) [], none⟩]
def r86_5 : List POp := [⟨some 12, .mv (.t 3), none⟩,⟨some 13, .fad 1 (.t 5), none⟩,⟨some 14, .load false 1 (.t 13) [], none⟩,⟨some 15, .bin .add (.t 12) (.t 14), none⟩,⟨some 3, .mv (.t 15), none⟩]
def r86_6 : List POp := [⟨some 16, .bin .add (.t 8) (.k (.int .i64 1)), none⟩,⟨some 8, .mv (.t 16), none⟩]
def b86_0 : PCode := (.seq (.ops false r86_3) (.seq (.cond (.t 9) .skip (.exit 0)) (.seq (.block 1 (.seq (.ops false r86_4) (.ops false r86_5))) (.ops false r86_6))))
def r86_7 : List POp := [⟨some 17, .mv (.t 3), none⟩,⟨some 2, .mv (.t 17), none⟩]
def p86 : PCode := (.seq (.ops false r86_0) (.seq (.ops false r86_1) (.seq (.seq (.ops false r86_2) (.block 0 (.loop b86_0))) (.seq (.ops false r86_7) .ret))))
def rs86 : List RS := [.t 2]
theorem c86 : chkF Try.prog Try.f86 1 p86 rs86 = true := by kernel_rfl
/- slices.Equal[[]cuboid/api.Run,cuboid/api.Run] -/
def r87_0 : List POp := [⟨some 4, .mv (.k (.bool false)), none⟩]
def r87_1 : List POp := [⟨some 6, .mv (.t 0), none⟩,⟨some 7, .len (.t 6), none⟩,⟨some 8, .mv (.t 1), none⟩,⟨some 9, .len (.t 8), none⟩,⟨some 10, .bin .neq (.t 7) (.t 9), none⟩]
def r87_2 : List POp := [⟨some 4, .mv (.k (.bool false)), none⟩]
def r87_3 : List POp := [⟨some 11, .mv (.t 0), none⟩,⟨some 12, .len (.t 11), none⟩,⟨some 13, .mv (.k (.int .i64 0)), none⟩]
def r87_4 : List POp := [⟨some 14, .bin .lss (.t 13) (.t 12), none⟩]
def r87_5 : List POp := [⟨some 15, .mv (.t 13), none⟩,⟨some 5, .mv (.t 15), none⟩]
def r87_6 : List POp := [⟨some 16, .mv (.t 0), none⟩,⟨some 17, .mv (.t 5), none⟩,⟨some 18, .iaS 2 (.t 16) (.t 17), none⟩,⟨some 19, .load true 2 (.t 18) [], none⟩,⟨some 20, .mv (.t 1), none⟩,⟨some 21, .mv (.t 5), none⟩,⟨some 22, .iaS 2 (.t 20) (.t 21), none⟩,⟨some 23, .load true 2 (.t 22) [], none⟩,⟨some 24, .eqs true true [.i, .i] (.t 19) (.t 23), none⟩]
def r87_7 : List POp := [⟨some 4, .mv (.k (.bool false)), none⟩]
def r87_8 : List POp := [⟨some 25, .bin .add (.t 13) (.k (.int .i64 1)), none⟩,⟨some 13, .mv (.t 25), none⟩]
def b87_0 : PCode := (.seq (.ops false r87_4) (.seq (.cond (.t 14) .skip (.exit 0)) (.seq (.block 1 (.seq (.ops false r87_5) (.seq (.ops true r87_6) (.cond (.t 24) (.seq (.ops false r87_7) .ret) .skip)))) (.ops false r87_8))))
def r87_9 : List POp := [⟨some 4, .mv (.k (.bool true)), none⟩]
def p87 : PCode := (.seq (.ops false r87_0) (.seq (.seq (.ops false r87_1) (.cond (.t 10) (.seq (.ops false r87_2) .ret) .skip)) (.seq (.seq (.ops false r87_3) (.block 0 (.loop b87_0))) (.seq (.ops false r87_9) .ret))))
def rs87 : List RS := [.t 4]
theorem c87 : chkF Try.prog Try.f87 2 p87 rs87 = true := by kernel_rfl
/- cuboid/bag.Part -/
def r88_0 : List POp := [⟨some 4, .alloc [.int .i64 0, .int .u64 0], none⟩]
def r88_1 : List POp := [⟨some 5, .alloc [.int .i64 0, .int .u64 0], none⟩]
def r88_2 : List POp := [⟨some 10, .mv (.t 0), none⟩,⟨some 11, .len (.t 10), none⟩,⟨some 12, .mv (.k (.int .i64 0)), none⟩]
def r88_3 : List POp := [⟨some 13, .bin .lss (.t 12) (.t 11), none⟩]
def r88_4 : List POp := [⟨some 14, .iaS 2 (.t 10) (.t 12), none⟩,⟨some 15, .load true 2 (.t 14) [], none⟩,⟨some 7, .alloc [.int .i64 0, .int .i64 0], none⟩,⟨none, .store 2 (.t 7) (.t 15) [], none⟩]
def r88_5 : List POp := [⟨some 16, .load true 2 (.t 5) [], none⟩,⟨some 17, .fad 0 (.t 7), none⟩,⟨some 18, .load false 1 (.t 17) [], none⟩,⟨some 19, .fad 1 (.t 7), none⟩,⟨some 20, .load false 1 (.t 19) [], none⟩,⟨some 21, .call false 90 [(.t 16), (.t 18), (.t 20)], none⟩,⟨none, .store 2 (.t 5) (.t 21) [], none⟩]
def r88_6 : List POp := [⟨some 22, .bin .add (.t 12) (.k (.int .i64 1)), none⟩,⟨some 12, .mv (.t 22), none⟩]
def b88_0 : PCode := (.seq (.ops false r88_3) (.seq (.cond (.t 13) .skip (.exit 0)) (.seq (.block 1 (.seq (.ops false r88_4) (.ops false r88_5))) (.ops false r88_6))))
def r88_7 : List POp := [⟨some 23, .mv (.t 1), none⟩,⟨some 24, .len (.t 23), none⟩,⟨some 25, .mv (.k (.int .i64 0)), none⟩]
def r88_8 : List POp := [⟨some 26, .bin .lss (.t 25) (.t 24), none⟩]
def r88_9 : List POp := [⟨some 27, .iaS 2 (.t 23) (.t 25), none⟩,⟨some 28, .load true 2 (.t 27) [], none⟩,⟨some 9, .alloc [.int .i64 0, .int .i64 0], none⟩,⟨none, .store 2 (.t 9) (.t 28) [], none⟩]
def r88_10 : List POp := [⟨some 29, .load true 2 (.t 5) [], none⟩,⟨some 30, .fad 0 (.t 9), none⟩,⟨some 31, .load false 1 (.t 30) [], none⟩,⟨some 32, .fad 1 (.t 9), none⟩,⟨some 33, .load false 1 (.t 32) [], none⟩,⟨some 34, .un .neg (.t 33), none⟩,⟨some 35, .call false 90 [(.t 29), (.t 31), (.t 34)], none⟩,⟨none, .store 2 (.t 5) (.t 35) [], none⟩]
def r88_11 : List POp := [⟨some 36, .bin .add (.t 25) (.k (.int .i64 1)), none⟩,⟨some 25, .mv (.t 36), none⟩]
def b88_1 : PCode := (.seq (.ops false r88_8) (.seq (.cond (.t 26) .skip (.exit 2)) (.seq (.block 3 (.seq (.ops false r88_9) (.ops false r88_10))) (.ops false r88_11))))
def r88_12 : List POp := [⟨some 37, .load true 2 (.t 5) [], none⟩,⟨none, .store 2 (.t 4) (.t 37) [], none⟩]
def p88 : PCode := (.seq (.ops false r88_0) (.seq (.ops false r88_1) (.seq (.seq (.ops false r88_2) (.block 0 (.loop b88_0))) (.seq (.seq (.ops false r88_7) (.block 2 (.loop b88_1))) (.seq (.ops false r88_12) .ret)))))
def rs88 : List RS := [.cell 4 true 2]
theorem c88 : chkF Try.prog Try.f88 2 p88 rs88 = true := by kernel_rfl
/- (cuboid/calc.Wide).Int -/
def r89_0 : List POp := [⟨some 1, .box 2 (.t 0), none⟩,⟨some 2, .mv (.k (.int .i64 0)), none⟩,⟨some 3, .mv (.k (.bool false)), none⟩]
def r89_1 : List POp := [⟨some 5, .fad 1 (.t 1), none⟩,⟨some 6, .load false 1 (.t 5) [], none⟩,⟨some 7, .conv .i64 (.t 6), none⟩,⟨some 4, .mv (.t 7), none⟩]
def r89_2 : List POp := [⟨some 8, .fad 0 (.t 1), none⟩,⟨some 9, .load false 1 (.t 8) [], none⟩,⟨some 10, .mv (.t 4), none⟩,⟨some 11, .bin .shr (.t 10) (.k (.int .u64 63)), none⟩,⟨some 12, .bin .neq (.t 9) (.t 11), none⟩]
def r89_3 : List POp := [⟨some 2, .mv (.k (.int .i64 0)), none⟩,⟨some 3, .mv (.k (.bool false)), none⟩]
def r89_4 : List POp := [⟨some 13, .mv (.t 4), none⟩,⟨some 2, .mv (.t 13), none⟩,⟨some 3, .mv (.k (.bool true)), none⟩]
def p89 : PCode := (.seq (.ops false r89_0) (.seq (.ops false r89_1) (.seq (.seq (.ops false r89_2) (.cond (.t 12) (.seq (.ops false r89_3) .ret) .skip)) (.seq (.ops false r89_4) .ret))))
def rs89 : List RS := [.t 2, .t 3]
theorem c89 : chkF Try.prog Try.f89 1 p89 rs89 = true := by kernel_rfl
/- (cuboid/calc.Wide).Plus -/
def r90_0 : List POp := [⟨some 3, .box 2 (.t 0), none⟩,⟨some 6, .alloc [.int .i64 0, .int .u64 0], none⟩]
def r90_1 : List POp := [⟨some 12, .mv (.t 1), none⟩,⟨some 13, .call false 119 [(.t 12)], none⟩,⟨some 14, .mv (.t 2), none⟩,⟨some 15, .call false 119 [(.t 14)], none⟩,⟨some 16, .call false 118 [(.t 13), (.t 15)], none⟩,⟨some 11, .mv (.t 16), none⟩,⟨some 17, .ext (.t 11) 0, none⟩,⟨some 18, .ext (.t 11) 1, none⟩,⟨some 7, .mv (.t 17), none⟩,⟨some 8, .mv (.t 18), none⟩]
def r90_2 : List POp := [⟨some 19, .mv (.t 1), none⟩,⟨some 20, .bin .lss (.t 19) (.k (.int .i64 0)), none⟩,⟨some 21, .mv (.t 2), none⟩,⟨some 22, .bin .lss (.t 21) (.k (.int .i64 0)), none⟩,⟨some 23, .eqs true false [.b] (.t 20) (.t 22), none⟩]
def r90_3 : List POp := [⟨some 9, .mv (.k (.int .u64 0)), none⟩]
def r90_4 : List POp := [⟨some 25, .mv (.t 8), none⟩,⟨some 26, .xf .sbc [(.k (.int .u64 0)), (.t 25), (.k (.int .u64 0))], none⟩,⟨some 24, .mv (.t 26), none⟩,⟨some 27, .ext (.t 24) 0, none⟩,⟨some 28, .ext (.t 24) 1, none⟩,⟨some 8, .mv (.t 27), none⟩,⟨some 9, .mv (.t 28), none⟩]
def r90_5 : List POp := [⟨some 30, .mv (.t 7), none⟩,⟨some 31, .mv (.t 9), none⟩,⟨some 32, .xf .sbc [(.k (.int .u64 0)), (.t 30), (.t 31)], none⟩,⟨some 29, .mv (.t 32), none⟩,⟨some 33, .ext (.t 29) 0, none⟩,⟨some 34, .ext (.t 29) 1, none⟩,⟨some 7, .mv (.t 33), none⟩]
def r90_6 : List POp := [⟨some 36, .fad 1 (.t 3), none⟩,⟨some 37, .load false 1 (.t 36) [], none⟩,⟨some 38, .mv (.t 8), none⟩,⟨some 39, .xf .adc [(.t 37), (.t 38), (.k (.int .u64 0))], none⟩,⟨some 35, .mv (.t 39), none⟩,⟨some 40, .ext (.t 35) 0, none⟩,⟨some 41, .ext (.t 35) 1, none⟩,⟨some 8, .mv (.t 40), none⟩,⟨some 10, .mv (.t 41), none⟩]
def r90_7 : List POp := [⟨some 43, .fad 0 (.t 3), none⟩,⟨some 44, .load false 1 (.t 43) [], none⟩,⟨some 45, .conv .u64 (.t 44), none⟩,⟨some 46, .mv (.t 7), none⟩,⟨some 47, .mv (.t 10), none⟩,⟨some 48, .xf .adc [(.t 45), (.t 46), (.t 47)], none⟩,⟨some 42, .mv (.t 48), none⟩,⟨some 49, .ext (.t 42) 0, none⟩,⟨some 50, .ext (.t 42) 1, none⟩,⟨some 7, .mv (.t 49), none⟩]
def r90_8 : List POp := [⟨some 51, .mv (.t 7), none⟩,⟨some 52, .conv .i64 (.t 51), none⟩,⟨some 53, .mv (.t 8), none⟩,⟨some 54, .build [.int .i64 0, .int .u64 0] [(0, 1, (.t 52)), (1, 1, (.t 53))], none⟩,⟨none, .store 2 (.t 6) (.t 54) [], none⟩]
def p90 : PCode := (.seq (.ops false r90_0) (.seq (.ops false r90_1) (.seq (.seq (.ops false r90_2) (.cond (.t 23) (.seq (.ops false r90_3) (.seq (.ops false r90_4) (.ops false r90_5))) .skip)) (.seq (.ops false r90_6) (.seq (.ops false r90_7) (.seq (.ops false r90_8) .ret))))))
def rs90 : List RS := [.cell 6 true 2]
theorem c90 : chkF Try.prog Try.f90 3 p90 rs90 = true := by kernel_rfl
/- cuboid/cuboidref01.Back -/
def r91_0 : List POp := [⟨some 1, .box 3 (.t 0), none⟩,⟨some 2, .mv (.k (.int .i64 0)), none⟩,⟨some 3, .mv (.k (.bool false)), none⟩]
def r91_1 : List POp := [⟨some 5, .fad 1 (.t 1), none⟩,⟨some 6, .load false 1 (.t 5) [], none⟩,⟨some 7, .bin .neq (.t 6) (.k (.int .u64 0)), none⟩,⟨some 8, .mv (.t 7), none⟩,⟨some 9, .fad 2 (.t 1), (some (8, false))⟩,⟨some 10, .load false 1 (.t 9) [], (some (8, false))⟩,⟨some 11, .bin .gtr (.t 10) (.k (.int .u64 9223372036854775808)), (some (8, false))⟩,⟨some 12, .pick (.t 8) (.k (.bool true)) (.t 11), none⟩,⟨some 13, .mv (.t 12), none⟩,⟨some 14, .fad 2 (.t 1), (some (13, false))⟩,⟨some 15, .load false 1 (.t 14) [], (some (13, false))⟩,⟨some 16, .bin .eql (.t 15) (.k (.int .u64 9223372036854775808)), (some (13, false))⟩,⟨some 17, .mv (.t 16), (some (13, false))⟩,⟨some 18, .fad 0 (.t 1), (some (17, true))⟩,⟨some 19, .load false 1 (.t 18) [], (some (17, true))⟩,⟨some 20, .un .not (.t 19), (some (17, true))⟩,⟨some 21, .pick (.t 17) (.t 20) (.k (.bool false)), (some (13, false))⟩,⟨some 22, .pick (.t 13) (.k (.bool true)) (.t 21), none⟩,⟨some 4, .mv (.t 22), none⟩]
def r91_2 : List POp := [⟨some 2, .mv (.k (.int .i64 0)), none⟩,⟨some 3, .mv (.k (.bool false)), none⟩]
def r91_3 : List POp := [⟨some 24, .fad 2 (.t 1), none⟩,⟨some 25, .load false 1 (.t 24) [], none⟩,⟨some 26, .bin .eql (.t 25) (.k (.int .u64 9223372036854775808)), none⟩,⟨some 23, .mv (.t 26), none⟩]
def r91_4 : List POp := [⟨some 2, .mv (.k (.int .i64 (-9223372036854775808))), none⟩,⟨some 3, .mv (.k (.bool true)), none⟩]
def r91_5 : List POp := [⟨some 28, .fad 0 (.t 1), none⟩,⟨some 29, .load false 1 (.t 28) [], none⟩,⟨some 27, .mv (.t 29), none⟩]
def r91_6 : List POp := [⟨some 30, .fad 2 (.t 1), none⟩,⟨some 31, .load false 1 (.t 30) [], none⟩,⟨some 32, .conv .i64 (.t 31), none⟩,⟨some 33, .un .neg (.t 32), none⟩,⟨some 2, .mv (.t 33), none⟩,⟨some 3, .mv (.k (.bool true)), none⟩]
def r91_7 : List POp := [⟨some 34, .fad 2 (.t 1), none⟩,⟨some 35, .load false 1 (.t 34) [], none⟩,⟨some 36, .conv .i64 (.t 35), none⟩,⟨some 2, .mv (.t 36), none⟩,⟨some 3, .mv (.k (.bool true)), none⟩]
def p91 : PCode := (.seq (.ops false r91_0) (.seq (.block 0 (.seq (.ops false r91_1) (.cond (.t 4) (.seq (.ops false r91_2) .ret) (.seq (.ops false r91_3) (.cond (.t 23) (.seq (.ops false r91_4) .ret) (.seq (.ops false r91_5) (.cond (.t 27) (.seq (.ops false r91_6) .ret) .skip))))))) (.seq (.ops false r91_7) .ret)))
def rs91 : List RS := [.t 2, .t 3]
theorem c91 : chkF Try.prog Try.f91 1 p91 rs91 = true := by kernel_rfl
/- cuboid/cuboidref08.Wide -/
def r92_0 : List POp := [⟨some 2, .alloc [.bool false, .int .u64 0, .int .u64 0], none⟩]
def r92_1 : List POp := [⟨some 3, .alloc [.bool false, .int .u64 0, .int .u64 0], none⟩]
def r92_2 : List POp := [⟨some 4, .mv (.k (.int .i64 0)), none⟩]
def r92_3 : List POp := [⟨some 5, .mv (.t 4), none⟩,⟨some 6, .mv (.t 0), none⟩,⟨some 7, .len (.t 6), none⟩,⟨some 8, .bin .lss (.t 5) (.t 7), none⟩]
def r92_5 : List POp := [⟨some 11, .load true 3 (.t 3) [], none⟩,⟨some 12, .mv (.t 0), none⟩,⟨some 13, .mv (.t 4), none⟩,⟨some 14, .iaS 2 (.t 12) (.t 13), none⟩,⟨some 15, .fad 0 (.t 14), none⟩,⟨some 16, .load false 1 (.t 15) [], none⟩,⟨some 17, .mv (.t 0), none⟩,⟨some 18, .mv (.t 4), none⟩,⟨some 19, .iaS 2 (.t 17) (.t 18), none⟩,⟨some 20, .fad 1 (.t 19), none⟩,⟨some 21, .load false 1 (.t 20) [], none⟩,⟨some 22, .call false 100 [(.t 16), (.t 21)], none⟩,⟨some 23, .call false 122 [(.t 11), (.t 22)], none⟩,⟨none, .store 3 (.t 3) (.t 23) [], none⟩]
def r92_4 : List POp := [⟨some 9, .mv (.t 4), none⟩,⟨some 10, .bin .add (.t 9) (.k (.int .i64 1)), none⟩,⟨some 4, .mv (.t 10), none⟩]
def b92_0 : PCode := (.seq (.seq (.ops false r92_3) (.cond (.t 8) .skip (.exit 0))) (.seq (.block 1 (.ops true r92_5)) (.ops false r92_4)))
def r92_6 : List POp := [⟨some 24, .load true 3 (.t 3) [], none⟩,⟨none, .store 3 (.t 2) (.t 24) [], none⟩]
def p92 : PCode := (.seq (.ops false r92_0) (.seq (.ops false r92_1) (.seq (.seq (.ops false r92_2) (.block 0 (.loop b92_0))) (.seq (.ops false r92_6) .ret))))
def rs92 : List RS := [.cell 2 true 3]
theorem c92 : chkF Try.prog Try.f92 1 p92 rs92 = true := by kernel_rfl
/- cuboid/cuboidref09.made -/
def r93_0 : List POp := [⟨some 5, .box 2 (.t 2), none⟩,⟨some 6, .alloc [.int .i64 0, .int .i64 0, .int .i64 0, .sl [], .sl [], .bool false], none⟩]
def r93_1 : List POp := [⟨some 11, .mv (.t 1), none⟩,⟨some 12, .load true 2 (.t 5) [], none⟩,⟨some 13, .build [.int .i64 0, .int .i64 0, .int .i64 0, .sl [], .sl []] [(0, 1, (.t 11)), (3, 2, (.t 12))], none⟩,⟨some 7, .alloc [.int .i64 0, .int .i64 0, .int .i64 0, .sl [], .sl []], none⟩,⟨none, .store 5 (.t 7) (.t 13) [], none⟩]
def r93_2 : List POp := [⟨some 8, .mv (.k (.int .i64 0)), none⟩]
def r93_3 : List POp := [⟨some 14, .mv (.t 8), none⟩,⟨some 15, .mv (.t 0), none⟩,⟨some 16, .bin .lss (.t 14) (.t 15), none⟩]
def r93_5 : List POp := [⟨some 20, .mv (.t 8), none⟩,⟨some 21, .iaA 2 1 (.t 5) (.t 20), none⟩,⟨some 22, .load false 1 (.t 21) [], none⟩,⟨some 23, .call false 92 [(.t 22)], none⟩,⟨some 24, .call false 91 [(.t 23)], none⟩,⟨some 19, .mv (.t 24), none⟩,⟨some 25, .ext (.t 19) 0, none⟩,⟨some 26, .ext (.t 19) 1, none⟩,⟨some 9, .mv (.t 25), none⟩,⟨some 10, .mv (.t 26), none⟩]
def r93_6 : List POp := [⟨some 27, .mv (.t 10), none⟩,⟨some 28, .un .not (.t 27), none⟩]
def r93_7 : List POp := [⟨some 29, .build [.int .i64 0, .int .i64 0, .int .i64 0, .sl [], .sl [], .bool false] [], none⟩,⟨none, .store 6 (.t 6) (.t 29) [], none⟩]
def r93_8 : List POp := [⟨some 30, .mv (.t 8), none⟩,⟨some 31, .mv (.t 9), none⟩,⟨some 32, .fad 1 (.t 7), none⟩,⟨some 33, .iaA 2 1 (.t 32) (.t 30), none⟩,⟨none, .store 1 (.t 33) (.t 31) [], none⟩]
def r93_4 : List POp := [⟨some 17, .mv (.t 8), none⟩,⟨some 18, .bin .add (.t 17) (.k (.int .i64 1)), none⟩,⟨some 8, .mv (.t 18), none⟩]
def b93_0 : PCode := (.seq (.seq (.ops false r93_3) (.cond (.t 16) .skip (.exit 0))) (.seq (.block 1 (.seq (.ops false r93_5) (.seq (.seq (.ops false r93_6) (.cond (.t 28) (.seq (.ops false r93_7) .ret) .skip)) (.ops false r93_8)))) (.ops false r93_4)))
def r93_9 : List POp := [⟨some 34, .mv (.t 0), none⟩,⟨some 35, .load true 5 (.t 7) [], none⟩,⟨some 36, .call false 48 [(.t 34), (.t 35)], none⟩,⟨some 37, .un .not (.t 36), none⟩]
def r93_10 : List POp := [⟨some 38, .build [.int .i64 0, .int .i64 0, .int .i64 0, .sl [], .sl [], .bool false] [], none⟩,⟨none, .store 6 (.t 6) (.t 38) [], none⟩]
def r93_11 : List POp := [⟨some 39, .load true 5 (.t 7) [], none⟩,⟨some 40, .build [.int .i64 0, .int .i64 0, .int .i64 0, .sl [], .sl [], .bool false] [(0, 5, (.t 39)), (5, 1, (.k (.bool true)))], none⟩,⟨none, .store 6 (.t 6) (.t 40) [], none⟩]
def p93 : PCode := (.seq (.ops false r93_0) (.seq (.ops false r93_1) (.seq (.seq (.ops false r93_2) (.block 0 (.loop b93_0))) (.seq (.seq (.ops false r93_9) (.cond (.t 37) (.seq (.ops false r93_10) .ret) .skip)) (.seq (.ops false r93_11) .ret)))))
def rs93 : List RS := [.cell 6 true 6]
theorem c93 : chkF Try.prog Try.f93 3 p93 rs93 = true := by kernel_rfl
/- cuboid/cell.measures -/
def r94_0 : List POp := [⟨some 2, .mv (.k (.bool false)), none⟩]
def r94_1 : List POp := [⟨some 3, .mv (.t 0), none⟩,⟨some 4, .bin .geq (.t 3) (.k (.int .i64 1)), none⟩,⟨some 5, .mv (.t 4), none⟩,⟨some 6, .mv (.t 0), (some (5, true))⟩,⟨some 7, .bin .leq (.t 6) (.k (.int .i64 2)), (some (5, true))⟩,⟨some 8, .pick (.t 5) (.t 7) (.k (.bool false)), none⟩,⟨some 2, .mv (.t 8), none⟩]
def p94 : PCode := (.seq (.ops false r94_0) (.seq (.ops false r94_1) .ret))
def rs94 : List RS := [.t 2]
theorem c94 : chkF Try.prog Try.f94 1 p94 rs94 = true := by kernel_rfl
/- cuboid/cuboidref01.Of -/
def r95_0 : List POp := [⟨some 2, .alloc [.bool false, .int .u64 0, .int .u64 0], none⟩]
def r95_1 : List POp := [⟨some 3, .mv (.t 0), none⟩,⟨some 4, .bin .lss (.t 3) (.k (.int .i64 0)), none⟩,⟨some 5, .mv (.t 0), none⟩,⟨some 6, .call false 123 [(.t 5)], none⟩,⟨some 7, .build [.bool false, .int .u64 0, .int .u64 0] [(0, 1, (.t 4)), (1, 1, (.k (.int .u64 0))), (2, 1, (.t 6))], none⟩,⟨none, .store 3 (.t 2) (.t 7) [], none⟩]
def p95 : PCode := (.seq (.ops false r95_0) (.seq (.ops false r95_1) .ret))
def rs95 : List RS := [.cell 2 true 3]
theorem c95 : chkF Try.prog Try.f95 1 p95 rs95 = true := by kernel_rfl
/- cuboid/calc.Add -/
def r96_0 : List POp := [⟨some 4, .mv (.k (.int .i64 0)), none⟩,⟨some 5, .mv (.k (.bool false)), none⟩]
def r96_1 : List POp := [⟨some 6, .mv (.t 0), none⟩,⟨some 7, .mv (.t 1), none⟩,⟨some 8, .bsl 1 2 [.int .i64 0] [(0, (.t 6)), (1, (.t 7))] false, none⟩,⟨some 9, .call false 32 [(.t 8)], none⟩,⟨some 10, .ext (.t 9) 0, none⟩,⟨some 11, .ext (.t 9) 1, none⟩,⟨some 4, .mv (.t 10), none⟩,⟨some 5, .mv (.t 11), none⟩]
def p96 : PCode := (.seq (.ops false r96_0) (.seq (.ops false r96_1) .ret))
def rs96 : List RS := [.t 4, .t 5]
theorem c96 : chkF Try.prog Try.f96 2 p96 rs96 = true := by kernel_rfl
/- cmp.Compare[int64] -/
def r97_0 : List POp := [⟨some 4, .mv (.k (.int .i64 0)), none⟩]
def r97_1 : List POp := [⟨some 7, .mv (.t 0), none⟩,⟨some 8, .call false 124 [(.t 7)], none⟩,⟨some 5, .mv (.t 8), none⟩]
def r97_2 : List POp := [⟨some 9, .mv (.t 1), none⟩,⟨some 10, .call false 124 [(.t 9)], none⟩,⟨some 6, .mv (.t 10), none⟩]
def r97_3 : List POp := [⟨some 11, .mv (.t 5), none⟩]
def r97_4 : List POp := [⟨some 12, .mv (.t 6), none⟩]
def r97_5 : List POp := [⟨some 4, .mv (.k (.int .i64 0)), none⟩]
def r97_6 : List POp := [⟨some 4, .mv (.k (.int .i64 (-1))), none⟩]
def r97_7 : List POp := [⟨some 13, .mv (.t 6), none⟩]
def r97_8 : List POp := [⟨some 4, .mv (.k (.int .i64 1)), none⟩]
def r97_9 : List POp := [⟨some 14, .mv (.t 0), none⟩,⟨some 15, .mv (.t 1), none⟩,⟨some 16, .bin .lss (.t 14) (.t 15), none⟩]
def r97_10 : List POp := [⟨some 4, .mv (.k (.int .i64 (-1))), none⟩]
def r97_11 : List POp := [⟨some 17, .mv (.t 0), none⟩,⟨some 18, .mv (.t 1), none⟩,⟨some 19, .bin .gtr (.t 17) (.t 18), none⟩]
def r97_12 : List POp := [⟨some 4, .mv (.k (.int .i64 1)), none⟩]
def r97_13 : List POp := [⟨some 4, .mv (.k (.int .i64 0)), none⟩]
def p97 : PCode := (.seq (.ops false r97_0) (.seq (.ops false r97_1) (.seq (.ops false r97_2) (.seq (.seq (.ops false r97_3) (.cond (.t 11) (.seq (.seq (.ops false r97_4) (.cond (.t 12) (.seq (.ops false r97_5) .ret) .skip)) (.seq (.ops false r97_6) .ret)) .skip)) (.seq (.seq (.ops false r97_7) (.cond (.t 13) (.seq (.ops false r97_8) .ret) .skip)) (.seq (.seq (.ops false r97_9) (.cond (.t 16) (.seq (.ops false r97_10) .ret) .skip)) (.seq (.seq (.ops false r97_11) (.cond (.t 19) (.seq (.ops false r97_12) .ret) .skip)) (.seq (.ops false r97_13) .ret))))))))
def rs97 : List RS := [.t 4]
theorem c97 : chkF Try.prog Try.f97 2 p97 rs97 = true := by kernel_rfl
/- cuboid/calc.Cmp -/
def r98_0 : List POp := [⟨some 8, .mv (.k (.int .i64 0)), none⟩]
def r98_1 : List POp := [⟨some 15, .mv (.t 0), none⟩,⟨some 16, .mv (.t 1), none⟩,⟨some 17, .call false 125 [(.t 15), (.t 16)], none⟩,⟨some 18, .mv (.t 2), none⟩,⟨some 19, .mv (.t 3), none⟩,⟨some 20, .call false 125 [(.t 18), (.t 19)], none⟩,⟨some 9, .mv (.t 17), none⟩,⟨some 10, .mv (.t 20), none⟩]
def r98_2 : List POp := [⟨some 21, .mv (.t 9), none⟩,⟨some 22, .mv (.t 10), none⟩,⟨some 23, .bin .neq (.t 21) (.t 22), none⟩]
def r98_3 : List POp := [⟨some 24, .mv (.t 9), none⟩,⟨some 25, .mv (.t 10), none⟩,⟨some 26, .call false 126 [(.t 24), (.t 25)], none⟩,⟨some 8, .mv (.t 26), none⟩]
def r98_4 : List POp := [⟨some 28, .mv (.t 0), none⟩,⟨some 29, .call false 119 [(.t 28)], none⟩,⟨some 30, .mv (.t 1), none⟩,⟨some 31, .call false 119 [(.t 30)], none⟩,⟨some 32, .call false 118 [(.t 29), (.t 31)], none⟩,⟨some 27, .mv (.t 32), none⟩,⟨some 33, .ext (.t 27) 0, none⟩,⟨some 34, .ext (.t 27) 1, none⟩,⟨some 11, .mv (.t 33), none⟩,⟨some 12, .mv (.t 34), none⟩]
def r98_5 : List POp := [⟨some 36, .mv (.t 2), none⟩,⟨some 37, .call false 119 [(.t 36)], none⟩,⟨some 38, .mv (.t 3), none⟩,⟨some 39, .call false 119 [(.t 38)], none⟩,⟨some 40, .call false 118 [(.t 37), (.t 39)], none⟩,⟨some 35, .mv (.t 40), none⟩,⟨some 41, .ext (.t 35) 0, none⟩,⟨some 42, .ext (.t 35) 1, none⟩,⟨some 13, .mv (.t 41), none⟩,⟨some 14, .mv (.t 42), none⟩]
def r98_6 : List POp := [⟨some 43, .mv (.t 9), none⟩,⟨some 44, .mv (.t 11), none⟩,⟨some 45, .mv (.t 13), none⟩,⟨some 46, .call false 128 [(.t 44), (.t 45)], none⟩,⟨some 47, .mv (.t 12), none⟩,⟨some 48, .mv (.t 14), none⟩,⟨some 49, .call false 128 [(.t 47), (.t 48)], none⟩,⟨some 50, .bsl 1 2 [.int .i64 0] [(0, (.t 46)), (1, (.t 49))] false, none⟩,⟨some 51, .call false 127 [(.t 50)], none⟩,⟨some 52, .bin .mul (.t 43) (.t 51), none⟩,⟨some 8, .mv (.t 52), none⟩]
def p98 : PCode := (.seq (.ops false r98_0) (.seq (.ops false r98_1) (.seq (.seq (.ops false r98_2) (.cond (.t 23) (.seq (.ops false r98_3) .ret) .skip)) (.seq (.ops false r98_4) (.seq (.ops false r98_5) (.seq (.ops false r98_6) .ret))))))
def rs98 : List RS := [.t 8]
theorem c98 : chkF Try.prog Try.f98 4 p98 rs98 = true := by kernel_rfl
/- cuboid/cuboidref01.Order -/
/- cuboid/cuboidref01.Times -/
def r100_0 : List POp := [⟨some 4, .alloc [.bool false, .int .u64 0, .int .u64 0], none⟩]
def r100_1 : List POp := [⟨some 13, .mv (.t 0), none⟩,⟨some 14, .call false 123 [(.t 13)], none⟩,⟨some 15, .mv (.t 1), none⟩,⟨some 16, .call false 123 [(.t 15)], none⟩,⟨some 5, .mv (.t 14), none⟩,⟨some 6, .mv (.t 16), none⟩]
def r100_2 : List POp := [⟨some 17, .mv (.t 5), none⟩,⟨some 18, .bin .shr (.t 17) (.k (.int .u64 32)), none⟩,⟨some 19, .mv (.t 5), none⟩,⟨some 20, .bin .and (.t 19) (.k (.int .u64 4294967295)), none⟩,⟨some 21, .mv (.t 6), none⟩,⟨some 22, .bin .shr (.t 21) (.k (.int .u64 32)), none⟩,⟨some 23, .mv (.t 6), none⟩,⟨some 24, .bin .and (.t 23) (.k (.int .u64 4294967295)), none⟩,⟨some 7, .mv (.t 18), none⟩,⟨some 8, .mv (.t 20), none⟩,⟨some 9, .mv (.t 22), none⟩,⟨some 10, .mv (.t 24), none⟩]
def r100_3 : List POp := [⟨some 25, .mv (.t 8), none⟩,⟨some 26, .mv (.t 10), none⟩,⟨some 27, .bin .mul (.t 25) (.t 26), none⟩,⟨some 28, .bin .shr (.t 27) (.k (.int .u64 32)), none⟩,⟨some 29, .mv (.t 7), none⟩,⟨some 30, .mv (.t 10), none⟩,⟨some 31, .bin .mul (.t 29) (.t 30), none⟩,⟨some 32, .bin .and (.t 31) (.k (.int .u64 4294967295)), none⟩,⟨some 33, .bin .add (.t 28) (.t 32), none⟩,⟨some 34, .mv (.t 8), none⟩,⟨some 35, .mv (.t 9), none⟩,⟨some 36, .bin .mul (.t 34) (.t 35), none⟩,⟨some 37, .bin .and (.t 36) (.k (.int .u64 4294967295)), none⟩,⟨some 38, .bin .add (.t 33) (.t 37), none⟩,⟨some 11, .mv (.t 38), none⟩]
def r100_4 : List POp := [⟨some 39, .mv (.t 0), none⟩,⟨some 40, .bin .lss (.t 39) (.k (.int .i64 0)), none⟩,⟨some 41, .mv (.t 1), none⟩,⟨some 42, .bin .lss (.t 41) (.k (.int .i64 0)), none⟩,⟨some 43, .eqs true false [.b] (.t 40) (.t 42), none⟩,⟨some 44, .mv (.t 7), none⟩,⟨some 45, .mv (.t 9), none⟩,⟨some 46, .bin .mul (.t 44) (.t 45), none⟩,⟨some 47, .mv (.t 7), none⟩,⟨some 48, .mv (.t 10), none⟩,⟨some 49, .bin .mul (.t 47) (.t 48), none⟩,⟨some 50, .bin .shr (.t 49) (.k (.int .u64 32)), none⟩,⟨some 51, .bin .add (.t 46) (.t 50), none⟩,⟨some 52, .mv (.t 8), none⟩,⟨some 53, .mv (.t 9), none⟩,⟨some 54, .bin .mul (.t 52) (.t 53), none⟩,⟨some 55, .bin .shr (.t 54) (.k (.int .u64 32)), none⟩,⟨some 56, .bin .add (.t 51) (.t 55), none⟩,⟨some 57, .mv (.t 11), none⟩,⟨some 58, .bin .shr (.t 57) (.k (.int .u64 32)), none⟩,⟨some 59, .bin .add (.t 56) (.t 58), none⟩,⟨some 60, .mv (.t 11), none⟩,⟨some 61, .bin .shl (.t 60) (.k (.int .u64 32)), none⟩,⟨some 62, .mv (.t 8), none⟩,⟨some 63, .mv (.t 10), none⟩,⟨some 64, .bin .mul (.t 62) (.t 63), none⟩,⟨some 65, .bin .and (.t 64) (.k (.int .u64 4294967295)), none⟩,⟨some 66, .bin .or (.t 61) (.t 65), none⟩,⟨some 67, .build [.bool false, .int .u64 0, .int .u64 0] [(0, 1, (.t 43)), (1, 1, (.t 59)), (2, 1, (.t 66))], none⟩,⟨some 12, .alloc [.bool false, .int .u64 0, .int .u64 0], none⟩,⟨none, .store 3 (.t 12) (.t 67) [], none⟩]
def r100_5 : List POp := [⟨some 68, .fad 1 (.t 12), none⟩,⟨some 69, .load false 1 (.t 68) [], none⟩,⟨some 70, .bin .eql (.t 69) (.k (.int .u64 0)), none⟩,⟨some 71, .mv (.t 70), none⟩,⟨some 72, .fad 2 (.t 12), (some (71, true))⟩,⟨some 73, .load false 1 (.t 72) [], (some (71, true))⟩,⟨some 74, .bin .eql (.t 73) (.k (.int .u64 0)), (some (71, true))⟩,⟨some 75, .pick (.t 71) (.t 74) (.k (.bool false)), none⟩]
def r100_6 : List POp := [⟨some 76, .fad 0 (.t 12), none⟩,⟨none, .store 1 (.t 76) (.k (.bool false)) [], none⟩]
def r100_7 : List POp := [⟨some 77, .load true 3 (.t 12) [], none⟩,⟨none, .store 3 (.t 4) (.t 77) [], none⟩]
def p100 : PCode := (.seq (.ops false r100_0) (.seq (.ops false r100_1) (.seq (.ops false r100_2) (.seq (.ops false r100_3) (.seq (.ops false r100_4) (.seq (.seq (.ops false r100_5) (.cond (.t 75) (.ops false r100_6) .skip)) (.seq (.ops false r100_7) .ret)))))))
def rs100 : List RS := [.cell 4 true 3]
theorem c100 : chkF Try.prog Try.f100 2 p100 rs100 = true := by kernel_rfl
/- math/bits.Mul64 -/
def r118_0 : List POp := [⟨some 4, .mv (.k (.int .u64 0)), none⟩,⟨some 5, .mv (.k (.int .u64 0)), none⟩]
def r118_1 : List POp := [⟨some 14, .mv (.t 0), none⟩,⟨some 15, .bin .and (.t 14) (.k (.int .u64 4294967295)), none⟩,⟨some 6, .mv (.t 15), none⟩]
def r118_2 : List POp := [⟨some 16, .mv (.t 0), none⟩,⟨some 17, .bin .shr (.t 16) (.k (.int .u64 32)), none⟩,⟨some 7, .mv (.t 17), none⟩]
def r118_3 : List POp := [⟨some 18, .mv (.t 1), none⟩,⟨some 19, .bin .and (.t 18) (.k (.int .u64 4294967295)), none⟩,⟨some 8, .mv (.t 19), none⟩]
def r118_4 : List POp := [⟨some 20, .mv (.t 1), none⟩,⟨some 21, .bin .shr (.t 20) (.k (.int .u64 32)), none⟩,⟨some 9, .mv (.t 21), none⟩]
def r118_5 : List POp := [⟨some 22, .mv (.t 6), none⟩,⟨some 23, .mv (.t 8), none⟩,⟨some 24, .bin .mul (.t 22) (.t 23), none⟩,⟨some 10, .mv (.t 24), none⟩]
def r118_6 : List POp := [⟨some 25, .mv (.t 7), none⟩,⟨some 26, .mv (.t 8), none⟩,⟨some 27, .bin .mul (.t 25) (.t 26), none⟩,⟨some 28, .mv (.t 10), none⟩,⟨some 29, .bin .shr (.t 28) (.k (.int .u64 32)), none⟩,⟨some 30, .bin .add (.t 27) (.t 29), none⟩,⟨some 11, .mv (.t 30), none⟩]
def r118_7 : List POp := [⟨some 31, .mv (.t 11), none⟩,⟨some 32, .bin .and (.t 31) (.k (.int .u64 4294967295)), none⟩,⟨some 12, .mv (.t 32), none⟩]
def r118_8 : List POp := [⟨some 33, .mv (.t 11), none⟩,⟨some 34, .bin .shr (.t 33) (.k (.int .u64 32)), none⟩,⟨some 13, .mv (.t 34), none⟩]
def r118_9 : List POp := [⟨some 35, .mv (.t 12), none⟩,⟨some 36, .mv (.t 6), none⟩,⟨some 37, .mv (.t 9), none⟩,⟨some 38, .bin .mul (.t 36) (.t 37), none⟩,⟨some 39, .bin .add (.t 35) (.t 38), none⟩,⟨some 12, .mv (.t 39), none⟩]
def r118_10 : List POp := [⟨some 40, .mv (.t 7), none⟩,⟨some 41, .mv (.t 9), none⟩,⟨some 42, .bin .mul (.t 40) (.t 41), none⟩,⟨some 43, .mv (.t 13), none⟩,⟨some 44, .bin .add (.t 42) (.t 43), none⟩,⟨some 45, .mv (.t 12), none⟩,⟨some 46, .bin .shr (.t 45) (.k (.int .u64 32)), none⟩,⟨some 47, .bin .add (.t 44) (.t 46), none⟩,⟨some 4, .mv (.t 47), none⟩]
def r118_11 : List POp := [⟨some 48, .mv (.t 0), none⟩,⟨some 49, .mv (.t 1), none⟩,⟨some 50, .bin .mul (.t 48) (.t 49), none⟩,⟨some 5, .mv (.t 50), none⟩]
def p118 : PCode := (.seq (.ops false r118_0) (.seq (.ops false r118_1) (.seq (.ops false r118_2) (.seq (.ops false r118_3) (.seq (.ops false r118_4) (.seq (.ops false r118_5) (.seq (.ops false r118_6) (.seq (.ops false r118_7) (.seq (.ops false r118_8) (.seq (.ops false r118_9) (.seq (.ops false r118_10) (.seq (.ops false r118_11) .ret))))))))))))
def rs118 : List RS := [.t 4, .t 5]
theorem c118 : chkF Try.prog Try.f118 2 p118 rs118 = true := by kernel_rfl
/- cuboid/calc.Size -/
def r119_0 : List POp := [⟨some 2, .mv (.k (.int .u64 0)), none⟩]
def r119_1 : List POp := [⟨some 3, .mv (.t 0), none⟩,⟨some 4, .bin .lss (.t 3) (.k (.int .i64 0)), none⟩]
def r119_2 : List POp := [⟨some 5, .mv (.t 0), none⟩,⟨some 6, .conv .u64 (.t 5), none⟩,⟨some 7, .un .neg (.t 6), none⟩,⟨some 2, .mv (.t 7), none⟩]
def r119_3 : List POp := [⟨some 8, .mv (.t 0), none⟩,⟨some 9, .conv .u64 (.t 8), none⟩,⟨some 2, .mv (.t 9), none⟩]
def p119 : PCode := (.seq (.ops false r119_0) (.seq (.seq (.ops false r119_1) (.cond (.t 4) (.seq (.ops false r119_2) .ret) .skip)) (.seq (.ops false r119_3) .ret)))
def rs119 : List RS := [.t 2]
theorem c119 : chkF Try.prog Try.f119 1 p119 rs119 = true := by kernel_rfl
/- cuboid/cuboidref01.Plus -/
def r122_0 : List POp := [⟨some 2, .box 3 (.t 0), none⟩,⟨some 3, .box 3 (.t 1), none⟩,⟨some 4, .alloc [.bool false, .int .u64 0, .int .u64 0], none⟩]
def r122_1 : List POp := [⟨some 7, .fad 0 (.t 2), none⟩,⟨some 8, .load false 1 (.t 7) [], none⟩,⟨some 9, .fad 0 (.t 3), none⟩,⟨some 10, .load false 1 (.t 9) [], none⟩,⟨some 11, .eqs false false [.b] (.t 8) (.t 10), none⟩]
def r122_2 : List POp := [⟨some 12, .fad 0 (.t 2), none⟩,⟨some 13, .load false 1 (.t 12) [], none⟩,⟨some 14, .fad 1 (.t 2), none⟩,⟨some 15, .load false 1 (.t 14) [], none⟩,⟨some 16, .fad 1 (.t 3), none⟩,⟨some 17, .load false 1 (.t 16) [], none⟩,⟨some 18, .bin .add (.t 15) (.t 17), none⟩,⟨some 19, .fad 2 (.t 2), none⟩,⟨some 20, .load false 1 (.t 19) [], none⟩,⟨some 21, .fad 2 (.t 3), none⟩,⟨some 22, .load false 1 (.t 21) [], none⟩,⟨some 23, .bin .add (.t 20) (.t 22), none⟩,⟨some 24, .build [.bool false, .int .u64 0, .int .u64 0] [(0, 1, (.t 13)), (1, 1, (.t 18)), (2, 1, (.t 23))], none⟩,⟨some 5, .alloc [.bool false, .int .u64 0, .int .u64 0], none⟩,⟨none, .store 3 (.t 5) (.t 24) [], none⟩]
def r122_3 : List POp := [⟨some 25, .fad 2 (.t 5), none⟩,⟨some 26, .load false 1 (.t 25) [], none⟩,⟨some 27, .fad 2 (.t 2), none⟩,⟨some 28, .load false 1 (.t 27) [], none⟩,⟨some 29, .bin .lss (.t 26) (.t 28), none⟩]
def r122_4 : List POp := [⟨some 30, .fad 1 (.t 5), none⟩,⟨some 31, .load false 1 (.t 30) [], none⟩,⟨some 32, .bin .add (.t 31) (.k (.int .u64 1)), none⟩,⟨some 33, .fad 1 (.t 5), none⟩,⟨none, .store 1 (.t 33) (.t 32) [], none⟩]
def r122_5 : List POp := [⟨some 34, .load true 3 (.t 5) [], none⟩,⟨none, .store 3 (.t 4) (.t 34) [], none⟩]
def r122_6 : List POp := [⟨some 35, .load true 3 (.t 2) [], none⟩,⟨some 36, .load true 3 (.t 3) [], none⟩,⟨some 37, .call false 129 [(.t 35), (.t 36)], none⟩]
def r122_7 : List POp := [⟨some 38, .load true 3 (.t 3) [], none⟩,⟨some 39, .load true 3 (.t 2) [], none⟩,⟨none, .store 3 (.t 2) (.t 38) [], none⟩,⟨none, .store 3 (.t 3) (.t 39) [], none⟩]
def r122_8 : List POp := [⟨some 40, .fad 0 (.t 2), none⟩,⟨some 41, .load false 1 (.t 40) [], none⟩,⟨some 42, .fad 1 (.t 2), none⟩,⟨some 43, .load false 1 (.t 42) [], none⟩,⟨some 44, .fad 1 (.t 3), none⟩,⟨some 45, .load false 1 (.t 44) [], none⟩,⟨some 46, .bin .sub (.t 43) (.t 45), none⟩,⟨some 47, .fad 2 (.t 2), none⟩,⟨some 48, .load false 1 (.t 47) [], none⟩,⟨some 49, .fad 2 (.t 3), none⟩,⟨some 50, .load false 1 (.t 49) [], none⟩,⟨some 51, .bin .sub (.t 48) (.t 50), none⟩,⟨some 52, .build [.bool false, .int .u64 0, .int .u64 0] [(0, 1, (.t 41)), (1, 1, (.t 46)), (2, 1, (.t 51))], none⟩,⟨some 6, .alloc [.bool false, .int .u64 0, .int .u64 0], none⟩,⟨none, .store 3 (.t 6) (.t 52) [], none⟩]
def r122_9 : List POp := [⟨some 53, .fad 2 (.t 2), none⟩,⟨some 54, .load false 1 (.t 53) [], none⟩,⟨some 55, .fad 2 (.t 3), none⟩,⟨some 56, .load false 1 (.t 55) [], none⟩,⟨some 57, .bin .lss (.t 54) (.t 56), none⟩]
def r122_10 : List POp := [⟨some 58, .fad 1 (.t 6), none⟩,⟨some 59, .load false 1 (.t 58) [], none⟩,⟨some 60, .bin .sub (.t 59) (.k (.int .u64 1)), none⟩,⟨some 61, .fad 1 (.t 6), none⟩,⟨none, .store 1 (.t 61) (.t 60) [], none⟩]
def r122_11 : List POp := [⟨some 62, .fad 1 (.t 6), none⟩,⟨some 63, .load false 1 (.t 62) [], none⟩,⟨some 64, .bin .eql (.t 63) (.k (.int .u64 0)), none⟩,⟨some 65, .mv (.t 64), none⟩,⟨some 66, .fad 2 (.t 6), (some (65, true))⟩,⟨some 67, .load false 1 (.t 66) [], (some (65, true))⟩,⟨some 68, .bin .eql (.t 67) (.k (.int .u64 0)), (some (65, true))⟩,⟨some 69, .pick (.t 65) (.t 68) (.k (.bool false)), none⟩]
def r122_12 : List POp := [⟨some 70, .fad 0 (.t 6), none⟩,⟨none, .store 1 (.t 70) (.k (.bool false)) [], none⟩]
def r122_13 : List POp := [⟨some 71, .load true 3 (.t 6) [], none⟩,⟨none, .store 3 (.t 4) (.t 71) [], none⟩]
def p122 : PCode := (.seq (.ops false r122_0) (.seq (.seq (.ops false r122_1) (.cond (.t 11) (.seq (.ops false r122_2) (.seq (.seq (.ops false r122_3) (.cond (.t 29) (.ops false r122_4) .skip)) (.seq (.ops false r122_5) .ret))) .skip)) (.seq (.seq (.ops false r122_6) (.cond (.t 37) (.ops false r122_7) .skip)) (.seq (.ops false r122_8) (.seq (.seq (.ops false r122_9) (.cond (.t 57) (.ops false r122_10) .skip)) (.seq (.seq (.ops false r122_11) (.cond (.t 69) (.ops false r122_12) .skip)) (.seq (.ops false r122_13) .ret)))))))
def rs122 : List RS := [.cell 4 true 3]
theorem c122 : chkF Try.prog Try.f122 2 p122 rs122 = true := by kernel_rfl
/- cuboid/cuboidref01.Size -/
def r123_0 : List POp := [⟨some 2, .mv (.k (.int .u64 0)), none⟩]
def r123_1 : List POp := [⟨some 3, .mv (.t 0), none⟩,⟨some 4, .bin .lss (.t 3) (.k (.int .i64 0)), none⟩]
def r123_2 : List POp := [⟨some 5, .mv (.t 0), none⟩,⟨some 6, .bin .add (.t 5) (.k (.int .i64 1)), none⟩,⟨some 7, .un .neg (.t 6), none⟩,⟨some 8, .conv .u64 (.t 7), none⟩,⟨some 9, .bin .add (.t 8) (.k (.int .u64 1)), none⟩,⟨some 2, .mv (.t 9), none⟩]
def r123_3 : List POp := [⟨some 10, .mv (.t 0), none⟩,⟨some 11, .conv .u64 (.t 10), none⟩,⟨some 2, .mv (.t 11), none⟩]
def p123 : PCode := (.seq (.ops false r123_0) (.seq (.seq (.ops false r123_1) (.cond (.t 4) (.seq (.ops false r123_2) .ret) .skip)) (.seq (.ops false r123_3) .ret)))
def rs123 : List RS := [.t 2]
theorem c123 : chkF Try.prog Try.f123 1 p123 rs123 = true := by kernel_rfl
/- cmp.isNaN[int64] -/
def r124_0 : List POp := [⟨some 2, .mv (.k (.bool false)), none⟩]
def r124_1 : List POp := [⟨some 3, .mv (.t 0), none⟩,⟨some 4, .mv (.t 0), none⟩,⟨some 5, .bin .neq (.t 3) (.t 4), none⟩,⟨some 2, .mv (.t 5), none⟩]
def p124 : PCode := (.seq (.ops false r124_0) (.seq (.ops false r124_1) .ret))
def rs124 : List RS := [.t 2]
theorem c124 : chkF Try.prog Try.f124 1 p124 rs124 = true := by kernel_rfl
/- cuboid/calc.sign -/
def r125_0 : List POp := [⟨some 4, .mv (.k (.int .i64 0)), none⟩]
def r125_1 : List POp := [⟨some 5, .mv (.t 0), none⟩,⟨some 6, .call false 97 [(.t 5), (.k (.int .i64 0))], none⟩,⟨some 7, .mv (.t 1), none⟩,⟨some 8, .call false 97 [(.t 7), (.k (.int .i64 0))], none⟩,⟨some 9, .bin .mul (.t 6) (.t 8), none⟩,⟨some 4, .mv (.t 9), none⟩]
def p125 : PCode := (.seq (.ops false r125_0) (.seq (.ops false r125_1) .ret))
def rs125 : List RS := [.t 4]
theorem c125 : chkF Try.prog Try.f125 2 p125 rs125 = true := by kernel_rfl
/- cmp.Compare[int] -/
def r126_0 : List POp := [⟨some 4, .mv (.k (.int .i64 0)), none⟩]
def r126_1 : List POp := [⟨some 7, .mv (.t 0), none⟩,⟨some 8, .call false 141 [(.t 7)], none⟩,⟨some 5, .mv (.t 8), none⟩]
def r126_2 : List POp := [⟨some 9, .mv (.t 1), none⟩,⟨some 10, .call false 141 [(.t 9)], none⟩,⟨some 6, .mv (.t 10), none⟩]
def r126_3 : List POp := [⟨some 11, .mv (.t 5), none⟩]
def r126_4 : List POp := [⟨some 12, .mv (.t 6), none⟩]
def r126_5 : List POp := [⟨some 4, .mv (.k (.int .i64 0)), none⟩]
def r126_6 : List POp := [⟨some 4, .mv (.k (.int .i64 (-1))), none⟩]
def r126_7 : List POp := [⟨some 13, .mv (.t 6), none⟩]
def r126_8 : List POp := [⟨some 4, .mv (.k (.int .i64 1)), none⟩]
def r126_9 : List POp := [⟨some 14, .mv (.t 0), none⟩,⟨some 15, .mv (.t 1), none⟩,⟨some 16, .bin .lss (.t 14) (.t 15), none⟩]
def r126_10 : List POp := [⟨some 4, .mv (.k (.int .i64 (-1))), none⟩]
def r126_11 : List POp := [⟨some 17, .mv (.t 0), none⟩,⟨some 18, .mv (.t 1), none⟩,⟨some 19, .bin .gtr (.t 17) (.t 18), none⟩]
def r126_12 : List POp := [⟨some 4, .mv (.k (.int .i64 1)), none⟩]
def r126_13 : List POp := [⟨some 4, .mv (.k (.int .i64 0)), none⟩]
def p126 : PCode := (.seq (.ops false r126_0) (.seq (.ops false r126_1) (.seq (.ops false r126_2) (.seq (.seq (.ops false r126_3) (.cond (.t 11) (.seq (.seq (.ops false r126_4) (.cond (.t 12) (.seq (.ops false r126_5) .ret) .skip)) (.seq (.ops false r126_6) .ret)) .skip)) (.seq (.seq (.ops false r126_7) (.cond (.t 13) (.seq (.ops false r126_8) .ret) .skip)) (.seq (.seq (.ops false r126_9) (.cond (.t 16) (.seq (.ops false r126_10) .ret) .skip)) (.seq (.seq (.ops false r126_11) (.cond (.t 19) (.seq (.ops false r126_12) .ret) .skip)) (.seq (.ops false r126_13) .ret))))))))
def rs126 : List RS := [.t 4]
theorem c126 : chkF Try.prog Try.f126 2 p126 rs126 = true := by kernel_rfl
/- cmp.Or[int] -/
def r127_0 : List POp := [⟨some 2, .mv (.k (.int .i64 0)), none⟩]
def r127_1 : List POp := [⟨some 3, .mv (.k (.int .i64 0)), none⟩]
def r127_2 : List POp := [⟨some 6, .mv (.t 0), none⟩,⟨some 7, .len (.t 6), none⟩,⟨some 8, .mv (.k (.int .i64 0)), none⟩]
def r127_3 : List POp := [⟨some 9, .bin .lss (.t 8) (.t 7), none⟩]
def r127_4 : List POp := [⟨some 10, .iaS 1 (.t 6) (.t 8), none⟩,⟨some 11, .load false 1 (.t 10) [], none⟩,⟨some 5, .mv (.t 11), none⟩]
def r127_5 : List POp := [⟨some 12, .mv (.t 5), none⟩,⟨some 13, .mv (.t 3), none⟩,⟨some 14, .bin .neq (.t 12) (.t 13), none⟩]
def r127_6 : List POp := [⟨some 15, .mv (.t 5), none⟩,⟨some 2, .mv (.t 15), none⟩]
def r127_7 : List POp := [⟨some 16, .bin .add (.t 8) (.k (.int .i64 1)), none⟩,⟨some 8, .mv (.t 16), none⟩]
def b127_0 : PCode := (.seq (.ops false r127_3) (.seq (.cond (.t 9) .skip (.exit 0)) (.seq (.block 1 (.seq (.ops false r127_4) (.seq (.ops false r127_5) (.cond (.t 14) (.seq (.ops false r127_6) .ret) .skip)))) (.ops false r127_7))))
def r127_8 : List POp := [⟨some 17, .mv (.t 3), none⟩,⟨some 2, .mv (.t 17), none⟩]
def p127 : PCode := (.seq (.ops false r127_0) (.seq (.ops false r127_1) (.seq (.seq (.ops false r127_2) (.block 0 (.loop b127_0))) (.seq (.ops false r127_8) .ret))))
def rs127 : List RS := [.t 2]
theorem c127 : chkF Try.prog Try.f127 1 p127 rs127 = true := by kernel_rfl
/- cmp.Compare[uint64] -/
def r128_0 : List POp := [⟨some 4, .mv (.k (.int .i64 0)), none⟩]
def r128_1 : List POp := [⟨some 7, .mv (.t 0), none⟩,⟨some 8, .call false 142 [(.t 7)], none⟩,⟨some 5, .mv (.t 8), none⟩]
def r128_2 : List POp := [⟨some 9, .mv (.t 1), none⟩,⟨some 10, .call false 142 [(.t 9)], none⟩,⟨some 6, .mv (.t 10), none⟩]
def r128_3 : List POp := [⟨some 11, .mv (.t 5), none⟩]
def r128_4 : List POp := [⟨some 12, .mv (.t 6), none⟩]
def r128_5 : List POp := [⟨some 4, .mv (.k (.int .i64 0)), none⟩]
def r128_6 : List POp := [⟨some 4, .mv (.k (.int .i64 (-1))), none⟩]
def r128_7 : List POp := [⟨some 13, .mv (.t 6), none⟩]
def r128_8 : List POp := [⟨some 4, .mv (.k (.int .i64 1)), none⟩]
def r128_9 : List POp := [⟨some 14, .mv (.t 0), none⟩,⟨some 15, .mv (.t 1), none⟩,⟨some 16, .bin .lss (.t 14) (.t 15), none⟩]
def r128_10 : List POp := [⟨some 4, .mv (.k (.int .i64 (-1))), none⟩]
def r128_11 : List POp := [⟨some 17, .mv (.t 0), none⟩,⟨some 18, .mv (.t 1), none⟩,⟨some 19, .bin .gtr (.t 17) (.t 18), none⟩]
def r128_12 : List POp := [⟨some 4, .mv (.k (.int .i64 1)), none⟩]
def r128_13 : List POp := [⟨some 4, .mv (.k (.int .i64 0)), none⟩]
def p128 : PCode := (.seq (.ops false r128_0) (.seq (.ops false r128_1) (.seq (.ops false r128_2) (.seq (.seq (.ops false r128_3) (.cond (.t 11) (.seq (.seq (.ops false r128_4) (.cond (.t 12) (.seq (.ops false r128_5) .ret) .skip)) (.seq (.ops false r128_6) .ret)) .skip)) (.seq (.seq (.ops false r128_7) (.cond (.t 13) (.seq (.ops false r128_8) .ret) .skip)) (.seq (.seq (.ops false r128_9) (.cond (.t 16) (.seq (.ops false r128_10) .ret) .skip)) (.seq (.seq (.ops false r128_11) (.cond (.t 19) (.seq (.ops false r128_12) .ret) .skip)) (.seq (.ops false r128_13) .ret))))))))
def rs128 : List RS := [.t 4]
theorem c128 : chkF Try.prog Try.f128 2 p128 rs128 = true := by kernel_rfl
/- cuboid/cuboidref01.less -/
def r129_0 : List POp := [⟨some 2, .box 3 (.t 0), none⟩,⟨some 3, .box 3 (.t 1), none⟩,⟨some 4, .mv (.k (.bool false)), none⟩]
def r129_1 : List POp := [⟨some 5, .fad 1 (.t 2), none⟩,⟨some 6, .load false 1 (.t 5) [], none⟩,⟨some 7, .fad 1 (.t 3), none⟩,⟨some 8, .load false 1 (.t 7) [], none⟩,⟨some 9, .bin .lss (.t 6) (.t 8), none⟩,⟨some 10, .mv (.t 9), none⟩,⟨some 11, .fad 1 (.t 2), (some (10, false))⟩,⟨some 12, .load false 1 (.t 11) [], (some (10, false))⟩,⟨some 13, .fad 1 (.t 3), (some (10, false))⟩,⟨some 14, .load false 1 (.t 13) [], (some (10, false))⟩,⟨some 15, .bin .eql (.t 12) (.t 14), (some (10, false))⟩,⟨some 16, .mv (.t 15), (some (10, false))⟩,⟨some 17, .fad 2 (.t 2), (some (16, true))⟩,⟨some 18, .load false 1 (.t 17) [], (some (16, true))⟩,⟨some 19, .fad 2 (.t 3), (some (16, true))⟩,⟨some 20, .load false 1 (.t 19) [], (some (16, true))⟩,⟨some 21, .bin .lss (.t 18) (.t 20), (some (16, true))⟩,⟨some 22, .pick (.t 16) (.t 21) (.k (.bool false)), (some (10, false))⟩,⟨some 23, .pick (.t 10) (.k (.bool true)) (.t 22), none⟩,⟨some 4, .mv (.t 23), none⟩]
def p129 : PCode := (.seq (.ops false r129_0) (.seq (.ops false r129_1) .ret))
def rs129 : List RS := [.t 4]
theorem c129 : chkF Try.prog Try.f129 2 p129 rs129 = true := by kernel_rfl
/- cmp.isNaN[int] -/
def r141_0 : List POp := [⟨some 2, .mv (.k (.bool false)), none⟩]
def r141_1 : List POp := [⟨some 3, .mv (.t 0), none⟩,⟨some 4, .mv (.t 0), none⟩,⟨some 5, .bin .neq (.t 3) (.t 4), none⟩,⟨some 2, .mv (.t 5), none⟩]
def p141 : PCode := (.seq (.ops false r141_0) (.seq (.ops false r141_1) .ret))
def rs141 : List RS := [.t 2]
theorem c141 : chkF Try.prog Try.f141 1 p141 rs141 = true := by kernel_rfl
/- cmp.isNaN[uint64] -/
def r142_0 : List POp := [⟨some 2, .mv (.k (.bool false)), none⟩]
def r142_1 : List POp := [⟨some 3, .mv (.t 0), none⟩,⟨some 4, .mv (.t 0), none⟩,⟨some 5, .bin .neq (.t 3) (.t 4), none⟩,⟨some 2, .mv (.t 5), none⟩]
def p142 : PCode := (.seq (.ops false r142_0) (.seq (.ops false r142_1) .ret))
def rs142 : List RS := [.t 2]
theorem c142 : chkF Try.prog Try.f142 1 p142 rs142 = true := by kernel_rfl
end Go.Proofs.Ytcmejdkjfekoeaa

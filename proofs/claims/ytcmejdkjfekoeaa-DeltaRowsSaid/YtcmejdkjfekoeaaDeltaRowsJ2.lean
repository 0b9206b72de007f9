/- Part of the proof of DeltaRows: lemmas. -/
import Derived.Test.YtcmejdkjfekoeaaDRowsS5
import Derived.Test.YtcmejdkjfekoeaaProg
import Derived.KernelRfl
set_option linter.unusedVariables false
set_option linter.unusedSimpArgs false
namespace Go.Proofs.Ytcmejdkjfekoeaa
open Go.Pl
/- cuboid/cuboidlaw08.BagEnds -/
def r3_0 : List POp := [⟨some 2, .mv (.k (.bool false)), none⟩]
def r3_1 : List POp := [⟨some 16, .mv (.t 0), none⟩,⟨some 17, .len (.t 16), none⟩,⟨some 18, .bin .gtr (.t 17) (.k (.int .i64 60)), none⟩]
def r3_2 : List POp := [⟨some 19, .call false 20 [], none⟩,⟨some 2, .mv (.t 19), none⟩]
def r3_3 : List POp := [⟨some 20, .mv (.t 0), none⟩,⟨some 21, .call false 21 [(.t 20)], none⟩,⟨some 3, .mv (.t 21), none⟩]
def r3_4 : List POp := [⟨some 4, .mv (.k (.int .i64 0)), none⟩]
def r3_5 : List POp := [⟨some 22, .mv (.t 4), none⟩,⟨some 23, .mv (.t 0), none⟩,⟨some 24, .len (.t 23), none⟩,⟨some 25, .bin .lss (.t 22) (.t 24), none⟩]
def r3_7 : List POp := [⟨some 28, .mv (.t 0), none⟩,⟨some 29, .mv (.t 4), none⟩,⟨some 30, .iaS 1 (.t 28) (.t 29), none⟩,⟨some 31, .load false 1 (.t 30) [], none⟩,⟨some 32, .mv (.t 0), none⟩,⟨some 33, .mv (.t 4), none⟩,⟨some 34, .iaS 1 (.t 32) (.t 33), none⟩,⟨some 35, .load false 1 (.t 34) [], none⟩,⟨some 5, .mv (.t 31), none⟩,⟨some 6, .mv (.t 35), none⟩]
def r3_8 : List POp := [⟨some 36, .mv (.t 4), none⟩,⟨some 7, .mv (.t 36), none⟩]
def r3_9 : List POp := [⟨some 37, .mv (.t 7), none⟩,⟨some 38, .mv (.t 0), none⟩,⟨some 39, .len (.t 38), none⟩,⟨some 40, .bin .lss (.t 37) (.t 39), none⟩]
def r3_11 : List POp := [⟨some 43, .mv (.t 5), none⟩,⟨some 44, .mv (.t 0), none⟩,⟨some 45, .mv (.t 7), none⟩,⟨some 46, .iaS 1 (.t 44) (.t 45), none⟩,⟨some 47, .load false 1 (.t 46) [], none⟩,⟨some 48, .mm false (.t 43) [(.t 47)], none⟩,⟨some 49, .mv (.t 6), none⟩,⟨some 50, .mv (.t 0), none⟩,⟨some 51, .mv (.t 7), none⟩,⟨some 52, .iaS 1 (.t 50) (.t 51), none⟩,⟨some 53, .load false 1 (.t 52) [], none⟩,⟨some 54, .mm true (.t 49) [(.t 53)], none⟩,⟨some 5, .mv (.t 48), none⟩,⟨some 6, .mv (.t 54), none⟩]
def r3_10 : List POp := [⟨some 41, .mv (.t 7), none⟩,⟨some 42, .bin .add (.t 41) (.k (.int .i64 1)), none⟩,⟨some 7, .mv (.t 42), none⟩]
def b3_1 : PCode := (.seq (.seq (.ops false r3_9) (.cond (.t 40) .skip (.exit 2))) (.seq (.block 3 (.ops true r3_11)) (.ops false r3_10)))
def r3_12 : List POp := [⟨some 56, .mv (.t 3), none⟩,⟨some 57, .call false 22 [(.t 56)], none⟩,⟨some 55, .mv (.t 57), none⟩,⟨some 58, .ext (.t 55) 0, none⟩,⟨some 59, .ext (.t 55) 1, none⟩,⟨some 8, .mv (.t 58), none⟩,⟨some 9, .mv (.t 59), none⟩]
def r3_13 : List POp := [⟨some 61, .mv (.t 3), none⟩,⟨some 62, .call false 23 [(.t 61)], none⟩,⟨some 60, .mv (.t 62), none⟩,⟨some 63, .ext (.t 60) 0, none⟩,⟨some 64, .ext (.t 60) 1, none⟩,⟨some 10, .mv (.t 63), none⟩,⟨some 11, .mv (.t 64), none⟩]
def r3_14 : List POp := [⟨some 65, .mv (.t 9), none⟩,⟨some 66, .un .not (.t 65), none⟩,⟨some 67, .mv (.t 66), none⟩,⟨some 68, .mv (.t 11), (some (67, false))⟩,⟨some 69, .un .not (.t 68), (some (67, false))⟩,⟨some 70, .pick (.t 67) (.k (.bool true)) (.t 69), none⟩,⟨some 71, .mv (.t 70), none⟩,⟨some 72, .mv (.t 8), (some (71, false))⟩,⟨some 73, .mv (.t 5), (some (71, false))⟩,⟨some 74, .bin .neq (.t 72) (.t 73), (some (71, false))⟩,⟨some 75, .pick (.t 71) (.k (.bool true)) (.t 74), none⟩,⟨some 76, .mv (.t 75), none⟩,⟨some 77, .mv (.t 10), (some (76, false))⟩,⟨some 78, .mv (.t 6), (some (76, false))⟩,⟨some 79, .bin .neq (.t 77) (.t 78), (some (76, false))⟩,⟨some 80, .pick (.t 76) (.k (.bool true)) (.t 79), none⟩]
def r3_15 : List POp := [⟨some 2, .mv (.k (.bool false)), none⟩]
def r3_16 : List POp := [⟨some 82, .mv (.t 3), none⟩,⟨some 83, .mv (.t 0), none⟩,⟨some 84, .mv (.t 4), none⟩,⟨some 85, .iaS 1 (.t 83) (.t 84), none⟩,⟨some 86, .load false 1 (.t 85) [], none⟩,⟨some 87, .bsl 1 1 [.int .i64 0] [(0, (.t 86))] false, none⟩,⟨some 88, .call false 21 [(.t 87)], none⟩,⟨some 89, .call false 24 [(.t 82), (.t 88)], none⟩,⟨some 81, .mv (.t 89), none⟩,⟨some 90, .ext (.t 81) 0, none⟩,⟨some 91, .ext (.t 81) 1, none⟩,⟨some 12, .mv (.t 90), none⟩,⟨some 13, .mv (.t 91), none⟩]
def r3_17 : List POp := [⟨some 92, .mv (.t 13), none⟩,⟨some 93, .un .not (.t 92), none⟩]
def r3_18 : List POp := [⟨some 2, .mv (.k (.bool false)), none⟩]
def r3_19 : List POp := [⟨some 94, .mv (.t 12), none⟩,⟨some 3, .mv (.t 94), none⟩]
def r3_6 : List POp := [⟨some 26, .mv (.t 4), none⟩,⟨some 27, .bin .add (.t 26) (.k (.int .i64 1)), none⟩,⟨some 4, .mv (.t 27), none⟩]
def b3_0 : PCode := (.seq (.seq (.ops false r3_5) (.cond (.t 25) .skip (.exit 0))) (.seq (.block 1 (.seq (.ops true r3_7) (.seq (.seq (.ops false r3_8) (.block 2 (.loop b3_1))) (.seq (.ops false r3_12) (.seq (.ops false r3_13) (.seq (.seq (.ops false r3_14) (.cond (.t 80) (.seq (.ops false r3_15) .ret) .skip)) (.seq (.ops false r3_16) (.seq (.seq (.ops false r3_17) (.cond (.t 93) (.seq (.ops false r3_18) .ret) .skip)) (.ops false r3_19))))))))) (.ops false r3_6)))
def r3_20 : List POp := [⟨some 96, .mv (.t 3), none⟩,⟨some 97, .call false 22 [(.t 96)], none⟩,⟨some 95, .mv (.t 97), none⟩,⟨some 98, .ext (.t 95) 0, none⟩,⟨some 99, .ext (.t 95) 1, none⟩,⟨some 14, .mv (.t 98), none⟩,⟨some 15, .mv (.t 99), none⟩]
def r3_21 : List POp := [⟨some 100, .mv (.t 3), none⟩,⟨some 101, .len (.t 100), none⟩,⟨some 102, .bin .eql (.t 101) (.k (.int .i64 0)), none⟩,⟨some 103, .mv (.t 102), none⟩,⟨some 104, .mv (.t 15), (some (103, true))⟩,⟨some 105, .un .not (.t 104), (some (103, true))⟩,⟨some 106, .pick (.t 103) (.t 105) (.k (.bool false)), none⟩,⟨some 107, .mv (.t 106), none⟩,⟨some 108, .call false 20 [], (some (107, true))⟩,⟨some 109, .pick (.t 107) (.t 108) (.k (.bool false)), none⟩,⟨some 2, .mv (.t 109), none⟩]
def p3 : PCode := (.seq (.ops false r3_0) (.seq (.seq (.ops false r3_1) (.cond (.t 18) (.seq (.ops false r3_2) .ret) .skip)) (.seq (.ops false r3_3) (.seq (.seq (.ops false r3_4) (.block 0 (.loop b3_0))) (.seq (.ops false r3_20) (.seq (.ops false r3_21) .ret))))))
def rs3 : List RS := [.t 2]
theorem c3 : chkF Try.prog Try.f3 1 p3 rs3 = true := by kernel_rfl
/- cuboid/cuboidlaw08.BagMany -/
def r4_0 : List POp := [⟨some 6, .mv (.k (.bool false)), none⟩]
def r4_1 : List POp := [⟨some 15, .mv (.t 2), none⟩,⟨some 16, .bin .rem (.t 15) (.k (.int .u64 1099511627776)), none⟩,⟨some 17, .conv .i64 (.t 16), none⟩,⟨some 7, .mv (.t 17), none⟩]
def r4_2 : List POp := [⟨some 18, .mv (.t 0), none⟩,⟨some 19, .mv (.t 7), none⟩,⟨some 20, .bin .sub (.k (.int .i64 1099511627776)) (.t 19), none⟩,⟨some 21, .build [.int .i64 0, .int .i64 0] [(0, 1, (.t 18)), (1, 1, (.t 20))], none⟩,⟨some 22, .bsl 2 1 [.int .i64 0, .int .i64 0] [(0, (.t 21))] false, none⟩,⟨some 8, .mv (.t 22), none⟩]
def r4_3 : List POp := [⟨some 23, .mv (.t 1), none⟩,⟨some 24, .mv (.t 7), none⟩,⟨some 25, .build [.int .i64 0, .int .i64 0] [(0, 1, (.t 23)), (1, 1, (.t 24))], none⟩,⟨some 26, .bsl 2 1 [.int .i64 0, .int .i64 0] [(0, (.t 25))] false, none⟩,⟨some 9, .mv (.t 26), none⟩]
def r4_4 : List POp := [⟨some 27, .mv (.t 7), none⟩,⟨some 28, .bin .eql (.t 27) (.k (.int .i64 0)), none⟩]
def r4_5 : List POp := [⟨some 9, .mv (.k (.sl [])), none⟩]
def r4_6 : List POp := [⟨some 29, .mv (.t 1), none⟩,⟨some 30, .mv (.t 7), none⟩,⟨some 31, .bin .add (.t 30) (.k (.int .i64 1)), none⟩,⟨some 32, .build [.int .i64 0, .int .i64 0] [(0, 1, (.t 29)), (1, 1, (.t 31))], none⟩,⟨some 33, .bsl 2 1 [.int .i64 0, .int .i64 0] [(0, (.t 32))] false, none⟩,⟨some 10, .mv (.t 33), none⟩]
def r4_7 : List POp := [⟨some 35, .mv (.t 8), none⟩,⟨some 36, .mv (.t 9), none⟩,⟨some 37, .call false 25 [(.t 35), (.t 36)], none⟩,⟨some 34, .mv (.t 37), none⟩,⟨some 38, .ext (.t 34) 0, none⟩,⟨some 39, .ext (.t 34) 1, none⟩,⟨some 11, .mv (.t 38), none⟩,⟨some 12, .mv (.t 39), none⟩]
def r4_8 : List POp := [⟨some 41, .mv (.t 8), none⟩,⟨some 42, .mv (.t 10), none⟩,⟨some 43, .call false 25 [(.t 41), (.t 42)], none⟩,⟨some 40, .mv (.t 43), none⟩,⟨some 44, .ext (.t 40) 0, none⟩,⟨some 45, .ext (.t 40) 1, none⟩,⟨some 13, .mv (.t 44), none⟩,⟨some 14, .mv (.t 45), none⟩]
def r4_9 : List POp := [⟨some 46, .mv (.t 8), none⟩,⟨some 47, .call false 26 [(.t 46)], none⟩,⟨some 48, .mv (.t 47), none⟩,⟨some 49, .mv (.t 12), (some (48, true))⟩,⟨some 50, .pick (.t 48) (.t 49) (.k (.bool false)), none⟩,⟨some 51, .mv (.t 50), none⟩,⟨some 52, .mv (.t 11), (some (51, true))⟩,⟨some 53, .call false 27 [(.t 52)], (some (51, true))⟩,⟨some 54, .bin .eql (.t 53) (.k (.int .i64 1099511627776)), (some (51, true))⟩,⟨some 55, .pick (.t 51) (.t 54) (.k (.bool false)), none⟩,⟨some 56, .mv (.t 55), none⟩,⟨some 57, .mv (.t 14), (some (56, true))⟩,⟨some 58, .un .not (.t 57), (some (56, true))⟩,⟨some 59, .pick (.t 56) (.t 58) (.k (.bool false)), none⟩,⟨some 60, .mv (.t 59), none⟩,⟨some 61, .mv (.t 0), (some (60, true))⟩,⟨some 62, .build [.int .i64 0, .int .i64 0] [(0, 1, (.t 61)), (1, 1, (.k (.int .i64 1099511627777)))], (some (60, true))⟩,⟨some 63, .bsl 2 1 [.int .i64 0, .int .i64 0] [(0, (.t 62))] false, (some (60, true))⟩,⟨some 64, .call false 26 [(.t 63)], (some (60, true))⟩,⟨some 65, .un .not (.t 64), (some (60, true))⟩,⟨some 66, .pick (.t 60) (.t 65) (.k (.bool false)), none⟩,⟨some 67, .mv (.t 66), none⟩,⟨some 68, .call false 20 [], (some (67, true))⟩,⟨some 69, .pick (.t 67) (.t 68) (.k (.bool false)), none⟩,⟨some 6, .mv (.t 69), none⟩]
def p4 : PCode := (.seq (.ops false r4_0) (.seq (.ops false r4_1) (.seq (.ops false r4_2) (.seq (.ops false r4_3) (.seq (.seq (.ops false r4_4) (.cond (.t 28) (.ops false r4_5) .skip)) (.seq (.ops false r4_6) (.seq (.ops false r4_7) (.seq (.ops false r4_8) (.seq (.ops false r4_9) .ret)))))))))
def rs4 : List RS := [.t 6]
theorem c4 : chkF Try.prog Try.f4 3 p4 rs4 = true := by kernel_rfl
/- cuboid/cuboidlaw09.CellJoins -/
def r9_0 : List POp := [⟨some 6, .mv (.k (.bool false)), none⟩]
def r9_1 : List POp := [⟨some 18, .mv (.t 1), none⟩,⟨some 19, .len (.t 18), none⟩,⟨some 20, .bin .gtr (.t 19) (.k (.int .i64 60)), none⟩,⟨some 21, .mv (.t 20), none⟩,⟨some 22, .mv (.t 2), (some (21, false))⟩,⟨some 23, .len (.t 22), (some (21, false))⟩,⟨some 24, .bin .gtr (.t 23) (.k (.int .i64 60)), (some (21, false))⟩,⟨some 25, .pick (.t 21) (.k (.bool true)) (.t 24), none⟩]
def r9_2 : List POp := [⟨some 26, .call false 43 [], none⟩,⟨some 6, .mv (.t 26), none⟩]
def r9_3 : List POp := [⟨some 27, .mv (.t 0), none⟩,⟨some 28, .call false 54 [(.t 27)], none⟩,⟨some 7, .mv (.t 28), none⟩]
def r9_4 : List POp := [⟨some 30, .mv (.t 7), none⟩,⟨some 31, .mv (.t 1), none⟩,⟨some 32, .call false 45 [(.t 30), (.t 31)], none⟩,⟨some 29, .mv (.t 32), none⟩,⟨some 33, .ext (.t 29) 0, none⟩,⟨some 34, .ext (.t 29) 1, none⟩,⟨some 8, .alloc [.int .i64 0, .int .i64 0, .int .i64 0, .sl [], .sl []], none⟩,⟨none, .store 5 (.t 8) (.t 33) [], none⟩,⟨some 9, .mv (.t 34), none⟩]
def r9_5 : List POp := [⟨some 36, .mv (.t 7), none⟩,⟨some 37, .mv (.t 2), none⟩,⟨some 38, .call false 45 [(.t 36), (.t 37)], none⟩,⟨some 35, .mv (.t 38), none⟩,⟨some 39, .ext (.t 35) 0, none⟩,⟨some 40, .ext (.t 35) 1, none⟩,⟨some 10, .alloc [.int .i64 0, .int .i64 0, .int .i64 0, .sl [], .sl []], none⟩,⟨none, .store 5 (.t 10) (.t 39) [], none⟩,⟨some 11, .mv (.t 40), none⟩]
def r9_6 : List POp := [⟨some 42, .mv (.t 7), none⟩,⟨some 43, .bsl 6 0 [.int .u8 0, .int .u8 0, .int .u8 0, .int .u8 0, .int .i64 0, .int .i64 0] [] true, none⟩,⟨some 44, .mv (.t 1), none⟩,⟨some 45, .app 6 (.t 43) (.t 44) true, none⟩,⟨some 46, .mv (.t 2), none⟩,⟨some 47, .app 6 (.t 45) (.t 46) false, none⟩,⟨some 48, .call false 45 [(.t 42), (.t 47)], none⟩,⟨some 41, .mv (.t 48), none⟩,⟨some 49, .ext (.t 41) 0, none⟩,⟨some 50, .ext (.t 41) 1, none⟩,⟨some 12, .alloc [.int .i64 0, .int .i64 0, .int .i64 0, .sl [], .sl []], none⟩,⟨none, .store 5 (.t 12) (.t 49) [], none⟩,⟨some 13, .mv (.t 50), none⟩]
def r9_7 : List POp := [⟨some 51, .mv (.t 9), none⟩,⟨some 52, .mv (.t 51), none⟩,⟨some 53, .mv (.t 11), (some (52, true))⟩,⟨some 54, .pick (.t 52) (.t 53) (.k (.bool false)), none⟩]
def r9_8 : List POp := [⟨some 56, .mv (.t 7), none⟩,⟨some 57, .load true 5 (.t 8) [], none⟩,⟨some 58, .load true 5 (.t 10) [], none⟩,⟨some 59, .call false 51 [(.t 56), (.t 57), (.t 58)], none⟩,⟨some 55, .mv (.t 59), none⟩,⟨some 60, .ext (.t 55) 0, none⟩,⟨some 61, .ext (.t 55) 1, none⟩,⟨some 14, .alloc [.int .i64 0, .int .i64 0, .int .i64 0, .sl [], .sl []], none⟩,⟨none, .store 5 (.t 14) (.t 60) [], none⟩,⟨some 15, .mv (.t 61), none⟩]
def r9_9 : List POp := [⟨some 63, .mv (.t 7), none⟩,⟨some 64, .load true 5 (.t 10) [], none⟩,⟨some 65, .load true 5 (.t 8) [], none⟩,⟨some 66, .call false 51 [(.t 63), (.t 64), (.t 65)], none⟩,⟨some 62, .mv (.t 66), none⟩,⟨some 67, .ext (.t 62) 0, none⟩,⟨some 68, .ext (.t 62) 1, none⟩,⟨some 16, .alloc [.int .i64 0, .int .i64 0, .int .i64 0, .sl [], .sl []], none⟩,⟨none, .store 5 (.t 16) (.t 67) [], none⟩,⟨some 17, .mv (.t 68), none⟩]
def r9_10 : List POp := [⟨some 69, .mv (.t 15), none⟩,⟨some 70, .mv (.t 13), none⟩,⟨some 71, .eqs false false [.b] (.t 69) (.t 70), none⟩,⟨some 72, .mv (.t 71), none⟩,⟨some 73, .mv (.t 17), (some (72, true))⟩,⟨some 74, .mv (.t 13), (some (72, true))⟩,⟨some 75, .eqs false false [.b] (.t 73) (.t 74), (some (72, true))⟩,⟨some 76, .pick (.t 72) (.t 75) (.k (.bool false)), none⟩,⟨some 77, .mv (.t 76), none⟩,⟨some 78, .load true 5 (.t 14) [], (some (77, true))⟩,⟨some 79, .load true 5 (.t 12) [], (some (77, true))⟩,⟨some 80, .call false 53 [(.t 78), (.t 79)], (some (77, true))⟩,⟨some 81, .pick (.t 77) (.t 80) (.k (.bool false)), none⟩,⟨some 82, .mv (.t 81), none⟩,⟨some 83, .load true 5 (.t 16) [], (some (82, true))⟩,⟨some 84, .load true 5 (.t 12) [], (some (82, true))⟩,⟨some 85, .call false 53 [(.t 83), (.t 84)], (some (82, true))⟩,⟨some 86, .pick (.t 82) (.t 85) (.k (.bool false)), none⟩,⟨some 87, .mv (.t 86), none⟩,⟨some 88, .call false 43 [], (some (87, true))⟩,⟨some 89, .pick (.t 87) (.t 88) (.k (.bool false)), none⟩,⟨some 6, .mv (.t 89), none⟩]
def r9_11 : List POp := [⟨some 90, .mv (.t 1), none⟩,⟨some 91, .len (.t 90), none⟩,⟨some 92, .bin .eql (.t 91) (.k (.int .i64 0)), none⟩,⟨some 93, .mv (.t 92), none⟩,⟨some 94, .mv (.t 9), (some (93, true))⟩,⟨some 95, .mv (.t 94), (some (93, true))⟩,⟨some 96, .mv (.t 11), (some (95, false))⟩,⟨some 97, .mv (.t 13), (some (95, false))⟩,⟨some 98, .eqs true false [.b] (.t 96) (.t 97), (some (95, false))⟩,⟨some 99, .pick (.t 95) (.k (.bool true)) (.t 98), (some (93, true))⟩,⟨some 100, .mv (.t 99), (some (93, true))⟩,⟨some 101, .load true 5 (.t 10) [], (some (100, false))⟩,⟨some 102, .load true 5 (.t 12) [], (some (100, false))⟩,⟨some 103, .call false 53 [(.t 101), (.t 102)], (some (100, false))⟩,⟨some 104, .un .not (.t 103), (some (100, false))⟩,⟨some 105, .pick (.t 100) (.k (.bool true)) (.t 104), (some (93, true))⟩,⟨some 106, .pick (.t 93) (.t 105) (.k (.bool false)), none⟩,⟨some 107, .mv (.t 106), none⟩,⟨some 108, .mv (.t 2), (some (107, false))⟩,⟨some 109, .len (.t 108), (some (107, false))⟩,⟨some 110, .bin .eql (.t 109) (.k (.int .i64 0)), (some (107, false))⟩,⟨some 111, .mv (.t 110), (some (107, false))⟩,⟨some 112, .mv (.t 11), (some (111, true))⟩,⟨some 113, .mv (.t 112), (some (111, true))⟩,⟨some 114, .mv (.t 9), (some (113, false))⟩,⟨some 115, .mv (.t 13), (some (113, false))⟩,⟨some 116, .eqs true false [.b] (.t 114) (.t 115), (some (113, false))⟩,⟨some 117, .pick (.t 113) (.k (.bool true)) (.t 116), (some (111, true))⟩,⟨some 118, .mv (.t 117), (some (111, true))⟩,⟨some 119, .load true 5 (.t 8) [], (some (118, false))⟩,⟨some 120, .load true 5 (.t 12) [], (some (118, false))⟩,⟨some 121, .call false 53 [(.t 119), (.t 120)], (some (118, false))⟩,⟨some 122, .un .not (.t 121), (some (118, false))⟩,⟨some 123, .pick (.t 118) (.k (.bool true)) (.t 122), (some (111, true))⟩,⟨some 124, .pick (.t 111) (.t 123) (.k (.bool false)), (some (107, false))⟩,⟨some 125, .pick (.t 107) (.k (.bool true)) (.t 124), none⟩]
def r9_12 : List POp := [⟨some 6, .mv (.k (.bool false)), none⟩]
def r9_13 : List POp := [⟨some 126, .call false 43 [], none⟩,⟨some 6, .mv (.t 126), none⟩]
def p9 : PCode := (.seq (.ops false r9_0) (.seq (.seq (.ops false r9_1) (.cond (.t 25) (.seq (.ops false r9_2) .ret) .skip)) (.seq (.ops false r9_3) (.seq (.ops false r9_4) (.seq (.ops false r9_5) (.seq (.ops false r9_6) (.seq (.seq (.ops false r9_7) (.cond (.t 54) (.seq (.ops false r9_8) (.seq (.ops false r9_9) (.seq (.ops false r9_10) .ret))) .skip)) (.seq (.seq (.ops false r9_11) (.cond (.t 125) (.seq (.ops false r9_12) .ret) .skip)) (.seq (.ops false r9_13) .ret)))))))))
def rs9 : List RS := [.t 6]
theorem c9 : chkF Try.prog Try.f9 3 p9 rs9 = true := by kernel_rfl
/- cuboid/cuboidlaw09.CellMean -/
def r12_0 : List POp := [⟨some 6, .mv (.k (.bool false)), none⟩]
def r12_1 : List POp := [⟨some 11, .mv (.t 2), none⟩,⟨some 12, .conv .i64 (.t 11), none⟩,⟨some 13, .bin .add (.t 12) (.k (.int .i64 1)), none⟩,⟨some 7, .mv (.t 13), none⟩]
def r12_2 : List POp := [⟨some 14, .mv (.t 1), none⟩,⟨some 15, .conv .i64 (.t 14), none⟩,⟨some 16, .bin .add (.t 15) (.k (.int .i64 1)), none⟩,⟨some 17, .build [.int .u8 0, .int .u8 0, .int .u8 0, .int .u8 0, .int .i64 0, .int .i64 0, .int .i64 0, .int .i64 0, .int .i64 0, .int .i64 0, .int .i64 0] [(4, 1, (.t 16))], none⟩,⟨some 8, .alloc [.int .u8 0, .int .u8 0, .int .u8 0, .int .u8 0, .int .i64 0, .int .i64 0, .int .i64 0, .int .i64 0, .int .i64 0, .int .i64 0, .int .i64 0], none⟩,⟨none, .store 11 (.t 8) (.t 17) [], none⟩]
def r12_3 : List POp := [⟨some 18, .mv (.t 0), none⟩,⟨some 19, .conv .i64 (.t 18), none⟩,⟨some 20, .fad 5 (.t 8), none⟩,⟨some 21, .iaA 2 1 (.t 20) (.k (.int .i64 0)), none⟩,⟨none, .store 1 (.t 21) (.t 19) [], none⟩]
def r12_4 : List POp := [⟨some 22, .fad 4 (.t 8), none⟩,⟨some 23, .load false 1 (.t 22) [], none⟩,⟨some 24, .mv (.t 7), none⟩,⟨some 25, .bin .mul (.t 23) (.t 24), none⟩,⟨some 26, .build [.int .u8 0, .int .u8 0, .int .u8 0, .int .u8 0, .int .i64 0, .int .i64 0, .int .i64 0, .int .i64 0, .int .i64 0, .int .i64 0, .int .i64 0] [(4, 1, (.t 25))], none⟩,⟨some 9, .alloc [.int .u8 0, .int .u8 0, .int .u8 0, .int .u8 0, .int .i64 0, .int .i64 0, .int .i64 0, .int .i64 0, .int .i64 0, .int .i64 0, .int .i64 0], none⟩,⟨none, .store 11 (.t 9) (.t 26) [], none⟩]
def r12_5 : List POp := [⟨some 27, .fad 5 (.t 8), none⟩,⟨some 28, .iaA 2 1 (.t 27) (.k (.int .i64 0)), none⟩,⟨some 29, .load false 1 (.t 28) [], none⟩,⟨some 30, .mv (.t 7), none⟩,⟨some 31, .bin .mul (.t 29) (.t 30), none⟩,⟨some 32, .fad 5 (.t 9), none⟩,⟨some 33, .iaA 2 1 (.t 32) (.k (.int .i64 0)), none⟩,⟨none, .store 1 (.t 33) (.t 31) [], none⟩]
def r12_6 : List POp := [⟨some 34, .load true 11 (.t 9) [], none⟩,⟨some 10, .alloc [.int .u8 0, .int .u8 0, .int .u8 0, .int .u8 0, .int .i64 0, .int .i64 0, .int .i64 0, .int .i64 0, .int .i64 0, .int .i64 0, .int .i64 0], none⟩,⟨none, .store 11 (.t 10) (.t 34) [], none⟩]
def r12_7 : List POp := [⟨some 35, .fad 5 (.t 10), none⟩,⟨some 36, .iaA 2 1 (.t 35) (.k (.int .i64 0)), none⟩,⟨some 37, .load false 1 (.t 36) [], none⟩,⟨some 38, .bin .add (.t 37) (.k (.int .i64 1)), none⟩,⟨some 39, .fad 5 (.t 10), none⟩,⟨some 40, .iaA 2 1 (.t 39) (.k (.int .i64 0)), none⟩,⟨none, .store 1 (.t 40) (.t 38) [], none⟩]
def r12_8 : List POp := [⟨some 41, .load true 11 (.t 8) [], none⟩,⟨some 42, .load true 11 (.t 9) [], none⟩,⟨some 43, .call false 55 [(.k (.int .i64 5)), (.k (.int .i64 0)), (.t 41), (.t 42)], none⟩,⟨some 44, .bin .eql (.t 43) (.k (.int .i64 0)), none⟩,⟨some 45, .mv (.t 44), none⟩,⟨some 46, .load true 11 (.t 8) [], (some (45, true))⟩,⟨some 47, .load true 11 (.t 10) [], (some (45, true))⟩,⟨some 48, .call false 55 [(.k (.int .i64 5)), (.k (.int .i64 0)), (.t 46), (.t 47)], (some (45, true))⟩,⟨some 49, .bin .eql (.t 48) (.k (.int .i64 1)), (some (45, true))⟩,⟨some 50, .pick (.t 45) (.t 49) (.k (.bool false)), none⟩,⟨some 51, .mv (.t 50), none⟩,⟨some 52, .load true 11 (.t 10) [], (some (51, true))⟩,⟨some 53, .load true 11 (.t 8) [], (some (51, true))⟩,⟨some 54, .call false 55 [(.k (.int .i64 5)), (.k (.int .i64 0)), (.t 52), (.t 53)], (some (51, true))⟩,⟨some 55, .bin .eql (.t 54) (.k (.int .i64 (-1))), (some (51, true))⟩,⟨some 56, .pick (.t 51) (.t 55) (.k (.bool false)), none⟩,⟨some 57, .mv (.t 56), none⟩,⟨some 58, .load true 11 (.t 9) [], (some (57, true))⟩,⟨some 59, .load true 11 (.t 10) [], (some (57, true))⟩,⟨some 60, .call false 55 [(.k (.int .i64 5)), (.k (.int .i64 0)), (.t 58), (.t 59)], (some (57, true))⟩,⟨some 61, .bin .eql (.t 60) (.k (.int .i64 1)), (some (57, true))⟩,⟨some 62, .pick (.t 57) (.t 61) (.k (.bool false)), none⟩,⟨some 63, .mv (.t 62), none⟩,⟨some 64, .call false 43 [], (some (63, true))⟩,⟨some 65, .pick (.t 63) (.t 64) (.k (.bool false)), none⟩,⟨some 6, .mv (.t 65), none⟩]
def p12 : PCode := (.seq (.ops false r12_0) (.seq (.ops false r12_1) (.seq (.ops false r12_2) (.seq (.ops false r12_3) (.seq (.ops false r12_4) (.seq (.ops false r12_5) (.seq (.ops false r12_6) (.seq (.ops false r12_7) (.seq (.ops false r12_8) .ret)))))))))
def rs12 : List RS := [.t 6]
theorem c12 : chkF Try.prog Try.f12 3 p12 rs12 = true := by kernel_rfl
/- cuboid/cuboidlaw10.DeltaRows -/
def r17_0 : List POp := [⟨some 3, .box 2 (.t 0), none⟩,⟨some 6, .mv (.k (.bool false)), none⟩]
def r17_1 : List POp := [⟨some 24, .load true 2 (.t 3) [], none⟩,⟨some 25, .call false 78 [(.t 24)], none⟩,⟨some 26, .un .not (.t 25), none⟩,⟨some 27, .mv (.t 26), none⟩,⟨some 28, .mv (.t 1), (some (27, false))⟩,⟨some 29, .len (.t 28), (some (27, false))⟩,⟨some 30, .bin .gtr (.t 29) (.k (.int .i64 40)), (some (27, false))⟩,⟨some 31, .pick (.t 27) (.k (.bool true)) (.t 30), none⟩,⟨some 32, .mv (.t 31), none⟩,⟨some 33, .mv (.t 2), (some (32, false))⟩,⟨some 34, .len (.t 33), (some (32, false))⟩,⟨some 35, .bin .gtr (.t 34) (.k (.int .i64 40)), (some (32, false))⟩,⟨some 36, .pick (.t 32) (.k (.bool true)) (.t 35), none⟩]
def r17_2 : List POp := [⟨some 37, .call false 58 [], none⟩,⟨some 6, .mv (.t 37), none⟩]
def r17_3 : List POp := [⟨some 38, .load true 2 (.t 3) [], none⟩,⟨some 39, .mv (.t 1), none⟩,⟨some 40, .mv (.t 2), none⟩,⟨some 41, .call false 79 [(.t 38), (.t 39), (.t 40)], none⟩,⟨some 7, .alloc [.sl [], .int .i64 0, .int .i64 0], none⟩,⟨none, .store 3 (.t 7) (.t 41) [], none⟩]
def r17_4 : List POp := [⟨some 42, .fad 2 (.t 7), none⟩,⟨some 43, .load false 1 (.t 42) [], none⟩,⟨some 44, .bin .neq (.t 43) (.k (.int .i64 0)), none⟩]
def r17_5 : List POp := [⟨some 45, .call false 58 [], none⟩,⟨some 6, .mv (.t 45), none⟩]
def r17_6 : List POp := [⟨some 46, .fad 1 (.t 3), none⟩,⟨some 47, .load false 1 (.t 46) [], none⟩,⟨some 8, .mv (.t 47), none⟩]
def r17_7 : List POp := [⟨some 9, .alloc [.int .i64 0, .int .i64 0, .int .i64 0, .sl [], .sl [], .sl [], .sl []], none⟩]
def r17_8 : List POp := [⟨some 10, .mv (.k (.int .i64 0)), none⟩]
def r17_9 : List POp := [⟨some 48, .mv (.t 10), none⟩,⟨some 49, .mv (.t 2), none⟩,⟨some 50, .len (.t 49), none⟩,⟨some 51, .bin .lss (.t 48) (.t 50), none⟩]
def r17_11 : List POp := [⟨some 55, .mv (.t 8), none⟩,⟨some 56, .mv (.t 2), none⟩,⟨some 57, .mv (.t 10), none⟩,⟨some 58, .iaS 7 (.t 56) (.t 57), none⟩,⟨some 59, .load true 7 (.t 58) [], none⟩,⟨some 60, .call false 59 [(.t 55), (.t 59)], none⟩,⟨some 54, .mv (.t 60), none⟩,⟨some 61, .ext (.t 54) 0, none⟩,⟨some 62, .ext (.t 54) 1, none⟩,⟨some 11, .alloc [.int .i64 0, .int .i64 0, .int .i64 0, .sl [], .sl [], .sl [], .sl []], none⟩,⟨none, .store 7 (.t 11) (.t 61) [], none⟩,⟨some 12, .mv (.t 62), none⟩]
def r17_12 : List POp := [⟨some 64, .mv (.t 8), none⟩,⟨some 65, .load true 7 (.t 9) [], none⟩,⟨some 66, .load true 7 (.t 11) [], none⟩,⟨some 67, .call false 69 [(.t 64), (.t 65), (.t 66)], none⟩,⟨some 63, .mv (.t 67), none⟩,⟨some 68, .ext (.t 63) 0, none⟩,⟨some 69, .ext (.t 63) 1, none⟩,⟨some 13, .alloc [.int .i64 0, .int .i64 0, .int .i64 0, .sl [], .sl [], .sl [], .sl []], none⟩,⟨none, .store 7 (.t 13) (.t 68) [], none⟩,⟨some 14, .mv (.t 69), none⟩]
def r17_13 : List POp := [⟨some 70, .mv (.t 12), none⟩,⟨some 71, .un .not (.t 70), none⟩,⟨some 72, .mv (.t 71), none⟩,⟨some 73, .mv (.t 14), (some (72, false))⟩,⟨some 74, .un .not (.t 73), (some (72, false))⟩,⟨some 75, .pick (.t 72) (.k (.bool true)) (.t 74), none⟩]
def r17_14 : List POp := [⟨some 6, .mv (.k (.bool false)), none⟩]
def r17_15 : List POp := [⟨some 76, .load true 7 (.t 13) [], none⟩,⟨none, .store 7 (.t 9) (.t 76) [], none⟩]
def r17_10 : List POp := [⟨some 52, .mv (.t 10), none⟩,⟨some 53, .bin .add (.t 52) (.k (.int .i64 1)), none⟩,⟨some 10, .mv (.t 53), none⟩]
def b17_0 : PCode := (.seq (.seq (.ops false r17_9) (.cond (.t 51) .skip (.exit 0))) (.seq (.block 1 (.seq (.ops false r17_11) (.seq (.ops false r17_12) (.seq (.seq (.ops false r17_13) (.cond (.t 75) (.seq (.ops false r17_14) .ret) .skip)) (.ops false r17_15))))) (.ops false r17_10)))
def r17_16 : List POp := [⟨some 78, .mv (.t 8), none⟩,⟨some 79, .mv (.t 1), none⟩,⟨some 80, .call false 45 [(.t 78), (.t 79)], none⟩,⟨some 77, .mv (.t 80), none⟩,⟨some 81, .ext (.t 77) 0, none⟩,⟨some 82, .ext (.t 77) 1, none⟩,⟨some 15, .alloc [.int .i64 0, .int .i64 0, .int .i64 0, .sl [], .sl []], none⟩,⟨none, .store 5 (.t 15) (.t 81) [], none⟩,⟨some 16, .mv (.t 82), none⟩]
def r17_17 : List POp := [⟨some 84, .mv (.t 8), none⟩,⟨some 85, .fad 0 (.t 7), none⟩,⟨some 86, .load false 1 (.t 85) [], none⟩,⟨some 87, .call false 45 [(.t 84), (.t 86)], none⟩,⟨some 83, .mv (.t 87), none⟩,⟨some 88, .ext (.t 83) 0, none⟩,⟨some 89, .ext (.t 83) 1, none⟩,⟨some 17, .alloc [.int .i64 0, .int .i64 0, .int .i64 0, .sl [], .sl []], none⟩,⟨none, .store 5 (.t 17) (.t 88) [], none⟩,⟨some 18, .mv (.t 89), none⟩]
def r17_18 : List POp := [⟨some 91, .mv (.t 8), none⟩,⟨some 92, .load true 5 (.t 15) [], none⟩,⟨some 93, .mv (.t 16), none⟩,⟨some 94, .load true 7 (.t 9) [], none⟩,⟨some 95, .call false 74 [(.t 91), (.t 92), (.t 93), (.t 94)], none⟩,⟨some 90, .mv (.t 95), none⟩,⟨some 96, .ext (.t 90) 0, none⟩,⟨some 97, .ext (.t 90) 1, none⟩,⟨some 98, .ext (.t 90) 2, none⟩,⟨some 19, .alloc [.int .i64 0, .int .i64 0, .int .i64 0, .sl [], .sl []], none⟩,⟨none, .store 5 (.t 19) (.t 96) [], none⟩,⟨some 20, .mv (.t 97), none⟩,⟨some 21, .mv (.t 98), none⟩]
def r17_19 : List POp := [⟨some 100, .mv (.t 8), none⟩,⟨some 101, .load true 5 (.t 15) [], none⟩,⟨some 102, .mv (.t 16), none⟩,⟨some 103, .load true 5 (.t 17) [], none⟩,⟨some 104, .mv (.t 18), none⟩,⟨some 105, .call false 76 [(.t 100), (.t 101), (.t 102), (.t 103), (.t 104)], none⟩,⟨some 99, .mv (.t 105), none⟩,⟨some 106, .ext (.t 99) 0, none⟩,⟨some 107, .ext (.t 99) 1, none⟩,⟨some 22, .alloc [.int .i64 0, .int .i64 0, .int .i64 0, .sl [], .sl [], .sl [], .sl []], none⟩,⟨none, .store 7 (.t 22) (.t 106) [], none⟩,⟨some 23, .mv (.t 107), none⟩]
def r17_20 : List POp := [⟨some 108, .mv (.t 21), none⟩,⟨some 109, .mv (.t 108), none⟩,⟨some 110, .mv (.t 20), (some (109, true))⟩,⟨some 111, .mv (.t 18), (some (109, true))⟩,⟨some 112, .eqs false false [.b] (.t 110) (.t 111), (some (109, true))⟩,⟨some 113, .pick (.t 109) (.t 112) (.k (.bool false)), none⟩,⟨some 114, .mv (.t 113), none⟩,⟨some 115, .load true 5 (.t 19) [], (some (114, true))⟩,⟨some 116, .load true 5 (.t 17) [], (some (114, true))⟩,⟨some 117, .call false 53 [(.t 115), (.t 116)], (some (114, true))⟩,⟨some 118, .pick (.t 114) (.t 117) (.k (.bool false)), none⟩,⟨some 119, .mv (.t 118), none⟩,⟨some 120, .mv (.t 23), (some (119, true))⟩,⟨some 121, .pick (.t 119) (.t 120) (.k (.bool false)), none⟩,⟨some 122, .mv (.t 121), none⟩,⟨some 123, .load true 7 (.t 9) [], (some (122, true))⟩,⟨some 124, .load true 7 (.t 22) [], (some (122, true))⟩,⟨some 125, .call false 71 [(.t 123), (.t 124)], (some (122, true))⟩,⟨some 126, .pick (.t 122) (.t 125) (.k (.bool false)), none⟩,⟨some 127, .mv (.t 126), none⟩,⟨some 128, .call false 58 [], (some (127, true))⟩,⟨some 129, .pick (.t 127) (.t 128) (.k (.bool false)), none⟩,⟨some 6, .mv (.t 129), none⟩]
def p17 : PCode := (.seq (.ops false r17_0) (.seq (.seq (.ops false r17_1) (.cond (.t 36) (.seq (.ops false r17_2) .ret) .skip)) (.seq (.ops false r17_3) (.seq (.seq (.ops false r17_4) (.cond (.t 44) (.seq (.ops false r17_5) .ret) .skip)) (.seq (.ops false r17_6) (.seq (.ops false r17_7) (.seq (.seq (.ops false r17_8) (.block 0 (.loop b17_0))) (.seq (.ops false r17_16) (.seq (.ops false r17_17) (.seq (.ops false r17_18) (.seq (.ops false r17_19) (.seq (.ops false r17_20) .ret))))))))))))
def rs17 : List RS := [.t 6]
theorem c17 : chkF Try.prog Try.f17 3 p17 rs17 = true := by kernel_rfl
/- cuboid/cuboidlaw08.wakes -/
/- cuboid/bag.Of -/
def r21_0 : List POp := [⟨some 2, .mv (.k (.sl [])), none⟩]
def r21_1 : List POp := [⟨some 3, .own0 2, none⟩]
def r21_2 : List POp := [⟨some 6, .mv (.t 0), none⟩,⟨some 7, .call false 83 [(.t 6)], none⟩,⟨some 8, .call false 82 [(.t 7)], none⟩,⟨some 9, .len (.t 8), none⟩,⟨some 10, .mv (.k (.int .i64 0)), none⟩]
def r21_3 : List POp := [⟨some 11, .bin .lss (.t 10) (.t 9), none⟩]
def r21_4 : List POp := [⟨some 12, .iaS 1 (.t 8) (.t 10), none⟩,⟨some 13, .load false 1 (.t 12) [], none⟩,⟨some 5, .mv (.t 13), none⟩]
def r21_5 : List POp := [⟨some 14, .mv (.t 3), none⟩,⟨some 15, .mv (.t 5), none⟩,⟨some 16, .call true 84 [(.t 14), (.t 15), (.k (.int .i64 1))], none⟩,⟨some 3, .mv (.t 16), none⟩]
def r21_6 : List POp := [⟨some 17, .bin .add (.t 10) (.k (.int .i64 1)), none⟩,⟨some 10, .mv (.t 17), none⟩]
def b21_0 : PCode := (.seq (.ops false r21_3) (.seq (.cond (.t 11) .skip (.exit 0)) (.seq (.block 1 (.seq (.ops false r21_4) (.ops false r21_5))) (.rn 3 3 (.ops false r21_6)))))
def r21_7 : List POp := [⟨some 18, .mv (.t 3), none⟩,⟨some 2, .mv (.t 18), none⟩]
def p21 : PCode := (.seq (.ops false r21_0) (.seq (.ops false r21_1) (.seq (.seq (.ops false r21_2) (.block 0 (.loop b21_0))) (.seq (.ops false r21_7) .ret))))
def rs21 : List RS := [.t 2]
theorem c21 : chkF Try.prog Try.f21 1 p21 rs21 = true := by kernel_rfl
/- cuboid/bag.Least -/
/- cuboid/bag.Greatest -/
/- cuboid/bag.Minus -/
def r24_0 : List POp := [⟨some 4, .mv (.k (.sl [])), none⟩,⟨some 5, .mv (.k (.bool false)), none⟩]
def r24_1 : List POp := [⟨some 9, .mv (.t 0), none⟩,⟨some 10, .call false 26 [(.t 9)], none⟩,⟨some 11, .un .not (.t 10), none⟩,⟨some 12, .mv (.t 11), none⟩,⟨some 13, .mv (.t 1), (some (12, false))⟩,⟨some 14, .call false 26 [(.t 13)], (some (12, false))⟩,⟨some 15, .un .not (.t 14), (some (12, false))⟩,⟨some 16, .pick (.t 12) (.k (.bool true)) (.t 15), none⟩]
def r24_2 : List POp := [⟨some 4, .mv (.k (.sl [])), none⟩,⟨some 5, .mv (.k (.bool false)), none⟩]
def r24_3 : List POp := [⟨some 6, .own0 2, none⟩]
def r24_4 : List POp := [⟨some 17, .mv (.t 0), none⟩,⟨some 18, .len (.t 17), none⟩,⟨some 19, .mv (.k (.int .i64 0)), none⟩]
def r24_5 : List POp := [⟨some 20, .bin .lss (.t 19) (.t 18), none⟩]
def r24_6 : List POp := [⟨some 21, .iaS 2 (.t 17) (.t 19), none⟩,⟨some 22, .load true 2 (.t 21) [], none⟩,⟨some 8, .alloc [.int .i64 0, .int .i64 0], none⟩,⟨none, .store 2 (.t 8) (.t 22) [], none⟩]
def r24_7 : List POp := [⟨some 23, .mv (.t 1), none⟩,⟨some 24, .len (.t 23), none⟩,⟨some 25, .bin .gtr (.t 24) (.k (.int .i64 0)), none⟩,⟨some 26, .mv (.t 25), none⟩,⟨some 27, .mv (.t 1), (some (26, true))⟩,⟨some 28, .iaS 2 (.t 27) (.k (.int .i64 0)), (some (26, true))⟩,⟨some 29, .fad 0 (.t 28), (some (26, true))⟩,⟨some 30, .load false 1 (.t 29) [], (some (26, true))⟩,⟨some 31, .fad 0 (.t 8), (some (26, true))⟩,⟨some 32, .load false 1 (.t 31) [], (some (26, true))⟩,⟨some 33, .bin .eql (.t 30) (.t 32), (some (26, true))⟩,⟨some 34, .pick (.t 26) (.t 33) (.k (.bool false)), none⟩]
def r24_8 : List POp := [⟨some 35, .fad 1 (.t 8), none⟩,⟨some 36, .load false 1 (.t 35) [], none⟩,⟨some 37, .mv (.t 1), none⟩,⟨some 38, .iaS 2 (.t 37) (.k (.int .i64 0)), none⟩,⟨some 39, .fad 1 (.t 38), none⟩,⟨some 40, .load false 1 (.t 39) [], none⟩,⟨some 41, .bin .sub (.t 36) (.t 40), none⟩,⟨some 42, .fad 1 (.t 8), none⟩,⟨none, .store 1 (.t 42) (.t 41) [], none⟩]
def r24_9 : List POp := [⟨some 43, .mv (.t 1), none⟩,⟨some 44, .slc 2 (.t 43) (some (.k (.int .i64 1))) none, none⟩,⟨some 1, .mv (.t 44), none⟩]
def r24_10 : List POp := [⟨some 45, .fad 1 (.t 8), none⟩,⟨some 46, .load false 1 (.t 45) [], none⟩,⟨some 47, .bin .lss (.t 46) (.k (.int .i64 0)), none⟩]
def r24_11 : List POp := [⟨some 4, .mv (.k (.sl [])), none⟩,⟨some 5, .mv (.k (.bool false)), none⟩]
def r24_12 : List POp := [⟨some 48, .fad 1 (.t 8), none⟩,⟨some 49, .load false 1 (.t 48) [], none⟩,⟨some 50, .bin .gtr (.t 49) (.k (.int .i64 0)), none⟩]
def r24_13 : List POp := [⟨some 51, .mv (.t 6), none⟩,⟨some 52, .load true 2 (.t 8) [], none⟩,⟨some 53, .bsl 2 1 [.int .i64 0, .int .i64 0] [(0, (.t 52))] false, none⟩,⟨some 54, .app 2 (.t 51) (.t 53) true, none⟩,⟨some 6, .mv (.t 54), none⟩]
def r24_14 : List POp := [⟨some 55, .bin .add (.t 19) (.k (.int .i64 1)), none⟩,⟨some 19, .mv (.t 55), none⟩]
def b24_0 : PCode := (.seq (.ops false r24_5) (.seq (.cond (.t 20) .skip (.exit 0)) (.seq (.block 1 (.seq (.ops false r24_6) (.seq (.seq (.ops true r24_7) (.cond (.t 34) (.seq (.ops true r24_8) (.ops false r24_9)) .skip)) (.seq (.seq (.ops false r24_10) (.cond (.t 47) (.seq (.ops false r24_11) .ret) .skip)) (.seq (.ops false r24_12) (.cond (.t 50) (.ops false r24_13) .skip)))))) (.rn 6 6 (.ops false r24_14)))))
def r24_15 : List POp := [⟨some 56, .mv (.t 1), none⟩,⟨some 57, .len (.t 56), none⟩,⟨some 58, .bin .gtr (.t 57) (.k (.int .i64 0)), none⟩]
def r24_16 : List POp := [⟨some 4, .mv (.k (.sl [])), none⟩,⟨some 5, .mv (.k (.bool false)), none⟩]
def r24_17 : List POp := [⟨some 59, .mv (.t 6), none⟩,⟨some 4, .mv (.t 59), none⟩,⟨some 5, .mv (.k (.bool true)), none⟩]
def p24 : PCode := (.seq (.ops false r24_0) (.seq (.seq (.ops false r24_1) (.cond (.t 16) (.seq (.ops false r24_2) .ret) .skip)) (.seq (.ops false r24_3) (.seq (.seq (.ops false r24_4) (.block 0 (.loop b24_0))) (.seq (.seq (.ops false r24_15) (.cond (.t 58) (.seq (.ops false r24_16) .ret) .skip)) (.seq (.ops false r24_17) .ret))))))
def rs24 : List RS := [.t 4, .t 5]
theorem c24 : chkF Try.prog Try.f24 2 p24 rs24 = true := by kernel_rfl
/- cuboid/bag.Join -/
def r25_0 : List POp := [⟨some 2, .box 1 (.t 0), none⟩,⟨some 3, .box 1 (.t 1), none⟩,⟨some 4, .mv (.k (.sl [])), none⟩,⟨some 5, .mv (.k (.bool false)), none⟩]
def r25_1 : List POp := [⟨some 8, .load false 1 (.t 2) [], none⟩,⟨some 9, .call false 26 [(.t 8)], none⟩,⟨some 10, .un .not (.t 9), none⟩,⟨some 11, .mv (.t 10), none⟩,⟨some 12, .load false 1 (.t 3) [], (some (11, false))⟩,⟨some 13, .call false 26 [(.t 12)], (some (11, false))⟩,⟨some 14, .un .not (.t 13), (some (11, false))⟩,⟨some 15, .pick (.t 11) (.k (.bool true)) (.t 14), none⟩,⟨some 16, .mv (.t 15), none⟩,⟨some 17, .load false 1 (.t 2) [], (some (16, false))⟩,⟨some 18, .call false 86 [(.t 17)], (some (16, false))⟩,⟨some 19, .load false 1 (.t 3) [], (some (16, false))⟩,⟨some 20, .call false 86 [(.t 19)], (some (16, false))⟩,⟨some 21, .bin .sub (.k (.int .i64 1099511627776)) (.t 20), (some (16, false))⟩,⟨some 22, .bin .gtr (.t 18) (.t 21), (some (16, false))⟩,⟨some 23, .pick (.t 16) (.k (.bool true)) (.t 22), none⟩]
def r25_2 : List POp := [⟨some 4, .mv (.k (.sl [])), none⟩,⟨some 5, .mv (.k (.bool false)), none⟩]
def r25_3 : List POp := [⟨some 6, .own0 2, none⟩]
def r25_4 : List POp := [⟨some 24, .load false 1 (.t 2) [], none⟩,⟨some 25, .len (.t 24), none⟩,⟨some 26, .bin .gtr (.t 25) (.k (.int .i64 0)), none⟩,⟨some 27, .mv (.t 26), none⟩,⟨some 28, .load false 1 (.t 3) [], (some (27, false))⟩,⟨some 29, .len (.t 28), (some (27, false))⟩,⟨some 30, .bin .gtr (.t 29) (.k (.int .i64 0)), (some (27, false))⟩,⟨some 31, .pick (.t 27) (.k (.bool true)) (.t 30), none⟩]
def r25_5 : List POp := [⟨some 7, .mv (.t 2), none⟩]
def r25_6 : List POp := [⟨some 32, .load false 1 (.t 2) [], none⟩,⟨some 33, .len (.t 32), none⟩,⟨some 34, .bin .eql (.t 33) (.k (.int .i64 0)), none⟩,⟨some 35, .mv (.t 34), none⟩,⟨some 36, .load false 1 (.t 3) [], (some (35, false))⟩,⟨some 37, .len (.t 36), (some (35, false))⟩,⟨some 38, .bin .gtr (.t 37) (.k (.int .i64 0)), (some (35, false))⟩,⟨some 39, .mv (.t 38), (some (35, false))⟩,⟨some 40, .load false 1 (.t 3) [], (some (39, true))⟩,⟨some 41, .iaS 2 (.t 40) (.k (.int .i64 0)), (some (39, true))⟩,⟨some 42, .fad 0 (.t 41), (some (39, true))⟩,⟨some 43, .load false 1 (.t 42) [], (some (39, true))⟩,⟨some 44, .load false 1 (.t 2) [], (some (39, true))⟩,⟨some 45, .iaS 2 (.t 44) (.k (.int .i64 0)), (some (39, true))⟩,⟨some 46, .fad 0 (.t 45), (some (39, true))⟩,⟨some 47, .load false 1 (.t 46) [], (some (39, true))⟩,⟨some 48, .bin .lss (.t 43) (.t 47), (some (39, true))⟩,⟨some 49, .pick (.t 39) (.t 48) (.k (.bool false)), (some (35, false))⟩,⟨some 50, .pick (.t 35) (.k (.bool true)) (.t 49), none⟩]
def r25_7 : List POp := [⟨some 7, .mv (.t 3), none⟩]
def r25_8 : List POp := [⟨some 51, .mv (.t 6), none⟩,⟨some 52, .mv (.t 7), none⟩,⟨some 53, .nilc (.t 52), none⟩,⟨some 54, .load false 1 (.t 53) [], none⟩,⟨some 55, .iaS 2 (.t 54) (.k (.int .i64 0)), none⟩,⟨some 56, .fad 0 (.t 55), none⟩,⟨some 57, .load false 1 (.t 56) [], none⟩,⟨some 58, .mv (.t 7), none⟩,⟨some 59, .nilc (.t 58), none⟩,⟨some 60, .load false 1 (.t 59) [], none⟩,⟨some 61, .iaS 2 (.t 60) (.k (.int .i64 0)), none⟩,⟨some 62, .fad 1 (.t 61), none⟩,⟨some 63, .load false 1 (.t 62) [], none⟩,⟨some 64, .call true 84 [(.t 51), (.t 57), (.t 63)], none⟩,⟨some 6, .mv (.t 64), none⟩]
def r25_9 : List POp := [⟨some 65, .mv (.t 7), none⟩,⟨some 66, .mv (.t 7), none⟩,⟨some 67, .nilc (.t 66), none⟩,⟨some 68, .load false 1 (.t 67) [], none⟩,⟨some 69, .slc 2 (.t 68) (some (.k (.int .i64 1))) none, none⟩,⟨some 70, .nilc (.t 65), none⟩,⟨none, .store 1 (.t 70) (.t 69) [], none⟩]
def b25_0 : PCode := (.seq (.seq (.ops false r25_4) (.cond (.t 31) .skip (.exit 0))) (.block 1 (.seq (.ops false r25_5) (.seq (.seq (.ops true r25_6) (.cond (.t 50) (.ops false r25_7) .skip)) (.seq (.ops true r25_8) (.rn 6 6 (.ops false r25_9)))))))
def r25_10 : List POp := [⟨some 71, .mv (.t 6), none⟩,⟨some 4, .mv (.t 71), none⟩,⟨some 5, .mv (.k (.bool true)), none⟩]
def p25 : PCode := (.seq (.ops false r25_0) (.seq (.seq (.ops true r25_1) (.cond (.t 23) (.seq (.ops false r25_2) .ret) .skip)) (.seq (.ops false r25_3) (.seq (.block 0 (.loop b25_0)) (.seq (.ops false r25_10) .ret)))))
def rs25 : List RS := [.t 4, .t 5]
theorem c25 : chkF Try.prog Try.f25 2 p25 rs25 = true := by kernel_rfl
/- cuboid/bag.Good -/
def r26_0 : List POp := [⟨some 2, .mv (.k (.bool false)), none⟩]
def r26_1 : List POp := [⟨some 3, .mv (.k (.int .i64 0)), none⟩]
def r26_2 : List POp := [⟨some 6, .mv (.t 0), none⟩,⟨some 7, .len (.t 6), none⟩,⟨some 8, .mv (.k (.int .i64 0)), none⟩]
def r26_3 : List POp := [⟨some 9, .bin .lss (.t 8) (.t 7), none⟩]
def r26_4 : List POp := [⟨some 10, .mv (.t 8), none⟩,⟨some 11, .iaS 2 (.t 6) (.t 8), none⟩,⟨some 12, .load true 2 (.t 11) [], none⟩,⟨some 5, .alloc [.int .i64 0, .int .i64 0], none⟩,⟨some 4, .mv (.t 10), none⟩,⟨none, .store 2 (.t 5) (.t 12) [], none⟩]
def r26_5 : List POp := [⟨some 13, .mv (.t 4), none⟩,⟨some 14, .bin .gtr (.t 13) (.k (.int .i64 0)), none⟩,⟨some 15, .mv (.t 14), none⟩,⟨some 16, .mv (.t 0), (some (15, true))⟩,⟨some 17, .mv (.t 4), (some (15, true))⟩,⟨some 18, .bin .sub (.t 17) (.k (.int .i64 1)), (some (15, true))⟩,⟨some 19, .iaS 2 (.t 16) (.t 18), (some (15, true))⟩,⟨some 20, .fad 0 (.t 19), (some (15, true))⟩,⟨some 21, .load false 1 (.t 20) [], (some (15, true))⟩,⟨some 22, .fad 0 (.t 5), (some (15, true))⟩,⟨some 23, .load false 1 (.t 22) [], (some (15, true))⟩,⟨some 24, .bin .geq (.t 21) (.t 23), (some (15, true))⟩,⟨some 25, .pick (.t 15) (.t 24) (.k (.bool false)), none⟩,⟨some 26, .mv (.t 25), none⟩,⟨some 27, .fad 1 (.t 5), (some (26, false))⟩,⟨some 28, .load false 1 (.t 27) [], (some (26, false))⟩,⟨some 29, .bin .lss (.t 28) (.k (.int .i64 1)), (some (26, false))⟩,⟨some 30, .pick (.t 26) (.k (.bool true)) (.t 29), none⟩,⟨some 31, .mv (.t 30), none⟩,⟨some 32, .fad 1 (.t 5), (some (31, false))⟩,⟨some 33, .load false 1 (.t 32) [], (some (31, false))⟩,⟨some 34, .mv (.t 3), (some (31, false))⟩,⟨some 35, .bin .sub (.k (.int .i64 1099511627776)) (.t 34), (some (31, false))⟩,⟨some 36, .bin .gtr (.t 33) (.t 35), (some (31, false))⟩,⟨some 37, .pick (.t 31) (.k (.bool true)) (.t 36), none⟩]
def r26_6 : List POp := [⟨some 2, .mv (.k (.bool false)), none⟩]
def r26_7 : List POp := [⟨some 38, .mv (.t 3), none⟩,⟨some 39, .fad 1 (.t 5), none⟩,⟨some 40, .load false 1 (.t 39) [], none⟩,⟨some 41, .bin .add (.t 38) (.t 40), none⟩,⟨some 3, .mv (.t 41), none⟩]
def r26_8 : List POp := [⟨some 42, .bin .add (.t 8) (.k (.int .i64 1)), none⟩,⟨some 8, .mv (.t 42), none⟩]
def b26_0 : PCode := (.seq (.ops false r26_3) (.seq (.cond (.t 9) .skip (.exit 0)) (.seq (.block 1 (.seq (.ops false r26_4) (.seq (.seq (.ops true r26_5) (.cond (.t 37) (.seq (.ops false r26_6) .ret) .skip)) (.ops false r26_7)))) (.ops false r26_8))))
def r26_9 : List POp := [⟨some 2, .mv (.k (.bool true)), none⟩]
def p26 : PCode := (.seq (.ops false r26_0) (.seq (.ops false r26_1) (.seq (.seq (.ops false r26_2) (.block 0 (.loop b26_0))) (.seq (.ops false r26_9) .ret))))
def rs26 : List RS := [.t 2]
theorem c26 : chkF Try.prog Try.f26 1 p26 rs26 = true := by kernel_rfl
/- cuboid/bag.Count -/
def r27_0 : List POp := [⟨some 2, .mv (.k (.int .i64 0)), none⟩]
def r27_1 : List POp := [⟨some 3, .mv (.t 0), none⟩,⟨some 4, .call false 26 [(.t 3)], none⟩,⟨some 5, .un .not (.t 4), none⟩]
def r27_2 : List POp := [⟨some 2, .mv (.k (.int .i64 0)), none⟩]
def r27_3 : List POp := [⟨some 6, .mv (.t 0), none⟩,⟨some 7, .call false 86 [(.t 6)], none⟩,⟨some 2, .mv (.t 7), none⟩]
def p27 : PCode := (.seq (.ops false r27_0) (.seq (.seq (.ops false r27_1) (.cond (.t 5) (.seq (.ops false r27_2) .ret) .skip)) (.seq (.ops false r27_3) .ret)))
def rs27 : List RS := [.t 2]
theorem c27 : chkF Try.prog Try.f27 1 p27 rs27 = true := by kernel_rfl
/- cuboid/bag.Same -/
def r29_0 : List POp := [⟨some 4, .mv (.k (.bool false)), none⟩]
def r29_1 : List POp := [⟨some 5, .mv (.t 0), none⟩,⟨some 6, .mv (.t 1), none⟩,⟨some 7, .call false 87 [(.t 5), (.t 6)], none⟩,⟨some 4, .mv (.t 7), none⟩]
def p29 : PCode := (.seq (.ops false r29_0) (.seq (.ops false r29_1) .ret))
def rs29 : List RS := [.t 4]
theorem c29 : chkF Try.prog Try.f29 2 p29 rs29 = true := by kernel_rfl
/- cuboid/bag.Has -/
def r30_0 : List POp := [⟨some 4, .mv (.k (.int .i64 0)), none⟩]
def r30_1 : List POp := [⟨some 7, .mv (.t 0), none⟩,⟨some 8, .call false 26 [(.t 7)], none⟩,⟨some 9, .un .not (.t 8), none⟩]
def r30_2 : List POp := [⟨some 4, .mv (.k (.int .i64 0)), none⟩]
def r30_3 : List POp := [⟨some 10, .mv (.t 0), none⟩,⟨some 11, .len (.t 10), none⟩,⟨some 12, .mv (.k (.int .i64 0)), none⟩]
def r30_4 : List POp := [⟨some 13, .bin .lss (.t 12) (.t 11), none⟩]
def r30_5 : List POp := [⟨some 14, .iaS 2 (.t 10) (.t 12), none⟩,⟨some 15, .load true 2 (.t 14) [], none⟩,⟨some 6, .alloc [.int .i64 0, .int .i64 0], none⟩,⟨none, .store 2 (.t 6) (.t 15) [], none⟩]
def r30_6 : List POp := [⟨some 16, .fad 0 (.t 6), none⟩,⟨some 17, .load false 1 (.t 16) [], none⟩,⟨some 18, .mv (.t 1), none⟩,⟨some 19, .bin .eql (.t 17) (.t 18), none⟩]
def r30_7 : List POp := [⟨some 20, .fad 1 (.t 6), none⟩,⟨some 21, .load false 1 (.t 20) [], none⟩,⟨some 4, .mv (.t 21), none⟩]
def r30_8 : List POp := [⟨some 22, .bin .add (.t 12) (.k (.int .i64 1)), none⟩,⟨some 12, .mv (.t 22), none⟩]
def b30_0 : PCode := (.seq (.ops false r30_4) (.seq (.cond (.t 13) .skip (.exit 0)) (.seq (.block 1 (.seq (.ops false r30_5) (.seq (.ops false r30_6) (.cond (.t 19) (.seq (.ops false r30_7) .ret) .skip)))) (.ops false r30_8))))
def r30_9 : List POp := [⟨some 4, .mv (.k (.int .i64 0)), none⟩]
def p30 : PCode := (.seq (.ops false r30_0) (.seq (.seq (.ops false r30_1) (.cond (.t 9) (.seq (.ops false r30_2) .ret) .skip)) (.seq (.seq (.ops false r30_3) (.block 0 (.loop b30_0))) (.seq (.ops false r30_9) .ret))))
def rs30 : List RS := [.t 4]
theorem c30 : chkF Try.prog Try.f30 2 p30 rs30 = true := by kernel_rfl
/- cuboid/bag.Sum -/
def r31_0 : List POp := [⟨some 2, .mv (.k (.int .i64 0)), none⟩,⟨some 3, .mv (.k (.bool false)), none⟩]
def r31_1 : List POp := [⟨some 4, .mv (.t 0), none⟩,⟨some 5, .call false 26 [(.t 4)], none⟩,⟨some 6, .un .not (.t 5), none⟩]
def r31_2 : List POp := [⟨some 2, .mv (.k (.int .i64 0)), none⟩,⟨some 3, .mv (.k (.bool false)), none⟩]
def r31_3 : List POp := [⟨some 7, .mv (.t 0), none⟩,⟨some 8, .call false 88 [(.t 7), (.k (.sl []))], none⟩,⟨some 9, .call false 89 [(.t 8)], none⟩,⟨some 10, .ext (.t 9) 0, none⟩,⟨some 11, .ext (.t 9) 1, none⟩,⟨some 2, .mv (.t 10), none⟩,⟨some 3, .mv (.t 11), none⟩]
def p31 : PCode := (.seq (.ops false r31_0) (.seq (.seq (.ops false r31_1) (.cond (.t 6) (.seq (.ops false r31_2) .ret) .skip)) (.seq (.ops false r31_3) .ret)))
def rs31 : List RS := [.t 2, .t 3]
theorem c31 : chkF Try.prog Try.f31 1 p31 rs31 = true := by kernel_rfl
/- cuboid/calc.Total -/
def r32_0 : List POp := [⟨some 2, .mv (.k (.int .i64 0)), none⟩,⟨some 3, .mv (.k (.bool false)), none⟩]
def r32_1 : List POp := [⟨some 4, .alloc [.int .i64 0, .int .u64 0], none⟩]
def r32_2 : List POp := [⟨some 7, .mv (.t 0), none⟩,⟨some 8, .len (.t 7), none⟩,⟨some 9, .mv (.k (.int .i64 0)), none⟩]
def r32_3 : List POp := [⟨some 10, .bin .lss (.t 9) (.t 8), none⟩]
def r32_4 : List POp := [⟨some 11, .iaS 1 (.t 7) (.t 9), none⟩,⟨some 12, .load false 1 (.t 11) [], none⟩,⟨some 6, .mv (.t 12), none⟩]
def r32_5 : List POp := [⟨some 13, .load true 2 (.t 4) [], none⟩,⟨some 14, .mv (.t 6), none⟩,⟨some 15, .call false 90 [(.t 13), (.t 14), (.k (.int .i64 1))], none⟩,⟨none, .store 2 (.t 4) (.t 15) [], none⟩]
def r32_6 : List POp := [⟨some 16, .bin .add (.t 9) (.k (.int .i64 1)), none⟩,⟨some 9, .mv (.t 16), none⟩]
def b32_0 : PCode := (.seq (.ops false r32_3) (.seq (.cond (.t 10) .skip (.exit 0)) (.seq (.block 1 (.seq (.ops false r32_4) (.ops false r32_5))) (.ops false r32_6))))
def r32_7 : List POp := [⟨some 17, .load true 2 (.t 4) [], none⟩,⟨some 18, .call false 89 [(.t 17)], none⟩,⟨some 19, .ext (.t 18) 0, none⟩,⟨some 20, .ext (.t 18) 1, none⟩,⟨some 2, .mv (.t 19), none⟩,⟨some 3, .mv (.t 20), none⟩]
def p32 : PCode := (.seq (.ops false r32_0) (.seq (.ops false r32_1) (.seq (.seq (.ops false r32_2) (.block 0 (.loop b32_0))) (.seq (.ops false r32_7) .ret))))
def rs32 : List RS := [.t 2, .t 3]
theorem c32 : chkF Try.prog Try.f32 1 p32 rs32 = true := by kernel_rfl
/- cuboid/cuboidref08.Of -/
/- cuboid/cuboidref08.Good -/
/- cuboid/cuboidref08.Count -/
/- cuboid/cuboidlaw08.sum -/
/- cuboid/cuboidlaw08.ends -/
/- cuboid/cuboidref08.Has -/
/- cuboid/cuboidref08.Join -/
/- cuboid/cuboidref08.Minus -/
/- cuboid/cuboidref08.Same -/
/- cuboid/cuboidkeep.LightCell -/
/- cuboid/cuboidlaw09.wakes -/
/- cuboid/cuboidref09.Of -/
/- cuboid/cell.Of -/
def r45_0 : List POp := [⟨some 4, .alloc [.int .i64 0, .int .i64 0, .int .i64 0, .sl [], .sl []], none⟩,⟨some 5, .mv (.k (.bool false)), none⟩]
def r45_1 : List POp := [⟨some 13, .mv (.t 1), none⟩,⟨some 14, .len (.t 13), none⟩,⟨some 15, .build [.int .i64 0, .int .i64 0, .int .i64 0, .sl [], .sl []] [(0, 1, (.t 14))], none⟩,⟨some 6, .alloc [.int .i64 0, .int .i64 0, .int .i64 0, .sl [], .sl []], none⟩,⟨none, .store 5 (.t 6) (.t 15) [], none⟩]
def r45_2 : List POp := [⟨some 16, .mv (.t 0), none⟩,⟨some 17, .call false 94 [(.t 16)], none⟩,⟨some 18, .un .not (.t 17), none⟩,⟨some 19, .mv (.t 18), none⟩,⟨some 20, .mv (.t 1), (some (19, false))⟩,⟨some 21, .len (.t 20), (some (19, false))⟩,⟨some 22, .bin .eql (.t 21) (.k (.int .i64 0)), (some (19, false))⟩,⟨some 23, .pick (.t 19) (.k (.bool true)) (.t 22), none⟩]
def r45_3 : List POp := [⟨some 24, .build [.int .i64 0, .int .i64 0, .int .i64 0, .sl [], .sl []] [], none⟩,⟨none, .store 5 (.t 4) (.t 24) [], none⟩,⟨some 5, .mv (.k (.bool false)), none⟩]
def r45_4 : List POp := [⟨some 25, .mv (.t 0), none⟩,⟨some 26, .mv (.k (.int .i64 0)), none⟩]
def r45_5 : List POp := [⟨some 27, .bin .lss (.t 26) (.t 25), none⟩]
def r45_6 : List POp := [⟨some 28, .mv (.t 26), none⟩,⟨some 7, .mv (.t 28), none⟩]
def r45_7 : List POp := [⟨some 8, .own0 1, none⟩]
def r45_8 : List POp := [⟨some 29, .mv (.t 1), none⟩,⟨some 30, .len (.t 29), none⟩,⟨some 31, .mv (.k (.int .i64 0)), none⟩]
def r45_9 : List POp := [⟨some 32, .bin .lss (.t 31) (.t 30), none⟩]
def r45_10 : List POp := [⟨some 33, .iaS 6 (.t 29) (.t 31), none⟩,⟨some 34, .load true 6 (.t 33) [], none⟩,⟨some 10, .alloc [.int .u8 0, .int .u8 0, .int .u8 0, .int .u8 0, .int .i64 0, .int .i64 0], none⟩,⟨none, .store 6 (.t 10) (.t 34) [], none⟩]
def r45_11 : List POp := [⟨some 35, .mv (.t 8), none⟩,⟨some 36, .mv (.t 7), none⟩,⟨some 37, .fad 4 (.t 10), none⟩,⟨some 38, .iaA 2 1 (.t 37) (.t 36), none⟩,⟨some 39, .load false 1 (.t 38) [], none⟩,⟨some 40, .bsl 1 1 [.int .i64 0] [(0, (.t 39))] false, none⟩,⟨some 41, .app 1 (.t 35) (.t 40) true, none⟩,⟨some 8, .mv (.t 41), none⟩]
def r45_12 : List POp := [⟨some 42, .bin .add (.t 31) (.k (.int .i64 1)), none⟩,⟨some 31, .mv (.t 42), none⟩]
def b45_1 : PCode := (.seq (.ops false r45_9) (.seq (.cond (.t 32) .skip (.exit 2)) (.seq (.block 3 (.seq (.ops false r45_10) (.ops false r45_11))) (.rn 8 8 (.ops false r45_12)))))
def r45_13 : List POp := [⟨some 43, .mv (.t 7), none⟩,⟨some 44, .mv (.t 8), none⟩,⟨some 45, .call false 21 [(.t 44)], none⟩,⟨some 46, .fad 3 (.t 6), none⟩,⟨some 47, .iaA 2 1 (.t 46) (.t 43), none⟩,⟨none, .store 1 (.t 47) (.t 45) [], none⟩]
def r45_14 : List POp := [⟨some 49, .mv (.t 7), none⟩,⟨some 50, .fad 3 (.t 6), none⟩,⟨some 51, .iaA 2 1 (.t 50) (.t 49), none⟩,⟨some 52, .load false 1 (.t 51) [], none⟩,⟨some 53, .call false 31 [(.t 52)], none⟩,⟨some 48, .mv (.t 53), none⟩,⟨some 54, .ext (.t 48) 0, none⟩,⟨some 55, .ext (.t 48) 1, none⟩,⟨some 11, .mv (.t 54), none⟩,⟨some 12, .mv (.t 55), none⟩]
def r45_15 : List POp := [⟨some 56, .mv (.t 12), none⟩,⟨some 57, .un .not (.t 56), none⟩]
def r45_16 : List POp := [⟨some 58, .build [.int .i64 0, .int .i64 0, .int .i64 0, .sl [], .sl []] [], none⟩,⟨none, .store 5 (.t 4) (.t 58) [], none⟩,⟨some 5, .mv (.k (.bool false)), none⟩]
def r45_17 : List POp := [⟨some 59, .mv (.t 7), none⟩,⟨some 60, .mv (.t 11), none⟩,⟨some 61, .fad 1 (.t 6), none⟩,⟨some 62, .iaA 2 1 (.t 61) (.t 59), none⟩,⟨none, .store 1 (.t 62) (.t 60) [], none⟩]
def r45_18 : List POp := [⟨some 63, .bin .add (.t 26) (.k (.int .i64 1)), none⟩,⟨some 26, .mv (.t 63), none⟩]
def b45_0 : PCode := (.seq (.ops false r45_5) (.seq (.cond (.t 27) .skip (.exit 0)) (.seq (.block 1 (.seq (.ops false r45_6) (.seq (.ops false r45_7) (.seq (.seq (.ops false r45_8) (.block 2 (.loop b45_1))) (.seq (.fz 8 (.ops false r45_13)) (.seq (.ops false r45_14) (.seq (.seq (.ops false r45_15) (.cond (.t 57) (.seq (.ops false r45_16) .ret) .skip)) (.ops false r45_17)))))))) (.ops false r45_18))))
def r45_19 : List POp := [⟨some 64, .load true 5 (.t 6) [], none⟩,⟨none, .store 5 (.t 4) (.t 64) [], none⟩,⟨some 5, .mv (.k (.bool true)), none⟩]
def p45 : PCode := (.seq (.ops false r45_0) (.seq (.ops false r45_1) (.seq (.seq (.ops false r45_2) (.cond (.t 23) (.seq (.ops false r45_3) .ret) .skip)) (.seq (.seq (.ops false r45_4) (.block 0 (.loop b45_0))) (.seq (.ops false r45_19) .ret)))))
def rs45 : List RS := [.cell 4 true 5, .t 5]
theorem c45 : chkF Try.prog Try.f45 2 p45 rs45 = true := by kernel_rfl
/- cuboid/cuboidref09.Same -/
/- cuboid/cell.Good -/
def r47_0 : List POp := [⟨some 3, .box 5 (.t 1), none⟩,⟨some 4, .mv (.k (.bool false)), none⟩]
def r47_1 : List POp := [⟨some 9, .mv (.t 0), none⟩,⟨some 10, .call false 94 [(.t 9)], none⟩,⟨some 11, .un .not (.t 10), none⟩,⟨some 12, .mv (.t 11), none⟩,⟨some 13, .fad 0 (.t 3), (some (12, false))⟩,⟨some 14, .load false 1 (.t 13) [], (some (12, false))⟩,⟨some 15, .bin .lss (.t 14) (.k (.int .i64 1)), (some (12, false))⟩,⟨some 16, .pick (.t 12) (.k (.bool true)) (.t 15), none⟩,⟨some 17, .mv (.t 16), none⟩,⟨some 18, .fad 0 (.t 3), (some (17, false))⟩,⟨some 19, .load false 1 (.t 18) [], (some (17, false))⟩,⟨some 20, .bin .gtr (.t 19) (.k (.int .i64 1099511627776)), (some (17, false))⟩,⟨some 21, .pick (.t 17) (.k (.bool true)) (.t 20), none⟩]
def r47_2 : List POp := [⟨some 4, .mv (.k (.bool false)), none⟩]
def r47_3 : List POp := [⟨some 22, .fad 3 (.t 3), none⟩,⟨some 23, .load true 2 (.t 22) [], none⟩,⟨some 24, .mv (.k (.int .i64 0)), none⟩]
def r47_4 : List POp := [⟨some 25, .bin .lss (.t 24) (.k (.int .i64 2)), none⟩]
def r47_5 : List POp := [⟨some 26, .mv (.t 24), none⟩,⟨some 27, .idA false 2 1 (.t 23) (.t 24), none⟩,⟨some 5, .mv (.t 26), none⟩,⟨some 6, .mv (.t 27), none⟩]
def r47_6 : List POp := [⟨some 28, .mv (.t 5), none⟩,⟨some 29, .mv (.t 0), none⟩,⟨some 30, .bin .geq (.t 28) (.t 29), none⟩]
def r47_7 : List POp := [⟨some 31, .mv (.t 5), none⟩,⟨some 32, .fad 1 (.t 3), none⟩,⟨some 33, .iaA 2 1 (.t 32) (.t 31), none⟩,⟨some 34, .load false 1 (.t 33) [], none⟩,⟨some 35, .bin .neq (.t 34) (.k (.int .i64 0)), none⟩,⟨some 36, .mv (.t 35), none⟩,⟨some 37, .mv (.t 6), (some (36, false))⟩,⟨some 38, .len (.t 37), (some (36, false))⟩,⟨some 39, .bin .gtr (.t 38) (.k (.int .i64 0)), (some (36, false))⟩,⟨some 40, .pick (.t 36) (.k (.bool true)) (.t 39), none⟩]
def r47_8 : List POp := [⟨some 4, .mv (.k (.bool false)), none⟩]
def r47_9 : List POp := [⟨some 42, .mv (.t 6), none⟩,⟨some 43, .call false 31 [(.t 42)], none⟩,⟨some 41, .mv (.t 43), none⟩,⟨some 44, .ext (.t 41) 0, none⟩,⟨some 45, .ext (.t 41) 1, none⟩,⟨some 7, .mv (.t 44), none⟩,⟨some 8, .mv (.t 45), none⟩]
def r47_10 : List POp := [⟨some 46, .mv (.t 8), none⟩,⟨some 47, .un .not (.t 46), none⟩,⟨some 48, .mv (.t 47), none⟩,⟨some 49, .mv (.t 7), (some (48, false))⟩,⟨some 50, .mv (.t 5), (some (48, false))⟩,⟨some 51, .fad 1 (.t 3), (some (48, false))⟩,⟨some 52, .iaA 2 1 (.t 51) (.t 50), (some (48, false))⟩,⟨some 53, .load false 1 (.t 52) [], (some (48, false))⟩,⟨some 54, .bin .neq (.t 49) (.t 53), (some (48, false))⟩,⟨some 55, .pick (.t 48) (.k (.bool true)) (.t 54), none⟩,⟨some 56, .mv (.t 55), none⟩,⟨some 57, .mv (.t 6), (some (56, false))⟩,⟨some 58, .call false 27 [(.t 57)], (some (56, false))⟩,⟨some 59, .fad 0 (.t 3), (some (56, false))⟩,⟨some 60, .load false 1 (.t 59) [], (some (56, false))⟩,⟨some 61, .bin .neq (.t 58) (.t 60), (some (56, false))⟩,⟨some 62, .pick (.t 56) (.k (.bool true)) (.t 61), none⟩]
def r47_11 : List POp := [⟨some 4, .mv (.k (.bool false)), none⟩]
def r47_12 : List POp := [⟨some 63, .bin .add (.t 24) (.k (.int .i64 1)), none⟩,⟨some 24, .mv (.t 63), none⟩]
def b47_0 : PCode := (.seq (.ops false r47_4) (.seq (.cond (.t 25) .skip (.exit 0)) (.seq (.block 1 (.seq (.ops false r47_5) (.seq (.seq (.ops false r47_6) (.cond (.t 30) (.seq (.seq (.ops false r47_7) (.cond (.t 40) (.seq (.ops false r47_8) .ret) .skip)) (.exit 1)) .skip)) (.seq (.ops false r47_9) (.seq (.ops true r47_10) (.cond (.t 62) (.seq (.ops false r47_11) .ret) .skip)))))) (.ops false r47_12))))
def r47_13 : List POp := [⟨some 4, .mv (.k (.bool true)), none⟩]
def p47 : PCode := (.seq (.ops false r47_0) (.seq (.seq (.ops false r47_1) (.cond (.t 21) (.seq (.ops false r47_2) .ret) .skip)) (.seq (.seq (.ops false r47_3) (.block 0 (.loop b47_0))) (.seq (.ops false r47_13) .ret))))
def rs47 : List RS := [.t 4]
theorem c47 : chkF Try.prog Try.f47 2 p47 rs47 = true := by kernel_rfl
/- cuboid/cuboidref09.Good -/
/- cuboid/cell.Line -/
/- cuboid/cuboidref09.Line -/
/- cuboid/cell.Join -/
/- cuboid/cuboidref09.Join -/
/- cuboid/cell.Same -/
def r53_0 : List POp := [⟨some 2, .box 5 (.t 0), none⟩,⟨some 3, .box 5 (.t 1), none⟩,⟨some 4, .mv (.k (.bool false)), none⟩]
def r53_1 : List POp := [⟨some 6, .fad 0 (.t 2), none⟩,⟨some 7, .load false 1 (.t 6) [], none⟩,⟨some 8, .fad 0 (.t 3), none⟩,⟨some 9, .load false 1 (.t 8) [], none⟩,⟨some 10, .bin .neq (.t 7) (.t 9), none⟩,⟨some 11, .mv (.t 10), none⟩,⟨some 12, .fad 1 (.t 2), (some (11, false))⟩,⟨some 13, .load true 2 (.t 12) [], (some (11, false))⟩,⟨some 14, .fad 1 (.t 3), (some (11, false))⟩,⟨some 15, .load true 2 (.t 14) [], (some (11, false))⟩,⟨some 16, .eqs true true [.i, .i] (.t 13) (.t 15), (some (11, false))⟩,⟨some 17, .pick (.t 11) (.k (.bool true)) (.t 16), none⟩]
def r53_2 : List POp := [⟨some 4, .mv (.k (.bool false)), none⟩]
def r53_3 : List POp := [⟨some 18, .mv (.k (.int .i64 0)), none⟩]
def r53_4 : List POp := [⟨some 19, .bin .lss (.t 18) (.k (.int .i64 2)), none⟩]
def r53_5 : List POp := [⟨some 20, .mv (.t 18), none⟩,⟨some 5, .mv (.t 20), none⟩]
def r53_6 : List POp := [⟨some 21, .mv (.t 5), none⟩,⟨some 22, .fad 3 (.t 2), none⟩,⟨some 23, .iaA 2 1 (.t 22) (.t 21), none⟩,⟨some 24, .load false 1 (.t 23) [], none⟩,⟨some 25, .mv (.t 5), none⟩,⟨some 26, .fad 3 (.t 3), none⟩,⟨some 27, .iaA 2 1 (.t 26) (.t 25), none⟩,⟨some 28, .load false 1 (.t 27) [], none⟩,⟨some 29, .call false 29 [(.t 24), (.t 28)], none⟩,⟨some 30, .un .not (.t 29), none⟩]
def r53_7 : List POp := [⟨some 4, .mv (.k (.bool false)), none⟩]
def r53_8 : List POp := [⟨some 31, .bin .add (.t 18) (.k (.int .i64 1)), none⟩,⟨some 18, .mv (.t 31), none⟩]
def b53_0 : PCode := (.seq (.ops false r53_4) (.seq (.cond (.t 19) .skip (.exit 0)) (.seq (.block 1 (.seq (.ops false r53_5) (.seq (.ops true r53_6) (.cond (.t 30) (.seq (.ops false r53_7) .ret) .skip)))) (.ops false r53_8))))
def r53_9 : List POp := [⟨some 4, .mv (.k (.bool true)), none⟩]
def p53 : PCode := (.seq (.ops false r53_0) (.seq (.seq (.ops false r53_1) (.cond (.t 17) (.seq (.ops false r53_2) .ret) .skip)) (.seq (.seq (.ops false r53_3) (.block 0 (.loop b53_0))) (.seq (.ops false r53_9) .ret))))
def rs53 : List RS := [.t 4]
theorem c53 : chkF Try.prog Try.f53 2 p53 rs53 = true := by kernel_rfl
/- cuboid/cuboidlaw09.many -/
/- cuboid/cell.Ahead -/
/- cuboid/cuboidref09.Ahead -/
/- cuboid/cuboidlaw10.wakes -/
def r58_0 : List POp := [⟨some 0, .mv (.k (.bool false)), none⟩]
def r58_1 : List POp := [⟨some 1, .alloc [.int .u8 0, .int .u8 0, .int .u8 0, .int .u8 0, .int .i64 0, .int .i64 0], none⟩]
def r58_2 : List POp := [⟨some 15, .fad 4 (.t 1), none⟩,⟨some 16, .iaA 2 1 (.t 15) (.k (.int .i64 0)), none⟩,⟨none, .store 1 (.t 16) (.k (.int .i64 5)) [], none⟩]
def r58_3 : List POp := [⟨some 18, .load true 6 (.t 1) [], none⟩,⟨some 19, .build [.bool false, .int .u8 0, .int .u8 0, .int .u8 0, .int .u8 0, .int .i64 0, .int .i64 0] [(1, 6, (.t 18))], none⟩,⟨some 20, .call false 59 [(.k (.int .i64 1)), (.t 19)], none⟩,⟨some 17, .mv (.t 20), none⟩,⟨some 21, .ext (.t 17) 0, none⟩,⟨some 22, .ext (.t 17) 1, none⟩,⟨some 2, .alloc [.int .i64 0, .int .i64 0, .int .i64 0, .sl [], .sl [], .sl [], .sl []], none⟩,⟨none, .store 7 (.t 2) (.t 21) [], none⟩,⟨some 3, .mv (.t 22), none⟩]
def r58_4 : List POp := [⟨some 24, .load true 7 (.t 2) [], none⟩,⟨some 25, .call false 63 [(.k (.int .i64 1)), (.t 24)], none⟩,⟨some 23, .mv (.t 25), none⟩,⟨some 26, .ext (.t 23) 0, none⟩,⟨some 27, .ext (.t 23) 1, none⟩,⟨some 4, .alloc [.int .i64 0, .int .i64 0, .int .i64 0, .sl [], .sl [], .sl [], .sl []], none⟩,⟨none, .store 7 (.t 4) (.t 26) [], none⟩,⟨some 5, .mv (.t 27), none⟩]
def r58_5 : List POp := [⟨some 29, .load true 6 (.t 1) [], none⟩,⟨some 30, .bsl 6 1 [.int .u8 0, .int .u8 0, .int .u8 0, .int .u8 0, .int .i64 0, .int .i64 0] [(0, (.t 29))] false, none⟩,⟨some 31, .call false 45 [(.k (.int .i64 1)), (.t 30)], none⟩,⟨some 28, .mv (.t 31), none⟩,⟨some 32, .ext (.t 28) 0, none⟩,⟨some 33, .ext (.t 28) 1, none⟩,⟨some 6, .alloc [.int .i64 0, .int .i64 0, .int .i64 0, .sl [], .sl []], none⟩,⟨none, .store 5 (.t 6) (.t 32) [], none⟩,⟨some 7, .mv (.t 33), none⟩]
def r58_6 : List POp := [⟨some 35, .load true 5 (.t 6) [], none⟩,⟨some 36, .load true 7 (.t 4) [], none⟩,⟨some 37, .call false 74 [(.k (.int .i64 1)), (.t 35), (.k (.bool true)), (.t 36)], none⟩,⟨some 34, .mv (.t 37), none⟩,⟨some 38, .ext (.t 34) 0, none⟩,⟨some 39, .ext (.t 34) 1, none⟩,⟨some 40, .ext (.t 34) 2, none⟩,⟨some 8, .alloc [.int .i64 0, .int .i64 0, .int .i64 0, .sl [], .sl []], none⟩,⟨none, .store 5 (.t 8) (.t 38) [], none⟩,⟨some 9, .mv (.t 39), none⟩,⟨some 10, .mv (.t 40), none⟩]
def r58_7 : List POp := [⟨some 42, .load true 7 (.t 2) [], none⟩,⟨some 43, .load true 7 (.t 4) [], none⟩,⟨some 44, .call false 69 [(.k (.int .i64 1)), (.t 42), (.t 43)], none⟩,⟨some 41, .mv (.t 44), none⟩,⟨some 45, .ext (.t 41) 0, none⟩,⟨some 46, .ext (.t 41) 1, none⟩,⟨some 11, .alloc [.int .i64 0, .int .i64 0, .int .i64 0, .sl [], .sl [], .sl [], .sl []], none⟩,⟨none, .store 7 (.t 11) (.t 45) [], none⟩,⟨some 12, .mv (.t 46), none⟩]
def r58_8 : List POp := [⟨some 48, .build [.int .i64 0, .int .i64 0, .int .i64 0, .sl [], .sl []] [], none⟩,⟨some 49, .load true 5 (.t 6) [], none⟩,⟨some 50, .call false 76 [(.k (.int .i64 1)), (.t 48), (.k (.bool false)), (.t 49), (.k (.bool true))], none⟩,⟨some 47, .mv (.t 50), none⟩,⟨some 51, .ext (.t 47) 0, none⟩,⟨some 52, .ext (.t 47) 1, none⟩,⟨some 13, .alloc [.int .i64 0, .int .i64 0, .int .i64 0, .sl [], .sl [], .sl [], .sl []], none⟩,⟨none, .store 7 (.t 13) (.t 51) [], none⟩,⟨some 14, .mv (.t 52), none⟩]
def r58_9 : List POp := [⟨some 53, .mv (.t 3), none⟩,⟨some 54, .mv (.t 53), none⟩,⟨some 55, .fad 0 (.t 2), (some (54, true))⟩,⟨some 56, .load false 1 (.t 55) [], (some (54, true))⟩,⟨some 57, .bin .eql (.t 56) (.k (.int .i64 1)), (some (54, true))⟩,⟨some 58, .pick (.t 54) (.t 57) (.k (.bool false)), none⟩,⟨some 59, .mv (.t 58), none⟩,⟨some 60, .fad 1 (.t 2), (some (59, true))⟩,⟨some 61, .iaA 2 1 (.t 60) (.k (.int .i64 0)), (some (59, true))⟩,⟨some 62, .load false 1 (.t 61) [], (some (59, true))⟩,⟨some 63, .bin .eql (.t 62) (.k (.int .i64 5)), (some (59, true))⟩,⟨some 64, .pick (.t 59) (.t 63) (.k (.bool false)), none⟩,⟨some 65, .mv (.t 64), none⟩,⟨some 66, .fad 3 (.t 2), (some (65, true))⟩,⟨some 67, .iaA 2 1 (.t 66) (.k (.int .i64 0)), (some (65, true))⟩,⟨some 68, .load false 1 (.t 67) [], (some (65, true))⟩,⟨some 69, .len (.t 68), (some (65, true))⟩,⟨some 70, .bin .eql (.t 69) (.k (.int .i64 1)), (some (65, true))⟩,⟨some 71, .pick (.t 65) (.t 70) (.k (.bool false)), none⟩,⟨some 72, .mv (.t 71), none⟩,⟨some 73, .mv (.t 5), (some (72, true))⟩,⟨some 74, .pick (.t 72) (.t 73) (.k (.bool false)), none⟩,⟨some 75, .mv (.t 74), none⟩,⟨some 76, .fad 0 (.t 4), (some (75, true))⟩,⟨some 77, .load false 1 (.t 76) [], (some (75, true))⟩,⟨some 78, .bin .eql (.t 77) (.k (.int .i64 (-1))), (some (75, true))⟩,⟨some 79, .pick (.t 75) (.t 78) (.k (.bool false)), none⟩,⟨some 80, .mv (.t 79), none⟩,⟨some 81, .fad 5 (.t 4), (some (80, true))⟩,⟨some 82, .iaA 2 1 (.t 81) (.k (.int .i64 0)), (some (80, true))⟩,⟨some 83, .load false 1 (.t 82) [], (some (80, true))⟩,⟨some 84, .len (.t 83), (some (80, true))⟩,⟨some 85, .bin .eql (.t 84) (.k (.int .i64 1)), (some (80, true))⟩,⟨some 86, .pick (.t 80) (.t 85) (.k (.bool false)), none⟩,⟨some 87, .mv (.t 86), none⟩,⟨some 88, .mv (.t 10), (some (87, true))⟩,⟨some 89, .pick (.t 87) (.t 88) (.k (.bool false)), none⟩,⟨some 90, .mv (.t 89), none⟩,⟨some 91, .mv (.t 9), (some (90, true))⟩,⟨some 92, .un .not (.t 91), (some (90, true))⟩,⟨some 93, .pick (.t 90) (.t 92) (.k (.bool false)), none⟩,⟨some 94, .mv (.t 93), none⟩,⟨some 95, .fad 0 (.t 8), (some (94, true))⟩,⟨some 96, .load false 1 (.t 95) [], (some (94, true))⟩,⟨some 97, .bin .eql (.t 96) (.k (.int .i64 0)), (some (94, true))⟩,⟨some 98, .pick (.t 94) (.t 97) (.k (.bool false)), none⟩,⟨some 99, .mv (.t 98), none⟩,⟨some 100, .mv (.t 12), (some (99, true))⟩,⟨some 101, .pick (.t 99) (.t 100) (.k (.bool false)), none⟩,⟨some 102, .mv (.t 101), none⟩,⟨some 103, .load true 7 (.t 11) [], (some (102, true))⟩,⟨some 104, .call false 67 [(.k (.int .i64 1)), (.t 103)], (some (102, true))⟩,⟨some 105, .pick (.t 102) (.t 104) (.k (.bool false)), none⟩,⟨some 106, .mv (.t 105), none⟩,⟨some 107, .load true 7 (.t 2) [], (some (106, true))⟩,⟨some 108, .call false 67 [(.k (.int .i64 1)), (.t 107)], (some (106, true))⟩,⟨some 109, .un .not (.t 108), (some (106, true))⟩,⟨some 110, .pick (.t 106) (.t 109) (.k (.bool false)), none⟩,⟨some 111, .mv (.t 110), none⟩,⟨some 112, .mv (.t 14), (some (111, true))⟩,⟨some 113, .pick (.t 111) (.t 112) (.k (.bool false)), none⟩,⟨some 114, .mv (.t 113), none⟩,⟨some 115, .load true 7 (.t 13) [], (some (114, true))⟩,⟨some 116, .load true 7 (.t 2) [], (some (114, true))⟩,⟨some 117, .call false 71 [(.t 115), (.t 116)], (some (114, true))⟩,⟨some 118, .pick (.t 114) (.t 117) (.k (.bool false)), none⟩,⟨some 119, .mv (.t 118), none⟩,⟨some 120, .load true 7 (.t 2) [], (some (119, true))⟩,⟨some 121, .call false 65 [(.k (.int .i64 1)), (.t 120)], (some (119, true))⟩,⟨some 122, .pick (.t 119) (.t 121) (.k (.bool false)), none⟩,⟨some 123, .mv (.t 122), none⟩,⟨some 124, .load true 7 (.t 2) [], (some (123, true))⟩,⟨some 125, .call false 65 [(.k (.int .i64 2)), (.t 124)], (some (123, true))⟩,⟨some 126, .un .not (.t 125), (some (123, true))⟩,⟨some 127, .pick (.t 123) (.t 126) (.k (.bool false)), none⟩,⟨some 0, .mv (.t 127), none⟩]
def p58 : PCode := (.seq (.ops false r58_0) (.seq (.ops false r58_1) (.seq (.ops false r58_2) (.seq (.ops false r58_3) (.seq (.ops false r58_4) (.seq (.ops false r58_5) (.seq (.ops false r58_6) (.seq (.ops false r58_7) (.seq (.ops false r58_8) (.seq (.ops false r58_9) .ret))))))))))
def rs58 : List RS := [.t 0]
theorem c58 : chkF Try.prog Try.f58 0 p58 rs58 = true := by kernel_rfl
/- cuboid/delta.Of -/
def r59_0 : List POp := [⟨some 3, .box 7 (.t 1), none⟩,⟨some 4, .alloc [.int .i64 0, .int .i64 0, .int .i64 0, .sl [], .sl [], .sl [], .sl []], none⟩,⟨some 5, .mv (.k (.bool false)), none⟩]
def r59_1 : List POp := [⟨some 9, .mv (.t 0), none⟩,⟨some 10, .fad 1 (.t 3), none⟩,⟨some 11, .load true 6 (.t 10) [], none⟩,⟨some 12, .bsl 6 1 [.int .u8 0, .int .u8 0, .int .u8 0, .int .u8 0, .int .i64 0, .int .i64 0] [(0, (.t 11))] false, none⟩,⟨some 13, .call false 45 [(.t 9), (.t 12)], none⟩,⟨some 8, .mv (.t 13), none⟩,⟨some 14, .ext (.t 8) 0, none⟩,⟨some 15, .ext (.t 8) 1, none⟩,⟨some 6, .alloc [.int .i64 0, .int .i64 0, .int .i64 0, .sl [], .sl []], none⟩,⟨none, .store 5 (.t 6) (.t 14) [], none⟩,⟨some 7, .mv (.t 15), none⟩]
def r59_2 : List POp := [⟨some 16, .mv (.t 7), none⟩,⟨some 17, .un .not (.t 16), none⟩]
def r59_3 : List POp := [⟨some 18, .build [.int .i64 0, .int .i64 0, .int .i64 0, .sl [], .sl [], .sl [], .sl []] [], none⟩,⟨none, .store 7 (.t 4) (.t 18) [], none⟩,⟨some 5, .mv (.k (.bool false)), none⟩]
def r59_4 : List POp := [⟨some 19, .fad 0 (.t 3), none⟩,⟨some 20, .load false 1 (.t 19) [], none⟩]
def r59_5 : List POp := [⟨some 21, .mv (.t 0), none⟩,⟨some 22, .load true 5 (.t 6) [], none⟩,⟨some 23, .build [.int .i64 0, .int .i64 0, .int .i64 0, .sl [], .sl []] [], none⟩,⟨some 24, .call false 76 [(.t 21), (.t 22), (.k (.bool true)), (.t 23), (.k (.bool false))], none⟩,⟨some 25, .ext (.t 24) 0, none⟩,⟨some 26, .ext (.t 24) 1, none⟩,⟨none, .store 7 (.t 4) (.t 25) [], none⟩,⟨some 5, .mv (.t 26), none⟩]
def r59_6 : List POp := [⟨some 27, .mv (.t 0), none⟩,⟨some 28, .build [.int .i64 0, .int .i64 0, .int .i64 0, .sl [], .sl []] [], none⟩,⟨some 29, .load true 5 (.t 6) [], none⟩,⟨some 30, .call false 76 [(.t 27), (.t 28), (.k (.bool false)), (.t 29), (.k (.bool true))], none⟩,⟨some 31, .ext (.t 30) 0, none⟩,⟨some 32, .ext (.t 30) 1, none⟩,⟨none, .store 7 (.t 4) (.t 31) [], none⟩,⟨some 5, .mv (.t 32), none⟩]
def p59 : PCode := (.seq (.ops false r59_0) (.seq (.ops false r59_1) (.seq (.seq (.ops false r59_2) (.cond (.t 17) (.seq (.ops false r59_3) .ret) .skip)) (.seq (.seq (.ops false r59_4) (.cond (.t 20) (.seq (.ops false r59_5) .ret) .skip)) (.seq (.ops false r59_6) .ret)))))
def rs59 : List RS := [.cell 4 true 7, .t 5]
theorem c59 : chkF Try.prog Try.f59 2 p59 rs59 = true := by kernel_rfl
/- cuboid/cuboidref10.Same -/
/- cuboid/delta.Neg -/
def r63_0 : List POp := [⟨some 3, .box 7 (.t 1), none⟩,⟨some 4, .alloc [.int .i64 0, .int .i64 0, .int .i64 0, .sl [], .sl [], .sl [], .sl []], none⟩,⟨some 5, .mv (.k (.bool false)), none⟩]
def r63_1 : List POp := [⟨some 10, .mv (.t 0), none⟩,⟨some 11, .load true 7 (.t 3) [], none⟩,⟨some 12, .call false 65 [(.t 10), (.t 11)], none⟩,⟨some 13, .un .not (.t 12), none⟩]
def r63_2 : List POp := [⟨some 14, .build [.int .i64 0, .int .i64 0, .int .i64 0, .sl [], .sl [], .sl [], .sl []] [], none⟩,⟨none, .store 7 (.t 4) (.t 14) [], none⟩,⟨some 5, .mv (.k (.bool false)), none⟩]
def r63_3 : List POp := [⟨some 15, .fad 0 (.t 3), none⟩,⟨some 16, .load false 1 (.t 15) [], none⟩,⟨some 17, .un .neg (.t 16), none⟩,⟨some 18, .build [.int .i64 0, .int .i64 0, .int .i64 0, .sl [], .sl [], .sl [], .sl []] [(0, 1, (.t 17))], none⟩,⟨some 6, .alloc [.int .i64 0, .int .i64 0, .int .i64 0, .sl [], .sl [], .sl [], .sl []], none⟩,⟨none, .store 7 (.t 6) (.t 18) [], none⟩]
def r63_4 : List POp := [⟨some 19, .mv (.t 0), none⟩,⟨some 20, .mv (.k (.int .i64 0)), none⟩]
def r63_5 : List POp := [⟨some 21, .bin .lss (.t 20) (.t 19), none⟩]
def r63_6 : List POp := [⟨some 22, .mv (.t 20), none⟩,⟨some 7, .mv (.t 22), none⟩]
def r63_7 : List POp := [⟨some 24, .mv (.t 7), none⟩,⟨some 25, .fad 1 (.t 3), none⟩,⟨some 26, .iaA 2 1 (.t 25) (.t 24), none⟩,⟨some 27, .load false 1 (.t 26) [], none⟩,⟨some 28, .call false 102 [(.t 27)], none⟩,⟨some 23, .mv (.t 28), none⟩,⟨some 29, .ext (.t 23) 0, none⟩,⟨some 30, .ext (.t 23) 1, none⟩,⟨some 8, .mv (.t 29), none⟩,⟨some 9, .mv (.t 30), none⟩]
def r63_8 : List POp := [⟨some 31, .mv (.t 9), none⟩,⟨some 32, .un .not (.t 31), none⟩]
def r63_9 : List POp := [⟨some 33, .build [.int .i64 0, .int .i64 0, .int .i64 0, .sl [], .sl [], .sl [], .sl []] [], none⟩,⟨none, .store 7 (.t 4) (.t 33) [], none⟩,⟨some 5, .mv (.k (.bool false)), none⟩]
def r63_10 : List POp := [⟨some 34, .mv (.t 7), none⟩,⟨some 35, .mv (.t 7), none⟩,⟨some 36, .mv (.t 7), none⟩,⟨some 37, .mv (.t 8), none⟩,⟨some 38, .mv (.t 7), none⟩,⟨some 39, .fad 5 (.t 3), none⟩,⟨some 40, .iaA 2 1 (.t 39) (.t 38), none⟩,⟨some 41, .load false 1 (.t 40) [], none⟩,⟨some 42, .call false 103 [(.t 41)], none⟩,⟨some 43, .mv (.t 7), none⟩,⟨some 44, .fad 3 (.t 3), none⟩,⟨some 45, .iaA 2 1 (.t 44) (.t 43), none⟩,⟨some 46, .load false 1 (.t 45) [], none⟩,⟨some 47, .call false 103 [(.t 46)], none⟩,⟨some 48, .fad 1 (.t 6), none⟩,⟨some 49, .iaA 2 1 (.t 48) (.t 34), none⟩,⟨none, .store 1 (.t 49) (.t 37) [], none⟩,⟨some 50, .fad 3 (.t 6), none⟩,⟨some 51, .iaA 2 1 (.t 50) (.t 35), none⟩,⟨none, .store 1 (.t 51) (.t 42) [], none⟩,⟨some 52, .fad 5 (.t 6), none⟩,⟨some 53, .iaA 2 1 (.t 52) (.t 36), none⟩,⟨none, .store 1 (.t 53) (.t 47) [], none⟩]
def r63_11 : List POp := [⟨some 54, .bin .add (.t 20) (.k (.int .i64 1)), none⟩,⟨some 20, .mv (.t 54), none⟩]
def b63_0 : PCode := (.seq (.ops false r63_5) (.seq (.cond (.t 21) .skip (.exit 0)) (.seq (.block 1 (.seq (.ops false r63_6) (.seq (.ops false r63_7) (.seq (.seq (.ops false r63_8) (.cond (.t 32) (.seq (.ops false r63_9) .ret) .skip)) (.ops true r63_10))))) (.ops false r63_11))))
def r63_12 : List POp := [⟨some 55, .load true 7 (.t 6) [], none⟩,⟨none, .store 7 (.t 4) (.t 55) [], none⟩,⟨some 5, .mv (.k (.bool true)), none⟩]
def p63 : PCode := (.seq (.ops false r63_0) (.seq (.seq (.ops false r63_1) (.cond (.t 13) (.seq (.ops false r63_2) .ret) .skip)) (.seq (.ops false r63_3) (.seq (.seq (.ops false r63_4) (.block 0 (.loop b63_0))) (.seq (.ops false r63_12) .ret)))))
def rs63 : List RS := [.cell 4 true 7, .t 5]
theorem c63 : chkF Try.prog Try.f63 2 p63 rs63 = true := by kernel_rfl
/- cuboid/delta.Good -/
def r65_0 : List POp := [⟨some 3, .box 7 (.t 1), none⟩,⟨some 4, .mv (.k (.bool false)), none⟩]
def r65_1 : List POp := [⟨some 6, .mv (.t 0), none⟩,⟨some 7, .bin .lss (.t 6) (.k (.int .i64 1)), none⟩,⟨some 8, .mv (.t 7), none⟩,⟨some 9, .mv (.t 0), (some (8, false))⟩,⟨some 10, .bin .gtr (.t 9) (.k (.int .i64 2)), (some (8, false))⟩,⟨some 11, .pick (.t 8) (.k (.bool true)) (.t 10), none⟩,⟨some 12, .mv (.t 11), none⟩,⟨some 13, .fad 0 (.t 3), (some (12, false))⟩,⟨some 14, .load false 1 (.t 13) [], (some (12, false))⟩,⟨some 15, .bin .lss (.t 14) (.k (.int .i64 (-1099511627776))), (some (12, false))⟩,⟨some 16, .pick (.t 12) (.k (.bool true)) (.t 15), none⟩,⟨some 17, .mv (.t 16), none⟩,⟨some 18, .fad 0 (.t 3), (some (17, false))⟩,⟨some 19, .load false 1 (.t 18) [], (some (17, false))⟩,⟨some 20, .bin .gtr (.t 19) (.k (.int .i64 1099511627776)), (some (17, false))⟩,⟨some 21, .pick (.t 17) (.k (.bool true)) (.t 20), none⟩]
def r65_2 : List POp := [⟨some 4, .mv (.k (.bool false)), none⟩]
def r65_3 : List POp := [⟨some 22, .mv (.k (.int .i64 0)), none⟩]
def r65_4 : List POp := [⟨some 23, .bin .lss (.t 22) (.k (.int .i64 2)), none⟩]
def r65_5 : List POp := [⟨some 24, .mv (.t 22), none⟩,⟨some 5, .mv (.t 24), none⟩]
def r65_6 : List POp := [⟨some 26, .mv (.t 5), none⟩,⟨some 27, .mv (.t 0), none⟩,⟨some 28, .bin .lss (.t 26) (.t 27), none⟩,⟨some 29, .mv (.t 28), none⟩,⟨some 30, .fad 0 (.t 3), (some (29, true))⟩,⟨some 31, .load false 1 (.t 30) [], (some (29, true))⟩,⟨some 32, .mv (.t 5), (some (29, true))⟩,⟨some 33, .fad 1 (.t 3), (some (29, true))⟩,⟨some 34, .iaA 2 1 (.t 33) (.t 32), (some (29, true))⟩,⟨some 35, .load false 1 (.t 34) [], (some (29, true))⟩,⟨some 36, .mv (.t 5), (some (29, true))⟩,⟨some 37, .fad 3 (.t 3), (some (29, true))⟩,⟨some 38, .iaA 2 1 (.t 37) (.t 36), (some (29, true))⟩,⟨some 39, .load false 1 (.t 38) [], (some (29, true))⟩,⟨some 40, .mv (.t 5), (some (29, true))⟩,⟨some 41, .fad 5 (.t 3), (some (29, true))⟩,⟨some 42, .iaA 2 1 (.t 41) (.t 40), (some (29, true))⟩,⟨some 43, .load false 1 (.t 42) [], (some (29, true))⟩,⟨some 44, .call false 104 [(.t 31), (.t 35), (.t 39), (.t 43)], (some (29, true))⟩,⟨some 45, .un .not (.t 44), (some (29, true))⟩,⟨some 46, .pick (.t 29) (.t 45) (.k (.bool false)), none⟩,⟨some 25, .mv (.t 46), none⟩]
def r65_7 : List POp := [⟨some 4, .mv (.k (.bool false)), none⟩]
def r65_8 : List POp := [⟨some 48, .mv (.t 5), none⟩,⟨some 49, .mv (.t 0), none⟩,⟨some 50, .bin .geq (.t 48) (.t 49), none⟩,⟨some 51, .mv (.t 50), none⟩,⟨some 52, .mv (.t 5), (some (51, true))⟩,⟨some 53, .fad 1 (.t 3), (some (51, true))⟩,⟨some 54, .iaA 2 1 (.t 53) (.t 52), (some (51, true))⟩,⟨some 55, .load false 1 (.t 54) [], (some (51, true))⟩,⟨some 56, .bin .neq (.t 55) (.k (.int .i64 0)), (some (51, true))⟩,⟨some 57, .mv (.t 56), (some (51, true))⟩,⟨some 58, .mv (.t 5), (some (57, false))⟩,⟨some 59, .fad 3 (.t 3), (some (57, false))⟩,⟨some 60, .iaA 2 1 (.t 59) (.t 58), (some (57, false))⟩,⟨some 61, .load false 1 (.t 60) [], (some (57, false))⟩,⟨some 62, .len (.t 61), (some (57, false))⟩,⟨some 63, .bin .gtr (.t 62) (.k (.int .i64 0)), (some (57, false))⟩,⟨some 64, .pick (.t 57) (.k (.bool true)) (.t 63), (some (51, true))⟩,⟨some 65, .mv (.t 64), (some (51, true))⟩,⟨some 66, .mv (.t 5), (some (65, false))⟩,⟨some 67, .fad 5 (.t 3), (some (65, false))⟩,⟨some 68, .iaA 2 1 (.t 67) (.t 66), (some (65, false))⟩,⟨some 69, .load false 1 (.t 68) [], (some (65, false))⟩,⟨some 70, .len (.t 69), (some (65, false))⟩,⟨some 71, .bin .gtr (.t 70) (.k (.int .i64 0)), (some (65, false))⟩,⟨some 72, .pick (.t 65) (.k (.bool true)) (.t 71), (some (51, true))⟩,⟨some 73, .pick (.t 51) (.t 72) (.k (.bool false)), none⟩,⟨some 47, .mv (.t 73), none⟩]
def r65_9 : List POp := [⟨some 4, .mv (.k (.bool false)), none⟩]
def r65_10 : List POp := [⟨some 74, .bin .add (.t 22) (.k (.int .i64 1)), none⟩,⟨some 22, .mv (.t 74), none⟩]
def b65_0 : PCode := (.seq (.ops false r65_4) (.seq (.cond (.t 23) .skip (.exit 0)) (.seq (.block 1 (.seq (.ops false r65_5) (.block 2 (.seq (.ops true r65_6) (.cond (.t 25) (.seq (.ops false r65_7) .ret) (.seq (.ops false r65_8) (.cond (.t 47) (.seq (.ops false r65_9) .ret) .skip))))))) (.ops false r65_10))))
def r65_11 : List POp := [⟨some 4, .mv (.k (.bool true)), none⟩]
def p65 : PCode := (.seq (.ops false r65_0) (.seq (.seq (.ops false r65_1) (.cond (.t 21) (.seq (.ops false r65_2) .ret) .skip)) (.seq (.seq (.ops false r65_3) (.block 0 (.loop b65_0))) (.seq (.ops false r65_11) .ret))))
def rs65 : List RS := [.t 4]
theorem c65 : chkF Try.prog Try.f65 2 p65 rs65 = true := by kernel_rfl
/- cuboid/cuboidref10.Good -/
/- cuboid/delta.Idle -/
def r67_0 : List POp := [⟨some 3, .box 7 (.t 1), none⟩,⟨some 4, .mv (.k (.bool false)), none⟩]
def r67_1 : List POp := [⟨some 5, .mv (.t 0), none⟩,⟨some 6, .load true 7 (.t 3) [], none⟩,⟨some 7, .call false 65 [(.t 5), (.t 6)], none⟩,⟨some 8, .mv (.t 7), none⟩,⟨some 9, .load true 7 (.t 3) [], (some (8, true))⟩,⟨some 10, .build [.int .i64 0, .int .i64 0, .int .i64 0, .sl [], .sl [], .sl [], .sl []] [], (some (8, true))⟩,⟨some 11, .call false 71 [(.t 9), (.t 10)], (some (8, true))⟩,⟨some 12, .pick (.t 8) (.t 11) (.k (.bool false)), none⟩,⟨some 4, .mv (.t 12), none⟩]
def p67 : PCode := (.seq (.ops false r67_0) (.seq (.ops false r67_1) .ret))
def rs67 : List RS := [.t 4]
theorem c67 : chkF Try.prog Try.f67 2 p67 rs67 = true := by kernel_rfl
/- cuboid/cuboidref10.Idle -/
/- cuboid/delta.Join -/
def r69_0 : List POp := [⟨some 4, .box 7 (.t 1), none⟩,⟨some 5, .box 7 (.t 2), none⟩,⟨some 6, .alloc [.int .i64 0, .int .i64 0, .int .i64 0, .sl [], .sl [], .sl [], .sl []], none⟩,⟨some 7, .mv (.k (.bool false)), none⟩]
def r69_1 : List POp := [⟨some 16, .mv (.t 0), none⟩,⟨some 17, .load true 7 (.t 4) [], none⟩,⟨some 18, .call false 65 [(.t 16), (.t 17)], none⟩,⟨some 19, .un .not (.t 18), none⟩,⟨some 20, .mv (.t 19), none⟩,⟨some 21, .mv (.t 0), (some (20, false))⟩,⟨some 22, .load true 7 (.t 5) [], (some (20, false))⟩,⟨some 23, .call false 65 [(.t 21), (.t 22)], (some (20, false))⟩,⟨some 24, .un .not (.t 23), (some (20, false))⟩,⟨some 25, .pick (.t 20) (.k (.bool true)) (.t 24), none⟩]
def r69_2 : List POp := [⟨some 26, .build [.int .i64 0, .int .i64 0, .int .i64 0, .sl [], .sl [], .sl [], .sl []] [], none⟩,⟨none, .store 7 (.t 6) (.t 26) [], none⟩,⟨some 7, .mv (.k (.bool false)), none⟩]
def r69_3 : List POp := [⟨some 27, .fad 0 (.t 4), none⟩,⟨some 28, .load false 1 (.t 27) [], none⟩,⟨some 29, .fad 0 (.t 5), none⟩,⟨some 30, .load false 1 (.t 29) [], none⟩,⟨some 31, .bin .add (.t 28) (.t 30), none⟩,⟨some 32, .build [.int .i64 0, .int .i64 0, .int .i64 0, .sl [], .sl [], .sl [], .sl []] [(0, 1, (.t 31))], none⟩,⟨some 8, .alloc [.int .i64 0, .int .i64 0, .int .i64 0, .sl [], .sl [], .sl [], .sl []], none⟩,⟨none, .store 7 (.t 8) (.t 32) [], none⟩]
def r69_4 : List POp := [⟨some 33, .mv (.t 0), none⟩,⟨some 34, .mv (.k (.int .i64 0)), none⟩]
def r69_5 : List POp := [⟨some 35, .bin .lss (.t 34) (.t 33), none⟩]
def r69_6 : List POp := [⟨some 36, .mv (.t 34), none⟩,⟨some 9, .mv (.t 36), none⟩]
def r69_7 : List POp := [⟨some 38, .mv (.t 9), none⟩,⟨some 39, .fad 3 (.t 4), none⟩,⟨some 40, .iaA 2 1 (.t 39) (.t 38), none⟩,⟨some 41, .load false 1 (.t 40) [], none⟩,⟨some 42, .mv (.t 9), none⟩,⟨some 43, .fad 3 (.t 5), none⟩,⟨some 44, .iaA 2 1 (.t 43) (.t 42), none⟩,⟨some 45, .load false 1 (.t 44) [], none⟩,⟨some 46, .call false 25 [(.t 41), (.t 45)], none⟩,⟨some 37, .mv (.t 46), none⟩,⟨some 47, .ext (.t 37) 0, none⟩,⟨some 48, .ext (.t 37) 1, none⟩,⟨some 10, .mv (.t 47), none⟩,⟨some 11, .mv (.t 48), none⟩]
def r69_8 : List POp := [⟨some 50, .mv (.t 9), none⟩,⟨some 51, .fad 5 (.t 4), none⟩,⟨some 52, .iaA 2 1 (.t 51) (.t 50), none⟩,⟨some 53, .load false 1 (.t 52) [], none⟩,⟨some 54, .mv (.t 9), none⟩,⟨some 55, .fad 5 (.t 5), none⟩,⟨some 56, .iaA 2 1 (.t 55) (.t 54), none⟩,⟨some 57, .load false 1 (.t 56) [], none⟩,⟨some 58, .call false 25 [(.t 53), (.t 57)], none⟩,⟨some 49, .mv (.t 58), none⟩,⟨some 59, .ext (.t 49) 0, none⟩,⟨some 60, .ext (.t 49) 1, none⟩,⟨some 12, .mv (.t 59), none⟩,⟨some 13, .mv (.t 60), none⟩]
def r69_9 : List POp := [⟨some 62, .mv (.t 9), none⟩,⟨some 63, .fad 1 (.t 4), none⟩,⟨some 64, .iaA 2 1 (.t 63) (.t 62), none⟩,⟨some 65, .load false 1 (.t 64) [], none⟩,⟨some 66, .mv (.t 9), none⟩,⟨some 67, .fad 1 (.t 5), none⟩,⟨some 68, .iaA 2 1 (.t 67) (.t 66), none⟩,⟨some 69, .load false 1 (.t 68) [], none⟩,⟨some 70, .call false 96 [(.t 65), (.t 69)], none⟩,⟨some 61, .mv (.t 70), none⟩,⟨some 71, .ext (.t 61) 0, none⟩,⟨some 72, .ext (.t 61) 1, none⟩,⟨some 14, .mv (.t 71), none⟩,⟨some 15, .mv (.t 72), none⟩]
def r69_10 : List POp := [⟨some 73, .mv (.t 11), none⟩,⟨some 74, .un .not (.t 73), none⟩,⟨some 75, .mv (.t 74), none⟩,⟨some 76, .mv (.t 13), (some (75, false))⟩,⟨some 77, .un .not (.t 76), (some (75, false))⟩,⟨some 78, .pick (.t 75) (.k (.bool true)) (.t 77), none⟩,⟨some 79, .mv (.t 78), none⟩,⟨some 80, .mv (.t 15), (some (79, false))⟩,⟨some 81, .un .not (.t 80), (some (79, false))⟩,⟨some 82, .pick (.t 79) (.k (.bool true)) (.t 81), none⟩]
def r69_11 : List POp := [⟨some 83, .build [.int .i64 0, .int .i64 0, .int .i64 0, .sl [], .sl [], .sl [], .sl []] [], none⟩,⟨none, .store 7 (.t 6) (.t 83) [], none⟩,⟨some 7, .mv (.k (.bool false)), none⟩]
def r69_12 : List POp := [⟨some 84, .mv (.t 9), none⟩,⟨some 85, .mv (.t 14), none⟩,⟨some 86, .fad 1 (.t 8), none⟩,⟨some 87, .iaA 2 1 (.t 86) (.t 84), none⟩,⟨none, .store 1 (.t 87) (.t 85) [], none⟩]
def r69_13 : List POp := [⟨some 89, .mv (.t 9), none⟩,⟨some 90, .mv (.t 9), none⟩,⟨some 91, .mv (.t 10), none⟩,⟨some 92, .mv (.t 12), none⟩,⟨some 93, .call false 106 [(.t 91), (.t 92)], none⟩,⟨some 88, .mv (.t 93), none⟩,⟨some 94, .ext (.t 88) 0, none⟩,⟨some 95, .ext (.t 88) 1, none⟩,⟨some 96, .fad 3 (.t 8), none⟩,⟨some 97, .iaA 2 1 (.t 96) (.t 89), none⟩,⟨none, .store 1 (.t 97) (.t 94) [], none⟩,⟨some 98, .fad 5 (.t 8), none⟩,⟨some 99, .iaA 2 1 (.t 98) (.t 90), none⟩,⟨none, .store 1 (.t 99) (.t 95) [], none⟩]
def r69_14 : List POp := [⟨some 100, .bin .add (.t 34) (.k (.int .i64 1)), none⟩,⟨some 34, .mv (.t 100), none⟩]
def b69_0 : PCode := (.seq (.ops false r69_5) (.seq (.cond (.t 35) .skip (.exit 0)) (.seq (.block 1 (.seq (.ops false r69_6) (.seq (.ops true r69_7) (.seq (.ops true r69_8) (.seq (.ops true r69_9) (.seq (.seq (.ops false r69_10) (.cond (.t 82) (.seq (.ops false r69_11) .ret) .skip)) (.seq (.ops false r69_12) (.ops false r69_13)))))))) (.ops false r69_14))))
def r69_15 : List POp := [⟨some 101, .mv (.t 0), none⟩,⟨some 102, .load true 7 (.t 8) [], none⟩,⟨some 103, .call false 65 [(.t 101), (.t 102)], none⟩,⟨some 104, .un .not (.t 103), none⟩]
def r69_16 : List POp := [⟨some 105, .build [.int .i64 0, .int .i64 0, .int .i64 0, .sl [], .sl [], .sl [], .sl []] [], none⟩,⟨none, .store 7 (.t 6) (.t 105) [], none⟩,⟨some 7, .mv (.k (.bool false)), none⟩]
def r69_17 : List POp := [⟨some 106, .load true 7 (.t 8) [], none⟩,⟨none, .store 7 (.t 6) (.t 106) [], none⟩,⟨some 7, .mv (.k (.bool true)), none⟩]
def p69 : PCode := (.seq (.ops false r69_0) (.seq (.seq (.ops false r69_1) (.cond (.t 25) (.seq (.ops false r69_2) .ret) .skip)) (.seq (.ops false r69_3) (.seq (.seq (.ops false r69_4) (.block 0 (.loop b69_0))) (.seq (.seq (.ops false r69_15) (.cond (.t 104) (.seq (.ops false r69_16) .ret) .skip)) (.seq (.ops false r69_17) .ret))))))
def rs69 : List RS := [.cell 6 true 7, .t 7]
theorem c69 : chkF Try.prog Try.f69 3 p69 rs69 = true := by kernel_rfl
/- cuboid/delta.Same -/
def r71_0 : List POp := [⟨some 2, .box 7 (.t 0), none⟩,⟨some 3, .box 7 (.t 1), none⟩,⟨some 4, .mv (.k (.bool false)), none⟩]
def r71_1 : List POp := [⟨some 6, .fad 0 (.t 2), none⟩,⟨some 7, .load false 1 (.t 6) [], none⟩,⟨some 8, .fad 0 (.t 3), none⟩,⟨some 9, .load false 1 (.t 8) [], none⟩,⟨some 10, .bin .neq (.t 7) (.t 9), none⟩,⟨some 11, .mv (.t 10), none⟩,⟨some 12, .fad 1 (.t 2), (some (11, false))⟩,⟨some 13, .load true 2 (.t 12) [], (some (11, false))⟩,⟨some 14, .fad 1 (.t 3), (some (11, false))⟩,⟨some 15, .load true 2 (.t 14) [], (some (11, false))⟩,⟨some 16, .eqs true true [.i, .i] (.t 13) (.t 15), (some (11, false))⟩,⟨some 17, .pick (.t 11) (.k (.bool true)) (.t 16), none⟩]
def r71_2 : List POp := [⟨some 4, .mv (.k (.bool false)), none⟩]
def r71_3 : List POp := [⟨some 18, .mv (.k (.int .i64 0)), none⟩]
def r71_4 : List POp := [⟨some 19, .bin .lss (.t 18) (.k (.int .i64 2)), none⟩]
def r71_5 : List POp := [⟨some 20, .mv (.t 18), none⟩,⟨some 5, .mv (.t 20), none⟩]
def r71_6 : List POp := [⟨some 21, .mv (.t 5), none⟩,⟨some 22, .fad 3 (.t 2), none⟩,⟨some 23, .iaA 2 1 (.t 22) (.t 21), none⟩,⟨some 24, .load false 1 (.t 23) [], none⟩,⟨some 25, .mv (.t 5), none⟩,⟨some 26, .fad 3 (.t 3), none⟩,⟨some 27, .iaA 2 1 (.t 26) (.t 25), none⟩,⟨some 28, .load false 1 (.t 27) [], none⟩,⟨some 29, .call false 29 [(.t 24), (.t 28)], none⟩,⟨some 30, .un .not (.t 29), none⟩,⟨some 31, .mv (.t 30), none⟩,⟨some 32, .mv (.t 5), (some (31, false))⟩,⟨some 33, .fad 5 (.t 2), (some (31, false))⟩,⟨some 34, .iaA 2 1 (.t 33) (.t 32), (some (31, false))⟩,⟨some 35, .load false 1 (.t 34) [], (some (31, false))⟩,⟨some 36, .mv (.t 5), (some (31, false))⟩,⟨some 37, .fad 5 (.t 3), (some (31, false))⟩,⟨some 38, .iaA 2 1 (.t 37) (.t 36), (some (31, false))⟩,⟨some 39, .load false 1 (.t 38) [], (some (31, false))⟩,⟨some 40, .call false 29 [(.t 35), (.t 39)], (some (31, false))⟩,⟨some 41, .un .not (.t 40), (some (31, false))⟩,⟨some 42, .pick (.t 31) (.k (.bool true)) (.t 41), none⟩]
def r71_7 : List POp := [⟨some 4, .mv (.k (.bool false)), none⟩]
def r71_8 : List POp := [⟨some 43, .bin .add (.t 18) (.k (.int .i64 1)), none⟩,⟨some 18, .mv (.t 43), none⟩]
def b71_0 : PCode := (.seq (.ops false r71_4) (.seq (.cond (.t 19) .skip (.exit 0)) (.seq (.block 1 (.seq (.ops false r71_5) (.seq (.ops true r71_6) (.cond (.t 42) (.seq (.ops false r71_7) .ret) .skip)))) (.ops false r71_8))))
def r71_9 : List POp := [⟨some 4, .mv (.k (.bool true)), none⟩]
def p71 : PCode := (.seq (.ops false r71_0) (.seq (.seq (.ops false r71_1) (.cond (.t 17) (.seq (.ops false r71_2) .ret) .skip)) (.seq (.seq (.ops false r71_3) (.block 0 (.loop b71_0))) (.seq (.ops false r71_9) .ret))))
def rs71 : List RS := [.t 4]
theorem c71 : chkF Try.prog Try.f71 2 p71 rs71 = true := by kernel_rfl
/- cuboid/delta.Apply -/
def r74_0 : List POp := [⟨some 5, .box 5 (.t 1), none⟩,⟨some 7, .box 7 (.t 3), none⟩,⟨some 8, .alloc [.int .i64 0, .int .i64 0, .int .i64 0, .sl [], .sl []], none⟩,⟨some 9, .mv (.k (.bool false)), none⟩,⟨some 10, .mv (.k (.bool false)), none⟩]
def r74_1 : List POp := [⟨some 17, .mv (.t 0), none⟩,⟨some 18, .load true 7 (.t 7) [], none⟩,⟨some 19, .call false 65 [(.t 17), (.t 18)], none⟩,⟨some 20, .un .not (.t 19), none⟩,⟨some 21, .mv (.t 20), none⟩,⟨some 22, .mv (.t 0), (some (21, false))⟩,⟨some 23, .load true 5 (.t 5) [], (some (21, false))⟩,⟨some 24, .mv (.t 2), (some (21, false))⟩,⟨some 25, .call false 108 [(.t 22), (.t 23), (.t 24)], (some (21, false))⟩,⟨some 26, .un .not (.t 25), (some (21, false))⟩,⟨some 27, .pick (.t 21) (.k (.bool true)) (.t 26), none⟩]
def r74_2 : List POp := [⟨some 28, .build [.int .i64 0, .int .i64 0, .int .i64 0, .sl [], .sl []] [], none⟩,⟨none, .store 5 (.t 8) (.t 28) [], none⟩,⟨some 9, .mv (.k (.bool false)), none⟩,⟨some 10, .mv (.k (.bool false)), none⟩]
def r74_3 : List POp := [⟨some 29, .fad 0 (.t 5), none⟩,⟨some 30, .load false 1 (.t 29) [], none⟩,⟨some 31, .fad 0 (.t 7), none⟩,⟨some 32, .load false 1 (.t 31) [], none⟩,⟨some 33, .bin .add (.t 30) (.t 32), none⟩,⟨some 34, .build [.int .i64 0, .int .i64 0, .int .i64 0, .sl [], .sl []] [(0, 1, (.t 33))], none⟩,⟨some 11, .alloc [.int .i64 0, .int .i64 0, .int .i64 0, .sl [], .sl []], none⟩,⟨none, .store 5 (.t 11) (.t 34) [], none⟩]
def r74_4 : List POp := [⟨some 35, .mv (.t 0), none⟩,⟨some 36, .mv (.k (.int .i64 0)), none⟩]
def r74_5 : List POp := [⟨some 37, .bin .lss (.t 36) (.t 35), none⟩]
def r74_6 : List POp := [⟨some 38, .mv (.t 36), none⟩,⟨some 12, .mv (.t 38), none⟩]
def r74_7 : List POp := [⟨some 40, .mv (.t 12), none⟩,⟨some 41, .fad 3 (.t 5), none⟩,⟨some 42, .iaA 2 1 (.t 41) (.t 40), none⟩,⟨some 43, .load false 1 (.t 42) [], none⟩,⟨some 44, .mv (.t 12), none⟩,⟨some 45, .fad 5 (.t 7), none⟩,⟨some 46, .iaA 2 1 (.t 45) (.t 44), none⟩,⟨some 47, .load false 1 (.t 46) [], none⟩,⟨some 48, .call false 24 [(.t 43), (.t 47)], none⟩,⟨some 39, .mv (.t 48), none⟩,⟨some 49, .ext (.t 39) 0, none⟩,⟨some 50, .ext (.t 39) 1, none⟩,⟨some 13, .mv (.t 49), none⟩,⟨some 14, .mv (.t 50), none⟩]
def r74_8 : List POp := [⟨some 51, .mv (.t 14), none⟩]
def r74_9 : List POp := [⟨some 53, .mv (.t 13), none⟩,⟨some 54, .mv (.t 12), none⟩,⟨some 55, .fad 3 (.t 7), none⟩,⟨some 56, .iaA 2 1 (.t 55) (.t 54), none⟩,⟨some 57, .load false 1 (.t 56) [], none⟩,⟨some 58, .call false 25 [(.t 53), (.t 57)], none⟩,⟨some 52, .mv (.t 58), none⟩,⟨some 59, .ext (.t 52) 0, none⟩,⟨some 60, .ext (.t 52) 1, none⟩,⟨some 13, .mv (.t 59), none⟩,⟨some 14, .mv (.t 60), none⟩]
def r74_10 : List POp := [⟨some 62, .mv (.t 12), none⟩,⟨some 63, .fad 1 (.t 5), none⟩,⟨some 64, .iaA 2 1 (.t 63) (.t 62), none⟩,⟨some 65, .load false 1 (.t 64) [], none⟩,⟨some 66, .mv (.t 12), none⟩,⟨some 67, .fad 1 (.t 7), none⟩,⟨some 68, .iaA 2 1 (.t 67) (.t 66), none⟩,⟨some 69, .load false 1 (.t 68) [], none⟩,⟨some 70, .call false 96 [(.t 65), (.t 69)], none⟩,⟨some 61, .mv (.t 70), none⟩,⟨some 71, .ext (.t 61) 0, none⟩,⟨some 72, .ext (.t 61) 1, none⟩,⟨some 15, .mv (.t 71), none⟩,⟨some 16, .mv (.t 72), none⟩]
def r74_11 : List POp := [⟨some 73, .mv (.t 14), none⟩,⟨some 74, .un .not (.t 73), none⟩,⟨some 75, .mv (.t 74), none⟩,⟨some 76, .mv (.t 16), (some (75, false))⟩,⟨some 77, .un .not (.t 76), (some (75, false))⟩,⟨some 78, .pick (.t 75) (.k (.bool true)) (.t 77), none⟩]
def r74_12 : List POp := [⟨some 79, .build [.int .i64 0, .int .i64 0, .int .i64 0, .sl [], .sl []] [], none⟩,⟨none, .store 5 (.t 8) (.t 79) [], none⟩,⟨some 9, .mv (.k (.bool false)), none⟩,⟨some 10, .mv (.k (.bool false)), none⟩]
def r74_13 : List POp := [⟨some 80, .mv (.t 12), none⟩,⟨some 81, .mv (.t 12), none⟩,⟨some 82, .mv (.t 13), none⟩,⟨some 83, .mv (.t 15), none⟩,⟨some 84, .fad 3 (.t 11), none⟩,⟨some 85, .iaA 2 1 (.t 84) (.t 80), none⟩,⟨none, .store 1 (.t 85) (.t 82) [], none⟩,⟨some 86, .fad 1 (.t 11), none⟩,⟨some 87, .iaA 2 1 (.t 86) (.t 81), none⟩,⟨none, .store 1 (.t 87) (.t 83) [], none⟩]
def r74_14 : List POp := [⟨some 88, .bin .add (.t 36) (.k (.int .i64 1)), none⟩,⟨some 36, .mv (.t 88), none⟩]
def b74_0 : PCode := (.seq (.ops false r74_5) (.seq (.cond (.t 37) .skip (.exit 0)) (.seq (.block 1 (.seq (.ops false r74_6) (.seq (.ops true r74_7) (.seq (.seq (.ops false r74_8) (.cond (.t 51) (.ops false r74_9) .skip)) (.seq (.ops true r74_10) (.seq (.seq (.ops false r74_11) (.cond (.t 78) (.seq (.ops false r74_12) .ret) .skip)) (.ops false r74_13))))))) (.ops false r74_14))))
def r74_15 : List POp := [⟨some 89, .mv (.t 0), none⟩,⟨some 90, .load true 5 (.t 11) [], none⟩,⟨some 91, .fad 0 (.t 11), none⟩,⟨some 92, .load false 1 (.t 91) [], none⟩,⟨some 93, .bin .neq (.t 92) (.k (.int .i64 0)), none⟩,⟨some 94, .call false 108 [(.t 89), (.t 90), (.t 93)], none⟩,⟨some 95, .un .not (.t 94), none⟩]
def r74_16 : List POp := [⟨some 96, .build [.int .i64 0, .int .i64 0, .int .i64 0, .sl [], .sl []] [], none⟩,⟨none, .store 5 (.t 8) (.t 96) [], none⟩,⟨some 9, .mv (.k (.bool false)), none⟩,⟨some 10, .mv (.k (.bool false)), none⟩]
def r74_17 : List POp := [⟨some 97, .load true 5 (.t 11) [], none⟩,⟨some 98, .fad 0 (.t 11), none⟩,⟨some 99, .load false 1 (.t 98) [], none⟩,⟨some 100, .bin .neq (.t 99) (.k (.int .i64 0)), none⟩,⟨none, .store 5 (.t 8) (.t 97) [], none⟩,⟨some 9, .mv (.t 100), none⟩,⟨some 10, .mv (.k (.bool true)), none⟩]
def p74 : PCode := (.seq (.ops false r74_0) (.seq (.seq (.ops false r74_1) (.cond (.t 27) (.seq (.ops false r74_2) .ret) .skip)) (.seq (.ops false r74_3) (.seq (.seq (.ops false r74_4) (.block 0 (.loop b74_0))) (.seq (.seq (.ops false r74_15) (.cond (.t 95) (.seq (.ops false r74_16) .ret) .skip)) (.seq (.opsB r74_17 [(2, 11), (4, 8)]) .ret))))))
def rs74 : List RS := [.cell 8 true 5, .t 9, .t 10]
theorem c74 : chkF Try.prog Try.f74 4 p74 rs74 = true := by kernel_rfl
/- cuboid/delta.Between -/
def r76_0 : List POp := [⟨some 6, .box 5 (.t 1), none⟩,⟨some 8, .box 5 (.t 3), none⟩,⟨some 10, .alloc [.int .i64 0, .int .i64 0, .int .i64 0, .sl [], .sl [], .sl [], .sl []], none⟩,⟨some 11, .mv (.k (.bool false)), none⟩]
def r76_1 : List POp := [⟨some 16, .mv (.t 0), none⟩,⟨some 17, .load true 5 (.t 6) [], none⟩,⟨some 18, .mv (.t 2), none⟩,⟨some 19, .call false 108 [(.t 16), (.t 17), (.t 18)], none⟩,⟨some 20, .un .not (.t 19), none⟩,⟨some 21, .mv (.t 20), none⟩,⟨some 22, .mv (.t 0), (some (21, false))⟩,⟨some 23, .load true 5 (.t 8) [], (some (21, false))⟩,⟨some 24, .mv (.t 4), (some (21, false))⟩,⟨some 25, .call false 108 [(.t 22), (.t 23), (.t 24)], (some (21, false))⟩,⟨some 26, .un .not (.t 25), (some (21, false))⟩,⟨some 27, .pick (.t 21) (.k (.bool true)) (.t 26), none⟩]
def r76_2 : List POp := [⟨some 28, .build [.int .i64 0, .int .i64 0, .int .i64 0, .sl [], .sl [], .sl [], .sl []] [], none⟩,⟨none, .store 7 (.t 10) (.t 28) [], none⟩,⟨some 11, .mv (.k (.bool false)), none⟩]
def r76_3 : List POp := [⟨some 29, .fad 0 (.t 8), none⟩,⟨some 30, .load false 1 (.t 29) [], none⟩,⟨some 31, .fad 0 (.t 6), none⟩,⟨some 32, .load false 1 (.t 31) [], none⟩,⟨some 33, .bin .sub (.t 30) (.t 32), none⟩,⟨some 34, .build [.int .i64 0, .int .i64 0, .int .i64 0, .sl [], .sl [], .sl [], .sl []] [(0, 1, (.t 33))], none⟩,⟨some 12, .alloc [.int .i64 0, .int .i64 0, .int .i64 0, .sl [], .sl [], .sl [], .sl []], none⟩,⟨none, .store 7 (.t 12) (.t 34) [], none⟩]
def r76_4 : List POp := [⟨some 35, .mv (.k (.int .i64 0)), none⟩]
def r76_5 : List POp := [⟨some 36, .bin .lss (.t 35) (.k (.int .i64 2)), none⟩]
def r76_6 : List POp := [⟨some 37, .mv (.t 35), none⟩,⟨some 13, .mv (.t 37), none⟩]
def r76_7 : List POp := [⟨some 39, .mv (.t 13), none⟩,⟨some 40, .fad 1 (.t 8), none⟩,⟨some 41, .iaA 2 1 (.t 40) (.t 39), none⟩,⟨some 42, .load false 1 (.t 41) [], none⟩,⟨some 43, .mv (.t 13), none⟩,⟨some 44, .fad 1 (.t 6), none⟩,⟨some 45, .iaA 2 1 (.t 44) (.t 43), none⟩,⟨some 46, .load false 1 (.t 45) [], none⟩,⟨some 47, .call false 109 [(.t 42), (.t 46)], none⟩,⟨some 38, .mv (.t 47), none⟩,⟨some 48, .ext (.t 38) 0, none⟩,⟨some 49, .ext (.t 38) 1, none⟩,⟨some 14, .mv (.t 48), none⟩,⟨some 15, .mv (.t 49), none⟩]
def r76_8 : List POp := [⟨some 50, .mv (.t 15), none⟩,⟨some 51, .un .not (.t 50), none⟩]
def r76_9 : List POp := [⟨some 52, .build [.int .i64 0, .int .i64 0, .int .i64 0, .sl [], .sl [], .sl [], .sl []] [], none⟩,⟨none, .store 7 (.t 10) (.t 52) [], none⟩,⟨some 11, .mv (.k (.bool false)), none⟩]
def r76_10 : List POp := [⟨some 53, .mv (.t 13), none⟩,⟨some 54, .mv (.t 14), none⟩,⟨some 55, .fad 1 (.t 12), none⟩,⟨some 56, .iaA 2 1 (.t 55) (.t 53), none⟩,⟨none, .store 1 (.t 56) (.t 54) [], none⟩]
def r76_11 : List POp := [⟨some 58, .mv (.t 13), none⟩,⟨some 59, .mv (.t 13), none⟩,⟨some 60, .mv (.t 13), none⟩,⟨some 61, .fad 3 (.t 8), none⟩,⟨some 62, .iaA 2 1 (.t 61) (.t 60), none⟩,⟨some 63, .load false 1 (.t 62) [], none⟩,⟨some 64, .mv (.t 13), none⟩,⟨some 65, .fad 3 (.t 6), none⟩,⟨some 66, .iaA 2 1 (.t 65) (.t 64), none⟩,⟨some 67, .load false 1 (.t 66) [], none⟩,⟨some 68, .call false 106 [(.t 63), (.t 67)], none⟩,⟨some 57, .mv (.t 68), none⟩,⟨some 69, .ext (.t 57) 0, none⟩,⟨some 70, .ext (.t 57) 1, none⟩,⟨some 71, .fad 3 (.t 12), none⟩,⟨some 72, .iaA 2 1 (.t 71) (.t 58), none⟩,⟨none, .store 1 (.t 72) (.t 69) [], none⟩,⟨some 73, .fad 5 (.t 12), none⟩,⟨some 74, .iaA 2 1 (.t 73) (.t 59), none⟩,⟨none, .store 1 (.t 74) (.t 70) [], none⟩]
def r76_12 : List POp := [⟨some 75, .bin .add (.t 35) (.k (.int .i64 1)), none⟩,⟨some 35, .mv (.t 75), none⟩]
def b76_0 : PCode := (.seq (.ops false r76_5) (.seq (.cond (.t 36) .skip (.exit 0)) (.seq (.block 1 (.seq (.ops false r76_6) (.seq (.ops true r76_7) (.seq (.seq (.ops false r76_8) (.cond (.t 51) (.seq (.ops false r76_9) .ret) .skip)) (.seq (.ops false r76_10) (.ops true r76_11)))))) (.ops false r76_12))))
def r76_13 : List POp := [⟨some 76, .mv (.t 0), none⟩,⟨some 77, .load true 7 (.t 12) [], none⟩,⟨some 78, .call false 65 [(.t 76), (.t 77)], none⟩,⟨some 79, .un .not (.t 78), none⟩]
def r76_14 : List POp := [⟨some 80, .build [.int .i64 0, .int .i64 0, .int .i64 0, .sl [], .sl [], .sl [], .sl []] [], none⟩,⟨none, .store 7 (.t 10) (.t 80) [], none⟩,⟨some 11, .mv (.k (.bool false)), none⟩]
def r76_15 : List POp := [⟨some 81, .load true 7 (.t 12) [], none⟩,⟨none, .store 7 (.t 10) (.t 81) [], none⟩,⟨some 11, .mv (.k (.bool true)), none⟩]
def p76 : PCode := (.seq (.ops false r76_0) (.seq (.seq (.ops false r76_1) (.cond (.t 27) (.seq (.ops false r76_2) .ret) .skip)) (.seq (.ops false r76_3) (.seq (.seq (.ops false r76_4) (.block 0 (.loop b76_0))) (.seq (.seq (.ops false r76_13) (.cond (.t 79) (.seq (.ops false r76_14) .ret) .skip)) (.seq (.ops false r76_15) .ret))))))
def rs76 : List RS := [.cell 10 true 7, .t 11]
theorem c76 : chkF Try.prog Try.f76 5 p76 rs76 = true := by kernel_rfl
/- cuboid/cuboidkeep.LightCat -/
def r78_0 : List POp := [⟨some 1, .box 2 (.t 0), none⟩,⟨some 2, .mv (.k (.bool false)), none⟩]
def r78_1 : List POp := [⟨some 4, .fad 0 (.t 1), none⟩,⟨some 5, .load false 1 (.t 4) [], none⟩,⟨some 6, .len (.t 5), none⟩,⟨some 7, .bin .gtr (.t 6) (.k (.int .i64 8)), none⟩]
def r78_2 : List POp := [⟨some 2, .mv (.k (.bool false)), none⟩]
def r78_3 : List POp := [⟨some 3, .mv (.k (.int .i64 0)), none⟩]
def r78_4 : List POp := [⟨some 8, .mv (.t 3), none⟩,⟨some 9, .fad 0 (.t 1), none⟩,⟨some 10, .load false 1 (.t 9) [], none⟩,⟨some 11, .len (.t 10), none⟩,⟨some 12, .bin .lss (.t 8) (.t 11), none⟩]
def r78_6 : List POp := [⟨some 15, .fad 0 (.t 1), none⟩,⟨some 16, .load false 1 (.t 15) [], none⟩,⟨some 17, .mv (.t 3), none⟩,⟨some 18, .iaS 2 (.t 16) (.t 17), none⟩,⟨some 19, .load true 2 (.t 18) [], none⟩,⟨some 20, .call false 110 [(.t 19)], none⟩,⟨some 21, .un .not (.t 20), none⟩]
def r78_7 : List POp := [⟨some 2, .mv (.k (.bool false)), none⟩]
def r78_5 : List POp := [⟨some 13, .mv (.t 3), none⟩,⟨some 14, .bin .add (.t 13) (.k (.int .i64 1)), none⟩,⟨some 3, .mv (.t 14), none⟩]
def b78_0 : PCode := (.seq (.seq (.ops false r78_4) (.cond (.t 12) .skip (.exit 0))) (.seq (.block 1 (.seq (.ops false r78_6) (.cond (.t 21) (.seq (.ops false r78_7) .ret) .skip))) (.ops false r78_5)))
def r78_8 : List POp := [⟨some 2, .mv (.k (.bool true)), none⟩]
def p78 : PCode := (.seq (.ops false r78_0) (.seq (.seq (.ops false r78_1) (.cond (.t 7) (.seq (.ops false r78_2) .ret) .skip)) (.seq (.seq (.ops false r78_3) (.block 0 (.loop b78_0))) (.seq (.ops false r78_8) .ret))))
def rs78 : List RS := [.t 2]
theorem c78 : chkF Try.prog Try.f78 1 p78 rs78 = true := by kernel_rfl
/- cuboid/cuboidref21.Fold -/
def r79_0 : List POp := [⟨some 3, .box 2 (.t 0), none⟩,⟨some 6, .alloc [.sl [], .int .i64 0, .int .i64 0], none⟩]
def r79_1 : List POp := [⟨some 11, .load true 2 (.t 3) [], none⟩,⟨some 12, .mv (.t 1), none⟩,⟨some 13, .call false 111 [(.t 11), (.t 12)], none⟩,⟨some 14, .un .not (.t 13), none⟩]
def r79_2 : List POp := [⟨some 15, .build [.sl [], .int .i64 0, .int .i64 0] [(2, 1, (.k (.int .i64 1)))], none⟩,⟨none, .store 3 (.t 6) (.t 15) [], none⟩]
def r79_3 : List POp := [⟨some 16, .load true 2 (.t 3) [], none⟩,⟨some 17, .mv (.t 2), none⟩,⟨some 18, .call false 112 [(.t 16), (.t 17)], none⟩,⟨some 7, .alloc [.sl [], .int .i64 0, .int .i64 0], none⟩,⟨none, .store 3 (.t 7) (.t 18) [], none⟩]
def r79_4 : List POp := [⟨some 19, .fad 2 (.t 7), none⟩,⟨some 20, .load false 1 (.t 19) [], none⟩,⟨some 21, .bin .neq (.t 20) (.k (.int .i64 0)), none⟩]
def r79_5 : List POp := [⟨some 22, .load true 3 (.t 7) [], none⟩,⟨none, .store 3 (.t 6) (.t 22) [], none⟩]
def r79_6 : List POp := [⟨some 23, .load true 2 (.t 3) [], none⟩,⟨some 24, .mv (.t 1), none⟩,⟨some 25, .call false 113 [(.t 24)], none⟩,⟨some 26, .build [.sl [], .int .i64 0, .sl []] [(0, 2, (.t 23)), (2, 1, (.t 25))], none⟩,⟨some 27, .box 3 (.t 26), none⟩,⟨some 8, .mv (.t 27), none⟩]
def r79_7 : List POp := [⟨some 9, .mv (.k (.int .i64 0)), none⟩]
def r79_8 : List POp := [⟨some 28, .mv (.t 9), none⟩,⟨some 29, .mv (.t 2), none⟩,⟨some 30, .len (.t 29), none⟩,⟨some 31, .bin .lss (.t 28) (.t 30), none⟩]
def r79_10 : List POp := [⟨some 34, .mv (.t 8), none⟩,⟨some 35, .mv (.t 2), none⟩,⟨some 36, .mv (.t 9), none⟩,⟨some 37, .iaS 7 (.t 35) (.t 36), none⟩,⟨some 38, .load true 7 (.t 37) [], none⟩,⟨some 39, .call true 114 [(.t 34), (.t 38)], none⟩,⟨some 10, .mv (.t 39), none⟩]
def r79_11 : List POp := [⟨some 40, .mv (.t 10), none⟩,⟨some 41, .bin .neq (.t 40) (.k (.int .i64 0)), none⟩]
def r79_12 : List POp := [⟨some 42, .mv (.t 9), none⟩,⟨some 43, .mv (.t 10), none⟩,⟨some 44, .build [.sl [], .int .i64 0, .int .i64 0] [(1, 1, (.t 42)), (2, 1, (.t 43))], none⟩,⟨none, .store 3 (.t 6) (.t 44) [], none⟩]
def r79_9 : List POp := [⟨some 32, .mv (.t 9), none⟩,⟨some 33, .bin .add (.t 32) (.k (.int .i64 1)), none⟩,⟨some 9, .mv (.t 33), none⟩]
def b79_0 : PCode := (.seq (.seq (.ops false r79_8) (.cond (.t 31) .skip (.exit 0))) (.seq (.block 1 (.seq (.ops false r79_10) (.seq (.ops false r79_11) (.cond (.t 41) (.seq (.ops false r79_12) .ret) .skip)))) (.ops false r79_9)))
def r79_13 : List POp := [⟨some 45, .mv (.t 8), none⟩,⟨some 46, .nilc (.t 45), none⟩,⟨some 47, .fad 2 (.t 46), none⟩,⟨some 48, .load false 1 (.t 47) [], none⟩,⟨some 49, .build [.sl [], .int .i64 0, .int .i64 0] [(0, 1, (.t 48))], none⟩,⟨none, .store 3 (.t 6) (.t 49) [], none⟩]
def p79 : PCode := (.seq (.ops false r79_0) (.seq (.seq (.ops false r79_1) (.cond (.t 14) (.seq (.ops false r79_2) .ret) .skip)) (.seq (.seq (.ops false r79_3) (.seq (.ops false r79_4) (.cond (.t 21) (.seq (.ops false r79_5) .ret) .skip))) (.seq (.ops true r79_6) (.seq (.seq (.ops false r79_7) (.block 0 (.loop b79_0))) (.seq (.ops false r79_13) .ret))))))
def rs79 : List RS := [.cell 6 true 3]
theorem c79 : chkF Try.prog Try.f79 3 p79 rs79 = true := by kernel_rfl
/- cuboid/cuboidref08.Lay -/
/- cuboid/bag.more -/
def r84_0 : List POp := [⟨some 6, .own0 2, none⟩]
def r84_1 : List POp := [⟨some 8, .mv (.t 0), none⟩,⟨some 9, .len (.t 8), none⟩,⟨some 10, .bin .sub (.t 9) (.k (.int .i64 1)), none⟩,⟨some 7, .mv (.t 10), none⟩]
def r84_2 : List POp := [⟨some 11, .mv (.t 7), none⟩,⟨some 12, .bin .geq (.t 11) (.k (.int .i64 0)), none⟩,⟨some 13, .mv (.t 12), none⟩,⟨some 14, .mv (.t 0), (some (13, true))⟩,⟨some 15, .mv (.t 7), (some (13, true))⟩,⟨some 16, .iaS 2 (.t 14) (.t 15), (some (13, true))⟩,⟨some 17, .fad 0 (.t 16), (some (13, true))⟩,⟨some 18, .load false 1 (.t 17) [], (some (13, true))⟩,⟨some 19, .mv (.t 1), (some (13, true))⟩,⟨some 20, .bin .eql (.t 18) (.t 19), (some (13, true))⟩,⟨some 21, .pick (.t 13) (.t 20) (.k (.bool false)), none⟩]
def r84_3 : List POp := [⟨some 22, .mv (.t 0), none⟩,⟨some 23, .mv (.t 7), none⟩,⟨some 24, .iaS 2 (.t 22) (.t 23), none⟩,⟨some 25, .fad 1 (.t 24), none⟩,⟨some 26, .load false 1 (.t 25) [], none⟩,⟨some 27, .mv (.t 2), none⟩,⟨some 28, .bin .add (.t 26) (.t 27), none⟩,⟨some 29, .iaS 2 (.t 22) (.t 23), none⟩,⟨some 30, .fad 1 (.t 29), none⟩,⟨none, .store 1 (.t 30) (.t 28) [], none⟩]
def r84_4 : List POp := [⟨some 31, .mv (.t 0), none⟩,⟨some 6, .mv (.t 31), none⟩]
def r84_5 : List POp := [⟨some 32, .mv (.t 0), none⟩,⟨some 33, .mv (.t 1), none⟩,⟨some 34, .mv (.t 2), none⟩,⟨some 35, .build [.int .i64 0, .int .i64 0] [(0, 1, (.t 33)), (1, 1, (.t 34))], none⟩,⟨some 36, .bsl 2 1 [.int .i64 0, .int .i64 0] [(0, (.t 35))] false, none⟩,⟨some 37, .app 2 (.t 32) (.t 36) true, none⟩,⟨some 6, .mv (.t 37), none⟩]
def p84 : PCode := (.seq (.ops false r84_0) (.seq (.seq (.ops false r84_1) (.seq (.ops false r84_2) (.cond (.t 21) (.seq (.ops false r84_3) (.seq (.ops false r84_4) .ret)) .skip))) (.seq (.ops false r84_5) .ret)))
def rs84 : List RS := [.t 6]
theorem c84 : chkF Try.prog Try.f84 3 p84 rs84 = true := by kernel_rfl
/- cuboid/bag.end -/
/- cuboid/bag.count -/
def r86_0 : List POp := [⟨some 2, .mv (.k (.int .i64 0)), none⟩]
def r86_1 : List POp := [⟨some 3, .mv (.k (.int .i64 0)), none⟩]
def r86_2 : List POp := [⟨some 6, .mv (.t 0), none⟩,⟨some 7, .len (.t 6), none⟩,⟨some 8, .mv (.k (.int .i64 0)), none⟩]
def r86_3 : List POp := [⟨some 9, .bin .lss (.t 8) (.t 7), none⟩]
def r86_4 : List POp := [⟨some 10, .iaS 2 (.t 6) (.t 8), none⟩,⟨some 11, .load true 2 (.t 10) [], none⟩,⟨some 5, .alloc [.int .i64 0, .int .i64 0], none⟩,⟨none, .store 2 (.t 5) (.t 11) [], none⟩]
def r86_5 : List POp := [⟨some 12, .mv (.t 3), none⟩,⟨some 13, .fad 1 (.t 5), none⟩,⟨some 14, .load false 1 (.t 13) [], none⟩,⟨some 15, .bin .add (.t 12) (.t 14), none⟩,⟨some 3, .mv (.t 15), none⟩]
def r86_6 : List POp := [⟨some 16, .bin .add (.t 8) (.k (.int .i64 1)), none⟩,⟨some 8, .mv (.t 16), none⟩]
def b86_0 : PCode := (.seq (.ops false r86_3) (.seq (.cond (.t 9) .skip (.exit 0)) (.seq (.block 1 (.seq (.ops false r86_4) (.ops false r86_5))) (.ops false r86_6))))
def r86_7 : List POp := [⟨some 17, .mv (.t 3), none⟩,⟨some 2, .mv (.t 17), none⟩]
def p86 : PCode := (.seq (.ops false r86_0) (.seq (.ops false r86_1) (.seq (.seq (.ops false r86_2) (.block 0 (.loop b86_0))) (.seq (.ops false r86_7) .ret))))
def rs86 : List RS := [.t 2]
theorem c86 : chkF Try.prog Try.f86 1 p86 rs86 = true := by kernel_rfl
/- slices.Equal[[]cuboid/api.Run,cuboid/api.Run] -/
def r87_0 : List POp := [⟨some 4, .mv (.k (.bool false)), none⟩]
def r87_1 : List POp := [⟨some 6, .mv (.t 0), none⟩,⟨some 7, .len (.t 6), none⟩,⟨some 8, .mv (.t 1), none⟩,⟨some 9, .len (.t 8), none⟩,⟨some 10, .bin .neq (.t 7) (.t 9), none⟩]
def r87_2 : List POp := [⟨some 4, .mv (.k (.bool false)), none⟩]
def r87_3 : List POp := [⟨some 11, .mv (.t 0), none⟩,⟨some 12, .len (.t 11), none⟩,⟨some 13, .mv (.k (.int .i64 0)), none⟩]
def r87_4 : List POp := [⟨some 14, .bin .lss (.t 13) (.t 12), none⟩]
def r87_5 : List POp := [⟨some 15, .mv (.t 13), none⟩,⟨some 5, .mv (.t 15), none⟩]
def r87_6 : List POp := [⟨some 16, .mv (.t 0), none⟩,⟨some 17, .mv (.t 5), none⟩,⟨some 18, .iaS 2 (.t 16) (.t 17), none⟩,⟨some 19, .load true 2 (.t 18) [], none⟩,⟨some 20, .mv (.t 1), none⟩,⟨some 21, .mv (.t 5), none⟩,⟨some 22, .iaS 2 (.t 20) (.t 21), none⟩,⟨some 23, .load true 2 (.t 22) [], none⟩,⟨some 24, .eqs true true [.i, .i] (.t 19) (.t 23), none⟩]
def r87_7 : List POp := [⟨some 4, .mv (.k (.bool false)), none⟩]
def r87_8 : List POp := [⟨some 25, .bin .add (.t 13) (.k (.int .i64 1)), none⟩,⟨some 13, .mv (.t 25), none⟩]
def b87_0 : PCode := (.seq (.ops false r87_4) (.seq (.cond (.t 14) .skip (.exit 0)) (.seq (.block 1 (.seq (.ops false r87_5) (.seq (.ops true r87_6) (.cond (.t 24) (.seq (.ops false r87_7) .ret) .skip)))) (.ops false r87_8))))
def r87_9 : List POp := [⟨some 4, .mv (.k (.bool true)), none⟩]
def p87 : PCode := (.seq (.ops false r87_0) (.seq (.seq (.ops false r87_1) (.cond (.t 10) (.seq (.ops false r87_2) .ret) .skip)) (.seq (.seq (.ops false r87_3) (.block 0 (.loop b87_0))) (.seq (.ops false r87_9) .ret))))
def rs87 : List RS := [.t 4]
theorem c87 : chkF Try.prog Try.f87 2 p87 rs87 = true := by kernel_rfl
/- cuboid/bag.Part -/
def r88_0 : List POp := [⟨some 4, .alloc [.int .i64 0, .int .u64 0], none⟩]
def r88_1 : List POp := [⟨some 5, .alloc [.int .i64 0, .int .u64 0], none⟩]
def r88_2 : List POp := [⟨some 10, .mv (.t 0), none⟩,⟨some 11, .len (.t 10), none⟩,⟨some 12, .mv (.k (.int .i64 0)), none⟩]
def r88_3 : List POp := [⟨some 13, .bin .lss (.t 12) (.t 11), none⟩]
def r88_4 : List POp := [⟨some 14, .iaS 2 (.t 10) (.t 12), none⟩,⟨some 15, .load true 2 (.t 14) [], none⟩,⟨some 7, .alloc [.int .i64 0, .int .i64 0], none⟩,⟨none, .store 2 (.t 7) (.t 15) [], none⟩]
def r88_5 : List POp := [⟨some 16, .load true 2 (.t 5) [], none⟩,⟨some 17, .fad 0 (.t 7), none⟩,⟨some 18, .load false 1 (.t 17) [], none⟩,⟨some 19, .fad 1 (.t 7), none⟩,⟨some 20, .load false 1 (.t 19) [], none⟩,⟨some 21, .call false 90 [(.t 16), (.t 18), (.t 20)], none⟩,⟨none, .store 2 (.t 5) (.t 21) [], none⟩]
def r88_6 : List POp := [⟨some 22, .bin .add (.t 12) (.k (.int .i64 1)), none⟩,⟨some 12, .mv (.t 22), none⟩]
def b88_0 : PCode := (.seq (.ops false r88_3) (.seq (.cond (.t 13) .skip (.exit 0)) (.seq (.block 1 (.seq (.ops false r88_4) (.ops false r88_5))) (.ops false r88_6))))
def r88_7 : List POp := [⟨some 23, .mv (.t 1), none⟩,⟨some 24, .len (.t 23), none⟩,⟨some 25, .mv (.k (.int .i64 0)), none⟩]
def r88_8 : List POp := [⟨some 26, .bin .lss (.t 25) (.t 24), none⟩]
def r88_9 : List POp := [⟨some 27, .iaS 2 (.t 23) (.t 25), none⟩,⟨some 28, .load true 2 (.t 27) [], none⟩,⟨some 9, .alloc [.int .i64 0, .int .i64 0], none⟩,⟨none, .store 2 (.t 9) (.t 28) [], none⟩]
def r88_10 : List POp := [⟨some 29, .load true 2 (.t 5) [], none⟩,⟨some 30, .fad 0 (.t 9), none⟩,⟨some 31, .load false 1 (.t 30) [], none⟩,⟨some 32, .fad 1 (.t 9), none⟩,⟨some 33, .load false 1 (.t 32) [], none⟩,⟨some 34, .un .neg (.t 33), none⟩,⟨some 35, .call false 90 [(.t 29), (.t 31), (.t 34)], none⟩,⟨none, .store 2 (.t 5) (.t 35) [], none⟩]
def r88_11 : List POp := [⟨some 36, .bin .add (.t 25) (.k (.int .i64 1)), none⟩,⟨some 25, .mv (.t 36), none⟩]
def b88_1 : PCode := (.seq (.ops false r88_8) (.seq (.cond (.t 26) .skip (.exit 2)) (.seq (.block 3 (.seq (.ops false r88_9) (.ops false r88_10))) (.ops false r88_11))))
def r88_12 : List POp := [⟨some 37, .load true 2 (.t 5) [], none⟩,⟨none, .store 2 (.t 4) (.t 37) [], none⟩]
def p88 : PCode := (.seq (.ops false r88_0) (.seq (.ops false r88_1) (.seq (.seq (.ops false r88_2) (.block 0 (.loop b88_0))) (.seq (.seq (.ops false r88_7) (.block 2 (.loop b88_1))) (.seq (.ops false r88_12) .ret)))))
def rs88 : List RS := [.cell 4 true 2]
theorem c88 : chkF Try.prog Try.f88 2 p88 rs88 = true := by kernel_rfl
/- (cuboid/calc.Wide).Int -/
def r89_0 : List POp := [⟨some 1, .box 2 (.t 0), none⟩,⟨some 2, .mv (.k (.int .i64 0)), none⟩,⟨some 3, .mv (.k (.bool false)), none⟩]
def r89_1 : List POp := [⟨some 5, .fad 1 (.t 1), none⟩,⟨some 6, .load false 1 (.t 5) [], none⟩,⟨some 7, .conv .i64 (.t 6), none⟩,⟨some 4, .mv (.t 7), none⟩]
def r89_2 : List POp := [⟨some 8, .fad 0 (.t 1), none⟩,⟨some 9, .load false 1 (.t 8) [], none⟩,⟨some 10, .mv (.t 4), none⟩,⟨some 11, .bin .shr (.t 10) (.k (.int .u64 63)), none⟩,⟨some 12, .bin .neq (.t 9) (.t 11), none⟩]
def r89_3 : List POp := [⟨some 2, .mv (.k (.int .i64 0)), none⟩,⟨some 3, .mv (.k (.bool false)), none⟩]
def r89_4 : List POp := [⟨some 13, .mv (.t 4), none⟩,⟨some 2, .mv (.t 13), none⟩,⟨some 3, .mv (.k (.bool true)), none⟩]
def p89 : PCode := (.seq (.ops false r89_0) (.seq (.ops false r89_1) (.seq (.seq (.ops false r89_2) (.cond (.t 12) (.seq (.ops false r89_3) .ret) .skip)) (.seq (.ops false r89_4) .ret))))
def rs89 : List RS := [.t 2, .t 3]
theorem c89 : chkF Try.prog Try.f89 1 p89 rs89 = true := by kernel_rfl
/- (cuboid/calc.Wide).Plus -/
def r90_0 : List POp := [⟨some 3, .box 2 (.t 0), none⟩,⟨some 6, .alloc [.int .i64 0, .int .u64 0], none⟩]
def r90_1 : List POp := [⟨some 12, .mv (.t 1), none⟩,⟨some 13, .call false 119 [(.t 12)], none⟩,⟨some 14, .mv (.t 2), none⟩,⟨some 15, .call false 119 [(.t 14)], none⟩,⟨some 16, .call false 118 [(.t 13), (.t 15)], none⟩,⟨some 11, .mv (.t 16), none⟩,⟨some 17, .ext (.t 11) 0, none⟩,⟨some 18, .ext (.t 11) 1, none⟩,⟨some 7, .mv (.t 17), none⟩,⟨some 8, .mv (.t 18), none⟩]
def r90_2 : List POp := [⟨some 19, .mv (.t 1), none⟩,⟨some 20, .bin .lss (.t 19) (.k (.int .i64 0)), none⟩,⟨some 21, .mv (.t 2), none⟩,⟨some 22, .bin .lss (.t 21) (.k (.int .i64 0)), none⟩,⟨some 23, .eqs true false [.b] (.t 20) (.t 22), none⟩]
def r90_3 : List POp := [⟨some 9, .mv (.k (.int .u64 0)), none⟩]
def r90_4 : List POp := [⟨some 25, .mv (.t 8), none⟩,⟨some 26, .xf .sbc [(.k (.int .u64 0)), (.t 25), (.k (.int .u64 0))], none⟩,⟨some 24, .mv (.t 26), none⟩,⟨some 27, .ext (.t 24) 0, none⟩,⟨some 28, .ext (.t 24) 1, none⟩,⟨some 8, .mv (.t 27), none⟩,⟨some 9, .mv (.t 28), none⟩]
def r90_5 : List POp := [⟨some 30, .mv (.t 7), none⟩,⟨some 31, .mv (.t 9), none⟩,⟨some 32, .xf .sbc [(.k (.int .u64 0)), (.t 30), (.t 31)], none⟩,⟨some 29, .mv (.t 32), none⟩,⟨some 33, .ext (.t 29) 0, none⟩,⟨some 34, .ext (.t 29) 1, none⟩,⟨some 7, .mv (.t 33), none⟩]
def r90_6 : List POp := [⟨some 36, .fad 1 (.t 3), none⟩,⟨some 37, .load false 1 (.t 36) [], none⟩,⟨some 38, .mv (.t 8), none⟩,⟨some 39, .xf .adc [(.t 37), (.t 38), (.k (.int .u64 0))], none⟩,⟨some 35, .mv (.t 39), none⟩,⟨some 40, .ext (.t 35) 0, none⟩,⟨some 41, .ext (.t 35) 1, none⟩,⟨some 8, .mv (.t 40), none⟩,⟨some 10, .mv (.t 41), none⟩]
def r90_7 : List POp := [⟨some 43, .fad 0 (.t 3), none⟩,⟨some 44, .load false 1 (.t 43) [], none⟩,⟨some 45, .conv .u64 (.t 44), none⟩,⟨some 46, .mv (.t 7), none⟩,⟨some 47, .mv (.t 10), none⟩,⟨some 48, .xf .adc [(.t 45), (.t 46), (.t 47)], none⟩,⟨some 42, .mv (.t 48), none⟩,⟨some 49, .ext (.t 42) 0, none⟩,⟨some 50, .ext (.t 42) 1, none⟩,⟨some 7, .mv (.t 49), none⟩]
def r90_8 : List POp := [⟨some 51, .mv (.t 7), none⟩,⟨some 52, .conv .i64 (.t 51), none⟩,⟨some 53, .mv (.t 8), none⟩,⟨some 54, .build [.int .i64 0, .int .u64 0] [(0, 1, (.t 52)), (1, 1, (.t 53))], none⟩,⟨none, .store 2 (.t 6) (.t 54) [], none⟩]
def p90 : PCode := (.seq (.ops false r90_0) (.seq (.ops false r90_1) (.seq (.seq (.ops false r90_2) (.cond (.t 23) (.seq (.ops false r90_3) (.seq (.ops false r90_4) (.ops false r90_5))) .skip)) (.seq (.ops false r90_6) (.seq (.ops false r90_7) (.seq (.ops false r90_8) .ret))))))
def rs90 : List RS := [.cell 6 true 2]
theorem c90 : chkF Try.prog Try.f90 3 p90 rs90 = true := by kernel_rfl
/- cuboid/cuboidref01.Back -/
/- cuboid/cuboidref08.Wide -/
/- cuboid/cuboidref09.made -/
/- cuboid/cell.measures -/
def r94_0 : List POp := [⟨some 2, .mv (.k (.bool false)), none⟩]
def r94_1 : List POp := [⟨some 3, .mv (.t 0), none⟩,⟨some 4, .bin .geq (.t 3) (.k (.int .i64 1)), none⟩,⟨some 5, .mv (.t 4), none⟩,⟨some 6, .mv (.t 0), (some (5, true))⟩,⟨some 7, .bin .leq (.t 6) (.k (.int .i64 2)), (some (5, true))⟩,⟨some 8, .pick (.t 5) (.t 7) (.k (.bool false)), none⟩,⟨some 2, .mv (.t 8), none⟩]
def p94 : PCode := (.seq (.ops false r94_0) (.seq (.ops false r94_1) .ret))
def rs94 : List RS := [.t 2]
theorem c94 : chkF Try.prog Try.f94 1 p94 rs94 = true := by kernel_rfl
/- cuboid/cuboidref01.Of -/
/- cuboid/calc.Add -/
def r96_0 : List POp := [⟨some 4, .mv (.k (.int .i64 0)), none⟩,⟨some 5, .mv (.k (.bool false)), none⟩]
def r96_1 : List POp := [⟨some 6, .mv (.t 0), none⟩,⟨some 7, .mv (.t 1), none⟩,⟨some 8, .bsl 1 2 [.int .i64 0] [(0, (.t 6)), (1, (.t 7))] false, none⟩,⟨some 9, .call false 32 [(.t 8)], none⟩,⟨some 10, .ext (.t 9) 0, none⟩,⟨some 11, .ext (.t 9) 1, none⟩,⟨some 4, .mv (.t 10), none⟩,⟨some 5, .mv (.t 11), none⟩]
def p96 : PCode := (.seq (.ops false r96_0) (.seq (.ops false r96_1) .ret))
def rs96 : List RS := [.t 4, .t 5]
theorem c96 : chkF Try.prog Try.f96 2 p96 rs96 = true := by kernel_rfl
/- cmp.Compare[int64] -/
/- cuboid/calc.Cmp -/
/- cuboid/cuboidref01.Order -/
/- cuboid/cuboidref01.Times -/
/- cuboid/cuboidref10.made -/
/- cuboid/calc.Neg -/
def r102_0 : List POp := [⟨some 2, .mv (.k (.int .i64 0)), none⟩,⟨some 3, .mv (.k (.bool false)), none⟩]
def r102_1 : List POp := [⟨some 4, .mv (.t 0), none⟩,⟨some 5, .call false 109 [(.k (.int .i64 0)), (.t 4)], none⟩,⟨some 6, .ext (.t 5) 0, none⟩,⟨some 7, .ext (.t 5) 1, none⟩,⟨some 2, .mv (.t 6), none⟩,⟨some 3, .mv (.t 7), none⟩]
def p102 : PCode := (.seq (.ops false r102_0) (.seq (.ops false r102_1) .ret))
def rs102 : List RS := [.t 2, .t 3]
theorem c102 : chkF Try.prog Try.f102 1 p102 rs102 = true := by kernel_rfl
/- cuboid/delta.own -/
def r103_0 : List POp := [⟨some 2, .mv (.k (.sl [])), none⟩]
def r103_1 : List POp := [⟨some 6, .mv (.t 0), none⟩,⟨some 7, .call false 25 [(.t 6), (.k (.sl []))], none⟩,⟨some 5, .mv (.t 7), none⟩,⟨some 8, .ext (.t 5) 0, none⟩,⟨some 9, .ext (.t 5) 1, none⟩,⟨some 3, .mv (.t 8), none⟩,⟨some 4, .mv (.t 9), none⟩]
def r103_2 : List POp := [⟨some 10, .mv (.t 3), none⟩,⟨some 2, .mv (.t 10), none⟩]
def p103 : PCode := (.seq (.ops false r103_0) (.seq (.ops false r103_1) (.seq (.ops false r103_2) .ret)))
def rs103 : List RS := [.t 2]
theorem c103 : chkF Try.prog Try.f103 1 p103 rs103 = true := by kernel_rfl
/- cuboid/delta.measure -/
def r104_0 : List POp := [⟨some 8, .mv (.k (.bool false)), none⟩]
def r104_1 : List POp := [⟨some 11, .mv (.t 2), none⟩,⟨some 12, .call false 26 [(.t 11)], none⟩,⟨some 13, .un .not (.t 12), none⟩,⟨some 14, .mv (.t 13), none⟩,⟨some 15, .mv (.t 3), (some (14, false))⟩,⟨some 16, .call false 26 [(.t 15)], (some (14, false))⟩,⟨some 17, .un .not (.t 16), (some (14, false))⟩,⟨some 18, .pick (.t 14) (.k (.bool true)) (.t 17), none⟩,⟨some 19, .mv (.t 18), none⟩,⟨some 20, .mv (.t 2), (some (19, false))⟩,⟨some 21, .mv (.t 3), (some (19, false))⟩,⟨some 22, .call false 130 [(.t 20), (.t 21)], (some (19, false))⟩,⟨some 23, .un .not (.t 22), (some (19, false))⟩,⟨some 24, .pick (.t 19) (.k (.bool true)) (.t 23), none⟩,⟨some 25, .mv (.t 24), none⟩,⟨some 26, .mv (.t 2), (some (25, false))⟩,⟨some 27, .call false 27 [(.t 26)], (some (25, false))⟩,⟨some 28, .mv (.t 3), (some (25, false))⟩,⟨some 29, .call false 27 [(.t 28)], (some (25, false))⟩,⟨some 30, .bin .sub (.t 27) (.t 29), (some (25, false))⟩,⟨some 31, .mv (.t 0), (some (25, false))⟩,⟨some 32, .bin .neq (.t 30) (.t 31), (some (25, false))⟩,⟨some 33, .pick (.t 25) (.k (.bool true)) (.t 32), none⟩]
def r104_2 : List POp := [⟨some 8, .mv (.k (.bool false)), none⟩]
def r104_3 : List POp := [⟨some 35, .mv (.t 2), none⟩,⟨some 36, .mv (.t 3), none⟩,⟨some 37, .call false 88 [(.t 35), (.t 36)], none⟩,⟨some 38, .call false 89 [(.t 37)], none⟩,⟨some 34, .mv (.t 38), none⟩,⟨some 39, .ext (.t 34) 0, none⟩,⟨some 40, .ext (.t 34) 1, none⟩,⟨some 9, .mv (.t 39), none⟩,⟨some 10, .mv (.t 40), none⟩]
def r104_4 : List POp := [⟨some 41, .mv (.t 10), none⟩,⟨some 42, .mv (.t 41), none⟩,⟨some 43, .mv (.t 9), (some (42, true))⟩,⟨some 44, .mv (.t 1), (some (42, true))⟩,⟨some 45, .bin .eql (.t 43) (.t 44), (some (42, true))⟩,⟨some 46, .pick (.t 42) (.t 45) (.k (.bool false)), none⟩,⟨some 8, .mv (.t 46), none⟩]
def p104 : PCode := (.seq (.ops false r104_0) (.seq (.seq (.ops false r104_1) (.cond (.t 33) (.seq (.ops false r104_2) .ret) .skip)) (.seq (.ops false r104_3) (.seq (.ops false r104_4) .ret))))
def rs104 : List RS := [.t 8]
theorem c104 : chkF Try.prog Try.f104 4 p104 rs104 = true := by kernel_rfl
/- cuboid/cuboidref10.wide -/
/- cuboid/delta.part -/
def r106_0 : List POp := [⟨some 4, .mv (.k (.sl [])), none⟩,⟨some 5, .mv (.k (.sl [])), none⟩]
def r106_1 : List POp := [⟨some 7, .mv (.t 0), none⟩,⟨some 8, .mv (.t 1), none⟩,⟨some 9, .call false 132 [(.t 7), (.t 8)], none⟩,⟨some 6, .mv (.t 9), none⟩]
def r106_2 : List POp := [⟨some 11, .mv (.t 0), none⟩,⟨some 12, .mv (.t 6), none⟩,⟨some 13, .call false 24 [(.t 11), (.t 12)], none⟩,⟨some 10, .mv (.t 13), none⟩,⟨some 14, .ext (.t 10) 0, none⟩,⟨some 15, .ext (.t 10) 1, none⟩,⟨some 4, .mv (.t 14), none⟩]
def r106_3 : List POp := [⟨some 17, .mv (.t 1), none⟩,⟨some 18, .mv (.t 6), none⟩,⟨some 19, .call false 24 [(.t 17), (.t 18)], none⟩,⟨some 16, .mv (.t 19), none⟩,⟨some 20, .ext (.t 16) 0, none⟩,⟨some 21, .ext (.t 16) 1, none⟩,⟨some 5, .mv (.t 20), none⟩]
def r106_4 : List POp := [⟨some 22, .mv (.t 4), none⟩,⟨some 23, .mv (.t 5), none⟩,⟨some 4, .mv (.t 22), none⟩,⟨some 5, .mv (.t 23), none⟩]
def p106 : PCode := (.seq (.ops false r106_0) (.seq (.ops false r106_1) (.seq (.ops false r106_2) (.seq (.ops false r106_3) (.seq (.ops false r106_4) .ret)))))
def rs106 : List RS := [.t 4, .t 5]
theorem c106 : chkF Try.prog Try.f106 2 p106 rs106 = true := by kernel_rfl
/- cuboid/delta.may -/
def r108_0 : List POp := [⟨some 4, .box 5 (.t 1), none⟩,⟨some 6, .mv (.k (.bool false)), none⟩]
def r108_1 : List POp := [⟨some 7, .mv (.t 2), none⟩]
def r108_2 : List POp := [⟨some 8, .mv (.t 0), none⟩,⟨some 9, .load true 5 (.t 4) [], none⟩,⟨some 10, .call false 47 [(.t 8), (.t 9)], none⟩,⟨some 6, .mv (.t 10), none⟩]
def r108_3 : List POp := [⟨some 11, .load true 5 (.t 4) [], none⟩,⟨some 12, .build [.int .i64 0, .int .i64 0, .int .i64 0, .sl [], .sl []] [], none⟩,⟨some 13, .call false 53 [(.t 11), (.t 12)], none⟩,⟨some 6, .mv (.t 13), none⟩]
def p108 : PCode := (.seq (.ops false r108_0) (.seq (.seq (.ops false r108_1) (.cond (.t 7) (.seq (.ops false r108_2) .ret) .skip)) (.seq (.ops false r108_3) .ret)))
def rs108 : List RS := [.t 6]
theorem c108 : chkF Try.prog Try.f108 3 p108 rs108 = true := by kernel_rfl
/- cuboid/calc.Sub -/
def r109_0 : List POp := [⟨some 4, .mv (.k (.int .i64 0)), none⟩,⟨some 5, .mv (.k (.bool false)), none⟩]
def r109_1 : List POp := [⟨some 6, .build [.int .i64 0, .int .u64 0] [], none⟩,⟨some 7, .mv (.t 0), none⟩,⟨some 8, .call false 90 [(.t 6), (.t 7), (.k (.int .i64 1))], none⟩,⟨some 9, .mv (.t 1), none⟩,⟨some 10, .call false 90 [(.t 8), (.t 9), (.k (.int .i64 (-1)))], none⟩,⟨some 11, .call false 89 [(.t 10)], none⟩,⟨some 12, .ext (.t 11) 0, none⟩,⟨some 13, .ext (.t 11) 1, none⟩,⟨some 4, .mv (.t 12), none⟩,⟨some 5, .mv (.t 13), none⟩]
def p109 : PCode := (.seq (.ops false r109_0) (.seq (.ops false r109_1) .ret))
def rs109 : List RS := [.t 4, .t 5]
theorem c109 : chkF Try.prog Try.f109 2 p109 rs109 = true := by kernel_rfl
/- cuboid/cuboidkeep.LightDim -/
def r110_0 : List POp := [⟨some 1, .box 2 (.t 0), none⟩,⟨some 2, .mv (.k (.bool false)), none⟩]
def r110_1 : List POp := [⟨some 4, .fad 0 (.t 1), none⟩,⟨some 5, .load false 1 (.t 4) [], none⟩,⟨some 6, .len (.t 5), none⟩,⟨some 7, .bin .gtr (.t 6) (.k (.int .i64 10)), none⟩,⟨some 8, .mv (.t 7), none⟩,⟨some 9, .fad 1 (.t 1), (some (8, false))⟩,⟨some 10, .load false 1 (.t 9) [], (some (8, false))⟩,⟨some 11, .len (.t 10), (some (8, false))⟩,⟨some 12, .bin .gtr (.t 11) (.k (.int .i64 10)), (some (8, false))⟩,⟨some 13, .pick (.t 8) (.k (.bool true)) (.t 12), none⟩]
def r110_2 : List POp := [⟨some 2, .mv (.k (.bool false)), none⟩]
def r110_3 : List POp := [⟨some 3, .mv (.k (.int .i64 0)), none⟩]
def r110_4 : List POp := [⟨some 14, .mv (.t 3), none⟩,⟨some 15, .fad 1 (.t 1), none⟩,⟨some 16, .load false 1 (.t 15) [], none⟩,⟨some 17, .len (.t 16), none⟩,⟨some 18, .bin .lss (.t 14) (.t 17), none⟩]
def r110_6 : List POp := [⟨some 21, .fad 1 (.t 1), none⟩,⟨some 22, .load false 1 (.t 21) [], none⟩,⟨some 23, .mv (.t 3), none⟩,⟨some 24, .iaS 1 (.t 22) (.t 23), none⟩,⟨some 25, .load false 1 (.t 24) [], none⟩,⟨some 26, .len (.t 25), none⟩,⟨some 27, .bin .gtr (.t 26) (.k (.int .i64 60)), none⟩]
def r110_7 : List POp := [⟨some 2, .mv (.k (.bool false)), none⟩]
def r110_5 : List POp := [⟨some 19, .mv (.t 3), none⟩,⟨some 20, .bin .add (.t 19) (.k (.int .i64 1)), none⟩,⟨some 3, .mv (.t 20), none⟩]
def b110_0 : PCode := (.seq (.seq (.ops false r110_4) (.cond (.t 18) .skip (.exit 0))) (.seq (.block 1 (.seq (.ops false r110_6) (.cond (.t 27) (.seq (.ops false r110_7) .ret) .skip))) (.ops false r110_5)))
def r110_8 : List POp := [⟨some 2, .mv (.k (.bool true)), none⟩]
def p110 : PCode := (.seq (.ops false r110_0) (.seq (.seq (.ops false r110_1) (.cond (.t 13) (.seq (.ops false r110_2) .ret) .skip)) (.seq (.seq (.ops false r110_3) (.block 0 (.loop b110_0))) (.seq (.ops false r110_8) .ret))))
def rs110 : List RS := [.t 2]
theorem c110 : chkF Try.prog Try.f110 1 p110 rs110 = true := by kernel_rfl
/- cuboid/cuboidref21.Rows -/
def r111_0 : List POp := [⟨some 2, .box 2 (.t 0), none⟩,⟨some 4, .mv (.k (.bool false)), none⟩]
def r111_1 : List POp := [⟨some 5, .mv (.k (.int .i64 0)), none⟩]
def r111_2 : List POp := [⟨some 6, .mv (.t 5), none⟩,⟨some 7, .mv (.t 1), none⟩,⟨some 8, .len (.t 7), none⟩,⟨some 9, .bin .lss (.t 6) (.t 8), none⟩]
def r111_4 : List POp := [⟨some 12, .load true 2 (.t 2) [], none⟩,⟨some 13, .mv (.t 1), none⟩,⟨some 14, .mv (.t 5), none⟩,⟨some 15, .iaS 6 (.t 13) (.t 14), none⟩,⟨some 16, .load true 6 (.t 15) [], none⟩,⟨some 17, .call false 133 [(.t 12), (.t 16)], none⟩,⟨some 18, .un .not (.t 17), none⟩]
def r111_5 : List POp := [⟨some 4, .mv (.k (.bool false)), none⟩]
def r111_3 : List POp := [⟨some 10, .mv (.t 5), none⟩,⟨some 11, .bin .add (.t 10) (.k (.int .i64 1)), none⟩,⟨some 5, .mv (.t 11), none⟩]
def b111_0 : PCode := (.seq (.seq (.ops false r111_2) (.cond (.t 9) .skip (.exit 0))) (.seq (.block 1 (.seq (.ops true r111_4) (.cond (.t 18) (.seq (.ops false r111_5) .ret) .skip))) (.ops false r111_3)))
def r111_6 : List POp := [⟨some 19, .load true 2 (.t 2) [], none⟩,⟨some 20, .call false 134 [(.t 19)], none⟩,⟨some 21, .mv (.t 20), none⟩,⟨some 22, .mv (.t 1), (some (21, true))⟩,⟨some 23, .call false 135 [(.t 22)], (some (21, true))⟩,⟨some 24, .fld false 2 1 (.t 23), (some (21, true))⟩,⟨some 25, .pick (.t 21) (.t 24) (.k (.bool false)), none⟩,⟨some 4, .mv (.t 25), none⟩]
def p111 : PCode := (.seq (.ops false r111_0) (.seq (.seq (.ops false r111_1) (.block 0 (.loop b111_0))) (.seq (.ops false r111_6) .ret)))
def rs111 : List RS := [.t 4]
theorem c111 : chkF Try.prog Try.f111 2 p111 rs111 = true := by kernel_rfl
/- cuboid/cuboidref21.Check -/
def r112_0 : List POp := [⟨some 2, .box 2 (.t 0), none⟩,⟨some 4, .alloc [.sl [], .int .i64 0, .int .i64 0], none⟩]
def r112_1 : List POp := [⟨some 6, .mv (.t 1), none⟩,⟨some 7, .len (.t 6), none⟩,⟨some 8, .bin .gtr (.t 7) (.k (.int .i64 40)), none⟩]
def r112_2 : List POp := [⟨some 9, .build [.sl [], .int .i64 0, .int .i64 0] [(2, 1, (.k (.int .i64 6)))], none⟩,⟨none, .store 3 (.t 4) (.t 9) [], none⟩]
def r112_3 : List POp := [⟨some 5, .mv (.k (.int .i64 0)), none⟩]
def r112_4 : List POp := [⟨some 10, .mv (.t 5), none⟩,⟨some 11, .mv (.t 1), none⟩,⟨some 12, .len (.t 11), none⟩,⟨some 13, .bin .lss (.t 10) (.t 12), none⟩]
def r112_6 : List POp := [⟨some 16, .load true 2 (.t 2) [], none⟩,⟨some 17, .mv (.t 1), none⟩,⟨some 18, .mv (.t 5), none⟩,⟨some 19, .iaS 7 (.t 17) (.t 18), none⟩,⟨some 20, .fad 1 (.t 19), none⟩,⟨some 21, .load true 6 (.t 20) [], none⟩,⟨some 22, .call false 133 [(.t 16), (.t 21)], none⟩,⟨some 23, .un .not (.t 22), none⟩]
def r112_7 : List POp := [⟨some 24, .mv (.t 5), none⟩,⟨some 25, .build [.sl [], .int .i64 0, .int .i64 0] [(1, 1, (.t 24)), (2, 1, (.k (.int .i64 7)))], none⟩,⟨none, .store 3 (.t 4) (.t 25) [], none⟩]
def r112_5 : List POp := [⟨some 14, .mv (.t 5), none⟩,⟨some 15, .bin .add (.t 14) (.k (.int .i64 1)), none⟩,⟨some 5, .mv (.t 15), none⟩]
def b112_0 : PCode := (.seq (.seq (.ops false r112_4) (.cond (.t 13) .skip (.exit 0))) (.seq (.block 1 (.seq (.ops true r112_6) (.cond (.t 23) (.seq (.ops false r112_7) .ret) .skip))) (.ops false r112_5)))
def r112_8 : List POp := [⟨some 26, .build [.sl [], .int .i64 0, .int .i64 0] [], none⟩,⟨none, .store 3 (.t 4) (.t 26) [], none⟩]
def p112 : PCode := (.seq (.ops false r112_0) (.seq (.seq (.ops false r112_1) (.cond (.t 8) (.seq (.ops false r112_2) .ret) .skip)) (.seq (.seq (.ops false r112_3) (.block 0 (.loop b112_0))) (.seq (.ops false r112_8) .ret))))
def rs112 : List RS := [.cell 4 true 3]
theorem c112 : chkF Try.prog Try.f112 2 p112 rs112 = true := by kernel_rfl
/- cuboid/cuboidref07.Sort -/
def r113_0 : List POp := [⟨some 2, .mv (.k (.sl [])), none⟩]
def r113_1 : List POp := [⟨some 3, .mv (.k (.sl [])), none⟩]
def r113_2 : List POp := [⟨some 4, .mv (.k (.int .i64 0)), none⟩]
def r113_3 : List POp := [⟨some 5, .mv (.t 4), none⟩,⟨some 6, .mv (.t 0), none⟩,⟨some 7, .len (.t 6), none⟩,⟨some 8, .bin .lss (.t 5) (.t 7), none⟩]
def r113_5 : List POp := [⟨some 11, .mv (.t 3), none⟩,⟨some 12, .mv (.t 0), none⟩,⟨some 13, .mv (.t 4), none⟩,⟨some 14, .iaS 6 (.t 12) (.t 13), none⟩,⟨some 15, .load true 6 (.t 14) [], none⟩,⟨some 16, .call false 136 [(.t 11), (.t 15)], none⟩,⟨some 3, .mv (.t 16), none⟩]
def r113_4 : List POp := [⟨some 9, .mv (.t 4), none⟩,⟨some 10, .bin .add (.t 9) (.k (.int .i64 1)), none⟩,⟨some 4, .mv (.t 10), none⟩]
def b113_0 : PCode := (.seq (.seq (.ops false r113_3) (.cond (.t 8) .skip (.exit 0))) (.seq (.block 1 (.ops false r113_5)) (.ops false r113_4)))
def r113_6 : List POp := [⟨some 17, .mv (.t 3), none⟩,⟨some 2, .mv (.t 17), none⟩]
def p113 : PCode := (.seq (.ops false r113_0) (.seq (.ops false r113_1) (.seq (.seq (.ops false r113_2) (.block 0 (.loop b113_0))) (.seq (.ops false r113_6) .ret))))
def rs113 : List RS := [.t 2]
theorem c113 : chkF Try.prog Try.f113 1 p113 rs113 = true := by kernel_rfl
/- (*cuboid/cuboidref20.Base).Do -/
def r114_0 : List POp := [⟨some 3, .box 7 (.t 1), none⟩,⟨some 4, .mv (.k (.int .i64 0)), none⟩]
def r114_1 : List POp := [⟨some 7, .mv (.t 0), none⟩,⟨some 8, .nilc (.t 7), none⟩,⟨some 9, .fad 0 (.t 8), none⟩,⟨some 10, .load true 2 (.t 9) [], none⟩,⟨some 11, .fad 1 (.t 3), none⟩,⟨some 12, .load true 6 (.t 11) [], none⟩,⟨some 13, .call false 133 [(.t 10), (.t 12)], none⟩,⟨some 14, .un .not (.t 13), none⟩]
def r114_2 : List POp := [⟨some 4, .mv (.k (.int .i64 7)), none⟩]
def r114_3 : List POp := [⟨some 15, .mv (.t 0), none⟩,⟨some 16, .fad 1 (.t 3), none⟩,⟨some 17, .load true 6 (.t 16) [], none⟩,⟨some 18, .call true 137 [(.t 15), (.t 17)], none⟩,⟨some 5, .mv (.t 18), none⟩]
def r114_4 : List POp := [⟨some 19, .fad 0 (.t 3), none⟩,⟨some 20, .load false 1 (.t 19) [], none⟩]
def r114_5 : List POp := [⟨some 21, .mv (.t 5), none⟩,⟨some 22, .bin .lss (.t 21) (.k (.int .i64 0)), none⟩]
def r114_6 : List POp := [⟨some 4, .mv (.k (.int .i64 8)), none⟩]
def r114_7 : List POp := [⟨some 23, .mv (.t 0), none⟩,⟨some 24, .bsl 6 0 [.int .u8 0, .int .u8 0, .int .u8 0, .int .u8 0, .int .i64 0, .int .i64 0] [] true, none⟩,⟨some 25, .mv (.t 0), none⟩,⟨some 26, .nilc (.t 25), none⟩,⟨some 27, .fad 2 (.t 26), none⟩,⟨some 28, .load false 1 (.t 27) [24], none⟩,⟨some 29, .mv (.t 5), none⟩,⟨some 30, .slc 6 (.t 28) none (some (.t 29)), none⟩,⟨some 31, .app 6 (.t 24) (.t 30) true, none⟩,⟨some 32, .mv (.t 0), none⟩,⟨some 33, .nilc (.t 32), none⟩,⟨some 34, .fad 2 (.t 33), none⟩,⟨some 35, .load false 1 (.t 34) [24, 31], none⟩,⟨some 36, .mv (.t 5), none⟩,⟨some 37, .bin .add (.t 36) (.k (.int .i64 1)), none⟩,⟨some 38, .slc 6 (.t 35) (some (.t 37)) none, none⟩,⟨some 39, .app 6 (.t 31) (.t 38) false, none⟩,⟨some 40, .nilc (.t 23), none⟩,⟨some 41, .fad 2 (.t 40), none⟩,⟨none, .store 1 (.t 41) (.t 39) [], none⟩]
def r114_8 : List POp := [⟨some 4, .mv (.k (.int .i64 0)), none⟩]
def r114_9 : List POp := [⟨some 42, .mv (.t 0), none⟩,⟨some 43, .nilc (.t 42), none⟩,⟨some 44, .fad 2 (.t 43), none⟩,⟨some 45, .load false 1 (.t 44) [], none⟩,⟨some 46, .fad 1 (.t 3), none⟩,⟨some 47, .load true 6 (.t 46) [], none⟩,⟨some 48, .call false 136 [(.t 45), (.t 47)], none⟩,⟨some 6, .mv (.t 48), none⟩]
def r114_10 : List POp := [⟨some 49, .mv (.t 6), none⟩,⟨some 50, .call false 135 [(.t 49)], none⟩,⟨some 51, .fld false 2 1 (.t 50), none⟩,⟨some 52, .un .not (.t 51), none⟩]
def r114_11 : List POp := [⟨some 4, .mv (.k (.int .i64 9)), none⟩]
def r114_12 : List POp := [⟨some 53, .mv (.t 0), none⟩,⟨some 54, .mv (.t 6), none⟩,⟨some 55, .nilc (.t 53), none⟩,⟨some 56, .fad 2 (.t 55), none⟩,⟨none, .store 1 (.t 56) (.t 54) [], none⟩]
def r114_13 : List POp := [⟨some 4, .mv (.k (.int .i64 0)), none⟩]
def p114 : PCode := (.seq (.ops false r114_0) (.seq (.seq (.ops true r114_1) (.cond (.t 14) (.seq (.ops false r114_2) .ret) .skip)) (.seq (.ops false r114_3) (.seq (.seq (.ops false r114_4) (.cond (.t 20) (.seq (.seq (.ops false r114_5) (.cond (.t 22) (.seq (.ops false r114_6) .ret) .skip)) (.seq (.opsB r114_7 [(3, 0), (4, 0), (5, 0), (8, 24), (10, 0), (11, 0), (12, 0), (16, 31), (17, 0), (18, 0), (19, 0)]) (.seq (.ops false r114_8) .ret))) .skip)) (.seq (.ops true r114_9) (.seq (.seq (.ops false r114_10) (.cond (.t 52) (.seq (.ops false r114_11) .ret) .skip)) (.seq (.ops false r114_12) (.seq (.ops false r114_13) .ret))))))))
def rs114 : List RS := [.t 4]
theorem c114 : chkF Try.prog Try.f114 2 p114 rs114 = true := by kernel_rfl
/- math/bits.Mul64 -/
def r118_0 : List POp := [⟨some 4, .mv (.k (.int .u64 0)), none⟩,⟨some 5, .mv (.k (.int .u64 0)), none⟩]
def r118_1 : List POp := [⟨some 14, .mv (.t 0), none⟩,⟨some 15, .bin .and (.t 14) (.k (.int .u64 4294967295)), none⟩,⟨some 6, .mv (.t 15), none⟩]
def r118_2 : List POp := [⟨some 16, .mv (.t 0), none⟩,⟨some 17, .bin .shr (.t 16) (.k (.int .u64 32)), none⟩,⟨some 7, .mv (.t 17), none⟩]
def r118_3 : List POp := [⟨some 18, .mv (.t 1), none⟩,⟨some 19, .bin .and (.t 18) (.k (.int .u64 4294967295)), none⟩,⟨some 8, .mv (.t 19), none⟩]
def r118_4 : List POp := [⟨some 20, .mv (.t 1), none⟩,⟨some 21, .bin .shr (.t 20) (.k (.int .u64 32)), none⟩,⟨some 9, .mv (.t 21), none⟩]
def r118_5 : List POp := [⟨some 22, .mv (.t 6), none⟩,⟨some 23, .mv (.t 8), none⟩,⟨some 24, .bin .mul (.t 22) (.t 23), none⟩,⟨some 10, .mv (.t 24), none⟩]
def r118_6 : List POp := [⟨some 25, .mv (.t 7), none⟩,⟨some 26, .mv (.t 8), none⟩,⟨some 27, .bin .mul (.t 25) (.t 26), none⟩,⟨some 28, .mv (.t 10), none⟩,⟨some 29, .bin .shr (.t 28) (.k (.int .u64 32)), none⟩,⟨some 30, .bin .add (.t 27) (.t 29), none⟩,⟨some 11, .mv (.t 30), none⟩]
def r118_7 : List POp := [⟨some 31, .mv (.t 11), none⟩,⟨some 32, .bin .and (.t 31) (.k (.int .u64 4294967295)), none⟩,⟨some 12, .mv (.t 32), none⟩]
def r118_8 : List POp := [⟨some 33, .mv (.t 11), none⟩,⟨some 34, .bin .shr (.t 33) (.k (.int .u64 32)), none⟩,⟨some 13, .mv (.t 34), none⟩]
def r118_9 : List POp := [⟨some 35, .mv (.t 12), none⟩,⟨some 36, .mv (.t 6), none⟩,⟨some 37, .mv (.t 9), none⟩,⟨some 38, .bin .mul (.t 36) (.t 37), none⟩,⟨some 39, .bin .add (.t 35) (.t 38), none⟩,⟨some 12, .mv (.t 39), none⟩]
def r118_10 : List POp := [⟨some 40, .mv (.t 7), none⟩,⟨some 41, .mv (.t 9), none⟩,⟨some 42, .bin .mul (.t 40) (.t 41), none⟩,⟨some 43, .mv (.t 13), none⟩,⟨some 44, .bin .add (.t 42) (.t 43), none⟩,⟨some 45, .mv (.t 12), none⟩,⟨some 46, .bin .shr (.t 45) (.k (.int .u64 32)), none⟩,⟨some 47, .bin .add (.t 44) (.t 46), none⟩,⟨some 4, .mv (.t 47), none⟩]
def r118_11 : List POp := [⟨some 48, .mv (.t 0), none⟩,⟨some 49, .mv (.t 1), none⟩,⟨some 50, .bin .mul (.t 48) (.t 49), none⟩,⟨some 5, .mv (.t 50), none⟩]
def p118 : PCode := (.seq (.ops false r118_0) (.seq (.ops false r118_1) (.seq (.ops false r118_2) (.seq (.ops false r118_3) (.seq (.ops false r118_4) (.seq (.ops false r118_5) (.seq (.ops false r118_6) (.seq (.ops false r118_7) (.seq (.ops false r118_8) (.seq (.ops false r118_9) (.seq (.ops false r118_10) (.seq (.ops false r118_11) .ret))))))))))))
def rs118 : List RS := [.t 4, .t 5]
theorem c118 : chkF Try.prog Try.f118 2 p118 rs118 = true := by kernel_rfl
/- cuboid/calc.Size -/
def r119_0 : List POp := [⟨some 2, .mv (.k (.int .u64 0)), none⟩]
def r119_1 : List POp := [⟨some 3, .mv (.t 0), none⟩,⟨some 4, .bin .lss (.t 3) (.k (.int .i64 0)), none⟩]
def r119_2 : List POp := [⟨some 5, .mv (.t 0), none⟩,⟨some 6, .conv .u64 (.t 5), none⟩,⟨some 7, .un .neg (.t 6), none⟩,⟨some 2, .mv (.t 7), none⟩]
def r119_3 : List POp := [⟨some 8, .mv (.t 0), none⟩,⟨some 9, .conv .u64 (.t 8), none⟩,⟨some 2, .mv (.t 9), none⟩]
def p119 : PCode := (.seq (.ops false r119_0) (.seq (.seq (.ops false r119_1) (.cond (.t 4) (.seq (.ops false r119_2) .ret) .skip)) (.seq (.ops false r119_3) .ret)))
def rs119 : List RS := [.t 2]
theorem c119 : chkF Try.prog Try.f119 1 p119 rs119 = true := by kernel_rfl
/- cuboid/cuboidref01.Plus -/
/- cuboid/cuboidref01.Size -/
def r123_0 : List POp := [⟨some 2, .mv (.k (.int .u64 0)), none⟩]
def r123_1 : List POp := [⟨some 3, .mv (.t 0), none⟩,⟨some 4, .bin .lss (.t 3) (.k (.int .i64 0)), none⟩]
def r123_2 : List POp := [⟨some 5, .mv (.t 0), none⟩,⟨some 6, .bin .add (.t 5) (.k (.int .i64 1)), none⟩,⟨some 7, .un .neg (.t 6), none⟩,⟨some 8, .conv .u64 (.t 7), none⟩,⟨some 9, .bin .add (.t 8) (.k (.int .u64 1)), none⟩,⟨some 2, .mv (.t 9), none⟩]
def r123_3 : List POp := [⟨some 10, .mv (.t 0), none⟩,⟨some 11, .conv .u64 (.t 10), none⟩,⟨some 2, .mv (.t 11), none⟩]
def p123 : PCode := (.seq (.ops false r123_0) (.seq (.seq (.ops false r123_1) (.cond (.t 4) (.seq (.ops false r123_2) .ret) .skip)) (.seq (.ops false r123_3) .ret)))
def rs123 : List RS := [.t 2]
theorem c123 : chkF Try.prog Try.f123 1 p123 rs123 = true := by kernel_rfl
/- cmp.isNaN[int64] -/
/- cuboid/calc.sign -/
/- cmp.Compare[int] -/
/- cmp.Or[int] -/
/- cmp.Compare[uint64] -/
/- cuboid/cuboidref01.less -/
/- cuboid/delta.apart -/
def r130_0 : List POp := [⟨some 4, .mv (.k (.bool false)), none⟩]
def r130_1 : List POp := [⟨some 7, .mv (.t 0), none⟩,⟨some 8, .len (.t 7), none⟩,⟨some 9, .mv (.k (.int .i64 0)), none⟩]
def r130_2 : List POp := [⟨some 10, .bin .lss (.t 9) (.t 8), none⟩]
def r130_3 : List POp := [⟨some 11, .iaS 2 (.t 7) (.t 9), none⟩,⟨some 12, .load true 2 (.t 11) [], none⟩,⟨some 6, .alloc [.int .i64 0, .int .i64 0], none⟩,⟨none, .store 2 (.t 6) (.t 12) [], none⟩]
def r130_4 : List POp := [⟨some 13, .mv (.t 1), none⟩,⟨some 14, .fad 0 (.t 6), none⟩,⟨some 15, .load false 1 (.t 14) [], none⟩,⟨some 16, .call false 30 [(.t 13), (.t 15)], none⟩,⟨some 17, .bin .gtr (.t 16) (.k (.int .i64 0)), none⟩]
def r130_5 : List POp := [⟨some 4, .mv (.k (.bool false)), none⟩]
def r130_6 : List POp := [⟨some 18, .bin .add (.t 9) (.k (.int .i64 1)), none⟩,⟨some 9, .mv (.t 18), none⟩]
def b130_0 : PCode := (.seq (.ops false r130_2) (.seq (.cond (.t 10) .skip (.exit 0)) (.seq (.block 1 (.seq (.ops false r130_3) (.seq (.ops false r130_4) (.cond (.t 17) (.seq (.ops false r130_5) .ret) .skip)))) (.ops false r130_6))))
def r130_7 : List POp := [⟨some 4, .mv (.k (.bool true)), none⟩]
def p130 : PCode := (.seq (.ops false r130_0) (.seq (.seq (.ops false r130_1) (.block 0 (.loop b130_0))) (.seq (.ops false r130_7) .ret)))
def rs130 : List RS := [.t 4]
theorem c130 : chkF Try.prog Try.f130 2 p130 rs130 = true := by kernel_rfl
/- cuboid/cuboidref01.Minus -/
/- cuboid/delta.common -/
def r132_0 : List POp := [⟨some 4, .mv (.k (.sl [])), none⟩]
def r132_1 : List POp := [⟨some 5, .own0 2, none⟩]
def r132_2 : List POp := [⟨some 8, .mv (.t 0), none⟩,⟨some 9, .len (.t 8), none⟩,⟨some 10, .mv (.k (.int .i64 0)), none⟩]
def r132_3 : List POp := [⟨some 11, .bin .lss (.t 10) (.t 9), none⟩]
def r132_4 : List POp := [⟨some 12, .iaS 2 (.t 8) (.t 10), none⟩,⟨some 13, .load true 2 (.t 12) [], none⟩,⟨some 7, .alloc [.int .i64 0, .int .i64 0], none⟩,⟨none, .store 2 (.t 7) (.t 13) [], none⟩]
def r132_5 : List POp := [⟨some 14, .fad 1 (.t 7), none⟩,⟨some 15, .load false 1 (.t 14) [], none⟩,⟨some 16, .mv (.t 1), none⟩,⟨some 17, .fad 0 (.t 7), none⟩,⟨some 18, .load false 1 (.t 17) [], none⟩,⟨some 19, .call false 30 [(.t 16), (.t 18)], none⟩,⟨some 20, .mm false (.t 15) [(.t 19)], none⟩,⟨some 21, .fad 1 (.t 7), none⟩,⟨none, .store 1 (.t 21) (.t 20) [], none⟩]
def r132_6 : List POp := [⟨some 22, .fad 1 (.t 7), none⟩,⟨some 23, .load false 1 (.t 22) [], none⟩,⟨some 24, .bin .gtr (.t 23) (.k (.int .i64 0)), none⟩]
def r132_7 : List POp := [⟨some 25, .mv (.t 5), none⟩,⟨some 26, .load true 2 (.t 7) [], none⟩,⟨some 27, .bsl 2 1 [.int .i64 0, .int .i64 0] [(0, (.t 26))] false, none⟩,⟨some 28, .app 2 (.t 25) (.t 27) true, none⟩,⟨some 5, .mv (.t 28), none⟩]
def r132_8 : List POp := [⟨some 29, .bin .add (.t 10) (.k (.int .i64 1)), none⟩,⟨some 10, .mv (.t 29), none⟩]
def b132_0 : PCode := (.seq (.ops false r132_3) (.seq (.cond (.t 11) .skip (.exit 0)) (.seq (.block 1 (.seq (.ops false r132_4) (.seq (.ops true r132_5) (.seq (.ops false r132_6) (.cond (.t 24) (.ops false r132_7) .skip))))) (.rn 5 5 (.ops false r132_8)))))
def r132_9 : List POp := [⟨some 30, .mv (.t 5), none⟩,⟨some 4, .mv (.t 30), none⟩]
def p132 : PCode := (.seq (.ops false r132_0) (.seq (.ops false r132_1) (.seq (.seq (.ops false r132_2) (.block 0 (.loop b132_0))) (.seq (.ops false r132_9) .ret))))
def rs132 : List RS := [.t 4]
theorem c132 : chkF Try.prog Try.f132 2 p132 rs132 = true := by kernel_rfl
/- cuboid/cuboidref07.Good -/
def r133_0 : List POp := [⟨some 2, .box 2 (.t 0), none⟩,⟨some 3, .box 6 (.t 1), none⟩,⟨some 4, .mv (.k (.bool false)), none⟩]
def r133_1 : List POp := [⟨some 6, .load true 2 (.t 2) [], none⟩,⟨some 7, .build [.int .u8 0, .int .u8 0, .int .u8 0, .int .u8 0] [], none⟩,⟨some 8, .fad 0 (.t 3), none⟩,⟨some 9, .load true 4 (.t 8) [], none⟩,⟨some 10, .call false 143 [(.t 6), (.t 7), (.t 9)], none⟩,⟨some 11, .un .not (.t 10), none⟩,⟨some 12, .mv (.t 11), none⟩,⟨some 13, .load true 2 (.t 2) [], (some (12, false))⟩,⟨some 14, .build [.int .u8 0, .int .u8 0, .int .u8 0, .int .u8 0] [], (some (12, false))⟩,⟨some 15, .call false 144 [(.t 13), (.t 14)], (some (12, false))⟩,⟨some 16, .un .not (.t 15), (some (12, false))⟩,⟨some 17, .pick (.t 12) (.k (.bool true)) (.t 16), none⟩]
def r133_2 : List POp := [⟨some 4, .mv (.k (.bool false)), none⟩]
def r133_3 : List POp := [⟨some 18, .fad 1 (.t 2), none⟩,⟨some 19, .load false 1 (.t 18) [], none⟩,⟨some 5, .mv (.t 19), none⟩]
def r133_4 : List POp := [⟨some 20, .mv (.t 5), none⟩,⟨some 21, .bin .lss (.t 20) (.k (.int .i64 2)), none⟩]
def r133_6 : List POp := [⟨some 24, .mv (.t 5), none⟩,⟨some 25, .fad 4 (.t 3), none⟩,⟨some 26, .iaA 2 1 (.t 25) (.t 24), none⟩,⟨some 27, .load false 1 (.t 26) [], none⟩,⟨some 28, .bin .neq (.t 27) (.k (.int .i64 0)), none⟩]
def r133_7 : List POp := [⟨some 4, .mv (.k (.bool false)), none⟩]
def r133_5 : List POp := [⟨some 22, .mv (.t 5), none⟩,⟨some 23, .bin .add (.t 22) (.k (.int .i64 1)), none⟩,⟨some 5, .mv (.t 23), none⟩]
def b133_0 : PCode := (.seq (.seq (.ops false r133_4) (.cond (.t 21) .skip (.exit 0))) (.seq (.block 1 (.seq (.ops false r133_6) (.cond (.t 28) (.seq (.ops false r133_7) .ret) .skip))) (.ops false r133_5)))
def r133_8 : List POp := [⟨some 4, .mv (.k (.bool true)), none⟩]
def p133 : PCode := (.seq (.ops false r133_0) (.seq (.seq (.ops false r133_1) (.cond (.t 17) (.seq (.ops false r133_2) .ret) .skip)) (.seq (.seq (.ops false r133_3) (.block 0 (.loop b133_0))) (.seq (.ops false r133_8) .ret))))
def rs133 : List RS := [.t 4]
theorem c133 : chkF Try.prog Try.f133 2 p133 rs133 = true := by kernel_rfl
/- cuboid/cuboidref04.Good -/
def r134_0 : List POp := [⟨some 1, .box 2 (.t 0), none⟩,⟨some 2, .mv (.k (.bool false)), none⟩]
def r134_1 : List POp := [⟨some 4, .fad 0 (.t 1), none⟩,⟨some 5, .load false 1 (.t 4) [], none⟩,⟨some 6, .len (.t 5), none⟩,⟨some 7, .bin .lss (.t 6) (.k (.int .i64 1)), none⟩,⟨some 8, .mv (.t 7), none⟩,⟨some 9, .fad 0 (.t 1), (some (8, false))⟩,⟨some 10, .load false 1 (.t 9) [], (some (8, false))⟩,⟨some 11, .len (.t 10), (some (8, false))⟩,⟨some 12, .bin .gtr (.t 11) (.k (.int .i64 4)), (some (8, false))⟩,⟨some 13, .pick (.t 8) (.k (.bool true)) (.t 12), none⟩,⟨some 14, .mv (.t 13), none⟩,⟨some 15, .fad 1 (.t 1), (some (14, false))⟩,⟨some 16, .load false 1 (.t 15) [], (some (14, false))⟩,⟨some 17, .bin .lss (.t 16) (.k (.int .i64 1)), (some (14, false))⟩,⟨some 18, .pick (.t 14) (.k (.bool true)) (.t 17), none⟩,⟨some 19, .mv (.t 18), none⟩,⟨some 20, .fad 1 (.t 1), (some (19, false))⟩,⟨some 21, .load false 1 (.t 20) [], (some (19, false))⟩,⟨some 22, .bin .gtr (.t 21) (.k (.int .i64 2)), (some (19, false))⟩,⟨some 23, .pick (.t 19) (.k (.bool true)) (.t 22), none⟩]
def r134_2 : List POp := [⟨some 2, .mv (.k (.bool false)), none⟩]
def r134_3 : List POp := [⟨some 3, .mv (.k (.int .i64 0)), none⟩]
def r134_4 : List POp := [⟨some 24, .mv (.t 3), none⟩,⟨some 25, .fad 0 (.t 1), none⟩,⟨some 26, .load false 1 (.t 25) [], none⟩,⟨some 27, .len (.t 26), none⟩,⟨some 28, .bin .lss (.t 24) (.t 27), none⟩]
def r134_6 : List POp := [⟨some 31, .fad 0 (.t 1), none⟩,⟨some 32, .load false 1 (.t 31) [], none⟩,⟨some 33, .mv (.t 3), none⟩,⟨some 34, .iaS 2 (.t 32) (.t 33), none⟩,⟨some 35, .load true 2 (.t 34) [], none⟩,⟨some 36, .call false 145 [(.t 35)], none⟩,⟨some 37, .un .not (.t 36), none⟩]
def r134_7 : List POp := [⟨some 2, .mv (.k (.bool false)), none⟩]
def r134_5 : List POp := [⟨some 29, .mv (.t 3), none⟩,⟨some 30, .bin .add (.t 29) (.k (.int .i64 1)), none⟩,⟨some 3, .mv (.t 30), none⟩]
def b134_0 : PCode := (.seq (.seq (.ops false r134_4) (.cond (.t 28) .skip (.exit 0))) (.seq (.block 1 (.seq (.ops false r134_6) (.cond (.t 37) (.seq (.ops false r134_7) .ret) .skip))) (.ops false r134_5)))
def r134_8 : List POp := [⟨some 2, .mv (.k (.bool true)), none⟩]
def p134 : PCode := (.seq (.ops false r134_0) (.seq (.seq (.ops false r134_1) (.cond (.t 23) (.seq (.ops false r134_2) .ret) .skip)) (.seq (.seq (.ops false r134_3) (.block 0 (.loop b134_0))) (.seq (.ops false r134_8) .ret))))
def rs134 : List RS := [.t 2]
theorem c134 : chkF Try.prog Try.f134 1 p134 rs134 = true := by kernel_rfl
/- cuboid/cuboidref07.Mass -/
def r135_0 : List POp := [⟨some 2, .alloc [.int .i64 0, .int .i64 0, .bool false], none⟩]
def r135_1 : List POp := [⟨some 3, .alloc [.int .i64 0, .int .i64 0, .bool false], none⟩]
def r135_2 : List POp := [⟨some 4, .mv (.k (.int .i64 0)), none⟩]
def r135_3 : List POp := [⟨some 7, .mv (.t 4), none⟩,⟨some 8, .mv (.t 0), none⟩,⟨some 9, .len (.t 8), none⟩,⟨some 10, .bin .lss (.t 7) (.t 9), none⟩]
def r135_5 : List POp := [⟨some 5, .mv (.k (.int .i64 0)), none⟩]
def r135_6 : List POp := [⟨some 13, .mv (.t 5), none⟩,⟨some 14, .bin .lss (.t 13) (.k (.int .i64 2)), none⟩]
def r135_8 : List POp := [⟨some 17, .mv (.t 0), none⟩,⟨some 18, .mv (.t 4), none⟩,⟨some 19, .mv (.t 5), none⟩,⟨some 20, .iaS 6 (.t 17) (.t 18), none⟩,⟨some 21, .fad 4 (.t 20), none⟩,⟨some 22, .iaA 2 1 (.t 21) (.t 19), none⟩,⟨some 23, .load false 1 (.t 22) [], none⟩,⟨some 24, .call false 123 [(.t 23)], none⟩,⟨some 6, .mv (.t 24), none⟩]
def r135_9 : List POp := [⟨some 25, .mv (.t 6), none⟩,⟨some 26, .mv (.t 5), none⟩,⟨some 27, .fad 0 (.t 3), none⟩,⟨some 28, .iaA 2 1 (.t 27) (.t 26), none⟩,⟨some 29, .load false 1 (.t 28) [], none⟩,⟨some 30, .bin .sub (.k (.int .i64 2305843009213693952)) (.t 29), none⟩,⟨some 31, .conv .u64 (.t 30), none⟩,⟨some 32, .bin .gtr (.t 25) (.t 31), none⟩]
def r135_10 : List POp := [⟨some 33, .build [.int .i64 0, .int .i64 0, .bool false] [], none⟩,⟨none, .store 3 (.t 2) (.t 33) [], none⟩]
def r135_11 : List POp := [⟨some 34, .mv (.t 5), none⟩,⟨some 35, .fad 0 (.t 3), none⟩,⟨some 36, .iaA 2 1 (.t 35) (.t 34), none⟩,⟨some 37, .load false 1 (.t 36) [], none⟩,⟨some 38, .mv (.t 6), none⟩,⟨some 39, .conv .i64 (.t 38), none⟩,⟨some 40, .bin .add (.t 37) (.t 39), none⟩,⟨some 41, .fad 0 (.t 3), none⟩,⟨some 42, .iaA 2 1 (.t 41) (.t 34), none⟩,⟨none, .store 1 (.t 42) (.t 40) [], none⟩]
def r135_7 : List POp := [⟨some 15, .mv (.t 5), none⟩,⟨some 16, .bin .add (.t 15) (.k (.int .i64 1)), none⟩,⟨some 5, .mv (.t 16), none⟩]
def b135_1 : PCode := (.seq (.seq (.ops false r135_6) (.cond (.t 14) .skip (.exit 2))) (.seq (.block 3 (.seq (.ops false r135_8) (.seq (.seq (.ops false r135_9) (.cond (.t 32) (.seq (.ops false r135_10) .ret) .skip)) (.ops false r135_11)))) (.ops false r135_7)))
def r135_4 : List POp := [⟨some 11, .mv (.t 4), none⟩,⟨some 12, .bin .add (.t 11) (.k (.int .i64 1)), none⟩,⟨some 4, .mv (.t 12), none⟩]
def b135_0 : PCode := (.seq (.seq (.ops false r135_3) (.cond (.t 10) .skip (.exit 0))) (.seq (.block 1 (.seq (.ops false r135_5) (.block 2 (.loop b135_1)))) (.ops false r135_4)))
def r135_12 : List POp := [⟨some 43, .fad 2 (.t 3), none⟩,⟨none, .store 1 (.t 43) (.k (.bool true)) [], none⟩]
def r135_13 : List POp := [⟨some 44, .load true 3 (.t 3) [], none⟩,⟨none, .store 3 (.t 2) (.t 44) [], none⟩]
def p135 : PCode := (.seq (.ops false r135_0) (.seq (.ops false r135_1) (.seq (.seq (.ops false r135_2) (.block 0 (.loop b135_0))) (.seq (.ops false r135_12) (.seq (.ops false r135_13) .ret)))))
def rs135 : List RS := [.cell 2 true 3]
theorem c135 : chkF Try.prog Try.f135 1 p135 rs135 = true := by kernel_rfl
/- cuboid/cuboidref07.Insert -/
def r136_0 : List POp := [⟨some 3, .box 6 (.t 1), none⟩,⟨some 4, .mv (.k (.sl [])), none⟩]
def r136_1 : List POp := [⟨some 5, .mv (.k (.int .i64 0)), none⟩]
def r136_2 : List POp := [⟨some 6, .mv (.t 5), none⟩,⟨some 7, .mv (.t 0), none⟩,⟨some 8, .len (.t 7), none⟩,⟨some 9, .bin .lss (.t 6) (.t 8), none⟩,⟨some 10, .mv (.t 9), none⟩,⟨some 11, .load true 6 (.t 3) [], (some (10, true))⟩,⟨some 12, .mv (.t 0), (some (10, true))⟩,⟨some 13, .mv (.t 5), (some (10, true))⟩,⟨some 14, .iaS 6 (.t 12) (.t 13), (some (10, true))⟩,⟨some 15, .load true 6 (.t 14) [], (some (10, true))⟩,⟨some 16, .call false 146 [(.t 11), (.t 15)], (some (10, true))⟩,⟨some 17, .un .not (.t 16), (some (10, true))⟩,⟨some 18, .pick (.t 10) (.t 17) (.k (.bool false)), none⟩]
def r136_3 : List POp := [⟨some 19, .mv (.t 5), none⟩,⟨some 20, .bin .add (.t 19) (.k (.int .i64 1)), none⟩,⟨some 5, .mv (.t 20), none⟩]
def b136_0 : PCode := (.seq (.seq (.ops true r136_2) (.cond (.t 18) .skip (.exit 0))) (.block 1 (.ops false r136_3)))
def r136_4 : List POp := [⟨some 21, .bsl 6 0 [.int .u8 0, .int .u8 0, .int .u8 0, .int .u8 0, .int .i64 0, .int .i64 0] [] true, none⟩,⟨some 22, .mv (.t 0), none⟩,⟨some 23, .mv (.t 5), none⟩,⟨some 24, .slc 6 (.t 22) none (some (.t 23)), none⟩,⟨some 25, .app 6 (.t 21) (.t 24) true, none⟩,⟨some 26, .load true 6 (.t 3) [21, 25], none⟩,⟨some 27, .bsl 6 1 [.int .u8 0, .int .u8 0, .int .u8 0, .int .u8 0, .int .i64 0, .int .i64 0] [(0, (.t 26))] false, none⟩,⟨some 28, .app 6 (.t 25) (.t 27) true, none⟩,⟨some 29, .mv (.t 0), none⟩,⟨some 30, .mv (.t 5), none⟩,⟨some 31, .slc 6 (.t 29) (some (.t 30)) none, none⟩,⟨some 32, .app 6 (.t 28) (.t 31) false, none⟩,⟨some 4, .mv (.t 32), none⟩]
def p136 : PCode := (.seq (.ops false r136_0) (.seq (.ops false r136_1) (.seq (.block 0 (.loop b136_0)) (.seq (.opsB r136_4 [(4, 21), (5, 3), (7, 25), (11, 28)]) .ret))))
def rs136 : List RS := [.t 4]
theorem c136 : chkF Try.prog Try.f136 2 p136 rs136 = true := by kernel_rfl
/- (*cuboid/cuboidref20.Base).find -/
def r137_0 : List POp := [⟨some 3, .box 6 (.t 1), none⟩,⟨some 4, .mv (.k (.int .i64 0)), none⟩]
def r137_1 : List POp := [⟨some 5, .mv (.k (.int .i64 0)), none⟩]
def r137_2 : List POp := [⟨some 6, .mv (.t 5), none⟩,⟨some 7, .mv (.t 0), none⟩,⟨some 8, .nilc (.t 7), none⟩,⟨some 9, .fad 2 (.t 8), none⟩,⟨some 10, .load false 1 (.t 9) [], none⟩,⟨some 11, .len (.t 10), none⟩,⟨some 12, .bin .lss (.t 6) (.t 11), none⟩]
def r137_4 : List POp := [⟨some 15, .mv (.t 0), none⟩,⟨some 16, .nilc (.t 15), none⟩,⟨some 17, .fad 2 (.t 16), none⟩,⟨some 18, .load false 1 (.t 17) [], none⟩,⟨some 19, .mv (.t 5), none⟩,⟨some 20, .iaS 6 (.t 18) (.t 19), none⟩,⟨some 21, .load true 6 (.t 20) [], none⟩,⟨some 22, .load true 6 (.t 3) [], none⟩,⟨some 23, .eqs false true [.i, .i, .i, .i, .i, .i] (.t 21) (.t 22), none⟩]
def r137_5 : List POp := [⟨some 24, .mv (.t 5), none⟩,⟨some 4, .mv (.t 24), none⟩]
def r137_3 : List POp := [⟨some 13, .mv (.t 5), none⟩,⟨some 14, .bin .add (.t 13) (.k (.int .i64 1)), none⟩,⟨some 5, .mv (.t 14), none⟩]
def b137_0 : PCode := (.seq (.seq (.ops false r137_2) (.cond (.t 12) .skip (.exit 0))) (.seq (.block 1 (.seq (.ops true r137_4) (.cond (.t 23) (.seq (.ops false r137_5) .ret) .skip))) (.ops false r137_3)))
def r137_6 : List POp := [⟨some 4, .mv (.k (.int .i64 (-1))), none⟩]
def p137 : PCode := (.seq (.ops false r137_0) (.seq (.seq (.ops false r137_1) (.block 0 (.loop b137_0))) (.seq (.ops false r137_6) .ret)))
def rs137 : List RS := [.t 4]
theorem c137 : chkF Try.prog Try.f137 2 p137 rs137 = true := by kernel_rfl
/- cmp.isNaN[int] -/
/- cmp.isNaN[uint64] -/
/- cuboid/cuboidref04.Right -/
def r143_0 : List POp := [⟨some 3, .box 2 (.t 0), none⟩,⟨some 4, .box 4 (.t 1), none⟩,⟨some 5, .box 4 (.t 2), none⟩,⟨some 6, .mv (.k (.bool false)), none⟩]
def r143_1 : List POp := [⟨some 8, .load true 2 (.t 3) [], none⟩,⟨some 9, .call false 134 [(.t 8)], none⟩,⟨some 10, .un .not (.t 9), none⟩]
def r143_2 : List POp := [⟨some 6, .mv (.k (.bool false)), none⟩]
def r143_3 : List POp := [⟨some 7, .mv (.k (.int .i64 0)), none⟩]
def r143_4 : List POp := [⟨some 11, .mv (.t 7), none⟩,⟨some 12, .bin .lss (.t 11) (.k (.int .i64 4)), none⟩]
def r143_6 : List POp := [⟨some 15, .mv (.t 7), none⟩,⟨some 16, .fad 0 (.t 3), none⟩,⟨some 17, .load false 1 (.t 16) [], none⟩,⟨some 18, .len (.t 17), none⟩,⟨some 19, .bin .geq (.t 15) (.t 18), none⟩]
def r143_7 : List POp := [⟨some 20, .mv (.t 7), none⟩,⟨some 21, .iaA 4 1 (.t 4) (.t 20), none⟩,⟨some 22, .load false 1 (.t 21) [], none⟩,⟨some 23, .bin .neq (.t 22) (.k (.int .u8 0)), none⟩,⟨some 24, .mv (.t 23), none⟩,⟨some 25, .mv (.t 7), (some (24, false))⟩,⟨some 26, .iaA 4 1 (.t 5) (.t 25), (some (24, false))⟩,⟨some 27, .load false 1 (.t 26) [], (some (24, false))⟩,⟨some 28, .bin .neq (.t 27) (.k (.int .u8 0)), (some (24, false))⟩,⟨some 29, .pick (.t 24) (.k (.bool true)) (.t 28), none⟩]
def r143_8 : List POp := [⟨some 6, .mv (.k (.bool false)), none⟩]
def r143_9 : List POp := [⟨some 30, .mv (.t 7), none⟩,⟨some 31, .iaA 4 1 (.t 5) (.t 30), none⟩,⟨some 32, .load false 1 (.t 31) [], none⟩,⟨some 33, .conv .i64 (.t 32), none⟩,⟨some 34, .fad 0 (.t 3), none⟩,⟨some 35, .load false 1 (.t 34) [], none⟩,⟨some 36, .mv (.t 7), none⟩,⟨some 37, .iaS 2 (.t 35) (.t 36), none⟩,⟨some 38, .load true 2 (.t 37) [], none⟩,⟨some 39, .mv (.t 7), none⟩,⟨some 40, .iaA 4 1 (.t 4) (.t 39), none⟩,⟨some 41, .load false 1 (.t 40) [], none⟩,⟨some 42, .conv .i64 (.t 41), none⟩,⟨some 43, .call false 158 [(.t 38), (.t 42)], none⟩,⟨some 44, .bin .geq (.t 33) (.t 43), none⟩]
def r143_10 : List POp := [⟨some 6, .mv (.k (.bool false)), none⟩]
def r143_5 : List POp := [⟨some 13, .mv (.t 7), none⟩,⟨some 14, .bin .add (.t 13) (.k (.int .i64 1)), none⟩,⟨some 7, .mv (.t 14), none⟩]
def b143_0 : PCode := (.seq (.seq (.ops false r143_4) (.cond (.t 12) .skip (.exit 0))) (.seq (.block 1 (.seq (.ops false r143_6) (.cond (.t 19) (.seq (.ops false r143_7) (.cond (.t 29) (.seq (.ops false r143_8) .ret) .skip)) (.seq (.ops true r143_9) (.cond (.t 44) (.seq (.ops false r143_10) .ret) .skip))))) (.ops false r143_5)))
def r143_11 : List POp := [⟨some 6, .mv (.k (.bool true)), none⟩]
def p143 : PCode := (.seq (.ops false r143_0) (.seq (.seq (.ops false r143_1) (.cond (.t 10) (.seq (.ops false r143_2) .ret) .skip)) (.seq (.seq (.ops false r143_3) (.block 0 (.loop b143_0))) (.seq (.ops false r143_11) .ret))))
def rs143 : List RS := [.t 6]
theorem c143 : chkF Try.prog Try.f143 3 p143 rs143 = true := by kernel_rfl
/- cuboid/cuboidref05.Good -/
def r144_0 : List POp := [⟨some 2, .box 2 (.t 0), none⟩,⟨some 3, .box 4 (.t 1), none⟩,⟨some 4, .mv (.k (.bool false)), none⟩]
def r144_1 : List POp := [⟨some 5, .load true 2 (.t 2) [], none⟩,⟨some 6, .load true 4 (.t 3) [], none⟩,⟨some 7, .build [.int .u8 0, .int .u8 0, .int .u8 0, .int .u8 0] [], none⟩,⟨some 8, .call false 143 [(.t 5), (.t 6), (.t 7)], none⟩,⟨some 4, .mv (.t 8), none⟩]
def p144 : PCode := (.seq (.ops false r144_0) (.seq (.ops false r144_1) .ret))
def rs144 : List RS := [.t 4]
theorem c144 : chkF Try.prog Try.f144 2 p144 rs144 = true := by kernel_rfl
/- cuboid/cuboidref03.Good -/
def r145_0 : List POp := [⟨some 1, .box 2 (.t 0), none⟩,⟨some 2, .mv (.k (.bool false)), none⟩]
def r145_1 : List POp := [⟨some 7, .fad 0 (.t 1), none⟩,⟨some 8, .load false 1 (.t 7) [], none⟩,⟨some 9, .len (.t 8), none⟩,⟨some 3, .mv (.t 9), none⟩]
def r145_2 : List POp := [⟨some 10, .mv (.t 3), none⟩,⟨some 11, .bin .lss (.t 10) (.k (.int .i64 1)), none⟩,⟨some 12, .mv (.t 11), none⟩,⟨some 13, .mv (.t 3), (some (12, false))⟩,⟨some 14, .bin .gtr (.t 13) (.k (.int .i64 4)), (some (12, false))⟩,⟨some 15, .pick (.t 12) (.k (.bool true)) (.t 14), none⟩,⟨some 16, .mv (.t 15), none⟩,⟨some 17, .fad 1 (.t 1), (some (16, false))⟩,⟨some 18, .load false 1 (.t 17) [], (some (16, false))⟩,⟨some 19, .len (.t 18), (some (16, false))⟩,⟨some 20, .mv (.t 3), (some (16, false))⟩,⟨some 21, .bin .sub (.t 20) (.k (.int .i64 1)), (some (16, false))⟩,⟨some 22, .bin .neq (.t 19) (.t 21), (some (16, false))⟩,⟨some 23, .pick (.t 16) (.k (.bool true)) (.t 22), none⟩]
def r145_3 : List POp := [⟨some 2, .mv (.k (.bool false)), none⟩]
def r145_4 : List POp := [⟨some 4, .mv (.k (.int .i64 0)), none⟩]
def r145_5 : List POp := [⟨some 24, .mv (.t 4), none⟩,⟨some 25, .mv (.t 3), none⟩,⟨some 26, .bin .lss (.t 24) (.t 25), none⟩]
def r145_7 : List POp := [⟨some 29, .fad 0 (.t 1), none⟩,⟨some 30, .load false 1 (.t 29) [], none⟩,⟨some 31, .mv (.t 4), none⟩,⟨some 32, .iaS 1 (.t 30) (.t 31), none⟩,⟨some 33, .load false 1 (.t 32) [], none⟩,⟨some 34, .bin .lss (.t 33) (.k (.int .i64 1)), none⟩,⟨some 35, .mv (.t 34), none⟩,⟨some 36, .fad 0 (.t 1), (some (35, false))⟩,⟨some 37, .load false 1 (.t 36) [], (some (35, false))⟩,⟨some 38, .mv (.t 4), (some (35, false))⟩,⟨some 39, .iaS 1 (.t 37) (.t 38), (some (35, false))⟩,⟨some 40, .load false 1 (.t 39) [], (some (35, false))⟩,⟨some 41, .bin .gtr (.t 40) (.k (.int .i64 40)), (some (35, false))⟩,⟨some 42, .pick (.t 35) (.k (.bool true)) (.t 41), none⟩]
def r145_8 : List POp := [⟨some 2, .mv (.k (.bool false)), none⟩]
def r145_6 : List POp := [⟨some 27, .mv (.t 4), none⟩,⟨some 28, .bin .add (.t 27) (.k (.int .i64 1)), none⟩,⟨some 4, .mv (.t 28), none⟩]
def b145_0 : PCode := (.seq (.seq (.ops false r145_5) (.cond (.t 26) .skip (.exit 0))) (.seq (.block 1 (.seq (.ops false r145_7) (.cond (.t 42) (.seq (.ops false r145_8) .ret) .skip))) (.ops false r145_6)))
def r145_9 : List POp := [⟨some 5, .mv (.k (.int .i64 0)), none⟩]
def r145_10 : List POp := [⟨some 43, .mv (.t 5), none⟩,⟨some 44, .mv (.t 3), none⟩,⟨some 45, .bin .sub (.t 44) (.k (.int .i64 1)), none⟩,⟨some 46, .bin .lss (.t 43) (.t 45), none⟩]
def r145_12 : List POp := [⟨some 49, .fad 1 (.t 1), none⟩,⟨some 50, .load false 1 (.t 49) [], none⟩,⟨some 51, .mv (.t 5), none⟩,⟨some 52, .iaS 1 (.t 50) (.t 51), none⟩,⟨some 53, .load false 1 (.t 52) [], none⟩,⟨some 54, .len (.t 53), none⟩,⟨some 55, .fad 0 (.t 1), none⟩,⟨some 56, .load false 1 (.t 55) [], none⟩,⟨some 57, .mv (.t 5), none⟩,⟨some 58, .iaS 1 (.t 56) (.t 57), none⟩,⟨some 59, .load false 1 (.t 58) [], none⟩,⟨some 60, .bin .neq (.t 54) (.t 59), none⟩]
def r145_13 : List POp := [⟨some 2, .mv (.k (.bool false)), none⟩]
def r145_14 : List POp := [⟨some 6, .mv (.k (.int .i64 0)), none⟩]
def r145_15 : List POp := [⟨some 61, .mv (.t 6), none⟩,⟨some 62, .fad 1 (.t 1), none⟩,⟨some 63, .load false 1 (.t 62) [], none⟩,⟨some 64, .mv (.t 5), none⟩,⟨some 65, .iaS 1 (.t 63) (.t 64), none⟩,⟨some 66, .load false 1 (.t 65) [], none⟩,⟨some 67, .len (.t 66), none⟩,⟨some 68, .bin .lss (.t 61) (.t 67), none⟩]
def r145_17 : List POp := [⟨some 71, .fad 1 (.t 1), none⟩,⟨some 72, .load false 1 (.t 71) [], none⟩,⟨some 73, .mv (.t 5), none⟩,⟨some 74, .iaS 1 (.t 72) (.t 73), none⟩,⟨some 75, .load false 1 (.t 74) [], none⟩,⟨some 76, .mv (.t 6), none⟩,⟨some 77, .iaS 1 (.t 75) (.t 76), none⟩,⟨some 78, .load false 1 (.t 77) [], none⟩,⟨some 79, .bin .lss (.t 78) (.k (.int .i64 0)), none⟩,⟨some 80, .mv (.t 79), none⟩,⟨some 81, .fad 1 (.t 1), (some (80, false))⟩,⟨some 82, .load false 1 (.t 81) [], (some (80, false))⟩,⟨some 83, .mv (.t 5), (some (80, false))⟩,⟨some 84, .iaS 1 (.t 82) (.t 83), (some (80, false))⟩,⟨some 85, .load false 1 (.t 84) [], (some (80, false))⟩,⟨some 86, .mv (.t 6), (some (80, false))⟩,⟨some 87, .iaS 1 (.t 85) (.t 86), (some (80, false))⟩,⟨some 88, .load false 1 (.t 87) [], (some (80, false))⟩,⟨some 89, .fad 0 (.t 1), (some (80, false))⟩,⟨some 90, .load false 1 (.t 89) [], (some (80, false))⟩,⟨some 91, .mv (.t 5), (some (80, false))⟩,⟨some 92, .bin .add (.t 91) (.k (.int .i64 1)), (some (80, false))⟩,⟨some 93, .iaS 1 (.t 90) (.t 92), (some (80, false))⟩,⟨some 94, .load false 1 (.t 93) [], (some (80, false))⟩,⟨some 95, .bin .geq (.t 88) (.t 94), (some (80, false))⟩,⟨some 96, .pick (.t 80) (.k (.bool true)) (.t 95), none⟩]
def r145_18 : List POp := [⟨some 2, .mv (.k (.bool false)), none⟩]
def r145_16 : List POp := [⟨some 69, .mv (.t 6), none⟩,⟨some 70, .bin .add (.t 69) (.k (.int .i64 1)), none⟩,⟨some 6, .mv (.t 70), none⟩]
def b145_2 : PCode := (.seq (.seq (.ops false r145_15) (.cond (.t 68) .skip (.exit 4))) (.seq (.block 5 (.seq (.ops true r145_17) (.cond (.t 96) (.seq (.ops false r145_18) .ret) .skip))) (.ops false r145_16)))
def r145_11 : List POp := [⟨some 47, .mv (.t 5), none⟩,⟨some 48, .bin .add (.t 47) (.k (.int .i64 1)), none⟩,⟨some 5, .mv (.t 48), none⟩]
def b145_1 : PCode := (.seq (.seq (.ops false r145_10) (.cond (.t 46) .skip (.exit 2))) (.seq (.block 3 (.seq (.seq (.ops true r145_12) (.cond (.t 60) (.seq (.ops false r145_13) .ret) .skip)) (.seq (.ops false r145_14) (.block 4 (.loop b145_2))))) (.ops false r145_11)))
def r145_19 : List POp := [⟨some 2, .mv (.k (.bool true)), none⟩]
def p145 : PCode := (.seq (.ops false r145_0) (.seq (.ops false r145_1) (.seq (.seq (.ops false r145_2) (.cond (.t 23) (.seq (.ops false r145_3) .ret) .skip)) (.seq (.seq (.ops false r145_4) (.block 0 (.loop b145_0))) (.seq (.seq (.ops false r145_9) (.block 2 (.loop b145_1))) (.seq (.ops false r145_19) .ret))))))
def rs145 : List RS := [.t 2]
theorem c145 : chkF Try.prog Try.f145 1 p145 rs145 = true := by kernel_rfl
/- cuboid/cuboidref07.Less -/
def r146_0 : List POp := [⟨some 2, .box 6 (.t 0), none⟩,⟨some 3, .box 6 (.t 1), none⟩,⟨some 4, .mv (.k (.bool false)), none⟩]
def r146_1 : List POp := [⟨some 6, .fad 0 (.t 2), none⟩,⟨some 7, .load true 4 (.t 6) [], none⟩,⟨some 8, .fad 0 (.t 3), none⟩,⟨some 9, .load true 4 (.t 8) [], none⟩,⟨some 10, .eqs true true [.i, .i, .i, .i] (.t 7) (.t 9), none⟩]
def r146_2 : List POp := [⟨some 11, .fad 0 (.t 2), none⟩,⟨some 12, .load true 4 (.t 11) [], none⟩,⟨some 13, .call false 159 [(.t 12)], none⟩,⟨some 14, .fad 0 (.t 3), none⟩,⟨some 15, .load true 4 (.t 14) [], none⟩,⟨some 16, .call false 159 [(.t 15)], none⟩,⟨some 17, .bin .lss (.t 13) (.t 16), none⟩,⟨some 4, .mv (.t 17), none⟩]
def r146_3 : List POp := [⟨some 5, .mv (.k (.int .i64 0)), none⟩]
def r146_4 : List POp := [⟨some 18, .mv (.t 5), none⟩,⟨some 19, .bin .lss (.t 18) (.k (.int .i64 2)), none⟩]
def r146_6 : List POp := [⟨some 22, .mv (.t 5), none⟩,⟨some 23, .fad 4 (.t 2), none⟩,⟨some 24, .iaA 2 1 (.t 23) (.t 22), none⟩,⟨some 25, .load false 1 (.t 24) [], none⟩,⟨some 26, .mv (.t 5), none⟩,⟨some 27, .fad 4 (.t 3), none⟩,⟨some 28, .iaA 2 1 (.t 27) (.t 26), none⟩,⟨some 29, .load false 1 (.t 28) [], none⟩,⟨some 30, .bin .neq (.t 25) (.t 29), none⟩]
def r146_7 : List POp := [⟨some 31, .mv (.t 5), none⟩,⟨some 32, .fad 4 (.t 2), none⟩,⟨some 33, .iaA 2 1 (.t 32) (.t 31), none⟩,⟨some 34, .load false 1 (.t 33) [], none⟩,⟨some 35, .mv (.t 5), none⟩,⟨some 36, .fad 4 (.t 3), none⟩,⟨some 37, .iaA 2 1 (.t 36) (.t 35), none⟩,⟨some 38, .load false 1 (.t 37) [], none⟩,⟨some 39, .bin .lss (.t 34) (.t 38), none⟩,⟨some 4, .mv (.t 39), none⟩]
def r146_5 : List POp := [⟨some 20, .mv (.t 5), none⟩,⟨some 21, .bin .add (.t 20) (.k (.int .i64 1)), none⟩,⟨some 5, .mv (.t 21), none⟩]
def b146_0 : PCode := (.seq (.seq (.ops false r146_4) (.cond (.t 19) .skip (.exit 0))) (.seq (.block 1 (.seq (.ops true r146_6) (.cond (.t 30) (.seq (.ops true r146_7) .ret) .skip))) (.ops false r146_5)))
def r146_8 : List POp := [⟨some 4, .mv (.k (.bool false)), none⟩]
def p146 : PCode := (.seq (.ops false r146_0) (.seq (.seq (.ops false r146_1) (.cond (.t 10) (.seq (.ops true r146_2) .ret) .skip)) (.seq (.seq (.ops false r146_3) (.block 0 (.loop b146_0))) (.seq (.ops false r146_8) .ret))))
def rs146 : List RS := [.t 4]
theorem c146 : chkF Try.prog Try.f146 2 p146 rs146 = true := by kernel_rfl
/- cuboid/cuboidref03.Size -/
def r158_0 : List POp := [⟨some 2, .box 2 (.t 0), none⟩,⟨some 4, .mv (.k (.int .i64 0)), none⟩]
def r158_1 : List POp := [⟨some 6, .load true 2 (.t 2) [], none⟩,⟨some 7, .call false 145 [(.t 6)], none⟩,⟨some 8, .un .not (.t 7), none⟩,⟨some 9, .mv (.t 8), none⟩,⟨some 10, .mv (.t 1), (some (9, false))⟩,⟨some 11, .bin .lss (.t 10) (.k (.int .i64 0)), (some (9, false))⟩,⟨some 12, .pick (.t 9) (.k (.bool true)) (.t 11), none⟩,⟨some 13, .mv (.t 12), none⟩,⟨some 14, .mv (.t 1), (some (13, false))⟩,⟨some 15, .fad 0 (.t 2), (some (13, false))⟩,⟨some 16, .load false 1 (.t 15) [], (some (13, false))⟩,⟨some 17, .len (.t 16), (some (13, false))⟩,⟨some 18, .bin .gtr (.t 14) (.t 17), (some (13, false))⟩,⟨some 19, .pick (.t 13) (.k (.bool true)) (.t 18), none⟩,⟨some 5, .mv (.t 19), none⟩]
def r158_2 : List POp := [⟨some 4, .mv (.k (.int .i64 0)), none⟩]
def r158_3 : List POp := [⟨some 21, .mv (.t 1), none⟩,⟨some 22, .fad 0 (.t 2), none⟩,⟨some 23, .load false 1 (.t 22) [], none⟩,⟨some 24, .len (.t 23), none⟩,⟨some 25, .bin .eql (.t 21) (.t 24), none⟩,⟨some 20, .mv (.t 25), none⟩]
def r158_4 : List POp := [⟨some 4, .mv (.k (.int .i64 1)), none⟩]
def r158_5 : List POp := [⟨some 26, .fad 0 (.t 2), none⟩,⟨some 27, .load false 1 (.t 26) [], none⟩,⟨some 28, .mv (.t 1), none⟩,⟨some 29, .iaS 1 (.t 27) (.t 28), none⟩,⟨some 30, .load false 1 (.t 29) [], none⟩,⟨some 4, .mv (.t 30), none⟩]
def p158 : PCode := (.seq (.ops false r158_0) (.seq (.block 0 (.seq (.ops false r158_1) (.cond (.t 5) (.seq (.ops false r158_2) .ret) (.seq (.ops false r158_3) (.cond (.t 20) (.seq (.ops false r158_4) .ret) .skip))))) (.seq (.ops false r158_5) .ret)))
def rs158 : List RS := [.t 4]
theorem c158 : chkF Try.prog Try.f158 2 p158 rs158 = true := by kernel_rfl
/- cuboid/cuboidref02.Key -/
def r159_0 : List POp := [⟨some 1, .box 4 (.t 0), none⟩,⟨some 2, .mv (.k (.int .u32 0)), none⟩]
def r159_1 : List POp := [⟨some 3, .mv (.k (.int .u32 0)), none⟩]
def r159_2 : List POp := [⟨some 4, .mv (.k (.int .i64 0)), none⟩]
def r159_3 : List POp := [⟨some 5, .mv (.t 4), none⟩,⟨some 6, .bin .lss (.t 5) (.k (.int .i64 4)), none⟩]
def r159_5 : List POp := [⟨some 9, .mv (.t 3), none⟩,⟨some 10, .bin .mul (.t 9) (.k (.int .u32 256)), none⟩,⟨some 11, .mv (.t 4), none⟩,⟨some 12, .iaA 4 1 (.t 1) (.t 11), none⟩,⟨some 13, .load false 1 (.t 12) [], none⟩,⟨some 14, .conv .u32 (.t 13), none⟩,⟨some 15, .bin .add (.t 10) (.t 14), none⟩,⟨some 3, .mv (.t 15), none⟩]
def r159_4 : List POp := [⟨some 7, .mv (.t 4), none⟩,⟨some 8, .bin .add (.t 7) (.k (.int .i64 1)), none⟩,⟨some 4, .mv (.t 8), none⟩]
def b159_0 : PCode := (.seq (.seq (.ops false r159_3) (.cond (.t 6) .skip (.exit 0))) (.seq (.block 1 (.ops false r159_5)) (.ops false r159_4)))
def r159_6 : List POp := [⟨some 16, .mv (.t 3), none⟩,⟨some 2, .mv (.t 16), none⟩]
def p159 : PCode := (.seq (.ops false r159_0) (.seq (.ops false r159_1) (.seq (.seq (.ops false r159_2) (.block 0 (.loop b159_0))) (.seq (.ops false r159_6) .ret))))
def rs159 : List RS := [.t 2]
theorem c159 : chkF Try.prog Try.f159 1 p159 rs159 = true := by kernel_rfl
end Go.Proofs.Ytcmejdkjfekoeaa

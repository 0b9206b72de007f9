/- Part of the proof of DeltaApplies: lemmas. -/
import Derived.Test.YtcmejdkjfekoeaaDeltaS5
import Derived.Test.YtcmejdkjfekoeaaDeltaS8
import Derived.Test.YtcmejdkjfekoeaaDeltaS12
import Derived.Test.YtcmejdkjfekoeaaDeltaS13
import Derived.Test.YtcmejdkjfekoeaaProg
import Derived.KernelRfl
set_option linter.unusedVariables false
set_option linter.unusedSimpArgs false
namespace Go.Proofs.Ytcmejdkjfekoeaa
open Go.Pl
/- cuboid/cuboidlaw10.DeltaApplies -/
def r15_0 : List POp := [⟨some 3, .box 14 (.t 0), none⟩,⟨some 6, .mv (.k (.bool false)), none⟩]
def r15_1 : List POp := [⟨some 25, .load true 14 (.t 3) [], none⟩,⟨some 26, .mv (.t 1), none⟩,⟨some 27, .mv (.t 2), none⟩,⟨some 28, .call false 72 [(.t 25), (.t 26), (.t 27)], none⟩,⟨some 29, .un .not (.t 28), none⟩]
def r15_2 : List POp := [⟨some 30, .call false 58 [], none⟩,⟨some 6, .mv (.t 30), none⟩]
def r15_3 : List POp := [⟨some 31, .mv (.t 1), none⟩,⟨some 32, .len (.t 31), none⟩,⟨some 33, .bin .quo (.t 32) (.k (.int .i64 2)), none⟩,⟨some 7, .mv (.t 33), none⟩]
def r15_4 : List POp := [⟨some 34, .fad 0 (.t 3), none⟩,⟨some 35, .load false 1 (.t 34) [], none⟩,⟨some 36, .bsl 1 3 [.int .i64 0] [(0, (.t 35)), (1, (.k (.int .i64 1))), (2, (.k (.int .i64 2)))] false, none⟩,⟨some 37, .len (.t 36), none⟩,⟨some 38, .mv (.k (.int .i64 0)), none⟩]
def r15_5 : List POp := [⟨some 39, .bin .lss (.t 38) (.t 37), none⟩]
def r15_6 : List POp := [⟨some 40, .iaS 1 (.t 36) (.t 38), none⟩,⟨some 41, .load false 1 (.t 40) [], none⟩,⟨some 9, .mv (.t 41), none⟩]
def r15_7 : List POp := [⟨some 42, .mv (.t 9), none⟩,⟨some 43, .mv (.t 1), none⟩,⟨some 44, .call false 44 [(.t 42), (.t 43)], none⟩,⟨some 45, .mv (.t 9), none⟩,⟨some 46, .mv (.t 1), none⟩,⟨some 47, .mv (.t 7), none⟩,⟨some 48, .slc 6 (.t 46) none (some (.t 47)), none⟩,⟨some 49, .call false 44 [(.t 45), (.t 48)], none⟩,⟨some 10, .alloc [.int .i64 0, .int .i64 0, .int .i64 0, .sl [], .sl [], .bool false], none⟩,⟨some 11, .alloc [.int .i64 0, .int .i64 0, .int .i64 0, .sl [], .sl [], .bool false], none⟩,⟨none, .store 6 (.t 10) (.t 44) [], none⟩,⟨none, .store 6 (.t 11) (.t 49) [], none⟩]
def r15_8 : List POp := [⟨some 50, .mv (.t 9), none⟩,⟨some 51, .mv (.t 2), none⟩,⟨some 52, .call false 62 [(.t 50), (.t 51)], none⟩,⟨some 53, .fld true 0 7 (.t 52), none⟩,⟨some 12, .alloc [.int .i64 0, .int .i64 0, .int .i64 0, .sl [], .sl [], .sl [], .sl []], none⟩,⟨none, .store 7 (.t 12) (.t 53) [], none⟩]
def r15_9 : List POp := [⟨some 54, .fad 1 (.t 3), none⟩,⟨some 55, .load true 5 (.t 54) [], none⟩,⟨some 56, .fad 0 (.t 10), none⟩,⟨some 57, .load true 5 (.t 56) [], none⟩,⟨some 58, .fad 0 (.t 11), none⟩,⟨some 59, .load true 5 (.t 58) [], none⟩,⟨some 60, .build [.int .i64 0, .int .i64 0, .int .i64 0, .sl [], .sl []] [], none⟩,⟨some 61, .bsl 5 4 [.int .i64 0, .int .i64 0, .int .i64 0, .sl [], .sl []] [(0, (.t 55)), (1, (.t 57)), (2, (.t 59)), (3, (.t 60))] false, none⟩,⟨some 13, .mv (.t 61), none⟩]
def r15_10 : List POp := [⟨some 62, .fad 6 (.t 3), none⟩,⟨some 63, .load false 1 (.t 62) [], none⟩,⟨some 64, .fad 5 (.t 10), none⟩,⟨some 65, .load false 1 (.t 64) [], none⟩,⟨some 66, .fad 5 (.t 11), none⟩,⟨some 67, .load false 1 (.t 66) [], none⟩,⟨some 68, .bsl 1 4 [.bool false] [(0, (.t 63)), (1, (.t 65)), (2, (.t 67)), (3, (.k (.bool false)))] false, none⟩,⟨some 14, .mv (.t 68), none⟩]
def r15_11 : List POp := [⟨some 69, .fad 7 (.t 3), none⟩,⟨some 70, .load true 7 (.t 69) [], none⟩,⟨some 71, .load true 7 (.t 12) [], none⟩,⟨some 72, .mv (.t 9), none⟩,⟨some 73, .load true 7 (.t 12) [], none⟩,⟨some 74, .call false 64 [(.t 72), (.t 73)], none⟩,⟨some 75, .fld true 0 7 (.t 74), none⟩,⟨some 76, .mv (.t 9), none⟩,⟨some 77, .fad 0 (.t 10), none⟩,⟨some 78, .load true 5 (.t 77) [], none⟩,⟨some 79, .fad 5 (.t 10), none⟩,⟨some 80, .load false 1 (.t 79) [], none⟩,⟨some 81, .fad 0 (.t 11), none⟩,⟨some 82, .load true 5 (.t 81) [], none⟩,⟨some 83, .fad 5 (.t 11), none⟩,⟨some 84, .load false 1 (.t 83) [], none⟩,⟨some 85, .call false 73 [(.t 76), (.t 78), (.t 80), (.t 82), (.t 84)], none⟩,⟨some 86, .fld true 0 7 (.t 85), none⟩,⟨some 87, .bsl 7 4 [.int .i64 0, .int .i64 0, .int .i64 0, .sl [], .sl [], .sl [], .sl []] [(0, (.t 70)), (1, (.t 71)), (2, (.t 75)), (3, (.t 86))] false, none⟩,⟨some 15, .mv (.t 87), none⟩]
def r15_12 : List POp := [⟨some 16, .mv (.k (.int .i64 0)), none⟩]
def r15_13 : List POp := [⟨some 88, .mv (.t 16), none⟩,⟨some 89, .mv (.t 13), none⟩,⟨some 90, .len (.t 89), none⟩,⟨some 91, .bin .lss (.t 88) (.t 90), none⟩]
def r15_15 : List POp := [⟨some 17, .mv (.k (.int .i64 0)), none⟩]
def r15_16 : List POp := [⟨some 94, .mv (.t 17), none⟩,⟨some 95, .mv (.t 15), none⟩,⟨some 96, .len (.t 95), none⟩,⟨some 97, .bin .lss (.t 94) (.t 96), none⟩]
def r15_18 : List POp := [⟨some 101, .mv (.t 9), none⟩,⟨some 102, .mv (.t 13), none⟩,⟨some 103, .mv (.t 16), none⟩,⟨some 104, .iaS 5 (.t 102) (.t 103), none⟩,⟨some 105, .load true 5 (.t 104) [18], none⟩,⟨some 106, .mv (.t 14), none⟩,⟨some 107, .mv (.t 16), none⟩,⟨some 108, .iaS 1 (.t 106) (.t 107), none⟩,⟨some 109, .load false 1 (.t 108) [18], none⟩,⟨some 110, .mv (.t 15), none⟩,⟨some 111, .mv (.t 17), none⟩,⟨some 112, .iaS 7 (.t 110) (.t 111), none⟩,⟨some 113, .load true 7 (.t 112) [18], none⟩,⟨some 114, .call false 74 [(.t 101), (.t 105), (.t 109), (.t 113)], none⟩,⟨some 100, .mv (.t 114), none⟩,⟨some 115, .ext (.t 100) 0, none⟩,⟨some 116, .ext (.t 100) 1, none⟩,⟨some 117, .ext (.t 100) 2, none⟩,⟨some 18, .alloc [.int .i64 0, .int .i64 0, .int .i64 0, .sl [], .sl []], none⟩,⟨none, .store 5 (.t 18) (.t 115) [], none⟩,⟨some 19, .mv (.t 116), none⟩,⟨some 20, .mv (.t 117), none⟩]
def r15_19 : List POp := [⟨some 118, .mv (.t 9), none⟩,⟨some 119, .mv (.t 13), none⟩,⟨some 120, .mv (.t 16), none⟩,⟨some 121, .iaS 5 (.t 119) (.t 120), none⟩,⟨some 122, .load true 5 (.t 121) [21], none⟩,⟨some 123, .mv (.t 14), none⟩,⟨some 124, .mv (.t 16), none⟩,⟨some 125, .iaS 1 (.t 123) (.t 124), none⟩,⟨some 126, .load false 1 (.t 125) [21], none⟩,⟨some 127, .mv (.t 15), none⟩,⟨some 128, .mv (.t 17), none⟩,⟨some 129, .iaS 7 (.t 127) (.t 128), none⟩,⟨some 130, .load true 7 (.t 129) [21], none⟩,⟨some 131, .call false 75 [(.t 118), (.t 122), (.t 126), (.t 130)], none⟩,⟨some 21, .alloc [.int .i64 0, .int .i64 0, .int .i64 0, .sl [], .sl [], .bool false, .bool false], none⟩,⟨none, .store 7 (.t 21) (.t 131) [], none⟩]
def r15_20 : List POp := [⟨some 132, .mv (.t 20), none⟩,⟨some 133, .fad 6 (.t 21), none⟩,⟨some 134, .load false 1 (.t 133) [], none⟩,⟨some 135, .eqs true false [.b] (.t 132) (.t 134), none⟩,⟨some 136, .mv (.t 135), none⟩,⟨some 137, .mv (.t 19), (some (136, false))⟩,⟨some 138, .fad 5 (.t 21), (some (136, false))⟩,⟨some 139, .load false 1 (.t 138) [], (some (136, false))⟩,⟨some 140, .eqs true false [.b] (.t 137) (.t 139), (some (136, false))⟩,⟨some 141, .pick (.t 136) (.k (.bool true)) (.t 140), none⟩,⟨some 142, .mv (.t 141), none⟩,⟨some 143, .load true 5 (.t 18) [], (some (142, false))⟩,⟨some 144, .fad 0 (.t 21), (some (142, false))⟩,⟨some 145, .load true 5 (.t 144) [], (some (142, false))⟩,⟨some 146, .call false 46 [(.t 143), (.t 145)], (some (142, false))⟩,⟨some 147, .un .not (.t 146), (some (142, false))⟩,⟨some 148, .pick (.t 142) (.k (.bool true)) (.t 147), none⟩]
def r15_21 : List POp := [⟨some 6, .mv (.k (.bool false)), none⟩]
def r15_22 : List POp := [⟨some 150, .mv (.t 9), none⟩,⟨some 151, .mv (.t 13), none⟩,⟨some 152, .mv (.t 16), none⟩,⟨some 153, .iaS 5 (.t 151) (.t 152), none⟩,⟨some 154, .load true 5 (.t 153) [22], none⟩,⟨some 155, .mv (.t 14), none⟩,⟨some 156, .mv (.t 16), none⟩,⟨some 157, .iaS 1 (.t 155) (.t 156), none⟩,⟨some 158, .load false 1 (.t 157) [22], none⟩,⟨some 159, .mv (.t 13), none⟩,⟨some 160, .mv (.t 17), none⟩,⟨some 161, .iaS 5 (.t 159) (.t 160), none⟩,⟨some 162, .load true 5 (.t 161) [22], none⟩,⟨some 163, .mv (.t 14), none⟩,⟨some 164, .mv (.t 17), none⟩,⟨some 165, .iaS 1 (.t 163) (.t 164), none⟩,⟨some 166, .load false 1 (.t 165) [22], none⟩,⟨some 167, .call false 76 [(.t 150), (.t 154), (.t 158), (.t 162), (.t 166)], none⟩,⟨some 149, .mv (.t 167), none⟩,⟨some 168, .ext (.t 149) 0, none⟩,⟨some 169, .ext (.t 149) 1, none⟩,⟨some 22, .alloc [.int .i64 0, .int .i64 0, .int .i64 0, .sl [], .sl [], .sl [], .sl []], none⟩,⟨none, .store 7 (.t 22) (.t 168) [], none⟩,⟨some 23, .mv (.t 169), none⟩]
def r15_23 : List POp := [⟨some 170, .mv (.t 9), none⟩,⟨some 171, .mv (.t 13), none⟩,⟨some 172, .mv (.t 16), none⟩,⟨some 173, .iaS 5 (.t 171) (.t 172), none⟩,⟨some 174, .load true 5 (.t 173) [24], none⟩,⟨some 175, .mv (.t 14), none⟩,⟨some 176, .mv (.t 16), none⟩,⟨some 177, .iaS 1 (.t 175) (.t 176), none⟩,⟨some 178, .load false 1 (.t 177) [24], none⟩,⟨some 179, .mv (.t 13), none⟩,⟨some 180, .mv (.t 17), none⟩,⟨some 181, .iaS 5 (.t 179) (.t 180), none⟩,⟨some 182, .load true 5 (.t 181) [24], none⟩,⟨some 183, .mv (.t 14), none⟩,⟨some 184, .mv (.t 17), none⟩,⟨some 185, .iaS 1 (.t 183) (.t 184), none⟩,⟨some 186, .load false 1 (.t 185) [24], none⟩,⟨some 187, .call false 73 [(.t 170), (.t 174), (.t 178), (.t 182), (.t 186)], none⟩,⟨some 24, .alloc [.int .i64 0, .int .i64 0, .int .i64 0, .sl [], .sl [], .sl [], .sl [], .bool false], none⟩,⟨none, .store 8 (.t 24) (.t 187) [], none⟩]
def r15_24 : List POp := [⟨some 188, .mv (.t 23), none⟩,⟨some 189, .fad 7 (.t 24), none⟩,⟨some 190, .load false 1 (.t 189) [], none⟩,⟨some 191, .eqs true false [.b] (.t 188) (.t 190), none⟩,⟨some 192, .mv (.t 191), none⟩,⟨some 193, .load true 7 (.t 22) [], (some (192, false))⟩,⟨some 194, .fad 0 (.t 24), (some (192, false))⟩,⟨some 195, .load true 7 (.t 194) [], (some (192, false))⟩,⟨some 196, .call false 61 [(.t 193), (.t 195)], (some (192, false))⟩,⟨some 197, .un .not (.t 196), (some (192, false))⟩,⟨some 198, .pick (.t 192) (.k (.bool true)) (.t 197), none⟩]
def r15_25 : List POp := [⟨some 6, .mv (.k (.bool false)), none⟩]
def r15_17 : List POp := [⟨some 98, .mv (.t 17), none⟩,⟨some 99, .bin .add (.t 98) (.k (.int .i64 1)), none⟩,⟨some 17, .mv (.t 99), none⟩]
def b15_2 : PCode := (.seq (.seq (.ops false r15_16) (.cond (.t 97) .skip (.exit 4))) (.seq (.block 5 (.seq (.ops true r15_18) (.seq (.ops true r15_19) (.seq (.seq (.ops false r15_20) (.cond (.t 148) (.seq (.ops false r15_21) .ret) .skip)) (.seq (.ops true r15_22) (.seq (.ops true r15_23) (.seq (.ops false r15_24) (.cond (.t 198) (.seq (.ops false r15_25) .ret) .skip)))))))) (.ops false r15_17)))
def r15_14 : List POp := [⟨some 92, .mv (.t 16), none⟩,⟨some 93, .bin .add (.t 92) (.k (.int .i64 1)), none⟩,⟨some 16, .mv (.t 93), none⟩]
def b15_1 : PCode := (.seq (.seq (.ops false r15_13) (.cond (.t 91) .skip (.exit 2))) (.seq (.block 3 (.seq (.ops false r15_15) (.block 4 (.loop b15_2)))) (.ops false r15_14)))
def r15_26 : List POp := [⟨some 199, .bin .add (.t 38) (.k (.int .i64 1)), none⟩,⟨some 38, .mv (.t 199), none⟩]
def b15_0 : PCode := (.seq (.ops false r15_5) (.seq (.cond (.t 39) .skip (.exit 0)) (.seq (.block 1 (.seq (.ops false r15_6) (.seq (.ops true r15_7) (.seq (.ops false r15_8) (.seq (.ops false r15_9) (.seq (.ops false r15_10) (.seq (.ops true r15_11) (.seq (.ops false r15_12) (.block 2 (.loop b15_1)))))))))) (.ops false r15_26))))
def r15_27 : List POp := [⟨some 200, .call false 58 [], none⟩,⟨some 6, .mv (.t 200), none⟩]
def p15 : PCode := (.seq (.ops false r15_0) (.seq (.seq (.ops false r15_1) (.cond (.t 29) (.seq (.ops false r15_2) .ret) .skip)) (.seq (.ops false r15_3) (.seq (.seq (.ops false r15_4) (.block 0 (.loop b15_0))) (.seq (.ops false r15_27) .ret)))))
def rs15 : List RS := [.t 6]
theorem c15 : chkF Try.prog Try.f15 3 p15 rs15 = true := by kernel_rfl
/- cuboid/cuboidref10.Apply -/
def r75_0 : List POp := [⟨some 5, .box 5 (.t 1), none⟩,⟨some 7, .box 7 (.t 3), none⟩,⟨some 8, .alloc [.int .i64 0, .int .i64 0, .int .i64 0, .sl [], .sl [], .bool false, .bool false], none⟩]
def r75_1 : List POp := [⟨some 14, .mv (.t 0), none⟩,⟨some 15, .load true 7 (.t 7) [], none⟩,⟨some 16, .call false 66 [(.t 14), (.t 15)], none⟩,⟨some 17, .un .not (.t 16), none⟩,⟨some 18, .mv (.t 17), none⟩,⟨some 19, .mv (.t 2), (some (18, false))⟩,⟨some 20, .mv (.t 19), (some (18, false))⟩,⟨some 21, .mv (.t 0), (some (20, true))⟩,⟨some 22, .load true 5 (.t 5) [], (some (20, true))⟩,⟨some 23, .call false 48 [(.t 21), (.t 22)], (some (20, true))⟩,⟨some 24, .un .not (.t 23), (some (20, true))⟩,⟨some 25, .pick (.t 20) (.t 24) (.k (.bool false)), (some (18, false))⟩,⟨some 26, .pick (.t 18) (.k (.bool true)) (.t 25), none⟩,⟨some 27, .mv (.t 26), none⟩,⟨some 28, .mv (.t 2), (some (27, false))⟩,⟨some 29, .un .not (.t 28), (some (27, false))⟩,⟨some 30, .mv (.t 29), (some (27, false))⟩,⟨some 31, .load true 5 (.t 5) [], (some (30, true))⟩,⟨some 32, .call false 107 [(.t 31)], (some (30, true))⟩,⟨some 33, .un .not (.t 32), (some (30, true))⟩,⟨some 34, .pick (.t 30) (.t 33) (.k (.bool false)), (some (27, false))⟩,⟨some 35, .pick (.t 27) (.k (.bool true)) (.t 34), none⟩]
def r75_2 : List POp := [⟨some 36, .build [.int .i64 0, .int .i64 0, .int .i64 0, .sl [], .sl [], .bool false, .bool false] [], none⟩,⟨none, .store 7 (.t 8) (.t 36) [], none⟩]
def r75_3 : List POp := [⟨some 37, .fad 0 (.t 5), none⟩,⟨some 38, .load false 1 (.t 37) [], none⟩,⟨some 39, .fad 0 (.t 7), none⟩,⟨some 40, .load false 1 (.t 39) [], none⟩,⟨some 41, .bin .add (.t 38) (.t 40), none⟩,⟨some 42, .build [.int .i64 0, .int .i64 0, .int .i64 0, .sl [], .sl []] [(0, 1, (.t 41))], none⟩,⟨some 9, .alloc [.int .i64 0, .int .i64 0, .int .i64 0, .sl [], .sl []], none⟩,⟨none, .store 5 (.t 9) (.t 42) [], none⟩]
def r75_4 : List POp := [⟨some 10, .mv (.k (.int .i64 0)), none⟩]
def r75_5 : List POp := [⟨some 43, .mv (.t 10), none⟩,⟨some 44, .mv (.t 0), none⟩,⟨some 45, .bin .lss (.t 43) (.t 44), none⟩]
def r75_7 : List POp := [⟨some 48, .mv (.t 10), none⟩,⟨some 49, .fad 3 (.t 5), none⟩,⟨some 50, .iaA 2 1 (.t 49) (.t 48), none⟩,⟨some 51, .load false 1 (.t 50) [11], none⟩,⟨some 52, .mv (.t 10), none⟩,⟨some 53, .fad 5 (.t 7), none⟩,⟨some 54, .iaA 2 1 (.t 53) (.t 52), none⟩,⟨some 55, .load false 1 (.t 54) [11], none⟩,⟨some 56, .call false 40 [(.t 51), (.t 55)], none⟩,⟨some 11, .alloc [.sl [], .bool false], none⟩,⟨none, .store 2 (.t 11) (.t 56) [], none⟩]
def r75_8 : List POp := [⟨some 57, .fad 1 (.t 11), none⟩,⟨some 58, .load false 1 (.t 57) [], none⟩,⟨some 59, .un .not (.t 58), none⟩]
def r75_9 : List POp := [⟨some 60, .build [.int .i64 0, .int .i64 0, .int .i64 0, .sl [], .sl [], .bool false, .bool false] [], none⟩,⟨none, .store 7 (.t 8) (.t 60) [], none⟩]
def r75_10 : List POp := [⟨some 61, .fad 0 (.t 11), none⟩,⟨some 62, .load false 1 (.t 61) [], none⟩,⟨some 63, .mv (.t 10), none⟩,⟨some 64, .fad 3 (.t 7), none⟩,⟨some 65, .iaA 2 1 (.t 64) (.t 63), none⟩,⟨some 66, .load false 1 (.t 65) [], none⟩,⟨some 67, .call false 39 [(.t 62), (.t 66)], none⟩,⟨none, .store 2 (.t 11) (.t 67) [], none⟩]
def r75_11 : List POp := [⟨some 68, .fad 1 (.t 11), none⟩,⟨some 69, .load false 1 (.t 68) [], none⟩,⟨some 70, .un .not (.t 69), none⟩]
def r75_12 : List POp := [⟨some 71, .build [.int .i64 0, .int .i64 0, .int .i64 0, .sl [], .sl [], .bool false, .bool false] [], none⟩,⟨none, .store 7 (.t 8) (.t 71) [], none⟩]
def r75_13 : List POp := [⟨some 73, .fad 0 (.t 11), none⟩,⟨some 74, .load false 1 (.t 73) [], none⟩,⟨some 75, .call false 92 [(.t 74)], none⟩,⟨some 76, .call false 91 [(.t 75)], none⟩,⟨some 72, .mv (.t 76), none⟩,⟨some 77, .ext (.t 72) 0, none⟩,⟨some 78, .ext (.t 72) 1, none⟩,⟨some 12, .mv (.t 77), none⟩,⟨some 13, .mv (.t 78), none⟩]
def r75_14 : List POp := [⟨some 79, .mv (.t 13), none⟩,⟨some 80, .un .not (.t 79), none⟩]
def r75_15 : List POp := [⟨some 81, .build [.int .i64 0, .int .i64 0, .int .i64 0, .sl [], .sl [], .bool false, .bool false] [], none⟩,⟨none, .store 7 (.t 8) (.t 81) [], none⟩]
def r75_16 : List POp := [⟨some 82, .mv (.t 10), none⟩,⟨some 83, .fad 0 (.t 11), none⟩,⟨some 84, .load false 1 (.t 83) [], none⟩,⟨some 85, .fad 3 (.t 9), none⟩,⟨some 86, .iaA 2 1 (.t 85) (.t 82), none⟩,⟨none, .store 1 (.t 86) (.t 84) [], none⟩]
def r75_17 : List POp := [⟨some 87, .mv (.t 10), none⟩,⟨some 88, .mv (.t 12), none⟩,⟨some 89, .fad 1 (.t 9), none⟩,⟨some 90, .iaA 2 1 (.t 89) (.t 87), none⟩,⟨none, .store 1 (.t 90) (.t 88) [], none⟩]
def r75_6 : List POp := [⟨some 46, .mv (.t 10), none⟩,⟨some 47, .bin .add (.t 46) (.k (.int .i64 1)), none⟩,⟨some 10, .mv (.t 47), none⟩]
def b75_0 : PCode := (.seq (.seq (.ops false r75_5) (.cond (.t 45) .skip (.exit 0))) (.seq (.block 1 (.seq (.ops true r75_7) (.seq (.seq (.ops false r75_8) (.cond (.t 59) (.seq (.ops false r75_9) .ret) .skip)) (.seq (.ops true r75_10) (.seq (.seq (.ops false r75_11) (.cond (.t 70) (.seq (.ops false r75_12) .ret) .skip)) (.seq (.ops false r75_13) (.seq (.seq (.ops false r75_14) (.cond (.t 80) (.seq (.ops false r75_15) .ret) .skip)) (.seq (.ops false r75_16) (.ops false r75_17))))))))) (.ops false r75_6)))
def r75_18 : List POp := [⟨some 91, .load true 5 (.t 9) [], none⟩,⟨some 92, .call false 107 [(.t 91)], none⟩]
def r75_19 : List POp := [⟨some 93, .build [.int .i64 0, .int .i64 0, .int .i64 0, .sl [], .sl [], .bool false, .bool false] [(6, 1, (.k (.bool true)))], none⟩,⟨none, .store 7 (.t 8) (.t 93) [], none⟩]
def r75_20 : List POp := [⟨some 94, .mv (.t 0), none⟩,⟨some 95, .load true 5 (.t 9) [], none⟩,⟨some 96, .call false 48 [(.t 94), (.t 95)], none⟩,⟨some 97, .un .not (.t 96), none⟩]
def r75_21 : List POp := [⟨some 98, .build [.int .i64 0, .int .i64 0, .int .i64 0, .sl [], .sl [], .bool false, .bool false] [], none⟩,⟨none, .store 7 (.t 8) (.t 98) [], none⟩]
def r75_22 : List POp := [⟨some 99, .load true 5 (.t 9) [], none⟩,⟨some 100, .build [.int .i64 0, .int .i64 0, .int .i64 0, .sl [], .sl [], .bool false, .bool false] [(0, 5, (.t 99)), (5, 1, (.k (.bool true))), (6, 1, (.k (.bool true)))], none⟩,⟨none, .store 7 (.t 8) (.t 100) [], none⟩]
def p75 : PCode := (.seq (.ops false r75_0) (.seq (.seq (.ops false r75_1) (.cond (.t 35) (.seq (.ops false r75_2) .ret) .skip)) (.seq (.ops false r75_3) (.seq (.seq (.ops false r75_4) (.block 0 (.loop b75_0))) (.seq (.seq (.ops false r75_18) (.cond (.t 92) (.seq (.ops false r75_19) .ret) .skip)) (.seq (.seq (.ops false r75_20) (.cond (.t 97) (.seq (.ops false r75_21) .ret) .skip)) (.seq (.ops false r75_22) .ret)))))))
def rs75 : List RS := [.cell 8 true 7]
theorem c75 : chkF Try.prog Try.f75 4 p75 rs75 = true := by kernel_rfl
end Go.Proofs.Ytcmejdkjfekoeaa
namespace Go.Proofs.Ytcmejdkjfekoeaa
open Go.Pl Go.Bag
set_option maxHeartbeats 64000000
set_option maxRecDepth 100000
def rgV (p : Cell × Bool × Bool) : CV := .agg [.int .i64 p.1.n, .int .i64 p.1.s0, .int .i64 p.1.s1, encL p.1.b0, encL p.1.b1, .bool p.2.1, .bool p.2.2]
theorem may_cases (m : Int) (c : Cell) : (decide (c = zeroC) = true → decide (c.n ≠ 0) = false ∧ mayC m c (decide (c.n ≠ 0)) = true) ∧ (goodC m c = true → decide (c.n ≠ 0) = true ∧ mayC m c (decide (c.n ≠ 0)) = true) ∧ (goodC m c = false → decide (c = zeroC) = false → mayC m c (decide (c.n ≠ 0)) = false) := by
  refine ⟨fun h => ?_, fun h => ?_, fun h h0 => ?_⟩
  · have h := of_decide_eq_true h
    subst h; exact ⟨rfl, rfl⟩
  · have h' := (goodC_iff.mp h).2.1
    have hn : c.n ≠ 0 := by omega
    rw [decide_eq_true hn]; exact ⟨rfl, h⟩
  · unfold mayC; rw [h, h0]; split <;> rfl
theorem w_cut75 {C : CallP} {p q : PCode} {s : PS} {K : Ex → PS → Prop} (R : PS → Prop) (h1 : wP C p s (xT R K)) (h2 : ∀ s', R s' → wP C q s' K) : wP C (.seq p q) s K := by
  refine w_seq ?_
  unfold wP xT at *
  refine pwp_mono (fun e s h => ?_) h1
  cases e with
  | n => exact h2 s h
  | x i => exact h
  | r => exact h
def q75 : PCode := match p75 with
  | .seq _ (.seq _ r) => r
  | _ => .skip
theorem C_rdApply (m : Int) (c : Cell) (is : Bool) (d : Delta) (hc : inC 400000 c) (hd : inD 400000 d) : PCallG Try.prog 75 [.c (.int .i64 m), .c (encCell c), .c (.bool is), .c (encDelta d)] (.c (rgV (applyD m c is d))) [] := by
  have c1 := C_rdGood m d (inD_to hd (by omega))
  have c2 := C_rcGood m c (inC_to hc (by omega))
  have c3 := C_Zero c (by have := hc.2.2.2.2.2.1; omega) (by have := hc.2.2.2.2.2.2; omega)
  have hfull : ((goodD m d = true ∧ mayC m c is = true ∧ ((swap c.b0 d.o0 d.i0).2 = true ∧ (m = 2 → (swap c.b1 d.o1 d.i1).2 = true)) ∧ (in64 (c.s0 + d.s0) ∧ (m = 2 → in64 (c.s1 + d.s1))) ∧ mayC m (applyN m c d) (decide (c.n + d.n ≠ 0)) = true) → applyD m c is d = (applyN m c d, decide (c.n + d.n ≠ 0), true)) ∧
      (¬ (goodD m d = true ∧ mayC m c is = true ∧ ((swap c.b0 d.o0 d.i0).2 = true ∧ (m = 2 → (swap c.b1 d.o1 d.i1).2 = true)) ∧ (in64 (c.s0 + d.s0) ∧ (m = 2 → in64 (c.s1 + d.s1))) ∧ mayC m (applyN m c d) (decide (c.n + d.n ≠ 0)) = true) → applyD m c is d = (zeroC, false, false)) :=
    ⟨fun h => by unfold applyD; rw [if_pos h], fun h => by unfold applyD; rw [if_neg h]⟩
  simp only [applyN] at hfull
  have hb := @mayC_is m c is
  have em : mayC m c is = if is then goodC m c else decide (c = zeroC) := rfl
  generalize goodC m c = a1 at c2 em
  generalize decide (c = zeroC) = a0 at c3 em
  obtain ⟨n, s0, s1, b0, b1⟩ := c
  obtain ⟨k, t0, t1, i0, i1, o0, o1⟩ := d
  obtain ⟨hn, hs0, hs1, hr0, hr1, hl0, hl1⟩ := hc
  obtain ⟨hk, ht0, ht1, xi0, xi1, xo0, xo1⟩ := hd
  simp only at hn hs0 hs1 hr0 hr1 hl0 hl1 hk ht0 ht1 xi0 xi1 xo0 xo1 hb hfull
  have xb0 : inB 400000 b0 := ⟨hr0, hl0⟩
  have xb1 : inB 400000 b1 := ⟨hr1, hl1⟩
  have yi0 := xi0.2
  have yi1 := xi1.2
  have yo0 := xo0.2
  have yo1 := xo1.2
  have lm0 := minusLen b0 o0
  have lm1 := minusLen b1 o1
  have cA3 := C_rMinus b0 o0 (by omega) (by omega)
  have cA4 := C_rJoin (minus b0 o0).1 i0 (by omega) (by omega)
  have A1 : (minus b0 o0).2 = false → swap b0 o0 i0 = ([], false) := fun h => by unfold Go.Bag.swap; rw [h]; rfl
  have A2 : (minus b0 o0).2 = true → swap b0 o0 i0 = join (minus b0 o0).1 i0 := fun h => by unfold Go.Bag.swap; rw [h]; rfl
  have A3 : inB 800000 (join (minus b0 o0).1 i0).1 := inB_join (inB_minus xb0) xi0
  have A4 : mayC m ⟨n, s0, s1, b0, b1⟩ is = true → goodD m ⟨k, t0, t1, i0, i1, o0, o1⟩ = true → (minus b0 o0).2 = true → (join (minus b0 o0).1 i0).2 = true → PCallG Try.prog 92 [.c (encL (join (minus b0 o0).1 i0).1)] (.c (.agg (enc3 (of3 (s0 + t0))))) [] ∧ PCallG Try.prog 91 [.c (.agg (enc3 (of3 (s0 + t0))))] (.c (if I64 (s0 + t0) then .tup [.int .i64 (s0 + t0), .bool true] else .tup [.int .i64 0, .bool false])) [] := fun u v x y => by
    have sw := swap_is (b := b0) (o := o0) (i := i0) (by rw [A2 x]; exact y)
    rw [A2 x] at sw
    have ws : wsum (join (minus b0 o0).1 i0).1 = s0 + t0 := by
      have := sw.2.2.2.2.2.2.2
      have h1 : wsum b0 = s0 := (hb u).1.2.2
      have hh : wsum i0 - wsum o0 = t0 := (mD_iff.mp (goodD_iff.mp v).2.2.1).2.2.2.2
      omega
    have := wide_good (by have := A3.2; omega) A3.1 sw.2.2.2.1
    rw [ws] at this; exact this
  have cB3 := C_rMinus b1 o1 (by omega) (by omega)
  have cB4 := C_rJoin (minus b1 o1).1 i1 (by omega) (by omega)
  have B1 : (minus b1 o1).2 = false → swap b1 o1 i1 = ([], false) := fun h => by unfold Go.Bag.swap; rw [h]; rfl
  have B2 : (minus b1 o1).2 = true → swap b1 o1 i1 = join (minus b1 o1).1 i1 := fun h => by unfold Go.Bag.swap; rw [h]; rfl
  have B3 : inB 800000 (join (minus b1 o1).1 i1).1 := inB_join (inB_minus xb1) xi1
  have B4 : mayC m ⟨n, s0, s1, b0, b1⟩ is = true → goodD m ⟨k, t0, t1, i0, i1, o0, o1⟩ = true → m = 2 → (minus b1 o1).2 = true → (join (minus b1 o1).1 i1).2 = true → PCallG Try.prog 92 [.c (encL (join (minus b1 o1).1 i1).1)] (.c (.agg (enc3 (of3 (s1 + t1))))) [] ∧ PCallG Try.prog 91 [.c (.agg (enc3 (of3 (s1 + t1))))] (.c (if I64 (s1 + t1) then .tup [.int .i64 (s1 + t1), .bool true] else .tup [.int .i64 0, .bool false])) [] := fun u v h2 x y => by
    have sw := swap_is (b := b1) (o := o1) (i := i1) (by rw [B2 x]; exact y)
    rw [B2 x] at sw
    have ws : wsum (join (minus b1 o1).1 i1).1 = s1 + t1 := by
      have := sw.2.2.2.2.2.2.2
      have h1 : wsum b1 = s1 := ((hb u).2.1 h2).2.2
      have hh : wsum i1 - wsum o1 = t1 := (mD_iff.mp (by have := (goodD_iff.mp v).2.2.2; rw [if_pos h2] at this; exact this)).2.2.2.2
      omega
    have := wide_good (by have := B3.2; omega) B3.1 sw.2.2.2.1
    rw [ws] at this; exact this
  unfold bagV at cA3 cA4 cB3 cB4
  generalize swap b0 o0 i0 = w0 at *
  generalize swap b1 o1 i1 = w1 at *
  generalize join (minus b0 o0).1 i0 = jA at *
  generalize join (minus b1 o1).1 i1 = jB at *
  generalize minus b0 o0 = mA at *
  generalize minus b1 o1 = mB at *
  obtain ⟨zA, gA⟩ := jA
  obtain ⟨zB, gB⟩ := jB
  obtain ⟨yA, pA⟩ := mA
  obtain ⟨yB, pB⟩ := mB
  simp only at A1 A2 A3 B1 B2 B3 A4 B4
  show PCallG _ 75 [.c (.int .i64 m), .c (.agg [.int .i64 n, .int .i64 s0, .int .i64 s1, encL b0, encL b1]), .c (.bool is), .c (.agg [.int .i64 k, .int .i64 t0, .int .i64 t1, encL i0, encL i1, encL o0, encL o1])] _ _
  unfold encDelta encD at c1
  unfold encCell encC at c2 c3
  refine pcallF Try.func75 c75 rfl ?_
  cases gd : goodD m ⟨k, t0, t1, i0, i1, o0, o1⟩ with
  | false =>
    rw [gd] at c1
    rw [hfull.2 (fun h => by rw [gd] at h; cases h.1)]
    unfold p75 r75_0 r75_1 r75_2 r75_3 r75_4 r75_18 r75_19 r75_20 r75_21 r75_22
    repeat' (first | refine call2 rfl rfl c1 ?_ | refine w_seq ?_ | refine w_ops ?_ | refine st_nil ?_ | refine th_n ?_ | refine th_r ?_ | refine w_ret ?_ | refine w_true rfl ?_ | refine g_no rfl ?_ | refine g_un rfl ?_ | refine mv_c rfl ?_ | refine pick_t rfl rfl ?_ | refine not_ rfl ?_ | refine alloc_ (fun u => ?_) | refine box_ rfl rfl rfl (fun u => ?_) | refine build_ rfl rfl ?_ | refine load_ptr rfl (by decide) rfl (Nat.le_of_ble_eq_true rfl) rfl ?_ | refine store_ptr rfl rfl (by decide) rfl rfl (Nat.le_of_ble_eq_true rfl) rfl ?_)
    exact fin_r (rv_cell rfl rfl rfl rfl rv_nil) rfl
  | true =>
    rw [gd] at c1
    cases gc : mayC m ⟨n, s0, s1, b0, b1⟩ is with
    | false =>
      rw [hfull.2 (fun h => by rw [gc] at h; cases h.2.1)]
      rw [gc] at em
      unfold p75 r75_0 r75_1 r75_2 r75_3 r75_4 r75_18 r75_19 r75_20 r75_21 r75_22
      cases is with
      | true =>
        simp only [if_true] at em
        subst em
        repeat' (first | refine call2 rfl rfl c1 ?_ | refine call2 rfl rfl c2 ?_ | refine w_seq ?_ | refine w_ops ?_ | refine st_nil ?_ | refine th_n ?_ | refine th_r ?_ | refine w_ret ?_ | refine w_true rfl ?_ | refine g_yes rfl ?_ | refine g_no rfl ?_ | refine g_un rfl ?_ | refine mv_c rfl ?_ | refine pick_t rfl rfl ?_ | refine pick_f rfl rfl ?_ | refine not_ rfl ?_ | refine alloc_ (fun u => ?_) | refine box_ rfl rfl rfl (fun u => ?_) | refine build_ rfl rfl ?_ | refine load_ptr rfl (by decide) rfl (Nat.le_of_ble_eq_true rfl) rfl ?_ | refine store_ptr rfl rfl (by decide) rfl rfl (Nat.le_of_ble_eq_true rfl) rfl ?_)
        exact fin_r (rv_cell rfl rfl rfl rfl rv_nil) rfl
      | false =>
        simp only [Bool.false_eq_true, if_false] at em
        subst em
        repeat' (first | refine call2 rfl rfl c1 ?_ | refine call1 rfl c3 ?_ | refine w_seq ?_ | refine w_ops ?_ | refine st_nil ?_ | refine th_n ?_ | refine th_r ?_ | refine w_ret ?_ | refine w_true rfl ?_ | refine g_yes rfl ?_ | refine g_no rfl ?_ | refine mv_c rfl ?_ | refine pick_t rfl rfl ?_ | refine pick_f rfl rfl ?_ | refine not_ rfl ?_ | refine alloc_ (fun u => ?_) | refine box_ rfl rfl rfl (fun u => ?_) | refine build_ rfl rfl ?_ | refine load_ptr rfl (by decide) rfl (Nat.le_of_ble_eq_true rfl) rfl ?_ | refine store_ptr rfl rfl (by decide) rfl rfl (Nat.le_of_ble_eq_true rfl) rfl ?_)
        exact fin_r (rv_cell rfl rfl rfl rfl rv_nil) rfl
    | true =>
      obtain ⟨hm, hkk, _⟩ := goodD_iff.mp gd
      have hnn := (hb gc).2.2
      simp only at hkk
      have hno : ∀ {p : Prop}, ((goodD m ⟨k, t0, t1, i0, i1, o0, o1⟩ = true ∧ mayC m ⟨n, s0, s1, b0, b1⟩ is = true ∧ (w0.2 = true ∧ (m = 2 → w1.2 = true)) ∧ (in64 (s0 + t0) ∧ (m = 2 → in64 (s1 + t1)))) ∧ True → p) → ¬ p → applyD m ⟨n, s0, s1, b0, b1⟩ is ⟨k, t0, t1, i0, i1, o0, o1⟩ = (zeroC, false, false) := fun h hp => hfull.2 fun q => hp (h ⟨⟨q.1, q.2.1, q.2.2.1, q.2.2.2.1⟩, trivial⟩)
      have A4 := A4 gc gd
      have B4 := fun h => B4 gc gd h
      have rest : ∀ s', (fun s' : PS => ∃ v5 v7 v8 : Nat, s'.t 0 = .c (.int .i64 m) ∧ s'.t 5 = .ptr 5 v5 0 ∧ s'.bx 5 = ⟨v5, .var [.int .i64 n, .int .i64 s0, .int .i64 s1, encL b0, encL b1]⟩ ∧ s'.t 7 = .ptr 7 v7 0 ∧ s'.bx 7 = ⟨v7, .var [.int .i64 k, .int .i64 t0, .int .i64 t1, encL i0, encL i1, encL o0, encL o1]⟩ ∧ s'.t 8 = .ptr 8 v8 0 ∧ s'.bx 8 = ⟨v8, .var [.int .i64 0, .int .i64 0, .int .i64 0, .sl [], .sl [], .bool false, .bool false]⟩) s' → wP (PCallG Try.prog) q75 s' (FinK rs75 (.c (rgV (applyD m ⟨n, s0, s1, b0, b1⟩ is ⟨k, t0, t1, i0, i1, o0, o1⟩)))) := by
        rintro s' ⟨v5, v7, v8, t0', t5, b5, t7, b7, t8, b8⟩
        rw [← put_same t0', ← put_same t5, ← box_same b5, ← put_same t7, ← box_same b7, ← put_same t8, ← box_same b8]
        unfold q75
        unfold p75 r75_0 r75_1 r75_2 r75_3 r75_4 r75_18 r75_19 r75_20 r75_21 r75_22
        dsimp only
        repeat' (first | refine w_seq ?_ | refine w_ops ?_ | refine st_nil ?_ | refine th_n ?_ | refine w_block ?_ | refine mv_c rfl ?_ | refine add_in rfl rfl (by omega) ?_ | refine alloc_ (fun u => ?_) | refine build_ rfl rfl ?_ | refine load_ptr rfl (by decide) rfl (Nat.le_of_ble_eq_true rfl) rfl ?_ | refine store_ptr rfl rfl (by decide) rfl rfl (Nat.le_of_ble_eq_true rfl) rfl ?_ | refine fad_ptr rfl rfl rfl ?_)
        refine w_loop ?_
        unfold b75_0 r75_5 r75_6 r75_7 r75_8 r75_9 r75_10 r75_11 r75_12 r75_13 r75_14 r75_15 r75_16 r75_17
        cases pA with
        | false =>
          rw [hno (fun h => h.1.2.2.1.1) (by rw [A1 rfl]; simp)]
          repeat' (first | refine call2 rfl rfl cA3 ?_ | refine w_seq ?_ | refine w_ops ?_ | refine w_opsD1 rfl (fun u => ?_) | refine st_nil ?_ | refine th_n ?_ | refine th_r ?_ | refine bk_r ?_ | refine w_block ?_ | refine w_skip ?_ | refine w_ret ?_ | refine w_true rfl ?_ | refine mv_c rfl ?_ | refine lss_t rfl rfl (by omega) ?_ | refine not_ rfl ?_ | refine alloc_ (fun u => ?_) | refine build_ rfl rfl ?_ | refine load_ptr rfl (by decide) rfl (Nat.le_of_ble_eq_true rfl) rfl ?_ | refine store_ptr rfl rfl (by decide) rfl rfl (Nat.le_of_ble_eq_true rfl) rfl ?_ | refine fad_ptr rfl rfl rfl ?_ | refine iaA_ptr rfl rfl rfl (by omega) rfl ?_)
          exact fin_r (rv_cell rfl rfl rfl rfl rv_nil) rfl
        | true =>
          have wA := A2 rfl
          cases gA with
          | false =>
            rw [hno (fun h => h.1.2.2.1.1) (by rw [wA]; simp)]
            repeat' (first | refine call2 rfl rfl cA3 ?_ | refine call2 rfl rfl cA4 ?_ | refine w_seq ?_ | refine w_ops ?_ | refine w_opsD0 rfl ?_ | refine w_opsD1 rfl (fun u => ?_) | refine st_nil ?_ | refine th_n ?_ | refine th_r ?_ | refine bk_r ?_ | refine w_block ?_ | refine w_skip ?_ | refine w_ret ?_ | refine w_true rfl ?_ | refine w_false rfl ?_ | refine mv_c rfl ?_ | refine lss_t rfl rfl (by omega) ?_ | refine not_ rfl ?_ | refine alloc_ (fun u => ?_) | refine build_ rfl rfl ?_ | refine load_ptr rfl (by decide) rfl (Nat.le_of_ble_eq_true rfl) rfl ?_ | refine store_ptr rfl rfl (by decide) rfl rfl (Nat.le_of_ble_eq_true rfl) rfl ?_ | refine fad_ptr rfl rfl rfl ?_ | refine iaA_ptr rfl rfl rfl (by omega) rfl ?_)
            exact fin_r (rv_cell rfl rfl rfl rfl rv_nil) rfl
          | true =>
            obtain ⟨cA5, cA6⟩ := A4 rfl rfl
            by_cases fA : I64 (s0 + t0)
            · rw [if_pos fA] at cA6
              by_cases hm2 : m = 2
              · repeat' (first | refine call2 rfl rfl cA3 ?_ | refine call2 rfl rfl cA4 ?_ | refine call1 rfl cA5 ?_ | refine call1 rfl cA6 ?_ | refine w_seq ?_ | refine w_ops ?_ | refine w_opsD0 rfl ?_ | refine w_opsD1 rfl (fun u => ?_) | refine st_nil ?_ | refine th_n ?_ | refine bk_n ?_ | refine w_block ?_ | refine w_skip ?_ | refine w_true rfl ?_ | refine w_false rfl ?_ | refine mv_c rfl ?_ | refine lss_t rfl rfl (by omega) ?_ | refine not_ rfl ?_ | refine add_in rfl rfl (by omega) ?_ | refine alloc_ (fun u => ?_) | refine load_ptr rfl (by decide) rfl (Nat.le_of_ble_eq_true rfl) rfl ?_ | refine store_ptr rfl rfl (by decide) rfl rfl (Nat.le_of_ble_eq_true rfl) rfl ?_ | refine fad_ptr rfl rfl rfl ?_ | refine iaA_ptr rfl rfl rfl (by omega) rfl ?_ | refine ext_ rfl rfl ?_)
                refine w_loop ?_
                cases pB with
                | false =>
                  rw [hno (fun h => h.1.2.2.1.2 hm2) (by rw [B1 rfl]; simp)]
                  repeat' (first | refine call2 rfl rfl cB3 ?_ | refine w_seq ?_ | refine w_ops ?_ | refine w_opsD1 rfl (fun u => ?_) | refine st_nil ?_ | refine th_n ?_ | refine th_r ?_ | refine bk_r ?_ | refine w_block ?_ | refine w_skip ?_ | refine w_ret ?_ | refine w_true rfl ?_ | refine mv_c rfl ?_ | refine lss_t rfl rfl (by omega) ?_ | refine not_ rfl ?_ | refine alloc_ (fun u => ?_) | refine build_ rfl rfl ?_ | refine load_ptr rfl (by decide) rfl (Nat.le_of_ble_eq_true rfl) rfl ?_ | refine store_ptr rfl rfl (by decide) rfl rfl (Nat.le_of_ble_eq_true rfl) rfl ?_ | refine fad_ptr rfl rfl rfl ?_ | refine iaA_ptr rfl rfl rfl (by omega) rfl ?_)
                  exact fin_r (rv_cell rfl rfl rfl rfl rv_nil) rfl
                | true =>
                  have wB := B2 rfl
                  cases gB with
                  | false =>
                    rw [hno (fun h => h.1.2.2.1.2 hm2) (by rw [wB]; simp)]
                    repeat' (first | refine call2 rfl rfl cB3 ?_ | refine call2 rfl rfl cB4 ?_ | refine w_seq ?_ | refine w_ops ?_ | refine w_opsD0 rfl ?_ | refine w_opsD1 rfl (fun u => ?_) | refine st_nil ?_ | refine th_n ?_ | refine th_r ?_ | refine bk_r ?_ | refine w_block ?_ | refine w_skip ?_ | refine w_ret ?_ | refine w_true rfl ?_ | refine w_false rfl ?_ | refine mv_c rfl ?_ | refine lss_t rfl rfl (by omega) ?_ | refine not_ rfl ?_ | refine alloc_ (fun u => ?_) | refine build_ rfl rfl ?_ | refine load_ptr rfl (by decide) rfl (Nat.le_of_ble_eq_true rfl) rfl ?_ | refine store_ptr rfl rfl (by decide) rfl rfl (Nat.le_of_ble_eq_true rfl) rfl ?_ | refine fad_ptr rfl rfl rfl ?_ | refine iaA_ptr rfl rfl rfl (by omega) rfl ?_)
                    exact fin_r (rv_cell rfl rfl rfl rfl rv_nil) rfl
                  | true =>
                    obtain ⟨cB5, cB6⟩ := B4 hm2 rfl rfl
                    by_cases fB : I64 (s1 + t1)
                    · rw [if_pos fB] at cB6
                      subst wA
                      subst wB
                      simp only [if_pos hm2] at hfull
                      have hin : inC 999999 (Cell.mk (n + k) (s0 + t0) (s1 + t1) zA zB) := ⟨⟨by show -9223372036854775808 ≤ n + k; omega, by show n + k ≤ 9223372036854775807; omega⟩, fA, fB, A3.1, B3.1, by show zA.length ≤ 999999; have := A3.2; omega, by show zB.length ≤ 999999; have := B3.2; omega⟩
                      have hi : ∀ q : Bool, mayC m (Cell.mk (n + k) (s0 + t0) (s1 + t1) zA zB) (decide (n + k ≠ 0)) = q → (q = true → applyD m ⟨n, s0, s1, b0, b1⟩ is ⟨k, t0, t1, i0, i1, o0, o1⟩ = ((Cell.mk (n + k) (s0 + t0) (s1 + t1) zA zB), decide (n + k ≠ 0), true)) ∧ (q = false → applyD m ⟨n, s0, s1, b0, b1⟩ is ⟨k, t0, t1, i0, i1, o0, o1⟩ = (zeroC, false, false)) := fun q hq => ⟨fun e => hfull.1 ⟨gd, gc, ⟨by trivial, fun h => by trivial⟩, ⟨fA, fun h => fB⟩, hq.trans e⟩, fun e => hfull.2 fun h => by rw [hq, e] at h; cases h.2.2.2.2⟩
                      have c7 := C_Zero (Cell.mk (n + k) (s0 + t0) (s1 + t1) zA zB) (by have := A3.2; show zA.length ≤ 1000000; omega) (by have := B3.2; show zB.length ≤ 1000000; omega)
                      have c8 := C_rcGood m (Cell.mk (n + k) (s0 + t0) (s1 + t1) zA zB) hin
                      have hi := hi _ rfl
                      have hz := may_cases m (Cell.mk (n + k) (s0 + t0) (s1 + t1) zA zB)
                      have hzz : decide ((Cell.mk (n + k) (s0 + t0) (s1 + t1) zA zB) = zeroC) = true → (Cell.mk (n + k) (s0 + t0) (s1 + t1) zA zB) = zeroC := fun h => of_decide_eq_true h
                      simp only at hz
                      generalize mayC m (Cell.mk (n + k) (s0 + t0) (s1 + t1) zA zB) (decide (n + k ≠ 0)) = q at hi hz
                      generalize goodC m (Cell.mk (n + k) (s0 + t0) (s1 + t1) zA zB) = g at c8 hz
                      generalize decide ((Cell.mk (n + k) (s0 + t0) (s1 + t1) zA zB) = zeroC) = z at c7 hz hzz
                      unfold encCell encC at c7 c8
                      cases z with
                      | true =>
                        rw [hi.1 (hz.1 rfl).2, (hz.1 rfl).1, hzz rfl]
                        repeat' (first | refine call2 rfl rfl cB3 ?_ | refine call2 rfl rfl cB4 ?_ | refine call1 rfl cB5 ?_ | refine call1 rfl cB6 ?_ | refine w_seq ?_ | refine w_ops ?_ | refine w_opsD0 rfl ?_ | refine w_opsD1 rfl (fun u => ?_) | refine st_nil ?_ | refine th_n ?_ | refine bk_n ?_ | refine w_block ?_ | refine w_skip ?_ | refine w_true rfl ?_ | refine w_false rfl ?_ | refine mv_c rfl ?_ | refine lss_t rfl rfl (by omega) ?_ | refine not_ rfl ?_ | refine add_in rfl rfl (by omega) ?_ | refine alloc_ (fun u => ?_) | refine load_ptr rfl (by decide) rfl (Nat.le_of_ble_eq_true rfl) rfl ?_ | refine store_ptr rfl rfl (by decide) rfl rfl (Nat.le_of_ble_eq_true rfl) rfl ?_ | refine fad_ptr rfl rfl rfl ?_ | refine iaA_ptr rfl rfl rfl (by omega) rfl ?_ | refine ext_ rfl rfl ?_)
                        refine w_loop ?_
                        repeat' (first | refine call1 rfl c7 ?_ | refine w_seq ?_ | refine w_ops ?_ | refine st_nil ?_ | refine th_n ?_ | refine th_x ?_ | refine th_r ?_ | refine bk_x ?_ | refine w_exit ?_ | refine w_ret ?_ | refine w_true rfl ?_ | refine w_false rfl ?_ | refine mv_c rfl ?_ | refine lss_f rfl rfl (by omega) ?_ | refine build_ rfl rfl ?_ | refine load_ptr rfl (by decide) rfl (Nat.le_of_ble_eq_true rfl) rfl ?_ | refine store_ptr rfl rfl (by decide) rfl rfl (Nat.le_of_ble_eq_true rfl) rfl ?_)
                        exact fin_r (rv_cell rfl rfl rfl rfl rv_nil) rfl
                      | false =>
                        cases g with
                        | true =>
                          rw [hi.1 (hz.2.1 rfl).2, (hz.2.1 rfl).1]
                          repeat' (first | refine call2 rfl rfl cB3 ?_ | refine call2 rfl rfl cB4 ?_ | refine call1 rfl cB5 ?_ | refine call1 rfl cB6 ?_ | refine w_seq ?_ | refine w_ops ?_ | refine w_opsD0 rfl ?_ | refine w_opsD1 rfl (fun u => ?_) | refine st_nil ?_ | refine th_n ?_ | refine bk_n ?_ | refine w_block ?_ | refine w_skip ?_ | refine w_true rfl ?_ | refine w_false rfl ?_ | refine mv_c rfl ?_ | refine lss_t rfl rfl (by omega) ?_ | refine not_ rfl ?_ | refine add_in rfl rfl (by omega) ?_ | refine alloc_ (fun u => ?_) | refine load_ptr rfl (by decide) rfl (Nat.le_of_ble_eq_true rfl) rfl ?_ | refine store_ptr rfl rfl (by decide) rfl rfl (Nat.le_of_ble_eq_true rfl) rfl ?_ | refine fad_ptr rfl rfl rfl ?_ | refine iaA_ptr rfl rfl rfl (by omega) rfl ?_ | refine ext_ rfl rfl ?_)
                          refine w_loop ?_
                          repeat' (first | refine call1 rfl c7 ?_ | refine call2 rfl rfl c8 ?_ | refine w_seq ?_ | refine w_ops ?_ | refine st_nil ?_ | refine th_n ?_ | refine th_x ?_ | refine bk_x ?_ | refine w_skip ?_ | refine w_exit ?_ | refine w_ret ?_ | refine w_false rfl ?_ | refine mv_c rfl ?_ | refine lss_f rfl rfl (by omega) ?_ | refine not_ rfl ?_ | refine build_ rfl rfl ?_ | refine load_ptr rfl (by decide) rfl (Nat.le_of_ble_eq_true rfl) rfl ?_ | refine store_ptr rfl rfl (by decide) rfl rfl (Nat.le_of_ble_eq_true rfl) rfl ?_)
                          exact fin_r (rv_cell rfl rfl rfl rfl rv_nil) rfl
                        | false =>
                          rw [hi.2 (hz.2.2 rfl rfl)]
                          repeat' (first | refine call2 rfl rfl cB3 ?_ | refine call2 rfl rfl cB4 ?_ | refine call1 rfl cB5 ?_ | refine call1 rfl cB6 ?_ | refine w_seq ?_ | refine w_ops ?_ | refine w_opsD0 rfl ?_ | refine w_opsD1 rfl (fun u => ?_) | refine st_nil ?_ | refine th_n ?_ | refine bk_n ?_ | refine w_block ?_ | refine w_skip ?_ | refine w_true rfl ?_ | refine w_false rfl ?_ | refine mv_c rfl ?_ | refine lss_t rfl rfl (by omega) ?_ | refine not_ rfl ?_ | refine add_in rfl rfl (by omega) ?_ | refine alloc_ (fun u => ?_) | refine load_ptr rfl (by decide) rfl (Nat.le_of_ble_eq_true rfl) rfl ?_ | refine store_ptr rfl rfl (by decide) rfl rfl (Nat.le_of_ble_eq_true rfl) rfl ?_ | refine fad_ptr rfl rfl rfl ?_ | refine iaA_ptr rfl rfl rfl (by omega) rfl ?_ | refine ext_ rfl rfl ?_)
                          refine w_loop ?_
                          repeat' (first | refine call1 rfl c7 ?_ | refine call2 rfl rfl c8 ?_ | refine w_seq ?_ | refine w_ops ?_ | refine st_nil ?_ | refine th_n ?_ | refine th_x ?_ | refine th_r ?_ | refine bk_x ?_ | refine w_skip ?_ | refine w_exit ?_ | refine w_ret ?_ | refine w_true rfl ?_ | refine w_false rfl ?_ | refine mv_c rfl ?_ | refine lss_f rfl rfl (by omega) ?_ | refine not_ rfl ?_ | refine build_ rfl rfl ?_ | refine load_ptr rfl (by decide) rfl (Nat.le_of_ble_eq_true rfl) rfl ?_ | refine store_ptr rfl rfl (by decide) rfl rfl (Nat.le_of_ble_eq_true rfl) rfl ?_)
                          exact fin_r (rv_cell rfl rfl rfl rfl rv_nil) rfl
                    · rw [if_neg fB] at cB6
                      rw [hno (fun h => h.1.2.2.2.2 hm2) fB]
                      repeat' (first | refine call2 rfl rfl cB3 ?_ | refine call2 rfl rfl cB4 ?_ | refine call1 rfl cB5 ?_ | refine call1 rfl cB6 ?_ | refine w_seq ?_ | refine w_ops ?_ | refine w_opsD0 rfl ?_ | refine w_opsD1 rfl (fun u => ?_) | refine st_nil ?_ | refine th_n ?_ | refine th_r ?_ | refine bk_r ?_ | refine w_block ?_ | refine w_skip ?_ | refine w_ret ?_ | refine w_true rfl ?_ | refine w_false rfl ?_ | refine mv_c rfl ?_ | refine lss_t rfl rfl (by omega) ?_ | refine not_ rfl ?_ | refine alloc_ (fun u => ?_) | refine build_ rfl rfl ?_ | refine load_ptr rfl (by decide) rfl (Nat.le_of_ble_eq_true rfl) rfl ?_ | refine store_ptr rfl rfl (by decide) rfl rfl (Nat.le_of_ble_eq_true rfl) rfl ?_ | refine fad_ptr rfl rfl rfl ?_ | refine iaA_ptr rfl rfl rfl (by omega) rfl ?_ | refine ext_ rfl rfl ?_)
                      exact fin_r (rv_cell rfl rfl rfl rfl rv_nil) rfl
              · subst wA
                simp only [if_neg hm2] at hfull
                have hin : inC 999999 (Cell.mk (n + k) (s0 + t0) 0 zA []) := ⟨⟨by show -9223372036854775808 ≤ n + k; omega, by show n + k ≤ 9223372036854775807; omega⟩, fA, (by decide : in64 0), A3.1, (inB_nil 0).1, by show zA.length ≤ 999999; have := A3.2; omega, by simp⟩
                have hi : ∀ q : Bool, mayC m (Cell.mk (n + k) (s0 + t0) 0 zA []) (decide (n + k ≠ 0)) = q → (q = true → applyD m ⟨n, s0, s1, b0, b1⟩ is ⟨k, t0, t1, i0, i1, o0, o1⟩ = ((Cell.mk (n + k) (s0 + t0) 0 zA []), decide (n + k ≠ 0), true)) ∧ (q = false → applyD m ⟨n, s0, s1, b0, b1⟩ is ⟨k, t0, t1, i0, i1, o0, o1⟩ = (zeroC, false, false)) := fun q hq => ⟨fun e => hfull.1 ⟨gd, gc, ⟨by trivial, fun h => absurd h hm2⟩, ⟨fA, fun h => absurd h hm2⟩, hq.trans e⟩, fun e => hfull.2 fun h => by rw [hq, e] at h; cases h.2.2.2.2⟩
                have c7 := C_Zero (Cell.mk (n + k) (s0 + t0) 0 zA []) (by have := A3.2; show zA.length ≤ 1000000; omega) (by simp)
                have c8 := C_rcGood m (Cell.mk (n + k) (s0 + t0) 0 zA []) hin
                have hi := hi _ rfl
                have hz := may_cases m (Cell.mk (n + k) (s0 + t0) 0 zA [])
                have hzz : decide ((Cell.mk (n + k) (s0 + t0) 0 zA []) = zeroC) = true → (Cell.mk (n + k) (s0 + t0) 0 zA []) = zeroC := fun h => of_decide_eq_true h
                simp only at hz
                generalize mayC m (Cell.mk (n + k) (s0 + t0) 0 zA []) (decide (n + k ≠ 0)) = q at hi hz
                generalize goodC m (Cell.mk (n + k) (s0 + t0) 0 zA []) = g at c8 hz
                generalize decide ((Cell.mk (n + k) (s0 + t0) 0 zA []) = zeroC) = z at c7 hz hzz
                unfold encCell encC at c7 c8
                cases z with
                | true =>
                  rw [hi.1 (hz.1 rfl).2, (hz.1 rfl).1, hzz rfl]
                  repeat' (first | refine call2 rfl rfl cA3 ?_ | refine call2 rfl rfl cA4 ?_ | refine call1 rfl cA5 ?_ | refine call1 rfl cA6 ?_ | refine w_seq ?_ | refine w_ops ?_ | refine w_opsD0 rfl ?_ | refine w_opsD1 rfl (fun u => ?_) | refine st_nil ?_ | refine th_n ?_ | refine bk_n ?_ | refine w_block ?_ | refine w_skip ?_ | refine w_true rfl ?_ | refine w_false rfl ?_ | refine mv_c rfl ?_ | refine lss_t rfl rfl (by omega) ?_ | refine not_ rfl ?_ | refine add_in rfl rfl (by omega) ?_ | refine alloc_ (fun u => ?_) | refine load_ptr rfl (by decide) rfl (Nat.le_of_ble_eq_true rfl) rfl ?_ | refine store_ptr rfl rfl (by decide) rfl rfl (Nat.le_of_ble_eq_true rfl) rfl ?_ | refine fad_ptr rfl rfl rfl ?_ | refine iaA_ptr rfl rfl rfl (by omega) rfl ?_ | refine ext_ rfl rfl ?_)
                  refine w_loop ?_
                  repeat' (first | refine call1 rfl c7 ?_ | refine w_seq ?_ | refine w_ops ?_ | refine st_nil ?_ | refine th_n ?_ | refine th_x ?_ | refine th_r ?_ | refine bk_x ?_ | refine w_exit ?_ | refine w_ret ?_ | refine w_true rfl ?_ | refine w_false rfl ?_ | refine mv_c rfl ?_ | refine lss_f rfl rfl (by omega) ?_ | refine build_ rfl rfl ?_ | refine load_ptr rfl (by decide) rfl (Nat.le_of_ble_eq_true rfl) rfl ?_ | refine store_ptr rfl rfl (by decide) rfl rfl (Nat.le_of_ble_eq_true rfl) rfl ?_)
                  exact fin_r (rv_cell rfl rfl rfl rfl rv_nil) rfl
                | false =>
                  cases g with
                  | true =>
                    rw [hi.1 (hz.2.1 rfl).2, (hz.2.1 rfl).1]
                    repeat' (first | refine call2 rfl rfl cA3 ?_ | refine call2 rfl rfl cA4 ?_ | refine call1 rfl cA5 ?_ | refine call1 rfl cA6 ?_ | refine w_seq ?_ | refine w_ops ?_ | refine w_opsD0 rfl ?_ | refine w_opsD1 rfl (fun u => ?_) | refine st_nil ?_ | refine th_n ?_ | refine bk_n ?_ | refine w_block ?_ | refine w_skip ?_ | refine w_true rfl ?_ | refine w_false rfl ?_ | refine mv_c rfl ?_ | refine lss_t rfl rfl (by omega) ?_ | refine not_ rfl ?_ | refine add_in rfl rfl (by omega) ?_ | refine alloc_ (fun u => ?_) | refine load_ptr rfl (by decide) rfl (Nat.le_of_ble_eq_true rfl) rfl ?_ | refine store_ptr rfl rfl (by decide) rfl rfl (Nat.le_of_ble_eq_true rfl) rfl ?_ | refine fad_ptr rfl rfl rfl ?_ | refine iaA_ptr rfl rfl rfl (by omega) rfl ?_ | refine ext_ rfl rfl ?_)
                    refine w_loop ?_
                    repeat' (first | refine call1 rfl c7 ?_ | refine call2 rfl rfl c8 ?_ | refine w_seq ?_ | refine w_ops ?_ | refine st_nil ?_ | refine th_n ?_ | refine th_x ?_ | refine bk_x ?_ | refine w_skip ?_ | refine w_exit ?_ | refine w_ret ?_ | refine w_false rfl ?_ | refine mv_c rfl ?_ | refine lss_f rfl rfl (by omega) ?_ | refine not_ rfl ?_ | refine build_ rfl rfl ?_ | refine load_ptr rfl (by decide) rfl (Nat.le_of_ble_eq_true rfl) rfl ?_ | refine store_ptr rfl rfl (by decide) rfl rfl (Nat.le_of_ble_eq_true rfl) rfl ?_)
                    exact fin_r (rv_cell rfl rfl rfl rfl rv_nil) rfl
                  | false =>
                    rw [hi.2 (hz.2.2 rfl rfl)]
                    repeat' (first | refine call2 rfl rfl cA3 ?_ | refine call2 rfl rfl cA4 ?_ | refine call1 rfl cA5 ?_ | refine call1 rfl cA6 ?_ | refine w_seq ?_ | refine w_ops ?_ | refine w_opsD0 rfl ?_ | refine w_opsD1 rfl (fun u => ?_) | refine st_nil ?_ | refine th_n ?_ | refine bk_n ?_ | refine w_block ?_ | refine w_skip ?_ | refine w_true rfl ?_ | refine w_false rfl ?_ | refine mv_c rfl ?_ | refine lss_t rfl rfl (by omega) ?_ | refine not_ rfl ?_ | refine add_in rfl rfl (by omega) ?_ | refine alloc_ (fun u => ?_) | refine load_ptr rfl (by decide) rfl (Nat.le_of_ble_eq_true rfl) rfl ?_ | refine store_ptr rfl rfl (by decide) rfl rfl (Nat.le_of_ble_eq_true rfl) rfl ?_ | refine fad_ptr rfl rfl rfl ?_ | refine iaA_ptr rfl rfl rfl (by omega) rfl ?_ | refine ext_ rfl rfl ?_)
                    refine w_loop ?_
                    repeat' (first | refine call1 rfl c7 ?_ | refine call2 rfl rfl c8 ?_ | refine w_seq ?_ | refine w_ops ?_ | refine st_nil ?_ | refine th_n ?_ | refine th_x ?_ | refine th_r ?_ | refine bk_x ?_ | refine w_skip ?_ | refine w_exit ?_ | refine w_ret ?_ | refine w_true rfl ?_ | refine w_false rfl ?_ | refine mv_c rfl ?_ | refine lss_f rfl rfl (by omega) ?_ | refine not_ rfl ?_ | refine build_ rfl rfl ?_ | refine load_ptr rfl (by decide) rfl (Nat.le_of_ble_eq_true rfl) rfl ?_ | refine store_ptr rfl rfl (by decide) rfl rfl (Nat.le_of_ble_eq_true rfl) rfl ?_)
                    exact fin_r (rv_cell rfl rfl rfl rfl rv_nil) rfl
            · rw [if_neg fA] at cA6
              rw [hno (fun h => h.1.2.2.2.1) fA]
              repeat' (first | refine call2 rfl rfl cA3 ?_ | refine call2 rfl rfl cA4 ?_ | refine call1 rfl cA5 ?_ | refine call1 rfl cA6 ?_ | refine w_seq ?_ | refine w_ops ?_ | refine w_opsD0 rfl ?_ | refine w_opsD1 rfl (fun u => ?_) | refine st_nil ?_ | refine th_n ?_ | refine th_r ?_ | refine bk_r ?_ | refine w_block ?_ | refine w_skip ?_ | refine w_ret ?_ | refine w_true rfl ?_ | refine w_false rfl ?_ | refine mv_c rfl ?_ | refine lss_t rfl rfl (by omega) ?_ | refine not_ rfl ?_ | refine alloc_ (fun u => ?_) | refine build_ rfl rfl ?_ | refine load_ptr rfl (by decide) rfl (Nat.le_of_ble_eq_true rfl) rfl ?_ | refine store_ptr rfl rfl (by decide) rfl rfl (Nat.le_of_ble_eq_true rfl) rfl ?_ | refine fad_ptr rfl rfl rfl ?_ | refine iaA_ptr rfl rfl rfl (by omega) rfl ?_ | refine ext_ rfl rfl ?_)
              exact fin_r (rv_cell rfl rfl rfl rfl rv_nil) rfl
      unfold p75 r75_0 r75_1 r75_2 r75_3 r75_4 r75_18 r75_19 r75_20 r75_21 r75_22
      cases is with
      | true =>
        simp only [if_true] at em
        rw [gc] at em
        subst em
        repeat' (first | refine w_cut75 (p := .seq (.ops false r75_1) _) (fun s' : PS => ∃ v5 v7 v8 : Nat, s'.t 0 = .c (.int .i64 m) ∧ s'.t 5 = .ptr 5 v5 0 ∧ s'.bx 5 = ⟨v5, .var [.int .i64 n, .int .i64 s0, .int .i64 s1, encL b0, encL b1]⟩ ∧ s'.t 7 = .ptr 7 v7 0 ∧ s'.bx 7 = ⟨v7, .var [.int .i64 k, .int .i64 t0, .int .i64 t1, encL i0, encL i1, encL o0, encL o1]⟩ ∧ s'.t 8 = .ptr 8 v8 0 ∧ s'.bx 8 = ⟨v8, .var [.int .i64 0, .int .i64 0, .int .i64 0, .sl [], .sl [], .bool false, .bool false]⟩) ?_ rest | refine call2 rfl rfl c1 ?_ | refine call2 rfl rfl c2 ?_ | refine w_seq ?_ | refine w_ops ?_ | refine st_nil ?_ | refine th_n ?_ | refine w_skip ?_ | refine w_false rfl ?_ | refine g_yes rfl ?_ | refine g_no rfl ?_ | refine mv_c rfl ?_ | refine pick_t rfl rfl ?_ | refine pick_f rfl rfl ?_ | refine not_ rfl ?_ | refine alloc_ (fun u => ?_) | refine box_ rfl rfl rfl (fun u => ?_) | refine load_ptr rfl (by decide) rfl (Nat.le_of_ble_eq_true rfl) rfl ?_)
        exact ⟨_, _, _, rfl, rfl, rfl, rfl, rfl, rfl, rfl⟩
      | false =>
        simp only [Bool.false_eq_true, if_false] at em
        rw [gc] at em
        subst em
        repeat' (first | refine w_cut75 (p := .seq (.ops false r75_1) _) (fun s' : PS => ∃ v5 v7 v8 : Nat, s'.t 0 = .c (.int .i64 m) ∧ s'.t 5 = .ptr 5 v5 0 ∧ s'.bx 5 = ⟨v5, .var [.int .i64 n, .int .i64 s0, .int .i64 s1, encL b0, encL b1]⟩ ∧ s'.t 7 = .ptr 7 v7 0 ∧ s'.bx 7 = ⟨v7, .var [.int .i64 k, .int .i64 t0, .int .i64 t1, encL i0, encL i1, encL o0, encL o1]⟩ ∧ s'.t 8 = .ptr 8 v8 0 ∧ s'.bx 8 = ⟨v8, .var [.int .i64 0, .int .i64 0, .int .i64 0, .sl [], .sl [], .bool false, .bool false]⟩) ?_ rest | refine call2 rfl rfl c1 ?_ | refine call1 rfl c3 ?_ | refine w_seq ?_ | refine w_ops ?_ | refine st_nil ?_ | refine th_n ?_ | refine w_skip ?_ | refine w_false rfl ?_ | refine g_yes rfl ?_ | refine g_no rfl ?_ | refine mv_c rfl ?_ | refine pick_t rfl rfl ?_ | refine pick_f rfl rfl ?_ | refine not_ rfl ?_ | refine alloc_ (fun u => ?_) | refine box_ rfl rfl rfl (fun u => ?_) | refine load_ptr rfl (by decide) rfl (Nat.le_of_ble_eq_true rfl) rfl ?_)
        exact ⟨_, _, _, rfl, rfl, rfl, rfl, rfl, rfl, rfl⟩
end Go.Proofs.Ytcmejdkjfekoeaa
namespace Go.Proofs.Ytcmejdkjfekoeaa
open Go.Pl Go.Bag
set_option maxHeartbeats 32000000
set_option maxRecDepth 100000
abbrev CaseS := Cell × Bool × Delta
def cC (q : CaseS) : List CV := encC q.1
def cB (q : CaseS) : List CV := [.bool q.2.1]
def cD (q : CaseS) : List CV := encD q.2.2
theorem get_case {ls : List CaseS} {i : Nat} {x : CaseS} {rest : List CaseS} (hd : ls.drop i = x :: rest) : (ls.map cC)[i]? = some (cC x) ∧ (ls.map cB)[i]? = some (cB x) ∧ (ls.map cD)[i]? = some (cD x) := by
  have : ls[i]? = some x := by have := congrArg List.head? hd; simpa [List.head?_drop] using this
  simp [this]
theorem a10_j {K : Ex → PS → Prop} (all : List CaseS) (hin : ∀ q ∈ all, inC 1000 q.1 ∧ inD 1000 q.2.2) (hlen : all.length ≤ 60) (m : Int) (i : Nat) (x : CaseS) (hx : (all.map cC)[i]? = some (cC x)) (hx2 : (all.map cB)[i]? = some (cB x)) (hil : i < all.length) (hix : inC 1000 x.1) (v1 v2 v3 v7 v36 v37 v38 : PV) (x3 : Box) : ∀ (rest : List CaseS) (j : Nat) (s : PS), all.drop j = rest → j ≤ all.length →
    s.t 1 = v1 → s.t 2 = v2 → s.t 3 = v3 → s.bx 3 = x3 → s.t 7 = v7 → s.t 36 = v36 → s.t 37 = v37 → s.t 38 = v38 → s.t 9 = .c (.int .i64 m) → s.t 13 = .c (.sl (all.map cC)) → s.t 14 = .c (.sl (all.map cB)) → s.t 15 = .c (.sl (all.map cD)) → s.t 16 = .c (.int .i64 i) → s.t 17 = .c (.int .i64 j) →
    (∀ s', s'.t 1 = v1 → s'.t 2 = v2 → s'.t 3 = v3 → s'.bx 3 = x3 → s'.t 7 = v7 → s'.t 36 = v36 → s'.t 37 = v37 → s'.t 38 = v38 → s'.t 9 = .c (.int .i64 m) → s'.t 13 = .c (.sl (all.map cC)) → s'.t 14 = .c (.sl (all.map cB)) → s'.t 15 = .c (.sl (all.map cD)) → s'.t 16 = .c (.int .i64 i) → K (.x 4) s') → wP (PCallG Try.prog) (.loop b15_2) s K := by
  intro rest
  induction rest with
  | nil =>
    intro j s hd hj t1 t2 t3 b3 t7 t36 t37 t38 t9 t13 t14 t15 t16 t17 hK
    refine w_loop ?_
    have := drop_end hd hj
    subst this
    rw [← put_same t1, ← put_same t2, ← put_same t3, ← box_same b3, ← put_same t7, ← put_same t36, ← put_same t37, ← put_same t38, ← put_same t9, ← put_same t13, ← put_same t14, ← put_same t15, ← put_same t16, ← put_same t17]
    unfold b15_2 r15_16 r15_17 r15_18 r15_19 r15_20 r15_21 r15_22 r15_23 r15_24 r15_25
    repeat' (first | refine len_sl rfl (List.length_map _) ?_ | refine w_seq ?_ | refine w_ops ?_ | refine st_nil ?_ | refine th_n ?_ | refine th_x ?_ | refine w_exit ?_ | refine w_false rfl ?_ | refine mv_c rfl ?_ | refine lss_f rfl rfl (by omega) ?_)
    exact hK _ (by rfl) (by rfl) (by rfl) (by rfl) (by rfl) (by rfl) (by rfl) (by rfl) (by rfl) (by rfl) (by rfl) (by rfl) (by rfl)
  | cons y rest ih =>
    intro j s hd hj t1 t2 t3 b3 t7 t36 t37 t38 t9 t13 t14 t15 t16 t17 hK
    refine w_loop ?_
    obtain ⟨e1, e2, e3⟩ := get_case hd
    have hjl := get_slen hd
    have hn := drop_next hd
    obtain ⟨iy, id_⟩ := hin y (List.mem_of_mem_drop (by rw [hd]; simp))
    have c1 := C_dApply m x.1 x.2.1 y.2.2 (inC_to hix (by omega)) (inD_to id_ (by omega))
    have c2 := C_rdApply m x.1 x.2.1 y.2.2 (inC_to hix (by omega)) (inD_to id_ (by omega))
    have ia := inC_apply (m := m) (is := x.2.1) hix id_
    have la : (applyD m x.1 x.2.1 y.2.2).1.b0.length ≤ 1000000 ∧ (applyD m x.1 x.2.1 y.2.2).1.b1.length ≤ 1000000 := ⟨by have := ia.2.2.2.2.2.1; omega, by have := ia.2.2.2.2.2.2; omega⟩
    have c3 := C_rcSame (applyD m x.1 x.2.1 y.2.2).1 (applyD m x.1 x.2.1 y.2.2).1 la la
    have c4 := C_dBetween m x.1 y.1 x.2.1 y.2.1 (inC_to hix (by omega)) (inC_to iy (by omega))
    have c5 := C_rdBetween m x.1 y.1 x.2.1 y.2.1 (inC_to hix (by omega)) (inC_to iy (by omega))
    have ib := inD_len (inD_between (m := m) (was := x.2.1) (is := y.2.1) hix iy) (by omega)
    have c6 := C_rdSame (betweenD m x.1 x.2.1 y.1 y.2.1).1 (betweenD m x.1 x.2.1 y.1 y.2.1).1 ib ib
    rw [decide_eq_true rfl] at c3 c6
    unfold aV at c1
    unfold dV at c4
    generalize applyD m x.1 x.2.1 y.2.2 = w at *
    generalize betweenD m x.1 x.2.1 y.1 y.2.1 = z at *
    rw [← put_same t1, ← put_same t2, ← put_same t3, ← box_same b3, ← put_same t7, ← put_same t36, ← put_same t37, ← put_same t38, ← put_same t9, ← put_same t13, ← put_same t14, ← put_same t15, ← put_same t16, ← put_same t17]
    unfold b15_2 r15_16 r15_17 r15_18 r15_19 r15_20 r15_21 r15_22 r15_23 r15_24 r15_25
    repeat' (first | refine len_sl rfl (List.length_map _) ?_ | refine call4 rfl rfl rfl rfl c1 ?_ | refine call4 rfl rfl rfl rfl c2 ?_ | refine call2 rfl rfl c3 ?_ | refine call5 rfl rfl rfl rfl rfl c4 ?_ | refine call5 rfl rfl rfl rfl rfl c5 ?_ | refine call2 rfl rfl c6 ?_ | refine ne_self rfl rfl ?_ | refine w_seq ?_ | refine w_ops ?_ | refine w_opsD1 rfl (fun u => ?_) | refine st_nil ?_ | refine th_n ?_ | refine bk_n ?_ | refine w_block ?_ | refine w_skip ?_ | refine w_true rfl ?_ | refine w_false rfl ?_ | refine g_yes rfl ?_ | refine mv_c rfl ?_ | refine pick_f rfl rfl ?_ | refine lss_t rfl rfl (by omega) ?_ | refine not_ rfl ?_ | refine add_in rfl rfl (by omega) ?_ | refine alloc_ (fun u => ?_) | refine load_rp rfl (Nat.le_of_ble_eq_true rfl) rfl ?_ | refine load_ptr rfl (by decide) rfl (Nat.le_of_ble_eq_true rfl) rfl ?_ | refine store_ptr rfl rfl (by decide) rfl rfl (Nat.le_of_ble_eq_true rfl) rfl ?_ | refine fad_ptr rfl rfl rfl ?_ | refine iaS_c rfl rfl (by omega) (by assumption) rfl ?_ | refine ext_ rfl rfl ?_)
    exact ih (j + 1) _ hn (by omega) (by rfl) (by rfl) (by rfl) (by rfl) (by rfl) (by rfl) (by rfl) (by rfl) (by rfl) (by rfl) (by rfl) (by rfl) (by rfl) (by rfl) hK
theorem a10_i {K : Ex → PS → Prop} (all : List CaseS) (hin : ∀ q ∈ all, inC 1000 q.1 ∧ inD 1000 q.2.2) (hlen : all.length ≤ 60) (m : Int) (v1 v2 v3 v7 v36 v37 v38 : PV) (x3 : Box) : ∀ (rest : List CaseS) (j : Nat) (s : PS), all.drop j = rest → j ≤ all.length →
    s.t 1 = v1 → s.t 2 = v2 → s.t 3 = v3 → s.bx 3 = x3 → s.t 7 = v7 → s.t 36 = v36 → s.t 37 = v37 → s.t 38 = v38 → s.t 9 = .c (.int .i64 m) → s.t 13 = .c (.sl (all.map cC)) → s.t 14 = .c (.sl (all.map cB)) → s.t 15 = .c (.sl (all.map cD)) → s.t 16 = .c (.int .i64 j) →
    (∀ s', s'.t 1 = v1 → s'.t 2 = v2 → s'.t 3 = v3 → s'.bx 3 = x3 → s'.t 7 = v7 → s'.t 36 = v36 → s'.t 37 = v37 → s'.t 38 = v38 → s'.t 9 = .c (.int .i64 m) → K (.x 2) s') → wP (PCallG Try.prog) (.loop b15_1) s K := by
  intro rest
  induction rest with
  | nil =>
    intro j s hd hj t1 t2 t3 b3 t7 t36 t37 t38 t9 t13 t14 t15 t16 hK
    refine w_loop ?_
    have := drop_end hd hj
    subst this
    rw [← put_same t1, ← put_same t2, ← put_same t3, ← box_same b3, ← put_same t7, ← put_same t36, ← put_same t37, ← put_same t38, ← put_same t9, ← put_same t13, ← put_same t14, ← put_same t15, ← put_same t16]
    unfold b15_1 r15_13 r15_14 r15_15
    repeat' (first | refine len_sl rfl (List.length_map _) ?_ | refine w_seq ?_ | refine w_ops ?_ | refine st_nil ?_ | refine th_n ?_ | refine th_x ?_ | refine w_exit ?_ | refine w_false rfl ?_ | refine mv_c rfl ?_ | refine lss_f rfl rfl (by omega) ?_)
    exact hK _ (by rfl) (by rfl) (by rfl) (by rfl) (by rfl) (by rfl) (by rfl) (by rfl) (by rfl)
  | cons x rest ih =>
    intro j s hd hj t1 t2 t3 b3 t7 t36 t37 t38 t9 t13 t14 t15 t16 hK
    refine w_loop ?_
    obtain ⟨e1, e2, e3⟩ := get_case hd
    have hjl := get_slen hd
    have hn := drop_next hd
    obtain ⟨ix, id_⟩ := hin x (List.mem_of_mem_drop (by rw [hd]; simp))
    rw [← put_same t1, ← put_same t2, ← put_same t3, ← box_same b3, ← put_same t7, ← put_same t36, ← put_same t37, ← put_same t38, ← put_same t9, ← put_same t13, ← put_same t14, ← put_same t15, ← put_same t16]
    unfold b15_1 r15_13 r15_14 r15_15
    repeat' (first | refine len_sl rfl (List.length_map _) ?_ | refine w_seq ?_ | refine w_ops ?_ | refine st_nil ?_ | refine th_n ?_ | refine w_block ?_ | refine w_skip ?_ | refine w_true rfl ?_ | refine mv_c rfl ?_ | refine lss_t rfl rfl (by omega) ?_)
    refine a10_j all hin hlen m j x e1 e2 hjl ix _ _ _ _ _ _ _ _ all 0 _ rfl (by omega) (by rfl) (by rfl) (by rfl) (by rfl) (by rfl) (by rfl) (by rfl) (by rfl) (by rfl) (by rfl) (by rfl) (by rfl) (by rfl) (by rfl) ?_
    intro s' t1 t2 t3 b3 t7 t36 t37 t38 t9 t13 t14 t15 t16
    rw [← put_same t1, ← put_same t2, ← put_same t3, ← box_same b3, ← put_same t7, ← put_same t36, ← put_same t37, ← put_same t38, ← put_same t9, ← put_same t13, ← put_same t14, ← put_same t15, ← put_same t16]
    repeat' (first | refine w_ops ?_ | refine st_nil ?_ | refine th_n ?_ | refine bk_n ?_ | refine bk_x ?_ | refine mv_c rfl ?_ | refine add_in rfl rfl (by omega) ?_)
    exact ih (j + 1) _ hn (by omega) (by rfl) (by rfl) (by rfl) (by rfl) (by rfl) (by rfl) (by rfl) (by rfl) (by rfl) (by rfl) (by rfl) (by rfl) (by rfl) hK
theorem C_DeltaApplies (M : Int) (c : Cell) (is : Bool) (d : Delta) (rows : List RowS) (l : List (Bool × RowS)) (hc : inC 9223372036854775807 c) (hd : inD 9223372036854775807 d) (rr : ∀ r ∈ rows, inR r) (rl : ∀ q ∈ l, inCh q) (hrl : rows.length ≤ 9223372036854775807) (hll : l.length ≤ 9223372036854775807) :
    PCallG Try.prog 15 [.c (.agg (.int .i64 M :: (encC c ++ (.bool is :: encD d)))), .c (encRows rows), .c (encChs l)] (.c (.bool true)) [] := by
  have cw := C_wakes10
  have c1 := C_light10 M c is d rows l hc.2.2.2.2.2.1 hc.2.2.2.2.2.2 hd hrl hll
  refine pcallF Try.func15 c15 rfl ?_
  unfold p15 r15_0 r15_1 r15_2 r15_3 r15_4 r15_27
  by_cases hq : (lightC c && (lightD d && (decide (rows.length ≤ 30) && decide (l.length ≤ 30)))) = true
  · rw [hq] at c1
    simp only [Bool.and_eq_true, decide_eq_true_eq] at hq
    obtain ⟨q1, q2, q3, q4⟩ := hq
    simp only [lightC, decide_eq_true_eq] at q1
    have ic : inC 1000 c := ⟨hc.1, hc.2.1, hc.2.2.1, hc.2.2.2.1, hc.2.2.2.2.1, by omega, by omega⟩
    have id_ : inD 1000 d := inD_to (lightD_in hd q2) (by omega)
    have rk : ∀ r ∈ rows.take (rows.length / 2), inR r := fun q hq => rr q (List.mem_of_mem_take hq)
    have io : ∀ m, inC 1000 (ofC m rows).1 := fun m => inC_of m rows (by omega) rr
    have ik : ∀ m, inC 1000 (ofC m (rows.take (rows.length / 2))).1 := fun m => inC_of m _ (by simp; omega) rk
    have is_ : ∀ m, inD 1000 (sumD m l).1 := fun m => inD_to (inD_sum m l 0 (zeroD, true) (inD_zero _) rl) (by omega)
    have c2 : ∀ m, PCallG Try.prog 44 [.c (.int .i64 m), .c (encRows rows)] (.c (rcV (ofC m rows))) [] := fun m => C_rcOf m rows (by omega) rr
    have c3 : ∀ m, PCallG Try.prog 44 [.c (.int .i64 m), .c (.sl ((rows.take (rows.length / 2)).map encRow))] (.c (rcV (ofC m (rows.take (rows.length / 2))))) [] := fun m => C_rcOf m _ (by simp; omega) rk
    have c4 : ∀ m, PCallG Try.prog 62 [.c (.int .i64 m), .c (encChs l)] (.c (rdV (sumD m l))) [] := fun m => C_lsum m l (by omega) rl
    have c5 : ∀ m, PCallG Try.prog 64 [.c (.int .i64 m), .c (encDelta (sumD m l).1)] (.c (rdV (negD m (sumD m l).1))) [] := fun m => C_rdNeg m _ (inD_to (is_ m) (by omega))
    have c6 : ∀ m, PCallG Try.prog 73 [.c (.int .i64 m), .c (encCell (ofC m rows).1), .c (.bool (ofC m rows).2), .c (encCell (ofC m (rows.take (rows.length / 2))).1), .c (.bool (ofC m (rows.take (rows.length / 2))).2)] (.c (rdV (betweenD m (ofC m rows).1 (ofC m rows).2 (ofC m (rows.take (rows.length / 2))).1 (ofC m (rows.take (rows.length / 2))).2))) [] := fun m => C_rdBetween m _ _ _ _ (inC_to (io m) (by omega)) (inC_to (ik m) (by omega))
    have ij : ∀ m, inD 1000 (negD m (sumD m l).1).1 := fun m => inD_neg (is_ m)
    have il : ∀ m, inD 1000 (betweenD m (ofC m rows).1 (ofC m rows).2 (ofC m (rows.take (rows.length / 2))).1 (ofC m (rows.take (rows.length / 2))).2).1 := fun m => inD_between (io m) (ik m)
    have hw : ∀ e ∈ rows.map encRow, e.length = 6 := fun e he => by obtain ⟨c, _, rfl⟩ := List.mem_map.mp he; rfl
    have hk : (rows.map encRow).take (rows.length / 2) = (rows.take (rows.length / 2)).map encRow := List.map_take.symm
    have hkl : rows.length / 2 ≤ (rows.map encRow).length := by simp; omega
    repeat' (first | refine call3 rfl rfl rfl c1 ?_ | refine len_sl (n := 3) (es := [_, _, _]) rfl rfl ?_ | refine len_sl rfl (List.length_map _) ?_ | refine quo_2 rfl rfl (by omega) ?_ | refine w_seq ?_ | refine w_ops ?_ | refine st_nil ?_ | refine th_n ?_ | refine w_block ?_ | refine w_skip ?_ | refine w_false rfl ?_ | refine mv_c rfl ?_ | refine not_ rfl ?_ | refine box_ rfl rfl rfl (fun u => ?_) | refine bsl_ rfl rfl ?_ | refine load_ptr rfl (by decide) rfl (Nat.le_of_ble_eq_true rfl) rfl ?_ | refine fad_ptr rfl rfl rfl ?_)
    refine w_loop ?_
    unfold b15_0 r15_5 r15_6 r15_7 r15_8 r15_9 r15_10 r15_11 r15_12 r15_26
    repeat' (first | refine iaS_c rfl rfl (by omega) rfl rfl ?_ | refine call2 rfl rfl (c2 M) ?_ | refine call2 rfl rfl (c3 M) ?_ | refine call2 rfl rfl (c4 M) ?_ | refine call2 rfl rfl (c5 M) ?_ | refine call5 rfl rfl rfl rfl rfl (c6 M) ?_ | refine slc_pre rfl rfl hkl hw hk ?_ | refine w_seq ?_ | refine w_ops ?_ | refine w_opsD0 rfl ?_ | refine w_opsD2 rfl (fun u u => ?_) | refine st_nil ?_ | refine th_n ?_ | refine w_block ?_ | refine w_skip ?_ | refine w_true rfl ?_ | refine mv_c rfl ?_ | refine lss_t rfl rfl (by omega) ?_ | refine alloc_ (fun u => ?_) | refine build_ rfl rfl ?_ | refine bsl_ rfl rfl ?_ | refine load_rp rfl (Nat.le_of_ble_eq_true rfl) rfl ?_ | refine load_ptr rfl (by decide) rfl (Nat.le_of_ble_eq_true rfl) rfl ?_ | refine store_ptr rfl rfl (by decide) rfl rfl (Nat.le_of_ble_eq_true rfl) rfl ?_ | refine fad_ptr rfl rfl rfl ?_ | refine fld_ rfl (Nat.le_of_ble_eq_true rfl) rfl ?_)
    refine a10_i [(c, is, d), ((ofC M rows).1, (ofC M rows).2, (sumD M l).1), ((ofC M (rows.take (rows.length / 2))).1, (ofC M (rows.take (rows.length / 2))).2, (negD M (sumD M l).1).1), (zeroC, false, (betweenD M (ofC M rows).1 (ofC M rows).2 (ofC M (rows.take (rows.length / 2))).1 (ofC M (rows.take (rows.length / 2))).2).1)] (fun q hq => ?_) (by simp) M _ _ _ _ _ _ _ _ _ 0 _ rfl (by simp) (by rfl) (by rfl) (by rfl) (by rfl) (by rfl) (by rfl) (by rfl) (by rfl) (by rfl) (by rfl) (by rfl) (by rfl) (by rfl) ?_
    · simp only [List.mem_cons, List.not_mem_nil, or_false] at hq
      rcases hq with rfl | rfl | rfl | rfl
      · exact ⟨ic, id_⟩
      · exact ⟨io M, is_ M⟩
      · exact ⟨ik M, ij M⟩
      · exact ⟨inC_zero _, il M⟩
    intro s' t1 t2 t3 b3 t7 t36 t37 t38 t9
    rw [← put_same t1, ← put_same t2, ← put_same t3, ← box_same b3, ← put_same t7, ← put_same t36, ← put_same t37, ← put_same t38, ← put_same t9]
    repeat' (first | refine w_ops ?_ | refine st_nil ?_ | refine th_n ?_ | refine bk_n ?_ | refine bk_x ?_ | refine mv_c rfl ?_ | refine add_in rfl rfl (by omega) ?_)
    refine w_loop ?_
    repeat' (first | refine iaS_c rfl rfl (by omega) rfl rfl ?_ | refine call2 rfl rfl (c2 1) ?_ | refine call2 rfl rfl (c3 1) ?_ | refine call2 rfl rfl (c4 1) ?_ | refine call2 rfl rfl (c5 1) ?_ | refine call5 rfl rfl rfl rfl rfl (c6 1) ?_ | refine slc_pre rfl rfl hkl hw hk ?_ | refine w_seq ?_ | refine w_ops ?_ | refine w_opsD0 rfl ?_ | refine w_opsD2 rfl (fun u u => ?_) | refine st_nil ?_ | refine th_n ?_ | refine w_block ?_ | refine w_skip ?_ | refine w_true rfl ?_ | refine mv_c rfl ?_ | refine lss_t rfl rfl (by omega) ?_ | refine alloc_ (fun u => ?_) | refine build_ rfl rfl ?_ | refine bsl_ rfl rfl ?_ | refine load_rp rfl (Nat.le_of_ble_eq_true rfl) rfl ?_ | refine load_ptr rfl (by decide) rfl (Nat.le_of_ble_eq_true rfl) rfl ?_ | refine store_ptr rfl rfl (by decide) rfl rfl (Nat.le_of_ble_eq_true rfl) rfl ?_ | refine fad_ptr rfl rfl rfl ?_ | refine fld_ rfl (Nat.le_of_ble_eq_true rfl) rfl ?_)
    refine a10_i [(c, is, d), ((ofC 1 rows).1, (ofC 1 rows).2, (sumD 1 l).1), ((ofC 1 (rows.take (rows.length / 2))).1, (ofC 1 (rows.take (rows.length / 2))).2, (negD 1 (sumD 1 l).1).1), (zeroC, false, (betweenD 1 (ofC 1 rows).1 (ofC 1 rows).2 (ofC 1 (rows.take (rows.length / 2))).1 (ofC 1 (rows.take (rows.length / 2))).2).1)] (fun q hq => ?_) (by simp) 1 _ _ _ _ _ _ _ _ _ 0 _ rfl (by simp) (by rfl) (by rfl) (by rfl) (by rfl) (by rfl) (by rfl) (by rfl) (by rfl) (by rfl) (by rfl) (by rfl) (by rfl) (by rfl) ?_
    · simp only [List.mem_cons, List.not_mem_nil, or_false] at hq
      rcases hq with rfl | rfl | rfl | rfl
      · exact ⟨ic, id_⟩
      · exact ⟨io 1, is_ 1⟩
      · exact ⟨ik 1, ij 1⟩
      · exact ⟨inC_zero _, il 1⟩
    intro s' t1 t2 t3 b3 t7 t36 t37 t38 t9
    rw [← put_same t1, ← put_same t2, ← put_same t3, ← box_same b3, ← put_same t7, ← put_same t36, ← put_same t37, ← put_same t38, ← put_same t9]
    repeat' (first | refine w_ops ?_ | refine st_nil ?_ | refine th_n ?_ | refine bk_n ?_ | refine bk_x ?_ | refine mv_c rfl ?_ | refine add_in rfl rfl (by omega) ?_)
    refine w_loop ?_
    repeat' (first | refine iaS_c rfl rfl (by omega) rfl rfl ?_ | refine call2 rfl rfl (c2 2) ?_ | refine call2 rfl rfl (c3 2) ?_ | refine call2 rfl rfl (c4 2) ?_ | refine call2 rfl rfl (c5 2) ?_ | refine call5 rfl rfl rfl rfl rfl (c6 2) ?_ | refine slc_pre rfl rfl hkl hw hk ?_ | refine w_seq ?_ | refine w_ops ?_ | refine w_opsD0 rfl ?_ | refine w_opsD2 rfl (fun u u => ?_) | refine st_nil ?_ | refine th_n ?_ | refine w_block ?_ | refine w_skip ?_ | refine w_true rfl ?_ | refine mv_c rfl ?_ | refine lss_t rfl rfl (by omega) ?_ | refine alloc_ (fun u => ?_) | refine build_ rfl rfl ?_ | refine bsl_ rfl rfl ?_ | refine load_rp rfl (Nat.le_of_ble_eq_true rfl) rfl ?_ | refine load_ptr rfl (by decide) rfl (Nat.le_of_ble_eq_true rfl) rfl ?_ | refine store_ptr rfl rfl (by decide) rfl rfl (Nat.le_of_ble_eq_true rfl) rfl ?_ | refine fad_ptr rfl rfl rfl ?_ | refine fld_ rfl (Nat.le_of_ble_eq_true rfl) rfl ?_)
    refine a10_i [(c, is, d), ((ofC 2 rows).1, (ofC 2 rows).2, (sumD 2 l).1), ((ofC 2 (rows.take (rows.length / 2))).1, (ofC 2 (rows.take (rows.length / 2))).2, (negD 2 (sumD 2 l).1).1), (zeroC, false, (betweenD 2 (ofC 2 rows).1 (ofC 2 rows).2 (ofC 2 (rows.take (rows.length / 2))).1 (ofC 2 (rows.take (rows.length / 2))).2).1)] (fun q hq => ?_) (by simp) 2 _ _ _ _ _ _ _ _ _ 0 _ rfl (by simp) (by rfl) (by rfl) (by rfl) (by rfl) (by rfl) (by rfl) (by rfl) (by rfl) (by rfl) (by rfl) (by rfl) (by rfl) (by rfl) ?_
    · simp only [List.mem_cons, List.not_mem_nil, or_false] at hq
      rcases hq with rfl | rfl | rfl | rfl
      · exact ⟨ic, id_⟩
      · exact ⟨io 2, is_ 2⟩
      · exact ⟨ik 2, ij 2⟩
      · exact ⟨inC_zero _, il 2⟩
    intro s' t1 t2 t3 b3 t7 t36 t37 t38 t9
    rw [← put_same t1, ← put_same t2, ← put_same t3, ← box_same b3, ← put_same t7, ← put_same t36, ← put_same t37, ← put_same t38, ← put_same t9]
    repeat' (first | refine w_ops ?_ | refine st_nil ?_ | refine th_n ?_ | refine bk_n ?_ | refine bk_x ?_ | refine mv_c rfl ?_ | refine add_in rfl rfl (by omega) ?_)
    refine w_loop ?_
    repeat' (first | refine call0 cw ?_ | refine w_seq ?_ | refine w_ops ?_ | refine st_nil ?_ | refine th_n ?_ | refine th_x ?_ | refine bk_x ?_ | refine w_exit ?_ | refine w_ret ?_ | refine w_false rfl ?_ | refine mv_c rfl ?_ | refine lss_f rfl rfl (by omega) ?_)
    exact fin_r rfl rfl
  · rw [show (lightC c && (lightD d && (decide (rows.length ≤ 30) && decide (l.length ≤ 30)))) = false by simpa using hq] at c1
    repeat' (first | refine call3 rfl rfl rfl c1 ?_ | refine call0 cw ?_ | refine w_seq ?_ | refine w_ops ?_ | refine st_nil ?_ | refine th_n ?_ | refine th_r ?_ | refine w_ret ?_ | refine w_true rfl ?_ | refine mv_c rfl ?_ | refine not_ rfl ?_ | refine box_ rfl rfl rfl (fun u => ?_) | refine load_ptr rfl (by decide) rfl (Nat.le_of_ble_eq_true rfl) rfl ?_)
    exact fin_r rfl rfl
theorem L_DeltaApplies (c0 : List CV) (h0 : OkL [.int .i64, .int .i64, .int .i64, .int .i64, .sl [.int .i64, .int .i64], .sl [.int .i64, .int .i64], .bool, .int .i64, .int .i64, .int .i64, .sl [.int .i64, .int .i64], .sl [.int .i64, .int .i64], .sl [.int .i64, .int .i64], .sl [.int .i64, .int .i64]] c0)
    (c1 : CV) (h1 : LF.Ok (.sl [.int .u8, .int .u8, .int .u8, .int .u8, .int .i64, .int .i64]) c1) (c2 : CV) (h2 : LF.Ok (.sl [.bool, .int .u8, .int .u8, .int .u8, .int .u8, .int .i64, .int .i64]) c2) : PCallG Try.prog 15 [.c (.agg c0), .c c1, .c c2] (.c (.bool true)) [] := by
  obtain ⟨M, c, is, d, rfl, _, ic, id_⟩ := ok_case h0
  obtain ⟨rows, rfl, rr, hrl⟩ := ok_rows10 h1
  obtain ⟨l, rfl, rl, hll⟩ := ok_chs h2
  exact C_DeltaApplies M c is d rows l ic id_ rr rl hrl hll
end Go.Proofs.Ytcmejdkjfekoeaa

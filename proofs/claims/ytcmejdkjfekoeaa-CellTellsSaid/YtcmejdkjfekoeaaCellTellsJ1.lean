/- Part of the proof of CellTells: lemmas. -/
import Derived.Test.YtcmejdkjfekoeaaCellS6
import Derived.Test.YtcmejdkjfekoeaaCellS10
import Derived.Test.YtcmejdkjfekoeaaCellS11
import Derived.Test.YtcmejdkjfekoeaaCellS12
import Derived.Test.YtcmejdkjfekoeaaProg
import Derived.KernelRfl
set_option linter.unusedVariables false
set_option linter.unusedSimpArgs false
namespace Go.Proofs.Ytcmejdkjfekoeaa
open Go.Pl
/- cuboid/cuboidlaw09.CellTells -/
def r8_0 : List POp := [⟨some 2, .box 15 (.t 0), none⟩,
  ⟨some 4, .mv (.k (.bool false)), none⟩]
def r8_1 : List POp := [⟨some 20, .fad 1 (.t 2), none⟩,
  ⟨some 21, .load true 5 (.t 20) [], none⟩,
  ⟨some 22, .call false 42 [(.t 21)], none⟩,
  ⟨some 23, .un .not (.t 22), none⟩,
  ⟨some 24, .mv (.t 23), none⟩,
  ⟨some 25, .fad 6 (.t 2), (some (24, false))⟩,
  ⟨some 26, .load true 5 (.t 25) [], (some (24, false))⟩,
  ⟨some 27, .call false 42 [(.t 26)], (some (24, false))⟩,
  ⟨some 28, .un .not (.t 27), (some (24, false))⟩,
  ⟨some 29, .pick (.t 24) (.k (.bool true)) (.t 28), none⟩,
  ⟨some 30, .mv (.t 29), none⟩,
  ⟨some 31, .mv (.t 1), (some (30, false))⟩,
  ⟨some 32, .len (.t 31), (some (30, false))⟩,
  ⟨some 33, .bin .gtr (.t 32) (.k (.int .i64 40)), (some (30, false))⟩,
  ⟨some 34, .pick (.t 30) (.k (.bool true)) (.t 33), none⟩]
def r8_2 : List POp := [⟨some 35, .call false 43 [], none⟩,
  ⟨some 4, .mv (.t 35), none⟩]
def r8_3 : List POp := [⟨some 36, .mv (.t 1), none⟩,
  ⟨some 37, .len (.t 36), none⟩,
  ⟨some 38, .bin .quo (.t 37) (.k (.int .i64 2)), none⟩,
  ⟨some 5, .mv (.t 38), none⟩]
def r8_4 : List POp := [⟨some 39, .fad 0 (.t 2), none⟩,
  ⟨some 40, .load false 1 (.t 39) [], none⟩,
  ⟨some 41, .bsl 1 3 [.int .i64 0] [(0, (.t 40)), (1, (.k (.int .i64 1))), (2, (.k (.int .i64 2)))] false, none⟩,
  ⟨some 42, .len (.t 41), none⟩,
  ⟨some 43, .mv (.k (.int .i64 0)), none⟩]
def r8_5 : List POp := [⟨some 44, .bin .lss (.t 43) (.t 42), none⟩]
def r8_6 : List POp := [⟨some 45, .iaS 1 (.t 41) (.t 43), none⟩,
  ⟨some 46, .load false 1 (.t 45) [], none⟩,
  ⟨some 7, .mv (.t 46), none⟩]
def r8_7 : List POp := [⟨some 47, .mv (.t 7), none⟩,
  ⟨some 48, .mv (.t 1), none⟩,
  ⟨some 49, .call false 44 [(.t 47), (.t 48)], none⟩,
  ⟨some 50, .mv (.t 7), none⟩,
  ⟨some 51, .mv (.t 1), none⟩,
  ⟨some 52, .mv (.t 5), none⟩,
  ⟨some 53, .slc 6 (.t 51) none (some (.t 52)), none⟩,
  ⟨some 54, .call false 44 [(.t 50), (.t 53)], none⟩,
  ⟨some 8, .alloc [.int .i64 0, .int .i64 0, .int .i64 0, .sl [], .sl [], .bool false], none⟩,
  ⟨some 9, .alloc [.int .i64 0, .int .i64 0, .int .i64 0, .sl [], .sl [], .bool false], none⟩,
  ⟨none, .store 6 (.t 8) (.t 49) [], none⟩,
  ⟨none, .store 6 (.t 9) (.t 54) [], none⟩]
def r8_8 : List POp := [⟨some 56, .mv (.t 7), none⟩,
  ⟨some 57, .mv (.t 1), none⟩,
  ⟨some 58, .call false 45 [(.t 56), (.t 57)], none⟩,
  ⟨some 55, .mv (.t 58), none⟩,
  ⟨some 59, .ext (.t 55) 0, none⟩,
  ⟨some 60, .ext (.t 55) 1, none⟩,
  ⟨some 10, .alloc [.int .i64 0, .int .i64 0, .int .i64 0, .sl [], .sl []], none⟩,
  ⟨none, .store 5 (.t 10) (.t 59) [], none⟩,
  ⟨some 11, .mv (.t 60), none⟩]
def r8_9 : List POp := [⟨some 62, .mv (.t 7), none⟩,
  ⟨some 63, .mv (.t 1), none⟩,
  ⟨some 64, .mv (.t 5), none⟩,
  ⟨some 65, .slc 6 (.t 63) none (some (.t 64)), none⟩,
  ⟨some 66, .call false 45 [(.t 62), (.t 65)], none⟩,
  ⟨some 61, .mv (.t 66), none⟩,
  ⟨some 67, .ext (.t 61) 0, none⟩,
  ⟨some 68, .ext (.t 61) 1, none⟩,
  ⟨some 12, .alloc [.int .i64 0, .int .i64 0, .int .i64 0, .sl [], .sl []], none⟩,
  ⟨none, .store 5 (.t 12) (.t 67) [], none⟩,
  ⟨some 13, .mv (.t 68), none⟩]
def r8_10 : List POp := [⟨some 69, .mv (.t 11), none⟩,
  ⟨some 70, .fad 5 (.t 8), none⟩,
  ⟨some 71, .load false 1 (.t 70) [], none⟩,
  ⟨some 72, .eqs true false [.b] (.t 69) (.t 71), none⟩,
  ⟨some 73, .mv (.t 72), none⟩,
  ⟨some 74, .load true 5 (.t 10) [], (some (73, false))⟩,
  ⟨some 75, .fad 0 (.t 8), (some (73, false))⟩,
  ⟨some 76, .load true 5 (.t 75) [], (some (73, false))⟩,
  ⟨some 77, .call false 46 [(.t 74), (.t 76)], (some (73, false))⟩,
  ⟨some 78, .un .not (.t 77), (some (73, false))⟩,
  ⟨some 79, .pick (.t 73) (.k (.bool true)) (.t 78), none⟩,
  ⟨some 80, .mv (.t 79), none⟩,
  ⟨some 81, .mv (.t 13), (some (80, false))⟩,
  ⟨some 82, .fad 5 (.t 9), (some (80, false))⟩,
  ⟨some 83, .load false 1 (.t 82) [], (some (80, false))⟩,
  ⟨some 84, .eqs true false [.b] (.t 81) (.t 83), (some (80, false))⟩,
  ⟨some 85, .pick (.t 80) (.k (.bool true)) (.t 84), none⟩,
  ⟨some 86, .mv (.t 85), none⟩,
  ⟨some 87, .load true 5 (.t 12) [], (some (86, false))⟩,
  ⟨some 88, .fad 0 (.t 9), (some (86, false))⟩,
  ⟨some 89, .load true 5 (.t 88) [], (some (86, false))⟩,
  ⟨some 90, .call false 46 [(.t 87), (.t 89)], (some (86, false))⟩,
  ⟨some 91, .un .not (.t 90), (some (86, false))⟩,
  ⟨some 92, .pick (.t 86) (.k (.bool true)) (.t 91), none⟩]
def r8_11 : List POp := [⟨some 4, .mv (.k (.bool false)), none⟩]
def r8_12 : List POp := [⟨some 93, .fad 1 (.t 2), none⟩,
  ⟨some 94, .load true 5 (.t 93) [], none⟩,
  ⟨some 95, .fad 6 (.t 2), none⟩,
  ⟨some 96, .load true 5 (.t 95) [], none⟩,
  ⟨some 97, .fad 0 (.t 8), none⟩,
  ⟨some 98, .load true 5 (.t 97) [], none⟩,
  ⟨some 99, .fad 0 (.t 9), none⟩,
  ⟨some 100, .load true 5 (.t 99) [], none⟩,
  ⟨some 101, .bsl 5 4 [.int .i64 0, .int .i64 0, .int .i64 0, .sl [], .sl []] [(0, (.t 94)), (1, (.t 96)), (2, (.t 98)), (3, (.t 100))] false, none⟩,
  ⟨some 14, .mv (.t 101), none⟩]
def r8_13 : List POp := [⟨some 15, .mv (.k (.int .i64 0)), none⟩]
def r8_14 : List POp := [⟨some 102, .mv (.t 15), none⟩,
  ⟨some 103, .mv (.t 14), none⟩,
  ⟨some 104, .len (.t 103), none⟩,
  ⟨some 105, .bin .lss (.t 102) (.t 104), none⟩]
def r8_16 : List POp := [⟨some 108, .mv (.t 7), none⟩,
  ⟨some 109, .mv (.t 14), none⟩,
  ⟨some 110, .mv (.t 15), none⟩,
  ⟨some 111, .iaS 5 (.t 109) (.t 110), none⟩,
  ⟨some 112, .load true 5 (.t 111) [], none⟩,
  ⟨some 113, .call false 47 [(.t 108), (.t 112)], none⟩,
  ⟨some 114, .mv (.t 7), none⟩,
  ⟨some 115, .mv (.t 14), none⟩,
  ⟨some 116, .mv (.t 15), none⟩,
  ⟨some 117, .iaS 5 (.t 115) (.t 116), none⟩,
  ⟨some 118, .load true 5 (.t 117) [], none⟩,
  ⟨some 119, .call false 48 [(.t 114), (.t 118)], none⟩,
  ⟨some 120, .eqs true false [.b] (.t 113) (.t 119), none⟩,
  ⟨some 121, .mv (.t 120), none⟩,
  ⟨some 122, .mv (.t 7), (some (121, false))⟩,
  ⟨some 123, .fad 11 (.t 2), (some (121, false))⟩,
  ⟨some 124, .load true 4 (.t 123) [], (some (121, false))⟩,
  ⟨some 125, .mv (.t 14), (some (121, false))⟩,
  ⟨some 126, .mv (.t 15), (some (121, false))⟩,
  ⟨some 127, .iaS 5 (.t 125) (.t 126), (some (121, false))⟩,
  ⟨some 128, .load true 5 (.t 127) [], (some (121, false))⟩,
  ⟨some 129, .call false 49 [(.t 122), (.t 124), (.t 128)], (some (121, false))⟩,
  ⟨some 130, .mv (.t 7), (some (121, false))⟩,
  ⟨some 131, .fad 11 (.t 2), (some (121, false))⟩,
  ⟨some 132, .load true 4 (.t 131) [], (some (121, false))⟩,
  ⟨some 133, .mv (.t 14), (some (121, false))⟩,
  ⟨some 134, .mv (.t 15), (some (121, false))⟩,
  ⟨some 135, .iaS 5 (.t 133) (.t 134), (some (121, false))⟩,
  ⟨some 136, .load true 5 (.t 135) [], (some (121, false))⟩,
  ⟨some 137, .call false 50 [(.t 130), (.t 132), (.t 136)], (some (121, false))⟩,
  ⟨some 138, .eqs true true [.i, .i, .i, .i, .i, .i, .i, .i, .i, .i, .i] (.t 129) (.t 137), (some (121, false))⟩,
  ⟨some 139, .pick (.t 121) (.k (.bool true)) (.t 138), none⟩]
def r8_17 : List POp := [⟨some 4, .mv (.k (.bool false)), none⟩]
def r8_18 : List POp := [⟨some 16, .mv (.k (.int .i64 0)), none⟩]
def r8_19 : List POp := [⟨some 140, .mv (.t 16), none⟩,
  ⟨some 141, .mv (.t 14), none⟩,
  ⟨some 142, .len (.t 141), none⟩,
  ⟨some 143, .bin .lss (.t 140) (.t 142), none⟩]
def r8_21 : List POp := [⟨some 147, .mv (.t 7), none⟩,
  ⟨some 148, .mv (.t 14), none⟩,
  ⟨some 149, .mv (.t 15), none⟩,
  ⟨some 150, .iaS 5 (.t 148) (.t 149), none⟩,
  ⟨some 151, .load true 5 (.t 150) [17], none⟩,
  ⟨some 152, .mv (.t 14), none⟩,
  ⟨some 153, .mv (.t 16), none⟩,
  ⟨some 154, .iaS 5 (.t 152) (.t 153), none⟩,
  ⟨some 155, .load true 5 (.t 154) [17], none⟩,
  ⟨some 156, .call false 51 [(.t 147), (.t 151), (.t 155)], none⟩,
  ⟨some 146, .mv (.t 156), none⟩,
  ⟨some 157, .ext (.t 146) 0, none⟩,
  ⟨some 158, .ext (.t 146) 1, none⟩,
  ⟨some 17, .alloc [.int .i64 0, .int .i64 0, .int .i64 0, .sl [], .sl []], none⟩,
  ⟨none, .store 5 (.t 17) (.t 157) [], none⟩,
  ⟨some 18, .mv (.t 158), none⟩]
def r8_22 : List POp := [⟨some 159, .mv (.t 7), none⟩,
  ⟨some 160, .mv (.t 14), none⟩,
  ⟨some 161, .mv (.t 15), none⟩,
  ⟨some 162, .iaS 5 (.t 160) (.t 161), none⟩,
  ⟨some 163, .load true 5 (.t 162) [19], none⟩,
  ⟨some 164, .mv (.t 14), none⟩,
  ⟨some 165, .mv (.t 16), none⟩,
  ⟨some 166, .iaS 5 (.t 164) (.t 165), none⟩,
  ⟨some 167, .load true 5 (.t 166) [19], none⟩,
  ⟨some 168, .call false 52 [(.t 159), (.t 163), (.t 167)], none⟩,
  ⟨some 19, .alloc [.int .i64 0, .int .i64 0, .int .i64 0, .sl [], .sl [], .bool false], none⟩,
  ⟨none, .store 6 (.t 19) (.t 168) [], none⟩]
def r8_23 : List POp := [⟨some 169, .mv (.t 18), none⟩,
  ⟨some 170, .fad 5 (.t 19), none⟩,
  ⟨some 171, .load false 1 (.t 170) [], none⟩,
  ⟨some 172, .eqs true false [.b] (.t 169) (.t 171), none⟩,
  ⟨some 173, .mv (.t 172), none⟩,
  ⟨some 174, .load true 5 (.t 17) [], (some (173, false))⟩,
  ⟨some 175, .fad 0 (.t 19), (some (173, false))⟩,
  ⟨some 176, .load true 5 (.t 175) [], (some (173, false))⟩,
  ⟨some 177, .call false 46 [(.t 174), (.t 176)], (some (173, false))⟩,
  ⟨some 178, .un .not (.t 177), (some (173, false))⟩,
  ⟨some 179, .pick (.t 173) (.k (.bool true)) (.t 178), none⟩,
  ⟨some 180, .mv (.t 179), none⟩,
  ⟨some 181, .mv (.t 14), (some (180, false))⟩,
  ⟨some 182, .mv (.t 15), (some (180, false))⟩,
  ⟨some 183, .iaS 5 (.t 181) (.t 182), (some (180, false))⟩,
  ⟨some 184, .load true 5 (.t 183) [], (some (180, false))⟩,
  ⟨some 185, .mv (.t 14), (some (180, false))⟩,
  ⟨some 186, .mv (.t 16), (some (180, false))⟩,
  ⟨some 187, .iaS 5 (.t 185) (.t 186), (some (180, false))⟩,
  ⟨some 188, .load true 5 (.t 187) [], (some (180, false))⟩,
  ⟨some 189, .call false 53 [(.t 184), (.t 188)], (some (180, false))⟩,
  ⟨some 190, .mv (.t 14), (some (180, false))⟩,
  ⟨some 191, .mv (.t 15), (some (180, false))⟩,
  ⟨some 192, .iaS 5 (.t 190) (.t 191), (some (180, false))⟩,
  ⟨some 193, .load true 5 (.t 192) [], (some (180, false))⟩,
  ⟨some 194, .mv (.t 14), (some (180, false))⟩,
  ⟨some 195, .mv (.t 16), (some (180, false))⟩,
  ⟨some 196, .iaS 5 (.t 194) (.t 195), (some (180, false))⟩,
  ⟨some 197, .load true 5 (.t 196) [], (some (180, false))⟩,
  ⟨some 198, .call false 46 [(.t 193), (.t 197)], (some (180, false))⟩,
  ⟨some 199, .eqs true false [.b] (.t 189) (.t 198), (some (180, false))⟩,
  ⟨some 200, .pick (.t 180) (.k (.bool true)) (.t 199), none⟩]
def r8_24 : List POp := [⟨some 4, .mv (.k (.bool false)), none⟩]
def r8_20 : List POp := [⟨some 144, .mv (.t 16), none⟩,
  ⟨some 145, .bin .add (.t 144) (.k (.int .i64 1)), none⟩,
  ⟨some 16, .mv (.t 145), none⟩]
def b8_2 : PCode := (.seq (.seq (.ops false r8_19) (.cond (.t 143) .skip (.exit 4))) (.seq (.block 5 (.seq (.ops true r8_21) (.seq (.ops true r8_22) (.seq (.ops true r8_23) (.cond (.t 200) (.seq (.ops false r8_24) .ret) .skip))))) (.ops false r8_20)))
def r8_15 : List POp := [⟨some 106, .mv (.t 15), none⟩,
  ⟨some 107, .bin .add (.t 106) (.k (.int .i64 1)), none⟩,
  ⟨some 15, .mv (.t 107), none⟩]
def b8_1 : PCode := (.seq (.seq (.ops false r8_14) (.cond (.t 105) .skip (.exit 2))) (.seq (.block 3 (.seq (.seq (.ops true r8_16) (.cond (.t 139) (.seq (.ops false r8_17) .ret) .skip)) (.seq (.ops false r8_18) (.block 4 (.loop b8_2))))) (.ops false r8_15)))
def r8_25 : List POp := [⟨some 201, .bin .add (.t 43) (.k (.int .i64 1)), none⟩,
  ⟨some 43, .mv (.t 201), none⟩]
def b8_0 : PCode := (.seq (.ops false r8_5) (.seq (.cond (.t 44) .skip (.exit 0)) (.seq (.block 1 (.seq (.ops false r8_6) (.seq (.ops true r8_7) (.seq (.ops false r8_8) (.seq (.ops false r8_9) (.seq (.seq (.ops false r8_10) (.cond (.t 92) (.seq (.ops false r8_11) .ret) .skip)) (.seq (.ops false r8_12) (.seq (.ops false r8_13) (.block 2 (.loop b8_1)))))))))) (.ops false r8_25))))
def r8_26 : List POp := [⟨some 202, .call false 43 [], none⟩,
  ⟨some 4, .mv (.t 202), none⟩]
def p8 : PCode := (.seq (.ops false r8_0) (.seq (.seq (.ops false r8_1) (.cond (.t 34) (.seq (.ops false r8_2) .ret) .skip)) (.seq (.ops false r8_3) (.seq (.seq (.ops false r8_4) (.block 0 (.loop b8_0))) (.seq (.ops false r8_26) .ret)))))
def rs8 : List RS := [.t 4]
theorem c8 : chkF Try.prog Try.f8 2 p8 rs8 = true := by kernel_rfl
/- cuboid/cuboidref09.Of -/
def r44_0 : List POp := [⟨some 4, .alloc [.int .i64 0, .int .i64 0, .int .i64 0, .sl [], .sl [], .bool false], none⟩]
def r44_1 : List POp := [⟨some 8, .mv (.t 0), none⟩,
  ⟨some 9, .bin .lss (.t 8) (.k (.int .i64 1)), none⟩,
  ⟨some 10, .mv (.t 9), none⟩,
  ⟨some 11, .mv (.t 0), (some (10, false))⟩,
  ⟨some 12, .bin .gtr (.t 11) (.k (.int .i64 2)), (some (10, false))⟩,
  ⟨some 13, .pick (.t 10) (.k (.bool true)) (.t 12), none⟩,
  ⟨some 14, .mv (.t 13), none⟩,
  ⟨some 15, .mv (.t 1), (some (14, false))⟩,
  ⟨some 16, .len (.t 15), (some (14, false))⟩,
  ⟨some 17, .bin .eql (.t 16) (.k (.int .i64 0)), (some (14, false))⟩,
  ⟨some 18, .pick (.t 14) (.k (.bool true)) (.t 17), none⟩]
def r44_2 : List POp := [⟨some 19, .build [.int .i64 0, .int .i64 0, .int .i64 0, .sl [], .sl [], .bool false] [], none⟩,
  ⟨none, .store 6 (.t 4) (.t 19) [], none⟩]
def r44_3 : List POp := [⟨some 5, .alloc [.sl [], .sl []], none⟩]
def r44_4 : List POp := [⟨some 6, .mv (.k (.int .i64 0)), none⟩]
def r44_5 : List POp := [⟨some 20, .mv (.t 6), none⟩,
  ⟨some 21, .mv (.t 0), none⟩,
  ⟨some 22, .bin .lss (.t 20) (.t 21), none⟩]
def r44_7 : List POp := [⟨some 7, .mv (.k (.int .i64 0)), none⟩]
def r44_8 : List POp := [⟨some 25, .mv (.t 7), none⟩,
  ⟨some 26, .mv (.t 1), none⟩,
  ⟨some 27, .len (.t 26), none⟩,
  ⟨some 28, .bin .lss (.t 25) (.t 27), none⟩]
def r44_10 : List POp := [⟨some 31, .mv (.t 6), none⟩,
  ⟨some 32, .mv (.t 6), none⟩,
  ⟨some 33, .iaA 2 1 (.t 5) (.t 32), none⟩,
  ⟨some 34, .load false 1 (.t 33) [], none⟩,
  ⟨some 35, .mv (.t 1), none⟩,
  ⟨some 36, .mv (.t 7), none⟩,
  ⟨some 37, .mv (.t 6), none⟩,
  ⟨some 38, .iaS 6 (.t 35) (.t 36), none⟩,
  ⟨some 39, .fad 4 (.t 38), none⟩,
  ⟨some 40, .iaA 2 1 (.t 39) (.t 37), none⟩,
  ⟨some 41, .load false 1 (.t 40) [], none⟩,
  ⟨some 42, .call false 81 [(.t 34), (.t 41), (.k (.int .i64 1))], none⟩,
  ⟨some 43, .iaA 2 1 (.t 5) (.t 31), none⟩,
  ⟨none, .store 1 (.t 43) (.t 42) [], none⟩]
def r44_9 : List POp := [⟨some 29, .mv (.t 7), none⟩,
  ⟨some 30, .bin .add (.t 29) (.k (.int .i64 1)), none⟩,
  ⟨some 7, .mv (.t 30), none⟩]
def b44_1 : PCode := (.seq (.seq (.ops false r44_8) (.cond (.t 28) .skip (.exit 2))) (.seq (.block 3 (.ops true r44_10)) (.ops false r44_9)))
def r44_6 : List POp := [⟨some 23, .mv (.t 6), none⟩,
  ⟨some 24, .bin .add (.t 23) (.k (.int .i64 1)), none⟩,
  ⟨some 6, .mv (.t 24), none⟩]
def b44_0 : PCode := (.seq (.seq (.ops false r44_5) (.cond (.t 22) .skip (.exit 0))) (.seq (.block 1 (.seq (.ops false r44_7) (.block 2 (.loop b44_1)))) (.ops false r44_6)))
def r44_11 : List POp := [⟨some 44, .mv (.t 0), none⟩,
  ⟨some 45, .mv (.t 1), none⟩,
  ⟨some 46, .len (.t 45), none⟩,
  ⟨some 47, .load true 2 (.t 5) [], none⟩,
  ⟨some 48, .call false 93 [(.t 44), (.t 46), (.t 47)], none⟩,
  ⟨none, .store 6 (.t 4) (.t 48) [], none⟩]
def p44 : PCode := (.seq (.ops false r44_0) (.seq (.seq (.ops false r44_1) (.cond (.t 18) (.seq (.ops false r44_2) .ret) .skip)) (.seq (.ops false r44_3) (.seq (.seq (.ops false r44_4) (.block 0 (.loop b44_0))) (.seq (.ops false r44_11) .ret)))))
def rs44 : List RS := [.cell 4 true 6]
theorem c44 : chkF Try.prog Try.f44 2 p44 rs44 = true := by kernel_rfl
/- cuboid/cuboidref09.Join -/
def r52_0 : List POp := [⟨some 4, .box 5 (.t 1), none⟩,
  ⟨some 5, .box 5 (.t 2), none⟩,
  ⟨some 6, .alloc [.int .i64 0, .int .i64 0, .int .i64 0, .sl [], .sl [], .bool false], none⟩]
def r52_1 : List POp := [⟨some 10, .mv (.t 0), none⟩,
  ⟨some 11, .load true 5 (.t 4) [], none⟩,
  ⟨some 12, .call false 48 [(.t 10), (.t 11)], none⟩,
  ⟨some 13, .un .not (.t 12), none⟩,
  ⟨some 14, .mv (.t 13), none⟩,
  ⟨some 15, .mv (.t 0), (some (14, false))⟩,
  ⟨some 16, .load true 5 (.t 5) [], (some (14, false))⟩,
  ⟨some 17, .call false 48 [(.t 15), (.t 16)], (some (14, false))⟩,
  ⟨some 18, .un .not (.t 17), (some (14, false))⟩,
  ⟨some 19, .pick (.t 14) (.k (.bool true)) (.t 18), none⟩]
def r52_2 : List POp := [⟨some 20, .build [.int .i64 0, .int .i64 0, .int .i64 0, .sl [], .sl [], .bool false] [], none⟩,
  ⟨none, .store 6 (.t 6) (.t 20) [], none⟩]
def r52_3 : List POp := [⟨some 7, .alloc [.sl [], .sl []], none⟩]
def r52_4 : List POp := [⟨some 8, .mv (.k (.int .i64 0)), none⟩]
def r52_5 : List POp := [⟨some 21, .mv (.t 8), none⟩,
  ⟨some 22, .mv (.t 0), none⟩,
  ⟨some 23, .bin .lss (.t 21) (.t 22), none⟩]
def r52_7 : List POp := [⟨some 26, .mv (.t 8), none⟩,
  ⟨some 27, .fad 3 (.t 4), none⟩,
  ⟨some 28, .iaA 2 1 (.t 27) (.t 26), none⟩,
  ⟨some 29, .load false 1 (.t 28) [9], none⟩,
  ⟨some 30, .mv (.t 8), none⟩,
  ⟨some 31, .fad 3 (.t 5), none⟩,
  ⟨some 32, .iaA 2 1 (.t 31) (.t 30), none⟩,
  ⟨some 33, .load false 1 (.t 32) [9], none⟩,
  ⟨some 34, .call false 39 [(.t 29), (.t 33)], none⟩,
  ⟨some 9, .alloc [.sl [], .bool false], none⟩,
  ⟨none, .store 2 (.t 9) (.t 34) [], none⟩]
def r52_8 : List POp := [⟨some 35, .fad 1 (.t 9), none⟩,
  ⟨some 36, .load false 1 (.t 35) [], none⟩,
  ⟨some 37, .un .not (.t 36), none⟩]
def r52_9 : List POp := [⟨some 38, .build [.int .i64 0, .int .i64 0, .int .i64 0, .sl [], .sl [], .bool false] [], none⟩,
  ⟨none, .store 6 (.t 6) (.t 38) [], none⟩]
def r52_10 : List POp := [⟨some 39, .mv (.t 8), none⟩,
  ⟨some 40, .fad 0 (.t 9), none⟩,
  ⟨some 41, .load false 1 (.t 40) [], none⟩,
  ⟨some 42, .iaA 2 1 (.t 7) (.t 39), none⟩,
  ⟨none, .store 1 (.t 42) (.t 41) [], none⟩]
def r52_6 : List POp := [⟨some 24, .mv (.t 8), none⟩,
  ⟨some 25, .bin .add (.t 24) (.k (.int .i64 1)), none⟩,
  ⟨some 8, .mv (.t 25), none⟩]
def b52_0 : PCode := (.seq (.seq (.ops false r52_5) (.cond (.t 23) .skip (.exit 0))) (.seq (.block 1 (.seq (.ops true r52_7) (.seq (.seq (.ops false r52_8) (.cond (.t 37) (.seq (.ops false r52_9) .ret) .skip)) (.ops false r52_10)))) (.ops false r52_6)))
def r52_11 : List POp := [⟨some 43, .mv (.t 0), none⟩,
  ⟨some 44, .fad 0 (.t 4), none⟩,
  ⟨some 45, .load false 1 (.t 44) [], none⟩,
  ⟨some 46, .fad 0 (.t 5), none⟩,
  ⟨some 47, .load false 1 (.t 46) [], none⟩,
  ⟨some 48, .bin .add (.t 45) (.t 47), none⟩,
  ⟨some 49, .load true 2 (.t 7) [], none⟩,
  ⟨some 50, .call false 93 [(.t 43), (.t 48), (.t 49)], none⟩,
  ⟨none, .store 6 (.t 6) (.t 50) [], none⟩]
def p52 : PCode := (.seq (.ops false r52_0) (.seq (.seq (.ops false r52_1) (.cond (.t 19) (.seq (.ops false r52_2) .ret) .skip)) (.seq (.ops false r52_3) (.seq (.seq (.ops false r52_4) (.block 0 (.loop b52_0))) (.seq (.ops false r52_11) .ret)))))
def rs52 : List RS := [.cell 6 true 6]
theorem c52 : chkF Try.prog Try.f52 3 p52 rs52 = true := by kernel_rfl
/- cuboid/cuboidref09.made -/
def r93_0 : List POp := [⟨some 5, .box 2 (.t 2), none⟩,
  ⟨some 6, .alloc [.int .i64 0, .int .i64 0, .int .i64 0, .sl [], .sl [], .bool false], none⟩]
def r93_1 : List POp := [⟨some 11, .mv (.t 1), none⟩,
  ⟨some 12, .load true 2 (.t 5) [], none⟩,
  ⟨some 13, .build [.int .i64 0, .int .i64 0, .int .i64 0, .sl [], .sl []] [(0, 1, (.t 11)), (3, 2, (.t 12))], none⟩,
  ⟨some 7, .alloc [.int .i64 0, .int .i64 0, .int .i64 0, .sl [], .sl []], none⟩,
  ⟨none, .store 5 (.t 7) (.t 13) [], none⟩]
def r93_2 : List POp := [⟨some 8, .mv (.k (.int .i64 0)), none⟩]
def r93_3 : List POp := [⟨some 14, .mv (.t 8), none⟩,
  ⟨some 15, .mv (.t 0), none⟩,
  ⟨some 16, .bin .lss (.t 14) (.t 15), none⟩]
def r93_5 : List POp := [⟨some 20, .mv (.t 8), none⟩,
  ⟨some 21, .iaA 2 1 (.t 5) (.t 20), none⟩,
  ⟨some 22, .load false 1 (.t 21) [], none⟩,
  ⟨some 23, .call false 92 [(.t 22)], none⟩,
  ⟨some 24, .call false 91 [(.t 23)], none⟩,
  ⟨some 19, .mv (.t 24), none⟩,
  ⟨some 25, .ext (.t 19) 0, none⟩,
  ⟨some 26, .ext (.t 19) 1, none⟩,
  ⟨some 9, .mv (.t 25), none⟩,
  ⟨some 10, .mv (.t 26), none⟩]
def r93_6 : List POp := [⟨some 27, .mv (.t 10), none⟩,
  ⟨some 28, .un .not (.t 27), none⟩]
def r93_7 : List POp := [⟨some 29, .build [.int .i64 0, .int .i64 0, .int .i64 0, .sl [], .sl [], .bool false] [], none⟩,
  ⟨none, .store 6 (.t 6) (.t 29) [], none⟩]
def r93_8 : List POp := [⟨some 30, .mv (.t 8), none⟩,
  ⟨some 31, .mv (.t 9), none⟩,
  ⟨some 32, .fad 1 (.t 7), none⟩,
  ⟨some 33, .iaA 2 1 (.t 32) (.t 30), none⟩,
  ⟨none, .store 1 (.t 33) (.t 31) [], none⟩]
def r93_4 : List POp := [⟨some 17, .mv (.t 8), none⟩,
  ⟨some 18, .bin .add (.t 17) (.k (.int .i64 1)), none⟩,
  ⟨some 8, .mv (.t 18), none⟩]
def b93_0 : PCode := (.seq (.seq (.ops false r93_3) (.cond (.t 16) .skip (.exit 0))) (.seq (.block 1 (.seq (.ops false r93_5) (.seq (.seq (.ops false r93_6) (.cond (.t 28) (.seq (.ops false r93_7) .ret) .skip)) (.ops false r93_8)))) (.ops false r93_4)))
def r93_9 : List POp := [⟨some 34, .mv (.t 0), none⟩,
  ⟨some 35, .load true 5 (.t 7) [], none⟩,
  ⟨some 36, .call false 48 [(.t 34), (.t 35)], none⟩,
  ⟨some 37, .un .not (.t 36), none⟩]
def r93_10 : List POp := [⟨some 38, .build [.int .i64 0, .int .i64 0, .int .i64 0, .sl [], .sl [], .bool false] [], none⟩,
  ⟨none, .store 6 (.t 6) (.t 38) [], none⟩]
def r93_11 : List POp := [⟨some 39, .load true 5 (.t 7) [], none⟩,
  ⟨some 40, .build [.int .i64 0, .int .i64 0, .int .i64 0, .sl [], .sl [], .bool false] [(0, 5, (.t 39)), (5, 1, (.k (.bool true)))], none⟩,
  ⟨none, .store 6 (.t 6) (.t 40) [], none⟩]
def p93 : PCode := (.seq (.ops false r93_0) (.seq (.ops false r93_1) (.seq (.seq (.ops false r93_2) (.block 0 (.loop b93_0))) (.seq (.seq (.ops false r93_9) (.cond (.t 37) (.seq (.ops false r93_10) .ret) .skip)) (.seq (.ops false r93_11) .ret)))))
def rs93 : List RS := [.cell 6 true 6]
theorem c93 : chkF Try.prog Try.f93 3 p93 rs93 = true := by kernel_rfl
end Go.Proofs.Ytcmejdkjfekoeaa
namespace Go.Proofs.Ytcmejdkjfekoeaa
open Go.Pl Go.Bag
set_option maxHeartbeats 16000000
set_option maxRecDepth 100000
/-- the document's cell, if there is one -/
def rcV (p : Cell × Bool) : CV := .agg [.int .i64 p.1.n, .int .i64 p.1.s0, .int .i64 p.1.s1, encL p.1.b0, encL p.1.b1, .bool p.2]
def madeC (m n : Int) (b0 b1 : List Run) : Cell × Bool :=
  if I64 (wsum b0) ∧ (m = 2 → I64 (wsum b1)) ∧ goodC m ⟨n, wsum b0, if m = 2 then wsum b1 else 0, b0, b1⟩ = true then (⟨n, wsum b0, if m = 2 then wsum b1 else 0, b0, b1⟩, true) else (zeroC, false)
theorem wide_good {b : List Run} (hl : b.length ≤ 999999) (hr : ranged b) (hg : good b = true) : PCallG Try.prog 92 [.c (encL b)] (.c (.agg (enc3 (of3 (wsum b))))) [] ∧ PCallG Try.prog 91 [.c (.agg (enc3 (of3 (wsum b))))] (.c (if I64 (wsum b) then .tup [.int .i64 (wsum b), .bool true] else .tup [.int .i64 0, .bool false])) [] := by
  have h1 := C_rWide b (by omega) hr
  obtain ⟨g1, g2, g3⟩ := good_iff.mp hg
  have h0 : cap = 1099511627776 := rfl
  have h2 := C_rBack _ (wideS_in b (of3 0) (in3_of (by decide)))
  rw [wideS_of b 0 g2 hr (by simp [absI]; omega), Int.zero_add] at h1 h2
  refine ⟨h1, ?_⟩
  rw [back3_of] at h2
  by_cases h : I64 (wsum b)
  · rw [if_pos h] at h2 ⊢; exact h2
  · rw [if_neg h] at h2 ⊢; exact h2
theorem C_made (m n : Int) (b0 b1 : List Run) (hm : 1 ≤ m ∧ m ≤ 2) (hn : I64 n) (hl0 : b0.length ≤ 999999) (hl1 : b1.length ≤ 999999) (hr0 : ranged b0) (hr1 : ranged b1) (g0 : good b0 = true) (g1 : m = 2 → good b1 = true) :
    PCallG Try.prog 93 [.c (.int .i64 m), .c (.int .i64 n), .c (.agg [encL b0, encL b1])] (.c (rcV (madeC m n b0 b1))) [] := by
  obtain ⟨c1, c2⟩ := wide_good hl0 hr0 g0
  refine pcallF Try.func93 c93 rfl ?_
  unfold p93 r93_0 r93_1 r93_2 r93_9 r93_10 r93_11
  repeat' (first
    | refine w_seq ?_
    | refine w_ops ?_
    | refine st_nil ?_
    | refine th_n ?_
    | refine w_block ?_
    | refine mv_c rfl ?_
    | refine alloc_ (fun u => ?_)
    | refine box_ rfl rfl rfl (fun u => ?_)
    | refine build_ rfl rfl ?_
    | refine load_ptr rfl (by decide) rfl (Nat.le_of_ble_eq_true rfl) rfl ?_
    | refine store_ptr rfl rfl (by decide) rfl rfl (Nat.le_of_ble_eq_true rfl) rfl ?_)
  refine w_loop ?_
  unfold b93_0 r93_3 r93_4 r93_5 r93_6 r93_7 r93_8
  by_cases f0 : I64 (wsum b0)
  · rw [if_pos f0] at c2
    by_cases hm2 : m = 2
    · obtain ⟨c3, c4⟩ := wide_good hl1 hr1 (g1 hm2)
      by_cases f1 : I64 (wsum b1)
      · rw [if_pos f1] at c4
        have c5 := C_rcGood m ⟨n, wsum b0, wsum b1, b0, b1⟩ ⟨hn, f0, f1, hr0, hr1, hl0, hl1⟩
        unfold encCell encC at c5
        have e0 : madeC m n b0 b1 = if goodC m ⟨n, wsum b0, wsum b1, b0, b1⟩ = true then (⟨n, wsum b0, wsum b1, b0, b1⟩, true) else (zeroC, false) := by
          unfold madeC; rw [if_pos hm2]
          by_cases hg : goodC m ⟨n, wsum b0, wsum b1, b0, b1⟩ = true
          · rw [if_pos hg, if_pos ⟨f0, fun _ => f1, hg⟩]
          · rw [if_neg hg, if_neg (fun h => hg h.2.2)]
        rw [e0]
        generalize goodC m ⟨n, wsum b0, wsum b1, b0, b1⟩ = g at c5
        generalize wsum b0 = w0 at *
        generalize wsum b1 = w1 at *
        repeat' (first
          | refine call1 rfl c1 ?_
          | refine call1 rfl c2 ?_
          | refine w_seq ?_
          | refine w_ops ?_
          | refine st_nil ?_
          | refine th_n ?_
          | refine bk_n ?_
          | refine w_block ?_
          | refine w_skip ?_
          | refine w_true rfl ?_
          | refine w_false rfl ?_
          | refine mv_c rfl ?_
          | refine lss_t rfl rfl (by omega) ?_
          | refine not_ rfl ?_
          | refine add_in rfl rfl (by omega) ?_
          | refine load_ptr rfl (by decide) rfl (Nat.le_of_ble_eq_true rfl) rfl ?_
          | refine store_ptr rfl rfl (by decide) rfl rfl (Nat.le_of_ble_eq_true rfl) rfl ?_
          | refine fad_ptr rfl rfl rfl ?_
          | refine iaA_ptr rfl rfl rfl (by omega) rfl ?_
          | refine ext_ rfl rfl ?_)
        refine w_loop ?_
        repeat' (first
          | refine call1 rfl c3 ?_
          | refine call1 rfl c4 ?_
          | refine w_seq ?_
          | refine w_ops ?_
          | refine st_nil ?_
          | refine th_n ?_
          | refine bk_n ?_
          | refine w_block ?_
          | refine w_skip ?_
          | refine w_true rfl ?_
          | refine w_false rfl ?_
          | refine mv_c rfl ?_
          | refine lss_t rfl rfl (by omega) ?_
          | refine not_ rfl ?_
          | refine add_in rfl rfl (by omega) ?_
          | refine load_ptr rfl (by decide) rfl (Nat.le_of_ble_eq_true rfl) rfl ?_
          | refine store_ptr rfl rfl (by decide) rfl rfl (Nat.le_of_ble_eq_true rfl) rfl ?_
          | refine fad_ptr rfl rfl rfl ?_
          | refine iaA_ptr rfl rfl rfl (by omega) rfl ?_
          | refine ext_ rfl rfl ?_)
        refine w_loop ?_
        cases g <;>
        repeat' (first
          | refine call2 rfl rfl c5 ?_
          | refine w_seq ?_
          | refine w_ops ?_
          | refine st_nil ?_
          | refine th_n ?_
          | refine th_x ?_
          | refine th_r ?_
          | refine bk_x ?_
          | refine w_skip ?_
          | refine w_exit ?_
          | refine w_ret ?_
          | refine w_true rfl ?_
          | refine w_false rfl ?_
          | refine mv_c rfl ?_
          | refine lss_f rfl rfl (by omega) ?_
          | refine not_ rfl ?_
          | refine build_ rfl rfl ?_
          | refine load_ptr rfl (by decide) rfl (Nat.le_of_ble_eq_true rfl) rfl ?_
          | refine store_ptr rfl rfl (by decide) rfl rfl (Nat.le_of_ble_eq_true rfl) rfl ?_)
        all_goals exact fin_r (rv_cell rfl rfl rfl rfl rv_nil) rfl
      · rw [if_neg f1] at c4
        rw [show madeC m n b0 b1 = (zeroC, false) by unfold madeC; rw [if_neg (fun h => f1 (h.2.1 hm2))]]
        repeat' (first
          | refine call1 rfl c1 ?_
          | refine call1 rfl c2 ?_
          | refine w_seq ?_
          | refine w_ops ?_
          | refine st_nil ?_
          | refine th_n ?_
          | refine bk_n ?_
          | refine w_block ?_
          | refine w_skip ?_
          | refine w_true rfl ?_
          | refine w_false rfl ?_
          | refine mv_c rfl ?_
          | refine lss_t rfl rfl (by omega) ?_
          | refine not_ rfl ?_
          | refine add_in rfl rfl (by omega) ?_
          | refine load_ptr rfl (by decide) rfl (Nat.le_of_ble_eq_true rfl) rfl ?_
          | refine store_ptr rfl rfl (by decide) rfl rfl (Nat.le_of_ble_eq_true rfl) rfl ?_
          | refine fad_ptr rfl rfl rfl ?_
          | refine iaA_ptr rfl rfl rfl (by omega) rfl ?_
          | refine ext_ rfl rfl ?_)
        refine w_loop ?_
        repeat' (first
          | refine call1 rfl c3 ?_
          | refine call1 rfl c4 ?_
          | refine w_seq ?_
          | refine w_ops ?_
          | refine st_nil ?_
          | refine th_n ?_
          | refine th_r ?_
          | refine bk_r ?_
          | refine w_block ?_
          | refine w_skip ?_
          | refine w_ret ?_
          | refine w_true rfl ?_
          | refine mv_c rfl ?_
          | refine lss_t rfl rfl (by omega) ?_
          | refine not_ rfl ?_
          | refine build_ rfl rfl ?_
          | refine load_ptr rfl (by decide) rfl (Nat.le_of_ble_eq_true rfl) rfl ?_
          | refine store_ptr rfl rfl (by decide) rfl rfl (Nat.le_of_ble_eq_true rfl) rfl ?_
          | refine iaA_ptr rfl rfl rfl (by omega) rfl ?_
          | refine ext_ rfl rfl ?_)
        exact fin_r (rv_cell rfl rfl rfl rfl rv_nil) rfl
    · have c5 := C_rcGood m ⟨n, wsum b0, 0, b0, b1⟩ ⟨hn, f0, (by show in64 0; decide), hr0, hr1, hl0, hl1⟩
      unfold encCell encC at c5
      have e0 : madeC m n b0 b1 = if goodC m ⟨n, wsum b0, 0, b0, b1⟩ = true then (⟨n, wsum b0, 0, b0, b1⟩, true) else (zeroC, false) := by
        unfold madeC; rw [if_neg hm2]
        by_cases hg : goodC m ⟨n, wsum b0, 0, b0, b1⟩ = true
        · rw [if_pos hg, if_pos ⟨f0, fun h => absurd h hm2, hg⟩]
        · rw [if_neg hg, if_neg (fun h => hg h.2.2)]
      rw [e0]
      generalize goodC m ⟨n, wsum b0, 0, b0, b1⟩ = g at c5
      generalize wsum b0 = w0 at *
      repeat' (first
        | refine call1 rfl c1 ?_
        | refine call1 rfl c2 ?_
        | refine w_seq ?_
        | refine w_ops ?_
        | refine st_nil ?_
        | refine th_n ?_
        | refine bk_n ?_
        | refine w_block ?_
        | refine w_skip ?_
        | refine w_true rfl ?_
        | refine w_false rfl ?_
        | refine mv_c rfl ?_
        | refine lss_t rfl rfl (by omega) ?_
        | refine not_ rfl ?_
        | refine add_in rfl rfl (by omega) ?_
        | refine load_ptr rfl (by decide) rfl (Nat.le_of_ble_eq_true rfl) rfl ?_
        | refine store_ptr rfl rfl (by decide) rfl rfl (Nat.le_of_ble_eq_true rfl) rfl ?_
        | refine fad_ptr rfl rfl rfl ?_
        | refine iaA_ptr rfl rfl rfl (by omega) rfl ?_
        | refine ext_ rfl rfl ?_)
      refine w_loop ?_
      cases g <;>
      repeat' (first
        | refine call2 rfl rfl c5 ?_
        | refine w_seq ?_
        | refine w_ops ?_
        | refine st_nil ?_
        | refine th_n ?_
        | refine th_x ?_
        | refine th_r ?_
        | refine bk_x ?_
        | refine w_skip ?_
        | refine w_exit ?_
        | refine w_ret ?_
        | refine w_true rfl ?_
        | refine w_false rfl ?_
        | refine mv_c rfl ?_
        | refine lss_f rfl rfl (by omega) ?_
        | refine not_ rfl ?_
        | refine build_ rfl rfl ?_
        | refine load_ptr rfl (by decide) rfl (Nat.le_of_ble_eq_true rfl) rfl ?_
        | refine store_ptr rfl rfl (by decide) rfl rfl (Nat.le_of_ble_eq_true rfl) rfl ?_)
      all_goals exact fin_r (rv_cell rfl rfl rfl rfl rv_nil) rfl
  · rw [if_neg f0] at c2
    rw [show madeC m n b0 b1 = (zeroC, false) by unfold madeC; rw [if_neg (fun h => f0 h.1)]]
    repeat' (first
      | refine call1 rfl c1 ?_
      | refine call1 rfl c2 ?_
      | refine w_seq ?_
      | refine w_ops ?_
      | refine st_nil ?_
      | refine th_n ?_
      | refine th_r ?_
      | refine bk_r ?_
      | refine w_block ?_
      | refine w_skip ?_
      | refine w_ret ?_
      | refine w_true rfl ?_
      | refine mv_c rfl ?_
      | refine lss_t rfl rfl (by omega) ?_
      | refine not_ rfl ?_
      | refine build_ rfl rfl ?_
      | refine load_ptr rfl (by decide) rfl (Nat.le_of_ble_eq_true rfl) rfl ?_
      | refine store_ptr rfl rfl (by decide) rfl rfl (Nat.le_of_ble_eq_true rfl) rfl ?_
      | refine iaA_ptr rfl rfl rfl (by omega) rfl ?_
      | refine ext_ rfl rfl ?_)
    exact fin_r (rv_cell rfl rfl rfl rfl rv_nil) rfl
/-- two cells, in either order -/
def two (b : Bool) (x y : CV) : List CV := match b with | false => [x, y] | true => [y, x]
def bi (b : Bool) : Int := if b then 1 else 0
theorem lay_rows {K : Ex → PS → Prop} (l : List RowS) (hlen : l.length ≤ 1000) (b : Bool) (y : CV) (v5 : Nat) (v0 v4 : PV) (x4 : Box) : ∀ (rest : List RowS) (k : Nat) (out : List Run) (s : PS), l.drop k = rest → k ≤ l.length → asc out → pos out → out.length ≤ k → sum out = k →
    s.t 1 = .c (encRows l) → s.t 7 = .c (.int .i64 k) → s.t 6 = .c (.int .i64 (bi b)) → s.t 5 = .ptr 5 v5 0 → s.bx 5 = ⟨v5, .var (two b (encL out) y)⟩ →
    s.t 0 = v0 → s.t 4 = v4 → s.bx 4 = x4 →
    (∀ s', s'.t 1 = .c (encRows l) → s'.t 6 = .c (.int .i64 (bi b)) → s'.t 5 = .ptr 5 v5 0 → s'.bx 5 = ⟨v5, .var (two b (encL (rofS out (rest.map (mv (bi b))))) y)⟩ → s'.t 0 = v0 → s'.t 4 = v4 → s'.bx 4 = x4 → K (.x 2) s') → wP (PCallG Try.prog) (.loop b44_1) s K := by
  intro rest
  induction rest with
  | nil =>
    intro k out s hd hk ha hp hl hs t1 t7 t6 t5 b5 t0 t4 b4 hx
    refine w_loop ?_
    have hk' := drop_end hd hk
    subst hk'
    rw [← put_same t1, ← put_same t7, ← put_same t6, ← put_same t5, ← put_same t0, ← put_same t4, ← box_same b5, ← box_same b4]
    unfold b44_1 r44_8 r44_9 r44_10
    repeat' (first
      | refine len_sl rfl (List.length_map _) ?_
      | refine w_seq ?_
      | refine w_ops ?_
      | refine st_nil ?_
      | refine th_n ?_
      | refine th_x ?_
      | refine w_exit ?_
      | refine w_false rfl ?_
      | refine mv_c rfl ?_
      | refine lss_f rfl rfl (by omega) ?_)
    exact hx _ rfl rfl rfl rfl rfl rfl rfl
  | cons r rest ih =>
    intro k out s hd hk ha hp hl hs t1 t7 t6 t5 b5 t0 t4 b4 hx
    refine w_loop ?_
    have he := get_row hd
    have hkl := drop_len hd
    have hn := drop_next hd
    cases b with
    | false =>
      simp only [show bi false = 0 from rfl] at t6 hx ih
      have hM := C_Lay out (mv 0 r) 1 (by omega) fun q hq => by have := le_sum hp q hq; omega
      obtain ⟨f1, f2, f3, f4, f5⟩ := lay_facts out (mv 0 r) 1
      obtain ⟨g1, g2⟩ := lay_pos (v := mv 0 r) (n := 1) ha hp (by decide) (by have := cnt_nonneg (mv 0 r) hp; omega)
      rw [← put_same t1, ← put_same t7, ← put_same t6, ← put_same t5, ← put_same t0, ← put_same t4, ← box_same b5, ← box_same b4]
      unfold b44_1 r44_8 r44_9 r44_10
      repeat' (first
        | refine len_sl rfl (List.length_map _) ?_
        | refine call3 rfl rfl rfl hM ?_
        | refine w_seq ?_
        | refine w_ops ?_
        | refine w_opsD0 rfl ?_
        | refine st_nil ?_
        | refine th_n ?_
        | refine bk_n ?_
        | refine w_block ?_
        | refine w_skip ?_
        | refine w_true rfl ?_
        | refine mv_c rfl ?_
        | refine lss_t rfl rfl (by omega) ?_
        | refine add_in rfl rfl (by omega) ?_
        | refine load_rp rfl (Nat.le_of_ble_eq_true rfl) rfl ?_
        | refine load_ptr rfl (by decide) rfl (Nat.le_of_ble_eq_true rfl) rfl ?_
        | refine store_ptr rfl rfl (by decide) rfl rfl (Nat.le_of_ble_eq_true rfl) rfl ?_
        | refine fad_rp rfl (Nat.le_of_ble_eq_true rfl) rfl ?_
        | refine iaA_ptr rfl rfl rfl (by omega) rfl ?_
        | refine iaA_rp rfl rfl (by omega) (Nat.le_of_ble_eq_true rfl) rfl ?_
        | refine iaS_c rfl rfl (by omega) (by assumption) rfl ?_)
      exact ih (k + 1) (lay out (mv 0 r) 1) _ hn (by omega) g1 g2 (by omega) (by omega) (by rfl) (by rfl) (by rfl) (by rfl) (by rfl) (by rfl) (by rfl) (by rfl) hx
    | true =>
      simp only [show bi true = 1 from rfl] at t6 hx ih
      have hM := C_Lay out (mv 1 r) 1 (by omega) fun q hq => by have := le_sum hp q hq; omega
      obtain ⟨f1, f2, f3, f4, f5⟩ := lay_facts out (mv 1 r) 1
      obtain ⟨g1, g2⟩ := lay_pos (v := mv 1 r) (n := 1) ha hp (by decide) (by have := cnt_nonneg (mv 1 r) hp; omega)
      rw [← put_same t1, ← put_same t7, ← put_same t6, ← put_same t5, ← put_same t0, ← put_same t4, ← box_same b5, ← box_same b4]
      unfold b44_1 r44_8 r44_9 r44_10
      repeat' (first
        | refine len_sl rfl (List.length_map _) ?_
        | refine call3 rfl rfl rfl hM ?_
        | refine w_seq ?_
        | refine w_ops ?_
        | refine w_opsD0 rfl ?_
        | refine st_nil ?_
        | refine th_n ?_
        | refine bk_n ?_
        | refine w_block ?_
        | refine w_skip ?_
        | refine w_true rfl ?_
        | refine mv_c rfl ?_
        | refine lss_t rfl rfl (by omega) ?_
        | refine add_in rfl rfl (by omega) ?_
        | refine load_rp rfl (Nat.le_of_ble_eq_true rfl) rfl ?_
        | refine load_ptr rfl (by decide) rfl (Nat.le_of_ble_eq_true rfl) rfl ?_
        | refine store_ptr rfl rfl (by decide) rfl rfl (Nat.le_of_ble_eq_true rfl) rfl ?_
        | refine fad_rp rfl (Nat.le_of_ble_eq_true rfl) rfl ?_
        | refine iaA_ptr rfl rfl rfl (by omega) rfl ?_
        | refine iaA_rp rfl rfl (by omega) (Nat.le_of_ble_eq_true rfl) rfl ?_
        | refine iaS_c rfl rfl (by omega) (by assumption) rfl ?_)
      exact ih (k + 1) (lay out (mv 1 r) 1) _ hn (by omega) g1 g2 (by omega) (by omega) (by rfl) (by rfl) (by rfl) (by rfl) (by rfl) (by rfl) (by rfl) (by rfl) hx
theorem good_vals {v : List Int} (hl : 1 ≤ v.length ∧ v.length ≤ 1000) : gM (ofL v) (sumI v) v.length = true := by
  obtain ⟨_, _, _, h4, _⟩ := ofL_facts v
  exact gM_iff.mpr ⟨good_ofL (by omega), wsum_ofL v, h4⟩
theorem C_rcOf (m : Int) (l : List RowS) (hlen : l.length ≤ 1000) (hr : ∀ r ∈ l, inR r) : PCallG Try.prog 44 [.c (.int .i64 m), .c (encRows l)] (.c (rcV (ofC m l))) [] := by
  refine pcallF Try.func44 c44 rfl ?_
  have l0 : (l.map (·.m0)).length = l.length := List.length_map _
  have l1 : (l.map (·.m1)).length = l.length := List.length_map _
  have r0 : ∀ a ∈ l.map (·.m0), I64 a := fun a ha => by obtain ⟨r, hr', rfl⟩ := List.mem_map.mp ha; exact (hr r hr').1
  have r1 : ∀ a ∈ l.map (·.m1), I64 a := fun a ha => by obtain ⟨r, hr', rfl⟩ := List.mem_map.mp ha; exact (hr r hr').2
  have k0 := (ofL_facts (l.map (·.m0))).2.2.2.2
  have k1 := (ofL_facts (l.map (·.m1))).2.2.2.2
  have g0 : good (ofL (l.map (·.m0))) = true := good_ofL (by omega)
  have g1 : good (ofL (l.map (·.m1))) = true := good_ofL (by omega)
  unfold p44 r44_0 r44_1 r44_2 r44_3 r44_4 r44_11
  by_cases hm : 1 ≤ m ∧ m ≤ 2
  · cases l with
    | nil =>
      rw [show ofC m [] = (zeroC, false) by simp [ofC]]
      repeat' (first
        | refine len_sl (es := []) rfl rfl ?_
        | refine w_seq ?_
        | refine w_ops ?_
        | refine st_nil ?_
        | refine th_n ?_
        | refine th_r ?_
        | refine w_ret ?_
        | refine w_true rfl ?_
        | refine g_yes rfl ?_
        | refine mv_c rfl ?_
        | refine pick_f rfl rfl ?_
        | refine lss_f rfl rfl (by omega) ?_
        | refine gtr_f rfl rfl (by omega) ?_
        | refine eqd_ rfl rfl ?_
        | refine alloc_ (fun u => ?_)
        | refine build_ rfl rfl ?_
        | refine store_ptr rfl rfl (by decide) rfl rfl (Nat.le_of_ble_eq_true rfl) rfl ?_)
      exact fin_r (rv_cell rfl rfl rfl rfl rv_nil) rfl
    | cons r0' l' =>
      generalize hL : r0' :: l' = l at *
      have hne : l ≠ [] := by rw [← hL]; simp
      have hpos : 0 < l.length := by rw [← hL]; simp
      have lenE : (l.map encRow).length = l.length := List.length_map _
      by_cases hm2 : m = 2
      · have cM := C_made m l.length (ofL (l.map (·.m0))) (ofL (l.map (·.m1))) hm (by constructor <;> omega) (by omega) (by omega) (ranged_ofL r0 (by omega)) (ranged_ofL r1 (by omega)) g0 (fun _ => g1)
        have e : madeC m l.length (ofL (l.map (·.m0))) (ofL (l.map (·.m1))) = ofC m l := by
          unfold madeC ofC
          rw [wsum_ofL, wsum_ofL]
          simp only [if_pos hm2]
          have hg : goodC m ⟨l.length, sumI (l.map (·.m0)), sumI (l.map (·.m1)), ofL (l.map (·.m0)), ofL (l.map (·.m1))⟩ = true := by
            refine goodC_iff.mpr ⟨hm, ⟨by simp; omega, by simp; omega⟩, ?_, ?_⟩
            · have := good_vals (v := l.map (·.m0)) (by omega); rw [l0] at this; exact this
            · rw [if_pos hm2]; have := good_vals (v := l.map (·.m1)) (by omega); rw [l1] at this; exact this
          by_cases hf : I64 (sumI (l.map (·.m0))) ∧ I64 (sumI (l.map (·.m1)))
          · rw [if_pos ⟨hf.1, fun _ => hf.2, hg⟩, if_pos ⟨hm, hne, hf.1, fun _ => hf.2⟩]
          · rw [if_neg (fun h => hf ⟨h.1, h.2.1 hm2⟩), if_neg (fun h => hf ⟨h.2.2.1, h.2.2.2 hm2⟩)]
        rw [e] at cM
        generalize ofC m l = q at cM ⊢
        repeat' (first
          | refine len_sl rfl lenE ?_
          | refine w_seq ?_
          | refine w_ops ?_
          | refine st_nil ?_
          | refine th_n ?_
          | refine w_block ?_
          | refine w_skip ?_
          | refine w_false rfl ?_
          | refine g_yes rfl ?_
          | refine mv_c rfl ?_
          | refine pick_f rfl rfl ?_
          | refine lss_f rfl rfl (by omega) ?_
          | refine gtr_f rfl rfl (by omega) ?_
          | refine eql_f rfl rfl (by omega) ?_
          | refine alloc_ (fun u => ?_))
        refine w_loop ?_
        unfold b44_0 r44_5 r44_6 r44_7
        repeat' (first
          | refine w_seq ?_
          | refine w_ops ?_
          | refine st_nil ?_
          | refine th_n ?_
          | refine w_block ?_
          | refine w_skip ?_
          | refine w_true rfl ?_
          | refine mv_c rfl ?_
          | refine lss_t rfl rfl (by omega) ?_)
        refine lay_rows l hlen false _ _ _ _ _ l 0 [] _ rfl (by omega) (by simp [asc]) (fun q hq => by simp at hq) (by simp) (by simp [sum]) (by rfl) (by rfl) (by rfl) (by rfl) (by rfl) (by rfl) (by rfl) (by rfl) ?_
        intro s' t1 t6 t5 b5 t0 t4 b4
        rw [rofS_ofL, show mv (bi false) = (·.m0) from mv0] at b5
        rw [show bi false = 0 from rfl] at t6
        rw [← put_same t1, ← put_same t6, ← put_same t5, ← put_same t0, ← put_same t4, ← box_same b5, ← box_same b4]
        repeat' (first
          | refine w_ops ?_
          | refine st_nil ?_
          | refine th_n ?_
          | refine bk_n ?_
          | refine bk_x ?_
          | refine mv_c rfl ?_
          | refine add_in rfl rfl (by omega) ?_)
        refine w_loop ?_
        repeat' (first
          | refine w_seq ?_
          | refine w_ops ?_
          | refine st_nil ?_
          | refine th_n ?_
          | refine w_block ?_
          | refine w_skip ?_
          | refine w_true rfl ?_
          | refine mv_c rfl ?_
          | refine lss_t rfl rfl (by omega) ?_)
        refine lay_rows l hlen true _ _ _ _ _ l 0 [] _ rfl (by omega) (by simp [asc]) (fun q hq => by simp at hq) (by simp) (by simp [sum]) (by rfl) (by rfl) (by rfl) (by rfl) (by rfl) (by rfl) (by rfl) (by rfl) ?_
        intro s' t1 t6 t5 b5 t0 t4 b4
        rw [rofS_ofL, show mv (bi true) = (·.m1) from mv1] at b5
        rw [show bi true = 1 from rfl] at t6
        rw [← put_same t1, ← put_same t6, ← put_same t5, ← put_same t0, ← put_same t4, ← box_same b5, ← box_same b4]
        repeat' (first
          | refine w_ops ?_
          | refine st_nil ?_
          | refine th_n ?_
          | refine bk_n ?_
          | refine bk_x ?_
          | refine mv_c rfl ?_
          | refine add_in rfl rfl (by omega) ?_)
        refine w_loop ?_
        repeat' (first
          | refine len_sl rfl lenE ?_
          | refine call3 rfl rfl rfl cM ?_
          | refine w_seq ?_
          | refine w_ops ?_
          | refine st_nil ?_
          | refine th_n ?_
          | refine th_x ?_
          | refine bk_x ?_
          | refine w_exit ?_
          | refine w_ret ?_
          | refine w_false rfl ?_
          | refine mv_c rfl ?_
          | refine lss_f rfl rfl (by omega) ?_
          | refine load_ptr rfl (by decide) rfl (Nat.le_of_ble_eq_true rfl) rfl ?_
          | refine store_ptr rfl rfl (by decide) rfl rfl (Nat.le_of_ble_eq_true rfl) rfl ?_)
        exact fin_r (rv_cell rfl rfl rfl rfl rv_nil) rfl
      · have cM := C_made m l.length (ofL (l.map (·.m0))) [] hm (by constructor <;> omega) (by omega) (by simp) (ranged_ofL r0 (by omega)) (fun q hq => by simp at hq) g0 (fun h => absurd h hm2)
        have e : madeC m l.length (ofL (l.map (·.m0))) [] = ofC m l := by
          unfold madeC ofC
          rw [wsum_ofL]
          simp only [if_neg hm2]
          have hg : goodC m ⟨l.length, sumI (l.map (·.m0)), 0, ofL (l.map (·.m0)), []⟩ = true := by
            refine goodC_iff.mpr ⟨hm, ⟨by simp; omega, by simp; omega⟩, ?_, ?_⟩
            · have := good_vals (v := l.map (·.m0)) (by omega); rw [l0] at this; exact this
            · rw [if_neg hm2]; exact ⟨rfl, rfl⟩
          by_cases hf : I64 (sumI (l.map (·.m0)))
          · rw [if_pos ⟨hf, fun h => absurd h hm2, hg⟩, if_pos ⟨hm, hne, hf, fun h => absurd h hm2⟩]
          · rw [if_neg (fun h => hf h.1), if_neg (fun h => hf h.2.2.1)]
        rw [e] at cM
        generalize ofC m l = q at cM ⊢
        repeat' (first
          | refine len_sl rfl lenE ?_
          | refine w_seq ?_
          | refine w_ops ?_
          | refine st_nil ?_
          | refine th_n ?_
          | refine w_block ?_
          | refine w_skip ?_
          | refine w_false rfl ?_
          | refine g_yes rfl ?_
          | refine mv_c rfl ?_
          | refine pick_f rfl rfl ?_
          | refine lss_f rfl rfl (by omega) ?_
          | refine gtr_f rfl rfl (by omega) ?_
          | refine eql_f rfl rfl (by omega) ?_
          | refine alloc_ (fun u => ?_))
        refine w_loop ?_
        unfold b44_0 r44_5 r44_6 r44_7
        repeat' (first
          | refine w_seq ?_
          | refine w_ops ?_
          | refine st_nil ?_
          | refine th_n ?_
          | refine w_block ?_
          | refine w_skip ?_
          | refine w_true rfl ?_
          | refine mv_c rfl ?_
          | refine lss_t rfl rfl (by omega) ?_)
        refine lay_rows l hlen false _ _ _ _ _ l 0 [] _ rfl (by omega) (by simp [asc]) (fun q hq => by simp at hq) (by simp) (by simp [sum]) (by rfl) (by rfl) (by rfl) (by rfl) (by rfl) (by rfl) (by rfl) (by rfl) ?_
        intro s' t1 t6 t5 b5 t0 t4 b4
        rw [rofS_ofL, show mv (bi false) = (·.m0) from mv0] at b5
        rw [show bi false = 0 from rfl] at t6
        rw [← put_same t1, ← put_same t6, ← put_same t5, ← put_same t0, ← put_same t4, ← box_same b5, ← box_same b4]
        repeat' (first
          | refine w_ops ?_
          | refine st_nil ?_
          | refine th_n ?_
          | refine bk_n ?_
          | refine bk_x ?_
          | refine mv_c rfl ?_
          | refine add_in rfl rfl (by omega) ?_)
        refine w_loop ?_
        repeat' (first
          | refine len_sl rfl lenE ?_
          | refine call3 rfl rfl rfl cM ?_
          | refine w_seq ?_
          | refine w_ops ?_
          | refine st_nil ?_
          | refine th_n ?_
          | refine th_x ?_
          | refine bk_x ?_
          | refine w_exit ?_
          | refine w_ret ?_
          | refine w_false rfl ?_
          | refine mv_c rfl ?_
          | refine lss_f rfl rfl (by omega) ?_
          | refine load_ptr rfl (by decide) rfl (Nat.le_of_ble_eq_true rfl) rfl ?_
          | refine store_ptr rfl rfl (by decide) rfl rfl (Nat.le_of_ble_eq_true rfl) rfl ?_)
        exact fin_r (rv_cell rfl rfl rfl rfl rv_nil) rfl
  · rw [show ofC m l = (zeroC, false) by unfold ofC; rw [if_neg (fun h => hm h.1)]]
    by_cases h1 : m < 1
    · repeat' (first
      | refine w_seq ?_
      | refine w_ops ?_
      | refine st_nil ?_
      | refine th_n ?_
      | refine th_r ?_
      | refine w_ret ?_
      | refine w_true rfl ?_
      | refine g_no rfl ?_
      | refine mv_c rfl ?_
      | refine pick_t rfl rfl ?_
      | refine lss_t rfl rfl (by omega) ?_
      | refine alloc_ (fun u => ?_)
      | refine build_ rfl rfl ?_
      | refine store_ptr rfl rfl (by decide) rfl rfl (Nat.le_of_ble_eq_true rfl) rfl ?_)
      exact fin_r (rv_cell rfl rfl rfl rfl rv_nil) rfl
    · repeat' (first
      | refine w_seq ?_
      | refine w_ops ?_
      | refine st_nil ?_
      | refine th_n ?_
      | refine th_r ?_
      | refine w_ret ?_
      | refine w_true rfl ?_
      | refine g_yes rfl ?_
      | refine g_no rfl ?_
      | refine mv_c rfl ?_
      | refine pick_t rfl rfl ?_
      | refine pick_f rfl rfl ?_
      | refine lss_f rfl rfl (by omega) ?_
      | refine gtr_t rfl rfl (by omega) ?_
      | refine alloc_ (fun u => ?_)
      | refine build_ rfl rfl ?_
      | refine store_ptr rfl rfl (by decide) rfl rfl (Nat.le_of_ble_eq_true rfl) rfl ?_)
      exact fin_r (rv_cell rfl rfl rfl rfl rv_nil) rfl
theorem C_rcJoin (m : Int) (a b : Cell) (ha : inC 400000 a) (hb : inC 400000 b) : PCallG Try.prog 52 [.c (.int .i64 m), .c (encCell a), .c (encCell b)] (.c (rcV (joinC m a b))) [] := by
  have up : ∀ c, inC 400000 c → inC 999999 c := fun c h => ⟨h.1, h.2.1, h.2.2.1, h.2.2.2.1, h.2.2.2.2.1, by have := h.2.2.2.2.2.1; omega, by have := h.2.2.2.2.2.2; omega⟩
  have c1 := C_rcGood m a (up a ha)
  have c2 := C_rcGood m b (up b hb)
  obtain ⟨n, s0, s1, b0, b1⟩ := a
  obtain ⟨k, t0, t1, d0, d1⟩ := b
  obtain ⟨hn, hs0, hs1, hr0, hr1, hl0, hl1⟩ := ha
  obtain ⟨in', it0, it1, ir0, ir1, il0, il1⟩ := hb
  simp only at hn hs0 hs1 hr0 hr1 hl0 hl1 in' it0 it1 ir0 ir1 il0 il1
  obtain ⟨hn1, hn2⟩ := hn
  obtain ⟨in1, in2⟩ := in'
  have c3 := C_rJoin b0 d0 (by omega) (by omega)
  have c4 := C_rJoin b1 d1 (by omega) (by omega)
  unfold bagV at c3 c4
  show PCallG _ 52 [.c (.int .i64 m), .c (.agg [.int .i64 n, .int .i64 s0, .int .i64 s1, encL b0, encL b1]), .c (.agg [.int .i64 k, .int .i64 t0, .int .i64 t1, encL d0, encL d1])] _ _
  unfold encCell encC at c1 c2
  refine pcallF Try.func52 c52 rfl ?_
  unfold p52 r52_0 r52_1 r52_2 r52_3 r52_4 r52_11
  cases ga : goodC m ⟨n, s0, s1, b0, b1⟩ with
  | false =>
    rw [ga] at c1
    rw [joinC_no (m := m) (a := ⟨n, s0, s1, b0, b1⟩) (b := ⟨k, t0, t1, d0, d1⟩) (fun h => by rw [ga] at h; cases h.1)]
    repeat' (first
      | refine call2 rfl rfl c1 ?_
      | refine w_seq ?_
      | refine w_ops ?_
      | refine st_nil ?_
      | refine th_n ?_
      | refine th_r ?_
      | refine w_ret ?_
      | refine w_true rfl ?_
      | refine g_no rfl ?_
      | refine mv_c rfl ?_
      | refine pick_t rfl rfl ?_
      | refine not_ rfl ?_
      | refine alloc_ (fun u => ?_)
      | refine box_ rfl rfl rfl (fun u => ?_)
      | refine build_ rfl rfl ?_
      | refine load_ptr rfl (by decide) rfl (Nat.le_of_ble_eq_true rfl) rfl ?_
      | refine store_ptr rfl rfl (by decide) rfl rfl (Nat.le_of_ble_eq_true rfl) rfl ?_)
    exact fin_r (rv_cell rfl rfl rfl rfl rv_nil) rfl
  | true =>
    rw [ga] at c1
    cases gb : goodC m ⟨k, t0, t1, d0, d1⟩ with
    | false =>
      rw [gb] at c2
      rw [joinC_no (m := m) (a := ⟨n, s0, s1, b0, b1⟩) (b := ⟨k, t0, t1, d0, d1⟩) (fun h => by rw [gb] at h; cases h.2.1)]
      repeat' (first
        | refine call2 rfl rfl c1 ?_
        | refine call2 rfl rfl c2 ?_
        | refine w_seq ?_
        | refine w_ops ?_
        | refine st_nil ?_
        | refine th_n ?_
        | refine th_r ?_
        | refine w_ret ?_
        | refine w_true rfl ?_
        | refine g_yes rfl ?_
        | refine mv_c rfl ?_
        | refine pick_f rfl rfl ?_
        | refine not_ rfl ?_
        | refine alloc_ (fun u => ?_)
        | refine box_ rfl rfl rfl (fun u => ?_)
        | refine build_ rfl rfl ?_
        | refine load_ptr rfl (by decide) rfl (Nat.le_of_ble_eq_true rfl) rfl ?_
        | refine store_ptr rfl rfl (by decide) rfl rfl (Nat.le_of_ble_eq_true rfl) rfl ?_)
      exact fin_r (rv_cell rfl rfl rfl rfl rv_nil) rfl
    | true =>
      rw [gb] at c2
      obtain ⟨hm, ⟨g1, g2⟩, g3, g4⟩ := goodC_iff.mp ga
      obtain ⟨_, ⟨i1, i2⟩, i3, i4⟩ := goodC_iff.mp gb
      simp only at g1 g2 g3 g4 i1 i2 i3 i4
      obtain ⟨p1, p2, p3⟩ := gM_iff.mp g3
      obtain ⟨q1, q2, q3⟩ := gM_iff.mp i3
      by_cases hs : n + k ≤ 1099511627776
      · obtain ⟨x1, x2, x3, j0⟩ := join_sum p1 q1 (by omega)
        rw [j0] at c3
        have rj : ∀ (x y : List Run), ranged x → ranged y → good x = true → good y = true → sum x + sum y ≤ 1099511627776 → ranged (join x y).1 := fun x y hx hy gx gy hxy => by
          obtain ⟨o, e1, e2, e3, e4⟩ := join_ok gx gy hxy
          rw [e1]
          obtain ⟨o1, o2, o3⟩ := good_iff.mp e2
          have h0 : cap = 1099511627776 := rfl
          obtain ⟨gx1, gx2, _⟩ := good_iff.mp gx
          obtain ⟨gy1, gy2, _⟩ := good_iff.mp gy
          intro r hr
          have h1 := le_sum o2 r hr
          refine ⟨?_, by omega, by omega⟩
          have h2 := cnt_pos o2 hr
          rw [e4] at h2
          by_cases hx0 : cnt x r.1 = 0
          · obtain ⟨q, hq, hqe⟩ := mem_of_cnt (l := y) (v := r.1) (by omega)
            rw [← hqe]; exact (hy q hq).1
          · obtain ⟨q, hq, hqe⟩ := mem_of_cnt (l := x) (v := r.1) hx0
            rw [← hqe]; exact (hx q hq).1
        have y0 := rj b0 d0 hr0 ir0 p1 q1 (by omega)
        have z0 := join_len b0 d0
        by_cases hm2 : m = 2
        · rw [if_pos hm2] at g4 i4
          obtain ⟨p4, p5, p6⟩ := gM_iff.mp g4
          obtain ⟨q4, q5, q6⟩ := gM_iff.mp i4
          obtain ⟨x4, x5, x6, j1⟩ := join_sum p4 q4 (by omega)
          rw [j1] at c4
          have y1 := rj b1 d1 hr1 ir1 p4 q4 (by omega)
          have z1 := join_len b1 d1
          have cM := C_made m (n + k) (join b0 d0).1 (join b1 d1).1 hm (by constructor <;> omega) (by omega) (by omega) y0 y1 x1 (fun _ => x4)
          have e : madeC m (n + k) (join b0 d0).1 (join b1 d1).1 = joinC m ⟨n, s0, s1, b0, b1⟩ ⟨k, t0, t1, d0, d1⟩ := by
            unfold madeC joinC
            rw [x3, x6, p2, q2, p5, q5]
            simp only [if_pos hm2]
            have hg : goodC m ⟨n + k, s0 + t0, s1 + t1, (join b0 d0).1, (join b1 d1).1⟩ = true :=
              goodC_iff.mpr ⟨hm, ⟨by simp; omega, by simp; omega⟩, gM_iff.mpr ⟨x1, by rw [x3, p2, q2], by rw [x2, p3, q3]⟩, by rw [if_pos hm2]; exact gM_iff.mpr ⟨x4, by rw [x6, p5, q5], by rw [x5, p6, q6]⟩⟩
            by_cases hf : I64 (s0 + t0) ∧ I64 (s1 + t1)
            · rw [if_pos ⟨hf.1, fun _ => hf.2, hg⟩, if_pos ⟨ga, gb, hs, hf.1, fun _ => hf.2⟩]
            · rw [if_neg (fun h => hf ⟨h.1, h.2.1 hm2⟩), if_neg (fun h => hf ⟨h.2.2.2.1, h.2.2.2.2 hm2⟩)]
          rw [e] at cM
          generalize joinC m ⟨n, s0, s1, b0, b1⟩ ⟨k, t0, t1, d0, d1⟩ = q at cM ⊢
          generalize (join b0 d0).1 = o0 at c3 cM
          generalize (join b1 d1).1 = o1 at c4 cM
          repeat' (first
            | refine call2 rfl rfl c1 ?_
            | refine call2 rfl rfl c2 ?_
            | refine w_seq ?_
            | refine w_ops ?_
            | refine st_nil ?_
            | refine th_n ?_
            | refine w_block ?_
            | refine w_skip ?_
            | refine w_false rfl ?_
            | refine g_yes rfl ?_
            | refine mv_c rfl ?_
            | refine pick_f rfl rfl ?_
            | refine not_ rfl ?_
            | refine alloc_ (fun u => ?_)
            | refine box_ rfl rfl rfl (fun u => ?_)
            | refine load_ptr rfl (by decide) rfl (Nat.le_of_ble_eq_true rfl) rfl ?_)
          refine w_loop ?_
          unfold b52_0 r52_5 r52_6 r52_7 r52_8 r52_9 r52_10
          repeat' (first
            | refine call2 rfl rfl c3 ?_
            | refine w_seq ?_
            | refine w_ops ?_
            | refine w_opsD1 rfl (fun u => ?_)
            | refine st_nil ?_
            | refine th_n ?_
            | refine bk_n ?_
            | refine w_block ?_
            | refine w_skip ?_
            | refine w_true rfl ?_
            | refine w_false rfl ?_
            | refine mv_c rfl ?_
            | refine lss_t rfl rfl (by omega) ?_
            | refine not_ rfl ?_
            | refine add_in rfl rfl (by omega) ?_
            | refine alloc_ (fun u => ?_)
            | refine load_ptr rfl (by decide) rfl (Nat.le_of_ble_eq_true rfl) rfl ?_
            | refine store_ptr rfl rfl (by decide) rfl rfl (Nat.le_of_ble_eq_true rfl) rfl ?_
            | refine fad_ptr rfl rfl rfl ?_
            | refine iaA_ptr rfl rfl rfl (by omega) rfl ?_)
          refine w_loop ?_
          repeat' (first
            | refine call2 rfl rfl c4 ?_
            | refine w_seq ?_
            | refine w_ops ?_
            | refine w_opsD1 rfl (fun u => ?_)
            | refine st_nil ?_
            | refine th_n ?_
            | refine bk_n ?_
            | refine w_block ?_
            | refine w_skip ?_
            | refine w_true rfl ?_
            | refine w_false rfl ?_
            | refine mv_c rfl ?_
            | refine lss_t rfl rfl (by omega) ?_
            | refine not_ rfl ?_
            | refine add_in rfl rfl (by omega) ?_
            | refine alloc_ (fun u => ?_)
            | refine load_ptr rfl (by decide) rfl (Nat.le_of_ble_eq_true rfl) rfl ?_
            | refine store_ptr rfl rfl (by decide) rfl rfl (Nat.le_of_ble_eq_true rfl) rfl ?_
            | refine fad_ptr rfl rfl rfl ?_
            | refine iaA_ptr rfl rfl rfl (by omega) rfl ?_)
          refine w_loop ?_
          repeat' (first
            | refine call3 rfl rfl rfl cM ?_
            | refine w_seq ?_
            | refine w_ops ?_
            | refine st_nil ?_
            | refine th_n ?_
            | refine th_x ?_
            | refine bk_x ?_
            | refine w_exit ?_
            | refine w_ret ?_
            | refine w_false rfl ?_
            | refine mv_c rfl ?_
            | refine lss_f rfl rfl (by omega) ?_
            | refine add_in rfl rfl (by omega) ?_
            | refine load_ptr rfl (by decide) rfl (Nat.le_of_ble_eq_true rfl) rfl ?_
            | refine store_ptr rfl rfl (by decide) rfl rfl (Nat.le_of_ble_eq_true rfl) rfl ?_
            | refine fad_ptr rfl rfl rfl ?_)
          exact fin_r (rv_cell rfl rfl rfl rfl rv_nil) rfl
        · have cM := C_made m (n + k) (join b0 d0).1 [] hm (by constructor <;> omega) (by omega) (by simp) y0 (fun q hq => by simp at hq) x1 (fun h => absurd h hm2)
          have e : madeC m (n + k) (join b0 d0).1 [] = joinC m ⟨n, s0, s1, b0, b1⟩ ⟨k, t0, t1, d0, d1⟩ := by
            unfold madeC joinC
            rw [x3, p2, q2]
            simp only [if_neg hm2]
            have hg : goodC m ⟨n + k, s0 + t0, 0, (join b0 d0).1, []⟩ = true :=
              goodC_iff.mpr ⟨hm, ⟨by simp; omega, by simp; omega⟩, gM_iff.mpr ⟨x1, by rw [x3, p2, q2], by rw [x2, p3, q3]⟩, by rw [if_neg hm2]; exact ⟨rfl, rfl⟩⟩
            by_cases hf : I64 (s0 + t0)
            · rw [if_pos ⟨hf, fun h => absurd h hm2, hg⟩, if_pos ⟨ga, gb, hs, hf, fun h => absurd h hm2⟩]
            · rw [if_neg (fun h => hf h.1), if_neg (fun h => hf h.2.2.2.1)]
          rw [e] at cM
          generalize joinC m ⟨n, s0, s1, b0, b1⟩ ⟨k, t0, t1, d0, d1⟩ = q at cM ⊢
          generalize (join b0 d0).1 = o0 at c3 cM
          repeat' (first
            | refine call2 rfl rfl c1 ?_
            | refine call2 rfl rfl c2 ?_
            | refine w_seq ?_
            | refine w_ops ?_
            | refine st_nil ?_
            | refine th_n ?_
            | refine w_block ?_
            | refine w_skip ?_
            | refine w_false rfl ?_
            | refine g_yes rfl ?_
            | refine mv_c rfl ?_
            | refine pick_f rfl rfl ?_
            | refine not_ rfl ?_
            | refine alloc_ (fun u => ?_)
            | refine box_ rfl rfl rfl (fun u => ?_)
            | refine load_ptr rfl (by decide) rfl (Nat.le_of_ble_eq_true rfl) rfl ?_)
          refine w_loop ?_
          unfold b52_0 r52_5 r52_6 r52_7 r52_8 r52_9 r52_10
          repeat' (first
            | refine call2 rfl rfl c3 ?_
            | refine w_seq ?_
            | refine w_ops ?_
            | refine w_opsD1 rfl (fun u => ?_)
            | refine st_nil ?_
            | refine th_n ?_
            | refine bk_n ?_
            | refine w_block ?_
            | refine w_skip ?_
            | refine w_true rfl ?_
            | refine w_false rfl ?_
            | refine mv_c rfl ?_
            | refine lss_t rfl rfl (by omega) ?_
            | refine not_ rfl ?_
            | refine add_in rfl rfl (by omega) ?_
            | refine alloc_ (fun u => ?_)
            | refine load_ptr rfl (by decide) rfl (Nat.le_of_ble_eq_true rfl) rfl ?_
            | refine store_ptr rfl rfl (by decide) rfl rfl (Nat.le_of_ble_eq_true rfl) rfl ?_
            | refine fad_ptr rfl rfl rfl ?_
            | refine iaA_ptr rfl rfl rfl (by omega) rfl ?_)
          refine w_loop ?_
          repeat' (first
            | refine call3 rfl rfl rfl cM ?_
            | refine w_seq ?_
            | refine w_ops ?_
            | refine st_nil ?_
            | refine th_n ?_
            | refine th_x ?_
            | refine bk_x ?_
            | refine w_exit ?_
            | refine w_ret ?_
            | refine w_false rfl ?_
            | refine mv_c rfl ?_
            | refine lss_f rfl rfl (by omega) ?_
            | refine add_in rfl rfl (by omega) ?_
            | refine load_ptr rfl (by decide) rfl (Nat.le_of_ble_eq_true rfl) rfl ?_
            | refine store_ptr rfl rfl (by decide) rfl rfl (Nat.le_of_ble_eq_true rfl) rfl ?_
            | refine fad_ptr rfl rfl rfl ?_)
          exact fin_r (rv_cell rfl rfl rfl rfl rv_nil) rfl
      · rw [joinC_no (m := m) (a := ⟨n, s0, s1, b0, b1⟩) (b := ⟨k, t0, t1, d0, d1⟩) (fun h => hs h.2.2.1)]
        rw [join_no (by rw [p1, q1, p3, q3]; simp [cap]; omega)] at c3
        repeat' (first
          | refine call2 rfl rfl c1 ?_
          | refine call2 rfl rfl c2 ?_
          | refine w_seq ?_
          | refine w_ops ?_
          | refine st_nil ?_
          | refine th_n ?_
          | refine w_block ?_
          | refine w_skip ?_
          | refine w_false rfl ?_
          | refine g_yes rfl ?_
          | refine mv_c rfl ?_
          | refine pick_f rfl rfl ?_
          | refine not_ rfl ?_
          | refine alloc_ (fun u => ?_)
          | refine box_ rfl rfl rfl (fun u => ?_)
          | refine load_ptr rfl (by decide) rfl (Nat.le_of_ble_eq_true rfl) rfl ?_)
        refine w_loop ?_
        unfold b52_0 r52_5 r52_6 r52_7 r52_8 r52_9 r52_10
        repeat' (first
          | refine call2 rfl rfl c3 ?_
          | refine w_seq ?_
          | refine w_ops ?_
          | refine w_opsD1 rfl (fun u => ?_)
          | refine st_nil ?_
          | refine th_n ?_
          | refine th_r ?_
          | refine bk_r ?_
          | refine w_block ?_
          | refine w_skip ?_
          | refine w_ret ?_
          | refine w_true rfl ?_
          | refine mv_c rfl ?_
          | refine lss_t rfl rfl (by omega) ?_
          | refine not_ rfl ?_
          | refine alloc_ (fun u => ?_)
          | refine build_ rfl rfl ?_
          | refine load_ptr rfl (by decide) rfl (Nat.le_of_ble_eq_true rfl) rfl ?_
          | refine store_ptr rfl rfl (by decide) rfl rfl (Nat.le_of_ble_eq_true rfl) rfl ?_
          | refine fad_ptr rfl rfl rfl ?_
          | refine iaA_ptr rfl rfl rfl (by omega) rfl ?_)
        exact fin_r (rv_cell rfl rfl rfl rfl rv_nil) rfl
end Go.Proofs.Ytcmejdkjfekoeaa
namespace Go.Proofs.Ytcmejdkjfekoeaa
open Go.Pl Go.Bag
set_option maxHeartbeats 16000000
set_option maxRecDepth 100000
theorem joinC_len (m : Int) (a b : Cell) : (joinC m a b).1.b0.length ≤ a.b0.length + b.b0.length ∧ (joinC m a b).1.b1.length ≤ a.b1.length + b.b1.length := by
  unfold joinC
  split
  · refine ⟨join_len _ _, ?_⟩
    simp only
    split
    · exact join_len _ _
    · simp
  · simp [zeroC]
theorem get_c {ls : List Cell} {i : Nat} {x : Cell} {rest : List Cell} (hd : ls.drop i = x :: rest) : (ls.map encC)[i]? = some (encC x) := by
  have : ls[i]? = some x := by have := congrArg List.head? hd; simpa [List.head?_drop] using this
  simp [this]
theorem tells9_j {K : Ex → PS → Prop} (all : List Cell) (hin : ∀ c ∈ all, inC 400000 c) (hlen : all.length ≤ 60) (m : Int) (i : Nat) (x : Cell) (hx : (all.map encC)[i]? = some (encC x)) (hil : i < all.length) (hix : inC 400000 x) (v1 v5 v41 v42 v43 v2 : PV) (x2 : Box) : ∀ (rest : List Cell) (j : Nat) (s : PS), all.drop j = rest → j ≤ all.length →
    s.t 7 = .c (.int .i64 m) → s.t 14 = .c (.sl (all.map encC)) → s.t 15 = .c (.int .i64 i) → s.t 16 = .c (.int .i64 j) → s.t 1 = v1 → s.t 5 = v5 → s.t 41 = v41 → s.t 42 = v42 → s.t 43 = v43 → s.t 2 = v2 → s.bx 2 = x2 →
    (∀ s', s'.t 7 = .c (.int .i64 m) → s'.t 14 = .c (.sl (all.map encC)) → s'.t 15 = .c (.int .i64 i) → s'.t 1 = v1 → s'.t 5 = v5 → s'.t 41 = v41 → s'.t 42 = v42 → s'.t 43 = v43 → s'.t 2 = v2 → s'.bx 2 = x2 → K (.x 4) s') → wP (PCallG Try.prog) (.loop b8_2) s K := by
  intro rest
  induction rest with
  | nil =>
    intro j s hd hj t7 t14 t15 t16 t1 t5 t41 t42 t43 t2 b2 hK
    refine w_loop ?_
    have hj' := get_send hd hj
    subst hj'
    rw [← put_same t7, ← put_same t14, ← put_same t15, ← put_same t16, ← put_same t1, ← put_same t5, ← put_same t41, ← put_same t42, ← put_same t43, ← put_same t2, ← box_same b2]
    unfold b8_2 r8_19 r8_20 r8_21 r8_22 r8_23 r8_24
    repeat' (first
      | refine len_sl rfl (List.length_map _) ?_
      | refine w_seq ?_
      | refine w_ops ?_
      | refine st_nil ?_
      | refine th_n ?_
      | refine th_x ?_
      | refine w_exit ?_
      | refine w_false rfl ?_
      | refine mv_c rfl ?_
      | refine lss_f rfl rfl (by omega) ?_)
    exact hK _ rfl rfl rfl rfl rfl rfl rfl rfl rfl rfl
  | cons y rest ih =>
    intro j s hd hj t7 t14 t15 t16 t1 t5 t41 t42 t43 t2 b2 hK
    refine w_loop ?_
    have he := get_c hd
    have hjl := get_slen hd
    have hn := get_snext hd
    have hiy : inC 400000 y := hin y (List.mem_of_mem_drop (by rw [hd]; simp))
    have c1 := C_cJoin m x y (inC_up (by decide) hix) (inC_up (by decide) hiy)
    have c2 := C_rcJoin m x y hix hiy
    have hl := joinC_len m x y
    have lx := hix.2.2.2.2.2
    have ly := hiy.2.2.2.2.2
    have c3 := C_rcSame (joinC m x y).1 (joinC m x y).1 ⟨by omega, by omega⟩ ⟨by omega, by omega⟩
    have c4 := C_cSame x y ⟨by omega, by omega⟩ ⟨by omega, by omega⟩
    have c5 := C_rcSame x y ⟨by omega, by omega⟩ ⟨by omega, by omega⟩
    rw [decide_eq_true rfl] at c3
    clear hl
    generalize joinC m x y = jp at c1 c2 c3
    obtain ⟨j', p⟩ := jp
    generalize decide (x = y) = e at c4 c5
    have n1 : ∀ b : Bool, eqC false [LK.b] (CV.bool b) (CV.bool b) = some true := fun b => by simp [eqC, shEq]
    rw [← put_same t7, ← put_same t14, ← put_same t15, ← put_same t16, ← put_same t1, ← put_same t5, ← put_same t41, ← put_same t42, ← put_same t43, ← put_same t2, ← box_same b2]
    unfold b8_2 r8_19 r8_20 r8_21 r8_22 r8_23 r8_24
    repeat' (first
      | refine len_sl rfl (List.length_map _) ?_
      | refine call3 rfl rfl rfl c1 ?_
      | refine call3 rfl rfl rfl c2 ?_
      | refine call2 rfl rfl c3 ?_
      | refine call2 rfl rfl c4 ?_
      | refine call2 rfl rfl c5 ?_
      | refine eqs_f rfl rfl (n1 _) ?_
      | refine w_seq ?_
      | refine w_ops ?_
      | refine w_opsD0 rfl ?_
      | refine w_opsD1 rfl (fun u => ?_)
      | refine st_nil ?_
      | refine th_n ?_
      | refine bk_n ?_
      | refine w_block ?_
      | refine w_skip ?_
      | refine w_true rfl ?_
      | refine w_false rfl ?_
      | refine g_yes rfl ?_
      | refine mv_c rfl ?_
      | refine pick_f rfl rfl ?_
      | refine lss_t rfl rfl (by omega) ?_
      | refine not_ rfl ?_
      | refine add_in rfl rfl (by omega) ?_
      | refine alloc_ (fun u => ?_)
      | refine load_rp rfl (Nat.le_of_ble_eq_true rfl) rfl ?_
      | refine load_ptr rfl (by decide) rfl (Nat.le_of_ble_eq_true rfl) rfl ?_
      | refine store_ptr rfl rfl (by decide) rfl rfl (Nat.le_of_ble_eq_true rfl) rfl ?_
      | refine fad_ptr rfl rfl rfl ?_
      | refine iaS_c rfl rfl (by omega) (by assumption) rfl ?_
      | refine ext_ rfl rfl ?_)
    exact ih (j + 1) _ hn (by omega) (by rfl) (by rfl) (by rfl) (by rfl) (by rfl) (by rfl) (by rfl) (by rfl) (by rfl) (by rfl) (by rfl) hK
def askV (M : Int) (A B : Cell) (p : Go.Bag.Place) : List CV := .int .i64 M :: (encC A ++ (encC B ++ encP p))
theorem tells9_i {K : Ex → PS → Prop} (all : List Cell) (hin : ∀ c ∈ all, inC 400000 c) (hlen : all.length ≤ 60) (m : Int) (M : Int) (A B : Cell) (p : Go.Bag.Place) (v2 : Nat) (v1 v5 v41 v42 v43 : PV) : ∀ (rest : List Cell) (i : Nat) (s : PS), all.drop i = rest → i ≤ all.length →
    s.t 7 = .c (.int .i64 m) → s.t 14 = .c (.sl (all.map encC)) → s.t 15 = .c (.int .i64 i) → s.t 1 = v1 → s.t 5 = v5 → s.t 41 = v41 → s.t 42 = v42 → s.t 43 = v43 → s.t 2 = .ptr 2 v2 0 → s.bx 2 = ⟨v2, .var (askV M A B p)⟩ →
    (∀ s', s'.t 1 = v1 → s'.t 5 = v5 → s'.t 41 = v41 → s'.t 42 = v42 → s'.t 43 = v43 → s'.t 2 = .ptr 2 v2 0 → s'.bx 2 = ⟨v2, .var (askV M A B p)⟩ → K (.x 2) s') → wP (PCallG Try.prog) (.loop b8_1) s K := by
  intro rest
  induction rest with
  | nil =>
    intro i s hd hi t7 t14 t15 t1 t5 t41 t42 t43 t2 b2 hK
    refine w_loop ?_
    have hi' := get_send hd hi
    subst hi'
    rw [← put_same t7, ← put_same t14, ← put_same t15, ← put_same t1, ← put_same t5, ← put_same t41, ← put_same t42, ← put_same t43, ← put_same t2, ← box_same b2]
    unfold b8_1 r8_14 r8_15 r8_16 r8_17 r8_18
    repeat' (first
      | refine len_sl rfl (List.length_map _) ?_
      | refine w_seq ?_
      | refine w_ops ?_
      | refine st_nil ?_
      | refine th_n ?_
      | refine th_x ?_
      | refine w_exit ?_
      | refine w_false rfl ?_
      | refine mv_c rfl ?_
      | refine lss_f rfl rfl (by omega) ?_)
    exact hK _ rfl rfl rfl rfl rfl rfl rfl
  | cons x rest ih =>
    intro i s hd hi t7 t14 t15 t1 t5 t41 t42 t43 t2 b2 hK
    refine w_loop ?_
    have he := get_c hd
    have hil := get_slen hd
    have hn := get_snext hd
    have hix : inC 400000 x := hin x (List.mem_of_mem_drop (by rw [hd]; simp))
    have c1 := C_cGood m x (inC_up (by decide) hix)
    have c2 := C_rcGood m x (inC_up (by decide) hix)
    have c3 := C_cLine m p x (inC_up (by decide) hix)
    have c4 := C_rcLine m p x (inC_up (by decide) hix)
    have e2 := eqLn (lineC m p x)
    generalize lineC m p x = z at c3 c4 e2
    generalize goodC m x = g at c1 c2
    have n1 : ∀ b : Bool, eqC false [LK.b] (CV.bool b) (CV.bool b) = some true := fun b => by simp [eqC, shEq]
    rw [← put_same t7, ← put_same t14, ← put_same t15, ← put_same t1, ← put_same t5, ← put_same t41, ← put_same t42, ← put_same t43, ← put_same t2, ← box_same b2]
    unfold b8_1 r8_14 r8_15 r8_16 r8_17 r8_18
    repeat' (first
      | refine len_sl rfl (List.length_map _) ?_
      | refine call2 rfl rfl c1 ?_
      | refine call2 rfl rfl c2 ?_
      | refine call3 rfl rfl rfl c3 ?_
      | refine call3 rfl rfl rfl c4 ?_
      | refine eqs_f rfl rfl (n1 _) ?_
      | refine eqs_f rfl rfl e2 ?_
      | refine w_seq ?_
      | refine w_ops ?_
      | refine w_opsD0 rfl ?_
      | refine st_nil ?_
      | refine th_n ?_
      | refine w_block ?_
      | refine w_skip ?_
      | refine w_true rfl ?_
      | refine w_false rfl ?_
      | refine g_yes rfl ?_
      | refine mv_c rfl ?_
      | refine pick_f rfl rfl ?_
      | refine lss_t rfl rfl (by omega) ?_
      | refine load_rp rfl (Nat.le_of_ble_eq_true rfl) rfl ?_
      | refine load_ptr rfl (by decide) rfl (Nat.le_of_ble_eq_true rfl) rfl ?_
      | refine fad_ptr rfl rfl rfl ?_
      | refine iaS_c rfl rfl (by omega) (by assumption) rfl ?_)
    refine tells9_j all hin hlen m i x he hil hix _ _ _ _ _ _ _ all 0 _ rfl (by omega) (by rfl) (by rfl) (by rfl) (by rfl) (by rfl) (by rfl) (by rfl) (by rfl) (by rfl) (by rfl) (by rfl) ?_
    intro s' u7 u14 u15 u1 u5 u41 u42 u43 u2 w2
    rw [← put_same u7, ← put_same u14, ← put_same u15, ← put_same u1, ← put_same u5, ← put_same u41, ← put_same u42, ← put_same u43, ← put_same u2, ← box_same w2]
    repeat' (first
      | refine w_ops ?_
      | refine st_nil ?_
      | refine th_n ?_
      | refine bk_n ?_
      | refine bk_x ?_
      | refine mv_c rfl ?_
      | refine add_in rfl rfl (by omega) ?_)
    exact ih (i + 1) _ hn (by omega) (by rfl) (by rfl) (by rfl) (by rfl) (by rfl) (by rfl) (by rfl) (by rfl) (by rfl) (by rfl) hK
theorem tells9_m {K : Ex → PS → Prop} (M : Int) (A B : Cell) (p : Go.Bag.Place) (hA : inC 400000 A) (hB : inC 400000 B) (l : List RowS) (hl : l.length ≤ 40) (hr : ∀ r ∈ l, inR r) (k : Nat) (hk : k ≤ l.length) (v2 : Nat) (ms : List Int) (hms : ms.length ≤ 10) : ∀ (rest : List Int) (i : Nat) (s : PS), ms.drop i = rest → i ≤ ms.length →
    s.t 1 = .c (encRows l) → s.t 5 = .c (.int .i64 k) → s.t 41 = .c (encIL ms) → s.t 42 = .c (.int .i64 ms.length) → s.t 43 = .c (.int .i64 i) → s.t 2 = .ptr 2 v2 0 → s.bx 2 = ⟨v2, .var (askV M A B p)⟩ →
    (∀ s', K (.x 0) s') → wP (PCallG Try.prog) (.loop b8_0) s K := by
  intro rest
  induction rest with
  | nil =>
    intro i s hd hi t1 t5 t41 t42 t43 t2 b2 hK
    refine w_loop ?_
    have hi' := get_iend hd hi
    subst hi'
    rw [← put_same t1, ← put_same t5, ← put_same t41, ← put_same t42, ← put_same t43, ← put_same t2, ← box_same b2]
    unfold b8_0 r8_5 r8_6 r8_7 r8_8 r8_9 r8_10 r8_11 r8_12 r8_13 r8_25
    repeat' (first
      | refine w_seq ?_
      | refine w_ops ?_
      | refine st_nil ?_
      | refine th_n ?_
      | refine th_x ?_
      | refine w_exit ?_
      | refine w_false rfl ?_
      | refine lss_f rfl rfl (by omega) ?_)
    exact hK _
  | cons m rest ih =>
    intro i s hd hi t1 t5 t41 t42 t43 t2 b2 hK
    refine w_loop ?_
    have he := get_int hd
    have hil := get_ilen hd
    have hn := get_inext hd
    have hrk : ∀ r ∈ l.take k, inR r := fun r h => hr r (List.mem_of_mem_take h)
    have lk : (l.take k).length ≤ 40 := by simp; omega
    have c1 := C_rcOf m l (by omega) hr
    have c2 := C_rcOf m (l.take k) (by omega) hrk
    have c3 := C_cOf m l (by omega) hr
    have c4 := C_cOf m (l.take k) (by omega) hrk
    have i1 := inC_ofC (m := m) (l := l) (by omega) hr
    have i2 := inC_ofC (m := m) (l := l.take k) (by omega) hrk
    have c2' : PCallG Try.prog 44 [.c (.int .i64 m), .c (.sl ((l.map encRow).take k))] (.c (rcV (ofC m (l.take k)))) [] := by rw [← List.map_take]; exact c2
    have c4' : PCallG Try.prog 45 [.c (.int .i64 m), .c (.sl ((l.map encRow).take k))] (.c (.tup [encCell (ofC m (l.take k)).1, .bool (ofC m (l.take k)).2])) [] := by rw [← List.map_take]; exact c4
    have l1 := i1.2.2.2.2.2
    have l2 := i2.2.2.2.2.2
    have c5 := C_rcSame (ofC m l).1 (ofC m l).1 ⟨by omega, by omega⟩ ⟨by omega, by omega⟩
    have c6 := C_rcSame (ofC m (l.take k)).1 (ofC m (l.take k)).1 ⟨by omega, by omega⟩ ⟨by omega, by omega⟩
    rw [decide_eq_true rfl] at c5 c6
    have w0 : ∀ e ∈ l.map encRow, e.length = 6 := fun e he => by obtain ⟨x, _, rfl⟩ := List.mem_map.mp he; rfl
    have s2 : ((l.map encRow).take k).drop 0 = (l.map encRow).take k := rfl
    have n1 : ∀ b : Bool, eqC false [LK.b] (CV.bool b) (CV.bool b) = some true := fun b => by simp [eqC, shEq]
    generalize ofC m l = x at *
    generalize ofC m (l.take k) = y at *
    obtain ⟨x, p1⟩ := x
    obtain ⟨y, p2⟩ := y
    simp only at i1 i2
    rw [← put_same t1, ← put_same t5, ← put_same t41, ← put_same t42, ← put_same t43, ← put_same t2, ← box_same b2]
    unfold b8_0 r8_5 r8_6 r8_7 r8_8 r8_9 r8_10 r8_11 r8_12 r8_13 r8_25
    repeat' (first
      | refine call2 rfl rfl c1 ?_
      | refine call2 rfl rfl c2' ?_
      | refine call2 rfl rfl c3 ?_
      | refine call2 rfl rfl c4' ?_
      | refine call2 rfl rfl c5 ?_
      | refine call2 rfl rfl c6 ?_
      | refine slc_c (i := 0) (j := k) rfl rfl rfl (by simp; omega) w0 s2 ?_
      | refine eqs_f rfl rfl (n1 _) ?_
      | refine w_seq ?_
      | refine w_ops ?_
      | refine w_opsD2 rfl (fun u u => ?_)
      | refine st_nil ?_
      | refine th_n ?_
      | refine w_block ?_
      | refine w_skip ?_
      | refine w_true rfl ?_
      | refine w_false rfl ?_
      | refine g_yes rfl ?_
      | refine mv_c rfl ?_
      | refine pick_f rfl rfl ?_
      | refine lss_t rfl rfl (by omega) ?_
      | refine not_ rfl ?_
      | refine alloc_ (fun u => ?_)
      | refine bsl_ rfl rfl ?_
      | refine load_rp rfl (Nat.le_of_ble_eq_true rfl) rfl ?_
      | refine load_ptr rfl (by decide) rfl (Nat.le_of_ble_eq_true rfl) rfl ?_
      | refine store_ptr rfl rfl (by decide) rfl rfl (Nat.le_of_ble_eq_true rfl) rfl ?_
      | refine fad_ptr rfl rfl rfl ?_
      | refine iaS_c rfl rfl (by omega) (by assumption) rfl ?_
      | refine ext_ rfl rfl ?_)
    refine tells9_i [A, B, x, y] ?_ (by simp) m M A B p v2 _ _ _ _ _ [A, B, x, y] 0 _ rfl (by simp) (by rfl) (by rfl) (by rfl) (by rfl) (by rfl) (by rfl) (by rfl) (by rfl) (by rfl) (by rfl) ?_
    · intro c hc
      simp only [List.mem_cons, List.not_mem_nil, or_false] at hc
      rcases hc with rfl | rfl | rfl | rfl
      · exact hA
      · exact hB
      · exact inC_up (by decide) i1
      · exact inC_up (by decide) i2
    · intro s' u1 u5 u41 u42 u43 u2 w2
      rw [← put_same u1, ← put_same u5, ← put_same u41, ← put_same u42, ← put_same u43, ← put_same u2, ← box_same w2]
      repeat' (first
        | refine w_ops ?_
        | refine st_nil ?_
        | refine th_n ?_
        | refine bk_n ?_
        | refine bk_x ?_
        | refine mv_c rfl ?_
        | refine add_in rfl rfl (by omega) ?_)
      exact ih (i + 1) _ hn (by omega) (by rfl) (by rfl) (by rfl) (by rfl) (by rfl) (by rfl) (by rfl) hK
/-- numbers of 64 bits -/
def inC0 (c : Cell) : Prop := in64 c.n ∧ in64 c.s0 ∧ in64 c.s1 ∧ ranged c.b0 ∧ ranged c.b1 ∧ c.b0.length ≤ 9223372036854775807 ∧ c.b1.length ≤ 9223372036854775807
theorem C_CellTells (M : Int) (A B : Cell) (p : Go.Bag.Place) (l : List RowS) (hA : inC0 A) (hB : inC0 B) (hr : ∀ r ∈ l, inR r) (hl : l.length ≤ 9223372036854775807) : PCallG Try.prog 8 [.c (.agg (askV M A B p)), .c (encRows l)] (.c (.bool true)) [] := by
  have hw := C_wakes9
  have c1 := C_LightCell A hA.2.2.2.2.2.1 hA.2.2.2.2.2.2
  have c2 := C_LightCell B hB.2.2.2.2.2.1 hB.2.2.2.2.2.2
  have lel : (l.map encRow).length = l.length := List.length_map _
  refine pcallF Try.func8 c8 rfl ?_
  unfold p8 r8_0 r8_1 r8_2 r8_3 r8_4 r8_26
  by_cases h1 : A.b0.length ≤ 60 ∧ A.b1.length ≤ 60
  · rw [show lightC A = true from decide_eq_true h1] at c1
    by_cases h2 : B.b0.length ≤ 60 ∧ B.b1.length ≤ 60
    · rw [show lightC B = true from decide_eq_true h2] at c2
      by_cases h3 : l.length ≤ 40
      · obtain ⟨k, hk1, hk2⟩ : ∃ k : Nat, (l.length : Int) / 2 = k ∧ k ≤ l.length := ⟨l.length / 2, by omega, by omega⟩
        repeat' (first
          | refine call1 rfl c1 ?_
          | refine call1 rfl c2 ?_
          | refine len_sl rfl lel ?_
          | refine quo2 rfl rfl (by omega) ?_
          | refine w_seq ?_
          | refine w_ops ?_
          | refine st_nil ?_
          | refine th_n ?_
          | refine w_block ?_
          | refine w_skip ?_
          | refine w_false rfl ?_
          | refine g_yes rfl ?_
          | refine mv_c rfl ?_
          | refine pick_f rfl rfl ?_
          | refine gtr_f rfl rfl (by omega) ?_
          | refine not_ rfl ?_
          | refine box_ rfl rfl rfl (fun u => ?_)
          | refine bsl_ rfl rfl ?_
          | refine load_ptr rfl (by decide) rfl (Nat.le_of_ble_eq_true rfl) rfl ?_
          | refine fad_ptr rfl rfl rfl ?_
          | refine len_sl rfl rfl ?_)
        rw [hk1]
        skip
        refine tells9_m M A B p ⟨hA.1, hA.2.1, hA.2.2.1, hA.2.2.2.1, hA.2.2.2.2.1, by omega, by omega⟩ ⟨hB.1, hB.2.1, hB.2.2.1, hB.2.2.2.1, hB.2.2.2.2.1, by omega, by omega⟩ l h3 hr k hk2 _ [M, 1, 2] (by simp) [M, 1, 2] 0 _ rfl (by simp) (by rfl) (by rfl) (by rfl) (by rfl) (by rfl) (by rfl) (by rfl) ?_
        intro s'
        repeat' (first
          | refine call0 hw ?_
          | refine w_seq ?_
          | refine w_ops ?_
          | refine st_nil ?_
          | refine th_n ?_
          | refine bk_x ?_
          | refine w_ret ?_
          | refine mv_c rfl ?_)
        exact fin_r rfl rfl
      · repeat' (first
        | refine call1 rfl c1 ?_
        | refine call1 rfl c2 ?_
        | refine len_sl rfl lel ?_
        | refine call0 hw ?_
        | refine w_seq ?_
        | refine w_ops ?_
        | refine st_nil ?_
        | refine th_n ?_
        | refine th_r ?_
        | refine w_ret ?_
        | refine w_true rfl ?_
        | refine g_yes rfl ?_
        | refine mv_c rfl ?_
        | refine pick_f rfl rfl ?_
        | refine gtr_t rfl rfl (by omega) ?_
        | refine not_ rfl ?_
        | refine box_ rfl rfl rfl (fun u => ?_)
        | refine load_ptr rfl (by decide) rfl (Nat.le_of_ble_eq_true rfl) rfl ?_
        | refine fad_ptr rfl rfl rfl ?_)
        exact fin_r rfl rfl
    · rw [show lightC B = false from decide_eq_false h2] at c2
      repeat' (first
        | refine call1 rfl c1 ?_
        | refine call1 rfl c2 ?_
        | refine call0 hw ?_
        | refine w_seq ?_
        | refine w_ops ?_
        | refine st_nil ?_
        | refine th_n ?_
        | refine th_r ?_
        | refine w_ret ?_
        | refine w_true rfl ?_
        | refine g_yes rfl ?_
        | refine g_no rfl ?_
        | refine mv_c rfl ?_
        | refine pick_t rfl rfl ?_
        | refine pick_f rfl rfl ?_
        | refine not_ rfl ?_
        | refine box_ rfl rfl rfl (fun u => ?_)
        | refine load_ptr rfl (by decide) rfl (Nat.le_of_ble_eq_true rfl) rfl ?_
        | refine fad_ptr rfl rfl rfl ?_)
      exact fin_r rfl rfl
  · rw [show lightC A = false from decide_eq_false h1] at c1
    repeat' (first
      | refine call1 rfl c1 ?_
      | refine call0 hw ?_
      | refine w_seq ?_
      | refine w_ops ?_
      | refine st_nil ?_
      | refine th_n ?_
      | refine th_r ?_
      | refine w_ret ?_
      | refine w_true rfl ?_
      | refine g_no rfl ?_
      | refine mv_c rfl ?_
      | refine pick_t rfl rfl ?_
      | refine not_ rfl ?_
      | refine box_ rfl rfl rfl (fun u => ?_)
      | refine load_ptr rfl (by decide) rfl (Nat.le_of_ble_eq_true rfl) rfl ?_
      | refine fad_ptr rfl rfl rfl ?_)
    exact fin_r rfl rfl
theorem L_CellTells (c0 : List CV) (h0 : OkL [.int .i64, .int .i64, .int .i64, .int .i64, .sl [.int .i64, .int .i64], .sl [.int .i64, .int .i64], .int .i64, .int .i64, .int .i64, .sl [.int .i64, .int .i64], .sl [.int .i64, .int .i64], .int .u8, .int .u8, .int .u8, .int .u8] c0)
    (c1 : CV) (h1 : LF.Ok (.sl [.int .u8, .int .u8, .int .u8, .int .u8, .int .i64, .int .i64]) c1) : PCallG Try.prog 8 [.c (.agg c0), .c c1] (.c (.bool true)) [] := by
  obtain ⟨l, rfl, hr, hl⟩ := ok_rows h1
  obtain ⟨hln, he⟩ := h0
  match c0, hln, he with
  | [x0, x1, x2, x3, x4, x5, x6, x7, x8, x9, x10, x11, x12, x13, x14], _, he =>
    obtain ⟨M, rfl, i0⟩ := ok_i64 (he 0 (by simp) (by simp))
    obtain ⟨a1, rfl, i1⟩ := ok_i64 (he 1 (by simp) (by simp))
    obtain ⟨a2, rfl, i2⟩ := ok_i64 (he 2 (by simp) (by simp))
    obtain ⟨a3, rfl, i3⟩ := ok_i64 (he 3 (by simp) (by simp))
    obtain ⟨a4, rfl, i4, j4⟩ := ok_runs (he 4 (by simp) (by simp))
    obtain ⟨a5, rfl, i5, j5⟩ := ok_runs (he 5 (by simp) (by simp))
    obtain ⟨b1, rfl, k1⟩ := ok_i64 (he 6 (by simp) (by simp))
    obtain ⟨b2, rfl, k2⟩ := ok_i64 (he 7 (by simp) (by simp))
    obtain ⟨b3, rfl, k3⟩ := ok_i64 (he 8 (by simp) (by simp))
    obtain ⟨b4, rfl, k4, q4⟩ := ok_runs (he 9 (by simp) (by simp))
    obtain ⟨b5, rfl, k5, q5⟩ := ok_runs (he 10 (by simp) (by simp))
    obtain ⟨p0, rfl, _⟩ := ok_u8 (he 11 (by simp) (by simp))
    obtain ⟨p1, rfl, _⟩ := ok_u8 (he 12 (by simp) (by simp))
    obtain ⟨p2, rfl, _⟩ := ok_u8 (he 13 (by simp) (by simp))
    obtain ⟨p3, rfl, _⟩ := ok_u8 (he 14 (by simp) (by simp))
    exact C_CellTells M ⟨a1, a2, a3, a4, a5⟩ ⟨b1, b2, b3, b4, b5⟩ ⟨p0, p1, p2, p3⟩ l ⟨i1, i2, i3, i4, i5, j4, j5⟩ ⟨k1, k2, k3, k4, k5, q4, q5⟩ hr hl
end Go.Proofs.Ytcmejdkjfekoeaa

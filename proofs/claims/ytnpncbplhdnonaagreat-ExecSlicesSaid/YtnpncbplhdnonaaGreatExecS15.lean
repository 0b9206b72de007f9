/- Part of the proof of ExecTells, ExecAnswers, ExecBest, ExecFirst, ExecLevels, ExecTops, ExecLimits: lemmas. -/
import Derived.Test.YtnpncbplhdnonaaGreatExecS13
import Derived.Test.YtnpncbplhdnonaaGreatExecS14
import Derived.Test.YtnpncbplhdnonaaGreatProg
import Derived.KernelRfl
set_option linter.unusedVariables false
set_option linter.unusedSimpArgs false
namespace Go.Proofs.YtnpncbplhdnonaaGreat
open Go.Pl
abbrev CP:=PCallG Tryz.prog
abbrev zr0:List CV:=[.sl [],zi 0,zu 0,zu 0,zu 0,zu 0,zu 0,zu 0,zu 0,zu 0,.sl [],zu 0,zu 0,zu 0,zu 0,.sl [],zi 0,zi 0,zi 0,zi 0]
abbrev zr1:List CV:=[zu 0,zu 0,zu 0,zu 0,zi 0,zi 0,zi 0,zi 0,zi 0,zi 0,zi 0]
abbrev zr2:List CV:=[zu 0,zu 0,zu 0,zu 0,zi 0,zi 0,zi 0,.sl [],.sl []]
abbrev zr3:List CV:=[zu 0,zu 0,zu 0,zu 0,.sl [],zi 0,zi 0,zi 0,zi 0]
abbrev zr4:List CV:=[zu 0,zu 0,zu 0,zu 0,zi 0,zi 0]
abbrev zr5:List CV:=[zi 0,zi 0,zi 0,.sl [],.sl []]
abbrev zr6:List CV:=[zu 0,zu 0,zu 0,zu 0]
abbrev zr7:List CV:=[zi 0,zi 0,.sl []]
abbrev zr8:List CV:=[.sl [],.sl []]
abbrev zr9:List CV:=[.sl [],zi 0]
/- cuboid/cuboidlaw26.ExecTells -/
abbrev r3_0:LO:=[xx 1 20 0,xk 2 (.bool false)]
abbrev r3_1:LO:=[xR 3 20 1,xC1 4 11 3,xu 5 4]
abbrev r3_2:LO:=[⟨some 6,.call false 12 [],none⟩,xm 2 6]
abbrev r3_3:LO:=[xR 7 20 1,xC1 8 13 7,xm 9 8,xg (xf 10 0 1) 9,xg (xR 11 2 10) 9,xg (xf 12 2 1) 9,xg (xR 13 4 12) 9,xg (xf 14 2 1) 9,xg (xR 15 4 14) 9,xg (xf 16 10 1) 9,xg (xl 17 1 16) 9,xg (xf 18 11 1) 9,xg (xR 19 9 18) 9,⟨some 20,.build zr0 [(0,2,(.t 11)),(2,4,(.t 13)),(6,4,(.t 15)),(10,1,(.t 17)),(11,9,(.t 19))],(some (9,true))⟩,xg (xC1 21 13 20) 9,xp 22 9 21,xm 23 22,⟨some 24,.call false 12 [],(some (23,true))⟩,xp 25 23 24,xm 2 25]
def p3:PC:=(sq (xo r3_0) (sq (sq (xo r3_1) (.cond (.t 5) (sq (xo r3_2) .ret) .skip)) (sq (xo r3_3) .ret)))
def rs3:LR:=[.t 2]
theorem c3:chkF Tryz.prog Tryz.f3 1 p3 rs3=true:=by kernel_rfl
/- cuboid/cuboidlaw26.ExecAnswers -/
abbrev r4_0:LO:=[xx 1 16 0,xk 2 (.bool false)]
abbrev r4_1:LO:=[xR 6 16 1,xC1 7 14 6,xu 8 7]
abbrev r4_2:LO:=[⟨some 9,.call false 12 [],none⟩,xm 2 9]
abbrev r4_3:LO:=[xf 10 12 1,⟨some 11,.load true 4 (.t 10) [3],none⟩,xf 12 0 1,⟨some 13,.load true 2 (.t 12) [3],none⟩,xf 14 3 1,⟨some 15,.load true 9 (.t 14) [3],none⟩,xC2 16 16 13 15,xC2 17 15 11 16,⟨some 3,.alloc zr6,none⟩,xs 4 3 17]
abbrev r4_4:LO:=[xf 18 0 1,xR 19 2 18,xR 20 4 3,xR 21 4 3,xf 22 12 1,xR 23 4 22,xC2 24 17 21 23,xR 25 16 1,xR 26 4 3,xC2 27 18 25 26,xf 28 3 1,xR 29 9 28,⟨some 30,.build zr0 [(0,2,(.t 19)),(2,4,(.t 20)),(6,4,(.t 24)),(10,1,(.t 27)),(11,9,(.t 29))],none⟩,xf 31 0 1,xR 32 2 31,xf 33 12 1,xR 34 4 33,xf 35 3 1,xf 36 0 35,xR 37 4 36,xR 38 16 1,xf 39 12 1,xR 40 4 39,xC2 41 18 38 40,xf 42 3 1,xR 43 9 42,⟨some 44,.build zr0 [(0,2,(.t 32)),(2,4,(.t 34)),(6,4,(.t 37)),(10,1,(.t 41)),(11,9,(.t 43))],none⟩,xf 45 0 1,xR 46 2 45,⟨some 47,.build zr6 [],none⟩,xf 48 12 1,xR 49 4 48,xR 50 16 1,⟨some 51,.build zr6 [],none⟩,xC2 52 18 50 51,xf 53 3 1,xR 54 9 53,⟨some 55,.build zr0 [(0,2,(.t 46)),(2,4,(.t 47)),(6,4,(.t 49)),(10,1,(.t 52)),(11,9,(.t 54))],none⟩,⟨some 56,.bsl 20 3 zr0 [(0,(.t 30)),(1,(.t 44)),(2,(.t 55))] false,none⟩,xn 57 56,xk 58 (zi 0)]
abbrev r4_5:LO:=[xb 59 .lss 58 57]
abbrev r4_6:LO:=[xi 60 20 56 58,xR 61 20 60,⟨some 5,.alloc zr0,none⟩,xs 20 5 61]
abbrev r4_7:LO:=[xR 62 20 5,xC1 63 13 62,xu 64 63]
abbrev r4_8:LO:=[xk 2 (.bool false)]
abbrev r4_9:LO:=[xc 65 .add 58 (zi 1),xm 58 65]
def b4_0:PC:=(sq (xo r4_5) (sq (.cond (.t 59) .skip (.exit 0)) (sq (.block 1 (sq (xo r4_6) (sq (xo r4_7) (.cond (.t 64) (sq (xo r4_8) .ret) .skip)))) (xo r4_9))))
abbrev r4_10:LO:=[⟨some 66,.call false 12 [],none⟩,xm 2 66]
def p4:PC:=(sq (xo r4_0) (sq (sq (xo r4_1) (.cond (.t 8) (sq (xo r4_2) .ret) .skip)) (sq (xO r4_3) (sq (sq (xO r4_4) (.block 0 (.loop b4_0))) (sq (xo r4_10) .ret)))))
def rs4:LR:=[.t 2]
theorem c4:chkF Tryz.prog Tryz.f4 1 p4 rs4=true:=by kernel_rfl
/- cuboid/cuboidlaw26.ExecBest -/
abbrev r5_0:LO:=[xx 3 3 1,xk 4 (.bool false)]
abbrev r5_1:LO:=[xm 9 0,xn 10 9,xc 11 .gtr 10 (zi 40)]
abbrev r5_2:LO:=[⟨some 12,.call false 12 [],none⟩,xm 4 12]
abbrev r5_3:LO:=[xf 13 0 3,xl 14 1 13,⟨some 15,.bsl 1 6 [zi 0] [(0,(.t 14)),(1,(.k (zi 1))),(2,(.k (zi 2))),(3,(.k (zi 3))),(4,(.k (zi 4))),(5,(.k (zi 5)))] false,none⟩,xn 16 15,xk 17 (zi 0)]
abbrev r5_4:LO:=[xb 18 .lss 17 16]
abbrev r5_5:LO:=[xi 19 1 15 17,xl 20 1 19,xm 6 20]
abbrev r5_6:LO:=[xf 21 2 3,xl 22 1 21,xm 23 0,xn 24 23,⟨some 25,.bsl 1 3 [zi 0] [(0,(.t 22)),(1,(.k (zi 3))),(2,(.t 24))] false,none⟩,xn 26 25,xk 27 (zi 0)]
abbrev r5_7:LO:=[xb 28 .lss 27 26]
abbrev r5_8:LO:=[xi 29 1 25 27,xl 30 1 29,xm 8 30]
abbrev r5_9:LO:=[xm 31 0,xm 32 6,xf 33 1 3,xl 34 1 33,xm 35 8,xC4 36 20 31 32 34 35,xm 37 0,xm 38 6,xf 39 1 3,xl 40 1 39,xm 41 8,xC4 42 21 37 38 40 41,xC2 43 19 36 42,xu 44 43,xm 45 44,xh (xm 46 0) 45,xh (xm 47 6) 45,xh (xm 48 8) 45,⟨some 49,.call false 20 [(.t 46),(.t 47),(.k (zi 0)),(.t 48)],(some (45,false))⟩,xh (xm 50 0) 45,xh (xm 51 6) 45,xh (xm 52 8) 45,⟨some 53,.call false 21 [(.t 50),(.t 51),(.k (zi 0)),(.t 52)],(some (45,false))⟩,xh (xC2 54 19 49 53) 45,xh (xu 55 54) 45,xq 56 45 55]
abbrev r5_10:LO:=[xk 4 (.bool false)]
abbrev r5_11:LO:=[xc 57 .add 27 (zi 1),xm 27 57]
def b5_1:PC:=(sq (xo r5_7) (sq (.cond (.t 28) .skip (.exit 2)) (sq (.block 3 (sq (xo r5_8) (sq (xO r5_9) (.cond (.t 56) (sq (xo r5_10) .ret) .skip)))) (xo r5_11))))
abbrev r5_12:LO:=[xc 58 .add 17 (zi 1),xm 17 58]
def b5_0:PC:=(sq (xo r5_4) (sq (.cond (.t 18) .skip (.exit 0)) (sq (.block 1 (sq (xo r5_5) (sq (xo r5_6) (.block 2 (.loop b5_1))))) (xo r5_12))))
abbrev r5_13:LO:=[⟨some 59,.call false 12 [],none⟩,xm 4 59]
def p5:PC:=(sq (xo r5_0) (sq (sq (xo r5_1) (.cond (.t 11) (sq (xo r5_2) .ret) .skip)) (sq (sq (xo r5_3) (.block 0 (.loop b5_0))) (sq (xo r5_13) .ret))))
def rs5:LR:=[.t 4]
theorem c5:chkF Tryz.prog Tryz.f5 2 p5 rs5=true:=by kernel_rfl
/- cuboid/cuboidlaw26.ExecLevels -/
abbrev r7_0:LO:=[xx 1 16 0,xk 2 (.bool false)]
abbrev r7_1:LO:=[xR 15 16 1,xC1 16 14 15,xu 17 16]
abbrev r7_2:LO:=[⟨some 18,.call false 12 [],none⟩,xm 2 18]
abbrev r7_3:LO:=[xf 19 12 1,⟨some 20,.load true 4 (.t 19) [3],none⟩,xf 21 0 1,⟨some 22,.load true 2 (.t 21) [3],none⟩,xf 23 3 1,⟨some 24,.load true 9 (.t 23) [3],none⟩,xC2 25 16 22 24,xC2 26 15 20 25,⟨some 3,.alloc zr6,none⟩,xs 4 3 26]
abbrev r7_4:LO:=[xR 27 16 1,⟨some 28,.build zr6 [],none⟩,xC2 29 18 27 28,xm 4 29]
abbrev r7_5:LO:=[xf 31 0 1,xR 32 2 31,⟨some 33,.build zr6 [],none⟩,xR 34 4 3,xm 35 4,xC4 36 24 32 33 34 35,xm 30 36,xe 37 30 0,xe 38 30 1,xm 5 37,xm 6 38]
abbrev r7_6:LO:=[xf 40 0 1,xR 41 2 40,⟨some 42,.build zr6 [],none⟩,xm 43 4,xf 44 3 1,xR 45 9 44,xC4 46 25 41 42 43 45,xm 39 46,xe 47 39 0,xe 48 39 1,xm 7 47,xm 8 48]
abbrev r7_7:LO:=[xf 50 0 1,xR 51 2 50,xR 52 4 3,xm 53 5,xf 54 3 1,xR 55 9 54,xC4 56 25 51 52 53 55,xm 49 56,xe 57 49 0,xe 58 49 1,xm 9 57,xm 10 58]
abbrev r7_8:LO:=[xf 60 0 1,xR 61 2 60,xR 62 4 3,xf 63 3 1,xf 64 0 63,xR 65 4 64,xm 66 5,xC4 67 24 61 62 65 66,xm 59 67,xe 68 59 0,xe 69 59 1,xm 11 68,xm 12 69]
abbrev r7_9:LO:=[xf 71 0 1,xR 72 2 71,⟨some 73,.build zr6 [],none⟩,xf 74 3 1,xf 75 0 74,xR 76 4 75,xm 77 4,xC4 78 24 72 73 76 77,xm 70 78,xe 79 70 0,xe 80 70 1,xm 13 79,xm 14 80]
abbrev r7_10:LO:=[xm 81 6,xm 82 81,xg (xm 83 12) 82,xp 84 82 83,xm 85 84,xg (xm 86 14) 85,xp 87 85 86,xm 88 87,xg (xf 89 0 1) 88,xg (xR 90 2 89) 88,xg (xR 91 4 3) 88,xg (xm 92 5) 88,xg (xC3 93 26 90 91 92) 88,xp 94 88 93,xm 95 94,xg (xm 96 5) 95,xg (xR 97 16 1) 95,xg (xR 98 4 3) 95,xg (xC2 99 18 97 98) 95,xg (xC2 100 27 96 99) 95,xp 101 95 100,xm 102 101,xg (xm 103 11) 102,xg (xm 104 13) 102,xg (xC2 105 27 103 104) 102,xp 106 102 105,xm 107 106,xg (xm 108 8) 107,xg (xm 109 10) 107,xg (xb 110 .eql 108 109) 107,xp 111 107 110,xm 112 111,xg (xm 113 7) 112,xg (xm 114 9) 112,xg (xC2 115 19 113 114) 112,xp 116 112 115,xm 117 116,xg (xm 118 8) 117,xg (xc 119 .eql 118 (zi 0)) 117,xg (xm 120 119) 117,xh (xm 121 8) 120,xh (xc 122 .eql 121 (zi 13)) 120,xg (xq 123 120 122) 117,xp 124 117 123,xm 125 124,⟨some 126,.call false 12 [],(some (125,true))⟩,xp 127 125 126,xm 2 127]
def p7:PC:=(sq (xo r7_0) (sq (sq (xo r7_1) (.cond (.t 17) (sq (xo r7_2) .ret) .skip)) (sq (xO r7_3) (sq (xo r7_4) (sq (xo r7_5) (sq (xo r7_6) (sq (xo r7_7) (sq (xo r7_8) (sq (xo r7_9) (sq (xo r7_10) .ret))))))))))
def rs7:LR:=[.t 2]
theorem c7:chkF Tryz.prog Tryz.f7 1 p7 rs7=true:=by kernel_rfl
/- cuboid/cuboidlaw26.ExecTops -/
abbrev r8_0:LO:=[xx 2 16 0,xx 3 3 1,xk 4 (.bool false)]
abbrev r8_1:LO:=[xR 13 16 2,xC1 14 14 13,xu 15 14]
abbrev r8_2:LO:=[⟨some 16,.call false 12 [],none⟩,xm 4 16]
abbrev r8_3:LO:=[⟨some 17,.load true 16 (.t 2) [6],none⟩,⟨some 18,.build zr6 [],none⟩,xC2 19 18 17 18,⟨some 20,.load true 16 (.t 2) [6],none⟩,xC1 21 28 20,⟨some 6,.alloc zr3,none⟩,xm 5 19,xs 9 6 21]
abbrev r8_4:LO:=[xf 23 0 2,xR 24 2 23,⟨some 25,.build zr6 [],none⟩,xm 26 5,xR 27 9 6,xC4 28 25 24 25 26 27,xm 22 28,xe 29 22 0,xe 30 22 1,xm 7 29,xm 8 30]
abbrev r8_5:LO:=[xf 31 2 3,xl 32 1 31,⟨some 33,.call false 29 [(.t 32),(.k (zi 8))],none⟩,⟨some 34,.bin .add (.k (zi 1)) (.t 33),none⟩,xf 35 0 3,xl 36 1 35,⟨some 37,.call false 29 [(.t 36),(.k (zi 5))],none⟩,⟨some 38,.bin .add (.k (zi 1)) (.t 37),none⟩,xf 39 1 3,xl 40 1 39,xf 41 0 2,xf 42 1 41,xl 43 1 42,xC2 44 29 40 43,xf 45 5 6,xs 1 45 34,xf 46 7 6,xs 1 46 38,xf 47 6 6,xs 1 47 44]
abbrev r8_6:LO:=[xf 49 0 2,xR 50 2 49,⟨some 51,.build zr6 [],none⟩,xm 52 5,xR 53 9 6,xC4 54 25 50 51 52 53,xm 48 54,xe 55 48 0,xe 56 48 1,xm 9 55,xm 10 56]
abbrev r8_7:LO:=[xf 57 5 6,xl 58 1 57,xc 59 .add 58 (zi 1),xf 60 5 6,xs 1 60 59]
abbrev r8_8:LO:=[xf 62 0 2,xR 63 2 62,⟨some 64,.build zr6 [],none⟩,xm 65 5,xR 66 9 6,xC4 67 25 63 64 65 66,xm 61 67,xe 68 61 0,xe 69 61 1,xm 11 68,xm 12 69]
abbrev r8_9:LO:=[xm 70 8,xc 71 .neq 70 (zi 0),xm 72 71,xh (xm 73 10) 72,xh (xc 74 .neq 73 (zi 0)) 72,xq 75 72 74,xm 76 75,xh (xm 77 12) 76,xh (xc 78 .neq 77 (zi 0)) 76,xq 79 76 78,xm 80 79,xh (xm 81 9) 80,xh (xn 82 81) 80,xh (xm 83 7) 80,xh (xn 84 83) 80,xh (xf 85 5 6) 80,xh (xl 86 1 85) 80,xh (xc 87 .sub 86 (zi 1)) 80,⟨some 88,.mm false (.t 84) [(.t 87)],(some (80,false))⟩,xh (xb 89 .neq 82 88) 80,xq 90 80 89,xm 91 90,xh (xm 92 11) 91,xh (xn 93 92) 91,xh (xm 94 7) 91,xh (xn 95 94) 91,xh (xf 96 5 6) 91,xh (xl 97 1 96) 91,⟨some 98,.mm false (.t 95) [(.t 97)],(some (91,false))⟩,xh (xb 99 .neq 93 98) 91,xq 100 91 99]
abbrev r8_10:LO:=[xk 4 (.bool false)]
abbrev r8_11:LO:=[xm 101 9,xm 102 7,xf 103 7 6,xl 104 1 103,xf 105 6 6,xl 106 1 105,xf 107 5 6,xl 108 1 107,xc 109 .sub 108 (zi 1),xC4 110 20 102 104 106 109,xC2 111 19 101 110,xm 112 111,xg (xm 113 9) 112,xg (xm 114 11) 112,xg (xm 115 9) 112,xg (xn 116 115) 112,⟨some 117,.slc 11 (.t 114) none (some (.t 116)),(some (112,true))⟩,xg (xC2 118 19 113 117) 112,xp 119 112 118,xm 120 119,⟨some 121,.call false 12 [],(some (120,true))⟩,xp 122 120 121,xm 4 122]
def p8:PC:=(sq (xo r8_0) (sq (sq (xo r8_1) (.cond (.t 15) (sq (xo r8_2) .ret) .skip)) (sq (xO r8_3) (sq (xo r8_4) (sq (xO r8_5) (sq (xo r8_6) (sq (xo r8_7) (sq (xo r8_8) (sq (sq (xo r8_9) (.cond (.t 100) (sq (xo r8_10) .ret) .skip)) (sq (xo r8_11) .ret))))))))))
def rs8:LR:=[.t 4]
theorem c8:chkF Tryz.prog Tryz.f8 2 p8 rs8=true:=by kernel_rfl
/- cuboid/cuboidlaw26.ExecLimits -/
abbrev r9_0:LO:=[xx 1 16 0,xk 2 (.bool false)]
abbrev r9_1:LO:=[xR 9 16 1,xC1 10 14 9,xu 11 10]
abbrev r9_2:LO:=[⟨some 12,.call false 12 [],none⟩,xm 2 12]
abbrev r9_3:LO:=[⟨some 13,.load true 16 (.t 1) [4],none⟩,⟨some 14,.build zr6 [],none⟩,xC2 15 18 13 14,xf 16 3 1,⟨some 17,.load true 9 (.t 16) [4],none⟩,⟨some 4,.alloc zr3,none⟩,xm 3 15,xs 9 4 17]
abbrev r9_4:LO:=[xf 18 8 4,⟨none,.store 1 (.t 18) (.k (zi 1000)) [],none⟩]
abbrev r9_5:LO:=[xf 20 0 1,xR 21 2 20,⟨some 22,.build zr6 [],none⟩,xm 23 3,xR 24 9 4,xC4 25 25 21 22 23 24,xm 19 25,xe 26 19 0,xe 27 19 1,xm 5 26,xm 6 27]
abbrev r9_6:LO:=[xf 29 0 1,xR 30 2 29,⟨some 31,.build zr6 [],none⟩,xm 32 3,xf 33 3 1,xR 34 9 33,xC4 35 25 30 31 32 34,xm 28 35,xe 36 28 0,xe 37 28 1,xm 7 36,xm 8 37]
abbrev r9_7:LO:=[xm 38 6,xc 39 .neq 38 (zi 0)]
abbrev r9_8:LO:=[xk 2 (.bool false)]
abbrev r9_9:LO:=[xm 40 5,xn 41 40,xf 42 3 1,xf 43 8 42,xl 44 1 43,xb 45 .gtr 41 44]
abbrev r9_10:LO:=[xm 46 8,xc 47 .eql 46 (zi 13),xm 48 47,xg (xm 49 7) 48,xg (xn 50 49) 48,xg (xc 51 .eql 50 (zi 0)) 48,xp 52 48 51,xm 53 52,⟨some 54,.call false 12 [],(some (53,true))⟩,xp 55 53 54,xm 2 55]
abbrev r9_11:LO:=[xm 56 8,xc 57 .eql 56 (zi 0),xm 58 57,xg (xm 59 5) 58,xg (xm 60 7) 58,xg (xC2 61 19 59 60) 58,xp 62 58 61,xm 63 62,⟨some 64,.call false 12 [],(some (63,true))⟩,xp 65 63 64,xm 2 65]
def p9:PC:=(sq (xo r9_0) (sq (sq (xo r9_1) (.cond (.t 11) (sq (xo r9_2) .ret) .skip)) (sq (xO r9_3) (sq (xo r9_4) (sq (xo r9_5) (sq (xo r9_6) (sq (sq (xo r9_7) (.cond (.t 39) (sq (xo r9_8) .ret) .skip)) (sq (sq (xo r9_9) (.cond (.t 45) (sq (xo r9_10) .ret) .skip)) (sq (xo r9_11) .ret)))))))))
def rs9:LR:=[.t 2]
theorem c9:chkF Tryz.prog Tryz.f9 1 p9 rs9=true:=by kernel_rfl
/- cuboid/cuboidlaw26.light -/
abbrev r11_0:LO:=[xx 1 20 0,xk 2 (.bool false)]
abbrev r11_1:LO:=[xf 4 0 1,xR 5 2 4,xC1 6 31 5,xu 7 6,xm 8 7,xh (xf 9 11 1) 8,xh (xR 10 9 9) 8,xh (xC1 11 32 10) 8,xh (xu 12 11) 8,xq 13 8 12,xm 14 13,xh (xf 15 10 1) 14,xh (xl 16 1 15) 14,xh (xn 17 16) 14,xh (xc 18 .gtr 17 (zi 30)) 14,xq 19 14 18]
abbrev r11_2:LO:=[xk 2 (.bool false)]
abbrev r11_3:LO:=[xk 3 (zi 0)]
abbrev r11_4:LO:=[xm 20 3,xf 21 10 1,xl 22 1 21,xn 23 22,xb 24 .lss 20 23]
abbrev r11_6:LO:=[xf 27 10 1,xl 28 1 27,xm 29 3,xi 30 9 28 29,xf 31 4 30,xR 32 5 31,xC1 33 33 32,xu 34 33]
abbrev r11_7:LO:=[xk 2 (.bool false)]
abbrev r11_5:LO:=[xm 25 3,xc 26 .add 25 (zi 1),xm 3 26]
def b11_0:PC:=(sq (sq (xo r11_4) (.cond (.t 24) .skip (.exit 0))) (sq (.block 1 (sq (xo r11_6) (.cond (.t 34) (sq (xo r11_7) .ret) .skip))) (xo r11_5)))
abbrev r11_8:LO:=[xk 2 (.bool true)]
def p11:PC:=(sq (xo r11_0) (sq (sq (xo r11_1) (.cond (.t 19) (sq (xo r11_2) .ret) .skip)) (sq (sq (xo r11_3) (.block 0 (.loop b11_0))) (sq (xo r11_8) .ret))))
def rs11:LR:=[.t 2]
theorem c11:chkF Tryz.prog Tryz.f11 1 p11 rs11=true:=by kernel_rfl
/- cuboid/cuboidlaw26.wakes -/
abbrev r12_0:LO:=[xk 0 (.bool false)]
abbrev r12_1:LO:=[⟨some 14,.build zr6 [(0,1,(.k (zu 1)))],none⟩,⟨some 15,.build zr1 [(0,4,(.t 14)),(4,1,(.k (zi 1)))],none⟩,⟨some 16,.build zr6 [(0,1,(.k (zu 2)))],none⟩,⟨some 17,.build zr1 [(0,4,(.t 16)),(4,1,(.k (zi 1)))],none⟩,⟨some 18,.build zr6 [(0,1,(.k (zu 3)))],none⟩,⟨some 19,.build zr1 [(0,4,(.t 18)),(4,1,(.k (zi 1)))],none⟩,⟨some 1,.alloc zr1,none⟩,⟨some 2,.alloc zr1,none⟩,⟨some 3,.alloc zr1,none⟩,xs 11 1 15,xs 11 2 17,xs 11 3 19]
abbrev r12_2:LO:=[xf 20 5 1,⟨some 21,.iaA 2 1 (.t 20) (.k (zi 0)),none⟩,⟨none,.store 1 (.t 21) (.k (zi 1)) [],none⟩,xf 22 5 2,⟨some 23,.iaA 2 1 (.t 22) (.k (zi 0)),none⟩,⟨none,.store 1 (.t 23) (.k (zi 3)) [],none⟩,xf 24 5 3,⟨some 25,.iaA 2 1 (.t 24) (.k (zi 0)),none⟩,⟨none,.store 1 (.t 25) (.k (zi 2)) [],none⟩]
abbrev r12_3:LO:=[xR 26 11 1,xR 27 11 2,xR 28 11 3,⟨some 29,.bsl 11 3 zr1 [(0,(.t 26)),(1,(.t 27)),(2,(.t 28))] false,none⟩,⟨some 30,.call false 20 [(.t 29),(.k (zi 2)),(.k (zi 0)),(.k (zi 2))],none⟩,xm 4 30]
abbrev r12_4:LO:=[⟨some 31,.bsl 1 2 [zi 0] [(0,(.k (zi 4))),(1,(.k (zi 2)))] false,none⟩,⟨some 32,.bsl 1 4 [zi 0] [(0,(.k (zi 0))),(1,(.k (zi 0))),(2,(.k (zi 1))),(3,(.k (zi 1)))] false,none⟩,⟨some 33,.bsl 1 1 [.sl []] [(0,(.t 32))] false,none⟩,⟨some 34,.build zr8 [(0,1,(.t 31)),(1,1,(.t 33))],none⟩,⟨some 35,.bsl 2 1 zr8 [(0,(.t 34))] false,none⟩,⟨some 36,.build zr9 [(0,1,(.t 35)),(1,1,(.k (zi 1)))],none⟩,⟨some 5,.alloc zr9,none⟩,xs 2 5 36]
abbrev r12_5:LO:=[⟨some 37,.build zr6 [(0,1,(.k (zu 2)))],none⟩,⟨some 38,.build zr4 [(0,4,(.t 37))],none⟩,⟨some 39,.build zr6 [(0,1,(.k (zu 3)))],none⟩,⟨some 40,.build zr4 [(0,4,(.t 39))],none⟩,⟨some 41,.bsl 6 2 zr4 [(0,(.t 38)),(1,(.t 40))] false,none⟩,xm 6 41]
abbrev r12_6:LO:=[xR 42 2 5,xm 43 6,⟨some 44,.build zr6 [],none⟩,xC3 45 34 42 43 44,⟨some 46,.fld false 0 1 (.t 45),none⟩,xm 7 46]
abbrev r12_7:LO:=[xR 48 2 5,⟨some 49,.build zr6 [],none⟩,⟨some 50,.build zr6 [(0,1,(.k (zu 1)))],none⟩,xm 51 7,xC4 52 24 48 49 50 51,xm 47 52,xe 53 47 0,xe 54 47 1,xm 8 53,xm 9 54]
abbrev r12_8:LO:=[xR 56 2 5,⟨some 57,.build zr6 [],none⟩,xm 58 7,⟨some 59,.build zr6 [(0,1,(.k (zu 1)))],none⟩,⟨some 60,.build zr3 [(0,4,(.t 59)),(8,1,(.k (zi 1)))],none⟩,xC4 61 25 56 57 58 60,xm 55 61,xe 62 55 0,xe 63 55 1,xm 10 62,xm 11 63]
abbrev r12_9:LO:=[xR 65 2 5,⟨some 66,.build zr6 [],none⟩,xm 67 7,⟨some 68,.build zr3 [(8,1,(.k (zi 1)))],none⟩,xC4 69 25 65 66 67 68,xm 64 69,xe 70 64 0,xe 71 64 1,xm 12 70,xm 13 71]
abbrev r12_10:LO:=[xm 72 4,xn 73 72,xc 74 .eql 73 (zi 2),xm 75 74,xg (xm 76 4) 75,⟨some 77,.iaS 11 (.t 76) (.k (zi 0)),(some (75,true))⟩,xg (xR 78 11 77) 75,xg (xR 79 11 2) 75,⟨some 80,.eqs false true [.i,.i,.i,.i,.i,.i,.i,.i,.i,.i,.i] (.t 78) (.t 79),(some (75,true))⟩,xp 81 75 80,xm 82 81,xg (xm 83 4) 82,⟨some 84,.iaS 11 (.t 83) (.k (zi 1)),(some (82,true))⟩,xg (xR 85 11 84) 82,xg (xR 86 11 3) 82,⟨some 87,.eqs false true [.i,.i,.i,.i,.i,.i,.i,.i,.i,.i,.i] (.t 85) (.t 86),(some (82,true))⟩,xp 88 82 87,xm 89 88,xg (xm 90 9) 89,xp 91 89 90,xm 92 91,xg (xm 93 8) 92,xg (xn 94 93) 92,xg (xc 95 .eql 94 (zi 1)) 92,xp 96 92 95,xm 97 96,xg (xm 98 8) 97,⟨some 99,.iaS 9 (.t 98) (.k (zi 0)),(some (97,true))⟩,xg (xf 100 4 99) 97,xg (xf 101 0 100) 97,xg (xl 102 1 101) 97,xg (xc 103 .eql 102 (zi 2)) 97,xp 104 97 103,xm 105 104,xg (xR 106 2 5) 105,⟨some 107,.build zr6 [(0,1,(.k (zu 1)))],(some (105,true))⟩,xg (xm 108 8) 105,xg (xC3 109 26 106 107 108) 105,xp 110 105 109,xm 111 110,⟨some 112,.load true 2 (.t 5) [114,116,118],(some (111,true))⟩,⟨some 113,.build zr6 [],(some (111,true))⟩,⟨some 114,.bsl 9 0 zr2 [] true,(some (111,true))⟩,xg (xm 115 7) 111,⟨some 116,.app 9 (.t 114) (.t 115) true,(some (111,true))⟩,xg (xm 117 7) 111,⟨some 118,.app 9 (.t 116) (.t 117) false,(some (111,true))⟩,xg (xC3 119 26 112 113 118) 111,xg (xu 120 119) 111,xp 121 111 120,xm 122 121,xg (xm 123 11) 122,xg (xc 124 .eql 123 (zi 0)) 122,xp 125 122 124,xm 126 125,xg (xm 127 10) 126,xg (xn 128 127) 126,xg (xc 129 .eql 128 (zi 1)) 126,xp 130 126 129,xm 131 130,xg (xm 132 10) 131,⟨some 133,.iaS 11 (.t 132) (.k (zi 0)),(some (131,true))⟩,xg (xf 134 4 133) 131,xg (xl 135 1 134) 131,xg (xc 136 .eql 135 (zi 2)) 131,xp 137 131 136,xm 138 137,xg (xm 139 10) 138,⟨some 140,.iaS 11 (.t 139) (.k (zi 0)),(some (138,true))⟩,xg (xf 141 0 140) 138,xg (xR 142 4 141) 138,⟨some 143,.build zr6 [(0,1,(.k (zu 1)))],(some (138,true))⟩,⟨some 144,.eqs false true [.i,.i,.i,.i] (.t 142) (.t 143),(some (138,true))⟩,xp 145 138 144,xm 146 145,xg (xm 147 13) 146,xg (xc 148 .eql 147 (zi 13)) 146,xp 149 146 148,xm 0 149]
def p12:PC:=(sq (xo r12_0) (sq (xo r12_1) (sq (xo r12_2) (sq (xo r12_3) (sq (xo r12_4) (sq (xo r12_5) (sq (xo r12_6) (sq (xo r12_7) (sq (xo r12_8) (sq (xo r12_9) (sq (.opsB r12_10 [(1,0),(5,0),(6,0),(7,2),(12,0),(13,0),(14,3),(22,0),(27,0),(28,0),(29,0),(30,0),(34,5),(40,5),(44,114),(46,116),(56,0),(61,0),(62,0),(63,0),(68,0),(69,0),(70,0)]) .ret)))))))))))
def rs12:LR:=[.t 0]
theorem c12:chkF Tryz.prog Tryz.f12 0 p12 rs12=true:=by kernel_rfl
/- cuboid/cuboidlaw26.told -/
abbrev r13_0:LO:=[xx 1 20 0,xk 2 (.bool false)]
abbrev r13_1:LO:=[xf 10 0 1,xR 11 2 10,xf 12 2 1,xR 13 4 12,xf 14 6 1,xR 15 4 14,xf 16 10 1,xl 17 1 16,xC4 18 24 11 13 15 17,xm 9 18,xe 19 9 0,xe 20 9 1,xm 3 19,xm 4 20]
abbrev r13_2:LO:=[xf 21 0 1,xR 22 2 21,xf 23 2 1,xR 24 4 23,xf 25 6 1,xR 26 4 25,xf 27 10 1,xl 28 1 27,xC4 29 35 22 24 26 28,⟨some 5,.alloc [.sl [],.bool false],none⟩,xs 2 5 29]
abbrev r13_3:LO:=[xf 31 0 1,xR 32 2 31,xf 33 2 1,xR 34 4 33,xf 35 10 1,xl 36 1 35,xf 37 11 1,xR 38 9 37,xC4 39 25 32 34 36 38,xm 30 39,xe 40 30 0,xe 41 30 1,xm 6 40,xm 7 41]
abbrev r13_4:LO:=[xf 42 0 1,xR 43 2 42,xf 44 2 1,xR 45 4 44,xf 46 10 1,xl 47 1 46,xf 48 11 1,xR 49 9 48,xC4 50 36 43 45 47 49,⟨some 8,.alloc zr9,none⟩,xs 2 8 50]
abbrev r13_5:LO:=[xf 51 0 1,xR 52 2 51,xf 53 2 1,xR 54 4 53,xf 55 10 1,xl 56 1 55,xC3 57 26 52 54 56,xf 58 0 1,xR 59 2 58,xf 60 2 1,xR 61 4 60,xf 62 10 1,xl 63 1 62,xC3 64 37 59 61 63,⟨some 65,.eqs false false [.b] (.t 57) (.t 64),none⟩,xm 66 65,xg (xm 67 4) 66,xg (xf 68 1 5) 66,xg (xl 69 1 68) 66,⟨some 70,.eqs false false [.b] (.t 67) (.t 69),(some (66,true))⟩,xp 71 66 70,xm 72 71,xg (xm 73 3) 72,xg (xf 74 0 5) 72,xg (xl 75 1 74) 72,xg (xC2 76 27 73 75) 72,xp 77 72 76,xm 78 77,xg (xm 79 7) 78,xg (xf 80 1 8) 78,xg (xl 81 1 80) 78,xg (xb 82 .eql 79 81) 78,xp 83 78 82,xm 84 83,xg (xm 85 6) 84,xg (xf 86 0 8) 84,xg (xl 87 1 86) 84,xg (xC2 88 19 85 87) 84,xp 89 84 88,xm 2 89]
def p13:PC:=(sq (xo r13_0) (sq (xo r13_1) (sq (xo r13_2) (sq (xo r13_3) (sq (xo r13_4) (sq (xO r13_5) .ret))))))
def rs13:LR:=[.t 2]
theorem c13:chkF Tryz.prog Tryz.f13 1 p13 rs13=true:=by kernel_rfl
/- (cuboid/cuboidlaw26.Rows).may -/
abbrev r14_0:LO:=[xx 1 16 0,xk 2 (.bool false)]
abbrev r14_1:LO:=[xf 3 0 1,xR 4 2 3,xC1 5 31 4,xm 6 5,xg (xf 7 3 1) 6,xg (xR 8 9 7) 6,xg (xC1 9 32 8) 6,xp 10 6 9,xm 11 10,xg (xf 12 2 1) 11,xg (xl 13 1 12) 11,xg (xn 14 13) 11,xg (xc 15 .leq 14 (zi 60)) 11,xp 16 11 15,xm 17 16,xg (xf 18 0 1) 17,xg (xR 19 2 18) 17,xg (xf 20 2 1) 17,xg (xl 21 1 20) 17,xg (xC2 22 38 19 21) 17,xp 23 17 22,xm 24 23,xg (xf 25 0 1) 24,xg (xR 26 2 25) 24,xg (xf 27 3 1) 24,xg (xR 28 9 27) 24,xg (xC2 29 39 26 28) 24,xp 30 24 29,xm 31 30,xg (xf 32 0 1) 31,xg (xR 33 2 32) 31,xg (xf 34 12 1) 31,xg (xR 35 4 34) 31,xg (xC2 36 40 33 35) 31,xp 37 31 36,xm 2 37]
def p14:PC:=(sq (xo r14_0) (sq (xo r14_1) .ret))
def rs14:LR:=[.t 2]
theorem c14:chkF Tryz.prog Tryz.f14 1 p14 rs14=true:=by kernel_rfl
/- cuboid/cuboidref05.Meet -/
abbrev r15_0:LO:=[xx 2 4 0,xx 3 4 1,⟨some 4,.alloc zr6,none⟩]
abbrev r15_1:LO:=[xk 5 (zi 0)]
abbrev r15_2:LO:=[xm 6 5,xc 7 .lss 6 (zi 4)]
abbrev r15_4:LO:=[xm 10 5,xm 11 5,⟨some 12,.iaA 4 1 (.t 2) (.t 11),none⟩,xl 13 1 12,xm 14 5,⟨some 15,.iaA 4 1 (.t 3) (.t 14),none⟩,xl 16 1 15,⟨some 17,.mm false (.t 13) [(.t 16)],none⟩,⟨some 18,.iaA 4 1 (.t 2) (.t 10),none⟩,xs 1 18 17]
abbrev r15_3:LO:=[xm 8 5,xc 9 .add 8 (zi 1),xm 5 9]
def b15_0:PC:=(sq (sq (xo r15_2) (.cond (.t 7) .skip (.exit 0))) (sq (.block 1 (xO r15_4)) (xo r15_3)))
abbrev r15_5:LO:=[xR 19 4 2,xs 4 4 19]
def p15:PC:=(sq (xo r15_0) (sq (sq (xo r15_1) (.block 0 (.loop b15_0))) (sq (xo r15_5) .ret)))
def rs15:LR:=[.cell 4 true 4]
theorem c15:chkF Tryz.prog Tryz.f15 2 p15 rs15=true:=by kernel_rfl
/- cuboid/cuboidref25.Need -/
abbrev r16_0:LO:=[xx 2 2 0,xx 3 9 1,⟨some 4,.alloc zr6,none⟩]
abbrev r16_1:LO:=[xR 8 2 2,xR 9 9 3,xC2 10 39 8 9,xu 11 10]
abbrev r16_2:LO:=[⟨some 12,.build zr6 [],none⟩,xs 4 4 12]
abbrev r16_3:LO:=[xf 13 0 3,xR 14 4 13,⟨some 5,.alloc zr6,none⟩,xs 4 5 14]
abbrev r16_4:LO:=[xk 6 (zi 0)]
abbrev r16_5:LO:=[xm 15 6,xf 16 4 3,xl 17 1 16,xn 18 17,xb 19 .lss 15 18]
abbrev r16_7:LO:=[xf 22 4 3,xl 23 1 22,xm 24 6,xi 25 3 23 24,xR 26 3 25,⟨some 7,.alloc zr7,none⟩,xs 3 7 26]
abbrev r16_8:LO:=[xf 27 1 7,xl 28 1 27,xf 29 0 7,xl 30 1 29,⟨some 31,.iaA 4 1 (.t 5) (.t 30),none⟩,xl 32 1 31,⟨some 33,.conv .i64 (.t 32),none⟩,xb 34 .lss 28 33]
abbrev r16_9:LO:=[xf 35 0 7,xl 36 1 35,xf 37 1 7,xl 38 1 37,⟨some 39,.conv .u8 (.t 38),none⟩,⟨some 40,.iaA 4 1 (.t 5) (.t 36),none⟩,xs 1 40 39]
abbrev r16_6:LO:=[xm 20 6,xc 21 .add 20 (zi 1),xm 6 21]
def b16_0:PC:=(sq (sq (xo r16_5) (.cond (.t 19) .skip (.exit 0))) (sq (.block 1 (sq (xo r16_7) (sq (xO r16_8) (.cond (.t 34) (xo r16_9) .skip)))) (xo r16_6)))
abbrev r16_10:LO:=[xR 41 4 5,xs 4 4 41]
def p16:PC:=(sq (xo r16_0) (sq (sq (xo r16_1) (.cond (.t 11) (sq (xo r16_2) .ret) .skip)) (sq (xo r16_3) (sq (sq (xo r16_4) (.block 0 (.loop b16_0))) (sq (xo r16_10) .ret)))))
def rs16:LR:=[.cell 4 true 4]
theorem c16:chkF Tryz.prog Tryz.f16 2 p16 rs16=true:=by kernel_rfl
/- cuboid/cuboidref05.Join -/
abbrev r17_0:LO:=[xx 2 4 0,xx 3 4 1,⟨some 4,.alloc zr6,none⟩]
abbrev r17_1:LO:=[xk 5 (zi 0)]
abbrev r17_2:LO:=[xm 6 5,xc 7 .lss 6 (zi 4)]
abbrev r17_4:LO:=[xm 10 5,xm 11 5,⟨some 12,.iaA 4 1 (.t 2) (.t 11),none⟩,xl 13 1 12,xm 14 5,⟨some 15,.iaA 4 1 (.t 3) (.t 14),none⟩,xl 16 1 15,⟨some 17,.mm true (.t 13) [(.t 16)],none⟩,⟨some 18,.iaA 4 1 (.t 2) (.t 10),none⟩,xs 1 18 17]
abbrev r17_3:LO:=[xm 8 5,xc 9 .add 8 (zi 1),xm 5 9]
def b17_0:PC:=(sq (sq (xo r17_2) (.cond (.t 7) .skip (.exit 0))) (sq (.block 1 (xO r17_4)) (xo r17_3)))
abbrev r17_5:LO:=[xR 19 4 2,xs 4 4 19]
def p17:PC:=(sq (xo r17_0) (sq (sq (xo r17_1) (.block 0 (.loop b17_0))) (sq (xo r17_5) .ret)))
def rs17:LR:=[.cell 4 true 4]
theorem c17:chkF Tryz.prog Tryz.f17 2 p17 rs17=true:=by kernel_rfl
/- (cuboid/cuboidlaw26.Rows).scan -/
abbrev r18_0:LO:=[xx 2 16 0,xx 3 4 1,xk 4 (.sl [])]
abbrev r18_1:LO:=[xf 5 0 2,xR 6 2 5,xf 7 2 2,xl 8 1 7,xR 9 4 3,xC3 10 34 6 8 9,⟨some 11,.fld false 0 1 (.t 10),none⟩,xm 4 11]
def p18:PC:=(sq (xo r18_0) (sq (xo r18_1) .ret))
def rs18:LR:=[.t 4]
theorem c18:chkF Tryz.prog Tryz.f18 2 p18 rs18=true:=by kernel_rfl
/- cuboid/cuboidref26.Same -/
abbrev r19_0:LO:=[xk 4 (.bool false)]
abbrev r19_1:LO:=[xm 6 0,xn 7 6,xm 8 1,xn 9 8,xb 10 .neq 7 9]
abbrev r19_2:LO:=[xk 4 (.bool false)]
abbrev r19_3:LO:=[xk 5 (zi 0)]
abbrev r19_4:LO:=[xm 11 5,xm 12 0,xn 13 12,xb 14 .lss 11 13]
abbrev r19_6:LO:=[xm 17 0,xm 18 5,xi 19 11 17 18,xR 20 11 19,xm 21 1,xm 22 5,xi 23 11 21 22,xR 24 11 23,⟨some 25,.eqs true true [.i,.i,.i,.i,.i,.i,.i,.i,.i,.i,.i] (.t 20) (.t 24),none⟩]
abbrev r19_7:LO:=[xk 4 (.bool false)]
abbrev r19_5:LO:=[xm 15 5,xc 16 .add 15 (zi 1),xm 5 16]
def b19_0:PC:=(sq (sq (xo r19_4) (.cond (.t 14) .skip (.exit 0))) (sq (.block 1 (sq (xO r19_6) (.cond (.t 25) (sq (xo r19_7) .ret) .skip))) (xo r19_5)))
abbrev r19_8:LO:=[xk 4 (.bool true)]
def p19:PC:=(sq (xo r19_0) (sq (sq (xo r19_1) (.cond (.t 10) (sq (xo r19_2) .ret) .skip)) (sq (sq (xo r19_3) (.block 0 (.loop b19_0))) (sq (xo r19_8) .ret))))
def rs19:LR:=[.t 4]
theorem c19:chkF Tryz.prog Tryz.f19 2 p19 rs19=true:=by kernel_rfl
/- cuboid/exec.Best -/
abbrev r20_0:LO:=[xx 5 1 1,xx 6 1 2,xk 8 (.sl [])]
abbrev r20_1:LO:=[xm 10 0,⟨some 11,.call true 41 [(.t 10)],none⟩,xm 9 11]
abbrev r20_2:LO:=[xm 12 9,⟨some 13,.mkf 43 [(.t 5),(.t 6)],none⟩,⟨some 14,.call true 42 [(.t 12),(.t 13)],none⟩]
abbrev r20_3:LO:=[xm 15 9,xm 16 3,xm 17 9,xn 18 17,⟨some 19,.mm false (.t 16) [(.t 18)],none⟩,⟨some 20,.mm true (.k (zi 0)) [(.t 19)],none⟩,⟨some 21,.slc 11 (.t 15) none (some (.t 20)),none⟩,xm 9 21]
abbrev r20_4:LO:=[xm 22 9,xC1 23 47 22,xm 8 23]
def p20:PC:=(sq (xo r20_0) (sq (xo r20_1) (sq (.fzv 6 (.fzv 5 (xo r20_2))) (sq (.fz 9 (xo r20_3)) (sq (xo r20_4) .ret)))))
def rs20:LR:=[.t 8]
theorem c20:chkF Tryz.prog Tryz.f20 4 p20 rs20=true:=by kernel_rfl
/- cuboid/cuboidref26.Best -/
abbrev r21_0:LO:=[xk 8 (.sl [])]
abbrev r21_1:LO:=[xk 9 (.sl [])]
abbrev r21_2:LO:=[xk 10 (zi 0)]
abbrev r21_3:LO:=[xm 12 10,xm 13 0,xn 14 13,xb 15 .lss 12 14]
abbrev r21_5:LO:=[xk 11 (zi 0)]
abbrev r21_6:LO:=[xm 18 11,xm 19 9,xn 20 19,xb 21 .lss 18 20,xm 22 21,xg (xm 23 1) 22,xg (xm 24 2) 22,xg (xm 25 9) 22,xg (xm 26 11) 22,xg (xi 27 11 25 26) 22,xg (xR 28 11 27) 22,xg (xm 29 0) 22,xg (xm 30 10) 22,xg (xi 31 11 29 30) 22,xg (xR 32 11 31) 22,xg (xC4 33 48 23 24 28 32) 22,xp 34 22 33]
abbrev r21_7:LO:=[xm 35 11,xc 36 .add 35 (zi 1),xm 11 36]
def b21_1:PC:=(sq (sq (xO r21_6) (.cond (.t 34) .skip (.exit 2))) (.block 3 (xo r21_7)))
abbrev r21_8:LO:=[⟨some 37,.bsl 11 0 zr1 [] true,none⟩,xm 38 9,xm 39 11,⟨some 40,.slc 11 (.t 38) none (some (.t 39)),none⟩,⟨some 41,.app 11 (.t 37) (.t 40) true,none⟩,xm 42 0,xm 43 10,xi 44 11 42 43,⟨some 45,.load true 11 (.t 44) [37,41],none⟩,⟨some 46,.bsl 11 1 zr1 [(0,(.t 45))] false,none⟩,⟨some 47,.app 11 (.t 41) (.t 46) true,none⟩,xm 48 9,xm 49 11,⟨some 50,.slc 11 (.t 48) (some (.t 49)) none,none⟩,⟨some 51,.app 11 (.t 47) (.t 50) false,none⟩,xm 9 51]
abbrev r21_4:LO:=[xm 16 10,xc 17 .add 16 (zi 1),xm 10 17]
def b21_0:PC:=(sq (sq (xo r21_3) (.cond (.t 15) .skip (.exit 0))) (sq (.block 1 (sq (xo r21_5) (sq (.block 2 (.loop b21_1)) (.opsB r21_8 [(4,37),(7,0),(8,0),(10,41),(14,47)])))) (xo r21_4)))
abbrev r21_9:LO:=[xm 52 9,xm 53 9,xn 54 53,xm 55 3,⟨some 56,.mm true (.t 55) [(.k (zi 0))],none⟩,⟨some 57,.mm false (.t 54) [(.t 56)],none⟩,⟨some 58,.slc 11 (.t 52) none (some (.t 57)),none⟩,xm 8 58]
def p21:PC:=(sq (xo r21_0) (sq (xo r21_1) (sq (sq (xo r21_2) (.block 0 (.loop b21_0))) (sq (xo r21_9) .ret))))
def rs21:LR:=[.t 8]
theorem c21:chkF Tryz.prog Tryz.f21 4 p21 rs21=true:=by kernel_rfl
/- cuboid/cuboidref09.Ahead -/
abbrev r22_0:LO:=[xx 6 11 2,xx 7 11 3,xk 8 (zi 0)]
abbrev r22_1:LO:=[xm 9 0,xc 10 .eql 9 (zi 1)]
abbrev r22_2:LO:=[xf 11 4 7,xl 12 1 11,xC1 13 50 12,xf 14 4 6,xl 15 1 14,xC1 16 50 15,xC2 17 49 13 16,xm 8 17]
abbrev r22_3:LO:=[xm 18 1,xc 19 .lss 18 (zi 0),xm 20 19,xh (xm 21 1) 20,xh (xc 22 .geq 21 (zi 2)) 20,xq 23 20 22]
abbrev r22_4:LO:=[xk 8 (zi 0)]
abbrev r22_5:LO:=[xm 24 0]
abbrev r22_6:LO:=[xc 26 .eql 24 (zi 2),xm 25 26]
abbrev r22_7:LO:=[xm 27 1,xf 28 5 7,⟨some 29,.iaA 2 1 (.t 28) (.t 27),none⟩,xl 30 1 29,xC1 31 50 30,xm 32 1,xf 33 5 6,⟨some 34,.iaA 2 1 (.t 33) (.t 32),none⟩,xl 35 1 34,xC1 36 50 35,xC2 37 49 31 36,xm 8 37]
abbrev r22_8:LO:=[xc 39 .eql 24 (zi 3),xm 38 39]
abbrev r22_9:LO:=[xm 40 1,xf 41 7 7,⟨some 42,.iaA 2 1 (.t 41) (.t 40),none⟩,xl 43 1 42,xC1 44 50 43,xm 45 1,xf 46 7 6,⟨some 47,.iaA 2 1 (.t 46) (.t 45),none⟩,xl 48 1 47,xC1 49 50 48,xC2 50 49 44 49,xm 8 50]
abbrev r22_10:LO:=[xc 52 .eql 24 (zi 4),xm 51 52]
abbrev r22_11:LO:=[xm 53 1,xf 54 9 7,⟨some 55,.iaA 2 1 (.t 54) (.t 53),none⟩,xl 56 1 55,xC1 57 50 56,xm 58 1,xf 59 9 6,⟨some 60,.iaA 2 1 (.t 59) (.t 58),none⟩,xl 61 1 60,xC1 62 50 61,xC2 63 49 57 62,xm 8 63]
abbrev r22_12:LO:=[xc 65 .eql 24 (zi 5),xm 64 65]
abbrev r22_13:LO:=[xm 66 1,xf 67 5 7,⟨some 68,.iaA 2 1 (.t 67) (.t 66),none⟩,xl 69 1 68,xf 70 4 6,xl 71 1 70,⟨some 72,.mm true (.t 71) [(.k (zi 1))],none⟩,xC2 73 51 69 72,xm 74 1,xf 75 5 6,⟨some 76,.iaA 2 1 (.t 75) (.t 74),none⟩,xl 77 1 76,xf 78 4 7,xl 79 1 78,⟨some 80,.mm true (.t 79) [(.k (zi 1))],none⟩,xC2 81 51 77 80,xC2 82 49 73 81,xm 8 82]
abbrev r22_14:LO:=[xk 8 (zi 0)]
def p22:PC:=(sq (xo r22_0) (sq (sq (xo r22_1) (.cond (.t 10) (sq (xO r22_2) .ret) .skip)) (sq (sq (xo r22_3) (.cond (.t 23) (sq (xo r22_4) .ret) .skip)) (sq (sq (xo r22_5) (.block 0 (sq (xo r22_6) (.cond (.t 25) (sq (xO r22_7) .ret) (sq (xo r22_8) (.cond (.t 38) (sq (xO r22_9) .ret) (sq (xo r22_10) (.cond (.t 51) (sq (xO r22_11) .ret) (sq (xo r22_12) (.cond (.t 64) (sq (xO r22_13) .ret) .skip)))))))))) (sq (xo r22_14) .ret)))))
def rs22:LR:=[.t 8]
theorem c22:chkF Tryz.prog Tryz.f22 4 p22 rs22=true:=by kernel_rfl
/- cuboid/cuboidref02.Key -/
abbrev r23_0:LO:=[xx 1 4 0,xk 2 (.int .u32 0)]
abbrev r23_1:LO:=[xk 3 (.int .u32 0)]
abbrev r23_2:LO:=[xk 4 (zi 0)]
abbrev r23_3:LO:=[xm 5 4,xc 6 .lss 5 (zi 4)]
abbrev r23_5:LO:=[xm 9 3,xc 10 .mul 9 (.int .u32 256),xm 11 4,⟨some 12,.iaA 4 1 (.t 1) (.t 11),none⟩,xl 13 1 12,⟨some 14,.conv .u32 (.t 13),none⟩,xb 15 .add 10 14,xm 3 15]
abbrev r23_4:LO:=[xm 7 4,xc 8 .add 7 (zi 1),xm 4 8]
def b23_0:PC:=(sq (sq (xo r23_3) (.cond (.t 6) .skip (.exit 0))) (sq (.block 1 (xo r23_5)) (xo r23_4)))
abbrev r23_6:LO:=[xm 16 3,xm 2 16]
def p23:PC:=(sq (xo r23_0) (sq (xo r23_1) (sq (sq (xo r23_2) (.block 0 (.loop b23_0))) (sq (xo r23_6) .ret))))
def rs23:LR:=[.t 2]
theorem c23:chkF Tryz.prog Tryz.f23 1 p23 rs23=true:=by kernel_rfl
/- cuboid/exec.Up -/
abbrev r24_0:LO:=[xx 4 2 0,xx 5 4 1,xx 6 4 2,xk 8 (.sl []),xk 9 (.bool false)]
abbrev r24_1:LO:=[xR 10 2 4,xR 11 4 5,xm 12 3,xC3 13 26 10 11 12,xu 14 13,xm 15 14,xh (xR 16 2 4) 15,xh (xR 17 4 6) 15,xh (xC2 18 52 16 17) 15,xh (xu 19 18) 15,xq 20 15 19,xm 21 20,xh (xR 22 4 5) 21,xh (xR 23 4 6) 21,xh (xC2 24 53 22 23) 21,xh (xu 25 24) 21,xq 26 21 25]
abbrev r24_2:LO:=[xk 8 (.sl []),xk 9 (.bool false)]
abbrev r24_3:LO:=[xR 27 2 4,xR 28 4 5,xR 29 4 6,xm 30 3,xC4 31 54 27 28 29 30,xe 32 31 0,xe 33 31 1,xm 8 32,xm 9 33]
def p24:PC:=(sq (xo r24_0) (sq (sq (xo r24_1) (.cond (.t 26) (sq (xo r24_2) .ret) .skip)) (sq (xo r24_3) .ret)))
def rs24:LR:=[.t 8,.t 9]
theorem c24:chkF Tryz.prog Tryz.f24 4 p24 rs24=true:=by kernel_rfl
/- cuboid/exec.Lines -/
abbrev r25_0:LO:=[xx 4 2 0,xx 5 4 1,xx 7 9 3,xk 8 (.sl []),xk 9 (zi 0)]
abbrev r25_1:LO:=[xR 16 2 4,xR 17 9 7,xC2 18 55 16 17,xu 19 18,xm 20 19,xh (xR 21 2 4) 20,xh (xR 22 4 5) 20,xh (xC2 23 52 21 22) 20,xh (xu 24 23) 20,xq 25 20 24,xm 26 25,xh (xR 27 4 5) 26,xh (xR 28 2 4) 26,xh (xR 29 9 7) 26,xh (xC2 30 56 28 29) 26,xh (xC2 31 53 27 30) 26,xh (xu 32 31) 26,xq 33 26 32,xm 15 33]
abbrev r25_2:LO:=[xk 8 (.sl []),xk 9 (zi 2)]
abbrev r25_3:LO:=[xR 35 2 4,xR 36 4 5,xm 37 2,xC3 38 26 35 36 37,xu 39 38,xm 34 39]
abbrev r25_4:LO:=[xk 8 (.sl []),xk 9 (zi 1)]
abbrev r25_5:LO:=[xR 41 2 4,xR 42 4 5,xf 43 0 7,xR 44 4 43,xR 45 2 4,xR 46 4 5,xm 47 2,xf 48 4 7,xl 49 1 48,xC4 50 57 45 46 47 49,xC4 51 54 41 42 44 50,xm 40 51,xe 52 40 0,xe 53 40 1,xm 10 52,xm 11 53]
abbrev r25_6:LO:=[xm 54 11,xu 55 54]
abbrev r25_7:LO:=[xk 8 (.sl []),xk 9 (zi 9)]
abbrev r25_8:LO:=[⟨some 12,.own0 11,none⟩]
abbrev r25_9:LO:=[xm 56 10,xn 57 56,xk 58 (zi 0)]
abbrev r25_10:LO:=[xb 59 .lss 58 57]
abbrev r25_11:LO:=[xi 60 9 56 58,xR 61 9 60,⟨some 14,.alloc zr2,none⟩,xs 9 14 61]
abbrev r25_12:LO:=[xm 62 12,xf 63 1 4,xl 64 1 63,xf 65 0 14,xR 66 4 65,xf 67 4 14,xR 68 5 67,xC3 69 58 64 66 68,⟨some 70,.bsl 11 1 zr1 [(0,(.t 69))] false,none⟩,⟨some 71,.app 11 (.t 62) (.t 70) true,none⟩,xm 12 71]
abbrev r25_13:LO:=[xc 72 .add 58 (zi 1),xm 58 72]
def b25_0:PC:=(sq (xo r25_10) (sq (.cond (.t 59) .skip (.exit 1)) (sq (.block 2 (sq (xo r25_11) (xo r25_12))) (xo r25_13))))
abbrev r25_14:LO:=[xf 73 5 7,xl 74 1 73,xc 75 .gtr 74 (zi 0)]
abbrev r25_15:LO:=[xm 76 12,xf 77 7 7,xl 78 1 77,xf 79 6 7,xl 80 1 79,xf 81 5 7,xl 82 1 81,xC4 83 20 76 78 80 82,xm 12 83]
abbrev r25_16:LO:=[xm 84 12,xn 85 84,xf 86 8 7,xl 87 1 86,xb 88 .gtr 85 87]
abbrev r25_17:LO:=[xk 8 (.sl []),xk 9 (zi 13)]
abbrev r25_18:LO:=[xm 89 12,xm 8 89,xk 9 (zi 0)]
def p25:PC:=(sq (xo r25_0) (sq (.block 0 (sq (xO r25_1) (.cond (.t 15) (sq (xo r25_2) .ret) (sq (xo r25_3) (.cond (.t 34) (sq (xo r25_4) .ret) .skip))))) (sq (xO r25_5) (sq (sq (xo r25_6) (.cond (.t 55) (sq (xo r25_7) .ret) .skip)) (sq (xo r25_8) (sq (sq (xo r25_9) (.block 1 (.loop b25_0))) (sq (sq (xo r25_14) (.cond (.t 75) (.fz 12 (xo r25_15)) .skip)) (sq (sq (xo r25_16) (.cond (.t 88) (sq (xo r25_17) .ret) .skip)) (sq (xo r25_18) .ret)))))))))
def rs25:LR:=[.t 8,.t 9]
theorem c25:chkF Tryz.prog Tryz.f25 4 p25 rs25=true:=by kernel_rfl
/- cuboid/exec.Good -/
abbrev r26_0:LO:=[xx 3 2 0,xx 4 4 1,xk 6 (.bool false)]
abbrev r26_1:LO:=[xR 9 2 3,xR 10 4 4,xC2 11 52 9 10,xu 12 11]
abbrev r26_2:LO:=[xk 6 (.bool false)]
abbrev r26_3:LO:=[xm 13 2,xn 14 13,xk 15 (zi 0)]
abbrev r26_4:LO:=[xb 16 .lss 15 14]
abbrev r26_5:LO:=[xm 17 15,xi 18 9 13 15,xR 19 9 18,⟨some 8,.alloc zr2,none⟩,xm 7 17,xs 9 8 19]
abbrev r26_6:LO:=[xm 20 7,xc 21 .gtr 20 (zi 0),xm 22 21,xg (xm 23 2) 22,xg (xm 24 7) 22,xg (xc 25 .sub 24 (zi 1)) 22,xg (xi 26 9 23 25) 22,xg (xf 27 0 26) 22,xg (xR 28 4 27) 22,xg (xf 29 0 8) 22,xg (xR 30 4 29) 22,xg (xC2 31 46 28 30) 22,xg (xc 32 .geq 31 (zi 0)) 22,xp 33 22 32,xm 34 33,xh (xR 35 2 3) 34,xh (xR 36 4 4) 34,xh (xf 37 0 8) 34,xh (xR 38 4 37) 34,xh (xC3 39 59 35 36 38) 34,xh (xu 40 39) 34,xq 41 34 40,xm 42 41,xh (xf 43 1 3) 42,xh (xl 44 1 43) 42,xh (xf 45 4 8) 42,xh (xR 46 5 45) 42,xh (xC2 47 60 44 46) 42,xh (xu 48 47) 42,xq 49 42 48]
abbrev r26_7:LO:=[xk 6 (.bool false)]
abbrev r26_8:LO:=[xc 50 .add 15 (zi 1),xm 15 50]
def b26_0:PC:=(sq (xo r26_4) (sq (.cond (.t 16) .skip (.exit 0)) (sq (.block 1 (sq (xo r26_5) (sq (xO r26_6) (.cond (.t 49) (sq (xo r26_7) .ret) .skip)))) (xo r26_8))))
abbrev r26_9:LO:=[xk 6 (.bool true)]
def p26:PC:=(sq (xo r26_0) (sq (sq (xo r26_1) (.cond (.t 12) (sq (xo r26_2) .ret) .skip)) (sq (sq (xo r26_3) (.block 0 (.loop b26_0))) (sq (xo r26_9) .ret))))
def rs26:LR:=[.t 6]
theorem c26:chkF Tryz.prog Tryz.f26 3 p26 rs26=true:=by kernel_rfl
/- cuboid/cuboidref26.SamePairs -/
abbrev r27_0:LO:=[xk 4 (.bool false)]
abbrev r27_1:LO:=[xm 6 0,xn 7 6,xm 8 1,xn 9 8,xb 10 .neq 7 9]
abbrev r27_2:LO:=[xk 4 (.bool false)]
abbrev r27_3:LO:=[xk 5 (zi 0)]
abbrev r27_4:LO:=[xm 11 5,xm 12 0,xn 13 12,xb 14 .lss 11 13]
abbrev r27_6:LO:=[xm 17 0,xm 18 5,xi 19 9 17 18,xf 20 0 19,xR 21 4 20,xm 22 1,xm 23 5,xi 24 9 22 23,xf 25 0 24,xR 26 4 25,⟨some 27,.eqs true true [.i,.i,.i,.i] (.t 21) (.t 26),none⟩,xm 28 27,xh (xm 29 0) 28,xh (xm 30 5) 28,xh (xi 31 9 29 30) 28,xh (xf 32 4 31) 28,xh (xR 33 5 32) 28,xh (xm 34 1) 28,xh (xm 35 5) 28,xh (xi 36 9 34 35) 28,xh (xf 37 4 36) 28,xh (xR 38 5 37) 28,xh (xC2 39 61 33 38) 28,xh (xu 40 39) 28,xq 41 28 40]
abbrev r27_7:LO:=[xk 4 (.bool false)]
abbrev r27_5:LO:=[xm 15 5,xc 16 .add 15 (zi 1),xm 5 16]
def b27_0:PC:=(sq (sq (xo r27_4) (.cond (.t 14) .skip (.exit 0))) (sq (.block 1 (sq (xO r27_6) (.cond (.t 41) (sq (xo r27_7) .ret) .skip))) (xo r27_5)))
abbrev r27_8:LO:=[xk 4 (.bool true)]
def p27:PC:=(sq (xo r27_0) (sq (sq (xo r27_1) (.cond (.t 10) (sq (xo r27_2) .ret) .skip)) (sq (sq (xo r27_3) (.block 0 (.loop b27_0))) (sq (xo r27_8) .ret))))
def rs27:LR:=[.t 4]
theorem c27:chkF Tryz.prog Tryz.f27 2 p27 rs27=true:=by kernel_rfl
/- (cuboid/cuboidlaw26.Rows).all -/
abbrev r28_0:LO:=[xx 1 16 0,⟨some 2,.alloc zr3,none⟩]
abbrev r28_1:LO:=[xf 4 3 1,xR 5 9 4,⟨some 3,.alloc zr3,none⟩,xs 9 3 5]
abbrev r28_2:LO:=[xf 6 5 3,⟨none,.store 1 (.t 6) (.k (zi 0)) [],none⟩,xf 7 7 3,⟨none,.store 1 (.t 7) (.k (zi 0)) [],none⟩,xf 8 6 3,⟨none,.store 1 (.t 8) (.k (zi 0)) [],none⟩,xf 9 8 3,⟨none,.store 1 (.t 9) (.k (zi 1000)) [],none⟩]
abbrev r28_3:LO:=[xR 10 9 3,xs 9 2 10]
def p28:PC:=(sq (xo r28_0) (sq (xo r28_1) (sq (xo r28_2) (sq (xo r28_3) .ret))))
def rs28:LR:=[.cell 2 true 9]
theorem c28:chkF Tryz.prog Tryz.f28 1 p28 rs28=true:=by kernel_rfl
/- cuboid/cuboidkeep.Mod -/
abbrev r29_0:LO:=[xk 4 (zi 0)]
abbrev r29_1:LO:=[xm 6 0,xm 7 1,xb 8 .rem 6 7,xm 5 8]
abbrev r29_2:LO:=[xm 9 5,xc 10 .lss 9 (zi 0)]
abbrev r29_3:LO:=[xm 11 5,xm 12 1,xb 13 .add 11 12,xm 5 13]
abbrev r29_4:LO:=[xm 14 5,xm 4 14]
def p29:PC:=(sq (xo r29_0) (sq (xo r29_1) (sq (sq (xo r29_2) (.cond (.t 10) (xo r29_3) .skip)) (sq (xo r29_4) .ret))))
def rs29:LR:=[.t 4]
theorem c29:chkF Tryz.prog Tryz.f29 2 p29 rs29=true:=by kernel_rfl
/- cuboid/cuboidkeep.LightCat -/
abbrev r31_0:LO:=[xx 1 2 0,xk 2 (.bool false)]
abbrev r31_1:LO:=[xf 4 0 1,xl 5 1 4,xn 6 5,xc 7 .gtr 6 (zi 8)]
abbrev r31_2:LO:=[xk 2 (.bool false)]
abbrev r31_3:LO:=[xk 3 (zi 0)]
abbrev r31_4:LO:=[xm 8 3,xf 9 0 1,xl 10 1 9,xn 11 10,xb 12 .lss 8 11]
abbrev r31_6:LO:=[xf 15 0 1,xl 16 1 15,xm 17 3,xi 18 2 16 17,xR 19 2 18,xC1 20 65 19,xu 21 20]
abbrev r31_7:LO:=[xk 2 (.bool false)]
abbrev r31_5:LO:=[xm 13 3,xc 14 .add 13 (zi 1),xm 3 14]
def b31_0:PC:=(sq (sq (xo r31_4) (.cond (.t 12) .skip (.exit 0))) (sq (.block 1 (sq (xo r31_6) (.cond (.t 21) (sq (xo r31_7) .ret) .skip))) (xo r31_5)))
abbrev r31_8:LO:=[xk 2 (.bool true)]
def p31:PC:=(sq (xo r31_0) (sq (sq (xo r31_1) (.cond (.t 7) (sq (xo r31_2) .ret) .skip)) (sq (sq (xo r31_3) (.block 0 (.loop b31_0))) (sq (xo r31_8) .ret))))
def rs31:LR:=[.t 2]
theorem c31:chkF Tryz.prog Tryz.f31 1 p31 rs31=true:=by kernel_rfl
/- cuboid/cuboidkeep.LightQuery -/
abbrev r32_0:LO:=[xx 1 9 0,xk 2 (.bool false)]
abbrev r32_1:LO:=[xf 4 4 1,xl 5 1 4,xn 6 5,xc 7 .gtr 6 (zi 10)]
abbrev r32_2:LO:=[xk 2 (.bool false)]
abbrev r32_3:LO:=[xk 3 (zi 0)]
abbrev r32_4:LO:=[xm 8 3,xf 9 4 1,xl 10 1 9,xn 11 10,xb 12 .lss 8 11]
abbrev r32_6:LO:=[xf 15 4 1,xl 16 1 15,xm 17 3,xi 18 3 16 17,xf 19 2 18,xl 20 1 19,xn 21 20,xc 22 .gtr 21 (zi 60)]
abbrev r32_7:LO:=[xk 2 (.bool false)]
abbrev r32_5:LO:=[xm 13 3,xc 14 .add 13 (zi 1),xm 3 14]
def b32_0:PC:=(sq (sq (xo r32_4) (.cond (.t 12) .skip (.exit 0))) (sq (.block 1 (sq (xo r32_6) (.cond (.t 22) (sq (xo r32_7) .ret) .skip))) (xo r32_5)))
abbrev r32_8:LO:=[xk 2 (.bool true)]
def p32:PC:=(sq (xo r32_0) (sq (sq (xo r32_1) (.cond (.t 7) (sq (xo r32_2) .ret) .skip)) (sq (sq (xo r32_3) (.block 0 (.loop b32_0))) (sq (xo r32_8) .ret))))
def rs32:LR:=[.t 2]
theorem c32:chkF Tryz.prog Tryz.f32 1 p32 rs32=true:=by kernel_rfl
/- cuboid/cuboidkeep.LightCell -/
abbrev r33_0:LO:=[xx 1 5 0,xk 2 (.bool false)]
abbrev r33_1:LO:=[xk 3 (zi 0)]
abbrev r33_2:LO:=[xk 4 (zi 0)]
abbrev r33_3:LO:=[xm 5 4,xc 6 .lss 5 (zi 2)]
abbrev r33_5:LO:=[xm 9 3,xm 10 4,xf 11 3 1,⟨some 12,.iaA 2 1 (.t 11) (.t 10),none⟩,xl 13 1 12,xn 14 13,⟨some 15,.mm true (.t 9) [(.t 14)],none⟩,xm 3 15]
abbrev r33_4:LO:=[xm 7 4,xc 8 .add 7 (zi 1),xm 4 8]
def b33_0:PC:=(sq (sq (xo r33_3) (.cond (.t 6) .skip (.exit 0))) (sq (.block 1 (xo r33_5)) (xo r33_4)))
abbrev r33_6:LO:=[xm 16 3,xc 17 .leq 16 (zi 60),xm 2 17]
def p33:PC:=(sq (xo r33_0) (sq (xo r33_1) (sq (sq (xo r33_2) (.block 0 (.loop b33_0))) (sq (xo r33_6) .ret))))
def rs33:LR:=[.t 2]
theorem c33:chkF Tryz.prog Tryz.f33 1 p33 rs33=true:=by kernel_rfl
/- cuboid/cuboidref27.Group -/
abbrev r34_0:LO:=[xx 3 2 0,xx 5 4 2,⟨some 6,.alloc [.sl [],.bool false],none⟩]
abbrev r34_1:LO:=[xR 12 2 3,xR 13 4 5,xC2 14 40 12 13,xu 15 14,xm 16 15,xh (xR 17 2 3) 16,xh (xm 18 1) 16,xh (xC2 19 38 17 18) 16,xh (xu 20 19) 16,xq 21 16 20]
abbrev r34_2:LO:=[⟨some 22,.build [.sl [],.bool false] [],none⟩,xs 2 6 22]
abbrev r34_3:LO:=[⟨some 23,.build [.nils,.bool false] [(1,1,(.k (.bool true)))],none⟩,⟨some 7,.alloc [.sl [],.bool false],none⟩,xs 2 7 23]
abbrev r34_4:LO:=[xR 24 2 3,xm 25 1,xR 26 4 5,xC3 27 66 24 25 26,xm 8 27]
abbrev r34_5:LO:=[xk 9 (zi 0)]
abbrev r34_6:LO:=[xm 28 9,xm 29 8,xn 30 29,xb 31 .lss 28 30]
abbrev r34_8:LO:=[⟨some 10,.own0 6,none⟩]
abbrev r34_9:LO:=[xk 11 (zi 0)]
abbrev r34_10:LO:=[xm 34 11,xm 35 1,xn 36 35,xb 37 .lss 34 36]
abbrev r34_12:LO:=[xR 40 2 3,⟨some 41,.build zr6 [],none⟩,xR 42 4 5,xm 43 1,xm 44 11,xi 45 6 43 44,xf 46 0 45,xR 47 4 46,xC4 48 67 40 41 42 47,⟨some 49,.fld true 0 4 (.t 48),none⟩,xm 50 8,xm 51 9,xi 52 4 50 51,xR 53 4 52,⟨some 54,.eqs false true [.i,.i,.i,.i] (.t 49) (.t 53),none⟩]
abbrev r34_13:LO:=[xm 55 10,xm 56 1,xm 57 11,xi 58 6 56 57,xR 59 6 58,⟨some 60,.bsl 6 1 zr4 [(0,(.t 59))] false,none⟩,⟨some 61,.app 6 (.t 55) (.t 60) true,none⟩,xm 10 61]
abbrev r34_11:LO:=[xm 38 11,xc 39 .add 38 (zi 1),xm 11 39]
def b34_1:PC:=(sq (sq (xo r34_10) (.cond (.t 37) .skip (.exit 2))) (sq (.block 3 (sq (xO r34_12) (.cond (.t 54) (xo r34_13) .skip))) (xo r34_11)))
abbrev r34_14:LO:=[xf 62 0 7,xl 63 1 62,xm 64 8,xm 65 9,xi 66 4 64 65,xR 67 4 66,xf 68 1 3,xl 69 1 68,xm 70 10,xC2 71 68 69 70,⟨some 72,.fld true 0 5 (.t 71),none⟩,⟨some 73,.build zr2 [(0,4,(.t 67)),(4,5,(.t 72))],none⟩,⟨some 74,.bsl 9 1 zr2 [(0,(.t 73))] false,none⟩,⟨some 75,.app 9 (.t 63) (.t 74) true,none⟩,xf 76 0 7,xs 1 76 75]
abbrev r34_7:LO:=[xm 32 9,xc 33 .add 32 (zi 1),xm 9 33]
def b34_0:PC:=(sq (sq (xo r34_6) (.cond (.t 31) .skip (.exit 0))) (sq (.block 1 (sq (xo r34_8) (sq (sq (xo r34_9) (.block 2 (.loop b34_1))) (.fz 10 (.rnc 7 0 63 (xO r34_14)))))) (xo r34_7)))
abbrev r34_15:LO:=[xR 77 2 7,xs 2 6 77]
def p34:PC:=(sq (xo r34_0) (sq (sq (xo r34_1) (.cond (.t 21) (sq (xo r34_2) .ret) .skip)) (sq (xo r34_3) (sq (.zn 7 0 9 63 (xo r34_4)) (sq (sq (xo r34_5) (.block 0 (.loop b34_0))) (sq (.fzc 7 0 (.nvp 7 (xo r34_15))) .ret))))))
def rs34:LR:=[.cell 6 true 2]
theorem c34:chkF Tryz.prog Tryz.f34 3 p34 rs34=true:=by kernel_rfl
/- cuboid/cuboidref26.Up -/
abbrev r35_0:LO:=[xx 4 2 0,xx 5 4 1,xx 6 4 2,⟨some 8,.alloc [.sl [],.bool false],none⟩]
abbrev r35_1:LO:=[xR 11 2 4,xR 12 4 5,xm 13 3,xC3 14 37 11 12 13,xu 15 14,xm 16 15,xh (xR 17 2 4) 16,xh (xR 18 4 6) 16,xh (xC2 19 40 17 18) 16,xh (xu 20 19) 16,xq 21 16 20,xm 22 21,xh (xR 23 4 5) 22,xh (xR 24 4 6) 22,xh (xC2 25 69 23 24) 22,xh (xu 26 25) 22,xq 27 22 26]
abbrev r35_2:LO:=[⟨some 28,.build [.sl [],.bool false] [],none⟩,xs 2 8 28]
abbrev r35_3:LO:=[⟨some 29,.build [.sl [],.bool false] [(1,1,(.k (.bool true)))],none⟩,⟨some 9,.alloc [.sl [],.bool false],none⟩,xs 2 9 29]
abbrev r35_4:LO:=[xk 10 (zi 0)]
abbrev r35_5:LO:=[xm 30 10,xm 31 3,xn 32 31,xb 33 .lss 30 32,xm 34 33,xg (xf 35 1 9) 34,xg (xl 36 1 35) 34,xp 37 34 36]
abbrev r35_7:LO:=[xf 40 1 4,xl 41 1 40,xf 42 0 9,xl 43 1 42,xR 44 2 4,xR 45 4 5,xR 46 4 6,xm 47 3,xm 48 10,xi 49 9 47 48,xf 50 0 49,xR 51 4 50,xC4 52 67 44 45 46 51,⟨some 53,.fld true 0 4 (.t 52),none⟩,xm 54 3,xm 55 10,xi 56 9 54 55,xf 57 4 56,xR 58 5 57,xC4 59 70 41 43 53 58,xs 2 9 59]
abbrev r35_6:LO:=[xm 38 10,xc 39 .add 38 (zi 1),xm 10 39]
def b35_0:PC:=(sq (sq (xo r35_5) (.cond (.t 37) .skip (.exit 0))) (sq (.block 1 (xO r35_7)) (xo r35_6)))
abbrev r35_8:LO:=[xR 60 2 9,xs 2 8 60]
def p35:PC:=(sq (xo r35_0) (sq (sq (xo r35_1) (.cond (.t 27) (sq (xo r35_2) .ret) .skip)) (sq (xo r35_3) (sq (sq (xo r35_4) (.block 0 (.loop b35_0))) (sq (xo r35_8) .ret)))))
def rs35:LR:=[.cell 8 true 2]
theorem c35:chkF Tryz.prog Tryz.f35 4 p35 rs35=true:=by kernel_rfl
/- cuboid/cuboidref26.Of -/
abbrev r36_0:LO:=[xx 4 2 0,xx 5 4 1,xx 7 9 3,⟨some 8,.alloc zr9,none⟩]
abbrev r36_1:LO:=[xR 14 2 4,xR 15 9 7,xC2 16 39 14 15,xu 17 16,xm 18 17,xh (xR 19 2 4) 18,xh (xR 20 4 5) 18,xh (xC2 21 40 19 20) 18,xh (xu 22 21) 18,xq 23 18 22,xm 24 23,xh (xR 25 4 5) 24,xh (xR 26 2 4) 24,xh (xR 27 9 7) 24,xh (xC2 28 16 26 27) 24,xh (xC2 29 69 25 28) 24,xh (xu 30 29) 24,xq 31 24 30]
abbrev r36_2:LO:=[⟨some 32,.build zr9 [(1,1,(.k (zi 2)))],none⟩,xs 2 8 32]
abbrev r36_3:LO:=[xR 33 2 4,xR 34 4 5,xm 35 2,xC3 36 37 33 34 35,xu 37 36]
abbrev r36_4:LO:=[⟨some 38,.build zr9 [(1,1,(.k (zi 1)))],none⟩,xs 2 8 38]
abbrev r36_5:LO:=[⟨some 9,.own0 9,none⟩]
abbrev r36_6:LO:=[xk 10 (zi 0)]
abbrev r36_7:LO:=[xm 39 10,xm 40 2,xn 41 40,xb 42 .lss 39 41]
abbrev r36_9:LO:=[xk 11 (.bool true)]
abbrev r36_10:LO:=[xk 12 (zi 0)]
abbrev r36_11:LO:=[xm 45 12,xf 46 4 7,xl 47 1 46,xn 48 47,xb 49 .lss 45 48]
abbrev r36_13:LO:=[xm 52 11,xm 53 52,xg (xR 54 2 4) 53,xg (xR 55 4 5) 53,xg (xm 56 2) 53,xg (xm 57 10) 53,xg (xi 58 9 56 57) 53,xg (xf 59 0 58) 53,xg (xR 60 4 59) 53,xg (xf 61 4 7) 53,xg (xl 62 1 61) 53,xg (xm 63 12) 53,xg (xi 64 3 62 63) 53,xg (xR 65 3 64) 53,xg (xC4 66 71 54 55 60 65) 53,xp 67 53 66,xm 11 67]
abbrev r36_12:LO:=[xm 50 12,xc 51 .add 50 (zi 1),xm 12 51]
def b36_1:PC:=(sq (sq (xo r36_11) (.cond (.t 49) .skip (.exit 2))) (sq (.block 3 (xO r36_13)) (xo r36_12)))
abbrev r36_14:LO:=[xm 68 11]
abbrev r36_15:LO:=[xm 69 9,xm 70 2,xm 71 10,xi 72 9 70 71,xR 73 9 72,⟨some 74,.bsl 9 1 zr2 [(0,(.t 73))] false,none⟩,⟨some 75,.app 9 (.t 69) (.t 74) true,none⟩,xm 9 75]
abbrev r36_8:LO:=[xm 43 10,xc 44 .add 43 (zi 1),xm 10 44]
def b36_0:PC:=(sq (sq (xo r36_7) (.cond (.t 42) .skip (.exit 0))) (sq (.block 1 (sq (xo r36_9) (sq (sq (xo r36_10) (.block 2 (.loop b36_1))) (sq (xo r36_14) (.cond (.t 68) (xo r36_15) .skip))))) (xo r36_8)))
abbrev r36_16:LO:=[xR 76 2 4,xR 77 4 5,xf 78 0 7,xR 79 4 78,xm 80 9,xC4 81 35 76 77 79 80,⟨some 13,.alloc [.sl [],.bool false],none⟩,xs 2 13 81]
abbrev r36_17:LO:=[xf 82 1 13,xl 83 1 82,xu 84 83]
abbrev r36_18:LO:=[⟨some 85,.build zr9 [(1,1,(.k (zi 9)))],none⟩,xs 2 8 85]
abbrev r36_19:LO:=[xf 86 1 4,xl 87 1 86,xf 88 0 13,xl 89 1 88,xR 90 9 7,xC3 91 72 87 89 90,xs 2 8 91]
def p36:PC:=(sq (xo r36_0) (sq (sq (xO r36_1) (.cond (.t 31) (sq (xo r36_2) .ret) .skip)) (sq (sq (xo r36_3) (.cond (.t 37) (sq (xo r36_4) .ret) .skip)) (sq (xo r36_5) (sq (sq (xo r36_6) (.block 0 (.loop b36_0))) (sq (.fz 9 (xo r36_16)) (sq (sq (xo r36_17) (.cond (.t 84) (sq (xo r36_18) .ret) .skip)) (sq (xo r36_19) .ret))))))))
def rs36:LR:=[.cell 8 true 2]
theorem c36:chkF Tryz.prog Tryz.f36 4 p36 rs36=true:=by kernel_rfl
/- cuboid/cuboidref26.Good -/
abbrev r37_0:LO:=[xx 3 2 0,xx 4 4 1,xk 6 (.bool false)]
abbrev r37_1:LO:=[xR 8 2 3,xR 9 4 4,xC2 10 40 8 9,xu 11 10]
abbrev r37_2:LO:=[xk 6 (.bool false)]
abbrev r37_3:LO:=[xk 7 (zi 0)]
abbrev r37_4:LO:=[xm 12 7,xm 13 2,xn 14 13,xb 15 .lss 12 14]
abbrev r37_6:LO:=[xm 18 7,xc 19 .gtr 18 (zi 0),xm 20 19,xg (xm 21 2) 20,xg (xm 22 7) 20,xg (xc 23 .sub 22 (zi 1)) 20,xg (xi 24 9 21 23) 20,xg (xf 25 0 24) 20,xg (xR 26 4 25) 20,xg (xC1 27 23 26) 20,xg (xm 28 2) 20,xg (xm 29 7) 20,xg (xi 30 9 28 29) 20,xg (xf 31 0 30) 20,xg (xR 32 4 31) 20,xg (xC1 33 23 32) 20,xg (xb 34 .geq 27 33) 20,xp 35 20 34,xm 36 35,xh (xR 37 2 3) 36,xh (xR 38 4 4) 36,xh (xm 39 2) 36,xh (xm 40 7) 36,xh (xi 41 9 39 40) 36,xh (xf 42 0 41) 36,xh (xR 43 4 42) 36,xh (xC3 44 73 37 38 43) 36,xh (xu 45 44) 36,xq 46 36 45,xm 47 46,xh (xf 48 1 3) 47,xh (xl 49 1 48) 47,xh (xm 50 2) 47,xh (xm 51 7) 47,xh (xi 52 9 50 51) 47,xh (xf 53 4 52) 47,xh (xR 54 5 53) 47,xh (xC2 55 74 49 54) 47,xh (xu 56 55) 47,xq 57 47 56]
abbrev r37_7:LO:=[xk 6 (.bool false)]
abbrev r37_5:LO:=[xm 16 7,xc 17 .add 16 (zi 1),xm 7 17]
def b37_0:PC:=(sq (sq (xo r37_4) (.cond (.t 15) .skip (.exit 0))) (sq (.block 1 (sq (xO r37_6) (.cond (.t 57) (sq (xo r37_7) .ret) .skip))) (xo r37_5)))
abbrev r37_8:LO:=[xk 6 (.bool true)]
def p37:PC:=(sq (xo r37_0) (sq (sq (xo r37_1) (.cond (.t 11) (sq (xo r37_2) .ret) .skip)) (sq (sq (xo r37_3) (.block 0 (.loop b37_0))) (sq (xo r37_8) .ret))))
def rs37:LR:=[.t 6]
theorem c37:chkF Tryz.prog Tryz.f37 3 p37 rs37=true:=by kernel_rfl
/- cuboid/cuboidref21.Rows -/
abbrev r38_0:LO:=[xx 2 2 0,xk 4 (.bool false)]
abbrev r38_1:LO:=[xk 5 (zi 0)]
abbrev r38_2:LO:=[xm 6 5,xm 7 1,xn 8 7,xb 9 .lss 6 8]
abbrev r38_4:LO:=[xR 12 2 2,xm 13 1,xm 14 5,xi 15 6 13 14,xR 16 6 15,xC2 17 75 12 16,xu 18 17]
abbrev r38_5:LO:=[xk 4 (.bool false)]
abbrev r38_3:LO:=[xm 10 5,xc 11 .add 10 (zi 1),xm 5 11]
def b38_0:PC:=(sq (sq (xo r38_2) (.cond (.t 9) .skip (.exit 0))) (sq (.block 1 (sq (xO r38_4) (.cond (.t 18) (sq (xo r38_5) .ret) .skip))) (xo r38_3)))
abbrev r38_6:LO:=[xR 19 2 2,xC1 20 76 19,xm 21 20,xg (xm 22 1) 21,xg (xC1 23 77 22) 21,⟨some 24,.fld false 2 1 (.t 23),(some (21,true))⟩,xp 25 21 24,xm 4 25]
def p38:PC:=(sq (xo r38_0) (sq (sq (xo r38_1) (.block 0 (.loop b38_0))) (sq (xo r38_6) .ret)))
def rs38:LR:=[.t 4]
theorem c38:chkF Tryz.prog Tryz.f38 2 p38 rs38=true:=by kernel_rfl
/- cuboid/cuboidref25.Good -/
abbrev r39_0:LO:=[xx 2 2 0,xx 3 9 1,xk 4 (.bool false)]
abbrev r39_1:LO:=[xR 6 2 2,xf 7 0 3,xR 8 4 7,xC2 9 40 6 8,xu 10 9,xm 11 10,xh (xf 12 4 3) 11,xh (xl 13 1 12) 11,xh (xn 14 13) 11,xh (xc 15 .gtr 14 (zi 6)) 11,xq 16 11 15,xm 17 16,xh (xf 18 5 3) 17,xh (xl 19 1 18) 17,xh (xc 20 .lss 19 (zi 0)) 17,xq 21 17 20,xm 22 21,xh (xf 23 5 3) 22,xh (xl 24 1 23) 22,xh (xc 25 .gtr 24 (zi 1000)) 22,xq 26 22 25,xm 27 26,xh (xf 28 8 3) 27,xh (xl 29 1 28) 27,xh (xc 30 .lss 29 (zi 0)) 27,xq 31 27 30,xm 32 31,xh (xf 33 8 3) 32,xh (xl 34 1 33) 32,xh (xc 35 .gtr 34 (zi 1000)) 32,xq 36 32 35]
abbrev r39_2:LO:=[xk 4 (.bool false)]
abbrev r39_3:LO:=[xk 5 (zi 0)]
abbrev r39_4:LO:=[xm 37 5,xf 38 4 3,xl 39 1 38,xn 40 39,xb 41 .lss 37 40]
abbrev r39_6:LO:=[xR 44 2 2,xf 45 4 3,xl 46 1 45,xm 47 5,xi 48 3 46 47,xR 49 3 48,xC2 50 78 44 49,xu 51 50]
abbrev r39_7:LO:=[xk 4 (.bool false)]
abbrev r39_5:LO:=[xm 42 5,xc 43 .add 42 (zi 1),xm 5 43]
def b39_0:PC:=(sq (sq (xo r39_4) (.cond (.t 41) .skip (.exit 0))) (sq (.block 1 (sq (xO r39_6) (.cond (.t 51) (sq (xo r39_7) .ret) .skip))) (xo r39_5)))
abbrev r39_8:LO:=[xf 52 5 3,xl 53 1 52,xc 54 .eql 53 (zi 0)]
abbrev r39_9:LO:=[xf 55 6 3,xl 56 1 55,xc 57 .eql 56 (zi 0),xm 58 57,xg (xf 59 7 3) 58,xg (xl 60 1 59) 58,xg (xc 61 .eql 60 (zi 0)) 58,xp 62 58 61,xm 4 62]
abbrev r39_10:LO:=[xf 63 6 3,xl 64 1 63,xc 65 .geq 64 (zi 0),xm 66 65,xg (xf 67 6 3) 66,xg (xl 68 1 67) 66,xg (xf 69 1 2) 66,xg (xl 70 1 69) 66,xg (xb 71 .lss 68 70) 66,xp 72 66 71,xm 73 72,xg (xf 74 7 3) 73,xg (xl 75 1 74) 73,xg (xc 76 .geq 75 (zi 1)) 73,xp 77 73 76,xm 78 77,xg (xf 79 7 3) 78,xg (xl 80 1 79) 78,xg (xc 81 .leq 80 (zi 5)) 78,xp 82 78 81,xm 4 82]
def p39:PC:=(sq (xo r39_0) (sq (sq (xo r39_1) (.cond (.t 36) (sq (xo r39_2) .ret) .skip)) (sq (sq (xo r39_3) (.block 0 (.loop b39_0))) (sq (sq (xo r39_8) (.cond (.t 54) (sq (xo r39_9) .ret) .skip)) (sq (xo r39_10) .ret)))))
def rs39:LR:=[.t 4]
theorem c39:chkF Tryz.prog Tryz.f39 2 p39 rs39=true:=by kernel_rfl
/- cuboid/cuboidref05.Good -/
abbrev r40_0:LO:=[xx 2 2 0,xx 3 4 1,xk 4 (.bool false)]
abbrev r40_1:LO:=[xR 5 2 2,xR 6 4 3,⟨some 7,.build zr6 [],none⟩,xC3 8 73 5 6 7,xm 4 8]
def p40:PC:=(sq (xo r40_0) (sq (xo r40_1) .ret))
def rs40:LR:=[.t 4]
theorem c40:chkF Tryz.prog Tryz.f40 2 p40 rs40=true:=by kernel_rfl
/- slices.Clone[[]cuboid/api.Line,cuboid/api.Line] -/
abbrev r41_0:LO:=[⟨some 2,.own0 11,none⟩]
abbrev r41_1:LO:=[xm 3 0]
abbrev r41_2:LO:=[⟨some 2,.own0 11,none⟩]
abbrev r41_3:LO:=[⟨some 5,.bsl 11 0 zr1 [] true,none⟩,xm 6 0,⟨some 7,.app 11 (.t 5) (.t 6) true,none⟩,xm 2 7]
def p41:PC:=(sq (xo r41_0) (sq (sq (.opsN r41_1 (.t 3) 4) (.cond (.t 4) (sq (xo r41_2) .ret) .skip)) (sq (xo r41_3) .ret)))
def rs41:LR:=[.t 2]
theorem c41:chkF Tryz.prog Tryz.f41 1 p41 rs41=true:=by kernel_rfl
/- slices.SortStableFunc[[]cuboid/api.Line,cuboid/api.Line] -/
abbrev r42_0:LO:=[xm 4 0,xm 5 0,xn 6 5,xm 7 1,⟨some 8,.call true 79 [(.t 4),(.t 6),(.t 7)],none⟩]
def p42:PC:=(xo r42_0)
def rs42:LR:=[]
theorem c42:chkF Tryz.prog Tryz.f42 2 p42 rs42=true:=by kernel_rfl
/- cuboid/exec.Best$1 -/
abbrev r43_0:LO:=[xx 4 11 0,xx 5 11 1,xk 6 (zi 0)]
abbrev r43_1:LO:=[xl 7 1 2,xl 8 1 3,xR 9 11 4,xR 10 11 5,xC4 11 45 7 8 9 10,xf 12 0 4,xR 13 4 12,xf 14 0 5,xR 15 4 14,xC2 16 46 13 15,⟨some 17,.bsl 1 2 [zi 0] [(0,(.t 11)),(1,(.t 16))] false,none⟩,xC1 18 44 17,xm 6 18]
def p43:PC:=(sq (xo r43_0) (sq (xO r43_1) .ret))
def rs43:LR:=[.t 6]
theorem c43:chkF Tryz.prog Tryz.f43 4 p43 rs43=true:=by kernel_rfl
/- cmp.Or[int] -/
abbrev r44_0:LO:=[xk 2 (zi 0)]
abbrev r44_1:LO:=[xk 3 (zi 0)]
abbrev r44_2:LO:=[xm 6 0,xn 7 6,xk 8 (zi 0)]
abbrev r44_3:LO:=[xb 9 .lss 8 7]
abbrev r44_4:LO:=[xi 10 1 6 8,xl 11 1 10,xm 5 11]
abbrev r44_5:LO:=[xm 12 5,xm 13 3,xb 14 .neq 12 13]
abbrev r44_6:LO:=[xm 15 5,xm 2 15]
abbrev r44_7:LO:=[xc 16 .add 8 (zi 1),xm 8 16]
def b44_0:PC:=(sq (xo r44_3) (sq (.cond (.t 9) .skip (.exit 0)) (sq (.block 1 (sq (xo r44_4) (sq (xo r44_5) (.cond (.t 14) (sq (xo r44_6) .ret) .skip)))) (xo r44_7))))
abbrev r44_8:LO:=[xm 17 3,xm 2 17]
def p44:PC:=(sq (xo r44_0) (sq (xo r44_1) (sq (sq (xo r44_2) (.block 0 (.loop b44_0))) (sq (xo r44_8) .ret))))
def rs44:LR:=[.t 2]
theorem c44:chkF Tryz.prog Tryz.f44 1 p44 rs44=true:=by kernel_rfl
/- cuboid/cell.Ahead -/
abbrev r45_0:LO:=[xx 6 11 2,xx 7 11 3,xk 8 (zi 0)]
abbrev r45_1:LO:=[xm 9 0,xc 10 .eql 9 (zi 1)]
abbrev r45_2:LO:=[xf 11 4 7,xl 12 1 11,xf 13 4 6,xl 14 1 13,xC2 15 80 12 14,xm 8 15]
abbrev r45_3:LO:=[xm 16 1,xc 17 .lss 16 (zi 0),xm 18 17,xh (xm 19 1) 18,xh (xc 20 .geq 19 (zi 2)) 18,xq 21 18 20]
abbrev r45_4:LO:=[xk 8 (zi 0)]
abbrev r45_5:LO:=[xm 22 0]
abbrev r45_6:LO:=[xc 24 .eql 22 (zi 2),xm 23 24]
abbrev r45_7:LO:=[xm 25 1,xf 26 5 7,⟨some 27,.iaA 2 1 (.t 26) (.t 25),none⟩,xl 28 1 27,xm 29 1,xf 30 5 6,⟨some 31,.iaA 2 1 (.t 30) (.t 29),none⟩,xl 32 1 31,xC2 33 80 28 32,xm 8 33]
abbrev r45_8:LO:=[xc 35 .eql 22 (zi 3),xm 34 35]
abbrev r45_9:LO:=[xm 36 1,xf 37 7 7,⟨some 38,.iaA 2 1 (.t 37) (.t 36),none⟩,xl 39 1 38,xm 40 1,xf 41 7 6,⟨some 42,.iaA 2 1 (.t 41) (.t 40),none⟩,xl 43 1 42,xC2 44 80 39 43,xm 8 44]
abbrev r45_10:LO:=[xc 46 .eql 22 (zi 4),xm 45 46]
abbrev r45_11:LO:=[xm 47 1,xf 48 9 7,⟨some 49,.iaA 2 1 (.t 48) (.t 47),none⟩,xl 50 1 49,xm 51 1,xf 52 9 6,⟨some 53,.iaA 2 1 (.t 52) (.t 51),none⟩,xl 54 1 53,xC2 55 80 50 54,xm 8 55]
abbrev r45_12:LO:=[xc 57 .eql 22 (zi 5),xm 56 57]
abbrev r45_13:LO:=[xm 58 1,xf 59 5 7,⟨some 60,.iaA 2 1 (.t 59) (.t 58),none⟩,xl 61 1 60,xf 62 4 6,xl 63 1 62,⟨some 64,.mm true (.t 63) [(.k (zi 1))],none⟩,xm 65 1,xf 66 5 6,⟨some 67,.iaA 2 1 (.t 66) (.t 65),none⟩,xl 68 1 67,xf 69 4 7,xl 70 1 69,⟨some 71,.mm true (.t 70) [(.k (zi 1))],none⟩,xC4 72 81 61 64 68 71,xm 8 72]
abbrev r45_14:LO:=[xk 8 (zi 0)]
def p45:PC:=(sq (xo r45_0) (sq (sq (xo r45_1) (.cond (.t 10) (sq (xo r45_2) .ret) .skip)) (sq (sq (xo r45_3) (.cond (.t 21) (sq (xo r45_4) .ret) .skip)) (sq (sq (xo r45_5) (.block 0 (sq (xo r45_6) (.cond (.t 23) (sq (xO r45_7) .ret) (sq (xo r45_8) (.cond (.t 34) (sq (xO r45_9) .ret) (sq (xo r45_10) (.cond (.t 45) (sq (xO r45_11) .ret) (sq (xo r45_12) (.cond (.t 56) (sq (xO r45_13) .ret) .skip)))))))))) (sq (xo r45_14) .ret)))))
def rs45:LR:=[.t 8]
theorem c45:chkF Tryz.prog Tryz.f45 4 p45 rs45=true:=by kernel_rfl
/- cuboid/exec.key -/
abbrev r46_0:LO:=[xx 2 4 0,xx 3 4 1,xk 4 (zi 0)]
abbrev r46_1:LO:=[xR 5 4 2,xC1 6 83 5,xR 7 4 3,xC1 8 83 7,xC2 9 82 6 8,xm 4 9]
def p46:PC:=(sq (xo r46_0) (sq (xO r46_1) .ret))
def rs46:LR:=[.t 4]
theorem c46:chkF Tryz.prog Tryz.f46 2 p46 rs46=true:=by kernel_rfl
/- cuboid/cuboidref26.ahead -/
abbrev r48_0:LO:=[xx 6 11 2,xx 7 11 3,xk 8 (.bool false)]
abbrev r48_1:LO:=[xm 10 0,xm 11 1,xR 12 11 6,xR 13 11 7,xC4 14 22 10 11 12 13,xm 9 14]
abbrev r48_2:LO:=[xm 15 9,xc 16 .neq 15 (zi 0)]
abbrev r48_3:LO:=[xm 17 9,xc 18 .lss 17 (zi 0),xm 8 18]
abbrev r48_4:LO:=[xf 19 0 6,xR 20 4 19,xC1 21 23 20,xf 22 0 7,xR 23 4 22,xC1 24 23 23,xb 25 .leq 21 24,xm 8 25]
def p48:PC:=(sq (xo r48_0) (sq (sq (xo r48_1) (sq (xo r48_2) (.cond (.t 16) (sq (xo r48_3) .ret) .skip))) (sq (xO r48_4) .ret)))
def rs48:LR:=[.t 8]
theorem c48:chkF Tryz.prog Tryz.f48 4 p48 rs48=true:=by kernel_rfl
/- cuboid/cuboidref01.Order -/
abbrev r49_0:LO:=[xx 2 3 0,xx 3 3 1,xk 4 (zi 0)]
abbrev r49_1:LO:=[xR 6 3 2,xR 7 3 3,⟨some 8,.eqs false true [.b,.i,.i] (.t 6) (.t 7),none⟩,xm 5 8]
abbrev r49_2:LO:=[xk 4 (zi 0)]
abbrev r49_3:LO:=[xf 10 0 2,xl 11 1 10,xf 12 0 3,xl 13 1 12,⟨some 14,.eqs true false [.b] (.t 11) (.t 13),none⟩,xm 9 14]
abbrev r49_4:LO:=[xf 15 0 2,xl 16 1 15]
abbrev r49_5:LO:=[xk 4 (zi (-1))]
abbrev r49_6:LO:=[xk 4 (zi 1)]
abbrev r49_7:LO:=[xR 18 3 2,xR 19 3 3,xC2 20 84 18 19,xf 21 0 2,xl 22 1 21,⟨some 23,.eqs true false [.b] (.t 20) (.t 22),none⟩,xm 17 23]
abbrev r49_8:LO:=[xk 4 (zi (-1))]
abbrev r49_9:LO:=[xk 4 (zi 1)]
def p49:PC:=(sq (xo r49_0) (sq (.block 0 (sq (xo r49_1) (.cond (.t 5) (sq (xo r49_2) .ret) (sq (xo r49_3) (.cond (.t 9) (sq (sq (xo r49_4) (.cond (.t 16) (sq (xo r49_5) .ret) .skip)) (sq (xo r49_6) .ret)) (sq (xO r49_7) (.cond (.t 17) (sq (xo r49_8) .ret) .skip))))))) (sq (xo r49_9) .ret)))
def rs49:LR:=[.t 4]
theorem c49:chkF Tryz.prog Tryz.f49 2 p49 rs49=true:=by kernel_rfl
/- cuboid/cuboidref01.Of -/
abbrev r50_0:LO:=[⟨some 2,.alloc [.bool false,.int .u64 0,.int .u64 0],none⟩]
abbrev r50_1:LO:=[xm 3 0,xc 4 .lss 3 (zi 0),xm 5 0,xC1 6 85 5,⟨some 7,.build [.bool false,.int .u64 0,.int .u64 0] [(0,1,(.t 4)),(1,1,(.k (.int .u64 0))),(2,1,(.t 6))],none⟩,xs 3 2 7]
def p50:PC:=(sq (xo r50_0) (sq (xo r50_1) .ret))
def rs50:LR:=[.cell 2 true 3]
theorem c50:chkF Tryz.prog Tryz.f50 1 p50 rs50=true:=by kernel_rfl
/- cuboid/cuboidref01.Times -/
abbrev r51_0:LO:=[⟨some 4,.alloc [.bool false,.int .u64 0,.int .u64 0],none⟩]
abbrev r51_1:LO:=[xm 13 0,xC1 14 85 13,xm 15 1,xC1 16 85 15,xm 5 14,xm 6 16]
abbrev r51_2:LO:=[xm 17 5,xc 18 .shr 17 (.int .u64 32),xm 19 5,xc 20 .and 19 (.int .u64 4294967295),xm 21 6,xc 22 .shr 21 (.int .u64 32),xm 23 6,xc 24 .and 23 (.int .u64 4294967295),xm 7 18,xm 8 20,xm 9 22,xm 10 24]
abbrev r51_3:LO:=[xm 25 8,xm 26 10,xb 27 .mul 25 26,xc 28 .shr 27 (.int .u64 32),xm 29 7,xm 30 10,xb 31 .mul 29 30,xc 32 .and 31 (.int .u64 4294967295),xb 33 .add 28 32,xm 34 8,xm 35 9,xb 36 .mul 34 35,xc 37 .and 36 (.int .u64 4294967295),xb 38 .add 33 37,xm 11 38]
abbrev r51_4:LO:=[xm 39 0,xc 40 .lss 39 (zi 0),xm 41 1,xc 42 .lss 41 (zi 0),⟨some 43,.eqs true false [.b] (.t 40) (.t 42),none⟩,xm 44 7,xm 45 9,xb 46 .mul 44 45,xm 47 7,xm 48 10,xb 49 .mul 47 48,xc 50 .shr 49 (.int .u64 32),xb 51 .add 46 50,xm 52 8,xm 53 9,xb 54 .mul 52 53,xc 55 .shr 54 (.int .u64 32),xb 56 .add 51 55,xm 57 11,xc 58 .shr 57 (.int .u64 32),xb 59 .add 56 58,xm 60 11,xc 61 .shl 60 (.int .u64 32),xm 62 8,xm 63 10,xb 64 .mul 62 63,xc 65 .and 64 (.int .u64 4294967295),xb 66 .or 61 65,⟨some 67,.build [.bool false,.int .u64 0,.int .u64 0] [(0,1,(.t 43)),(1,1,(.t 59)),(2,1,(.t 66))],none⟩,⟨some 12,.alloc [.bool false,.int .u64 0,.int .u64 0],none⟩,xs 3 12 67]
abbrev r51_5:LO:=[xf 68 1 12,xl 69 1 68,xc 70 .eql 69 (.int .u64 0),xm 71 70,xg (xf 72 2 12) 71,xg (xl 73 1 72) 71,xg (xc 74 .eql 73 (.int .u64 0)) 71,xp 75 71 74]
abbrev r51_6:LO:=[xf 76 0 12,⟨none,.store 1 (.t 76) (.k (.bool false)) [],none⟩]
abbrev r51_7:LO:=[xR 77 3 12,xs 3 4 77]
def p51:PC:=(sq (xo r51_0) (sq (xo r51_1) (sq (xo r51_2) (sq (xo r51_3) (sq (xo r51_4) (sq (sq (xo r51_5) (.cond (.t 75) (xo r51_6) .skip)) (sq (xo r51_7) .ret)))))))
def rs51:LR:=[.cell 4 true 3]
theorem c51:chkF Tryz.prog Tryz.f51 2 p51 rs51=true:=by kernel_rfl
/- cuboid/lattice.Good -/
abbrev r52_0:LO:=[xx 2 2 0,xx 3 4 1,xk 4 (.bool false)]
abbrev r52_1:LO:=[xR 5 2 2,xR 6 4 3,⟨some 7,.build zr6 [],none⟩,xC3 8 59 5 6 7,xm 4 8]
def p52:PC:=(sq (xo r52_0) (sq (xo r52_1) .ret))
def rs52:LR:=[.t 4]
theorem c52:chkF Tryz.prog Tryz.f52 2 p52 rs52=true:=by kernel_rfl
/- cuboid/lattice.Below -/
abbrev r53_0:LO:=[xx 2 4 0,xx 3 4 1,xk 4 (.bool false)]
abbrev r53_1:LO:=[xR 5 4 2,xR 6 4 3,xC2 7 86 5 6,xR 8 4 2,⟨some 9,.eqs false true [.i,.i,.i,.i] (.t 7) (.t 8),none⟩,xm 4 9]
def p53:PC:=(sq (xo r53_0) (sq (xO r53_1) .ret))
def rs53:LR:=[.t 4]
theorem c53:chkF Tryz.prog Tryz.f53 2 p53 rs53=true:=by kernel_rfl
/- cuboid/exec.up -/
abbrev r54_0:LO:=[xx 4 2 0,xx 5 4 1,xx 6 4 2,xk 8 (.sl []),xk 9 (.bool false)]
abbrev r54_1:LO:=[⟨some 21,.mkm,none⟩,xm 10 21]
abbrev r54_2:LO:=[xm 22 3,xn 23 22,xk 24 (zi 0)]
abbrev r54_3:LO:=[xb 25 .lss 24 23]
abbrev r54_4:LO:=[xi 26 9 22 24,xR 27 9 26,⟨some 12,.alloc zr2,none⟩,xs 9 12 27]
abbrev r54_5:LO:=[xR 29 2 4,xR 30 4 5,xR 31 4 6,xf 32 0 12,xR 33 4 32,xC4 34 87 29 30 31 33,xm 28 34,xe 35 28 0,xe 36 28 1,⟨some 13,.alloc zr6,none⟩,xs 4 13 35,xm 14 36]
abbrev r54_6:LO:=[xm 38 10,xR 39 4 13,⟨some 40,.mget true [.i,.i,.i,.i] (.agg zr5) (.t 38) (.t 39),none⟩,xm 37 40,xe 41 37 0,xe 42 37 1,⟨some 15,.alloc zr5,none⟩,xs 5 15 41,xm 16 42]
abbrev r54_7:LO:=[xm 43 16,xu 44 43]
abbrev r54_8:LO:=[xm 45 10,xR 46 4 13,xf 47 4 12,xR 48 5 47,xC1 49 88 48,⟨none,.mput [.i,.i,.i,.i] (.t 45) (.t 46) (.t 49),none⟩]
abbrev r54_9:LO:=[xf 51 1 4,xl 52 1 51,xR 53 5 15,xf 54 4 12,xR 55 5 54,xC3 56 89 52 53 55,xm 50 56,xe 57 50 0,xe 58 50 1,xs 5 15 57,xm 17 58]
abbrev r54_10:LO:=[xm 59 17,xu 60 59]
abbrev r54_11:LO:=[xk 8 (.sl []),xk 9 (.bool false)]
abbrev r54_12:LO:=[xm 61 10,xR 62 4 13,xR 63 5 15,⟨none,.mput [.i,.i,.i,.i] (.t 61) (.t 62) (.t 63),none⟩]
abbrev r54_13:LO:=[xc 64 .add 24 (zi 1),xm 24 64]
def b54_0:PC:=(sq (xo r54_3) (sq (.cond (.t 25) .skip (.exit 0)) (sq (.block 1 (sq (xo r54_4) (sq (xo r54_5) (sq (xo r54_6) (sq (sq (xo r54_7) (.cond (.t 44) (sq (xO r54_8) (.exit 1)) .skip)) (sq (xo r54_9) (sq (sq (xo r54_10) (.cond (.t 60) (sq (xo r54_11) .ret) .skip)) (xo r54_12)))))))) (xo r54_13))))
abbrev r54_14:LO:=[⟨some 18,.own0 9,none⟩]
abbrev r54_15:LO:=[xm 65 10,xC1 66 91 65,⟨some 67,.call false 90 [(.t 66),(.k (.fn (.func 46) []))],none⟩,xn 68 67,xk 69 (zi 0)]
abbrev r54_16:LO:=[xb 70 .lss 69 68]
abbrev r54_17:LO:=[xi 71 4 67 69,xR 72 4 71,⟨some 20,.alloc zr6,none⟩,xs 4 20 72]
abbrev r54_18:LO:=[xm 73 18,xR 74 4 20,xm 75 10,xR 76 4 20,⟨some 77,.mget false [.i,.i,.i,.i] (.agg zr5) (.t 75) (.t 76),none⟩,⟨some 78,.build zr2 [(0,4,(.t 74)),(4,5,(.t 77))],none⟩,⟨some 79,.bsl 9 1 zr2 [(0,(.t 78))] false,none⟩,⟨some 80,.app 9 (.t 73) (.t 79) true,none⟩,xm 18 80]
abbrev r54_19:LO:=[xc 81 .add 69 (zi 1),xm 69 81]
def b54_1:PC:=(sq (xo r54_16) (sq (.cond (.t 70) .skip (.exit 2)) (sq (.block 3 (sq (xo r54_17) (.rn 18 18 (xO r54_18)))) (xo r54_19))))
abbrev r54_20:LO:=[xm 82 18,xm 8 82,xk 9 (.bool true)]
def p54:PC:=(sq (xo r54_0) (sq (xo r54_1) (sq (sq (xo r54_2) (.block 0 (.loop b54_0))) (sq (.fzm 10 (xo r54_14)) (sq (sq (xo r54_15) (.block 2 (.loop b54_1))) (sq (xo r54_20) .ret))))))
def rs54:LR:=[.t 8,.t 9]
theorem c54:chkF Tryz.prog Tryz.f54 4 p54 rs54=true:=by kernel_rfl
/- cuboid/query.Good -/
abbrev r55_0:LO:=[xx 2 2 0,xx 3 9 1,xk 4 (.bool false)]
abbrev r55_1:LO:=[xR 7 2 2,xf 8 0 3,xR 9 4 8,xC2 10 52 7 9,xu 11 10,xm 12 11,xh (xf 13 4 3) 12,xh (xl 14 1 13) 12,xh (xn 15 14) 12,xh (xc 16 .gtr 15 (zi 6)) 12,xq 17 12 16,xm 18 17,xh (xf 19 5 3) 18,xh (xl 20 1 19) 18,⟨some 21,.call false 92 [(.t 20),(.k (zi 0)),(.k (zi 1000))],(some (18,false))⟩,xh (xu 22 21) 18,xq 23 18 22,xm 24 23,xh (xf 25 8 3) 24,xh (xl 26 1 25) 24,⟨some 27,.call false 92 [(.t 26),(.k (zi 0)),(.k (zi 1000))],(some (24,false))⟩,xh (xu 28 27) 24,xq 29 24 28]
abbrev r55_2:LO:=[xk 4 (.bool false)]
abbrev r55_3:LO:=[xf 30 4 3,xl 31 1 30,xn 32 31,xk 33 (zi 0)]
abbrev r55_4:LO:=[xb 34 .lss 33 32]
abbrev r55_5:LO:=[xi 35 3 31 33,xR 36 3 35,⟨some 6,.alloc zr7,none⟩,xs 3 6 36]
abbrev r55_6:LO:=[xR 37 2 2,xR 38 3 6,xC2 39 93 37 38,xu 40 39]
abbrev r55_7:LO:=[xk 4 (.bool false)]
abbrev r55_8:LO:=[xc 41 .add 33 (zi 1),xm 33 41]
def b55_0:PC:=(sq (xo r55_4) (sq (.cond (.t 34) .skip (.exit 0)) (sq (.block 1 (sq (xo r55_5) (sq (xo r55_6) (.cond (.t 40) (sq (xo r55_7) .ret) .skip)))) (xo r55_8))))
abbrev r55_9:LO:=[xf 42 5 3,xl 43 1 42,xc 44 .eql 43 (zi 0)]
abbrev r55_10:LO:=[xf 45 6 3,xl 46 1 45,xc 47 .eql 46 (zi 0),xm 48 47,xg (xf 49 7 3) 48,xg (xl 50 1 49) 48,xg (xc 51 .eql 50 (zi 0)) 48,xp 52 48 51,xm 4 52]
abbrev r55_11:LO:=[xf 53 6 3,xl 54 1 53,xf 55 1 2,xl 56 1 55,xc 57 .sub 56 (zi 1),⟨some 58,.call false 92 [(.t 54),(.k (zi 0)),(.t 57)],none⟩,xm 59 58,xg (xf 60 7 3) 59,xg (xl 61 1 60) 59,⟨some 62,.call false 92 [(.t 61),(.k (zi 1)),(.k (zi 5))],(some (59,true))⟩,xp 63 59 62,xm 4 63]
def p55:PC:=(sq (xo r55_0) (sq (sq (xo r55_1) (.cond (.t 29) (sq (xo r55_2) .ret) .skip)) (sq (sq (xo r55_3) (.block 0 (.loop b55_0))) (sq (sq (xo r55_9) (.cond (.t 44) (sq (xo r55_10) .ret) .skip)) (sq (xo r55_11) .ret)))))
def rs55:LR:=[.t 4]
theorem c55:chkF Tryz.prog Tryz.f55 2 p55 rs55=true:=by kernel_rfl
/- cuboid/query.Need -/
abbrev r56_0:LO:=[xx 2 2 0,xx 3 9 1,⟨some 4,.alloc zr6,none⟩]
abbrev r56_1:LO:=[xR 8 2 2,xR 9 9 3,xC2 10 55 8 9,xu 11 10]
abbrev r56_2:LO:=[⟨some 12,.build zr6 [],none⟩,xs 4 4 12]
abbrev r56_3:LO:=[xf 13 0 3,xR 14 4 13,⟨some 5,.alloc zr6,none⟩,xs 4 5 14]
abbrev r56_4:LO:=[xf 15 4 3,xl 16 1 15,xn 17 16,xk 18 (zi 0)]
abbrev r56_5:LO:=[xb 19 .lss 18 17]
abbrev r56_6:LO:=[xi 20 3 16 18,xR 21 3 20,⟨some 7,.alloc zr7,none⟩,xs 3 7 21]
abbrev r56_7:LO:=[xf 22 0 7,xl 23 1 22,xf 24 0 7,xl 25 1 24,⟨some 26,.iaA 4 1 (.t 5) (.t 25),none⟩,xl 27 1 26,xf 28 1 7,xl 29 1 28,⟨some 30,.conv .u8 (.t 29),none⟩,⟨some 31,.mm false (.t 27) [(.t 30)],none⟩,⟨some 32,.iaA 4 1 (.t 5) (.t 23),none⟩,xs 1 32 31]
abbrev r56_8:LO:=[xc 33 .add 18 (zi 1),xm 18 33]
def b56_0:PC:=(sq (xo r56_5) (sq (.cond (.t 19) .skip (.exit 0)) (sq (.block 1 (sq (xo r56_6) (xO r56_7))) (xo r56_8))))
abbrev r56_9:LO:=[xR 34 4 5,xs 4 4 34]
def p56:PC:=(sq (xo r56_0) (sq (sq (xo r56_1) (.cond (.t 11) (sq (xo r56_2) .ret) .skip)) (sq (xo r56_3) (sq (sq (xo r56_4) (.block 0 (.loop b56_0))) (sq (xo r56_9) .ret)))))
def rs56:LR:=[.cell 4 true 4]
theorem c56:chkF Tryz.prog Tryz.f56 2 p56 rs56=true:=by kernel_rfl
/- cuboid/exec.kept -/
abbrev r57_0:LO:=[xx 4 2 0,xx 5 4 1,xk 8 (.sl [])]
abbrev r57_1:LO:=[⟨some 9,.own0 9,none⟩]
abbrev r57_2:LO:=[xm 12 2,xn 13 12,xk 14 (zi 0)]
abbrev r57_3:LO:=[xb 15 .lss 14 13]
abbrev r57_4:LO:=[xi 16 9 12 14,xR 17 9 16,⟨some 11,.alloc zr2,none⟩,xs 9 11 17]
abbrev r57_5:LO:=[xm 18 3,⟨some 19,.mkf 95 [(.t 4),(.t 5),(.t 11)],none⟩,xC2 20 94 18 19,xu 21 20]
abbrev r57_6:LO:=[xm 22 9,xR 23 9 11,⟨some 24,.bsl 9 1 zr2 [(0,(.t 23))] false,none⟩,⟨some 25,.app 9 (.t 22) (.t 24) true,none⟩,xm 9 25]
abbrev r57_7:LO:=[xc 26 .add 14 (zi 1),xm 14 26]
def b57_0:PC:=(sq (xo r57_3) (sq (.cond (.t 15) .skip (.exit 0)) (sq (.block 1 (sq (xo r57_4) (sq (.fzv 11 (xo r57_5)) (.cond (.t 21) (xo r57_6) .skip)))) (xo r57_7))))
abbrev r57_8:LO:=[xm 27 9,xm 8 27]
def p57:PC:=(sq (xo r57_0) (sq (.fzv 5 (.fzv 4 (xo r57_1))) (sq (sq (xo r57_2) (.block 0 (.loop b57_0))) (sq (xo r57_8) .ret))))
def rs57:LR:=[.t 8]
theorem c57:chkF Tryz.prog Tryz.f57 4 p57 rs57=true:=by kernel_rfl
/- cuboid/cell.Line -/
abbrev r58_0:LO:=[xx 4 4 1,xx 5 5 2,⟨some 6,.alloc zr1,none⟩]
abbrev r58_1:LO:=[xm 9 0,xR 10 5 5,xC2 11 60 9 10,xu 12 11]
abbrev r58_2:LO:=[⟨some 13,.build zr1 [],none⟩,xs 11 6 13]
abbrev r58_3:LO:=[xR 14 4 4,xf 15 0 5,xl 16 1 15,⟨some 17,.build zr1 [(0,4,(.t 14)),(4,1,(.t 16))],none⟩,⟨some 7,.alloc zr1,none⟩,xs 11 7 17]
abbrev r58_4:LO:=[xm 18 0,xk 19 (zi 0)]
abbrev r58_5:LO:=[xb 20 .lss 19 18]
abbrev r58_6:LO:=[xm 21 19,xm 8 21]
abbrev r58_7:LO:=[xm 22 8,xm 23 8,xf 24 1 5,⟨some 25,.iaA 2 1 (.t 24) (.t 23),none⟩,xl 26 1 25,xf 27 5 7,⟨some 28,.iaA 2 1 (.t 27) (.t 22),none⟩,xs 1 28 26]
abbrev r58_8:LO:=[xm 30 8,xm 31 8,xf 32 3 5,⟨some 33,.iaA 2 1 (.t 32) (.t 31),none⟩,xl 34 1 33,xC1 35 97 34,xm 29 35,xe 36 29 0,xe 37 29 1,xf 38 7 7,⟨some 39,.iaA 2 1 (.t 38) (.t 30),none⟩,xs 1 39 36]
abbrev r58_9:LO:=[xm 41 8,xm 42 8,xf 43 3 5,⟨some 44,.iaA 2 1 (.t 43) (.t 42),none⟩,xl 45 1 44,xC1 46 98 45,xm 40 46,xe 47 40 0,xe 48 40 1,xf 49 9 7,⟨some 50,.iaA 2 1 (.t 49) (.t 41),none⟩,xs 1 50 47]
abbrev r58_10:LO:=[xc 51 .add 19 (zi 1),xm 19 51]
def b58_0:PC:=(sq (xo r58_5) (sq (.cond (.t 20) .skip (.exit 0)) (sq (.block 1 (sq (xo r58_6) (sq (xo r58_7) (sq (xo r58_8) (xo r58_9))))) (xo r58_10))))
abbrev r58_11:LO:=[xR 52 11 7,xs 11 6 52]
def p58:PC:=(sq (xo r58_0) (sq (sq (xo r58_1) (.cond (.t 12) (sq (xo r58_2) .ret) .skip)) (sq (xo r58_3) (sq (sq (xo r58_4) (.block 0 (.loop b58_0))) (sq (xo r58_11) .ret)))))
def rs58:LR:=[.cell 6 true 11]
theorem c58:chkF Tryz.prog Tryz.f58 3 p58 rs58=true:=by kernel_rfl
/- cuboid/schema.Right -/
abbrev r59_0:LO:=[xx 3 2 0,xx 4 4 1,xx 5 4 2,xk 6 (.bool false)]
abbrev r59_1:LO:=[xR 8 2 3,xC1 9 99 8,xu 10 9]
abbrev r59_2:LO:=[xk 6 (.bool false)]
abbrev r59_3:LO:=[xk 11 (zi 0)]
abbrev r59_4:LO:=[xc 12 .lss 11 (zi 4)]
abbrev r59_5:LO:=[xm 13 11,xm 7 13]
abbrev r59_6:LO:=[xm 14 7,xf 15 0 3,xl 16 1 15,xn 17 16,xb 18 .geq 14 17]
abbrev r59_7:LO:=[xm 19 7,⟨some 20,.iaA 4 1 (.t 4) (.t 19),none⟩,xl 21 1 20,xc 22 .neq 21 (zu 0),xm 23 22,xh (xm 24 7) 23,⟨some 25,.iaA 4 1 (.t 5) (.t 24),(some (23,false))⟩,xh (xl 26 1 25) 23,xh (xc 27 .neq 26 (zu 0)) 23,xq 28 23 27]
abbrev r59_8:LO:=[xk 6 (.bool false)]
abbrev r59_9:LO:=[xm 29 7,⟨some 30,.iaA 4 1 (.t 5) (.t 29),none⟩,xl 31 1 30,⟨some 32,.conv .i64 (.t 31),none⟩,xf 33 0 3,xl 34 1 33,xm 35 7,xi 36 2 34 35,xR 37 2 36,xm 38 7,⟨some 39,.iaA 4 1 (.t 4) (.t 38),none⟩,xl 40 1 39,⟨some 41,.conv .i64 (.t 40),none⟩,xC2 42 100 37 41,xb 43 .geq 32 42]
abbrev r59_10:LO:=[xk 6 (.bool false)]
abbrev r59_11:LO:=[xc 44 .add 11 (zi 1),xm 11 44]
def b59_0:PC:=(sq (xo r59_4) (sq (.cond (.t 12) .skip (.exit 0)) (sq (.block 1 (sq (xo r59_5) (sq (sq (xo r59_6) (.cond (.t 18) (sq (sq (xo r59_7) (.cond (.t 28) (sq (xo r59_8) .ret) .skip)) (.exit 1)) .skip)) (sq (xO r59_9) (.cond (.t 43) (sq (xo r59_10) .ret) .skip))))) (xo r59_11))))
abbrev r59_12:LO:=[xk 6 (.bool true)]
def p59:PC:=(sq (xo r59_0) (sq (sq (xo r59_1) (.cond (.t 10) (sq (xo r59_2) .ret) .skip)) (sq (sq (xo r59_3) (.block 0 (.loop b59_0))) (sq (xo r59_12) .ret))))
def rs59:LR:=[.t 6]
theorem c59:chkF Tryz.prog Tryz.f59 3 p59 rs59=true:=by kernel_rfl
/- cuboid/cell.Good -/
abbrev r60_0:LO:=[xx 3 5 1,xk 4 (.bool false)]
abbrev r60_1:LO:=[xm 9 0,xC1 10 101 9,xu 11 10,xm 12 11,xh (xf 13 0 3) 12,xh (xl 14 1 13) 12,xh (xc 15 .lss 14 (zi 1)) 12,xq 16 12 15,xm 17 16,xh (xf 18 0 3) 17,xh (xl 19 1 18) 17,xh (xc 20 .gtr 19 (zi 1099511627776)) 17,xq 21 17 20]
abbrev r60_2:LO:=[xk 4 (.bool false)]
abbrev r60_3:LO:=[xf 22 3 3,xR 23 2 22,xk 24 (zi 0)]
abbrev r60_4:LO:=[xc 25 .lss 24 (zi 2)]
abbrev r60_5:LO:=[xm 26 24,⟨some 27,.idA false 2 1 (.t 23) (.t 24),none⟩,xm 5 26,xm 6 27]
abbrev r60_6:LO:=[xm 28 5,xm 29 0,xb 30 .geq 28 29]
abbrev r60_7:LO:=[xm 31 5,xf 32 1 3,⟨some 33,.iaA 2 1 (.t 32) (.t 31),none⟩,xl 34 1 33,xc 35 .neq 34 (zi 0),xm 36 35,xh (xm 37 6) 36,xh (xn 38 37) 36,xh (xc 39 .gtr 38 (zi 0)) 36,xq 40 36 39]
abbrev r60_8:LO:=[xk 4 (.bool false)]
abbrev r60_9:LO:=[xm 42 6,xC1 43 102 42,xm 41 43,xe 44 41 0,xe 45 41 1,xm 7 44,xm 8 45]
abbrev r60_10:LO:=[xm 46 8,xu 47 46,xm 48 47,xh (xm 49 7) 48,xh (xm 50 5) 48,xh (xf 51 1 3) 48,⟨some 52,.iaA 2 1 (.t 51) (.t 50),(some (48,false))⟩,xh (xl 53 1 52) 48,xh (xb 54 .neq 49 53) 48,xq 55 48 54,xm 56 55,xh (xm 57 6) 56,xh (xC1 58 103 57) 56,xh (xf 59 0 3) 56,xh (xl 60 1 59) 56,xh (xb 61 .neq 58 60) 56,xq 62 56 61]
abbrev r60_11:LO:=[xk 4 (.bool false)]
abbrev r60_12:LO:=[xc 63 .add 24 (zi 1),xm 24 63]
def b60_0:PC:=(sq (xo r60_4) (sq (.cond (.t 25) .skip (.exit 0)) (sq (.block 1 (sq (xo r60_5) (sq (sq (xo r60_6) (.cond (.t 30) (sq (sq (xo r60_7) (.cond (.t 40) (sq (xo r60_8) .ret) .skip)) (.exit 1)) .skip)) (sq (xo r60_9) (sq (xO r60_10) (.cond (.t 62) (sq (xo r60_11) .ret) .skip)))))) (xo r60_12))))
abbrev r60_13:LO:=[xk 4 (.bool true)]
def p60:PC:=(sq (xo r60_0) (sq (sq (xo r60_1) (.cond (.t 21) (sq (xo r60_2) .ret) .skip)) (sq (sq (xo r60_3) (.block 0 (.loop b60_0))) (sq (xo r60_13) .ret))))
def rs60:LR:=[.t 4]
theorem c60:chkF Tryz.prog Tryz.f60 2 p60 rs60=true:=by kernel_rfl
/- cuboid/cuboidref09.Same -/
abbrev r61_0:LO:=[xx 2 5 0,xx 3 5 1,xk 4 (.bool false)]
abbrev r61_1:LO:=[xk 5 (zi 0)]
abbrev r61_2:LO:=[xm 6 5,xc 7 .lss 6 (zi 2)]
abbrev r61_4:LO:=[xm 10 5,xf 11 1 2,⟨some 12,.iaA 2 1 (.t 11) (.t 10),none⟩,xl 13 1 12,xm 14 5,xf 15 1 3,⟨some 16,.iaA 2 1 (.t 15) (.t 14),none⟩,xl 17 1 16,xb 18 .neq 13 17,xm 19 18,xh (xm 20 5) 19,xh (xf 21 3 2) 19,⟨some 22,.iaA 2 1 (.t 21) (.t 20),(some (19,false))⟩,xh (xl 23 1 22) 19,xh (xm 24 5) 19,xh (xf 25 3 3) 19,⟨some 26,.iaA 2 1 (.t 25) (.t 24),(some (19,false))⟩,xh (xl 27 1 26) 19,xh (xC2 28 104 23 27) 19,xh (xu 29 28) 19,xq 30 19 29]
abbrev r61_5:LO:=[xk 4 (.bool false)]
abbrev r61_3:LO:=[xm 8 5,xc 9 .add 8 (zi 1),xm 5 9]
def b61_0:PC:=(sq (sq (xo r61_2) (.cond (.t 7) .skip (.exit 0))) (sq (.block 1 (sq (xO r61_4) (.cond (.t 30) (sq (xo r61_5) .ret) .skip))) (xo r61_3)))
abbrev r61_6:LO:=[xf 31 0 2,xl 32 1 31,xf 33 0 3,xl 34 1 33,xb 35 .eql 32 34,xm 4 35]
def p61:PC:=(sq (xo r61_0) (sq (sq (xo r61_1) (.block 0 (.loop b61_0))) (sq (xo r61_6) .ret)))
def rs61:LR:=[.t 4]
theorem c61:chkF Tryz.prog Tryz.f61 2 p61 rs61=true:=by kernel_rfl
/- cuboid/cuboidkeep.LightDim -/
abbrev r65_0:LO:=[xx 1 2 0,xk 2 (.bool false)]
abbrev r65_1:LO:=[xf 4 0 1,xl 5 1 4,xn 6 5,xc 7 .gtr 6 (zi 10),xm 8 7,xh (xf 9 1 1) 8,xh (xl 10 1 9) 8,xh (xn 11 10) 8,xh (xc 12 .gtr 11 (zi 10)) 8,xq 13 8 12]
abbrev r65_2:LO:=[xk 2 (.bool false)]
abbrev r65_3:LO:=[xk 3 (zi 0)]
abbrev r65_4:LO:=[xm 14 3,xf 15 1 1,xl 16 1 15,xn 17 16,xb 18 .lss 14 17]
abbrev r65_6:LO:=[xf 21 1 1,xl 22 1 21,xm 23 3,xi 24 1 22 23,xl 25 1 24,xn 26 25,xc 27 .gtr 26 (zi 60)]
abbrev r65_7:LO:=[xk 2 (.bool false)]
abbrev r65_5:LO:=[xm 19 3,xc 20 .add 19 (zi 1),xm 3 20]
def b65_0:PC:=(sq (sq (xo r65_4) (.cond (.t 18) .skip (.exit 0))) (sq (.block 1 (sq (xo r65_6) (.cond (.t 27) (sq (xo r65_7) .ret) .skip))) (xo r65_5)))
abbrev r65_8:LO:=[xk 2 (.bool true)]
def p65:PC:=(sq (xo r65_0) (sq (sq (xo r65_1) (.cond (.t 13) (sq (xo r65_2) .ret) .skip)) (sq (sq (xo r65_3) (.block 0 (.loop b65_0))) (sq (xo r65_8) .ret))))
def rs65:LR:=[.t 2]
theorem c65:chkF Tryz.prog Tryz.f65 1 p65 rs65=true:=by kernel_rfl
/- cuboid/cuboidref27.places -/
abbrev r66_0:LO:=[xx 3 2 0,xx 5 4 2,xk 6 (.sl [])]
abbrev r66_1:LO:=[xk 7 (.sl [])]
abbrev r66_2:LO:=[xk 8 (zi 0)]
abbrev r66_3:LO:=[xm 11 8,xm 12 1,xn 13 12,xb 14 .lss 11 13]
abbrev r66_5:LO:=[⟨some 17,.load true 2 (.t 3) [9],none⟩,⟨some 18,.build zr6 [],none⟩,⟨some 19,.load true 4 (.t 5) [9],none⟩,xm 20 1,xm 21 8,xi 22 6 20 21,xf 23 0 22,⟨some 24,.load true 4 (.t 23) [9],none⟩,xC4 25 67 17 18 19 24,⟨some 26,.fld true 0 4 (.t 25),none⟩,⟨some 9,.alloc zr6,none⟩,xs 4 9 26]
abbrev r66_6:LO:=[xk 10 (zi 0)]
abbrev r66_7:LO:=[xm 27 10,xm 28 7,xn 29 28,xb 30 .lss 27 29,xm 31 30,xg (xm 32 7) 31,xg (xm 33 10) 31,xg (xi 34 4 32 33) 31,xg (xR 35 4 34) 31,xg (xC1 36 23 35) 31,xg (xR 37 4 9) 31,xg (xC1 38 23 37) 31,xg (xb 39 .lss 36 38) 31,xp 40 31 39]
abbrev r66_8:LO:=[xm 41 10,xc 42 .add 41 (zi 1),xm 10 42]
def b66_1:PC:=(sq (sq (xO r66_7) (.cond (.t 40) .skip (.exit 2))) (.block 3 (xo r66_8)))
abbrev r66_9:LO:=[xm 43 10,xm 44 7,xn 45 44,xb 46 .geq 43 45,xm 47 46,xh (xm 48 7) 47,xh (xm 49 10) 47,xh (xi 50 4 48 49) 47,xh (xR 51 4 50) 47,xh (xR 52 4 9) 47,⟨some 53,.eqs true true [.i,.i,.i,.i] (.t 51) (.t 52),(some (47,false))⟩,xq 54 47 53]
abbrev r66_10:LO:=[⟨some 55,.bsl 4 0 zr6 [] true,none⟩,xm 56 7,xm 57 10,⟨some 58,.slc 4 (.t 56) none (some (.t 57)),none⟩,⟨some 59,.app 4 (.t 55) (.t 58) true,none⟩,⟨some 60,.load true 4 (.t 9) [55,59],none⟩,⟨some 61,.bsl 4 1 zr6 [(0,(.t 60))] false,none⟩,⟨some 62,.app 4 (.t 59) (.t 61) true,none⟩,xm 63 7,xm 64 10,⟨some 65,.slc 4 (.t 63) (some (.t 64)) none,none⟩,⟨some 66,.app 4 (.t 62) (.t 65) false,none⟩,xm 7 66]
abbrev r66_4:LO:=[xm 15 8,xc 16 .add 15 (zi 1),xm 8 16]
def b66_0:PC:=(sq (sq (xo r66_3) (.cond (.t 14) .skip (.exit 0))) (sq (.block 1 (sq (xO r66_5) (sq (xo r66_6) (sq (.block 2 (.loop b66_1)) (sq (xO r66_9) (.cond (.t 54) (.opsB r66_10 [(4,55),(5,9),(7,59),(11,62)]) .skip)))))) (xo r66_4)))
abbrev r66_11:LO:=[xm 67 7,xm 6 67]
def p66:PC:=(sq (xo r66_0) (sq (xo r66_1) (sq (sq (xo r66_2) (.block 0 (.loop b66_0))) (sq (xo r66_11) .ret))))
def rs66:LR:=[.t 6]
theorem c66:chkF Tryz.prog Tryz.f66 3 p66 rs66=true:=by kernel_rfl
/- cuboid/cuboidref06.To -/
abbrev r67_0:LO:=[xx 4 2 0,xx 5 4 1,xx 6 4 2,xx 7 4 3,⟨some 8,.alloc [zu 0,zu 0,zu 0,zu 0,.bool false],none⟩]
abbrev r67_1:LO:=[xR 11 2 4,xR 12 4 5,xR 13 4 7,xC3 14 73 11 12 13,xu 15 14,xm 16 15,xh (xR 17 2 4) 16,xh (xR 18 4 6) 16,xh (xC2 19 40 17 18) 16,xh (xu 20 19) 16,xq 21 16 20,xm 22 21,xh (xR 23 4 5) 22,xh (xR 24 4 6) 22,xh (xC2 25 69 23 24) 22,xh (xu 26 25) 22,xq 27 22 26]
abbrev r67_2:LO:=[⟨some 28,.build [zu 0,zu 0,zu 0,zu 0,.bool false] [],none⟩,xs 5 8 28]
abbrev r67_3:LO:=[⟨some 29,.build [zu 0,zu 0,zu 0,zu 0,.bool false] [(4,1,(.k (.bool true)))],none⟩,⟨some 9,.alloc [zu 0,zu 0,zu 0,zu 0,.bool false],none⟩,xs 5 9 29]
abbrev r67_4:LO:=[xk 10 (zi 0)]
abbrev r67_5:LO:=[xm 30 10,xf 31 0 4,xl 32 1 31,xn 33 32,xb 34 .lss 30 33]
abbrev r67_7:LO:=[xm 37 10,xf 38 0 4,xl 39 1 38,xm 40 10,xi 41 2 39 40,xR 42 2 41,xm 43 10,⟨some 44,.iaA 4 1 (.t 5) (.t 43),none⟩,xl 45 1 44,⟨some 46,.conv .i64 (.t 45),none⟩,xm 47 10,⟨some 48,.iaA 4 1 (.t 6) (.t 47),none⟩,xl 49 1 48,⟨some 50,.conv .i64 (.t 49),none⟩,xm 51 10,⟨some 52,.iaA 4 1 (.t 7) (.t 51),none⟩,xl 53 1 52,⟨some 54,.conv .i64 (.t 53),none⟩,xC4 55 107 42 46 50 54,⟨some 56,.conv .u8 (.t 55),none⟩,xf 57 0 9,⟨some 58,.iaA 4 1 (.t 57) (.t 37),none⟩,xs 1 58 56]
abbrev r67_6:LO:=[xm 35 10,xc 36 .add 35 (zi 1),xm 10 36]
def b67_0:PC:=(sq (sq (xo r67_5) (.cond (.t 34) .skip (.exit 0))) (sq (.block 1 (xO r67_7)) (xo r67_6)))
abbrev r67_8:LO:=[xR 59 5 9,xs 5 8 59]
def p67:PC:=(sq (xo r67_0) (sq (sq (xo r67_1) (.cond (.t 27) (sq (xo r67_2) .ret) .skip)) (sq (xo r67_3) (sq (sq (xo r67_4) (.block 0 (.loop b67_0))) (sq (xo r67_8) .ret)))))
def rs67:LR:=[.cell 8 true 5]
theorem c67:chkF Tryz.prog Tryz.f67 4 p67 rs67=true:=by kernel_rfl
/- cuboid/cuboidref09.Of -/
abbrev r68_0:LO:=[⟨some 4,.alloc [zi 0,zi 0,zi 0,.sl [],.sl [],.bool false],none⟩]
abbrev r68_1:LO:=[xm 8 0,xc 9 .lss 8 (zi 1),xm 10 9,xh (xm 11 0) 10,xh (xc 12 .gtr 11 (zi 2)) 10,xq 13 10 12,xm 14 13,xh (xm 15 1) 14,xh (xn 16 15) 14,xh (xc 17 .eql 16 (zi 0)) 14,xq 18 14 17]
abbrev r68_2:LO:=[⟨some 19,.build [zi 0,zi 0,zi 0,.sl [],.sl [],.bool false] [],none⟩,xs 6 4 19]
abbrev r68_3:LO:=[⟨some 5,.alloc zr8,none⟩]
abbrev r68_4:LO:=[xk 6 (zi 0)]
abbrev r68_5:LO:=[xm 20 6,xm 21 0,xb 22 .lss 20 21]
abbrev r68_7:LO:=[xk 7 (zi 0)]
abbrev r68_8:LO:=[xm 25 7,xm 26 1,xn 27 26,xb 28 .lss 25 27]
abbrev r68_10:LO:=[xm 31 6,xm 32 6,⟨some 33,.iaA 2 1 (.t 5) (.t 32),none⟩,xl 34 1 33,xm 35 1,xm 36 7,xm 37 6,xi 38 6 35 36,xf 39 4 38,⟨some 40,.iaA 2 1 (.t 39) (.t 37),none⟩,xl 41 1 40,⟨some 42,.call false 108 [(.t 34),(.t 41),(.k (zi 1))],none⟩,⟨some 43,.iaA 2 1 (.t 5) (.t 31),none⟩,xs 1 43 42]
abbrev r68_9:LO:=[xm 29 7,xc 30 .add 29 (zi 1),xm 7 30]
def b68_1:PC:=(sq (sq (xo r68_8) (.cond (.t 28) .skip (.exit 2))) (sq (.block 3 (xO r68_10)) (xo r68_9)))
abbrev r68_6:LO:=[xm 23 6,xc 24 .add 23 (zi 1),xm 6 24]
def b68_0:PC:=(sq (sq (xo r68_5) (.cond (.t 22) .skip (.exit 0))) (sq (.block 1 (sq (xo r68_7) (.block 2 (.loop b68_1)))) (xo r68_6)))
abbrev r68_11:LO:=[xm 44 0,xm 45 1,xn 46 45,xR 47 2 5,xC3 48 109 44 46 47,xs 6 4 48]
def p68:PC:=(sq (xo r68_0) (sq (sq (xo r68_1) (.cond (.t 18) (sq (xo r68_2) .ret) .skip)) (sq (xo r68_3) (sq (sq (xo r68_4) (.block 0 (.loop b68_0))) (sq (xo r68_11) .ret)))))
def rs68:LR:=[.cell 4 true 6]
theorem c68:chkF Tryz.prog Tryz.f68 2 p68 rs68=true:=by kernel_rfl
/- cuboid/cuboidref05.Below -/
abbrev r69_0:LO:=[xx 2 4 0,xx 3 4 1,xk 4 (.bool false)]
abbrev r69_1:LO:=[xk 5 (zi 0)]
abbrev r69_2:LO:=[xm 6 5,xc 7 .lss 6 (zi 4)]
abbrev r69_4:LO:=[xm 10 5,⟨some 11,.iaA 4 1 (.t 2) (.t 10),none⟩,xl 12 1 11,xm 13 5,⟨some 14,.iaA 4 1 (.t 3) (.t 13),none⟩,xl 15 1 14,xb 16 .gtr 12 15]
abbrev r69_5:LO:=[xk 4 (.bool false)]
abbrev r69_3:LO:=[xm 8 5,xc 9 .add 8 (zi 1),xm 5 9]
def b69_0:PC:=(sq (sq (xo r69_2) (.cond (.t 7) .skip (.exit 0))) (sq (.block 1 (sq (xO r69_4) (.cond (.t 16) (sq (xo r69_5) .ret) .skip))) (xo r69_3)))
abbrev r69_6:LO:=[xk 4 (.bool true)]
def p69:PC:=(sq (xo r69_0) (sq (sq (xo r69_1) (.block 0 (.loop b69_0))) (sq (xo r69_6) .ret)))
def rs69:LR:=[.t 4]
theorem c69:chkF Tryz.prog Tryz.f69 2 p69 rs69=true:=by kernel_rfl
/- cuboid/cuboidref26.lay -/
abbrev r70_0:LO:=[xx 6 4 2,xx 7 5 3,⟨some 8,.alloc [.sl [],.bool false],none⟩]
abbrev r70_1:LO:=[xk 9 (zi 0)]
abbrev r70_2:LO:=[xm 12 9,xm 13 1,xn 14 13,xb 15 .lss 12 14,xm 16 15,xg (xm 17 1) 16,xg (xm 18 9) 16,xg (xi 19 9 17 18) 16,xg (xf 20 0 19) 16,xg (xR 21 4 20) 16,xg (xC1 22 23 21) 16,xg (xR 23 4 6) 16,xg (xC1 24 23 23) 16,xg (xb 25 .lss 22 24) 16,xp 26 16 25]
abbrev r70_3:LO:=[xm 27 9,xc 28 .add 27 (zi 1),xm 9 28]
def b70_0:PC:=(sq (sq (xO r70_2) (.cond (.t 26) .skip (.exit 0))) (.block 1 (xo r70_3)))
abbrev r70_4:LO:=[⟨some 29,.bsl 9 0 zr2 [] true,none⟩,xm 30 1,xm 31 9,⟨some 32,.slc 9 (.t 30) none (some (.t 31)),none⟩,⟨some 33,.app 9 (.t 29) (.t 32) true,none⟩,xm 10 33]
abbrev r70_5:LO:=[xm 34 9,xm 35 1,xn 36 35,xb 37 .lss 34 36,xm 38 37,xg (xm 39 1) 38,xg (xm 40 9) 38,xg (xi 41 9 39 40) 38,xg (xf 42 0 41) 38,xg (xR 43 4 42) 38,xg (xR 44 4 6) 38,⟨some 45,.eqs false true [.i,.i,.i,.i] (.t 43) (.t 44),(some (38,true))⟩,xp 46 38 45]
abbrev r70_6:LO:=[xm 47 0,xm 48 1,xm 49 9,xi 50 9 48 49,xf 51 4 50,⟨some 52,.load true 5 (.t 51) [11],none⟩,⟨some 53,.load true 5 (.t 7) [11],none⟩,xC3 54 110 47 52 53,⟨some 11,.alloc [zi 0,zi 0,zi 0,.sl [],.sl [],.bool false],none⟩,xs 6 11 54]
abbrev r70_7:LO:=[xf 55 5 11,xl 56 1 55,xu 57 56]
abbrev r70_8:LO:=[⟨some 58,.build [.sl [],.bool false] [],none⟩,xs 2 8 58]
abbrev r70_9:LO:=[xm 59 10,xR 60 4 6,xf 61 0 11,xR 62 5 61,⟨some 63,.build zr2 [(0,4,(.t 60)),(4,5,(.t 62))],none⟩,⟨some 64,.bsl 9 1 zr2 [(0,(.t 63))] false,none⟩,⟨some 65,.app 9 (.t 59) (.t 64) true,none⟩,xm 10 65]
abbrev r70_10:LO:=[xm 66 9,xc 67 .add 66 (zi 1),xm 9 67]
abbrev r70_11:LO:=[xm 68 10,xR 69 4 6,xR 70 5 7,⟨some 71,.build zr2 [(0,4,(.t 69)),(4,5,(.t 70))],none⟩,⟨some 72,.bsl 9 1 zr2 [(0,(.t 71))] false,none⟩,⟨some 73,.app 9 (.t 68) (.t 72) true,none⟩,xm 10 73]
abbrev r70_12:LO:=[xm 74 10,xm 75 1,xm 76 9,⟨some 77,.slc 9 (.t 75) (some (.t 76)) none,none⟩,⟨some 78,.app 9 (.t 74) (.t 77) true,none⟩,xm 10 78]
abbrev r70_13:LO:=[xm 79 10,⟨some 80,.build [.sl [],.bool false] [(0,1,(.t 79)),(1,1,(.k (.bool true)))],none⟩,xs 2 8 80]
def p70:PC:=(sq (xo r70_0) (sq (xo r70_1) (sq (.block 0 (.loop b70_0)) (sq (xo r70_4) (sq (sq (xO r70_5) (.cond (.t 46) (sq (xO r70_6) (sq (sq (xo r70_7) (.cond (.t 57) (sq (xo r70_8) .ret) .skip)) (sq (xo r70_9) (xo r70_10)))) (xo r70_11))) (sq (xo r70_12) (sq (.fz 10 (xo r70_13)) .ret)))))))
def rs70:LR:=[.cell 8 true 2]
theorem c70:chkF Tryz.prog Tryz.f70 4 p70 rs70=true:=by kernel_rfl
/- cuboid/cuboidref06.Within -/
abbrev r71_0:LO:=[xx 4 2 0,xx 5 4 1,xx 6 4 2,xx 7 3 3,xk 8 (.bool false)]
abbrev r71_1:LO:=[xR 11 2 4,xR 12 4 5,xR 13 4 6,xC3 14 73 11 12 13,xu 15 14,xm 16 15,xh (xf 17 0 7) 16,xh (xl 18 1 17) 16,xh (xc 19 .lss 18 (zi 0)) 16,xq 20 16 19,xm 21 20,xh (xf 22 0 7) 21,xh (xl 23 1 22) 21,xh (xf 24 0 4) 21,xh (xl 25 1 24) 21,xh (xn 26 25) 21,xh (xb 27 .geq 23 26) 21,xq 28 21 27,xm 29 28,xh (xf 30 1 7) 29,xh (xl 31 1 30) 29,xh (xf 32 0 7) 29,xh (xl 33 1 32) 29,⟨some 34,.iaA 4 1 (.t 5) (.t 33),(some (29,false))⟩,xh (xl 35 1 34) 29,⟨some 36,.conv .i64 (.t 35),(some (29,false))⟩,xh (xb 37 .lss 31 36) 29,xq 38 29 37,xm 39 38,xh (xf 40 1 7) 39,xh (xl 41 1 40) 39,xh (xR 42 2 4) 39,xh (xf 43 0 7) 39,xh (xl 44 1 43) 39,xh (xC2 45 111 42 44) 39,xh (xb 46 .geq 41 45) 39,xq 47 39 46]
abbrev r71_2:LO:=[xk 8 (.bool false)]
abbrev r71_3:LO:=[xf 48 0 4,xl 49 1 48,xf 50 0 7,xl 51 1 50,xi 52 2 49 51,xR 53 2 52,xf 54 0 7,xl 55 1 54,⟨some 56,.iaA 4 1 (.t 5) (.t 55),none⟩,xl 57 1 56,⟨some 58,.conv .i64 (.t 57),none⟩,xf 59 1 7,xl 60 1 59,xf 61 0 7,xl 62 1 61,⟨some 63,.iaA 4 1 (.t 6) (.t 62),none⟩,xl 64 1 63,⟨some 65,.conv .i64 (.t 64),none⟩,xC4 66 107 53 58 60 65,xm 9 66]
abbrev r71_4:LO:=[xk 10 (zi 0)]
abbrev r71_5:LO:=[xm 67 10,xf 68 2 7,xl 69 1 68,xn 70 69,xb 71 .lss 67 70]
abbrev r71_7:LO:=[xf 74 2 7,xl 75 1 74,xm 76 10,xi 77 1 75 76,xl 78 1 77,xm 79 9,xb 80 .eql 78 79]
abbrev r71_8:LO:=[xk 8 (.bool true)]
abbrev r71_6:LO:=[xm 72 10,xc 73 .add 72 (zi 1),xm 10 73]
def b71_0:PC:=(sq (sq (xo r71_5) (.cond (.t 71) .skip (.exit 0))) (sq (.block 1 (sq (xo r71_7) (.cond (.t 80) (sq (xo r71_8) .ret) .skip))) (xo r71_6)))
abbrev r71_9:LO:=[xk 8 (.bool false)]
def p71:PC:=(sq (xo r71_0) (sq (sq (xO r71_1) (.cond (.t 47) (sq (xo r71_2) .ret) .skip)) (sq (xO r71_3) (sq (sq (xo r71_4) (.block 0 (.loop b71_0))) (sq (xo r71_9) .ret)))))
def rs71:LR:=[.t 8]
theorem c71:chkF Tryz.prog Tryz.f71 4 p71 rs71=true:=by kernel_rfl
/- cuboid/cuboidref26.Told -/
abbrev r72_0:LO:=[xx 5 9 2,⟨some 6,.alloc zr9,none⟩]
abbrev r72_1:LO:=[⟨some 7,.own0 11,none⟩]
abbrev r72_2:LO:=[xk 8 (zi 0)]
abbrev r72_3:LO:=[xm 9 8,xm 10 1,xn 11 10,xb 12 .lss 9 11]
abbrev r72_5:LO:=[xm 15 7,xm 16 0,xm 17 1,xm 18 8,xi 19 9 17 18,xf 20 0 19,xR 21 4 20,xm 22 1,xm 23 8,xi 24 9 22 23,xf 25 4 24,xR 26 5 25,xC3 27 112 16 21 26,⟨some 28,.bsl 11 1 zr1 [(0,(.t 27))] false,none⟩,⟨some 29,.app 11 (.t 15) (.t 28) true,none⟩,xm 7 29]
abbrev r72_4:LO:=[xm 13 8,xc 14 .add 13 (zi 1),xm 8 14]
def b72_0:PC:=(sq (sq (xo r72_3) (.cond (.t 12) .skip (.exit 0))) (sq (.block 1 (.rn 7 7 (xO r72_5))) (xo r72_4)))
abbrev r72_6:LO:=[xf 30 5 5,xl 31 1 30,xc 32 .gtr 31 (zi 0)]
abbrev r72_7:LO:=[xm 33 7,xf 34 7 5,xl 35 1 34,xf 36 6 5,xl 37 1 36,xf 38 5 5,xl 39 1 38,xC4 40 21 33 35 37 39,xm 7 40]
abbrev r72_8:LO:=[xm 41 7,xn 42 41,xf 43 8 5,xl 44 1 43,xb 45 .gtr 42 44]
abbrev r72_9:LO:=[⟨some 46,.build zr9 [(1,1,(.k (zi 13)))],none⟩,xs 2 6 46]
abbrev r72_10:LO:=[xm 47 7,⟨some 48,.build zr9 [(0,1,(.t 47))],none⟩,xs 2 6 48]
def p72:PC:=(sq (xo r72_0) (sq (xo r72_1) (sq (sq (xo r72_2) (.block 0 (.loop b72_0))) (sq (sq (xo r72_6) (.cond (.t 32) (.fz 7 (xo r72_7)) .skip)) (sq (sq (xo r72_8) (.cond (.t 45) (sq (xo r72_9) .ret) .skip)) (sq (.fz 7 (xo r72_10)) .ret))))))
def rs72:LR:=[.cell 6 true 2]
theorem c72:chkF Tryz.prog Tryz.f72 3 p72 rs72=true:=by kernel_rfl
/- cuboid/cuboidref04.Right -/
abbrev r73_0:LO:=[xx 3 2 0,xx 4 4 1,xx 5 4 2,xk 6 (.bool false)]
abbrev r73_1:LO:=[xR 8 2 3,xC1 9 76 8,xu 10 9]
abbrev r73_2:LO:=[xk 6 (.bool false)]
abbrev r73_3:LO:=[xk 7 (zi 0)]
abbrev r73_4:LO:=[xm 11 7,xc 12 .lss 11 (zi 4)]
abbrev r73_6:LO:=[xm 15 7,xf 16 0 3,xl 17 1 16,xn 18 17,xb 19 .geq 15 18]
abbrev r73_7:LO:=[xm 20 7,⟨some 21,.iaA 4 1 (.t 4) (.t 20),none⟩,xl 22 1 21,xc 23 .neq 22 (zu 0),xm 24 23,xh (xm 25 7) 24,⟨some 26,.iaA 4 1 (.t 5) (.t 25),(some (24,false))⟩,xh (xl 27 1 26) 24,xh (xc 28 .neq 27 (zu 0)) 24,xq 29 24 28]
abbrev r73_8:LO:=[xk 6 (.bool false)]
abbrev r73_9:LO:=[xm 30 7,⟨some 31,.iaA 4 1 (.t 5) (.t 30),none⟩,xl 32 1 31,⟨some 33,.conv .i64 (.t 32),none⟩,xf 34 0 3,xl 35 1 34,xm 36 7,xi 37 2 35 36,xR 38 2 37,xm 39 7,⟨some 40,.iaA 4 1 (.t 4) (.t 39),none⟩,xl 41 1 40,⟨some 42,.conv .i64 (.t 41),none⟩,xC2 43 113 38 42,xb 44 .geq 33 43]
abbrev r73_10:LO:=[xk 6 (.bool false)]
abbrev r73_5:LO:=[xm 13 7,xc 14 .add 13 (zi 1),xm 7 14]
def b73_0:PC:=(sq (sq (xo r73_4) (.cond (.t 12) .skip (.exit 0))) (sq (.block 1 (sq (xo r73_6) (.cond (.t 19) (sq (xo r73_7) (.cond (.t 29) (sq (xo r73_8) .ret) .skip)) (sq (xO r73_9) (.cond (.t 44) (sq (xo r73_10) .ret) .skip))))) (xo r73_5)))
abbrev r73_11:LO:=[xk 6 (.bool true)]
def p73:PC:=(sq (xo r73_0) (sq (sq (xo r73_1) (.cond (.t 10) (sq (xo r73_2) .ret) .skip)) (sq (sq (xo r73_3) (.block 0 (.loop b73_0))) (sq (xo r73_11) .ret))))
def rs73:LR:=[.t 6]
theorem c73:chkF Tryz.prog Tryz.f73 3 p73 rs73=true:=by kernel_rfl
/- cuboid/cuboidref09.Good -/
abbrev r74_0:LO:=[xx 3 5 1,xk 4 (.bool false)]
abbrev r74_1:LO:=[xm 6 0,xc 7 .lss 6 (zi 1),xm 8 7,xh (xm 9 0) 8,xh (xc 10 .gtr 9 (zi 2)) 8,xq 11 8 10,xm 12 11,xh (xf 13 0 3) 12,xh (xl 14 1 13) 12,xh (xc 15 .lss 14 (zi 1)) 12,xq 16 12 15,xm 17 16,xh (xf 18 0 3) 17,xh (xl 19 1 18) 17,xh (xc 20 .gtr 19 (zi 1099511627776)) 17,xq 21 17 20]
abbrev r74_2:LO:=[xk 4 (.bool false)]
abbrev r74_3:LO:=[xk 5 (zi 0)]
abbrev r74_4:LO:=[xm 22 5,xc 23 .lss 22 (zi 2)]
abbrev r74_6:LO:=[xm 26 5,xm 27 0,xb 28 .geq 26 27]
abbrev r74_7:LO:=[xm 29 5,xf 30 1 3,⟨some 31,.iaA 2 1 (.t 30) (.t 29),none⟩,xl 32 1 31,xc 33 .neq 32 (zi 0),xm 34 33,xh (xm 35 5) 34,xh (xf 36 3 3) 34,⟨some 37,.iaA 2 1 (.t 36) (.t 35),(some (34,false))⟩,xh (xl 38 1 37) 34,xh (xn 39 38) 34,xh (xc 40 .gtr 39 (zi 0)) 34,xq 41 34 40]
abbrev r74_8:LO:=[xk 4 (.bool false)]
abbrev r74_9:LO:=[xm 42 5,xf 43 3 3,⟨some 44,.iaA 2 1 (.t 43) (.t 42),none⟩,xl 45 1 44,xC1 46 114 45,xu 47 46,xm 48 47,xh (xm 49 5) 48,xh (xf 50 3 3) 48,⟨some 51,.iaA 2 1 (.t 50) (.t 49),(some (48,false))⟩,xh (xl 52 1 51) 48,xh (xC1 53 115 52) 48,xh (xf 54 0 3) 48,xh (xl 55 1 54) 48,xh (xb 56 .neq 53 55) 48,xq 57 48 56,xm 58 57,xh (xm 59 5) 58,xh (xf 60 3 3) 58,⟨some 61,.iaA 2 1 (.t 60) (.t 59),(some (58,false))⟩,xh (xl 62 1 61) 58,xh (xC1 63 116 62) 58,xh (xm 64 5) 58,xh (xf 65 1 3) 58,⟨some 66,.iaA 2 1 (.t 65) (.t 64),(some (58,false))⟩,xh (xl 67 1 66) 58,xh (xC1 68 50 67) 58,⟨some 69,.eqs true true [.b,.i,.i] (.t 63) (.t 68),(some (58,false))⟩,xq 70 58 69]
abbrev r74_10:LO:=[xk 4 (.bool false)]
abbrev r74_5:LO:=[xm 24 5,xc 25 .add 24 (zi 1),xm 5 25]
def b74_0:PC:=(sq (sq (xo r74_4) (.cond (.t 23) .skip (.exit 0))) (sq (.block 1 (sq (xo r74_6) (.cond (.t 28) (sq (xo r74_7) (.cond (.t 41) (sq (xo r74_8) .ret) .skip)) (sq (xO r74_9) (.cond (.t 70) (sq (xo r74_10) .ret) .skip))))) (xo r74_5)))
abbrev r74_11:LO:=[xk 4 (.bool true)]
def p74:PC:=(sq (xo r74_0) (sq (sq (xo r74_1) (.cond (.t 21) (sq (xo r74_2) .ret) .skip)) (sq (sq (xo r74_3) (.block 0 (.loop b74_0))) (sq (xo r74_11) .ret))))
def rs74:LR:=[.t 4]
theorem c74:chkF Tryz.prog Tryz.f74 2 p74 rs74=true:=by kernel_rfl
/- cuboid/cuboidref07.Good -/
abbrev r75_0:LO:=[xx 2 2 0,xx 3 6 1,xk 4 (.bool false)]
abbrev r75_1:LO:=[xR 6 2 2,⟨some 7,.build zr6 [],none⟩,xf 8 0 3,xR 9 4 8,xC3 10 73 6 7 9,xu 11 10,xm 12 11,xh (xR 13 2 2) 12,⟨some 14,.build zr6 [],(some (12,false))⟩,xh (xC2 15 40 13 14) 12,xh (xu 16 15) 12,xq 17 12 16]
abbrev r75_2:LO:=[xk 4 (.bool false)]
abbrev r75_3:LO:=[xf 18 1 2,xl 19 1 18,xm 5 19]
abbrev r75_4:LO:=[xm 20 5,xc 21 .lss 20 (zi 2)]
abbrev r75_6:LO:=[xm 24 5,xf 25 4 3,⟨some 26,.iaA 2 1 (.t 25) (.t 24),none⟩,xl 27 1 26,xc 28 .neq 27 (zi 0)]
abbrev r75_7:LO:=[xk 4 (.bool false)]
abbrev r75_5:LO:=[xm 22 5,xc 23 .add 22 (zi 1),xm 5 23]
def b75_0:PC:=(sq (sq (xo r75_4) (.cond (.t 21) .skip (.exit 0))) (sq (.block 1 (sq (xo r75_6) (.cond (.t 28) (sq (xo r75_7) .ret) .skip))) (xo r75_5)))
abbrev r75_8:LO:=[xk 4 (.bool true)]
def p75:PC:=(sq (xo r75_0) (sq (sq (xo r75_1) (.cond (.t 17) (sq (xo r75_2) .ret) .skip)) (sq (sq (xo r75_3) (.block 0 (.loop b75_0))) (sq (xo r75_8) .ret))))
def rs75:LR:=[.t 4]
theorem c75:chkF Tryz.prog Tryz.f75 2 p75 rs75=true:=by kernel_rfl
/- cuboid/cuboidref04.Good -/
abbrev r76_0:LO:=[xx 1 2 0,xk 2 (.bool false)]
abbrev r76_1:LO:=[xf 4 0 1,xl 5 1 4,xn 6 5,xc 7 .lss 6 (zi 1),xm 8 7,xh (xf 9 0 1) 8,xh (xl 10 1 9) 8,xh (xn 11 10) 8,xh (xc 12 .gtr 11 (zi 4)) 8,xq 13 8 12,xm 14 13,xh (xf 15 1 1) 14,xh (xl 16 1 15) 14,xh (xc 17 .lss 16 (zi 1)) 14,xq 18 14 17,xm 19 18,xh (xf 20 1 1) 19,xh (xl 21 1 20) 19,xh (xc 22 .gtr 21 (zi 2)) 19,xq 23 19 22]
abbrev r76_2:LO:=[xk 2 (.bool false)]
abbrev r76_3:LO:=[xk 3 (zi 0)]
abbrev r76_4:LO:=[xm 24 3,xf 25 0 1,xl 26 1 25,xn 27 26,xb 28 .lss 24 27]
abbrev r76_6:LO:=[xf 31 0 1,xl 32 1 31,xm 33 3,xi 34 2 32 33,xR 35 2 34,xC1 36 117 35,xu 37 36]
abbrev r76_7:LO:=[xk 2 (.bool false)]
abbrev r76_5:LO:=[xm 29 3,xc 30 .add 29 (zi 1),xm 3 30]
def b76_0:PC:=(sq (sq (xo r76_4) (.cond (.t 28) .skip (.exit 0))) (sq (.block 1 (sq (xo r76_6) (.cond (.t 37) (sq (xo r76_7) .ret) .skip))) (xo r76_5)))
abbrev r76_8:LO:=[xk 2 (.bool true)]
def p76:PC:=(sq (xo r76_0) (sq (sq (xo r76_1) (.cond (.t 23) (sq (xo r76_2) .ret) .skip)) (sq (sq (xo r76_3) (.block 0 (.loop b76_0))) (sq (xo r76_8) .ret))))
def rs76:LR:=[.t 2]
theorem c76:chkF Tryz.prog Tryz.f76 1 p76 rs76=true:=by kernel_rfl
/- cuboid/cuboidref07.Mass -/
abbrev r77_0:LO:=[⟨some 2,.alloc [zi 0,zi 0,.bool false],none⟩]
abbrev r77_1:LO:=[⟨some 3,.alloc [zi 0,zi 0,.bool false],none⟩]
abbrev r77_2:LO:=[xk 4 (zi 0)]
abbrev r77_3:LO:=[xm 7 4,xm 8 0,xn 9 8,xb 10 .lss 7 9]
abbrev r77_5:LO:=[xk 5 (zi 0)]
abbrev r77_6:LO:=[xm 13 5,xc 14 .lss 13 (zi 2)]
abbrev r77_8:LO:=[xm 17 0,xm 18 4,xm 19 5,xi 20 6 17 18,xf 21 4 20,⟨some 22,.iaA 2 1 (.t 21) (.t 19),none⟩,xl 23 1 22,xC1 24 85 23,xm 6 24]
abbrev r77_9:LO:=[xm 25 6,xm 26 5,xf 27 0 3,⟨some 28,.iaA 2 1 (.t 27) (.t 26),none⟩,xl 29 1 28,⟨some 30,.bin .sub (.k (zi 2305843009213693952)) (.t 29),none⟩,⟨some 31,.conv .u64 (.t 30),none⟩,xb 32 .gtr 25 31]
abbrev r77_10:LO:=[⟨some 33,.build [zi 0,zi 0,.bool false] [],none⟩,xs 3 2 33]
abbrev r77_11:LO:=[xm 34 5,xf 35 0 3,⟨some 36,.iaA 2 1 (.t 35) (.t 34),none⟩,xl 37 1 36,xm 38 6,⟨some 39,.conv .i64 (.t 38),none⟩,xb 40 .add 37 39,xf 41 0 3,⟨some 42,.iaA 2 1 (.t 41) (.t 34),none⟩,xs 1 42 40]
abbrev r77_7:LO:=[xm 15 5,xc 16 .add 15 (zi 1),xm 5 16]
def b77_1:PC:=(sq (sq (xo r77_6) (.cond (.t 14) .skip (.exit 2))) (sq (.block 3 (sq (xo r77_8) (sq (sq (xo r77_9) (.cond (.t 32) (sq (xo r77_10) .ret) .skip)) (xo r77_11)))) (xo r77_7)))
abbrev r77_4:LO:=[xm 11 4,xc 12 .add 11 (zi 1),xm 4 12]
def b77_0:PC:=(sq (sq (xo r77_3) (.cond (.t 10) .skip (.exit 0))) (sq (.block 1 (sq (xo r77_5) (.block 2 (.loop b77_1)))) (xo r77_4)))
abbrev r77_12:LO:=[xf 43 2 3,⟨none,.store 1 (.t 43) (.k (.bool true)) [],none⟩]
abbrev r77_13:LO:=[xR 44 3 3,xs 3 2 44]
def p77:PC:=(sq (xo r77_0) (sq (xo r77_1) (sq (sq (xo r77_2) (.block 0 (.loop b77_0))) (sq (xo r77_12) (sq (xo r77_13) .ret)))))
def rs77:LR:=[.cell 2 true 3]
theorem c77:chkF Tryz.prog Tryz.f77 1 p77 rs77=true:=by kernel_rfl
/- cuboid/cuboidref25.fix -/
abbrev r78_0:LO:=[xx 2 2 0,xx 3 3 1,xk 4 (.bool false)]
abbrev r78_1:LO:=[xf 6 0 3,xl 7 1 6,xc 8 .lss 7 (zi 0),xm 9 8,xh (xf 10 0 3) 9,xh (xl 11 1 10) 9,xh (xf 12 0 2) 9,xh (xl 13 1 12) 9,xh (xn 14 13) 9,xh (xb 15 .geq 11 14) 9,xq 16 9 15,xm 17 16,xh (xf 18 1 3) 17,xh (xl 19 1 18) 17,xh (xc 20 .lss 19 (zi 0)) 17,xq 21 17 20,xm 22 21,xh (xf 23 1 3) 22,xh (xl 24 1 23) 22,xh (xR 25 2 2) 22,xh (xf 26 0 3) 22,xh (xl 27 1 26) 22,xh (xC2 28 111 25 27) 22,xh (xb 29 .geq 24 28) 22,xq 30 22 29,xm 31 30,xh (xf 32 2 3) 31,xh (xl 33 1 32) 31,xh (xn 34 33) 31,xh (xc 35 .lss 34 (zi 1)) 31,xq 36 31 35]
abbrev r78_2:LO:=[xk 4 (.bool false)]
abbrev r78_3:LO:=[xk 5 (zi 0)]
abbrev r78_4:LO:=[xm 37 5,xf 38 2 3,xl 39 1 38,xn 40 39,xb 41 .lss 37 40]
abbrev r78_6:LO:=[xf 44 2 3,xl 45 1 44,xm 46 5,xi 47 1 45 46,xl 48 1 47,xc 49 .lss 48 (zi 0),xm 50 49,xh (xf 51 2 3) 50,xh (xl 52 1 51) 50,xh (xm 53 5) 50,xh (xi 54 1 52 53) 50,xh (xl 55 1 54) 50,xh (xf 56 0 2) 50,xh (xl 57 1 56) 50,xh (xf 58 0 3) 50,xh (xl 59 1 58) 50,xh (xi 60 2 57 59) 50,xh (xR 61 2 60) 50,xh (xf 62 1 3) 50,xh (xl 63 1 62) 50,xh (xC2 64 113 61 63) 50,xh (xb 65 .geq 55 64) 50,xq 66 50 65,xm 67 66,xh (xm 68 5) 67,xh (xc 69 .gtr 68 (zi 0)) 67,xh (xm 70 69) 67,xg (xf 71 2 3) 70,xg (xl 72 1 71) 70,xg (xm 73 5) 70,xg (xc 74 .sub 73 (zi 1)) 70,xg (xi 75 1 72 74) 70,xg (xl 76 1 75) 70,xg (xf 77 2 3) 70,xg (xl 78 1 77) 70,xg (xm 79 5) 70,xg (xi 80 1 78 79) 70,xg (xl 81 1 80) 70,xg (xb 82 .geq 76 81) 70,xh (xp 83 70 82) 67,xq 84 67 83]
abbrev r78_7:LO:=[xk 4 (.bool false)]
abbrev r78_5:LO:=[xm 42 5,xc 43 .add 42 (zi 1),xm 5 43]
def b78_0:PC:=(sq (sq (xo r78_4) (.cond (.t 41) .skip (.exit 0))) (sq (.block 1 (sq (xO r78_6) (.cond (.t 84) (sq (xo r78_7) .ret) .skip))) (xo r78_5)))
abbrev r78_8:LO:=[xk 4 (.bool true)]
def p78:PC:=(sq (xo r78_0) (sq (sq (xO r78_1) (.cond (.t 36) (sq (xo r78_2) .ret) .skip)) (sq (sq (xo r78_3) (.block 0 (.loop b78_0))) (sq (xo r78_8) .ret))))
def rs78:LR:=[.t 4]
theorem c78:chkF Tryz.prog Tryz.f78 2 p78 rs78=true:=by kernel_rfl
/- slices.stableCmpFunc[cuboid/api.Line] -/
abbrev r79_0:LO:=[xk 6 (zi 20)]
abbrev r79_1:LO:=[xm 10 6,xk 7 (zi 0),xm 8 10]
abbrev r79_2:LO:=[xm 11 8,xm 12 1,xb 13 .leq 11 12]
abbrev r79_3:LO:=[xm 14 0,xm 15 7,xm 16 8,xm 17 2,⟨some 18,.call true 118 [(.t 14),(.t 15),(.t 16),(.t 17)],none⟩]
abbrev r79_4:LO:=[xm 19 8,xm 7 19]
abbrev r79_5:LO:=[xm 20 8,xm 21 6,xb 22 .add 20 21,xm 8 22]
def b79_0:PC:=(sq (sq (xo r79_2) (.cond (.t 13) .skip (.exit 0))) (.block 1 (sq (xo r79_3) (sq (xo r79_4) (xo r79_5)))))
abbrev r79_6:LO:=[xm 23 0,xm 24 7,xm 25 1,xm 26 2,⟨some 27,.call true 118 [(.t 23),(.t 24),(.t 25),(.t 26)],none⟩]
abbrev r79_7:LO:=[xm 28 6,xm 29 1,xb 30 .lss 28 29]
abbrev r79_8:LO:=[xm 31 6,⟨some 32,.bin .mul (.k (zi 2)) (.t 31),none⟩,xk 7 (zi 0),xm 8 32]
abbrev r79_9:LO:=[xm 33 8,xm 34 1,xb 35 .leq 33 34]
abbrev r79_10:LO:=[xm 36 0,xm 37 7,xm 38 7,xm 39 6,xb 40 .add 38 39,xm 41 8,xm 42 2,⟨some 43,.call true 119 [(.t 36),(.t 37),(.t 40),(.t 41),(.t 42)],none⟩]
abbrev r79_11:LO:=[xm 44 8,xm 7 44]
abbrev r79_12:LO:=[xm 45 8,xm 46 6,⟨some 47,.bin .mul (.k (zi 2)) (.t 46),none⟩,xb 48 .add 45 47,xm 8 48]
def b79_2:PC:=(sq (sq (xo r79_9) (.cond (.t 35) .skip (.exit 4))) (.block 5 (sq (xo r79_10) (sq (xo r79_11) (xo r79_12)))))
abbrev r79_13:LO:=[xm 49 7,xm 50 6,xb 51 .add 49 50,xm 9 51]
abbrev r79_14:LO:=[xm 52 9,xm 53 1,xb 54 .lss 52 53]
abbrev r79_15:LO:=[xm 55 0,xm 56 7,xm 57 9,xm 58 1,xm 59 2,⟨some 60,.call true 119 [(.t 55),(.t 56),(.t 57),(.t 58),(.t 59)],none⟩]
abbrev r79_16:LO:=[xm 61 6,xc 62 .mul 61 (zi 2),xm 6 62]
def b79_1:PC:=(sq (sq (xo r79_7) (.cond (.t 30) .skip (.exit 2))) (.block 3 (sq (xo r79_8) (sq (.block 4 (.loop b79_2)) (sq (sq (xo r79_13) (sq (xo r79_14) (.cond (.t 54) (xo r79_15) .skip))) (xo r79_16))))))
def p79:PC:=(sq (xo r79_0) (sq (xo r79_1) (sq (.block 0 (.loop b79_0)) (sq (xo r79_6) (.block 2 (.loop b79_1))))))
def rs79:LR:=[]
theorem c79:chkF Tryz.prog Tryz.f79 3 p79 rs79=true:=by kernel_rfl
/- cmp.Compare[int64] -/
abbrev r80_0:LO:=[xk 4 (zi 0)]
abbrev r80_1:LO:=[xm 7 0,xC1 8 120 7,xm 5 8]
abbrev r80_2:LO:=[xm 9 1,xC1 10 120 9,xm 6 10]
abbrev r80_3:LO:=[xm 11 5]
abbrev r80_4:LO:=[xm 12 6]
abbrev r80_5:LO:=[xk 4 (zi 0)]
abbrev r80_6:LO:=[xk 4 (zi (-1))]
abbrev r80_7:LO:=[xm 13 6]
abbrev r80_8:LO:=[xk 4 (zi 1)]
abbrev r80_9:LO:=[xm 14 0,xm 15 1,xb 16 .lss 14 15]
abbrev r80_10:LO:=[xk 4 (zi (-1))]
abbrev r80_11:LO:=[xm 17 0,xm 18 1,xb 19 .gtr 17 18]
abbrev r80_12:LO:=[xk 4 (zi 1)]
abbrev r80_13:LO:=[xk 4 (zi 0)]
def p80:PC:=(sq (xo r80_0) (sq (xo r80_1) (sq (xo r80_2) (sq (sq (xo r80_3) (.cond (.t 11) (sq (sq (xo r80_4) (.cond (.t 12) (sq (xo r80_5) .ret) .skip)) (sq (xo r80_6) .ret)) .skip)) (sq (sq (xo r80_7) (.cond (.t 13) (sq (xo r80_8) .ret) .skip)) (sq (sq (xo r80_9) (.cond (.t 16) (sq (xo r80_10) .ret) .skip)) (sq (sq (xo r80_11) (.cond (.t 19) (sq (xo r80_12) .ret) .skip)) (sq (xo r80_13) .ret))))))))
def rs80:LR:=[.t 4]
theorem c80:chkF Tryz.prog Tryz.f80 2 p80 rs80=true:=by kernel_rfl
/- cuboid/calc.Cmp -/
abbrev r81_0:LO:=[xk 8 (zi 0)]
abbrev r81_1:LO:=[xm 15 0,xm 16 1,xC2 17 121 15 16,xm 18 2,xm 19 3,xC2 20 121 18 19,xm 9 17,xm 10 20]
abbrev r81_2:LO:=[xm 21 9,xm 22 10,xb 23 .neq 21 22]
abbrev r81_3:LO:=[xm 24 9,xm 25 10,xC2 26 122 24 25,xm 8 26]
abbrev r81_4:LO:=[xm 28 0,xC1 29 124 28,xm 30 1,xC1 31 124 30,xC2 32 123 29 31,xm 27 32,xe 33 27 0,xe 34 27 1,xm 11 33,xm 12 34]
abbrev r81_5:LO:=[xm 36 2,xC1 37 124 36,xm 38 3,xC1 39 124 38,xC2 40 123 37 39,xm 35 40,xe 41 35 0,xe 42 35 1,xm 13 41,xm 14 42]
abbrev r81_6:LO:=[xm 43 9,xm 44 11,xm 45 13,xC2 46 125 44 45,xm 47 12,xm 48 14,xC2 49 125 47 48,⟨some 50,.bsl 1 2 [zi 0] [(0,(.t 46)),(1,(.t 49))] false,none⟩,xC1 51 44 50,xb 52 .mul 43 51,xm 8 52]
def p81:PC:=(sq (xo r81_0) (sq (xo r81_1) (sq (sq (xo r81_2) (.cond (.t 23) (sq (xo r81_3) .ret) .skip)) (sq (xo r81_4) (sq (xo r81_5) (sq (xo r81_6) .ret))))))
def rs81:LR:=[.t 8]
theorem c81:chkF Tryz.prog Tryz.f81 4 p81 rs81=true:=by kernel_rfl
/- cmp.Compare[uint32] -/
abbrev r82_0:LO:=[xk 4 (zi 0)]
abbrev r82_1:LO:=[xm 7 0,xC1 8 126 7,xm 5 8]
abbrev r82_2:LO:=[xm 9 1,xC1 10 126 9,xm 6 10]
abbrev r82_3:LO:=[xm 11 5]
abbrev r82_4:LO:=[xm 12 6]
abbrev r82_5:LO:=[xk 4 (zi 0)]
abbrev r82_6:LO:=[xk 4 (zi (-1))]
abbrev r82_7:LO:=[xm 13 6]
abbrev r82_8:LO:=[xk 4 (zi 1)]
abbrev r82_9:LO:=[xm 14 0,xm 15 1,xb 16 .lss 14 15]
abbrev r82_10:LO:=[xk 4 (zi (-1))]
abbrev r82_11:LO:=[xm 17 0,xm 18 1,xb 19 .gtr 17 18]
abbrev r82_12:LO:=[xk 4 (zi 1)]
abbrev r82_13:LO:=[xk 4 (zi 0)]
def p82:PC:=(sq (xo r82_0) (sq (xo r82_1) (sq (xo r82_2) (sq (sq (xo r82_3) (.cond (.t 11) (sq (sq (xo r82_4) (.cond (.t 12) (sq (xo r82_5) .ret) .skip)) (sq (xo r82_6) .ret)) .skip)) (sq (sq (xo r82_7) (.cond (.t 13) (sq (xo r82_8) .ret) .skip)) (sq (sq (xo r82_9) (.cond (.t 16) (sq (xo r82_10) .ret) .skip)) (sq (sq (xo r82_11) (.cond (.t 19) (sq (xo r82_12) .ret) .skip)) (sq (xo r82_13) .ret))))))))
def rs82:LR:=[.t 4]
theorem c82:chkF Tryz.prog Tryz.f82 2 p82 rs82=true:=by kernel_rfl
/- cuboid/code.Key -/
abbrev r83_0:LO:=[xx 1 4 0,xk 2 (.int .u32 0)]
abbrev r83_1:LO:=[xk 3 (.int .u32 0)]
abbrev r83_2:LO:=[xR 6 4 1,xk 7 (zi 0)]
abbrev r83_3:LO:=[xc 8 .lss 7 (zi 4)]
abbrev r83_4:LO:=[⟨some 9,.idA false 4 1 (.t 6) (.t 7),none⟩,xm 5 9]
abbrev r83_5:LO:=[xm 10 3,xc 11 .shl 10 (.int .u64 8),xm 12 5,⟨some 13,.conv .u32 (.t 12),none⟩,xb 14 .or 11 13,xm 3 14]
abbrev r83_6:LO:=[xc 15 .add 7 (zi 1),xm 7 15]
def b83_0:PC:=(sq (xo r83_3) (sq (.cond (.t 8) .skip (.exit 0)) (sq (.block 1 (sq (xo r83_4) (xo r83_5))) (xo r83_6))))
abbrev r83_7:LO:=[xm 16 3,xm 2 16]
def p83:PC:=(sq (xo r83_0) (sq (xo r83_1) (sq (sq (xo r83_2) (.block 0 (.loop b83_0))) (sq (xo r83_7) .ret))))
def rs83:LR:=[.t 2]
theorem c83:chkF Tryz.prog Tryz.f83 1 p83 rs83=true:=by kernel_rfl
/- cuboid/cuboidref01.less -/
abbrev r84_0:LO:=[xx 2 3 0,xx 3 3 1,xk 4 (.bool false)]
abbrev r84_1:LO:=[xf 5 1 2,xl 6 1 5,xf 7 1 3,xl 8 1 7,xb 9 .lss 6 8,xm 10 9,xh (xf 11 1 2) 10,xh (xl 12 1 11) 10,xh (xf 13 1 3) 10,xh (xl 14 1 13) 10,xh (xb 15 .eql 12 14) 10,xh (xm 16 15) 10,xg (xf 17 2 2) 16,xg (xl 18 1 17) 16,xg (xf 19 2 3) 16,xg (xl 20 1 19) 16,xg (xb 21 .lss 18 20) 16,xh (xp 22 16 21) 10,xq 23 10 22,xm 4 23]
def p84:PC:=(sq (xo r84_0) (sq (xo r84_1) .ret))
def rs84:LR:=[.t 4]
theorem c84:chkF Tryz.prog Tryz.f84 2 p84 rs84=true:=by kernel_rfl
/- cuboid/cuboidref01.Size -/
abbrev r85_0:LO:=[xk 2 (.int .u64 0)]
abbrev r85_1:LO:=[xm 3 0,xc 4 .lss 3 (zi 0)]
abbrev r85_2:LO:=[xm 5 0,xc 6 .add 5 (zi 1),⟨some 7,.un .neg (.t 6),none⟩,⟨some 8,.conv .u64 (.t 7),none⟩,xc 9 .add 8 (.int .u64 1),xm 2 9]
abbrev r85_3:LO:=[xm 10 0,⟨some 11,.conv .u64 (.t 10),none⟩,xm 2 11]
def p85:PC:=(sq (xo r85_0) (sq (sq (xo r85_1) (.cond (.t 4) (sq (xo r85_2) .ret) .skip)) (sq (xo r85_3) .ret)))
def rs85:LR:=[.t 2]
theorem c85:chkF Tryz.prog Tryz.f85 1 p85 rs85=true:=by kernel_rfl
/- cuboid/lattice.Meet -/
abbrev r86_0:LO:=[xx 2 4 0,xx 3 4 1,⟨some 4,.alloc zr6,none⟩]
abbrev r86_1:LO:=[xk 6 (zi 0)]
abbrev r86_2:LO:=[xc 7 .lss 6 (zi 4)]
abbrev r86_3:LO:=[xm 8 6,xm 5 8]
abbrev r86_4:LO:=[xm 9 5,xm 10 5,⟨some 11,.iaA 4 1 (.t 2) (.t 10),none⟩,xl 12 1 11,xm 13 5,⟨some 14,.iaA 4 1 (.t 3) (.t 13),none⟩,xl 15 1 14,⟨some 16,.mm false (.t 12) [(.t 15)],none⟩,⟨some 17,.iaA 4 1 (.t 2) (.t 9),none⟩,xs 1 17 16]
abbrev r86_5:LO:=[xc 18 .add 6 (zi 1),xm 6 18]
def b86_0:PC:=(sq (xo r86_2) (sq (.cond (.t 7) .skip (.exit 0)) (sq (.block 1 (sq (xo r86_3) (xO r86_4))) (xo r86_5))))
abbrev r86_6:LO:=[xR 19 4 2,xs 4 4 19]
def p86:PC:=(sq (xo r86_0) (sq (sq (xo r86_1) (.block 0 (.loop b86_0))) (sq (xo r86_6) .ret)))
def rs86:LR:=[.cell 4 true 4]
theorem c86:chkF Tryz.prog Tryz.f86 2 p86 rs86=true:=by kernel_rfl
/- cuboid/lift.To -/
abbrev r87_0:LO:=[xx 4 2 0,xx 5 4 1,xx 6 4 2,xx 7 4 3,⟨some 8,.alloc zr6,none⟩,xk 9 (.bool false)]
abbrev r87_1:LO:=[xR 14 2 4,xR 15 4 5,xR 16 4 7,xC3 17 59 14 15 16,xu 18 17,xm 19 18,xh (xR 20 2 4) 19,xh (xR 21 4 6) 19,xh (xC2 22 52 20 21) 19,xh (xu 23 22) 19,xq 24 19 23,xm 25 24,xh (xR 26 4 5) 25,xh (xR 27 4 6) 25,xh (xC2 28 53 26 27) 25,xh (xu 29 28) 25,xq 30 25 29]
abbrev r87_2:LO:=[⟨some 31,.build zr6 [],none⟩,xs 4 8 31,xk 9 (.bool false)]
abbrev r87_3:LO:=[⟨some 10,.alloc zr6,none⟩]
abbrev r87_4:LO:=[xf 32 0 4,xl 33 1 32,xn 34 33,xk 35 (zi 0)]
abbrev r87_5:LO:=[xb 36 .lss 35 34]
abbrev r87_6:LO:=[xm 37 35,xm 11 37]
abbrev r87_7:LO:=[xf 39 0 4,xl 40 1 39,xm 41 11,xi 42 2 40 41,xR 43 2 42,xm 44 11,⟨some 45,.iaA 4 1 (.t 5) (.t 44),none⟩,xl 46 1 45,⟨some 47,.conv .i64 (.t 46),none⟩,xm 48 11,⟨some 49,.iaA 4 1 (.t 6) (.t 48),none⟩,xl 50 1 49,⟨some 51,.conv .i64 (.t 50),none⟩,xm 52 11,⟨some 53,.iaA 4 1 (.t 7) (.t 52),none⟩,xl 54 1 53,⟨some 55,.conv .i64 (.t 54),none⟩,xC4 56 127 43 47 51 55,xm 38 56,xe 57 38 0,xe 58 38 1,xm 12 57,xm 13 58]
abbrev r87_8:LO:=[xm 59 11,xm 60 12,⟨some 61,.conv .u8 (.t 60),none⟩,⟨some 62,.iaA 4 1 (.t 10) (.t 59),none⟩,xs 1 62 61]
abbrev r87_9:LO:=[xc 63 .add 35 (zi 1),xm 35 63]
def b87_0:PC:=(sq (xo r87_5) (sq (.cond (.t 36) .skip (.exit 0)) (sq (.block 1 (sq (xo r87_6) (sq (xO r87_7) (xo r87_8)))) (xo r87_9))))
abbrev r87_10:LO:=[xR 64 4 10,xs 4 8 64,xk 9 (.bool true)]
def p87:PC:=(sq (xo r87_0) (sq (sq (xo r87_1) (.cond (.t 30) (sq (xo r87_2) .ret) .skip)) (sq (xo r87_3) (sq (sq (xo r87_4) (.block 0 (.loop b87_0))) (sq (xo r87_10) .ret)))))
def rs87:LR:=[.cell 8 true 4,.t 9]
theorem c87:chkF Tryz.prog Tryz.f87 4 p87 rs87=true:=by kernel_rfl
/- cuboid/exec.own -/
abbrev r88_0:LO:=[xx 1 5 0,⟨some 2,.alloc zr5,none⟩]
abbrev r88_1:LO:=[xf 5 3 1,xR 6 2 5,xk 7 (zi 0)]
abbrev r88_2:LO:=[xc 8 .lss 7 (zi 2)]
abbrev r88_3:LO:=[xm 9 7,⟨some 10,.idA false 2 1 (.t 6) (.t 7),none⟩,xm 3 9,xm 4 10]
abbrev r88_4:LO:=[xm 11 3,xm 12 4,xC1 13 128 12,xf 14 3 1,⟨some 15,.iaA 2 1 (.t 14) (.t 11),none⟩,xs 1 15 13]
abbrev r88_5:LO:=[xc 16 .add 7 (zi 1),xm 7 16]
def b88_0:PC:=(sq (xo r88_2) (sq (.cond (.t 8) .skip (.exit 0)) (sq (.block 1 (sq (xo r88_3) (xo r88_4))) (xo r88_5))))
abbrev r88_6:LO:=[xR 17 5 1,xs 5 2 17]
def p88:PC:=(sq (xo r88_0) (sq (sq (xo r88_1) (.block 0 (.loop b88_0))) (sq (xo r88_6) .ret)))
def rs88:LR:=[.cell 2 true 5]
theorem c88:chkF Tryz.prog Tryz.f88 1 p88 rs88=true:=by kernel_rfl
/- cuboid/cell.Join -/
abbrev r89_0:LO:=[xx 4 5 1,xx 5 5 2,⟨some 6,.alloc zr5,none⟩,xk 7 (.bool false)]
abbrev r89_1:LO:=[xm 14 0,xR 15 5 4,xC2 16 60 14 15,xu 17 16,xm 18 17,xh (xm 19 0) 18,xh (xR 20 5 5) 18,xh (xC2 21 60 19 20) 18,xh (xu 22 21) 18,xq 23 18 22,xm 24 23,xh (xf 25 0 4) 24,xh (xl 26 1 25) 24,xh (xf 27 0 5) 24,xh (xl 28 1 27) 24,⟨some 29,.bin .sub (.k (zi 1099511627776)) (.t 28),(some (24,false))⟩,xh (xb 30 .gtr 26 29) 24,xq 31 24 30]
abbrev r89_2:LO:=[⟨some 32,.build zr5 [],none⟩,xs 5 6 32,xk 7 (.bool false)]
abbrev r89_3:LO:=[xf 33 0 4,xl 34 1 33,xf 35 0 5,xl 36 1 35,xb 37 .add 34 36,⟨some 38,.build zr5 [(0,1,(.t 37))],none⟩,⟨some 8,.alloc zr5,none⟩,xs 5 8 38]
abbrev r89_4:LO:=[xm 39 0,xk 40 (zi 0)]
abbrev r89_5:LO:=[xb 41 .lss 40 39]
abbrev r89_6:LO:=[xm 42 40,xm 9 42]
abbrev r89_7:LO:=[xm 44 9,xf 45 3 4,⟨some 46,.iaA 2 1 (.t 45) (.t 44),none⟩,xl 47 1 46,xm 48 9,xf 49 3 5,⟨some 50,.iaA 2 1 (.t 49) (.t 48),none⟩,xl 51 1 50,xC2 52 129 47 51,xm 43 52,xe 53 43 0,xe 54 43 1,xm 10 53,xm 11 54]
abbrev r89_8:LO:=[xm 56 9,xf 57 1 4,⟨some 58,.iaA 2 1 (.t 57) (.t 56),none⟩,xl 59 1 58,xm 60 9,xf 61 1 5,⟨some 62,.iaA 2 1 (.t 61) (.t 60),none⟩,xl 63 1 62,xC2 64 130 59 63,xm 55 64,xe 65 55 0,xe 66 55 1,xm 12 65,xm 13 66]
abbrev r89_9:LO:=[xm 67 11,xu 68 67,xm 69 68,xh (xm 70 13) 69,xh (xu 71 70) 69,xq 72 69 71]
abbrev r89_10:LO:=[⟨some 73,.build zr5 [],none⟩,xs 5 6 73,xk 7 (.bool false)]
abbrev r89_11:LO:=[xm 74 9,xm 75 9,xm 76 10,xm 77 12,xf 78 3 8,⟨some 79,.iaA 2 1 (.t 78) (.t 74),none⟩,xs 1 79 76,xf 80 1 8,⟨some 81,.iaA 2 1 (.t 80) (.t 75),none⟩,xs 1 81 77]
abbrev r89_12:LO:=[xc 82 .add 40 (zi 1),xm 40 82]
def b89_0:PC:=(sq (xo r89_5) (sq (.cond (.t 41) .skip (.exit 0)) (sq (.block 1 (sq (xo r89_6) (sq (xO r89_7) (sq (xO r89_8) (sq (sq (xo r89_9) (.cond (.t 72) (sq (xo r89_10) .ret) .skip)) (xo r89_11)))))) (xo r89_12))))
abbrev r89_13:LO:=[xR 83 5 8,xs 5 6 83,xk 7 (.bool true)]
def p89:PC:=(sq (xo r89_0) (sq (sq (xo r89_1) (.cond (.t 31) (sq (xo r89_2) .ret) .skip)) (sq (xo r89_3) (sq (sq (xo r89_4) (.block 0 (.loop b89_0))) (sq (xo r89_13) .ret)))))
def rs89:LR:=[.cell 6 true 5,.t 7]
theorem c89:chkF Tryz.prog Tryz.f89 3 p89 rs89=true:=by kernel_rfl
/- maps.Keys[map[cuboid/api.Coord]cuboid/api.Cell,cuboid/api.Coord,cuboid/api.Cell] -/
/- cuboid/query.between -/
abbrev r92_0:LO:=[xk 6 (.bool false)]
abbrev r92_1:LO:=[xm 7 0,xm 8 1,xb 9 .geq 7 8,xm 10 9,xg (xm 11 0) 10,xg (xm 12 2) 10,xg (xb 13 .leq 11 12) 10,xp 14 10 13,xm 6 14]
def p92:PC:=(sq (xo r92_0) (sq (xo r92_1) .ret))
def rs92:LR:=[.t 6]
theorem c92:chkF Tryz.prog Tryz.f92 3 p92 rs92=true:=by kernel_rfl
/- cuboid/query.fix -/
abbrev r93_0:LO:=[xx 2 2 0,xx 3 3 1,xk 4 (.bool false)]
abbrev r93_1:LO:=[xf 8 0 3,xl 9 1 8,xf 10 0 2,xl 11 1 10,xn 12 11,xc 13 .sub 12 (zi 1),⟨some 14,.call false 92 [(.t 9),(.k (zi 0)),(.t 13)],none⟩,xu 15 14,xm 16 15,xh (xf 17 2 3) 16,xh (xl 18 1 17) 16,xh (xn 19 18) 16,xh (xc 20 .eql 19 (zi 0)) 16,xq 21 16 20]
abbrev r93_2:LO:=[xk 4 (.bool false)]
abbrev r93_3:LO:=[xf 22 0 2,xl 23 1 22,xf 24 0 3,xl 25 1 24,xi 26 2 23 25,xR 27 2 26,xf 28 1 3,xl 29 1 28,xC2 30 100 27 29,xm 5 30]
abbrev r93_4:LO:=[xf 31 2 3,xl 32 1 31,xn 33 32,xk 34 (zi 0)]
abbrev r93_5:LO:=[xb 35 .lss 34 33]
abbrev r93_6:LO:=[xm 36 34,xi 37 1 32 34,xl 38 1 37,xm 6 36,xm 7 38]
abbrev r93_7:LO:=[xm 39 7,xm 40 5,xc 41 .sub 40 (zi 1),⟨some 42,.call false 92 [(.t 39),(.k (zi 0)),(.t 41)],none⟩,xu 43 42,xm 44 43,xh (xm 45 6) 44,xh (xc 46 .gtr 45 (zi 0)) 44,xh (xm 47 46) 44,xg (xf 48 2 3) 47,xg (xl 49 1 48) 47,xg (xm 50 6) 47,xg (xc 51 .sub 50 (zi 1)) 47,xg (xi 52 1 49 51) 47,xg (xl 53 1 52) 47,xg (xm 54 7) 47,xg (xb 55 .geq 53 54) 47,xh (xp 56 47 55) 44,xq 57 44 56]
abbrev r93_8:LO:=[xk 4 (.bool false)]
abbrev r93_9:LO:=[xc 58 .add 34 (zi 1),xm 34 58]
def b93_0:PC:=(sq (xo r93_5) (sq (.cond (.t 35) .skip (.exit 0)) (sq (.block 1 (sq (xo r93_6) (sq (xo r93_7) (.cond (.t 57) (sq (xo r93_8) .ret) .skip)))) (xo r93_9))))
abbrev r93_10:LO:=[xk 4 (.bool true)]
def p93:PC:=(sq (xo r93_0) (sq (sq (xo r93_1) (.cond (.t 21) (sq (xo r93_2) .ret) .skip)) (sq (xO r93_3) (sq (sq (xo r93_4) (.block 0 (.loop b93_0))) (sq (xo r93_10) .ret)))))
def rs93:LR:=[.t 4]
theorem c93:chkF Tryz.prog Tryz.f93 2 p93 rs93=true:=by kernel_rfl
/- slices.ContainsFunc[[]cuboid/api.Fix,cuboid/api.Fix] -/
abbrev r94_0:LO:=[xk 4 (.bool false)]
abbrev r94_1:LO:=[xm 5 0,xm 6 1,xC2 7 134 5 6,xc 8 .geq 7 (zi 0),xm 4 8]
def p94:PC:=(sq (xo r94_0) (sq (xo r94_1) .ret))
def rs94:LR:=[.t 4]
theorem c94:chkF Tryz.prog Tryz.f94 2 p94 rs94=true:=by kernel_rfl
/- cuboid/exec.kept$1 -/
abbrev r95_0:LO:=[xx 4 3 0,xk 5 (.bool false)]
abbrev r95_1:LO:=[xR 6 2 1,xR 7 4 2,xf 8 0 3,xR 9 4 8,xR 10 3 4,xC4 11 96 6 7 9 10,xu 12 11,xm 5 12]
def p95:PC:=(sq (xo r95_0) (sq (xo r95_1) .ret))
def rs95:LR:=[.t 5]
theorem c95:chkF Tryz.prog Tryz.f95 4 p95 rs95=true:=by kernel_rfl
/- cuboid/lift.Within -/
abbrev r96_0:LO:=[xx 4 2 0,xx 5 4 1,xx 6 4 2,xx 7 3 3,xk 8 (.bool false)]
abbrev r96_1:LO:=[xR 11 2 4,xR 12 4 5,xR 13 4 6,xC3 14 59 11 12 13,xu 15 14,xm 16 15,xh (xf 17 0 7) 16,xh (xl 18 1 17) 16,xh (xc 19 .lss 18 (zi 0)) 16,xq 20 16 19,xm 21 20,xh (xf 22 0 7) 21,xh (xl 23 1 22) 21,xh (xf 24 0 4) 21,xh (xl 25 1 24) 21,xh (xn 26 25) 21,xh (xb 27 .geq 23 26) 21,xq 28 21 27]
abbrev r96_2:LO:=[xk 8 (.bool false)]
abbrev r96_3:LO:=[xf 30 0 4,xl 31 1 30,xf 32 0 7,xl 33 1 32,xi 34 2 31 33,xR 35 2 34,xf 36 0 7,xl 37 1 36,⟨some 38,.iaA 4 1 (.t 5) (.t 37),none⟩,xl 39 1 38,⟨some 40,.conv .i64 (.t 39),none⟩,xf 41 1 7,xl 42 1 41,xf 43 0 7,xl 44 1 43,⟨some 45,.iaA 4 1 (.t 6) (.t 44),none⟩,xl 46 1 45,⟨some 47,.conv .i64 (.t 46),none⟩,xC4 48 127 35 40 42 47,xm 29 48,xe 49 29 0,xe 50 29 1,xm 9 49,xm 10 50]
abbrev r96_4:LO:=[xm 51 10,xm 52 51,xg (xf 53 2 7) 52,xg (xl 54 1 53) 52,xg (xm 55 9) 52,xg (xC2 56 135 54 55) 52,xp 57 52 56,xm 8 57]
def p96:PC:=(sq (xo r96_0) (sq (sq (xo r96_1) (.cond (.t 28) (sq (xo r96_2) .ret) .skip)) (sq (xO r96_3) (sq (xo r96_4) .ret))))
def rs96:LR:=[.t 8]
theorem c96:chkF Tryz.prog Tryz.f96 4 p96 rs96=true:=by kernel_rfl
/- cuboid/bag.Least -/
abbrev r97_0:LO:=[xk 2 (zi 0),xk 3 (.bool false)]
abbrev r97_1:LO:=[xm 4 0,⟨some 5,.call false 136 [(.t 4),(.k (.bool false))],none⟩,xe 6 5 0,xe 7 5 1,xm 2 6,xm 3 7]
def p97:PC:=(sq (xo r97_0) (sq (xo r97_1) .ret))
def rs97:LR:=[.t 2,.t 3]
theorem c97:chkF Tryz.prog Tryz.f97 1 p97 rs97=true:=by kernel_rfl
/- cuboid/bag.Greatest -/
abbrev r98_0:LO:=[xk 2 (zi 0),xk 3 (.bool false)]
abbrev r98_1:LO:=[xm 4 0,⟨some 5,.call false 136 [(.t 4),(.k (.bool true))],none⟩,xe 6 5 0,xe 7 5 1,xm 2 6,xm 3 7]
def p98:PC:=(sq (xo r98_0) (sq (xo r98_1) .ret))
def rs98:LR:=[.t 2,.t 3]
theorem c98:chkF Tryz.prog Tryz.f98 1 p98 rs98=true:=by kernel_rfl
/- cuboid/schema.Good -/
abbrev r99_0:LO:=[xx 1 2 0,xk 2 (.bool false)]
abbrev r99_1:LO:=[xf 5 0 1,xl 6 1 5,xn 7 6,⟨some 8,.call false 137 [(.t 7),(.k (zi 1)),(.k (zi 4))],none⟩,xu 9 8,xm 10 9,xh (xf 11 1 1) 10,xh (xl 12 1 11) 10,⟨some 13,.call false 137 [(.t 12),(.k (zi 1)),(.k (zi 2))],(some (10,false))⟩,xh (xu 14 13) 10,xq 15 10 14]
abbrev r99_2:LO:=[xk 2 (.bool false)]
abbrev r99_3:LO:=[xf 16 0 1,xl 17 1 16,xn 18 17,xk 19 (zi 0)]
abbrev r99_4:LO:=[xb 20 .lss 19 18]
abbrev r99_5:LO:=[xi 21 2 17 19,xR 22 2 21,⟨some 4,.alloc zr8,none⟩,xs 2 4 22]
abbrev r99_6:LO:=[xR 23 2 4,xC1 24 138 23,xu 25 24]
abbrev r99_7:LO:=[xk 2 (.bool false)]
abbrev r99_8:LO:=[xc 26 .add 19 (zi 1),xm 19 26]
def b99_0:PC:=(sq (xo r99_4) (sq (.cond (.t 20) .skip (.exit 0)) (sq (.block 1 (sq (xo r99_5) (sq (xo r99_6) (.cond (.t 25) (sq (xo r99_7) .ret) .skip)))) (xo r99_8))))
abbrev r99_9:LO:=[xk 2 (.bool true)]
def p99:PC:=(sq (xo r99_0) (sq (sq (xo r99_1) (.cond (.t 15) (sq (xo r99_2) .ret) .skip)) (sq (sq (xo r99_3) (.block 0 (.loop b99_0))) (sq (xo r99_9) .ret))))
def rs99:LR:=[.t 2]
theorem c99:chkF Tryz.prog Tryz.f99 1 p99 rs99=true:=by kernel_rfl
/- cuboid/hier.Size -/
abbrev r100_0:LO:=[xx 2 2 0,xk 4 (zi 0)]
abbrev r100_1:LO:=[xR 6 2 2,xC1 7 138 6,xu 8 7,xm 9 8,xh (xm 10 1) 9,xh (xf 11 0 2) 9,xh (xl 12 1 11) 9,xh (xn 13 12) 9,⟨some 14,.call false 139 [(.t 10),(.k (zi 0)),(.t 13)],(some (9,false))⟩,xh (xu 15 14) 9,xq 16 9 15,xm 5 16]
abbrev r100_2:LO:=[xk 4 (zi 0)]
abbrev r100_3:LO:=[xm 18 1,xf 19 0 2,xl 20 1 19,xn 21 20,xb 22 .eql 18 21,xm 17 22]
abbrev r100_4:LO:=[xk 4 (zi 1)]
abbrev r100_5:LO:=[xf 23 0 2,xl 24 1 23,xm 25 1,xi 26 1 24 25,xl 27 1 26,xm 4 27]
def p100:PC:=(sq (xo r100_0) (sq (.block 0 (sq (xo r100_1) (.cond (.t 5) (sq (xo r100_2) .ret) (sq (xo r100_3) (.cond (.t 17) (sq (xo r100_4) .ret) .skip))))) (sq (xo r100_5) .ret)))
def rs100:LR:=[.t 4]
theorem c100:chkF Tryz.prog Tryz.f100 2 p100 rs100=true:=by kernel_rfl
/- cuboid/cell.measures -/
abbrev r101_0:LO:=[xk 2 (.bool false)]
abbrev r101_1:LO:=[xm 3 0,xc 4 .geq 3 (zi 1),xm 5 4,xg (xm 6 0) 5,xg (xc 7 .leq 6 (zi 2)) 5,xp 8 5 7,xm 2 8]
def p101:PC:=(sq (xo r101_0) (sq (xo r101_1) .ret))
def rs101:LR:=[.t 2]
theorem c101:chkF Tryz.prog Tryz.f101 1 p101 rs101=true:=by kernel_rfl
/- cuboid/bag.Sum -/
abbrev r102_0:LO:=[xk 2 (zi 0),xk 3 (.bool false)]
abbrev r102_1:LO:=[xm 4 0,xC1 5 140 4,xu 6 5]
abbrev r102_2:LO:=[xk 2 (zi 0),xk 3 (.bool false)]
abbrev r102_3:LO:=[xm 7 0,⟨some 8,.call false 141 [(.t 7),(.k (.sl []))],none⟩,xC1 9 142 8,xe 10 9 0,xe 11 9 1,xm 2 10,xm 3 11]
def p102:PC:=(sq (xo r102_0) (sq (sq (xo r102_1) (.cond (.t 6) (sq (xo r102_2) .ret) .skip)) (sq (xo r102_3) .ret)))
def rs102:LR:=[.t 2,.t 3]
theorem c102:chkF Tryz.prog Tryz.f102 1 p102 rs102=true:=by kernel_rfl
/- cuboid/bag.Count -/
abbrev r103_0:LO:=[xk 2 (zi 0)]
abbrev r103_1:LO:=[xm 3 0,xC1 4 140 3,xu 5 4]
abbrev r103_2:LO:=[xk 2 (zi 0)]
abbrev r103_3:LO:=[xm 6 0,xC1 7 143 6,xm 2 7]
def p103:PC:=(sq (xo r103_0) (sq (sq (xo r103_1) (.cond (.t 5) (sq (xo r103_2) .ret) .skip)) (sq (xo r103_3) .ret)))
def rs103:LR:=[.t 2]
theorem c103:chkF Tryz.prog Tryz.f103 1 p103 rs103=true:=by kernel_rfl
/- cuboid/cuboidref08.Same -/
abbrev r104_0:LO:=[xk 4 (.bool false)]
abbrev r104_1:LO:=[xm 6 0,xn 7 6,xm 8 1,xn 9 8,xb 10 .neq 7 9]
abbrev r104_2:LO:=[xk 4 (.bool false)]
abbrev r104_3:LO:=[xk 5 (zi 0)]
abbrev r104_4:LO:=[xm 11 5,xm 12 0,xn 13 12,xb 14 .lss 11 13]
abbrev r104_6:LO:=[xm 17 0,xm 18 5,xi 19 2 17 18,xR 20 2 19,xm 21 1,xm 22 5,xi 23 2 21 22,xR 24 2 23,⟨some 25,.eqs true true [.i,.i] (.t 20) (.t 24),none⟩]
abbrev r104_7:LO:=[xk 4 (.bool false)]
abbrev r104_5:LO:=[xm 15 5,xc 16 .add 15 (zi 1),xm 5 16]
def b104_0:PC:=(sq (sq (xo r104_4) (.cond (.t 14) .skip (.exit 0))) (sq (.block 1 (sq (xO r104_6) (.cond (.t 25) (sq (xo r104_7) .ret) .skip))) (xo r104_5)))
abbrev r104_8:LO:=[xk 4 (.bool true)]
def p104:PC:=(sq (xo r104_0) (sq (sq (xo r104_1) (.cond (.t 10) (sq (xo r104_2) .ret) .skip)) (sq (sq (xo r104_3) (.block 0 (.loop b104_0))) (sq (xo r104_8) .ret))))
def rs104:LR:=[.t 4]
theorem c104:chkF Tryz.prog Tryz.f104 2 p104 rs104=true:=by kernel_rfl
/- cuboid/cuboidref03.Lift -/
abbrev r107_0:LO:=[xx 4 2 0,xk 8 (zi 0)]
abbrev r107_1:LO:=[xm 10 1,xc 11 .lss 10 (zi 0),xm 12 11,xh (xm 13 1) 12,xh (xm 14 2) 12,xh (xb 15 .gtr 13 14) 12,xq 16 12 15,xm 17 16,xh (xR 18 2 4) 17,xh (xm 19 2) 17,xh (xC2 20 113 18 19) 17,xh (xc 21 .eql 20 (zi 0)) 17,xq 22 17 21,xm 23 22,xh (xm 24 3) 23,xh (xc 25 .lss 24 (zi 0)) 23,xq 26 23 25,xm 27 26,xh (xm 28 3) 27,xh (xR 29 2 4) 27,xh (xm 30 1) 27,xh (xC2 31 113 29 30) 27,xh (xb 32 .geq 28 31) 27,xq 33 27 32]
abbrev r107_2:LO:=[xk 8 (zi (-1))]
abbrev r107_3:LO:=[xm 34 1,xm 9 34]
abbrev r107_4:LO:=[xm 35 9,xm 36 2,xb 37 .lss 35 36,xm 38 37,xg (xm 39 9) 38,xg (xf 40 1 4) 38,xg (xl 41 1 40) 38,xg (xn 42 41) 38,xg (xb 43 .lss 39 42) 38,xp 44 38 43]
abbrev r107_6:LO:=[xf 47 1 4,xl 48 1 47,xm 49 9,xi 50 1 48 49,xl 51 1 50,xm 52 3,xi 53 1 51 52,xl 54 1 53,xm 3 54]
abbrev r107_5:LO:=[xm 45 9,xc 46 .add 45 (zi 1),xm 9 46]
def b107_0:PC:=(sq (sq (xo r107_4) (.cond (.t 44) .skip (.exit 0))) (sq (.block 1 (xo r107_6)) (xo r107_5)))
abbrev r107_7:LO:=[xm 55 2,xf 56 0 4,xl 57 1 56,xn 58 57,xb 59 .eql 55 58]
abbrev r107_8:LO:=[xk 8 (zi 0)]
abbrev r107_9:LO:=[xm 60 3,xm 8 60]
def p107:PC:=(sq (xo r107_0) (sq (sq (xo r107_1) (.cond (.t 33) (sq (xo r107_2) .ret) .skip)) (sq (sq (xo r107_3) (.block 0 (.loop b107_0))) (sq (sq (xo r107_7) (.cond (.t 59) (sq (xo r107_8) .ret) .skip)) (sq (xo r107_9) .ret)))))
def rs107:LR:=[.t 8]
theorem c107:chkF Tryz.prog Tryz.f107 4 p107 rs107=true:=by kernel_rfl
/- cuboid/cuboidref08.Lay -/
abbrev r108_0:LO:=[xk 6 (.sl [])]
abbrev r108_1:LO:=[⟨some 7,.own0 2,none⟩]
abbrev r108_2:LO:=[xk 8 (.bool false)]
abbrev r108_3:LO:=[xk 9 (zi 0)]
abbrev r108_4:LO:=[xm 11 9,xm 12 0,xn 13 12,xb 14 .lss 11 13]
abbrev r108_6:LO:=[xm 17 0,xm 18 9,xi 19 2 17 18,xR 20 2 19,⟨some 10,.alloc [zi 0,zi 0],none⟩,xs 2 10 20]
abbrev r108_7:LO:=[xm 21 8,xu 22 21,xm 23 22,xg (xf 24 0 10) 23,xg (xl 25 1 24) 23,xg (xm 26 1) 23,xg (xb 27 .geq 25 26) 23,xp 28 23 27]
abbrev r108_8:LO:=[xk 8 (.bool true)]
abbrev r108_9:LO:=[xf 29 0 10,xl 30 1 29,xm 31 1,xb 32 .gtr 30 31]
abbrev r108_10:LO:=[xm 33 7,xm 34 1,xm 35 2,⟨some 36,.build [zi 0,zi 0] [(0,1,(.t 34)),(1,1,(.t 35))],none⟩,⟨some 37,.bsl 2 1 [zi 0,zi 0] [(0,(.t 36))] false,none⟩,⟨some 38,.app 2 (.t 33) (.t 37) true,none⟩,xm 7 38]
abbrev r108_11:LO:=[xf 39 1 10,xl 40 1 39,xm 41 2,xb 42 .add 40 41,xf 43 1 10,xs 1 43 42]
abbrev r108_12:LO:=[xf 44 1 10,xl 45 1 44,xc 46 .neq 45 (zi 0)]
abbrev r108_13:LO:=[xm 47 7,xR 48 2 10,⟨some 49,.bsl 2 1 [zi 0,zi 0] [(0,(.t 48))] false,none⟩,⟨some 50,.app 2 (.t 47) (.t 49) true,none⟩,xm 7 50]
abbrev r108_5:LO:=[xm 15 9,xc 16 .add 15 (zi 1),xm 9 16]
def b108_0:PC:=(sq (sq (xo r108_4) (.cond (.t 14) .skip (.exit 0))) (sq (.block 1 (sq (xo r108_6) (sq (sq (xo r108_7) (.cond (.t 28) (sq (xo r108_8) (sq (xo r108_9) (.cond (.t 32) (xo r108_10) (xo r108_11)))) .skip)) (sq (xo r108_12) (.cond (.t 46) (xo r108_13) .skip))))) (.rn 7 7 (xo r108_5))))
abbrev r108_14:LO:=[xm 51 8,xu 52 51]
abbrev r108_15:LO:=[xm 53 7,xm 54 1,xm 55 2,⟨some 56,.build [zi 0,zi 0] [(0,1,(.t 54)),(1,1,(.t 55))],none⟩,⟨some 57,.bsl 2 1 [zi 0,zi 0] [(0,(.t 56))] false,none⟩,⟨some 58,.app 2 (.t 53) (.t 57) true,none⟩,xm 7 58]
abbrev r108_16:LO:=[xm 59 7,xm 6 59]
def p108:PC:=(sq (xo r108_0) (sq (xo r108_1) (sq (xo r108_2) (sq (sq (xo r108_3) (.block 0 (.loop b108_0))) (sq (sq (xo r108_14) (.cond (.t 52) (xo r108_15) .skip)) (sq (xo r108_16) .ret))))))
def rs108:LR:=[.t 6]
theorem c108:chkF Tryz.prog Tryz.f108 3 p108 rs108=true:=by kernel_rfl
/- cuboid/cuboidref09.made -/
abbrev r109_0:LO:=[xx 5 2 2,⟨some 6,.alloc [zi 0,zi 0,zi 0,.sl [],.sl [],.bool false],none⟩]
abbrev r109_1:LO:=[xm 11 1,xR 12 2 5,⟨some 13,.build zr5 [(0,1,(.t 11)),(3,2,(.t 12))],none⟩,⟨some 7,.alloc zr5,none⟩,xs 5 7 13]
abbrev r109_2:LO:=[xk 8 (zi 0)]
abbrev r109_3:LO:=[xm 14 8,xm 15 0,xb 16 .lss 14 15]
abbrev r109_5:LO:=[xm 20 8,⟨some 21,.iaA 2 1 (.t 5) (.t 20),none⟩,xl 22 1 21,xC1 23 116 22,xC1 24 146 23,xm 19 24,xe 25 19 0,xe 26 19 1,xm 9 25,xm 10 26]
abbrev r109_6:LO:=[xm 27 10,xu 28 27]
abbrev r109_7:LO:=[⟨some 29,.build [zi 0,zi 0,zi 0,.sl [],.sl [],.bool false] [],none⟩,xs 6 6 29]
abbrev r109_8:LO:=[xm 30 8,xm 31 9,xf 32 1 7,⟨some 33,.iaA 2 1 (.t 32) (.t 30),none⟩,xs 1 33 31]
abbrev r109_4:LO:=[xm 17 8,xc 18 .add 17 (zi 1),xm 8 18]
def b109_0:PC:=(sq (sq (xo r109_3) (.cond (.t 16) .skip (.exit 0))) (sq (.block 1 (sq (xo r109_5) (sq (sq (xo r109_6) (.cond (.t 28) (sq (xo r109_7) .ret) .skip)) (xo r109_8)))) (xo r109_4)))
abbrev r109_9:LO:=[xm 34 0,xR 35 5 7,xC2 36 74 34 35,xu 37 36]
abbrev r109_10:LO:=[⟨some 38,.build [zi 0,zi 0,zi 0,.sl [],.sl [],.bool false] [],none⟩,xs 6 6 38]
abbrev r109_11:LO:=[xR 39 5 7,⟨some 40,.build [zi 0,zi 0,zi 0,.sl [],.sl [],.bool false] [(0,5,(.t 39)),(5,1,(.k (.bool true)))],none⟩,xs 6 6 40]
def p109:PC:=(sq (xo r109_0) (sq (xo r109_1) (sq (sq (xo r109_2) (.block 0 (.loop b109_0))) (sq (sq (xo r109_9) (.cond (.t 37) (sq (xo r109_10) .ret) .skip)) (sq (xo r109_11) .ret)))))
def rs109:LR:=[.cell 6 true 6]
theorem c109:chkF Tryz.prog Tryz.f109 3 p109 rs109=true:=by kernel_rfl
/- cuboid/cuboidref09.Join -/
abbrev r110_0:LO:=[xx 4 5 1,xx 5 5 2,⟨some 6,.alloc [zi 0,zi 0,zi 0,.sl [],.sl [],.bool false],none⟩]
abbrev r110_1:LO:=[xm 10 0,xR 11 5 4,xC2 12 74 10 11,xu 13 12,xm 14 13,xh (xm 15 0) 14,xh (xR 16 5 5) 14,xh (xC2 17 74 15 16) 14,xh (xu 18 17) 14,xq 19 14 18]
abbrev r110_2:LO:=[⟨some 20,.build [zi 0,zi 0,zi 0,.sl [],.sl [],.bool false] [],none⟩,xs 6 6 20]
abbrev r110_3:LO:=[⟨some 7,.alloc zr8,none⟩]
abbrev r110_4:LO:=[xk 8 (zi 0)]
abbrev r110_5:LO:=[xm 21 8,xm 22 0,xb 23 .lss 21 22]
abbrev r110_7:LO:=[xm 26 8,xf 27 3 4,⟨some 28,.iaA 2 1 (.t 27) (.t 26),none⟩,⟨some 29,.load false 1 (.t 28) [9],none⟩,xm 30 8,xf 31 3 5,⟨some 32,.iaA 2 1 (.t 31) (.t 30),none⟩,⟨some 33,.load false 1 (.t 32) [9],none⟩,xC2 34 147 29 33,⟨some 9,.alloc [.sl [],.bool false],none⟩,xs 2 9 34]
abbrev r110_8:LO:=[xf 35 1 9,xl 36 1 35,xu 37 36]
abbrev r110_9:LO:=[⟨some 38,.build [zi 0,zi 0,zi 0,.sl [],.sl [],.bool false] [],none⟩,xs 6 6 38]
abbrev r110_10:LO:=[xm 39 8,xf 40 0 9,xl 41 1 40,⟨some 42,.iaA 2 1 (.t 7) (.t 39),none⟩,xs 1 42 41]
abbrev r110_6:LO:=[xm 24 8,xc 25 .add 24 (zi 1),xm 8 25]
def b110_0:PC:=(sq (sq (xo r110_5) (.cond (.t 23) .skip (.exit 0))) (sq (.block 1 (sq (xO r110_7) (sq (sq (xo r110_8) (.cond (.t 37) (sq (xo r110_9) .ret) .skip)) (xo r110_10)))) (xo r110_6)))
abbrev r110_11:LO:=[xm 43 0,xf 44 0 4,xl 45 1 44,xf 46 0 5,xl 47 1 46,xb 48 .add 45 47,xR 49 2 7,xC3 50 109 43 48 49,xs 6 6 50]
def p110:PC:=(sq (xo r110_0) (sq (sq (xo r110_1) (.cond (.t 19) (sq (xo r110_2) .ret) .skip)) (sq (xo r110_3) (sq (sq (xo r110_4) (.block 0 (.loop b110_0))) (sq (xo r110_11) .ret)))))
def rs110:LR:=[.cell 6 true 6]
theorem c110:chkF Tryz.prog Tryz.f110 3 p110 rs110=true:=by kernel_rfl
/- cuboid/cuboidref04.Levels -/
abbrev r111_0:LO:=[xx 2 2 0,xk 4 (zi 0)]
abbrev r111_1:LO:=[xR 5 2 2,xC1 6 76 5,xu 7 6,xm 8 7,xh (xm 9 1) 8,xh (xc 10 .lss 9 (zi 0)) 8,xq 11 8 10,xm 12 11,xh (xm 13 1) 12,xh (xf 14 0 2) 12,xh (xl 15 1 14) 12,xh (xn 16 15) 12,xh (xb 17 .geq 13 16) 12,xq 18 12 17]
abbrev r111_2:LO:=[xk 4 (zi 0)]
abbrev r111_3:LO:=[xf 19 0 2,xl 20 1 19,xm 21 1,xi 22 2 20 21,xf 23 0 22,xl 24 1 23,xn 25 24,xc 26 .add 25 (zi 1),xm 4 26]
def p111:PC:=(sq (xo r111_0) (sq (sq (xo r111_1) (.cond (.t 18) (sq (xo r111_2) .ret) .skip)) (sq (xo r111_3) .ret)))
def rs111:LR:=[.t 4]
theorem c111:chkF Tryz.prog Tryz.f111 2 p111 rs111=true:=by kernel_rfl
/- cuboid/cuboidref09.Line -/
abbrev r112_0:LO:=[xx 4 4 1,xx 5 5 2,⟨some 6,.alloc zr1,none⟩]
abbrev r112_1:LO:=[xm 10 0,xR 11 5 5,xC2 12 74 10 11,xu 13 12]
abbrev r112_2:LO:=[⟨some 14,.build zr1 [],none⟩,xs 11 6 14]
abbrev r112_3:LO:=[xR 15 4 4,xf 16 0 5,xl 17 1 16,⟨some 18,.build zr1 [(0,4,(.t 15)),(4,1,(.t 17))],none⟩,⟨some 7,.alloc zr1,none⟩,xs 11 7 18]
abbrev r112_4:LO:=[xk 8 (zi 0)]
abbrev r112_5:LO:=[xm 19 8,xm 20 0,xb 21 .lss 19 20]
abbrev r112_7:LO:=[xm 24 8,xf 25 3 5,⟨some 26,.iaA 2 1 (.t 25) (.t 24),none⟩,xl 27 1 26,xm 9 27]
abbrev r112_8:LO:=[xm 28 8,xm 29 8,xf 30 1 5,⟨some 31,.iaA 2 1 (.t 30) (.t 29),none⟩,xl 32 1 31,xf 33 5 7,⟨some 34,.iaA 2 1 (.t 33) (.t 28),none⟩,xs 1 34 32]
abbrev r112_9:LO:=[xm 35 8,xm 36 9,⟨some 37,.iaS 2 (.t 36) (.k (zi 0)),none⟩,xf 38 0 37,xl 39 1 38,xf 40 7 7,⟨some 41,.iaA 2 1 (.t 40) (.t 35),none⟩,xs 1 41 39]
abbrev r112_10:LO:=[xm 42 8,xm 43 9,xm 44 9,xn 45 44,xc 46 .sub 45 (zi 1),xi 47 2 43 46,xf 48 0 47,xl 49 1 48,xf 50 9 7,⟨some 51,.iaA 2 1 (.t 50) (.t 42),none⟩,xs 1 51 49]
abbrev r112_6:LO:=[xm 22 8,xc 23 .add 22 (zi 1),xm 8 23]
def b112_0:PC:=(sq (sq (xo r112_5) (.cond (.t 21) .skip (.exit 0))) (sq (.block 1 (sq (xo r112_7) (sq (xo r112_8) (sq (xo r112_9) (xo r112_10))))) (xo r112_6)))
abbrev r112_11:LO:=[xR 52 11 7,xs 11 6 52]
def p112:PC:=(sq (xo r112_0) (sq (sq (xo r112_1) (.cond (.t 13) (sq (xo r112_2) .ret) .skip)) (sq (xo r112_3) (sq (sq (xo r112_4) (.block 0 (.loop b112_0))) (sq (xo r112_11) .ret)))))
def rs112:LR:=[.cell 6 true 11]
theorem c112:chkF Tryz.prog Tryz.f112 3 p112 rs112=true:=by kernel_rfl
/- cuboid/cuboidref03.Size -/
abbrev r113_0:LO:=[xx 2 2 0,xk 4 (zi 0)]
abbrev r113_1:LO:=[xR 6 2 2,xC1 7 117 6,xu 8 7,xm 9 8,xh (xm 10 1) 9,xh (xc 11 .lss 10 (zi 0)) 9,xq 12 9 11,xm 13 12,xh (xm 14 1) 13,xh (xf 15 0 2) 13,xh (xl 16 1 15) 13,xh (xn 17 16) 13,xh (xb 18 .gtr 14 17) 13,xq 19 13 18,xm 5 19]
abbrev r113_2:LO:=[xk 4 (zi 0)]
abbrev r113_3:LO:=[xm 21 1,xf 22 0 2,xl 23 1 22,xn 24 23,xb 25 .eql 21 24,xm 20 25]
abbrev r113_4:LO:=[xk 4 (zi 1)]
abbrev r113_5:LO:=[xf 26 0 2,xl 27 1 26,xm 28 1,xi 29 1 27 28,xl 30 1 29,xm 4 30]
def p113:PC:=(sq (xo r113_0) (sq (.block 0 (sq (xo r113_1) (.cond (.t 5) (sq (xo r113_2) .ret) (sq (xo r113_3) (.cond (.t 20) (sq (xo r113_4) .ret) .skip))))) (sq (xo r113_5) .ret)))
def rs113:LR:=[.t 4]
theorem c113:chkF Tryz.prog Tryz.f113 2 p113 rs113=true:=by kernel_rfl
/- cuboid/cuboidref08.Good -/
abbrev r114_0:LO:=[xk 2 (.bool false)]
abbrev r114_1:LO:=[xk 3 (zi 0)]
abbrev r114_2:LO:=[xk 4 (zi 0)]
abbrev r114_3:LO:=[xm 5 4,xm 6 0,xn 7 6,xb 8 .lss 5 7]
abbrev r114_5:LO:=[xm 11 4,xc 12 .gtr 11 (zi 0),xm 13 12,xg (xm 14 0) 13,xg (xm 15 4) 13,xg (xc 16 .sub 15 (zi 1)) 13,xg (xi 17 2 14 16) 13,xg (xf 18 0 17) 13,xg (xl 19 1 18) 13,xg (xm 20 0) 13,xg (xm 21 4) 13,xg (xi 22 2 20 21) 13,xg (xf 23 0 22) 13,xg (xl 24 1 23) 13,xg (xb 25 .geq 19 24) 13,xp 26 13 25,xm 27 26,xh (xm 28 0) 27,xh (xm 29 4) 27,xh (xi 30 2 28 29) 27,xh (xf 31 1 30) 27,xh (xl 32 1 31) 27,xh (xc 33 .lss 32 (zi 1)) 27,xq 34 27 33,xm 35 34,xh (xm 36 0) 35,xh (xm 37 4) 35,xh (xi 38 2 36 37) 35,xh (xf 39 1 38) 35,xh (xl 40 1 39) 35,xh (xm 41 3) 35,⟨some 42,.bin .sub (.k (zi 1099511627776)) (.t 41),(some (35,false))⟩,xh (xb 43 .gtr 40 42) 35,xq 44 35 43]
abbrev r114_6:LO:=[xk 2 (.bool false)]
abbrev r114_7:LO:=[xm 45 3,xm 46 0,xm 47 4,xi 48 2 46 47,xf 49 1 48,xl 50 1 49,xb 51 .add 45 50,xm 3 51]
abbrev r114_4:LO:=[xm 9 4,xc 10 .add 9 (zi 1),xm 4 10]
def b114_0:PC:=(sq (sq (xo r114_3) (.cond (.t 8) .skip (.exit 0))) (sq (.block 1 (sq (sq (xO r114_5) (.cond (.t 44) (sq (xo r114_6) .ret) .skip)) (xo r114_7))) (xo r114_4)))
abbrev r114_8:LO:=[xk 2 (.bool true)]
def p114:PC:=(sq (xo r114_0) (sq (xo r114_1) (sq (sq (xo r114_2) (.block 0 (.loop b114_0))) (sq (xo r114_8) .ret))))
def rs114:LR:=[.t 2]
theorem c114:chkF Tryz.prog Tryz.f114 1 p114 rs114=true:=by kernel_rfl
/- cuboid/cuboidref08.Count -/
abbrev r115_0:LO:=[xk 2 (zi 0)]
abbrev r115_1:LO:=[xk 3 (zi 0)]
abbrev r115_2:LO:=[xk 4 (zi 0)]
abbrev r115_3:LO:=[xm 5 0,xC1 6 114 5,xm 7 6,xg (xm 8 4) 7,xg (xm 9 0) 7,xg (xn 10 9) 7,xg (xb 11 .lss 8 10) 7,xp 12 7 11]
abbrev r115_5:LO:=[xm 15 3,xm 16 0,xm 17 4,xi 18 2 16 17,xf 19 1 18,xl 20 1 19,xb 21 .add 15 20,xm 3 21]
abbrev r115_4:LO:=[xm 13 4,xc 14 .add 13 (zi 1),xm 4 14]
def b115_0:PC:=(sq (sq (xo r115_3) (.cond (.t 12) .skip (.exit 0))) (sq (.block 1 (xo r115_5)) (xo r115_4)))
abbrev r115_6:LO:=[xm 22 3,xm 2 22]
def p115:PC:=(sq (xo r115_0) (sq (xo r115_1) (sq (sq (xo r115_2) (.block 0 (.loop b115_0))) (sq (xo r115_6) .ret))))
def rs115:LR:=[.t 2]
theorem c115:chkF Tryz.prog Tryz.f115 1 p115 rs115=true:=by kernel_rfl
/- cuboid/cuboidref08.Wide -/
abbrev r116_0:LO:=[⟨some 2,.alloc [.bool false,.int .u64 0,.int .u64 0],none⟩]
abbrev r116_1:LO:=[⟨some 3,.alloc [.bool false,.int .u64 0,.int .u64 0],none⟩]
abbrev r116_2:LO:=[xk 4 (zi 0)]
abbrev r116_3:LO:=[xm 5 4,xm 6 0,xn 7 6,xb 8 .lss 5 7]
abbrev r116_5:LO:=[xR 11 3 3,xm 12 0,xm 13 4,xi 14 2 12 13,xf 15 0 14,xl 16 1 15,xm 17 0,xm 18 4,xi 19 2 17 18,xf 20 1 19,xl 21 1 20,xC2 22 51 16 21,xC2 23 148 11 22,xs 3 3 23]
abbrev r116_4:LO:=[xm 9 4,xc 10 .add 9 (zi 1),xm 4 10]
def b116_0:PC:=(sq (sq (xo r116_3) (.cond (.t 8) .skip (.exit 0))) (sq (.block 1 (xO r116_5)) (xo r116_4)))
abbrev r116_6:LO:=[xR 24 3 3,xs 3 2 24]
def p116:PC:=(sq (xo r116_0) (sq (xo r116_1) (sq (sq (xo r116_2) (.block 0 (.loop b116_0))) (sq (xo r116_6) .ret))))
def rs116:LR:=[.cell 2 true 3]
theorem c116:chkF Tryz.prog Tryz.f116 1 p116 rs116=true:=by kernel_rfl
/- cuboid/cuboidref03.Good -/
abbrev r117_0:LO:=[xx 1 2 0,xk 2 (.bool false)]
abbrev r117_1:LO:=[xf 7 0 1,xl 8 1 7,xn 9 8,xm 3 9]
abbrev r117_2:LO:=[xm 10 3,xc 11 .lss 10 (zi 1),xm 12 11,xh (xm 13 3) 12,xh (xc 14 .gtr 13 (zi 4)) 12,xq 15 12 14,xm 16 15,xh (xf 17 1 1) 16,xh (xl 18 1 17) 16,xh (xn 19 18) 16,xh (xm 20 3) 16,xh (xc 21 .sub 20 (zi 1)) 16,xh (xb 22 .neq 19 21) 16,xq 23 16 22]
abbrev r117_3:LO:=[xk 2 (.bool false)]
abbrev r117_4:LO:=[xk 4 (zi 0)]
abbrev r117_5:LO:=[xm 24 4,xm 25 3,xb 26 .lss 24 25]
abbrev r117_7:LO:=[xf 29 0 1,xl 30 1 29,xm 31 4,xi 32 1 30 31,xl 33 1 32,xc 34 .lss 33 (zi 1),xm 35 34,xh (xf 36 0 1) 35,xh (xl 37 1 36) 35,xh (xm 38 4) 35,xh (xi 39 1 37 38) 35,xh (xl 40 1 39) 35,xh (xc 41 .gtr 40 (zi 40)) 35,xq 42 35 41]
abbrev r117_8:LO:=[xk 2 (.bool false)]
abbrev r117_6:LO:=[xm 27 4,xc 28 .add 27 (zi 1),xm 4 28]
def b117_0:PC:=(sq (sq (xo r117_5) (.cond (.t 26) .skip (.exit 0))) (sq (.block 1 (sq (xo r117_7) (.cond (.t 42) (sq (xo r117_8) .ret) .skip))) (xo r117_6)))
abbrev r117_9:LO:=[xk 5 (zi 0)]
abbrev r117_10:LO:=[xm 43 5,xm 44 3,xc 45 .sub 44 (zi 1),xb 46 .lss 43 45]
abbrev r117_12:LO:=[xf 49 1 1,xl 50 1 49,xm 51 5,xi 52 1 50 51,xl 53 1 52,xn 54 53,xf 55 0 1,xl 56 1 55,xm 57 5,xi 58 1 56 57,xl 59 1 58,xb 60 .neq 54 59]
abbrev r117_13:LO:=[xk 2 (.bool false)]
abbrev r117_14:LO:=[xk 6 (zi 0)]
abbrev r117_15:LO:=[xm 61 6,xf 62 1 1,xl 63 1 62,xm 64 5,xi 65 1 63 64,xl 66 1 65,xn 67 66,xb 68 .lss 61 67]
abbrev r117_17:LO:=[xf 71 1 1,xl 72 1 71,xm 73 5,xi 74 1 72 73,xl 75 1 74,xm 76 6,xi 77 1 75 76,xl 78 1 77,xc 79 .lss 78 (zi 0),xm 80 79,xh (xf 81 1 1) 80,xh (xl 82 1 81) 80,xh (xm 83 5) 80,xh (xi 84 1 82 83) 80,xh (xl 85 1 84) 80,xh (xm 86 6) 80,xh (xi 87 1 85 86) 80,xh (xl 88 1 87) 80,xh (xf 89 0 1) 80,xh (xl 90 1 89) 80,xh (xm 91 5) 80,xh (xc 92 .add 91 (zi 1)) 80,xh (xi 93 1 90 92) 80,xh (xl 94 1 93) 80,xh (xb 95 .geq 88 94) 80,xq 96 80 95]
abbrev r117_18:LO:=[xk 2 (.bool false)]
abbrev r117_16:LO:=[xm 69 6,xc 70 .add 69 (zi 1),xm 6 70]
def b117_2:PC:=(sq (sq (xo r117_15) (.cond (.t 68) .skip (.exit 4))) (sq (.block 5 (sq (xO r117_17) (.cond (.t 96) (sq (xo r117_18) .ret) .skip))) (xo r117_16)))
abbrev r117_11:LO:=[xm 47 5,xc 48 .add 47 (zi 1),xm 5 48]
def b117_1:PC:=(sq (sq (xo r117_10) (.cond (.t 46) .skip (.exit 2))) (sq (.block 3 (sq (sq (xO r117_12) (.cond (.t 60) (sq (xo r117_13) .ret) .skip)) (sq (xo r117_14) (.block 4 (.loop b117_2))))) (xo r117_11)))
abbrev r117_19:LO:=[xk 2 (.bool true)]
def p117:PC:=(sq (xo r117_0) (sq (xo r117_1) (sq (sq (xo r117_2) (.cond (.t 23) (sq (xo r117_3) .ret) .skip)) (sq (sq (xo r117_4) (.block 0 (.loop b117_0))) (sq (sq (xo r117_9) (.block 2 (.loop b117_1))) (sq (xo r117_19) .ret))))))
def rs117:LR:=[.t 2]
theorem c117:chkF Tryz.prog Tryz.f117 1 p117 rs117=true:=by kernel_rfl
/- slices.insertionSortCmpFunc[cuboid/api.Line] -/
abbrev r118_0:LO:=[xm 10 1,xc 11 .add 10 (zi 1),xm 8 11]
abbrev r118_1:LO:=[xm 12 8,xm 13 2,xb 14 .lss 12 13]
abbrev r118_3:LO:=[xm 17 8,xm 9 17]
abbrev r118_4:LO:=[xm 18 9,xm 19 1,xb 20 .gtr 18 19,xm 21 20,xg (xm 22 3) 21,xg (xm 23 0) 21,xg (xm 24 9) 21,xg (xi 25 11 23 24) 21,xg (xR 26 11 25) 21,xg (xm 27 0) 21,xg (xm 28 9) 21,xg (xc 29 .sub 28 (zi 1)) 21,xg (xi 30 11 27 29) 21,xg (xR 31 11 30) 21,⟨some 32,.callv (.t 22) [(.t 26),(.t 31)],(some (21,true))⟩,xg (xc 33 .lss 32 (zi 0)) 21,xp 34 21 33]
abbrev r118_6:LO:=[xm 37 0,xm 38 9,xm 39 0,xm 40 9,xc 41 .sub 40 (zi 1),xm 42 0,xm 43 9,xc 44 .sub 43 (zi 1),xi 45 11 42 44,xR 46 11 45,xm 47 0,xm 48 9,xi 49 11 47 48,xR 50 11 49,xi 51 11 37 38,xs 11 51 46,xi 52 11 39 41,xs 11 52 50]
abbrev r118_5:LO:=[xm 35 9,xc 36 .sub 35 (zi 1),xm 9 36]
def b118_1:PC:=(sq (sq (xO r118_4) (.cond (.t 34) .skip (.exit 2))) (sq (.block 3 (xO r118_6)) (xo r118_5)))
abbrev r118_2:LO:=[xm 15 8,xc 16 .add 15 (zi 1),xm 8 16]
def b118_0:PC:=(sq (sq (xo r118_1) (.cond (.t 14) .skip (.exit 0))) (sq (.block 1 (sq (xo r118_3) (.block 2 (.loop b118_1)))) (xo r118_2)))
def p118:PC:=(sq (xo r118_0) (.block 0 (.loop b118_0)))
def rs118:LR:=[]
theorem c118:chkF Tryz.prog Tryz.f118 4 p118 rs118=true:=by kernel_rfl
/- slices.symMergeCmpFunc[cuboid/api.Line] -/
abbrev r119_0:LO:=[xm 25 2,xm 26 1,xb 27 .sub 25 26,xc 28 .eql 27 (zi 1)]
abbrev r119_1:LO:=[xm 29 2,xm 10 29]
abbrev r119_2:LO:=[xm 30 3,xm 11 30]
abbrev r119_3:LO:=[xm 31 10,xm 32 11,xb 33 .lss 31 32]
abbrev r119_4:LO:=[xm 34 10,xm 35 11,xb 36 .add 34 35,⟨some 37,.conv .u64 (.t 36),none⟩,xc 38 .shr 37 (.int .u64 1),⟨some 39,.conv .i64 (.t 38),none⟩,xm 12 39]
abbrev r119_5:LO:=[xm 40 4,xm 41 0,xm 42 12,xi 43 11 41 42,xR 44 11 43,xm 45 0,xm 46 1,xi 47 11 45 46,xR 48 11 47,⟨some 49,.callv (.t 40) [(.t 44),(.t 48)],none⟩,xc 50 .lss 49 (zi 0)]
abbrev r119_6:LO:=[xm 51 12,xc 52 .add 51 (zi 1),xm 10 52]
abbrev r119_7:LO:=[xm 53 12,xm 11 53]
def b119_0:PC:=(sq (sq (xo r119_3) (.cond (.t 33) .skip (.exit 0))) (.block 1 (sq (xo r119_4) (sq (xO r119_5) (.cond (.t 50) (xo r119_6) (xo r119_7))))))
abbrev r119_8:LO:=[xm 54 1,xm 13 54]
abbrev r119_9:LO:=[xm 55 13,xm 56 10,xc 57 .sub 56 (zi 1),xb 58 .lss 55 57]
abbrev r119_11:LO:=[xm 61 0,xm 62 13,xm 63 0,xm 64 13,xc 65 .add 64 (zi 1),xm 66 0,xm 67 13,xc 68 .add 67 (zi 1),xi 69 11 66 68,xR 70 11 69,xm 71 0,xm 72 13,xi 73 11 71 72,xR 74 11 73,xi 75 11 61 62,xs 11 75 70,xi 76 11 63 65,xs 11 76 74]
abbrev r119_10:LO:=[xm 59 13,xc 60 .add 59 (zi 1),xm 13 60]
def b119_1:PC:=(sq (sq (xo r119_9) (.cond (.t 58) .skip (.exit 2))) (sq (.block 3 (xO r119_11)) (xo r119_10)))
abbrev r119_12:LO:=[xm 77 3,xm 78 2,xb 79 .sub 77 78,xc 80 .eql 79 (zi 1)]
abbrev r119_13:LO:=[xm 81 1,xm 14 81]
abbrev r119_14:LO:=[xm 82 2,xm 15 82]
abbrev r119_15:LO:=[xm 83 14,xm 84 15,xb 85 .lss 83 84]
abbrev r119_16:LO:=[xm 86 14,xm 87 15,xb 88 .add 86 87,⟨some 89,.conv .u64 (.t 88),none⟩,xc 90 .shr 89 (.int .u64 1),⟨some 91,.conv .i64 (.t 90),none⟩,xm 16 91]
abbrev r119_17:LO:=[xm 92 4,xm 93 0,xm 94 2,xi 95 11 93 94,xR 96 11 95,xm 97 0,xm 98 16,xi 99 11 97 98,xR 100 11 99,⟨some 101,.callv (.t 92) [(.t 96),(.t 100)],none⟩,xc 102 .lss 101 (zi 0),xu 103 102]
abbrev r119_18:LO:=[xm 104 16,xc 105 .add 104 (zi 1),xm 14 105]
abbrev r119_19:LO:=[xm 106 16,xm 15 106]
def b119_2:PC:=(sq (sq (xo r119_15) (.cond (.t 85) .skip (.exit 4))) (.block 5 (sq (xo r119_16) (sq (xO r119_17) (.cond (.t 103) (xo r119_18) (xo r119_19))))))
abbrev r119_20:LO:=[xm 107 2,xm 17 107]
abbrev r119_21:LO:=[xm 108 17,xm 109 14,xb 110 .gtr 108 109]
abbrev r119_23:LO:=[xm 113 0,xm 114 17,xm 115 0,xm 116 17,xc 117 .sub 116 (zi 1),xm 118 0,xm 119 17,xc 120 .sub 119 (zi 1),xi 121 11 118 120,xR 122 11 121,xm 123 0,xm 124 17,xi 125 11 123 124,xR 126 11 125,xi 127 11 113 114,xs 11 127 122,xi 128 11 115 117,xs 11 128 126]
abbrev r119_22:LO:=[xm 111 17,xc 112 .sub 111 (zi 1),xm 17 112]
def b119_3:PC:=(sq (sq (xo r119_21) (.cond (.t 110) .skip (.exit 6))) (sq (.block 7 (xO r119_23)) (xo r119_22)))
abbrev r119_24:LO:=[xm 129 1,xm 130 3,xb 131 .add 129 130,⟨some 132,.conv .u64 (.t 131),none⟩,xc 133 .shr 132 (.int .u64 1),⟨some 134,.conv .i64 (.t 133),none⟩,xm 18 134]
abbrev r119_25:LO:=[xm 135 18,xm 136 2,xb 137 .add 135 136,xm 19 137]
abbrev r119_26:LO:=[xk 20 (zi 0),xk 21 (zi 0)]
abbrev r119_27:LO:=[xm 138 2,xm 139 18,xb 140 .gtr 138 139]
abbrev r119_28:LO:=[xm 141 19,xm 142 3,xb 143 .sub 141 142,xm 20 143]
abbrev r119_29:LO:=[xm 144 18,xm 21 144]
abbrev r119_30:LO:=[xm 145 1,xm 20 145]
abbrev r119_31:LO:=[xm 146 2,xm 21 146]
abbrev r119_32:LO:=[xm 147 19,xc 148 .sub 147 (zi 1),xm 22 148]
abbrev r119_33:LO:=[xm 149 20,xm 150 21,xb 151 .lss 149 150]
abbrev r119_34:LO:=[xm 152 20,xm 153 21,xb 154 .add 152 153,⟨some 155,.conv .u64 (.t 154),none⟩,xc 156 .shr 155 (.int .u64 1),⟨some 157,.conv .i64 (.t 156),none⟩,xm 23 157]
abbrev r119_35:LO:=[xm 158 4,xm 159 0,xm 160 22,xm 161 23,xb 162 .sub 160 161,xi 163 11 159 162,xR 164 11 163,xm 165 0,xm 166 23,xi 167 11 165 166,xR 168 11 167,⟨some 169,.callv (.t 158) [(.t 164),(.t 168)],none⟩,xc 170 .lss 169 (zi 0),xu 171 170]
abbrev r119_36:LO:=[xm 172 23,xc 173 .add 172 (zi 1),xm 20 173]
abbrev r119_37:LO:=[xm 174 23,xm 21 174]
def b119_4:PC:=(sq (sq (xo r119_33) (.cond (.t 151) .skip (.exit 8))) (.block 9 (sq (xo r119_34) (sq (xO r119_35) (.cond (.t 171) (xo r119_36) (xo r119_37))))))
abbrev r119_38:LO:=[xm 175 19,xm 176 20,xb 177 .sub 175 176,xm 24 177]
abbrev r119_39:LO:=[xm 178 20,xm 179 2,xb 180 .lss 178 179,xm 181 180,xg (xm 182 2) 181,xg (xm 183 24) 181,xg (xb 184 .lss 182 183) 181,xp 185 181 184]
abbrev r119_40:LO:=[xm 186 0,xm 187 20,xm 188 2,xm 189 24,xm 190 4,⟨some 191,.call true 149 [(.t 186),(.t 187),(.t 188),(.t 189),(.t 190)],none⟩]
abbrev r119_41:LO:=[xm 192 1,xm 193 20,xb 194 .lss 192 193,xm 195 194,xg (xm 196 20) 195,xg (xm 197 18) 195,xg (xb 198 .lss 196 197) 195,xp 199 195 198]
abbrev r119_42:LO:=[xm 200 0,xm 201 1,xm 202 20,xm 203 18,xm 204 4,⟨some 205,.call true 119 [(.t 200),(.t 201),(.t 202),(.t 203),(.t 204)],none⟩]
abbrev r119_43:LO:=[xm 206 18,xm 207 24,xb 208 .lss 206 207,xm 209 208,xg (xm 210 24) 209,xg (xm 211 3) 209,xg (xb 212 .lss 210 211) 209,xp 213 209 212]
abbrev r119_44:LO:=[xm 214 0,xm 215 18,xm 216 24,xm 217 3,xm 218 4,⟨some 219,.call true 119 [(.t 214),(.t 215),(.t 216),(.t 217),(.t 218)],none⟩]
def p119:PC:=(sq (sq (xo r119_0) (.cond (.t 28) (sq (xo r119_1) (sq (xo r119_2) (sq (.block 0 (.loop b119_0)) (sq (sq (xo r119_8) (.block 2 (.loop b119_1))) .ret)))) .skip)) (sq (sq (xo r119_12) (.cond (.t 80) (sq (xo r119_13) (sq (xo r119_14) (sq (.block 4 (.loop b119_2)) (sq (sq (xo r119_20) (.block 6 (.loop b119_3))) .ret)))) .skip)) (sq (xo r119_24) (sq (xo r119_25) (sq (xo r119_26) (sq (sq (xo r119_27) (.cond (.t 140) (sq (xo r119_28) (xo r119_29)) (sq (xo r119_30) (xo r119_31)))) (sq (xo r119_32) (sq (.block 8 (.loop b119_4)) (sq (xo r119_38) (sq (sq (xo r119_39) (.cond (.t 185) (xo r119_40) .skip)) (sq (sq (xo r119_41) (.cond (.t 199) (xo r119_42) .skip)) (sq (xo r119_43) (.cond (.t 213) (xo r119_44) .skip)))))))))))))
def rs119:LR:=[]
theorem c119:chkF Tryz.prog Tryz.f119 5 p119 rs119=true:=by kernel_rfl
/- cmp.isNaN[int64] -/
abbrev r120_0:LO:=[xk 2 (.bool false)]
abbrev r120_1:LO:=[xm 3 0,xm 4 0,xb 5 .neq 3 4,xm 2 5]
def p120:PC:=(sq (xo r120_0) (sq (xo r120_1) .ret))
def rs120:LR:=[.t 2]
theorem c120:chkF Tryz.prog Tryz.f120 1 p120 rs120=true:=by kernel_rfl
/- cuboid/calc.sign -/
abbrev r121_0:LO:=[xk 4 (zi 0)]
abbrev r121_1:LO:=[xm 5 0,⟨some 6,.call false 80 [(.t 5),(.k (zi 0))],none⟩,xm 7 1,⟨some 8,.call false 80 [(.t 7),(.k (zi 0))],none⟩,xb 9 .mul 6 8,xm 4 9]
def p121:PC:=(sq (xo r121_0) (sq (xo r121_1) .ret))
def rs121:LR:=[.t 4]
theorem c121:chkF Tryz.prog Tryz.f121 2 p121 rs121=true:=by kernel_rfl
/- cmp.Compare[int] -/
abbrev r122_0:LO:=[xk 4 (zi 0)]
abbrev r122_1:LO:=[xm 7 0,xC1 8 150 7,xm 5 8]
abbrev r122_2:LO:=[xm 9 1,xC1 10 150 9,xm 6 10]
abbrev r122_3:LO:=[xm 11 5]
abbrev r122_4:LO:=[xm 12 6]
abbrev r122_5:LO:=[xk 4 (zi 0)]
abbrev r122_6:LO:=[xk 4 (zi (-1))]
abbrev r122_7:LO:=[xm 13 6]
abbrev r122_8:LO:=[xk 4 (zi 1)]
abbrev r122_9:LO:=[xm 14 0,xm 15 1,xb 16 .lss 14 15]
abbrev r122_10:LO:=[xk 4 (zi (-1))]
abbrev r122_11:LO:=[xm 17 0,xm 18 1,xb 19 .gtr 17 18]
abbrev r122_12:LO:=[xk 4 (zi 1)]
abbrev r122_13:LO:=[xk 4 (zi 0)]
def p122:PC:=(sq (xo r122_0) (sq (xo r122_1) (sq (xo r122_2) (sq (sq (xo r122_3) (.cond (.t 11) (sq (sq (xo r122_4) (.cond (.t 12) (sq (xo r122_5) .ret) .skip)) (sq (xo r122_6) .ret)) .skip)) (sq (sq (xo r122_7) (.cond (.t 13) (sq (xo r122_8) .ret) .skip)) (sq (sq (xo r122_9) (.cond (.t 16) (sq (xo r122_10) .ret) .skip)) (sq (sq (xo r122_11) (.cond (.t 19) (sq (xo r122_12) .ret) .skip)) (sq (xo r122_13) .ret))))))))
def rs122:LR:=[.t 4]
theorem c122:chkF Tryz.prog Tryz.f122 2 p122 rs122=true:=by kernel_rfl
/- math/bits.Mul64 -/
abbrev r123_0:LO:=[xk 4 (.int .u64 0),xk 5 (.int .u64 0)]
abbrev r123_1:LO:=[xm 14 0,xc 15 .and 14 (.int .u64 4294967295),xm 6 15]
abbrev r123_2:LO:=[xm 16 0,xc 17 .shr 16 (.int .u64 32),xm 7 17]
abbrev r123_3:LO:=[xm 18 1,xc 19 .and 18 (.int .u64 4294967295),xm 8 19]
abbrev r123_4:LO:=[xm 20 1,xc 21 .shr 20 (.int .u64 32),xm 9 21]
abbrev r123_5:LO:=[xm 22 6,xm 23 8,xb 24 .mul 22 23,xm 10 24]
abbrev r123_6:LO:=[xm 25 7,xm 26 8,xb 27 .mul 25 26,xm 28 10,xc 29 .shr 28 (.int .u64 32),xb 30 .add 27 29,xm 11 30]
abbrev r123_7:LO:=[xm 31 11,xc 32 .and 31 (.int .u64 4294967295),xm 12 32]
abbrev r123_8:LO:=[xm 33 11,xc 34 .shr 33 (.int .u64 32),xm 13 34]
abbrev r123_9:LO:=[xm 35 12,xm 36 6,xm 37 9,xb 38 .mul 36 37,xb 39 .add 35 38,xm 12 39]
abbrev r123_10:LO:=[xm 40 7,xm 41 9,xb 42 .mul 40 41,xm 43 13,xb 44 .add 42 43,xm 45 12,xc 46 .shr 45 (.int .u64 32),xb 47 .add 44 46,xm 4 47]
abbrev r123_11:LO:=[xm 48 0,xm 49 1,xb 50 .mul 48 49,xm 5 50]
def p123:PC:=(sq (xo r123_0) (sq (xo r123_1) (sq (xo r123_2) (sq (xo r123_3) (sq (xo r123_4) (sq (xo r123_5) (sq (xo r123_6) (sq (xo r123_7) (sq (xo r123_8) (sq (xo r123_9) (sq (xo r123_10) (sq (xo r123_11) .ret))))))))))))
def rs123:LR:=[.t 4,.t 5]
theorem c123:chkF Tryz.prog Tryz.f123 2 p123 rs123=true:=by kernel_rfl
/- cuboid/calc.Size -/
abbrev r124_0:LO:=[xk 2 (.int .u64 0)]
abbrev r124_1:LO:=[xm 3 0,xc 4 .lss 3 (zi 0)]
abbrev r124_2:LO:=[xm 5 0,⟨some 6,.conv .u64 (.t 5),none⟩,⟨some 7,.un .neg (.t 6),none⟩,xm 2 7]
abbrev r124_3:LO:=[xm 8 0,⟨some 9,.conv .u64 (.t 8),none⟩,xm 2 9]
def p124:PC:=(sq (xo r124_0) (sq (sq (xo r124_1) (.cond (.t 4) (sq (xo r124_2) .ret) .skip)) (sq (xo r124_3) .ret)))
def rs124:LR:=[.t 2]
theorem c124:chkF Tryz.prog Tryz.f124 1 p124 rs124=true:=by kernel_rfl
/- cmp.Compare[uint64] -/
abbrev r125_0:LO:=[xk 4 (zi 0)]
abbrev r125_1:LO:=[xm 7 0,xC1 8 151 7,xm 5 8]
abbrev r125_2:LO:=[xm 9 1,xC1 10 151 9,xm 6 10]
abbrev r125_3:LO:=[xm 11 5]
abbrev r125_4:LO:=[xm 12 6]
abbrev r125_5:LO:=[xk 4 (zi 0)]
abbrev r125_6:LO:=[xk 4 (zi (-1))]
abbrev r125_7:LO:=[xm 13 6]
abbrev r125_8:LO:=[xk 4 (zi 1)]
abbrev r125_9:LO:=[xm 14 0,xm 15 1,xb 16 .lss 14 15]
abbrev r125_10:LO:=[xk 4 (zi (-1))]
abbrev r125_11:LO:=[xm 17 0,xm 18 1,xb 19 .gtr 17 18]
abbrev r125_12:LO:=[xk 4 (zi 1)]
abbrev r125_13:LO:=[xk 4 (zi 0)]
def p125:PC:=(sq (xo r125_0) (sq (xo r125_1) (sq (xo r125_2) (sq (sq (xo r125_3) (.cond (.t 11) (sq (sq (xo r125_4) (.cond (.t 12) (sq (xo r125_5) .ret) .skip)) (sq (xo r125_6) .ret)) .skip)) (sq (sq (xo r125_7) (.cond (.t 13) (sq (xo r125_8) .ret) .skip)) (sq (sq (xo r125_9) (.cond (.t 16) (sq (xo r125_10) .ret) .skip)) (sq (sq (xo r125_11) (.cond (.t 19) (sq (xo r125_12) .ret) .skip)) (sq (xo r125_13) .ret))))))))
def rs125:LR:=[.t 4]
theorem c125:chkF Tryz.prog Tryz.f125 2 p125 rs125=true:=by kernel_rfl
/- cmp.isNaN[uint32] -/
abbrev r126_0:LO:=[xk 2 (.bool false)]
abbrev r126_1:LO:=[xm 3 0,xm 4 0,xb 5 .neq 3 4,xm 2 5]
def p126:PC:=(sq (xo r126_0) (sq (xo r126_1) .ret))
def rs126:LR:=[.t 2]
theorem c126:chkF Tryz.prog Tryz.f126 1 p126 rs126=true:=by kernel_rfl
/- cuboid/hier.Lift -/
abbrev r127_0:LO:=[xx 4 2 0,xk 8 (zi 0),xk 9 (.bool false)]
abbrev r127_1:LO:=[xm 10 1,xm 11 2,xb 12 .gtr 10 11,xm 13 12,xh (xR 14 2 4) 13,xh (xm 15 2) 13,xh (xC2 16 100 14 15) 13,xh (xc 17 .eql 16 (zi 0)) 13,xq 18 13 17,xm 19 18,xh (xm 20 3) 19,xh (xR 21 2 4) 19,xh (xm 22 1) 19,xh (xC2 23 100 21 22) 19,xh (xc 24 .sub 23 (zi 1)) 19,⟨some 25,.call false 139 [(.t 20),(.k (zi 0)),(.t 24)],(some (19,false))⟩,xh (xu 26 25) 19,xq 27 19 26]
abbrev r127_2:LO:=[xk 8 (zi 0),xk 9 (.bool false)]
abbrev r127_3:LO:=[xR 28 2 4,xm 29 1,xm 30 2,xm 31 3,xC4 32 152 28 29 30 31,xm 8 32,xk 9 (.bool true)]
def p127:PC:=(sq (xo r127_0) (sq (sq (xo r127_1) (.cond (.t 27) (sq (xo r127_2) .ret) .skip)) (sq (xo r127_3) .ret)))
def rs127:LR:=[.t 8,.t 9]
theorem c127:chkF Tryz.prog Tryz.f127 4 p127 rs127=true:=by kernel_rfl
/- slices.Clone[[]cuboid/api.Run,cuboid/api.Run] -/
abbrev r128_0:LO:=[xk 2 (.sl [])]
abbrev r128_1:LO:=[xm 3 0]
abbrev r128_2:LO:=[xk 2 (.sl [])]
abbrev r128_3:LO:=[⟨some 5,.bsl 2 0 [zi 0,zi 0] [] true,none⟩,xm 6 0,⟨some 7,.app 2 (.t 5) (.t 6) false,none⟩,xm 2 7]
def p128:PC:=(sq (xo r128_0) (sq (sq (.opsN r128_1 (.t 3) 4) (.cond (.t 4) (sq (xo r128_2) .ret) .skip)) (sq (xo r128_3) .ret)))
def rs128:LR:=[.t 2]
theorem c128:chkF Tryz.prog Tryz.f128 1 p128 rs128=true:=by kernel_rfl
/- cuboid/bag.Join -/
abbrev r129_0:LO:=[xx 2 1 0,xx 3 1 1,xk 4 (.sl []),xk 5 (.bool false)]
abbrev r129_1:LO:=[xl 8 1 2,xC1 9 140 8,xu 10 9,xm 11 10,xh (xl 12 1 3) 11,xh (xC1 13 140 12) 11,xh (xu 14 13) 11,xq 15 11 14,xm 16 15,xh (xl 17 1 2) 16,xh (xC1 18 143 17) 16,xh (xl 19 1 3) 16,xh (xC1 20 143 19) 16,⟨some 21,.bin .sub (.k (zi 1099511627776)) (.t 20),(some (16,false))⟩,xh (xb 22 .gtr 18 21) 16,xq 23 16 22]
abbrev r129_2:LO:=[xk 4 (.sl []),xk 5 (.bool false)]
abbrev r129_3:LO:=[⟨some 6,.own0 2,none⟩]
abbrev r129_4:LO:=[xl 24 1 2,xn 25 24,xc 26 .gtr 25 (zi 0),xm 27 26,xh (xl 28 1 3) 27,xh (xn 29 28) 27,xh (xc 30 .gtr 29 (zi 0)) 27,xq 31 27 30]
abbrev r129_5:LO:=[xm 7 2]
abbrev r129_6:LO:=[xl 32 1 2,xn 33 32,xc 34 .eql 33 (zi 0),xm 35 34,xh (xl 36 1 3) 35,xh (xn 37 36) 35,xh (xc 38 .gtr 37 (zi 0)) 35,xh (xm 39 38) 35,xg (xl 40 1 3) 39,⟨some 41,.iaS 2 (.t 40) (.k (zi 0)),(some (39,true))⟩,xg (xf 42 0 41) 39,xg (xl 43 1 42) 39,xg (xl 44 1 2) 39,⟨some 45,.iaS 2 (.t 44) (.k (zi 0)),(some (39,true))⟩,xg (xf 46 0 45) 39,xg (xl 47 1 46) 39,xg (xb 48 .lss 43 47) 39,xh (xp 49 39 48) 35,xq 50 35 49]
abbrev r129_7:LO:=[xm 7 3]
abbrev r129_8:LO:=[xm 51 6,xm 52 7,⟨some 53,.nilc (.t 52),none⟩,xl 54 1 53,⟨some 55,.iaS 2 (.t 54) (.k (zi 0)),none⟩,xf 56 0 55,xl 57 1 56,xm 58 7,⟨some 59,.nilc (.t 58),none⟩,xl 60 1 59,⟨some 61,.iaS 2 (.t 60) (.k (zi 0)),none⟩,xf 62 1 61,xl 63 1 62,⟨some 64,.call true 153 [(.t 51),(.t 57),(.t 63)],none⟩,xm 6 64]
abbrev r129_9:LO:=[xm 65 7,xm 66 7,⟨some 67,.nilc (.t 66),none⟩,xl 68 1 67,⟨some 69,.slc 2 (.t 68) (some (.k (zi 1))) none,none⟩,⟨some 70,.nilc (.t 65),none⟩,xs 1 70 69]
def b129_0:PC:=(sq (sq (xo r129_4) (.cond (.t 31) .skip (.exit 0))) (.block 1 (sq (xo r129_5) (sq (sq (xO r129_6) (.cond (.t 50) (xo r129_7) .skip)) (sq (xO r129_8) (.rn 6 6 (xo r129_9)))))))
abbrev r129_10:LO:=[xm 71 6,xm 4 71,xk 5 (.bool true)]
def p129:PC:=(sq (xo r129_0) (sq (sq (xO r129_1) (.cond (.t 23) (sq (xo r129_2) .ret) .skip)) (sq (xo r129_3) (sq (.block 0 (.loop b129_0)) (sq (xo r129_10) .ret)))))
def rs129:LR:=[.t 4,.t 5]
theorem c129:chkF Tryz.prog Tryz.f129 2 p129 rs129=true:=by kernel_rfl
/- cuboid/calc.Add -/
abbrev r130_0:LO:=[xk 4 (zi 0),xk 5 (.bool false)]
abbrev r130_1:LO:=[xm 6 0,xm 7 1,⟨some 8,.bsl 1 2 [zi 0] [(0,(.t 6)),(1,(.t 7))] false,none⟩,xC1 9 154 8,xe 10 9 0,xe 11 9 1,xm 4 10,xm 5 11]
def p130:PC:=(sq (xo r130_0) (sq (xo r130_1) .ret))
def rs130:LR:=[.t 4,.t 5]
theorem c130:chkF Tryz.prog Tryz.f130 2 p130 rs130=true:=by kernel_rfl
/- slices.IndexFunc[[]cuboid/api.Fix,cuboid/api.Fix] -/
abbrev r134_0:LO:=[xk 4 (zi 0)]
abbrev r134_1:LO:=[xm 6 0,xn 7 6,xk 8 (zi 0)]
abbrev r134_2:LO:=[xb 9 .lss 8 7]
abbrev r134_3:LO:=[xm 10 8,xm 5 10]
abbrev r134_4:LO:=[xm 11 1,xm 12 0,xm 13 5,xi 14 3 12 13,xR 15 3 14,⟨some 16,.callv (.t 11) [(.t 15)],none⟩]
abbrev r134_5:LO:=[xm 17 5,xm 4 17]
abbrev r134_6:LO:=[xc 18 .add 8 (zi 1),xm 8 18]
def b134_0:PC:=(sq (xo r134_2) (sq (.cond (.t 9) .skip (.exit 0)) (sq (.block 1 (sq (xo r134_3) (sq (xo r134_4) (.cond (.t 16) (sq (xo r134_5) .ret) .skip)))) (xo r134_6))))
abbrev r134_7:LO:=[xk 4 (zi (-1))]
def p134:PC:=(sq (xo r134_0) (sq (sq (xo r134_1) (.block 0 (.loop b134_0))) (sq (xo r134_7) .ret)))
def rs134:LR:=[.t 4]
theorem c134:chkF Tryz.prog Tryz.f134 2 p134 rs134=true:=by kernel_rfl
/- slices.Contains[[]int,int] -/
abbrev r135_0:LO:=[xk 4 (.bool false)]
abbrev r135_1:LO:=[xm 5 0,xm 6 1,xC2 7 158 5 6,xc 8 .geq 7 (zi 0),xm 4 8]
def p135:PC:=(sq (xo r135_0) (sq (xo r135_1) .ret))
def rs135:LR:=[.t 4]
theorem c135:chkF Tryz.prog Tryz.f135 2 p135 rs135=true:=by kernel_rfl
/- cuboid/bag.end -/
abbrev r136_0:LO:=[xk 4 (zi 0),xk 5 (.bool false)]
abbrev r136_1:LO:=[xm 6 0,xC1 7 140 6,xu 8 7,xm 9 8,xh (xm 10 0) 9,xh (xn 11 10) 9,xh (xc 12 .eql 11 (zi 0)) 9,xq 13 9 12]
abbrev r136_2:LO:=[xk 4 (zi 0),xk 5 (.bool false)]
abbrev r136_3:LO:=[xm 14 1]
abbrev r136_4:LO:=[xm 15 0,xm 16 0,xn 17 16,xc 18 .sub 17 (zi 1),xi 19 2 15 18,xf 20 0 19,xl 21 1 20,xm 4 21,xk 5 (.bool true)]
abbrev r136_5:LO:=[xm 22 0,⟨some 23,.iaS 2 (.t 22) (.k (zi 0)),none⟩,xf 24 0 23,xl 25 1 24,xm 4 25,xk 5 (.bool true)]
def p136:PC:=(sq (xo r136_0) (sq (sq (xo r136_1) (.cond (.t 13) (sq (xo r136_2) .ret) .skip)) (sq (sq (xo r136_3) (.cond (.t 14) (sq (xo r136_4) .ret) .skip)) (sq (xo r136_5) .ret))))
def rs136:LR:=[.t 4,.t 5]
theorem c136:chkF Tryz.prog Tryz.f136 2 p136 rs136=true:=by kernel_rfl
/- cuboid/schema.between -/
abbrev r137_0:LO:=[xk 6 (.bool false)]
abbrev r137_1:LO:=[xm 7 0,xm 8 1,xb 9 .geq 7 8,xm 10 9,xg (xm 11 0) 10,xg (xm 12 2) 10,xg (xb 13 .leq 11 12) 10,xp 14 10 13,xm 6 14]
def p137:PC:=(sq (xo r137_0) (sq (xo r137_1) .ret))
def rs137:LR:=[.t 6]
theorem c137:chkF Tryz.prog Tryz.f137 3 p137 rs137=true:=by kernel_rfl
/- cuboid/hier.Good -/
abbrev r138_0:LO:=[xx 1 2 0,xk 2 (.bool false)]
abbrev r138_1:LO:=[xf 6 0 1,xl 7 1 6,xn 8 7,⟨some 9,.call false 139 [(.t 8),(.k (zi 1)),(.k (zi 4))],none⟩,xu 10 9,xm 11 10,xh (xf 12 1 1) 11,xh (xl 13 1 12) 11,xh (xn 14 13) 11,xh (xf 15 0 1) 11,xh (xl 16 1 15) 11,xh (xn 17 16) 11,xh (xc 18 .sub 17 (zi 1)) 11,xh (xb 19 .neq 14 18) 11,xq 20 11 19]
abbrev r138_2:LO:=[xk 2 (.bool false)]
abbrev r138_3:LO:=[xf 21 0 1,xl 22 1 21,xn 23 22,xk 24 (zi 0)]
abbrev r138_4:LO:=[xb 25 .lss 24 23]
abbrev r138_5:LO:=[xi 26 1 22 24,xl 27 1 26,xm 4 27]
abbrev r138_6:LO:=[xm 28 4,⟨some 29,.call false 139 [(.t 28),(.k (zi 1)),(.k (zi 40))],none⟩,xu 30 29]
abbrev r138_7:LO:=[xk 2 (.bool false)]
abbrev r138_8:LO:=[xc 31 .add 24 (zi 1),xm 24 31]
def b138_0:PC:=(sq (xo r138_4) (sq (.cond (.t 25) .skip (.exit 0)) (sq (.block 1 (sq (xo r138_5) (sq (xo r138_6) (.cond (.t 30) (sq (xo r138_7) .ret) .skip)))) (xo r138_8))))
abbrev r138_9:LO:=[xf 32 1 1,xl 33 1 32,xn 34 33,xk 35 (zi 0)]
abbrev r138_10:LO:=[xb 36 .lss 35 34]
abbrev r138_11:LO:=[xm 37 35,xm 5 37]
abbrev r138_12:LO:=[xf 38 1 1,xl 39 1 38,xm 40 5,xi 41 1 39 40,xl 42 1 41,xf 43 0 1,xl 44 1 43,xm 45 5,xi 46 1 44 45,xl 47 1 46,xf 48 0 1,xl 49 1 48,xm 50 5,xc 51 .add 50 (zi 1),xi 52 1 49 51,xl 53 1 52,xC3 54 159 42 47 53,xu 55 54]
abbrev r138_13:LO:=[xk 2 (.bool false)]
abbrev r138_14:LO:=[xc 56 .add 35 (zi 1),xm 35 56]
def b138_1:PC:=(sq (xo r138_10) (sq (.cond (.t 36) .skip (.exit 2)) (sq (.block 3 (sq (xo r138_11) (sq (xO r138_12) (.cond (.t 55) (sq (xo r138_13) .ret) .skip)))) (xo r138_14))))
abbrev r138_15:LO:=[xk 2 (.bool true)]
def p138:PC:=(sq (xo r138_0) (sq (sq (xo r138_1) (.cond (.t 20) (sq (xo r138_2) .ret) .skip)) (sq (sq (xo r138_3) (.block 0 (.loop b138_0))) (sq (sq (xo r138_9) (.block 2 (.loop b138_1))) (sq (xo r138_15) .ret)))))
def rs138:LR:=[.t 2]
theorem c138:chkF Tryz.prog Tryz.f138 1 p138 rs138=true:=by kernel_rfl
/- cuboid/hier.between -/
abbrev r139_0:LO:=[xk 6 (.bool false)]
abbrev r139_1:LO:=[xm 7 0,xm 8 1,xb 9 .geq 7 8,xm 10 9,xg (xm 11 0) 10,xg (xm 12 2) 10,xg (xb 13 .leq 11 12) 10,xp 14 10 13,xm 6 14]
def p139:PC:=(sq (xo r139_0) (sq (xo r139_1) .ret))
def rs139:LR:=[.t 6]
theorem c139:chkF Tryz.prog Tryz.f139 3 p139 rs139=true:=by kernel_rfl
/- cuboid/bag.Good -/
abbrev r140_0:LO:=[xk 2 (.bool false)]
abbrev r140_1:LO:=[xk 3 (zi 0)]
abbrev r140_2:LO:=[xm 6 0,xn 7 6,xk 8 (zi 0)]
abbrev r140_3:LO:=[xb 9 .lss 8 7]
abbrev r140_4:LO:=[xm 10 8,xi 11 2 6 8,xR 12 2 11,⟨some 5,.alloc [zi 0,zi 0],none⟩,xm 4 10,xs 2 5 12]
abbrev r140_5:LO:=[xm 13 4,xc 14 .gtr 13 (zi 0),xm 15 14,xg (xm 16 0) 15,xg (xm 17 4) 15,xg (xc 18 .sub 17 (zi 1)) 15,xg (xi 19 2 16 18) 15,xg (xf 20 0 19) 15,xg (xl 21 1 20) 15,xg (xf 22 0 5) 15,xg (xl 23 1 22) 15,xg (xb 24 .geq 21 23) 15,xp 25 15 24,xm 26 25,xh (xf 27 1 5) 26,xh (xl 28 1 27) 26,xh (xc 29 .lss 28 (zi 1)) 26,xq 30 26 29,xm 31 30,xh (xf 32 1 5) 31,xh (xl 33 1 32) 31,xh (xm 34 3) 31,⟨some 35,.bin .sub (.k (zi 1099511627776)) (.t 34),(some (31,false))⟩,xh (xb 36 .gtr 33 35) 31,xq 37 31 36]
abbrev r140_6:LO:=[xk 2 (.bool false)]
abbrev r140_7:LO:=[xm 38 3,xf 39 1 5,xl 40 1 39,xb 41 .add 38 40,xm 3 41]
abbrev r140_8:LO:=[xc 42 .add 8 (zi 1),xm 8 42]
def b140_0:PC:=(sq (xo r140_3) (sq (.cond (.t 9) .skip (.exit 0)) (sq (.block 1 (sq (xo r140_4) (sq (sq (xO r140_5) (.cond (.t 37) (sq (xo r140_6) .ret) .skip)) (xo r140_7)))) (xo r140_8))))
abbrev r140_9:LO:=[xk 2 (.bool true)]
def p140:PC:=(sq (xo r140_0) (sq (xo r140_1) (sq (sq (xo r140_2) (.block 0 (.loop b140_0))) (sq (xo r140_9) .ret))))
def rs140:LR:=[.t 2]
theorem c140:chkF Tryz.prog Tryz.f140 1 p140 rs140=true:=by kernel_rfl
/- cuboid/bag.Part -/
abbrev r141_0:LO:=[⟨some 4,.alloc [zi 0,.int .u64 0],none⟩]
abbrev r141_1:LO:=[⟨some 5,.alloc [zi 0,.int .u64 0],none⟩]
abbrev r141_2:LO:=[xm 10 0,xn 11 10,xk 12 (zi 0)]
abbrev r141_3:LO:=[xb 13 .lss 12 11]
abbrev r141_4:LO:=[xi 14 2 10 12,xR 15 2 14,⟨some 7,.alloc [zi 0,zi 0],none⟩,xs 2 7 15]
abbrev r141_5:LO:=[xR 16 2 5,xf 17 0 7,xl 18 1 17,xf 19 1 7,xl 20 1 19,xC3 21 160 16 18 20,xs 2 5 21]
abbrev r141_6:LO:=[xc 22 .add 12 (zi 1),xm 12 22]
def b141_0:PC:=(sq (xo r141_3) (sq (.cond (.t 13) .skip (.exit 0)) (sq (.block 1 (sq (xo r141_4) (xo r141_5))) (xo r141_6))))
abbrev r141_7:LO:=[xm 23 1,xn 24 23,xk 25 (zi 0)]
abbrev r141_8:LO:=[xb 26 .lss 25 24]
abbrev r141_9:LO:=[xi 27 2 23 25,xR 28 2 27,⟨some 9,.alloc [zi 0,zi 0],none⟩,xs 2 9 28]
abbrev r141_10:LO:=[xR 29 2 5,xf 30 0 9,xl 31 1 30,xf 32 1 9,xl 33 1 32,⟨some 34,.un .neg (.t 33),none⟩,xC3 35 160 29 31 34,xs 2 5 35]
abbrev r141_11:LO:=[xc 36 .add 25 (zi 1),xm 25 36]
def b141_1:PC:=(sq (xo r141_8) (sq (.cond (.t 26) .skip (.exit 2)) (sq (.block 3 (sq (xo r141_9) (xo r141_10))) (xo r141_11))))
abbrev r141_12:LO:=[xR 37 2 5,xs 2 4 37]
def p141:PC:=(sq (xo r141_0) (sq (xo r141_1) (sq (sq (xo r141_2) (.block 0 (.loop b141_0))) (sq (sq (xo r141_7) (.block 2 (.loop b141_1))) (sq (xo r141_12) .ret)))))
def rs141:LR:=[.cell 4 true 2]
theorem c141:chkF Tryz.prog Tryz.f141 2 p141 rs141=true:=by kernel_rfl
/- (cuboid/calc.Wide).Int -/
abbrev r142_0:LO:=[xx 1 2 0,xk 2 (zi 0),xk 3 (.bool false)]
abbrev r142_1:LO:=[xf 5 1 1,xl 6 1 5,⟨some 7,.conv .i64 (.t 6),none⟩,xm 4 7]
abbrev r142_2:LO:=[xf 8 0 1,xl 9 1 8,xm 10 4,xc 11 .shr 10 (.int .u64 63),xb 12 .neq 9 11]
abbrev r142_3:LO:=[xk 2 (zi 0),xk 3 (.bool false)]
abbrev r142_4:LO:=[xm 13 4,xm 2 13,xk 3 (.bool true)]
def p142:PC:=(sq (xo r142_0) (sq (xo r142_1) (sq (sq (xo r142_2) (.cond (.t 12) (sq (xo r142_3) .ret) .skip)) (sq (xo r142_4) .ret))))
def rs142:LR:=[.t 2,.t 3]
theorem c142:chkF Tryz.prog Tryz.f142 1 p142 rs142=true:=by kernel_rfl
/- cuboid/bag.count -/
abbrev r143_0:LO:=[xk 2 (zi 0)]
abbrev r143_1:LO:=[xk 3 (zi 0)]
abbrev r143_2:LO:=[xm 6 0,xn 7 6,xk 8 (zi 0)]
abbrev r143_3:LO:=[xb 9 .lss 8 7]
abbrev r143_4:LO:=[xi 10 2 6 8,xR 11 2 10,⟨some 5,.alloc [zi 0,zi 0],none⟩,xs 2 5 11]
abbrev r143_5:LO:=[xm 12 3,xf 13 1 5,xl 14 1 13,xb 15 .add 12 14,xm 3 15]
abbrev r143_6:LO:=[xc 16 .add 8 (zi 1),xm 8 16]
def b143_0:PC:=(sq (xo r143_3) (sq (.cond (.t 9) .skip (.exit 0)) (sq (.block 1 (sq (xo r143_4) (xo r143_5))) (xo r143_6))))
abbrev r143_7:LO:=[xm 17 3,xm 2 17]
def p143:PC:=(sq (xo r143_0) (sq (xo r143_1) (sq (sq (xo r143_2) (.block 0 (.loop b143_0))) (sq (xo r143_7) .ret))))
def rs143:LR:=[.t 2]
theorem c143:chkF Tryz.prog Tryz.f143 1 p143 rs143=true:=by kernel_rfl
/- slices.Clone[[]int,int] -/
/- cuboid/cuboidref01.Back -/
abbrev r146_0:LO:=[xx 1 3 0,xk 2 (zi 0),xk 3 (.bool false)]
abbrev r146_1:LO:=[xf 5 1 1,xl 6 1 5,xc 7 .neq 6 (.int .u64 0),xm 8 7,xh (xf 9 2 1) 8,xh (xl 10 1 9) 8,xh (xc 11 .gtr 10 (.int .u64 9223372036854775808)) 8,xq 12 8 11,xm 13 12,xh (xf 14 2 1) 13,xh (xl 15 1 14) 13,xh (xc 16 .eql 15 (.int .u64 9223372036854775808)) 13,xh (xm 17 16) 13,xg (xf 18 0 1) 17,xg (xl 19 1 18) 17,xg (xu 20 19) 17,xh (xp 21 17 20) 13,xq 22 13 21,xm 4 22]
abbrev r146_2:LO:=[xk 2 (zi 0),xk 3 (.bool false)]
abbrev r146_3:LO:=[xf 24 2 1,xl 25 1 24,xc 26 .eql 25 (.int .u64 9223372036854775808),xm 23 26]
abbrev r146_4:LO:=[xk 2 (zi (-9223372036854775808)),xk 3 (.bool true)]
abbrev r146_5:LO:=[xf 28 0 1,xl 29 1 28,xm 27 29]
abbrev r146_6:LO:=[xf 30 2 1,xl 31 1 30,⟨some 32,.conv .i64 (.t 31),none⟩,⟨some 33,.un .neg (.t 32),none⟩,xm 2 33,xk 3 (.bool true)]
abbrev r146_7:LO:=[xf 34 2 1,xl 35 1 34,⟨some 36,.conv .i64 (.t 35),none⟩,xm 2 36,xk 3 (.bool true)]
def p146:PC:=(sq (xo r146_0) (sq (.block 0 (sq (xo r146_1) (.cond (.t 4) (sq (xo r146_2) .ret) (sq (xo r146_3) (.cond (.t 23) (sq (xo r146_4) .ret) (sq (xo r146_5) (.cond (.t 27) (sq (xo r146_6) .ret) .skip))))))) (sq (xo r146_7) .ret)))
def rs146:LR:=[.t 2,.t 3]
theorem c146:chkF Tryz.prog Tryz.f146 1 p146 rs146=true:=by kernel_rfl
/- cuboid/cuboidref08.Join -/
abbrev r147_0:LO:=[⟨some 4,.alloc [.sl [],.bool false],none⟩]
abbrev r147_1:LO:=[xm 7 0,xC1 8 114 7,xu 9 8,xm 10 9,xh (xm 11 1) 10,xh (xC1 12 114 11) 10,xh (xu 13 12) 10,xq 14 10 13,xm 15 14,xh (xm 16 0) 15,xh (xC1 17 115 16) 15,xh (xm 18 1) 15,xh (xC1 19 115 18) 15,xh (xb 20 .add 17 19) 15,xh (xc 21 .gtr 20 (zi 1099511627776)) 15,xq 22 15 21]
abbrev r147_2:LO:=[⟨some 23,.build [.sl [],.bool false] [],none⟩,xs 2 4 23]
abbrev r147_3:LO:=[xm 24 0,xm 5 24]
abbrev r147_4:LO:=[xk 6 (zi 0)]
abbrev r147_5:LO:=[xm 25 6,xm 26 1,xn 27 26,xb 28 .lss 25 27]
abbrev r147_7:LO:=[xm 31 5,xm 32 1,xm 33 6,xi 34 2 32 33,xf 35 0 34,xl 36 1 35,xm 37 1,xm 38 6,xi 39 2 37 38,xf 40 1 39,xl 41 1 40,xC3 42 108 31 36 41,xm 5 42]
abbrev r147_6:LO:=[xm 29 6,xc 30 .add 29 (zi 1),xm 6 30]
def b147_0:PC:=(sq (sq (xo r147_5) (.cond (.t 28) .skip (.exit 0))) (sq (.block 1 (xO r147_7)) (xo r147_6)))
abbrev r147_8:LO:=[xm 43 5,⟨some 44,.build [.sl [],.bool false] [(0,1,(.t 43)),(1,1,(.k (.bool true)))],none⟩,xs 2 4 44]
def p147:PC:=(sq (xo r147_0) (sq (sq (xo r147_1) (.cond (.t 22) (sq (xo r147_2) .ret) .skip)) (sq (xo r147_3) (sq (sq (xo r147_4) (.block 0 (.loop b147_0))) (sq (xo r147_8) .ret)))))
def rs147:LR:=[.cell 4 true 2]
theorem c147:chkF Tryz.prog Tryz.f147 2 p147 rs147=true:=by kernel_rfl
/- cuboid/cuboidref01.Plus -/
abbrev r148_0:LO:=[xx 2 3 0,xx 3 3 1,⟨some 4,.alloc [.bool false,.int .u64 0,.int .u64 0],none⟩]
abbrev r148_1:LO:=[xf 7 0 2,xl 8 1 7,xf 9 0 3,xl 10 1 9,⟨some 11,.eqs false false [.b] (.t 8) (.t 10),none⟩]
abbrev r148_2:LO:=[xf 12 0 2,xl 13 1 12,xf 14 1 2,xl 15 1 14,xf 16 1 3,xl 17 1 16,xb 18 .add 15 17,xf 19 2 2,xl 20 1 19,xf 21 2 3,xl 22 1 21,xb 23 .add 20 22,⟨some 24,.build [.bool false,.int .u64 0,.int .u64 0] [(0,1,(.t 13)),(1,1,(.t 18)),(2,1,(.t 23))],none⟩,⟨some 5,.alloc [.bool false,.int .u64 0,.int .u64 0],none⟩,xs 3 5 24]
abbrev r148_3:LO:=[xf 25 2 5,xl 26 1 25,xf 27 2 2,xl 28 1 27,xb 29 .lss 26 28]
abbrev r148_4:LO:=[xf 30 1 5,xl 31 1 30,xc 32 .add 31 (.int .u64 1),xf 33 1 5,xs 1 33 32]
abbrev r148_5:LO:=[xR 34 3 5,xs 3 4 34]
abbrev r148_6:LO:=[xR 35 3 2,xR 36 3 3,xC2 37 84 35 36]
abbrev r148_7:LO:=[xR 38 3 3,xR 39 3 2,xs 3 2 38,xs 3 3 39]
abbrev r148_8:LO:=[xf 40 0 2,xl 41 1 40,xf 42 1 2,xl 43 1 42,xf 44 1 3,xl 45 1 44,xb 46 .sub 43 45,xf 47 2 2,xl 48 1 47,xf 49 2 3,xl 50 1 49,xb 51 .sub 48 50,⟨some 52,.build [.bool false,.int .u64 0,.int .u64 0] [(0,1,(.t 41)),(1,1,(.t 46)),(2,1,(.t 51))],none⟩,⟨some 6,.alloc [.bool false,.int .u64 0,.int .u64 0],none⟩,xs 3 6 52]
abbrev r148_9:LO:=[xf 53 2 2,xl 54 1 53,xf 55 2 3,xl 56 1 55,xb 57 .lss 54 56]
abbrev r148_10:LO:=[xf 58 1 6,xl 59 1 58,xc 60 .sub 59 (.int .u64 1),xf 61 1 6,xs 1 61 60]
abbrev r148_11:LO:=[xf 62 1 6,xl 63 1 62,xc 64 .eql 63 (.int .u64 0),xm 65 64,xg (xf 66 2 6) 65,xg (xl 67 1 66) 65,xg (xc 68 .eql 67 (.int .u64 0)) 65,xp 69 65 68]
abbrev r148_12:LO:=[xf 70 0 6,⟨none,.store 1 (.t 70) (.k (.bool false)) [],none⟩]
abbrev r148_13:LO:=[xR 71 3 6,xs 3 4 71]
def p148:PC:=(sq (xo r148_0) (sq (sq (xo r148_1) (.cond (.t 11) (sq (xo r148_2) (sq (sq (xo r148_3) (.cond (.t 29) (xo r148_4) .skip)) (sq (xo r148_5) .ret))) .skip)) (sq (sq (xo r148_6) (.cond (.t 37) (xo r148_7) .skip)) (sq (xo r148_8) (sq (sq (xo r148_9) (.cond (.t 57) (xo r148_10) .skip)) (sq (sq (xo r148_11) (.cond (.t 69) (xo r148_12) .skip)) (sq (xo r148_13) .ret)))))))
def rs148:LR:=[.cell 4 true 3]
theorem c148:chkF Tryz.prog Tryz.f148 2 p148 rs148=true:=by kernel_rfl
/- slices.rotateCmpFunc[cuboid/api.Line] -/
abbrev r149_0:LO:=[xm 12 2,xm 13 1,xb 14 .sub 12 13,xm 10 14]
abbrev r149_1:LO:=[xm 15 3,xm 16 2,xb 17 .sub 15 16,xm 11 17]
abbrev r149_2:LO:=[xm 18 10,xm 19 11,xb 20 .neq 18 19]
abbrev r149_3:LO:=[xm 21 10,xm 22 11,xb 23 .gtr 21 22]
abbrev r149_4:LO:=[xm 24 0,xm 25 2,xm 26 10,xb 27 .sub 25 26,xm 28 2,xm 29 11,xm 30 4,⟨some 31,.call true 162 [(.t 24),(.t 27),(.t 28),(.t 29),(.t 30)],none⟩]
abbrev r149_5:LO:=[xm 32 10,xm 33 11,xb 34 .sub 32 33,xm 10 34]
abbrev r149_6:LO:=[xm 35 0,xm 36 2,xm 37 10,xb 38 .sub 36 37,xm 39 2,xm 40 11,xb 41 .add 39 40,xm 42 10,xb 43 .sub 41 42,xm 44 10,xm 45 4,⟨some 46,.call true 162 [(.t 35),(.t 38),(.t 43),(.t 44),(.t 45)],none⟩]
abbrev r149_7:LO:=[xm 47 11,xm 48 10,xb 49 .sub 47 48,xm 11 49]
def b149_0:PC:=(sq (sq (xo r149_2) (.cond (.t 20) .skip (.exit 0))) (.block 1 (sq (xo r149_3) (.cond (.t 23) (sq (xo r149_4) (xo r149_5)) (sq (xo r149_6) (xo r149_7))))))
abbrev r149_8:LO:=[xm 50 0,xm 51 2,xm 52 10,xb 53 .sub 51 52,xm 54 2,xm 55 10,xm 56 4,⟨some 57,.call true 162 [(.t 50),(.t 53),(.t 54),(.t 55),(.t 56)],none⟩]
def p149:PC:=(sq (xo r149_0) (sq (xo r149_1) (sq (.block 0 (.loop b149_0)) (xo r149_8))))
def rs149:LR:=[]
theorem c149:chkF Tryz.prog Tryz.f149 5 p149 rs149=true:=by kernel_rfl
/- cmp.isNaN[int] -/
abbrev r150_0:LO:=[xk 2 (.bool false)]
abbrev r150_1:LO:=[xm 3 0,xm 4 0,xb 5 .neq 3 4,xm 2 5]
def p150:PC:=(sq (xo r150_0) (sq (xo r150_1) .ret))
def rs150:LR:=[.t 2]
theorem c150:chkF Tryz.prog Tryz.f150 1 p150 rs150=true:=by kernel_rfl
/- cmp.isNaN[uint64] -/
abbrev r151_0:LO:=[xk 2 (.bool false)]
abbrev r151_1:LO:=[xm 3 0,xm 4 0,xb 5 .neq 3 4,xm 2 5]
def p151:PC:=(sq (xo r151_0) (sq (xo r151_1) .ret))
def rs151:LR:=[.t 2]
theorem c151:chkF Tryz.prog Tryz.f151 1 p151 rs151=true:=by kernel_rfl
/- cuboid/hier.lift -/
abbrev r152_0:LO:=[xx 4 2 0,xk 8 (zi 0)]
abbrev r152_1:LO:=[xm 10 2,xf 11 0 4,xl 12 1 11,xn 13 12,xb 14 .eql 10 13]
abbrev r152_2:LO:=[xk 8 (zi 0)]
abbrev r152_3:LO:=[xm 15 2,xm 16 1,xb 17 .sub 15 16,xk 18 (zi 0)]
abbrev r152_4:LO:=[xb 19 .lss 18 17]
abbrev r152_5:LO:=[xm 20 18,xm 9 20]
abbrev r152_6:LO:=[xf 21 1 4,xl 22 1 21,xm 23 1,xm 24 9,xb 25 .add 23 24,xi 26 1 22 25,xl 27 1 26,xm 28 3,xi 29 1 27 28,xl 30 1 29,xm 3 30]
abbrev r152_7:LO:=[xc 31 .add 18 (zi 1),xm 18 31]
def b152_0:PC:=(sq (xo r152_4) (sq (.cond (.t 19) .skip (.exit 0)) (sq (.block 1 (sq (xo r152_5) (xo r152_6))) (xo r152_7))))
abbrev r152_8:LO:=[xm 32 3,xm 8 32]
def p152:PC:=(sq (xo r152_0) (sq (sq (xo r152_1) (.cond (.t 14) (sq (xo r152_2) .ret) .skip)) (sq (sq (xo r152_3) (.block 0 (.loop b152_0))) (sq (xo r152_8) .ret))))
def rs152:LR:=[.t 8]
theorem c152:chkF Tryz.prog Tryz.f152 4 p152 rs152=true:=by kernel_rfl
/- cuboid/bag.more -/
abbrev r153_0:LO:=[⟨some 6,.own0 2,none⟩]
abbrev r153_1:LO:=[xm 8 0,xn 9 8,xc 10 .sub 9 (zi 1),xm 7 10]
abbrev r153_2:LO:=[xm 11 7,xc 12 .geq 11 (zi 0),xm 13 12,xg (xm 14 0) 13,xg (xm 15 7) 13,xg (xi 16 2 14 15) 13,xg (xf 17 0 16) 13,xg (xl 18 1 17) 13,xg (xm 19 1) 13,xg (xb 20 .eql 18 19) 13,xp 21 13 20]
abbrev r153_3:LO:=[xm 22 0,xm 23 7,xi 24 2 22 23,xf 25 1 24,xl 26 1 25,xm 27 2,xb 28 .add 26 27,xi 29 2 22 23,xf 30 1 29,xs 1 30 28]
abbrev r153_4:LO:=[xm 31 0,xm 6 31]
abbrev r153_5:LO:=[xm 32 0,xm 33 1,xm 34 2,⟨some 35,.build [zi 0,zi 0] [(0,1,(.t 33)),(1,1,(.t 34))],none⟩,⟨some 36,.bsl 2 1 [zi 0,zi 0] [(0,(.t 35))] false,none⟩,⟨some 37,.app 2 (.t 32) (.t 36) true,none⟩,xm 6 37]
def p153:PC:=(sq (xo r153_0) (sq (sq (xo r153_1) (sq (xo r153_2) (.cond (.t 21) (sq (xo r153_3) (sq (xo r153_4) .ret)) .skip))) (sq (xo r153_5) .ret)))
def rs153:LR:=[.t 6]
theorem c153:chkF Tryz.prog Tryz.f153 3 p153 rs153=true:=by kernel_rfl
/- cuboid/calc.Total -/
abbrev r154_0:LO:=[xk 2 (zi 0),xk 3 (.bool false)]
abbrev r154_1:LO:=[⟨some 4,.alloc [zi 0,.int .u64 0],none⟩]
abbrev r154_2:LO:=[xm 7 0,xn 8 7,xk 9 (zi 0)]
abbrev r154_3:LO:=[xb 10 .lss 9 8]
abbrev r154_4:LO:=[xi 11 1 7 9,xl 12 1 11,xm 6 12]
abbrev r154_5:LO:=[xR 13 2 4,xm 14 6,⟨some 15,.call false 160 [(.t 13),(.t 14),(.k (zi 1))],none⟩,xs 2 4 15]
abbrev r154_6:LO:=[xc 16 .add 9 (zi 1),xm 9 16]
def b154_0:PC:=(sq (xo r154_3) (sq (.cond (.t 10) .skip (.exit 0)) (sq (.block 1 (sq (xo r154_4) (xo r154_5))) (xo r154_6))))
abbrev r154_7:LO:=[xR 17 2 4,xC1 18 142 17,xe 19 18 0,xe 20 18 1,xm 2 19,xm 3 20]
def p154:PC:=(sq (xo r154_0) (sq (xo r154_1) (sq (sq (xo r154_2) (.block 0 (.loop b154_0))) (sq (xo r154_7) .ret))))
def rs154:LR:=[.t 2,.t 3]
theorem c154:chkF Tryz.prog Tryz.f154 1 p154 rs154=true:=by kernel_rfl
/- slices.Index[[]int,int] -/
abbrev r158_0:LO:=[xk 4 (zi 0)]
abbrev r158_1:LO:=[xm 6 0,xn 7 6,xk 8 (zi 0)]
abbrev r158_2:LO:=[xb 9 .lss 8 7]
abbrev r158_3:LO:=[xm 10 8,xm 5 10]
abbrev r158_4:LO:=[xm 11 1,xm 12 0,xm 13 5,xi 14 1 12 13,xl 15 1 14,xb 16 .eql 11 15]
abbrev r158_5:LO:=[xm 17 5,xm 4 17]
abbrev r158_6:LO:=[xc 18 .add 8 (zi 1),xm 8 18]
def b158_0:PC:=(sq (xo r158_2) (sq (.cond (.t 9) .skip (.exit 0)) (sq (.block 1 (sq (xo r158_3) (sq (xo r158_4) (.cond (.t 16) (sq (xo r158_5) .ret) .skip)))) (xo r158_6))))
abbrev r158_7:LO:=[xk 4 (zi (-1))]
def p158:PC:=(sq (xo r158_0) (sq (sq (xo r158_1) (.block 0 (.loop b158_0))) (sq (xo r158_7) .ret)))
def rs158:LR:=[.t 4]
theorem c158:chkF Tryz.prog Tryz.f158 2 p158 rs158=true:=by kernel_rfl
/- cuboid/hier.up -/
abbrev r159_0:LO:=[xk 6 (.bool false)]
abbrev r159_1:LO:=[xm 9 0,xn 10 9,xm 11 1,xb 12 .neq 10 11]
abbrev r159_2:LO:=[xk 6 (.bool false)]
abbrev r159_3:LO:=[xm 13 0,xn 14 13,xk 15 (zi 0)]
abbrev r159_4:LO:=[xb 16 .lss 15 14]
abbrev r159_5:LO:=[xi 17 1 13 15,xl 18 1 17,xm 8 18]
abbrev r159_6:LO:=[xm 19 8,xm 20 2,xc 21 .sub 20 (zi 1),⟨some 22,.call false 139 [(.t 19),(.k (zi 0)),(.t 21)],none⟩,xu 23 22]
abbrev r159_7:LO:=[xk 6 (.bool false)]
abbrev r159_8:LO:=[xc 24 .add 15 (zi 1),xm 15 24]
def b159_0:PC:=(sq (xo r159_4) (sq (.cond (.t 16) .skip (.exit 0)) (sq (.block 1 (sq (xo r159_5) (sq (xo r159_6) (.cond (.t 23) (sq (xo r159_7) .ret) .skip)))) (xo r159_8))))
abbrev r159_9:LO:=[xk 6 (.bool true)]
def p159:PC:=(sq (xo r159_0) (sq (sq (xo r159_1) (.cond (.t 12) (sq (xo r159_2) .ret) .skip)) (sq (sq (xo r159_3) (.block 0 (.loop b159_0))) (sq (xo r159_9) .ret))))
def rs159:LR:=[.t 6]
theorem c159:chkF Tryz.prog Tryz.f159 3 p159 rs159=true:=by kernel_rfl
/- (cuboid/calc.Wide).Plus -/
abbrev r160_0:LO:=[xx 3 2 0,⟨some 6,.alloc [zi 0,.int .u64 0],none⟩]
abbrev r160_1:LO:=[xm 12 1,xC1 13 124 12,xm 14 2,xC1 15 124 14,xC2 16 123 13 15,xm 11 16,xe 17 11 0,xe 18 11 1,xm 7 17,xm 8 18]
abbrev r160_2:LO:=[xm 19 1,xc 20 .lss 19 (zi 0),xm 21 2,xc 22 .lss 21 (zi 0),⟨some 23,.eqs true false [.b] (.t 20) (.t 22),none⟩]
abbrev r160_3:LO:=[xk 9 (.int .u64 0)]
abbrev r160_4:LO:=[xm 25 8,⟨some 26,.xf .sbc [(.k (.int .u64 0)),(.t 25),(.k (.int .u64 0))],none⟩,xm 24 26,xe 27 24 0,xe 28 24 1,xm 8 27,xm 9 28]
abbrev r160_5:LO:=[xm 30 7,xm 31 9,⟨some 32,.xf .sbc [(.k (.int .u64 0)),(.t 30),(.t 31)],none⟩,xm 29 32,xe 33 29 0,xe 34 29 1,xm 7 33]
abbrev r160_6:LO:=[xf 36 1 3,xl 37 1 36,xm 38 8,⟨some 39,.xf .adc [(.t 37),(.t 38),(.k (.int .u64 0))],none⟩,xm 35 39,xe 40 35 0,xe 41 35 1,xm 8 40,xm 10 41]
abbrev r160_7:LO:=[xf 43 0 3,xl 44 1 43,⟨some 45,.conv .u64 (.t 44),none⟩,xm 46 7,xm 47 10,⟨some 48,.xf .adc [(.t 45),(.t 46),(.t 47)],none⟩,xm 42 48,xe 49 42 0,xe 50 42 1,xm 7 49]
abbrev r160_8:LO:=[xm 51 7,⟨some 52,.conv .i64 (.t 51),none⟩,xm 53 8,⟨some 54,.build [zi 0,.int .u64 0] [(0,1,(.t 52)),(1,1,(.t 53))],none⟩,xs 2 6 54]
def p160:PC:=(sq (xo r160_0) (sq (xo r160_1) (sq (sq (xo r160_2) (.cond (.t 23) (sq (xo r160_3) (sq (xo r160_4) (xo r160_5))) .skip)) (sq (xo r160_6) (sq (xo r160_7) (sq (xo r160_8) .ret))))))
def rs160:LR:=[.cell 6 true 2]
theorem c160:chkF Tryz.prog Tryz.f160 3 p160 rs160=true:=by kernel_rfl
/- slices.swapRangeCmpFunc[cuboid/api.Line] -/
abbrev r162_0:LO:=[xk 10 (zi 0)]
abbrev r162_1:LO:=[xm 11 10,xm 12 3,xb 13 .lss 11 12]
abbrev r162_3:LO:=[xm 16 0,xm 17 1,xm 18 10,xb 19 .add 17 18,xm 20 0,xm 21 2,xm 22 10,xb 23 .add 21 22,xm 24 0,xm 25 2,xm 26 10,xb 27 .add 25 26,xi 28 11 24 27,xR 29 11 28,xm 30 0,xm 31 1,xm 32 10,xb 33 .add 31 32,xi 34 11 30 33,xR 35 11 34,xi 36 11 16 19,xs 11 36 29,xi 37 11 20 23,xs 11 37 35]
abbrev r162_2:LO:=[xm 14 10,xc 15 .add 14 (zi 1),xm 10 15]
def b162_0:PC:=(sq (sq (xo r162_1) (.cond (.t 13) .skip (.exit 0))) (sq (.block 1 (xO r162_3)) (xo r162_2)))
def p162:PC:=(sq (xo r162_0) (.block 0 (.loop b162_0)))
def rs162:LR:=[]
theorem c162:chkF Tryz.prog Tryz.f162 5 p162 rs162=true:=by kernel_rfl
end Go.Proofs.YtnpncbplhdnonaaGreat
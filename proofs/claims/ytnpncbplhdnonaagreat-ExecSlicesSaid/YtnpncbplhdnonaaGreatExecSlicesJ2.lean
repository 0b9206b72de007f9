/- Part of the proof of ExecSlices: lemmas. -/
import Derived.Test.YtnpncbplhdnonaaGreatExecSlicesJ1
import Derived.Test.YtnpncbplhdnonaaGreatProg
import Derived.KernelRfl
set_option linter.unusedVariables false
set_option linter.unusedSimpArgs false
namespace Go.Proofs.YtnpncbplhdnonaaGreat
open Go.Pl
abbrev zx0:List CV:=[zu 0,zu 0,zu 0,zu 0,.sl [],zi 0,zi 0,zi 0,zi 0]
abbrev zx1:List CV:=[zu 0,zu 0,zu 0,zu 0]
abbrev zx2:List CV:=[zi 0,zi 0,.sl []]
/- cuboid/cuboidlaw26.ExecSlices -/
abbrev r10_0:LO:=[xx 3 16 0,xk 6 (.bool false)]
abbrev r10_1:LO:=[xR 21 16 3,xC1 22 14 21,xu 23 22,xm 24 23,xh (xf 25 3 3) 24,xh (xf 26 4 25) 24,xh (xl 27 1 26) 24,xh (xn 28 27) 24,xh (xc 29 .geq 28 (zi 6)) 24,xq 30 24 29]
abbrev r10_2:LO:=[⟨some 31,.call false 12 [],none⟩,xm 6 31]
abbrev r10_3:LO:=[⟨some 32,.load true 16 (.t 3) [8],none⟩,⟨some 33,.build zx1 [],none⟩,xC2 34 18 32 33,⟨some 35,.load true 16 (.t 3) [8],none⟩,xC1 36 28 35,⟨some 8,.alloc zx0,none⟩,xm 7 34,xs 9 8 36]
abbrev r10_4:LO:=[xm 37 1,⟨some 38,.conv .i64 (.t 37),none⟩,xf 39 0 3,xf 40 0 39,xl 41 1 40,xn 42 41,xb 43 .rem 38 42,xm 9 43]
abbrev r10_5:LO:=[xm 44 2,⟨some 45,.conv .i64 (.t 44),none⟩,xf 46 0 3,xf 47 0 46,xl 48 1 47,xm 49 9,xi 50 2 48 49,xf 51 0 50,xl 52 1 51,xn 53 52,xb 54 .rem 45 53,xm 10 54]
abbrev r10_6:LO:=[xf 56 0 3,xR 57 2 56,⟨some 58,.build zx1 [],none⟩,xm 59 7,xR 60 9 8,xC4 61 25 57 58 59 60,xm 55 61,xe 62 55 0,xe 63 55 1,xm 11 62,xm 12 63]
abbrev r10_7:LO:=[xm 64 12,xc 65 .neq 64 (zi 0)]
abbrev r10_8:LO:=[xk 6 (.bool false)]
abbrev r10_9:LO:=[⟨some 66,.build [zi 0,zi 0] [],none⟩,⟨some 13,.alloc [zi 0,zi 0],none⟩,xs 2 13 66]
abbrev r10_10:LO:=[xk 14 (zi 0)]
abbrev r10_11:LO:=[xm 67 14,xf 68 0 3,xf 69 0 68,xl 70 1 69,xm 71 9,xi 72 2 70 71,xf 73 0 72,xl 74 1 73,xm 75 10,xi 76 1 74 75,xl 77 1 76,xb 78 .lss 67 77]
abbrev r10_13:LO:=[xf 82 0 3,xR 83 2 82,xR 84 9 8,xm 85 9,xm 86 10,xm 87 14,⟨some 88,.call false 30 [(.t 83),(.t 84),(.t 85),(.t 86),(.t 87)],none⟩,xm 81 88,xe 89 81 0,xe 90 81 1,⟨some 15,.alloc zx0,none⟩,xs 9 15 89,xm 16 90]
abbrev r10_14:LO:=[xf 92 0 3,xR 93 2 92,⟨some 94,.build zx1 [],none⟩,xm 95 7,xR 96 9 15,xC4 97 25 93 94 95 96,xm 91 97,xe 98 91 0,xe 99 91 1,xm 17 98,xm 18 99]
abbrev r10_15:LO:=[xm 100 16,xu 101 100,xm 102 101,xh (xm 103 18) 102,xh (xc 104 .neq 103 (zi 0)) 102,xq 105 102 104]
abbrev r10_16:LO:=[xk 6 (.bool false)]
abbrev r10_17:LO:=[xk 19 (zi 0)]
abbrev r10_18:LO:=[xm 106 19,xm 107 17,xn 108 107,xb 109 .lss 106 108]
abbrev r10_20:LO:=[⟨some 112,.iaA 2 1 (.t 13) (.k (zi 0)),none⟩,xl 113 1 112,xm 114 17,xm 115 19,xi 116 11 114 115,xf 117 4 116,xl 118 1 117,xb 119 .add 113 118,⟨some 120,.iaA 2 1 (.t 13) (.k (zi 1)),none⟩,xl 121 1 120,xm 122 17,xm 123 19,xi 124 11 122 123,xf 125 5 124,⟨some 126,.iaA 2 1 (.t 125) (.k (zi 0)),none⟩,xl 127 1 126,xb 128 .add 121 127,⟨some 129,.iaA 2 1 (.t 13) (.k (zi 0)),none⟩,xs 1 129 119,⟨some 130,.iaA 2 1 (.t 13) (.k (zi 1)),none⟩,xs 1 130 128]
abbrev r10_19:LO:=[xm 110 19,xc 111 .add 110 (zi 1),xm 19 111]
def b10_1:PC:=(sq (sq (xo r10_18) (.cond (.t 109) .skip (.exit 2))) (sq (.block 3 (.opsB r10_20 [(0,13),(1,13),(4,17),(5,17),(6,17),(8,13),(9,13),(12,17),(13,17),(14,17),(15,17),(17,13),(18,13),(19,13),(20,13)])) (xo r10_19)))
abbrev r10_12:LO:=[xm 79 14,xc 80 .add 79 (zi 1),xm 14 80]
def b10_0:PC:=(sq (sq (xo r10_11) (.cond (.t 78) .skip (.exit 0))) (sq (.block 1 (sq (xo r10_13) (sq (xo r10_14) (sq (sq (xo r10_15) (.cond (.t 105) (sq (xo r10_16) .ret) .skip)) (sq (xo r10_17) (.block 2 (.loop b10_1))))))) (xo r10_12)))
abbrev r10_21:LO:=[xk 20 (zi 0)]
abbrev r10_22:LO:=[xm 131 20,xm 132 11,xn 133 132,xb 134 .lss 131 133]
abbrev r10_24:LO:=[⟨some 137,.iaA 2 1 (.t 13) (.k (zi 0)),none⟩,xl 138 1 137,xm 139 11,xm 140 20,xi 141 11 139 140,xf 142 4 141,xl 143 1 142,xb 144 .sub 138 143,⟨some 145,.iaA 2 1 (.t 13) (.k (zi 1)),none⟩,xl 146 1 145,xm 147 11,xm 148 20,xi 149 11 147 148,xf 150 5 149,⟨some 151,.iaA 2 1 (.t 150) (.k (zi 0)),none⟩,xl 152 1 151,xb 153 .sub 146 152,⟨some 154,.iaA 2 1 (.t 13) (.k (zi 0)),none⟩,xs 1 154 144,⟨some 155,.iaA 2 1 (.t 13) (.k (zi 1)),none⟩,xs 1 155 153]
abbrev r10_23:LO:=[xm 135 20,xc 136 .add 135 (zi 1),xm 20 136]
def b10_2:PC:=(sq (sq (xo r10_22) (.cond (.t 134) .skip (.exit 4))) (sq (.block 5 (.opsB r10_24 [(0,13),(1,13),(4,11),(5,11),(6,11),(8,13),(9,13),(12,11),(13,11),(14,11),(15,11),(17,13),(18,13),(19,13),(20,13)])) (xo r10_23)))
abbrev r10_25:LO:=[xR 156 2 13,⟨some 157,.build [zi 0,zi 0] [],none⟩,⟨some 158,.eqs false true [.i,.i] (.t 156) (.t 157),none⟩,xm 159 158,⟨some 160,.call false 12 [],(some (159,true))⟩,xp 161 159 160,xm 6 161]
def p10:PC:=(sq (xo r10_0) (sq (sq (xo r10_1) (.cond (.t 30) (sq (xo r10_2) .ret) .skip)) (sq (xO r10_3) (sq (xo r10_4) (sq (xo r10_5) (sq (xo r10_6) (sq (sq (xo r10_7) (.cond (.t 65) (sq (xo r10_8) .ret) .skip)) (sq (xo r10_9) (sq (sq (xo r10_10) (.block 0 (.loop b10_0))) (sq (sq (xo r10_21) (.block 4 (.loop b10_2))) (sq (xo r10_25) .ret)))))))))))
def rs10:LR:=[.t 6]
theorem c10:chkF Tryz.prog Tryz.f10 3 p10 rs10=true:=by kernel_rfl
/- cuboid/query.Slice -/
abbrev r30_0:LO:=[xx 5 2 0,xx 6 9 1,⟨some 10,.alloc zx0,none⟩,xk 11 (.bool false)]
abbrev r30_1:LO:=[xR 14 2 5,xR 15 9 6,xm 16 2,xm 17 3,xm 18 4,⟨some 19,.bsl 1 1 [zi 0] [(0,(.t 18))] false,none⟩,⟨some 20,.call false 62 [(.t 14),(.t 15),(.t 16),(.t 17),(.t 19)],none⟩,xm 13 20,xe 21 13 0,xe 22 13 1,xs 9 6 21,xm 12 22]
abbrev r30_2:LO:=[xm 23 12,xu 24 23]
abbrev r30_3:LO:=[⟨some 25,.build zx0 [],none⟩,xs 9 10 25,xk 11 (.bool false)]
abbrev r30_4:LO:=[xm 26 2,xR 27 2 5,xC1 28 63 27,xm 29 2,⟨some 30,.idA false 4 1 (.t 28) (.t 29),none⟩,xf 31 0 6,⟨some 32,.iaA 4 1 (.t 31) (.t 26),none⟩,xs 1 32 30]
abbrev r30_5:LO:=[xR 33 2 5,xR 34 9 6,xC2 35 64 33 34,xe 36 35 0,xe 37 35 1,xs 9 10 36,xm 11 37]
def p30:PC:=(sq (xo r30_0) (sq (xo r30_1) (sq (sq (xo r30_2) (.cond (.t 24) (sq (xo r30_3) .ret) .skip)) (sq (xo r30_4) (sq (xo r30_5) .ret)))))
def rs30:LR:=[.cell 10 true 9,.t 11]
theorem c30:chkF Tryz.prog Tryz.f30 5 p30 rs30=true:=by kernel_rfl
/- cuboid/query.Dice -/
abbrev r62_0:LO:=[xx 5 2 0,xx 6 9 1,⟨some 10,.alloc zx0,none⟩,xk 11 (.bool false)]
abbrev r62_1:LO:=[xR 12 2 5,xR 13 9 6,xm 14 2,xC3 15 105 12 13 14,xu 16 15]
abbrev r62_2:LO:=[⟨some 17,.build zx0 [],none⟩,xs 9 10 17,xk 11 (.bool false)]
abbrev r62_3:LO:=[xR 18 2 5,xR 19 9 6,xm 20 2,xm 21 3,xm 22 4,⟨some 23,.build zx2 [(0,1,(.t 20)),(1,1,(.t 21)),(2,1,(.t 22))],none⟩,⟨some 24,.bsl 3 1 zx2 [(0,(.t 23))] false,none⟩,xC2 25 106 19 24,xC2 26 64 18 25,xe 27 26 0,xe 28 26 1,xs 9 10 27,xm 11 28]
def p62:PC:=(sq (xo r62_0) (sq (sq (xo r62_1) (.cond (.t 16) (sq (xo r62_2) .ret) .skip)) (sq (xO r62_3) .ret)))
def rs62:LR:=[.cell 10 true 9,.t 11]
theorem c62:chkF Tryz.prog Tryz.f62 5 p62 rs62=true:=by kernel_rfl
/- cuboid/lattice.Whole -/
abbrev r63_0:LO:=[xx 1 2 0,⟨some 2,.alloc zx1,none⟩]
abbrev r63_1:LO:=[⟨some 3,.alloc zx1,none⟩]
abbrev r63_2:LO:=[xR 6 2 1,xC1 7 99 6,xu 8 7]
abbrev r63_3:LO:=[xR 9 4 3,xs 4 2 9]
abbrev r63_4:LO:=[xf 10 0 1,xl 11 1 10,xn 12 11,xk 13 (zi 0)]
abbrev r63_5:LO:=[xb 14 .lss 13 12]
abbrev r63_6:LO:=[xm 15 13,xi 16 2 11 13,xR 17 2 16,⟨some 5,.alloc [.sl [],.sl []],none⟩,xm 4 15,xs 2 5 17]
abbrev r63_7:LO:=[xm 18 4,xf 19 0 5,xl 20 1 19,xn 21 20,⟨some 22,.conv .u8 (.t 21),none⟩,⟨some 23,.iaA 4 1 (.t 3) (.t 18),none⟩,xs 1 23 22]
abbrev r63_8:LO:=[xc 24 .add 13 (zi 1),xm 13 24]
def b63_0:PC:=(sq (xo r63_5) (sq (.cond (.t 14) .skip (.exit 0)) (sq (.block 1 (sq (xo r63_6) (xo r63_7))) (xo r63_8))))
abbrev r63_9:LO:=[xR 25 4 3,xs 4 2 25]
def p63:PC:=(sq (xo r63_0) (sq (xo r63_1) (sq (sq (xo r63_2) (.cond (.t 8) (sq (xo r63_3) .ret) .skip)) (sq (sq (xo r63_4) (.block 0 (.loop b63_0))) (sq (xo r63_9) .ret)))))
def rs63:LR:=[.cell 2 true 4]
theorem c63:chkF Tryz.prog Tryz.f63 1 p63 rs63=true:=by kernel_rfl
/- cuboid/query.told -/
abbrev r64_0:LO:=[xx 2 2 0,xx 3 9 1,⟨some 4,.alloc zx0,none⟩,xk 5 (.bool false)]
abbrev r64_1:LO:=[xR 6 2 2,xR 7 9 3,xC2 8 55 6 7,xu 9 8]
abbrev r64_2:LO:=[⟨some 10,.build zx0 [],none⟩,xs 9 4 10,xk 5 (.bool false)]
abbrev r64_3:LO:=[xR 11 9 3,xs 9 4 11,xk 5 (.bool true)]
def p64:PC:=(sq (xo r64_0) (sq (sq (xo r64_1) (.cond (.t 9) (sq (xo r64_2) .ret) .skip)) (sq (xo r64_3) .ret)))
def rs64:LR:=[.cell 4 true 9,.t 5]
theorem c64:chkF Tryz.prog Tryz.f64 2 p64 rs64=true:=by kernel_rfl
/- maps.Keys[map[cuboid/api.Coord]cuboid/api.Cell,cuboid/api.Coord,cuboid/api.Cell] -/
/- cuboid/query.has -/
abbrev r105_0:LO:=[xx 3 2 0,xx 4 9 1,xk 6 (.bool false)]
abbrev r105_1:LO:=[xR 7 2 3,xR 8 9 4,xC2 9 55 7 8,xm 10 9,xg (xm 11 2) 10,xg (xf 12 0 3) 10,xg (xl 13 1 12) 10,xg (xn 14 13) 10,xg (xc 15 .sub 14 (zi 1)) 10,⟨some 16,.call false 92 [(.t 11),(.k (zi 0)),(.t 15)],(some (10,true))⟩,xp 17 10 16,xm 6 17]
def p105:PC:=(sq (xo r105_0) (sq (xo r105_1) .ret))
def rs105:LR:=[.t 6]
theorem c105:chkF Tryz.prog Tryz.f105 3 p105 rs105=true:=by kernel_rfl
/- cuboid/query.own -/
abbrev r106_0:LO:=[xx 2 9 0,⟨some 4,.alloc zx0,none⟩]
abbrev r106_1:LO:=[xf 7 4 2,xl 8 1 7,xm 9 1,⟨some 10,.bsl 1 2 [.sl []] [(0,(.t 8)),(1,(.t 9))] false,none⟩,⟨some 11,.call true 144 [(.t 10)],none⟩,xf 12 4 2,xs 1 12 11]
abbrev r106_2:LO:=[xf 13 4 2,xl 14 1 13,xn 15 14,xk 16 (zi 0)]
abbrev r106_3:LO:=[xb 17 .lss 16 15]
abbrev r106_4:LO:=[xm 18 16,xi 19 3 14 16,xR 20 3 19,⟨some 6,.alloc zx2,none⟩,xm 5 18,xs 3 6 20]
abbrev r106_5:LO:=[xf 21 4 2,xl 22 1 21,xm 23 5,xf 24 2 6,xl 25 1 24,xC1 26 145 25,xi 27 3 22 23,xf 28 2 27,xs 1 28 26]
abbrev r106_6:LO:=[xc 29 .add 16 (zi 1),xm 16 29]
def b106_0:PC:=(sq (xo r106_3) (sq (.cond (.t 17) .skip (.exit 0)) (sq (.block 1 (sq (xo r106_4) (.opsB r106_5 [(1,2),(4,6),(8,11)]))) (xo r106_6))))
abbrev r106_7:LO:=[xR 30 9 2,xs 9 4 30]
def p106:PC:=(sq (xo r106_0) (sq (xo r106_1) (sq (sq (xo r106_2) (.block 0 (.loop b106_0))) (sq (.fzc 2 4 (.nvp 2 (xo r106_7))) .ret))))
def rs106:LR:=[.cell 4 true 9]
theorem c106:chkF Tryz.prog Tryz.f106 2 p106 rs106=true:=by kernel_rfl
/- slices.Concat[[]cuboid/api.Fix,cuboid/api.Fix] -/
abbrev r144_0:LO:=[⟨some 2,.own0 3,none⟩]
abbrev r144_1:LO:=[xk 3 (zi 0)]
abbrev r144_2:LO:=[xm 9 0,xn 10 9,xk 11 (zi 0)]
abbrev r144_3:LO:=[xb 12 .lss 11 10]
abbrev r144_4:LO:=[xi 13 1 9 11,xl 14 1 13,xm 5 14]
abbrev r144_5:LO:=[xm 15 3,xm 16 5,xn 17 16,xb 18 .add 15 17,xm 3 18]
abbrev r144_6:LO:=[xm 19 3,xc 20 .lss 19 (zi 0)]
abbrev r144_7:LO:=[⟨some 21,.mki 9 (.k (.str ({ data:=#[108,101,110,32,111,117,116,32,111,102,32,114,97,110,103,101] }))),none⟩,⟨none,.slA 0 0 (.k .nilp) none none,none⟩]
abbrev r144_8:LO:=[xc 22 .add 11 (zi 1),xm 11 22]
def b144_0:PC:=(sq (xo r144_3) (sq (.cond (.t 12) .skip (.exit 0)) (sq (.block 1 (sq (xo r144_4) (sq (xo r144_5) (sq (xo r144_6) (.cond (.t 20) (xo r144_7) .skip))))) (xo r144_8))))
abbrev r144_9:LO:=[xm 23 3,⟨some 24,.call true 161 [(.k .nils),(.t 23)],none⟩,xm 6 24]
abbrev r144_10:LO:=[xm 25 0,xn 26 25,xk 27 (zi 0)]
abbrev r144_11:LO:=[xb 28 .lss 27 26]
abbrev r144_12:LO:=[xi 29 1 25 27,xl 30 1 29,xm 8 30]
abbrev r144_13:LO:=[xm 31 6,xm 32 8,⟨some 33,.app 3 (.t 31) (.t 32) true,none⟩,xm 6 33]
abbrev r144_14:LO:=[xc 34 .add 27 (zi 1),xm 27 34]
def b144_1:PC:=(sq (xo r144_11) (sq (.cond (.t 28) .skip (.exit 2)) (sq (.block 3 (sq (xo r144_12) (xo r144_13))) (xo r144_14))))
abbrev r144_15:LO:=[xm 35 6,xm 2 35]
def p144:PC:=(sq (xo r144_0) (sq (xo r144_1) (sq (sq (xo r144_2) (.block 0 (.loop b144_0))) (sq (xo r144_9) (sq (sq (xo r144_10) (.block 2 (.loop b144_1))) (sq (xo r144_15) .ret))))))
def rs144:LR:=[.t 2]
theorem c144:chkF Tryz.prog Tryz.f144 1 p144 rs144=true:=by kernel_rfl
/- slices.Clone[[]int,int] -/
abbrev r145_0:LO:=[xk 2 (.sl [])]
abbrev r145_1:LO:=[xm 3 0]
abbrev r145_2:LO:=[xk 2 (.sl [])]
abbrev r145_3:LO:=[⟨some 5,.bsl 1 0 [zi 0] [] true,none⟩,xm 6 0,⟨some 7,.app 1 (.t 5) (.t 6) false,none⟩,xm 2 7]
def p145:PC:=(sq (xo r145_0) (sq (sq (.opsN r145_1 (.t 3) 4) (.cond (.t 4) (sq (xo r145_2) .ret) .skip)) (sq (xo r145_3) .ret)))
def rs145:LR:=[.t 2]
theorem c145:chkF Tryz.prog Tryz.f145 1 p145 rs145=true:=by kernel_rfl
end Go.Proofs.YtnpncbplhdnonaaGreat
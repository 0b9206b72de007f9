/- Part of the proof of ExecFirst: lemmas. -/
import Derived.Test.YtnpncbplhdnonaaGreatExecS15
import Derived.Test.YtnpncbplhdnonaaGreatExecFirstJ0
import Derived.Test.YtnpncbplhdnonaaGreatProg
import Derived.KernelRfl
set_option linter.unusedVariables false
set_option linter.unusedSimpArgs false
namespace Go.Proofs.YtnpncbplhdnonaaGreat
open Go.Pl
/- cuboid/cuboidlaw26.ExecFirst -/
abbrev r6_0:LO:=[xk 6 (.bool false)]
abbrev r6_1:LO:=[xm 18 0,xn 19 18,xc 20 .gtr 19 (zi 40)]
abbrev r6_2:LO:=[⟨some 21,.call false 12 [],none⟩,xm 6 21]
abbrev r6_3:LO:=[xm 22 1,xc 23 .rem 22 (zu 5),⟨some 24,.conv .i64 (.t 23),none⟩,⟨some 25,.bin .add (.k (zi 1)) (.t 24),none⟩,xm 26 2,xc 27 .rem 26 (zu 12),⟨some 28,.conv .i64 (.t 27),none⟩,xm 7 25,xm 8 28]
abbrev r6_4:LO:=[xm 29 0,xm 30 7,xm 31 8,⟨some 32,.call false 20 [(.t 29),(.t 30),(.k (zi 1)),(.t 31)],none⟩,xm 9 32]
abbrev r6_5:LO:=[xm 33 9,xn 34 33,xm 35 8,xm 36 0,xn 37 36,⟨some 38,.mm false (.t 35) [(.t 37)],none⟩,xb 39 .neq 34 38]
abbrev r6_6:LO:=[xk 6 (.bool false)]
abbrev r6_7:LO:=[xk 10 (zi 0)]
abbrev r6_8:LO:=[xm 40 10,xm 41 9,xn 42 41,xb 43 .lss 40 42]
abbrev r6_10:LO:=[xk 11 (zi 0),xk 12 (zi 0)]
abbrev r6_11:LO:=[xk 13 (zi 0)]
abbrev r6_12:LO:=[xm 46 13,xm 47 0,xn 48 47,xb 49 .lss 46 48]
abbrev r6_14:LO:=[xm 52 0,xm 53 13,xi 54 11 52 53,xR 55 11 54,xm 56 9,xm 57 10,xi 58 11 56 57,xR 59 11 58,⟨some 60,.eqs false true [.i,.i,.i,.i,.i,.i,.i,.i,.i,.i,.i] (.t 55) (.t 59),none⟩]
abbrev r6_15:LO:=[xm 61 11,xc 62 .add 61 (zi 1),xm 11 62]
abbrev r6_13:LO:=[xm 50 13,xc 51 .add 50 (zi 1),xm 13 51]
def b6_1:PC:=(sq (sq (xo r6_12) (.cond (.t 49) .skip (.exit 2))) (sq (.block 3 (sq (xO r6_14) (.cond (.t 60) (xo r6_15) .skip))) (xo r6_13)))
abbrev r6_16:LO:=[xk 14 (zi 0)]
abbrev r6_17:LO:=[xm 63 14,xm 64 9,xn 65 64,xb 66 .lss 63 65]
abbrev r6_19:LO:=[xm 69 9,xm 70 14,xi 71 11 69 70,xR 72 11 71,xm 73 9,xm 74 10,xi 75 11 73 74,xR 76 11 75,⟨some 77,.eqs false true [.i,.i,.i,.i,.i,.i,.i,.i,.i,.i,.i] (.t 72) (.t 76),none⟩]
abbrev r6_20:LO:=[xm 78 12,xc 79 .add 78 (zi 1),xm 12 79]
abbrev r6_18:LO:=[xm 67 14,xc 68 .add 67 (zi 1),xm 14 68]
def b6_2:PC:=(sq (sq (xo r6_17) (.cond (.t 66) .skip (.exit 4))) (sq (.block 5 (sq (xO r6_19) (.cond (.t 77) (xo r6_20) .skip))) (xo r6_18)))
abbrev r6_21:LO:=[xm 80 12,xm 81 11,xb 82 .gtr 80 81,xm 83 82,xh (xm 84 10) 83,xh (xc 85 .gtr 84 (zi 0)) 83,xh (xm 86 85) 83,xg (xm 87 7) 86,xg (xm 88 9) 86,xg (xm 89 10) 86,xg (xi 90 11 88 89) 86,xg (xR 91 11 90) 86,xg (xm 92 9) 86,xg (xm 93 10) 86,xg (xc 94 .sub 93 (zi 1)) 86,xg (xi 95 11 92 94) 86,xg (xR 96 11 95) 86,⟨some 97,.call false 22 [(.t 87),(.k (zi 1)),(.t 91),(.t 96)],(some (86,true))⟩,xg (xc 98 .lss 97 (zi 0)) 86,xh (xp 99 86 98) 83,xq 100 83 99]
abbrev r6_22:LO:=[xk 6 (.bool false)]
abbrev r6_23:LO:=[xm 101 10,xc 102 .gtr 101 (zi 0),xm 103 102,xg (xm 104 7) 103,xg (xm 105 9) 103,xg (xm 106 10) 103,xg (xi 107 11 105 106) 103,xg (xR 108 11 107) 103,xg (xm 109 9) 103,xg (xm 110 10) 103,xg (xc 111 .sub 110 (zi 1)) 103,xg (xi 112 11 109 111) 103,xg (xR 113 11 112) 103,⟨some 114,.call false 22 [(.t 104),(.k (zi 1)),(.t 108),(.t 113)],(some (103,true))⟩,xg (xc 115 .eql 114 (zi 0)) 103,xp 116 103 115,xm 117 116,xg (xm 118 9) 117,xg (xm 119 10) 117,xg (xi 120 11 118 119) 117,xg (xf 121 0 120) 117,xg (xR 122 4 121) 117,xg (xC1 123 23 122) 117,xg (xm 124 9) 117,xg (xm 125 10) 117,xg (xc 126 .sub 125 (zi 1)) 117,xg (xi 127 11 124 126) 117,xg (xf 128 0 127) 117,xg (xR 129 4 128) 117,xg (xC1 130 23 129) 117,xg (xb 131 .lss 123 130) 117,xp 132 117 131]
abbrev r6_24:LO:=[xk 6 (.bool false)]
abbrev r6_9:LO:=[xm 44 10,xc 45 .add 44 (zi 1),xm 10 45]
def b6_0:PC:=(sq (sq (xo r6_8) (.cond (.t 43) .skip (.exit 0))) (sq (.block 1 (sq (xo r6_10) (sq (sq (xo r6_11) (.block 2 (.loop b6_1))) (sq (sq (xo r6_16) (.block 4 (.loop b6_2))) (sq (sq (xO r6_21) (.cond (.t 100) (sq (xo r6_22) .ret) .skip)) (sq (xO r6_23) (.cond (.t 132) (sq (xo r6_24) .ret) .skip))))))) (xo r6_9)))
abbrev r6_25:LO:=[xk 15 (zi 0)]
abbrev r6_26:LO:=[xm 133 15,xm 134 0,xn 135 134,xb 136 .lss 133 135,xm 137 136,xg (xm 138 9) 137,xg (xn 139 138) 137,xg (xc 140 .gtr 139 (zi 0)) 137,xp 141 137 140]
abbrev r6_28:LO:=[xk 16 (.bool false)]
abbrev r6_29:LO:=[xk 17 (zi 0)]
abbrev r6_30:LO:=[xm 144 17,xm 145 9,xn 146 145,xb 147 .lss 144 146]
abbrev r6_32:LO:=[xm 150 16,xm 151 150,xh (xm 152 9) 151,xh (xm 153 17) 151,xh (xi 154 11 152 153) 151,xh (xR 155 11 154) 151,xh (xm 156 0) 151,xh (xm 157 15) 151,xh (xi 158 11 156 157) 151,xh (xR 159 11 158) 151,⟨some 160,.eqs false true [.i,.i,.i,.i,.i,.i,.i,.i,.i,.i,.i] (.t 155) (.t 159),(some (151,false))⟩,xq 161 151 160,xm 16 161]
abbrev r6_31:LO:=[xm 148 17,xc 149 .add 148 (zi 1),xm 17 149]
def b6_4:PC:=(sq (sq (xo r6_30) (.cond (.t 147) .skip (.exit 8))) (sq (.block 9 (xO r6_32)) (xo r6_31)))
abbrev r6_33:LO:=[xm 162 16,xu 163 162,xm 164 163,xg (xm 165 7) 164,xg (xm 166 0) 164,xg (xm 167 15) 164,xg (xi 168 11 166 167) 164,xg (xR 169 11 168) 164,xg (xm 170 9) 164,xg (xm 171 9) 164,xg (xn 172 171) 164,xg (xc 173 .sub 172 (zi 1)) 164,xg (xi 174 11 170 173) 164,xg (xR 175 11 174) 164,⟨some 176,.call false 22 [(.t 165),(.k (zi 1)),(.t 169),(.t 175)],(some (164,true))⟩,xg (xc 177 .lss 176 (zi 0)) 164,xp 178 164 177]
abbrev r6_34:LO:=[xk 6 (.bool false)]
abbrev r6_27:LO:=[xm 142 15,xc 143 .add 142 (zi 1),xm 15 143]
def b6_3:PC:=(sq (sq (xo r6_26) (.cond (.t 141) .skip (.exit 6))) (sq (.block 7 (sq (xo r6_28) (sq (sq (xo r6_29) (.block 8 (.loop b6_4))) (sq (xO r6_33) (.cond (.t 178) (sq (xo r6_34) .ret) .skip))))) (xo r6_27)))
abbrev r6_35:LO:=[⟨some 179,.call false 12 [],none⟩,xm 6 179]
def p6:PC:=(sq (xo r6_0) (sq (sq (xo r6_1) (.cond (.t 20) (sq (xo r6_2) .ret) .skip)) (sq (xo r6_3) (sq (xo r6_4) (sq (sq (xo r6_5) (.cond (.t 39) (sq (xo r6_6) .ret) .skip)) (sq (sq (xo r6_7) (.block 0 (.loop b6_0))) (sq (sq (xo r6_25) (.block 6 (.loop b6_3))) (sq (xo r6_35) .ret))))))))
def rs6:LR:=[.t 6]
theorem c6:chkF Tryz.prog Tryz.f6 3 p6 rs6=true:=by kernel_rfl
end Go.Proofs.YtnpncbplhdnonaaGreat
namespace Go.Proofs.YtnpncbplhdnonaaGreat
open Go.Pl Go.Bag
set_option maxHeartbeats 16000000
set_option maxRecDepth 100000
/-! ### ExecFirst -/
def cntL (x:LineS) (l:List LineS):Nat:=(l.filter fun y=>decide (y=x)).length
theorem Yp (x y:LineS) (l:List LineS):cntL x (y::l)=(if y=x then 1 else 0) + cntL x l:=by
 unfold cntL
 rw [List.filter_cons]
 by_cases e:y=x
 ·simp [e]; omega
 ·simp [e]
theorem jep (f i t:Int) (l:List LineS) (x:LineS):cntL x (bestS f i t l)≤cntL x l:=by
 have h1:cntL x l=cntL x (sortS (leF (cmpE f i)) l):=((Xs l).filter _).length_eq.symm
 rw [h1]
 unfold cntL bestS
 exact ((List.take_sublist _ _).filter _).length_le
theorem jhh (f i t:Int) (l:List LineS):Srt (leF (cmpE f i)) (bestS f i t l):=by
 unfold bestS
 exact (kJ (preE f i) l).sublist (List.take_sublist _ _)
theorem best_at {f i t:Int} {l:List LineS} {j:Nat} {y x:LineS} (hy:(bestS f i t l)[j]? = some y) (hx:(bestS f i t l)[j + 1]? = some x):0≤cmpE f i x y:=by
 have h:=jhh f i t l
 unfold Srt at h
 rw [List.pairwise_iff_getElem] at h
 obtain ⟨h1,e1⟩:=List.getElem?_eq_some_iff.mp hy
 obtain ⟨h2,e2⟩:=List.getElem?_eq_some_iff.mp hx
 have:=h j (j + 1) h1 h2 (by omega)
 rw [e1,e2] at this
 unfold leF at this
 exact of_decide_eq_true this
theorem best_out {f i t:Int} {l:List LineS} {x z:LineS} (hx:x∈l) (hn:x ∉ bestS f i t l) (hz:z∈bestS f i t l):0≤cmpE f i x z:=by
 have hs:=kJ (preE f i) l
 unfold Srt at hs
 rw [← List.take_append_drop (topN t l.length) (sortS (leF (cmpE f i)) l)] at hs
 have hxs:x∈sortS (leF (cmpE f i)) l:=(kh (preE f i) l x).mpr hx
 rw [← List.take_append_drop (topN t l.length) (sortS (leF (cmpE f i)) l)] at hxs
 have hxd:x∈(sortS (leF (cmpE f i)) l).drop (topN t l.length):=by
  rcases List.mem_append.mp hxs with h | h
  ·exact absurd h hn
  ·exact h
 have:=(List.pairwise_append.mp hs).2.2 z hz x hxd
 unfold leF at this
 exact of_decide_eq_true this
theorem Y1 {f i:Int} {x y:LineS} (h:0≤cmpE f i x y):0≤aheadC f i x y∧(aheadC f i x y=0→keyP (placeOf y)≤keyP (placeOf x)):=by
 unfold cmpE at h
 by_cases e:aheadC f i x y=0
 ·rw [if_neg (by omega)] at h
  refine ⟨by omega,fun _=>?_⟩
  unfold cmpI at h
  split at h
  ·omega
  ·omega
 ·rw [if_pos e] at h
  exact ⟨h,fun k=>absurd k e⟩
theorem jj7 {K:KT} (l B:List LineS) (hlen:l.length≤40) (x:LineS) (i:Nat) (f:Int) (hx:(B.map encLn)[((i:Nat):Int).toNat]? = some (encLn x)):∀ (rest:List LineS) (k n:Nat) (s:PS),l.drop k=rest→k≤l.length→n≤k →
  s.t 0=.c (encLs l)→s.t 7=.c (.int .i64 f)→s.t 9=.c (encLs B)→s.t 10=.c (.int .i64 i)→s.t 11=.c (.int .i64 n)→s.t 12=.c (.int .i64 0)→s.t 13=.c (.int .i64 k) →
  (∀ s',s'.t 0=.c (encLs l)→s'.t 7=.c (.int .i64 f)→s'.t 9=.c (encLs B)→s'.t 10=.c (.int .i64 i)→s'.t 11=.c (.int .i64 ((n + cntL x rest:Nat):Int))→s'.t 12=.c (.int .i64 0)→K (.x 2) s')→wP (CP) (.loop b6_1) s K:=by
 intro rest
 induction rest with
 | nil =>
  intro k n s hd hi hn t0 t7 t9 t10 t11 t12 t13 hK
  refine jf ?_
  have:=jm hd hi
  subst this
  have e0:cntL x []=0:=rfl
  rw [e0] at hK
  have hll:(l.map encLn).length=l.length:=List.length_map _
  rw [← ja t0,← ja t7,← ja t9,← ja t10,← ja t11,← ja t12,← ja t13]
  unfold encLs at *
  generalize l.map encLn=el at *
  unfold b6_1
  repeat' (first | refine je rfl hll ?_ | refine st0 ?_ | intro u)
  exact hK _ (by rfl) (by rfl) (by rfl) (by rfl) (by rfl) (by rfl)
 | cons y rest ih =>
  intro k n s hd hi hn t0 t7 t9 t10 t11 t12 t13 hK
  refine jf ?_
  have he:(l.map encLn)[((k:Nat):Int).toNat]? = some (encLn y):=jp hd
  have hil:=jo hd
  have hll:(l.map encLn).length=l.length:=List.length_map _
  have hq:=VT y x
  rw [Yp] at hK
  have ih1:=fun s=>ih (k + 1) (n + 1) s (jg hd) (by omega) (by omega)
  have ih0:=fun s=>ih (k + 1) n s (jg hd) (by omega) (by omega)
  clear ih
  rw [← ja t0,← ja t7,← ja t9,← ja t10,← ja t11,← ja t12,← ja t13]
  unfold encLs at *
  generalize l.map encLn=el at *
  generalize B.map encLn=eB at *
  unfold encLn at hq he hx
  unfold b6_1
  by_cases e:y=x
  ·rw [decide_eq_true e] at hq
   rw [if_pos e,← Nat.add_assoc] at hK
   repeat' (first | refine je rfl hll ?_ | refine ji rfl rfl (by omega) he rfl ?_ | refine ji rfl rfl (by omega) hx rfl ?_ | refine jG rfl rfl hq ?_ | refine st1 ?_ | intro u)
   exact ih1 _ (by rfl) (by rfl) (by rfl) (by rfl) (by rfl) (by rfl) (by rfl) hK
  ·rw [decide_eq_false e] at hq
   rw [if_neg e,Nat.zero_add] at hK
   repeat' (first | refine je rfl hll ?_ | refine ji rfl rfl (by omega) he rfl ?_ | refine ji rfl rfl (by omega) hx rfl ?_ | refine jG rfl rfl hq ?_ | refine st1 ?_ | intro u)
   exact ih0 _ (by rfl) (by rfl) (by rfl) (by rfl) (by rfl) (by rfl) (by rfl) hK
theorem jj8 {K:KT} (l B:List LineS) (hlen:B.length≤40) (x:LineS) (i:Nat) (f:Int) (w:Int) (hx:(B.map encLn)[((i:Nat):Int).toNat]? = some (encLn x)):∀ (rest:List LineS) (k n:Nat) (s:PS),B.drop k=rest→k≤B.length→n≤k →
  s.t 0=.c (encLs l)→s.t 7=.c (.int .i64 f)→s.t 9=.c (encLs B)→s.t 10=.c (.int .i64 i)→s.t 11=.c (.int .i64 w)→s.t 12=.c (.int .i64 n)→s.t 14=.c (.int .i64 k) →
  (∀ s',s'.t 0=.c (encLs l)→s'.t 7=.c (.int .i64 f)→s'.t 9=.c (encLs B)→s'.t 10=.c (.int .i64 i)→s'.t 11=.c (.int .i64 w)→s'.t 12=.c (.int .i64 ((n + cntL x rest:Nat):Int))→K (.x 4) s')→wP (CP) (.loop b6_2) s K:=by
 intro rest
 induction rest with
 | nil =>
  intro k n s hd hi hn t0 t7 t9 t10 t11 t12 t14 hK
  refine jf ?_
  have:=jm hd hi
  subst this
  have e0:cntL x []=0:=rfl
  rw [e0] at hK
  have hll:(B.map encLn).length=B.length:=List.length_map _
  rw [← ja t0,← ja t7,← ja t9,← ja t10,← ja t11,← ja t12,← ja t14]
  unfold encLs at *
  generalize B.map encLn=eB at *
  unfold b6_2
  repeat' (first | refine je rfl hll ?_ | refine st0 ?_ | intro u)
  exact hK _ (by rfl) (by rfl) (by rfl) (by rfl) (by rfl) (by rfl)
 | cons y rest ih =>
  intro k n s hd hi hn t0 t7 t9 t10 t11 t12 t14 hK
  refine jf ?_
  have he:(B.map encLn)[((k:Nat):Int).toNat]? = some (encLn y):=jp hd
  have hil:=jo hd
  have hll:(B.map encLn).length=B.length:=List.length_map _
  have hq:=VT y x
  rw [Yp] at hK
  have ih1:=fun s=>ih (k + 1) (n + 1) s (jg hd) (by omega) (by omega)
  have ih0:=fun s=>ih (k + 1) n s (jg hd) (by omega) (by omega)
  clear ih
  rw [← ja t0,← ja t7,← ja t9,← ja t10,← ja t11,← ja t12,← ja t14]
  unfold encLs at *
  generalize l.map encLn=el at *
  generalize B.map encLn=eB at *
  unfold encLn at hq he hx
  unfold b6_2
  by_cases e:y=x
  ·rw [decide_eq_true e] at hq
   rw [if_pos e,← Nat.add_assoc] at hK
   repeat' (first | refine je rfl hll ?_ | refine ji rfl rfl (by omega) he rfl ?_ | refine ji rfl rfl (by omega) hx rfl ?_ | refine jG rfl rfl hq ?_ | refine st1 ?_ | intro u)
   exact ih1 _ (by rfl) (by rfl) (by rfl) (by rfl) (by rfl) (by rfl) (by rfl) hK
  ·rw [decide_eq_false e] at hq
   rw [if_neg e,Nat.zero_add] at hK
   repeat' (first | refine je rfl hll ?_ | refine ji rfl rfl (by omega) he rfl ?_ | refine ji rfl rfl (by omega) hx rfl ?_ | refine jG rfl rfl hq ?_ | refine st1 ?_ | intro u)
   exact ih0 _ (by rfl) (by rfl) (by rfl) (by rfl) (by rfl) (by rfl) (by rfl) hK
theorem jeq {B:List LineS} {j:Nat} {y:LineS} (h:B[j]? = some y):(B.map encLn)[(((j + 1:Nat):Int) - 1).toNat]? = some (encLn y):=by
 have:(((j + 1:Nat):Int) - 1).toNat=j:=by omega
 rw [this,List.getElem?_map,h]
 rfl
theorem jj9 {K:KT} (l:List LineS) (hok:∀ z∈l,okLn z) (hlen:l.length≤40) (f t:Int):∀ (rest:List LineS) (i:Nat) (s:PS),(bestS f 1 t l).drop i=rest→i≤(bestS f 1 t l).length →
  s.t 0=.c (encLs l)→s.t 7=.c (.int .i64 f)→s.t 9=.c (encLs (bestS f 1 t l))→s.t 10=.c (.int .i64 i) →
  (∀ s',s'.t 0=.c (encLs l)→s'.t 7=.c (.int .i64 f)→s'.t 9=.c (encLs (bestS f 1 t l))→K (.x 0) s')→wP (CP) (.loop b6_0) s K:=by
 have hbl:=ki f 1 t l
 have hcnt:=jep f 1 t l
 have hat:=@best_at f 1 t l
 have hmem:∀ z∈bestS f 1 t l,okLn z:=fun z hz=>hok z ((kh (preE f 1) l z).mp (List.mem_of_mem_take hz))
 generalize bestS f 1 t l=B at *
 intro rest
 induction rest with
 | nil =>
  intro i s hd hi t0 t7 t9 t10 hK
  refine jf ?_
  have:=jm hd hi
  subst this
  have hll:(B.map encLn).length=B.length:=List.length_map _
  rw [← ja t0,← ja t7,← ja t9,← ja t10]
  unfold encLs at *
  generalize B.map encLn=eB at *
  unfold b6_0
  repeat' (first | refine je rfl hll ?_ | refine st0 ?_ | intro u)
  exact hK _ (by rfl) (by rfl) (by rfl)
 | cons x rest ih =>
  intro i s hd hi t0 t7 t9 t10 hK
  refine jf ?_
  have he:(B.map encLn)[((i:Nat):Int).toNat]? = some (encLn x):=jp hd
  have hil:=jo hd
  have hxi:B[i]? = some x:=by have:=congrArg List.head? hd; simpa [List.head?_drop] using this
  have hll:(B.map encLn).length=B.length:=List.length_map _
  have l1:=fun (K:Ex→PS→Prop) s=>jj7 (K:=K) l B hlen x i f he l 0 0 s rfl (by omega) (by omega)
  have l2:=fun (K:Ex→PS→Prop) w s=>jj8 (K:=K) l B (by omega) x i f w he B 0 0 s rfl (by omega) (by omega)
  simp only [Nat.zero_add] at l1 l2
  have hc:=hcnt x
  have hxo:=hmem x (List.mem_of_getElem? hxi)
  have ih':=fun s=>ih (i + 1) s (jg hd) (by omega)
  clear ih
  generalize cntL x l=n1 at *
  generalize cntL x B=n2 at *
  have prev:i=0∨∃ j y,i=j + 1∧B[j]? = some y∧0≤aheadC f 1 x y∧(aheadC f 1 x y=0→keyP (placeOf y)≤keyP (placeOf x))∧okLn y:=by
   cases i with
   | zero=>exact .inl rfl
   | succ j =>
    have hj:j < B.length:=by omega
    exact .inr ⟨j,B[j],rfl,List.getElem?_eq_getElem hj,(Y1 (hat (List.getElem?_eq_getElem hj) hxi)).1,(Y1 (hat (List.getElem?_eq_getElem hj) hxi)).2,hmem _ (List.getElem_mem hj)⟩
  clear hat hmem hcnt hd
  rw [← ja t0,← ja t7,← ja t9,← ja t10]
  rcases prev with rfl | ⟨j,y,rfl,hy,h0,hk,hyo⟩
  ·unfold encLs at *
   generalize l.map encLn=el at *
   generalize B.map encLn=eB at *
   unfold encLn at he
   unfold b6_0
   repeat' (first | refine je rfl hll ?_ | refine st1 ?_ | intro u)
   refine l1 _ _ (by rfl) (by rfl) (by rfl) (by rfl) (by rfl) (by rfl) (by rfl) (fun s1 u0 u7 u9 u10 u11 u12=>?_)
   rw [← ja u0,← ja u7,← ja u9,← ja u10,← ja u11,← ja u12]
   repeat' (first | refine st0 ?_ | intro u)
   refine l2 _ _ _ (by rfl) (by rfl) (by rfl) (by rfl) (by rfl) (by rfl) (by rfl) (fun s1 u0 u7 u9 u10 u11 u12=>?_)
   rw [← ja u0,← ja u7,← ja u9,← ja u10,← ja u11,← ja u12]
   repeat' (first | refine st6 ?_ | intro u)
   exact ih' _ (by rfl) (by rfl) (by rfl) (by rfl) hK
  ·have he2:=jeq hy
   have c1:=Xu f 1 x y hxo.1 hyo.1
   have c2:=wk (placeOf x) hxo.2
   have c3:=wk (placeOf y) hyo.2
   generalize aheadC f 1 x y=ah at *
   generalize keyP (placeOf x)=kx at *
   generalize keyP (placeOf y)=ky at *
   unfold encLs at *
   generalize l.map encLn=el at *
   generalize B.map encLn=eB at *
   unfold encLine encLn placeOf encP at *
   dsimp only at *
   unfold b6_0
   by_cases hz:ah=0
   ·have hkk:=hk hz
    subst hz
    repeat' (first | refine je rfl hll ?_ | refine st1 ?_ | intro u)
    refine l1 _ _ (by rfl) (by rfl) (by rfl) (by rfl) (by rfl) (by rfl) (by rfl) (fun s1 u0 u7 u9 u10 u11 u12=>?_)
    rw [← ja u0,← ja u7,← ja u9,← ja u10,← ja u11,← ja u12]
    repeat' (first | refine st0 ?_ | intro u)
    refine l2 _ _ _ (by rfl) (by rfl) (by rfl) (by rfl) (by rfl) (by rfl) (by rfl) (fun s1 u0 u7 u9 u10 u11 u12=>?_)
    rw [← ja u0,← ja u7,← ja u9,← ja u10,← ja u11,← ja u12]
    repeat' (first | refine ji rfl rfl (by omega) he rfl ?_ | refine ji rfl rfl (by omega) he2 rfl ?_ | refine call4 rfl rfl rfl rfl c1 ?_ | refine call1 rfl c2 ?_ | refine call1 rfl c3 ?_ | refine st8 ?_ | intro u)
    exact ih' _ (by rfl) (by rfl) (by rfl) (by rfl) hK
   ·repeat' (first | refine je rfl hll ?_ | refine st1 ?_ | intro u)
    refine l1 _ _ (by rfl) (by rfl) (by rfl) (by rfl) (by rfl) (by rfl) (by rfl) (fun s1 u0 u7 u9 u10 u11 u12=>?_)
    rw [← ja u0,← ja u7,← ja u9,← ja u10,← ja u11,← ja u12]
    repeat' (first | refine st0 ?_ | intro u)
    refine l2 _ _ _ (by rfl) (by rfl) (by rfl) (by rfl) (by rfl) (by rfl) (by rfl) (fun s1 u0 u7 u9 u10 u11 u12=>?_)
    rw [← ja u0,← ja u7,← ja u9,← ja u10,← ja u11,← ja u12]
    repeat' (first | refine ji rfl rfl (by omega) he rfl ?_ | refine ji rfl rfl (by omega) he2 rfl ?_ | refine call4 rfl rfl rfl rfl c1 ?_ | refine st8 ?_ | intro u)
    exact ih' _ (by rfl) (by rfl) (by rfl) (by rfl) hK
theorem jka {K:KT} (l B:List LineS) (hlen:B.length≤40) (x:LineS) (k:Nat) (f:Int) (hx:(l.map encLn)[((k:Nat):Int).toNat]? = some (encLn x)):∀ (rest:List LineS) (j:Nat) (b:Bool) (s:PS),B.drop j=rest→j≤B.length →
  s.t 0=.c (encLs l)→s.t 7=.c (.int .i64 f)→s.t 9=.c (encLs B)→s.t 15=.c (.int .i64 k)→s.t 16=.c (.bool b)→s.t 17=.c (.int .i64 j) →
  (∀ s',s'.t 0=.c (encLs l)→s'.t 7=.c (.int .i64 f)→s'.t 9=.c (encLs B)→s'.t 15=.c (.int .i64 k)→s'.t 16=.c (.bool (b || rest.any fun y=>decide (y=x)))→K (.x 8) s')→wP (CP) (.loop b6_4) s K:=by
 intro rest
 induction rest with
 | nil =>
  intro j b s hd hi t0 t7 t9 t15 t16 t17 hK
  refine jf ?_
  have:=jm hd hi
  subst this
  rw [List.any_nil,Bool.or_false] at hK
  have hll:(B.map encLn).length=B.length:=List.length_map _
  rw [← ja t0,← ja t7,← ja t9,← ja t15,← ja t16,← ja t17]
  unfold encLs at *
  generalize B.map encLn=eB at *
  unfold b6_4
  repeat' (first | refine je rfl hll ?_ | refine st0 ?_ | intro u)
  exact hK _ (by rfl) (by rfl) (by rfl) (by rfl) (by rfl)
 | cons y rest ih =>
  intro j b s hd hi t0 t7 t9 t15 t16 t17 hK
  refine jf ?_
  have he:(B.map encLn)[((j:Nat):Int).toNat]? = some (encLn y):=jp hd
  have hil:=jo hd
  have hll:(B.map encLn).length=B.length:=List.length_map _
  have hq:=VT y x
  rw [List.any_cons] at hK
  have ih':=fun b s=>ih (j + 1) b s (jg hd) (by omega)
  clear ih
  generalize decide (y=x)=e at *
  rw [← ja t0,← ja t7,← ja t9,← ja t15,← ja t16,← ja t17]
  unfold encLs at *
  generalize l.map encLn=el at *
  generalize B.map encLn=eB at *
  unfold encLn at hq he hx
  unfold b6_4
  cases b with
  | true =>
   rw [Bool.true_or] at hK
   repeat' (first | refine je rfl hll ?_ | refine st4 ?_ | intro u)
   exact ih' true _ (by rfl) (by rfl) (by rfl) (by rfl) (by rfl) (by rfl) (by rw [Bool.true_or]; exact hK)
  | false =>
   rw [Bool.false_or] at hK
   repeat' (first | refine je rfl hll ?_ | refine ji rfl rfl (by omega) he rfl ?_ | refine ji rfl rfl (by omega) hx rfl ?_ | refine jG rfl rfl hq ?_ | refine st4 ?_ | intro u)
   exact ih' e _ (by rfl) (by rfl) (by rfl) (by rfl) (by rfl) (by rfl) hK
theorem jkb {K:KT} (l:List LineS) (hok:∀ z∈l,okLn z) (hlen:l.length≤40) (f t:Int):∀ (rest:List LineS) (k:Nat) (s:PS),l.drop k=rest→k≤l.length →
  s.t 0=.c (encLs l)→s.t 7=.c (.int .i64 f)→s.t 9=.c (encLs (bestS f 1 t l))→s.t 15=.c (.int .i64 k) →
  (∀ s',K (.x 6) s')→wP (CP) (.loop b6_3) s K:=by
 have hbl:=ki f 1 t l
 have hout:=@best_out f 1 t l
 have hmem:∀ z∈bestS f 1 t l,okLn z:=fun z hz=>hok z ((kh (preE f 1) l z).mp (List.mem_of_mem_take hz))
 generalize bestS f 1 t l=B at *
 have hlB:(B.map encLn).length=B.length:=List.length_map _
 have hll:(l.map encLn).length=l.length:=List.length_map _
 intro rest
 induction rest with
 | nil =>
  intro k s hd hi t0 t7 t9 t15 hK
  refine jf ?_
  have:=jm hd hi
  subst this
  rw [← ja t0,← ja t7,← ja t9,← ja t15]
  unfold encLs at *
  generalize B.map encLn=eB at *
  generalize l.map encLn=el at *
  unfold b6_3
  repeat' (first | refine je rfl hll ?_ | refine st2 ?_ | intro u)
  exact hK _
 | cons x rest ih =>
  intro k s hd hi t0 t7 t9 t15 hK
  refine jf ?_
  have hget:(l.map encLn)[((k:Nat):Int).toNat]? = some (encLn x):=jp hd
  have hil:=jo hd
  have hxl:x∈l:=List.mem_of_mem_drop (by rw [hd]; simp)
  have l4:=fun (K:Ex→PS→Prop) s=>jka (K:=K) l B (by omega) x k f hget B 0 false s rfl (by omega)
  simp only [Bool.false_or] at l4
  have ih':=fun s=>ih (k + 1) s (jg hd) (by omega)
  clear ih
  by_cases hB0:B.length=0
  ·rw [← ja t0,← ja t7,← ja t9,← ja t15]
   unfold encLs at *
   generalize B.map encLn=eB at *
   generalize l.map encLn=el at *
   unfold b6_3
   repeat' (first | refine je rfl hll ?_ | refine je rfl hlB ?_ | refine st2 ?_ | intro u)
   exact hK _
  ·have hlt:B.length - 1 < B.length:=by omega
   have hz:(B.map encLn)[((B.length:Int) - 1).toNat]? = some (encLn B[B.length - 1]):=by
    have e:((B.length:Int) - 1).toNat=B.length - 1:=by omega
    rw [e,List.getElem?_map,List.getElem?_eq_getElem hlt]
    rfl
   have hzm:B[B.length - 1]∈B:=List.getElem_mem hlt
   have hzo:=hmem _ hzm
   have hgo:(B.any fun y=>decide (y=x))=false→0≤aheadC f 1 x B[B.length - 1]:=fun h=>by
    have hn:x ∉ B:=fun hx=>by
     have:=List.any_eq_false.mp h x hx
     simp at this
    exact (Y1 (hout hxl hn hzm)).1
   have c1:=Xu f 1 x B[B.length - 1] (hok x hxl).1 hzo.1
   generalize (B.any fun y=>decide (y=x))=inn at *
   generalize aheadC f 1 x B[B.length - 1]=ah at *
   generalize B[B.length - 1]=z at *
   clear hout hmem hd
   rw [← ja t0,← ja t7,← ja t9,← ja t15]
   unfold encLs at *
   generalize B.map encLn=eB at *
   generalize l.map encLn=el at *
   unfold encLine encLn at *
   unfold b6_3
   cases inn with
   | true =>
    repeat' (first | refine je rfl hll ?_ | refine je rfl hlB ?_ | refine st2 ?_ | intro u)
    refine l4 _ _ (by rfl) (by rfl) (by rfl) (by rfl) (by rfl) (by rfl) (fun s1 u0 u7 u9 u15 u16=>?_)
    rw [← ja u0,← ja u7,← ja u9,← ja u15,← ja u16]
    repeat' (first | refine st6 ?_ | intro u)
    exact ih' _ (by rfl) (by rfl) (by rfl) (by rfl) hK
   | false =>
    have hge:=hgo rfl
    repeat' (first | refine je rfl hll ?_ | refine je rfl hlB ?_ | refine st2 ?_ | intro u)
    refine l4 _ _ (by rfl) (by rfl) (by rfl) (by rfl) (by rfl) (by rfl) (fun s1 u0 u7 u9 u15 u16=>?_)
    rw [← ja u0,← ja u7,← ja u9,← ja u15,← ja u16]
    repeat' (first | refine je rfl hlB ?_ | refine ji rfl rfl (by omega) hget rfl ?_ | refine ji rfl rfl (by omega) hz rfl ?_ | refine call4 rfl rfl rfl rfl c1 ?_ | refine st6 ?_ | intro u)
    exact ih' _ (by rfl) (by rfl) (by rfl) (by rfl) hK
theorem jc5 {a b:Int} (ha:0≤a) (hb:0 < b):0≤a.tmod b∧a.tmod b < b:=⟨Int.tmod_nonneg b ha,Int.tmod_lt_of_pos a hb⟩
theorem jac (l:List LineS) (hok:∀ z∈l,okLn z) (hl:l.length≤9223372036854775807) (fn top:Int) (hf:0≤fn∧fn≤255) (ht:0≤top∧top≤255):CP 6 [.c (encLs l),.c (.int .u8 fn),.c (.int .u8 top)] (.c (.bool true)) []:=by
 have cw:=ve
 obtain ⟨f0,f1⟩:=jc5 (a:=fn) (b:=5) hf.1 (by omega)
 obtain ⟨t0,t1⟩:=jc5 (a:=top) (b:=12) ht.1 (by omega)
 have hr1:binC .rem (.int .u8 fn) (.int .u8 5)=some (.int .u8 (fn.tmod 5)):=rfl
 have hr2:binC .rem (.int .u8 top) (.int .u8 12)=some (.int .u8 (top.tmod 12)):=rfl
 refine pcallF Tryz.func6 c6 rfl ?_
 generalize fn.tmod 5=mf at *
 generalize top.tmod 12=mt at *
 have hll:(l.map encLn).length=l.length:=List.length_map _
 by_cases hlen:l.length≤40
 ·have c1:=VS l (1 + mf) 1 mt hok (by omega)
  have l0:=fun (K:Ex→PS→Prop) s=>jj9 (K:=K) l hok hlen (1 + mf) mt (bestS (1 + mf) 1 mt l) 0 s rfl (by omega)
  have l3:=fun (K:Ex→PS→Prop) s=>jkb (K:=K) l hok hlen (1 + mf) mt l 0 s rfl (by omega)
  have hbl:(bestS (1 + mf) 1 mt l).length=min mt.toNat l.length:=by
   unfold bestS topN
   rw [List.length_take,jy]
   omega
  generalize bestS (1 + mf) 1 mt l=B at *
  have hlB:(B.map encLn).length=B.length:=List.length_map _
  unfold encLs at *
  generalize B.map encLn=eB at *
  generalize l.map encLn=el at *
  unfold p6
  repeat' (first | refine je rfl hll ?_ | refine je rfl hlB ?_ | refine vC rfl rfl hr1 ?_ | refine vC rfl rfl hr2 ?_ | refine call4 rfl rfl rfl rfl c1 ?_ | refine st7 ?_ | intro u)
  refine l0 _ _ (by rfl) (by rfl) (by rfl) (by rfl) (fun s1 u0 u7 u9=>?_)
  rw [← ja u0,← ja u7,← ja u9]
  repeat' (first | refine st0 ?_ | intro u)
  refine l3 _ _ (by rfl) (by rfl) (by rfl) (by rfl) (fun s1=>?_)
  repeat' (first | refine call0 cw ?_ | refine st0 ?_ | intro u)
  exact jd rfl rfl
 ·unfold encLs at *
  generalize l.map encLn=el at *
  unfold p6
  repeat' (first | refine je rfl hll ?_ | refine call0 cw ?_ | refine st2 ?_ | intro u)
  exact jd rfl rfl
theorem jad (c0:CV) (h0:LF.Ok (.sl [.int .u8,.int .u8,.int .u8,.int .u8,.int .i64,.int .i64,.int .i64,.int .i64,.int .i64,.int .i64,.int .i64]) c0) (c1:CV) (h1:LF.Ok (.int .u8) c1) (c2:CV) (h2:LF.Ok (.int .u8) c2):CP 6 [.c c0,.c c1,.c c2] (.c (.bool true)) []:=by
 obtain ⟨l,rfl,hok,hl⟩:=Yo h0
 obtain ⟨f,rfl,qf⟩:=X3 h1
 obtain ⟨t,rfl,qt⟩:=X3 h2
 exact jac l hok hl f t qf qt
end Go.Proofs.YtnpncbplhdnonaaGreat
/- Part of the proof of ExecTells, ExecAnswers, ExecBest, ExecFirst, ExecLevels, ExecTops, ExecLimits: lemmas. -/
import Derived.Test.YtnpncbplhdnonaaGreatExecS13
import Derived.Test.YtnpncbplhdnonaaGreatExecS15
import Derived.Test.YtnpncbplhdnonaaGreatExecS16
import Derived.Test.YtnpncbplhdnonaaGreatExecS17
import Derived.Test.YtnpncbplhdnonaaGreatExecS18
set_option linter.unusedVariables false
set_option linter.unusedSimpArgs false
namespace Go.Proofs.YtnpncbplhdnonaaGreat
open Go.Pl Go.Bag
set_option maxRecDepth 100000
set_option maxHeartbeats 8000000
def back3 (w:Bool × Int × Int):Int × Bool :=
 if w.2.1≠0∨9223372036854775808 < w.2.2∨(w.2.2=9223372036854775808∧w.1=false) then (0,false)
 else if w.2.2=9223372036854775808 then (-9223372036854775808,true) else if w.1 then (-w.2.2,true) else (w.2.2,true)
theorem jfx (z:Int):back3 (of3 z)=if I64 z then (z,true) else (0,false):=by
 have h1:=j9 z
 unfold back3 of3
 simp only
 unfold absI at *
 by_cases hz:z < 0
 ·simp only [hz,if_true,decide_true] at *
  split
  ·rename_i h; rw [if_neg (show ¬ I64 z by unfold I64; simp at h; omega)]
  ·rename_i h; simp at h; split
   ·rw [if_pos (show I64 z by unfold I64; omega)]; congr 1; omega
   ·rw [if_pos (show I64 z by unfold I64; omega)]; congr 1; omega
 ·simp only [hz,if_false,decide_false] at *
  split
  ·rename_i h; rw [if_neg (show ¬ I64 z by unfold I64; simp at h; omega)]
  ·rename_i h; simp at h; split
   ·rename_i h2; exfalso; omega
   ·rw [if_pos (show I64 z by unfold I64; omega)]
    simp
    omega
theorem jii (w:Bool × Int × Int) (hw:in3 w):CP 146 [.c (.agg (enc3 w))] (.c (tupI (back3 w))) []:=by
 obtain ⟨n,h,l⟩:=w
 obtain ⟨⟨h1,h2⟩,h3,h4⟩:=hw
 simp only at h1 h2 h3 h4
 show PCallG _ 146 [.c (.agg [.bool n,.int .u64 h,.int .u64 l])] _ _
 refine pcallF Tryz.func146 c146 rfl ?_
 unfold p146
 by_cases hh:h=0
 ·by_cases hl:9223372036854775808 < l
  ·have e:back3 (n,h,l)=(0,false):=by simp [back3,hl]
   rw [e]
   repeat' (first | refine st3 ?_ | intro u)
   exact jd rfl rfl
  ·by_cases hq:l=9223372036854775808
   ·cases n with
    | false =>
     have e:back3 (false,h,l)=(0,false):=by simp [back3,hq]
     rw [e]
     repeat' (first | refine st2 ?_ | intro u)
     exact jd rfl rfl
    | true =>
     have e:back3 (true,h,l)=(-9223372036854775808,true):=by simp [back3,hq,hh]
     rw [e]
     repeat' (first | refine st2 ?_ | intro u)
     exact jd rfl rfl
   ·cases n with
    | false =>
     have e:back3 (false,h,l)=(l,true):=by simp [back3,hq,hh]; omega
     rw [e]
     repeat' (first | refine st2 ?_ | intro u)
     exact jd rfl rfl
    | true =>
     have e:back3 (true,h,l)=(-l,true):=by simp [back3,hq,hh]; omega
     rw [e]
     repeat' (first | refine st2 ?_ | intro u)
     exact jd rfl rfl
 ·have e:back3 (n,h,l)=(0,false):=by simp [back3,hh]
  rw [e]
  repeat' (first | refine st3 ?_ | intro u)
  exact jd rfl rfl
def wideS:Bool × Int × Int→List Run→Bool × Int × Int
 | w,[]=>w
 | w,r::l=>wideS (plus3 w (of3 (r.1 * r.2))) l
theorem Zv:∀ (l:List Run) (w:Bool × Int × Int),in3 w→in3 (wideS w l)
 | [],_,h=>h
 | r::l,_,_=>Zv l _ jfv
theorem WY:∀ (l:List Run) (z:Int),pos l→ranged l→absI z + 9223372036854775808 * sum l < 340282366920938463463374607431768211456→wideS (of3 z) l=of3 (z + wsum l)
 | [],z,_,_,_=>by simp [wideS,wsum]
 | r::l,z,hp,hr,hb=>by
  have h1:=hp r (by simp)
  have hp':pos l:=fun q hq=>hp q (by simp [hq])
  have h2:=js hp'
  have h3:=Jz (hr r (by simp)).1 (show 0≤r.2 by omega)
  have h4:=j9 z
  simp only [sum] at hb
  have h5:absI (r.1 * r.2)≤9223372036854775808 * r.2:=by
   unfold absI
   split <;> omega
  have h6:absI (z + r.1 * r.2)≤absI z + absI (r.1 * r.2):=by
   unfold absI
   split <;> split <;> split <;> omega
  rw [wideS,jfw (by omega),WY l (z + r.1 * r.2) hp' (fun q hq=>hr q (by simp [hq])) (by omega)]
  simp only [wsum]
  congr 1
  omega
theorem jdt {K:KT} (l:List Run) (hlen:l.length < 1000000) (v2 v3:Nat) (c2:List CV):∀ (rest:List Run) (i:Nat) (w:Bool × Int × Int) (s:PS),l.drop i=rest→i≤l.length→ranged rest →
  s.t 0=.c (encL l)→s.t 4=.c (.int .i64 i)→s.t 3=.ptr 3 v3 0→s.bx 3=⟨v3,.var (enc3 w)⟩→s.t 2=.ptr 2 v2 0→s.bx 2=⟨v2,.var c2⟩ →
  (∀ s',s'.t 3=.ptr 3 v3 0→s'.bx 3=⟨v3,.var (enc3 (wideS w rest))⟩→s'.t 2=.ptr 2 v2 0→s'.bx 2=⟨v2,.var c2⟩→K (.x 0) s')→wP (CP) (.loop b116_0) s K:=by
 intro rest
 induction rest with
 | nil =>
  intro i w s hd hi hr t0 t4 t3 b3 t2 b2 hx
  refine jf ?_
  have hi':=vi hd hi
  subst hi'
  rw [← ja t0,← ja t4,← ja t3,← jc b3,← ja t2,← jc b2]
  unfold b116_0
  repeat' (first | refine je rfl (List.length_map _) ?_ | refine st0 ?_ | intro u)
  exact hx _ rfl rfl rfl rfl
 | cons r rest ih =>
  intro i w s hd hi hr t0 t4 t3 b3 t2 b2 hx
  refine jf ?_
  have he:=kP hd
  have hil:=vh hd
  have hn:=kz hd
  have hr0:=hr r (by simp)
  have hT:=Jk r.1 r.2 hr0.1 hr0.2
  rw [← Wq] at hT
  have hP:=jih w (of3 (r.1 * r.2))
  rw [← ja t0,← ja t4,← ja t3,← jc b3,← ja t2,← jc b2]
  unfold b116_0
  repeat' (first | refine je rfl (List.length_map _) ?_ | refine call2 rfl rfl hT ?_ | refine call2 rfl rfl hP ?_ | refine st4 ?_ | intro u)
  exact ih (i + 1) (plus3 w (of3 (r.1 * r.2))) _ hn (by omega) (fun q hq=>hr q (by simp [hq])) (by rfl) (by rfl) (by rfl) (by rfl) (by rfl) (by rfl) hx
theorem jca (l:List Run) (hlen:l.length < 1000000) (hr:ranged l):CP 116 [.c (encL l)] (.c (.agg (enc3 (wideS (of3 0) l)))) []:=by
 refine pcallF Tryz.func116 c116 rfl ?_
 unfold p116
 repeat' (first | refine st3 ?_ | intro u)
 refine jdt l hlen _ _ _ l 0 (of3 0) _ rfl (by omega) hr (by rfl) (by rfl) (by rfl) (by rfl) (by rfl) (by rfl) ?_
 intro s' t3 b3 t2 b2
 rw [← ja t3,← jc b3,← ja t2,← jc b2]
 repeat' (first | refine st0 ?_ | intro u)
 exact jd (jh rfl rfl rfl rfl jk) rfl
set_option maxRecDepth 100000
set_option maxHeartbeats 8000000
def cmpI (a b:Int):Int:=if a < b then -1 else if b < a then 1 else 0
theorem JH (a b:Int):-1≤cmpI a b∧cmpI a b≤1:=by unfold cmpI; split <;> (try split) <;> omega
theorem jcb (a:Int):CP 120 [.c (.int .i64 a)] (.c (.bool false)) []:=by
 refine pcallF Tryz.func120 c120 rfl ?_
 unfold p120
 repeat' (first | refine st2 ?_ | intro u)
 exact jd rfl rfl
theorem Zw (a:Int):CP 150 [.c (.int .i64 a)] (.c (.bool false)) []:=by
 refine pcallF Tryz.func150 c150 rfl ?_
 unfold p150
 repeat' (first | refine st2 ?_ | intro u)
 exact jd rfl rfl
theorem Zx (a:Int):CP 151 [.c (.int .u64 a)] (.c (.bool false)) []:=by
 refine pcallF Tryz.func151 c151 rfl ?_
 unfold p151
 repeat' (first | refine st2 ?_ | intro u)
 exact jd rfl rfl
theorem kG (a b:Int):CP 80 [.c (.int .i64 a),.c (.int .i64 b)] (.c (.int .i64 (cmpI a b))) []:=by
 refine pcallF Tryz.func80 c80 rfl ?_
 have c1:=jcb a
 have c2:=jcb b
 unfold p80
 by_cases h1:a < b
 ·rw [show cmpI a b=-1 by simp [cmpI,h1]]
  repeat' (first | refine call1 rfl c1 ?_ | refine call1 rfl c2 ?_ | refine st2 ?_ | intro u)
  exact jd rfl rfl
 ·by_cases h2:b < a
  ·rw [show cmpI a b=1 by simp [cmpI,h1,h2]]
   repeat' (first | refine call1 rfl c1 ?_ | refine call1 rfl c2 ?_ | refine st2 ?_ | intro u)
   exact jd rfl rfl
  ·rw [show cmpI a b=0 by simp [cmpI,h1,h2]]
   repeat' (first | refine call1 rfl c1 ?_ | refine call1 rfl c2 ?_ | refine st2 ?_ | intro u)
   exact jd rfl rfl
theorem jaw (a b:Int):CP 122 [.c (.int .i64 a),.c (.int .i64 b)] (.c (.int .i64 (cmpI a b))) []:=by
 refine pcallF Tryz.func122 c122 rfl ?_
 have c1:=Zw a
 have c2:=Zw b
 unfold p122
 by_cases h1:a < b
 ·rw [show cmpI a b=-1 by simp [cmpI,h1]]
  repeat' (first | refine call1 rfl c1 ?_ | refine call1 rfl c2 ?_ | refine st2 ?_ | intro u)
  exact jd rfl rfl
 ·by_cases h2:b < a
  ·rw [show cmpI a b=1 by simp [cmpI,h1,h2]]
   repeat' (first | refine call1 rfl c1 ?_ | refine call1 rfl c2 ?_ | refine st2 ?_ | intro u)
   exact jd rfl rfl
  ·rw [show cmpI a b=0 by simp [cmpI,h1,h2]]
   repeat' (first | refine call1 rfl c1 ?_ | refine call1 rfl c2 ?_ | refine st2 ?_ | intro u)
   exact jd rfl rfl
theorem WZ (a b:Int):CP 125 [.c (.int .u64 a),.c (.int .u64 b)] (.c (.int .i64 (cmpI a b))) []:=by
 refine pcallF Tryz.func125 c125 rfl ?_
 have c1:=Zx a
 have c2:=Zx b
 unfold p125
 by_cases h1:a < b
 ·rw [show cmpI a b=-1 by simp [cmpI,h1]]
  repeat' (first | refine call1 rfl c1 ?_ | refine call1 rfl c2 ?_ | refine st2 ?_ | intro u)
  exact jd rfl rfl
 ·by_cases h2:b < a
  ·rw [show cmpI a b=1 by simp [cmpI,h1,h2]]
   repeat' (first | refine call1 rfl c1 ?_ | refine call1 rfl c2 ?_ | refine st2 ?_ | intro u)
   exact jd rfl rfl
  ·rw [show cmpI a b=0 by simp [cmpI,h1,h2]]
   repeat' (first | refine call1 rfl c1 ?_ | refine call1 rfl c2 ?_ | refine st2 ?_ | intro u)
   exact jd rfl rfl
theorem jko (a b:Int):CP 44 [.c (encIL [a,b])] (.c (.int .i64 (if a≠0 then a else b))) []:=by
 refine pcallF Tryz.func44 c44 rfl ?_
 have h0:([a,b].map encI)[(0:Int).toNat]? = some (encI a):=rfl
 have h1:([a,b].map encI)[(1:Int).toNat]? = some (encI b):=rfl
 unfold p44
 repeat' (first | refine je (n:=2) rfl rfl ?_ | refine st0 ?_ | intro u)
 refine jf ?_
 unfold b44_0
 by_cases ha:a=0
 ·rw [if_neg (by omega)]
  repeat' (first | refine st1 ?_ | intro u)
  refine jf ?_
  by_cases hb:b=0
  ·repeat' (first | refine st1 ?_ | intro u)
   refine jf ?_
   repeat' (first | refine st0 ?_ | intro u)
   exact jd rfl (by rw [hb]; rfl)
  ·repeat' (first | refine st3 ?_ | intro u)
   exact jd rfl rfl
 ·rw [if_pos (by omega)]
  repeat' (first | refine st3 ?_ | intro u)
  exact jd rfl rfl
def sgn2 (a b:Int):Int:=cmpI a 0 * cmpI b 0
theorem jfy (a b:Int):CP 121 [.c (.int .i64 a),.c (.int .i64 b)] (.c (.int .i64 (sgn2 a b))) []:=by
 refine pcallF Tryz.func121 c121 rfl ?_
 have c1:=kG a 0
 have c2:=kG b 0
 have h1:=JH a 0
 have h2:=JH b 0
 unfold sgn2
 generalize cmpI a 0=s at *
 generalize cmpI b 0=t at *
 have h3:-9223372036854775808≤s * t∧s * t≤9223372036854775807:=by
  obtain rfl | rfl | rfl:s=-1∨s=0∨s=1:=by omega
  all_goals omega
 unfold p121
 repeat' (first | refine call2 rfl rfl c1 ?_ | refine call2 rfl rfl c2 ?_ | refine Yq rfl rfl h3 ?_ | refine st0 ?_ | intro u)
 exact jd rfl rfl
theorem jij (a b:Int):sgn2 a b=cmpI (a * b) 0:=by
 unfold sgn2 cmpI
 rcases Int.lt_trichotomy a 0 with ha | ha | ha
 ·rcases Int.lt_trichotomy b 0 with hb | hb | hb
  ·have:=Int.mul_pos_of_neg_of_neg ha hb
   rw [if_pos ha,if_pos hb,if_neg (by omega),if_pos this]; rfl
  ·subst hb; simp
  ·have:=Int.mul_neg_of_neg_of_pos ha hb
   rw [if_pos ha,if_neg (by omega),if_pos hb,if_pos this]; rfl
 ·subst ha; simp
 ·rcases Int.lt_trichotomy b 0 with hb | hb | hb
  ·have:=Int.mul_neg_of_pos_of_neg ha hb
   rw [if_neg (by omega),if_pos ha,if_pos hb,if_pos this]; rfl
  ·subst hb; simp
  ·have:=Int.mul_pos ha hb
   rw [if_neg (by omega),if_pos ha,if_neg (by omega),if_pos hb,if_neg (by omega),if_pos this]; rfl
theorem Zy (a b:Int):absI a * absI b=absI (a * b):=by
 have h:=WW a b
 have h0:=Int.mul_nonneg (j9 a) (j9 b)
 rw [h] at h0 ⊢
 by_cases hc:(a < 0)≠(b < 0)
 ·rw [if_pos hc] at h0 ⊢
  unfold absI; split <;> omega
 ·rw [if_neg hc] at h0 ⊢
  unfold absI; split <;> omega
theorem jlw {x y:Int} (h:cmpI x 0≠cmpI y 0):cmpI (cmpI x 0) (cmpI y 0)=cmpI x y:=by
 unfold cmpI at *
 rcases Int.lt_trichotomy x 0 with hx | hx | hx <;> rcases Int.lt_trichotomy y 0 with hy | hy | hy
 all_goals
  first
   | (exfalso; apply h; simp [hx,hy,show ¬ x < 0 by omega,show ¬ y < 0 by omega]; done)
   | (exfalso; apply h; simp [hx,hy]; done)
   | skip
 all_goals
  have a1:(if x < 0 then (-1:Int) else if 0 < x then 1 else 0)=(if x < 0 then (-1:Int) else if 0 < x then 1 else 0):=rfl
  (repeat' split) <;> omega
theorem jik {x y:Int} (h:cmpI x 0=cmpI y 0):cmpI x 0 * cmpI (absI x) (absI y)=cmpI x y:=by
 unfold cmpI absI at *
 rcases Int.lt_trichotomy x 0 with hx | hx | hx <;> rcases Int.lt_trichotomy y 0 with hy | hy | hy
 all_goals
  first
   | (rw [if_pos hx] at h ⊢; rw [if_pos hx,if_pos hy]; (repeat' split) <;> omega)
   | (subst hx; subst hy; simp; done)
   | (rw [if_neg (show ¬ x < 0 by omega),if_pos hx] at h ⊢; rw [if_neg (show ¬ x < 0 by omega),if_neg (show ¬ y < 0 by omega)]; (repeat' split) <;> omega)
   | (exfalso; revert h; (repeat' split) <;> omega)
theorem jdu {A B:Int} (hA:0≤A) (hB:0≤B):(if cmpI (A / 18446744073709551616) (B / 18446744073709551616)≠0 then cmpI (A / 18446744073709551616) (B / 18446744073709551616) else cmpI (A % 18446744073709551616) (B % 18446744073709551616))=cmpI A B:=by
 unfold cmpI
 by_cases h1:A / 18446744073709551616 < B / 18446744073709551616
 ·rw [if_pos h1,if_pos (by decide),if_pos (by omega)]
 ·by_cases h2:B / 18446744073709551616 < A / 18446744073709551616
  ·rw [if_neg h1,if_pos h2,if_pos (by decide),if_neg (by omega),if_pos (by omega)]
  ·rw [if_neg h1,if_neg h2,if_neg (by decide)]
   by_cases h3:A % 18446744073709551616 < B % 18446744073709551616
   ·rw [if_pos h3,if_pos (by omega)]
   ·by_cases h4:B % 18446744073709551616 < A % 18446744073709551616
    ·rw [if_neg h3,if_pos h4,if_neg (by omega),if_pos (by omega)]
    ·rw [if_neg h3,if_neg h4,if_neg (by omega),if_neg (by omega)]
theorem jkp (a b c d:Int) (ha:I64 a) (hb:I64 b) (hc:I64 c) (hd:I64 d):CP 81 [.c (.int .i64 a),.c (.int .i64 b),.c (.int .i64 c),.c (.int .i64 d)] (.c (.int .i64 (cmpI (a * b) (c * d)))) []:=by
 refine pcallF Tryz.func81 c81 rfl ?_
 have c1:=jfy a b
 have c2:=jfy c d
 rw [jij] at c1 c2
 have i1:=JH (a * b) 0
 have i2:=JH (c * d) 0
 have c3:=jaw (cmpI (a * b) 0) (cmpI (c * d) 0)
 have c4:=VL a ha
 have c5:=VL b hb
 have c6:=VL c hc
 have c7:=VL d hd
 have b4:=kQ ha
 have b5:=kQ hb
 have b6:=kQ hc
 have b7:=kQ hd
 have c8:=YF (absI a) (absI b) (by omega) (by omega)
 have c9:=YF (absI c) (absI d) (by omega) (by omega)
 have nab:=Int.mul_nonneg (j9 a) (j9 b)
 have ncd:=Int.mul_nonneg (j9 c) (j9 d)
 have hp:=jdu nab ncd
 by_cases hne:cmpI (a * b) 0=cmpI (c * d) 0
 ·have hfin:=jik hne
  rw [← Zy,← Zy] at hfin
  rw [← hfin,← hp]
  unfold mul64 at c8 c9
  generalize absI a * absI b / 18446744073709551616=h1 at *
  generalize absI a * absI b % 18446744073709551616=l1 at *
  generalize absI c * absI d / 18446744073709551616=h2 at *
  generalize absI c * absI d % 18446744073709551616=l2 at *
  have d1:=WZ h1 h2
  have d2:=WZ l1 l2
  have j1:=JH h1 h2
  have j2:=JH l1 l2
  have d3:=jko (cmpI h1 h2) (cmpI l1 l2)
  generalize cmpI h1 h2=p at *
  generalize cmpI l1 l2=q at *
  rw [← hne] at c2
  generalize cmpI (a * b) 0=s at *
  have hr:-1≤(if p≠0 then p else q)∧(if p≠0 then p else q)≤1:=by split <;> omega
  generalize (if p≠0 then p else q)=r at *
  have h3:-9223372036854775808≤s * r∧s * r≤9223372036854775807:=by
   obtain rfl | rfl | rfl:s=-1∨s=0∨s=1:=by omega
   all_goals omega
  unfold p81
  repeat' (first | refine call2 rfl rfl c1 ?_ | refine call2 rfl rfl c2 ?_ | refine call1 rfl c4 ?_ | refine call1 rfl c5 ?_ | refine call1 rfl c6 ?_ | refine call1 rfl c7 ?_ | refine call2 rfl rfl c8 ?_ | refine call2 rfl rfl c9 ?_ | refine call2 rfl rfl d1 ?_ | refine call2 rfl rfl d2 ?_ | refine call1 rfl d3 ?_ | refine Yq rfl rfl h3 ?_ | refine st5 ?_ | intro u)
  exact jd rfl rfl
 ·rw [← jlw hne]
  generalize cmpI (a * b) 0=s at *
  generalize cmpI (c * d) 0=t at *
  unfold p81
  repeat' (first | refine call2 rfl rfl c1 ?_ | refine call2 rfl rfl c2 ?_ | refine call2 rfl rfl c3 ?_ | refine st3 ?_ | intro u)
  exact jd rfl rfl
theorem jax (x y:Int):eqC true [LK.b,LK.i,LK.i] (.agg (cellsV x)) (.agg (cellsV y))=some (decide (x=y)):=by
 have h1:=j9 x
 have h2:=j9 y
 have e:eqC true [LK.b,LK.i,LK.i] (.agg (cellsV x)) (.agg (cellsV y))=some ((decide (x < 0) == decide (y < 0)) && ((absI x / 18446744073709551616 == absI y / 18446744073709551616) && ((absI x % 18446744073709551616 == absI y % 18446744073709551616) && true))):=by
  simp [eqC,cellsV,shEq]
 rw [e]
 congr 1
 by_cases h:x=y
 ·subst h; simp
 ·rw [decide_eq_false h]
  by_cases hs:(x < 0↔y < 0)
  ·have:¬ absI x=absI y:=by unfold absI; split <;> split <;> omega
   have:¬ (absI x / 18446744073709551616=absI y / 18446744073709551616∧absI x % 18446744073709551616=absI y % 18446744073709551616):=by omega
   simp only [Bool.and_true,Bool.and_eq_false_iff,beq_eq_false_iff_ne]
   by_cases h3:absI x / 18446744073709551616=absI y / 18446744073709551616
   ·exact .inr (.inr fun h4=>this ⟨h3,h4⟩)
   ·exact .inr (.inl h3)
  ·have:(decide (x < 0) == decide (y < 0))=false:=by
    rw [beq_eq_false_iff_ne]
    intro h3
    rw [decide_eq_decide] at h3
    exact hs h3
   rw [this]; rfl
theorem vI (x y:Int):CP 49 [.c (.agg (cellsV x)),.c (.agg (cellsV y))] (.c (.int .i64 (cmpI x y))) []:=by
 refine pcallF Tryz.func49 c49 rfl ?_
 have c1:=jb9 (of3 x) (of3 y)
 rw [Zu,Wq,Wq] at c1
 have e:=jax x y
 have nb:∀ p q:Bool,eqC false [LK.b] (CV.bool p) (CV.bool q)=some (p == q):=fun p q=>by simp [eqC,shEq]
 by_cases h0:x=y
 ·rw [decide_eq_true h0] at e
  rw [show cmpI x y=0 by subst h0; simp [cmpI]]
  unfold p49
  repeat' (first | refine jG rfl rfl e ?_ | refine st2 ?_ | intro u)
  exact jd rfl rfl
 ·rw [decide_eq_false h0] at e
  unfold cellsV at c1 e ⊢
  by_cases hx:x < 0
  ·by_cases hy:y < 0
   ·by_cases hl:absI x < absI y
    ·rw [show cmpI x y=1 by unfold cmpI absI at *; simp [hx,hy] at hl; rw [if_neg (by omega),if_pos (by omega)]]
     rw [decide_eq_true hl] at c1
     rw [decide_eq_true hx,decide_eq_true hy] at c1 e ⊢
     unfold p49
     repeat' (first  | refine jG rfl rfl e ?_ | refine call2 rfl rfl c1 ?_ | refine kO rfl rfl (nb _ _) ?_ | refine jK ?_ | refine jN ?_ | refine kK rfl ?_ | refine jE ?_ | refine ko ?_ | refine XL ?_ | refine jY ?_ | refine jP ?_ | refine j4 ?_ | refine jD rfl ?_ | refine kC rfl ?_ | refine kw rfl rfl rfl (fun u=>?_) | refine jl rfl (by decide) rfl (Nat.le_of_ble_eq_true rfl) rfl ?_ | refine jC rfl rfl rfl ?_)
     exact jd rfl rfl
    ·rw [show cmpI x y=-1 by unfold cmpI absI at *; simp [hx,hy] at hl; rw [if_pos (by omega)]]
     rw [decide_eq_false hl] at c1
     rw [decide_eq_true hx,decide_eq_true hy] at c1 e ⊢
     unfold p49
     repeat' (first  | refine jG rfl rfl e ?_ | refine call2 rfl rfl c1 ?_ | refine kO rfl rfl (nb _ _) ?_ | refine jK ?_ | refine jN ?_ | refine kK rfl ?_ | refine jE ?_ | refine ko ?_ | refine j8 ?_ | refine kl ?_ | refine jY ?_ | refine j4 ?_ | refine jR rfl ?_ | refine jD rfl ?_ | refine kC rfl ?_ | refine kw rfl rfl rfl (fun u=>?_) | refine jl rfl (by decide) rfl (Nat.le_of_ble_eq_true rfl) rfl ?_ | refine jC rfl rfl rfl ?_)
     exact jd rfl rfl
   ·rw [show cmpI x y=-1 by unfold cmpI; rw [if_pos (by omega)]]
    rw [decide_eq_true hx,decide_eq_false hy] at c1 e ⊢
    unfold p49
    repeat' (first  | refine jG rfl rfl e ?_ | refine kO rfl rfl (nb _ _) ?_ | refine jK ?_ | refine jN ?_ | refine jE ?_ | refine ko ?_ | refine j8 ?_ | refine kl ?_ | refine jY ?_ | refine j4 ?_ | refine jR rfl ?_ | refine jD rfl ?_ | refine kC rfl ?_ | refine kw rfl rfl rfl (fun u=>?_) | refine jl rfl (by decide) rfl (Nat.le_of_ble_eq_true rfl) rfl ?_ | refine jC rfl rfl rfl ?_)
    exact jd rfl rfl
  ·by_cases hy:y < 0
   ·rw [show cmpI x y=1 by unfold cmpI; rw [if_neg (by omega),if_pos (by omega)]]
    rw [decide_eq_false hx,decide_eq_true hy] at c1 e ⊢
    unfold p49
    repeat' (first  | refine jG rfl rfl e ?_ | refine kO rfl rfl (nb _ _) ?_ | refine jK ?_ | refine jN ?_ | refine jE ?_ | refine ko ?_ | refine j8 ?_ | refine kl ?_ | refine jY ?_ | refine jP ?_ | refine j4 ?_ | refine jR rfl ?_ | refine jD rfl ?_ | refine kC rfl ?_ | refine kw rfl rfl rfl (fun u=>?_) | refine jl rfl (by decide) rfl (Nat.le_of_ble_eq_true rfl) rfl ?_ | refine jC rfl rfl rfl ?_)
    exact jd rfl rfl
   ·by_cases hl:absI x < absI y
    ·rw [show cmpI x y=-1 by unfold cmpI absI at *; simp [hx,hy] at hl; rw [if_pos (by omega)]]
     rw [decide_eq_true hl] at c1
     rw [decide_eq_false hx,decide_eq_false hy] at c1 e ⊢
     unfold p49
     repeat' (first  | refine jG rfl rfl e ?_ | refine call2 rfl rfl c1 ?_ | refine kO rfl rfl (nb _ _) ?_ | refine jK ?_ | refine jN ?_ | refine kK rfl ?_ | refine jE ?_ | refine ko ?_ | refine j8 ?_ | refine kl ?_ | refine jY ?_ | refine j4 ?_ | refine jR rfl ?_ | refine jD rfl ?_ | refine kC rfl ?_ | refine kw rfl rfl rfl (fun u=>?_) | refine jl rfl (by decide) rfl (Nat.le_of_ble_eq_true rfl) rfl ?_ | refine jC rfl rfl rfl ?_)
     exact jd rfl rfl
    ·rw [show cmpI x y=1 by unfold cmpI absI at *; simp [hx,hy] at hl; rw [if_neg (by omega),if_pos (by omega)]]
     rw [decide_eq_false hl] at c1
     rw [decide_eq_false hx,decide_eq_false hy] at c1 e ⊢
     unfold p49
     repeat' (first  | refine jG rfl rfl e ?_ | refine call2 rfl rfl c1 ?_ | refine kO rfl rfl (nb _ _) ?_ | refine jK ?_ | refine jN ?_ | refine kK rfl ?_ | refine jE ?_ | refine ko ?_ | refine XL ?_ | refine jY ?_ | refine jP ?_ | refine j4 ?_ | refine jD rfl ?_ | refine kC rfl ?_ | refine kw rfl rfl rfl (fun u=>?_) | refine jl rfl (by decide) rfl (Nat.le_of_ble_eq_true rfl) rfl ?_ | refine jC rfl rfl rfl ?_)
     exact jd rfl rfl
theorem kI (a:Int) (ha:I64 a):CP 50 [.c (.int .i64 a)] (.c (.agg (cellsV a))) []:=by
 refine pcallF Tryz.func50 c50 rfl ?_
 have hA:=kQ ha
 have c1:=Vm a ha
 have e:cellsV a=[.bool (decide (a < 0)),.int .u64 0,.int .u64 (absI a)]:=by
  unfold cellsV
  rw [show absI a / 18446744073709551616=0 by omega,show absI a % 18446744073709551616=absI a by omega]
 rw [e]
 unfold p50
 repeat' (first  | refine call1 rfl c1 ?_ | refine jK ?_ | refine jN ?_ | refine jE ?_ | refine ko ?_ | refine j4 ?_ | refine kC rfl ?_ | refine Y3 rfl rfl ?_ | refine j5 (fun u=>?_) | refine j6 rfl rfl ?_ | refine jt rfl rfl (by decide) rfl rfl (Nat.le_of_ble_eq_true rfl) rfl ?_)
 exact jd (jh rfl rfl rfl rfl jk) rfl
theorem jkq (a b:Int) (ha:I64 a) (hb:I64 b):CP 130 [.c (.int .i64 a),.c (.int .i64 b)] (.c (if I64 (a + b) then .tup [.int .i64 (a + b),.bool true] else .tup [.int .i64 0,.bool false])) []:=by
 refine pcallF Tryz.func130 c130 rfl ?_
 have c1:=jif [a,b] (by simp) (fun x hx=>by simp at hx; rcases hx with rfl | rfl <;> assumption)
 have e:totI [a,b]=a + b:=by simp [totI]
 unfold totB at c1
 rw [e] at c1
 unfold p130
 by_cases h:I64 (a + b)
 ·rw [if_pos h] at c1 ⊢
  repeat' (first | refine call1 rfl c1 ?_ | refine st5 ?_ | intro u)
  exact jd rfl rfl
 ·rw [if_neg h] at c1 ⊢
  repeat' (first | refine call1 rfl c1 ?_ | refine st5 ?_ | intro u)
  exact jd rfl rfl
theorem jay (m:Int):CP 101 [.c (.int .i64 m)] (.c (.bool (decide (1≤m∧m≤2)))) []:=by
 refine pcallF Tryz.func101 c101 rfl ?_
 unfold p101
 by_cases h1:1≤m
 ·by_cases h2:m≤2
  ·rw [decide_eq_true (by omega)]
   repeat' (first | refine st2 ?_ | intro u)
   exact jd rfl rfl
  ·rw [decide_eq_false (by omega)]
   repeat' (first | refine st2 ?_ | intro u)
   exact jd rfl rfl
 ·rw [decide_eq_false (by omega)]
  repeat' (first | refine st2 ?_ | intro u)
  exact jd rfl rfl
set_option maxRecDepth 100000
set_option maxHeartbeats 16000000
theorem Wr (m:Int) (c:Cell) (hc:inC 1000000 c):CP 60 [.c (.int .i64 m),.c (encCell c)] (.c (.bool (goodC m c))) []:=by
 obtain ⟨n,s0,s1,b0,b1⟩:=c
 obtain ⟨hn,hs0,hs1,hr0,hr1,hl0,hl1⟩:=hc
 simp only at hn hs0 hs1 hr0 hr1 hl0 hl1
 show PCallG _ 60 [.c (.int .i64 m),.c (.agg [.int .i64 n,.int .i64 s0,.int .i64 s1,encL b0,encL b1])] _ _
 refine pcallF Tryz.func60 c60 rfl ?_
 have c1:=jay m
 have c2:=jkm b0 (by omega) hr0
 have c3:=jkm b1 (by omega) hr1
 have c4:=jb3 b0 (by omega)
 have c5:=jb3 b1 (by omega)
 -- what a measure's values come to,and what of it
 have key:∀ (b:List Run) (s:Int),I64 s→(gM b s n=true∧sumB b=(s,true)∧(if good b=true then sum b else 0)=n) ∨
   (gM b s n=false∧((sumB b).2=false∨((sumB b).2=true∧(sumB b).1≠s)∨((sumB b).2=true∧(sumB b).1=s∧(if good b=true then sum b else 0)≠n))):=fun b s hs=>by
  cases hg:good b with
  | false =>
   refine .inr ⟨by simp [gM,hg],.inl (by simp [sumB,hg])⟩
  | true =>
   by_cases hw:I64 (wsum b)
   ·have e:sumB b=(wsum b,true):=by simp [sumB,hg,hw]
    rw [e]
    simp only [if_true]
    by_cases h1:wsum b=s
    ·by_cases h2:sum b=n
     ·exact .inl ⟨by simp [gM,hg,h1,h2],by rw [h1],h2⟩
     ·exact .inr ⟨by simp [gM,h2],.inr (.inr ⟨trivial,h1,h2⟩)⟩
    ·exact .inr ⟨by simp [gM,h1],.inr (.inl ⟨trivial,h1⟩)⟩
   ·have e:sumB b=(0,false):=by simp [sumB,hw]
    refine .inr ⟨?_,.inl (by rw [e])⟩
    have:¬ wsum b=s:=fun h=>hw (by rw [h]; exact hs)
    simp [gM,this]
 unfold p60
 by_cases hm:1≤m∧m≤2
 ·rw [decide_eq_true hm] at c1
  by_cases hnn:1≤n∧n≤1099511627776
  ·have k0:=key b0 s0 hs0
   have k1:=key b1 s1 hs1
   generalize sumB b0=q at c2 k0
   generalize sumB b1=r at c3 k1
   obtain ⟨q1,q2⟩:=q
   obtain ⟨r1,r2⟩:=r
   generalize (if good b0=true then sum b0 else 0)=g0 at c4 k0
   generalize (if good b1=true then sum b1 else 0)=g1 at c5 k1
   rcases k0 with ⟨p1,p2,p3⟩ | ⟨p1,p2⟩
   ·obtain ⟨rfl,rfl⟩:=Prod.mk.inj p2
    subst p3
    repeat' (first | refine call1 rfl c1 ?_ | refine st2 ?_ | intro u)
    refine jf ?_
    unfold b60_0
    repeat' (first | refine VD rfl rfl ⟨by omega,by omega,Nat.le_of_ble_eq_true rfl⟩ rfl ?_ | refine call1 rfl c2 ?_ | refine call1 rfl c4 ?_ | refine st7 ?_ | intro u)
    refine jf ?_
    by_cases hm2:m=2
    ·rcases k1 with ⟨t1,t2,t3⟩ | ⟨t1,t2⟩
     ·obtain ⟨rfl,rfl⟩:=Prod.mk.inj t2
      subst t3
      rw [jq.mpr ⟨hm,hnn,p1,by rw [if_pos hm2]; exact t1⟩]
      repeat' (first | refine VD rfl rfl ⟨by omega,by omega,Nat.le_of_ble_eq_true rfl⟩ rfl ?_ | refine call1 rfl c3 ?_ | refine call1 rfl c5 ?_ | refine st7 ?_ | intro u)
      refine jf ?_
      repeat' (first | refine st0 ?_ | intro u)
      exact jd rfl rfl
     ·have e:goodC m ⟨g0,q1,s1,b0,b1⟩=false:=by
       rw [Bool.eq_false_iff]; intro h
       have:=(jq.mp h).2.2.2
       rw [if_pos hm2] at this
       rw [this] at t1; cases t1
      rw [e]
      simp only at t2
      rcases t2 with rfl | ⟨rfl,t2⟩ | ⟨rfl,rfl,t2⟩
      all_goals
       repeat' (first | refine VD rfl rfl ⟨by omega,by omega,Nat.le_of_ble_eq_true rfl⟩ rfl ?_ | refine call1 rfl c3 ?_ | refine call1 rfl c5 ?_ | refine st3 ?_ | intro u)
      all_goals exact jd rfl rfl
    ·by_cases h1:s1=0
     ·cases b1 with
      | nil =>
       rw [jq.mpr ⟨hm,hnn,p1,by rw [if_neg hm2]; exact ⟨h1,rfl⟩⟩]
       repeat' (first | refine VD rfl rfl ⟨by omega,by omega,Nat.le_of_ble_eq_true rfl⟩ rfl ?_ | refine je (es:=[]) rfl rfl ?_ | refine st7 ?_ | intro u)
       refine jf ?_
       repeat' (first | refine st0 ?_ | intro u)
       exact jd rfl rfl
      | cons x b1 =>
       have e:goodC m ⟨g0,q1,s1,b0,x::b1⟩=false:=by
        rw [Bool.eq_false_iff]; intro h
        have:=(jq.mp h).2.2.2
        rw [if_neg hm2] at this
        cases this.2
       rw [e]
       have hp:0 < (x::b1).length:=by simp
       repeat' (first | refine VD rfl rfl ⟨by omega,by omega,Nat.le_of_ble_eq_true rfl⟩ rfl ?_ | refine je rfl (List.length_map _) ?_ | refine st2 ?_ | intro u)
       exact jd rfl rfl
     ·have e:goodC m ⟨g0,q1,s1,b0,b1⟩=false:=by
       rw [Bool.eq_false_iff]; intro h
       have:=(jq.mp h).2.2.2
       rw [if_neg hm2] at this
       exact h1 this.1
      rw [e]
      repeat' (first | refine VD rfl rfl ⟨by omega,by omega,Nat.le_of_ble_eq_true rfl⟩ rfl ?_ | refine st3 ?_ | intro u)
      exact jd rfl rfl
   ·have e:goodC m ⟨n,s0,s1,b0,b1⟩=false:=by
     rw [Bool.eq_false_iff]; intro h
     have:=(jq.mp h).2.2.1
     simp only at this
     rw [this] at p1; cases p1
    rw [e]
    simp only at p2
    rcases p2 with rfl | ⟨rfl,p2⟩ | ⟨rfl,rfl,p2⟩
    all_goals
     repeat' (first | refine call1 rfl c1 ?_ | refine st2 ?_ | intro u)
    all_goals refine jf ?_
    all_goals
     unfold b60_0
    all_goals
     repeat' (first | refine VD rfl rfl ⟨by omega,by omega,Nat.le_of_ble_eq_true rfl⟩ rfl ?_ | refine call1 rfl c2 ?_ | refine call1 rfl c4 ?_ | refine st3 ?_ | intro u)
    all_goals exact jd rfl rfl
  ·have e:goodC m ⟨n,s0,s1,b0,b1⟩=false:=by
    rw [Bool.eq_false_iff]; intro h
    exact hnn (jq.mp h).2.1
   rw [e]
   by_cases h1:n < 1
   ·repeat' (first | refine call1 rfl c1 ?_ | refine st2 ?_ | intro u)
    exact jd rfl rfl
   ·repeat' (first | refine call1 rfl c1 ?_ | refine st2 ?_ | intro u)
    exact jd rfl rfl
 ·rw [decide_eq_false hm] at c1
  have e:goodC m ⟨n,s0,s1,b0,b1⟩=false:=by
   rw [Bool.eq_false_iff]; intro h
   exact hm (jq.mp h).1
  rw [e]
  repeat' (first | refine call1 rfl c1 ?_ | refine st2 ?_ | intro u)
  exact jd rfl rfl
theorem wy (m:Int) (c:Cell) (hc:inC 999999 c):CP 74 [.c (.int .i64 m),.c (encCell c)] (.c (.bool (goodC m c))) []:=by
 obtain ⟨n,s0,s1,b0,b1⟩:=c
 obtain ⟨hn,hs0,hs1,hr0,hr1,hl0,hl1⟩:=hc
 simp only at hn hs0 hs1 hr0 hr1 hl0 hl1
 show PCallG _ 74 [.c (.int .i64 m),.c (.agg [.int .i64 n,.int .i64 s0,.int .i64 s1,encL b0,encL b1])] _ _
 refine pcallF Tryz.func74 c74 rfl ?_
 have c2:=JG b0 (by omega)
 have c3:=JG b1 (by omega)
 have c4:=Vn b0 (by omega)
 have c5:=Vn b1 (by omega)
 have wide:∀ (b:List Run),b.length≤999999→ranged b→good b=true→CP 116 [.c (encL b)] (.c (.agg (cellsV (wsum b)))) []:=fun b hb hr hg=>by
  have:=jca b (by omega) hr
  obtain ⟨g1,g2,g3⟩:=jA.mp hg
  have h0:cap=1099511627776:=rfl
  rw [WY b 0 g2 hr (by simp [absI]; omega),Int.zero_add,Wq] at this
  exact this
 have c6:=wide b0 hl0 hr0
 have c7:=wide b1 hl1 hr1
 have c8:=kI s0 hs0
 have c9:=kI s1 hs1
 have e0:=jax (wsum b0) s0
 have e1:=jax (wsum b1) s1
 have key:∀ (b:List Run) (s:Int),(gM b s n=true∧good b=true∧wsum b=s∧sum b=n)∨(gM b s n=false∧(good b=false∨(good b=true∧sum b≠n)∨(good b=true∧sum b=n∧wsum b≠s))):=fun b s=>by
  cases hg:good b with
  | false=>exact .inr ⟨by simp [gM,hg],.inl rfl⟩
  | true =>
   by_cases h2:sum b=n
   ·by_cases h1:wsum b=s
    ·exact .inl ⟨by simp [gM,hg,h1,h2],rfl,h1,h2⟩
    ·exact .inr ⟨by simp [gM,h1],.inr (.inr ⟨rfl,h2,h1⟩)⟩
   ·exact .inr ⟨by simp [gM,h2],.inr (.inl ⟨rfl,h2⟩)⟩
 have k0:=key b0 s0
 have k1:=key b1 s1
 clear key wide
 unfold p74
 by_cases hm:1≤m∧m≤2
 ·by_cases hnn:1≤n∧n≤1099511627776
  ·generalize good b0=x0 at c2 c4 c6 k0
   generalize good b1=x1 at c3 c5 c7 k1
   generalize sum b0=g0 at c4 k0
   generalize sum b1=g1 at c5 k1
   generalize wsum b0=w0 at c6 e0 k0
   generalize wsum b1=w1 at c7 e1 k1
   rcases k0 with ⟨p1,rfl,rfl,rfl⟩ | ⟨p1,p2⟩
   ·rw [if_pos rfl] at c4
    have c6':=c6 rfl
    rw [decide_eq_true rfl] at e0
    repeat' (first | refine st2 ?_ | intro u)
    refine jf ?_
    unfold b74_0
    repeat' (first | refine call1 rfl c2 ?_ | refine call1 rfl c4 ?_ | refine call1 rfl c6' ?_ | refine call1 rfl c8 ?_ | refine kO rfl rfl e0 ?_ | refine st7 ?_ | intro u)
    refine jf ?_
    by_cases hm2:m=2
    ·rcases k1 with ⟨t1,rfl,rfl,rfl⟩ | ⟨t1,t2⟩
     ·rw [if_pos rfl] at c5
      have c7':=c7 rfl
      rw [decide_eq_true rfl] at e1
      rw [jq.mpr ⟨hm,hnn,p1,by rw [if_pos hm2]; exact t1⟩]
      repeat' (first | refine call1 rfl c3 ?_ | refine call1 rfl c5 ?_ | refine call1 rfl c7' ?_ | refine call1 rfl c9 ?_ | refine kO rfl rfl e1 ?_ | refine st7 ?_ | intro u)
      refine jf ?_
      repeat' (first | refine st0 ?_ | intro u)
      exact jd rfl rfl
     ·have e:goodC m ⟨g0,w0,s1,b0,b1⟩=false:=by
       rw [Bool.eq_false_iff]; intro h
       have:=(jq.mp h).2.2.2
       rw [if_pos hm2] at this
       rw [this] at t1; cases t1
      rw [e]
      rcases t2 with rfl | ⟨rfl,t2⟩ | ⟨rfl,rfl,t2⟩
      ·repeat' (first | refine call1 rfl c3 ?_ | refine st2 ?_ | intro u)
       exact jd rfl rfl
      ·rw [if_pos rfl] at c5
       repeat' (first | refine call1 rfl c3 ?_ | refine call1 rfl c5 ?_ | refine st3 ?_ | intro u)
       exact jd rfl rfl
      ·rw [if_pos rfl] at c5
       have c7':=c7 rfl
       rw [decide_eq_false t2] at e1
       repeat' (first | refine call1 rfl c3 ?_ | refine call1 rfl c5 ?_ | refine call1 rfl c7' ?_ | refine call1 rfl c9 ?_ | refine kO rfl rfl e1 ?_ | refine st2 ?_ | intro u)
       exact jd rfl rfl
    ·by_cases h1:s1=0
     ·cases b1 with
      | nil =>
       rw [jq.mpr ⟨hm,hnn,p1,by rw [if_neg hm2]; exact ⟨h1,rfl⟩⟩]
       repeat' (first | refine je (es:=[]) rfl rfl ?_ | refine st7 ?_ | intro u)
       refine jf ?_
       repeat' (first | refine st0 ?_ | intro u)
       exact jd rfl rfl
      | cons x b1 =>
       have e:goodC m ⟨g0,w0,s1,b0,x::b1⟩=false:=by
        rw [Bool.eq_false_iff]; intro h
        have:=(jq.mp h).2.2.2
        rw [if_neg hm2] at this
        cases this.2
       rw [e]
       have hp:0 < (x::b1).length:=by simp
       repeat' (first | refine je rfl (List.length_map _) ?_ | refine st2 ?_ | intro u)
       exact jd rfl rfl
     ·have e:goodC m ⟨g0,w0,s1,b0,b1⟩=false:=by
       rw [Bool.eq_false_iff]; intro h
       have:=(jq.mp h).2.2.2
       rw [if_neg hm2] at this
       exact h1 this.1
      rw [e]
      repeat' (first | refine st3 ?_ | intro u)
      exact jd rfl rfl
   ·have e:goodC m ⟨n,s0,s1,b0,b1⟩=false:=by
     rw [Bool.eq_false_iff]; intro h
     have:=(jq.mp h).2.2.1
     simp only at this
     rw [this] at p1; cases p1
    rw [e]
    repeat' (first | refine st2 ?_ | intro u)
    refine jf ?_
    unfold b74_0
    rcases p2 with rfl | ⟨rfl,p2⟩ | ⟨rfl,rfl,p2⟩
    ·repeat' (first | refine call1 rfl c2 ?_ | refine st2 ?_ | intro u)
     exact jd rfl rfl
    ·rw [if_pos rfl] at c4
     repeat' (first | refine call1 rfl c2 ?_ | refine call1 rfl c4 ?_ | refine st3 ?_ | intro u)
     exact jd rfl rfl
    ·rw [if_pos rfl] at c4
     have c6':=c6 rfl
     rw [decide_eq_false p2] at e0
     repeat' (first | refine call1 rfl c2 ?_ | refine call1 rfl c4 ?_ | refine call1 rfl c6' ?_ | refine call1 rfl c8 ?_ | refine kO rfl rfl e0 ?_ | refine st2 ?_ | intro u)
     exact jd rfl rfl
  ·have e:goodC m ⟨n,s0,s1,b0,b1⟩=false:=by
    rw [Bool.eq_false_iff]; intro h
    exact hnn (jq.mp h).2.1
   rw [e]
   by_cases h1:n < 1
   ·repeat' (first | refine st2 ?_ | intro u)
    exact jd rfl rfl
   ·repeat' (first | refine st2 ?_ | intro u)
    exact jd rfl rfl
 ·have e:goodC m ⟨n,s0,s1,b0,b1⟩=false:=by
   rw [Bool.eq_false_iff]; intro h
   exact hm (jq.mp h).1
  rw [e]
  by_cases h1:m < 1
  ·repeat' (first | refine st2 ?_ | intro u)
   exact jd rfl rfl
  ·repeat' (first | refine st2 ?_ | intro u)
   exact jd rfl rfl
set_option maxRecDepth 100000
set_option maxHeartbeats 16000000
def inR (r:RowS):Prop:=in64 r.m0∧in64 r.m1
def mv (i:Int) (r:RowS):Int:=if i=0 then r.m0 else r.m1
theorem jil {l:List RowS} {i:Nat} {x:RowS} {rest:List RowS} (hd:l.drop i=x::rest):(l.map encRow)[i]? = some (encRow x):=by
 have:l[i]? = some x:=by have:=congrArg List.head? hd; simpa [List.head?_drop] using this
 simp [this]
theorem jfz {α:Type} {l:List α} {i:Nat} {a:α} {rest:List α} (hd:l.drop i=a::rest):i < l.length:=by
 have:=congrArg List.length hd; simp at this; omega
theorem jg {α:Type} {l:List α} {i:Nat} {a:α} {rest:List α} (hd:l.drop i=a::rest):l.drop (i + 1)=rest:=by
 have:=congrArg List.tail hd; simpa [List.tail_drop] using this
theorem jm {α:Type} {l:List α} {i:Nat} (hd:l.drop i=[]) (hi:i≤l.length):i=l.length:=by
 have:=List.drop_eq_nil_iff.mp hd; omega
theorem mv0:mv 0=(·.m0):=by funext r; simp [mv]
theorem mv1:mv 1=(·.m1):=by funext r; simp [mv]
set_option maxRecDepth 100000
set_option maxHeartbeats 8000000
theorem jp {α:Type} {f:α→List CV} {l:List α} {i:Nat} {a:α} {rest:List α} (hd:l.drop i=a::rest):(l.map f)[i]? = some (f a):=by
 have:l[i]? = some a:=by have:=congrArg List.head? hd; simpa [List.head?_drop] using this
 simp [this]
theorem jdv {C:CallP} {K:KT} (d:DimS) (hlen:d.up.length≤10) (v:Nat):∀ (rest:List (List Int)) (i:Nat) (s:PS),d.up.drop i=rest→i≤d.up.length →
  s.t 1=.ptr 1 v 0→s.bx 1=⟨v,.var [encIs d.sizes,.sl (d.up.map fun l=>[encIs l])]⟩→s.t 3=.c (.int .i64 i) →
  (rest.all (fun l=>decide (l.length≤60))=true→∀ s',K (.x 0) s')→(rest.all (fun l=>decide (l.length≤60))=false→∀ s',s'.t 2=.c (.bool false)→K .r s')→wP C (.loop b65_0) s K:=by
 intro rest
 induction rest with
 | nil =>
  intro i s hd hi t1 b1 t3 hx hr
  refine jf ?_
  have:=jm hd hi
  subst this
  rw [← ja t1,← jc b1,← ja t3]
  unfold b65_0
  repeat' (first | refine je rfl (List.length_map _) ?_ | refine st0 ?_ | intro u)
  exact hx rfl _
 | cons l rest ih =>
  intro i s hd hi t1 b1 t3 hx hr
  refine jf ?_
  have he:(d.up.map fun l=>[encIs l])[i]? = some [encIs l]:=jp hd
  have hil:=jo hd
  have hn:=jg hd
  rw [← ja t1,← jc b1,← ja t3]
  unfold b65_0
  by_cases h:l.length≤60
  ·repeat' (first | refine je rfl (List.length_map _) ?_ | refine st1 ?_ | intro u)
   refine ih (i + 1) _ hn (by omega) (by rfl) (by rfl) (by rfl) (fun h'=>hx ?_) (fun h'=>hr ?_)
   ·simp [h]; simpa using h'
   ·simp [h]; simpa using h'
  ·repeat' (first | refine je rfl (List.length_map _) ?_ | refine st3 ?_ | intro u)
   exact hr (by simp [h]) _ (by rfl)
theorem jaz (d:DimS) (h0:d.sizes.length≤9223372036854775807) (h1:d.up.length≤9223372036854775807):CP 65 [.c (.agg (encDim d))] (.c (.bool (lightDim d))) []:=by
 refine pcallF Tryz.func65 c65 rfl ?_
 unfold encDim lightDim
 unfold p65
 by_cases a:d.sizes.length≤10
 ·by_cases b:d.up.length≤10
  ·rw [decide_eq_true ⟨a,b⟩,Bool.true_and]
   repeat' (first | refine je rfl (List.length_map _) ?_ | refine st2 ?_ | intro u)
   refine jdv d b _ d.up 0 _ rfl (by omega) (by rfl) (by rfl) (by rfl) (fun h s'=>?_) (fun h s' h2=>?_)
   ·rw [h]
    repeat' (first | refine st0 ?_ | intro u)
    exact jd rfl rfl
   ·rw [h,← ja h2]
    repeat' (first | refine j8 ?_ | refine kl ?_)
    exact jd rfl rfl
  ·rw [decide_eq_false (by omega),Bool.false_and]
   repeat' (first | refine je rfl (List.length_map _) ?_ | refine st2 ?_ | intro u)
   exact jd rfl rfl
 ·rw [decide_eq_false (by omega),Bool.false_and]
  repeat' (first | refine je rfl (List.length_map _) ?_ | refine st2 ?_ | intro u)
  exact jd rfl rfl
theorem jdw {K:KT} (c:CatS) (hlen:c.dims.length≤8) (hin:∀ d∈c.dims,d.sizes.length≤9223372036854775807∧d.up.length≤9223372036854775807) (v:Nat):∀ (rest:List DimS) (i:Nat) (s:PS),c.dims.drop i=rest→i≤c.dims.length →
  s.t 1=.ptr 1 v 0→s.bx 1=⟨v,.var [.sl (c.dims.map encDim),.int .i64 c.m]⟩→s.t 3=.c (.int .i64 i) →
  (rest.all lightDim=true→∀ s',K (.x 0) s')→(rest.all lightDim=false→∀ s',s'.t 2=.c (.bool false)→K .r s')→wP (CP) (.loop b31_0) s K:=by
 intro rest
 induction rest with
 | nil =>
  intro i s hd hi t1 b1 t3 hx hr
  refine jf ?_
  have:=jm hd hi
  subst this
  rw [← ja t1,← jc b1,← ja t3]
  unfold b31_0
  repeat' (first | refine je rfl (List.length_map _) ?_ | refine st0 ?_ | intro u)
  exact hx rfl _
 | cons d rest ih =>
  intro i s hd hi t1 b1 t3 hx hr
  refine jf ?_
  have he:(c.dims.map encDim)[i]? = some (encDim d):=jp hd
  have hil:=jo hd
  have hn:=jg hd
  have hdm:=hin d (List.mem_of_mem_drop (by rw [hd]; simp))
  have c1:=jaz d hdm.1 hdm.2
  rw [← ja t1,← jc b1,← ja t3]
  unfold encDim at he c1
  unfold b31_0
  cases h:lightDim d with
  | true =>
   rw [h] at c1
   repeat' (first | refine je rfl (List.length_map _) ?_ | refine call1 rfl c1 ?_ | refine st1 ?_ | intro u)
   refine ih (i + 1) _ hn (by omega) (by rfl) (by rfl) (by rfl) (fun h'=>hx ?_) (fun h'=>hr ?_)
   ·simp [h]; simpa using h'
   ·simp [h]; simpa using h'
  | false =>
   rw [h] at c1
   repeat' (first | refine je rfl (List.length_map _) ?_ | refine call1 rfl c1 ?_ | refine st3 ?_ | intro u)
   exact hr (by simp [h]) _ (by rfl)
theorem W4 (c:CatS) (h0:c.dims.length≤9223372036854775807) (hin:∀ d∈c.dims,d.sizes.length≤9223372036854775807∧d.up.length≤9223372036854775807):CP 31 [.c (.agg (encCat c))] (.c (.bool (lightCat c))) []:=by
 refine pcallF Tryz.func31 c31 rfl ?_
 unfold encCat lightCat
 unfold p31
 by_cases b:c.dims.length≤8
 ·rw [decide_eq_true b,Bool.true_and]
  repeat' (first | refine je rfl (List.length_map _) ?_ | refine st2 ?_ | intro u)
  refine jdw c b hin _ c.dims 0 _ rfl (by omega) (by rfl) (by rfl) (by rfl) (fun h s'=>?_) (fun h s' h2=>?_)
  ·rw [h]
   repeat' (first | refine st0 ?_ | intro u)
   exact jd rfl rfl
  ·rw [h,← ja h2]
   repeat' (first | refine j8 ?_ | refine kl ?_)
   exact jd rfl rfl
 ·rw [decide_eq_false (by omega),Bool.false_and]
  repeat' (first | refine je rfl (List.length_map _) ?_ | refine st2 ?_ | intro u)
  exact jd rfl rfl
end Go.Proofs.YtnpncbplhdnonaaGreat
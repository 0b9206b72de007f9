/- Part of the proof of ExecTells, ExecAnswers, ExecBest, ExecFirst, ExecLevels, ExecTops, ExecLimits: lemmas. -/
import Derived.Test.YtnpncbplhdnonaaGreatExecS15
import Derived.Test.YtnpncbplhdnonaaGreatExecS17
import Derived.Test.YtnpncbplhdnonaaGreatExecS19
import Derived.Test.YtnpncbplhdnonaaGreatExecS21
import Derived.Test.YtnpncbplhdnonaaGreatExecS25
import Derived.Test.YtnpncbplhdnonaaGreatExecS27
import Derived.Test.YtnpncbplhdnonaaGreatExecS29
set_option linter.unusedVariables false
set_option linter.unusedSimpArgs false
namespace Go.Proofs.YtnpncbplhdnonaaGreat
open Go.Pl Go.Bag
set_option maxRecDepth 100000
set_option maxHeartbeats 16000000
def inL (l:LineS):Prop:=in64 l.n∧in64 l.s0∧in64 l.s1∧in64 l.lo0∧in64 l.lo1∧in64 l.hi0∧in64 l.hi1
def one1 (n:Int):Int:=if 1 > n then 1 else n
def sel (i x y:Int):Int:=if i=0 then x else y
def aheadC (f i:Int) (a b:LineS):Int :=
 if f=1 then cmpI b.n a.n else if i < 0∨2≤i then 0
 else if f=2 then cmpI (sel i b.s0 b.s1) (sel i a.s0 a.s1)
 else if f=3 then cmpI (sel i b.lo0 b.lo1) (sel i a.lo0 a.lo1)
 else if f=4 then cmpI (sel i b.hi0 b.hi1) (sel i a.hi0 a.hi1)
 else if f=5 then cmpI (sel i b.s0 b.s1 * one1 a.n) (sel i a.s0 a.s1 * one1 b.n) else 0
theorem Ww {n:Int} (h:in64 n):I64 (one1 n):=by
 unfold one1 in64 at *
 unfold I64
 split <;> omega
theorem jjs (f i:Int) (a b:LineS) (ha:inL a) (hb:inL b):CP 45 [.c (.int .i64 f),.c (.int .i64 i),.c (encLine a),.c (encLine b)] (.c (.int .i64 (aheadC f i a b))) []:=by
 obtain ⟨a1,a2,a3,a4,a5,a6,a7⟩:=ha
 obtain ⟨b1,b2,b3,b4,b5,b6,b7⟩:=hb
 have o1:=Ww a1
 have o2:=Ww b1
 refine pcallF Tryz.func45 c45 rfl ?_
 have d1:=kG b.n a.n
 have d2:=kG b.s0 a.s0
 have d3:=kG b.s1 a.s1
 have d4:=kG b.lo0 a.lo0
 have d5:=kG b.lo1 a.lo1
 have d6:=kG b.hi0 a.hi0
 have d7:=kG b.hi1 a.hi1
 have d8:=jkp b.s0 (one1 a.n) a.s0 (one1 b.n) b2 o1 a2 o2
 have d9:=jkp b.s1 (one1 a.n) a.s1 (one1 b.n) b3 o1 a3 o2
 unfold one1 at d8 d9
 have hf:f=1∨f=2∨f=3∨f=4∨f=5∨(f < 1∨5 < f):=by omega
 have hi:(i < 0∨2≤i)∨i=0∨i=1:=by omega
 unfold p45
 rcases hf with rfl | rfl | rfl | rfl | rfl | hf
 ·rw [show aheadC 1 i a b=cmpI b.n a.n by simp [aheadC]]
  repeat' (first | refine call2 rfl rfl d1 ?_ | refine st2 ?_ | intro u)
  exact jd rfl rfl
 ·rcases hi with hi | rfl | rfl
  ·rw [show aheadC 2 i a b=0 by simp [aheadC,hi]]
   rcases hi with hi | hi
   all_goals
    repeat' (first | refine st2 ?_ | intro u)
   all_goals exact jd rfl rfl
  ·rw [show aheadC 2 0 a b=cmpI b.s0 a.s0 by simp [aheadC,sel]]
   repeat' (first | refine call2 rfl rfl d2 ?_ | refine st2 ?_ | intro u)
   exact jd rfl rfl
  ·rw [show aheadC 2 1 a b=cmpI b.s1 a.s1 by simp [aheadC,sel]]
   repeat' (first | refine call2 rfl rfl d3 ?_ | refine st2 ?_ | intro u)
   exact jd rfl rfl
 ·rcases hi with hi | rfl | rfl
  ·rw [show aheadC 3 i a b=0 by simp [aheadC,hi]]
   rcases hi with hi | hi
   all_goals
    repeat' (first | refine st2 ?_ | intro u)
   all_goals exact jd rfl rfl
  ·rw [show aheadC 3 0 a b=cmpI b.lo0 a.lo0 by simp [aheadC,sel]]
   repeat' (first | refine call2 rfl rfl d4 ?_ | refine st2 ?_ | intro u)
   exact jd rfl rfl
  ·rw [show aheadC 3 1 a b=cmpI b.lo1 a.lo1 by simp [aheadC,sel]]
   repeat' (first | refine call2 rfl rfl d5 ?_ | refine st2 ?_ | intro u)
   exact jd rfl rfl
 ·rcases hi with hi | rfl | rfl
  ·rw [show aheadC 4 i a b=0 by simp [aheadC,hi]]
   rcases hi with hi | hi
   all_goals
    repeat' (first | refine st2 ?_ | intro u)
   all_goals exact jd rfl rfl
  ·rw [show aheadC 4 0 a b=cmpI b.hi0 a.hi0 by simp [aheadC,sel]]
   repeat' (first | refine call2 rfl rfl d6 ?_ | refine st2 ?_ | intro u)
   exact jd rfl rfl
  ·rw [show aheadC 4 1 a b=cmpI b.hi1 a.hi1 by simp [aheadC,sel]]
   repeat' (first | refine call2 rfl rfl d7 ?_ | refine st2 ?_ | intro u)
   exact jd rfl rfl
 ·rcases hi with hi | rfl | rfl
  ·rw [show aheadC 5 i a b=0 by simp [aheadC,hi]]
   rcases hi with hi | hi
   all_goals
    repeat' (first | refine st2 ?_ | intro u)
   all_goals exact jd rfl rfl
  ·rw [show aheadC 5 0 a b=cmpI (b.s0 * one1 a.n) (a.s0 * one1 b.n) by simp [aheadC,sel]]
   repeat' (first | refine call4 rfl rfl rfl rfl d8 ?_ | refine st2 ?_ | intro u)
   exact jd rfl rfl
  ·rw [show aheadC 5 1 a b=cmpI (b.s1 * one1 a.n) (a.s1 * one1 b.n) by simp [aheadC,sel]]
   repeat' (first | refine call4 rfl rfl rfl rfl d9 ?_ | refine st2 ?_ | intro u)
   exact jd rfl rfl
 ·have e:aheadC f i a b=0:=by
   unfold aheadC
   rw [if_neg (by omega)]
   split
   ·rfl
   ·rw [if_neg (by omega),if_neg (by omega),if_neg (by omega),if_neg (by omega)]
  rw [e]
  rcases hi with (hi | hi) | rfl | rfl
  all_goals
   repeat' (first | refine st2 ?_ | intro u)
  all_goals exact jd rfl rfl
theorem Xu (f i:Int) (a b:LineS) (ha:inL a) (hb:inL b):CP 22 [.c (.int .i64 f),.c (.int .i64 i),.c (encLine a),.c (encLine b)] (.c (.int .i64 (aheadC f i a b))) []:=by
 obtain ⟨a1,a2,a3,a4,a5,a6,a7⟩:=ha
 obtain ⟨b1,b2,b3,b4,b5,b6,b7⟩:=hb
 have o1:=Ww a1
 have o2:=Ww b1
 refine pcallF Tryz.func22 c22 rfl ?_
 have q1:=kI b.n b1
 have q2:=kI b.s0 b2
 have q3:=kI b.s1 b3
 have q4:=kI b.lo0 b4
 have q5:=kI b.lo1 b5
 have q6:=kI b.hi0 b6
 have q7:=kI b.hi1 b7
 have r1:=kI a.n a1
 have r2:=kI a.s0 a2
 have r3:=kI a.s1 a3
 have r4:=kI a.lo0 a4
 have r5:=kI a.lo1 a5
 have r6:=kI a.hi0 a6
 have r7:=kI a.hi1 a7
 have d1:=vI b.n a.n
 have d2:=vI b.s0 a.s0
 have d3:=vI b.s1 a.s1
 have d4:=vI b.lo0 a.lo0
 have d5:=vI b.lo1 a.lo1
 have d6:=vI b.hi0 a.hi0
 have d7:=vI b.hi1 a.hi1
 have t8:=Jk b.s0 (one1 a.n) b2 o1
 have u8:=Jk a.s0 (one1 b.n) a2 o2
 have t9:=Jk b.s1 (one1 a.n) b3 o1
 have u9:=Jk a.s1 (one1 b.n) a3 o2
 have d8:=vI (b.s0 * one1 a.n) (a.s0 * one1 b.n)
 have d9:=vI (b.s1 * one1 a.n) (a.s1 * one1 b.n)
 unfold one1 at d8 d9 t8 u8 t9 u9
 have hf:f=1∨f=2∨f=3∨f=4∨f=5∨(f < 1∨5 < f):=by omega
 have hi:(i < 0∨2≤i)∨i=0∨i=1:=by omega
 unfold p22
 rcases hf with rfl | rfl | rfl | rfl | rfl | hf
 ·rw [show aheadC 1 i a b=cmpI b.n a.n by simp [aheadC]]
  repeat' (first | refine call1 rfl q1 ?_ | refine call1 rfl r1 ?_ | refine call2 rfl rfl d1 ?_ | refine st2 ?_ | intro u)
  exact jd rfl rfl
 ·rcases hi with hi | rfl | rfl
  ·rw [show aheadC 2 i a b=0 by simp [aheadC,hi]]
   rcases hi with hi | hi
   all_goals
    repeat' (first | refine st2 ?_ | intro u)
   all_goals exact jd rfl rfl
  ·rw [show aheadC 2 0 a b=cmpI b.s0 a.s0 by simp [aheadC,sel]]
   repeat' (first | refine call1 rfl q2 ?_ | refine call1 rfl r2 ?_ | refine call2 rfl rfl d2 ?_ | refine st2 ?_ | intro u)
   exact jd rfl rfl
  ·rw [show aheadC 2 1 a b=cmpI b.s1 a.s1 by simp [aheadC,sel]]
   repeat' (first | refine call1 rfl q3 ?_ | refine call1 rfl r3 ?_ | refine call2 rfl rfl d3 ?_ | refine st2 ?_ | intro u)
   exact jd rfl rfl
 ·rcases hi with hi | rfl | rfl
  ·rw [show aheadC 3 i a b=0 by simp [aheadC,hi]]
   rcases hi with hi | hi
   all_goals
    repeat' (first | refine st2 ?_ | intro u)
   all_goals exact jd rfl rfl
  ·rw [show aheadC 3 0 a b=cmpI b.lo0 a.lo0 by simp [aheadC,sel]]
   repeat' (first | refine call1 rfl q4 ?_ | refine call1 rfl r4 ?_ | refine call2 rfl rfl d4 ?_ | refine st2 ?_ | intro u)
   exact jd rfl rfl
  ·rw [show aheadC 3 1 a b=cmpI b.lo1 a.lo1 by simp [aheadC,sel]]
   repeat' (first | refine call1 rfl q5 ?_ | refine call1 rfl r5 ?_ | refine call2 rfl rfl d5 ?_ | refine st2 ?_ | intro u)
   exact jd rfl rfl
 ·rcases hi with hi | rfl | rfl
  ·rw [show aheadC 4 i a b=0 by simp [aheadC,hi]]
   rcases hi with hi | hi
   all_goals
    repeat' (first | refine st2 ?_ | intro u)
   all_goals exact jd rfl rfl
  ·rw [show aheadC 4 0 a b=cmpI b.hi0 a.hi0 by simp [aheadC,sel]]
   repeat' (first | refine call1 rfl q6 ?_ | refine call1 rfl r6 ?_ | refine call2 rfl rfl d6 ?_ | refine st2 ?_ | intro u)
   exact jd rfl rfl
  ·rw [show aheadC 4 1 a b=cmpI b.hi1 a.hi1 by simp [aheadC,sel]]
   repeat' (first | refine call1 rfl q7 ?_ | refine call1 rfl r7 ?_ | refine call2 rfl rfl d7 ?_ | refine st2 ?_ | intro u)
   exact jd rfl rfl
 ·rcases hi with hi | rfl | rfl
  ·rw [show aheadC 5 i a b=0 by simp [aheadC,hi]]
   rcases hi with hi | hi
   all_goals
    repeat' (first | refine st2 ?_ | intro u)
   all_goals exact jd rfl rfl
  ·rw [show aheadC 5 0 a b=cmpI (b.s0 * one1 a.n) (a.s0 * one1 b.n) by simp [aheadC,sel]]
   repeat' (first | refine call2 rfl rfl t8 ?_ | refine call2 rfl rfl u8 ?_ | refine call2 rfl rfl d8 ?_ | refine st2 ?_ | intro u)
   exact jd rfl rfl
  ·rw [show aheadC 5 1 a b=cmpI (b.s1 * one1 a.n) (a.s1 * one1 b.n) by simp [aheadC,sel]]
   repeat' (first | refine call2 rfl rfl t9 ?_ | refine call2 rfl rfl u9 ?_ | refine call2 rfl rfl d9 ?_ | refine st2 ?_ | intro u)
   exact jd rfl rfl
 ·have e:aheadC f i a b=0:=by
   unfold aheadC
   rw [if_neg (by omega)]
   split
   ·rfl
   ·rw [if_neg (by omega),if_neg (by omega),if_neg (by omega),if_neg (by omega)]
  rw [e]
  rcases hi with (hi | hi) | rfl | rfl
  all_goals
   repeat' (first | refine st2 ?_ | intro u)
  all_goals exact jd rfl rfl
set_option maxHeartbeats 16000000
set_option maxRecDepth 100000
set_option maxHeartbeats 16000000
set_option maxRecDepth 100000
set_option maxHeartbeats 16000000
set_option maxRecDepth 100000
theorem ZU (a b:Int):cmpI b a=-cmpI a b:=by unfold cmpI; (repeat' split) <;> omega
theorem Xv (f i:Int) (a b:LineS):aheadC f i b a=-aheadC f i a b:=by
 unfold aheadC
 (repeat' split) <;> first | exact ZU _ _ | rfl
def Chain (p q r:Int):Prop:=(p≤0→q≤0→r≤0∧(r=0→0≤p + q))∧(0≤p→0≤q→0≤r∧(r=0→p + q≤0))
theorem VQ (x y z:Int):Chain (cmpI y x) (cmpI z y) (cmpI z x):=by
 unfold Chain cmpI
 rcases Int.lt_trichotomy x y with h1 | h1 | h1 <;> rcases Int.lt_trichotomy y z with h2 | h2 | h2 <;> rcases Int.lt_trichotomy x z with h3 | h3 | h3 <;>
  simp [h1,h2,h3,show ¬ (0:Int) < -1 by decide] <;> omega
theorem VR {k:Int} (hk:0 < k) (x y:Int):cmpI (x * k) (y * k)=cmpI x y:=by
 unfold cmpI
 have h1:x * k < y * k↔x < y:=Int.mul_lt_mul_right hk
 have h2:y * k < x * k↔y < x:=Int.mul_lt_mul_right hk
 simp only [h1,h2]
theorem ja7 {sa sb sc na nb nc:Int} (ha:0 < na) (hb:0 < nb) (hc:0 < nc):Chain (cmpI (sb * na) (sa * nb)) (cmpI (sc * nb) (sb * nc)) (cmpI (sc * na) (sa * nc)):=by
 have e1:cmpI (sb * na) (sa * nb)=cmpI (sb * na * nc) (sa * nb * nc):=(VR hc _ _).symm
 have e2:cmpI (sc * nb) (sb * nc)=cmpI (sc * nb * na) (sb * nc * na):=(VR ha _ _).symm
 have e3:cmpI (sc * na) (sa * nc)=cmpI (sc * na * nb) (sa * nc * nb):=(VR hb _ _).symm
 have m1:sb * nc * na=sb * na * nc:=by rw [Int.mul_assoc,Int.mul_comm nc,← Int.mul_assoc]
 have m2:sc * na * nb=sc * nb * na:=by rw [Int.mul_assoc,Int.mul_comm na,← Int.mul_assoc]
 have m3:sa * nc * nb=sa * nb * nc:=by rw [Int.mul_assoc,Int.mul_comm nc,← Int.mul_assoc]
 rw [e1,e2,e3,m1,m2,m3]
 exact VQ _ _ _
theorem Xw (n:Int):0 < one1 n:=by unfold one1; split <;> omega
theorem YO (f i:Int) (a b c:LineS):Chain (aheadC f i a b) (aheadC f i b c) (aheadC f i a c):=by
 unfold aheadC
 (repeat' split) <;> first | exact VQ _ _ _ | exact ja7 (Xw _) (Xw _) (Xw _) | (unfold Chain; omega)
theorem okL_cons {k:LF} {ks:List LF} {cs:List CV} (h:OkL (k::ks) cs):∃ c r,cs=c::r∧LF.Ok k c∧OkL ks r:=by
 obtain ⟨hl,he⟩:=h
 match cs,hl,he with
 | c::r,hl,he=>exact ⟨c,r,rfl,he 0 (by simp) (by simp),⟨by simpa using hl,fun i h1 h2=>he (i + 1) (by simpa using h1) (by simpa using h2)⟩⟩
theorem okL_nil {cs:List CV} (h:OkL [] cs):cs=[]:=by
 obtain ⟨hl,_⟩:=h
 exact List.length_eq_zero_iff.mp hl
set_option maxRecDepth 100000
set_option maxHeartbeats 16000000
/-! ### Lines, in their order -/
def placeOf (a:LineS):Go.Bag.Place:=⟨a.p0,a.p1,a.p2,a.p3⟩
def cmpE (f i:Int) (a b:LineS):Int:=if aheadC f i a b≠0 then aheadC f i a b else cmpI (keyP (placeOf a)) (keyP (placeOf b))
def okLn (z:LineS):Prop:=inL z∧u8P (placeOf z)
def encLs (l:List LineS):CV:=.sl (l.map encLn)
def topN (t:Int) (n:Nat):Nat:=min t.toNat n
def bestS (f i t:Int) (l:List LineS):List LineS:=(sortS (leF (cmpE f i)) l).take (topN t l.length)
theorem preE (f i:Int):PreO (leF (cmpE f i)) where
 tot a b:=by
  unfold leF cmpE
  rw [Xv f i a b,ZU (keyP (placeOf a)) (keyP (placeOf b))]
  simp only [decide_eq_true_eq]
  by_cases h:aheadC f i a b=0
  ·rw [if_neg (by omega),if_neg (by omega)]; omega
  ·rw [if_pos (by omega),if_pos h]; omega
 tr a b c h1 h2:=by
  unfold leF cmpE at *
  simp only [decide_eq_true_eq] at *
  obtain ⟨_,k⟩:=YO f i c b a
  obtain ⟨_,k2⟩:=VQ (keyP (placeOf a)) (keyP (placeOf b)) (keyP (placeOf c))
  generalize aheadC f i c b=p at *
  generalize aheadC f i b a=q at *
  generalize aheadC f i c a=r at *
  generalize cmpI (keyP (placeOf c)) (keyP (placeOf b))=kp at *
  generalize cmpI (keyP (placeOf b)) (keyP (placeOf a))=kq at *
  generalize cmpI (keyP (placeOf c)) (keyP (placeOf a))=kr at *
  have hp:0≤p:=by
   by_cases e:p=0
   ·omega
   ·rw [if_pos e] at h2; exact h2
  have hq:0≤q:=by
   by_cases e:q=0
   ·omega
   ·rw [if_pos e] at h1; exact h1
  obtain ⟨hr,hr0⟩:=k hp hq
  by_cases e:r=0
  ·have:=hr0 e
   have ep:p=0:=by omega
   have eq:q=0:=by omega
   rw [if_neg (by omega)] at h1 h2
   rw [if_neg (by omega)]
   exact (k2 h1 h2).1
  ·rw [if_pos e]; exact hr
theorem jjt (f i:Int):Cmps 43 [[.int .i64 f],[.int .i64 i]] (cmpE f i) okLn:=by
 intro x y hx hy
 have c1:=jjs f i x y hx.1 hy.1
 have c2:=jf5 (placeOf x) (placeOf y) hx.2 hy.2
 have c3:=jko (aheadC f i x y) (cmpI (keyP (placeOf x)) (keyP (placeOf y)))
 refine pcallF Tryz.func43 c43 rfl ?_
 unfold cmpE
 generalize aheadC f i x y=p at *
 generalize cmpI (keyP (placeOf x)) (keyP (placeOf y))=q at *
 unfold placeOf encP at c2
 unfold encLine encLn encIL encI at *
 dsimp only [List.map_cons,List.map_nil] at *
 unfold p43
 repeat' (first | refine call4 rfl rfl rfl rfl c1 ?_ | refine call2 rfl rfl c2 ?_ | refine call1 rfl c3 ?_ | refine st7 ?_ | intro u)
 exact jd rfl rfl
theorem topA (t:Int) (n:Nat):(if (if (n:Int) < t then (n:Int) else t) > 0 then (if (n:Int) < t then (n:Int) else t) else 0)=((topN t n:Nat):Int):=by
 unfold topN
 split <;> split at * <;> omega
theorem topB (t:Int) (n:Nat):(if (if 0 > t then 0 else t) < (n:Int) then (if 0 > t then 0 else t) else (n:Int))=((topN t n:Nat):Int):=by
 unfold topN
 split <;> split at * <;> omega
theorem JL (l:List LineS):∀ e∈l.map encLn,e.length=11:=by
 intro e he
 obtain ⟨r,_,rfl⟩:=List.mem_map.mp he
 rfl
section
variable {C : CallP} {l : List POp} {s : PS} {K : PS → Prop} {d : Nat} {x y : PO} {z : Int}
theorem ZV {sz:Nat} {k:IntKind} {es zs:List (List CV)} {j:Nat} (hx:s.ev x=.c (.sl es)) (hy:s.ev y=.c (.int k z)) (hzj:z=(j:Int)) (hj:j≤es.length) (hw:∀ e∈es,e.length=sz) (hz:es.take j=zs)
  (h:wL C l (s.put d (.c (.sl zs))) K):wL C (⟨some d,.slc sz x none (some y),none⟩::l) s K :=
 kS hx (hzj ▸ hy) hj hw hz h
end
theorem VS (l:List LineS) (f i t:Int) (hok:∀ z∈l,okLn z) (hlen:l.length≤1000000) :
  CP 20 [.c (encLs l),.c (.int .i64 f),.c (.int .i64 i),.c (.int .i64 t)] (.c (encLs (bestS f i t l))) []:=by
 have c1:=ZB (l.map encLn) (by simp; omega) (JL l)
 have c2:=YN (jjt f i) (preE f i) l hok (by omega)
 have hsl:(sortS (leF (cmpE f i)) l).length=l.length:=jy l
 refine pcallF Tryz.func20 c20 rfl ?_
 unfold bestS encLs
 have hw:=JL (sortS (leF (cmpE f i)) l)
 have hll:((sortS (leF (cmpE f i)) l).map encLn).length=l.length:=by rw [List.length_map,hsl]
 have htk:((sortS (leF (cmpE f i)) l).map encLn).take (topN t l.length)=((sortS (leF (cmpE f i)) l).take (topN t l.length)).map encLn:=(List.map_take).symm
 have c3:=ja1 (((sortS (leF (cmpE f i)) l).take (topN t l.length)).map encLn)
 have hj:topN t l.length≤((sortS (leF (cmpE f i)) l).map encLn).length:=by rw [hll]; unfold topN; omega
 have hz:=topA t l.length
 have hl0:(l.map encLn).length=l.length:=List.length_map _
 generalize (sortS (leF (cmpE f i)) l).map encLn=S at *
 generalize ((sortS (leF (cmpE f i)) l).take (topN t l.length)).map encLn=T at *
 generalize l.map encLn=L at *
 unfold p20
 repeat' (first | refine callN1 rfl c1 rfl (fun _=>?_) | refine callS1 rfl rfl rfl rfl c2 ?_ | refine jF rfl rfl (by omega) (fun _=>?_) | refine je rfl hll ?_ | refine ZV rfl rfl hz hj hw htk ?_ | refine call1 rfl c3 ?_ | refine st9 ?_ | intro u)
 exact jd rfl rfl
/-! ### The document's -/
theorem jgw (f i:Int) (a b:LineS) (ha:okLn a) (hb:okLn b) :
  CP 48 [.c (.int .i64 f),.c (.int .i64 i),.c (encLine a),.c (encLine b)] (.c (.bool (leF (cmpE f i) a b))) []:=by
 have c1:=Xu f i a b ha.1 hb.1
 have k1:=wk (placeOf a) ha.2
 have k2:=wk (placeOf b) hb.2
 have e:leF (cmpE f i) a b=(if aheadC f i a b≠0 then decide (aheadC f i a b < 0) else decide (keyP (placeOf a)≤keyP (placeOf b))):=by
  unfold leF cmpE
  rw [Xv f i a b]
  by_cases h:aheadC f i a b=0
  ·rw [if_neg (by omega),if_neg (by omega)]
   congr 1
   unfold cmpI
   refine propext ⟨fun h=>?_,fun h=>?_⟩
   ·by_cases h2:keyP (placeOf b) < keyP (placeOf a)
    ·rw [if_pos h2] at h; omega
    ·omega
   ·rw [if_neg (by omega)]; split <;> omega
  ·rw [if_pos (by omega),if_pos h]
   congr 1
   refine propext ⟨fun h=>by omega,fun h=>by omega⟩
 rw [e]
 refine pcallF Tryz.func48 c48 rfl ?_
 generalize aheadC f i a b=p at *
 generalize keyP (placeOf a)=ka at *
 generalize keyP (placeOf b)=kb at *
 unfold placeOf encP at k1 k2
 unfold encLine encLn at *
 dsimp only at *
 unfold p48
 by_cases h:p=0
 ·rw [if_neg (by omega)]
  repeat' (first | refine call4 rfl rfl rfl rfl c1 ?_ | refine call1 rfl k1 ?_ | refine call1 rfl k2 ?_ | refine st7 ?_ | intro u)
  exact jd rfl rfl
 ·rw [if_pos h]
  repeat' (first | refine call4 rfl rfl rfl rfl c1 ?_ | refine st3 ?_ | intro u)
  exact jd rfl rfl
theorem jgx {K:KT} (f i t:Int) (l out:List LineS) (hlo:l.length≤1000000) (hoo:out.length≤1000000) (hok:∀ z∈out,okLn z) (x:LineS) (hx:okLn x) (n:Nat) (hn:l[n]? = some x):∀ (rest:List LineS) (k:Nat) (s:PS),out.drop k=rest→k≤out.length →
  s.t 0=.c (encLs l)→s.t 1=.c (.int .i64 f)→s.t 2=.c (.int .i64 i)→s.t 3=.c (.int .i64 t)→s.t 9=.c (encLs out)→s.t 10=.c (.int .i64 n)→s.t 11=.c (.int .i64 k) →
  (∀ s':PS,s'.t 0=.c (encLs l)→s'.t 1=.c (.int .i64 f)→s'.t 2=.c (.int .i64 i)→s'.t 3=.c (.int .i64 t)→s'.t 9=.c (encLs out)→s'.t 10=.c (.int .i64 n)→s'.t 11=.c (.int .i64 ((k + (rest.takeWhile (fun y=>leF (cmpE f i) y x)).length:Nat):Int))→K (.x 2) s')→wP (CP) (.loop b21_1) s K:=by
 intro rest
 induction rest with
 | nil =>
  intro k s hd hi t0 t1 t2 t3 t9 t10 t11 hK
  refine jf ?_
  have:=jm hd hi
  subst this
  rw [← ja t0,← ja t1,← ja t2,← ja t3,← ja t9,← ja t10,← ja t11]
  unfold encLs
  unfold b21_1
  repeat' (first | refine je rfl (List.length_map _) ?_ | refine st2 ?_ | intro u)
  exact hK _ (by rfl) (by rfl) (by rfl) (by rfl) (by rfl) (by rfl) (by rfl)
 | cons y rest ih =>
  intro k s hd hi t0 t1 t2 t3 t9 t10 t11 hK
  refine jf ?_
  have he:(out.map encLn)[((k:Nat):Int).toNat]? = some (encLn y):=jp hd
  have he2:(l.map encLn)[((n:Nat):Int).toNat]? = some (encLn x):=by rw [Int.toNat_natCast,List.getElem?_map,hn]; rfl
  have hil:=jo hd
  have hn':=jg hd
  have c1:=jgw f i y x (hok y (List.mem_of_mem_drop (by rw [hd]; simp))) hx
  rw [List.takeWhile_cons] at hK
  have ih':=fun s=>ih (k + 1) s hn' (by omega)
  generalize leF (cmpE f i) y x=q at *
  rw [← ja t0,← ja t1,← ja t2,← ja t3,← ja t9,← ja t10,← ja t11]
  unfold encLs encLine encLn at *
  unfold b21_1
  cases q with
  | false =>
   repeat' (first | refine je rfl (List.length_map _) ?_ | refine ji rfl rfl (by omega) he rfl ?_ | refine ji rfl rfl (by omega) he2 rfl ?_ | refine call4 rfl rfl rfl rfl c1 ?_ | refine st8 ?_ | intro u)
   exact hK _ (by rfl) (by rfl) (by rfl) (by rfl) (by rfl) (by rfl) (by rfl)
  | true =>
   simp only [if_true,List.length_cons] at hK
   repeat' (first | refine je rfl (List.length_map _) ?_ | refine ji rfl rfl (by omega) he rfl ?_ | refine ji rfl rfl (by omega) he2 rfl ?_ | refine call4 rfl rfl rfl rfl c1 ?_ | refine st4 ?_ | intro u)
   refine ih' _ (by rfl) (by rfl) (by rfl) (by rfl) (by rfl) (by rfl) (by rfl) (fun s' h0 h1 h2 h3 h9 h10 h11=>hK s' h0 h1 h2 h3 h9 h10 ?_)
   rw [h11]
   congr 3
   omega
theorem ja8 {K:KT} (f i t:Int) (l:List LineS) (hlo:l.length≤1000000) (hok:∀ z∈l,okLn z):∀ (rest:List LineS) (n:Nat) (out:List LineS) (s:PS),l.drop n=rest→n≤l.length→out.length=n→(∀ z∈out,okLn z) →
  s.t 0=.c (encLs l)→s.t 1=.c (.int .i64 f)→s.t 2=.c (.int .i64 i)→s.t 3=.c (.int .i64 t)→s.t 9=.c (encLs out)→s.t 10=.c (.int .i64 n) →
  (∀ s':PS,s'.t 3=.c (.int .i64 t)→s'.t 9=.c (encLs (rest.foldl (insS (leF (cmpE f i))) out))→K (.x 0) s')→wP (CP) (.loop b21_0) s K:=by
 intro rest
 induction rest with
 | nil =>
  intro n out s hd hi hol ho t0 t1 t2 t3 t9 t10 hK
  refine jf ?_
  have:=jm hd hi
  subst this
  rw [← ja t0,← ja t1,← ja t2,← ja t3,← ja t9,← ja t10]
  unfold encLs
  unfold b21_0
  repeat' (first | refine je rfl (List.length_map _) ?_ | refine st0 ?_ | intro u)
  exact hK _ (by rfl) (by rfl)
 | cons x rest ih =>
  intro n out s hd hi hol ho t0 t1 t2 t3 t9 t10 hK
  refine jf ?_
  have hil:=jo hd
  have hn:=jg hd
  have hx:=hok x (List.mem_of_mem_drop (by rw [hd]; simp))
  have hget:l[n]? = some x:=by rw [← List.head?_drop,hd]; rfl
  have he2:(l.map encLn)[((n:Nat):Int).toNat]? = some (encLn x):=by rw [Int.toNat_natCast,List.getElem?_map,hget]; rfl
  have lp:=fun (K:Ex→PS→Prop) s=>jgx (K:=K) f i t l out hlo (by omega) ho x hx n hget out 0 s rfl (by omega)
  have htw:(out.takeWhile (fun y=>leF (cmpE f i) y x)).length≤out.length:=by
   have:=congrArg List.length (List.takeWhile_append_dropWhile (p:=fun y=>leF (cmpE f i) y x) (l:=out))
   simp only [List.length_append] at this
   omega
  have e1:=YH (fun y=>leF (cmpE f i) y x) out
  have e2:=YI (fun y=>leF (cmpE f i) y x) out
  have hol2:(insS (leF (cmpE f i)) out x).length=n + 1:=by rw [(VO out x).length_eq]; simp [hol]
  have ho2:∀ z∈insS (leF (cmpE f i)) out x,okLn z:=fun z hz=>by
   rcases List.mem_cons.mp ((VO out x).mem_iff.mp hz) with rfl | hz
   ·exact hx
   ·exact ho z hz
  have ih':=fun s=>ih (n + 1) (insS (leF (cmpE f i)) out x) s hn (by omega) hol2 ho2
  have ein:insS (leF (cmpE f i)) out x=out.takeWhile (fun y=>leF (cmpE f i) y x)++x::out.dropWhile (fun y=>leF (cmpE f i) y x):=rfl
  rw [← e1,← e2] at ein
  rw [List.foldl_cons] at hK
  have hE:encLs (insS (leF (cmpE f i)) out x)=.sl ((out.map encLn).take (out.takeWhile (fun y=>leF (cmpE f i) y x)).length++encLn x::(out.map encLn).drop (out.takeWhile (fun y=>leF (cmpE f i) y x)).length):=by
   rw [ein]
   simp [encLs,List.map_take,List.map_drop]
  generalize insS (leF (cmpE f i)) out x=o2 at *
  simp only [Nat.zero_add] at lp
  generalize (out.takeWhile (fun y=>leF (cmpE f i) y x)).length=j at *
  clear e1 e2 ein ih
  have hw:=JL out
  have hj:j≤(out.map encLn).length:=by simpa using htw
  have hw1:∀ e∈(out.map encLn).take j,e.length=11:=fun e he=>hw e (List.mem_of_mem_take he)
  have hw2:∀ e∈(out.map encLn).drop j,e.length=11:=fun e he=>hw e (List.mem_of_mem_drop he)
  have g1:([]:List (List CV)).length + ((out.map encLn).take j).length≤maxGrow:=by simp [maxGrow]; omega
  have g2:∀ q:List CV,([]++(out.map encLn).take j).length + [q].length≤maxGrow:=fun q=>by simp [maxGrow]; omega
  have g3:∀ q:List CV,([]++(out.map encLn).take j++[q]).length + ((out.map encLn).drop j).length≤maxGrow:=fun q=>by simp [maxGrow]; omega
  have hz:∀ q:List CV,[]++(out.map encLn).take j++[q]++(out.map encLn).drop j=(out.map encLn).take j++q::(out.map encLn).drop j:=fun q=>by simp
  have hz':=hz (encLn x)
  rw [← ja t0,← ja t1,← ja t2,← ja t3,← ja t9,← ja t10]
  unfold encLs at lp ⊢
  unfold b21_0
  generalize hom:out.map encLn=om at *
  unfold encLn at he2 hE hz'
  repeat' (first | refine je rfl (List.length_map _) ?_ | refine st1 ?_ | intro u)
  refine lp _ _ (by rfl) (by rfl) (by rfl) (by rfl) (by rfl) (by rfl) (by rfl) (fun s' u0 u1 u2 u3 u9 u10 u11=>?_)
  rw [← ja u0,← ja u1,← ja u2,← ja u3,← ja u9,← ja u10,← ja u11]
  repeat' (first | refine ji rfl rfl (by omega) he2 rfl ?_ | refine kS rfl rfl hj hw rfl ?_ | refine JI rfl rfl hj hw rfl ?_ | refine jr rfl rfl rfl rfl g1 hw1 rfl rfl (fun _ _=>?_) | refine jr rfl rfl rfl rfl (g2 _) (by intro e he; cases List.mem_singleton.mp he; rfl) rfl rfl (fun _ _=>?_) | refine WC rfl rfl rfl rfl (g3 _) hw2 hz' (fun u=>?_) | refine st9 ?_ | intro u)
  rw [← hE] at *
  exact ih' _ (by rfl) (by rfl) (by rfl) (by rfl) (by rfl) (by rfl) hK
theorem YP (l:List LineS) (f i t:Int) (hok:∀ z∈l,okLn z) (hlen:l.length≤1000000) :
  CP 21 [.c (encLs l),.c (.int .i64 f),.c (.int .i64 i),.c (.int .i64 t)] (.c (encLs (bestS f i t l))) []:=by
 refine pcallF Tryz.func21 c21 rfl ?_
 have lp:=fun (K:Ex→PS→Prop) s=>ja8 (K:=K) f i t l hlen hok l 0 [] s rfl (by omega) rfl (fun z hz=>by simp at hz)
 have e0:l.foldl (insS (leF (cmpE f i))) []=sortS (leF (cmpE f i)) l:=rfl
 have hsl:(sortS (leF (cmpE f i)) l).length=l.length:=jy l
 rw [e0] at lp
 unfold bestS encLs at *
 have hw:=JL (sortS (leF (cmpE f i)) l)
 have hll:((sortS (leF (cmpE f i)) l).map encLn).length=l.length:=by rw [List.length_map,hsl]
 have htk:((sortS (leF (cmpE f i)) l).map encLn).take (topN t l.length)=((sortS (leF (cmpE f i)) l).take (topN t l.length)).map encLn:=(List.map_take).symm
 have hj:topN t l.length≤((sortS (leF (cmpE f i)) l).map encLn).length:=by rw [hll]; unfold topN; omega
 have hz:=topB t l.length
 generalize (sortS (leF (cmpE f i)) l).map encLn=S at *
 generalize ((sortS (leF (cmpE f i)) l).take (topN t l.length)).map encLn=T at *
 unfold p21
 repeat' (first | refine st0 ?_ | intro u)
 refine lp _ _ (by rfl) (by rfl) (by rfl) (by rfl) (by rfl) (by rfl) (fun s' u3 u9=>?_)
 rw [← ja u3,← ja u9]
 repeat' (first | refine je rfl hll ?_ | refine ZV rfl rfl hz hj hw htk ?_ | refine st5 ?_ | intro u)
 exact jd rfl rfl
set_option maxRecDepth 100000
set_option maxHeartbeats 16000000
/-! ### The document's lay, Up -/
def ltA (a:Go.Bag.Place) (p:Pr):Bool:=decide (keyP p.1 < keyP a)
def putX (m:Int) (T D:List Pr) (a:Go.Bag.Place) (c:Cell):Option (List Pr) :=
 match D with
 | []=>some (T++[(a,c)])
 | p::D'=>if p.1=a then (if (joinC m p.2 c).2=true then some (T++(a,(joinC m p.2 c).1)::D') else none) else some (T++(a,c)::p::D')
theorem ZW {m:Int} {a:Go.Bag.Place} {c:Cell}:∀ L:List Pr,layX m L a c=putX m (L.takeWhile (ltA a)) (L.dropWhile (ltA a)) a c
 | []=>rfl
 | p::L=>by
  rw [layX,List.takeWhile_cons,List.dropWhile_cons]
  unfold ltA
  by_cases h:keyP p.1 < keyP a
  ·rw [if_pos h,decide_eq_true h]
   simp only [if_true]
   rw [ZW L]
   unfold ltA putX
   split
   ·rfl
   ·split
    ·split <;> rfl
    ·rfl
  ·rw [if_neg h,decide_eq_false h]
   simp only [Bool.false_eq_true,if_false]
   rfl
theorem jec (l:List Pr):∀ e∈l.map encPr,e.length=9:=by
 intro e he
 obtain ⟨r,_,rfl⟩:=List.mem_map.mp he
 rfl
theorem ja9 {K:KT} (m:Int) (l:List Pr) (hlen:l.length≤100000) (k:Nat) (hl:inPs k l) (a:Go.Bag.Place) (ha:u8P a) (c:Cell) (v6 v7 v8:Nat):∀ (rest:List Pr) (i:Nat) (s:PS),l.drop i=rest→i≤l.length →
  s.t 0=.c (.int .i64 m)→s.t 1=.c (encPrs l)→s.t 6=.ptr 6 v6 0→s.bx 6=⟨v6,.var (encP a)⟩→s.t 7=.ptr 7 v7 0→s.bx 7=⟨v7,.var (encC c)⟩→s.t 8=.ptr 8 v8 0→s.bx 8=⟨v8,.var [.sl [],.bool false]⟩→s.t 9=.c (.int .i64 i) →
  (∀ s':PS,s'.t 0=.c (.int .i64 m)→s'.t 1=.c (encPrs l)→s'.t 6=.ptr 6 v6 0→s'.bx 6=⟨v6,.var (encP a)⟩→s'.t 7=.ptr 7 v7 0→s'.bx 7=⟨v7,.var (encC c)⟩→s'.t 8=.ptr 8 v8 0→s'.bx 8=⟨v8,.var [.sl [],.bool false]⟩→s'.t 9=.c (.int .i64 ((i + (rest.takeWhile (ltA a)).length:Nat):Int))→K (.x 0) s')→wP (CP) (.loop b70_0) s K:=by
 have k2:=wk a ha
 intro rest
 induction rest with
 | nil =>
  intro i s hd hi t0 t1 t6 b6 t7 b7 t8 b8 t9 hK
  refine jf ?_
  have:=jm hd hi
  subst this
  rw [← ja t0,← ja t1,← ja t6,← jc b6,← ja t7,← jc b7,← ja t8,← jc b8,← ja t9]
  unfold encPrs
  unfold b70_0
  repeat' (first | refine je rfl (List.length_map _) ?_ | refine st2 ?_ | intro u)
  exact hK _ (by rfl) (by rfl) (by rfl) (by rfl) (by rfl) (by rfl) (by rfl) (by rfl) (by rfl)
 | cons q rest ih =>
  intro i s hd hi t0 t1 t6 b6 t7 b7 t8 b8 t9 hK
  refine jf ?_
  have he:(l.map encPr)[((i:Nat):Int).toNat]? = some (encPr q):=jp hd
  have hil:=jo hd
  have hn:=jg hd
  have k1:=wk q.1 (hl q (List.mem_of_mem_drop (by rw [hd]; simp))).1
  have ih':=fun s=>ih (i + 1) s hn (by omega)
  rw [List.takeWhile_cons] at hK
  unfold ltA at hK ih'
  generalize keyP q.1=kq at *
  generalize keyP a=ka at *
  rw [← ja t0,← ja t1,← ja t6,← jc b6,← ja t7,← jc b7,← ja t8,← jc b8,← ja t9]
  unfold encPrs encPr encC encP at *
  dsimp only [List.cons_append,List.nil_append] at *
  unfold b70_0
  by_cases h:kq < ka
  ·rw [decide_eq_true h] at hK
   simp only [if_true,List.length_cons] at hK
   repeat' (first | refine je rfl (List.length_map _) ?_ | refine ji rfl rfl (by omega) he rfl ?_ | refine call1 rfl k1 ?_ | refine call1 rfl k2 ?_ | refine st4 ?_ | intro u)
   refine ih' _ (by rfl) (by rfl) (by rfl) (by rfl) (by rfl) (by rfl) (by rfl) (by rfl) (by rfl) (fun s' h0 h1 h6 g6 h7 g7 h8 g8 h9=>hK s' h0 h1 h6 g6 h7 g7 h8 g8 ?_)
   rw [h9]
   congr 3
   omega
  ·rw [decide_eq_false h] at hK
   simp only [Bool.false_eq_true,if_false] at hK
   repeat' (first | refine je rfl (List.length_map _) ?_ | refine ji rfl rfl (by omega) he rfl ?_ | refine call1 rfl k1 ?_ | refine call1 rfl k2 ?_ | refine st8 ?_ | intro u)
   exact hK _ (by rfl) (by rfl) (by rfl) (by rfl) (by rfl) (by rfl) (by rfl) (by rfl) (by rfl)
theorem jmw (m:Int) (l:List Pr) (a:Go.Bag.Place) (c:Cell) (hlen:l.length≤100000) (hl:inPs 400000 l) (ha:u8P a) (hc:inC 400000 c) :
  CP 70 [.c (.int .i64 m),.c (encPrs l),.c (.agg (encP a)),.c (encCell c)] (.c (.agg (encUp (layX m l a c)))) []:=by
 refine pcallF Tryz.func70 c70 rfl ?_
 have lp:=fun (K:Ex→PS→Prop) v6 v7 v8 s=>ja9 (K:=K) m l hlen 400000 hl a ha c v6 v7 v8 l 0 s rfl (by omega)
 have htw:(l.takeWhile (ltA a)).length≤l.length:=by
  have:=congrArg List.length (List.takeWhile_append_dropWhile (p:=ltA a) (l:=l))
  simp only [List.length_append] at this
  omega
 have e1:=YH (ltA a) l
 have e2:=YI (ltA a) l
 rw [ZW]
 rw [← e1,← e2]
 simp only [Nat.zero_add] at lp
 generalize (l.takeWhile (ltA a)).length=j at *
 clear e1 e2
 have hw:=jec l
 have hj:j≤(l.map encPr).length:=by simpa using htw
 have hw1:∀ e∈(l.map encPr).take j,e.length=9:=fun e he=>hw e (List.mem_of_mem_take he)
 have g1:([]:List (List CV)).length + ((l.map encPr).take j).length≤maxGrow:=by simp [maxGrow]; omega
 have hw2:∀ i,∀ e∈(l.map encPr).drop i,e.length=9:=fun i e he=>hw e (List.mem_of_mem_drop he)
 have g2:∀ q:List CV,([]++(l.map encPr).take j).length + [q].length≤maxGrow:=fun q=>by simp [maxGrow]; omega
 have g3:∀ (i:Nat) (q:List CV),([]++(l.map encPr).take j++[q]).length + ((l.map encPr).drop i).length≤maxGrow:=fun i q=>by simp [maxGrow]; omega
 unfold putX
 by_cases hjl:j < l.length
 ·-- one stands there
  obtain ⟨p,D,hD⟩:∃ p D,l.drop j=p::D:=by
   cases h:l.drop j with
   | nil=>have:=List.drop_eq_nil_iff.mp h; omega
   | cons p D=>exact ⟨p,D,rfl⟩
  rw [hD]
  dsimp only
  have he:(l.map encPr)[((j:Nat):Int).toNat]? = some (encPr p):=jp hD
  have hp:=hl p (List.mem_of_mem_drop (by rw [hD]; simp))
  have hq:=w9 p.1 a
  have hj1:j + 1≤(l.map encPr).length:=by simp; omega
  have hnj:((j:Nat):Int) + 1=((j + 1:Nat):Int):=by omega
  have hd0:(l.map encPr).drop j=encPr p::D.map encPr:=by rw [← List.map_drop,hD]; rfl
  have hd1:(l.map encPr).drop (j + 1)=D.map encPr:=by rw [← List.map_drop,jg hD]
  by_cases hpa:p.1=a
  ·rw [if_pos hpa]
   rw [decide_eq_true hpa] at hq
   have cj:=jgg m p.2 c hp.2 hc
   have hE:encPrs (l.take j++(a,(joinC m p.2 c).1)::D)=.sl ([]++(l.map encPr).take j++[encPr (a,(joinC m p.2 c).1)]++(l.map encPr).drop (j + 1)):=by
    rw [hd1]
    simp [encPrs,List.map_take]
   unfold rcV at cj
   generalize (joinC m p.2 c).1=x at *
   generalize (joinC m p.2 c).2=xb at *
   generalize hlm:l.map encPr=lm at *
   unfold encPr at hE
   dsimp only at hE
   have hlml:lm.length=l.length:=by rw [← hlm]; simp
   cases xb with
   | true =>
    rw [if_pos rfl]
    unfold encUp
    dsimp only
    rw [hE]
    unfold encPrs at *
    unfold encPr encCell encC encP at *
    dsimp only [List.cons_append,List.nil_append] at *
    rw [hlm] at lp
    unfold p70
    repeat' (first | refine st3 ?_ | intro u)
    refine lp _ _ _ _ _ (by rfl) (by rw [hlm]; rfl) (by rfl) (by rfl) (by rfl) (by rfl) (by rfl) (by rfl) (by rfl) (fun s' t0 t1 t6 b6 t7 b7 t8 b8 t9=>?_)
    rw [← ja t0,← ja t1,← ja t6,← jc b6,← ja t7,← jc b7,← ja t8,← jc b8,← ja t9]
    repeat' (first | refine je rfl hlml ?_ | refine kS rfl rfl hj hw rfl ?_ | refine ji rfl rfl (by omega) he rfl ?_ | refine jG rfl rfl hq ?_ | refine call3 rfl rfl rfl cj ?_ | refine JI rfl (congrArg (fun n=>PV.c (CV.int .i64 n)) hnj) hj1 hw rfl ?_ | refine jr rfl rfl rfl rfl g1 hw1 rfl rfl (fun _ _=>?_) | refine jr rfl rfl rfl rfl (g2 _) (by intro e he; cases List.mem_singleton.mp he; rfl) rfl rfl (fun _ _=>?_) | refine jr rfl rfl rfl rfl (g3 _ _) (hw2 _) rfl rfl (fun _ _=>?_) | refine jF rfl rfl rfl (fun _=>?_) | refine st8 ?_ | intro u)
    exact jd (jh rfl rfl rfl rfl jk) rfl
   | false =>
    rw [if_neg (by simp)]
    unfold encUp
    unfold encPrs at *
    unfold encPr encCell encC encP at *
    dsimp only [List.cons_append,List.nil_append] at *
    rw [hlm] at lp
    unfold p70
    repeat' (first | refine st3 ?_ | intro u)
    refine lp _ _ _ _ _ (by rfl) (by rw [hlm]; rfl) (by rfl) (by rfl) (by rfl) (by rfl) (by rfl) (by rfl) (by rfl) (fun s' t0 t1 t6 b6 t7 b7 t8 b8 t9=>?_)
    rw [← ja t0,← ja t1,← ja t6,← jc b6,← ja t7,← jc b7,← ja t8,← jc b8,← ja t9]
    repeat' (first | refine je rfl hlml ?_ | refine kS rfl rfl hj hw rfl ?_ | refine ji rfl rfl (by omega) he rfl ?_ | refine jG rfl rfl hq ?_ | refine call3 rfl rfl rfl cj ?_ | refine jr rfl rfl rfl rfl g1 hw1 rfl rfl (fun _ _=>?_) | refine st8 ?_ | intro u)
    exact jd (jh rfl rfl rfl rfl jk) rfl
  ·rw [if_neg hpa]
   rw [decide_eq_false hpa] at hq
   have hE:encPrs (l.take j++(a,c)::p::D)=.sl ([]++(l.map encPr).take j++[encPr (a,c)]++(l.map encPr).drop j):=by
    rw [hd0]
    simp [encPrs,List.map_take]
   generalize hlm:l.map encPr=lm at *
   unfold encPr at hE
   dsimp only at hE
   have hlml:lm.length=l.length:=by rw [← hlm]; simp
   unfold encUp
   dsimp only
   rw [hE]
   unfold encPrs at *
   unfold encPr encCell encC encP at *
   dsimp only [List.cons_append,List.nil_append] at *
   rw [hlm] at lp
   unfold p70
   repeat' (first | refine st3 ?_ | intro u)
   refine lp _ _ _ _ _ (by rfl) (by rw [hlm]; rfl) (by rfl) (by rfl) (by rfl) (by rfl) (by rfl) (by rfl) (by rfl) (fun s' t0 t1 t6 b6 t7 b7 t8 b8 t9=>?_)
   rw [← ja t0,← ja t1,← ja t6,← jc b6,← ja t7,← jc b7,← ja t8,← jc b8,← ja t9]
   repeat' (first | refine je rfl hlml ?_ | refine kS rfl rfl hj hw rfl ?_ | refine JI rfl rfl hj hw rfl ?_ | refine ji rfl rfl (by omega) he rfl ?_ | refine jG rfl rfl hq ?_ | refine jr rfl rfl rfl rfl g1 hw1 rfl rfl (fun _ _=>?_) | refine jr rfl rfl rfl rfl (g2 _) (by intro e he; cases List.mem_singleton.mp he; rfl) rfl rfl (fun _ _=>?_) | refine jr rfl rfl rfl rfl (g3 _ _) (hw2 _) rfl rfl (fun _ _=>?_) | refine jF rfl rfl rfl (fun _=>?_) | refine st8 ?_ | intro u)
   exact jd (jh rfl rfl rfl rfl jk) rfl
 ·-- behind all
  have hje:j=l.length:=by omega
  have hD:l.drop j=[]:=List.drop_eq_nil_iff.mpr (by omega)
  rw [hD]
  dsimp only
  have hE:encPrs (l.take j++[(a,c)])=.sl ([]++(l.map encPr).take j++[encPr (a,c)]++(l.map encPr).drop j):=by
   rw [← List.map_drop,hD]
   simp [encPrs,List.map_take]
  generalize hlm:l.map encPr=lm at *
  unfold encPr at hE
  dsimp only at hE
  have hlml:lm.length=l.length:=by rw [← hlm]; simp
  unfold encUp
  dsimp only
  rw [hE]
  unfold encPrs at *
  unfold encPr encCell encC encP at *
  dsimp only [List.cons_append,List.nil_append] at *
  rw [hlm] at lp
  unfold p70
  repeat' (first | refine st3 ?_ | intro u)
  refine lp _ _ _ _ _ (by rfl) (by rw [hlm]; rfl) (by rfl) (by rfl) (by rfl) (by rfl) (by rfl) (by rfl) (by rfl) (fun s' t0 t1 t6 b6 t7 b7 t8 b8 t9=>?_)
  rw [← ja t0,← ja t1,← ja t6,← jc b6,← ja t7,← jc b7,← ja t8,← jc b8,← ja t9]
  repeat' (first | refine je rfl hlml ?_ | refine kS rfl rfl hj hw rfl ?_ | refine JI rfl rfl hj hw rfl ?_ | refine jr rfl rfl rfl rfl g1 hw1 rfl rfl (fun _ _=>?_) | refine jr rfl rfl rfl rfl (g2 _) (by intro e he; cases List.mem_singleton.mp he; rfl) rfl rfl (fun _ _=>?_) | refine jr rfl rfl rfl rfl (g3 _ _) (hw2 _) rfl rfl (fun _ _=>?_) | refine jF rfl rfl rfl (fun _=>?_) | refine st8 ?_ | intro u)
  exact jd (jh rfl rfl rfl rfl jk) rfl
end Go.Proofs.YtnpncbplhdnonaaGreat
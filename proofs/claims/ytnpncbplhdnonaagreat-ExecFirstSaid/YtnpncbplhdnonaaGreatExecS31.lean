/- Part of the proof of ExecTells, ExecAnswers, ExecBest, ExecFirst, ExecLevels, ExecTops, ExecLimits: lemmas. -/
import Derived.Test.YtnpncbplhdnonaaGreatExecS25
import Derived.Test.YtnpncbplhdnonaaGreatExecS30
set_option linter.unusedVariables false
set_option linter.unusedSimpArgs false
namespace Go.Proofs.YtnpncbplhdnonaaGreat
open Go.Pl Go.Bag
set_option maxRecDepth 100000
set_option maxHeartbeats 16000000
/-! ### Are they alike? -/
theorem VT (a b:LineS):eqC true [LK.i,LK.i,LK.i,LK.i,LK.i,LK.i,LK.i,LK.i,LK.i,LK.i,LK.i] (.agg (encLn a)) (.agg (encLn b))=some (decide (a=b)):=by
 obtain ⟨a0,a1,a2,a3,a4,a5,a6,a7,a8,a9,a10⟩:=a
 obtain ⟨b0,b1,b2,b3,b4,b5,b6,b7,b8,b9,b10⟩:=b
 have:eqC true [LK.i,LK.i,LK.i,LK.i,LK.i,LK.i,LK.i,LK.i,LK.i,LK.i,LK.i] (.agg (encLn ⟨a0,a1,a2,a3,a4,a5,a6,a7,a8,a9,a10⟩)) (.agg (encLn ⟨b0,b1,b2,b3,b4,b5,b6,b7,b8,b9,b10⟩))=some ((a0 == b0) && ((a1 == b1) && ((a2 == b2) && ((a3 == b3) && ((a4 == b4) && ((a5 == b5) && ((a6 == b6) && ((a7 == b7) && ((a8 == b8) && ((a9 == b9) && ((a10 == b10) && true))))))))))):=by simp [eqC,shEq,encLn]
 rw [this]
 congr 1
 simp only [LineS.mk.injEq]
 rw [Bool.eq_iff_iff]
 simp
theorem jed {K:KT} (a b:List LineS) (ha:a.length≤9223372036854775807) (hl:a.length=b.length):∀ (xs ys:List LineS) (i:Nat) (s:PS),a.drop i=xs→b.drop i=ys→i≤a.length →
  s.t 0=.c (encLs a)→s.t 1=.c (encLs b)→s.t 5=.c (.int .i64 i) →
  (xs=ys→∀ s',K (.x 0) s')→(xs≠ys→∀ s',s'.t 4=.c (.bool false)→K .r s')→wP (CP) (.loop b19_0) s K:=by
 intro xs
 induction xs with
 | nil =>
  intro ys i s hd hd2 hi t0 t1 t5 hx hr
  refine jf ?_
  have:=jm hd hi
  subst this
  have hy:ys=[]:=by rw [← hd2,hl]; simp
  rw [← ja t0,← ja t1,← ja t5]
  unfold encLs
  unfold b19_0
  repeat' (first | refine je rfl (List.length_map _) ?_ | refine st0 ?_ | intro u)
  exact hx hy.symm _
 | cons x xs ih =>
  intro ys i s hd hd2 hi t0 t1 t5 hx hr
  refine jf ?_
  have hil:=jo hd
  obtain ⟨y,ys,rfl⟩:∃ y ys',ys=y::ys':=by
   cases ys with
   | nil=>have:=List.drop_eq_nil_iff.mp hd2; omega
   | cons y ys'=>exact ⟨y,ys',rfl⟩
  have he:(a.map encLn)[((i:Nat):Int).toNat]? = some (encLn x):=jp hd
  have he2:(b.map encLn)[((i:Nat):Int).toNat]? = some (encLn y):=jp hd2
  have hq:=VT x y
  have ih':=fun s=>ih ys (i + 1) s (jg hd) (jg hd2) (by omega)
  rw [← ja t0,← ja t1,← ja t5]
  unfold encLs
  unfold b19_0
  by_cases h:x=y
  ·rw [decide_eq_true h] at hq
   unfold encLn at *
   repeat' (first | refine je rfl (List.length_map _) ?_ | refine ji rfl rfl (by omega) he rfl ?_ | refine ji rfl rfl (by omega) he2 rfl ?_ | refine kO rfl rfl hq ?_ | refine st1 ?_ | intro u)
   exact ih' _ (by rfl) (by rfl) (by rfl) (fun hh=>hx (by rw [h,hh])) (fun hh=>hr (fun e=>hh (List.cons.inj e).2))
  ·rw [decide_eq_false h] at hq
   unfold encLn at *
   repeat' (first | refine je rfl (List.length_map _) ?_ | refine ji rfl rfl (by omega) he rfl ?_ | refine ji rfl rfl (by omega) he2 rfl ?_ | refine kO rfl rfl hq ?_ | refine st3 ?_ | intro u)
   exact hr (fun e=>h (List.cons.inj e).1) _ (by rfl)
theorem vL (a b:List LineS) (ha:a.length≤9223372036854775807) (hb:b.length≤9223372036854775807):CP 19 [.c (encLs a),.c (encLs b)] (.c (.bool (decide (a=b)))) []:=by
 refine pcallF Tryz.func19 c19 rfl ?_
 by_cases hl:a.length=b.length
 ·have lp:=fun (K:Ex→PS→Prop) s=>jed (K:=K) a b ha hl a b 0 s rfl rfl (by omega)
  unfold encLs at *
  unfold p19
  repeat' (first | refine je rfl (List.length_map _) ?_ | refine st1 ?_ | intro u)
  refine lp _ _ (by rfl) (by rfl) (by rfl) (fun h s'=>?_) (fun h s' h4=>?_)
  ·rw [decide_eq_true h]
   repeat' (first | refine st0 ?_ | intro u)
   exact jd rfl rfl
  ·rw [decide_eq_false h,← ja h4]
   repeat' (first | refine j8 ?_ | refine kl ?_)
   exact jd rfl rfl
 ·rw [decide_eq_false (fun e=>hl (by rw [e]))]
  unfold encLs at *
  unfold p19
  repeat' (first | refine je rfl (List.length_map _) ?_ | refine st3 ?_ | intro u)
  exact jd rfl rfl
theorem jba {K:KT} (a b:List Pr) (hina:inPs 1000000 a) (hinb:inPs 1000000 b) (ha:a.length≤9223372036854775807) (hl:a.length=b.length):∀ (xs ys:List Pr) (i:Nat) (s:PS),a.drop i=xs→b.drop i=ys→i≤a.length →
  s.t 0=.c (encPrs a)→s.t 1=.c (encPrs b)→s.t 5=.c (.int .i64 i) →
  (xs=ys→∀ s',K (.x 0) s')→(xs≠ys→∀ s',s'.t 4=.c (.bool false)→K .r s')→wP (CP) (.loop b27_0) s K:=by
 intro xs
 induction xs with
 | nil =>
  intro ys i s hd hd2 hi t0 t1 t5 hx hr
  refine jf ?_
  have:=jm hd hi
  subst this
  have hy:ys=[]:=by rw [← hd2,hl]; simp
  rw [← ja t0,← ja t1,← ja t5]
  unfold encPrs
  unfold b27_0
  repeat' (first | refine je rfl (List.length_map _) ?_ | refine st0 ?_ | intro u)
  exact hx hy.symm _
 | cons x xs ih =>
  intro ys i s hd hd2 hi t0 t1 t5 hx hr
  refine jf ?_
  have hil:=jo hd
  obtain ⟨y,ys,rfl⟩:∃ y ys',ys=y::ys':=by
   cases ys with
   | nil=>have:=List.drop_eq_nil_iff.mp hd2; omega
   | cons y ys'=>exact ⟨y,ys',rfl⟩
  have he:(a.map encPr)[((i:Nat):Int).toNat]? = some (encPr x):=jp hd
  have he2:(b.map encPr)[((i:Nat):Int).toNat]? = some (encPr y):=jp hd2
  have hxi:=(hina x (List.mem_of_mem_drop (by rw [hd]; simp))).2
  have hyi:=(hinb y (List.mem_of_mem_drop (by rw [hd2]; simp))).2
  have hq:=w9 x.1 y.1
  have cs:=jgv x.2 y.2 ⟨hxi.2.2.2.2.2.1,hxi.2.2.2.2.2.2⟩ ⟨hyi.2.2.2.2.2.1,hyi.2.2.2.2.2.2⟩
  have ih':=fun s=>ih ys (i + 1) s (jg hd) (jg hd2) (by omega)
  rw [← ja t0,← ja t1,← ja t5]
  unfold encPrs
  unfold b27_0
  by_cases h:x.1=y.1
  ·rw [decide_eq_true h] at hq
   by_cases h2:x.2=y.2
   ·rw [decide_eq_true h2] at cs
    unfold encPr encCell encC encP at *
    dsimp only [List.cons_append,List.nil_append] at *
    repeat' (first | refine je rfl (List.length_map _) ?_ | refine ji rfl rfl (by omega) he rfl ?_ | refine ji rfl rfl (by omega) he2 rfl ?_ | refine kO rfl rfl hq ?_ | refine call2 rfl rfl cs ?_ | refine st6 ?_ | intro u)
    have hxy:x=y:=Prod.ext h h2
    exact ih' _ (by rfl) (by rfl) (by rfl) (fun hh=>hx (by rw [hxy,hh])) (fun hh=>hr (fun e=>hh (List.cons.inj e).2))
   ·rw [decide_eq_false h2] at cs
    unfold encPr encCell encC encP at *
    dsimp only [List.cons_append,List.nil_append] at *
    repeat' (first | refine je rfl (List.length_map _) ?_ | refine ji rfl rfl (by omega) he rfl ?_ | refine ji rfl rfl (by omega) he2 rfl ?_ | refine kO rfl rfl hq ?_ | refine call2 rfl rfl cs ?_ | refine st3 ?_ | intro u)
    exact hr (fun e=>h2 (by rw [(List.cons.inj e).1])) _ (by rfl)
  ·rw [decide_eq_false h] at hq
   unfold encPr encCell encC encP at *
   dsimp only [List.cons_append,List.nil_append] at *
   repeat' (first | refine je rfl (List.length_map _) ?_ | refine ji rfl rfl (by omega) he rfl ?_ | refine ji rfl rfl (by omega) he2 rfl ?_ | refine kO rfl rfl hq ?_ | refine st3 ?_ | intro u)
   exact hr (fun e=>h (by rw [(List.cons.inj e).1])) _ (by rfl)
theorem wX (a b:List Pr) (hina:inPs 1000000 a) (hinb:inPs 1000000 b) (ha:a.length≤9223372036854775807) (hb:b.length≤9223372036854775807):CP 27 [.c (encPrs a),.c (encPrs b)] (.c (.bool (decide (a=b)))) []:=by
 refine pcallF Tryz.func27 c27 rfl ?_
 by_cases hl:a.length=b.length
 ·have lp:=fun (K:Ex→PS→Prop) s=>jba (K:=K) a b hina hinb ha hl a b 0 s rfl rfl (by omega)
  unfold encPrs at *
  unfold p27
  repeat' (first | refine je rfl (List.length_map _) ?_ | refine st1 ?_ | intro u)
  refine lp _ _ (by rfl) (by rfl) (by rfl) (fun h s'=>?_) (fun h s' h4=>?_)
  ·rw [decide_eq_true h]
   repeat' (first | refine st0 ?_ | intro u)
   exact jd rfl rfl
  ·rw [decide_eq_false h,← ja h4]
   repeat' (first | refine j8 ?_ | refine kl ?_)
   exact jd rfl rfl
 ·rw [decide_eq_false (fun e=>hl (by rw [e]))]
  unfold encPrs at *
  unfold p27
  repeat' (first | refine je rfl (List.length_map _) ?_ | refine st3 ?_ | intro u)
  exact jd rfl rfl
/-! ### Lines of pairs -/
theorem jee {k:Nat} {m:Int} {p:Pr} (hp:u8P p.1) (hc:inC k p.2):okLn (lineC m p.1 p.2):=by
 unfold lineC
 split
 ·obtain ⟨h1,h2,h3,h4,h5,_,_⟩:=hc
  have lo:∀ b:List Run,ranged b→in64 (lo_ b)∧in64 (hi_ b):=by
   intro b hb
   unfold lo_ hi_
   constructor
   ·cases h:b.head? with
    | none=>decide
    | some r=>exact (hb r (List.mem_of_head? h)).1
   ·cases h:b.getLast? with
    | none=>decide
    | some r=>exact (hb r (List.mem_of_getLast? h)).1
  have z:in64 0:=by decide
  refine ⟨⟨h1,h2,?_,(lo _ h4).1,?_,(lo _ h4).2,?_⟩,?_⟩
  ·show in64 (if m=2 then _ else _); split; exact h3; exact z
  ·show in64 (if m=2 then _ else _); split; exact (lo _ h5).1; exact z
  ·show in64 (if m=2 then _ else _); split; exact (lo _ h5).2; exact z
  ·exact hp
 ·exact ⟨by unfold inL; decide,jv⟩
def linesOf (m:Int) (l:List Pr):List LineS:=l.map fun p=>lineC m p.1 p.2
def toldS (m:Int) (l:List Pr) (q:QueryS):List LineS × Int :=
 let out:=if 0 < q.top then bestS q.fn q.measure q.top (linesOf m l) else linesOf m l
 if q.limit < (out.length:Int) then ([],13) else (out,0)
set_option maxRecDepth 100000
set_option maxHeartbeats 16000000
/-! ### Told -/
theorem jef {K:KT} (m:Int) (l:List Pr) (hl:inPs 999999 l) (hlen:l.length≤100000) (x5 x6:List CV) (v5 v6:Nat):∀ (rest:List Pr) (out:List LineS) (i:Nat) (s:PS) (e w:Nat),l.drop i=rest→i≤l.length→out.length=i→(e=7∨e=29) →
  s.t 0=.c (.int .i64 m)→s.t 1=.c (encPrs l)→s.t 5=.ptr 5 v5 0→s.bx 5=⟨v5,.var x5⟩→s.t 6=.ptr 6 v6 0→s.bx 6=⟨v6,.var x6⟩→s.t 7=.osl e w 0 (out.map encLn).length→s.bx e=⟨w,.sl 11 (out.map encLn)⟩→s.t 8=.c (.int .i64 i) →
  (∀ s' e' w',(e'=7∨e'=29)→s'.t 5=.ptr 5 v5 0→s'.bx 5=⟨v5,.var x5⟩→s'.t 6=.ptr 6 v6 0→s'.bx 6=⟨v6,.var x6⟩→s'.t 7=.osl e' w' 0 ((out++linesOf m rest).map encLn).length→s'.bx e'=⟨w',.sl 11 ((out++linesOf m rest).map encLn)⟩→K (.x 0) s')→wP (CP) (.loop b72_0) s K:=by
 intro rest
 induction rest with
 | nil =>
  intro out i s e w hd hi hol he t0 t1 t5 b5 t6 b6 t7 b7 t8 hK
  refine jf ?_
  have:=jm hd hi
  subst this
  have e0:out++linesOf m []=out:=by simp [linesOf]
  rw [e0] at hK
  rw [← ja t0,← ja t1,← ja t5,← jc b5,← ja t6,← jc b6,← ja t7,← jc b7,← ja t8]
  unfold encPrs
  unfold b72_0
  rcases he with rfl | rfl
  ·repeat' (first | refine je rfl (List.length_map _) ?_ | refine st0 ?_ | intro u)
   exact hK _ 7 _ (.inl rfl) (by rfl) (by rfl) (by rfl) (by rfl) (by rfl) (by rfl)
  ·repeat' (first | refine je rfl (List.length_map _) ?_ | refine st0 ?_ | intro u)
   exact hK _ 29 _ (.inr rfl) (by rfl) (by rfl) (by rfl) (by rfl) (by rfl) (by rfl)
 | cons q rest ih =>
  intro out i s e w hd hi hol he t0 t1 t5 b5 t6 b6 t7 b7 t8 hK
  refine jf ?_
  have hget:(l.map encPr)[((i:Nat):Int).toNat]? = some (encPr q):=jp hd
  have hil:=jo hd
  have hq:=hl q (List.mem_of_mem_drop (by rw [hd]; simp))
  have c1:=jgf m q.1 q.2 hq.2
  have ih':=fun s e w=>ih (out++[lineC m q.1 q.2]) (i + 1) s e w (jg hd) (by omega) (by simp [hol])
  have e0:out++linesOf m (q::rest)=out++[lineC m q.1 q.2]++linesOf m rest:=by simp [linesOf]
  rw [e0] at hK
  have hz:out.map encLn++[encLn (lineC m q.1 q.2)]=(out++[lineC m q.1 q.2]).map encLn:=by simp
  have hgrow:(out.map encLn).length + [encLn (lineC m q.1 q.2)].length≤maxGrow:=by simp [maxGrow]; omega
  generalize lineC m q.1 q.2=ln at *
  rw [← ja t0,← ja t1,← ja t5,← jc b5,← ja t6,← jc b6,← ja t7,← jc b7,← ja t8]
  generalize hA:(out++[ln]).map encLn=A at *
  generalize hB:out.map encLn=B at *
  unfold encPrs encPr encCell encC encP encLine at *
  dsimp only [List.cons_append,List.nil_append] at *
  unfold encLn at c1 hz hgrow
  unfold b72_0
  rcases he with rfl | rfl
  ·repeat' (first | refine je rfl (List.length_map _) ?_ | refine ji rfl rfl (by omega) hget rfl ?_ | refine call3 rfl rfl rfl c1 ?_ | refine jr rfl rfl rfl rfl hgrow (by intro e he; cases List.mem_singleton.mp he; rfl) hz rfl (fun _ _=>?_) | refine st6 ?_ | intro u)
   exact ih' _ 29 _ (.inr rfl) (by rfl) (by rfl) (by rfl) (by rfl) (by rfl) (by rfl) (by rfl) (by rfl) (by rfl) hK
  ·repeat' (first | refine je rfl (List.length_map _) ?_ | refine ji rfl rfl (by omega) hget rfl ?_ | refine call3 rfl rfl rfl c1 ?_ | refine jr rfl rfl rfl rfl hgrow (by intro e he; cases List.mem_singleton.mp he; rfl) hz rfl (fun _ _=>?_) | refine st6 ?_ | intro u)
   exact ih' _ 29 _ (.inr rfl) (by rfl) (by rfl) (by rfl) (by rfl) (by rfl) (by rfl) (by rfl) (by rfl) (by rfl) hK
theorem JX {k:Nat} {m:Int} {l:List Pr} (h:inPs k l):∀ z∈linesOf m l,okLn z:=by
 intro z hz
 obtain ⟨p,hp,rfl⟩:=List.mem_map.mp hz
 exact jee (h p hp).1 (h p hp).2
theorem ki (f i t:Int) (l:List LineS):(bestS f i t l).length≤l.length:=by
 unfold bestS
 rw [List.length_take,jy]
 omega
theorem jl4 (m:Int) (l:List Pr) (q:QueryS) (hl:inPs 999999 l) (hlen:l.length≤100000) :
  CP 72 [.c (.int .i64 m),.c (encPrs l),.c (.agg (encQ q))] (.c (.agg [encLs (toldS m l q).1,.int .i64 (toldS m l q).2])) []:=by
 have hLl:(linesOf m l).length=l.length:=by simp [linesOf]
 have cb:=YP (linesOf m l) q.fn q.measure q.top (JX hl) (by omega)
 refine pcallF Tryz.func72 c72 rfl ?_
 have lp:=fun (K:Ex→PS→Prop) x5 x6 v5 v6 s=>jef (K:=K) m l hl hlen x5 x6 v5 v6 l [] 0 s 7
 rw [show []++linesOf m l=linesOf m l from rfl] at lp
 unfold toldS
 have hbl:=ki q.fn q.measure q.top (linesOf m l)
 dsimp only
 generalize bestS q.fn q.measure q.top (linesOf m l)=B at *
 generalize linesOf m l=L at *
 unfold encLs at *
 have hBl:(B.map encLn).length=B.length:=List.length_map _
 have hLl2:(L.map encLn).length=L.length:=List.length_map _
 generalize encPrs l=pl at *
 obtain ⟨nd,fs,tp,ms,fn,lm⟩:=q
 dsimp only at *
 unfold encQ encP at *
 dsimp only [List.cons_append,List.nil_append] at *
 unfold p72
 repeat' (first | refine st7 ?_ | intro u)
 refine lp _ _ _ _ _ _ _ rfl (by omega) rfl (.inl rfl) (by rfl) (by rfl) (by rfl) (by rfl) (by rfl) (by rfl) (by rfl) (by rfl) (by rfl) (fun s' e' w' he t5 b5 t6 b6 t7 b7=>?_)
 rw [← ja t5,← jc b5,← ja t6,← jc b6,← ja t7,← jc b7]
 by_cases h:0 < tp
 ·rw [if_pos h]
  by_cases h2:lm < (B.length:Int)
  ·rw [if_pos h2]
   generalize hBm:B.map encLn=Bm at *
   generalize hLm:L.map encLn=Lm at *
   rcases he with rfl | rfl
   ·repeat' (first | refine jF rfl rfl rfl (fun _=>?_) | refine call4 rfl rfl rfl rfl cb ?_ | refine je rfl hBl ?_ | refine st5 ?_ | intro u)
    exact jd (jh rfl rfl rfl rfl jk) rfl
   ·repeat' (first | refine jF rfl rfl rfl (fun _=>?_) | refine call4 rfl rfl rfl rfl cb ?_ | refine je rfl hBl ?_ | refine st5 ?_ | intro u)
    exact jd (jh rfl rfl rfl rfl jk) rfl
  ·rw [if_neg h2]
   generalize hBm:B.map encLn=Bm at *
   generalize hLm:L.map encLn=Lm at *
   rcases he with rfl | rfl
   ·repeat' (first | refine jF rfl rfl rfl (fun _=>?_) | refine call4 rfl rfl rfl rfl cb ?_ | refine je rfl hBl ?_ | refine st5 ?_ | intro u)
    exact jd (jh rfl rfl rfl rfl jk) rfl
   ·repeat' (first | refine jF rfl rfl rfl (fun _=>?_) | refine call4 rfl rfl rfl rfl cb ?_ | refine je rfl hBl ?_ | refine st5 ?_ | intro u)
    exact jd (jh rfl rfl rfl rfl jk) rfl
 ·rw [if_neg h]
  by_cases h2:lm < (L.length:Int)
  ·rw [if_pos h2]
   generalize hLm:L.map encLn=Lm at *
   rcases he with rfl | rfl
   ·repeat' (first | refine st5 ?_ | intro u)
    exact jd (jh rfl rfl rfl rfl jk) rfl
   ·repeat' (first | refine st5 ?_ | intro u)
    exact jd (jh rfl rfl rfl rfl jk) rfl
  ·rw [if_neg h2]
   generalize hLm:L.map encLn=Lm at *
   rcases he with rfl | rfl
   ·repeat' (first | refine jF rfl rfl rfl (fun _=>?_) | refine st5 ?_ | intro u)
    exact jd (jh rfl rfl rfl rfl jk) rfl
   ·repeat' (first | refine jF rfl rfl rfl (fun _=>?_) | refine st5 ?_ | intro u)
    exact jd (jh rfl rfl rfl rfl jk) rfl
/-! ### Lines -/
theorem jbb {K:KT} (m:Int) (d4:CV) (l:List Pr) (hl:inPs 999999 l) (hlen:l.length≤100000) (x7:List CV) (v4 v7:Nat):∀ (rest:List Pr) (out:List LineS) (i:Nat) (s:PS) (e w:Nat),l.drop i=rest→i≤l.length→out.length=i→(e=12∨e=71) →
  s.t 4=.ptr 4 v4 0→s.bx 4=⟨v4,.var [d4,.int .i64 m]⟩→s.t 7=.ptr 7 v7 0→s.bx 7=⟨v7,.var x7⟩→s.t 12=.osl e w 0 (out.map encLn).length→s.bx e=⟨w,.sl 11 (out.map encLn)⟩→s.t 56=.c (encPrs l)→s.t 57=.c (.int .i64 l.length)→s.t 58=.c (.int .i64 i) →
  (∀ s' e' w',(e'=12∨e'=71)→s'.t 7=.ptr 7 v7 0→s'.bx 7=⟨v7,.var x7⟩→s'.t 12=.osl e' w' 0 ((out++linesOf m rest).map encLn).length→s'.bx e'=⟨w',.sl 11 ((out++linesOf m rest).map encLn)⟩→K (.x 1) s')→wP (CP) (.loop b25_0) s K:=by
 intro rest
 induction rest with
 | nil =>
  intro out i s e w hd hi hol he t4 b4 t7 b7 t12 b12 t56 t57 t58 hK
  refine jf ?_
  have:=jm hd hi
  subst this
  have e0:out++linesOf m []=out:=by simp [linesOf]
  rw [e0] at hK
  rw [← ja t7,← jc b7,← ja t12,← jc b12,← ja t57,← ja t58]
  unfold b25_0
  rcases he with rfl | rfl
  ·repeat' (first | refine st0 ?_ | intro u)
   exact hK _ 12 _ (.inl rfl) (by rfl) (by rfl) (by rfl) (by rfl)
  ·repeat' (first | refine st0 ?_ | intro u)
   exact hK _ 71 _ (.inr rfl) (by rfl) (by rfl) (by rfl) (by rfl)
 | cons q rest ih =>
  intro out i s e w hd hi hol he t4 b4 t7 b7 t12 b12 t56 t57 t58 hK
  refine jf ?_
  have hget:(l.map encPr)[((i:Nat):Int).toNat]? = some (encPr q):=jp hd
  have hil:=jo hd
  have hq:=hl q (List.mem_of_mem_drop (by rw [hd]; simp))
  have c1:=jjc m q.1 q.2 (kN hq.2 (by omega))
  have ih':=fun s e w=>ih (out++[lineC m q.1 q.2]) (i + 1) s e w (jg hd) (by omega) (by simp [hol])
  have e0:out++linesOf m (q::rest)=out++[lineC m q.1 q.2]++linesOf m rest:=by simp [linesOf]
  rw [e0] at hK
  have hz:out.map encLn++[encLn (lineC m q.1 q.2)]=(out++[lineC m q.1 q.2]).map encLn:=by simp
  have hgrow:(out.map encLn).length + [encLn (lineC m q.1 q.2)].length≤maxGrow:=by simp [maxGrow]; omega
  generalize lineC m q.1 q.2=ln at *
  rw [← ja t4,← jc b4,← ja t7,← jc b7,← ja t12,← jc b12,← ja t56,← ja t57,← ja t58]
  generalize hA:(out++[ln]).map encLn=A at *
  generalize hB:out.map encLn=B at *
  unfold encPrs encPr encCell encC encP encLine at *
  dsimp only [List.cons_append,List.nil_append] at *
  unfold encLn at c1 hz hgrow
  unfold b25_0
  rcases he with rfl | rfl
  ·repeat' (first | refine ji rfl rfl (by omega) hget rfl ?_ | refine call3 rfl rfl rfl c1 ?_ | refine jr rfl rfl rfl rfl hgrow (by intro e he; cases List.mem_singleton.mp he; rfl) hz rfl (fun _ _=>?_) | refine st6 ?_ | intro u)
   exact ih' _ 71 _ (.inr rfl) (by rfl) (by rfl) (by rfl) (by rfl) (by rfl) (by rfl) (by rfl) (by rfl) (by rfl) hK
  ·repeat' (first | refine ji rfl rfl (by omega) hget rfl ?_ | refine call3 rfl rfl rfl c1 ?_ | refine jr rfl rfl rfl rfl hgrow (by intro e he; cases List.mem_singleton.mp he; rfl) hz rfl (fun _ _=>?_) | refine st6 ?_ | intro u)
   exact ih' _ 71 _ (.inr rfl) (by rfl) (by rfl) (by rfl) (by rfl) (by rfl) (by rfl) (by rfl) (by rfl) (by rfl) hK
def linesS (c:CatS) (v:Go.Bag.Place) (l:List Pr) (q:QueryS):List LineS × Int :=
 if goodQ c q=true∧rightC c v zeroP=true∧belowP v (needQ c q)=true then
  (if goodS c v l=true then (match laysX c.m [] (toS c v q.node (keptS c v l q.fixes)) with
   | none=>([],9)
   | some L=>toldS c.m L q)
  else ([],1))
 else ([],2)
theorem Jo {m:Int} {k:Nat}:∀ (l L:List Pr) (i:Nat) {L':List Pr},laysX m L l=some L'→inPs k l→inPs (k * i) L→L.length≤i→inPs (k * (i + l.length)) L'∧L'.length≤i + l.length
 | [],L,i,L',h,_,hL,hll=>by
  simp only [laysX,Option.some.injEq] at h
  subst h
  exact ⟨hL,by simpa using hll⟩
 | p::l,L,i,L',h,hl,hL,hll=>by
  rw [laysX] at h
  cases e:layX m L p.1 p.2 with
  | none=>rw [e] at h; cases h
  | some M =>
   rw [e] at h
   have hp:=hl p (by simp)
   have h1:=Wu e hL hp.1 hp.2
   have h2:=Jo l M (i + 1) h (fun q hq=>hl q (by simp [hq])) (by rw [Nat.mul_succ]; exact h1.1) (by omega)
   rw [show i + 1 + l.length=i + (p::l).length by simp; omega] at h2
   exact h2
theorem YQ {k:Nat} {c:CatS} {f t:Go.Bag.Place} {l:List Pr} (h:inPs k l):inPs k (toS c f t l):=by
 intro p hp
 obtain ⟨q,hq,rfl⟩:=List.mem_map.mp hp
 exact ⟨Xq c f t q.1,(h q hq).2⟩
theorem Jp {k:Nat} {c:CatS} {v:Go.Bag.Place} {l:List Pr} {fs:List FixS} (h:inPs k l):inPs k (keptS c v l fs):=fun p hp=>h p (List.mem_filter.mp hp).1
theorem VU (c:CatS) (v:Go.Bag.Place) (l:List Pr) (fs:List FixS):(keptS c v l fs).length≤l.length:=List.length_filter_le _ _
set_option maxRecDepth 100000
set_option maxHeartbeats 16000000
theorem vk (c:CatS) (v:Go.Bag.Place) (l:List Pr) (q:QueryS) (h:okCat2 c) (hv:u8P v) (hq:okQ q) (k:Nat) (hl:inPs k l) (hlen:l.length≤10000) (hk:k * (l.length + 1)≤300000) :
  CP 25 [.c (.agg (encCat c)),.c (.agg (encP v)),.c (encPrs l),.c (.agg (encQ q))] (.c (.tup [encLs (linesS c v l q).1,.int .i64 (linesS c v l q).2])) []:=by
 have hk1:k≤300000:=Nat.le_trans (Nat.le_mul_of_pos_right k (by omega)) hk
 have hkl:=VU c v l q.fixes
 have c1:=jck c q h hq
 have c2:=Vv c v h hv
 have c3:=ji8 c q h hq
 have c4:=Xb v (needQ c q)
 have c5:=JJ c v l h hv (jS hl (by omega)) (by omega)
 have c6:=jl1 c v l q.fixes h hv k hl (by omega) hq.2.1 hq.1
 have c7:=jmv c v q.node (keptS c v l q.fixes) h hv hq.2.2 k (Jp hl) (by omega) (by
  have:k * ((keptS c v l q.fixes).length + 1)≤k * (l.length + 1):=Nat.mul_le_mul_left k (by omega)
  omega)
 have hLin:∀ L,laysX c.m [] (toS c v q.node (keptS c v l q.fixes))=some L→inPs 300000 L∧L.length≤10000:=by
  intro L hL
  have:=Jo (k:=k) _ [] 0 hL (YQ (Jp hl)) (fun p hp=>by simp at hp) (by simp)
  rw [show (toS c v q.node (keptS c v l q.fixes)).length=(keptS c v l q.fixes).length by simp [toS]] at this
  refine ⟨jS this.1 ?_,by omega⟩
  have h2:k * (0 + (keptS c v l q.fixes).length)≤k * (l.length + 1):=Nat.mul_le_mul_left k (by omega)
  omega
 refine pcallF Tryz.func25 c25 rfl ?_
 unfold linesS
 by_cases g:goodQ c q=true∧rightC c v zeroP=true∧belowP v (needQ c q)=true
 ·rw [if_pos g]
  obtain ⟨g1,g2,g3⟩:=g
  rw [g1] at c1
  rw [g2] at c2
  rw [g3] at c4
  by_cases g4:goodS c v l=true
  ·rw [if_pos g4]
   rw [g4] at c5
   generalize hK:encPrs (keptS c v l q.fixes)=kp at *
   generalize hn:needQ c q=nd at *
   cases ho:laysX c.m [] (toS c v q.node (keptS c v l q.fixes)) with
   | none =>
    rw [ho] at c7
    dsimp only
    unfold encUp encLs at *
    generalize encPrs l=pl at *
    clear hLin ho
    unfold encCat encQ encP at *
    dsimp only [List.cons_append,List.nil_append] at *
    unfold p25
    repeat' (first | refine call2 rfl rfl c1 ?_ | refine call2 rfl rfl c2 ?_ | refine call2 rfl rfl c3 ?_ | refine call2 rfl rfl c4 ?_ | refine call3 rfl rfl rfl c5 ?_ | refine call4 rfl rfl rfl rfl c6 ?_ | refine call4 rfl rfl rfl rfl c7 ?_ | refine st7 ?_ | intro u)
    exact jd rfl rfl
   | some L =>
    obtain ⟨hLi,hLl⟩:=hLin L ho
    rw [ho] at c7
    dsimp only
    have hLOl:(linesOf c.m L).length=L.length:=by simp [linesOf]
    have cb:=VS (linesOf c.m L) q.fn q.measure q.top (JX hLi) (by omega)
    have hbl:=ki q.fn q.measure q.top (linesOf c.m L)
    have lp:=fun (K:Ex→PS→Prop) d4 x7 v4 v7 s=>jbb (K:=K) c.m d4 L (jS hLi (by omega)) (by omega) x7 v4 v7 L [] 0 s 12
    rw [show []++linesOf c.m L=linesOf c.m L from rfl] at lp
    have hPl:(L.map encPr).length=L.length:=List.length_map _
    unfold toldS
    dsimp only
    generalize bestS q.fn q.measure q.top (linesOf c.m L)=B at *
    generalize linesOf c.m L=LL at *
    have hBl:(B.map encLn).length=B.length:=List.length_map _
    have hLLl:(LL.map encLn).length=LL.length:=List.length_map _
    unfold encUp encLs at *
    dsimp only at c7
    generalize encPrs l=pl at *
    unfold encPrs at c7 lp
    generalize L.map encPr=LP at *
    clear hLin ho
    obtain ⟨qn,qf,tp,ms,fn,lm⟩:=q
    dsimp only at *
    unfold encCat encQ encP at *
    dsimp only [List.cons_append,List.nil_append] at *
    unfold p25
    repeat' (first | refine call2 rfl rfl c1 ?_ | refine call2 rfl rfl c2 ?_ | refine call2 rfl rfl c3 ?_ | refine call2 rfl rfl c4 ?_ | refine call3 rfl rfl rfl c5 ?_ | refine call4 rfl rfl rfl rfl c6 ?_ | refine call4 rfl rfl rfl rfl c7 ?_ | refine je rfl hPl ?_ | refine st7 ?_ | intro u)
    refine lp _ _ _ _ _ _ _ rfl (by omega) rfl (.inl rfl) (by rfl) (by rfl) (by rfl) (by rfl) (by rfl) (by rfl) (by rfl) (by rfl) (by rfl) (fun s' e' w' he t7 b7 t12 b12=>?_)
    rw [← ja t7,← jc b7,← ja t12,← jc b12]
    by_cases h1:0 < tp
    ·rw [if_pos h1]
     by_cases h2:lm < (B.length:Int)
     ·rw [if_pos h2]
      generalize hBm:B.map encLn=Bm at *
      generalize hLm:LL.map encLn=Lm at *
      rcases he with rfl | rfl
      ·repeat' (first | refine jF rfl rfl rfl (fun _=>?_) | refine call4 rfl rfl rfl rfl cb ?_ | refine je rfl hBl ?_ | refine st2 ?_ | intro u)
       exact jd rfl rfl
      ·repeat' (first | refine jF rfl rfl rfl (fun _=>?_) | refine call4 rfl rfl rfl rfl cb ?_ | refine je rfl hBl ?_ | refine st2 ?_ | intro u)
       exact jd rfl rfl
     ·rw [if_neg h2]
      generalize hBm:B.map encLn=Bm at *
      generalize hLm:LL.map encLn=Lm at *
      rcases he with rfl | rfl
      ·repeat' (first | refine jF rfl rfl rfl (fun _=>?_) | refine call4 rfl rfl rfl rfl cb ?_ | refine je rfl hBl ?_ | refine st2 ?_ | intro u)
       exact jd rfl rfl
      ·repeat' (first | refine jF rfl rfl rfl (fun _=>?_) | refine call4 rfl rfl rfl rfl cb ?_ | refine je rfl hBl ?_ | refine st2 ?_ | intro u)
       exact jd rfl rfl
    ·rw [if_neg h1]
     by_cases h2:lm < (LL.length:Int)
     ·rw [if_pos h2]
      generalize hLm:LL.map encLn=Lm at *
      rcases he with rfl | rfl
      ·repeat' (first | refine st5 ?_ | intro u)
       exact jd rfl rfl
      ·repeat' (first | refine st5 ?_ | intro u)
       exact jd rfl rfl
     ·rw [if_neg h2]
      generalize hLm:LL.map encLn=Lm at *
      rcases he with rfl | rfl
      ·repeat' (first | refine st5 ?_ | intro u)
       exact jd (JT (sz:=11) rfl rfl rfl (Jf rfl jk)) rfl
      ·repeat' (first | refine st5 ?_ | intro u)
       exact jd (JT (sz:=11) rfl rfl rfl (Jf rfl jk)) rfl
  ·rw [if_neg g4]
   have g4':goodS c v l=false:=by simpa using g4
   rw [g4'] at c5
   clear c6 c7 hLin
   generalize hn:needQ c q=nd at *
   unfold encLs at *
   generalize encPrs l=pl at *
   unfold encCat encQ encP at *
   dsimp only [List.cons_append,List.nil_append] at *
   unfold p25
   repeat' (first | refine call2 rfl rfl c1 ?_ | refine call2 rfl rfl c2 ?_ | refine call2 rfl rfl c3 ?_ | refine call2 rfl rfl c4 ?_ | refine call3 rfl rfl rfl c5 ?_ | refine st2 ?_ | intro u)
   exact jd rfl rfl
 ·rw [if_neg g]
  clear c5 c6 c7 hLin
  generalize hn:needQ c q=nd at *
  generalize hg1:goodQ c q=g1 at *
  generalize hg2:rightC c v zeroP=g2 at *
  generalize hg3:belowP v nd=g3 at *
  unfold encLs at *
  generalize encPrs l=pl at *
  unfold encCat encQ encP at *
  dsimp only [List.cons_append,List.nil_append] at *
  unfold p25
  cases g1 with
  | false =>
   repeat' (first | refine call2 rfl rfl c1 ?_ | refine st2 ?_ | intro u)
   exact jd rfl rfl
  | true =>
   cases g2 with
   | false =>
    repeat' (first | refine call2 rfl rfl c1 ?_ | refine call2 rfl rfl c2 ?_ | refine st2 ?_ | intro u)
    exact jd rfl rfl
   | true =>
    cases g3 with
    | false =>
     repeat' (first | refine call2 rfl rfl c1 ?_ | refine call2 rfl rfl c2 ?_ | refine call2 rfl rfl c3 ?_ | refine call2 rfl rfl c4 ?_ | refine st2 ?_ | intro u)
     exact jd rfl rfl
    | true=>exact absurd ⟨rfl,rfl,rfl⟩ g
set_option maxRecDepth 100000
set_option maxHeartbeats 16000000
theorem jeg (o:Option (List Pr)):∃ x y,encUp o=[x,y]:=by
 cases o with
 | none=>exact ⟨_,_,rfl⟩
 | some L=>exact ⟨_,_,rfl⟩
theorem jeh {K:KT} (c:CatS) (h:okCat2 c) (f t:Go.Bag.Place) (hf:u8P f) (ht:u8P t) (l:List Pr) (k:Nat) (hl:inPs k l) (hlen:l.length≤10000) (hk:k * (l.length + 1)≤300000) (v4 v5 v6 v8 v9:Nat):∀ (rest:List Pr) (i:Nat) (L:List Pr) (s:PS),l.drop i=rest→i≤l.length→inPs (k * i) L→L.length≤i →
  s.t 3=.c (encPrs l)→s.t 4=.ptr 4 v4 0→s.bx 4=⟨v4,.var (encCat c)⟩→s.t 5=.ptr 5 v5 0→s.bx 5=⟨v5,.var (encP f)⟩→s.t 6=.ptr 6 v6 0→s.bx 6=⟨v6,.var (encP t)⟩→s.t 8=.ptr 8 v8 0→s.bx 8=⟨v8,.var [.sl [],.bool false]⟩→s.t 9=.ptr 9 v9 0→s.bx 9=⟨v9,.var [encPrs L,.bool true]⟩→s.t 10=.c (.int .i64 i) →
  (∀ s',s'.t 8=.ptr 8 v8 0→s'.bx 8=⟨v8,.var [.sl [],.bool false]⟩→s'.t 9=.ptr 9 v9 0→s'.bx 9=⟨v9,.var (encUp (laysX c.m L (toS c f t rest)))⟩→K (.x 0) s')→wP (CP) (.loop b35_0) s K:=by
 intro rest
 induction rest with
 | nil =>
  intro i L s hd hi hL hLl t3 t4 b4 t5 b5 t6 b6 t8 b8 t9 b9 t10 hK
  refine jf ?_
  have:=jm hd hi
  subst this
  have hK':∀ s',s'.t 8=.ptr 8 v8 0→s'.bx 8=⟨v8,.var [.sl [],.bool false]⟩→s'.t 9=.ptr 9 v9 0→s'.bx 9=⟨v9,.var [encPrs L,.bool true]⟩→K (.x 0) s':=hK
  clear hK
  rw [← ja t3,← ja t8,← jc b8,← ja t9,← jc b9,← ja t10]
  unfold encPrs at *
  unfold b35_0
  repeat' (first | refine je rfl (List.length_map _) ?_ | refine st2 ?_ | intro u)
  exact hK' _ (by rfl) (by rfl) (by rfl) (by rfl)
 | cons q rest ih =>
  intro i L s hd hi hL hLl t3 t4 b4 t5 b5 t6 b6 t8 b8 t9 b9 t10 hK
  refine jf ?_
  have he:(l.map encPr)[((i:Nat):Int).toNat]? = some (encPr q):=jp hd
  have hil:=jo hd
  have hn:=jg hd
  have hq:=hl q (List.mem_of_mem_drop (by rw [hd]; simp))
  have c1:=jf9 c f t q.1 h hf ht hq.1
  have hua:=Xq c f t q.1
  have hki:k * (i + 1)≤300000:=Nat.le_trans (Nat.mul_le_mul_left k (by omega)) hk
  have hkm:k * (i + 1)=k * i + k:=Nat.mul_succ k i
  have c2:=jmw c.m L (toP c f t q.1).1 q.2 (by omega) (jS hL (by omega)) hua (kN hq.2 (by omega))
  have hst:laysX c.m L (toS c f t (q::rest))=(layX c.m L (toP c f t q.1).1 q.2).bind fun L'=>laysX c.m L' (toS c f t rest):=rfl
  rw [hst] at hK
  have hlm:(l.map encPr).length=l.length:=List.length_map _
  cases ho:layX c.m L (toP c f t q.1).1 q.2 with
  | some L2 =>
   have hin:=Wu ho hL hua hq.2
   rw [← hkm] at hin
   rw [ho] at c2 hK
   have ih':=fun s=>ih (i + 1) L2 s hn (by omega) hin.1 (by have:=hin.2; omega)
   have hK':∀ s',s'.t 8=.ptr 8 v8 0→s'.bx 8=⟨v8,.var [.sl [],.bool false]⟩→s'.t 9=.ptr 9 v9 0→s'.bx 9=⟨v9,.var (encUp (laysX c.m L2 (toS c f t rest)))⟩→K (.x 0) s':=hK
   clear hK ih ho hst
   generalize (toP c f t q.1).1=a at *
   generalize (toP c f t q.1).2=ab at *
   rw [← ja t3,← ja t4,← jc b4,← ja t5,← jc b5,← ja t6,← jc b6,← ja t8,← jc b8,← ja t9,← jc b9,← ja t10]
   unfold encUp at c2
   dsimp only at c2
   generalize hL2:encPrs L2=pL2 at *
   generalize hL1:encPrs L=pL at *
   unfold encPrs at *
   unfold encCat encPr encCell encC encP at *
   dsimp only [List.cons_append,List.nil_append] at *
   unfold b35_0
   repeat' (first | refine je rfl (List.length_map _) ?_ | refine ji rfl rfl (by omega) he rfl ?_ | refine call4 rfl rfl rfl rfl c1 ?_ | refine call4 rfl rfl rfl rfl c2 ?_ | refine st6 ?_ | intro u)
   exact ih' _ (by rfl) (by rfl) (by rfl) (by rfl) (by rfl) (by rfl) (by rfl) (by rfl) (by rfl) (by rfl) (by rfl) (by rfl) hK'
  | none =>
   rw [ho] at c2 hK
   have hK':∀ s',s'.t 8=.ptr 8 v8 0→s'.bx 8=⟨v8,.var [.sl [],.bool false]⟩→s'.t 9=.ptr 9 v9 0→s'.bx 9=⟨v9,.var [.sl [],.bool false]⟩→K (.x 0) s':=hK
   clear hK ih ho hst
   generalize (toP c f t q.1).1=a at *
   generalize (toP c f t q.1).2=ab at *
   rw [← ja t3,← ja t4,← jc b4,← ja t5,← jc b5,← ja t6,← jc b6,← ja t8,← jc b8,← ja t9,← jc b9,← ja t10]
   unfold encUp at c2
   generalize hL1:encPrs L=pL at *
   unfold encPrs at *
   unfold encCat encPr encCell encC encP at *
   dsimp only [List.cons_append,List.nil_append] at *
   unfold b35_0
   repeat' (first | refine je rfl (List.length_map _) ?_ | refine ji rfl rfl (by omega) he rfl ?_ | refine call4 rfl rfl rfl rfl c1 ?_ | refine call4 rfl rfl rfl rfl c2 ?_ | refine st6 ?_ | intro u)
   refine jf ?_
   by_cases hil2:i + 1 < l.length
   ·repeat' (first | refine je rfl (List.length_map _) ?_ | refine st0 ?_ | intro u)
    exact hK' _ (by rfl) (by rfl) (by rfl) (by rfl)
   ·repeat' (first | refine je rfl (List.length_map _) ?_ | refine st2 ?_ | intro u)
    exact hK' _ (by rfl) (by rfl) (by rfl) (by rfl)
theorem jcv (c:CatS) (f t:Go.Bag.Place) (l:List Pr) (h:okCat2 c) (hf:u8P f) (ht:u8P t) (k:Nat) (hl:inPs k l) (hlen:l.length≤10000) (hk:k * (l.length + 1)≤300000) :
  CP 35 [.c (.agg (encCat c)),.c (.agg (encP f)),.c (.agg (encP t)),.c (encPrs l)] (.c (.agg (encUp (upS c f t l)))) []:=by
 have hk1:k≤300000:=Nat.le_trans (Nat.le_mul_of_pos_right k (by omega)) hk
 have c1:=Xn c f l h hf (jS hl (by omega)) (by omega)
 have c2:=vy c t h.1 ht
 have c3:=Xc f t
 refine pcallF Tryz.func35 c35 rfl ?_
 unfold upS
 by_cases g:goodS c f l=true∧rightC c t zeroP=true∧belowP f t=true
 ·rw [if_pos g]
  obtain ⟨g1,g2,g3⟩:=g
  rw [g1] at c1
  rw [g2] at c2
  rw [g3] at c3
  have lp:=fun (K:Ex→PS→Prop) v4 v5 v6 v8 v9 s=>jeh (K:=K) c h f t hf ht l k hl hlen hk v4 v5 v6 v8 v9 l 0 [] s rfl (by omega) (fun p hp=>by simp at hp) (by simp)
  obtain ⟨x,y,hxy⟩:=jeg (laysX c.m [] (toS c f t l))
  rw [hxy] at lp
  rw [hxy]
  have e0:encPrs []=.sl []:=rfl
  rw [e0] at lp
  generalize encPrs l=pl at *
  unfold encCat encP at *
  unfold p35
  repeat' (first | refine call3 rfl rfl rfl c1 ?_ | refine call2 rfl rfl c2 ?_ | refine call2 rfl rfl c3 ?_ | refine st6 ?_ | intro u)
  refine lp _ _ _ _ _ _ _ (by rfl) (by rfl) (by rfl) (by rfl) (by rfl) (by rfl) (by rfl) (by rfl) (by rfl) (by rfl) (by rfl) (by rfl) (fun s' t8 b8 t9 b9=>?_)
  rw [← ja t8,← jc b8,← ja t9,← jc b9]
  repeat' (first | refine st0 ?_ | intro u)
  exact jd (jh rfl rfl rfl rfl jk) rfl
 ·rw [if_neg g]
  generalize hg1:goodS c f l=g1 at *
  generalize hg2:rightC c t zeroP=g2 at *
  generalize hg3:belowP f t=g3 at *
  unfold encUp
  generalize encPrs l=pl at *
  unfold encCat encP at *
  unfold p35
  cases g1 with
  | false =>
   repeat' (first | refine call3 rfl rfl rfl c1 ?_ | refine st8 ?_ | intro u)
   exact jd (jh rfl rfl rfl rfl jk) rfl
  | true =>
   cases g2 with
   | false =>
    repeat' (first | refine call3 rfl rfl rfl c1 ?_ | refine call2 rfl rfl c2 ?_ | refine st8 ?_ | intro u)
    exact jd (jh rfl rfl rfl rfl jk) rfl
   | true =>
    cases g3 with
    | false =>
     repeat' (first | refine call3 rfl rfl rfl c1 ?_ | refine call2 rfl rfl c2 ?_ | refine call2 rfl rfl c3 ?_ | refine st7 ?_ | intro u)
     exact jd (jh rfl rfl rfl rfl jk) rfl
    | true=>exact absurd ⟨rfl,rfl,rfl⟩ g
end Go.Proofs.YtnpncbplhdnonaaGreat
/-
 SCANS,PLAIN: what is kept of one that may be may be; what a query needs lies below its node. My own work.
-/
namespace Go.Bag
open Go.Pl
set_option maxRecDepth 100000
theorem ZX {c:CatS} {v:Place} {a:Place} {q:Option Place}:∀ {l:List Pr},scanOk c v (some a) l=true→(∀ p,aheadK (some a) p=true→aheadK q p=true)→scanOk c v q l=true
 | [],_,_=>rfl
 | p::l,h,hq=>by
  simp only [scanOk,Bool.and_eq_true] at h ⊢
  exact ⟨⟨hq _ h.1.1,h.1.2⟩,h.2⟩
theorem JO {c:CatS} {v:Place} {g:Pr→Bool}:∀ {l:List Pr} {q:Option Place},scanOk c v q l=true→scanOk c v q (l.filter g)=true
 | [],_,_=>rfl
 | p::l,q,h=>by
  simp only [scanOk,Bool.and_eq_true] at h
  have ih:=JO (g:=g) h.2
  rw [List.filter_cons]
  split
  ·simp only [scanOk,Bool.and_eq_true]
   exact ⟨h.1,ih⟩
  ·refine ZX ih fun r hr=>?_
   cases q with
   | none=>rfl
   | some b =>
    have h1:=h.1.1
    simp only [aheadK,decide_eq_true_eq] at h1 hr ⊢
    omega
theorem jbc {c:CatS} {v:Place} {l:List Pr} {fs:List FixS} (h:goodS c v l=true):goodS c v (keptS c v l fs)=true:=by
 unfold goodS at *
 simp only [Bool.and_eq_true] at *
 exact ⟨h.1,JO h.2⟩
theorem kT {a b d:Place} (h1:belowP a b=true) (h2:belowP b d=true):belowP a d=true:=by
 unfold belowP at *
 simp only [decide_eq_true_eq] at *
 omega
theorem ZY (a:Place):belowP a a=true:=by
 unfold belowP
 simp only [decide_eq_true_eq]
 omega
theorem jbd (v:Place) (f:FixS):belowP (minP v f) v=true:=by
 unfold minP belowP
 simp only [decide_eq_true_eq]
 match f.dim.toNat with
 | 0=>simp [placeL,ofP]; split <;> omega
 | 1=>simp [placeL,ofP]; split <;> omega
 | 2=>simp [placeL,ofP]; split <;> omega
 | 3=>simp [placeL,ofP]; split <;> omega
 | k + 4=>simp [placeL,ofP]
theorem JY:∀ (fs:List FixS) (v:Place),belowP (fs.foldl minP v) v=true
 | [],v=>ZY v
 | f::fs,v=>kT (JY fs (minP v f)) (jbd v f)
theorem JZ {c:CatS} {q:QueryS} (h:goodQ c q=true):belowP (needQ c q) q.node=true:=by
 unfold needQ
 rw [if_pos h]
 exact JY _ _
theorem wY {c:CatS} {q:QueryS} (h:goodQ c q=true):rightC c q.node zeroP=true:=by
 unfold goodQ at h
 simp only [Bool.and_eq_true] at h
 exact h.1.1
end Go.Bag
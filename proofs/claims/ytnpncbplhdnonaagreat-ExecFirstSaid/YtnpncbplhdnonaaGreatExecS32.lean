/- Part of the proof of ExecTells, ExecAnswers, ExecBest, ExecFirst, ExecLevels, ExecTops, ExecLimits: lemmas. -/
import Derived.Test.YtnpncbplhdnonaaGreatExecS31
set_option linter.unusedVariables false
set_option linter.unusedSimpArgs false
namespace Go.Proofs.YtnpncbplhdnonaaGreat
open Go.Pl Go.Bag
set_option maxRecDepth 100000
set_option maxHeartbeats 16000000
theorem jl5 {K:KT} (c:CatS) (h:okCat2 c) (v:Go.Bag.Place) (hv:u8P v) (pl:List (List CV)) (p:Pr) (hp:u8P p.1) (i:Nat) (hg:pl[((i:Nat):Int).toNat]? = some (encPr p)) (fs:List FixS) (hm:∀ f∈fs,f.mem.length≤9223372036854775807) (hfl:fs.length≤9223372036854775807) (y0 y1 y2 y3 y5 y6 y7 y8:CV) (x8:List CV) (v4 v5 v7 v8 e w n:Nat) (E:List (List CV)) (he:e=9∨e=75):∀ (rest:List FixS) (k:Nat) (b:Bool) (s:PS),fs.drop k=rest→k≤fs.length →
  s.t 2=.c (.sl pl)→s.t 4=.ptr 4 v4 0→s.bx 4=⟨v4,.var (encCat c)⟩→s.t 5=.ptr 5 v5 0→s.bx 5=⟨v5,.var (encP v)⟩→s.t 7=.ptr 7 v7 0→s.bx 7=⟨v7,.var [y0,y1,y2,y3,.sl (fs.map encFix),y5,y6,y7,y8]⟩→s.t 8=.ptr 8 v8 0→s.bx 8=⟨v8,.var x8⟩→s.t 9=.osl e w 0 n→s.bx e=⟨w,.sl 9 E⟩→s.t 10=.c (.int .i64 i)→s.t 11=.c (.bool b)→s.t 12=.c (.int .i64 k) →
  (∀ s',s'.t 2=.c (.sl pl)→s'.t 4=.ptr 4 v4 0→s'.bx 4=⟨v4,.var (encCat c)⟩→s'.t 5=.ptr 5 v5 0→s'.bx 5=⟨v5,.var (encP v)⟩→s'.t 7=.ptr 7 v7 0→s'.bx 7=⟨v7,.var [y0,y1,y2,y3,.sl (fs.map encFix),y5,y6,y7,y8]⟩→s'.t 8=.ptr 8 v8 0→s'.bx 8=⟨v8,.var x8⟩→s'.t 9=.osl e w 0 n→s'.bx e=⟨w,.sl 9 E⟩→s'.t 10=.c (.int .i64 i)→s'.t 11=.c (.bool (b && rest.all fun f=>withinP c v p.1 f))→K (.x 2) s')→wP (CP) (.loop b36_1) s K:=by
 intro rest
 induction rest with
 | nil =>
  intro k b s hd hi t2 t4 b4 t5 b5 t7 b7 t8 b8 t9 b9 t10 t11 t12 hK
  refine jf ?_
  have:=jm hd hi
  subst this
  rw [List.all_nil,Bool.and_true] at hK
  rw [← ja t2,← ja t4,← jc b4,← ja t5,← jc b5,← ja t7,← jc b7,← ja t8,← jc b8,← ja t9,← jc b9,← ja t10,← ja t11,← ja t12]
  unfold b36_1
  rcases he with rfl | rfl
  ·repeat' (first | refine je rfl (List.length_map _) ?_ | refine st0 ?_ | intro u)
   exact hK _ (by rfl) (by rfl) (by rfl) (by rfl) (by rfl) (by rfl) (by rfl) (by rfl) (by rfl) (by rfl) (by rfl) (by rfl) (by rfl)
  ·repeat' (first | refine je rfl (List.length_map _) ?_ | refine st0 ?_ | intro u)
   exact hK _ (by rfl) (by rfl) (by rfl) (by rfl) (by rfl) (by rfl) (by rfl) (by rfl) (by rfl) (by rfl) (by rfl) (by rfl) (by rfl)
 | cons f rest ih =>
  intro k b s hd hi t2 t4 b4 t5 b5 t7 b7 t8 b8 t9 b9 t10 t11 t12 hK
  refine jf ?_
  have hf:(fs.map encFix)[((k:Nat):Int).toNat]? = some (encFix f):=jp hd
  have hil:=jo hd
  have hn:=jg hd
  have c1:=jd1 c v p.1 f h hv hp (hm f (List.mem_of_mem_drop (by rw [hd]; simp)))
  rw [List.all_cons] at hK
  have ih':=fun b s=>ih (k + 1) b s hn (by omega)
  generalize withinP c v p.1 f=q at *
  generalize hr:(rest.all fun f=>withinP c v p.1 f)=r at *
  rw [← ja t2,← ja t4,← jc b4,← ja t5,← jc b5,← ja t7,← jc b7,← ja t8,← jc b8,← ja t9,← jc b9,← ja t10,← ja t11,← ja t12]
  unfold encFix encPr encCat encC encP at *
  dsimp only [List.cons_append,List.nil_append] at *
  unfold b36_1
  cases b with
  | false =>
   rcases he with rfl | rfl
   ·repeat' (first | refine je rfl (List.length_map _) ?_ | refine st4 ?_ | intro u)
    exact ih' false _ (by rfl) (by rfl) (by rfl) (by rfl) (by rfl) (by rfl) (by rfl) (by rfl) (by rfl) (by rfl) (by rfl) (by rfl) (by rfl) (by rfl) hK
   ·repeat' (first | refine je rfl (List.length_map _) ?_ | refine st4 ?_ | intro u)
    exact ih' false _ (by rfl) (by rfl) (by rfl) (by rfl) (by rfl) (by rfl) (by rfl) (by rfl) (by rfl) (by rfl) (by rfl) (by rfl) (by rfl) (by rfl) hK
  | true =>
   rw [Bool.true_and] at hK
   rcases he with rfl | rfl
   ·repeat' (first | refine je rfl (List.length_map _) ?_ | refine ji rfl rfl (by omega) hg rfl ?_ | refine ji rfl rfl (by omega) hf rfl ?_ | refine call4 rfl rfl rfl rfl c1 ?_ | refine st4 ?_ | intro u)
    exact ih' q _ (by rfl) (by rfl) (by rfl) (by rfl) (by rfl) (by rfl) (by rfl) (by rfl) (by rfl) (by rfl) (by rfl) (by rfl) (by rfl) (by rfl) hK
   ·repeat' (first | refine je rfl (List.length_map _) ?_ | refine ji rfl rfl (by omega) hg rfl ?_ | refine ji rfl rfl (by omega) hf rfl ?_ | refine call4 rfl rfl rfl rfl c1 ?_ | refine st4 ?_ | intro u)
    exact ih' q _ (by rfl) (by rfl) (by rfl) (by rfl) (by rfl) (by rfl) (by rfl) (by rfl) (by rfl) (by rfl) (by rfl) (by rfl) (by rfl) (by rfl) hK
theorem jju {K:KT} (c:CatS) (h:okCat2 c) (v:Go.Bag.Place) (hv:u8P v) (l:List Pr) (kk:Nat) (hl:inPs kk l) (hlen:l.length≤100000) (fs:List FixS) (hm:∀ f∈fs,f.mem.length≤9223372036854775807) (hfl:fs.length≤9223372036854775807) (y0 y1 y2 y3 y5 y6 y7 y8:CV) (x8:List CV) (v4 v5 v7 v8:Nat):∀ (rest out:List Pr) (i:Nat) (s:PS) (e w:Nat),l.drop i=rest→i≤l.length→out.length≤i→(e=9∨e=75) →
  s.t 2=.c (.sl (l.map encPr))→s.t 4=.ptr 4 v4 0→s.bx 4=⟨v4,.var (encCat c)⟩→s.t 5=.ptr 5 v5 0→s.bx 5=⟨v5,.var (encP v)⟩→s.t 7=.ptr 7 v7 0→s.bx 7=⟨v7,.var [y0,y1,y2,y3,.sl (fs.map encFix),y5,y6,y7,y8]⟩→s.t 8=.ptr 8 v8 0→s.bx 8=⟨v8,.var x8⟩→s.t 9=.osl e w 0 (out.map encPr).length→s.bx e=⟨w,.sl 9 (out.map encPr)⟩→s.t 10=.c (.int .i64 i) →
  (∀ s' e' w',(e'=9∨e'=75)→s'.t 4=.ptr 4 v4 0→s'.bx 4=⟨v4,.var (encCat c)⟩→s'.t 5=.ptr 5 v5 0→s'.bx 5=⟨v5,.var (encP v)⟩→s'.t 7=.ptr 7 v7 0→s'.bx 7=⟨v7,.var [y0,y1,y2,y3,.sl (fs.map encFix),y5,y6,y7,y8]⟩→s'.t 8=.ptr 8 v8 0→s'.bx 8=⟨v8,.var x8⟩→s'.t 9=.osl e' w' 0 ((out++keptS c v rest fs).map encPr).length→s'.bx e'=⟨w',.sl 9 ((out++keptS c v rest fs).map encPr)⟩→K (.x 0) s')→wP (CP) (.loop b36_0) s K:=by
 intro rest
 induction rest with
 | nil =>
  intro out i s e w hd hi hol he t2 t4 b4 t5 b5 t7 b7 t8 b8 t9 b9 t10 hK
  refine jf ?_
  have:=jm hd hi
  subst this
  have e0:out++keptS c v [] fs=out:=by simp [keptS]
  rw [e0] at hK
  rw [← ja t2,← ja t4,← jc b4,← ja t5,← jc b5,← ja t7,← jc b7,← ja t8,← jc b8,← ja t9,← jc b9,← ja t10]
  unfold b36_0
  rcases he with rfl | rfl
  ·repeat' (first | refine je rfl (List.length_map _) ?_ | refine st0 ?_ | intro u)
   exact hK _ 9 _ (.inl rfl) (by rfl) (by rfl) (by rfl) (by rfl) (by rfl) (by rfl) (by rfl) (by rfl) (by rfl) (by rfl)
  ·repeat' (first | refine je rfl (List.length_map _) ?_ | refine st0 ?_ | intro u)
   exact hK _ 75 _ (.inr rfl) (by rfl) (by rfl) (by rfl) (by rfl) (by rfl) (by rfl) (by rfl) (by rfl) (by rfl) (by rfl)
 | cons q rest ih =>
  intro out i s e w hd hi hol he t2 t4 b4 t5 b5 t7 b7 t8 b8 t9 b9 t10 hK
  refine jf ?_
  have hget:(l.map encPr)[((i:Nat):Int).toNat]? = some (encPr q):=jp hd
  have hil:=jo hd
  have hn:=jg hd
  have hq:=hl q (List.mem_of_mem_drop (by rw [hd]; simp))
  have lp:=fun (K:Ex→PS→Prop) w n E s=>jl5 (K:=K) c h v hv (l.map encPr) q hq.1 i hget fs hm hfl y0 y1 y2 y3 y5 y6 y7 y8 x8 v4 v5 v7 v8 e w n E he fs 0 true s rfl (by omega)
  simp only [Bool.true_and] at lp
  have hz:out.map encPr++[encPr q]=(out++[q]).map encPr:=by simp
  have hgrow:(out.map encPr).length + [encPr q].length≤maxGrow:=by simp [maxGrow]; omega
  have hlm:(l.map encPr).length=l.length:=List.length_map _
  have hk:keptS c v (q::rest) fs=if (fs.all fun f=>withinP c v q.1 f)=true then q::keptS c v rest fs else keptS c v rest fs:=by
   unfold keptS
   rw [List.filter_cons]
  rw [hk] at hK
  cases hw:fs.all fun f=>withinP c v q.1 f with
  | true =>
   rw [hw] at hK lp
   rw [if_pos rfl] at hK
   have ih':=fun s e w=>ih (out++[q]) (i + 1) s e w hn (by omega) (by simp; omega)
   have e1:out++q::keptS c v rest fs=out++[q]++keptS c v rest fs:=by simp
   rw [e1] at hK
   clear ih
   rw [← ja t2,← ja t4,← jc b4,← ja t5,← jc b5,← ja t7,← jc b7,← ja t8,← jc b8,← ja t9,← jc b9,← ja t10]
   generalize hA:(out++[q]).map encPr=A at *
   generalize hB:out.map encPr=B at *
   generalize hP:l.map encPr=lm at *
   unfold encPr encC encP at hget hz hgrow
   dsimp only [List.cons_append,List.nil_append] at hget hz hgrow
   unfold b36_0
   rcases he with rfl | rfl
   ·repeat' (first | refine je rfl hlm ?_ | refine st1 ?_ | intro u)
    refine lp _ _ _ _ _ (by rfl) (by rfl) (by rfl) (by rfl) (by rfl) (by rfl) (by rfl) (by rfl) (by rfl) (by rfl) (by rfl) (by rfl) (by rfl) (by rfl) (fun s' u2 u4 c4 u5 c5 u7 c7 u8 c8 u9 c9 u10 u11=>?_)
    rw [← ja u2,← ja u4,← jc c4,← ja u5,← jc c5,← ja u7,← jc c7,← ja u8,← jc c8,← ja u9,← jc c9,← ja u10,← ja u11]
    repeat' (first | refine ji rfl rfl (by omega) hget rfl ?_ | refine jr rfl rfl rfl rfl hgrow (by intro e he; cases List.mem_singleton.mp he; rfl) hz rfl (fun _ _=>?_) | refine st6 ?_ | intro u)
    exact ih' _ 75 _ (.inr rfl) (by rfl) (by rfl) (by rfl) (by rfl) (by rfl) (by rfl) (by rfl) (by rfl) (by rfl) (by rfl) (by rfl) (by rfl) hK
   ·repeat' (first | refine je rfl hlm ?_ | refine st1 ?_ | intro u)
    refine lp _ _ _ _ _ (by rfl) (by rfl) (by rfl) (by rfl) (by rfl) (by rfl) (by rfl) (by rfl) (by rfl) (by rfl) (by rfl) (by rfl) (by rfl) (by rfl) (fun s' u2 u4 c4 u5 c5 u7 c7 u8 c8 u9 c9 u10 u11=>?_)
    rw [← ja u2,← ja u4,← jc c4,← ja u5,← jc c5,← ja u7,← jc c7,← ja u8,← jc c8,← ja u9,← jc c9,← ja u10,← ja u11]
    repeat' (first | refine ji rfl rfl (by omega) hget rfl ?_ | refine jr rfl rfl rfl rfl hgrow (by intro e he; cases List.mem_singleton.mp he; rfl) hz rfl (fun _ _=>?_) | refine st6 ?_ | intro u)
    exact ih' _ 75 _ (.inr rfl) (by rfl) (by rfl) (by rfl) (by rfl) (by rfl) (by rfl) (by rfl) (by rfl) (by rfl) (by rfl) (by rfl) (by rfl) hK
  | false =>
   rw [hw] at hK lp
   rw [if_neg (by simp)] at hK
   have ih':=fun s e w=>ih out (i + 1) s e w hn (by omega) (by omega)
   clear ih
   rw [← ja t2,← ja t4,← jc b4,← ja t5,← jc b5,← ja t7,← jc b7,← ja t8,← jc b8,← ja t9,← jc b9,← ja t10]
   generalize hB:out.map encPr=B at *
   generalize hP:l.map encPr=lm at *
   unfold b36_0
   rcases he with rfl | rfl
   ·repeat' (first | refine je rfl hlm ?_ | refine st1 ?_ | intro u)
    refine lp _ _ _ _ _ (by rfl) (by rfl) (by rfl) (by rfl) (by rfl) (by rfl) (by rfl) (by rfl) (by rfl) (by rfl) (by rfl) (by rfl) (by rfl) (by rfl) (fun s' u2 u4 c4 u5 c5 u7 c7 u8 c8 u9 c9 u10 u11=>?_)
    rw [← ja u2,← ja u4,← jc c4,← ja u5,← jc c5,← ja u7,← jc c7,← ja u8,← jc c8,← ja u9,← jc c9,← ja u10,← ja u11]
    repeat' (first | refine st6 ?_ | intro u)
    exact ih' _ 9 _ (.inl rfl) (by rfl) (by rfl) (by rfl) (by rfl) (by rfl) (by rfl) (by rfl) (by rfl) (by rfl) (by rfl) (by rfl) (by rfl) hK
   ·repeat' (first | refine je rfl hlm ?_ | refine st1 ?_ | intro u)
    refine lp _ _ _ _ _ (by rfl) (by rfl) (by rfl) (by rfl) (by rfl) (by rfl) (by rfl) (by rfl) (by rfl) (by rfl) (by rfl) (by rfl) (by rfl) (by rfl) (fun s' u2 u4 c4 u5 c5 u7 c7 u8 c8 u9 c9 u10 u11=>?_)
    rw [← ja u2,← ja u4,← jc c4,← ja u5,← jc c5,← ja u7,← jc c7,← ja u8,← jc c8,← ja u9,← jc c9,← ja u10,← ja u11]
    repeat' (first | refine st6 ?_ | intro u)
    exact ih' _ 75 _ (.inr rfl) (by rfl) (by rfl) (by rfl) (by rfl) (by rfl) (by rfl) (by rfl) (by rfl) (by rfl) (by rfl) (by rfl) (by rfl) hK
theorem jl6 (c:CatS) (v:Go.Bag.Place) (l:List Pr) (q:QueryS) (h:okCat2 c) (hv:u8P v) (hq:okQ q) (k:Nat) (hl:inPs k l) (hlen:l.length≤10000) (hk:k * (l.length + 1)≤300000) :
  CP 36 [.c (.agg (encCat c)),.c (.agg (encP v)),.c (encPrs l),.c (.agg (encQ q))] (.c (.agg [encLs (linesS c v l q).1,.int .i64 (linesS c v l q).2])) []:=by
 have hk1:k≤300000:=Nat.le_trans (Nat.le_mul_of_pos_right k (by omega)) hk
 have hkl:=VU c v l q.fixes
 have c1:=Xf c q h hq
 have c2:=vy c v h.1 hv
 have c3:=Xg c q h hq
 have c4:=Xc v (needQ c q)
 have c5:=Xn c v l h hv (jS hl (by omega)) (by omega)
 have c7:=jcv c v q.node (keptS c v l q.fixes) h hv hq.2.2 k (Jp hl) (by omega) (by
  have:k * ((keptS c v l q.fixes).length + 1)≤k * (l.length + 1):=Nat.mul_le_mul_left k (by omega)
  omega)
 have hLin:∀ L,laysX c.m [] (toS c v q.node (keptS c v l q.fixes))=some L→inPs 300000 L∧L.length≤10000:=by
  intro L hL
  have:=Jo (k:=k) _ [] 0 hL (YQ (Jp hl)) (fun p hp=>by simp at hp) (by simp)
  rw [show (toS c v q.node (keptS c v l q.fixes)).length=(keptS c v l q.fixes).length by simp [toS]] at this
  refine ⟨jS this.1 ?_,by omega⟩
  have h2:k * (0 + (keptS c v l q.fixes).length)≤k * (l.length + 1):=Nat.mul_le_mul_left k (by omega)
  omega
 refine pcallF Tryz.func36 c36 rfl ?_
 unfold linesS
 by_cases g:goodQ c q=true∧rightC c v zeroP=true∧belowP v (needQ c q)=true
 ·rw [if_pos g]
  obtain ⟨g1,g2,g3⟩:=g
  have hbn:=kT g3 (JZ g1)
  have hgn:=wY g1
  rw [g1] at c1
  rw [g2] at c2
  rw [g3] at c4
  by_cases g4:goodS c v l=true
  ·rw [if_pos g4]
   rw [g4] at c5
   have hup:upS c v q.node (keptS c v l q.fixes)=laysX c.m [] (toS c v q.node (keptS c v l q.fixes)):=by
    unfold upS
    rw [if_pos ⟨jbc g4,hgn,hbn⟩]
   rw [hup] at c7
   clear hup
   have lp:=fun (K:Ex→PS→Prop) y0 y1 y2 y3 y5 y6 y7 y8 x8 v4 v5 v7 v8 s=>jju (K:=K) c h v hv l k hl (by omega) q.fixes hq.2.1 hq.1 y0 y1 y2 y3 y5 y6 y7 y8 x8 v4 v5 v7 v8 l [] 0 s 9
   rw [show []++keptS c v l q.fixes=keptS c v l q.fixes from rfl] at lp
   unfold encPrs at c5 c7
   generalize hK:(keptS c v l q.fixes).map encPr=kp at *
   generalize hn:needQ c q=nd at *
   generalize hpl:l.map encPr=pl at *
   cases ho:laysX c.m [] (toS c v q.node (keptS c v l q.fixes)) with
   | none =>
    rw [ho] at c7
    dsimp only
    unfold encUp encLs at *
    unfold encPrs
    rw [hpl]
    clear hLin ho
    unfold encCat encQ encP at *
    dsimp only [List.cons_append,List.nil_append] at *
    unfold p36
    repeat' (first | refine call2 rfl rfl c1 ?_ | refine call2 rfl rfl c2 ?_ | refine call2 rfl rfl c3 ?_ | refine call2 rfl rfl c4 ?_ | refine call3 rfl rfl rfl c5 ?_ | refine st7 ?_ | intro u)
    refine lp _ _ _ _ _ _ _ _ _ _ _ _ _ _ _ _ rfl (by omega) (by simp) (.inl rfl) (by rfl) (by rfl) (by rfl) (by rfl) (by rfl) (by rfl) (by rfl) (by rfl) (by rfl) (by rfl) (by rfl) (by rfl) (fun s' e' w' he t4 b4 t5 b5 t7 b7 t8 b8 t9 b9=>?_)
    rw [← ja t4,← jc b4,← ja t5,← jc b5,← ja t7,← jc b7,← ja t8,← jc b8,← ja t9,← jc b9]
    rcases he with rfl | rfl
    ·repeat' (first | refine jF rfl rfl rfl (fun _=>?_) | refine call4 rfl rfl rfl rfl c7 ?_ | refine st7 ?_ | intro u)
     exact jd (jh rfl rfl rfl rfl jk) rfl
    ·repeat' (first | refine jF rfl rfl rfl (fun _=>?_) | refine call4 rfl rfl rfl rfl c7 ?_ | refine st7 ?_ | intro u)
     exact jd (jh rfl rfl rfl rfl jk) rfl
   | some L =>
    obtain ⟨hLi,hLl⟩:=hLin L ho
    have ct:=jl4 c.m L q (jS hLi (by omega)) (by omega)
    rw [ho] at c7
    dsimp only
    generalize (toldS c.m L q).1=tl at *
    generalize (toldS c.m L q).2=te at *
    unfold encUp encLs at *
    dsimp only at c7
    unfold encPrs at *
    rw [hpl]
    generalize L.map encPr=LP at *
    clear hLin ho
    unfold encCat encQ encP at *
    dsimp only [List.cons_append,List.nil_append] at *
    unfold p36
    repeat' (first | refine call2 rfl rfl c1 ?_ | refine call2 rfl rfl c2 ?_ | refine call2 rfl rfl c3 ?_ | refine call2 rfl rfl c4 ?_ | refine call3 rfl rfl rfl c5 ?_ | refine st7 ?_ | intro u)
    refine lp _ _ _ _ _ _ _ _ _ _ _ _ _ _ _ _ rfl (by omega) (by simp) (.inl rfl) (by rfl) (by rfl) (by rfl) (by rfl) (by rfl) (by rfl) (by rfl) (by rfl) (by rfl) (by rfl) (by rfl) (by rfl) (fun s' e' w' he t4 b4 t5 b5 t7 b7 t8 b8 t9 b9=>?_)
    rw [← ja t4,← jc b4,← ja t5,← jc b5,← ja t7,← jc b7,← ja t8,← jc b8,← ja t9,← jc b9]
    rcases he with rfl | rfl
    ·repeat' (first | refine jF rfl rfl rfl (fun _=>?_) | refine call4 rfl rfl rfl rfl c7 ?_ | refine call3 rfl rfl rfl ct ?_ | refine st7 ?_ | intro u)
     exact jd (jh rfl rfl rfl rfl jk) rfl
    ·repeat' (first | refine jF rfl rfl rfl (fun _=>?_) | refine call4 rfl rfl rfl rfl c7 ?_ | refine call3 rfl rfl rfl ct ?_ | refine st7 ?_ | intro u)
     exact jd (jh rfl rfl rfl rfl jk) rfl
  ·rw [if_neg g4]
   have g4':goodS c v l=false:=by simpa using g4
   rw [g4'] at c5
   clear c7 hLin
   generalize hn:needQ c q=nd at *
   unfold encLs at *
   generalize encPrs l=pl at *
   unfold encCat encQ encP at *
   dsimp only [List.cons_append,List.nil_append] at *
   unfold p36
   repeat' (first | refine call2 rfl rfl c1 ?_ | refine call2 rfl rfl c2 ?_ | refine call2 rfl rfl c3 ?_ | refine call2 rfl rfl c4 ?_ | refine call3 rfl rfl rfl c5 ?_ | refine st7 ?_ | intro u)
   exact jd (jh rfl rfl rfl rfl jk) rfl
 ·rw [if_neg g]
  clear c5 c7 hLin
  generalize hn:needQ c q=nd at *
  generalize hg1:goodQ c q=g1 at *
  generalize hg2:rightC c v zeroP=g2 at *
  generalize hg3:belowP v nd=g3 at *
  unfold encLs at *
  generalize encPrs l=pl at *
  unfold encCat encQ encP at *
  dsimp only [List.cons_append,List.nil_append] at *
  unfold p36
  cases g1 with
  | false =>
   repeat' (first | refine call2 rfl rfl c1 ?_ | refine st8 ?_ | intro u)
   exact jd (jh rfl rfl rfl rfl jk) rfl
  | true =>
   cases g2 with
   | false =>
    repeat' (first | refine call2 rfl rfl c1 ?_ | refine call2 rfl rfl c2 ?_ | refine st8 ?_ | intro u)
    exact jd (jh rfl rfl rfl rfl jk) rfl
   | true =>
    cases g3 with
    | false =>
     repeat' (first | refine call2 rfl rfl c1 ?_ | refine call2 rfl rfl c2 ?_ | refine call2 rfl rfl c3 ?_ | refine call2 rfl rfl c4 ?_ | refine st7 ?_ | intro u)
     exact jd (jh rfl rfl rfl rfl jk) rfl
    | true=>exact absurd ⟨rfl,rfl,rfl⟩ g
end Go.Proofs.YtnpncbplhdnonaaGreat
/-
 ROWS BY PLACES,PLAIN. My own work.
-/
namespace Go.Bag
open Go.Pl
set_option maxRecDepth 100000
def ltP (a p:Place):Bool:=decide (keyP p < keyP a)
def insP (ps:List Place) (a:Place):List Place :=
 match ps.dropWhile (ltP a) with
 | []=>ps.takeWhile (ltP a)++[a]
 | b::D=>if b=a then ps else ps.takeWhile (ltP a)++a::b::D
def placesS (c:CatS) (v:Place) (rows:List RowS):List Place:=rows.foldl (fun ps r=>insP ps (toP c zeroP v r.p).1) []
def atP (c:CatS) (v a:Place) (rows:List RowS):List RowS:=rows.filter fun r=>decide ((toP c zeroP v r.p).1=a)
def groupL (c:CatS) (v:Place) (rows:List RowS):List Pr:=(placesS c v rows).map fun a=>(a,(ofC c.m (atP c v a rows)).1)
end Go.Bag
namespace Go.Proofs.YtnpncbplhdnonaaGreat
open Go.Pl Go.Bag
set_option maxRecDepth 100000
set_option maxHeartbeats 16000000
def encPl (ps:List Go.Bag.Place):CV:=.sl (ps.map encP)
theorem jgy (l:List Go.Bag.Place):∀ e∈l.map encP,e.length=4:=by
 intro e he
 obtain ⟨r,_,rfl⟩:=List.mem_map.mp he
 rfl
theorem jmx {K:KT} (ps:List Go.Bag.Place) (hps:∀ p∈ps,u8P p) (hlen:ps.length≤100000) (a:Go.Bag.Place) (ha:u8P a) (x1:CV) (x3 x5:List CV) (n:Int) (v3 v5 v9:Nat):∀ (rest:List Go.Bag.Place) (k:Nat) (s:PS),ps.drop k=rest→k≤ps.length →
  s.t 1=.c x1→s.t 3=.ptr 3 v3 0→s.bx 3=⟨v3,.var x3⟩→s.t 5=.ptr 5 v5 0→s.bx 5=⟨v5,.var x5⟩→s.t 7=.c (encPl ps)→s.t 8=.c (.int .i64 n)→s.t 9=.ptr 9 v9 0→s.bx 9=⟨v9,.var (encP a)⟩→s.t 10=.c (.int .i64 k) →
  (∀ s',s'.t 1=.c x1→s'.t 3=.ptr 3 v3 0→s'.bx 3=⟨v3,.var x3⟩→s'.t 5=.ptr 5 v5 0→s'.bx 5=⟨v5,.var x5⟩→s'.t 7=.c (encPl ps)→s'.t 8=.c (.int .i64 n)→s'.t 9=.ptr 9 v9 0→s'.bx 9=⟨v9,.var (encP a)⟩→s'.t 10=.c (.int .i64 ((k + (rest.takeWhile (ltP a)).length:Nat):Int))→K (.x 2) s')→wP (CP) (.loop b66_1) s K:=by
 have k2:=wk a ha
 intro rest
 induction rest with
 | nil =>
  intro k s hd hi t1 t3 b3 t5 b5 t7 t8 t9 b9 t10 hK
  refine jf ?_
  have:=jm hd hi
  subst this
  rw [← ja t1,← ja t3,← jc b3,← ja t5,← jc b5,← ja t7,← ja t8,← ja t9,← jc b9,← ja t10]
  unfold encPl
  unfold b66_1
  repeat' (first | refine je rfl (List.length_map _) ?_ | refine st2 ?_ | intro u)
  exact hK _ (by rfl) (by rfl) (by rfl) (by rfl) (by rfl) (by rfl) (by rfl) (by rfl) (by rfl) (by rfl)
 | cons q rest ih =>
  intro k s hd hi t1 t3 b3 t5 b5 t7 t8 t9 b9 t10 hK
  refine jf ?_
  have he:(ps.map encP)[((k:Nat):Int).toNat]? = some (encP q):=jp hd
  have hil:=jo hd
  have hn:=jg hd
  have k1:=wk q (hps q (List.mem_of_mem_drop (by rw [hd]; simp)))
  have ih':=fun s=>ih (k + 1) s hn (by omega)
  rw [List.takeWhile_cons] at hK
  unfold ltP at hK ih'
  generalize keyP q=kq at *
  generalize keyP a=ka at *
  rw [← ja t1,← ja t3,← jc b3,← ja t5,← jc b5,← ja t7,← ja t8,← ja t9,← jc b9,← ja t10]
  unfold encPl encP at *
  unfold b66_1
  by_cases h:kq < ka
  ·rw [decide_eq_true h] at hK
   simp only [if_true,List.length_cons] at hK
   repeat' (first | refine je rfl (List.length_map _) ?_ | refine ji rfl rfl (by omega) he rfl ?_ | refine call1 rfl k1 ?_ | refine call1 rfl k2 ?_ | refine st4 ?_ | intro u)
   refine ih' _ (by rfl) (by rfl) (by rfl) (by rfl) (by rfl) (by rfl) (by rfl) (by rfl) (by rfl) (by rfl) (fun s' h1 h3 g3 h5 g5 h7 h8 h9 g9 h10=>hK s' h1 h3 g3 h5 g5 h7 h8 h9 g9 ?_)
   rw [h10]
   congr 3
   omega
  ·rw [decide_eq_false h] at hK
   simp only [Bool.false_eq_true,if_false] at hK
   repeat' (first | refine je rfl (List.length_map _) ?_ | refine ji rfl rfl (by omega) he rfl ?_ | refine call1 rfl k1 ?_ | refine call1 rfl k2 ?_ | refine st8 ?_ | intro u)
   exact hK _ (by rfl) (by rfl) (by rfl) (by rfl) (by rfl) (by rfl) (by rfl) (by rfl) (by rfl) (by rfl)
theorem jjv {ps:List Go.Bag.Place} {a:Go.Bag.Place} (h:∀ p∈ps,u8P p) (ha:u8P a):(∀ p∈insP ps a,u8P p)∧(insP ps a).length≤ps.length + 1:=by
 have hs:ps.takeWhile (ltP a)++ps.dropWhile (ltP a)=ps:=List.takeWhile_append_dropWhile
 unfold insP
 split
 ·rename_i hd
  rw [hd,List.append_nil] at hs
  rw [hs]
  refine ⟨fun p hp=>?_,by simp⟩
  rcases List.mem_append.mp hp with hp | hp
  ·exact h p hp
  ·obtain rfl:=List.mem_singleton.mp hp; exact ha
 ·rename_i b D hd
  rw [hd] at hs
  split
  ·exact ⟨h,by omega⟩
  ·have hl:=congrArg List.length hs
   simp only [List.length_append,List.length_cons] at hl
   refine ⟨fun p hp=>?_,by simp only [List.length_append,List.length_cons]; omega⟩
   rcases List.mem_append.mp hp with hp | hp
   ·exact h p (by rw [← hs]; simp [hp])
   ·rcases List.mem_cons.mp hp with rfl | hp
    ·exact ha
    ·exact h p (by rw [← hs]; simp only [List.mem_append]; exact .inr hp)
theorem ZZ {K:KT} (c:CatS) (h:okCat2 c) (v:Go.Bag.Place) (hv:u8P v) (rows:List RowS) (hr:∀ r∈rows,u8P r.p) (hlen:rows.length≤10000) (v3 v5:Nat):∀ (rest:List RowS) (i:Nat) (ps:List Go.Bag.Place) (s:PS),rows.drop i=rest→i≤rows.length→(∀ p∈ps,u8P p)→ps.length≤i →
  s.t 1=.c (encRows rows)→s.t 3=.ptr 3 v3 0→s.bx 3=⟨v3,.var (encCat c)⟩→s.t 5=.ptr 5 v5 0→s.bx 5=⟨v5,.var (encP v)⟩→s.t 7=.c (encPl ps)→s.t 8=.c (.int .i64 i) →
  (∀ s',s'.t 7=.c (encPl (rest.foldl (fun ps r=>insP ps (toP c zeroP v r.p).1) ps))→K (.x 0) s')→wP (CP) (.loop b66_0) s K:=by
 intro rest
 induction rest with
 | nil =>
  intro i ps s hd hi hps hpl t1 t3 b3 t5 b5 t7 t8 hK
  refine jf ?_
  have:=jm hd hi
  subst this
  rw [← ja t1,← ja t7,← ja t8]
  unfold encRows
  unfold b66_0
  repeat' (first | refine je rfl (List.length_map _) ?_ | refine st0 ?_ | intro u)
  exact hK _ (by rfl)
 | cons r rest ih =>
  intro i ps s hd hi hps hpl t1 t3 b3 t5 b5 t7 t8 hK
  refine jf ?_
  have hget:(rows.map encRow)[((i:Nat):Int).toNat]? = some (encRow r):=jp hd
  have hil:=jo hd
  have hn:=jg hd
  have hrp:=hr r (List.mem_of_mem_drop (by rw [hd]; simp))
  have c1:=jf9 c zeroP v r.p h jv hv hrp
  have ha:=Xq c zeroP v r.p
  rw [List.foldl_cons] at hK
  have hin:=jjv (a:=(toP c zeroP v r.p).1) hps ha
  have ih':=fun s=>ih (i + 1) (insP ps (toP c zeroP v r.p).1) s hn (by omega) hin.1 (by have:=hin.2; omega)
  clear ih
  generalize (toP c zeroP v r.p).1=a at *
  generalize (toP c zeroP v r.p).2=ab at *
  have lp:=fun (K:Ex→PS→Prop) x1 x3 x5 n v3 v5 v9 s=>jmx (K:=K) ps hps (by omega) a ha x1 x3 x5 n v3 v5 v9 ps 0 s rfl (by omega)
  simp only [Nat.zero_add] at lp
  have htw:(ps.takeWhile (ltP a)).length≤ps.length:=by
   have:=congrArg List.length (List.takeWhile_append_dropWhile (p:=ltP a) (l:=ps))
   simp only [List.length_append] at this
   omega
  have e1:=YH (ltP a) ps
  have e2:=YI (ltP a) ps
  have hI:insP ps a=(match ps.dropWhile (ltP a) with | []=>ps.takeWhile (ltP a)++[a] | b::D=>if b=a then ps else ps.takeWhile (ltP a)++a::b::D):=rfl
  rw [← e1,← e2] at hI
  generalize (ps.takeWhile (ltP a)).length=j at *
  clear e1 e2
  have hw:=jgy ps
  have hj:j≤(ps.map encP).length:=by simpa using htw
  have hw1:∀ e∈(ps.map encP).take j,e.length=4:=fun e he=>hw e (List.mem_of_mem_take he)
  have hw2:∀ e∈(ps.map encP).drop j,e.length=4:=fun e he=>hw e (List.mem_of_mem_drop he)
  have g1:([]:List (List CV)).length + ((ps.map encP).take j).length≤maxGrow:=by simp [maxGrow]; omega
  have g2:∀ q:List CV,([]++(ps.map encP).take j).length + [q].length≤maxGrow:=fun q=>by simp [maxGrow]; omega
  have g3:∀ q:List CV,([]++(ps.map encP).take j++[q]).length + ((ps.map encP).drop j).length≤maxGrow:=fun q=>by simp [maxGrow]; omega
  have hz:[]++(ps.map encP).take j++[encP a]++(ps.map encP).drop j=(ps.take j++a::ps.drop j).map encP:=by simp [List.map_take,List.map_drop]
  have hpsl:(ps.map encP).length=ps.length:=List.length_map _
  rw [← ja t1,← ja t3,← jc b3,← ja t5,← jc b5,← ja t7,← ja t8]
  by_cases hjl:j < ps.length
  ·obtain ⟨p,D,hD⟩:∃ p D,ps.drop j=p::D:=by
    cases hh:ps.drop j with
    | nil=>have:=List.drop_eq_nil_iff.mp hh; omega
    | cons p D=>exact ⟨p,D,rfl⟩
   rw [hD] at hI
   have he:(ps.map encP)[((j:Nat):Int).toNat]? = some (encP p):=jp hD
   have hq:=w9 p a
   by_cases hpa:p=a
   ·have hI':insP ps a=ps:=by rw [hI]; exact if_pos hpa
    rw [hI'] at ih' hK
    rw [decide_eq_true hpa] at hq
    unfold encPl at *
    generalize hP:ps.map encP=pm at *
    unfold encRows encRow encCat encP zeroP at *
    dsimp only [List.cons_append,List.nil_append] at *
    unfold b66_0
    repeat' (first | refine je rfl (List.length_map _) ?_ | refine ji rfl rfl (by omega) hget rfl ?_ | refine call4 rfl rfl rfl rfl c1 ?_ | refine st6 ?_ | intro u)
    refine lp _ _ _ _ _ _ _ _ _ (by rfl) (by rfl) (by rfl) (by rfl) (by rfl) (by rfl) (by rfl) (by rfl) (by rfl) (by rfl) (fun s' u1 u3 c3 u5 c5 u7 u8 u9 c9 u10=>?_)
    rw [← ja u1,← ja u3,← jc c3,← ja u5,← jc c5,← ja u7,← ja u8,← ja u9,← jc c9,← ja u10]
    repeat' (first | refine je rfl hpsl ?_ | refine ji rfl rfl (by omega) he rfl ?_ | refine kO rfl rfl hq ?_ | refine st6 ?_ | intro u)
    exact ih' _ (by rfl) (by rfl) (by rfl) (by rfl) (by rfl) (by rfl) (by rfl) hK
   ·have hI':insP ps a=ps.take j++a::ps.drop j:=by rw [hI,hD]; exact if_neg hpa
    rw [hI'] at ih' hK
    rw [decide_eq_false hpa] at hq
    unfold encPl at *
    generalize hA:(ps.take j++a::ps.drop j).map encP=A at *
    generalize hP:ps.map encP=pm at *
    unfold encRows encRow encCat encP zeroP at *
    dsimp only [List.cons_append,List.nil_append] at *
    unfold b66_0
    repeat' (first | refine je rfl (List.length_map _) ?_ | refine ji rfl rfl (by omega) hget rfl ?_ | refine call4 rfl rfl rfl rfl c1 ?_ | refine st6 ?_ | intro u)
    refine lp _ _ _ _ _ _ _ _ _ (by rfl) (by rfl) (by rfl) (by rfl) (by rfl) (by rfl) (by rfl) (by rfl) (by rfl) (by rfl) (fun s' u1 u3 c3 u5 c5 u7 u8 u9 c9 u10=>?_)
    rw [← ja u1,← ja u3,← jc c3,← ja u5,← jc c5,← ja u7,← ja u8,← ja u9,← jc c9,← ja u10]
    repeat' (first | refine je rfl hpsl ?_ | refine ji rfl rfl (by omega) he rfl ?_ | refine kO rfl rfl hq ?_ | refine kS rfl rfl hj hw rfl ?_ | refine JI rfl rfl hj hw rfl ?_ | refine jr rfl rfl rfl rfl g1 hw1 rfl rfl (fun _ _=>?_) | refine jr rfl rfl rfl rfl (g2 _) (by intro e he; cases List.mem_singleton.mp he; rfl) rfl rfl (fun _ _=>?_) | refine WC rfl rfl rfl rfl (g3 _) hw2 hz (fun u=>?_) | refine st9 ?_ | intro u)
    exact ih' _ (by rfl) (by rfl) (by rfl) (by rfl) (by rfl) (by rfl) (by rfl) hK
  ·have hD:ps.drop j=[]:=List.drop_eq_nil_iff.mpr (by omega)
   have hje:j=ps.length:=by omega
   rw [hD] at hI
   have hI':insP ps a=ps.take j++a::ps.drop j:=by rw [hI,hD]
   rw [hI'] at ih' hK
   unfold encPl at *
   generalize hA:(ps.take j++a::ps.drop j).map encP=A at *
   generalize hP:ps.map encP=pm at *
   unfold encRows encRow encCat encP zeroP at *
   dsimp only [List.cons_append,List.nil_append] at *
   unfold b66_0
   repeat' (first | refine je rfl (List.length_map _) ?_ | refine ji rfl rfl (by omega) hget rfl ?_ | refine call4 rfl rfl rfl rfl c1 ?_ | refine st6 ?_ | intro u)
   refine lp _ _ _ _ _ _ _ _ _ (by rfl) (by rfl) (by rfl) (by rfl) (by rfl) (by rfl) (by rfl) (by rfl) (by rfl) (by rfl) (fun s' u1 u3 c3 u5 c5 u7 u8 u9 c9 u10=>?_)
   rw [← ja u1,← ja u3,← jc c3,← ja u5,← jc c5,← ja u7,← ja u8,← ja u9,← jc c9,← ja u10]
   repeat' (first | refine je rfl hpsl ?_ | refine kS rfl rfl hj hw rfl ?_ | refine JI rfl rfl hj hw rfl ?_ | refine jr rfl rfl rfl rfl g1 hw1 rfl rfl (fun _ _=>?_) | refine jr rfl rfl rfl rfl (g2 _) (by intro e he; cases List.mem_singleton.mp he; rfl) rfl rfl (fun _ _=>?_) | refine WC rfl rfl rfl rfl (g3 _) hw2 hz (fun u=>?_) | refine st9 ?_ | intro u)
   exact ih' _ (by rfl) (by rfl) (by rfl) (by rfl) (by rfl) (by rfl) (by rfl) hK
theorem jgz (c:CatS) (v:Go.Bag.Place) (rows:List RowS) (h:okCat2 c) (hv:u8P v) (hr:∀ r∈rows,u8P r.p) (hlen:rows.length≤10000) :
  CP 66 [.c (.agg (encCat c)),.c (encRows rows),.c (.agg (encP v))] (.c (encPl (placesS c v rows))) []:=by
 refine pcallF Tryz.func66 c66 rfl ?_
 have lp:=fun (K:Ex→PS→Prop) v3 v5 s=>ZZ (K:=K) c h v hv rows hr hlen v3 v5 rows 0 [] s rfl (by omega) (fun p hp=>by simp at hp) (by simp)
 have e0:rows.foldl (fun ps r=>insP ps (toP c zeroP v r.p).1) []=placesS c v rows:=rfl
 rw [e0] at lp
 generalize placesS c v rows=P at *
 unfold encPl at *
 generalize encRows rows=er at *
 unfold encCat encP at *
 unfold p66
 repeat' (first | refine st2 ?_ | intro u)
 refine lp _ _ _ _ (by rfl) (by rfl) (by rfl) (by rfl) (by rfl) (by rfl) (by rfl) (fun s' t7=>?_)
 rw [← ja t7]
 repeat' (first | refine st0 ?_ | intro u)
 exact jd rfl rfl
end Go.Proofs.YtnpncbplhdnonaaGreat
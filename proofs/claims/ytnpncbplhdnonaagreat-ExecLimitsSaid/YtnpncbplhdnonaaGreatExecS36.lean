/- Part of the proof of ExecTells, ExecAnswers, ExecBest, ExecFirst, ExecLevels, ExecTops, ExecLimits: lemmas. -/
import Derived.Test.YtnpncbplhdnonaaGreatExecS35
set_option linter.unusedVariables false
set_option linter.unusedSimpArgs false
namespace Go.Proofs.YtnpncbplhdnonaaGreat
open Go.Pl Go.Bag
set_option maxHeartbeats 16000000
set_option maxRecDepth 100000
/-! ### ExecLimits, ExecTops -/
def outS (m:Int) (l:List Pr) (q:QueryS):List LineS:=if 0 < q.top then bestS q.fn q.measure q.top (linesOf m l) else linesOf m l
theorem jab (m:Int) (l:List Pr) (q:QueryS):toldS m l q=if q.limit < ((outS m l q).length:Int) then ([],13) else (outS m l q,0):=rfl
theorem jj6 (m:Int) (l:List Pr) (q:QueryS):(outS m l q).length≤l.length:=by
 have hb:=ki q.fn q.measure q.top (linesOf m l)
 have hL:(linesOf m l).length=l.length:=by simp [linesOf]
 unfold outS
 split <;> omega
theorem w7 {c:CatS} {q:QueryS} {t ms fn lim:Int} (h:goodQ c q=true) (ht:0≤t∧t≤1000) (hl:0≤lim∧lim≤1000) (he:if t=0 then ms=0∧fn=0 else (0≤ms∧ms < c.m)∧(1≤fn∧fn≤5)):goodQ c ⟨q.node,q.fixes,t,ms,fn,lim⟩=true:=by
 unfold goodQ at h ⊢
 simp only [Bool.and_eq_true,decide_eq_true_eq] at h ⊢
 refine ⟨⟨h.1.1,h.1.2.1,ht,hl⟩,h.2.1,?_⟩
 unfold endQ
 dsimp only
 split
 ·rename_i e; rw [if_pos e] at he; exact decide_eq_true he
 ·rename_i e; rw [if_neg e] at he; exact decide_eq_true he
theorem YZ (c:CatS) (rows:List RowS) (q:QueryS) (v:Go.Bag.Place) (h:OkR c rows q v):CP 9 [.c (.agg (encRw c rows q v))] (.c (.bool true)) []:=by
 have cw:=ve
 have cm:=Wx c rows q v h
 refine pcallF Tryz.func9 c9 rfl ?_
 cases g:mayX c rows q v with
 | false =>
  rw [g] at cm
  unfold encRw at *
  unfold encRows at *
  generalize rows.map encRow=rm at *
  unfold encCat encQ encP at *
  dsimp only [List.cons_append,List.nil_append] at *
  unfold p9
  repeat' (first | refine call0 cw ?_ | refine call1 rfl cm ?_ | refine st2 ?_ | intro u)
  exact jd rfl rfl
 | true =>
  rw [g] at cm
  obtain ⟨hl,hok,hq,hvr⟩:=Wy g
  obtain ⟨hnr,hnu⟩:=w5 hq h.q.2.2
  have hc0:=w6 (vl hok).1
  have hu:∀ r∈rows,u8P r.p:=fun r hr=>(h.r r hr).1
  obtain ⟨nd,fs,tp,ms,fn,lm⟩:=q
  have hq0:=hq
  unfold goodQ at hq0
  simp only [Bool.and_eq_true,decide_eq_true_eq] at hq0
  have hqe:=hq0.2.2
  unfold endQ at hqe
  dsimp only at hqe hq0
  have hq2:goodQ c ⟨nd,fs,tp,ms,fn,1000⟩=true:=w7 (q:=⟨nd,fs,tp,ms,fn,lm⟩) hq hq0.1.2.2.1 (by omega) (by
   split
   ·rename_i e; rw [if_pos e] at hqe; simpa using hqe
   ·rename_i e; rw [if_neg e] at hqe; simpa using hqe)
  have hn2:needQ c ⟨nd,fs,tp,ms,fn,1000⟩=needQ c ⟨nd,fs,tp,ms,fn,lm⟩:=by unfold needQ; rw [if_pos hq2,if_pos hq]
  have e4:=ke hok (by omega) hu jv hc0 hq (kB hnu)
  have e5:=ke hok (by omega) hu jv hc0 hq2 (by rw [hn2]; exact kB hnu)
  dsimp only at e4 e5
  rw [jab] at e4 e5
  dsimp only at e4 e5
  have ho:outS c.m (groupL c nd (keptR c rows fs)) ⟨nd,fs,tp,ms,fn,1000⟩=outS c.m (groupL c nd (keptR c rows fs)) ⟨nd,fs,tp,ms,fn,lm⟩:=rfl
  rw [ho] at e5
  have hol:(outS c.m (groupL c nd (keptR c rows fs)) ⟨nd,fs,tp,ms,fn,lm⟩).length≤60:=by
   have h0:=jj6 c.m (groupL c nd (keptR c rows fs)) ⟨nd,fs,tp,ms,fn,lm⟩
   have h1:=vd c nd (keptR c rows fs)
   have h2:(keptR c rows fs).length≤rows.length:=List.length_filter_le _ _
   omega
  have h0l:(groupL c zeroP rows).length≤60:=by have:=vd c zeroP rows; omega
  have hin:inPs 1000 (groupL c zeroP rows):=wG (by omega) fun r hr=>(h.r r hr).2
  have c3:=vV c rows ⟨nd,fs,tp,ms,fn,lm⟩ v zeroP h.c h.r hl jv hc0 hok
  have c5:=vk c zeroP (groupL c zeroP rows) ⟨nd,fs,tp,ms,fn,1000⟩ h.c jv ⟨h.q.1,h.q.2.1,h.q.2.2⟩ 1000 hin (by omega) (by omega)
  have c6:=vk c zeroP (groupL c zeroP rows) ⟨nd,fs,tp,ms,fn,lm⟩ h.c jv h.q 1000 hin (by omega) (by omega)
  generalize outS c.m (groupL c nd (keptR c rows fs)) ⟨nd,fs,tp,ms,fn,lm⟩=O at *
  rw [if_neg (by omega)] at e5
  rw [e5] at c5
  rw [e4] at c6
  have d4:=vL O O (by omega) (by omega)
  rw [decide_eq_true rfl] at d4
  have hOl:(O.map encLn).length=O.length:=List.length_map _
  clear e4 e5 hin h0l hnr hnu hu ho hn2 hq2 hqe hq0
  generalize encPrs (groupL c zeroP rows)=G3 at *
  unfold encLs at *
  clear h
  unfold encRw at *
  unfold encRows at *
  generalize rows.map encRow=rm at *
  unfold encCat encQ encP zeroP at *
  dsimp only [List.cons_append,List.nil_append] at *
  unfold p9
  by_cases hle:lm < (O.length:Int)
  ·rw [if_pos hle] at c6
   generalize O.map encLn=om at *
   simp only [List.map_nil] at c6
   repeat' (first | refine call0 cw ?_ | refine call1 rfl cm ?_ | refine call2 rfl rfl c3 ?_ | refine call4 rfl rfl rfl rfl c5 ?_ | refine call4 rfl rfl rfl rfl c6 ?_ | refine je rfl hOl ?_ | refine st8 ?_ | intro u)
   exact jd rfl rfl
  ·rw [if_neg hle] at c6
   generalize O.map encLn=om at *
   repeat' (first | refine call0 cw ?_ | refine call1 rfl cm ?_ | refine call2 rfl rfl c3 ?_ | refine call4 rfl rfl rfl rfl c5 ?_ | refine call4 rfl rfl rfl rfl c6 ?_ | refine je rfl hOl ?_ | refine call2 rfl rfl d4 ?_ | refine st8 ?_ | intro u)
   exact jd rfl rfl
theorem Y0 (c0:List CV) (h0:OkL [.sl [.sl [.int .i64],.sl [.sl [.int .i64]]],.int .i64,.sl [.int .u8,.int .u8,.int .u8,.int .u8,.int .i64,.int .i64],.int .u8,.int .u8,.int .u8,.int .u8,.sl [.int .i64,.int .i64,.sl [.int .i64]],.int .i64,.int .i64,.int .i64,.int .i64,.int .u8,.int .u8,.int .u8,.int .u8] c0):CP 9 [.c (.agg c0)] (.c (.bool true)) []:=by
 obtain ⟨c,rows,q,v,rfl,h,_⟩:=jc4 h0
 exact YZ c rows q v h
theorem jeo (f i:Int) (t:Int) (l:List LineS) (ht:0≤t):(bestS f i (t + 1) l).take (bestS f i t l).length=bestS f i t l:=by
 unfold bestS topN
 rw [List.length_take,jy,List.take_take]
 congr 1
 omega
theorem Wj (f i t:Int) (l:List LineS):(bestS f i t l).length=min t.toNat l.length:=by
 unfold bestS topN
 rw [List.length_take,jy]
 omega
theorem jbl (c:CatS) (rows:List RowS) (q:QueryS) (v:Go.Bag.Place) (h:OkR c rows q v) (a0 a1 a2:Int):CP 8 [.c (.agg (encRw c rows q v)),.c (.agg [.int .i64 a0,.int .i64 a1,.int .i64 a2])] (.c (.bool true)) []:=by
 have cw:=ve
 have cm:=Wx c rows q v h
 refine pcallF Tryz.func8 c8 rfl ?_
 cases g:mayX c rows q v with
 | false =>
  rw [g] at cm
  unfold encRw at *
  unfold encRows at *
  generalize rows.map encRow=rm at *
  unfold encCat encQ encP at *
  dsimp only [List.cons_append,List.nil_append] at *
  unfold p8
  repeat' (first | refine call0 cw ?_ | refine call1 rfl cm ?_ | refine st2 ?_ | intro u)
  exact jd rfl rfl
 | true =>
  rw [g] at cm
  obtain ⟨hl,hok,hq,hvr⟩:=Wy g
  obtain ⟨hnr,hnu⟩:=w5 hq h.q.2.2
  have hc0:=w6 (vl hok).1
  have hcm:=(jx (vl hok).1).2.1
  have hu:∀ r∈rows,u8P r.p:=fun r hr=>(h.r r hr).1
  have k1:=jhe a2 8 (by omega)
  have k2:=jhe a0 5 (by omega)
  have k3:=jhe a1 c.m (by omega)
  obtain ⟨t0,t1⟩:=YW (n:=a2) (m:=8) (by omega)
  obtain ⟨f0,f1⟩:=YW (n:=a0) (m:=5) (by omega)
  obtain ⟨m0,m1⟩:=YW (n:=a1) (m:=c.m) (by omega)
  generalize modI a2 8=mt at *
  generalize modI a0 5=mf at *
  generalize modI a1 c.m=mm at *
  have ca:=jj3 c rows q v
  have hg0:goodQ c ⟨q.node,q.fixes,0,0,0,1000⟩=true:=w7 hq (by omega) (by omega) (by rw [if_pos rfl]; exact ⟨rfl,rfl⟩)
  have hg1:goodQ c ⟨q.node,q.fixes,1 + mt,mm,1 + mf,1000⟩=true:=w7 hq (by omega) (by omega) (by rw [if_neg (by omega)]; omega)
  have hg2:goodQ c ⟨q.node,q.fixes,1 + mt + 1,mm,1 + mf,1000⟩=true:=w7 hq (by omega) (by omega) (by rw [if_neg (by omega)]; omega)
  have hn0:needQ c ⟨q.node,q.fixes,0,0,0,1000⟩=needQ c q:=by unfold needQ; rw [if_pos hg0,if_pos hq]
  have hn1:needQ c ⟨q.node,q.fixes,1 + mt,mm,1 + mf,1000⟩=needQ c q:=by unfold needQ; rw [if_pos hg1,if_pos hq]
  have hn2:needQ c ⟨q.node,q.fixes,1 + mt + 1,mm,1 + mf,1000⟩=needQ c q:=by unfold needQ; rw [if_pos hg2,if_pos hq]
  have e0:=ke hok (by omega) hu jv hc0 hg0 (by rw [hn0]; exact kB hnu)
  have e1:=ke hok (by omega) hu jv hc0 hg1 (by rw [hn1]; exact kB hnu)
  have e2:=ke hok (by omega) hu jv hc0 hg2 (by rw [hn2]; exact kB hnu)
  dsimp only at e0 e1 e2
  rw [jab] at e0 e1 e2
  unfold outS at e0 e1 e2
  dsimp only at e0 e1 e2
  rw [if_neg (show ¬ (0:Int) < 0 by omega)] at e0
  rw [if_pos (show 0 < 1 + mt by omega)] at e1
  rw [if_pos (show 0 < 1 + mt + 1 by omega)] at e2
  have hLl:(linesOf c.m (groupL c q.node (keptR c rows q.fixes))).length≤60:=by
   have h0:(linesOf c.m (groupL c q.node (keptR c rows q.fixes))).length=(groupL c q.node (keptR c rows q.fixes)).length:=by simp [linesOf]
   have h1:=vd c q.node (keptR c rows q.fixes)
   have h2:(keptR c rows q.fixes).length≤rows.length:=List.length_filter_le _ _
   omega
  have hLok:∀ z∈linesOf c.m (groupL c q.node (keptR c rows q.fixes)),okLn z:=JX (k:=1000) (wG (by
   have h2:(keptR c rows q.fixes).length≤rows.length:=List.length_filter_le _ _
   omega) fun r hr=>(h.r r (List.mem_filter.mp hr).1).2)
  have hin:inPs 1000 (groupL c zeroP rows):=wG (by omega) fun r hr=>(h.r r hr).2
  have h0l:(groupL c zeroP rows).length≤60:=by have:=vd c zeroP rows; omega
  have c3:=vV c rows q v zeroP h.c h.r hl jv hc0 hok
  have c5:=vk c zeroP (groupL c zeroP rows) ⟨q.node,q.fixes,0,0,0,1000⟩ h.c jv ⟨h.q.1,h.q.2.1,h.q.2.2⟩ 1000 hin (by omega) (by omega)
  have c6:=vk c zeroP (groupL c zeroP rows) ⟨q.node,q.fixes,1 + mt,mm,1 + mf,1000⟩ h.c jv ⟨h.q.1,h.q.2.1,h.q.2.2⟩ 1000 hin (by omega) (by omega)
  have c7:=vk c zeroP (groupL c zeroP rows) ⟨q.node,q.fixes,1 + mt + 1,mm,1 + mf,1000⟩ h.c jv ⟨h.q.1,h.q.2.1,h.q.2.2⟩ 1000 hin (by omega) (by omega)
  generalize linesOf c.m (groupL c q.node (keptR c rows q.fixes))=L at *
  have b1:=Wj (1 + mf) mm (1 + mt) L
  have b2:=Wj (1 + mf) mm (1 + mt + 1) L
  have b3:=jeo (1 + mf) mm (1 + mt) L (by omega)
  have c8:=VS L (1 + mf) mm (1 + mt + 1 - 1) hLok (by omega)
  rw [show bestS (1 + mf) mm (1 + mt + 1 - 1) L=bestS (1 + mf) mm (1 + mt) L by rw [Int.add_sub_cancel]] at c8
  rw [if_neg (by omega)] at e0 e1 e2
  rw [e0] at c5
  rw [e1] at c6
  rw [e2] at c7
  have d4:=vL (bestS (1 + mf) mm (1 + mt) L) (bestS (1 + mf) mm (1 + mt) L) (by omega) (by omega)
  rw [decide_eq_true rfl] at d4
  generalize bestS (1 + mf) mm (1 + mt) L=B1 at *
  generalize bestS (1 + mf) mm (1 + mt + 1) L=B2 at *
  clear e0 e1 e2 hn0 hn1 hn2 hg0 hg1 hg2 hin h0l hnr hnu hu hLok
  have l1:(L.map encLn).length=L.length:=List.length_map _
  have l2:(B1.map encLn).length=B1.length:=List.length_map _
  have l3:(B2.map encLn).length=B2.length:=List.length_map _
  have b4:(B2.map encLn).take B1.length=B1.map encLn:=by rw [← List.map_take,b3]
  have bw:∀ e∈B2.map encLn,e.length=11:=by
   intro e he
   obtain ⟨z,_,rfl⟩:=List.mem_map.mp he
   rfl
  have bj:B1.length≤(B2.map encLn).length:=by rw [l3,b1,b2]; omega
  generalize encPrs (groupL c zeroP rows)=G3 at *
  unfold encLs at *
  generalize L.map encLn=Lm at *
  generalize B1.map encLn=Bm1 at *
  generalize B2.map encLn=Bm2 at *
  clear h
  unfold allQ at ca
  unfold encRw at *
  unfold encRows at *
  generalize rows.map encRow=rm at *
  unfold encCat encQ encP zeroP at *
  dsimp only [List.cons_append,List.nil_append] at *
  unfold p8
  repeat' (first | refine call0 cw ?_ | refine call1 rfl cm ?_ | refine call2 rfl rfl c3 ?_ | refine call1 rfl ca ?_ | refine call2 rfl rfl k1 ?_ | refine call2 rfl rfl k2 ?_ | refine call2 rfl rfl k3 ?_ | refine call4 rfl rfl rfl rfl c5 ?_ | refine call4 rfl rfl rfl rfl c6 ?_ | refine call4 rfl rfl rfl rfl c7 ?_ | refine call4 rfl rfl rfl rfl c8 ?_ | refine je rfl l1 ?_ | refine je rfl l2 ?_ | refine je rfl l3 ?_ | refine kS rfl rfl bj bw b4 ?_ | refine call2 rfl rfl d4 ?_ | refine st8 ?_ | intro u)
  exact jd rfl rfl
theorem jbm (c0:List CV) (h0:OkL [.sl [.sl [.int .i64],.sl [.sl [.int .i64]]],.int .i64,.sl [.int .u8,.int .u8,.int .u8,.int .u8,.int .i64,.int .i64],.int .u8,.int .u8,.int .u8,.int .u8,.sl [.int .i64,.int .i64,.sl [.int .i64]],.int .i64,.int .i64,.int .i64,.int .i64,.int .u8,.int .u8,.int .u8,.int .u8] c0) (c1:List CV) (h1:OkL [.int .i64,.int .i64,.int .i64] c1):CP 8 [.c (.agg c0),.c (.agg c1)] (.c (.bool true)) []:=by
 obtain ⟨c,rows,q,v,rfl,h,_⟩:=jc4 h0
 obtain ⟨a0,k0,rfl,q0,g0⟩:=okL_cons h1
 obtain ⟨a1,k1,rfl,q1,g1⟩:=okL_cons g0
 obtain ⟨a2,k2,rfl,q2,g2⟩:=okL_cons g1
 obtain rfl:=okL_nil g2
 obtain ⟨f,rfl,_⟩:=jI q0
 obtain ⟨m,rfl,_⟩:=jI q1
 obtain ⟨t,rfl,_⟩:=jI q2
 exact jbl c rows q v h f m t
end Go.Proofs.YtnpncbplhdnonaaGreat
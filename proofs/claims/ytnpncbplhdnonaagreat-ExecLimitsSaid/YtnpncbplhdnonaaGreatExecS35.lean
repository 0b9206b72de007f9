/- Part of the proof of ExecTells, ExecAnswers, ExecBest, ExecFirst, ExecLevels, ExecTops, ExecLimits: lemmas. -/
import Derived.Test.YtnpncbplhdnonaaGreatExecS17
import Derived.Test.YtnpncbplhdnonaaGreatExecS34
set_option linter.unusedVariables false
set_option linter.unusedSimpArgs false
namespace Go.Proofs.YtnpncbplhdnonaaGreat
open Go.Pl Go.Bag
set_option maxHeartbeats 16000000
set_option maxRecDepth 100000
/-! ### ExecTells -/
theorem jen {c:CatS} {l:List Pr} {q:QueryS} (hl:inPs 9223372036854775807 l) (h:lightA c l q=true):inPs 60 l∧l.length≤30:=by
 unfold lightA at h
 simp only [Bool.and_eq_true,decide_eq_true_eq,List.all_eq_true] at h
 refine ⟨fun p hp=>?_,h.1.2.2⟩
 have h1:=hl p hp
 have h2:=h.2 p hp
 unfold lightC at h2
 simp only [decide_eq_true_eq] at h2
 exact ⟨h1.1,h1.2.1,h1.2.2.1,h1.2.2.2.1,h1.2.2.2.2.1,h1.2.2.2.2.2.1,h2.1,h2.2⟩
theorem Z8 (c:CatS) (v w:Go.Bag.Place) (l:List Pr) (q:QueryS) (h:okCat2 c) (hv:u8P v) (hw:u8P w) (hq:okQ q) (hl:inPs 9223372036854775807 l) (hlen:l.length≤9223372036854775807) :
  CP 3 [.c (.agg (encAsk c v w l q))] (.c (.bool true)) []:=by
 have cw:=ve
 have c1:=jei c v w l q h hq hl hlen
 refine pcallF Tryz.func3 c3 rfl ?_
 cases g:lightA c l q with
 | false =>
  rw [g] at c1
  unfold encAsk encPrs at *
  generalize l.map encPr=lm at *
  unfold encCat encQ encP at *
  dsimp only [List.cons_append,List.nil_append] at *
  unfold p3
  repeat' (first | refine call0 cw ?_ | refine call1 rfl c1 ?_ | refine st2 ?_ | intro u)
  exact jd rfl rfl
 | true =>
  rw [g] at c1
  obtain ⟨hin,hle⟩:=jen hl g
  have c2:=Jq c v w l q h hv hw hq 60 hin (by omega) (by omega)
  have c3:=Jq c v v l q h hv hv hq 60 hin (by omega) (by omega)
  unfold encAsk encPrs at *
  generalize l.map encPr=lm at *
  unfold encCat encQ encP at *
  dsimp only [List.cons_append,List.nil_append] at *
  unfold p3
  repeat' (first | refine call0 cw ?_ | refine call1 rfl c1 ?_ | refine call1 rfl c2 ?_ | refine call1 rfl c3 ?_ | refine st5 ?_ | intro u)
  exact jd rfl rfl
theorem Z9 (c0:List CV) (h0:OkL [.sl [.sl [.int .i64],.sl [.sl [.int .i64]]],.int .i64,.int .u8,.int .u8,.int .u8,.int .u8,.int .u8,.int .u8,.int .u8,.int .u8,.sl [.int .u8,.int .u8,.int .u8,.int .u8,.int .i64,.int .i64,.int .i64,.sl [.int .i64,.int .i64],.sl [.int .i64,.int .i64]],.int .u8,.int .u8,.int .u8,.int .u8,.sl [.int .i64,.int .i64,.sl [.int .i64]],.int .i64,.int .i64,.int .i64,.int .i64] c0):CP 3 [.c (.agg c0)] (.c (.bool true)) []:=by
 obtain ⟨c,k0,rfl,hc,_,g0⟩:=Z0 h0
 obtain ⟨v,k1,rfl,hv,g1⟩:=vc g0
 obtain ⟨w,k2,rfl,hw,g2⟩:=vc g1
 obtain ⟨x,k3,rfl,q3,g3⟩:=okL_cons g2
 obtain ⟨l,rfl,hl,hlen⟩:=jg3 q3
 obtain ⟨q,k4,rfl,hq,g4⟩:=Yb g3
 obtain rfl:=okL_nil g4
 have:=Z8 c v w l q hc hv hw hq hl hlen
 unfold encAsk at this
 rw [List.append_nil]
 exact this
set_option maxHeartbeats 16000000
set_option maxRecDepth 100000
/-! ### ExecBest -/
theorem jm0 {K:KT} (l:List LineS) (hok:∀ z∈l,okLn z) (hlen:l.length≤40) (f0 m tt f:Int) (v3:Nat) (x15 x16 x17:CV) (ns:List Int) (hns:ns.length≤10):∀ (rest:List Int) (i:Nat) (s:PS),ns.drop i=rest→i≤ns.length →
  s.t 0=.c (encLs l)→s.t 3=.ptr 3 v3 0→s.bx 3=⟨v3,.var [.int .i64 f0,.int .i64 m,.int .i64 tt]⟩→s.t 6=.c (.int .i64 f)→s.t 15=.c x15→s.t 16=.c x16→s.t 17=.c x17→s.t 25=.c (encIs ns)→s.t 26=.c (.int .i64 ns.length)→s.t 27=.c (.int .i64 i) →
  (∀ s',s'.t 0=.c (encLs l)→s'.t 3=.ptr 3 v3 0→s'.bx 3=⟨v3,.var [.int .i64 f0,.int .i64 m,.int .i64 tt]⟩→s'.t 15=.c x15→s'.t 16=.c x16→s'.t 17=.c x17→K (.x 2) s')→wP (CP) (.loop b5_1) s K:=by
 intro rest
 induction rest with
 | nil =>
  intro i s hd hi t0 t3 b3 t6 t15 t16 t17 t25 t26 t27 hK
  refine jf ?_
  have:=jm hd hi
  subst this
  rw [← ja t0,← ja t3,← jc b3,← ja t15,← ja t16,← ja t17,← ja t26,← ja t27]
  unfold b5_1
  repeat' (first | refine st0 ?_ | intro u)
  exact hK _ (by rfl) (by rfl) (by rfl) (by rfl) (by rfl) (by rfl)
 | cons n rest ih =>
  intro i s hd hi t0 t3 b3 t6 t15 t16 t17 t25 t26 t27 hK
  refine jf ?_
  have he:(ns.map fun n=>[CV.int .i64 n])[((i:Nat):Int).toNat]? = some [CV.int .i64 n]:=jp hd
  have hil:=jo hd
  have ih':=fun s=>ih (i + 1) s (jg hd) (by omega)
  have c1:=VS l f m n hok (by omega)
  have c2:=YP l f m n hok (by omega)
  have c3:=vL (bestS f m n l) (bestS f m n l) (by have:=ki f m n l; omega) (by have:=ki f m n l; omega)
  have d1:=VS l f 0 n hok (by omega)
  have d2:=YP l f 0 n hok (by omega)
  have d3:=vL (bestS f 0 n l) (bestS f 0 n l) (by have:=ki f 0 n l; omega) (by have:=ki f 0 n l; omega)
  rw [decide_eq_true rfl] at c3 d3
  generalize encLs (bestS f m n l)=B1 at *
  generalize encLs (bestS f 0 n l)=B2 at *
  rw [← ja t0,← ja t3,← jc b3,← ja t6,← ja t15,← ja t16,← ja t17,← ja t25,← ja t26,← ja t27]
  generalize encLs l=el at *
  unfold encIs at *
  unfold b5_1
  repeat' (first | refine ji rfl rfl (by omega) he rfl ?_ | refine call4 rfl rfl rfl rfl c1 ?_ | refine call4 rfl rfl rfl rfl c2 ?_ | refine call2 rfl rfl c3 ?_ | refine call4 rfl rfl rfl rfl d1 ?_ | refine call4 rfl rfl rfl rfl d2 ?_ | refine call2 rfl rfl d3 ?_ | refine st6 ?_ | intro u)
  exact ih' _ (by rfl) (by rfl) (by rfl) (by rfl) (by rfl) (by rfl) (by rfl) (by rfl) (by rfl) (by rfl) hK
theorem jme {K:KT} (l:List LineS) (hok:∀ z∈l,okLn z) (hlen:l.length≤40) (f0 m tt:Int) (v3:Nat) (fs:List Int) (hfs:fs.length≤10):∀ (rest:List Int) (i:Nat) (s:PS),fs.drop i=rest→i≤fs.length →
  s.t 0=.c (encLs l)→s.t 3=.ptr 3 v3 0→s.bx 3=⟨v3,.var [.int .i64 f0,.int .i64 m,.int .i64 tt]⟩→s.t 15=.c (encIs fs)→s.t 16=.c (.int .i64 fs.length)→s.t 17=.c (.int .i64 i) →
  (∀ s',K (.x 0) s')→wP (CP) (.loop b5_0) s K:=by
 intro rest
 induction rest with
 | nil =>
  intro i s hd hi t0 t3 b3 t15 t16 t17 hK
  refine jf ?_
  have:=jm hd hi
  subst this
  rw [← ja t16,← ja t17]
  unfold b5_0
  repeat' (first | refine st0 ?_ | intro u)
  exact hK _
 | cons f rest ih =>
  intro i s hd hi t0 t3 b3 t15 t16 t17 hK
  refine jf ?_
  have he:(fs.map fun n=>[CV.int .i64 n])[((i:Nat):Int).toNat]? = some [CV.int .i64 f]:=jp hd
  have hil:=jo hd
  have ih':=fun s=>ih (i + 1) s (jg hd) (by omega)
  have lp:=fun (K:Ex→PS→Prop) v3 x15 x16 x17 s=>jm0 (K:=K) l hok hlen f0 m tt f v3 x15 x16 x17 [tt,3,l.length] (by simp) [tt,3,l.length] 0 s rfl (by omega)
  rw [← ja t0,← ja t3,← jc b3,← ja t15,← ja t16,← ja t17]
  have hll:(l.map encLn).length=l.length:=List.length_map _
  unfold encLs at *
  generalize l.map encLn=el at *
  unfold encIs at *
  simp only [List.map_cons,List.map_nil] at lp
  unfold b5_0
  repeat' (first | refine ji rfl rfl (by omega) he rfl ?_ | refine je rfl hll ?_ | refine st6 ?_ | intro u)
  refine lp _ _ _ _ _ _ (by rfl) (by rfl) (by rfl) (by rfl) (by rfl) (by rfl) (by rfl) (by rfl) (by rfl) (by rfl) (fun s' w0 w3 c3 w15 w16 w17=>?_)
  rw [← ja w0,← ja w3,← jc c3,← ja w15,← ja w16,← ja w17]
  repeat' (first | refine st0 ?_ | intro u)
  exact ih' _ (by rfl) (by rfl) (by rfl) (by rfl) (by rfl) (by rfl) hK
theorem jbi (l:List LineS) (hok:∀ z∈l,okLn z) (hl:l.length≤9223372036854775807) (f m t:Int):CP 5 [.c (encLs l),.c (.agg [.int .i64 f,.int .i64 m,.int .i64 t])] (.c (.bool true)) []:=by
 have cw:=ve
 refine pcallF Tryz.func5 c5 rfl ?_
 have lp:=fun (K:Ex→PS→Prop) hlen v3 s=>jme (K:=K) l hok hlen f m t v3 [f,1,2,3,4,5] (by simp) [f,1,2,3,4,5] 0 s rfl (by simp)
 have hll:(l.map encLn).length=l.length:=List.length_map _
 unfold encLs at *
 generalize l.map encLn=el at *
 unfold encIs at *
 simp only [List.map_cons,List.map_nil] at lp
 by_cases hlen:l.length≤40
 ·unfold p5
  repeat' (first | refine je rfl hll ?_ | refine st6 ?_ | intro u)
  refine lp _ hlen _ _ (by rfl) (by rfl) (by rfl) (by rfl) (by rfl) (by rfl) (fun s'=>?_)
  repeat' (first | refine call0 cw ?_ | refine st0 ?_ | intro u)
  exact jd rfl rfl
 ·unfold p5
  repeat' (first | refine je rfl hll ?_ | refine call0 cw ?_ | refine st2 ?_ | intro u)
  exact jd rfl rfl
theorem Yo {c:CV} (h:LF.Ok (.sl [.int .u8,.int .u8,.int .u8,.int .u8,.int .i64,.int .i64,.int .i64,.int .i64,.int .i64,.int .i64,.int .i64]) c):∃ l:List LineS,c=encLs l∧(∀ z∈l,okLn z)∧l.length≤9223372036854775807 :=
 vB h fun _ he=>jg4 he
theorem jbj (c0:CV) (h0:LF.Ok (.sl [.int .u8,.int .u8,.int .u8,.int .u8,.int .i64,.int .i64,.int .i64,.int .i64,.int .i64,.int .i64,.int .i64]) c0) (c1:List CV) (h1:OkL [.int .i64,.int .i64,.int .i64] c1):CP 5 [.c c0,.c (.agg c1)] (.c (.bool true)) []:=by
 obtain ⟨l,rfl,hok,hl⟩:=Yo h0
 obtain ⟨a0,k0,rfl,q0,g0⟩:=okL_cons h1
 obtain ⟨a1,k1,rfl,q1,g1⟩:=okL_cons g0
 obtain ⟨a2,k2,rfl,q2,g2⟩:=okL_cons g1
 obtain rfl:=okL_nil g2
 obtain ⟨f,rfl,_⟩:=jI q0
 obtain ⟨m,rfl,_⟩:=jI q1
 obtain ⟨t,rfl,_⟩:=jI q2
 exact jbi l hok hl f m t
set_option maxRecDepth 100000
set_option maxHeartbeats 8000000
def modI (n m:Int):Int:=if n.tmod m < 0 then n.tmod m + m else n.tmod m
theorem YW {n m:Int} (h:0 < m):0≤modI n m∧modI n m < m:=by
 have h1:=Int.tmod_lt_of_pos n h
 have h2:-m < n.tmod m:=by
  have:=Int.tmod_lt_of_pos (-n) h
  rw [Int.neg_tmod] at this; omega
 unfold modI; split <;> omega
theorem jhe (n m:Int) (hm:0 < m∧m≤9223372036854775807):CP 29 [.c (.int .i64 n),.c (.int .i64 m)] (.c (.int .i64 (modI n m))) []:=by
 refine pcallF Tryz.func29 c29 rfl ?_
 have h1:=Int.tmod_lt_of_pos n hm.1
 have h2:-m < n.tmod m:=by
  have:=Int.tmod_lt_of_pos (-n) hm.1
  rw [Int.neg_tmod] at this; omega
 have he:modI n m=if n.tmod m < 0 then n.tmod m + m else n.tmod m:=rfl
 rw [he]
 unfold p29
 repeat' (first | refine jm8 rfl rfl (by omega) ?_ | refine st4 ?_ | refine ⟨fun hc=>?_,fun hc=>?_⟩ | intro u)
 ·rw [if_pos (by assumption)]; exact jd rfl rfl
 ·rw [if_neg (by assumption)]; exact jd rfl rfl
set_option maxHeartbeats 16000000
set_option maxRecDepth 100000
/-! ### Rows, a query, a node -/
def encRw (c:CatS) (rows:List RowS) (q:QueryS) (v:Go.Bag.Place):List CV:=encCat c++(encRows rows::(encQ q++encP v))
def mayX (c:CatS) (rows:List RowS) (q:QueryS) (v:Go.Bag.Place):Bool:=lightCat c && (lightQ q && (decide (rows.length≤60) && (rowsOk c rows && (goodQ c q && rightC c v zeroP))))
structure OkR (c:CatS) (rows:List RowS) (q:QueryS) (v:Go.Bag.Place):Prop where
 c:okCat2 c
 r:∀ r∈rows,u8P r.p∧inR r
 len:rows.length≤9223372036854775807
 q:okQ q
 v:u8P v
theorem Wx (c:CatS) (rows:List RowS) (q:QueryS) (v:Go.Bag.Place) (h:OkR c rows q v):CP 14 [.c (.agg (encRw c rows q v))] (.c (.bool (mayX c rows q v))) []:=by
 have c1:=W4 c h.c.1.1 h.c.1.2
 have c2:=ZG q h.q
 have c3:=jcs c h.c.1 rows h.len (fun r hr=>(h.r r hr).1) (fun r hr=>(h.r r hr).2)
 have c4:=Xf c q h.c h.q
 have c5:=vy c v h.c.1 h.v
 have hl:=h.len
 clear h
 refine pcallF Tryz.func14 c14 rfl ?_
 unfold mayX
 generalize lightCat c=g1 at *
 generalize lightQ q=g2 at *
 generalize rowsOk c rows=g3 at *
 generalize goodQ c q=g4 at *
 generalize rightC c v zeroP=g5 at *
 unfold encRw
 have hll:(rows.map encRow).length=rows.length:=List.length_map _
 unfold encRows at *
 generalize rows.map encRow=rm at *
 unfold encCat encQ encP at *
 dsimp only [List.cons_append,List.nil_append] at *
 unfold p14
 cases g1 with
 | false =>
  repeat' (first | refine call1 rfl c1 ?_ | refine st2 ?_ | intro u)
  exact jd rfl rfl
 | true =>
  cases g2 with
  | false =>
   repeat' (first | refine call1 rfl c1 ?_ | refine call1 rfl c2 ?_ | refine st2 ?_ | intro u)
   exact jd rfl rfl
  | true =>
   rw [Bool.true_and,Bool.true_and]
   by_cases h3:rows.length≤60
   ·rw [decide_eq_true h3,Bool.true_and]
    cases g3 with
    | false =>
     repeat' (first | refine call1 rfl c1 ?_ | refine call1 rfl c2 ?_ | refine call2 rfl rfl c3 ?_ | refine je rfl hll ?_ | refine st2 ?_ | intro u)
     exact jd rfl rfl
    | true =>
     cases g4 with
     | false =>
      repeat' (first | refine call1 rfl c1 ?_ | refine call1 rfl c2 ?_ | refine call2 rfl rfl c3 ?_ | refine je rfl hll ?_ | refine call2 rfl rfl c4 ?_ | refine st2 ?_ | intro u)
      exact jd rfl rfl
     | true =>
      repeat' (first | refine call1 rfl c1 ?_ | refine call1 rfl c2 ?_ | refine call2 rfl rfl c3 ?_ | refine je rfl hll ?_ | refine call2 rfl rfl c4 ?_ | refine call2 rfl rfl c5 ?_ | refine st2 ?_ | intro u)
      exact jd rfl rfl
   ·rw [decide_eq_false h3,Bool.false_and]
    repeat' (first | refine call1 rfl c1 ?_ | refine call1 rfl c2 ?_ | refine je rfl hll ?_ | refine st2 ?_ | intro u)
    exact jd rfl rfl
theorem vV (c:CatS) (rows:List RowS) (q:QueryS) (v w:Go.Bag.Place) (h:okCat2 c) (hr:∀ r∈rows,u8P r.p∧inR r) (hl:rows.length≤60) (hw:u8P w) (hwr:rightC c w zeroP=true) (hok:rowsOk c rows=true) :
  CP 18 [.c (.agg (encRw c rows q v)),.c (.agg (encP w))] (.c (encPrs (groupL c w rows))) []:=by
 have c1:=jcw c w rows h hw hr (by omega)
 have e:groupS c w rows=some (groupL c w rows):=by unfold groupS; rw [if_pos ⟨hwr,hok⟩]
 rw [e] at c1
 refine pcallF Tryz.func18 c18 rfl ?_
 unfold encUp at c1
 dsimp only at c1
 unfold encPrs at *
 generalize (groupL c w rows).map encPr=G at *
 unfold encRw
 unfold encRows at *
 generalize rows.map encRow=rm at *
 unfold encCat encQ encP at *
 dsimp only [List.cons_append,List.nil_append] at *
 unfold p18
 repeat' (first | refine call3 rfl rfl rfl c1 ?_ | refine st5 ?_ | intro u)
 exact jd rfl rfl
def allQ (q:QueryS):QueryS:=⟨q.node,q.fixes,0,0,0,1000⟩
theorem jj3 (c:CatS) (rows:List RowS) (q:QueryS) (v:Go.Bag.Place):CP 28 [.c (.agg (encRw c rows q v))] (.c (.agg (encQ (allQ q)))) []:=by
 refine pcallF Tryz.func28 c28 rfl ?_
 unfold encRw allQ
 unfold encRows at *
 generalize rows.map encRow=rm at *
 unfold encCat encQ encP at *
 dsimp only [List.cons_append,List.nil_append] at *
 unfold p28
 repeat' (first | refine st3 ?_ | intro u)
 exact jd (jh rfl rfl rfl rfl jk) rfl
/-! ### Nodes that do -/
theorem VX:∀ (ds:List DimS) (xs ys ws zs:List Int),xs.length=ws.length→ys.length=ws.length→(∀ i,i < ws.length→ws.getD i 0=xs.getD i 0∨ws.getD i 0=ys.getD i 0)→rightL ds xs zs=true→rightL ds ys zs=true→rightL ds ws zs=true
 | [],[],_,w::ws,_,h,_,_,_,_=>by simp at h
 | d::ds,[],_,w::ws,_,h,_,_,_,_=>by simp at h
 | [],x::xs,[],w::ws,_,_,h,_,_,_=>by simp at h
 | d::ds,x::xs,[],w::ws,_,_,h,_,_,_=>by simp at h
 | [],_,_,[],_,_,_,_,_,_=>by unfold rightL; rfl
 | d::ds,_,_,[],_,_,_,_,_,_=>by unfold rightL; rfl
 | [],x::xs,y::ys,w::ws,[],_,_,_,_,_=>by unfold rightL; rfl
 | d::ds,x::xs,y::ys,w::ws,[],_,_,_,_,_=>by unfold rightL; rfl
 | [],x::xs,y::ys,w::ws,z::zs,h1,h2,h3,h4,h5=>by
  simp only [rightL,Bool.and_eq_true,decide_eq_true_eq] at h4 h5 ⊢
  have h0:=h3 0 (by simp)
  simp only [List.getD_cons_zero] at h0
  refine ⟨⟨by omega,h4.1.2⟩,VX [] xs ys ws zs (by simpa using h1) (by simpa using h2) (fun i hi=>by have:=h3 (i + 1) (by simpa using hi); simpa using this) h4.2 h5.2⟩
 | d::ds,x::xs,y::ys,w::ws,z::zs,h1,h2,h3,h4,h5=>by
  simp only [rightL,Bool.and_eq_true,decide_eq_true_eq] at h4 h5 ⊢
  have h0:=h3 0 (by simp)
  simp only [List.getD_cons_zero] at h0
  refine ⟨?_,VX ds xs ys ws zs (by simpa using h1) (by simpa using h2) (fun i hi=>by have:=h3 (i + 1) (by simpa using hi); simpa using this) h4.2 h5.2⟩
  rcases h0 with e | e
  ·rw [e]; exact h4.1
  ·rw [e]; exact h5.1
theorem XI {c:CatS} {a b:Go.Bag.Place} (ha:rightC c a zeroP=true) (hb:rightC c b zeroP=true):rightC c (meetP a b) zeroP=true:=by
 unfold rightC
 rw [jB ha,Bool.true_and]
 refine VX c.dims (placeL a) (placeL b) _ _ rfl rfl (fun i hi=>?_) (kR ha) (kR hb)
 match i,hi with
 | 0,_=>show (if b.p0 < a.p0 then b.p0 else a.p0)=a.p0∨(if b.p0 < a.p0 then b.p0 else a.p0)=b.p0; split <;> simp
 | 1,_=>show (if b.p1 < a.p1 then b.p1 else a.p1)=a.p1∨(if b.p1 < a.p1 then b.p1 else a.p1)=b.p1; split <;> simp
 | 2,_=>show (if b.p2 < a.p2 then b.p2 else a.p2)=a.p2∨(if b.p2 < a.p2 then b.p2 else a.p2)=b.p2; split <;> simp
 | 3,_=>show (if b.p3 < a.p3 then b.p3 else a.p3)=a.p3∨(if b.p3 < a.p3 then b.p3 else a.p3)=b.p3; split <;> simp
 | n + 4,hi=>exact absurd hi (by simp [placeL])
theorem jc3 {a b:Go.Bag.Place} (ha:u8P a) (hb:u8P b):u8P (meetP a b):=by
 intro x hx
 have h:=fun (y:Int) (hy:y∈placeL a)=>ha y hy
 have k:=fun (y:Int) (hy:y∈placeL b)=>hb y hy
 simp only [placeL,meetP,List.mem_cons,List.not_mem_nil,or_false] at hx h k
 rcases hx with rfl | rfl | rfl | rfl
 all_goals (split; exact k _ (by simp); exact h _ (by simp))
theorem jj4 {a b:Go.Bag.Place} (ha:u8P a) (hb:u8P b):u8P (joinP a b):=by
 intro x hx
 have h:=fun (y:Int) (hy:y∈placeL a)=>ha y hy
 have k:=fun (y:Int) (hy:y∈placeL b)=>hb y hy
 simp only [placeL,joinP,List.mem_cons,List.not_mem_nil,or_false] at hx h k
 rcases hx with rfl | rfl | rfl | rfl
 all_goals (split; exact k _ (by simp); exact h _ (by simp))
theorem jaa (a b:Go.Bag.Place):belowP (meetP a b) b=true:=by
 unfold belowP meetP
 simp only [decide_eq_true_eq]
 refine ⟨?_,?_,?_,?_⟩ <;> split <;> omega
theorem XJ (ds:List DimS) (xs:List Int):rightL ds xs []=true:=by cases ds <;> cases xs <;> (unfold rightL; rfl)
theorem VY:∀ (ds:List DimS) (xs zs:List Int) (i:Nat) (x:Int),rightL ds xs (zs.map fun _=>0)=true→(∀ d,ds[i]? = some d→0 < sizeD d x)→(ds.length≤i→x=0)→rightL ds (xs.set i x) (zs.map fun _=>0)=true
 | [],[],_,_,_,h,_,_=>by simpa using h
 | d::ds,[],_,_,_,h,_,_=>by simpa using h
 | [],y::xs,[],_,_,_,_,_=>XJ _ _
 | d::ds,y::xs,[],_,_,_,_,_=>XJ _ _
 | [],y::xs,z::zs,0,x,h,h1,h2=>by
  simp only [List.set_cons_zero,rightL,List.map_cons,Bool.and_eq_true,decide_eq_true_eq] at h ⊢
  exact ⟨⟨h2 (by simp),trivial⟩,h.2⟩
 | d::ds,y::xs,z::zs,0,x,h,h1,h2=>by
  simp only [List.set_cons_zero,rightL,List.map_cons,Bool.and_eq_true,decide_eq_true_eq] at h ⊢
  exact ⟨h1 d rfl,h.2⟩
 | [],y::xs,z::zs,i + 1,x,h,h1,h2=>by
  simp only [List.set_cons_succ,rightL,List.map_cons,Bool.and_eq_true] at h ⊢
  exact ⟨h.1,VY [] xs zs i x h.2 (fun d hd=>by simp at hd) (fun _=>h2 (by simp))⟩
 | d::ds,y::xs,z::zs,i + 1,x,h,h1,h2=>by
  simp only [List.set_cons_succ,rightL,List.map_cons,Bool.and_eq_true] at h ⊢
  exact ⟨h.1,VY ds xs zs i x h.2 (fun e he=>h1 e (by simpa using he)) (fun hl=>h2 (by simpa using hl))⟩
theorem jbk {c:CatS} {v:Go.Bag.Place} {f:FixS} (hv:rightC c v zeroP=true) (hu:u8P v) (hf:fixOk c f=true):rightC c (minP v f) zeroP=true∧u8P (minP v f):=by
 obtain ⟨d,hde,gd,l0,l1,l4⟩:=fix_level hf
 have hd:=(wA hf).1
 have hdl:=(jx (jB hv)).1
 have hlen:((placeL v).set f.dim.toNat (if f.level < (placeL v).getD f.dim.toNat 0 then f.level else (placeL v).getD f.dim.toNat 0)).length=4:=by rw [List.length_set]; rfl
 have hpl:placeL (minP v f)=(placeL v).set f.dim.toNat (if f.level < (placeL v).getD f.dim.toNat 0 then f.level else (placeL v).getD f.dim.toNat 0):=by
  unfold minP
  rw [Xx _ (by omega),hlen]
  simp
 refine ⟨?_,?_⟩
 ·unfold rightC
  rw [jB hv,Bool.true_and,hpl]
  refine VY c.dims (placeL v) (placeL zeroP) _ _ (kR hv) (fun e he=>?_) (fun hl=>by omega)
  rw [hde] at he
  obtain rfl:=Option.some.inj he
  split
  ·have:=Vq gd l0 l1; omega
  ·have:=JV c.dims (placeL v) (placeL zeroP) (by show c.dims.length≤4; omega) rfl (kR hv) _ d hde
   have z:(placeL zeroP).getD f.dim.toNat 0=0:=by
    have h4:f.dim.toNat < 4:=by omega
    match f.dim.toNat,h4 with
    | 0,_=>rfl
    | 1,_=>rfl
    | 2,_=>rfl
    | 3,_=>rfl
    | n + 4,h=>omega
   rw [z] at this
   exact this
 ·intro x hx
  rw [hpl] at hx
  rcases List.mem_or_eq_of_mem_set hx with h | h
  ·exact hu x h
  ·subst h
   have h4:f.dim.toNat < (placeL v).length:=by show f.dim.toNat < 4; omega
   have hg:(placeL v).getD f.dim.toNat 0∈placeL v:=by
    rw [List.getD_eq_getElem?_getD,List.getElem?_eq_getElem h4]
    exact List.getElem_mem h4
   have:=hu _ hg
   split <;> omega
theorem w5 {c:CatS} {q:QueryS} (hq:goodQ c q=true) (hu:u8P q.node):rightC c (needQ c q) zeroP=true∧u8P (needQ c q):=by
 have:∀ (fs:List FixS) (v:Go.Bag.Place),(∀ f∈fs,fixOk c f=true)→rightC c v zeroP=true→u8P v→rightC c (fs.foldl minP v) zeroP=true∧u8P (fs.foldl minP v):=by
  intro fs
  induction fs with
  | nil=>intro v _ h1 h2; exact ⟨h1,h2⟩
  | cons f fs ih =>
   intro v hf h1 h2
   have:=jbk h1 h2 (hf f (by simp))
   exact ih (minP v f) (fun g hg=>hf g (by simp [hg])) this.1 this.2
 unfold needQ
 rw [if_pos hq]
 exact this q.fixes q.node (Yl hq) (wY hq) hu
theorem Wy {c:CatS} {rows:List RowS} {q:QueryS} {v:Go.Bag.Place} (h:mayX c rows q v=true):rows.length≤60∧rowsOk c rows=true∧goodQ c q=true∧rightC c v zeroP=true:=by
 unfold mayX at h
 simp only [Bool.and_eq_true,decide_eq_true_eq] at h
 exact ⟨h.2.2.1,h.2.2.2.1,h.2.2.2.2.1,h.2.2.2.2.2⟩
theorem w6 {c:CatS} (h:goodCat c=true):rightC c zeroP zeroP=true:=by
 unfold rightC
 rw [h,Bool.true_and]
 have gs:=(jx h).2.2
 have hl:=(jx h).1
 have:∀ (ds:List DimS) (xs:List Int),(∀ d∈ds,goodDim d=true)→rightL ds (xs.map fun _=>0) (xs.map fun _=>0)=true:=by
  intro ds xs
  induction xs generalizing ds with
  | nil=>intro _; cases ds <;> (unfold rightL; rfl)
  | cons x xs ih =>
   intro hd
   cases ds with
   | nil=>simp only [List.map_cons,rightL,and_self,decide_true,Bool.true_and]; exact ih [] (fun d hd=>by simp at hd)
   | cons d ds =>
    simp only [List.map_cons,rightL,Bool.and_eq_true,decide_eq_true_eq]
    have g:=hd d (by simp)
    refine ⟨?_,ih ds fun e he=>hd e (by simp [he])⟩
    have:=Vq g (k:=0) (by omega) (by omega)
    omega
 exact this c.dims (placeL zeroP) gs
theorem kB {v:Go.Bag.Place} (h:u8P v):belowP zeroP v=true:=wh h
theorem jc4 {c0:List CV} (h0:OkL [.sl [.sl [.int .i64],.sl [.sl [.int .i64]]],.int .i64,.sl [.int .u8,.int .u8,.int .u8,.int .u8,.int .i64,.int .i64],.int .u8,.int .u8,.int .u8,.int .u8,.sl [.int .i64,.int .i64,.sl [.int .i64]],.int .i64,.int .i64,.int .i64,.int .i64,.int .u8,.int .u8,.int .u8,.int .u8] c0):∃ c rows q v,c0=encRw c rows q v∧OkR c rows q v∧in64 c.m:=by
 obtain ⟨c,k0,rfl,hc,hm,g0⟩:=Z0 h0
 obtain ⟨x,k1,rfl,q1,g1⟩:=okL_cons g0
 obtain ⟨rows,rfl,hr,hl⟩:=jg1 q1
 obtain ⟨q,k2,rfl,hq,g2⟩:=Yb g1
 obtain ⟨v,k3,rfl,hv,g3⟩:=vc g2
 obtain rfl:=okL_nil g3
 exact ⟨c,rows,q,v,by unfold encRw; rw [List.append_nil],⟨hc,hr,hl,hq,hv⟩,hm⟩
set_option maxHeartbeats 16000000
set_option maxRecDepth 100000
/-! ### ExecAnswers -/
abbrev AskT:=Go.Bag.Place × Go.Bag.Place × List Pr
def encA (c:CatS) (q:QueryS) (a:AskT):List CV:=encAsk c a.1 a.2.1 a.2.2 q
theorem jj5 {K:KT} (c:CatS) (q:QueryS) (asks:List AskT) (hC:∀ a∈asks,CP 13 [.c (.agg (encA c q a))] (.c (.bool true)) []) (hlen:asks.length≤10):∀ (rest:List AskT) (i:Nat) (s:PS),asks.drop i=rest→i≤asks.length →
  s.t 56=.c (.sl (asks.map (encA c q)))→s.t 57=.c (.int .i64 asks.length)→s.t 58=.c (.int .i64 i)→(∀ s',K (.x 0) s')→wP (CP) (.loop b4_0) s K:=by
 intro rest
 induction rest with
 | nil =>
  intro i s hd hi t56 t57 t58 hK
  refine jf ?_
  have:=jm hd hi
  subst this
  rw [← ja t57,← ja t58]
  unfold b4_0
  repeat' (first | refine st0 ?_ | intro u)
  exact hK _
 | cons a rest ih =>
  intro i s hd hi t56 t57 t58 hK
  refine jf ?_
  have he:(asks.map (encA c q))[((i:Nat):Int).toNat]? = some (encA c q a):=jp hd
  have hil:=jo hd
  have c1:=hC a (List.mem_of_mem_drop (by rw [hd]; simp))
  have ih':=fun s=>ih (i + 1) s (jg hd) (by omega)
  clear ih
  rw [← ja t56,← ja t57,← ja t58]
  generalize asks.map (encA c q)=L at *
  unfold encA encAsk encPrs at *
  generalize a.2.2.map encPr=lm at *
  unfold encCat encQ encP at *
  dsimp only [List.cons_append,List.nil_append] at *
  unfold b4_0
  repeat' (first | refine ji rfl rfl (by omega) he rfl ?_ | refine call1 rfl c1 ?_ | refine st6 ?_ | intro u)
  exact ih' _ (by rfl) (by rfl) (by rfl) hK
theorem XO (c:CatS) (rows:List RowS) (q:QueryS) (v:Go.Bag.Place) (h:OkR c rows q v):CP 4 [.c (.agg (encRw c rows q v))] (.c (.bool true)) []:=by
 have cw:=ve
 have cm:=Wx c rows q v h
 refine pcallF Tryz.func4 c4 rfl ?_
 cases g:mayX c rows q v with
 | false =>
  rw [g] at cm
  unfold encRw at *
  unfold encRows at *
  generalize rows.map encRow=rm at *
  unfold encCat encQ encP at *
  dsimp only [List.cons_append,List.nil_append] at *
  unfold p4
  repeat' (first | refine call0 cw ?_ | refine call1 rfl cm ?_ | refine st2 ?_ | intro u)
  exact jd rfl rfl
 | true =>
  rw [g] at cm
  obtain ⟨hl,hok,hq,hvr⟩:=Wy g
  obtain ⟨hnr,hnu⟩:=w5 hq h.q.2.2
  have hc0:=w6 (vl hok).1
  have hmr:=XI hvr hnr
  have hmu:=jc3 h.v hnu
  have c1:=Xg c q h.c h.q
  have c2:=jcf v (needQ c q)
  have c3:=jiv (meetP v (needQ c q)) v
  have hin:∀ w,inPs 1000 (groupL c w rows)∧(groupL c w rows).length≤60:=fun w=>⟨wG (by omega) fun r hr=>(h.r r hr).2,by have:=vd c w rows; omega⟩
  have c4:=vV c rows q v (meetP v (needQ c q)) h.c h.r hl hmu hmr hok
  have c5:=vV c rows q v v h.c h.r hl h.v hvr hok
  have c6:=vV c rows q v zeroP h.c h.r hl jv hc0 hok
  have hC:∀ a∈([(meetP v (needQ c q),joinP (meetP v (needQ c q)) v,groupL c (meetP v (needQ c q)) rows),(v,q.node,groupL c v rows),(zeroP,v,groupL c zeroP rows)]:List AskT),CP 13 [.c (.agg (encA c q a))] (.c (.bool true)) []:=by
   intro a ha
   simp only [List.mem_cons,List.not_mem_nil,or_false] at ha
   rcases ha with rfl | rfl | rfl
   ·exact Jq c (meetP v (needQ c q)) (joinP (meetP v (needQ c q)) v) (groupL c (meetP v (needQ c q)) rows) q h.c hmu (jj4 hmu h.v) h.q 1000 (hin _).1 (by have:=(hin (meetP v (needQ c q))).2; omega) (by have:=(hin (meetP v (needQ c q))).2; omega)
   ·exact Jq c v q.node (groupL c v rows) q h.c h.v h.q.2.2 h.q 1000 (hin _).1 (by have:=(hin v).2; omega) (by have:=(hin v).2; omega)
   ·exact Jq c zeroP v (groupL c zeroP rows) q h.c jv h.v h.q 1000 (hin _).1 (by have:=(hin zeroP).2; omega) (by have:=(hin zeroP).2; omega)
  have lp:=fun (K:Ex→PS→Prop) s=>jj5 (K:=K) c q _ hC (by simp) _ 0 s rfl (by simp)
  clear hC hin hnr hnu hmr hmu
  generalize needQ c q=nd at *
  generalize joinP (meetP v nd) v=jn at *
  generalize meetP v nd=mt at *
  simp only [List.map_cons,List.map_nil] at lp
  unfold encA encAsk at lp
  dsimp only at lp
  unfold encPrs at *
  generalize (groupL c mt rows).map encPr=G1 at *
  generalize (groupL c v rows).map encPr=G2 at *
  generalize (groupL c zeroP rows).map encPr=G3 at *
  clear h
  unfold encRw at *
  unfold encRows at *
  generalize rows.map encRow=rm at *
  unfold encCat encQ encP zeroP at *
  dsimp only [List.cons_append,List.nil_append] at *
  unfold p4
  repeat' (first | refine call1 rfl cm ?_ | refine call2 rfl rfl c1 ?_ | refine call2 rfl rfl c2 ?_ | refine call2 rfl rfl c3 ?_ | refine call2 rfl rfl c4 ?_ | refine call2 rfl rfl c5 ?_ | refine call2 rfl rfl c6 ?_ | refine st6 ?_ | intro u)
  refine lp _ _ (by rfl) (by rfl) (by rfl) (fun s'=>?_)
  repeat' (first | refine call0 cw ?_ | refine st0 ?_ | intro u)
  exact jd rfl rfl
theorem XP (c0:List CV) (h0:OkL [.sl [.sl [.int .i64],.sl [.sl [.int .i64]]],.int .i64,.sl [.int .u8,.int .u8,.int .u8,.int .u8,.int .i64,.int .i64],.int .u8,.int .u8,.int .u8,.int .u8,.sl [.int .i64,.int .i64,.sl [.int .i64]],.int .i64,.int .i64,.int .i64,.int .i64,.int .u8,.int .u8,.int .u8,.int .u8] c0):CP 4 [.c (.agg c0)] (.c (.bool true)) []:=by
 obtain ⟨c,rows,q,v,rfl,h,_⟩:=jc4 h0
 exact XO c rows q v h
/-! ### ExecLevels -/
theorem jhf (m:Int) (l:List Pr) (q:QueryS):(toldS m l q).2=0∨(toldS m l q).2=13:=by
 unfold toldS
 dsimp only
 by_cases ht:0 < q.top
 ·simp only [if_pos ht]
  split
  ·exact .inr rfl
  ·exact .inl rfl
 ·simp only [if_neg ht]
  split
  ·exact .inr rfl
  ·exact .inl rfl
theorem jhg (m:Int) (l:List Pr) (q:QueryS):(toldS m l q).1.length≤l.length:=by
 have hb:=ki q.fn q.measure q.top (linesOf m l)
 have hL:(linesOf m l).length=l.length:=by simp [linesOf]
 unfold toldS
 dsimp only
 by_cases ht:0 < q.top
 ·simp only [if_pos ht]
  split
  ·simp
  ·dsimp only; omega
 ·simp only [if_neg ht]
  split
  ·simp
  ·dsimp only; omega
theorem YX (c:CatS) (rows:List RowS) (q:QueryS) (v:Go.Bag.Place) (h:OkR c rows q v):CP 7 [.c (.agg (encRw c rows q v))] (.c (.bool true)) []:=by
 have cw:=ve
 have cm:=Wx c rows q v h
 refine pcallF Tryz.func7 c7 rfl ?_
 cases g:mayX c rows q v with
 | false =>
  rw [g] at cm
  unfold encRw at *
  unfold encRows at *
  generalize rows.map encRow=rm at *
  unfold encCat encQ encP at *
  dsimp only [List.cons_append,List.nil_append] at *
  unfold p7
  repeat' (first | refine call0 cw ?_ | refine call1 rfl cm ?_ | refine st2 ?_ | intro u)
  exact jd rfl rfl
 | true =>
  rw [g] at cm
  obtain ⟨hl,hok,hq,hvr⟩:=Wy g
  obtain ⟨hnr,hnu⟩:=w5 hq h.q.2.2
  have hc0:=w6 (vl hok).1
  have hmr:=XI hvr hnr
  have hmu:=jc3 h.v hnu
  have hnode:=wY hq
  have hbn:belowP (meetP v (needQ c q)) (needQ c q)=true:=jaa _ _
  have hbq:=kT hbn (JZ hq)
  have hu:∀ r∈rows,u8P r.p:=fun r hr=>(h.r r hr).1
  have c1:=Xg c q h.c h.q
  have c2:=jcf v (needQ c q)
  have hin:∀ w,inPs 1000 (groupL c w rows)∧(groupL c w rows).length≤60:=fun w=>⟨wG (by omega) fun r hr=>(h.r r hr).2,by have:=vd c w rows; omega⟩
  have e1:=VB hok (by omega) hu jv hc0 hmr (kB hmu)
  have e2:=VB hok (by omega) hu hmu hmr hnode hbq
  have e3:=VB hok (by omega) hu jv hc0 hnode (kB h.q.2.2)
  have e4:=ke hok (by omega) hu jv hc0 hq (kB hnu)
  have e5:=ke hok (by omega) hu hmu hmr hq hbn
  have e6:=J2 hok (by omega) hu hmu hmr
  have terr:=jhf c.m (groupL c q.node (keptR c rows q.fixes)) q
  have tlen:=jhg c.m (groupL c q.node (keptR c rows q.fixes)) q
  have hkl:(groupL c q.node (keptR c rows q.fixes)).length≤60:=by
   have h1:=vd c q.node (keptR c rows q.fixes)
   have h2:(keptR c rows q.fixes).length≤rows.length:=List.length_filter_le _ _
   omega
  have h0l:=(hin zeroP).2
  have hml:=(hin (meetP v (needQ c q))).2
  have hnl:=(hin q.node).2
  have c3:=vV c rows q v zeroP h.c h.r hl jv hc0 hok
  have c4:=ZQ c zeroP (meetP v (needQ c q)) (groupL c zeroP rows) h.c jv hmu 1000 (hin _).1 (by omega) (by omega)
  have c5:=vk c zeroP (groupL c zeroP rows) q h.c jv h.q 1000 (hin _).1 (by omega) (by omega)
  have c6:=vk c (meetP v (needQ c q)) (groupL c (meetP v (needQ c q)) rows) q h.c hmu h.q 1000 (hin _).1 (by omega) (by omega)
  have c7:=ZQ c (meetP v (needQ c q)) q.node (groupL c (meetP v (needQ c q)) rows) h.c hmu h.q.2.2 1000 (hin _).1 (by omega) (by omega)
  have c8:=ZQ c zeroP q.node (groupL c zeroP rows) h.c jv h.q.2.2 1000 (hin _).1 (by omega) (by omega)
  have c9:=JJ c (meetP v (needQ c q)) (groupL c (meetP v (needQ c q)) rows) h.c hmu (jS (hin _).1 (by omega)) (by omega)
  have d1:=vV c rows q v (meetP v (needQ c q)) h.c h.r hl hmu hmr hok
  have d2:=wX (groupL c (meetP v (needQ c q)) rows) (groupL c (meetP v (needQ c q)) rows) (jS (hin _).1 (by omega)) (jS (hin _).1 (by omega)) (by omega) (by omega)
  have d3:=wX (groupL c q.node rows) (groupL c q.node rows) (jS (hin _).1 (by omega)) (jS (hin _).1 (by omega)) (by omega) (by omega)
  have d4:=vL (toldS c.m (groupL c q.node (keptR c rows q.fixes)) q).1 (toldS c.m (groupL c q.node (keptR c rows q.fixes)) q).1 (by omega) (by omega)
  rw [e1] at c4
  rw [e4] at c5
  rw [e5] at c6
  rw [e2] at c7
  rw [e3] at c8
  rw [e6] at c9
  rw [decide_eq_true rfl] at d2 d3 d4
  clear e1 e2 e3 e4 e5 e6 hin tlen hkl h0l hml hnl hnr hnu hmr hmu hnode hbn hbq hu
  generalize (toldS c.m (groupL c q.node (keptR c rows q.fixes)) q).2=te at *
  generalize encLs (toldS c.m (groupL c q.node (keptR c rows q.fixes)) q).1=tl at *
  generalize needQ c q=nd at *
  generalize meetP v nd=mt at *
  unfold encUp at *
  dsimp only at c4 c7 c8
  generalize encPrs (groupL c mt rows)=G1 at *
  generalize encPrs (groupL c zeroP rows)=G3 at *
  generalize encPrs (groupL c q.node rows)=G2 at *
  clear h
  unfold encRw at *
  unfold encRows at *
  generalize rows.map encRow=rm at *
  unfold encCat encQ encP zeroP at *
  dsimp only [List.cons_append,List.nil_append] at *
  unfold p7
  rcases terr with rfl | rfl
  ·repeat' (first | refine call0 cw ?_ | refine call1 rfl cm ?_ | refine call2 rfl rfl c1 ?_ | refine call2 rfl rfl c2 ?_ | refine call2 rfl rfl c3 ?_ | refine call4 rfl rfl rfl rfl c4 ?_ | refine call4 rfl rfl rfl rfl c5 ?_ | refine call4 rfl rfl rfl rfl c6 ?_ | refine call4 rfl rfl rfl rfl c7 ?_ | refine call4 rfl rfl rfl rfl c8 ?_ | refine call3 rfl rfl rfl c9 ?_ | refine call2 rfl rfl d1 ?_ | refine call2 rfl rfl d2 ?_ | refine call2 rfl rfl d3 ?_ | refine call2 rfl rfl d4 ?_ | refine st8 ?_ | intro u)
   exact jd rfl rfl
  ·repeat' (first | refine call0 cw ?_ | refine call1 rfl cm ?_ | refine call2 rfl rfl c1 ?_ | refine call2 rfl rfl c2 ?_ | refine call2 rfl rfl c3 ?_ | refine call4 rfl rfl rfl rfl c4 ?_ | refine call4 rfl rfl rfl rfl c5 ?_ | refine call4 rfl rfl rfl rfl c6 ?_ | refine call4 rfl rfl rfl rfl c7 ?_ | refine call4 rfl rfl rfl rfl c8 ?_ | refine call3 rfl rfl rfl c9 ?_ | refine call2 rfl rfl d1 ?_ | refine call2 rfl rfl d2 ?_ | refine call2 rfl rfl d3 ?_ | refine call2 rfl rfl d4 ?_ | refine st8 ?_ | intro u)
   exact jd rfl rfl
theorem YY (c0:List CV) (h0:OkL [.sl [.sl [.int .i64],.sl [.sl [.int .i64]]],.int .i64,.sl [.int .u8,.int .u8,.int .u8,.int .u8,.int .i64,.int .i64],.int .u8,.int .u8,.int .u8,.int .u8,.sl [.int .i64,.int .i64,.sl [.int .i64]],.int .i64,.int .i64,.int .i64,.int .i64,.int .u8,.int .u8,.int .u8,.int .u8] c0):CP 7 [.c (.agg c0)] (.c (.bool true)) []:=by
 obtain ⟨c,rows,q,v,rfl,h,_⟩:=jc4 h0
 exact YX c rows q v h
end Go.Proofs.YtnpncbplhdnonaaGreat
/- Part of the proof of ExecTells, ExecAnswers, ExecBest, ExecFirst, ExecLevels, ExecTops, ExecLimits: lemmas. -/
import Derived.Test.YtnpncbplhdnonaaGreatExecS22
import Derived.Test.YtnpncbplhdnonaaGreatExecS24
import Derived.Test.YtnpncbplhdnonaaGreatExecS25
set_option linter.unusedVariables false
set_option linter.unusedSimpArgs false
namespace Go.Proofs.YtnpncbplhdnonaaGreat
open Go.Pl Go.Bag
set_option maxRecDepth 100000
set_option maxHeartbeats 8000000
theorem jd5 {K:KT} (l:List RowS) (hin:∀ r∈l,inR r) (hlen:l.length≤9223372036854775807) (v2 v3:Nat):∀ (rest:List RowS) (i:Nat) (a b:Int) (s:PS),l.drop i=rest→i≤l.length→(0≤a∧a≤2305843009213693952)→(0≤b∧b≤2305843009213693952) →
  s.t 0=.c (encRows l)→s.t 2=.ptr 2 v2 0→s.bx 2=⟨v2,.var [.int .i64 0,.int .i64 0,.bool false]⟩→s.t 3=.ptr 3 v3 0→s.bx 3=⟨v3,.var [.int .i64 a,.int .i64 b,.bool false]⟩→s.t 4=.c (.int .i64 i) →
  (∀ a' b',massS a b rest=some (a',b')→∀ s':PS,s'.t 2=.ptr 2 v2 0→s'.bx 2=⟨v2,.var [.int .i64 0,.int .i64 0,.bool false]⟩→s'.t 3=.ptr 3 v3 0→s'.bx 3=⟨v3,.var [.int .i64 a',.int .i64 b',.bool false]⟩→K (.x 0) s') →
  (massS a b rest=none→∀ s':PS,s'.t 2=.ptr 2 v2 0→s'.bx 2=⟨v2,.var [.int .i64 0,.int .i64 0,.bool false]⟩→K .r s')→wP (CP) (.loop b77_0) s K:=by
 intro rest
 induction rest with
 | nil =>
  intro i a b s hd hi ha hb t0 t2 b2 t3 b3 t4 hx hr
  refine jf ?_
  have:=jm hd hi
  subst this
  rw [← ja t0,← ja t2,← jc b2,← ja t3,← jc b3,← ja t4]
  unfold b77_0
  repeat' (first | refine je rfl (List.length_map _) ?_ | refine st0 ?_ | intro u)
  exact hx a b rfl _ (by rfl) (by rfl) (by rfl) (by rfl)
 | cons r rest ih =>
  intro i a b s hd hi ha hb t0 t2 b2 t3 b3 t4 hx hr
  refine jf ?_
  have he:(l.map encRow)[i]? = some (encRow r):=jp hd
  have hil:=jo hd
  have hn:=jg hd
  have hri:=hin r (List.mem_of_mem_drop (by rw [hd]; simp))
  have c1:=Vm r.m0 hri.1
  have c2:=Vm r.m1 hri.2
  have p1:0≤absI r.m0:=jf4 r.m0
  have p2:0≤absI r.m1:=jf4 r.m1
  have q1:=(kQ hri.1).2
  have q2:=(kQ hri.2).2
  have em:massS a b (r::rest)=if absI r.m0≤2305843009213693952 - a∧absI r.m1≤2305843009213693952 - b then massS (a + absI r.m0) (b + absI r.m1) rest else none:=rfl
  rw [em] at hx hr
  clear em
  obtain ⟨⟨p0',p1',p2',p3'⟩,m0,m1⟩:=r
  simp only at *
  generalize absI m0=z0 at *
  generalize absI m1=z1 at *
  have he:(l.map encRow)[i]? = some [.int .u8 p0',.int .u8 p1',.int .u8 p2',.int .u8 p3',.int .i64 m0,.int .i64 m1]:=he
  rw [← ja t0,← ja t2,← jc b2,← ja t3,← jc b3,← ja t4]
  unfold b77_0
  by_cases h0:z0≤2305843009213693952 - a
  ·repeat' (first | refine je rfl (List.length_map _) ?_ | refine st1 ?_ | intro u)
   refine jf ?_
   unfold b77_1
   repeat' (first | refine call1 rfl c1 ?_ | refine st4 ?_ | intro u)
   refine jf ?_
   by_cases h1:z1≤2305843009213693952 - b
   ·rw [if_pos ⟨h0,h1⟩] at hx hr
    repeat' (first | refine call1 rfl c2 ?_ | refine st4 ?_ | intro u)
    refine jf ?_
    repeat' (first | refine st0 ?_ | intro u)
    exact ih (i + 1) (a + z0) (b + z1) _ hn (by omega) (by omega) (by omega) (by rfl) (by rfl) (by rfl) (by rfl) (by rfl) (by rfl) hx hr
   ·rw [if_neg (fun h=>h1 h.2)] at hr
    repeat' (first | refine call1 rfl c2 ?_ | refine st4 ?_ | intro u)
    exact hr rfl _ (by rfl) (by rfl)
  ·rw [if_neg (fun h=>h0 h.1)] at hr
   repeat' (first | refine je rfl (List.length_map _) ?_ | refine st1 ?_ | intro u)
   refine jf ?_
   unfold b77_1
   repeat' (first | refine call1 rfl c1 ?_ | refine st4 ?_ | intro u)
   exact hr rfl _ (by rfl) (by rfl)
theorem jje (l:List RowS) (hin:∀ r∈l,inR r) (hlen:l.length≤9223372036854775807):CP 77 [.c (encRows l)] (.c (.agg (massV (massS 0 0 l)))) []:=by
 refine pcallF Tryz.func77 c77 rfl ?_
 unfold p77
 repeat' (first | refine st3 ?_ | intro u)
 refine jd5 l hin hlen _ _ l 0 0 0 _ rfl (by omega) (by omega) (by omega) (by rfl) (by rfl) (by rfl) (by rfl) (by rfl) (by rfl) (fun a b h s' t2 b2 t3 b3=>?_) (fun h s' t2 b2=>?_)
 ·rw [h,← ja t2,← jc b2,← ja t3,← jc b3]
  repeat' (first | refine st0 ?_ | intro u)
  exact jd (jh rfl rfl rfl rfl jk) rfl
 ·rw [h,← ja t2,← jc b2]
  repeat' (first | refine j8 ?_ | refine kl ?_)
  exact jd (jh rfl rfl rfl rfl jk) rfl
set_option maxRecDepth 100000
set_option maxHeartbeats 8000000
theorem jd6 {K:KT} (c:CatS) (h:okCat c) (l:List RowS) (hlen:l.length≤9223372036854775807) (hu:∀ x∈l,u8P x.p) (v:Nat):∀ (rest:List RowS) (i:Nat) (s:PS),l.drop i=rest→i≤l.length →
  s.t 1=.c (encRows l)→s.t 2=.ptr 2 v 0→s.bx 2=⟨v,.var (encCat c)⟩→s.t 5=.c (.int .i64 i) →
  (rest.all (goodR c)=true→∀ s':PS,s'.t 1=.c (encRows l)→s'.t 2=.ptr 2 v 0→s'.bx 2=⟨v,.var (encCat c)⟩→K (.x 0) s') →
  (rest.all (goodR c)=false→∀ s':PS,s'.t 4=.c (.bool false)→K .r s')→wP (CP) (.loop b38_0) s K:=by
 intro rest
 induction rest with
 | nil =>
  intro i s hd hi t1 t2 b2 t5 hx hr
  refine jf ?_
  have:=jm hd hi
  subst this
  rw [← ja t1,← ja t2,← jc b2,← ja t5]
  unfold b38_0
  repeat' (first | refine je rfl (List.length_map _) ?_ | refine st0 ?_ | intro u)
  exact hx rfl _ (by rfl) (by rfl) (by rfl)
 | cons r rest ih =>
  intro i s hd hi t1 t2 b2 t5 hx hr
  refine jf ?_
  have he:(l.map encRow)[i]? = some (encRow r):=jp hd
  have hil:=jo hd
  have hn:=jg hd
  have c1:=jf0 c r h (hu r (List.mem_of_mem_drop (by rw [hd]; simp)))
  rw [← ja t1,← ja t2,← jc b2,← ja t5]
  unfold encRow encP at he c1
  simp only [List.all_cons] at hx hr
  unfold encCat at *
  unfold b38_0
  cases g:goodR c r with
  | true =>
   rw [g] at c1 hx hr
   rw [Bool.true_and] at hx hr
   repeat' (first | refine je rfl (List.length_map _) ?_ | refine call2 rfl rfl c1 ?_ | refine st1 ?_ | intro u)
   exact ih (i + 1) _ hn (by omega) (by rfl) (by rfl) (by rfl) (by rfl) hx hr
  | false =>
   rw [g] at c1 hr
   rw [Bool.false_and] at hr
   repeat' (first | refine je rfl (List.length_map _) ?_ | refine call2 rfl rfl c1 ?_ | refine st3 ?_ | intro u)
   exact hr rfl _ (by rfl)
theorem jcs (c:CatS) (h:okCat c) (l:List RowS) (hlen:l.length≤9223372036854775807) (hu:∀ x∈l,u8P x.p) (hin:∀ r∈l,inR r):CP 38 [.c (.agg (encCat c)),.c (encRows l)] (.c (.bool (rowsOk c l))) []:=by
 have c1:=W5 c h
 have c2:=jje l hin hlen
 refine pcallF Tryz.func38 c38 rfl ?_
 unfold rowsOk
 unfold p38
 repeat' (first | refine st2 ?_ | intro u)
 refine jd6 c h l hlen hu _ l 0 _ rfl (by omega) (by rfl) (by rfl) (by rfl) (by rfl) (fun g s' t1 t2 b2=>?_) (fun g s' t4=>?_)
 ·rw [g,Bool.true_and,← ja t1,← ja t2,← jc b2]
  clear g
  unfold encCat at *
  cases q:goodCat c with
  | false =>
   rw [q] at c1
   repeat' (first | refine call1 rfl c1 ?_ | refine st2 ?_ | intro u)
   exact jd rfl rfl
  | true =>
   rw [q] at c1
   rw [Bool.true_and]
   cases m:massS 0 0 l with
   | none =>
    rw [m] at c2
    unfold massV at c2
    repeat' (first | refine call1 rfl c1 ?_ | refine call1 rfl c2 ?_ | refine st5 ?_ | intro u)
    exact jd rfl rfl
   | some ab =>
    obtain ⟨a,b⟩:=ab
    rw [m] at c2
    unfold massV at c2
    repeat' (first | refine call1 rfl c1 ?_ | refine call1 rfl c2 ?_ | refine st5 ?_ | intro u)
    exact jd rfl rfl
 ·rw [g,Bool.false_and,← ja t4]
  repeat' (first | refine j8 ?_ | refine kl ?_)
  exact jd rfl rfl
set_option maxRecDepth 100000
set_option maxHeartbeats 16000000
def PrevP (l:List Pr) (i:Nat) (p:Option Go.Bag.Place):Prop:=(i=0∧p=none)∨∃ j q,i=j + 1∧l[j]? = some q∧p=some q.1
theorem Xm {l:List Pr} {i:Nat} {m:Pr} {rest:List Pr} (h:l.drop i=m::rest):PrevP l (i + 1) (some m.1):=by
 refine .inr ⟨i,m,rfl,?_,rfl⟩
 rw [← List.head?_drop,h]
 rfl
theorem X7 {l:List Pr} {j:Nat} {q:Pr} (h:l[j]? = some q):(l.map encPr)[(((j + 1:Nat):Int) - 1).toNat]? = some (encPr q):=by
 have:(((j + 1:Nat):Int) - 1).toNat=j:=by omega
 rw [this,List.getElem?_map,h]
 rfl
theorem jjf {K:KT} (c:CatS) (h:okCat2 c) (v:Go.Bag.Place) (hv:u8P v) (l:List Pr) (hl:inPs 999999 l) (hlen:l.length≤9223372036854775807) (v3 v4:Nat):∀ (rest:List Pr) (p:Option Go.Bag.Place) (i:Nat) (s:PS),l.drop i=rest→i≤l.length→PrevP l i p →
  s.t 2=.c (encPrs l)→s.t 3=.ptr 3 v3 0→s.bx 3=⟨v3,.var [.sl (c.dims.map encDim),.int .i64 c.m]⟩→s.t 4=.ptr 4 v4 0→s.bx 4=⟨v4,.var (encP v)⟩→s.t 13=.c (encPrs l)→s.t 14=.c (.int .i64 l.length)→s.t 15=.c (.int .i64 i) →
  (scanOk c v p rest=true→∀ s',K (.x 0) s')→(scanOk c v p rest=false→∀ s',s'.t 6=.c (.bool false)→K .r s')→wP (CP) (.loop b26_0) s K:=by
 intro rest
 induction rest with
 | nil =>
  intro p i s hd hi hp t2 t3 b3 t4 b4 t13 t14 t15 hx hr
  refine jf ?_
  have:=jm hd hi
  subst this
  rw [← ja t2,← ja t3,← jc b3,← ja t4,← jc b4,← ja t13,← ja t14,← ja t15]
  unfold b26_0
  repeat' (first | refine st0 ?_ | intro u)
  exact hx rfl _
 | cons q rest ih =>
  intro p i s hd hi hp t2 t3 b3 t4 b4 t13 t14 t15 hx hr
  refine jf ?_
  have he:(l.map encPr)[((i:Nat):Int).toNat]? = some (encPr q):=jp hd
  have hil:=jo hd
  have hn:=jg hd
  have hq:=hl q (List.mem_of_mem_drop (by rw [hd]; simp))
  have c1:=Vu c v q.1 h hv hq.1
  have c2:=Wr c.m q.2 (kN hq.2 (by omega))
  have ih':=fun s=>ih (some q.1) (i + 1) s hn (by omega) (Xm hd)
  have hsc:scanOk c v p (q::rest)=((aheadK p q.1 && (rightC c v q.1 && goodC c.m q.2)) && scanOk c v (some q.1) rest):=rfl
  rw [hsc] at hx hr
  generalize rightC c v q.1=g1 at *
  generalize goodC c.m q.2=g2 at *
  rw [← ja t2,← ja t3,← jc b3,← ja t4,← jc b4,← ja t13,← ja t14,← ja t15]
  rcases hp with ⟨rfl,rfl⟩ | ⟨j,q',rfl,hq',rfl⟩
  ·rw [show aheadK none q.1=true from rfl,Bool.true_and] at hx hr
   unfold encCat at c1
   unfold encPrs encPr encCell encC encP at *
   dsimp only [List.cons_append,List.nil_append] at *
   unfold b26_0
   cases g1 with
   | false =>
    repeat' (first | refine ji rfl rfl (by omega) he rfl ?_ | refine call3 rfl rfl rfl c1 ?_ | refine st3 ?_ | intro u)
    exact hr rfl _ (by rfl)
   | true =>
    cases g2 with
    | false =>
     repeat' (first | refine ji rfl rfl (by omega) he rfl ?_ | refine call3 rfl rfl rfl c1 ?_ | refine call2 rfl rfl c2 ?_ | refine st3 ?_ | intro u)
     exact hr rfl _ (by rfl)
    | true =>
     repeat' (first | refine ji rfl rfl (by omega) he rfl ?_ | refine call3 rfl rfl rfl c1 ?_ | refine call2 rfl rfl c2 ?_ | refine st6 ?_ | intro u)
     exact ih' _ (by rfl) (by rfl) (by rfl) (by rfl) (by rfl) (by rfl) (by rfl) (by rfl) (fun h'=>hx (by simpa using h')) (fun h'=>hr (by simpa using h'))
  ·have he2:=X7 hq'
   have hu':=(hl q' (List.mem_of_getElem? hq')).1
   have c3:=jf5 q'.1 q.1 hu' hq.1
   rw [show aheadK (some q'.1) q.1=decide (keyP q'.1 < keyP q.1) from rfl] at hx hr
   unfold encCat at c1
   unfold encPrs encPr encCell encC encP at *
   dsimp only [List.cons_append,List.nil_append] at *
   by_cases k1:keyP q'.1 < keyP q.1
   ·have k2:cmpI (keyP q'.1) (keyP q.1)=-1:=by unfold cmpI; rw [if_pos k1]
    rw [k2] at c3
    rw [decide_eq_true k1,Bool.true_and] at hx hr
    unfold b26_0
    cases g1 with
    | false =>
     repeat' (first | refine ji rfl rfl (by omega) he rfl ?_ | refine ji rfl rfl (by omega) he2 rfl ?_ | refine call2 rfl rfl c3 ?_ | refine call3 rfl rfl rfl c1 ?_ | refine st3 ?_ | intro u)
     exact hr rfl _ (by rfl)
    | true =>
     cases g2 with
     | false =>
      repeat' (first | refine ji rfl rfl (by omega) he rfl ?_ | refine ji rfl rfl (by omega) he2 rfl ?_ | refine call2 rfl rfl c3 ?_ | refine call3 rfl rfl rfl c1 ?_ | refine call2 rfl rfl c2 ?_ | refine st3 ?_ | intro u)
      exact hr rfl _ (by rfl)
     | true =>
      repeat' (first | refine ji rfl rfl (by omega) he rfl ?_ | refine ji rfl rfl (by omega) he2 rfl ?_ | refine call2 rfl rfl c3 ?_ | refine call3 rfl rfl rfl c1 ?_ | refine call2 rfl rfl c2 ?_ | refine st6 ?_ | intro u)
      exact ih' _ (by rfl) (by rfl) (by rfl) (by rfl) (by rfl) (by rfl) (by rfl) (by rfl) (fun h'=>hx (by simpa using h')) (fun h'=>hr (by simpa using h'))
   ·have k2:0≤cmpI (keyP q'.1) (keyP q.1):=by unfold cmpI; rw [if_neg k1]; split <;> omega
    rw [decide_eq_false k1,Bool.false_and,Bool.false_and] at hx hr
    generalize cmpI (keyP q'.1) (keyP q.1)=cm at *
    unfold b26_0
    repeat' (first | refine ji rfl rfl (by omega) he rfl ?_ | refine ji rfl rfl (by omega) he2 rfl ?_ | refine call2 rfl rfl c3 ?_ | refine st3 ?_ | intro u)
    exact hr rfl _ (by rfl)
theorem JJ (c:CatS) (v:Go.Bag.Place) (l:List Pr) (h:okCat2 c) (hv:u8P v) (hl:inPs 999999 l) (hlen:l.length≤9223372036854775807) :
  CP 26 [.c (.agg (encCat c)),.c (.agg (encP v)),.c (encPrs l)] (.c (.bool (goodS c v l))) []:=by
 have c1:=Vv c v h hv
 refine pcallF Tryz.func26 c26 rfl ?_
 have lp:=fun (K:Ex→PS→Prop) v3 v4 s=>jjf (K:=K) c h v hv l hl hlen v3 v4 l none 0 s rfl (by omega) (.inl ⟨rfl,rfl⟩)
 unfold goodS
 generalize rightC c v zeroP=g1 at *
 generalize scanOk c v none l=g2 at *
 unfold encPrs at *
 unfold encCat encP at *
 unfold p26
 cases g1 with
 | false =>
  repeat' (first | refine call2 rfl rfl c1 ?_ | refine st2 ?_ | intro u)
  exact jd rfl rfl
 | true =>
  rw [Bool.true_and]
  repeat' (first | refine call2 rfl rfl c1 ?_ | refine je rfl (List.length_map _) ?_ | refine st2 ?_ | intro u)
  refine lp _ _ _ _ (by rfl) (by rfl) (by rfl) (by rfl) (by rfl) (by rfl) (by rfl) (by rfl) (fun hf s'=>?_) (fun hf s' h6=>?_)
  ·subst hf
   repeat' (first | refine st0 ?_ | intro u)
   exact jd rfl rfl
  ·subst hf
   rw [← ja h6]
   repeat' (first | refine j8 ?_ | refine kl ?_)
   exact jd rfl rfl
/-! ### The document's -/
theorem jgh {K:KT} (c:CatS) (h:okCat2 c) (v:Go.Bag.Place) (hv:u8P v) (l:List Pr) (hl:inPs 999999 l) (hlen:l.length≤9223372036854775807) (v3 v4:Nat):∀ (rest:List Pr) (p:Option Go.Bag.Place) (i:Nat) (s:PS),l.drop i=rest→i≤l.length→PrevP l i p →
  s.t 2=.c (encPrs l)→s.t 3=.ptr 3 v3 0→s.bx 3=⟨v3,.var [.sl (c.dims.map encDim),.int .i64 c.m]⟩→s.t 4=.ptr 4 v4 0→s.bx 4=⟨v4,.var (encP v)⟩→s.t 7=.c (.int .i64 i) →
  (scanOk c v p rest=true→∀ s',K (.x 0) s')→(scanOk c v p rest=false→∀ s',s'.t 6=.c (.bool false)→K .r s')→wP (CP) (.loop b37_0) s K:=by
 intro rest
 induction rest with
 | nil =>
  intro p i s hd hi hp t2 t3 b3 t4 b4 t7 hx hr
  refine jf ?_
  have:=jm hd hi
  subst this
  rw [← ja t2,← ja t3,← jc b3,← ja t4,← jc b4,← ja t7]
  unfold encPrs
  unfold b37_0
  repeat' (first | refine je rfl (List.length_map _) ?_ | refine st0 ?_ | intro u)
  exact hx rfl _
 | cons q rest ih =>
  intro p i s hd hi hp t2 t3 b3 t4 b4 t7 hx hr
  refine jf ?_
  have he:(l.map encPr)[((i:Nat):Int).toNat]? = some (encPr q):=jp hd
  have hil:=jo hd
  have hn:=jg hd
  have hq:=hl q (List.mem_of_mem_drop (by rw [hd]; simp))
  have c1:=wz c v q.1 h.1 hv hq.1
  have c2:=wy c.m q.2 hq.2
  have ih':=fun s=>ih (some q.1) (i + 1) s hn (by omega) (Xm hd)
  have hsc:scanOk c v p (q::rest)=((aheadK p q.1 && (rightC c v q.1 && goodC c.m q.2)) && scanOk c v (some q.1) rest):=rfl
  rw [hsc] at hx hr
  generalize rightC c v q.1=g1 at *
  generalize goodC c.m q.2=g2 at *
  rw [← ja t2,← ja t3,← jc b3,← ja t4,← jc b4,← ja t7]
  rcases hp with ⟨rfl,rfl⟩ | ⟨j,q',rfl,hq',rfl⟩
  ·rw [show aheadK none q.1=true from rfl,Bool.true_and] at hx hr
   unfold encCat at c1
   unfold encPrs encPr encCell encC encP at *
   dsimp only [List.cons_append,List.nil_append] at *
   unfold b37_0
   cases g1 with
   | false =>
    repeat' (first | refine je rfl (List.length_map _) ?_ | refine ji rfl rfl (by omega) he rfl ?_ | refine call3 rfl rfl rfl c1 ?_ | refine st3 ?_ | intro u)
    exact hr rfl _ (by rfl)
   | true =>
    cases g2 with
    | false =>
     repeat' (first | refine je rfl (List.length_map _) ?_ | refine ji rfl rfl (by omega) he rfl ?_ | refine call3 rfl rfl rfl c1 ?_ | refine call2 rfl rfl c2 ?_ | refine st3 ?_ | intro u)
     exact hr rfl _ (by rfl)
    | true =>
     repeat' (first | refine je rfl (List.length_map _) ?_ | refine ji rfl rfl (by omega) he rfl ?_ | refine call3 rfl rfl rfl c1 ?_ | refine call2 rfl rfl c2 ?_ | refine st6 ?_ | intro u)
     exact ih' _ (by rfl) (by rfl) (by rfl) (by rfl) (by rfl) (by rfl) (fun h'=>hx (by simpa using h')) (fun h'=>hr (by simpa using h'))
  ·have he2:=X7 hq'
   have hu':=(hl q' (List.mem_of_getElem? hq')).1
   have c3:=wk q'.1 hu'
   have c4:=wk q.1 hq.1
   rw [show aheadK (some q'.1) q.1=decide (keyP q'.1 < keyP q.1) from rfl] at hx hr
   unfold encCat at c1
   generalize keyP q'.1=kq' at *
   generalize keyP q.1=kq at *
   unfold encPrs encPr encCell encC encP at *
   dsimp only [List.cons_append,List.nil_append] at *
   by_cases k1:kq' < kq
   ·rw [decide_eq_true k1,Bool.true_and] at hx hr
    unfold b37_0
    cases g1 with
    | false =>
     repeat' (first | refine je rfl (List.length_map _) ?_ | refine ji rfl rfl (by omega) he rfl ?_ | refine ji rfl rfl (by omega) he2 rfl ?_ | refine call1 rfl c3 ?_ | refine call1 rfl c4 ?_ | refine call3 rfl rfl rfl c1 ?_ | refine st3 ?_ | intro u)
     exact hr rfl _ (by rfl)
    | true =>
     cases g2 with
     | false =>
      repeat' (first | refine je rfl (List.length_map _) ?_ | refine ji rfl rfl (by omega) he rfl ?_ | refine ji rfl rfl (by omega) he2 rfl ?_ | refine call1 rfl c3 ?_ | refine call1 rfl c4 ?_ | refine call3 rfl rfl rfl c1 ?_ | refine call2 rfl rfl c2 ?_ | refine st3 ?_ | intro u)
      exact hr rfl _ (by rfl)
     | true =>
      repeat' (first | refine je rfl (List.length_map _) ?_ | refine ji rfl rfl (by omega) he rfl ?_ | refine ji rfl rfl (by omega) he2 rfl ?_ | refine call1 rfl c3 ?_ | refine call1 rfl c4 ?_ | refine call3 rfl rfl rfl c1 ?_ | refine call2 rfl rfl c2 ?_ | refine st6 ?_ | intro u)
      exact ih' _ (by rfl) (by rfl) (by rfl) (by rfl) (by rfl) (by rfl) (fun h'=>hx (by simpa using h')) (fun h'=>hr (by simpa using h'))
   ·rw [decide_eq_false k1,Bool.false_and,Bool.false_and] at hx hr
    unfold b37_0
    repeat' (first | refine je rfl (List.length_map _) ?_ | refine ji rfl rfl (by omega) he rfl ?_ | refine ji rfl rfl (by omega) he2 rfl ?_ | refine call1 rfl c3 ?_ | refine call1 rfl c4 ?_ | refine st3 ?_ | intro u)
    exact hr rfl _ (by rfl)
theorem Xn (c:CatS) (v:Go.Bag.Place) (l:List Pr) (h:okCat2 c) (hv:u8P v) (hl:inPs 999999 l) (hlen:l.length≤9223372036854775807) :
  CP 37 [.c (.agg (encCat c)),.c (.agg (encP v)),.c (encPrs l)] (.c (.bool (goodS c v l))) []:=by
 have c1:=vy c v h.1 hv
 refine pcallF Tryz.func37 c37 rfl ?_
 have lp:=fun (K:Ex→PS→Prop) v3 v4 s=>jgh (K:=K) c h v hv l hl hlen v3 v4 l none 0 s rfl (by omega) (.inl ⟨rfl,rfl⟩)
 unfold goodS
 generalize rightC c v zeroP=g1 at *
 generalize scanOk c v none l=g2 at *
 unfold encPrs at *
 unfold encCat encP at *
 unfold p37
 cases g1 with
 | false =>
  repeat' (first | refine call2 rfl rfl c1 ?_ | refine st2 ?_ | intro u)
  exact jd rfl rfl
 | true =>
  rw [Bool.true_and]
  repeat' (first | refine call2 rfl rfl c1 ?_ | refine st2 ?_ | intro u)
  refine lp _ _ _ _ (by rfl) (by rfl) (by rfl) (by rfl) (by rfl) (by rfl) (fun hf s'=>?_) (fun hf s' h6=>?_)
  ·subst hf
   repeat' (first | refine st0 ?_ | intro u)
   exact jd rfl rfl
  ·subst hf
   rw [← ja h6]
   repeat' (first | refine j8 ?_ | refine kl ?_)
   exact jd rfl rfl
end Go.Proofs.YtnpncbplhdnonaaGreat
/-
 slices.SortedFunc(maps.Keys(m),key),AT A MAP WHOSE KEYS ARE PLACES: its keys,rising. My own.
-/
namespace Go.Proofs.YtnpncbplhdnonaaGreat
open Go.RowKit Go.Maps Go.Sort Go.Shelf Go.Pl Go.Bag
abbrev PU:Type:={p:Go.Bag.Place // u8P p}
theorem jgi:u8P zeroP:=by intro x hx; simp [placeL,zeroP] at hx; omega
instance:Inhabited PU:=⟨⟨zeroP,jgi⟩⟩
def encPU (x:PU):List Value:=encPV x.1
def cfPU (x y:PU):Int:=cmpI (keyP x.1) (keyP y.1)
theorem wE {p q:Go.Bag.Place} (hp:u8P p) (hq:u8P q) (h:keyP p=keyP q):p=q:=by
 obtain ⟨a0,a1,a2,a3⟩:=u8P4 hp
 obtain ⟨b0,b1,b2,b3⟩:=u8P4 hq
 obtain ⟨p0,p1,p2,p3⟩:=p
 obtain ⟨q0,q1,q2,q3⟩:=q
 simp only [keyP] at *
 have e3:p3=q3:=by omega
 have e2:p2=q2:=by omega
 have e1:p1=q1:=by omega
 have e0:p0=q0:=by omega
 rw [e0,e1,e2,e3]
theorem ltPU (x y:PU):ltOf cfPU x y=decide (keyP x.1 < keyP y.1):=by
 unfold ltOf cfPU cmpI
 by_cases h1:keyP x.1 < keyP y.1
 ·simp [h1]
 ·by_cases h2:keyP y.1 < keyP x.1 <;> simp [h1,h2]
theorem swoPU:SWO (ltOf cfPU) where
 irrefl x:=by rw [ltPU]; simp
 trans x y z h1 h2:=by rw [ltPU] at *; simp at *; omega
 ntrans x y z h1 h2:=by rw [ltPU] at *; simp at *; omega
theorem totPU (x y:PU) (h1:ltOf cfPU x y=false) (h2:ltOf cfPU y x=false):x=y:=by
 rw [ltPU] at h1 h2
 simp at h1 h2
 exact Subtype.ext (wE x.2 y.2 (by omega))
theorem X8:∀ (ss:List PU) (t:Nat),t < ss.length * 4→(flatP (ss.map (·.1)))[t]? = some ((encPU (ss.toArray[t / 4]!))[t % 4]!)
 | [],t,h=>by simp at h
 | x::ss,t,h=>by
  by_cases ht:t < 4
  ·have e:(flatP ((x::ss).map (·.1)))=encPV x.1++flatP (ss.map (·.1)):=by simp [flatP]
   rw [e,List.getElem?_append_left (by simp [encPV]; omega),show t / 4=0 by omega,show t % 4=t by omega]
   simp only [encPU]
   have:(x::ss).toArray[0]! = x:=by simp
   rw [this]
   have hl:t < (encPV x.1).length:=by simp [encPV]; omega
   rw [List.getElem?_eq_getElem hl,getElem!_pos (encPV x.1) t hl]
  ·have e:(flatP ((x::ss).map (·.1)))=encPV x.1++flatP (ss.map (·.1)):=by simp [flatP]
   have hl:(encPV x.1).length=4:=by simp [encPV]
   simp only [List.length_cons] at h
   rw [e,List.getElem?_append_right (by omega),hl,X8 ss (t - 4) (by omega),show (t - 4) % 4=t % 4 by omega]
   have h2:t / 4=(t - 4) / 4 + 1:=by omega
   rw [h2]
   have:(x::ss).toArray[(t - 4) / 4 + 1]! = ss.toArray[(t - 4) / 4]!:=by simp
   rw [this]
theorem holdsPU {W:World} {g:Nat} {cur:Array Value} {e:TypeId} {ss:List PU} (hb:W.heap[g]? = some (.cells cur e (0,0))) (ht:cur.toList.take (ss.length * 4)=flatP (ss.map (·.1))):HoldsK encPU 4 W g 0 ss.toArray:=by
 intro j hj
 have hj':j < ss.length * 4:=by simpa using hj
 refine ⟨?_,by simp [World.frozen?,hb]⟩
 have h1:(cur.toList.take (ss.length * 4))[j]? = (flatP (ss.map (·.1)))[j]?:=by rw [ht]
 rw [List.getElem?_take_of_lt hj',X8 ss j hj',Array.getElem?_toList] at h1
 simp only [World.cell?,hb,Nat.zero_add,h1]
 rw [get_flatK _ _ _ _ (by simpa using hj')]
 rfl
theorem ZN {w:World} {O:Nat→Prop} {g cap:Nat} {ss:List PU} (hg:g < w.heap.size) (hO:¬ O g) (hcap:ss.length≤cap) (h:HoldsK encPU 4 w g 0 ss.toArray):V w O (.slice (some ⟨g,0,none⟩) ss.length cap) (.sl (ss.map fun x=>encP x.1)):=by
 have hlen:(ss.map fun x=>encP x.1).length=ss.length:=List.length_map _
 have:=V.sl (w:=w) (N:=O) g 0 cap 4 (ss.map fun x=>encP x.1) (fun i j=>(encPU (ss.toArray[i]!))[j]!) hg hO (fun e he=>by
   obtain ⟨x,_,rfl⟩:=List.mem_map.1 he
   rfl) (by rw [hlen]; exact hcap) (fun e he c hc=>by
   obtain ⟨x,_,rfl⟩:=List.mem_map.1 he
   simp [encP] at hc
   rcases hc with rfl | rfl | rfl | rfl <;> rfl) (fun i j hi hj=>by
   have hi':i < ss.length:=by simpa using hi
   have hj':j < 4:=by simpa [encP] using hj
   have:=(h.cell (i:=i) (c:=j) (by simpa using hi') hj').1
   rw [show 0 + (i * 4 + j)=0 + i * 4 + j by omega]
   exact this) (fun i j hi hj=>by
   have hi':i < ss.length:=by simpa using hi
   have hj':j < 4:=by simpa [encP] using hj
   have e1:ss.toArray[i]! = ss[i]:=by simp [hi']
   simp only [e1,encPU,encPV,List.getElem_map,encP]
   match j,hj' with
   | 0,_=>exact V.int _ _
   | 1,_=>exact V.int _ _
   | 2,_=>exact V.int _ _
   | 3,_=>exact V.int _ _)
 rwa [hlen] at this
theorem XN {W:World} {g n:Nat} {os:Array Obj} (d:Array PU):W.grownBy (sortWorldK encPU 4 W g 0 n d os) (some g):=by
 unfold sortWorldK putRowK
 refine ⟨rfl,rfl,rfl,by simp [putRow,mapBlock,Sort.ahead],fun k hk hne=>?_⟩
 rw [heap_grow_old _ _ (by simpa [putRow,mapBlock,Sort.ahead] using hk)]
 have:g≠k:=fun e=>hne (by rw [e])
 simp [putRow,mapBlock,Sort.ahead,Array.getElem?_modify,this]
theorem jd7 {ss:List PU} {ps L:List Go.Bag.Place} (h1:(ss.map (·.1)).Perm ps) (h2:L.Perm ps) (h3:L.Pairwise fun a b=>keyP a < keyP b):(ss.mergeSort fun x y=>!(ltOf cfPU) y x).map (·.1)=L:=by
 have hperm:((ss.mergeSort fun x y=>!(ltOf cfPU) y x).map (·.1)).Perm L:=((List.mergeSort_perm _ _).map _).trans (h1.trans h2.symm)
 have hs:(ss.mergeSort fun x y=>!(ltOf cfPU) y x).Pairwise fun x y=>(!(ltOf cfPU) y x)=true:=List.pairwise_mergeSort (fun a b c h1 h2=>by
  rw [ltPU] at *; simp at *; omega) (fun a b=>by rw [ltPU,ltPU]; simp; omega) _
 refine List.Perm.eq_of_pairwise (le:=fun a b=>keyP a≤keyP b) (fun a b ha hb h1 h2=>?_) ?_ ?_ hperm
 ·obtain ⟨x,_,rfl⟩:=List.mem_map.1 ha
  have hb':=hperm.symm.subset hb
  obtain ⟨y,_,rfl⟩:=List.mem_map.1 hb'
  exact wE x.2 y.2 (by omega)
 ·refine List.Pairwise.map _ (fun x y h=>?_) hs
  rw [ltPU] at h
  simp at h
  exact h
 ·exact h3.imp fun h=>by omega
theorem jjg {w:World} {O:Nat→Prop} {vs:Array Value} (hn:vs.size=1):∃ v,vs=#[v]:=⟨vs[0]'(by omega),by
  apply Array.ext
  ·simpa using hn
  ·intro i h1 h2
   obtain rfl:i=0:=by simp at h2; omega
   rfl⟩
theorem jgj {vs:Array Value} (hn:vs.size=2):∃ u v,vs=#[u,v]:=⟨vs[0]'(by omega),vs[1]'(by omega),by
  apply Array.ext
  ·simpa using hn
  ·intro i h1 h2
   have:i=0∨i=1:=by simp at h2; omega
   rcases this with rfl | rfl <;> rfl⟩
theorem ja5 (es:List (CV × CV)):CP 91 [.c (.map es)] (.c (.clo 133 [[.map es]])) []:=by
 refine VK (cs:=[.map es]) (jam Tryz.func91 (by kernel_rfl)) fun w O vs hn hV hO=>?_
 have hv:=hV 0 (by simp at hn; omega) (by simp)
 obtain ⟨v,rfl⟩:=jjg (w:=w) (O:=O) (vs:=vs) (by simpa using hn)
 have hv:V w O v (.map es):=hv
 obtain ⟨b,rfl⟩:∃ b,v=.map (some b):=by
  generalize hc:CV.map es=c at hv
  cases hv <;> cases hc
  exact ⟨_,rfl⟩
 refine calls_of_wp Tryz.func91 rfl ?_
 simp only [Tryz.ntmps91,List.size_toArray,List.length_cons,List.length_nil,Nat.reduceAdd,Nat.reduceSub,Array.replicate_succ,Array.replicate_zero,List.push_toArray,List.append_toArray,List.nil_append,List.cons_append]
 go_wp2
 go_ret
 refine ⟨_,rfl,?_,(Below.refl _ w).alloc (Nat.le_refl _) _⟩
 have hcell:(w.alloc (.cells #[.map (some b)] 142)).cell? ⟨w.heap.size,0,none⟩=some (.map (some b)):=by
  have h:=World.alloc_heap_new w (.cells #[.map (some b)] 142)
  simp only [World.cell?,h]
  rfl
 refine jkf rfl fun i h1 h2=>?_
 obtain rfl:i=0:=by simp at h2; omega
 refine ⟨w.heap.size,0,rfl,by simp,fun h=>by have:=hO _ h; omega,⟨fun c hc=>by cases List.mem_singleton.1 hc; rfl,fun j hj=>?_⟩⟩
 obtain rfl:j=0:=by simp at hj; omega
 exact ⟨_,hcell,hv.ext ⟨by simp,fun b hb _=>Below.heap_alloc _ _ b hb,fun b _ h=>h⟩⟩
theorem jgk {w:World} {O:Nat→Prop} {v:Value} {p:Go.Bag.Place} (h:V w O v (.agg (encP p))):v=encPA p:=by
 generalize hc:CV.agg (encP p)=c at h
 cases h <;> cases hc
 rename_i vs hl h1 h
 have hl':vs.size=4:=hl
 have h0:=h 0 (by omega) (by simp [encP])
 have h1':=h 1 (by omega) (by simp [encP])
 have h2:=h 2 (by omega) (by simp [encP])
 have h3:=h 3 (by omega) (by simp [encP])
 have e0:=V.int_inv h0
 have e1:=V.int_inv h1'
 have e2:=V.int_inv h2
 have e3:=V.int_inv h3
 unfold encPA encPV
 congr 1
 apply Array.ext
 ·simpa using hl'
 ·intro i hi1 hi2
  have:i=0∨i=1∨i=2∨i=3:=by omega
  rcases this with rfl | rfl | rfl | rfl
  ·exact e0
  ·exact e1
  ·exact e2
  ·exact e3
theorem jks:∀ {ss:List Go.Bag.Place},(∀ p∈ss,u8P p)→∃ us:List PU,us.map (·.1)=ss
 | [],_=>⟨[],rfl⟩
 | p::ss,h=>by
  obtain ⟨us,hus⟩:=jks (ss:=ss) fun q hq=>h q (by simp [hq])
  exact ⟨⟨p,h p (by simp)⟩::us,by rw [List.map_cons,hus]⟩
def IsPerm (ps ss:List Go.Bag.Place):Prop:=ss.Perm ps
def SortsP (F:Fence) (m:Nat):Prop :=
 (∀ (blk cap:Nat) (us:List PU) (W:World),HoldsK encPU 4 W blk 0 us.toArray→blk < W.heap.size→us.length < 4611686018427387904 →
  CallsIn F m Tryz.prog 132 #[.slice (some ⟨blk,0,none⟩) us.length cap,.func (.func 46) #[] #[]] W fun e w'=>e=.returned (.tuple #[])∧∃ n os,w'=sortWorldK encPU 4 W blk 0 n (us.mergeSort fun x y=>!(ltOf cfPU) y x).toArray os) ∧
 (∀ (p:Option Addr) (cap:Nat) (fv:Value) (W:World),CallsIn F m Tryz.prog 132 #[.slice p 0 cap,fv] W fun e w'=>e=.returned (.tuple #[])∧w'=W)
set_option maxRecDepth 100000 in
theorem ZO (m:Nat):SortsP Fence.wide m:=by
 refine ⟨fun blk cap us W hH hb hl=>?_,fun p cap fv W=>?_⟩
 ·have cS:=AnyQ.slices_SortFunc_total Tryz.sortF 4 (fun w=>by rfl) (fun w=>by rfl) encPU (fun _=>rfl) (fun x v hv=>by simp [encPU,encPV] at hv; rcases hv with rfl | rfl | rfl | rfl <;> rfl) cfPU swoPU 46 #[] blk 0 cap us.toArray W
   (enters_of Tryz.func46 (by kernel_rfl) rfl) (fun m os dk _ x y=>jis x.1 y.1 x.2 y.2 _) hH hb (by simpa using hl) totPU
  exact callsIn_wide.2 cS
 ·exact callsIn_wide.2 (AnyF.slices_SortFunc_none Tryz.sortF p cap fv W)
set_option maxRecDepth 100000 in
set_option maxHeartbeats 4000000 in
theorem jd8 (F:Fence) (n:Nat) (h6:F.fn 90) (h8:F.fn 131) (h9:F.fn 132) (h11:F.fn 155) (hro:F.round=none) (hn:4≤n) (hsort:SortsP F (n - 1)) (g:Nat) (lb:Array Value) (hFg:F.fn g) (eg:∀ args w,(callFunc g args).run Tryz.prog w=.ok (.enter g args) w)
  (ps L:List Go.Bag.Place) (hu:∀ p∈ps,u8P p) (hL:L.Perm ps) (hLs:L.Pairwise fun a b=>keyP a < keyP b) (hlen:ps.length≤1000000000) (w:World) (O:Nat→Prop) (hO:∀ b,O b→b < w.heap.size)
  (hseq:SeqP F (n - 1 - 1 - 1) Tryz.prog g lb (IsPerm ps) ps.length w) :
  CallsIn F n Tryz.prog 90 #[.func (.func g) #[] lb,.func (.func 46) #[] #[]] w fun e w'=>∃ v,e=.returned v∧V w' O v (.sl (L.map encP))∧Below w.heap.size w w':=by
 have h1:1≤n:=by omega
 have hm:maxLen=9223372036854775807:=rfl
 refine callsIn_of_wp Tryz.func90 rfl h6 ?_ hro
 simp only [Tryz.ntmps90,List.size_toArray,List.length_cons,List.length_nil,Nat.reduceAdd,Nat.reduceSub,Array.replicate_succ,Array.replicate_zero,List.push_toArray,List.append_toArray,List.nil_append,List.cons_append]
 gi_wp2_with (gi_at_call 131; refine (collectP F (n - 1) h8 h11 hro (by omega) g lb hFg eg _ ps.length (by omega) (by omega) _ hseq).mono ?_; rintro e W ⟨v,ss,rfl,hS,hrow,hnil,hb⟩)
 have hS:ss.Perm ps:=hS
 obtain ⟨us,rfl⟩:=jks fun p hp=>hu p (hS.subset hp)
 have hul:us.length=ps.length:=by have:=hS.length_eq; simpa using this
 have hsorted:=jd7 hS hL hLs
 rcases hrow.2 with ⟨rfl,hz⟩ | ⟨gb,cap,cur,rfl,hbase,hgb,r1,r2,r3,r4⟩
 ·have hus:us=[]:=List.eq_nil_of_length_eq_zero ((List.length_map _).symm.trans hz)
  subst hus
  have hLn:L=[]:=by rw [← hsorted]; simp
  subst hLn
  gi_wp2_with (gi_at_call 132; refine (hsort.2 none 0 _ W).mono ?_; rintro e w' ⟨rfl,rfl⟩)
  go_ret
  exact ⟨_,rfl,.nil,hb⟩
 ·have hlm:(us.map (·.1)).length=us.length:=List.length_map _
  rw [hlm] at r1 r4
  have hH:=holdsPU hgb r4
  have hgl:gb < W.heap.size:=(Array.getElem?_eq_some_iff.1 hgb).1
  have cS:=hsort.1 gb cap us W hH hgl (by omega)
  rw [hlm]
  gi_wp2_with (gi_at_call 132; refine cS.mono ?_; rintro e w' ⟨rfl,nn,os,rfl⟩)
  go_ret
  have hsl:(us.mergeSort fun x y=>!(ltOf cfPU) y x).length=us.length:=List.length_mergeSort _
  generalize (us.mergeSort fun x y=>!(ltOf cfPU) y x)=zs at hsorted hsl ⊢
  have hSW:SWK encPU 4 W gb 0 zs.toArray (sortWorldK encPU 4 W gb 0 nn zs.toArray os):=⟨nn,os,rfl⟩
  have hHz:=hSW.holds hgl hH (by simp [hsl])
  have hVz:=ZN (O:=O) (cap:=cap) (hSW.lt hgl) (fun h=>by have:=hO _ h; omega) (by omega) hHz
  refine ⟨_,rfl,?_,hb.grown (XN _) hb.size (fun j hj=>by cases hj; exact hbase)⟩
  have hmm:zs.map (fun x=>encP x.1)=L.map encP:=by rw [← hsorted,List.map_map]; rfl
  rw [hsl,hmm,hul] at hVz
  exact hVz
def ivP (cs:Array Value) (i:Nat):Int:=match cs[i]? with | some (.int _ n)=>n | _=>0
def decP:Value→Go.Bag.Place
 | .agg cs=>⟨ivP cs 0,ivP cs 1,ivP cs 2,ivP cs 3⟩
 | _=>zeroP
theorem ZP (p:Go.Bag.Place):decP (encPA p)=p:=rfl
theorem jmu {w:World} {N:Nat→Prop} {sv:Value} {es:List (CV × CV)} {c:CV} (hc:CV.map es=c) (h:V w N sv c):∃ (b:Nat) (arr:Array MapEntry) (clock:Nat),sv=.map (some b)∧b < w.heap.size∧¬ N b∧w.heap[b]? = some (.map arr clock)∧(∀ e∈arr.toList,e.born < clock) ∧
  arr.toList.Pairwise (fun e f=>e.born≠f.born)∧arr.size=es.length∧∀ (i:Nat) (h1:i < arr.size) (h2:i < es.length),V w N arr[i].key es[i].1:=by
 cases h <;> cases hc
 rename_i b arr clock h1 h2 h3 h4 h5 h6 h7 h8
 exact ⟨b,arr,clock,rfl,h1,h2,h3,h4,h5,h6,h7⟩
theorem YL (es:List (CV × CV)) (ps L:List Go.Bag.Place) (hes:es.map (·.1)=ps.map fun p=>CV.agg (encP p)) (hu:∀ p∈ps,u8P p) (hL:L.Perm ps) (hLs:L.Pairwise fun a b=>keyP a < keyP b) (hlen:ps.length≤1000000000) :
  CP 90 [.c (.clo 133 [[.map es]]),.c (.fn (.func 46) [])] (.c (.sl (L.map encP))) []:=by
 refine VK (cs:=[.clo 133 [[.map es]],.fn (.func 46) []]) (jam Tryz.func90 (by kernel_rfl)) fun w O vs hn hV hO=>?_
 have hn2:vs.size=2:=by simpa using hn
 have hv0:=hV 0 (by omega) (by simp)
 have hv1:=hV 1 (by omega) (by simp)
 obtain ⟨u,v,rfl⟩:=jgj hn2
 have hv0:V w O u (.clo 133 [[.map es]]):=hv0
 have hv1:V w O v (.fn (.func 46) []):=hv1
 obtain rfl:=jmn hv1
 obtain ⟨vs,rfl,hvl,hvR⟩:=jkg hv0
 obtain ⟨b,off,hb0,hb,hN,hcs⟩:=hvR 0 (by rw [hvl]; simp) (by simp) (fun _=>none) (fun _=>⟨0,.dead⟩)
 obtain ⟨sv,hr,h⟩:=hcs.2 0 (by simp)
 have hr:w.cell? ⟨b,off,none⟩=some sv:=hr
 have h:V w O sv (.map es):=h
 obtain rfl:vs=#[.pointer (some ⟨b,off,none⟩)]:=by
  apply Array.ext
  ·simpa using hvl
  ·intro i h1 h2
   obtain rfl:i=0:=by simp at h2; omega
   exact hb0
 generalize hc:CV.map es=c at h
 obtain ⟨bm,arr,clock,rfl,hbm,hNm,hrm,hborn,hdist,hlm,hk⟩:=jmu hc h
 have hlen':arr.size=ps.length:=by
  have:=congrArg List.length hes
  simp at this
  omega
 have hnd:(arr.toList.map (·.born)).Nodup:=List.Pairwise.map _ (fun x y hxy=>hxy) hdist
 -- which place an entry's key is
 have hkey:∀ (i:Nat) (hi:i < arr.size),arr[i].key=encPA (ps[i]'(by omega)):=by
  intro i hi
  have h2:i < es.length:=by omega
  have e1:es[i].1=CV.agg (encP (ps[i]'(by omega))):=by
   have e:=congrArg (fun l=>l[i]?) hes
   simp only [List.getElem?_map,List.getElem?_eq_getElem h2,List.getElem?_eq_getElem (show i < ps.length by omega),Option.map_some,Option.some.injEq] at e
   exact e
  have:=hk i hi h2
  rw [e1] at this
  exact jgk this
 have hmem:∀ e∈arr.toList,e.key=encPA (decP e.key):=fun e he=>by
  obtain ⟨i,hi,rfl⟩:=List.mem_iff_getElem.mp he
  have hi':i < arr.size:=by simpa using hi
  rw [Array.getElem_toList,hkey i hi',ZP]
 have hmap:arr.toList.map (fun e=>decP e.key)=ps:=by
  apply List.ext_getElem
  ·simpa using hlen'
  ·intro i h1 h2
   have hi':i < arr.size:=by omega
   rw [List.getElem_map,Array.getElem_toList,hkey i hi',ZP]
 have hseq:=jdz Fence.wide 1 trivial rfl (Nat.le_refl _) b off bm clock arr (fun e=>decP e.key) hmem hborn hnd w hb hbm hr hrm
 rw [hmap,hlen'] at hseq
 exact (callsIn_wide (n:=4)).1 (jd8 Fence.wide 4 trivial trivial trivial trivial rfl (Nat.le_refl _) (ZO _) _ _ trivial (enters_of Tryz.func133 (by kernel_rfl) rfl) ps L hu hL hLs hlen w O hO hseq)
end Go.Proofs.YtnpncbplhdnonaaGreat
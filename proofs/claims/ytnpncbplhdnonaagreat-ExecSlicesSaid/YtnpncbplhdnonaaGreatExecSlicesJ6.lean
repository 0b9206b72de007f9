/- Part of the proof of ExecSlices: lemmas. -/
import Derived.Test.YtnpncbplhdnonaaGreatExecSlicesJ5
set_option linter.unusedVariables false
set_option linter.unusedSimpArgs false
/-
 THE DELTAS OF CHANGES,PLAIN: joined,they part the cell of the rows that were from that of the rows that are. My own work.
-/
namespace Go.Bag
open Go.Pl
set_option maxRecDepth 100000
/-! ### Masses -/
def abS:List Int→Int
 | []=>0
 | a::l=>ab a + abS l
theorem J0:∀ l:List Int,0≤abS l
 | []=>by simp [abS]
 | a::l=>by have:=jf4 a; have:=J0 l; simp only [abS]; omega
theorem XD:∀ a b:List Int,abS (a++b)=abS a + abS b
 | [],b=>by simp [abS]
 | x::a,b=>by simp only [List.cons_append,abS,XD a b]; omega
theorem Z2 {a b:List Int} (h:a.Perm b):abS a=abS b:=by
 induction h with
 | nil=>rfl
 | cons x _ ih=>simp only [abS,ih]
 | swap x y l=>simp only [abS]; omega
 | trans _ _ ih1 ih2=>omega
theorem YV:∀ l:List Int,-abS l≤sumI l∧sumI l≤abS l
 | []=>by simp [abS,sumI]
 | a::l=>by
  have:=YV l
  simp only [abS,sumI]
  unfold ab
  split <;> omega
def fine (l:List RowS):Prop:=abS (l.map (·.m0))≤most∧abS (l.map (·.m1))≤most
theorem Yd:∀ (l:List RowS) (a b:Int),(massS a b l).isSome=true↔a + abS (l.map (·.m0))≤most∧b + abS (l.map (·.m1))≤most∨(l=[])
 | [],a,b=>by simp [massS]
 | r::l,a,b=>by
  have h0:=J0 (l.map (·.m0))
  have h1:=J0 (l.map (·.m1))
  simp only [massS,List.map_cons,abS,reduceCtorEq,or_false]
  split
  ·rename_i h
   rw [Yd l]
   constructor
   ·rintro (h' | h')
    ·omega
    ·subst h'; simp only [List.map_nil,abS]; omega
   ·intro h'; left; omega
  ·rename_i h
   constructor
   ·intro h'; cases h'
   ·intro h'; exact absurd (show ab r.m0≤most - a∧ab r.m1≤most - b by omega) h
theorem jjz {l:List RowS} (h:(massS 0 0 l).isSome=true):fine l:=by
 rcases (Yd l 0 0).mp h with h | h
 ·exact ⟨by omega,by omega⟩
 ·subst h; simp [fine,abS,most]
theorem Ye {a b:List RowS} (h:a.Perm b) (hf:fine a):fine b:=by
 have h0:=Z2 (h.map (·.m0))
 have h1:=Z2 (h.map (·.m1))
 obtain ⟨f0,f1⟩:=hf
 exact ⟨by rw [← h0]; exact f0,by rw [← h1]; exact f1⟩
theorem Z3 {l:List RowS} (h:fine l):(-most≤sumI (l.map (·.m0))∧sumI (l.map (·.m0))≤most)∧(-most≤sumI (l.map (·.m1))∧sumI (l.map (·.m1))≤most):=by
 have h0:=YV (l.map (·.m0)); have h1:=YV (l.map (·.m1))
 obtain ⟨f0,f1⟩:=h
 exact ⟨by omega,by omega⟩
/-! ### The cell of rows, or none -/
theorem jcz {m:Int} (hm:1≤m∧m≤2) {L:List RowS} (hl:L.length≤1000) (hf:fine L) :
  mayC m (ofC m L).1 (ofC m L).2=true∧(ofC m L).1.n=L.length∧(∀ v,cnt (ofC m L).1.b0 v=num (L.map (·.m0)) v)∧(m=2→∀ v,cnt (ofC m L).1.b1 v=num (L.map (·.m1)) v)∧(ofC m L).2=decide ((L.length:Int)≠0):=by
 obtain ⟨s0,s1⟩:=Z3 hf
 unfold most at s0 s1
 by_cases hL:L=[]
 ·subst hL
  have e:ofC m []=(zeroC,false):=by simp [ofC]
  rw [e]
  exact ⟨by simp [mayC],rfl,fun v=>rfl,fun _ v=>rfl,by simp⟩
 ·have e:ofC m L=(⟨L.length,sumI (L.map (·.m0)),if m=2 then sumI (L.map (·.m1)) else 0,ofL (L.map (·.m0)),if m=2 then ofL (L.map (·.m1)) else []⟩,true):=by
   unfold ofC
   rw [if_pos ⟨hm,hL,⟨by omega,by omega⟩,fun _=>⟨by omega,by omega⟩⟩]
  have hpos:1≤L.length:=by
   cases L with
   | nil=>exact absurd rfl hL
   | cons x l=>simp
  have g:∀ f:RowS→Int,gM (ofL (L.map f)) (sumI (L.map f)) L.length=true:=fun f=>by
   have hf:=jJ (L.map f)
   exact kg.mpr ⟨vS (by simp; omega),wx _,by rw [hf.2.2.2.1]; simp⟩
  rw [e]
  refine ⟨?_,rfl,fun v=>(jJ _).2.2.1 v,fun h2 v=>?_,?_⟩
  ·simp only [mayC,if_true]
   refine jq.mpr ⟨hm,⟨by show 1≤(L.length:Int); omega,by show (L.length:Int)≤1099511627776; omega⟩,g _,?_⟩
   by_cases h2:m=2
   ·simp only [h2,if_true]; exact g _
   ·simp only [h2,if_false]; exact ⟨trivial,trivial⟩
  ·simp only [h2,if_true]; exact (jJ _).2.2.1 v
  ·simp; omega
structure Parts (m:Int) (A L:List RowS) (d:Delta):Prop where
 g:goodD m d=true
 n:d.n=L.length - A.length
 c0:∀ v,cnt d.i0 v - cnt d.o0 v=num (L.map (·.m0)) v - num (A.map (·.m0)) v
 c1:m=2→∀ v,cnt d.i1 v - cnt d.o1 v=num (L.map (·.m1)) v - num (A.map (·.m1)) v
section
variable {m : Int} {A L : List RowS} {d : Delta}
theorem Wh {a b:List Run} (ga:good a=true) (gb:good b=true) (h:apartL a b=true) (v:Int):(cnt a v=0∧0≤cnt b v)∨(cnt b v=0∧0≤cnt a v):=by
 have:=wB ga v; have:=wB gb v
 rcases (ja4 ga gb).mp h v with h | h
 ·exact .inl ⟨h,by omega⟩
 ·exact .inr ⟨h,by omega⟩
theorem XE {i o x y:List Run} (gi:good i=true) (go:good o=true) (gx:good x=true) (gy:good y=true) (hap:apartL i o=true) (h:∀ v,cnt i v - cnt o v=cnt y v - cnt x v) :
  swap x o i=(y,true)∧sum i≤sum y∧sum o≤sum x∧wsum x + wsum i=wsum y + wsum o:=by
 have hs:sub o x:=fun v=>by
  have:=h v; have:=wB gy v; have:=wB gx v
  rcases Wh gi go hap v with k | k <;> omega
 have hs2:sub i y:=fun v=>by
  have:=h v; have:=wB gy v; have:=wB gx v
  rcases Wh gi go hap v with k | k <;> omega
 obtain ⟨p,hp,p1,p2,p3⟩:=V7 gx go hs
 obtain ⟨q,hq,q1,q2,q3⟩:=V7 gy gi hs2
 have hpn:=js p2
 have hqn:=js q2
 have t1:=Xi (a:=p) (b:=o) (c:=x) (d:=[]) fun v=>by rw [p3]; simp [cnt]
 have t2:=Xi (a:=q) (b:=i) (c:=y) (d:=[]) fun v=>by rw [q3]; simp [cnt]
 have t3:=Xi (a:=p) (b:=i) (c:=y) (d:=[]) fun v=>by rw [p3]; have:=h v; simp only [cnt]; omega
 have t4:=Xi (a:=x) (b:=i) (c:=y) (d:=o) fun v=>by have:=h v; omega
 simp only [sum,wsum] at t1 t2 t3
 have gp:good p=true:=jA.mpr ⟨p1,p2,by have:=(jA.mp gx).2.2; have:=js (jA.mp go).2.1; omega⟩
 obtain ⟨z,hz,z1,z2,z3⟩:=wW gp gi (by have:=(jA.mp gy).2.2; omega)
 have:z=y:=jgc z1 gy fun v=>by rw [z3,p3]; have:=h v; omega
 subst this
 refine ⟨?_,by omega,by omega,t4.2⟩
 unfold swap
 rw [hp]
 exact hz
theorem bags (hm:1≤m∧m≤2) (hA:A.length≤1000) (hL:L.length≤1000) (fA:fine A) (fL:fine L) (h:Parts m A L d) :
  (swap (ofC m A).1.b0 d.o0 d.i0=((ofC m L).1.b0,true)∧sum d.i0≤L.length∧sum d.o0≤A.length∧(ofC m A).1.s0 + d.s0=(ofC m L).1.s0) ∧
  (m=2→swap (ofC m A).1.b1 d.o1 d.i1=((ofC m L).1.b1,true)∧sum d.i1≤L.length∧sum d.o1≤A.length∧(ofC m A).1.s1 + d.s1=(ofC m L).1.s1):=by
 obtain ⟨a1,a2,a3,a4,a5⟩:=jcz hm hA fA
 obtain ⟨l1,l2,l3,l4,l5⟩:=jcz hm hL fL
 obtain ⟨p0,p1,_⟩:=jcr a1
 obtain ⟨q0,q1,_⟩:=jcr l1
 obtain ⟨_,_,d1,d2⟩:=jd2.mp h.g
 obtain ⟨x1,x2,x3,x4,x5⟩:=jgd.mp d1
 refine ⟨?_,fun h2=>?_⟩
 ·obtain ⟨s1,s2,s3,s4⟩:=XE x1 x2 p0.1 q0.1 x3 fun v=>by rw [h.c0,l3,a3]
  exact ⟨s1,by omega,by omega,by omega⟩
 ·rw [if_pos h2] at d2
  obtain ⟨y1,y2,y3,y4,y5⟩:=jgd.mp d2
  have p1:=p1 h2
  have q1:=q1 h2
  obtain ⟨s1,s2,s3,s4⟩:=XE y1 y2 p1.1 q1.1 y3 fun v=>by rw [h.c1 h2,l4 h2,a4 h2]
  exact ⟨s1,by omega,by omega,by omega⟩
end
end Go.Bag
namespace Go.Proofs.YtnpncbplhdnonaaGreat
open Go.Pl Go.Bag
set_option maxRecDepth 100000
set_option maxHeartbeats 4000000
/-! ### A scan of rows: at each place the cell of the rows that lie there -/
theorem Yf:∀ {L M:List Pr},Rise L→Rise M→(∀ p,p∈L↔p∈M)→L=M
 | [],[],_,_,_=>rfl
 | [],q::M,_,_,h=>by have:=(h q).mpr (by simp); simp at this
 | p::L,[],_,_,h=>by have:=(h p).mp (by simp); simp at this
 | p::L,q::M,hL,hM,h=>by
  unfold Rise at hL hM
  rw [List.pairwise_cons] at hL hM
  have hpq:p=q:=by
   rcases List.mem_cons.mp ((h p).mp (by simp)) with e | h1
   ·exact e
   ·rcases List.mem_cons.mp ((h q).mpr (by simp)) with e | h2
    ·exact e.symm
    ·have:=hM.1 p h1; have:=hL.1 q h2; omega
  subst hpq
  congr 1
  refine Yf hL.2 hM.2 fun r=>⟨fun hr=>?_,fun hr=>?_⟩
  ·rcases List.mem_cons.mp ((h r).mp (by simp [hr])) with e | h1
   ·have:=hL.1 r hr; rw [e] at this; omega
   ·exact h1
  ·rcases List.mem_cons.mp ((h r).mpr (by simp [hr])) with e | h1
   ·have:=hM.1 r hr; rw [e] at this; omega
   ·exact h1
structure Rep (m:Int) (f:Go.Bag.Place→List RowS) (L:List Pr):Prop where
 rise:Rise L
 mem:∀ a c,(a,c)∈L↔f a≠[]∧c=(ofC m (f a)).1
 u8:∀ p∈L,u8P p.1
theorem Rep.nil (m:Int):Rep m (fun _=>[]) []:=⟨List.Pairwise.nil,fun a c=>by simp,fun p hp=>by simp at hp⟩
theorem jj0 {α:Type} {l k:List α} (h:l.Perm k):l≠[]↔k≠[] :=
 ⟨fun hn e=>hn (by subst e; exact h.eq_nil),fun hn e=>hn (by subst e; exact h.symm.eq_nil)⟩
theorem Rep.congr {m:Int} {f g:Go.Bag.Place→List RowS} {L:List Pr} (h:Rep m f L) (hp:∀ a,(f a).Perm (g a)):Rep m g L :=
 ⟨h.rise,fun a c=>by rw [h.mem,jg6 (hp a),jj0 (hp a)],h.u8⟩
theorem Rep.uniq {m:Int} {f:Go.Bag.Place→List RowS} {L M:List Pr} (hL:Rep m f L) (hM:Rep m f M):L=M :=
 Yf hL.rise hM.rise fun p=>by
  obtain ⟨a,c⟩:=p
  rw [hL.mem,hM.mem]
theorem Js {A B:List RowS} (h:fine (A++B)):fine A∧fine B:=by
 obtain ⟨f0,f1⟩:=h
 simp only [List.map_append,XD] at f0 f1
 have h1:=J0 (A.map (·.m0))
 have h2:=J0 (A.map (·.m1))
 have h3:=J0 (B.map (·.m0))
 have h4:=J0 (B.map (·.m1))
 exact ⟨⟨by omega,by omega⟩,⟨by omega,by omega⟩⟩
theorem jem {m:Int} {A:List RowS} (h:fine A):fitsC m A:=by
 have:=Z3 h
 unfold most at this
 exact ⟨⟨by omega,by omega⟩,fun _=>⟨by omega,by omega⟩⟩
theorem Jt {m:Int} (hm:1≤m∧m≤2) {A:List RowS} (hA:A≠[]) (h:fine A):(ofC m A).2=true:=(YR hm).mpr ⟨hA,jem h⟩
theorem Ju {A:List RowS} (g:RowS→Bool) (h:fine A):fine (A.filter g):=by
 have:=Ye (List.filter_append_perm g A).symm h
 exact (Js this).1
theorem jj1 {m:Int} (hm:1≤m∧m≤2) {f:Go.Bag.Place→List RowS} {L:List Pr} (h:Rep m f L) {a:Go.Bag.Place} (ha:u8P a) {R:List RowS} (hR:R≠[]) (hlf:(f a).length≤500) (hlR:R.length≤500) (hf:fine (f a++R)) :
  ∃ L',layX m L a (ofC m R).1=some L'∧Rep m (fun b=>if b=a then f b++R else f b) L':=by
 have hinj:∀ p∈L,keyP p.1=keyP a→p.1=a:=fun p hp e=>wE (h.u8 p hp) ha e
 obtain ⟨fa,fR⟩:=Js hf
 by_cases hfa:f a=[]
 ·have hn:∀ p∈L,p.1≠a:=fun p hp e=>((h.mem p.1 p.2).mp hp).1 (by rw [e]; exact hfa)
  obtain ⟨L',h1,h2⟩:=Xj (m:=m) (c:=(ofC m R).1) hn
  refine ⟨L',h1,wD h1 h.rise hinj,fun b d=>?_,fun p hp=>?_⟩
  ·rw [h2.mem_iff,List.mem_cons,h.mem]
   by_cases e:b=a
   ·subst e
    rw [if_pos rfl,hfa,List.nil_append]
    simp [hR]
   ·rw [if_neg e]
    simp [e]
  ·rcases List.mem_cons.mp (h2.mem_iff.mp hp) with rfl | hp
   ·exact ha
   ·exact h.u8 p hp
 ·have hx:(a,(ofC m (f a)).1)∈L:=(h.mem _ _).mpr ⟨hfa,rfl⟩
  have hj:=jek hm hlf hlR (Jt hm hfa fa) (Jt hm hR fR)
  have hne:f a++R≠[]:=fun e=>hfa (List.append_eq_nil_iff.mp e).1
  have hok:=Jt hm hne hf
  have hold:=Xk (m:=m) (c:=(ofC m R).1) h.rise hx
  rw [hj,if_pos hok] at hold
  refine ⟨_,hold,wD hold h.rise hinj,fun b d=>?_,fun p hp=>?_⟩
  ·unfold setP
   rw [List.mem_map]
   constructor
   ·rintro ⟨p,hp,e⟩
    by_cases hpa:p.1=a
    ·rw [if_pos hpa] at e
     obtain ⟨e1,e2⟩:=Prod.mk.inj e
     subst e1
     rw [if_pos rfl]
     exact ⟨hne,e2.symm⟩
    ·rw [if_neg hpa] at e
     subst e
     rw [if_neg hpa]
     exact (h.mem b d).mp hp
   ·by_cases e:b=a
    ·subst e
     rw [if_pos rfl]
     rintro ⟨_,rfl⟩
     exact ⟨_,hx,if_pos rfl⟩
    ·rw [if_neg e]
     intro hb
     exact ⟨(b,d),(h.mem b d).mpr hb,if_neg e⟩
  ·obtain ⟨q,hq,rfl⟩:=List.mem_map.mp hp
   split
   ·exact ha
   ·exact h.u8 q hq
def catA (a:Go.Bag.Place) (B:List (Go.Bag.Place × List RowS)):List RowS:=B.flatMap fun b=>if b.1=a then b.2 else []
theorem Yg (a:Go.Bag.Place) (b:Go.Bag.Place × List RowS) (B:List (Go.Bag.Place × List RowS)):catA a (b::B)=(if b.1=a then b.2 else [])++catA a B:=by simp [catA]
theorem Z4 {m:Int} (hm:1≤m∧m≤2):∀ (B:List (Go.Bag.Place × List RowS)) {f:Go.Bag.Place→List RowS} {L:List Pr},Rep m f L→(∀ b∈B,u8P b.1∧b.2≠[])→(∀ a,(f a++catA a B).length≤500)→(∀ a,fine (f a++catA a B)) →
  ∃ L',laysX m L (B.map fun b=>(b.1,(ofC m b.2).1))=some L'∧Rep m (fun a=>f a++catA a B) L'
 | [],f,L,h,_,_,_=>⟨L,rfl,h.congr fun a=>by simp [catA]⟩
 | b::B,f,L,h,hB,hl,hf=>by
  have hb:=hB b (by simp)
  have el:=hl b.1
  have ef:=hf b.1
  rw [Yg,if_pos rfl,← List.append_assoc] at ef el
  simp only [List.length_append] at el
  obtain ⟨L1,h1,r1⟩:=jj1 hm h hb.1 hb.2 (by omega) (by omega) (Js ef).1
  have hg:∀ a,(if a=b.1 then f a++b.2 else f a)++catA a B=f a++catA a (b::B):=by
   intro a
   rw [Yg]
   by_cases e:a=b.1
   ·rw [if_pos e,if_pos e.symm,List.append_assoc]
   ·rw [if_neg e,if_neg (fun k=>e k.symm),List.nil_append]
  obtain ⟨L2,h2,r2⟩:=Z4 hm B r1 (fun x hx=>hB x (by simp [hx])) (fun a=>by rw [hg]; exact hl a) (fun a=>by rw [hg]; exact hf a)
  refine ⟨L2,?_,r2.congr fun a=>by rw [hg]⟩
  show (layX m L b.1 (ofC m b.2).1).bind (fun L'=>laysX m L' _)=some L2
  rw [h1]
  exact h2
/-! ### The places of rows -/
def RiseP (l:List Go.Bag.Place):Prop:=l.Pairwise fun a b=>keyP a < keyP b
theorem jg8 (a:Go.Bag.Place):insP [] a=[a]:=rfl
theorem Yh (p:Go.Bag.Place) (ps:List Go.Bag.Place) (a:Go.Bag.Place):insP (p::ps) a=if keyP p < keyP a then p::insP ps a else if p=a then p::ps else a::p::ps:=by
 unfold insP
 rw [List.dropWhile_cons,List.takeWhile_cons]
 by_cases h:keyP p < keyP a
 ·have:ltP a p=true:=by unfold ltP; rw [decide_eq_true h]
  rw [if_pos h]
  simp only [this,if_true]
  split
  ·simp
  ·split <;> simp
 ·have:ltP a p=false:=by unfold ltP; rw [decide_eq_false h]
  rw [if_neg h]
  simp only [this,Bool.false_eq_true,if_false]
  split <;> simp
theorem VA {x a:Go.Bag.Place}:∀ {ps:List Go.Bag.Place},x∈insP ps a↔x=a∨x∈ps
 | []=>by simp [jg8]
 | p::ps=>by
  have ih:=VA (x:=x) (a:=a) (ps:=ps)
  rw [Yh]
  split
  ·simp only [List.mem_cons,ih]
   constructor
   ·rintro (h | h | h)
    ·exact .inr (.inl h)
    ·exact .inl h
    ·exact .inr (.inr h)
   ·rintro (h | h | h)
    ·exact .inr (.inl h)
    ·exact .inl h
    ·exact .inr (.inr h)
  ·split
   ·rename_i e
    subst e
    simp
   ·simp
theorem Yi {a:Go.Bag.Place}:∀ {ps:List Go.Bag.Place},RiseP ps→(∀ p∈ps,keyP p=keyP a→p=a)→RiseP (insP ps a)
 | [],_,_=>List.pairwise_singleton _ _
 | p::ps,h,hinj=>by
  unfold RiseP at h ⊢
  have h0:=h
  rw [List.pairwise_cons] at h
  rw [Yh]
  split
  ·rename_i hlt
   refine List.pairwise_cons.mpr ⟨fun q hq=>?_,Yi h.2 fun q hq=>hinj q (by simp [hq])⟩
   rcases VA.mp hq with rfl | hq
   ·exact hlt
   ·exact h.1 q hq
  ·split
   ·exact h0
   ·rename_i hlt hne
    have hk:keyP a < keyP p:=by
     by_cases e:keyP p=keyP a
     ·exact absurd (hinj p (by simp) e) hne
     ·omega
    refine List.pairwise_cons.mpr ⟨fun q hq=>?_,h0⟩
    rcases List.mem_cons.mp hq with rfl | hq
    ·exact hk
    ·have:=h.1 q hq; omega
theorem J1 (c:CatS) (v:Go.Bag.Place):∀ (rows:List RowS) (ps:List Go.Bag.Place),RiseP ps→(∀ p∈ps,u8P p) →
  RiseP (rows.foldl (fun ps r=>insP ps (toP c zeroP v r.p).1) ps)∧∀ x,x∈rows.foldl (fun ps r=>insP ps (toP c zeroP v r.p).1) ps↔x∈ps∨∃ r∈rows,(toP c zeroP v r.p).1=x
 | [],ps,h,_=>⟨h,fun x=>by simp⟩
 | r::rows,ps,h,hu=>by
  have ha:=Xq c zeroP v r.p
  have ih:=J1 c v rows (insP ps (toP c zeroP v r.p).1) (Yi h fun p hp e=>wE (hu p hp) ha e) (fun p hp=>by
   rcases VA.mp hp with rfl | hp
   ·exact ha
   ·exact hu p hp)
  rw [List.foldl_cons]
  refine ⟨ih.1,fun x=>?_⟩
  rw [ih.2,VA]
  constructor
  ·rintro ((h | h) | ⟨q,hq,e⟩)
   ·exact .inr ⟨r,by simp,h.symm⟩
   ·exact .inl h
   ·exact .inr ⟨q,by simp [hq],e⟩
  ·rintro (h | ⟨q,hq,e⟩)
   ·exact .inl (.inr h)
   ·rcases List.mem_cons.mp hq with rfl | hq
    ·exact .inl (.inl e.symm)
    ·exact .inr ⟨q,hq,e⟩
theorem Wi (c:CatS) (v:Go.Bag.Place) (rows:List RowS):RiseP (placesS c v rows):=(J1 c v rows [] List.Pairwise.nil (fun p hp=>by simp at hp)).1
theorem wZ (c:CatS) (v:Go.Bag.Place) (rows:List RowS) (x:Go.Bag.Place):x∈placesS c v rows↔∃ r∈rows,(toP c zeroP v r.p).1=x:=by
 have:=(J1 c v rows [] List.Pairwise.nil (fun p hp=>by simp at hp)).2 x
 simpa [placesS] using this
theorem jbh {c:CatS} {v a:Go.Bag.Place} {rows:List RowS}:atP c v a rows≠[]↔a∈placesS c v rows:=by
 rw [wZ]
 unfold atP
 rw [ne_eq,List.filter_eq_nil_iff]
 constructor
 ·intro h
  simp only [decide_eq_true_eq,Classical.not_forall,Classical.not_not] at h
  obtain ⟨r,hr,e⟩:=h
  exact ⟨r,hr,e⟩
 ·rintro ⟨r,hr,e⟩ h
  exact h r hr (by simpa using e)
theorem VW (c:CatS) (v:Go.Bag.Place) (rows:List RowS):Rep c.m (fun a=>atP c v a rows) (groupL c v rows):=by
 refine ⟨?_,fun a d=>?_,fun p hp=>?_⟩
 ·unfold Rise groupL
  rw [List.pairwise_map]
  exact Wi c v rows
 ·unfold groupL
  rw [List.mem_map,jbh]
  constructor
  ·rintro ⟨x,hx,e⟩
   obtain ⟨rfl,rfl⟩:=Prod.mk.inj e
   exact ⟨hx,rfl⟩
  ·rintro ⟨h,rfl⟩
   exact ⟨a,h,rfl⟩
 ·obtain ⟨x,hx,rfl⟩:=List.mem_map.mp hp
  obtain ⟨r,_,rfl⟩:=(wZ c v rows x).mp hx
  exact Xq c zeroP v r.p
/-! ### Rows put together again -/
theorem Yj {α β:Type} [DecidableEq β] (G:α→β) (rows:List α):∀ (ps:List β),ps.Nodup→(ps.flatMap fun a=>rows.filter fun r=>decide (G r=a)).Perm (rows.filter fun r=>decide (G r∈ps))
 | [],_=>by simp
 | a::ps,h=>by
  rw [List.nodup_cons] at h
  have ih:=Yj G rows ps h.2
  rw [List.flatMap_cons]
  refine (ih.append_left _).trans ?_
  have:=List.filter_append_perm (fun r=>decide (G r=a)) (rows.filter fun r=>decide (G r∈a::ps))
  rw [List.filter_filter,List.filter_filter] at this
  refine List.Perm.trans (.of_eq ?_) this
  congr 1
  ·refine List.filter_congr fun r _=>?_
   by_cases e:G r=a <;> simp [e]
  ·refine List.filter_congr fun r _=>?_
   by_cases e:G r=a
   ·simp [e,h.1]
   ·simp [e]
theorem jc0 {α β:Type} (q:α→Bool) (F:α→List β):∀ ps:List α,(ps.flatMap fun a=>if q a=true then F a else [])=(ps.filter q).flatMap F
 | []=>rfl
 | a::ps=>by
  rw [List.flatMap_cons,List.filter_cons,jc0 q F ps]
  split
  ·rw [List.flatMap_cons]
  ·rw [List.nil_append]
theorem Z5 {c:CatS} (hm:1≤c.m∧c.m≤2) (v w:Go.Bag.Place) (rows:List RowS) (hl:rows.length≤500) (hf:fine rows) (hp:∀ r∈rows,(toP c v w (toP c zeroP v r.p).1).1=(toP c zeroP w r.p).1) (g:Go.Bag.Place→Bool) (k:RowS→Bool) (hg:∀ r∈rows,g (toP c zeroP v r.p).1=k r) :
  laysX c.m [] (toS c v w ((groupL c v rows).filter fun p=>g p.1))=some (groupL c w (rows.filter k)):=by
 have hnd:(placesS c v rows).Nodup:=(Wi c v rows).imp fun {a b} h e=>by rw [e] at h; omega
 have hB:toS c v w ((groupL c v rows).filter fun p=>g p.1)=(((placesS c v rows).filter g).map fun a=>((toP c v w a).1,atP c v a rows)).map fun b=>(b.1,(ofC c.m b.2).1):=by
  unfold toS groupL
  rw [List.filter_map,List.map_map,List.map_map]
  rfl
 have hcat:∀ b,(catA b (((placesS c v rows).filter g).map fun a=>((toP c v w a).1,atP c v a rows))).Perm (atP c w b (rows.filter k)):=by
  intro b
  unfold catA
  rw [List.flatMap_map]
  have e1:(((placesS c v rows).filter g).flatMap fun a=>if (toP c v w a).1=b then atP c v a rows else [])=(((placesS c v rows).filter g).filter fun a=>decide ((toP c v w a).1=b)).flatMap fun a=>atP c v a rows:=by
   have:=jc0 (fun a=>decide ((toP c v w a).1=b)) (fun a=>atP c v a rows) ((placesS c v rows).filter g)
   simpa only [decide_eq_true_eq] using this
  rw [e1]
  refine (Yj (fun r=>(toP c zeroP v r.p).1) rows _ ((hnd.filter _).filter _)).trans (.of_eq ?_)
  unfold atP
  refine Eq.trans (List.filter_congr fun r hr=>?_) (List.filter_filter).symm
  have hin:(toP c zeroP v r.p).1∈placesS c v rows:=(wZ c v rows _).mpr ⟨r,hr,rfl⟩
  have h1:=hp r hr
  have h2:=hg r hr
  simp only [List.mem_filter,hin,true_and,h1,h2,decide_eq_true_eq]
  by_cases e:(toP c zeroP w r.p).1=b <;> by_cases e2:k r=true <;> simp [e,e2]
 obtain ⟨L',h1,h2⟩:=Z4 hm (((placesS c v rows).filter g).map fun a=>((toP c v w a).1,atP c v a rows)) (Rep.nil c.m)
  (fun b hb=>by
   obtain ⟨a,ha,rfl⟩:=List.mem_map.mp hb
   exact ⟨Xq c v w a,jbh.mpr (List.mem_filter.mp ha).1⟩)
  (fun a=>by
   rw [List.nil_append,(hcat a).length_eq]
   unfold atP
   have:=List.length_filter_le (fun r=>decide ((toP c zeroP w r.p).1=a)) (rows.filter k)
   have:=List.length_filter_le k rows
   omega)
  (fun a=>by
   rw [List.nil_append]
   exact Ye (hcat a).symm (Ju _ (Ju _ hf)))
 rw [hB,h1]
 congr 1
 exact (h2.congr fun a=>by rw [List.nil_append]; exact hcat a).uniq (VW c w (rows.filter k))
set_option maxRecDepth 100000
set_option maxHeartbeats 4000000
/-! ### What is told of a scan of rows -/
def keptR (c:CatS) (rows:List RowS) (fs:List FixS):List RowS:=rows.filter fun r=>fs.all fun f=>withinP c zeroP r.p f
theorem Yk {c:CatS} {v:Go.Bag.Place}:∀ {L:List Pr} {q:Option Go.Bag.Place},Rise L→(∀ p∈L,aheadK q p.1=true)→(∀ p∈L,rightC c v p.1=true∧goodC c.m p.2=true)→scanOk c v q L=true
 | [],_,_,_,_=>rfl
 | p::L,q,h,h1,h2=>by
  unfold Rise at h
  rw [List.pairwise_cons] at h
  simp only [scanOk,Bool.and_eq_true]
  exact ⟨⟨h1 p (by simp),h2 p (by simp)⟩,Yk h.2 (fun r hr=>by simp only [aheadK,decide_eq_true_eq]; exact h.1 r hr) (fun r hr=>h2 r (by simp [hr]))⟩
theorem vl {c:CatS} {rows:List RowS} (h:rowsOk c rows=true):goodCat c=true∧fine rows∧∀ r∈rows,rightC c zeroP r.p=true:=by
 unfold rowsOk at h
 simp only [Bool.and_eq_true,List.all_eq_true] at h
 refine ⟨h.2.1,jjz h.2.2,fun r hr=>?_⟩
 have:=h.1 r hr
 unfold goodR at this
 simp only [Bool.and_eq_true] at this
 exact this.1
theorem jg9 (c:CatS) (v a:Go.Bag.Place) (rows:List RowS):(atP c v a rows).length≤rows.length:=List.length_filter_le _ _
theorem vd (c:CatS) (v:Go.Bag.Place) (rows:List RowS):(groupL c v rows).length≤rows.length:=by
 unfold groupL
 rw [List.length_map]
 exact Wg c v rows
theorem wG {c:CatS} {v:Go.Bag.Place} {rows:List RowS} (hl:rows.length≤1000) (hr:∀ r∈rows,inR r):inPs 1000 (groupL c v rows):=by
 intro p hp
 have hu:=(VW c v rows).u8 p hp
 obtain ⟨a,_,rfl⟩:=List.mem_map.mp hp
 exact ⟨hu,jcy (by have:=jg9 c v a rows; omega) fun r hr'=>hr r (List.mem_filter.mp hr').1⟩
theorem J2 {c:CatS} {v:Go.Bag.Place} {rows:List RowS} (hr:rowsOk c rows=true) (hl:rows.length≤500) (hu:∀ r∈rows,u8P r.p) (hv:u8P v) (hvr:rightC c v zeroP=true):goodS c v (groupL c v rows)=true:=by
 obtain ⟨hc,hf,hp⟩:=vl hr
 have hm:=(jx hc).2.1
 unfold goodS
 rw [hvr,Bool.true_and]
 have hrep:=VW c v rows
 refine Yk hrep.rise (fun p hp=>rfl) (fun p hpp=>?_)
 obtain ⟨a,d⟩:=p
 obtain ⟨h1,h2⟩:=(hrep.mem a d).mp hpp
 obtain ⟨r,hrr,e⟩:=(wZ c v rows a).mp (jbh.mp h1)
 refine ⟨?_,?_⟩
 ·show rightC c v a=true
  rw [← e]
  exact XB (hu r hrr) (hp r hrr) hvr (wh hv)
 ·show goodC c.m d=true
  rw [h2]
  exact Vz (by have:=jg9 c v a rows; omega) (Jt hm h1 (Ju _ hf))
theorem XG {c:CatS} {v w:Go.Bag.Place} {rows:List RowS} (hr:rowsOk c rows=true) (hu:∀ r∈rows,u8P r.p) (hv:u8P v) (hvr:rightC c v zeroP=true) (hwr:rightC c w zeroP=true) (hb:belowP v w=true):∀ r∈rows,(toP c v w (toP c zeroP v r.p).1).1=(toP c zeroP w r.p).1:=fun r hrr=>by
 rw [jg7 (hu r hrr) ((vl hr).2.2 r hrr) hvr hwr (wh hv) hb]
theorem VB {c:CatS} {v w:Go.Bag.Place} {rows:List RowS} (hr:rowsOk c rows=true) (hl:rows.length≤500) (hu:∀ r∈rows,u8P r.p) (hv:u8P v) (hvr:rightC c v zeroP=true) (hwr:rightC c w zeroP=true) (hb:belowP v w=true):upS c v w (groupL c v rows)=some (groupL c w rows):=by
 obtain ⟨hc,hf,hp⟩:=vl hr
 have h:=Z5 (jx hc).2.1 v w rows hl hf (XG hr hu hv hvr hwr hb) (fun _=>true) (fun _=>true) (fun _ _=>rfl)
 rw [List.filter_eq_self.mpr (fun _ _=>rfl),List.filter_eq_self.mpr (fun _ _=>rfl)] at h
 unfold upS
 rw [if_pos ⟨J2 hr hl hu hv hvr,hwr,hb⟩]
 exact h
theorem Yl {c:CatS} {q:QueryS} (h:goodQ c q=true):∀ f∈q.fixes,fixOk c f=true:=by
 unfold goodQ at h
 simp only [Bool.and_eq_true,List.all_eq_true] at h
 exact h.2.1
theorem ke {c:CatS} {v:Go.Bag.Place} {rows:List RowS} {q:QueryS} (hr:rowsOk c rows=true) (hl:rows.length≤500) (hu:∀ r∈rows,u8P r.p) (hv:u8P v) (hvr:rightC c v zeroP=true) (hq:goodQ c q=true) (hb:belowP v (needQ c q)=true) :
  linesS c v (groupL c v rows) q=toldS c.m (groupL c q.node (keptR c rows q.fixes)) q:=by
 obtain ⟨hc,hf,hp⟩:=vl hr
 have hbn:=kT hb (JZ hq)
 have hneed:needQ c q=q.fixes.foldl minP q.node:=by unfold needQ; rw [if_pos hq]
 have h:=Z5 (jx hc).2.1 v q.node rows hl hf (XG hr hu hv hvr (wY hq) hbn) (fun a=>q.fixes.all fun f=>withinP c v a f) (fun r=>q.fixes.all fun f=>withinP c zeroP r.p f) (fun r hrr=>by
  rw [Bool.eq_iff_iff,List.all_eq_true,List.all_eq_true]
  have hw:∀ f∈q.fixes,withinP c v (toP c zeroP v r.p).1 f=withinP c zeroP r.p f:=fun f hff=>by
   have hfo:=Yl hq f hff
   have hd:=(wA hfo).1
   have hdl:=(jx hc).1
   refine jel (hu r hrr) (hp r hrr) hvr (wh hv) hfo ?_
   have h1:=below_get hb f.dim.toNat (by show f.dim.toNat < 4; omega)
   have h2:=XC q.fixes q.node f hff (by omega)
   rw [hneed] at h1
   omega
  exact ⟨fun hh f hff=>by rw [← hw f hff]; exact hh f hff,fun hh f hff=>by rw [hw f hff]; exact hh f hff⟩)
 unfold linesS
 rw [if_pos ⟨hq,hvr,hb⟩,if_pos (J2 hr hl hu hv hvr)]
 unfold keptS keptR
 rw [h]
set_option maxHeartbeats 16000000
set_option maxRecDepth 100000
/-! ### The chapter's example -/
def wC:CatS:=⟨[⟨[4,2],[[0,0,1,1]]⟩],1⟩
def wN:Go.Bag.Place:=⟨1,0,0,0⟩
def wR2:RowS:=⟨⟨2,0,0,0⟩,0,0⟩
def wR3:RowS:=⟨⟨3,0,0,0⟩,0,0⟩
def wR:List RowS:=[wR2,wR3]
def wQ1:QueryS:=⟨wN,[],0,0,0,1⟩
def wQ0:QueryS:=⟨zeroP,[],0,0,0,1⟩
def wLa:LineS:=⟨1,0,0,0,1,1,0,0,0,0,0⟩
def wLb:LineS:=⟨2,0,0,0,1,3,0,0,0,0,0⟩
def wLd:LineS:=⟨3,0,0,0,1,2,0,0,0,0,0⟩
theorem Ym:okCat2 wC:=⟨⟨by decide,fun d hd=>by obtain rfl:=List.mem_singleton.mp hd; exact ⟨by decide,by decide⟩⟩,fun d hd l hl=>by obtain rfl:=List.mem_singleton.mp hd; obtain rfl:=List.mem_singleton.mp hl; decide⟩
theorem jc1:u8P wN:=by intro x hx; simp [placeL,wN] at hx; omega
theorem Yn:∀ r∈wR,u8P r.p∧inR r:=by
 intro r hr
 simp only [wR,List.mem_cons,List.not_mem_nil,or_false] at hr
 rcases hr with rfl | rfl <;> exact ⟨by intro x hx; simp [placeL,wR2,wR3] at hx; omega,by unfold inR; decide⟩
theorem Z6:rowsOk wC wR=true:=by decide
theorem VC:rightC wC zeroP zeroP=true:=by decide
theorem jha:rightC wC wN zeroP=true:=by decide
theorem XH:groupL wC zeroP wR=[(⟨2,0,0,0⟩,(ofC 1 [wR2]).1),(⟨3,0,0,0⟩,(ofC 1 [wR3]).1)]:=by
 unfold groupL
 rw [show placesS wC zeroP wR=[⟨2,0,0,0⟩,⟨3,0,0,0⟩] by decide]
 simp only [List.map_cons,List.map_nil]
 rw [show atP wC zeroP ⟨2,0,0,0⟩ wR=[wR2] by decide,show atP wC zeroP ⟨3,0,0,0⟩ wR=[wR3] by decide]
 rfl
theorem Z7:groupL wC wN wR=[(wN,(ofC 1 wR).1)]:=by
 unfold groupL
 rw [show placesS wC wN wR=[wN] by decide]
 simp only [List.map_cons,List.map_nil]
 rw [show atP wC wN wN wR=wR by decide]
 rfl
theorem jnj:upS wC zeroP wN (groupL wC zeroP wR)=some [(wN,(ofC 1 wR).1)]:=by
 rw [VB Z6 (by decide) (fun r hr=>(Yn r hr).1) jv VC jha (by decide),Z7]
theorem w_n:(ofC 1 wR).1.n=2:=by decide
theorem jma:fine wR:=(vl Z6).2.1
theorem jc2:goodC 1 (ofC 1 wR).1=true:=Vz (by decide) (Jt (by decide) (by decide) jma)
theorem jhb:linesS wC zeroP (groupL wC zeroP wR) wQ1=([lineC 1 wN (ofC 1 wR).1],0):=by
 rw [ke Z6 (by decide) (fun r hr=>(Yn r hr).1) jv VC (by decide) (by decide)]
 rw [show keptR wC wR wQ1.fixes=wR by decide,show wQ1.node=wN from rfl,Z7]
 rfl
theorem jhc:linesS wC zeroP (groupL wC zeroP wR) wQ0=([],13):=by
 rw [ke Z6 (by decide) (fun r hr=>(Yn r hr).1) jv VC (by decide) (by decide)]
 rw [show keptR wC wR wQ0.fixes=wR by decide,show wQ0.node=zeroP from rfl,XH]
 rfl
theorem jj2:goodS wC wN [(wN,(ofC 1 wR).1)]=true:=by
 unfold goodS scanOk scanOk
 rw [show wC.m=1 from rfl]
 dsimp only
 rw [jc2]
 decide
theorem jmz:goodS wC zeroP ([]++groupL wC zeroP wR++groupL wC zeroP wR)=false:=by
 rw [XH]
 unfold goodS
 simp only [List.nil_append,List.cons_append,scanOk,Bool.and_eq_false_iff]
 right; right; right; left; left
 decide
theorem jmb:bestS 2 0 2 [wLa,wLb,wLd]=[wLb,wLd]:=by decide
theorem jmc:lineC 1 wN (ofC 1 wR).1=⟨1,0,0,0,2,(ofC 1 wR).1.s0,0,lo_ (ofC 1 wR).1.b0,0,hi_ (ofC 1 wR).1.b0,0⟩:=by
 unfold lineC
 rw [jc2,if_pos rfl,w_n]
 rfl
theorem jmd:∀ z∈[wLa,wLb,wLd],okLn z:=by
 intro z hz
 simp only [List.mem_cons,List.not_mem_nil,or_false] at hz
 rcases hz with rfl | rfl | rfl <;> exact ⟨by unfold inL; decide,by intro x hx; simp [placeL,placeOf,wLa,wLb,wLd] at hx; omega⟩
theorem jhd:groupS wC zeroP wR=some (groupL wC zeroP wR):=by unfold groupS; rw [if_pos ⟨VC,Z6⟩]
theorem ve:CP 12 [] (.c (.bool true)) []:=by
 have hgi:inPs 1000 (groupL wC zeroP wR):=wG (by decide) fun r hr=>(Yn r hr).2
 have c1:=VS [wLa,wLb,wLd] 2 0 2 jmd (by decide)
 have c2:=jcw wC zeroP wR Ym jv Yn (by decide)
 have hgl:(groupL wC zeroP wR).length=2:=by rw [XH]; rfl
 have c3:=ZQ wC zeroP wN (groupL wC zeroP wR) Ym jv jc1 1000 hgi (by omega) (by omega)
 have c4:=vk wC zeroP (groupL wC zeroP wR) wQ1 Ym jv ⟨by decide,fun f hf=>by simp [wQ1] at hf,jc1⟩ 1000 hgi (by omega) (by omega)
 have c5:=vk wC zeroP (groupL wC zeroP wR) wQ0 Ym jv ⟨by decide,fun f hf=>by simp [wQ0] at hf,jv⟩ 1000 hgi (by omega) (by omega)
 have hci:=jcy (m:=1) (l:=wR) (by decide) fun r hr=>(Yn r hr).2
 have c6:=JJ wC wN [(wN,(ofC 1 wR).1)] Ym jc1 (fun p hp=>by obtain rfl:=List.mem_singleton.mp hp; exact ⟨jc1,kN hci (by omega)⟩) (by decide)
 have c7:=JJ wC zeroP ([]++groupL wC zeroP wR++groupL wC zeroP wR) Ym jv (fun p hp=>by
  rw [List.nil_append] at hp
  rcases List.mem_append.mp hp with hp | hp <;> exact ⟨(hgi p hp).1,kN (hgi p hp).2 (by omega)⟩) (by simp only [List.nil_append,List.length_append]; omega)
 rw [jmb] at c1
 rw [jhd] at c2
 rw [jnj] at c3
 rw [jhb,jmc] at c4
 rw [jhc] at c5
 rw [jj2] at c6
 rw [jmz] at c7
 have hwl:∀ e∈(groupL wC zeroP wR).map encPr,e.length=9:=by
  intro e he
  obtain ⟨r,_,rfl⟩:=List.mem_map.mp he
  rfl
 have gw1:([]:List (List CV)).length + ((groupL wC zeroP wR).map encPr).length≤maxGrow:=by simp [maxGrow]; omega
 have gw2:([]++(groupL wC zeroP wR).map encPr).length + ((groupL wC zeroP wR).map encPr).length≤maxGrow:=by simp [maxGrow]; omega
 have hz7:([]++(groupL wC zeroP wR).map encPr)++(groupL wC zeroP wR).map encPr=([]++groupL wC zeroP wR++groupL wC zeroP wR).map encPr:=by simp
 have e1:eqC true [LK.i,LK.i,LK.i,LK.i,LK.i,LK.i,LK.i,LK.i,LK.i,LK.i,LK.i] (.agg (encLn wLb)) (.agg (encLn wLb))=some true:=by rw [VT,decide_eq_true rfl]
 have e2:eqC true [LK.i,LK.i,LK.i,LK.i,LK.i,LK.i,LK.i,LK.i,LK.i,LK.i,LK.i] (.agg (encLn wLd)) (.agg (encLn wLd))=some true:=by rw [VT,decide_eq_true rfl]
 have e3:eqC true [LK.i,LK.i,LK.i,LK.i] (.agg (encP wN)) (.agg (encP wN))=some true:=by rw [w9,decide_eq_true rfl]
 clear hgi hgl
 have hn:=w_n
 refine pcallF Tryz.func12 c12 rfl ?_
 unfold encUp encPrs at *
 dsimp only at *
 generalize ([]++groupL wC zeroP wR++groupL wC zeroP wR).map encPr=GG at *
 generalize (groupL wC zeroP wR).map encPr=G at *
 unfold wC wR wQ1 wQ0 wLa wLb wLd wR2 wR3 encLs encLn encCat encRows encRow encQ encDim encIs encP encPr wN zeroP at *
 simp only [List.map_cons,List.map_nil,List.cons_append,List.nil_append] at *
 unfold encP encC at *
 dsimp only at *
 unfold p12
 repeat' (first | refine call4 rfl rfl rfl rfl c1 ?_ | refine call3 rfl rfl rfl c2 ?_ | refine call4 rfl rfl rfl rfl c3 ?_ | refine call4 rfl rfl rfl rfl c4 ?_ | refine call4 rfl rfl rfl rfl c5 ?_ | refine call3 rfl rfl rfl c6 ?_ | refine call3 rfl rfl rfl c7 ?_ | refine ji rfl rfl (by decide) rfl rfl ?_ | refine jr rfl rfl rfl rfl gw1 hwl rfl rfl (fun _ _=>?_) | refine WC rfl rfl rfl rfl gw2 hwl hz7 (fun u=>?_) | refine jG rfl rfl e1 ?_ | refine st9 ?_ | intro u)
 exact jd rfl rfl
set_option maxHeartbeats 16000000
set_option maxRecDepth 100000
/-! ### Rows, a query, a node -/
def encRw (c:CatS) (rows:List RowS) (q:QueryS) (v:Go.Bag.Place):List CV:=encCat c++(encRows rows::(encQ q++encP v))
def mayX (c:CatS) (rows:List RowS) (q:QueryS) (v:Go.Bag.Place):Bool:=lightCat c && (lightQ q && (decide (rows.length≤60) && (rowsOk c rows && (goodQ c q && rightC c v zeroP))))
structure OkR (c:CatS) (rows:List RowS) (q:QueryS) (v:Go.Bag.Place):Prop where
 c:okCat2 c
 r:∀ r∈rows,u8P r.p∧inR r
 len:rows.length≤9223372036854775807
 q:okQ q
 v:u8P v
theorem Wx (c:CatS) (rows:List RowS) (q:QueryS) (v:Go.Bag.Place) (h:OkR c rows q v):CP 14 [.c (.agg (encRw c rows q v))] (.c (.bool (mayX c rows q v))) []:=by
 have c1:=W4 c h.c.1.1 h.c.1.2
 have c2:=ZG q h.q
 have c3:=jcs c h.c.1 rows h.len (fun r hr=>(h.r r hr).1) (fun r hr=>(h.r r hr).2)
 have c4:=Xf c q h.c h.q
 have c5:=vy c v h.c.1 h.v
 have hl:=h.len
 clear h
 refine pcallF Tryz.func14 c14 rfl ?_
 unfold mayX
 generalize lightCat c=g1 at *
 generalize lightQ q=g2 at *
 generalize rowsOk c rows=g3 at *
 generalize goodQ c q=g4 at *
 generalize rightC c v zeroP=g5 at *
 unfold encRw
 have hll:(rows.map encRow).length=rows.length:=List.length_map _
 unfold encRows at *
 generalize rows.map encRow=rm at *
 unfold encCat encQ encP at *
 dsimp only [List.cons_append,List.nil_append] at *
 unfold p14
 cases g1 with
 | false =>
  repeat' (first | refine call1 rfl c1 ?_ | refine st2 ?_ | intro u)
  exact jd rfl rfl
 | true =>
  cases g2 with
  | false =>
   repeat' (first | refine call1 rfl c1 ?_ | refine call1 rfl c2 ?_ | refine st2 ?_ | intro u)
   exact jd rfl rfl
  | true =>
   rw [Bool.true_and,Bool.true_and]
   by_cases h3:rows.length≤60
   ·rw [decide_eq_true h3,Bool.true_and]
    cases g3 with
    | false =>
     repeat' (first | refine call1 rfl c1 ?_ | refine call1 rfl c2 ?_ | refine call2 rfl rfl c3 ?_ | refine je rfl hll ?_ | refine st2 ?_ | intro u)
     exact jd rfl rfl
    | true =>
     cases g4 with
     | false =>
      repeat' (first | refine call1 rfl c1 ?_ | refine call1 rfl c2 ?_ | refine call2 rfl rfl c3 ?_ | refine je rfl hll ?_ | refine call2 rfl rfl c4 ?_ | refine st2 ?_ | intro u)
      exact jd rfl rfl
     | true =>
      repeat' (first | refine call1 rfl c1 ?_ | refine call1 rfl c2 ?_ | refine call2 rfl rfl c3 ?_ | refine je rfl hll ?_ | refine call2 rfl rfl c4 ?_ | refine call2 rfl rfl c5 ?_ | refine st2 ?_ | intro u)
      exact jd rfl rfl
   ·rw [decide_eq_false h3,Bool.false_and]
    repeat' (first | refine call1 rfl c1 ?_ | refine call1 rfl c2 ?_ | refine je rfl hll ?_ | refine st2 ?_ | intro u)
    exact jd rfl rfl
theorem vV (c:CatS) (rows:List RowS) (q:QueryS) (v w:Go.Bag.Place) (h:okCat2 c) (hr:∀ r∈rows,u8P r.p∧inR r) (hl:rows.length≤60) (hw:u8P w) (hwr:rightC c w zeroP=true) (hok:rowsOk c rows=true) :
  CP 18 [.c (.agg (encRw c rows q v)),.c (.agg (encP w))] (.c (encPrs (groupL c w rows))) []:=by
 have c1:=jcw c w rows h hw hr (by omega)
 have e:groupS c w rows=some (groupL c w rows):=by unfold groupS; rw [if_pos ⟨hwr,hok⟩]
 rw [e] at c1
 refine pcallF Tryz.func18 c18 rfl ?_
 unfold encUp at c1
 dsimp only at c1
 unfold encPrs at *
 generalize (groupL c w rows).map encPr=G at *
 unfold encRw
 unfold encRows at *
 generalize rows.map encRow=rm at *
 unfold encCat encQ encP at *
 dsimp only [List.cons_append,List.nil_append] at *
 unfold p18
 repeat' (first | refine call3 rfl rfl rfl c1 ?_ | refine st5 ?_ | intro u)
 exact jd rfl rfl
def allQ (q:QueryS):QueryS:=⟨q.node,q.fixes,0,0,0,1000⟩
theorem jj3 (c:CatS) (rows:List RowS) (q:QueryS) (v:Go.Bag.Place):CP 28 [.c (.agg (encRw c rows q v))] (.c (.agg (encQ (allQ q)))) []:=by
 refine pcallF Tryz.func28 c28 rfl ?_
 unfold encRw allQ
 unfold encRows at *
 generalize rows.map encRow=rm at *
 unfold encCat encQ encP at *
 dsimp only [List.cons_append,List.nil_append] at *
 unfold p28
 repeat' (first | refine st3 ?_ | intro u)
 exact jd (jh rfl rfl rfl rfl jk) rfl
/-! ### Nodes that do -/
theorem VX:∀ (ds:List DimS) (xs ys ws zs:List Int),xs.length=ws.length→ys.length=ws.length→(∀ i,i < ws.length→ws.getD i 0=xs.getD i 0∨ws.getD i 0=ys.getD i 0)→rightL ds xs zs=true→rightL ds ys zs=true→rightL ds ws zs=true
 | [],[],_,w::ws,_,h,_,_,_,_=>by simp at h
 | d::ds,[],_,w::ws,_,h,_,_,_,_=>by simp at h
 | [],x::xs,[],w::ws,_,_,h,_,_,_=>by simp at h
 | d::ds,x::xs,[],w::ws,_,_,h,_,_,_=>by simp at h
 | [],_,_,[],_,_,_,_,_,_=>by unfold rightL; rfl
 | d::ds,_,_,[],_,_,_,_,_,_=>by unfold rightL; rfl
 | [],x::xs,y::ys,w::ws,[],_,_,_,_,_=>by unfold rightL; rfl
 | d::ds,x::xs,y::ys,w::ws,[],_,_,_,_,_=>by unfold rightL; rfl
 | [],x::xs,y::ys,w::ws,z::zs,h1,h2,h3,h4,h5=>by
  simp only [rightL,Bool.and_eq_true,decide_eq_true_eq] at h4 h5 ⊢
  have h0:=h3 0 (by simp)
  simp only [List.getD_cons_zero] at h0
  refine ⟨⟨by omega,h4.1.2⟩,VX [] xs ys ws zs (by simpa using h1) (by simpa using h2) (fun i hi=>by have:=h3 (i + 1) (by simpa using hi); simpa using this) h4.2 h5.2⟩
 | d::ds,x::xs,y::ys,w::ws,z::zs,h1,h2,h3,h4,h5=>by
  simp only [rightL,Bool.and_eq_true,decide_eq_true_eq] at h4 h5 ⊢
  have h0:=h3 0 (by simp)
  simp only [List.getD_cons_zero] at h0
  refine ⟨?_,VX ds xs ys ws zs (by simpa using h1) (by simpa using h2) (fun i hi=>by have:=h3 (i + 1) (by simpa using hi); simpa using this) h4.2 h5.2⟩
  rcases h0 with e | e
  ·rw [e]; exact h4.1
  ·rw [e]; exact h5.1
theorem XJ (ds:List DimS) (xs:List Int):rightL ds xs []=true:=by cases ds <;> cases xs <;> (unfold rightL; rfl)
theorem VY:∀ (ds:List DimS) (xs zs:List Int) (i:Nat) (x:Int),rightL ds xs (zs.map fun _=>0)=true→(∀ d,ds[i]? = some d→0 < sizeD d x)→(ds.length≤i→x=0)→rightL ds (xs.set i x) (zs.map fun _=>0)=true
 | [],[],_,_,_,h,_,_=>by simpa using h
 | d::ds,[],_,_,_,h,_,_=>by simpa using h
 | [],y::xs,[],_,_,_,_,_=>XJ _ _
 | d::ds,y::xs,[],_,_,_,_,_=>XJ _ _
 | [],y::xs,z::zs,0,x,h,h1,h2=>by
  simp only [List.set_cons_zero,rightL,List.map_cons,Bool.and_eq_true,decide_eq_true_eq] at h ⊢
  exact ⟨⟨h2 (by simp),trivial⟩,h.2⟩
 | d::ds,y::xs,z::zs,0,x,h,h1,h2=>by
  simp only [List.set_cons_zero,rightL,List.map_cons,Bool.and_eq_true,decide_eq_true_eq] at h ⊢
  exact ⟨h1 d rfl,h.2⟩
 | [],y::xs,z::zs,i + 1,x,h,h1,h2=>by
  simp only [List.set_cons_succ,rightL,List.map_cons,Bool.and_eq_true] at h ⊢
  exact ⟨h.1,VY [] xs zs i x h.2 (fun d hd=>by simp at hd) (fun _=>h2 (by simp))⟩
 | d::ds,y::xs,z::zs,i + 1,x,h,h1,h2=>by
  simp only [List.set_cons_succ,rightL,List.map_cons,Bool.and_eq_true] at h ⊢
  exact ⟨h.1,VY ds xs zs i x h.2 (fun e he=>h1 e (by simpa using he)) (fun hl=>h2 (by simpa using hl))⟩
theorem jbk {c:CatS} {v:Go.Bag.Place} {f:FixS} (hv:rightC c v zeroP=true) (hu:u8P v) (hf:fixOk c f=true):rightC c (minP v f) zeroP=true∧u8P (minP v f):=by
 obtain ⟨d,hde,gd,l0,l1,l4⟩:=fix_level hf
 have hd:=(wA hf).1
 have hdl:=(jx (jB hv)).1
 have hlen:((placeL v).set f.dim.toNat (if f.level < (placeL v).getD f.dim.toNat 0 then f.level else (placeL v).getD f.dim.toNat 0)).length=4:=by rw [List.length_set]; rfl
 have hpl:placeL (minP v f)=(placeL v).set f.dim.toNat (if f.level < (placeL v).getD f.dim.toNat 0 then f.level else (placeL v).getD f.dim.toNat 0):=by
  unfold minP
  rw [Xx _ (by omega),hlen]
  simp
 refine ⟨?_,?_⟩
 ·unfold rightC
  rw [jB hv,Bool.true_and,hpl]
  refine VY c.dims (placeL v) (placeL zeroP) _ _ (kR hv) (fun e he=>?_) (fun hl=>by omega)
  rw [hde] at he
  obtain rfl:=Option.some.inj he
  split
  ·have:=Vq gd l0 l1; omega
  ·have:=JV c.dims (placeL v) (placeL zeroP) (by show c.dims.length≤4; omega) rfl (kR hv) _ d hde
   have z:(placeL zeroP).getD f.dim.toNat 0=0:=by
    have h4:f.dim.toNat < 4:=by omega
    match f.dim.toNat,h4 with
    | 0,_=>rfl
    | 1,_=>rfl
    | 2,_=>rfl
    | 3,_=>rfl
    | n + 4,h=>omega
   rw [z] at this
   exact this
 ·intro x hx
  rw [hpl] at hx
  rcases List.mem_or_eq_of_mem_set hx with h | h
  ·exact hu x h
  ·subst h
   have h4:f.dim.toNat < (placeL v).length:=by show f.dim.toNat < 4; omega
   have hg:(placeL v).getD f.dim.toNat 0∈placeL v:=by
    rw [List.getD_eq_getElem?_getD,List.getElem?_eq_getElem h4]
    exact List.getElem_mem h4
   have:=hu _ hg
   split <;> omega
theorem w5 {c:CatS} {q:QueryS} (hq:goodQ c q=true) (hu:u8P q.node):rightC c (needQ c q) zeroP=true∧u8P (needQ c q):=by
 have:∀ (fs:List FixS) (v:Go.Bag.Place),(∀ f∈fs,fixOk c f=true)→rightC c v zeroP=true→u8P v→rightC c (fs.foldl minP v) zeroP=true∧u8P (fs.foldl minP v):=by
  intro fs
  induction fs with
  | nil=>intro v _ h1 h2; exact ⟨h1,h2⟩
  | cons f fs ih =>
   intro v hf h1 h2
   have:=jbk h1 h2 (hf f (by simp))
   exact ih (minP v f) (fun g hg=>hf g (by simp [hg])) this.1 this.2
 unfold needQ
 rw [if_pos hq]
 exact this q.fixes q.node (Yl hq) (wY hq) hu
theorem Wy {c:CatS} {rows:List RowS} {q:QueryS} {v:Go.Bag.Place} (h:mayX c rows q v=true):rows.length≤60∧rowsOk c rows=true∧goodQ c q=true∧rightC c v zeroP=true:=by
 unfold mayX at h
 simp only [Bool.and_eq_true,decide_eq_true_eq] at h
 exact ⟨h.2.2.1,h.2.2.2.1,h.2.2.2.2.1,h.2.2.2.2.2⟩
theorem w6 {c:CatS} (h:goodCat c=true):rightC c zeroP zeroP=true:=by
 unfold rightC
 rw [h,Bool.true_and]
 have gs:=(jx h).2.2
 have hl:=(jx h).1
 have:∀ (ds:List DimS) (xs:List Int),(∀ d∈ds,goodDim d=true)→rightL ds (xs.map fun _=>0) (xs.map fun _=>0)=true:=by
  intro ds xs
  induction xs generalizing ds with
  | nil=>intro _; cases ds <;> (unfold rightL; rfl)
  | cons x xs ih =>
   intro hd
   cases ds with
   | nil=>simp only [List.map_cons,rightL,and_self,decide_true,Bool.true_and]; exact ih [] (fun d hd=>by simp at hd)
   | cons d ds =>
    simp only [List.map_cons,rightL,Bool.and_eq_true,decide_eq_true_eq]
    have g:=hd d (by simp)
    refine ⟨?_,ih ds fun e he=>hd e (by simp [he])⟩
    have:=Vq g (k:=0) (by omega) (by omega)
    omega
 exact this c.dims (placeL zeroP) gs
theorem kB {v:Go.Bag.Place} (h:u8P v):belowP zeroP v=true:=wh h
theorem jc4 {c0:List CV} (h0:OkL [.sl [.sl [.int .i64],.sl [.sl [.int .i64]]],.int .i64,.sl [.int .u8,.int .u8,.int .u8,.int .u8,.int .i64,.int .i64],.int .u8,.int .u8,.int .u8,.int .u8,.sl [.int .i64,.int .i64,.sl [.int .i64]],.int .i64,.int .i64,.int .i64,.int .i64,.int .u8,.int .u8,.int .u8,.int .u8] c0):∃ c rows q v,c0=encRw c rows q v∧OkR c rows q v∧in64 c.m:=by
 obtain ⟨c,k0,rfl,hc,hm,g0⟩:=Z0 h0
 obtain ⟨x,k1,rfl,q1,g1⟩:=okL_cons g0
 obtain ⟨rows,rfl,hr,hl⟩:=jg1 q1
 obtain ⟨q,k2,rfl,hq,g2⟩:=Yb g1
 obtain ⟨v,k3,rfl,hv,g3⟩:=vc g2
 obtain rfl:=okL_nil g3
 exact ⟨c,rows,q,v,by unfold encRw; rw [List.append_nil],⟨hc,hr,hl,hq,hv⟩,hm⟩
set_option maxHeartbeats 16000000
set_option maxRecDepth 100000
/-! ### ExecLimits, ExecTops -/
theorem w7 {c:CatS} {q:QueryS} {t ms fn lim:Int} (h:goodQ c q=true) (ht:0≤t∧t≤1000) (hl:0≤lim∧lim≤1000) (he:if t=0 then ms=0∧fn=0 else (0≤ms∧ms < c.m)∧(1≤fn∧fn≤5)):goodQ c ⟨q.node,q.fixes,t,ms,fn,lim⟩=true:=by
 unfold goodQ at h ⊢
 simp only [Bool.and_eq_true,decide_eq_true_eq] at h ⊢
 refine ⟨⟨h.1.1,h.1.2.1,ht,hl⟩,h.2.1,?_⟩
 unfold endQ
 dsimp only
 split
 ·rename_i e; rw [if_pos e] at he; exact decide_eq_true he
 ·rename_i e; rw [if_neg e] at he; exact decide_eq_true he
end Go.Proofs.YtnpncbplhdnonaaGreat
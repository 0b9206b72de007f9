/- Part of the proof of ExecTells, ExecAnswers, ExecBest, ExecFirst, ExecLevels, ExecTops, ExecLimits: lemmas. -/
import Derived.Test.YtnpncbplhdnonaaGreatExecS17
import Derived.Test.YtnpncbplhdnonaaGreatExecS19
import Derived.Test.YtnpncbplhdnonaaGreatExecS23
import Derived.Test.YtnpncbplhdnonaaGreatExecS24
set_option linter.unusedVariables false
set_option linter.unusedSimpArgs false
/-
 DELTAS,PLAIN,the second part: joined in any order,turned round,undone. My own work.
-/
namespace Go.Bag
open Go.Pl
set_option maxRecDepth 100000
theorem jjb {a b:List Run} (h:(join a b).2=true):good a=true∧good b=true∧sum a + sum b≤cap∧good (join a b).1=true∧sum (join a b).1=sum a + sum b∧wsum (join a b).1=wsum a + wsum b∧∀ v,cnt (join a b).1 v=cnt a v + cnt b v:=by
 by_cases hc:good a=true∧good b=true∧sum a + sum b≤cap
 ·obtain ⟨o,h1,h2,h3,h4⟩:=wW hc.1 hc.2.1 hc.2.2
  rw [h1]
  have:=Xi (a:=o) (b:=[]) (c:=a) (d:=b) fun v=>by rw [h4]; simp [cnt]
  simp only [sum,wsum] at this
  exact ⟨hc.1,hc.2.1,hc.2.2,h2,h3,(by show wsum o=wsum a + wsum b; omega),h4⟩
 ·rw [JB hc] at h; cases h
/-! ### A cell, and back -/
end Go.Bag
/-
 DELTAS,PLAIN,the third part: how long,of what numbers. My own work.
-/
namespace Go.Bag
open Go.Pl
set_option maxRecDepth 100000
theorem jd3 {o a b:List Run} (go:good o=true) (ra:ranged a) (rb:ranged b) (h:∀ v,cnt o v≠0→cnt a v≠0∨cnt b v≠0):ranged o:=by
 obtain ⟨g1,g2,g3⟩:=jA.mp go
 have h0:cap=1099511627776:=rfl
 intro r hr
 have h1:=Ji g2 r hr
 have h2:=Wp g1 hr
 refine ⟨?_,by omega⟩
 rcases h r.1 (by omega) with h | h
 ·obtain ⟨q,hq,e⟩:=k9 h; rw [← e]; exact (ra q hq).1
 ·obtain ⟨q,hq,e⟩:=k9 h; rw [← e]; exact (rb q hq).1
theorem mergeLen:∀ (m:Nat) (out a b:List Run),a.length + b.length=m→(merge out a b).length≤out.length + m:=by
 intro m
 induction m with
 | zero =>
  intro out a b hm
  obtain rfl:a=[]:=List.eq_nil_of_length_eq_zero (by omega)
  obtain rfl:b=[]:=List.eq_nil_of_length_eq_zero (by omega)
  simp [merge]
 | succ m ih =>
  intro out a b hm
  match a,b,hm with
  | [],s::b,hm =>
   rw [show merge out [] (s::b)=merge (moreL out s.1 s.2) [] b by simp only [merge]]
   have:=ih (moreL out s.1 s.2) [] b (by simpa using hm)
   have:=jW out s.1 s.2
   omega
  | r::a,[],hm =>
   rw [show merge out (r::a) []=merge (moreL out r.1 r.2) a [] by simp only [merge]]
   have:=ih (moreL out r.1 r.2) a [] (by simpa using hm)
   have:=jW out r.1 r.2
   omega
  | r::a,s::b,hm =>
   rw [merge]
   split
   ·have:=ih (moreL out s.1 s.2) (r::a) b (by simp at hm ⊢; omega)
    have:=jW out s.1 s.2
    omega
   ·have:=ih (moreL out r.1 r.2) a (s::b) (by simp at hm ⊢; omega)
    have:=jW out r.1 r.2
    omega
theorem joinLen (a b:List Run):(join a b).1.length≤a.length + b.length:=by
 unfold join
 split
 ·have:=mergeLen _ [] a b rfl
  simpa using this
 ·simp
theorem Wt (k:Nat):inB k []:=⟨fun q hq=>by simp at hq,by simp⟩
theorem ZJ {k l:Nat} {a b:List Run} (ha:inB k a) (hb:inB l b):inB (k + l) (join a b).1:=by
 refine ⟨?_,by have:=joinLen a b; have:=ha.2; have:=hb.2; omega⟩
 cases h:(join a b).2 with
 | true =>
  have j:=jjb h
  exact jd3 j.2.2.2.1 ha.1 hb.1 fun v hv=>by rw [j.2.2.2.2.2.2] at hv; omega
 | false =>
  have:¬ (good a=true∧good b=true∧sum a + sum b≤cap):=fun hc=>by
   obtain ⟨o,h1,_⟩:=wW hc.1 hc.2.1 hc.2.2
   rw [h1] at h; cases h
  rw [JB this]; exact (Wt 0).1
theorem kN {k l:Nat} {c:Cell} (h:inC k c) (hk:k≤l):inC l c:=by
 obtain ⟨h1,h2,h3,h4,h5,h6,h7⟩:=h
 exact ⟨h1,h2,h3,h4,h5,by omega,by omega⟩
theorem jge (k:Nat):inC k zeroC:=⟨by decide,by decide,by decide,(Wt k).1,(Wt k).1,by simp [zeroC],by simp [zeroC]⟩
theorem jcr {m:Int} {c:Cell} {is:Bool} (h:mayC m c is=true):(good c.b0=true∧sum c.b0=c.n∧wsum c.b0=c.s0)∧(m=2→good c.b1=true∧sum c.b1=c.n∧wsum c.b1=c.s1)∧(0≤c.n∧c.n≤1099511627776):=by
 unfold mayC at h
 cases is with
 | true =>
  simp only [if_true] at h
  obtain ⟨_,h1,h2,h3⟩:=jq.mp h
  obtain ⟨q1,q2,q3⟩:=kg.mp h2
  refine ⟨⟨q1,q3,q2⟩,fun hm2=>?_,by omega⟩
  rw [if_pos hm2] at h3
  obtain ⟨q1,q2,q3⟩:=kg.mp h3
  exact ⟨q1,q3,q2⟩
 | false =>
  simp only [Bool.false_eq_true,if_false,decide_eq_true_eq] at h
  subst h
  exact ⟨⟨by decide,rfl,rfl⟩,fun _=>⟨by decide,rfl,rfl⟩,by decide⟩
/-! ### what the program comes to, told the document's way -/
end Go.Bag
/-
 SCANS,PLAIN: which may be,carried up,kept. My own work.
-/
namespace Go.Bag
open Go.Pl
set_option maxRecDepth 100000
abbrev Pr:=Place × Cell
def encPr (p:Pr):List CV:=encP p.1++encC p.2
def encPrs (l:List Pr):CV:=.sl (l.map encPr)
def aheadK:Option Place→Place→Bool
 | none,_=>true
 | some q,p=>decide (keyP q < keyP p)
def scanOk (c:CatS) (v:Place):Option Place→List Pr→Bool
 | _,[]=>true
 | q,p::l=>(aheadK q p.1 && (rightC c v p.1 && goodC c.m p.2)) && scanOk c v (some p.1) l
def goodS (c:CatS) (v:Place) (l:List Pr):Bool:=rightC c v zeroP && scanOk c v none l
def layX (m:Int):List Pr→Place→Cell→Option (List Pr)
 | [],a,c=>some [(a,c)]
 | p::l,a,c=>if keyP p.1 < keyP a then (layX m l a c).map (p::·) else if p.1=a then (if (joinC m p.2 c).2=true then some ((a,(joinC m p.2 c).1)::l) else none) else some ((a,c)::p::l)
def laysX (m:Int):List Pr→List Pr→Option (List Pr)
 | L,[]=>some L
 | L,p::l=>(layX m L p.1 p.2).bind fun L'=>laysX m L' l
def toS (c:CatS) (f t:Place) (l:List Pr):List Pr:=l.map fun p=>((toP c f t p.1).1,p.2)
def upS (c:CatS) (f t:Place) (l:List Pr):Option (List Pr):=if goodS c f l=true∧rightC c t zeroP=true∧belowP f t=true then laysX c.m [] (toS c f t l) else none
def encUp:Option (List Pr)→List CV
 | some l=>[encPrs l,.bool true]
 | none=>[.sl [],.bool false]
def keptS (c:CatS) (v:Place) (l:List Pr) (fs:List FixS):List Pr:=l.filter fun p=>fs.all fun f=>withinP c v p.1 f
def Rise (l:List Pr):Prop:=l.Pairwise fun a b=>keyP a.1 < keyP b.1
theorem ZK {k l:Nat} {m:Int} {a b:Cell} (ha:inC k a) (hb:inC l b):inC (k + l) (joinC m a b).1:=by
 unfold joinC
 split
 ·rename_i h
  obtain ⟨g1,g2,h1,h2,h3⟩:=h
  obtain ⟨_,_,_,a1,a2,a3,a4⟩:=ha
  obtain ⟨_,_,_,b1,b2,b3,b4⟩:=hb
  have e0:=ZJ (a:=a.b0) (b:=b.b0) ⟨a1,a3⟩ ⟨b1,b3⟩
  have e1:=ZJ (a:=a.b1) (b:=b.b1) ⟨a2,a4⟩ ⟨b2,b4⟩
  have n1:=(jq.mp g1).2.1
  have n2:=(jq.mp g2).2.1
  have p1:in64 (if m=2 then a.s1 + b.s1 else 0)∧inB (k + l) (if m=2 then (join a.b1 b.b1).1 else []):=by
   by_cases hm2:m=2
   ·rw [if_pos hm2,if_pos hm2]; exact ⟨h3 hm2,e1⟩
   ·rw [if_neg hm2,if_neg hm2]; exact ⟨by decide,Wt _⟩
  refine ⟨⟨by show -9223372036854775808≤a.n + b.n; omega,by show a.n + b.n≤9223372036854775807; omega⟩,h2,p1.1,e0.1,p1.2.1,e0.2,p1.2.2⟩
 ·exact jge _
def inPs (k:Nat) (l:List Pr):Prop:=∀ p∈l,(∀ x∈placeL p.1,0≤x∧x≤255)∧inC k p.2
theorem jS {k j:Nat} {l:List Pr} (h:inPs k l) (hk:k≤j):inPs j l:=fun p hp=>⟨(h p hp).1,kN (h p hp).2 hk⟩
theorem Wu {m:Int} {k j:Nat}:∀ {L:List Pr} {a:Place} {c:Cell} {L':List Pr},layX m L a c=some L'→inPs k L→(∀ x∈placeL a,0≤x∧x≤255)→inC j c→inPs (k + j) L'∧L'.length≤L.length + 1
 | [],a,c,L',h,hL,ha,hc=>by
  simp only [layX,Option.some.injEq] at h
  subst h
  refine ⟨fun p hp=>?_,by simp⟩
  obtain rfl:=List.mem_singleton.mp hp
  exact ⟨ha,kN hc (by omega)⟩
 | p::l,a,c,L',h,hL,ha,hc=>by
  have hp:=hL p (by simp)
  have hl:inPs k l:=fun q hq=>hL q (by simp [hq])
  rw [layX] at h
  split at h
  ·cases e:layX m l a c with
   | none=>rw [e] at h; cases h
   | some M =>
    rw [e] at h
    cases h
    have ih:=Wu e hl ha hc
    refine ⟨fun q hq=>?_,by have:=ih.2; simp; omega⟩
    rcases List.mem_cons.mp hq with rfl | hq
    ·exact ⟨hp.1,kN hp.2 (by omega)⟩
    ·exact ih.1 q hq
  ·split at h
   ·split at h
    ·cases h
     refine ⟨fun q hq=>?_,by simp⟩
     rcases List.mem_cons.mp hq with rfl | hq
     ·exact ⟨ha,ZK hp.2 hc⟩
     ·exact ⟨(hl q hq).1,kN (hl q hq).2 (by omega)⟩
    ·cases h
   ·cases h
    refine ⟨fun q hq=>?_,by simp⟩
    rcases List.mem_cons.mp hq with rfl | hq
    ·exact ⟨ha,kN hc (by omega)⟩
    ·rcases List.mem_cons.mp hq with rfl | hq
     ·exact ⟨hp.1,kN hp.2 (by omega)⟩
     ·exact ⟨(hl q hq).1,kN (hl q hq).2 (by omega)⟩
theorem ZL {m:Int}:∀ {L:List Pr} {a:Place} {c:Cell} {L':List Pr},layX m L a c=some L'→∀ q∈L',q.1=a∨q∈L
 | [],a,c,L',h,q,hq=>by
  simp only [layX,Option.some.injEq] at h
  subst h
  obtain rfl:=List.mem_singleton.mp hq
  exact .inl rfl
 | p::l,a,c,L',h,q,hq=>by
  rw [layX] at h
  split at h
  ·cases e:layX m l a c with
   | none=>rw [e] at h; cases h
   | some M =>
    rw [e] at h
    cases h
    rcases List.mem_cons.mp hq with rfl | hq
    ·exact .inr (by simp)
    ·rcases ZL e q hq with h | h
     ·exact .inl h
     ·exact .inr (by simp [h])
  ·split at h
   ·split at h
    ·cases h
     rcases List.mem_cons.mp hq with rfl | hq
     ·exact .inl rfl
     ·exact .inr (by simp [hq])
    ·cases h
   ·cases h
    rcases List.mem_cons.mp hq with rfl | hq
    ·exact .inl rfl
    ·exact .inr hq
theorem wD {m:Int}:∀ {L:List Pr} {a:Place} {c:Cell} {L':List Pr},layX m L a c=some L'→Rise L→(∀ p∈L,keyP p.1=keyP a→p.1=a)→Rise L'
 | [],a,c,L',h,hR,_=>by
  simp only [layX,Option.some.injEq] at h
  subst h
  exact List.pairwise_singleton _ _
 | p::l,a,c,L',h,hR,hinj=>by
  unfold Rise at hR ⊢
  rw [List.pairwise_cons] at hR
  rw [layX] at h
  split at h
  ·rename_i hlt
   cases e:layX m l a c with
   | none=>rw [e] at h; cases h
   | some M =>
    rw [e] at h
    cases h
    refine List.pairwise_cons.mpr ⟨fun q hq=>?_,wD e hR.2 fun q hq=>hinj q (by simp [hq])⟩
    rcases ZL e q hq with h | h
    ·rw [h]; exact hlt
    ·exact hR.1 q h
  ·rename_i hlt
   split at h
   ·rename_i he
    split at h
    ·cases h
     refine List.pairwise_cons.mpr ⟨fun q hq=>?_,hR.2⟩
     have:=hR.1 q hq
     rw [he] at this
     exact this
    ·cases h
   ·rename_i he
    cases h
    have hk:keyP a < keyP p.1:=by
     by_cases e:keyP p.1=keyP a
     ·exact absurd (hinj p (by simp) e) he
     ·omega
    refine List.pairwise_cons.mpr ⟨fun q hq=>?_,List.pairwise_cons.mpr hR⟩
    rcases List.mem_cons.mp hq with rfl | hq
    ·exact hk
    ·have:=hR.1 q hq
     show keyP a < _
     omega
/-! ### A map's elements, in any order -/
def setP (a:Place) (j:Cell) (P:List Pr):List Pr:=P.map fun p=>if p.1=a then (a,j) else p
theorem Xj {m:Int}:∀ {L:List Pr} {a:Place} {c:Cell},(∀ p∈L,p.1≠a)→∃ L',layX m L a c=some L'∧L'.Perm ((a,c)::L)
 | [],a,c,_=>⟨_,rfl,.refl _⟩
 | p::l,a,c,h=>by
  rw [layX]
  split
  ·obtain ⟨L',h1,h2⟩:=Xj (m:=m) (L:=l) (c:=c) (fun q hq=>h q (by simp [hq]))
   exact ⟨p::L',by rw [h1]; rfl,(h2.cons p).trans (.swap _ _ _)⟩
  ·rw [if_neg (h p (by simp))]
   exact ⟨_,rfl,.refl _⟩
theorem ZM {a:Place} {j:Cell} {P:List Pr} (h:∀ p∈P,p.1≠a):setP a j P=P:=by
 unfold setP
 conv=>rhs; rw [← List.map_id P]
 exact List.map_congr_left fun p hp=>by rw [if_neg (h p hp)]; rfl
theorem Xk {m:Int}:∀ {L:List Pr} {a:Place} {x c:Cell},Rise L→(a,x)∈L→layX m L a c=if (joinC m x c).2=true then some (setP a (joinC m x c).1 L) else none
 | [],a,x,c,_,h=>by simp at h
 | p::l,a,x,c,hR,h=>by
  unfold Rise at hR
  rw [List.pairwise_cons] at hR
  rw [layX]
  rcases List.mem_cons.mp h with rfl | h
  ·rw [if_neg (by show ¬ keyP a < keyP a; omega),if_pos rfl]
   have hn:∀ p∈l,p.1≠a:=fun q hq e=>by have:=hR.1 q hq; rw [e] at this; exact absurd this (by show ¬ keyP a < keyP a; omega)
   split
   ·congr 1
    unfold setP
    rw [List.map_cons,if_pos rfl]
    congr 1
    exact (ZM hn).symm
   ·rfl
  ·have hlt:=hR.1 (a,x) h
   have hne:p.1≠a:=fun e=>by rw [e] at hlt; exact absurd hlt (by show ¬ keyP a < keyP a; omega)
   rw [if_pos hlt,Xk hR.2 h]
   split
   ·unfold setP
    rw [List.map_cons,if_neg hne]
    rfl
   ·rfl
theorem jd4 {a:Place} {j:Cell} {P L:List Pr} (h:P.Perm L):(setP a j P).Perm (setP a j L):=h.map _
end Go.Bag
namespace Go.Proofs.YtnpncbplhdnonaaGreat
open Go.Pl Go.Bag
set_option maxHeartbeats 16000000
set_option maxRecDepth 100000
theorem Wv {b:List Run} (hg:good b=true) (hs:1≤sum b):endB b false=(lo_ b,true)∧endB b true=(hi_ b,true)∧∃ q r,(b.map encR)[(0:Int).toNat]? = some (encR q)∧q.1=lo_ b∧(b.map encR)[((b.length:Int) - 1).toNat]? = some (encR r)∧r.1=hi_ b∧1≤b.length:=by
 rcases kn b with rfl | ⟨k,r,rfl⟩
 ·simp [sum] at hs
 ·obtain ⟨q,t,hq⟩:∃ q t,k++[r]=q::t:=by cases k with
   | nil=>exact ⟨r,[],rfl⟩
   | cons q t=>exact ⟨q,t++[r],rfl⟩
  have e1:lo_ (k++[r])=q.1:=by rw [hq]; rfl
  have e2:hi_ (k++[r])=r.1:=by simp [hi_]
  refine ⟨?_,?_,q,r,by rw [hq]; rfl,e1.symm,?_,e2.symm,by simp⟩
  ·simp only [endB,hg,if_true,Bool.false_eq_true,if_false]; rw [hq]; rfl
  ·simp only [endB,hg,if_true,e2]; simp
  ·have:(((k++[r]).length:Int) - 1).toNat=k.length:=by simp
   rw [this]; simp
theorem jjc (m:Int) (p:Go.Bag.Place) (c:Cell) (hc:inC 1000000 c):CP 58 [.c (.int .i64 m),.c (.agg (encP p)),.c (encCell c)] (.c (encLine (lineC m p c))) []:=by
 have c1:=Wr m c hc
 obtain ⟨n,s0,s1,b0,b1⟩:=c
 obtain ⟨hn,hs0,hs1,hr0,hr1,hl0,hl1⟩:=hc
 simp only at hn hs0 hs1 hr0 hr1 hl0 hl1
 have c2:=jb4 b0 (by omega)
 have c3:=WX b0 (by omega)
 have c4:=jb4 b1 (by omega)
 have c5:=WX b1 (by omega)
 obtain ⟨x0,x1,x2,x3⟩:=p
 show PCallG _ 58 [.c (.int .i64 m),.c (.agg [.int .u8 x0,.int .u8 x1,.int .u8 x2,.int .u8 x3]),.c (.agg [.int .i64 n,.int .i64 s0,.int .i64 s1,encL b0,encL b1])] _ _
 unfold encCell encC at c1
 refine pcallF Tryz.func58 c58 rfl ?_
 unfold p58
 cases ga:goodC m ⟨n,s0,s1,b0,b1⟩ with
 | false =>
  rw [ga] at c1
  rw [show lineC m ⟨x0,x1,x2,x3⟩ ⟨n,s0,s1,b0,b1⟩=zeroLn by simp [lineC,ga]]
  repeat' (first | refine call2 rfl rfl c1 ?_ | refine st7 ?_ | intro u)
  exact jd (jh rfl rfl rfl rfl jk) rfl
 | true =>
  rw [ga] at c1
  obtain ⟨hm,⟨g1,g2⟩,g3,g4⟩:=jq.mp ga
  simp only at g1 g2 g3 g4
  obtain ⟨p1,p2,p3⟩:=kg.mp g3
  obtain ⟨e1,e2,_⟩:=Wv p1 (by omega)
  rw [e1] at c2
  rw [e2] at c3
  by_cases hm2:m=2
  ·rw [if_pos hm2] at g4
   obtain ⟨q1,q2,q3⟩:=kg.mp g4
   obtain ⟨e3,e4,_⟩:=Wv q1 (by omega)
   rw [e3] at c4
   rw [e4] at c5
   rw [show lineC m ⟨x0,x1,x2,x3⟩ ⟨n,s0,s1,b0,b1⟩=⟨x0,x1,x2,x3,n,s0,s1,lo_ b0,lo_ b1,hi_ b0,hi_ b1⟩ by unfold lineC; rw [if_pos ga]; simp [hm2]]
   generalize lo_ b0=a0 at *
   generalize hi_ b0=a1 at *
   generalize lo_ b1=a2 at *
   generalize hi_ b1=a3 at *
   repeat' (first | refine call2 rfl rfl c1 ?_ | refine st6 ?_ | intro u)
   refine jf ?_
   unfold b58_0
   repeat' (first | refine call1 rfl c2 ?_ | refine call1 rfl c3 ?_ | refine st7 ?_ | intro u)
   refine jf ?_
   repeat' (first | refine call1 rfl c4 ?_ | refine call1 rfl c5 ?_ | refine st7 ?_ | intro u)
   refine jf ?_
   repeat' (first | refine st0 ?_ | intro u)
   exact jd (jh rfl rfl rfl rfl jk) rfl
  ·rw [show lineC m ⟨x0,x1,x2,x3⟩ ⟨n,s0,s1,b0,b1⟩=⟨x0,x1,x2,x3,n,s0,0,lo_ b0,0,hi_ b0,0⟩ by unfold lineC; rw [if_pos ga]; simp [hm2]]
   generalize lo_ b0=a0 at *
   generalize hi_ b0=a1 at *
   repeat' (first | refine call2 rfl rfl c1 ?_ | refine st6 ?_ | intro u)
   refine jf ?_
   unfold b58_0
   repeat' (first | refine call1 rfl c2 ?_ | refine call1 rfl c3 ?_ | refine st7 ?_ | intro u)
   refine jf ?_
   repeat' (first | refine st0 ?_ | intro u)
   exact jd (jh rfl rfl rfl rfl jk) rfl
theorem jgf (m:Int) (p:Go.Bag.Place) (c:Cell) (hc:inC 999999 c):CP 112 [.c (.int .i64 m),.c (.agg (encP p)),.c (encCell c)] (.c (encLine (lineC m p c))) []:=by
 have c1:=wy m c hc
 obtain ⟨n,s0,s1,b0,b1⟩:=c
 obtain ⟨hn,hs0,hs1,hr0,hr1,hl0,hl1⟩:=hc
 simp only at hn hs0 hs1 hr0 hr1 hl0 hl1
 obtain ⟨x0,x1,x2,x3⟩:=p
 show PCallG _ 112 [.c (.int .i64 m),.c (.agg [.int .u8 x0,.int .u8 x1,.int .u8 x2,.int .u8 x3]),.c (.agg [.int .i64 n,.int .i64 s0,.int .i64 s1,encL b0,encL b1])] _ _
 unfold encCell encC at c1
 refine pcallF Tryz.func112 c112 rfl ?_
 unfold p112
 cases ga:goodC m ⟨n,s0,s1,b0,b1⟩ with
 | false =>
  rw [ga] at c1
  rw [show lineC m ⟨x0,x1,x2,x3⟩ ⟨n,s0,s1,b0,b1⟩=zeroLn by simp [lineC,ga]]
  repeat' (first | refine call2 rfl rfl c1 ?_ | refine st7 ?_ | intro u)
  exact jd (jh rfl rfl rfl rfl jk) rfl
 | true =>
  rw [ga] at c1
  obtain ⟨hm,⟨g1,g2⟩,g3,g4⟩:=jq.mp ga
  simp only at g1 g2 g3 g4
  obtain ⟨p1,p2,p3⟩:=kg.mp g3
  obtain ⟨e1,e2,u0,v0,h0,h1,h2,h3,h4⟩:=Wv p1 (by omega)
  by_cases hm2:m=2
  ·rw [if_pos hm2] at g4
   obtain ⟨q1,q2,q3⟩:=kg.mp g4
   obtain ⟨e3,e4,u1,v1,k0,k1,k2,k3,k4⟩:=Wv q1 (by omega)
   rw [show lineC m ⟨x0,x1,x2,x3⟩ ⟨n,s0,s1,b0,b1⟩=⟨x0,x1,x2,x3,n,s0,s1,u0.1,u1.1,v0.1,v1.1⟩ by unfold lineC; rw [if_pos ga]; simp [hm2,h1,h3,k1,k3]]
   repeat' (first | refine call2 rfl rfl c1 ?_ | refine st6 ?_ | intro u)
   refine jf ?_
   unfold b112_0
   repeat' (first | refine je rfl (List.length_map _) ?_ | refine st4 ?_ | intro u)
   refine jf ?_
   repeat' (first | refine je rfl (List.length_map _) ?_ | refine st4 ?_ | intro u)
   refine jf ?_
   repeat' (first | refine st0 ?_ | intro u)
   exact jd (jh rfl rfl rfl rfl jk) rfl
  ·rw [show lineC m ⟨x0,x1,x2,x3⟩ ⟨n,s0,s1,b0,b1⟩=⟨x0,x1,x2,x3,n,s0,0,u0.1,0,v0.1,0⟩ by unfold lineC; rw [if_pos ga]; simp [hm2,h1,h3]]
   repeat' (first | refine call2 rfl rfl c1 ?_ | refine st6 ?_ | intro u)
   refine jf ?_
   unfold b112_0
   repeat' (first | refine je rfl (List.length_map _) ?_ | refine st4 ?_ | intro u)
   refine jf ?_
   repeat' (first | refine st0 ?_ | intro u)
   exact jd (jh rfl rfl rfl rfl jk) rfl
set_option maxHeartbeats 16000000
set_option maxRecDepth 100000
theorem vz {m:Int} {a b:Cell} (h:¬ (goodC m a=true∧goodC m b=true∧a.n + b.n≤1099511627776∧in64 (a.s0 + b.s0)∧(m=2→in64 (a.s1 + b.s1)))):joinC m a b=(zeroC,false):=by
 unfold joinC; rw [if_neg h]
theorem jjd (m:Int) (a b:Cell) (ha:inC 1000000 a) (hb:inC 1000000 b):CP 89 [.c (.int .i64 m),.c (encCell a),.c (encCell b)] (.c (.tup [encCell (joinC m a b).1,.bool (joinC m a b).2])) []:=by
 have c1:=Wr m a ha
 have c2:=Wr m b hb
 obtain ⟨n,s0,s1,b0,b1⟩:=a
 obtain ⟨k,t0,t1,d0,d1⟩:=b
 obtain ⟨hn,hs0,hs1,hr0,hr1,hl0,hl1⟩:=ha
 obtain ⟨in',it0,it1,ir0,ir1,il0,il1⟩:=hb
 simp only at hn hs0 hs1 hr0 hr1 hl0 hl1 in' it0 it1 ir0 ir1 il0 il1
 obtain ⟨hn1,hn2⟩:=hn
 obtain ⟨in1,in2⟩:=in'
 have c3:=jfs b0 d0 (by omega) (by omega)
 have c4:=jfs b1 d1 (by omega) (by omega)
 have c5:=jkq s0 t0 hs0 it0
 have c6:=jkq s1 t1 hs1 it1
 show PCallG _ 89 [.c (.int .i64 m),.c (.agg [.int .i64 n,.int .i64 s0,.int .i64 s1,encL b0,encL b1]),.c (.agg [.int .i64 k,.int .i64 t0,.int .i64 t1,encL d0,encL d1])] _ _
 unfold encCell encC at c1 c2
 refine pcallF Tryz.func89 c89 rfl ?_
 unfold p89
 cases ga:goodC m ⟨n,s0,s1,b0,b1⟩ with
 | false =>
  rw [ga] at c1
  rw [vz (m:=m) (a:=⟨n,s0,s1,b0,b1⟩) (b:=⟨k,t0,t1,d0,d1⟩) (fun h=>by rw [ga] at h; cases h.1)]
  repeat' (first | refine call2 rfl rfl c1 ?_ | refine st8 ?_ | intro u)
  exact jd (jh rfl rfl rfl rfl (Jf rfl jk)) rfl
 | true =>
  rw [ga] at c1
  cases gb:goodC m ⟨k,t0,t1,d0,d1⟩ with
  | false =>
   rw [gb] at c2
   rw [vz (m:=m) (a:=⟨n,s0,s1,b0,b1⟩) (b:=⟨k,t0,t1,d0,d1⟩) (fun h=>by rw [gb] at h; cases h.2.1)]
   repeat' (first | refine call2 rfl rfl c1 ?_ | refine call2 rfl rfl c2 ?_ | refine st8 ?_ | intro u)
   exact jd (jh rfl rfl rfl rfl (Jf rfl jk)) rfl
  | true =>
   rw [gb] at c2
   obtain ⟨hm,⟨g1,g2⟩,g3,g4⟩:=jq.mp ga
   obtain ⟨_,⟨i1,i2⟩,i3,i4⟩:=jq.mp gb
   simp only at g1 g2 g3 g4 i1 i2 i3 i4
   obtain ⟨p1,p2,p3⟩:=kg.mp g3
   obtain ⟨q1,q2,q3⟩:=kg.mp i3
   by_cases hs:n + k≤1099511627776
   ·have j0:=(Vk p1 q1 (by omega)).2.2.2
    rw [j0] at c3
    by_cases f0:I64 (s0 + t0)
    ·rw [if_pos f0] at c5
     by_cases hm2:m=2
     ·rw [if_pos hm2] at g4 i4
      obtain ⟨p4,p5,p6⟩:=kg.mp g4
      obtain ⟨q4,q5,q6⟩:=kg.mp i4
      have j1:=(Vk p4 q4 (by omega)).2.2.2
      rw [j1] at c4
      by_cases f1:I64 (s1 + t1)
      ·rw [if_pos f1] at c6
       rw [show joinC m ⟨n,s0,s1,b0,b1⟩ ⟨k,t0,t1,d0,d1⟩=(⟨n + k,s0 + t0,s1 + t1,(join b0 d0).1,(join b1 d1).1⟩,true) by
        unfold joinC; rw [if_pos ⟨ga,gb,hs,f0,fun _=>f1⟩]; simp [hm2]]
       generalize (join b0 d0).1=o0 at c3
       generalize (join b1 d1).1=o1 at c4
       repeat' (first | refine call2 rfl rfl c1 ?_ | refine call2 rfl rfl c2 ?_ | refine st6 ?_ | intro u)
       refine jf ?_
       unfold b89_0
       repeat' (first | refine call2 rfl rfl c3 ?_ | refine call2 rfl rfl c5 ?_ | refine st7 ?_ | intro u)
       refine jf ?_
       repeat' (first | refine call2 rfl rfl c4 ?_ | refine call2 rfl rfl c6 ?_ | refine st7 ?_ | intro u)
       refine jf ?_
       repeat' (first | refine st0 ?_ | intro u)
       exact jd (jh rfl rfl rfl rfl (Jf rfl jk)) rfl
      ·rw [if_neg f1] at c6
       rw [vz (m:=m) (a:=⟨n,s0,s1,b0,b1⟩) (b:=⟨k,t0,t1,d0,d1⟩) (fun h=>f1 (h.2.2.2.2 hm2))]
       generalize (join b0 d0).1=o0 at c3
       generalize (join b1 d1).1=o1 at c4
       repeat' (first | refine call2 rfl rfl c1 ?_ | refine call2 rfl rfl c2 ?_ | refine st6 ?_ | intro u)
       refine jf ?_
       unfold b89_0
       repeat' (first | refine call2 rfl rfl c3 ?_ | refine call2 rfl rfl c5 ?_ | refine st7 ?_ | intro u)
       refine jf ?_
       repeat' (first | refine call2 rfl rfl c4 ?_ | refine call2 rfl rfl c6 ?_ | refine st7 ?_ | intro u)
       exact jd (jh rfl rfl rfl rfl (Jf rfl jk)) rfl
     ·rw [show joinC m ⟨n,s0,s1,b0,b1⟩ ⟨k,t0,t1,d0,d1⟩=(⟨n + k,s0 + t0,0,(join b0 d0).1,[]⟩,true) by
       unfold joinC; rw [if_pos ⟨ga,gb,hs,f0,fun h=>absurd h hm2⟩]; simp [hm2]]
      generalize (join b0 d0).1=o0 at c3
      repeat' (first | refine call2 rfl rfl c1 ?_ | refine call2 rfl rfl c2 ?_ | refine st6 ?_ | intro u)
      refine jf ?_
      unfold b89_0
      repeat' (first | refine call2 rfl rfl c3 ?_ | refine call2 rfl rfl c5 ?_ | refine st7 ?_ | intro u)
      refine jf ?_
      repeat' (first | refine st0 ?_ | intro u)
      exact jd (jh rfl rfl rfl rfl (Jf rfl jk)) rfl
    ·rw [if_neg f0] at c5
     rw [vz (m:=m) (a:=⟨n,s0,s1,b0,b1⟩) (b:=⟨k,t0,t1,d0,d1⟩) (fun h=>f0 h.2.2.2.1)]
     generalize (join b0 d0).1=o0 at c3
     repeat' (first | refine call2 rfl rfl c1 ?_ | refine call2 rfl rfl c2 ?_ | refine st6 ?_ | intro u)
     refine jf ?_
     unfold b89_0
     repeat' (first | refine call2 rfl rfl c3 ?_ | refine call2 rfl rfl c5 ?_ | refine st7 ?_ | intro u)
     exact jd (jh rfl rfl rfl rfl (Jf rfl jk)) rfl
   ·rw [vz (m:=m) (a:=⟨n,s0,s1,b0,b1⟩) (b:=⟨k,t0,t1,d0,d1⟩) (fun h=>hs h.2.2.1)]
    repeat' (first | refine call2 rfl rfl c1 ?_ | refine call2 rfl rfl c2 ?_ | refine st7 ?_ | intro u)
    exact jd (jh rfl rfl rfl rfl (Jf rfl jk)) rfl
set_option maxHeartbeats 16000000
set_option maxRecDepth 100000
def rcV (p:Cell × Bool):CV:=.agg [.int .i64 p.1.n,.int .i64 p.1.s0,.int .i64 p.1.s1,encL p.1.b0,encL p.1.b1,.bool p.2]
def madeC (m n:Int) (b0 b1:List Run):Cell × Bool :=
 if I64 (wsum b0)∧(m=2→I64 (wsum b1))∧goodC m ⟨n,wsum b0,if m=2 then wsum b1 else 0,b0,b1⟩=true then (⟨n,wsum b0,if m=2 then wsum b1 else 0,b0,b1⟩,true) else (zeroC,false)
theorem X6 {b:List Run} (hl:b.length≤999999) (hr:ranged b) (hg:good b=true):CP 116 [.c (encL b)] (.c (.agg (enc3 (of3 (wsum b))))) []∧CP 146 [.c (.agg (enc3 (of3 (wsum b))))] (.c (if I64 (wsum b) then .tup [.int .i64 (wsum b),.bool true] else .tup [.int .i64 0,.bool false])) []:=by
 have h1:=jca b (by omega) hr
 obtain ⟨g1,g2,g3⟩:=jA.mp hg
 have h0:cap=1099511627776:=rfl
 have h2:=jii _ (Zv b (of3 0) (jlv (by decide)))
 rw [WY b 0 g2 hr (by simp [absI]; omega),Int.zero_add] at h1 h2
 refine ⟨h1,?_⟩
 rw [jfx] at h2
 by_cases h:I64 (wsum b)
 ·rw [if_pos h] at h2 ⊢; exact h2
 ·rw [if_neg h] at h2 ⊢; exact h2
theorem YK (m n:Int) (b0 b1:List Run) (hm:1≤m∧m≤2) (hn:I64 n) (hl0:b0.length≤999999) (hl1:b1.length≤999999) (hr0:ranged b0) (hr1:ranged b1) (g0:good b0=true) (g1:m=2→good b1=true) :
  CP 109 [.c (.int .i64 m),.c (.int .i64 n),.c (.agg [encL b0,encL b1])] (.c (rcV (madeC m n b0 b1))) []:=by
 obtain ⟨c1,c2⟩:=X6 hl0 hr0 g0
 refine pcallF Tryz.func109 c109 rfl ?_
 unfold p109
 repeat' (first | refine st6 ?_ | intro u)
 refine jf ?_
 unfold b109_0
 by_cases f0:I64 (wsum b0)
 ·rw [if_pos f0] at c2
  by_cases hm2:m=2
  ·obtain ⟨c3,c4⟩:=X6 hl1 hr1 (g1 hm2)
   by_cases f1:I64 (wsum b1)
   ·rw [if_pos f1] at c4
    have c5:=wy m ⟨n,wsum b0,wsum b1,b0,b1⟩ ⟨hn,f0,f1,hr0,hr1,hl0,hl1⟩
    unfold encCell encC at c5
    have e0:madeC m n b0 b1=if goodC m ⟨n,wsum b0,wsum b1,b0,b1⟩=true then (⟨n,wsum b0,wsum b1,b0,b1⟩,true) else (zeroC,false):=by
     unfold madeC; rw [if_pos hm2]
     by_cases hg:goodC m ⟨n,wsum b0,wsum b1,b0,b1⟩=true
     ·rw [if_pos hg,if_pos ⟨f0,fun _=>f1,hg⟩]
     ·rw [if_neg hg,if_neg (fun h=>hg h.2.2)]
    rw [e0]
    generalize goodC m ⟨n,wsum b0,wsum b1,b0,b1⟩=g at c5
    generalize wsum b0=w0 at *
    generalize wsum b1=w1 at *
    repeat' (first | refine call1 rfl c1 ?_ | refine call1 rfl c2 ?_ | refine st7 ?_ | intro u)
    refine jf ?_
    repeat' (first | refine call1 rfl c3 ?_ | refine call1 rfl c4 ?_ | refine st7 ?_ | intro u)
    refine jf ?_
    cases g <;>
    repeat' (first | refine call2 rfl rfl c5 ?_ | refine st5 ?_ | intro u)
    all_goals exact jd (jh rfl rfl rfl rfl jk) rfl
   ·rw [if_neg f1] at c4
    rw [show madeC m n b0 b1=(zeroC,false) by unfold madeC; rw [if_neg (fun h=>f1 (h.2.1 hm2))]]
    repeat' (first | refine call1 rfl c1 ?_ | refine call1 rfl c2 ?_ | refine st7 ?_ | intro u)
    refine jf ?_
    repeat' (first | refine call1 rfl c3 ?_ | refine call1 rfl c4 ?_ | refine st7 ?_ | intro u)
    exact jd (jh rfl rfl rfl rfl jk) rfl
  ·have c5:=wy m ⟨n,wsum b0,0,b0,b1⟩ ⟨hn,f0,(by show in64 0; decide),hr0,hr1,hl0,hl1⟩
   unfold encCell encC at c5
   have e0:madeC m n b0 b1=if goodC m ⟨n,wsum b0,0,b0,b1⟩=true then (⟨n,wsum b0,0,b0,b1⟩,true) else (zeroC,false):=by
    unfold madeC; rw [if_neg hm2]
    by_cases hg:goodC m ⟨n,wsum b0,0,b0,b1⟩=true
    ·rw [if_pos hg,if_pos ⟨f0,fun h=>absurd h hm2,hg⟩]
    ·rw [if_neg hg,if_neg (fun h=>hg h.2.2)]
   rw [e0]
   generalize goodC m ⟨n,wsum b0,0,b0,b1⟩=g at c5
   generalize wsum b0=w0 at *
   repeat' (first | refine call1 rfl c1 ?_ | refine call1 rfl c2 ?_ | refine st7 ?_ | intro u)
   refine jf ?_
   cases g <;>
   repeat' (first | refine call2 rfl rfl c5 ?_ | refine st5 ?_ | intro u)
   all_goals exact jd (jh rfl rfl rfl rfl jk) rfl
 ·rw [if_neg f0] at c2
  rw [show madeC m n b0 b1=(zeroC,false) by unfold madeC; rw [if_neg (fun h=>f0 h.1)]]
  repeat' (first | refine call1 rfl c1 ?_ | refine call1 rfl c2 ?_ | refine st7 ?_ | intro u)
  exact jd (jh rfl rfl rfl rfl jk) rfl
def two (b:Bool) (x y:CV):List CV:=match b with | false=>[x,y] | true=>[y,x]
def bi (b:Bool):Int:=if b then 1 else 0
theorem Xl {K:KT} (l:List RowS) (hlen:l.length≤1000) (b:Bool) (y:CV) (v5:Nat) (v0 v4:PV) (x4:Box):∀ (rest:List RowS) (k:Nat) (out:List Run) (s:PS),l.drop k=rest→k≤l.length→asc out→pos out→out.length≤k→sum out=k →
  s.t 1=.c (encRows l)→s.t 7=.c (.int .i64 k)→s.t 6=.c (.int .i64 (bi b))→s.t 5=.ptr 5 v5 0→s.bx 5=⟨v5,.var (two b (encL out) y)⟩ →
  s.t 0=v0→s.t 4=v4→s.bx 4=x4 →
  (∀ s',s'.t 1=.c (encRows l)→s'.t 6=.c (.int .i64 (bi b))→s'.t 5=.ptr 5 v5 0→s'.bx 5=⟨v5,.var (two b (encL (rofS out (rest.map (mv (bi b))))) y)⟩→s'.t 0=v0→s'.t 4=v4→s'.bx 4=x4→K (.x 2) s')→wP (CP) (.loop b68_1) s K:=by
 intro rest
 induction rest with
 | nil =>
  intro k out s hd hk ha hp hl hs t1 t7 t6 t5 b5 t0 t4 b4 hx
  refine jf ?_
  have hk':=jm hd hk
  subst hk'
  rw [← ja t1,← ja t7,← ja t6,← ja t5,← ja t0,← ja t4,← jc b5,← jc b4]
  unfold b68_1
  repeat' (first | refine je rfl (List.length_map _) ?_ | refine st0 ?_ | intro u)
  exact hx _ rfl rfl rfl rfl rfl rfl rfl
 | cons r rest ih =>
  intro k out s hd hk ha hp hl hs t1 t7 t6 t5 b5 t0 t4 b4 hx
  refine jf ?_
  have he:=jil hd
  have hkl:=jfz hd
  have hn:=jg hd
  cases b with
  | false =>
   simp only [show bi false=0 from rfl] at t6 hx ih
   have hM:=jfu out (mv 0 r) 1 (by omega) fun q hq=>by have:=Ji hp q hq; omega
   obtain ⟨f1,f2,f3,f4,f5⟩:=vK out (mv 0 r) 1
   obtain ⟨g1,g2⟩:=Vj (v:=mv 0 r) (n:=1) ha hp (by decide) (by have:=jU (mv 0 r) hp; omega)
   rw [← ja t1,← ja t7,← ja t6,← ja t5,← ja t0,← ja t4,← jc b5,← jc b4]
   unfold b68_1
   repeat' (first | refine je rfl (List.length_map _) ?_ | refine call3 rfl rfl rfl hM ?_ | refine st4 ?_ | intro u)
   exact ih (k + 1) (lay out (mv 0 r) 1) _ hn (by omega) g1 g2 (by omega) (by omega) (by rfl) (by rfl) (by rfl) (by rfl) (by rfl) (by rfl) (by rfl) (by rfl) hx
  | true =>
   simp only [show bi true=1 from rfl] at t6 hx ih
   have hM:=jfu out (mv 1 r) 1 (by omega) fun q hq=>by have:=Ji hp q hq; omega
   obtain ⟨f1,f2,f3,f4,f5⟩:=vK out (mv 1 r) 1
   obtain ⟨g1,g2⟩:=Vj (v:=mv 1 r) (n:=1) ha hp (by decide) (by have:=jU (mv 1 r) hp; omega)
   rw [← ja t1,← ja t7,← ja t6,← ja t5,← ja t0,← ja t4,← jc b5,← jc b4]
   unfold b68_1
   repeat' (first | refine je rfl (List.length_map _) ?_ | refine call3 rfl rfl rfl hM ?_ | refine st4 ?_ | intro u)
   exact ih (k + 1) (lay out (mv 1 r) 1) _ hn (by omega) g1 g2 (by omega) (by omega) (by rfl) (by rfl) (by rfl) (by rfl) (by rfl) (by rfl) (by rfl) (by rfl) hx
theorem VN {v:List Int} (hl:1≤v.length∧v.length≤1000):gM (ofL v) (sumI v) v.length=true:=by
 obtain ⟨_,_,_,h4,_⟩:=jJ v
 exact kg.mpr ⟨vS (by omega),wx v,h4⟩
theorem jlz (m:Int) (l:List RowS) (hlen:l.length≤1000) (hr:∀ r∈l,inR r):CP 68 [.c (.int .i64 m),.c (encRows l)] (.c (rcV (ofC m l))) []:=by
 refine pcallF Tryz.func68 c68 rfl ?_
 have l0:(l.map (·.m0)).length=l.length:=List.length_map _
 have l1:(l.map (·.m1)).length=l.length:=List.length_map _
 have r0:∀ a∈l.map (·.m0),I64 a:=fun a ha=>by obtain ⟨r,hr',rfl⟩:=List.mem_map.mp ha; exact (hr r hr').1
 have r1:∀ a∈l.map (·.m1),I64 a:=fun a ha=>by obtain ⟨r,hr',rfl⟩:=List.mem_map.mp ha; exact (hr r hr').2
 have k0:=(jJ (l.map (·.m0))).2.2.2.2
 have k1:=(jJ (l.map (·.m1))).2.2.2.2
 have g0:good (ofL (l.map (·.m0)))=true:=vS (by omega)
 have g1:good (ofL (l.map (·.m1)))=true:=vS (by omega)
 unfold p68
 by_cases hm:1≤m∧m≤2
 ·cases l with
  | nil =>
   rw [show ofC m []=(zeroC,false) by simp [ofC]]
   repeat' (first | refine je (es:=[]) rfl rfl ?_ | refine st7 ?_ | intro u)
   exact jd (jh rfl rfl rfl rfl jk) rfl
  | cons r0' l' =>
   generalize hL:r0'::l'=l at *
   have hne:l≠[]:=by rw [← hL]; simp
   have hpos:0 < l.length:=by rw [← hL]; simp
   have lenE:(l.map encRow).length=l.length:=List.length_map _
   by_cases hm2:m=2
   ·have cM:=YK m l.length (ofL (l.map (·.m0))) (ofL (l.map (·.m1))) hm (by constructor <;> omega) (by omega) (by omega) (va r0 (by omega)) (va r1 (by omega)) g0 (fun _=>g1)
    have e:madeC m l.length (ofL (l.map (·.m0))) (ofL (l.map (·.m1)))=ofC m l:=by
     unfold madeC ofC
     rw [wx,wx]
     simp only [if_pos hm2]
     have hg:goodC m ⟨l.length,sumI (l.map (·.m0)),sumI (l.map (·.m1)),ofL (l.map (·.m0)),ofL (l.map (·.m1))⟩=true:=by
      refine jq.mpr ⟨hm,⟨by simp; omega,by simp; omega⟩,?_,?_⟩
      ·have:=VN (v:=l.map (·.m0)) (by omega); rw [l0] at this; exact this
      ·rw [if_pos hm2]; have:=VN (v:=l.map (·.m1)) (by omega); rw [l1] at this; exact this
     by_cases hf:I64 (sumI (l.map (·.m0)))∧I64 (sumI (l.map (·.m1)))
     ·rw [if_pos ⟨hf.1,fun _=>hf.2,hg⟩,if_pos ⟨hm,hne,hf.1,fun _=>hf.2⟩]
     ·rw [if_neg (fun h=>hf ⟨h.1,h.2.1 hm2⟩),if_neg (fun h=>hf ⟨h.2.2.1,h.2.2.2 hm2⟩)]
    rw [e] at cM
    generalize ofC m l=q at cM ⊢
    repeat' (first | refine je rfl lenE ?_ | refine st7 ?_ | intro u)
    refine jf ?_
    unfold b68_0
    repeat' (first | refine st1 ?_ | intro u)
    refine Xl l hlen false _ _ _ _ _ l 0 [] _ rfl (by omega) (by simp [asc]) (fun q hq=>by simp at hq) (by simp) (by simp [sum]) (by rfl) (by rfl) (by rfl) (by rfl) (by rfl) (by rfl) (by rfl) (by rfl) ?_
    intro s' t1 t6 t5 b5 t0 t4 b4
    rw [WU,show mv (bi false)=(·.m0) from mv0] at b5
    rw [show bi false=0 from rfl] at t6
    rw [← ja t1,← ja t6,← ja t5,← ja t0,← ja t4,← jc b5,← jc b4]
    repeat' (first | refine st0 ?_ | intro u)
    refine jf ?_
    repeat' (first | refine st1 ?_ | intro u)
    refine Xl l hlen true _ _ _ _ _ l 0 [] _ rfl (by omega) (by simp [asc]) (fun q hq=>by simp at hq) (by simp) (by simp [sum]) (by rfl) (by rfl) (by rfl) (by rfl) (by rfl) (by rfl) (by rfl) (by rfl) ?_
    intro s' t1 t6 t5 b5 t0 t4 b4
    rw [WU,show mv (bi true)=(·.m1) from mv1] at b5
    rw [show bi true=1 from rfl] at t6
    rw [← ja t1,← ja t6,← ja t5,← ja t0,← ja t4,← jc b5,← jc b4]
    repeat' (first | refine st0 ?_ | intro u)
    refine jf ?_
    repeat' (first | refine je rfl lenE ?_ | refine call3 rfl rfl rfl cM ?_ | refine st0 ?_ | intro u)
    exact jd (jh rfl rfl rfl rfl jk) rfl
   ·have cM:=YK m l.length (ofL (l.map (·.m0))) [] hm (by constructor <;> omega) (by omega) (by simp) (va r0 (by omega)) (fun q hq=>by simp at hq) g0 (fun h=>absurd h hm2)
    have e:madeC m l.length (ofL (l.map (·.m0))) []=ofC m l:=by
     unfold madeC ofC
     rw [wx]
     simp only [if_neg hm2]
     have hg:goodC m ⟨l.length,sumI (l.map (·.m0)),0,ofL (l.map (·.m0)),[]⟩=true:=by
      refine jq.mpr ⟨hm,⟨by simp; omega,by simp; omega⟩,?_,?_⟩
      ·have:=VN (v:=l.map (·.m0)) (by omega); rw [l0] at this; exact this
      ·rw [if_neg hm2]; exact ⟨rfl,rfl⟩
     by_cases hf:I64 (sumI (l.map (·.m0)))
     ·rw [if_pos ⟨hf,fun h=>absurd h hm2,hg⟩,if_pos ⟨hm,hne,hf,fun h=>absurd h hm2⟩]
     ·rw [if_neg (fun h=>hf h.1),if_neg (fun h=>hf h.2.2.1)]
    rw [e] at cM
    generalize ofC m l=q at cM ⊢
    repeat' (first | refine je rfl lenE ?_ | refine st7 ?_ | intro u)
    refine jf ?_
    unfold b68_0
    repeat' (first | refine st1 ?_ | intro u)
    refine Xl l hlen false _ _ _ _ _ l 0 [] _ rfl (by omega) (by simp [asc]) (fun q hq=>by simp at hq) (by simp) (by simp [sum]) (by rfl) (by rfl) (by rfl) (by rfl) (by rfl) (by rfl) (by rfl) (by rfl) ?_
    intro s' t1 t6 t5 b5 t0 t4 b4
    rw [WU,show mv (bi false)=(·.m0) from mv0] at b5
    rw [show bi false=0 from rfl] at t6
    rw [← ja t1,← ja t6,← ja t5,← ja t0,← ja t4,← jc b5,← jc b4]
    repeat' (first | refine st0 ?_ | intro u)
    refine jf ?_
    repeat' (first | refine je rfl lenE ?_ | refine call3 rfl rfl rfl cM ?_ | refine st0 ?_ | intro u)
    exact jd (jh rfl rfl rfl rfl jk) rfl
 ·rw [show ofC m l=(zeroC,false) by unfold ofC; rw [if_neg (fun h=>hm h.1)]]
  by_cases h1:m < 1
  ·repeat' (first | refine st4 ?_ | intro u)
   exact jd (jh rfl rfl rfl rfl jk) rfl
  ·repeat' (first | refine st8 ?_ | intro u)
   exact jd (jh rfl rfl rfl rfl jk) rfl
theorem jgg (m:Int) (a b:Cell) (ha:inC 400000 a) (hb:inC 400000 b):CP 110 [.c (.int .i64 m),.c (encCell a),.c (encCell b)] (.c (rcV (joinC m a b))) []:=by
 have up:∀ c,inC 400000 c→inC 999999 c:=fun c h=>⟨h.1,h.2.1,h.2.2.1,h.2.2.2.1,h.2.2.2.2.1,by have:=h.2.2.2.2.2.1; omega,by have:=h.2.2.2.2.2.2; omega⟩
 have c1:=wy m a (up a ha)
 have c2:=wy m b (up b hb)
 obtain ⟨n,s0,s1,b0,b1⟩:=a
 obtain ⟨k,t0,t1,d0,d1⟩:=b
 obtain ⟨hn,hs0,hs1,hr0,hr1,hl0,hl1⟩:=ha
 obtain ⟨in',it0,it1,ir0,ir1,il0,il1⟩:=hb
 simp only at hn hs0 hs1 hr0 hr1 hl0 hl1 in' it0 it1 ir0 ir1 il0 il1
 obtain ⟨hn1,hn2⟩:=hn
 obtain ⟨in1,in2⟩:=in'
 have c3:=jb7 b0 d0 (by omega) (by omega)
 have c4:=jb7 b1 d1 (by omega) (by omega)
 unfold bagV at c3 c4
 show PCallG _ 110 [.c (.int .i64 m),.c (.agg [.int .i64 n,.int .i64 s0,.int .i64 s1,encL b0,encL b1]),.c (.agg [.int .i64 k,.int .i64 t0,.int .i64 t1,encL d0,encL d1])] _ _
 unfold encCell encC at c1 c2
 refine pcallF Tryz.func110 c110 rfl ?_
 unfold p110
 cases ga:goodC m ⟨n,s0,s1,b0,b1⟩ with
 | false =>
  rw [ga] at c1
  rw [vz (m:=m) (a:=⟨n,s0,s1,b0,b1⟩) (b:=⟨k,t0,t1,d0,d1⟩) (fun h=>by rw [ga] at h; cases h.1)]
  repeat' (first | refine call2 rfl rfl c1 ?_ | refine st8 ?_ | intro u)
  exact jd (jh rfl rfl rfl rfl jk) rfl
 | true =>
  rw [ga] at c1
  cases gb:goodC m ⟨k,t0,t1,d0,d1⟩ with
  | false =>
   rw [gb] at c2
   rw [vz (m:=m) (a:=⟨n,s0,s1,b0,b1⟩) (b:=⟨k,t0,t1,d0,d1⟩) (fun h=>by rw [gb] at h; cases h.2.1)]
   repeat' (first | refine call2 rfl rfl c1 ?_ | refine call2 rfl rfl c2 ?_ | refine st7 ?_ | intro u)
   exact jd (jh rfl rfl rfl rfl jk) rfl
  | true =>
   rw [gb] at c2
   obtain ⟨hm,⟨g1,g2⟩,g3,g4⟩:=jq.mp ga
   obtain ⟨_,⟨i1,i2⟩,i3,i4⟩:=jq.mp gb
   simp only at g1 g2 g3 g4 i1 i2 i3 i4
   obtain ⟨p1,p2,p3⟩:=kg.mp g3
   obtain ⟨q1,q2,q3⟩:=kg.mp i3
   by_cases hs:n + k≤1099511627776
   ·obtain ⟨x1,x2,x3,j0⟩:=Vk p1 q1 (by omega)
    rw [j0] at c3
    have rj:∀ (x y:List Run),ranged x→ranged y→good x=true→good y=true→sum x + sum y≤1099511627776→ranged (join x y).1:=fun x y hx hy gx gy hxy=>by
     obtain ⟨o,e1,e2,e3,e4⟩:=wW gx gy hxy
     rw [e1]
     obtain ⟨o1,o2,o3⟩:=jA.mp e2
     have h0:cap=1099511627776:=rfl
     obtain ⟨gx1,gx2,_⟩:=jA.mp gx
     obtain ⟨gy1,gy2,_⟩:=jA.mp gy
     intro r hr
     have h1:=Ji o2 r hr
     refine ⟨?_,by omega,by omega⟩
     have h2:=vG o2 hr
     rw [e4] at h2
     by_cases hx0:cnt x r.1=0
     ·obtain ⟨q,hq,hqe⟩:=k9 (l:=y) (v:=r.1) (by omega)
      rw [← hqe]; exact (hy q hq).1
     ·obtain ⟨q,hq,hqe⟩:=k9 (l:=x) (v:=r.1) hx0
      rw [← hqe]; exact (hx q hq).1
    have y0:=rj b0 d0 hr0 ir0 p1 q1 (by omega)
    have z0:=Zs b0 d0
    by_cases hm2:m=2
    ·rw [if_pos hm2] at g4 i4
     obtain ⟨p4,p5,p6⟩:=kg.mp g4
     obtain ⟨q4,q5,q6⟩:=kg.mp i4
     obtain ⟨x4,x5,x6,j1⟩:=Vk p4 q4 (by omega)
     rw [j1] at c4
     have y1:=rj b1 d1 hr1 ir1 p4 q4 (by omega)
     have z1:=Zs b1 d1
     have cM:=YK m (n + k) (join b0 d0).1 (join b1 d1).1 hm (by constructor <;> omega) (by omega) (by omega) y0 y1 x1 (fun _=>x4)
     have e:madeC m (n + k) (join b0 d0).1 (join b1 d1).1=joinC m ⟨n,s0,s1,b0,b1⟩ ⟨k,t0,t1,d0,d1⟩:=by
      unfold madeC joinC
      rw [x3,x6,p2,q2,p5,q5]
      simp only [if_pos hm2]
      have hg:goodC m ⟨n + k,s0 + t0,s1 + t1,(join b0 d0).1,(join b1 d1).1⟩=true :=
       jq.mpr ⟨hm,⟨by simp; omega,by simp; omega⟩,kg.mpr ⟨x1,by rw [x3,p2,q2],by rw [x2,p3,q3]⟩,by rw [if_pos hm2]; exact kg.mpr ⟨x4,by rw [x6,p5,q5],by rw [x5,p6,q6]⟩⟩
      by_cases hf:I64 (s0 + t0)∧I64 (s1 + t1)
      ·rw [if_pos ⟨hf.1,fun _=>hf.2,hg⟩,if_pos ⟨ga,gb,hs,hf.1,fun _=>hf.2⟩]
      ·rw [if_neg (fun h=>hf ⟨h.1,h.2.1 hm2⟩),if_neg (fun h=>hf ⟨h.2.2.2.1,h.2.2.2.2 hm2⟩)]
     rw [e] at cM
     generalize joinC m ⟨n,s0,s1,b0,b1⟩ ⟨k,t0,t1,d0,d1⟩=q at cM ⊢
     generalize (join b0 d0).1=o0 at c3 cM
     generalize (join b1 d1).1=o1 at c4 cM
     repeat' (first | refine call2 rfl rfl c1 ?_ | refine call2 rfl rfl c2 ?_ | refine st3 ?_ | intro u)
     refine jf ?_
     unfold b110_0
     repeat' (first | refine call2 rfl rfl c3 ?_ | refine st7 ?_ | intro u)
     refine jf ?_
     repeat' (first | refine call2 rfl rfl c4 ?_ | refine st7 ?_ | intro u)
     refine jf ?_
     repeat' (first | refine call3 rfl rfl rfl cM ?_ | refine st0 ?_ | intro u)
     exact jd (jh rfl rfl rfl rfl jk) rfl
    ·have cM:=YK m (n + k) (join b0 d0).1 [] hm (by constructor <;> omega) (by omega) (by simp) y0 (fun q hq=>by simp at hq) x1 (fun h=>absurd h hm2)
     have e:madeC m (n + k) (join b0 d0).1 []=joinC m ⟨n,s0,s1,b0,b1⟩ ⟨k,t0,t1,d0,d1⟩:=by
      unfold madeC joinC
      rw [x3,p2,q2]
      simp only [if_neg hm2]
      have hg:goodC m ⟨n + k,s0 + t0,0,(join b0 d0).1,[]⟩=true :=
       jq.mpr ⟨hm,⟨by simp; omega,by simp; omega⟩,kg.mpr ⟨x1,by rw [x3,p2,q2],by rw [x2,p3,q3]⟩,by rw [if_neg hm2]; exact ⟨rfl,rfl⟩⟩
      by_cases hf:I64 (s0 + t0)
      ·rw [if_pos ⟨hf,fun h=>absurd h hm2,hg⟩,if_pos ⟨ga,gb,hs,hf,fun h=>absurd h hm2⟩]
      ·rw [if_neg (fun h=>hf h.1),if_neg (fun h=>hf h.2.2.2.1)]
     rw [e] at cM
     generalize joinC m ⟨n,s0,s1,b0,b1⟩ ⟨k,t0,t1,d0,d1⟩=q at cM ⊢
     generalize (join b0 d0).1=o0 at c3 cM
     repeat' (first | refine call2 rfl rfl c1 ?_ | refine call2 rfl rfl c2 ?_ | refine st3 ?_ | intro u)
     refine jf ?_
     unfold b110_0
     repeat' (first | refine call2 rfl rfl c3 ?_ | refine st7 ?_ | intro u)
     refine jf ?_
     repeat' (first | refine call3 rfl rfl rfl cM ?_ | refine st0 ?_ | intro u)
     exact jd (jh rfl rfl rfl rfl jk) rfl
   ·rw [vz (m:=m) (a:=⟨n,s0,s1,b0,b1⟩) (b:=⟨k,t0,t1,d0,d1⟩) (fun h=>hs h.2.2.1)]
    rw [JB (by rw [p1,q1,p3,q3]; simp [cap]; omega)] at c3
    repeat' (first | refine call2 rfl rfl c1 ?_ | refine call2 rfl rfl c2 ?_ | refine st3 ?_ | intro u)
    refine jf ?_
    unfold b110_0
    repeat' (first | refine call2 rfl rfl c3 ?_ | refine st7 ?_ | intro u)
    exact jd (jh rfl rfl rfl rfl jk) rfl
end Go.Proofs.YtnpncbplhdnonaaGreat
/- Part of the proof of ExecTells, ExecAnswers, ExecBest, ExecFirst, ExecLevels, ExecTops, ExecLimits: lemmas. -/
import Derived.Test.YtnpncbplhdnonaaGreatExecS16
import Derived.Test.YtnpncbplhdnonaaGreatExecS21
import Derived.Test.YtnpncbplhdnonaaGreatExecS26
set_option linter.unusedVariables false
set_option linter.unusedSimpArgs false
namespace Go.Proofs.YtnpncbplhdnonaaGreat
open Go.Pl Go.Bag
set_option maxRecDepth 100000
set_option maxHeartbeats 16000000
/-! ### A cell in memory of its own -/
theorem jl0 (c:Cell) (hc:inC 1000000 c):CP 88 [.c (encCell c)] (.c (encCell c)) []:=by
 have hb0:=Xa (c.b0.map encR) (by have:=hc.2.2.2.2.2.1; simp; omega) (by intro e he; obtain ⟨r,_,rfl⟩:=List.mem_map.mp he; rfl)
 have hb1:=Xa (c.b1.map encR) (by have:=hc.2.2.2.2.2.2; simp; omega) (by intro e he; obtain ⟨r,_,rfl⟩:=List.mem_map.mp he; rfl)
 refine pcallF Tryz.func88 c88 rfl ?_
 unfold encCell encC encL
 unfold p88
 repeat' (first | refine st3 ?_ | intro u)
 refine jf ?_
 unfold b88_0
 repeat' (first | refine VD rfl rfl ⟨by omega,by omega,Nat.le_of_ble_eq_true rfl⟩ rfl ?_ | refine call1 rfl hb0 ?_ | refine st4 ?_ | intro u)
 refine jf ?_
 repeat' (first | refine VD rfl rfl ⟨by omega,by omega,Nat.le_of_ble_eq_true rfl⟩ rfl ?_ | refine call1 rfl hb1 ?_ | refine st4 ?_ | intro u)
 refine jf ?_
 repeat' (first | refine st0 ?_ | intro u)
 exact jd (jh rfl rfl rfl rfl jk) rfl
/-! ### A map's elements -/
abbrev sh4:List LK:=[.i,.i,.i,.i]
def encM (P:List Pr):List (CV × CV):=P.map fun p=>(.agg (encP p.1),encCell p.2)
theorem Wc {a:Go.Bag.Place}:∀ {P:List Pr},(∀ p∈P,p.1≠a)→mfind sh4 (.agg (encP a)) (encM P)=some none
 | [],_=>rfl
 | p::P,h=>by
  show mfind sh4 (.agg (encP a)) ((.agg (encP p.1),encCell p.2)::encM P)=_
  have:=h p (by simp)
  rw [mfind,w9,decide_eq_false (fun e=>this e.symm)]
  exact Wc fun q hq=>h q (by simp [hq])
theorem Jl {a:Go.Bag.Place} {x:Cell}:∀ {P:List Pr},P.Pairwise (fun p q=>p.1≠q.1)→(a,x)∈P→mfind sh4 (.agg (encP a)) (encM P)=some (some (encCell x))
 | [],_,h=>by simp at h
 | p::P,hP,h=>by
  show mfind sh4 (.agg (encP a)) ((.agg (encP p.1),encCell p.2)::encM P)=_
  rw [List.pairwise_cons] at hP
  rw [mfind,w9]
  rcases List.mem_cons.mp h with rfl | h
  ·rw [decide_eq_true rfl]
  ·have:=hP.1 _ h
   rw [decide_eq_false (fun e=>this e.symm)]
   exact Jl hP.2 h
theorem Xo {a:Go.Bag.Place} {c:Cell}:∀ {P:List Pr},(∀ p∈P,p.1≠a)→mset sh4 (.agg (encP a)) (encCell c) (encM P)=some (encM (P++[(a,c)]))
 | [],_=>rfl
 | p::P,h=>by
  show mset sh4 (.agg (encP a)) _ ((.agg (encP p.1),encCell p.2)::encM P)=_
  have:=h p (by simp)
  rw [mset,w9,decide_eq_false (fun e=>this e.symm)]
  simp only [Xo (c:=c) fun q hq=>h q (List.mem_cons_of_mem _ hq)]
  rfl
theorem Xp {a:Go.Bag.Place} {x j:Cell}:∀ {P:List Pr},P.Pairwise (fun p q=>p.1≠q.1)→(a,x)∈P→mset sh4 (.agg (encP a)) (encCell j) (encM P)=some (encM (setP a j P))
 | [],_,h=>by simp at h
 | p::P,hP,h=>by
  show mset sh4 (.agg (encP a)) _ ((.agg (encP p.1),encCell p.2)::encM P)=_
  rw [List.pairwise_cons] at hP
  rw [mset,w9]
  rcases List.mem_cons.mp h with rfl | h
  ·rw [decide_eq_true rfl]
   have:setP a j ((a,x)::P)=(a,j)::P:=by
    unfold setP
    rw [List.map_cons,if_pos rfl]
    congr 1
    exact ZM fun q hq=>(hP.1 q hq).symm
   rw [this]
   rfl
  ·have hne:=hP.1 _ h
   rw [decide_eq_false (fun e=>hne e.symm)]
   have:setP a j (p::P)=p::setP a j P:=by
    unfold setP
    rw [List.map_cons,if_neg hne]
   rw [this]
   simp only [Xp (j:=j) hP.2 h]
   rfl
theorem jct {L P:List Pr} (h:Rise L) (hp:P.Perm L):P.Pairwise (fun p q=>p.1≠q.1) :=
 (hp.pairwise_iff (fun {_ _} h=>fun e=>h e.symm)).mpr (h.imp fun {a b} hlt e=>by rw [e] at hlt; omega)
theorem jjh {a:Go.Bag.Place} {j:Cell} {k:Nat} {L:List Pr} (h:inPs k L) (ha:u8P a) (hj:inC k j):inPs k (setP a j L):=by
 intro p hp
 obtain ⟨q,hq,rfl⟩:=List.mem_map.mp hp
 split
 ·exact ⟨ha,hj⟩
 ·exact h q hq
theorem Xq (c:CatS) (f t a:Go.Bag.Place):u8P (toP c f t a).1:=by
 unfold toP
 split
 ·intro x hx
  have hall:∀ (ds:List DimS) (xs ys zs:List Int),∀ z∈liftL ds xs ys zs,0≤z∧z≤255:=by
   intro ds
   induction ds with
   | nil=>intro xs ys zs z hz; simp [liftL] at hz
   | cons d ds ih =>
    intro xs ys zs z hz
    match xs,ys,zs with
    | x::xs,y::ys,w::zs =>
     simp only [liftL,List.mem_cons] at hz
     rcases hz with rfl | hz
     ·have:=W8 d x y w; omega
     ·exact ih xs ys zs z hz
    | [],_,_=>simp [liftL] at hz
    | _::_,[],_=>simp [liftL] at hz
    | _::_,_::_,[]=>simp [liftL] at hz
  have hg:∀ i,0≤(liftL c.dims (placeL f) (placeL t) (placeL a)).getD i 0∧(liftL c.dims (placeL f) (placeL t) (placeL a)).getD i 0≤255:=by
   intro i
   by_cases hi:i < (liftL c.dims (placeL f) (placeL t) (placeL a)).length
   ·rw [List.getD_eq_getElem?_getD,List.getElem?_eq_getElem hi]
    exact hall _ _ _ _ _ (List.getElem_mem hi)
   ·rw [List.getD_eq_getElem?_getD,List.getElem?_eq_none (by omega)]
    simp
  simp only [placeL,ofP,List.mem_cons,List.not_mem_nil,or_false] at hx
  rcases hx with rfl | rfl | rfl | rfl <;> exact hg _
 ·exact jv
theorem jji {K:KT} (c:CatS) (h:okCat2 c) (f t:Go.Bag.Place) (hf:u8P f) (ht:u8P t) (l:List Pr) (k:Nat) (hl:inPs k l) (hlen:l.length≤100000) (hk:k * (l.length + 1)≤1000000) (v4 v5 v6 v21:Nat):∀ (rest:List Pr) (i:Nat) (P L:List Pr) (s:PS),l.drop i=rest→i≤l.length→P.Perm L→Rise L→inPs (k * i) L→L.length≤i →
  s.t 4=.ptr 4 v4 0→s.bx 4=⟨v4,.var (encCat c)⟩→s.t 5=.ptr 5 v5 0→s.bx 5=⟨v5,.var (encP f)⟩→s.t 6=.ptr 6 v6 0→s.bx 6=⟨v6,.var (encP t)⟩→s.t 10=.mp 21 v21→s.bx 21=⟨v21,.mp (mcl (encM P))⟩→s.t 22=.c (encPrs l)→s.t 23=.c (.int .i64 l.length)→s.t 24=.c (.int .i64 i) →
  (∀ L' P',laysX c.m L (toS c f t rest)=some L'→P'.Perm L'→Rise L'→inPs (k * l.length) L'→L'.length≤l.length→∀ s',s'.t 10=.mp 21 v21→s'.bx 21=⟨v21,.mp (mcl (encM P'))⟩→K (.x 0) s') →
  (laysX c.m L (toS c f t rest)=none→∀ s',s'.t 8=.c (.sl [])→s'.t 9=.c (.bool false)→K .r s')→wP (CP) (.loop b54_0) s K:=by
 intro rest
 induction rest with
 | nil =>
  intro i P L s hd hi hP hR hL hLl t4 b4 t5 b5 t6 b6 t10 b10 t22 t23 t24 hx hr
  refine jf ?_
  have:=jm hd hi
  subst this
  rw [← ja t10,← jc b10,← ja t22,← ja t23,← ja t24]
  unfold b54_0
  repeat' (first | refine st0 ?_ | intro u)
  exact hx L P rfl hP hR hL hLl _ (by rfl) (by rfl)
 | cons q rest ih =>
  intro i P L s hd hi hP hR hL hLl t4 b4 t5 b5 t6 b6 t10 b10 t22 t23 t24 hx hr
  refine jf ?_
  have he:(l.map encPr)[((i:Nat):Int).toNat]? = some (encPr q):=jp hd
  have hil:=jo hd
  have hn:=jg hd
  have hq:=hl q (List.mem_of_mem_drop (by rw [hd]; simp))
  have c1:=jni c f t q.1 h hf ht hq.1
  have hua:=Xq c f t q.1
  have hst:∀ L,laysX c.m L (toS c f t (q::rest))=(layX c.m L (toP c f t q.1).1 q.2).bind fun L'=>laysX c.m L' (toS c f t rest):=fun _=>rfl
  have hki:k * (i + 1)≤1000000:=Nat.le_trans (Nat.mul_le_mul_left k (by omega)) hk
  have hkm:k * (i + 1)=k * i + k:=Nat.mul_succ k i
  have c2:=jl0 q.2 (kN hq.2 (by omega))
  rw [hst] at hx hr
  have ih':=fun P L s=>ih (i + 1) P L s hn (by omega)
  have hrr:=w9 (toP c f t q.1).1 (toP c f t q.1).1
  rw [decide_eq_true rfl] at hrr
  generalize (toP c f t q.1).1=a at *
  generalize (toP c f t q.1).2=ab at *
  by_cases hin:∃ x,(a,x)∈L
  ·obtain ⟨x,hxL⟩:=hin
   have hxP:=hP.mem_iff.mpr hxL
   have hnd:=jct hR hP
   have hold:=Xk (m:=c.m) (c:=q.2) hR hxL
   have mf:mfind sh4 (.agg (encP a)) (mcl (encM P))=some (some (.c (encCell x))):=by
    rw [VI,Jl hnd hxP]
    rfl
   have ms:mset sh4 (.agg (encP a)) (.c (encCell (joinC c.m x q.2).1)) (mcl (encM P))=some (mcl (encM (setP a (joinC c.m x q.2).1 P))):=by
    rw [WO,Xp hnd hxP]
    rfl
   have hxi:=(hL _ hxL).2
   have c3:=jjd c.m x q.2 (kN hxi (by omega)) (kN hq.2 (by omega))
   have hji:inC (k * (i + 1)) (joinC c.m x q.2).1:=by rw [hkm]; exact ZK hxi hq.2
   rw [hold] at hx hr
   generalize (joinC c.m x q.2).1=j at *
   generalize (joinC c.m x q.2).2=jb at *
   rw [← ja t4,← jc b4,← ja t5,← jc b5,← ja t6,← jc b6,← ja t10,← jc b10,← ja t22,← ja t23,← ja t24]
   unfold encCat at *
   generalize hes:mcl (encM P)=es at *
   generalize hes':mcl (encM (setP a j P))=es' at *
   unfold encPrs encPr encCell encC encP at *
   dsimp only [List.cons_append,List.nil_append] at *
   unfold b54_0
   cases jb with
   | false =>
    repeat' (first | refine ji rfl rfl (by omega) he rfl ?_ | refine call4 rfl rfl rfl rfl c1 ?_ | refine jb1 rfl ?_ | refine YB rfl rfl rfl hrr mf rfl ?_ | refine call3 rfl rfl rfl c3 ?_ | refine st3 ?_ | intro u)
    exact hr rfl _ (by rfl) (by rfl)
   | true =>
    repeat' (first | refine ji rfl rfl (by omega) he rfl ?_ | refine call4 rfl rfl rfl rfl c1 ?_ | refine jb1 rfl ?_ | refine YB rfl rfl rfl hrr mf rfl ?_ | refine call3 rfl rfl rfl c3 ?_ | refine jfo rfl rfl rfl rfl hrr ms ?_ | refine st7 ?_ | intro u)
    have hin':inPs (k * (i + 1)) (setP a j L):=jjh (jS hL (by omega)) hua hji
    have hR':Rise (setP a j L):=wD (hold.trans (if_pos rfl)) hR fun p hp e=>wE (hL p hp).1 hua e
    exact ih' (setP a j P) (setP a j L) _ (jd4 hP) hR' hin' (by unfold setP; rw [List.length_map]; omega) (by rfl) (by rfl) (by rfl) (by rfl) (by rfl) (by rfl) (by rfl) (by rw [hes']; rfl) (by rfl) (by rfl) (by rfl) (fun L' P' hh=>hx L' P' (by simpa using hh)) (fun hh=>hr (by simpa using hh))
  ·have hnL:∀ p∈L,p.1≠a:=fun p hp e=>hin ⟨p.2,by rw [← e]; exact hp⟩
   have hnP:∀ p∈P,p.1≠a:=fun p hp=>hnL p (hP.mem_iff.mp hp)
   obtain ⟨L2,hnew,hperm⟩:=Xj (m:=c.m) (c:=q.2) hnL
   have mf:mfind sh4 (.agg (encP a)) (mcl (encM P))=some none:=by
    rw [VI,Wc hnP]
    rfl
   have ms:mset sh4 (.agg (encP a)) (.c (encCell q.2)) (mcl (encM P))=some (mcl (encM (P++[(a,q.2)]))):=by
    rw [WO,Xo hnP]
    rfl
   have hR':Rise L2:=wD hnew hR fun p hp e=>wE (hL p hp).1 hua e
   have hin':=Wu hnew hL hua hq.2
   have hP':(P++[(a,q.2)]).Perm L2:=(List.perm_append_comm.trans ((hP.cons _))).trans hperm.symm
   rw [hnew] at hx hr
   rw [← ja t4,← jc b4,← ja t5,← jc b5,← ja t6,← jc b6,← ja t10,← jc b10,← ja t22,← ja t23,← ja t24]
   unfold encCat at *
   generalize hes:mcl (encM P)=es at *
   generalize hes':mcl (encM (P++[(a,q.2)]))=es' at *
   unfold encPrs encPr encCell encC encP at *
   dsimp only [List.cons_append,List.nil_append] at *
   unfold b54_0
   repeat' (first | refine ji rfl rfl (by omega) he rfl ?_ | refine call4 rfl rfl rfl rfl c1 ?_ | refine jb1 rfl ?_ | refine YB rfl rfl rfl hrr mf rfl ?_ | refine call1 rfl c2 ?_ | refine jfo rfl rfl rfl rfl hrr ms ?_ | refine st7 ?_ | intro u)
   exact ih' (P++[(a,q.2)]) L2 _ hP' hR' (by rw [hkm]; exact hin'.1) (by have:=hin'.2; omega) (by rfl) (by rfl) (by rfl) (by rfl) (by rfl) (by rfl) (by rfl) (by rw [hes']; rfl) (by rfl) (by rfl) (by rfl) (fun L' P' hh=>hx L' P' (by simpa using hh)) (fun hh=>hr (by simpa using hh))
set_option maxRecDepth 100000
set_option maxHeartbeats 16000000
theorem jgl {K:KT} (L P:List Pr) (hP:P.Perm L) (hR:Rise L) (hlen:L.length≤100000):∀ (rest out:List Pr) (s:PS) (e w:Nat),out++rest=L→(e=18∨e=80) →
  s.t 10=.c (.map (encM P))→s.t 18=.osl e w 0 (out.map encPr).length→s.bx e=⟨w,.sl 9 (out.map encPr)⟩→s.t 67=.c (.sl ((L.map (·.1)).map encP))→s.t 68=.c (.int .i64 L.length)→s.t 69=.c (.int .i64 out.length) →
  (∀ s' e' w',s'.t 18=.osl e' w' 0 (L.map encPr).length→s'.bx e'=⟨w',.sl 9 (L.map encPr)⟩→K (.x 2) s')→wP (CP) (.loop b54_1) s K:=by
 intro rest
 induction rest with
 | nil =>
  intro out s e w hL he t10 t18 b18 t67 t68 t69 hK
  refine jf ?_
  rw [List.append_nil] at hL
  subst hL
  rw [← ja t10,← ja t18,← jc b18,← ja t67,← ja t68,← ja t69]
  unfold b54_1
  rcases he with rfl | rfl
  ·repeat' (first | refine st0 ?_ | intro u)
   exact hK _ _ _ (by rfl) (by rfl)
  ·repeat' (first | refine st0 ?_ | intro u)
   exact hK _ _ _ (by rfl) (by rfl)
 | cons q rest ih =>
  intro out s e w hL he t10 t18 b18 t67 t68 t69 hK
  refine jf ?_
  have hll:out.length < L.length:=by rw [← hL]; simp
  have hqL:q∈L:=by rw [← hL]; simp
  have hget:((L.map (·.1)).map encP)[((out.length:Nat):Int).toNat]? = some (encP q.1):=by
   rw [← hL]
   simp
  have mf:mfind sh4 (.agg (encP q.1)) (encM P)=some (some (encCell q.2)):=Jl (jct hR hP) (hP.mem_iff.mpr hqL)
  have hrr:=w9 q.1 q.1
  rw [decide_eq_true rfl] at hrr
  have hz:out.map encPr++[encPr q]=(out++[q]).map encPr:=by simp
  have hgrow:(out.map encPr).length + [encPr q].length≤maxGrow:=by simp [maxGrow]; omega
  have ih':=fun s e w=>ih (out++[q]) s e w (by rw [← hL]; simp)
  have hnl:((out.length:Nat):Int) + 1=((out++[q]).length:Nat):=by simp
  rw [← ja t10,← ja t18,← jc b18,← ja t67,← ja t68,← ja t69]
  generalize hE:encM P=E at *
  generalize hA:(out++[q]).map encPr=A at *
  generalize hB:out.map encPr=B at *
  generalize hps:(L.map (·.1)).map encP=ps at *
  unfold encPr encCell encC encP at *
  dsimp only [List.cons_append,List.nil_append] at *
  unfold b54_1
  rcases he with rfl | rfl
  ·repeat' (first | refine ji rfl rfl (by omega) hget rfl ?_ | refine jfn rfl rfl hrr mf rfl ?_ | refine jr rfl rfl rfl rfl hgrow (by intro e he; cases List.mem_singleton.mp he; rfl) hz rfl (fun _ _=>?_) | refine st6 ?_ | intro u)
   exact ih' _ 80 _ (.inr rfl) (by rfl) (by rfl) (by rfl) (by rfl) (by rfl) (by exact congrArg (fun n=>PV.c (CV.int .i64 n)) hnl) hK
  ·repeat' (first | refine ji rfl rfl (by omega) hget rfl ?_ | refine jfn rfl rfl hrr mf rfl ?_ | refine jr rfl rfl rfl rfl hgrow (by intro e he; cases List.mem_singleton.mp he; rfl) hz rfl (fun _ _=>?_) | refine st6 ?_ | intro u)
   exact ih' _ 80 _ (.inr rfl) (by rfl) (by rfl) (by rfl) (by rfl) (by rfl) (by exact congrArg (fun n=>PV.c (CV.int .i64 n)) hnl) hK
theorem jmv (c:CatS) (f t:Go.Bag.Place) (l:List Pr) (h:okCat2 c) (hf:u8P f) (ht:u8P t) (k:Nat) (hl:inPs k l) (hlen:l.length≤100000) (hk:k * (l.length + 1)≤1000000) :
  CP 54 [.c (.agg (encCat c)),.c (.agg (encP f)),.c (.agg (encP t)),.c (encPrs l)] (.c (.tup (encUp (laysX c.m [] (toS c f t l))))) []:=by
 refine pcallF Tryz.func54 c54 rfl ?_
 have lp:=fun (K:Ex→PS→Prop) v4 v5 v6 v21 s=>jji (K:=K) c h f t hf ht l k hl hlen hk v4 v5 v6 v21 l 0 [] [] s rfl (by omega) (.refl _) List.Pairwise.nil (fun p hp=>by simp at hp) (by simp)
 have e0:mcl (encM [])=[]:=rfl
 rw [e0] at lp
 generalize ho:laysX c.m [] (toS c f t l)=o at *
 unfold encPrs at *
 unfold encCat encP at *
 unfold p54
 repeat' (first | refine jb1 rfl ?_ | refine je rfl (List.length_map _) ?_ | refine st5 ?_ | intro u)
 refine lp _ _ _ _ _ _ (by rfl) (by rfl) (by rfl) (by rfl) (by rfl) (by rfl) (by rfl) (by rfl) (by rfl) (by rfl) (by rfl) (fun L' P' hh hP hR hin hll s' t10 b10=>?_) (fun hh s' t8 t9=>?_)
 ·subst hh
  have hll2:P'.length≤100000:=by rw [hP.length_eq]; omega
  have ck:=ja5 (encM P')
  have cs:=YL (encM P') (P'.map (·.1)) (L'.map (·.1)) (by simp [encM]) (fun p hp=>by
   obtain ⟨q,hq,rfl⟩:=List.mem_map.mp hp
   exact (hin q (hP.mem_iff.mp hq)).1) (hP.symm.map _) (show List.Pairwise (fun a b=>keyP a < keyP b) (L'.map (·.1)) from List.pairwise_map.mpr hR) (by simp; omega)
  have hps:((L'.map (·.1)).map encP).length=L'.length:=by simp
  have lo:=fun (K:Ex→PS→Prop) s e w=>jgl (K:=K) L' P' hP hR (by omega) L' [] s e w rfl
  rw [← ja t10,← jc b10]
  unfold encUp encPrs
  generalize encM P'=E at *
  generalize (L'.map (·.1)).map encP=ps at *
  dsimp only
  repeat' (first | refine jmr rfl rfl (fun u=>?_) | refine call1 rfl ck ?_ | refine call2 rfl rfl cs ?_ | refine je rfl hps ?_ | refine jK ?_ | refine jN ?_ | refine jE ?_ | refine ko ?_ | refine JP ?_ | refine jY ?_ | refine kC rfl ?_ | refine jbn (fun u=>?_))
  refine lo _ _ 18 _ (.inl rfl) (by rfl) (by rfl) (by rfl) (by rfl) (by rfl) (by rfl) (fun s' e' w' t18 b18=>?_)
  rw [← ja t18]
  repeat' (first | refine st5 ?_ | intro u)
  exact jd (JT (sz:=9) rfl b18 rfl (Jf rfl jk)) rfl
 ·subst hh
  rw [← ja t8,← ja t9]
  unfold encUp
  repeat' (first | refine j8 ?_ | refine kl ?_)
  exact jd (Jf rfl (Jf rfl jk)) rfl
theorem ZQ (c:CatS) (f t:Go.Bag.Place) (l:List Pr) (h:okCat2 c) (hf:u8P f) (ht:u8P t) (k:Nat) (hl:inPs k l) (hlen:l.length≤100000) (hk:k * (l.length + 1)≤900000) :
  CP 24 [.c (.agg (encCat c)),.c (.agg (encP f)),.c (.agg (encP t)),.c (encPrs l)] (.c (.tup (encUp (upS c f t l)))) []:=by
 have hk1:k≤900000:=Nat.le_trans (Nat.le_mul_of_pos_right k (by omega)) hk
 have c1:=JJ c f l h hf (jS hl (by omega)) (by omega)
 have c2:=Vv c t h ht
 have c3:=Xb f t
 have c4:=jmv c f t l h hf ht k hl hlen (by omega)
 refine pcallF Tryz.func24 c24 rfl ?_
 unfold upS
 by_cases g:goodS c f l=true∧rightC c t zeroP=true∧belowP f t=true
 ·rw [if_pos g]
  obtain ⟨g1,g2,g3⟩:=g
  rw [g1] at c1
  rw [g2] at c2
  rw [g3] at c3
  obtain ⟨x,y,hxy⟩:∃ x y,encUp (laysX c.m [] (toS c f t l))=[x,y]:=by
   cases laysX c.m [] (toS c f t l) with
   | none=>exact ⟨_,_,rfl⟩
   | some L=>exact ⟨_,_,rfl⟩
  rw [hxy] at c4 ⊢
  generalize encPrs l=pl at *
  unfold encCat encP at *
  unfold p24
  repeat' (first | refine call3 rfl rfl rfl c1 ?_ | refine call2 rfl rfl c2 ?_ | refine call2 rfl rfl c3 ?_ | refine call4 rfl rfl rfl rfl c4 ?_ | refine st3 ?_ | intro u)
  exact jd rfl rfl
 ·rw [if_neg g]
  generalize hg1:goodS c f l=g1 at *
  generalize hg2:rightC c t zeroP=g2 at *
  generalize hg3:belowP f t=g3 at *
  unfold encUp
  generalize encPrs l=pl at *
  unfold encCat encP at *
  unfold p24
  cases g1 with
  | false =>
   repeat' (first | refine call3 rfl rfl rfl c1 ?_ | refine st2 ?_ | intro u)
   exact jd rfl rfl
  | true =>
   cases g2 with
   | false =>
    repeat' (first | refine call3 rfl rfl rfl c1 ?_ | refine call2 rfl rfl c2 ?_ | refine st2 ?_ | intro u)
    exact jd rfl rfl
   | true =>
    cases g3 with
    | false =>
     repeat' (first | refine call3 rfl rfl rfl c1 ?_ | refine call2 rfl rfl c2 ?_ | refine call2 rfl rfl c3 ?_ | refine st2 ?_ | intro u)
     exact jd rfl rfl
    | true=>exact absurd ⟨rfl,rfl,rfl⟩ g
set_option maxRecDepth 100000
set_option maxHeartbeats 16000000
/-! ### kept -/
theorem jjj (c:CatS) (v:Go.Bag.Place) (p:Pr) (f:FixS) (h:okCat2 c) (hv:u8P v) (hp:u8P p.1) (hm:f.mem.length≤9223372036854775807) :
  CP 95 [.c (.agg (encFix f)),.rp (encCat c),.rp (encP v),.rp (encPr p)] (.c (.bool (!withinP c v p.1 f))) []:=by
 have c1:=jga c v p.1 f h hv hp hm
 refine pcallF Tryz.func95 c95 rfl ?_
 generalize withinP c v p.1 f=q at *
 unfold encFix at *
 generalize encIs f.mem=em at *
 unfold encPr encCat encC encP at *
 dsimp only [List.cons_append,List.nil_append] at *
 unfold p95
 repeat' (first | refine call4 rfl rfl rfl rfl c1 ?_ | refine st3 ?_ | intro u)
 exact jd rfl rfl
def idxF (pr:FixS→Bool):List FixS→Nat→Int
 | [],_=>-1
 | f::l,i=>if pr f=true then (i:Int) else idxF pr l (i + 1)
theorem ZR {pr:FixS→Bool}:∀ {l:List FixS} {i:Nat},(decide (0≤idxF pr l i))=l.any pr
 | [],_=>rfl
 | f::l,i=>by
  unfold idxF
  cases h:pr f with
  | true=>rw [if_pos rfl]; simp [h]
  | false=>rw [if_neg (by simp)]; simp [h,ZR (l:=l)]
section
variable {fid : FuncId} {caps : List (List CV)} {pr : FixS → Bool}
theorem jjk {K:KT} (fs:List FixS) (hC:∀ f∈fs,CP fid ([.c (.agg (encFix f))]++caps.map .rp) (.c (.bool (pr f))) []) (hlen:fs.length≤9223372036854775807):∀ (rest:List FixS) (i:Nat) (s:PS),fs.drop i=rest→i≤fs.length →
  s.t 0=.c (.sl (fs.map encFix))→s.t 1=.c (.clo fid caps)→s.t 7=.c (.int .i64 fs.length)→s.t 8=.c (.int .i64 i) →
  (idxF pr rest i=-1→∀ s',K (.x 0) s')→(∀ s',s'.t 4=.c (.int .i64 (idxF pr rest i))→K .r s')→wP (CP) (.loop b134_0) s K:=by
 intro rest
 induction rest with
 | nil =>
  intro i s hd hi t0 t1 t7 t8 hx hr
  refine jf ?_
  have:=jm hd hi
  subst this
  rw [← ja t0,← ja t1,← ja t7,← ja t8]
  unfold b134_0
  repeat' (first | refine st0 ?_ | intro u)
  exact hx rfl _
 | cons f rest ih =>
  intro i s hd hi t0 t1 t7 t8 hx hr
  refine jf ?_
  have he:(fs.map encFix)[((i:Nat):Int).toNat]? = some (encFix f):=jp hd
  have hil:=jo hd
  have hn:=jg hd
  have c1:=hC f (List.mem_of_mem_drop (by rw [hd]; simp))
  have ih':=fun s=>ih (i + 1) s hn (by omega)
  unfold idxF at hx hr
  generalize pr f=q at *
  rw [← ja t0,← ja t1,← ja t7,← ja t8]
  unfold encFix at *
  unfold b134_0
  cases q with
  | true =>
   repeat' (first | refine ji rfl rfl (by omega) he rfl ?_ | refine callV1 rfl rfl c1 ?_ | refine st3 ?_ | intro u)
   exact hr _ (by rfl)
  | false =>
   repeat' (first | refine ji rfl rfl (by omega) he rfl ?_ | refine callV1 rfl rfl c1 ?_ | refine st1 ?_ | intro u)
   exact ih' _ (by rfl) (by rfl) (by rfl) (by rfl) (fun hh=>hx hh) (fun s' hh=>hr s' hh)
theorem jgm (fs:List FixS) (hC:∀ f∈fs,CP fid ([.c (.agg (encFix f))]++caps.map .rp) (.c (.bool (pr f))) []) (hlen:fs.length≤9223372036854775807) :
  CP 134 [.c (.sl (fs.map encFix)),.c (.clo fid caps)] (.c (.int .i64 (idxF pr fs 0))) []:=by
 refine pcallF Tryz.func134 c134 rfl ?_
 have lp:=fun (K:Ex→PS→Prop) s=>jjk (K:=K) fs hC hlen fs 0 s rfl (by omega)
 generalize idxF pr fs 0=r at *
 unfold p134
 repeat' (first | refine je rfl (List.length_map _) ?_ | refine st0 ?_ | intro u)
 refine lp _ _ (by rfl) (by rfl) (by rfl) (by rfl) (fun hh s'=>?_) (fun s' t4=>?_)
 ·subst hh
  repeat' (first | refine st0 ?_ | intro u)
  exact jd rfl rfl
 ·rw [← ja t4]
  repeat' (first | refine j8 ?_ | refine kl ?_)
  exact jd rfl rfl
theorem ZS (fs:List FixS) (hC:∀ f∈fs,CP fid ([.c (.agg (encFix f))]++caps.map .rp) (.c (.bool (pr f))) []) (hlen:fs.length≤9223372036854775807) :
  CP 94 [.c (.sl (fs.map encFix)),.c (.clo fid caps)] (.c (.bool (fs.any pr))) []:=by
 have c1:=jgm fs hC hlen
 refine pcallF Tryz.func94 c94 rfl ?_
 rw [← ZR (pr:=pr) (l:=fs) (i:=0)]
 generalize idxF pr fs 0=r at *
 unfold p94
 repeat' (first | refine call2 rfl rfl c1 ?_ | refine st4 ?_ | intro u)
 exact jd rfl rfl
end
theorem jd9 {K:KT} (c:CatS) (h:okCat2 c) (v:Go.Bag.Place) (hv:u8P v) (l:List Pr) (k:Nat) (hl:inPs k l) (hlen:l.length≤100000) (fs:List FixS) (hm:∀ f∈fs,f.mem.length≤9223372036854775807) (hfl:fs.length≤9223372036854775807):∀ (rest out:List Pr) (i:Nat) (s:PS) (e w:Nat),l.drop i=rest→i≤l.length→out.length≤i→(e=9∨e=25) →
  s.t 3=.c (.sl (fs.map encFix))→s.t 4=.rp (encCat c)→s.t 5=.rp (encP v)→s.t 9=.osl e w 0 (out.map encPr).length→s.bx e=⟨w,.sl 9 (out.map encPr)⟩→s.t 12=.c (encPrs l)→s.t 13=.c (.int .i64 l.length)→s.t 14=.c (.int .i64 i) →
  (∀ s' e' w',s'.t 9=.osl e' w' 0 ((out++keptS c v rest fs).map encPr).length→s'.bx e'=⟨w',.sl 9 ((out++keptS c v rest fs).map encPr)⟩→K (.x 0) s')→wP (CP) (.loop b57_0) s K:=by
 intro rest
 induction rest with
 | nil =>
  intro out i s e w hd hi hol he t3 t4 t5 t9 b9 t12 t13 t14 hK
  refine jf ?_
  have:=jm hd hi
  subst this
  have hK':∀ s' e' w',s'.t 9=.osl e' w' 0 (out.map encPr).length→s'.bx e'=⟨w',.sl 9 (out.map encPr)⟩→K (.x 0) s':=by
   intro s' e' w' h1 h2
   refine hK s' e' w' ?_ ?_
   ·rw [h1]; simp [keptS]
   ·rw [h2]; simp [keptS]
  rw [← ja t9,← jc b9,← ja t13,← ja t14]
  unfold b57_0
  rcases he with rfl | rfl
  ·repeat' (first | refine st0 ?_ | intro u)
   exact hK' _ _ _ (by rfl) (by rfl)
  ·repeat' (first | refine st0 ?_ | intro u)
   exact hK' _ _ _ (by rfl) (by rfl)
 | cons q rest ih =>
  intro out i s e w hd hi hol he t3 t4 t5 t9 b9 t12 t13 t14 hK
  refine jf ?_
  have hget:(l.map encPr)[((i:Nat):Int).toNat]? = some (encPr q):=jp hd
  have hil:=jo hd
  have hn:=jg hd
  have hq:=hl q (List.mem_of_mem_drop (by rw [hd]; simp))
  have cF:=ZS (fid:=95) (caps:=[encCat c,encP v,encPr q]) (pr:=fun f=>!withinP c v q.1 f) fs (fun f hf=>jjj c v q f h hv hq.1 (hm f hf)) hfl
  have hz:out.map encPr++[encPr q]=(out++[q]).map encPr:=by simp
  have hgrow:(out.map encPr).length + [encPr q].length≤maxGrow:=by simp [maxGrow]; omega
  cases hw:fs.all fun f=>withinP c v q.1 f with
  | true =>
   have hany:(fs.any fun f=>!withinP c v q.1 f)=false:=by
    rw [Bool.eq_false_iff]
    intro hh
    obtain ⟨f,hf,hf2⟩:=List.any_eq_true.mp hh
    rw [List.all_eq_true.mp hw f hf] at hf2
    cases hf2
   have hk:keptS c v (q::rest) fs=q::keptS c v rest fs:=by
    unfold keptS
    rw [List.filter_cons]
    simp only [hw,if_true]
   rw [hany] at cF
   have ih':=fun s e w=>ih (out++[q]) (i + 1) s e w hn (by omega) (by simp; omega)
   have hK':∀ s' e' w',s'.t 9=.osl e' w' 0 ((out++[q]++keptS c v rest fs).map encPr).length→s'.bx e'=⟨w',.sl 9 ((out++[q]++keptS c v rest fs).map encPr)⟩→K (.x 0) s':=by
    intro s' e' w' h1 h2
    refine hK s' e' w' ?_ ?_
    ·rw [h1,hk]; simp
    ·rw [h2,hk]; simp
   clear hK
   rw [← ja t3,← ja t4,← ja t5,← ja t9,← jc b9,← ja t12,← ja t13,← ja t14]
   generalize hA:(out++[q]).map encPr=A at *
   generalize hB:out.map encPr=B at *
   unfold encPrs encPr encC encP at *
   dsimp only [List.cons_append,List.nil_append] at *
   unfold b57_0
   rcases he with rfl | rfl
   ·repeat' (first | refine ji rfl rfl (by omega) hget rfl ?_ | refine call2 rfl rfl cF ?_ | refine jr rfl rfl rfl rfl hgrow (by intro e he; cases List.mem_singleton.mp he; rfl) hz rfl (fun _ _=>?_) | refine st6 ?_ | intro u)
    exact ih' _ 25 _ (.inr rfl) (by rfl) (by rfl) (by rfl) (by rfl) (by rfl) (by rfl) (by rfl) (by rfl) hK'
   ·repeat' (first | refine ji rfl rfl (by omega) hget rfl ?_ | refine call2 rfl rfl cF ?_ | refine jr rfl rfl rfl rfl hgrow (by intro e he; cases List.mem_singleton.mp he; rfl) hz rfl (fun _ _=>?_) | refine st6 ?_ | intro u)
    exact ih' _ 25 _ (.inr rfl) (by rfl) (by rfl) (by rfl) (by rfl) (by rfl) (by rfl) (by rfl) (by rfl) hK'
  | false =>
   have hany:(fs.any fun f=>!withinP c v q.1 f)=true:=by
    rw [List.any_eq_true]
    have:¬ ∀ f∈fs,withinP c v q.1 f=true:=fun hh=>by rw [List.all_eq_true.mpr hh] at hw; cases hw
    simp only [Classical.not_forall] at this
    obtain ⟨f,hf,hf2⟩:=this
    exact ⟨f,hf,by simpa using hf2⟩
   have hk:keptS c v (q::rest) fs=keptS c v rest fs:=by
    unfold keptS
    rw [List.filter_cons]
    simp only [hw,Bool.false_eq_true,if_false]
   rw [hany] at cF
   have ih':=fun s e w=>ih out (i + 1) s e w hn (by omega) (by omega)
   rw [hk] at hK
   rw [← ja t3,← ja t4,← ja t5,← ja t9,← jc b9,← ja t12,← ja t13,← ja t14]
   generalize hB:out.map encPr=B at *
   unfold encPrs encPr encC encP at *
   dsimp only [List.cons_append,List.nil_append] at *
   unfold b57_0
   rcases he with rfl | rfl
   ·repeat' (first | refine ji rfl rfl (by omega) hget rfl ?_ | refine call2 rfl rfl cF ?_ | refine st6 ?_ | intro u)
    exact ih' _ 9 _ (.inl rfl) (by rfl) (by rfl) (by rfl) (by rfl) (by rfl) (by rfl) (by rfl) (by rfl) hK
   ·repeat' (first | refine ji rfl rfl (by omega) hget rfl ?_ | refine call2 rfl rfl cF ?_ | refine st6 ?_ | intro u)
    exact ih' _ 25 _ (.inr rfl) (by rfl) (by rfl) (by rfl) (by rfl) (by rfl) (by rfl) (by rfl) (by rfl) hK
theorem jl1 (c:CatS) (v:Go.Bag.Place) (l:List Pr) (fs:List FixS) (h:okCat2 c) (hv:u8P v) (k:Nat) (hl:inPs k l) (hlen:l.length≤100000) (hm:∀ f∈fs,f.mem.length≤9223372036854775807) (hfl:fs.length≤9223372036854775807) :
  CP 57 [.c (.agg (encCat c)),.c (.agg (encP v)),.c (encPrs l),.c (.sl (fs.map encFix))] (.c (encPrs (keptS c v l fs))) []:=by
 refine pcallF Tryz.func57 c57 rfl ?_
 have lp:=fun (K:Ex→PS→Prop) s=>jd9 (K:=K) c h v hv l k hl hlen fs hm hfl l [] 0 s 9
 unfold encPrs at *
 unfold encCat encP at *
 unfold p57
 repeat' (first | refine je rfl (List.length_map _) ?_ | refine st5 ?_ | intro u)
 refine lp _ _ _ rfl (by omega) (by simp) (.inl rfl) (by rfl) (by rfl) (by rfl) (by rfl) (by rfl) (by rfl) (by rfl) (by rfl) (fun s' e' w' t9 b9=>?_)
 rw [← ja t9]
 repeat' (first | refine st5 ?_ | intro u)
 exact jd (JT (sz:=9) rfl b9 rfl jk) rfl
end Go.Proofs.YtnpncbplhdnonaaGreat
/-
 STABLE SORTING,PLAIN: one after another each in behind what is not behind it; what merges two parts; that there is one such order alone. My own work.
-/
namespace Go.Bag
section
variable {α : Type} (le : α → α → Bool)
structure PreO:Prop where
 tot:∀ a b,le a b=true∨le b a=true
 tr:∀ a b c,le a b=true→le b c=true→le a c=true
def eqv (x y:α):Bool:=le x y && le y x
def Srt (l:List α):Prop:=l.Pairwise fun a b=>le a b=true
def StS (l S:List α):Prop:=Srt le S∧∀ x,S.filter (eqv le x)=l.filter (eqv le x)
def insS (l:List α) (x:α):List α:=l.takeWhile (fun y=>le y x)++x::l.dropWhile (fun y=>le y x)
def sortS (l:List α):List α:=l.foldl (insS le) []
variable {le}
theorem PreO.rf (h:PreO le) (a:α):le a a=true:=by rcases h.tot a a with k | k <;> exact k
theorem PreO.lt (h : PreO le) {a b : α} (k : le a b = false) : le b a = true := by rcases h.tot a b with e | e; · rw [k] at e; cases e
                                                                                   · exact e
theorem vj {x y:α}:eqv le x y=true↔le x y=true∧le y x=true:=by simp [eqv]
theorem Jm {p:α→Bool} {l:List α} (h:∀ y∈l,p y=false):l.filter p=[]:=List.filter_eq_nil_iff.mpr fun y hy=>by simp [h y hy]
theorem StS.mem (hp:PreO le) {l S:List α} (h:StS le l S) (x:α):x∈S↔x∈l:=by
 have e:=h.2 x
 have r:eqv le x x=true:=vj.mpr ⟨hp.rf x,hp.rf x⟩
 have h1:x∈S↔x∈S.filter (eqv le x):=by simp [List.mem_filter,r]
 have h2:x∈l↔x∈l.filter (eqv le x):=by simp [List.mem_filter,r]
 rw [h1,h2,e]
theorem Srt.uniq (hp:PreO le):∀ (S T:List α),Srt le S→Srt le T→(∀ x,S.filter (eqv le x)=T.filter (eqv le x))→S=T:=by
 intro S
 induction S with
 | nil =>
  intro T _ _ h
  cases T with
  | nil=>rfl
  | cons t T =>
   have:=h t
   simp [eqv,hp.rf] at this
 | cons s S ih =>
  intro T hS hT h
  have hs:eqv le s s=true:=vj.mpr ⟨hp.rf s,hp.rf s⟩
  cases T with
  | nil=>have:=h s; simp [hs] at this
  | cons t T =>
   have htt:eqv le t t=true:=vj.mpr ⟨hp.rf t,hp.rf t⟩
   have hS':=List.pairwise_cons.mp hS
   have hT':=List.pairwise_cons.mp hT
   have h1:le s t=true:=by
    have hm:t∈(s::S).filter (eqv le t):=by rw [h t]; simp [htt]
    rcases List.mem_cons.mp (List.mem_filter.mp hm).1 with e | e
    ·rw [e]; exact hp.rf s
    ·exact hS'.1 t e
   have h2:le t s=true:=by
    have hm:s∈(t::T).filter (eqv le s):=by rw [← h s]; simp [hs]
    rcases List.mem_cons.mp (List.mem_filter.mp hm).1 with e | e
    ·rw [e]; exact hp.rf t
    ·exact hT'.1 s e
   have hst:eqv le s t=true:=vj.mpr ⟨h1,h2⟩
   have e0:=h s
   rw [List.filter_cons_of_pos hs,List.filter_cons_of_pos hst] at e0
   obtain ⟨e1,e2⟩:=List.cons.inj e0
   subst e1
   rw [ih T hS'.2 hT'.2 fun x=>?_]
   have:=h x
   by_cases hx:eqv le x s=true
   ·rw [List.filter_cons_of_pos hx,List.filter_cons_of_pos hx] at this
    exact (List.cons.inj this).2
   ·rw [List.filter_cons_of_neg hx,List.filter_cons_of_neg hx] at this
    exact this
theorem StS.uniq (hp:PreO le) {l S T:List α} (h1:StS le l S) (h2:StS le l T):S=T:=Srt.uniq hp S T h1.1 h2.1 fun x=>by rw [h1.2,h2.2]
theorem jjl (hp:PreO le) {S:List α} (hS:Srt le S) (x:α):∀ y∈S.dropWhile (fun y=>le y x),le y x=false:=by
 induction S with
 | nil=>intro y hy; simp at hy
 | cons s S ih =>
  have h':=List.pairwise_cons.mp hS
  intro y hy
  by_cases hs:le s x=true
  ·rw [List.dropWhile_cons_of_pos (by exact hs)] at hy
   exact ih h'.2 y hy
  ·have hs':le s x=false:=by simpa using hs
   rw [List.dropWhile_cons_of_neg (by simp only [hs']; decide)] at hy
   rcases List.mem_cons.mp hy with e | e
   ·rw [e]; exact hs'
   ·cases hyx:le y x
    ·rfl
    ·have:=hp.tr _ _ _ (h'.1 y e) hyx
     rw [hs'] at this; cases this
theorem jjm {S:List α} {x:α}:∀ y∈S.takeWhile (fun y=>le y x),le y x=true:=by
 induction S with
 | nil=>intro y hy; simp at hy
 | cons s S ih =>
  intro y hy
  by_cases hs:le s x=true
  ·rw [List.takeWhile_cons_of_pos (by exact hs)] at hy
   rcases List.mem_cons.mp hy with e | e
   ·rw [e]; exact hs
   ·exact ih y e
  ·rw [List.takeWhile_cons_of_neg (by exact hs)] at hy
   simp at hy
theorem jjn (hp:PreO le) {l S:List α} (h:StS le l S) (x:α):StS le (l++[x]) (insS le S x):=by
 have hS:=h.1
 have hd:=jjl hp hS x
 have ht:=jjm (le:=le) (S:=S) (x:=x)
 have happ:=List.takeWhile_append_dropWhile (p:=fun y=>le y x) (l:=S)
 constructor
 ·unfold insS Srt
  have hS2:((S.takeWhile fun y=>le y x)++(S.dropWhile fun y=>le y x)).Pairwise (fun a b=>le a b=true):=by rw [happ]; exact hS
  have h3:=List.pairwise_append.mp hS2
  refine List.pairwise_append.mpr ⟨h3.1,List.pairwise_cons.mpr ⟨fun y hy=>hp.lt (hd y hy),h3.2.1⟩,fun a ha b hb=>?_⟩
  rcases List.mem_cons.mp hb with e | e
  ·rw [e]; exact ht a ha
  ·exact h3.2.2 a ha b e
 ·intro z
  unfold insS
  rw [List.filter_append,List.filter_append,← h.2 z]
  conv=>rhs; rw [← happ,List.filter_append]
  by_cases hz:eqv le z x=true
  ·have hz':=vj.mp hz
   have hn:(S.dropWhile fun y=>le y x).filter (eqv le z)=[]:=Jm fun y hy=>by
    cases e:eqv le z y
    ·rfl
    ·have:=hp.tr _ _ _ (vj.mp e).2 hz'.1
     rw [hd y hy] at this; cases this
   rw [List.filter_cons_of_pos hz,hn,List.append_nil,List.filter_cons_of_pos hz]
   rfl
  ·rw [List.filter_cons_of_neg hz,List.filter_cons_of_neg hz]
   simp
theorem Xr (l:List α) (x:α):sortS le (l++[x])=insS le (sortS le l) x:=by simp [sortS]
theorem jjo:StS le ([]:List α) []:=⟨List.Pairwise.nil,fun _=>rfl⟩
theorem X9 (hp:PreO le):∀ (l a S:List α),StS le a S→StS le (a++l) (l.foldl (insS le) S)
 | [],a,S,h=>by simpa using h
 | x::l,a,S,h=>by
  have:=X9 hp l (a++[x]) (insS le S x) (jjn hp h x)
  simpa using this
theorem vU (hp:PreO le) (l:List α):StS le l (sortS le l):=X9 hp l [] [] jjo
theorem Vx (hp:PreO le) {l S:List α} (h:StS le l S):sortS le l=S:=StS.uniq hp (vU hp l) h
theorem wF (hp:PreO le) {S:List α} (h:Srt le S):sortS le S=S:=Vx hp ⟨h,fun _=>rfl⟩
theorem kJ (hp:PreO le) (l:List α):Srt le (sortS le l):=(vU hp l).1
theorem kh (hp:PreO le) (l:List α) (x:α):x∈sortS le l↔x∈l:=(vU hp l).mem hp x
theorem VO (S:List α) (x:α):(insS le S x).Perm (x::S):=by
 unfold insS
 refine List.perm_middle.trans (List.Perm.cons x ?_)
 rw [List.takeWhile_append_dropWhile]
theorem Ja:∀ (l S:List α),(l.foldl (insS le) S).Perm (l++S)
 | [],S=>List.Perm.refl _
 | x::l,S=>by
  refine (Ja l (insS le S x)).trans ?_
  refine ((VO S x).append_left l).trans ?_
  exact List.perm_middle
theorem Xs (l:List α):(sortS le l).Perm l:=by simpa [sortS] using Ja (le:=le) l []
theorem jy (l:List α):(sortS le l).length=l.length:=(Xs l).length_eq
theorem YM (hp:PreO le) {P Q:List α} {x:α} (hS:Srt le (P++Q)) (hQ:∀ y∈Q,le y x=false) (hP:∀ y∈P,le y x=true):insS le (P++Q) x=P++x::Q:=by
 unfold insS
 have e1:(P++Q).takeWhile (fun y=>le y x)=P:=by
  rw [List.takeWhile_append_of_pos hP]
  cases Q with
  | nil=>simp
  | cons q Q=>rw [List.takeWhile_cons_of_neg (by simp [hQ q (by simp)])]; simp
 have e2:(P++Q).dropWhile (fun y=>le y x)=Q:=by
  rw [List.dropWhile_append_of_pos hP]
  cases Q with
  | nil=>simp
  | cons q Q=>rw [List.dropWhile_cons_of_neg (by simp [hQ q (by simp)])]
 rw [e1,e2]
theorem Srt.last_le (hp:PreO le) {P:List α} {z x:α} (h:Srt le (P++[z])) (hz:le z x=true):∀ y∈P++[z],le y x=true:=fun y hy=>by
 rcases List.mem_append.mp hy with e | e
 ·exact hp.tr _ _ _ ((List.pairwise_append.mp h).2.2 y e z (by simp)) hz
 ·simp at e; rw [e]; exact hz
theorem jea (hp:PreO le) {A1 A2 B1 B2:List α} (hA:Srt le (A1++A2)) (hB:Srt le (B1++B2)) (h1:∀ a∈A1,∀ b∈B2,le a b=true) (h2:∀ a∈A2,∀ b∈B1,le a b=false) :
  sortS le ((A1++A2)++(B1++B2))=sortS le (A1++B1)++sortS le (A2++B2):=by
 have pA:=List.pairwise_append.mp hA
 have pB:=List.pairwise_append.mp hB
 refine Vx hp ⟨?_,fun x=>?_⟩
 ·refine List.pairwise_append.mpr ⟨kJ hp _,kJ hp _,fun a ha b hb=>?_⟩
  rw [kh hp] at ha hb
  rcases List.mem_append.mp ha with ha | ha <;> rcases List.mem_append.mp hb with hb | hb
  ·exact pA.2.2 a ha b hb
  ·exact h1 a ha b hb
  ·exact hp.lt (h2 b hb a ha)
  ·exact pB.2.2 a ha b hb
 ·rw [List.filter_append,(vU hp _).2,(vU hp _).2]
  simp only [List.filter_append]
  have:A2.filter (eqv le x)=[]∨B1.filter (eqv le x)=[]:=by
   by_cases e:A2.filter (eqv le x)=[]
   ·exact .inl e
   ·right
    obtain ⟨a,ha⟩:=List.exists_mem_of_ne_nil _ e
    have ha:=List.mem_filter.mp ha
    refine Jm fun b hb=>?_
    cases k:eqv le x b
    ·rfl
    ·have:=hp.tr _ _ _ (vj.mp ha.2).2 (vj.mp k).1
     rw [h2 a ha.1 b hb] at this; cases this
  rcases this with e | e <;> simp [e]
theorem jeb (hp:PreO le) {x:α} {P Q:List α} (hB:Srt le (P++Q)) (hP:∀ y∈P,le x y=false) (hQ:∀ y∈Q,le x y=true):sortS le (x::(P++Q))=P++x::Q:=by
 have pB:=List.pairwise_append.mp hB
 refine Vx hp ⟨List.pairwise_append.mpr ⟨pB.1,List.pairwise_cons.mpr ⟨hQ,pB.2.1⟩,fun a ha b hb=>?_⟩,fun z=>?_⟩
 ·rcases List.mem_cons.mp hb with e | e
  ·rw [e]; exact hp.lt (hP a ha)
  ·exact pB.2.2 a ha b e
 ·by_cases hz:eqv le z x=true
  ·have hz':=vj.mp hz
   have hn:P.filter (eqv le z)=[]:=Jm fun y hy=>by
    cases e:eqv le z y
    ·rfl
    ·have:=hp.tr _ _ _ hz'.2 (vj.mp e).1
     rw [hP y hy] at this; cases this
   simp [List.filter_append,hn,hz]
  ·simp [List.filter_append,hz]
theorem ja6 (hp:PreO le) {x:α} {P Q:List α} (hA:Srt le (P++Q)) (hP:∀ y∈P,le y x=true) (hQ:∀ y∈Q,le y x=false):sortS le ((P++Q)++[x])=P++x::Q:=by
 rw [Xr,wF hp hA,YM hp hA hQ hP]
theorem Srt.append (hp:PreO le) {A B:List α} (hA:Srt le A) (hB:Srt le B) (h:∀ a∈A,∀ b∈B,le a b=true):Srt le (A++B):=List.pairwise_append.mpr ⟨hA,hB,h⟩
def swp (l:List α) (i j:Nat):List α:=match l[i]?,l[j]? with | some x,some y=>(l.set i y).set j x | _,_=>l
theorem jl2 (P M Q:List α) (x y:α) {i j:Nat} (hi:i=P.length) (hj:j=P.length + 1 + M.length):swp (P++x::(M++y::Q)) i j=P++y::(M++x::Q):=by
 subst hi hj
 have e1:(P++x::(M++y::Q))[P.length]? = some x:=by simp
 have e2:(P++x::(M++y::Q))[P.length + 1 + M.length]? = some y:=by
  rw [List.getElem?_append_right (by omega),show P.length + 1 + M.length - P.length=M.length + 1 by omega,List.getElem?_cons_succ]
  simp
 unfold swp
 rw [e1,e2]
 simp only
 rw [List.set_append_right _ _ (Nat.le_refl _),Nat.sub_self,List.set_cons_zero,List.set_append_right _ _ (by omega),show P.length + 1 + M.length - P.length=M.length + 1 by omega,List.set_cons_succ,List.set_append_right _ _ (Nat.le_refl _),Nat.sub_self,List.set_cons_zero]
end
end Go.Bag
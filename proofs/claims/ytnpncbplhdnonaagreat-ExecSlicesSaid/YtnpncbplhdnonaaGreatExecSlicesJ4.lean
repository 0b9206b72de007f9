/- Part of the proof of ExecSlices: lemmas. -/
import Derived.Test.YtnpncbplhdnonaaGreatExecSlicesJ3
set_option linter.unusedVariables false
set_option linter.unusedSimpArgs false
namespace Go.Proofs.YtnpncbplhdnonaaGreat
open Go.Pl Go.Bag
set_option maxHeartbeats 16000000
set_option maxRecDepth 100000
theorem ZU (a b:Int):cmpI b a=-cmpI a b:=by unfold cmpI; (repeat' split) <;> omega
theorem Xv (f i:Int) (a b:LineS):aheadC f i b a=-aheadC f i a b:=by
 unfold aheadC
 (repeat' split) <;> first | exact ZU _ _ | rfl
def Chain (p q r:Int):Prop:=(p≤0→q≤0→r≤0∧(r=0→0≤p + q))∧(0≤p→0≤q→0≤r∧(r=0→p + q≤0))
theorem VQ (x y z:Int):Chain (cmpI y x) (cmpI z y) (cmpI z x):=by
 unfold Chain cmpI
 rcases Int.lt_trichotomy x y with h1 | h1 | h1 <;> rcases Int.lt_trichotomy y z with h2 | h2 | h2 <;> rcases Int.lt_trichotomy x z with h3 | h3 | h3 <;>
  simp [h1,h2,h3,show ¬ (0:Int) < -1 by decide] <;> omega
theorem VR {k:Int} (hk:0 < k) (x y:Int):cmpI (x * k) (y * k)=cmpI x y:=by
 unfold cmpI
 have h1:x * k < y * k↔x < y:=Int.mul_lt_mul_right hk
 have h2:y * k < x * k↔y < x:=Int.mul_lt_mul_right hk
 simp only [h1,h2]
theorem ja7 {sa sb sc na nb nc:Int} (ha:0 < na) (hb:0 < nb) (hc:0 < nc):Chain (cmpI (sb * na) (sa * nb)) (cmpI (sc * nb) (sb * nc)) (cmpI (sc * na) (sa * nc)):=by
 have e1:cmpI (sb * na) (sa * nb)=cmpI (sb * na * nc) (sa * nb * nc):=(VR hc _ _).symm
 have e2:cmpI (sc * nb) (sb * nc)=cmpI (sc * nb * na) (sb * nc * na):=(VR ha _ _).symm
 have e3:cmpI (sc * na) (sa * nc)=cmpI (sc * na * nb) (sa * nc * nb):=(VR hb _ _).symm
 have m1:sb * nc * na=sb * na * nc:=by rw [Int.mul_assoc,Int.mul_comm nc,← Int.mul_assoc]
 have m2:sc * na * nb=sc * nb * na:=by rw [Int.mul_assoc,Int.mul_comm na,← Int.mul_assoc]
 have m3:sa * nc * nb=sa * nb * nc:=by rw [Int.mul_assoc,Int.mul_comm nc,← Int.mul_assoc]
 rw [e1,e2,e3,m1,m2,m3]
 exact VQ _ _ _
theorem Xw (n:Int):0 < one1 n:=by unfold one1; split <;> omega
theorem YO (f i:Int) (a b c:LineS):Chain (aheadC f i a b) (aheadC f i b c) (aheadC f i a c):=by
 unfold aheadC
 (repeat' split) <;> first | exact VQ _ _ _ | exact ja7 (Xw _) (Xw _) (Xw _) | (unfold Chain; omega)
theorem okL_cons {k:LF} {ks:List LF} {cs:List CV} (h:OkL (k::ks) cs):∃ c r,cs=c::r∧LF.Ok k c∧OkL ks r:=by
 obtain ⟨hl,he⟩:=h
 match cs,hl,he with
 | c::r,hl,he=>exact ⟨c,r,rfl,he 0 (by simp) (by simp),⟨by simpa using hl,fun i h1 h2=>he (i + 1) (by simpa using h1) (by simpa using h2)⟩⟩
theorem okL_nil {cs:List CV} (h:OkL [] cs):cs=[]:=by
 obtain ⟨hl,_⟩:=h
 exact List.length_eq_zero_iff.mp hl
set_option maxRecDepth 100000
set_option maxHeartbeats 16000000
/-! ### Lines, in their order -/
def placeOf (a:LineS):Go.Bag.Place:=⟨a.p0,a.p1,a.p2,a.p3⟩
def cmpE (f i:Int) (a b:LineS):Int:=if aheadC f i a b≠0 then aheadC f i a b else cmpI (keyP (placeOf a)) (keyP (placeOf b))
def okLn (z:LineS):Prop:=inL z∧u8P (placeOf z)
def encLs (l:List LineS):CV:=.sl (l.map encLn)
def topN (t:Int) (n:Nat):Nat:=min t.toNat n
def bestS (f i t:Int) (l:List LineS):List LineS:=(sortS (leF (cmpE f i)) l).take (topN t l.length)
theorem preE (f i:Int):PreO (leF (cmpE f i)) where
 tot a b:=by
  unfold leF cmpE
  rw [Xv f i a b,ZU (keyP (placeOf a)) (keyP (placeOf b))]
  simp only [decide_eq_true_eq]
  by_cases h:aheadC f i a b=0
  ·rw [if_neg (by omega),if_neg (by omega)]; omega
  ·rw [if_pos (by omega),if_pos h]; omega
 tr a b c h1 h2:=by
  unfold leF cmpE at *
  simp only [decide_eq_true_eq] at *
  obtain ⟨_,k⟩:=YO f i c b a
  obtain ⟨_,k2⟩:=VQ (keyP (placeOf a)) (keyP (placeOf b)) (keyP (placeOf c))
  generalize aheadC f i c b=p at *
  generalize aheadC f i b a=q at *
  generalize aheadC f i c a=r at *
  generalize cmpI (keyP (placeOf c)) (keyP (placeOf b))=kp at *
  generalize cmpI (keyP (placeOf b)) (keyP (placeOf a))=kq at *
  generalize cmpI (keyP (placeOf c)) (keyP (placeOf a))=kr at *
  have hp:0≤p:=by
   by_cases e:p=0
   ·omega
   ·rw [if_pos e] at h2; exact h2
  have hq:0≤q:=by
   by_cases e:q=0
   ·omega
   ·rw [if_pos e] at h1; exact h1
  obtain ⟨hr,hr0⟩:=k hp hq
  by_cases e:r=0
  ·have:=hr0 e
   have ep:p=0:=by omega
   have eq:q=0:=by omega
   rw [if_neg (by omega)] at h1 h2
   rw [if_neg (by omega)]
   exact (k2 h1 h2).1
  ·rw [if_pos e]; exact hr
theorem jjt (f i:Int):Cmps 43 [[.int .i64 f],[.int .i64 i]] (cmpE f i) okLn:=by
 intro x y hx hy
 have c1:=jjs f i x y hx.1 hy.1
 have c2:=jf5 (placeOf x) (placeOf y) hx.2 hy.2
 have c3:=jko (aheadC f i x y) (cmpI (keyP (placeOf x)) (keyP (placeOf y)))
 refine pcallF Tryz.func43 c43 rfl ?_
 unfold cmpE
 generalize aheadC f i x y=p at *
 generalize cmpI (keyP (placeOf x)) (keyP (placeOf y))=q at *
 unfold placeOf encP at c2
 unfold encLine encLn encIL encI at *
 dsimp only [List.map_cons,List.map_nil] at *
 unfold p43
 repeat' (first | refine call4 rfl rfl rfl rfl c1 ?_ | refine call2 rfl rfl c2 ?_ | refine call1 rfl c3 ?_ | refine st7 ?_ | intro u)
 exact jd rfl rfl
theorem topA (t:Int) (n:Nat):(if (if (n:Int) < t then (n:Int) else t) > 0 then (if (n:Int) < t then (n:Int) else t) else 0)=((topN t n:Nat):Int):=by
 unfold topN
 split <;> split at * <;> omega
theorem JL (l:List LineS):∀ e∈l.map encLn,e.length=11:=by
 intro e he
 obtain ⟨r,_,rfl⟩:=List.mem_map.mp he
 rfl
section
variable {C : CallP} {l : List POp} {s : PS} {K : PS → Prop} {d : Nat} {x y : PO} {z : Int}
theorem ZV {sz:Nat} {k:IntKind} {es zs:List (List CV)} {j:Nat} (hx:s.ev x=.c (.sl es)) (hy:s.ev y=.c (.int k z)) (hzj:z=(j:Int)) (hj:j≤es.length) (hw:∀ e∈es,e.length=sz) (hz:es.take j=zs)
  (h:wL C l (s.put d (.c (.sl zs))) K):wL C (⟨some d,.slc sz x none (some y),none⟩::l) s K :=
 kS hx (hzj ▸ hy) hj hw hz h
end
theorem VS (l:List LineS) (f i t:Int) (hok:∀ z∈l,okLn z) (hlen:l.length≤1000000) :
  CP 20 [.c (encLs l),.c (.int .i64 f),.c (.int .i64 i),.c (.int .i64 t)] (.c (encLs (bestS f i t l))) []:=by
 have c1:=ZB (l.map encLn) (by simp; omega) (JL l)
 have c2:=YN (jjt f i) (preE f i) l hok (by omega)
 have hsl:(sortS (leF (cmpE f i)) l).length=l.length:=jy l
 refine pcallF Tryz.func20 c20 rfl ?_
 unfold bestS encLs
 have hw:=JL (sortS (leF (cmpE f i)) l)
 have hll:((sortS (leF (cmpE f i)) l).map encLn).length=l.length:=by rw [List.length_map,hsl]
 have htk:((sortS (leF (cmpE f i)) l).map encLn).take (topN t l.length)=((sortS (leF (cmpE f i)) l).take (topN t l.length)).map encLn:=(List.map_take).symm
 have c3:=ja1 (((sortS (leF (cmpE f i)) l).take (topN t l.length)).map encLn)
 have hj:topN t l.length≤((sortS (leF (cmpE f i)) l).map encLn).length:=by rw [hll]; unfold topN; omega
 have hz:=topA t l.length
 have hl0:(l.map encLn).length=l.length:=List.length_map _
 generalize (sortS (leF (cmpE f i)) l).map encLn=S at *
 generalize ((sortS (leF (cmpE f i)) l).take (topN t l.length)).map encLn=T at *
 generalize l.map encLn=L at *
 unfold p20
 repeat' (first | refine callN1 rfl c1 rfl (fun _=>?_) | refine callS1 rfl rfl rfl rfl c2 ?_ | refine jF rfl rfl (by omega) (fun _=>?_) | refine je rfl hll ?_ | refine ZV rfl rfl hz hj hw htk ?_ | refine call1 rfl c3 ?_ | refine st9 ?_ | intro u)
 exact jd rfl rfl
/-! ### The document's -/
set_option maxRecDepth 100000
set_option maxHeartbeats 16000000
/-! ### Are they alike? -/
theorem VT (a b:LineS):eqC true [LK.i,LK.i,LK.i,LK.i,LK.i,LK.i,LK.i,LK.i,LK.i,LK.i,LK.i] (.agg (encLn a)) (.agg (encLn b))=some (decide (a=b)):=by
 obtain ⟨a0,a1,a2,a3,a4,a5,a6,a7,a8,a9,a10⟩:=a
 obtain ⟨b0,b1,b2,b3,b4,b5,b6,b7,b8,b9,b10⟩:=b
 have:eqC true [LK.i,LK.i,LK.i,LK.i,LK.i,LK.i,LK.i,LK.i,LK.i,LK.i,LK.i] (.agg (encLn ⟨a0,a1,a2,a3,a4,a5,a6,a7,a8,a9,a10⟩)) (.agg (encLn ⟨b0,b1,b2,b3,b4,b5,b6,b7,b8,b9,b10⟩))=some ((a0 == b0) && ((a1 == b1) && ((a2 == b2) && ((a3 == b3) && ((a4 == b4) && ((a5 == b5) && ((a6 == b6) && ((a7 == b7) && ((a8 == b8) && ((a9 == b9) && ((a10 == b10) && true))))))))))):=by simp [eqC,shEq,encLn]
 rw [this]
 congr 1
 simp only [LineS.mk.injEq]
 rw [Bool.eq_iff_iff]
 simp
/-! ### Lines of pairs -/
theorem jee {k:Nat} {m:Int} {p:Pr} (hp:u8P p.1) (hc:inC k p.2):okLn (lineC m p.1 p.2):=by
 unfold lineC
 split
 ·obtain ⟨h1,h2,h3,h4,h5,_,_⟩:=hc
  have lo:∀ b:List Run,ranged b→in64 (lo_ b)∧in64 (hi_ b):=by
   intro b hb
   unfold lo_ hi_
   constructor
   ·cases h:b.head? with
    | none=>decide
    | some r=>exact (hb r (List.mem_of_head? h)).1
   ·cases h:b.getLast? with
    | none=>decide
    | some r=>exact (hb r (List.mem_of_getLast? h)).1
  have z:in64 0:=by decide
  refine ⟨⟨h1,h2,?_,(lo _ h4).1,?_,(lo _ h4).2,?_⟩,?_⟩
  ·show in64 (if m=2 then _ else _); split; exact h3; exact z
  ·show in64 (if m=2 then _ else _); split; exact (lo _ h5).1; exact z
  ·show in64 (if m=2 then _ else _); split; exact (lo _ h5).2; exact z
  ·exact hp
 ·exact ⟨by unfold inL; decide,jv⟩
def linesOf (m:Int) (l:List Pr):List LineS:=l.map fun p=>lineC m p.1 p.2
def toldS (m:Int) (l:List Pr) (q:QueryS):List LineS × Int :=
 let out:=if 0 < q.top then bestS q.fn q.measure q.top (linesOf m l) else linesOf m l
 if q.limit < (out.length:Int) then ([],13) else (out,0)
set_option maxRecDepth 100000
set_option maxHeartbeats 16000000
/-! ### Told -/
theorem JX {k:Nat} {m:Int} {l:List Pr} (h:inPs k l):∀ z∈linesOf m l,okLn z:=by
 intro z hz
 obtain ⟨p,hp,rfl⟩:=List.mem_map.mp hz
 exact jee (h p hp).1 (h p hp).2
theorem ki (f i t:Int) (l:List LineS):(bestS f i t l).length≤l.length:=by
 unfold bestS
 rw [List.length_take,jy]
 omega
/-! ### Lines -/
theorem jbb {K:KT} (m:Int) (d4:CV) (l:List Pr) (hl:inPs 999999 l) (hlen:l.length≤100000) (x7:List CV) (v4 v7:Nat):∀ (rest:List Pr) (out:List LineS) (i:Nat) (s:PS) (e w:Nat),l.drop i=rest→i≤l.length→out.length=i→(e=12∨e=71) →
  s.t 4=.ptr 4 v4 0→s.bx 4=⟨v4,.var [d4,.int .i64 m]⟩→s.t 7=.ptr 7 v7 0→s.bx 7=⟨v7,.var x7⟩→s.t 12=.osl e w 0 (out.map encLn).length→s.bx e=⟨w,.sl 11 (out.map encLn)⟩→s.t 56=.c (encPrs l)→s.t 57=.c (.int .i64 l.length)→s.t 58=.c (.int .i64 i) →
  (∀ s' e' w',(e'=12∨e'=71)→s'.t 7=.ptr 7 v7 0→s'.bx 7=⟨v7,.var x7⟩→s'.t 12=.osl e' w' 0 ((out++linesOf m rest).map encLn).length→s'.bx e'=⟨w',.sl 11 ((out++linesOf m rest).map encLn)⟩→K (.x 1) s')→wP (CP) (.loop b25_0) s K:=by
 intro rest
 induction rest with
 | nil =>
  intro out i s e w hd hi hol he t4 b4 t7 b7 t12 b12 t56 t57 t58 hK
  refine jf ?_
  have:=jm hd hi
  subst this
  have e0:out++linesOf m []=out:=by simp [linesOf]
  rw [e0] at hK
  rw [← ja t7,← jc b7,← ja t12,← jc b12,← ja t57,← ja t58]
  unfold b25_0
  rcases he with rfl | rfl
  ·repeat' (first | refine st0 ?_ | intro u)
   exact hK _ 12 _ (.inl rfl) (by rfl) (by rfl) (by rfl) (by rfl)
  ·repeat' (first | refine st0 ?_ | intro u)
   exact hK _ 71 _ (.inr rfl) (by rfl) (by rfl) (by rfl) (by rfl)
 | cons q rest ih =>
  intro out i s e w hd hi hol he t4 b4 t7 b7 t12 b12 t56 t57 t58 hK
  refine jf ?_
  have hget:(l.map encPr)[((i:Nat):Int).toNat]? = some (encPr q):=jp hd
  have hil:=jo hd
  have hq:=hl q (List.mem_of_mem_drop (by rw [hd]; simp))
  have c1:=jjc m q.1 q.2 (kN hq.2 (by omega))
  have ih':=fun s e w=>ih (out++[lineC m q.1 q.2]) (i + 1) s e w (jg hd) (by omega) (by simp [hol])
  have e0:out++linesOf m (q::rest)=out++[lineC m q.1 q.2]++linesOf m rest:=by simp [linesOf]
  rw [e0] at hK
  have hz:out.map encLn++[encLn (lineC m q.1 q.2)]=(out++[lineC m q.1 q.2]).map encLn:=by simp
  have hgrow:(out.map encLn).length + [encLn (lineC m q.1 q.2)].length≤maxGrow:=by simp [maxGrow]; omega
  generalize lineC m q.1 q.2=ln at *
  rw [← ja t4,← jc b4,← ja t7,← jc b7,← ja t12,← jc b12,← ja t56,← ja t57,← ja t58]
  generalize hA:(out++[ln]).map encLn=A at *
  generalize hB:out.map encLn=B at *
  unfold encPrs encPr encCell encC encP encLine at *
  dsimp only [List.cons_append,List.nil_append] at *
  unfold encLn at c1 hz hgrow
  unfold b25_0
  rcases he with rfl | rfl
  ·repeat' (first | refine ji rfl rfl (by omega) hget rfl ?_ | refine call3 rfl rfl rfl c1 ?_ | refine jr rfl rfl rfl rfl hgrow (by intro e he; cases List.mem_singleton.mp he; rfl) hz rfl (fun _ _=>?_) | refine st6 ?_ | intro u)
   exact ih' _ 71 _ (.inr rfl) (by rfl) (by rfl) (by rfl) (by rfl) (by rfl) (by rfl) (by rfl) (by rfl) (by rfl) hK
  ·repeat' (first | refine ji rfl rfl (by omega) hget rfl ?_ | refine call3 rfl rfl rfl c1 ?_ | refine jr rfl rfl rfl rfl hgrow (by intro e he; cases List.mem_singleton.mp he; rfl) hz rfl (fun _ _=>?_) | refine st6 ?_ | intro u)
   exact ih' _ 71 _ (.inr rfl) (by rfl) (by rfl) (by rfl) (by rfl) (by rfl) (by rfl) (by rfl) (by rfl) (by rfl) hK
def linesS (c:CatS) (v:Go.Bag.Place) (l:List Pr) (q:QueryS):List LineS × Int :=
 if goodQ c q=true∧rightC c v zeroP=true∧belowP v (needQ c q)=true then
  (if goodS c v l=true then (match laysX c.m [] (toS c v q.node (keptS c v l q.fixes)) with
   | none=>([],9)
   | some L=>toldS c.m L q)
  else ([],1))
 else ([],2)
theorem Jo {m:Int} {k:Nat}:∀ (l L:List Pr) (i:Nat) {L':List Pr},laysX m L l=some L'→inPs k l→inPs (k * i) L→L.length≤i→inPs (k * (i + l.length)) L'∧L'.length≤i + l.length
 | [],L,i,L',h,_,hL,hll=>by
  simp only [laysX,Option.some.injEq] at h
  subst h
  exact ⟨hL,by simpa using hll⟩
 | p::l,L,i,L',h,hl,hL,hll=>by
  rw [laysX] at h
  cases e:layX m L p.1 p.2 with
  | none=>rw [e] at h; cases h
  | some M =>
   rw [e] at h
   have hp:=hl p (by simp)
   have h1:=Wu e hL hp.1 hp.2
   have h2:=Jo l M (i + 1) h (fun q hq=>hl q (by simp [hq])) (by rw [Nat.mul_succ]; exact h1.1) (by omega)
   rw [show i + 1 + l.length=i + (p::l).length by simp; omega] at h2
   exact h2
theorem YQ {k:Nat} {c:CatS} {f t:Go.Bag.Place} {l:List Pr} (h:inPs k l):inPs k (toS c f t l):=by
 intro p hp
 obtain ⟨q,hq,rfl⟩:=List.mem_map.mp hp
 exact ⟨Xq c f t q.1,(h q hq).2⟩
theorem Jp {k:Nat} {c:CatS} {v:Go.Bag.Place} {l:List Pr} {fs:List FixS} (h:inPs k l):inPs k (keptS c v l fs):=fun p hp=>h p (List.mem_filter.mp hp).1
theorem VU (c:CatS) (v:Go.Bag.Place) (l:List Pr) (fs:List FixS):(keptS c v l fs).length≤l.length:=List.length_filter_le _ _
set_option maxRecDepth 100000
set_option maxHeartbeats 16000000
theorem vk (c:CatS) (v:Go.Bag.Place) (l:List Pr) (q:QueryS) (h:okCat2 c) (hv:u8P v) (hq:okQ q) (k:Nat) (hl:inPs k l) (hlen:l.length≤10000) (hk:k * (l.length + 1)≤300000) :
  CP 25 [.c (.agg (encCat c)),.c (.agg (encP v)),.c (encPrs l),.c (.agg (encQ q))] (.c (.tup [encLs (linesS c v l q).1,.int .i64 (linesS c v l q).2])) []:=by
 have hk1:k≤300000:=Nat.le_trans (Nat.le_mul_of_pos_right k (by omega)) hk
 have hkl:=VU c v l q.fixes
 have c1:=jck c q h hq
 have c2:=Vv c v h hv
 have c3:=ji8 c q h hq
 have c4:=Xb v (needQ c q)
 have c5:=JJ c v l h hv (jS hl (by omega)) (by omega)
 have c6:=jl1 c v l q.fixes h hv k hl (by omega) hq.2.1 hq.1
 have c7:=jmv c v q.node (keptS c v l q.fixes) h hv hq.2.2 k (Jp hl) (by omega) (by
  have:k * ((keptS c v l q.fixes).length + 1)≤k * (l.length + 1):=Nat.mul_le_mul_left k (by omega)
  omega)
 have hLin:∀ L,laysX c.m [] (toS c v q.node (keptS c v l q.fixes))=some L→inPs 300000 L∧L.length≤10000:=by
  intro L hL
  have:=Jo (k:=k) _ [] 0 hL (YQ (Jp hl)) (fun p hp=>by simp at hp) (by simp)
  rw [show (toS c v q.node (keptS c v l q.fixes)).length=(keptS c v l q.fixes).length by simp [toS]] at this
  refine ⟨jS this.1 ?_,by omega⟩
  have h2:k * (0 + (keptS c v l q.fixes).length)≤k * (l.length + 1):=Nat.mul_le_mul_left k (by omega)
  omega
 refine pcallF Tryz.func25 c25 rfl ?_
 unfold linesS
 by_cases g:goodQ c q=true∧rightC c v zeroP=true∧belowP v (needQ c q)=true
 ·rw [if_pos g]
  obtain ⟨g1,g2,g3⟩:=g
  rw [g1] at c1
  rw [g2] at c2
  rw [g3] at c4
  by_cases g4:goodS c v l=true
  ·rw [if_pos g4]
   rw [g4] at c5
   generalize hK:encPrs (keptS c v l q.fixes)=kp at *
   generalize hn:needQ c q=nd at *
   cases ho:laysX c.m [] (toS c v q.node (keptS c v l q.fixes)) with
   | none =>
    rw [ho] at c7
    dsimp only
    unfold encUp encLs at *
    generalize encPrs l=pl at *
    clear hLin ho
    unfold encCat encQ encP at *
    dsimp only [List.cons_append,List.nil_append] at *
    unfold p25
    repeat' (first | refine call2 rfl rfl c1 ?_ | refine call2 rfl rfl c2 ?_ | refine call2 rfl rfl c3 ?_ | refine call2 rfl rfl c4 ?_ | refine call3 rfl rfl rfl c5 ?_ | refine call4 rfl rfl rfl rfl c6 ?_ | refine call4 rfl rfl rfl rfl c7 ?_ | refine st7 ?_ | intro u)
    exact jd rfl rfl
   | some L =>
    obtain ⟨hLi,hLl⟩:=hLin L ho
    rw [ho] at c7
    dsimp only
    have hLOl:(linesOf c.m L).length=L.length:=by simp [linesOf]
    have cb:=VS (linesOf c.m L) q.fn q.measure q.top (JX hLi) (by omega)
    have hbl:=ki q.fn q.measure q.top (linesOf c.m L)
    have lp:=fun (K:Ex→PS→Prop) d4 x7 v4 v7 s=>jbb (K:=K) c.m d4 L (jS hLi (by omega)) (by omega) x7 v4 v7 L [] 0 s 12
    rw [show []++linesOf c.m L=linesOf c.m L from rfl] at lp
    have hPl:(L.map encPr).length=L.length:=List.length_map _
    unfold toldS
    dsimp only
    generalize bestS q.fn q.measure q.top (linesOf c.m L)=B at *
    generalize linesOf c.m L=LL at *
    have hBl:(B.map encLn).length=B.length:=List.length_map _
    have hLLl:(LL.map encLn).length=LL.length:=List.length_map _
    unfold encUp encLs at *
    dsimp only at c7
    generalize encPrs l=pl at *
    unfold encPrs at c7 lp
    generalize L.map encPr=LP at *
    clear hLin ho
    obtain ⟨qn,qf,tp,ms,fn,lm⟩:=q
    dsimp only at *
    unfold encCat encQ encP at *
    dsimp only [List.cons_append,List.nil_append] at *
    unfold p25
    repeat' (first | refine call2 rfl rfl c1 ?_ | refine call2 rfl rfl c2 ?_ | refine call2 rfl rfl c3 ?_ | refine call2 rfl rfl c4 ?_ | refine call3 rfl rfl rfl c5 ?_ | refine call4 rfl rfl rfl rfl c6 ?_ | refine call4 rfl rfl rfl rfl c7 ?_ | refine je rfl hPl ?_ | refine st7 ?_ | intro u)
    refine lp _ _ _ _ _ _ _ rfl (by omega) rfl (.inl rfl) (by rfl) (by rfl) (by rfl) (by rfl) (by rfl) (by rfl) (by rfl) (by rfl) (by rfl) (fun s' e' w' he t7 b7 t12 b12=>?_)
    rw [← ja t7,← jc b7,← ja t12,← jc b12]
    by_cases h1:0 < tp
    ·rw [if_pos h1]
     by_cases h2:lm < (B.length:Int)
     ·rw [if_pos h2]
      generalize hBm:B.map encLn=Bm at *
      generalize hLm:LL.map encLn=Lm at *
      rcases he with rfl | rfl
      ·repeat' (first | refine jF rfl rfl rfl (fun _=>?_) | refine call4 rfl rfl rfl rfl cb ?_ | refine je rfl hBl ?_ | refine st2 ?_ | intro u)
       exact jd rfl rfl
      ·repeat' (first | refine jF rfl rfl rfl (fun _=>?_) | refine call4 rfl rfl rfl rfl cb ?_ | refine je rfl hBl ?_ | refine st2 ?_ | intro u)
       exact jd rfl rfl
     ·rw [if_neg h2]
      generalize hBm:B.map encLn=Bm at *
      generalize hLm:LL.map encLn=Lm at *
      rcases he with rfl | rfl
      ·repeat' (first | refine jF rfl rfl rfl (fun _=>?_) | refine call4 rfl rfl rfl rfl cb ?_ | refine je rfl hBl ?_ | refine st2 ?_ | intro u)
       exact jd rfl rfl
      ·repeat' (first | refine jF rfl rfl rfl (fun _=>?_) | refine call4 rfl rfl rfl rfl cb ?_ | refine je rfl hBl ?_ | refine st2 ?_ | intro u)
       exact jd rfl rfl
    ·rw [if_neg h1]
     by_cases h2:lm < (LL.length:Int)
     ·rw [if_pos h2]
      generalize hLm:LL.map encLn=Lm at *
      rcases he with rfl | rfl
      ·repeat' (first | refine st5 ?_ | intro u)
       exact jd rfl rfl
      ·repeat' (first | refine st5 ?_ | intro u)
       exact jd rfl rfl
     ·rw [if_neg h2]
      generalize hLm:LL.map encLn=Lm at *
      rcases he with rfl | rfl
      ·repeat' (first | refine st5 ?_ | intro u)
       exact jd (JT (sz:=11) rfl rfl rfl (Jf rfl jk)) rfl
      ·repeat' (first | refine st5 ?_ | intro u)
       exact jd (JT (sz:=11) rfl rfl rfl (Jf rfl jk)) rfl
  ·rw [if_neg g4]
   have g4':goodS c v l=false:=by simpa using g4
   rw [g4'] at c5
   clear c6 c7 hLin
   generalize hn:needQ c q=nd at *
   unfold encLs at *
   generalize encPrs l=pl at *
   unfold encCat encQ encP at *
   dsimp only [List.cons_append,List.nil_append] at *
   unfold p25
   repeat' (first | refine call2 rfl rfl c1 ?_ | refine call2 rfl rfl c2 ?_ | refine call2 rfl rfl c3 ?_ | refine call2 rfl rfl c4 ?_ | refine call3 rfl rfl rfl c5 ?_ | refine st2 ?_ | intro u)
   exact jd rfl rfl
 ·rw [if_neg g]
  clear c5 c6 c7 hLin
  generalize hn:needQ c q=nd at *
  generalize hg1:goodQ c q=g1 at *
  generalize hg2:rightC c v zeroP=g2 at *
  generalize hg3:belowP v nd=g3 at *
  unfold encLs at *
  generalize encPrs l=pl at *
  unfold encCat encQ encP at *
  dsimp only [List.cons_append,List.nil_append] at *
  unfold p25
  cases g1 with
  | false =>
   repeat' (first | refine call2 rfl rfl c1 ?_ | refine st2 ?_ | intro u)
   exact jd rfl rfl
  | true =>
   cases g2 with
   | false =>
    repeat' (first | refine call2 rfl rfl c1 ?_ | refine call2 rfl rfl c2 ?_ | refine st2 ?_ | intro u)
    exact jd rfl rfl
   | true =>
    cases g3 with
    | false =>
     repeat' (first | refine call2 rfl rfl c1 ?_ | refine call2 rfl rfl c2 ?_ | refine call2 rfl rfl c3 ?_ | refine call2 rfl rfl c4 ?_ | refine st2 ?_ | intro u)
     exact jd rfl rfl
    | true=>exact absurd ⟨rfl,rfl,rfl⟩ g
end Go.Proofs.YtnpncbplhdnonaaGreat
/-
 SCANS,PLAIN: what is kept of one that may be may be; what a query needs lies below its node. My own work.
-/
namespace Go.Bag
open Go.Pl
set_option maxRecDepth 100000
theorem kT {a b d:Place} (h1:belowP a b=true) (h2:belowP b d=true):belowP a d=true:=by
 unfold belowP at *
 simp only [decide_eq_true_eq] at *
 omega
theorem ZY (a:Place):belowP a a=true:=by
 unfold belowP
 simp only [decide_eq_true_eq]
 omega
theorem jbd (v:Place) (f:FixS):belowP (minP v f) v=true:=by
 unfold minP belowP
 simp only [decide_eq_true_eq]
 match f.dim.toNat with
 | 0=>simp [placeL,ofP]; split <;> omega
 | 1=>simp [placeL,ofP]; split <;> omega
 | 2=>simp [placeL,ofP]; split <;> omega
 | 3=>simp [placeL,ofP]; split <;> omega
 | k + 4=>simp [placeL,ofP]
theorem JY:∀ (fs:List FixS) (v:Place),belowP (fs.foldl minP v) v=true
 | [],v=>ZY v
 | f::fs,v=>kT (JY fs (minP v f)) (jbd v f)
theorem JZ {c:CatS} {q:QueryS} (h:goodQ c q=true):belowP (needQ c q) q.node=true:=by
 unfold needQ
 rw [if_pos h]
 exact JY _ _
theorem wY {c:CatS} {q:QueryS} (h:goodQ c q=true):rightC c q.node zeroP=true:=by
 unfold goodQ at h
 simp only [Bool.and_eq_true] at h
 exact h.1.1
end Go.Bag
/-
 ROWS BY PLACES,PLAIN. My own work.
-/
namespace Go.Bag
open Go.Pl
set_option maxRecDepth 100000
def ltP (a p:Place):Bool:=decide (keyP p < keyP a)
def insP (ps:List Place) (a:Place):List Place :=
 match ps.dropWhile (ltP a) with
 | []=>ps.takeWhile (ltP a)++[a]
 | b::D=>if b=a then ps else ps.takeWhile (ltP a)++a::b::D
def placesS (c:CatS) (v:Place) (rows:List RowS):List Place:=rows.foldl (fun ps r=>insP ps (toP c zeroP v r.p).1) []
def atP (c:CatS) (v a:Place) (rows:List RowS):List RowS:=rows.filter fun r=>decide ((toP c zeroP v r.p).1=a)
def groupL (c:CatS) (v:Place) (rows:List RowS):List Pr:=(placesS c v rows).map fun a=>(a,(ofC c.m (atP c v a rows)).1)
end Go.Bag
namespace Go.Proofs.YtnpncbplhdnonaaGreat
open Go.Pl Go.Bag
set_option maxRecDepth 100000
set_option maxHeartbeats 16000000
def encPl (ps:List Go.Bag.Place):CV:=.sl (ps.map encP)
theorem jgy (l:List Go.Bag.Place):∀ e∈l.map encP,e.length=4:=by
 intro e he
 obtain ⟨r,_,rfl⟩:=List.mem_map.mp he
 rfl
theorem jmx {K:KT} (ps:List Go.Bag.Place) (hps:∀ p∈ps,u8P p) (hlen:ps.length≤100000) (a:Go.Bag.Place) (ha:u8P a) (x1:CV) (x3 x5:List CV) (n:Int) (v3 v5 v9:Nat):∀ (rest:List Go.Bag.Place) (k:Nat) (s:PS),ps.drop k=rest→k≤ps.length →
  s.t 1=.c x1→s.t 3=.ptr 3 v3 0→s.bx 3=⟨v3,.var x3⟩→s.t 5=.ptr 5 v5 0→s.bx 5=⟨v5,.var x5⟩→s.t 7=.c (encPl ps)→s.t 8=.c (.int .i64 n)→s.t 9=.ptr 9 v9 0→s.bx 9=⟨v9,.var (encP a)⟩→s.t 10=.c (.int .i64 k) →
  (∀ s',s'.t 1=.c x1→s'.t 3=.ptr 3 v3 0→s'.bx 3=⟨v3,.var x3⟩→s'.t 5=.ptr 5 v5 0→s'.bx 5=⟨v5,.var x5⟩→s'.t 7=.c (encPl ps)→s'.t 8=.c (.int .i64 n)→s'.t 9=.ptr 9 v9 0→s'.bx 9=⟨v9,.var (encP a)⟩→s'.t 10=.c (.int .i64 ((k + (rest.takeWhile (ltP a)).length:Nat):Int))→K (.x 2) s')→wP (CP) (.loop b66_1) s K:=by
 have k2:=wk a ha
 intro rest
 induction rest with
 | nil =>
  intro k s hd hi t1 t3 b3 t5 b5 t7 t8 t9 b9 t10 hK
  refine jf ?_
  have:=jm hd hi
  subst this
  rw [← ja t1,← ja t3,← jc b3,← ja t5,← jc b5,← ja t7,← ja t8,← ja t9,← jc b9,← ja t10]
  unfold encPl
  unfold b66_1
  repeat' (first | refine je rfl (List.length_map _) ?_ | refine st2 ?_ | intro u)
  exact hK _ (by rfl) (by rfl) (by rfl) (by rfl) (by rfl) (by rfl) (by rfl) (by rfl) (by rfl) (by rfl)
 | cons q rest ih =>
  intro k s hd hi t1 t3 b3 t5 b5 t7 t8 t9 b9 t10 hK
  refine jf ?_
  have he:(ps.map encP)[((k:Nat):Int).toNat]? = some (encP q):=jp hd
  have hil:=jo hd
  have hn:=jg hd
  have k1:=wk q (hps q (List.mem_of_mem_drop (by rw [hd]; simp)))
  have ih':=fun s=>ih (k + 1) s hn (by omega)
  rw [List.takeWhile_cons] at hK
  unfold ltP at hK ih'
  generalize keyP q=kq at *
  generalize keyP a=ka at *
  rw [← ja t1,← ja t3,← jc b3,← ja t5,← jc b5,← ja t7,← ja t8,← ja t9,← jc b9,← ja t10]
  unfold encPl encP at *
  unfold b66_1
  by_cases h:kq < ka
  ·rw [decide_eq_true h] at hK
   simp only [if_true,List.length_cons] at hK
   repeat' (first | refine je rfl (List.length_map _) ?_ | refine ji rfl rfl (by omega) he rfl ?_ | refine call1 rfl k1 ?_ | refine call1 rfl k2 ?_ | refine st4 ?_ | intro u)
   refine ih' _ (by rfl) (by rfl) (by rfl) (by rfl) (by rfl) (by rfl) (by rfl) (by rfl) (by rfl) (by rfl) (fun s' h1 h3 g3 h5 g5 h7 h8 h9 g9 h10=>hK s' h1 h3 g3 h5 g5 h7 h8 h9 g9 ?_)
   rw [h10]
   congr 3
   omega
  ·rw [decide_eq_false h] at hK
   simp only [Bool.false_eq_true,if_false] at hK
   repeat' (first | refine je rfl (List.length_map _) ?_ | refine ji rfl rfl (by omega) he rfl ?_ | refine call1 rfl k1 ?_ | refine call1 rfl k2 ?_ | refine st8 ?_ | intro u)
   exact hK _ (by rfl) (by rfl) (by rfl) (by rfl) (by rfl) (by rfl) (by rfl) (by rfl) (by rfl) (by rfl)
theorem jjv {ps:List Go.Bag.Place} {a:Go.Bag.Place} (h:∀ p∈ps,u8P p) (ha:u8P a):(∀ p∈insP ps a,u8P p)∧(insP ps a).length≤ps.length + 1:=by
 have hs:ps.takeWhile (ltP a)++ps.dropWhile (ltP a)=ps:=List.takeWhile_append_dropWhile
 unfold insP
 split
 ·rename_i hd
  rw [hd,List.append_nil] at hs
  rw [hs]
  refine ⟨fun p hp=>?_,by simp⟩
  rcases List.mem_append.mp hp with hp | hp
  ·exact h p hp
  ·obtain rfl:=List.mem_singleton.mp hp; exact ha
 ·rename_i b D hd
  rw [hd] at hs
  split
  ·exact ⟨h,by omega⟩
  ·have hl:=congrArg List.length hs
   simp only [List.length_append,List.length_cons] at hl
   refine ⟨fun p hp=>?_,by simp only [List.length_append,List.length_cons]; omega⟩
   rcases List.mem_append.mp hp with hp | hp
   ·exact h p (by rw [← hs]; simp [hp])
   ·rcases List.mem_cons.mp hp with rfl | hp
    ·exact ha
    ·exact h p (by rw [← hs]; simp only [List.mem_append]; exact .inr hp)
theorem ZZ {K:KT} (c:CatS) (h:okCat2 c) (v:Go.Bag.Place) (hv:u8P v) (rows:List RowS) (hr:∀ r∈rows,u8P r.p) (hlen:rows.length≤10000) (v3 v5:Nat):∀ (rest:List RowS) (i:Nat) (ps:List Go.Bag.Place) (s:PS),rows.drop i=rest→i≤rows.length→(∀ p∈ps,u8P p)→ps.length≤i →
  s.t 1=.c (encRows rows)→s.t 3=.ptr 3 v3 0→s.bx 3=⟨v3,.var (encCat c)⟩→s.t 5=.ptr 5 v5 0→s.bx 5=⟨v5,.var (encP v)⟩→s.t 7=.c (encPl ps)→s.t 8=.c (.int .i64 i) →
  (∀ s',s'.t 7=.c (encPl (rest.foldl (fun ps r=>insP ps (toP c zeroP v r.p).1) ps))→K (.x 0) s')→wP (CP) (.loop b66_0) s K:=by
 intro rest
 induction rest with
 | nil =>
  intro i ps s hd hi hps hpl t1 t3 b3 t5 b5 t7 t8 hK
  refine jf ?_
  have:=jm hd hi
  subst this
  rw [← ja t1,← ja t7,← ja t8]
  unfold encRows
  unfold b66_0
  repeat' (first | refine je rfl (List.length_map _) ?_ | refine st0 ?_ | intro u)
  exact hK _ (by rfl)
 | cons r rest ih =>
  intro i ps s hd hi hps hpl t1 t3 b3 t5 b5 t7 t8 hK
  refine jf ?_
  have hget:(rows.map encRow)[((i:Nat):Int).toNat]? = some (encRow r):=jp hd
  have hil:=jo hd
  have hn:=jg hd
  have hrp:=hr r (List.mem_of_mem_drop (by rw [hd]; simp))
  have c1:=jf9 c zeroP v r.p h jv hv hrp
  have ha:=Xq c zeroP v r.p
  rw [List.foldl_cons] at hK
  have hin:=jjv (a:=(toP c zeroP v r.p).1) hps ha
  have ih':=fun s=>ih (i + 1) (insP ps (toP c zeroP v r.p).1) s hn (by omega) hin.1 (by have:=hin.2; omega)
  clear ih
  generalize (toP c zeroP v r.p).1=a at *
  generalize (toP c zeroP v r.p).2=ab at *
  have lp:=fun (K:Ex→PS→Prop) x1 x3 x5 n v3 v5 v9 s=>jmx (K:=K) ps hps (by omega) a ha x1 x3 x5 n v3 v5 v9 ps 0 s rfl (by omega)
  simp only [Nat.zero_add] at lp
  have htw:(ps.takeWhile (ltP a)).length≤ps.length:=by
   have:=congrArg List.length (List.takeWhile_append_dropWhile (p:=ltP a) (l:=ps))
   simp only [List.length_append] at this
   omega
  have e1:=YH (ltP a) ps
  have e2:=YI (ltP a) ps
  have hI:insP ps a=(match ps.dropWhile (ltP a) with | []=>ps.takeWhile (ltP a)++[a] | b::D=>if b=a then ps else ps.takeWhile (ltP a)++a::b::D):=rfl
  rw [← e1,← e2] at hI
  generalize (ps.takeWhile (ltP a)).length=j at *
  clear e1 e2
  have hw:=jgy ps
  have hj:j≤(ps.map encP).length:=by simpa using htw
  have hw1:∀ e∈(ps.map encP).take j,e.length=4:=fun e he=>hw e (List.mem_of_mem_take he)
  have hw2:∀ e∈(ps.map encP).drop j,e.length=4:=fun e he=>hw e (List.mem_of_mem_drop he)
  have g1:([]:List (List CV)).length + ((ps.map encP).take j).length≤maxGrow:=by simp [maxGrow]; omega
  have g2:∀ q:List CV,([]++(ps.map encP).take j).length + [q].length≤maxGrow:=fun q=>by simp [maxGrow]; omega
  have g3:∀ q:List CV,([]++(ps.map encP).take j++[q]).length + ((ps.map encP).drop j).length≤maxGrow:=fun q=>by simp [maxGrow]; omega
  have hz:[]++(ps.map encP).take j++[encP a]++(ps.map encP).drop j=(ps.take j++a::ps.drop j).map encP:=by simp [List.map_take,List.map_drop]
  have hpsl:(ps.map encP).length=ps.length:=List.length_map _
  rw [← ja t1,← ja t3,← jc b3,← ja t5,← jc b5,← ja t7,← ja t8]
  by_cases hjl:j < ps.length
  ·obtain ⟨p,D,hD⟩:∃ p D,ps.drop j=p::D:=by
    cases hh:ps.drop j with
    | nil=>have:=List.drop_eq_nil_iff.mp hh; omega
    | cons p D=>exact ⟨p,D,rfl⟩
   rw [hD] at hI
   have he:(ps.map encP)[((j:Nat):Int).toNat]? = some (encP p):=jp hD
   have hq:=w9 p a
   by_cases hpa:p=a
   ·have hI':insP ps a=ps:=by rw [hI]; exact if_pos hpa
    rw [hI'] at ih' hK
    rw [decide_eq_true hpa] at hq
    unfold encPl at *
    generalize hP:ps.map encP=pm at *
    unfold encRows encRow encCat encP zeroP at *
    dsimp only [List.cons_append,List.nil_append] at *
    unfold b66_0
    repeat' (first | refine je rfl (List.length_map _) ?_ | refine ji rfl rfl (by omega) hget rfl ?_ | refine call4 rfl rfl rfl rfl c1 ?_ | refine st6 ?_ | intro u)
    refine lp _ _ _ _ _ _ _ _ _ (by rfl) (by rfl) (by rfl) (by rfl) (by rfl) (by rfl) (by rfl) (by rfl) (by rfl) (by rfl) (fun s' u1 u3 c3 u5 c5 u7 u8 u9 c9 u10=>?_)
    rw [← ja u1,← ja u3,← jc c3,← ja u5,← jc c5,← ja u7,← ja u8,← ja u9,← jc c9,← ja u10]
    repeat' (first | refine je rfl hpsl ?_ | refine ji rfl rfl (by omega) he rfl ?_ | refine kO rfl rfl hq ?_ | refine st6 ?_ | intro u)
    exact ih' _ (by rfl) (by rfl) (by rfl) (by rfl) (by rfl) (by rfl) (by rfl) hK
   ·have hI':insP ps a=ps.take j++a::ps.drop j:=by rw [hI,hD]; exact if_neg hpa
    rw [hI'] at ih' hK
    rw [decide_eq_false hpa] at hq
    unfold encPl at *
    generalize hA:(ps.take j++a::ps.drop j).map encP=A at *
    generalize hP:ps.map encP=pm at *
    unfold encRows encRow encCat encP zeroP at *
    dsimp only [List.cons_append,List.nil_append] at *
    unfold b66_0
    repeat' (first | refine je rfl (List.length_map _) ?_ | refine ji rfl rfl (by omega) hget rfl ?_ | refine call4 rfl rfl rfl rfl c1 ?_ | refine st6 ?_ | intro u)
    refine lp _ _ _ _ _ _ _ _ _ (by rfl) (by rfl) (by rfl) (by rfl) (by rfl) (by rfl) (by rfl) (by rfl) (by rfl) (by rfl) (fun s' u1 u3 c3 u5 c5 u7 u8 u9 c9 u10=>?_)
    rw [← ja u1,← ja u3,← jc c3,← ja u5,← jc c5,← ja u7,← ja u8,← ja u9,← jc c9,← ja u10]
    repeat' (first | refine je rfl hpsl ?_ | refine ji rfl rfl (by omega) he rfl ?_ | refine kO rfl rfl hq ?_ | refine kS rfl rfl hj hw rfl ?_ | refine JI rfl rfl hj hw rfl ?_ | refine jr rfl rfl rfl rfl g1 hw1 rfl rfl (fun _ _=>?_) | refine jr rfl rfl rfl rfl (g2 _) (by intro e he; cases List.mem_singleton.mp he; rfl) rfl rfl (fun _ _=>?_) | refine WC rfl rfl rfl rfl (g3 _) hw2 hz (fun u=>?_) | refine st9 ?_ | intro u)
    exact ih' _ (by rfl) (by rfl) (by rfl) (by rfl) (by rfl) (by rfl) (by rfl) hK
  ·have hD:ps.drop j=[]:=List.drop_eq_nil_iff.mpr (by omega)
   have hje:j=ps.length:=by omega
   rw [hD] at hI
   have hI':insP ps a=ps.take j++a::ps.drop j:=by rw [hI,hD]
   rw [hI'] at ih' hK
   unfold encPl at *
   generalize hA:(ps.take j++a::ps.drop j).map encP=A at *
   generalize hP:ps.map encP=pm at *
   unfold encRows encRow encCat encP zeroP at *
   dsimp only [List.cons_append,List.nil_append] at *
   unfold b66_0
   repeat' (first | refine je rfl (List.length_map _) ?_ | refine ji rfl rfl (by omega) hget rfl ?_ | refine call4 rfl rfl rfl rfl c1 ?_ | refine st6 ?_ | intro u)
   refine lp _ _ _ _ _ _ _ _ _ (by rfl) (by rfl) (by rfl) (by rfl) (by rfl) (by rfl) (by rfl) (by rfl) (by rfl) (by rfl) (fun s' u1 u3 c3 u5 c5 u7 u8 u9 c9 u10=>?_)
   rw [← ja u1,← ja u3,← jc c3,← ja u5,← jc c5,← ja u7,← ja u8,← ja u9,← jc c9,← ja u10]
   repeat' (first | refine je rfl hpsl ?_ | refine kS rfl rfl hj hw rfl ?_ | refine JI rfl rfl hj hw rfl ?_ | refine jr rfl rfl rfl rfl g1 hw1 rfl rfl (fun _ _=>?_) | refine jr rfl rfl rfl rfl (g2 _) (by intro e he; cases List.mem_singleton.mp he; rfl) rfl rfl (fun _ _=>?_) | refine WC rfl rfl rfl rfl (g3 _) hw2 hz (fun u=>?_) | refine st9 ?_ | intro u)
   exact ih' _ (by rfl) (by rfl) (by rfl) (by rfl) (by rfl) (by rfl) (by rfl) hK
theorem jgz (c:CatS) (v:Go.Bag.Place) (rows:List RowS) (h:okCat2 c) (hv:u8P v) (hr:∀ r∈rows,u8P r.p) (hlen:rows.length≤10000) :
  CP 66 [.c (.agg (encCat c)),.c (encRows rows),.c (.agg (encP v))] (.c (encPl (placesS c v rows))) []:=by
 refine pcallF Tryz.func66 c66 rfl ?_
 have lp:=fun (K:Ex→PS→Prop) v3 v5 s=>ZZ (K:=K) c h v hv rows hr hlen v3 v5 rows 0 [] s rfl (by omega) (fun p hp=>by simp at hp) (by simp)
 have e0:rows.foldl (fun ps r=>insP ps (toP c zeroP v r.p).1) []=placesS c v rows:=rfl
 rw [e0] at lp
 generalize placesS c v rows=P at *
 unfold encPl at *
 generalize encRows rows=er at *
 unfold encCat encP at *
 unfold p66
 repeat' (first | refine st2 ?_ | intro u)
 refine lp _ _ _ _ (by rfl) (by rfl) (by rfl) (by rfl) (by rfl) (by rfl) (by rfl) (fun s' t7=>?_)
 rw [← ja t7]
 repeat' (first | refine st0 ?_ | intro u)
 exact jd rfl rfl
end Go.Proofs.YtnpncbplhdnonaaGreat
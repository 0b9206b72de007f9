/- Part of the proof of ExecTells, ExecAnswers, ExecBest, ExecFirst, ExecLevels, ExecTops, ExecLimits: lemmas. -/
import Derived.Test.YtnpncbplhdnonaaGreatExecS15
import Derived.Test.YtnpncbplhdnonaaGreatExecS27
set_option linter.unusedVariables false
set_option linter.unusedSimpArgs false
namespace Go.Proofs.YtnpncbplhdnonaaGreat
open Go.Pl Go.Bag
set_option maxRecDepth 100000
set_option maxHeartbeats 8000000
/-! ### Lines in a slice that is lent -/
section
variable {C : CallP} {l : List POp} {s : PS} {K : PS → Prop} {d : Nat} {x y : PO}
theorem jM {e w i:Nat} {L:List LineS} {v:LineS} (hx:s.ev x=.sp e w i 0) (hb:s.bx e=⟨w,.sl 11 (L.map encLn)⟩) (hv:L[i]? = some v) (h:wL C l (s.put d (.c (.agg (encLn v)))) K) :
  wL C (⟨some d,.load true 11 x [],none⟩::l) s K :=
 jbp (sz:=11) (es:=L.map encLn) (cs:=encLn v) hx (by simp) hb (by simp [hv]) (by simp [encLn]) rfl h
theorem vA {e w i:Nat} {L:List LineS} {v:LineS} (hx:s.ev x=.sp e w i 0) (hy:s.ev y=.c (.agg (encLn v))) (hb:s.bx e=⟨w,.sl 11 (L.map encLn)⟩) (hi:i < L.length)
  (h:wL C l (s.box e ⟨w,.sl 11 ((L.set i v).map encLn)⟩) K):wL C (⟨none,.store 11 x y [],none⟩::l) s K :=
 Y2 (sz:=11) (es:=L.map encLn) (cs:=encLn L[i]) hx hy (by simp) hb (by simp [hi]) rfl (by simp [encLn]) (by rw [List.map_set]; rfl) h
theorem jgn {p q:PCode} {K:KT} (R:PS→Prop) (h1:wP C p s (xT R K)) (h2:∀ s',R s'→wP C q s' K):wP C (.seq p q) s K:=by
 refine jK ?_
 unfold wP xT at *
 refine Zb (fun e s h=>?_) h1
 cases e with
 | n=>exact h2 _ h
 | x i=>exact h
 | r=>exact h
end
theorem getD_at {L:List LineS} {k:Nat} (h:k < L.length):L[k]? = some (L.getD k zeroLn):=by simp [List.getD_eq_getElem?_getD,h]
theorem getD_in {L:List LineS} {k:Nat} (h:k < L.length):L.getD k zeroLn∈L:=by
 rw [List.getD_eq_getElem?_getD,List.getElem?_eq_getElem h]; exact List.getElem_mem h
/-! ### swapRange, rotate -/
theorem jgo {K:KT} (fv:CV) (post:List LineS):∀ (X Y U M V:List LineS) (n i a b tot:Nat) (s:PS),X.length=Y.length→tot≤4000000000000000000 →
  tot=U.length + X.length + M.length + V.length + Y.length + post.length→U.length=a + i→b + i=U.length + X.length + M.length + V.length→i + X.length=n →
  s.t 0=.osl 0 0 0 tot→s.t 1=.c (.int .i64 a)→s.t 2=.c (.int .i64 b)→s.t 3=.c (.int .i64 n)→s.t 10=.c (.int .i64 i) →
  s.bx 0=⟨0,.sl 11 ((U++(X++(M++(V++(Y++post))))).map encLn)⟩ →
  (∀ s',s'.bx 0=⟨0,.sl 11 ((U++(Y++(M++(V++(X++post))))).map encLn)⟩→K (.x 0) s')→wP (CP) (.loop b162_0) s K:=by
 intro X
 induction X with
 | nil =>
  intro Y U M V n i a b tot s hXY htot hlen hU hb hn t0 t1 t2 t3 t10 bx hK
  obtain rfl:Y=[]:=List.eq_nil_of_length_eq_zero (by simpa using hXY.symm)
  refine jf ?_
  simp at hn
  subst hn
  rw [← ja t0,← ja t1,← ja t2,← ja t3,← ja t10,← jc bx]
  unfold b162_0
  repeat' (first | refine st0 ?_ | intro u)
  exact hK _ rfl
 | cons x X ih =>
  intro Y U M V n i a b tot s hXY htot hlen hU hb hn t0 t1 t2 t3 t10 bx hK
  cases Y with
  | nil=>simp at hXY
  | cons y Y =>
   simp only [List.length_cons,List.length_append] at hXY hlen hn hb
   refine jf ?_
   have e1:((a:Int) + (i:Int)).toNat=U.length:=by omega
   have e2:((b:Int) + (i:Int)).toNat=U.length + 1 + (X++(M++V)).length:=by simp only [List.length_append]; omega
   have hL:U++(x::X++(M++(V++(y::Y++post))))=U++x::((X++(M++V))++y::(Y++post)):=by simp
   rw [hL] at bx
   have f1:(U++x::((X++(M++V))++y::(Y++post)))[U.length]? = some x:=by simp
   have f2:(U++x::((X++(M++V))++y::(Y++post)))[U.length + 1 + (X++(M++V)).length]? = some y:=by
    rw [List.getElem?_append_right (by omega),show U.length + 1 + (X++(M++V)).length - U.length=(X++(M++V)).length + 1 by omega,List.getElem?_cons_succ]
    simp
   have f3:U.length < (U++x::((X++(M++V))++y::(Y++post))).length:=by simp
   have f4:U.length + 1 + (X++(M++V)).length < ((U++x::((X++(M++V))++y::(Y++post))).set U.length y).length:=by simp; omega
   have hs:=jl2 U (X++(M++V)) (Y++post) x y rfl rfl
   unfold swp at hs
   rw [f1,f2] at hs
   simp only at hs
   generalize hq:U.length + 1 + (X++(M++V)).length=q at *
   generalize hp:U.length=p at *
   rw [← ja t0,← ja t1,← ja t2,← ja t3,← ja t10,← jc bx]
   unfold b162_0
   repeat' (first | refine jH rfl rfl rfl (by omega) e1 ?_ | refine jH rfl rfl rfl (by omega) e2 ?_ | refine jM rfl rfl f1 ?_ | refine jM rfl rfl f2 ?_ | refine vA rfl rfl rfl f3 ?_ | refine vA rfl rfl rfl f4 ?_ | refine st1 ?_ | intro u)
   have hs':(⟨0,.sl 11 ((((U++x::((X++(M++V))++y::(Y++post))).set p y).set q x).map encLn)⟩:Box)=⟨0,.sl 11 (((U++[y])++(X++(M++((V++[x])++(Y++post))))).map encLn)⟩:=by rw [hs]; simp
   exact ih Y (U++[y]) M (V++[x]) n (i + 1) a b tot _ (by omega) htot (by simp; omega) (by simp; omega) (by simp; omega) (by omega) (by rfl) (by rfl) (by rfl) (by rfl) (by rfl) (by exact hs') (fun s' h'=>hK s' (by rw [h']; simp))
theorem Jn (fv:CV) (U X M Y post:List LineS) (hXY:X.length=Y.length) (a b n:Int) (ha:(U.length:Int)=a) (hb:(U.length + X.length + M.length:Nat)=b) (hn:(X.length:Int)=n) (htot:(U++(X++(M++(Y++post)))).length≤4000000000000000000) :
  CP 162 [.ios 11 ((U++(X++(M++(Y++post)))).map encLn),.c (.int .i64 a),.c (.int .i64 b),.c (.int .i64 n),.c fv] (.c (.tup [])) [[.sl ((U++(Y++(M++(X++post)))).map encLn)]]:=by
 subst ha hb hn
 refine pcallS (cs:=[.int .i64 _,.int .i64 _,.int .i64 _,fv]) Tryz.func162 c162 ?_
 unfold p162
 repeat' (first | refine st0 ?_ | intro u)
 exact jgo fv post X Y U M [] X.length 0 U.length (U.length + X.length + M.length) (U++(X++(M++(Y++post)))).length _ hXY htot (by simp; omega) (by omega) (by simp) (by omega) (by exact congrArg (PV.osl 0 0 0) (List.length_map _)) (by rfl) (by rfl) (by rfl) (by rfl) (by rfl) (fun s' h'=>JP h')
theorem jgp {K:KT} (fv:CV) (T:List LineS) (m tot:Nat) (htot:tot≤4000000000000000000):∀ (k:Nat) (U A B V:List LineS) (s:PS),A.length + B.length≤k→1≤A.length→1≤B.length →
  U++(B++(A++V))=T→T.length=tot→U.length + A.length=m →
  s.t 0=.osl 0 0 0 tot→s.t 2=.c (.int .i64 m)→s.t 4=.c fv→s.t 10=.c (.int .i64 A.length)→s.t 11=.c (.int .i64 B.length) →
  s.bx 0=⟨0,.sl 11 ((U++(A++(B++V))).map encLn)⟩ →
  (∀ s' U' A' B' V',A'.length=B'.length→U'++(B'++(A'++V'))=T→U'.length + A'.length=m→1≤A'.length →
   s'.t 0=.osl 0 0 0 tot→s'.t 2=.c (.int .i64 m)→s'.t 4=.c fv→s'.t 10=.c (.int .i64 A'.length) →
   s'.bx 0=⟨0,.sl 11 ((U'++(A'++(B'++V'))).map encLn)⟩→K (.x 0) s')→wP (CP) (.loop b149_0) s K:=by
 intro k
 induction k with
 | zero=>intro U A B V s hk hA hB; omega
 | succ k ih =>
  intro U A B V s hk hA hB hT hTl hm t0 t2 t4 t10 t11 bx hK
  have hl:U.length + B.length + A.length + V.length=tot:=by rw [← hTl,← hT]; simp; omega
  refine jf ?_
  rcases Nat.lt_trichotomy A.length B.length with hc | hc | hc
  ·-- the second part is longer
   have hBs:B=B.take (B.length - A.length)++B.drop (B.length - A.length):=(List.take_append_drop _ _).symm
   generalize hX:B.take (B.length - A.length)=X at hBs
   generalize hY:B.drop (B.length - A.length)=Y at hBs
   have hXl:X.length=B.length - A.length:=by rw [← hX,List.length_take]; omega
   have hYl:Y.length=A.length:=by rw [← hY,List.length_drop]; omega
   have hC:=Jn fv U A X Y V (by omega) ((m:Int) - A.length) ((m:Int) + B.length - A.length) A.length (by omega) (by omega) rfl (by simp; omega)
   have hL:(U++(A++(B++V)))=U++(A++(X++(Y++V))):=by rw [hBs]; simp
   rw [hL] at bx
   have hE:((U++(A++(X++(Y++V)))).map encLn).length=tot:=by simp; omega
   rw [← ja t0,← ja t2,← ja t4,← ja t10,← ja t11,← jc bx]
   unfold b149_0
   repeat' (first | refine callS4 rfl rfl hE.symm rfl rfl rfl rfl hC ?_ | refine st1 ?_ | intro u)
   exact ih U Y X (A++V) _ (by omega) (by omega) (by omega) (by rw [← hT,hBs]; simp) hTl (by omega) (by rfl) (by rfl) (by rfl) (by exact congrArg (fun n:Nat=>PV.c (CV.int .i64 n)) hYl.symm) (by exact congrArg (fun n=>PV.c (CV.int .i64 n)) (by omega)) (by rfl) hK
  ·have hc':(A.length:Int)=B.length:=by omega
   have t11':s.t 11=.c (.int .i64 A.length):=by rw [t11,hc']
   have bx':=bx
   rw [← ja t0,← ja t2,← ja t4,← ja t10,← ja t11',← jc bx]
   unfold b149_0
   repeat' (first | refine st2 ?_ | intro u)
   exact hK _ U A B V hc hT hm hA (by rfl) (by rfl) (by rfl) (by rfl) (by rfl)
  ·-- the first part is longer
   have hAs:A=A.take B.length++A.drop B.length:=(List.take_append_drop _ _).symm
   generalize hX:A.take B.length=X at hAs
   generalize hY:A.drop B.length=Y at hAs
   have hXl:X.length=B.length:=by rw [← hX,List.length_take]; omega
   have hYl:Y.length=A.length - B.length:=by rw [← hY,List.length_drop]
   have hC:=Jn fv U X Y B V (by omega) ((m:Int) - A.length) m B.length (by omega) (by omega) (by omega) (by simp; omega)
   have hL:(U++(A++(B++V)))=U++(X++(Y++(B++V))):=by rw [hAs]; simp
   rw [hL] at bx
   have hE:((U++(X++(Y++(B++V)))).map encLn).length=tot:=by simp; omega
   rw [← ja t0,← ja t2,← ja t4,← ja t10,← ja t11,← jc bx]
   unfold b149_0
   repeat' (first | refine callS4 rfl rfl hE.symm rfl rfl rfl rfl hC ?_ | refine st1 ?_ | intro u)
   have hs:(⟨0,.sl 11 ((U++(B++(Y++(X++V)))).map encLn)⟩:Box)=⟨0,.sl 11 (((U++B)++(Y++(X++V))).map encLn)⟩:=by simp
   exact ih (U++B) Y X V _ (by omega) (by omega) (by omega) (by rw [← hT,hAs]; simp) hTl (by simp; omega) (by rfl) (by rfl) (by rfl) (by exact congrArg (fun n=>PV.c (CV.int .i64 n)) (by omega)) (by exact congrArg (fun n:Nat=>PV.c (CV.int .i64 n)) hXl.symm) (by exact hs) hK
theorem jgq (fv:CV) (U A B V:List LineS) (hA:1≤A.length) (hB:1≤B.length) (a m b:Int) (ha:(U.length:Int)=a) (hm:(U.length + A.length:Nat)=m) (hb:(U.length + A.length + B.length:Nat)=b) (htot:(U++(A++(B++V))).length≤4000000000000000000) :
  CP 149 [.ios 11 ((U++(A++(B++V))).map encLn),.c (.int .i64 a),.c (.int .i64 m),.c (.int .i64 b),.c fv] (.c (.tup [])) [[.sl ((U++(B++(A++V))).map encLn)]]:=by
 subst ha hm hb
 have hl:U.length + (A.length + (B.length + V.length))≤4000000000000000000:=by simpa using htot
 refine pcallS (cs:=[.int .i64 _,.int .i64 _,.int .i64 _,fv]) Tryz.func149 c149 ?_
 have hT:(U++(B++(A++V))).length=U.length + (A.length + (B.length + V.length)):=by simp; omega
 have hE:((U++(A++(B++V))).map encLn).length=U.length + (A.length + (B.length + V.length)):=by simp
 generalize hTT:U++(B++(A++V))=T at *
 unfold p149
 repeat' (first | refine st0 ?_ | intro u)
 refine jgp fv T (U.length + A.length) (U.length + (A.length + (B.length + V.length))) hl (A.length + B.length) U A B V _ (Nat.le_refl _) hA hB hTT hT rfl (by exact congrArg (PV.osl 0 0 0) hE) (by rfl) (by rfl) (by exact congrArg (fun n=>PV.c (CV.int .i64 n)) (by omega)) (by exact congrArg (fun n=>PV.c (CV.int .i64 n)) (by omega)) (by rfl) ?_
 intro s' U' A' B' V' h1 h2 h3 h4 t0 t2 t4 t10 bx
 refine JP ?_
 have hl':U'.length + B'.length + A'.length + V'.length=U.length + (A.length + (B.length + V.length)):=by rw [← hT,← h2]; simp; omega
 have hC:=Jn fv U' A' [] B' V' h1 (((U.length + A.length:Nat):Int) - A'.length) ((U.length + A.length:Nat):Int) A'.length (by omega) (by simp; omega) rfl (by simp; omega)
 have hE':((U'++(A'++([]++(B'++V')))).map encLn).length=U.length + (A.length + (B.length + V.length)):=by simp; omega
 rw [← ja t0,← ja t2,← ja t4,← ja t10,← jc bx]
 repeat' (first | refine callS4 rfl rfl hE'.symm rfl rfl rfl rfl hC ?_ | refine st1 ?_ | intro u)
 rw [← h2]
 rfl
set_option maxRecDepth 100000
set_option maxHeartbeats 8000000
/-! ### insertionSortCmpFunc -/
def leF (cf:LineS→LineS→Int) (x y:LineS):Bool:=decide (0≤cf y x)
def Cmps (f:FuncId) (caps:List (List CV)) (cf:LineS→LineS→Int) (ok:LineS→Prop):Prop :=
 ∀ x y,ok x→ok y→CP f ([.c (encLine x),.c (encLine y)]++caps.map .rp) (.c (.int .i64 (cf x y))) []
section
variable {f : FuncId} {caps : List (List CV)} {cf : LineS → LineS → Int} {ok : LineS → Prop}
theorem jl3 (hC:Cmps f caps cf ok) (hp:PreO (leF cf)) (tot a b i:Nat) (x:LineS) (hx:ok x) (U V:List LineS) (hU:U.length=a) {K:KT} (htot:tot≤4000000000000000000):∀ (n:Nat) (P Q:List LineS) (s:PS),P.length=n →
  U.length + (P.length + (1 + (Q.length + V.length)))=tot→Srt (leF cf) (P++Q)→(∀ y∈Q,leF cf y x=false)→(∀ z∈P,ok z) →
  s.t 0=.osl 0 0 0 tot→s.t 1=.c (.int .i64 a)→s.t 2=.c (.int .i64 b)→s.t 3=.c (.clo f caps)→s.t 8=.c (.int .i64 i)→s.t 9=.c (.int .i64 (a + P.length:Nat)) →
  s.bx 0=⟨0,.sl 11 ((U++(P++x::(Q++V))).map encLn)⟩ →
  (∀ s',s'.t 0=.osl 0 0 0 tot→s'.t 1=.c (.int .i64 a)→s'.t 2=.c (.int .i64 b)→s'.t 3=.c (.clo f caps)→s'.t 8=.c (.int .i64 i) →
   s'.bx 0=⟨0,.sl 11 ((U++(insS (leF cf) (P++Q) x++V)).map encLn)⟩→K (.x 2) s')→wP (CP) (.loop b118_1) s K:=by
 intro n
 induction n with
 | zero =>
  intro P Q s hn hl hS hQ hok t0 t1 t2 t3 t8 t9 bx hK
  obtain rfl:P=[]:=List.eq_nil_of_length_eq_zero hn
  have hi:=YM hp (P:=[]) hS hQ (by simp)
  refine jf ?_
  rw [List.length_nil,Nat.add_zero] at t9
  rw [← ja t0,← ja t1,← ja t2,← ja t3,← ja t8,← ja t9,← jc bx]
  unfold b118_1
  repeat' (first | refine st2 ?_ | intro u)
  exact hK _ (by rfl) (by rfl) (by rfl) (by rfl) (by rfl) (by rw [hi]; simp; rfl)
 | succ n ih =>
  intro P Q s hn hl hS hQ hok t0 t1 t2 t3 t8 t9 bx hK
  have hne:P≠[]:=fun e=>by rw [e] at hn; simp at hn
  obtain ⟨P',z,rfl⟩:∃ P' z,P=P'++[z]:=⟨P.dropLast,P.getLast hne,(List.dropLast_concat_getLast hne).symm⟩
  simp only [List.length_append,List.length_cons,List.length_nil] at hn hl t9
  have hL:U++((P'++[z])++x::(Q++V))=(U++P')++z::x::(Q++V):=by simp
  rw [hL] at bx
  generalize hq:(U++P').length=q
  have hq':q=a + P'.length:=by rw [← hq,← hU]; simp
  have f1:((U++P')++z::x::(Q++V))[q + 1]? = some x:=by rw [← hq,List.getElem?_append_right (by omega)]; simp
  have f2:((U++P')++z::x::(Q++V))[q]? = some z:=by rw [← hq]; simp
  have f3:q + 1 < ((U++P')++z::x::(Q++V)).length:=by simp at hq ⊢; omega
  have f4:q < (((U++P')++z::x::(Q++V)).set (q + 1) z).length:=by simp at hq ⊢; omega
  have hw:((((U++P')++z::x::(Q++V)).set (q + 1) z).set q x)=U++(P'++x::((z::Q)++V)):=by
   rw [List.set_append_right _ _ (by omega),List.set_append_right _ _ (by omega),show q + 1 - (U++P').length=1 by omega,show q - (U++P').length=0 by omega]
   simp
  have e1:(((a + (P'.length + (0 + 1)):Nat):Int)).toNat=q + 1:=by omega
  have e2:(((a + (P'.length + (0 + 1)):Nat):Int) - 1).toNat=q:=by omega
  have hj:(a:Int) < ((a + (P'.length + (0 + 1)):Nat):Int):=by omega
  have hb:((a + (P'.length + (0 + 1)):Nat):Int) < tot:=by omega
  have hz:ok z:=hok z (by simp)
  have c1:=hC x z hx hz
  have hle:leF cf z x=decide (0≤cf x z):=rfl
  have f5:(((U++P')++z::x::(Q++V))).length=tot:=by simp at hq ⊢; omega
  have ht9:((a + (P'.length + (0 + 1)):Nat):Int) - 1=(a + P'.length:Nat):=by omega
  generalize hjj:((a + (P'.length + (0 + 1)):Nat):Int)=jj at *
  refine jf ?_
  by_cases hc:cf x z < 0
  ·rw [← ja t0,← ja t1,← ja t2,← ja t3,← ja t8,← ja t9,← jc bx]
   unfold b118_1
   repeat' (first | refine jH rfl rfl rfl (by omega) e1 ?_ | refine jH rfl rfl rfl (by omega) e2 ?_ | refine jM rfl rfl f1 ?_ | refine jM rfl rfl f2 ?_ | refine vA rfl rfl rfl f3 ?_ | refine vA rfl rfl rfl f4 ?_ | refine callV2 rfl rfl rfl c1 ?_ | refine st6 ?_ | intro u)
   have hs':(⟨0,.sl 11 ((((((U++P')++z::x::(Q++V)).set (q + 1) z).set q x)).map encLn)⟩:Box)=⟨0,.sl 11 ((U++(P'++x::((z::Q)++V))).map encLn)⟩:=by rw [hw]
   have hS':Srt (leF cf) (P'++z::Q):=by simpa using hS
   exact ih P' (z::Q) _ (by omega) (by simp; omega) hS' (fun y hy=>by
     rcases List.mem_cons.mp hy with e | e
     ·rw [e,hle]; simp; omega
     ·exact hQ y e) (fun y hy=>hok y (by simp [hy])) (by rfl) (by rfl) (by rfl) (by rfl) (by rfl) (by exact congrArg (fun n=>PV.c (CV.int .i64 n)) ht9) (by exact hs')
    (fun s' h0 h1 h2 h3 h8 hb'=>hK s' h0 h1 h2 h3 h8 (by rw [hb']; simp))
  ·have hi:=YM hp (P:=P'++[z]) (Q:=Q) (x:=x) hS hQ (Srt.last_le hp (List.pairwise_append.mp hS).1 (by rw [hle]; simp; omega))
   rw [← ja t0,← ja t1,← ja t2,← ja t3,← ja t8,← ja t9,← jc bx]
   unfold b118_1
   repeat' (first | refine jH rfl rfl rfl (by omega) e1 ?_ | refine jH rfl rfl rfl (by omega) e2 ?_ | refine jM rfl rfl f1 ?_ | refine jM rfl rfl f2 ?_ | refine callV2 rfl rfl rfl c1 ?_ | refine st8 ?_ | intro u)
   exact hK _ (by rfl) (by rfl) (by rfl) (by rfl) (by rfl) (by rw [hi]; simp; rfl)
theorem jjp (hC:Cmps f caps cf ok) (hp:PreO (leF cf)) (tot a b:Nat) (U V:List LineS) (hU:U.length=a) {K:KT} (htot:tot≤4000000000000000000):∀ (R D:List LineS) (s:PS),
  U.length + (D.length + (R.length + V.length))=tot→a + D.length + R.length=b→(∀ z∈D,ok z)→(∀ z∈R,ok z) →
  s.t 0=.osl 0 0 0 tot→s.t 1=.c (.int .i64 a)→s.t 2=.c (.int .i64 b)→s.t 3=.c (.clo f caps)→s.t 8=.c (.int .i64 (a + D.length:Nat)) →
  s.bx 0=⟨0,.sl 11 ((U++(sortS (leF cf) D++(R++V))).map encLn)⟩ →
  (∀ s',s'.bx 0=⟨0,.sl 11 ((U++(sortS (leF cf) (D++R)++V)).map encLn)⟩→K (.x 0) s')→wP (CP) (.loop b118_0) s K:=by
 intro R
 induction R with
 | nil =>
  intro D s hl hb hD hR t0 t1 t2 t3 t8 bx hK
  simp only [List.length_nil] at hb
  refine jf ?_
  have hbb:((a + D.length:Nat):Int)=b:=by omega
  rw [hbb] at t8
  rw [← ja t0,← ja t1,← ja t2,← ja t3,← ja t8,← jc bx]
  unfold b118_0
  repeat' (first | refine st0 ?_ | intro u)
  exact hK _ (by simp; rfl)
 | cons x R ih =>
  intro D s hl hb hD hR t0 t1 t2 t3 t8 bx hK
  simp only [List.length_cons] at hl hb
  have hlen:=jy (le:=leF cf) D
  have hbb:((a + D.length:Nat):Int) < b:=by omega
  have hbt:(b:Int)≤tot:=by omega
  have hin:=fun K' s h0 h1 h2 h3 h8 h9 hbx hK'=>jl3 hC hp tot a b (a + D.length) x (hR x (by simp)) U (R++V) hU (K:=K') htot (sortS (leF cf) D).length (sortS (leF cf) D) [] s rfl (by simp; omega) (by simpa using kJ hp D) (by simp) (fun z hz=>hD z ((kh hp D z).mp hz)) h0 h1 h2 h3 h8 h9 hbx hK'
  have ht9:((a + (sortS (leF cf) D).length:Nat):Int)=((a + D.length:Nat):Int):=by omega
  have ht8:((a + D.length:Nat):Int) + 1=((a + (D++[x]).length:Nat):Int):=by simp; omega
  generalize hii:a + D.length=ii at *
  refine jf ?_
  rw [← ja t0,← ja t1,← ja t2,← ja t3,← ja t8,← jc bx]
  unfold b118_0
  repeat' (first  | refine jK ?_ | refine jN ?_ | refine jE ?_ | refine ko ?_ | refine jY ?_ | refine jP ?_ | refine jR rfl ?_ | refine kC rfl ?_ | refine kU rfl rfl (by omega) ?_)
  refine hin _ _ (by rfl) (by rfl) (by rfl) (by rfl) (by rfl) (by exact congrArg (fun n=>PV.c (CV.int .i64 n)) ht9.symm) (by rfl) ?_
  intro s' t0 t1 t2 t3 t8 bx
  rw [← ja t0,← ja t1,← ja t2,← ja t3,← ja t8,← jc bx]
  repeat' (first | refine st0 ?_ | intro u)
  have hs':(⟨0,.sl 11 ((U++(insS (leF cf) (sortS (leF cf) D++[]) x++(R++V))).map encLn)⟩:Box)=⟨0,.sl 11 ((U++(sortS (leF cf) (D++[x])++(R++V))).map encLn)⟩:=by rw [Xr,List.append_nil]
  exact ih (D++[x]) _ (by simp; omega) (by simp; omega) (fun z hz=>by rcases List.mem_append.mp hz with e | e; exact hD z e; exact hR z (by simp at e; simp [e])) (fun z hz=>hR z (by simp [hz])) (by rfl) (by rfl) (by rfl) (by rfl) (by exact congrArg (fun n=>PV.c (CV.int .i64 n)) ht8) (by exact hs')
   (fun s' hb'=>hK s' (by rw [hb']; simp))
theorem Wd (hC:Cmps f caps cf ok) (hp:PreO (leF cf)) (U S V:List LineS) (hS:∀ z∈S,ok z) (a b:Int) (ha:(U.length:Int)=a) (hb:(U.length + S.length:Nat)=b) (htot:(U++(S++V)).length≤4000000000000000000) :
  CP 118 [.ios 11 ((U++(S++V)).map encLn),.c (.int .i64 a),.c (.int .i64 b),.c (.clo f caps)] (.c (.tup [])) [[.sl ((U++(sortS (leF cf) S++V)).map encLn)]]:=by
 subst ha hb
 have hl:U.length + (S.length + V.length)≤4000000000000000000:=by simpa using htot
 have hE:((U++(S++V)).map encLn).length=U.length + (S.length + V.length):=by simp
 refine pcallS (cs:=[.int .i64 _,.int .i64 _,.clo f caps]) Tryz.func118 c118 ?_
 cases S with
 | nil =>
  have h1:¬ ((U.length:Int) + 1 < ((U.length + ([]:List LineS).length:Nat):Int)):=by simp; omega
  have h0:-9223372036854775808≤(U.length:Int) + 1∧(U.length:Int) + 1≤9223372036854775807:=by simp at hl; omega
  unfold p118 b118_0
  repeat' (first | refine jf ?_ | refine st0 ?_ | intro u)
  rfl
 | cons x S =>
  simp only [List.length_cons] at hl hE ⊢
  have h0:-9223372036854775808≤(U.length:Int) + 1∧(U.length:Int) + 1≤9223372036854775807:=by omega
  unfold p118
  repeat' (first | refine st0 ?_ | intro u)
  exact jjp hC hp (U.length + (S.length + 1 + V.length)) U.length (U.length + (S.length + 1)) U V rfl hl S [x] _ (by simp; omega) (by simp; omega) (fun z hz=>hS z (by simp at hz; simp [hz])) (fun z hz=>hS z (by simp [hz])) (by exact congrArg (PV.osl 0 0 0) hE) (by rfl) (by rfl) (by rfl) (by rfl) (by rfl) (fun s' h'=>JP h')
end
end Go.Proofs.YtnpncbplhdnonaaGreat
/-
 THE MERGING OF TWO SORTED PARTS BY HALVES,PLAIN: where they are cut. My own work.
-/
namespace Go.Bag
section
variable {α : Type} {le : α → α → Bool}
theorem Srt.at_le (hp:PreO le) (z:α) {S:List α} (h:Srt le S) {i j:Nat} (hij:i≤j) (hj:j < S.length):le (S.getD i z) (S.getD j z)=true:=by
 rw [List.getD_eq_getElem?_getD,List.getD_eq_getElem?_getD,List.getElem?_eq_getElem hj,List.getElem?_eq_getElem (by omega)]
 simp only [Option.getD_some]
 rcases Nat.lt_or_ge i j with k | k
 ·exact (List.pairwise_iff_getElem.mp h) i j (by omega) hj k
 ·obtain rfl:i=j:=by omega
  exact hp.rf _
theorem wc (z:α) {S:List α} {n:Nat} {x:α} (h:x∈S.take n):∃ j,j < n∧j < S.length∧x=S.getD j z:=by
 obtain ⟨j,hj,e⟩:=List.mem_iff_getElem.mp h
 have hj':=hj
 rw [List.length_take] at hj'
 refine ⟨j,by omega,by omega,?_⟩
 rw [← e,List.getElem_take,List.getD_eq_getElem?_getD,List.getElem?_eq_getElem (by omega)]
 rfl
theorem we (z:α) {S:List α} {n:Nat} {x:α} (h:x∈S.drop n):∃ j,n≤j∧j < S.length∧x=S.getD j z:=by
 obtain ⟨j,hj,e⟩:=List.mem_iff_getElem.mp h
 have hj':=hj
 rw [List.length_drop] at hj'
 refine ⟨n + j,by omega,by omega,?_⟩
 rw [← e,List.getElem_drop,List.getD_eq_getElem?_getD,List.getElem?_eq_getElem (by omega)]
 rfl
theorem jjq (hp:PreO le) (z:α) {A B:List α} (hA:Srt le A) (hB:Srt le B) (w u s0 r0:Nat) (hs:s0=0∨s0 + B.length=w) (hr:r0=w∨r0=A.length) (hu:s0≤u∧u≤r0) (hrw:r0≤w) (hrA:r0≤A.length) (hwB:w≤s0 + B.length)
  (ht:∀ c,s0≤c→c < u→le (A.getD c z) (B.getD (w - 1 - c) z)=true) (hf:∀ c,u≤c→c < r0→le (A.getD c z) (B.getD (w - 1 - c) z)=false) :
  (∀ a∈A.take u,∀ b∈B.drop (w - u),le a b=true)∧(∀ a∈A.drop u,∀ b∈B.take (w - u),le a b=false):=by
 constructor
 ·intro a ha b hb
  obtain ⟨i,hi,hiA,rfl⟩:=wc z ha
  obtain ⟨j,hj,hjB,rfl⟩:=we z hb
  have h:=ht (u - 1) (by omega) (by omega)
  refine hp.tr _ _ _ (hp.tr _ _ _ (Srt.at_le hp z hA (show i≤u - 1 by omega) (by omega)) h) (Srt.at_le hp z hB (by omega) hjB)
 ·intro a ha b hb
  obtain ⟨i,hi,hiA,rfl⟩:=we z ha
  obtain ⟨j,hj,hjB,rfl⟩:=wc z hb
  have h:=hf u (Nat.le_refl _) (by omega)
  cases e:le (A.getD i z) (B.getD j z)
  ·rfl
  ·have:=hp.tr _ _ _ (hp.tr _ _ _ (Srt.at_le hp z hA hi hiA) e) (Srt.at_le hp z hB (show j≤w - 1 - u by omega) (by omega))
   rw [h] at this; cases this
structure Cut (p:Nat→Prop) (lo0 hi0 lo hi:Nat):Prop where
 l:lo0≤lo
 m:lo≤hi
 h:hi≤hi0
 t:∀ k,lo0≤k→k < lo→p k
 f:∀ k,hi≤k→k < hi0→¬ p k
theorem Cut.up {p:Nat→Prop} {lo0 hi0 lo hi k:Nat} (hm:∀ i j,lo0≤i→i≤j→j < hi0→p j→p i) (h:Cut p lo0 hi0 lo hi) (h1:k < hi) (hk:p k):lo≤k→Cut p lo0 hi0 (k + 1) hi:=fun h2 =>
 ⟨by have:=h.l; omega,by omega,h.h,fun i hi hik=>hm i k hi (by omega) (by have:=h.h; omega) hk,h.f⟩
theorem Cut.down {p:Nat→Prop} {lo0 hi0 lo hi k:Nat} (hm:∀ i j,lo0≤i→i≤j→j < hi0→p j→p i) (h:Cut p lo0 hi0 lo hi) (h1:lo≤k) (hk:¬ p k):k < hi→Cut p lo0 hi0 lo k:=fun h2 =>
 ⟨h.l,h1,by have:=h.h; omega,h.t,fun i hi hih hpi=>hk (hm k i (by have:=h.l; omega) hi hih hpi)⟩
theorem Vy (z:α) (U A V:List α) {j:Nat} (hj:j < A.length):(U++(A++V)).getD (U.length + j) z=A.getD j z:=by
 rw [List.getD_eq_getElem?_getD,List.getD_eq_getElem?_getD,List.getElem?_append_right (by omega),show U.length + j - U.length=j by omega,List.getElem?_append_left hj]
end
end Go.Bag
namespace Go.Proofs.YtnpncbplhdnonaaGreat
open Go.Pl Go.Bag
set_option maxRecDepth 100000
set_option maxHeartbeats 8000000
/-! ### symMergeCmpFunc: the loops -/
section
variable {f : FuncId} {caps : List (List CV)} {cf : LineS → LineS → Int} {ok : LineS → Prop}
theorem bs1 (hC:Cmps f caps cf ok) (L:List LineS) (tot a lo0 hi0:Nat) (x:LineS) (hL:L.length=tot) (htot:tot≤4000000000000000000) (hok:∀ z∈L,ok z) (hx:L[a]? = some x) (hh:hi0≤tot)
  (hm:∀ i j,lo0≤i→i≤j→j < hi0→cf (L.getD j zeroLn) x < 0→cf (L.getD i zeroLn) x < 0) {K:KT}:∀ (n lo hi:Nat) (s:PS),hi - lo≤n→Cut (fun k=>cf (L.getD k zeroLn) x < 0) lo0 hi0 lo hi →
  s.t 0=.osl 0 0 0 tot→s.t 1=.c (.int .i64 a)→s.t 4=.c (.clo f caps)→s.t 10=.c (.int .i64 lo)→s.t 11=.c (.int .i64 hi)→s.bx 0=⟨0,.sl 11 (L.map encLn)⟩ →
  (∀ s' c,Cut (fun k=>cf (L.getD k zeroLn) x < 0) lo0 hi0 c c→s'.t 0=.osl 0 0 0 tot→s'.t 1=.c (.int .i64 a)→s'.t 4=.c (.clo f caps)→s'.t 10=.c (.int .i64 c)→s'.bx 0=⟨0,.sl 11 (L.map encLn)⟩→K (.x 0) s') →
  wP (CP) (.loop b119_0) s K:=by
 intro n
 induction n with
 | zero =>
  intro lo hi s hn hc t0 t1 t4 t10 t11 bx hK
  obtain rfl:lo=hi:=by have:=hc.m; omega
  refine jf ?_
  rw [← ja t0,← ja t1,← ja t4,← ja t10,← ja t11,← jc bx]
  unfold b119_0
  repeat' (first | refine st0 ?_ | intro u)
  exact hK _ lo hc (by rfl) (by rfl) (by rfl) (by rfl) (by rfl)
 | succ n ih =>
  intro lo hi s hn hc t0 t1 t4 t10 t11 bx hK
  refine jf ?_
  by_cases hlh:lo < hi
  ·have hhi:=hc.h
   have e1:(((lo:Int) + hi) / 2).toNat=(lo + hi) / 2:=by omega
   have e2:((a:Int)).toNat=a:=by omega
   have hal:a < tot:=by rw [← hL]; exact (List.getElem?_eq_some_iff.mp hx).1
   have f1:=getD_at (L:=L) (k:=(lo + hi) / 2) (by omega)
   have c1:=hC (L.getD ((lo + hi) / 2) zeroLn) x (hok _ (getD_in (by omega))) (hok _ (List.mem_of_getElem? hx))
   have t10':((((lo + hi) / 2 + 1:Nat)):Int)=((lo:Int) + hi) / 2 + 1:=by omega
   have t11':((((lo + hi) / 2:Nat)):Int)=((lo:Int) + hi) / 2:=by omega
   by_cases hcmp:cf (L.getD ((lo + hi) / 2) zeroLn) x < 0
   ·rw [← ja t0,← ja t1,← ja t4,← ja t10,← ja t11,← jc bx]
    unfold b119_0
    repeat' (first | refine jH rfl rfl rfl (by omega) e1 ?_ | refine jH rfl rfl rfl (by omega) e2 ?_ | refine jM rfl rfl f1 ?_ | refine jM rfl rfl hx ?_ | refine callV2 rfl rfl rfl c1 ?_ | refine JM (n:=1) (m:=2) rfl rfl (by decide) (by decide) ?_ | refine st1 ?_ | intro u)
    exact ih ((lo + hi) / 2 + 1) hi _ (by omega) (hc.up hm (by omega) hcmp (by omega)) (by rfl) (by rfl) (by rfl) (by exact congrArg (fun n=>PV.c (CV.int .i64 n)) t10'.symm) (by rfl) (by rfl) hK
   ·rw [← ja t0,← ja t1,← ja t4,← ja t10,← ja t11,← jc bx]
    unfold b119_0
    repeat' (first | refine jH rfl rfl rfl (by omega) e1 ?_ | refine jH rfl rfl rfl (by omega) e2 ?_ | refine jM rfl rfl f1 ?_ | refine jM rfl rfl hx ?_ | refine callV2 rfl rfl rfl c1 ?_ | refine JM (n:=1) (m:=2) rfl rfl (by decide) (by decide) ?_ | refine st1 ?_ | intro u)
    exact ih lo ((lo + hi) / 2) _ (by omega) (hc.down hm (by omega) hcmp (by omega)) (by rfl) (by rfl) (by rfl) (by rfl) (by exact congrArg (fun n=>PV.c (CV.int .i64 n)) t11'.symm) (by rfl) hK
  ·obtain rfl:lo=hi:=by have:=hc.m; omega
   rw [← ja t0,← ja t1,← ja t4,← ja t10,← ja t11,← jc bx]
   unfold b119_0
   repeat' (first | refine st0 ?_ | intro u)
   exact hK _ lo hc (by rfl) (by rfl) (by rfl) (by rfl) (by rfl)
theorem bs2 (hC:Cmps f caps cf ok) (L:List LineS) (tot m lo0 hi0:Nat) (x:LineS) (hL:L.length=tot) (htot:tot≤4000000000000000000) (hok:∀ z∈L,ok z) (hx:L[m]? = some x) (hh:hi0≤tot)
  (hm:∀ i j,lo0≤i→i≤j→j < hi0→¬ cf x (L.getD j zeroLn) < 0→¬ cf x (L.getD i zeroLn) < 0) {K:KT}:∀ (n lo hi:Nat) (s:PS),hi - lo≤n→Cut (fun k=>¬ cf x (L.getD k zeroLn) < 0) lo0 hi0 lo hi →
  s.t 0=.osl 0 0 0 tot→s.t 2=.c (.int .i64 m)→s.t 4=.c (.clo f caps)→s.t 14=.c (.int .i64 lo)→s.t 15=.c (.int .i64 hi)→s.bx 0=⟨0,.sl 11 (L.map encLn)⟩ →
  (∀ s' c,Cut (fun k=>¬ cf x (L.getD k zeroLn) < 0) lo0 hi0 c c→s'.t 0=.osl 0 0 0 tot→s'.t 2=.c (.int .i64 m)→s'.t 4=.c (.clo f caps)→s'.t 14=.c (.int .i64 c)→s'.bx 0=⟨0,.sl 11 (L.map encLn)⟩→K (.x 4) s') →
  wP (CP) (.loop b119_2) s K:=by
 intro n
 induction n with
 | zero =>
  intro lo hi s hn hc t0 t1 t4 t10 t11 bx hK
  obtain rfl:lo=hi:=by have:=hc.m; omega
  refine jf ?_
  rw [← ja t0,← ja t1,← ja t4,← ja t10,← ja t11,← jc bx]
  unfold b119_2
  repeat' (first | refine st0 ?_ | intro u)
  exact hK _ lo hc (by rfl) (by rfl) (by rfl) (by rfl) (by rfl)
 | succ n ih =>
  intro lo hi s hn hc t0 t1 t4 t10 t11 bx hK
  refine jf ?_
  by_cases hlh:lo < hi
  ·have hhi:=hc.h
   have e1:(((lo:Int) + hi) / 2).toNat=(lo + hi) / 2:=by omega
   have e2:((m:Int)).toNat=m:=by omega
   have hal:m < tot:=by rw [← hL]; exact (List.getElem?_eq_some_iff.mp hx).1
   have f1:=getD_at (L:=L) (k:=(lo + hi) / 2) (by omega)
   have c1:=hC x (L.getD ((lo + hi) / 2) zeroLn) (hok _ (List.mem_of_getElem? hx)) (hok _ (getD_in (by omega)))
   have t10':((((lo + hi) / 2 + 1:Nat)):Int)=((lo:Int) + hi) / 2 + 1:=by omega
   have t11':((((lo + hi) / 2:Nat)):Int)=((lo:Int) + hi) / 2:=by omega
   by_cases hcmp:cf x (L.getD ((lo + hi) / 2) zeroLn) < 0
   ·rw [← ja t0,← ja t1,← ja t4,← ja t10,← ja t11,← jc bx]
    unfold b119_2
    repeat' (first | refine jH rfl rfl rfl (by omega) e1 ?_ | refine jH rfl rfl rfl (by omega) e2 ?_ | refine jM rfl rfl f1 ?_ | refine jM rfl rfl hx ?_ | refine callV2 rfl rfl rfl c1 ?_ | refine JM (n:=1) (m:=2) rfl rfl (by decide) (by decide) ?_ | refine st1 ?_ | intro u)
    exact ih lo ((lo + hi) / 2) _ (by omega) (hc.down hm (by omega) (fun h=>h hcmp) (by omega)) (by rfl) (by rfl) (by rfl) (by rfl) (by exact congrArg (fun n=>PV.c (CV.int .i64 n)) t11'.symm) (by rfl) hK
   ·rw [← ja t0,← ja t1,← ja t4,← ja t10,← ja t11,← jc bx]
    unfold b119_2
    repeat' (first | refine jH rfl rfl rfl (by omega) e1 ?_ | refine jH rfl rfl rfl (by omega) e2 ?_ | refine jM rfl rfl f1 ?_ | refine jM rfl rfl hx ?_ | refine callV2 rfl rfl rfl c1 ?_ | refine JM (n:=1) (m:=2) rfl rfl (by decide) (by decide) ?_ | refine st1 ?_ | intro u)
    exact ih ((lo + hi) / 2 + 1) hi _ (by omega) (hc.up hm (by omega) hcmp (by omega)) (by rfl) (by rfl) (by rfl) (by exact congrArg (fun n=>PV.c (CV.int .i64 n)) t10'.symm) (by rfl) (by rfl) hK
  ·obtain rfl:lo=hi:=by have:=hc.m; omega
   rw [← ja t0,← ja t1,← ja t4,← ja t10,← ja t11,← jc bx]
   unfold b119_2
   repeat' (first | refine st0 ?_ | intro u)
   exact hK _ lo hc (by rfl) (by rfl) (by rfl) (by rfl) (by rfl)
theorem bs3 (hC:Cmps f caps cf ok) (L:List LineS) (tot a m b mid nn p lo0 hi0:Nat) (hL:L.length=tot) (htot:tot≤4000000000000000000) (hok:∀ z∈L,ok z) (hh:hi0≤tot) (hp0:hi0≤p + 1) (hp1:p < tot + lo0)
  (hm:∀ i j,lo0≤i→i≤j→j < hi0→¬ cf (L.getD (p - j) zeroLn) (L.getD j zeroLn) < 0→¬ cf (L.getD (p - i) zeroLn) (L.getD i zeroLn) < 0) {K:KT}:∀ (n lo hi:Nat) (s:PS),hi - lo≤n→Cut (fun k=>¬ cf (L.getD (p - k) zeroLn) (L.getD k zeroLn) < 0) lo0 hi0 lo hi →
  s.t 0=.osl 0 0 0 tot→s.t 1=.c (.int .i64 a)→s.t 2=.c (.int .i64 m)→s.t 3=.c (.int .i64 b)→s.t 4=.c (.clo f caps)→s.t 18=.c (.int .i64 mid)→s.t 19=.c (.int .i64 nn)→s.t 22=.c (.int .i64 p)→s.t 20=.c (.int .i64 lo)→s.t 21=.c (.int .i64 hi)→s.bx 0=⟨0,.sl 11 (L.map encLn)⟩ →
  (∀ s' c,Cut (fun k=>¬ cf (L.getD (p - k) zeroLn) (L.getD k zeroLn) < 0) lo0 hi0 c c→s'.t 0=.osl 0 0 0 tot→s'.t 1=.c (.int .i64 a)→s'.t 2=.c (.int .i64 m)→s'.t 3=.c (.int .i64 b)→s'.t 4=.c (.clo f caps)→s'.t 18=.c (.int .i64 mid)→s'.t 19=.c (.int .i64 nn)→s'.t 20=.c (.int .i64 c)→s'.bx 0=⟨0,.sl 11 (L.map encLn)⟩→K (.x 8) s') →
  wP (CP) (.loop b119_4) s K:=by
 intro n
 induction n with
 | zero =>
  intro lo hi s hn hc t0 t1 t2 t3 t4 t18 t19 t22 t20 t21 bx hK
  obtain rfl:lo=hi:=by have:=hc.m; omega
  refine jf ?_
  rw [← ja t0,← ja t1,← ja t2,← ja t3,← ja t4,← ja t18,← ja t19,← ja t22,← ja t20,← ja t21,← jc bx]
  unfold b119_4
  repeat' (first | refine st0 ?_ | intro u)
  exact hK _ lo hc (by rfl) (by rfl) (by rfl) (by rfl) (by rfl) (by rfl) (by rfl) (by rfl) (by rfl)
 | succ n ih =>
  intro lo hi s hn hc t0 t1 t2 t3 t4 t18 t19 t22 t20 t21 bx hK
  refine jf ?_
  by_cases hlh:lo < hi
  ·have hhi:=hc.h
   have hll:=hc.l
   have e1:(((lo:Int) + hi) / 2).toNat=(lo + hi) / 2:=by omega
   have e2:((p:Int) - ((lo:Int) + hi) / 2).toNat=p - (lo + hi) / 2:=by omega
   have f1:=getD_at (L:=L) (k:=(lo + hi) / 2) (by omega)
   have f2:=getD_at (L:=L) (k:=p - (lo + hi) / 2) (by omega)
   have c1:=hC (L.getD (p - (lo + hi) / 2) zeroLn) (L.getD ((lo + hi) / 2) zeroLn) (hok _ (getD_in (by omega))) (hok _ (getD_in (by omega)))
   have t10':((((lo + hi) / 2 + 1:Nat)):Int)=((lo:Int) + hi) / 2 + 1:=by omega
   have t11':((((lo + hi) / 2:Nat)):Int)=((lo:Int) + hi) / 2:=by omega
   by_cases hcmp:cf (L.getD (p - (lo + hi) / 2) zeroLn) (L.getD ((lo + hi) / 2) zeroLn) < 0
   ·rw [← ja t0,← ja t1,← ja t2,← ja t3,← ja t4,← ja t18,← ja t19,← ja t22,← ja t20,← ja t21,← jc bx]
    unfold b119_4
    repeat' (first | refine jH rfl rfl rfl (by omega) e1 ?_ | refine jH rfl rfl rfl (by omega) e2 ?_ | refine jM rfl rfl f1 ?_ | refine jM rfl rfl f2 ?_ | refine callV2 rfl rfl rfl c1 ?_ | refine JM (n:=1) (m:=2) rfl rfl (by decide) (by decide) ?_ | refine st1 ?_ | intro u)
    exact ih lo ((lo + hi) / 2) _ (by omega) (hc.down hm (by omega) (fun h=>h hcmp) (by omega)) (by rfl) (by rfl) (by rfl) (by rfl) (by rfl) (by rfl) (by rfl) (by rfl) (by rfl) (by exact congrArg (fun n=>PV.c (CV.int .i64 n)) t11'.symm) (by rfl) hK
   ·rw [← ja t0,← ja t1,← ja t2,← ja t3,← ja t4,← ja t18,← ja t19,← ja t22,← ja t20,← ja t21,← jc bx]
    unfold b119_4
    repeat' (first | refine jH rfl rfl rfl (by omega) e1 ?_ | refine jH rfl rfl rfl (by omega) e2 ?_ | refine jM rfl rfl f1 ?_ | refine jM rfl rfl f2 ?_ | refine callV2 rfl rfl rfl c1 ?_ | refine JM (n:=1) (m:=2) rfl rfl (by decide) (by decide) ?_ | refine st1 ?_ | intro u)
    exact ih ((lo + hi) / 2 + 1) hi _ (by omega) (hc.up hm (by omega) hcmp (by omega)) (by rfl) (by rfl) (by rfl) (by rfl) (by rfl) (by rfl) (by rfl) (by rfl) (by exact congrArg (fun n=>PV.c (CV.int .i64 n)) t10'.symm) (by rfl) (by rfl) hK
  ·obtain rfl:lo=hi:=by have:=hc.m; omega
   rw [← ja t0,← ja t1,← ja t2,← ja t3,← ja t4,← ja t18,← ja t19,← ja t22,← ja t20,← ja t21,← jc bx]
   unfold b119_4
   repeat' (first | refine st0 ?_ | intro u)
   exact hK _ lo hc (by rfl) (by rfl) (by rfl) (by rfl) (by rfl) (by rfl) (by rfl) (by rfl) (by rfl)
theorem sh1 (tot i:Nat) (x:LineS) (W:List LineS) (htot:tot≤4000000000000000000) {K:KT}:∀ (P U:List LineS) (s:PS),U.length + (P.length + (1 + W.length))=tot→U.length + P.length + 1=i →
  s.t 0=.osl 0 0 0 tot→s.t 13=.c (.int .i64 U.length)→s.t 10=.c (.int .i64 i)→s.bx 0=⟨0,.sl 11 ((U++x::(P++W)).map encLn)⟩ →
  (∀ s',s'.bx 0=⟨0,.sl 11 ((U++(P++x::W)).map encLn)⟩→K (.x 2) s')→wP (CP) (.loop b119_1) s K:=by
 intro P
 induction P with
 | nil =>
  intro U s hl hi t0 t13 t10 bx hK
  simp only [List.length_nil] at hl hi
  refine jf ?_
  rw [← ja t0,← ja t13,← ja t10,← jc bx]
  unfold b119_1
  repeat' (first | refine st0 ?_ | intro u)
  exact hK _ (by rfl)
 | cons y P ih =>
  intro U s hl hi t0 t13 t10 bx hK
  simp only [List.length_cons] at hl hi
  refine jf ?_
  have hL:U++x::(y::P++W)=U++x::y::(P++W):=by simp
  rw [hL] at bx
  have f1:(U++x::y::(P++W))[U.length]? = some x:=by simp
  have f2:(U++x::y::(P++W))[U.length + 1]? = some y:=by rw [List.getElem?_append_right (by omega)]; simp
  have f3:U.length < (U++x::y::(P++W)).length:=by simp
  have f4:U.length + 1 < ((U++x::y::(P++W)).set U.length y).length:=by simp
  have hw:((U++x::y::(P++W)).set U.length y).set (U.length + 1) x=(U++[y])++x::(P++W):=by
   rw [List.set_append_right _ _ (by omega),List.set_append_right _ _ (by omega),show U.length + 1 - U.length=1 by omega,show U.length - U.length=0 by omega]
   simp
  have e1:((U.length:Int)).toNat=U.length:=by omega
  have e2:((U.length:Int) + 1).toNat=U.length + 1:=by omega
  have hs':(⟨0,.sl 11 ((((U++x::y::(P++W)).set U.length y).set (U.length + 1) x).map encLn)⟩:Box)=⟨0,.sl 11 (((U++[y])++x::(P++W)).map encLn)⟩:=by rw [hw]
  have hq:((U.length:Int) + 1)=((U++[y]).length:Nat):=by simp
  rw [← ja t0,← ja t13,← ja t10,← jc bx]
  unfold b119_1
  repeat' (first | refine jH rfl rfl rfl (by omega) e1 ?_ | refine jH rfl rfl rfl (by omega) e2 ?_ | refine jM rfl rfl f1 ?_ | refine jM rfl rfl f2 ?_ | refine vA rfl rfl rfl f3 ?_ | refine vA rfl rfl rfl f4 ?_ | refine st1 ?_ | intro u)
  exact ih (U++[y]) _ (by simp; omega) (by simp; omega) (by rfl) (by exact congrArg (fun n=>PV.c (CV.int .i64 n)) hq) (by rfl) (by exact hs') (fun s' h'=>hK s' (by rw [h']; simp))
theorem sh2 (tot:Nat) (y:LineS) (U:List LineS) (htot:tot≤4000000000000000000) {K:KT}:∀ (n:Nat) (Q W:List LineS) (s:PS),Q.length=n→U.length + (Q.length + (1 + W.length))=tot →
  s.t 0=.osl 0 0 0 tot→s.t 17=.c (.int .i64 (U.length + Q.length:Nat))→s.t 14=.c (.int .i64 U.length)→s.bx 0=⟨0,.sl 11 ((U++(Q++y::W)).map encLn)⟩ →
  (∀ s',s'.bx 0=⟨0,.sl 11 ((U++y::(Q++W)).map encLn)⟩→K (.x 6) s')→wP (CP) (.loop b119_3) s K:=by
 intro n
 induction n with
 | zero =>
  intro Q W s hn hl t0 t17 t14 bx hK
  obtain rfl:Q=[]:=List.eq_nil_of_length_eq_zero hn
  refine jf ?_
  rw [List.length_nil,Nat.add_zero] at t17
  rw [← ja t0,← ja t17,← ja t14,← jc bx]
  unfold b119_3
  repeat' (first | refine st2 ?_ | intro u)
  exact hK _ (by rfl)
 | succ n ih =>
  intro Q W s hn hl t0 t17 t14 bx hK
  have hne:Q≠[]:=fun e=>by rw [e] at hn; simp at hn
  obtain ⟨Q',z,rfl⟩:∃ Q' z,Q=Q'++[z]:=⟨Q.dropLast,Q.getLast hne,(List.dropLast_concat_getLast hne).symm⟩
  simp only [List.length_append,List.length_cons,List.length_nil] at hn hl t17
  have hL:U++((Q'++[z])++y::W)=(U++Q')++z::y::W:=by simp
  rw [hL] at bx
  generalize hq:(U++Q').length=q
  have hq':q=U.length + Q'.length:=by rw [← hq]; simp
  have f1:((U++Q')++z::y::W)[q + 1]? = some y:=by rw [← hq,List.getElem?_append_right (by omega)]; simp
  have f2:((U++Q')++z::y::W)[q]? = some z:=by rw [← hq]; simp
  have f3:q + 1 < ((U++Q')++z::y::W).length:=by simp at hq ⊢; omega
  have f4:q < (((U++Q')++z::y::W).set (q + 1) z).length:=by simp at hq ⊢; omega
  have hw:((((U++Q')++z::y::W).set (q + 1) z).set q y)=U++(Q'++y::(z::W)):=by
   rw [List.set_append_right _ _ (by omega),List.set_append_right _ _ (by omega),show q + 1 - (U++Q').length=1 by omega,show q - (U++Q').length=0 by omega]
   simp
  have e1:(((U.length + (Q'.length + (0 + 1)):Nat):Int)).toNat=q + 1:=by omega
  have e2:(((U.length + (Q'.length + (0 + 1)):Nat):Int) - 1).toNat=q:=by omega
  have hj:(U.length:Int) < ((U.length + (Q'.length + (0 + 1)):Nat):Int):=by omega
  have hb:((U.length + (Q'.length + (0 + 1)):Nat):Int) < tot:=by omega
  have ht:((U.length + (Q'.length + (0 + 1)):Nat):Int) - 1=(U.length + Q'.length:Nat):=by omega
  have hs':(⟨0,.sl 11 (((((U++Q')++z::y::W).set (q + 1) z).set q y).map encLn)⟩:Box)=⟨0,.sl 11 ((U++(Q'++y::(z::W))).map encLn)⟩:=by rw [hw]
  generalize hjj:((U.length + (Q'.length + (0 + 1)):Nat):Int)=jj at *
  refine jf ?_
  rw [← ja t0,← ja t17,← ja t14,← jc bx]
  unfold b119_3
  repeat' (first | refine jH rfl rfl rfl (by omega) e1 ?_ | refine jH rfl rfl rfl (by omega) e2 ?_ | refine jM rfl rfl f1 ?_ | refine jM rfl rfl f2 ?_ | refine vA rfl rfl rfl f3 ?_ | refine vA rfl rfl rfl f4 ?_ | refine st1 ?_ | intro u)
  exact ih Q' (z::W) _ (by omega) (by simp; omega) (by rfl) (by exact congrArg (fun n=>PV.c (CV.int .i64 n)) ht) (by rfl) (by exact hs') (fun s' h'=>hK s' (by rw [h']; simp))
end
end Go.Proofs.YtnpncbplhdnonaaGreat
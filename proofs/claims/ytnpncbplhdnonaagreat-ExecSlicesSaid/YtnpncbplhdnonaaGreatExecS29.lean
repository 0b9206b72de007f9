/- Part of the proof of ExecTells, ExecAnswers, ExecBest, ExecFirst, ExecLevels, ExecTops, ExecLimits: lemmas. -/
import Derived.Test.YtnpncbplhdnonaaGreatExecS19
import Derived.Test.YtnpncbplhdnonaaGreatExecS28
set_option linter.unusedVariables false
set_option linter.unusedSimpArgs false
namespace Go.Proofs.YtnpncbplhdnonaaGreat
open Go.Pl Go.Bag
set_option maxRecDepth 100000
set_option maxHeartbeats 16000000
/-! ### symMergeCmpFunc -/
section
variable {f : FuncId} {caps : List (List CV)} {cf : LineS → LineS → Int} {ok : LineS → Prop}
def SymIH (f:FuncId) (caps:List (List CV)) (cf:LineS→LineS→Int) (ok:LineS→Prop) (n:Nat):Prop :=
 ∀ (U A B V:List LineS),A.length + B.length≤n→1≤A.length→1≤B.length→Srt (leF cf) A→Srt (leF cf) B→(∀ z∈U++(A++(B++V)),ok z)→(U++(A++(B++V))).length≤4000000000000000000 →
  ∀ (a m b:Int),(U.length:Int)=a→(U.length + A.length:Nat)=m→(U.length + A.length + B.length:Nat)=b →
  CP 119 [.ios 11 ((U++(A++(B++V))).map encLn),.c (.int .i64 a),.c (.int .i64 m),.c (.int .i64 b),.c (.clo f caps)] (.c (.tup [])) [[.sl ((U++(sortS (leF cf) (A++B)++V)).map encLn)]]
def tailSym:PCode:=(.seq (.ops false r119_38) (.seq (.seq (.ops false r119_39) (.cond (.t 185) (.ops false r119_40) .skip)) (.seq (.seq (.ops false r119_41) (.cond (.t 199) (.ops false r119_42) .skip)) (.seq (.ops false r119_43) (.cond (.t 213) (.ops false r119_44) .skip)))))
theorem We (hp:PreO (leF cf)) {A:List LineS} (h:Srt (leF cf) A):sortS (leF cf) (A++[])=A:=by rw [List.append_nil,wF hp h]
theorem Wf (hp:PreO (leF cf)) {A:List LineS} (h:Srt (leF cf) A):sortS (leF cf) ([]++A)=A:=by rw [List.nil_append,wF hp h]
theorem jgr {n:Nat} (hp:PreO (leF cf)) (ih:SymIH f caps cf ok n) (tot:Nat) (U A1 A2 B1 B2 V:List LineS) (htot:tot≤4000000000000000000) (hl:U.length + (A1.length + (A2.length + (B1.length + (B2.length + V.length))))=tot)
  (hA:Srt (leF cf) (A1++A2)) (hB:Srt (leF cf) (B1++B2)) (hok:∀ z∈U++((A1++A2)++((B1++B2)++V)),ok z) (h1:∀ a∈A1,∀ b∈B2,leF cf a b=true) (h2:∀ a∈A2,∀ b∈B1,leF cf a b=false)
  (hn:A1.length + B1.length≤n∧A2.length + B2.length≤n) (a m b mid nn st:Int) (ha:a=U.length) (hm:m=(U.length + A1.length + A2.length:Nat)) (hb:b=(U.length + A1.length + A2.length + B1.length + B2.length:Nat))
  (hmid:mid=(U.length + A1.length + B1.length:Nat)) (hnn:nn=mid + m) (hst:st=(U.length + A1.length:Nat)) (s:PS)
  (t0:s.t 0=.osl 0 0 0 tot) (t1:s.t 1=.c (.int .i64 a)) (t2:s.t 2=.c (.int .i64 m)) (t3:s.t 3=.c (.int .i64 b)) (t4:s.t 4=.c (.clo f caps)) (t18:s.t 18=.c (.int .i64 mid)) (t19:s.t 19=.c (.int .i64 nn)) (t20:s.t 20=.c (.int .i64 st))
  (bx:s.bx 0=⟨0,.sl 11 (((U++A1)++(A2++(B1++(B2++V)))).map encLn)⟩) :
  wP (CP) tailSym s (FinKS 11 ((U++(sortS (leF cf) ((A1++A2)++(B1++B2))++V)).map encLn)):=by
 have pA:=List.pairwise_append.mp hA
 have pB:=List.pairwise_append.mp hB
 have hE1:(((U++A1)++(A2++(B1++(B2++V)))).map encLn).length=tot:=by simp; omega
 unfold tailSym
 refine jK ?_
 rw [← ja t0,← ja t1,← ja t2,← ja t3,← ja t4,← ja t18,← ja t19,← ja t20,← jc bx]
 skip
 repeat' (first  | refine jN ?_ | refine jE ?_ | refine ko ?_ | refine kC rfl ?_ | refine wj rfl rfl (by omega) ?_)
 refine jgn (fun s'=>s'.t 0=.osl 0 0 0 tot∧s'.t 1=.c (.int .i64 a)∧s'.t 3=.c (.int .i64 b)∧s'.t 4=.c (.clo f caps)∧s'.t 18=.c (.int .i64 mid)∧s'.t 20=.c (.int .i64 st)∧s'.t 24=.c (.int .i64 (nn - st)) ∧
   s'.bx 0=⟨0,.sl 11 (((U++A1)++(B1++(A2++(B2++V)))).map encLn)⟩) ?_ ?_
 ·by_cases hA2:A2.length=0
  ·obtain rfl:A2=[]:=List.eq_nil_of_length_eq_zero hA2
   simp only [List.length_nil] at hm
   skip
   repeat' (first | refine st2 ?_ | intro u)
   exact ⟨by rfl,by rfl,by rfl,by rfl,by rfl,by rfl,by rfl,by rfl⟩
  ·by_cases hB1:B1.length=0
   ·obtain rfl:B1=[]:=List.eq_nil_of_length_eq_zero hB1
    simp only [List.length_nil] at hmid
    skip
    repeat' (first | refine st2 ?_ | intro u)
    exact ⟨by rfl,by rfl,by rfl,by rfl,by rfl,by rfl,by rfl,by rfl⟩
   ·have hR:=jgq (.clo f caps) (U++A1) A2 B1 (B2++V) (by omega) (by omega) st m (nn - st) (by simp; omega) (by simp; omega) (by simp; omega) (by simp; omega)
    skip
    repeat' (first | refine callS4 rfl rfl hE1.symm rfl rfl rfl rfl hR ?_ | refine st5 ?_ | intro u)
    exact ⟨by rfl,by rfl,by rfl,by rfl,by rfl,by rfl,by rfl,by rfl⟩
 ·rintro s2 ⟨t0,t1,t3,t4,t18,t20,t24,bx⟩
  have hL2:(U++A1)++(B1++(A2++(B2++V)))=U++(A1++(B1++(A2++(B2++V)))):=by simp
  rw [hL2] at bx
  have hE2:((U++(A1++(B1++(A2++(B2++V))))).map encLn).length=tot:=by simp; omega
  refine jgn (fun s'=>s'.t 0=.osl 0 0 0 tot∧s'.t 3=.c (.int .i64 b)∧s'.t 4=.c (.clo f caps)∧s'.t 18=.c (.int .i64 mid)∧s'.t 24=.c (.int .i64 (nn - st)) ∧
    s'.bx 0=⟨0,.sl 11 ((U++(sortS (leF cf) (A1++B1)++(A2++(B2++V)))).map encLn)⟩) ?_ ?_
  ·rw [← ja t0,← ja t1,← ja t3,← ja t4,← ja t18,← ja t20,← ja t24,← jc bx]
   by_cases hA1:A1.length=0
   ·obtain rfl:A1=[]:=List.eq_nil_of_length_eq_zero hA1
    have hq:=Wf hp pB.1
    simp only [List.length_nil] at hst
    skip
    repeat' (first | refine st2 ?_ | intro u)
    exact ⟨by rfl,by rfl,by rfl,by rfl,by rfl,by rw [hq]; rfl⟩
   ·by_cases hB1:B1.length=0
    ·obtain rfl:B1=[]:=List.eq_nil_of_length_eq_zero hB1
     have hq:=We hp pA.1
     simp only [List.length_nil] at hmid
     skip
     repeat' (first | refine st2 ?_ | intro u)
     exact ⟨by rfl,by rfl,by rfl,by rfl,by rfl,by rw [hq]; rfl⟩
    ·have hR:=ih U A1 B1 (A2++(B2++V)) hn.1 (by omega) (by omega) pA.1 pB.1 (fun z hz=>hok z (by simp at hz ⊢; grind)) (by simp; omega) a st mid ha.symm (by omega) (by omega)
     skip
     repeat' (first | refine callS4 rfl rfl hE2.symm rfl rfl rfl rfl hR ?_ | refine st5 ?_ | intro u)
     exact ⟨by rfl,by rfl,by rfl,by rfl,by rfl,by rfl⟩
  ·rintro s3 ⟨t0,t3,t4,t18,t24,bx⟩
   have hL3:U++(sortS (leF cf) (A1++B1)++(A2++(B2++V)))=(U++sortS (leF cf) (A1++B1))++(A2++(B2++V)):=by simp
   rw [hL3] at bx
   have hsl:=jy (le:=leF cf) (A1++B1)
   simp only [List.length_append] at hsl
   have hE3:(((U++sortS (leF cf) (A1++B1))++(A2++(B2++V))).map encLn).length=tot:=by simp; omega
   have hcut:=jea hp hA hB h1 h2
   rw [hcut]
   rw [← ja t0,← ja t3,← ja t4,← ja t18,← ja t24,← jc bx]
   by_cases hA2:A2.length=0
   ·obtain rfl:A2=[]:=List.eq_nil_of_length_eq_zero hA2
    have hq:=Wf hp pB.2.1
    rw [hq]
    simp only [List.length_nil] at hm
    skip
    repeat' (first | refine st2 ?_ | intro u)
    show _=_
    simp
    rfl
   ·by_cases hB2:B2.length=0
    ·obtain rfl:B2=[]:=List.eq_nil_of_length_eq_zero hB2
     have hq:=We hp pA.2.1
     rw [hq]
     simp only [List.length_nil] at hb
     skip
     repeat' (first | refine st2 ?_ | intro u)
     show _=_
     simp
     rfl
    ·have hR:=ih (U++sortS (leF cf) (A1++B1)) A2 B2 V hn.2 (by omega) (by omega) pA.2.1 pB.2.1 (fun z hz=>hok z (by
       have hms:=kh hp (A1++B1) z
       simp at hz hms ⊢
       grind)) (by simp; omega) mid (nn - st) b (by simp; omega) (by simp; omega) (by simp; omega)
     skip
     repeat' (first | refine callS4 rfl rfl hE3.symm rfl rfl rfl rfl hR ?_ | refine st5 ?_ | intro u)
     show _=_
     simp
     rfl
end
set_option maxRecDepth 100000
set_option maxHeartbeats 16000000
section
variable {f : FuncId} {caps : List (List CV)} {cf : LineS → LineS → Int} {ok : LineS → Prop}
theorem jgs {x y:LineS}:leF cf x y=false↔cf y x < 0:=by unfold leF; simp
theorem jcu {x y:LineS}:leF cf x y=true↔¬ cf y x < 0:=by unfold leF; simp
theorem jjr (hC:Cmps f caps cf ok) (hp:PreO (leF cf)) (U B V:List LineS) (x:LineS) (hB1:1≤B.length) (hB:Srt (leF cf) B) (hok:∀ z∈U++([x]++(B++V)),ok z) (htot:U.length + (1 + (B.length + V.length))≤4000000000000000000) :
  wP (CP) p119 (initPS [.ios 11 ((U++([x]++(B++V))).map encLn),.c (.int .i64 U.length),.c (.int .i64 (U.length + 1:Nat)),.c (.int .i64 (U.length + 1 + B.length:Nat)),.c (.clo f caps)]) (FinKS 11 ((U++(sortS (leF cf) ([x]++B)++V)).map encLn)):=by
 have hl:(U++([x]++(B++V))).length=U.length + (1 + (B.length + V.length)):=by simp; omega
 have hE:((U++([x]++(B++V))).map encLn).length=U.length + (1 + (B.length + V.length)):=by simp; omega
 have hx:(U++([x]++(B++V)))[U.length]? = some x:=by simp
 have hD:∀ j,j < B.length→(U++([x]++(B++V))).getD (U.length + 1 + j) zeroLn=B.getD j zeroLn:=fun j hj=>by
  have:=Vy zeroLn (U++[x]) B V hj
  simpa [Nat.add_assoc] using this
 generalize hLL:U++([x]++(B++V))=L at *
 have hm:∀ i j,U.length + 1≤i→i≤j→j < U.length + 1 + B.length→cf (L.getD j zeroLn) x < 0→cf (L.getD i zeroLn) x < 0:=by
  intro i j h1 h2 h3 h4
  obtain ⟨i',rfl⟩:=Nat.exists_eq_add_of_le h1
  obtain ⟨j',rfl⟩:=Nat.exists_eq_add_of_le (show U.length + 1≤j by omega)
  rw [hD _ (by omega)] at h4 ⊢
  have hs:=Srt.at_le hp zeroLn hB (show i'≤j' by omega) (by omega)
  rw [← jgs] at h4 ⊢
  cases e:leF cf x (B.getD i' zeroLn)
  ·rfl
  ·have:=hp.tr _ _ _ e hs
   rw [h4] at this; cases this
 unfold p119
 repeat' (first | refine st1 ?_ | intro u)
 refine bs1 hC L (U.length + (1 + (B.length + V.length))) U.length (U.length + 1) (U.length + 1 + B.length) x hl htot hok hx (by omega) hm B.length (U.length + 1) (U.length + 1 + B.length) _ (by omega) ⟨Nat.le_refl _,by omega,Nat.le_refl _,fun k h1 h2=>by omega,fun k h1 h2=>by omega⟩
  (by exact congrArg (PV.osl 0 0 0) hE) (by rfl) (by rfl) (by rfl) (by rfl) (by rfl) ?_
 intro s' c hc t0 t1 t4 t10 bx
 obtain ⟨k,rfl⟩:=Nat.exists_eq_add_of_le hc.l
 have hkB:k≤B.length:=by have:=hc.h; omega
 have hBs:B=B.take k++B.drop k:=(List.take_append_drop _ _).symm
 have hone:sortS (leF cf) ([x]++B)=B.take k++x::B.drop k:=by
  show sortS (leF cf) (x::B)=_
  conv=>lhs; rw [hBs]
  refine jeb hp (by rw [← hBs]; exact hB) (fun y hy=>?_) (fun y hy=>?_)
  ·obtain ⟨j,h1,h2,rfl⟩:=wc zeroLn hy
   have:=hc.t (U.length + 1 + j) (by omega) (by omega)
   rw [hD _ h2] at this
   exact jgs.mpr this
  ·obtain ⟨j,h1,h2,rfl⟩:=we zeroLn hy
   have:=hc.f (U.length + 1 + j) (by omega) (by omega)
   rw [hD _ h2] at this
   exact jcu.mpr this
 have hLk:L=U++x::(B.take k++(B.drop k++V)):=by
  rw [← hLL]
  conv=>lhs; rw [hBs]
  simp only [List.append_assoc,List.cons_append,List.nil_append]
 have htk:(B.take k).length=k:=by rw [List.length_take]; omega
 have hdk:(B.drop k).length=B.length - k:=by rw [List.length_drop]
 rw [hLk] at bx
 rw [← ja t0,← ja t1,← ja t4,← ja t10,← jc bx]
 repeat' (first | refine st0 ?_ | intro u)
 refine sh1 (U.length + (1 + (B.length + V.length))) (U.length + 1 + k) x (B.drop k++V) htot (B.take k) U _ (by rw [List.length_append]; omega) (by omega) (by rfl) (by rfl) (by rfl) (by rfl) ?_
 intro s2 bx2
 repeat' (first | refine st2 ?_ | intro u)
 show s2.bx 0=_
 rw [bx2,hone]
 simp
theorem jgt (hC:Cmps f caps cf ok) (hp:PreO (leF cf)) (U A V:List LineS) (y:LineS) (hA2:2≤A.length) (hA:Srt (leF cf) A) (hok:∀ z∈U++(A++([y]++V)),ok z) (htot:U.length + (A.length + (1 + V.length))≤4000000000000000000) :
  wP (CP) p119 (initPS [.ios 11 ((U++(A++([y]++V))).map encLn),.c (.int .i64 U.length),.c (.int .i64 (U.length + A.length:Nat)),.c (.int .i64 (U.length + A.length + 1:Nat)),.c (.clo f caps)]) (FinKS 11 ((U++(sortS (leF cf) (A++[y])++V)).map encLn)):=by
 have hl:(U++(A++([y]++V))).length=U.length + (A.length + (1 + V.length)):=by simp; omega
 have hE:((U++(A++([y]++V))).map encLn).length=U.length + (A.length + (1 + V.length)):=by simp; omega
 have hx:(U++(A++([y]++V)))[U.length + A.length]? = some y:=by
  rw [List.getElem?_append_right (by omega),List.getElem?_append_right (by omega),show U.length + A.length - U.length - A.length=0 by omega]
  rfl
 have hD:∀ j,j < A.length→(U++(A++([y]++V))).getD (U.length + j) zeroLn=A.getD j zeroLn:=fun j hj=>Vy zeroLn U A _ hj
 generalize hLL:U++(A++([y]++V))=L at *
 have hm:∀ i j,U.length≤i→i≤j→j < U.length + A.length→¬ cf y (L.getD j zeroLn) < 0→¬ cf y (L.getD i zeroLn) < 0:=by
  intro i j h1 h2 h3 h4
  obtain ⟨i',rfl⟩:=Nat.exists_eq_add_of_le h1
  obtain ⟨j',rfl⟩:=Nat.exists_eq_add_of_le (show U.length≤j by omega)
  rw [hD _ (by omega)] at h4 ⊢
  have hs:=Srt.at_le hp zeroLn hA (show i'≤j' by omega) (by omega)
  rw [← jcu] at h4 ⊢
  exact hp.tr _ _ _ hs h4
 unfold p119
 repeat' (first | refine st1 ?_ | intro u)
 refine bs2 hC L (U.length + (A.length + (1 + V.length))) (U.length + A.length) U.length (U.length + A.length) y hl htot hok hx (by omega) hm A.length U.length (U.length + A.length) _ (by omega) ⟨Nat.le_refl _,by omega,Nat.le_refl _,fun k h1 h2=>by omega,fun k h1 h2=>by omega⟩
  (by exact congrArg (PV.osl 0 0 0) hE) (by rfl) (by rfl) (by rfl) (by rfl) (by rfl) ?_
 intro s' c hc t0 t2 t4 t14 bx
 obtain ⟨k,rfl⟩:=Nat.exists_eq_add_of_le hc.l
 have hkA:k≤A.length:=by have:=hc.h; omega
 have hAs:A=A.take k++A.drop k:=(List.take_append_drop _ _).symm
 have hone:sortS (leF cf) (A++[y])=A.take k++y::A.drop k:=by
  conv=>lhs; rw [hAs]
  refine ja6 hp (by rw [← hAs]; exact hA) (fun z hz=>?_) (fun z hz=>?_)
  ·obtain ⟨j,h1,h2,rfl⟩:=wc zeroLn hz
   have:=hc.t (U.length + j) (by omega) (by omega)
   rw [hD _ h2] at this
   exact jcu.mpr this
  ·obtain ⟨j,h1,h2,rfl⟩:=we zeroLn hz
   have:=hc.f (U.length + j) (by omega) (by omega)
   rw [hD _ h2] at this
   exact jgs.mpr (by omega)
 have hLk:L=(U++A.take k)++(A.drop k++y::V):=by
  rw [← hLL]
  conv=>lhs; rw [hAs]
  simp only [List.append_assoc,List.cons_append,List.nil_append]
 have htk:(A.take k).length=k:=by rw [List.length_take]; omega
 have hdk:(A.drop k).length=A.length - k:=by rw [List.length_drop]
 have hUk:(U++A.take k).length=U.length + k:=by rw [List.length_append]; omega
 rw [hLk] at bx
 rw [← ja t0,← ja t2,← ja t4,← ja t14,← jc bx]
 repeat' (first | refine st0 ?_ | intro u)
 refine sh2 (U.length + (A.length + (1 + V.length))) y (U++A.take k) htot (A.length - k) (A.drop k) V _ hdk (by omega) (by rfl) (by exact congrArg (fun n:Nat=>PV.c (CV.int .i64 n)) (show U.length + A.length=(U++A.take k).length + (A.drop k).length by omega)) (by exact congrArg (fun n:Nat=>PV.c (CV.int .i64 n)) hUk.symm) (by rfl) ?_
 intro s2 bx2
 repeat' (first | refine st2 ?_ | intro u)
 show s2.bx 0=_
 rw [bx2,hone]
 simp
theorem Xt (hC:Cmps f caps cf ok) (hp:PreO (leF cf)):∀ n,SymIH f caps cf ok n:=by
 intro n
 induction n with
 | zero=>intro U A B V h1 h2 h3; omega
 | succ n ih =>
  intro U A B V hn hA1 hB1 hA hB hok htot a m b ha hm hb
  subst ha hm hb
  have hl:(U++(A++(B++V))).length=U.length + (A.length + (B.length + V.length)):=by simp
  have hE:((U++(A++(B++V))).map encLn).length=U.length + (A.length + (B.length + V.length)):=by simp
  refine pcallS (cs:=[.int .i64 _,.int .i64 _,.int .i64 _,.clo f caps]) Tryz.func119 c119 ?_
  by_cases hA0:A.length=1
  ·obtain ⟨x,rfl⟩:=List.length_eq_one_iff.mp hA0
   exact jjr hC hp U B V x hB1 hB hok (by simp at htot; omega)
  by_cases hB0:B.length=1
  ·obtain ⟨y,rfl⟩:=List.length_eq_one_iff.mp hB0
   exact jgt hC hp U A V y (by omega) hA hok (by simp at htot; omega)
  rw [hl] at htot
  have hDA:∀ j,j < A.length→(U++(A++(B++V))).getD (U.length + j) zeroLn=A.getD j zeroLn:=fun j hj=>Vy zeroLn U A _ hj
  have hDB:∀ j,j < B.length→(U++(A++(B++V))).getD (U.length + A.length + j) zeroLn=B.getD j zeroLn:=fun j hj=>by
   have:=Vy zeroLn (U++A) B V hj
   simpa [Nat.add_assoc] using this
  -- the middle
  obtain ⟨mid,hmid⟩:∃ mid,mid=(U.length + (U.length + A.length + B.length)) / 2:=⟨_,rfl⟩
  obtain ⟨w,hw⟩:=Nat.exists_eq_add_of_le (show U.length≤mid by omega)
  have hmI:((U.length:Int) + ((U.length + A.length + B.length:Nat):Int)) / 2=(mid:Nat):=by omega
  have fin:∀ (lo0 hi0:Nat) (s:PS),(lo0=U.length∨lo0 + B.length=mid)→(hi0=mid∨hi0=U.length + A.length)→lo0≤hi0→U.length≤lo0→hi0≤mid→hi0≤U.length + A.length→mid≤lo0 + B.length →
    s.t 0=.osl 0 0 0 (U.length + (A.length + (B.length + V.length)))→s.t 1=.c (.int .i64 U.length)→s.t 2=.c (.int .i64 (U.length + A.length:Nat))→s.t 3=.c (.int .i64 (U.length + A.length + B.length:Nat))→s.t 4=.c (.clo f caps) →
    s.t 18=.c (.int .i64 mid)→s.t 19=.c (.int .i64 (mid + (U.length + A.length):Nat))→s.t 22=.c (.int .i64 (mid + (U.length + A.length) - 1:Nat))→s.t 20=.c (.int .i64 lo0)→s.t 21=.c (.int .i64 hi0)→s.bx 0=⟨0,.sl 11 ((U++(A++(B++V))).map encLn)⟩ →
    wP (CP) (.loop b119_4) s (xB 8 (xT (fun s'=>wP (CP) tailSym s' (FinKS 11 ((U++(sortS (leF cf) (A++B)++V)).map encLn))) (FinKS 11 ((U++(sortS (leF cf) (A++B)++V)).map encLn)))):=by
   intro lo0 hi0 s hs hr h01 hlo hhi hhA hwB t0 t1 t2 t3 t4 t18 t19 t22 t20 t21 bx
   have key:∀ c,U.length≤c→c < mid→c < U.length + A.length→mid≤c + B.length→(¬ cf ((U++(A++(B++V))).getD (mid + (U.length + A.length) - 1 - c) zeroLn) ((U++(A++(B++V))).getD c zeroLn) < 0↔leF cf (A.getD (c - U.length) zeroLn) (B.getD (w - 1 - (c - U.length)) zeroLn)=true):=by
    intro c h1 h2 h3 h4
    obtain ⟨c',rfl⟩:=Nat.exists_eq_add_of_le h1
    rw [hDA c' (by omega),show mid + (U.length + A.length) - 1 - (U.length + c')=U.length + A.length + (w - 1 - c') by omega,hDB _ (by omega),jcu,show U.length + c' - U.length=c' by omega]
   have hm:∀ i j,lo0≤i→i≤j→j < hi0→¬ cf ((U++(A++(B++V))).getD (mid + (U.length + A.length) - 1 - j) zeroLn) ((U++(A++(B++V))).getD j zeroLn) < 0→¬ cf ((U++(A++(B++V))).getD (mid + (U.length + A.length) - 1 - i) zeroLn) ((U++(A++(B++V))).getD i zeroLn) < 0:=by
    intro i j h1 h2 h3 h4
    rw [key j (by omega) (by omega) (by omega) (by omega)] at h4
    rw [key i (by omega) (by omega) (by omega) (by omega)]
    exact hp.tr _ _ _ (hp.tr _ _ _ (Srt.at_le hp zeroLn hA (by omega) (by omega)) h4) (Srt.at_le hp zeroLn hB (by omega) (by omega))
   refine bs3 hC (U++(A++(B++V))) (U.length + (A.length + (B.length + V.length))) U.length (U.length + A.length) (U.length + A.length + B.length) mid (mid + (U.length + A.length)) (mid + (U.length + A.length) - 1) lo0 hi0 hl htot hok (by omega) (by omega) (by omega) hm (hi0 - lo0) lo0 hi0 s (Nat.le_refl _)
    ⟨Nat.le_refl _,h01,Nat.le_refl _,fun k h1 h2=>by omega,fun k h1 h2=>by omega⟩ t0 t1 t2 t3 t4 t18 t19 t22 t20 t21 bx ?_
   intro s' c hc t0 t1 t2 t3 t4 t18 t19 t20 bx
   refine JP ?_
   refine ko ?_
   have hcl:=hc.l
   have hch:=hc.h
   obtain ⟨u,rfl⟩:=Nat.exists_eq_add_of_le (show U.length≤c by omega)
   have hAs:A.take u++A.drop u=A:=List.take_append_drop _ _
   have hBs:B.take (w - u)++B.drop (w - u)=B:=List.take_append_drop _ _
   have hcuts:=jjq hp zeroLn hA hB w u (lo0 - U.length) (hi0 - U.length) (by omega) (by omega) (by omega) (by omega) (by omega) (by omega)
    (fun c h1 h2=>by
     have:=(key (U.length + c) (by omega) (by omega) (by omega) (by omega)).mp (hc.t (U.length + c) (by omega) (by omega))
     rwa [show U.length + c - U.length=c by omega] at this)
    (fun c h1 h2=>by
     have:=hc.f (U.length + c) (by omega) (by omega)
     rw [key (U.length + c) (by omega) (by omega) (by omega) (by omega),show U.length + c - U.length=c by omega] at this
     simpa using this)
   have l1:(A.take u).length=u:=by rw [List.length_take]; omega
   have l2:(A.drop u).length=A.length - u:=by rw [List.length_drop]
   have l3:(B.take (w - u)).length=w - u:=by rw [List.length_take]; omega
   have l4:(B.drop (w - u)).length=B.length - (w - u):=by rw [List.length_drop]
   have hbx:U++(A++(B++V))=(U++A.take u)++(A.drop u++(B.take (w - u)++(B.drop (w - u)++V))):=by
    rw [List.append_assoc,← List.append_assoc (A.take u),hAs,← List.append_assoc (B.take (w - u)),hBs]
   have:=jgr hp ih (U.length + (A.length + (B.length + V.length))) U (A.take u) (A.drop u) (B.take (w - u)) (B.drop (w - u)) V htot (by omega) (by rw [hAs]; exact hA) (by rw [hBs]; exact hB) (by rw [hAs,hBs]; exact hok) hcuts.1 hcuts.2 ⟨by omega,by omega⟩
    U.length (U.length + A.length:Nat) (U.length + A.length + B.length:Nat) mid (mid + (U.length + A.length):Nat) (U.length + u:Nat) rfl (by omega) (by omega) (by omega) (by omega) (by omega) s' t0 t1 t2 t3 t4 t18 t19 t20
    (by rw [bx,hbx])
   rw [hAs,hBs] at this
   exact this
  have hnI:∀ z:Int,z=mid→z + ((U.length + A.length:Nat):Int)=(mid + (U.length + A.length):Nat):=fun z hz=>by omega
  have hpI:((mid + (U.length + A.length):Nat):Int) - 1=(mid + (U.length + A.length) - 1:Nat):=by omega
  by_cases hmm:U.length + A.length > mid
  ·unfold p119
   repeat' (first | refine JM (n:=1) (m:=2) rfl rfl (by decide) (by decide) ?_ | refine st1 ?_ | intro u)
   refine fin (mid + (U.length + A.length) - (U.length + A.length + B.length)) mid _ (by omega) (by omega) (by omega) (by omega) (by omega) (by omega) (by omega) (by exact congrArg (PV.osl 0 0 0) hE) (by rfl) (by rfl) (by rfl) (by rfl)
    (by exact congrArg (fun n=>PV.c (CV.int .i64 n)) hmI) (by exact congrArg (fun n=>PV.c (CV.int .i64 n)) (by omega)) (by exact congrArg (fun n=>PV.c (CV.int .i64 n)) (by omega)) (by exact congrArg (fun n=>PV.c (CV.int .i64 n)) (by omega)) (by exact congrArg (fun n=>PV.c (CV.int .i64 n)) hmI) (by rfl)
  ·unfold p119
   repeat' (first | refine JM (n:=1) (m:=2) rfl rfl (by decide) (by decide) ?_ | refine st1 ?_ | intro u)
   refine fin U.length (U.length + A.length) _ (by omega) (by omega) (by omega) (by omega) (by omega) (by omega) (by omega) (by exact congrArg (PV.osl 0 0 0) hE) (by rfl) (by rfl) (by rfl) (by rfl)
    (by exact congrArg (fun n=>PV.c (CV.int .i64 n)) hmI) (by exact congrArg (fun n=>PV.c (CV.int .i64 n)) (by omega)) (by exact congrArg (fun n=>PV.c (CV.int .i64 n)) (by omega)) (by rfl) (by rfl) (by rfl)
end
set_option maxRecDepth 100000
set_option maxHeartbeats 16000000
section
variable {f : FuncId} {caps : List (List CV)} {cf : LineS → LineS → Int} {ok : LineS → Prop}
def Chs (cf:LineS→LineS→Int) (k:Nat) (XS:List (List LineS)):Prop:=∀ X∈XS,X.length=k∧Srt (leF cf) X
theorem Chs.nil (k:Nat):Chs cf k []:=fun X h=>by simp at h
theorem Chs.snoc {k:Nat} {XS:List (List LineS)} {X:List LineS} (h:Chs cf k XS) (h1:X.length=k) (h2:Srt (leF cf) X):Chs cf k (XS++[X]):=fun Y hY=>by
 rcases List.mem_append.mp hY with e | e
 ·exact h Y e
 ·simp at e; rw [e]; exact ⟨h1,h2⟩
theorem JK (hp:PreO (leF cf)) (U W V:List LineS):sortS (leF cf) (U++(sortS (leF cf) W++V))=sortS (leF cf) (U++(W++V)):=by
 refine Vx hp ⟨kJ hp _,fun x=>?_⟩
 rw [(vU hp (U++(W++V))).2]
 simp only [List.filter_append]
 rw [(vU hp W).2]
theorem srtst1 (hC:Cmps f caps cf ok) (hp:PreO (leF cf)) (S0:List LineS) (tot:Nat) (hS0:S0.length=tot) (htot:tot≤1000000000000000000) (hok:∀ z∈S0,ok z) {K:KT}:∀ (n:Nat) (XS:List (List LineS)) (R:List LineS) (s:PS),R.length≤n→Chs cf 20 XS→sortS (leF cf) (XS.flatten++R)=S0 →
  s.t 0=.osl 0 0 0 tot→s.t 1=.c (.int .i64 tot)→s.t 2=.c (.clo f caps)→s.t 6=.c (.int .i64 20)→s.t 7=.c (.int .i64 XS.flatten.length)→s.t 8=.c (.int .i64 (XS.flatten.length + 20:Nat))→s.bx 0=⟨0,.sl 11 ((XS.flatten++R).map encLn)⟩ →
  (∀ s' XS' R',Chs cf 20 XS'→R'.length < 20→sortS (leF cf) (XS'.flatten++R')=S0→s'.t 0=.osl 0 0 0 tot→s'.t 1=.c (.int .i64 tot)→s'.t 2=.c (.clo f caps)→s'.t 6=.c (.int .i64 20)→s'.t 7=.c (.int .i64 XS'.flatten.length) →
   s'.bx 0=⟨0,.sl 11 ((XS'.flatten++R').map encLn)⟩→K (.x 0) s')→wP (CP) (.loop b79_0) s K:=by
 intro n
 induction n with
 | zero =>
  intro XS R s hn hX hS t0 t1 t2 t6 t7 t8 bx hK
  obtain rfl:R=[]:=List.eq_nil_of_length_eq_zero (by omega)
  have hlen:XS.flatten.length=tot:=by rw [← hS0,← hS,jy]; simp
  refine jf ?_
  have hb:¬ ((XS.flatten.length + 20:Nat):Int)≤tot:=by omega
  generalize ((XS.flatten.length + 20:Nat):Int)=b at *
  rw [← ja t0,← ja t1,← ja t2,← ja t6,← ja t7,← ja t8,← jc bx]
  unfold b79_0
  repeat' (first | refine st2 ?_ | intro u)
  exact hK _ XS [] hX (by simp) hS (by rfl) (by rfl) (by rfl) (by rfl) (by rfl) (by rfl)
 | succ n ih =>
  intro XS R s hn hX hS t0 t1 t2 t6 t7 t8 bx hK
  have hlen:XS.flatten.length + R.length=tot:=by rw [← hS0,← hS,jy]; simp
  refine jf ?_
  by_cases h20:20≤R.length
  ·have hRs:R.take 20++R.drop 20=R:=List.take_append_drop _ _
   have hl1:(R.take 20).length=20:=by rw [List.length_take]; omega
   have hl2:(R.drop 20).length=R.length - 20:=by rw [List.length_drop]
   have hmem:∀ z∈XS.flatten++R,ok z:=fun z hz=>hok z (by rw [← hS]; exact (kh hp _ z).mpr hz)
   generalize hA:R.take 20=A at *
   generalize hB:R.drop 20=B at *
   subst hRs
   have hI:=Wd hC hp XS.flatten A B (fun z hz=>hmem z (by simp [hz])) XS.flatten.length (XS.flatten.length + 20:Nat) rfl (by omega) (by simp only [List.length_append,List.length_map,List.flatten_append,List.flatten_cons,List.flatten_nil,List.length_cons,List.length_nil] at hlen ⊢; omega)
   have hE:((XS.flatten++(A++B)).map encLn).length=tot:=by simp only [List.length_append,List.length_map,List.flatten_append,List.flatten_cons,List.flatten_nil,List.length_cons,List.length_nil] at hlen ⊢; omega
   have hsl:=jy (le:=leF cf) A
   have hs':(⟨0,.sl 11 ((XS.flatten++(sortS (leF cf) A++B)).map encLn)⟩:Box)=⟨0,.sl 11 (((XS++[sortS (leF cf) A]).flatten++B).map encLn)⟩:=by simp
   have hn1:((XS.flatten.length + 20:Nat):Int)=((XS++[sortS (leF cf) A]).flatten.length:Nat):=by simp only [List.length_append,List.length_map,List.flatten_append,List.flatten_cons,List.flatten_nil,List.length_cons,List.length_nil]; omega
   have hn2:((XS.flatten.length + 20:Nat):Int) + 20=((XS++[sortS (leF cf) A]).flatten.length + 20:Nat):=by simp only [List.length_append,List.length_map,List.flatten_append,List.flatten_cons,List.flatten_nil,List.length_cons,List.length_nil]; omega
   have hb:((XS.flatten.length + 20:Nat):Int)≤tot:=by simp only [List.length_append,List.length_map,List.flatten_append,List.flatten_cons,List.flatten_nil,List.length_cons,List.length_nil] at hlen; omega
   generalize ((XS.flatten.length + 20:Nat):Int)=b at *
   rw [← ja t0,← ja t1,← ja t2,← ja t6,← ja t7,← ja t8,← jc bx]
   unfold b79_0
   repeat' (first | refine callS3 rfl rfl hE.symm rfl rfl rfl hI ?_ | refine st1 ?_ | intro u)
   exact ih (XS++[sortS (leF cf) A]) B _ (by simp only [List.length_append,List.length_map,List.flatten_append,List.flatten_cons,List.flatten_nil,List.length_cons,List.length_nil] at hn; omega) (hX.snoc (by omega) (kJ hp A)) (by rw [← hS,← JK hp XS.flatten A B]; simp) (by rfl) (by rfl) (by rfl) (by rfl) (by exact congrArg (fun n=>PV.c (CV.int .i64 n)) hn1) (by exact congrArg (fun n=>PV.c (CV.int .i64 n)) hn2) (by exact hs') hK
  ·have hb:¬ ((XS.flatten.length + 20:Nat):Int)≤tot:=by omega
   generalize ((XS.flatten.length + 20:Nat):Int)=b at *
   rw [← ja t0,← ja t1,← ja t2,← ja t6,← ja t7,← ja t8,← jc bx]
   unfold b79_0
   repeat' (first | refine st2 ?_ | intro u)
   exact hK _ XS R hX (by omega) hS (by rfl) (by rfl) (by rfl) (by rfl) (by rfl) (by rfl)
theorem srtst2 (hC:Cmps f caps cf ok) (hp:PreO (leF cf)) (S0:List LineS) (tot k:Nat) (hk:1≤k) (hkt:k < tot) (hS0:S0.length=tot) (htot:tot≤1000000000000000000) (hok:∀ z∈S0,ok z) (X:List LineS) (hXl:X.length < k) {K:KT}:∀ (n:Nat) (XS YS:List (List LineS)) (s:PS),YS.length≤n→Chs cf (2 * k) XS→Chs cf k YS →
  sortS (leF cf) (XS.flatten++(YS.flatten++X))=S0 →
  s.t 0=.osl 0 0 0 tot→s.t 1=.c (.int .i64 tot)→s.t 2=.c (.clo f caps)→s.t 6=.c (.int .i64 k)→s.t 7=.c (.int .i64 XS.flatten.length)→s.t 8=.c (.int .i64 (XS.flatten.length + 2 * k:Nat))→s.bx 0=⟨0,.sl 11 ((XS.flatten++(YS.flatten++X)).map encLn)⟩ →
  (∀ s' XS' YS',Chs cf (2 * k) XS'→Chs cf k YS'→YS'.length≤1→sortS (leF cf) (XS'.flatten++(YS'.flatten++X))=S0→s'.t 0=.osl 0 0 0 tot→s'.t 1=.c (.int .i64 tot)→s'.t 2=.c (.clo f caps)→s'.t 6=.c (.int .i64 k)→s'.t 7=.c (.int .i64 XS'.flatten.length) →
   s'.bx 0=⟨0,.sl 11 ((XS'.flatten++(YS'.flatten++X)).map encLn)⟩→K (.x 4) s')→wP (CP) (.loop b79_2) s K:=by
 intro n
 induction n with
 | zero =>
  intro XS YS s hn hX hY hS t0 t1 t2 t6 t7 t8 bx hK
  obtain rfl:YS=[]:=List.eq_nil_of_length_eq_zero (by omega)
  have hlen:XS.flatten.length + X.length=tot:=by rw [← hS0,← hS,jy]; simp
  refine jf ?_
  have hb:¬ ((XS.flatten.length + 2 * k:Nat):Int)≤tot:=by omega
  generalize ((XS.flatten.length + 2 * k:Nat):Int)=b at *
  rw [← ja t0,← ja t1,← ja t2,← ja t6,← ja t7,← ja t8,← jc bx]
  unfold b79_2
  repeat' (first | refine st2 ?_ | intro u)
  exact hK _ XS [] hX hY (by simp) hS (by rfl) (by rfl) (by rfl) (by rfl) (by rfl) (by rfl)
 | succ n ih =>
  intro XS YS s hn hX hY hS t0 t1 t2 t6 t7 t8 bx hK
  refine jf ?_
  have one:∀ (h1:YS.length≤1),¬ ((XS.flatten.length + 2 * k:Nat):Int)≤tot:=by
   intro h1
   have hlen:XS.flatten.length + (YS.flatten.length + X.length)=tot:=by rw [← hS0,← hS,jy]; simp
   have:YS.flatten.length≤k:=by
    match YS,h1,hY with
    | [],_,_=>simp
    | [Y],_,hY=>simp; have:=(hY Y (by simp)).1; omega
   omega
  by_cases h1:YS.length≤1
  ·have hb:=one h1
   generalize ((XS.flatten.length + 2 * k:Nat):Int)=b at *
   rw [← ja t0,← ja t1,← ja t2,← ja t6,← ja t7,← ja t8,← jc bx]
   unfold b79_2
   repeat' (first | refine st2 ?_ | intro u)
   exact hK _ XS YS hX hY h1 hS (by rfl) (by rfl) (by rfl) (by rfl) (by rfl) (by rfl)
  ·match YS,hn,hY,hS,bx,h1 with
   | [],_,_,_,_,h1=>simp at h1
   | [Y],_,_,_,_,h1=>simp at h1
   | A::B::YS,hn,hY,hS,bx,h1 =>
    have hA:=hY A (by simp)
    have hB:=hY B (by simp)
    have hL:XS.flatten++((A::B::YS).flatten++X)=XS.flatten++(A++(B++(YS.flatten++X))):=by simp
    rw [hL] at bx hS
    have hlen:XS.flatten.length + (k + (k + (YS.flatten.length + X.length)))=tot:=by rw [← hS0,← hS,jy]; simp only [List.length_append,List.length_map,List.flatten_append,List.flatten_cons,List.flatten_nil,List.length_cons,List.length_nil]; omega
    have hmem:∀ z∈XS.flatten++(A++(B++(YS.flatten++X))),ok z:=fun z hz=>hok z (by rw [← hS]; exact (kh hp _ z).mpr hz)
    have hI:=Xt hC hp _ XS.flatten A B (YS.flatten++X) (Nat.le_refl _) (by omega) (by omega) hA.2 hB.2 hmem (by simp only [List.length_append,List.length_map,List.flatten_append,List.flatten_cons,List.flatten_nil,List.length_cons,List.length_nil]; omega) XS.flatten.length ((XS.flatten.length:Int) + k) (XS.flatten.length + 2 * k:Nat) rfl (by omega) (by omega)
    have hE:((XS.flatten++(A++(B++(YS.flatten++X)))).map encLn).length=tot:=by simp only [List.length_append,List.length_map,List.flatten_append,List.flatten_cons,List.flatten_nil,List.length_cons,List.length_nil]; omega
    have hsl:=jy (le:=leF cf) (A++B)
    rw [List.length_append] at hsl
    have hs':(⟨0,.sl 11 ((XS.flatten++(sortS (leF cf) (A++B)++(YS.flatten++X))).map encLn)⟩:Box)=⟨0,.sl 11 (((XS++[sortS (leF cf) (A++B)]).flatten++(YS.flatten++X)).map encLn)⟩:=by simp
    have hn1:((XS.flatten.length + 2 * k:Nat):Int)=((XS++[sortS (leF cf) (A++B)]).flatten.length:Nat):=by simp only [List.flatten_append,List.length_append,List.flatten_cons,List.flatten_nil,List.length_nil]; omega
    have hn2:((XS.flatten.length + 2 * k:Nat):Int) + 2 * k=((XS++[sortS (leF cf) (A++B)]).flatten.length + 2 * k:Nat):=by simp only [List.flatten_append,List.length_append,List.flatten_cons,List.flatten_nil,List.length_nil]; omega
    have hb:((XS.flatten.length + 2 * k:Nat):Int)≤tot:=by omega
    have hX2:Chs cf (2 * k) (XS++[sortS (leF cf) (A++B)]):=hX.snoc (by omega) (kJ hp _)
    have hY2:Chs cf k YS:=fun Z hZ=>hY Z (by simp [hZ])
    generalize ((XS.flatten.length + 2 * k:Nat):Int)=b at *
    rw [← ja t0,← ja t1,← ja t2,← ja t6,← ja t7,← ja t8,← jc bx]
    unfold b79_2
    repeat' (first | refine callS4 rfl rfl hE.symm rfl rfl rfl rfl hI ?_ | refine st1 ?_ | intro u)
    exact ih (XS++[sortS (leF cf) (A++B)]) YS _ (by simp only [List.length_append,List.length_map,List.flatten_append,List.flatten_cons,List.flatten_nil,List.length_cons,List.length_nil] at hn; omega) hX2 hY2 (by
      have:=JK hp XS.flatten (A++B) (YS.flatten++X)
      rw [← hS]
      simpa using this) (by rfl) (by rfl) (by rfl) (by rfl) (by exact congrArg (fun n=>PV.c (CV.int .i64 n)) hn1) (by exact congrArg (fun n=>PV.c (CV.int .i64 n)) hn2) (by exact hs') hK
def Blk (cf:LineS→LineS→Int) (k:Nat) (L:List LineS):Prop:=∃ XS X,L=XS.flatten++X∧Chs cf k XS∧X.length < k∧Srt (leF cf) X
theorem Blk.srt {k:Nat} {L:List LineS} (h:Blk cf k L) (hl:L.length≤k):Srt (leF cf) L:=by
 obtain ⟨XS,X,rfl,hX,hl',hs⟩:=h
 match XS,hX with
 | [],_=>simpa using hs
 | Y::XS,hX =>
  have hY:=hX Y (by simp)
  have:XS.flatten++X=[]:=List.eq_nil_of_length_eq_zero (by simp only [List.length_append,List.length_map,List.flatten_append,List.flatten_cons,List.flatten_nil,List.length_cons,List.length_nil] at hl ⊢; omega)
  have e:(Y::XS).flatten++X=Y:=by rw [List.flatten_cons,List.append_assoc,this,List.append_nil]
  rw [e]; exact hY.2
theorem srtst3 (hC:Cmps f caps cf ok) (hp:PreO (leF cf)) (S0:List LineS) (tot:Nat) (hS0:S0.length=tot) (htot:tot≤1000000000000000000) (hok:∀ z∈S0,ok z) {K:KT}:∀ (n k:Nat) (L:List LineS) (s:PS),tot≤k + n→1≤k→k≤2 * tot + 20→Blk cf k L→sortS (leF cf) L=S0 →
  s.t 0=.osl 0 0 0 tot→s.t 1=.c (.int .i64 tot)→s.t 2=.c (.clo f caps)→s.t 6=.c (.int .i64 k)→s.bx 0=⟨0,.sl 11 (L.map encLn)⟩ →
  (∀ s',s'.bx 0=⟨0,.sl 11 (S0.map encLn)⟩→K (.x 2) s')→wP (CP) (.loop b79_1) s K:=by
 intro n
 induction n with
 | zero =>
  intro k L s hn hk hk2 hB hS t0 t1 t2 t6 bx hK
  have hlen:L.length=tot:=by rw [← hS0,← hS,jy]
  have he:L=S0:=by rw [← hS,wF hp (hB.srt (by omega))]
  refine jf ?_
  rw [he] at bx
  rw [← ja t0,← ja t1,← ja t2,← ja t6,← jc bx]
  unfold b79_1
  repeat' (first | refine st0 ?_ | intro u)
  exact hK _ (by rfl)
 | succ n ih =>
  intro k L s hn hk hk2 hB hS t0 t1 t2 t6 bx hK
  have hlen:L.length=tot:=by rw [← hS0,← hS,jy]
  refine jf ?_
  by_cases hkt:k < tot
  ·obtain ⟨XS,X,rfl,hX,hXl,hXs⟩:=hB
   rw [← ja t0,← ja t1,← ja t2,← ja t6,← jc bx]
   unfold b79_1
   repeat' (first | refine st1 ?_ | intro u)
   refine srtst2 hC hp S0 tot k hk hkt hS0 htot hok X hXl XS.length [] XS _ (Nat.le_refl _) (Chs.nil _) hX (by simpa using hS) (by rfl) (by rfl) (by rfl) (by rfl) (by rfl) (by exact congrArg (fun n=>PV.c (CV.int .i64 n)) (by simp)) (by rfl) ?_
   intro s' XS' YS' hX' hY' hY1 hS' t0 t1 t2 t6 t7 bx
   have hlen':XS'.flatten.length + (YS'.flatten.length + X.length)=tot:=by rw [← hS0,← hS',jy]; simp
   have hmem:∀ z∈XS'.flatten++(YS'.flatten++X),ok z:=fun z hz=>hok z (by rw [← hS']; exact (kh hp _ z).mpr hz)
   refine JP ?_
   -- the last two
   match YS',hY',hY1,hS',hlen',hmem,bx with
   | [],hY',_,hS',hlen',hmem,bx =>
    simp only [List.flatten_nil,List.nil_append,List.length_nil,Nat.zero_add] at hS' hlen' bx
    have h1:¬ (XS'.flatten.length:Int) + k < tot:=by omega
    rw [← ja t0,← ja t1,← ja t2,← ja t6,← ja t7,← jc bx]
    repeat' (first | refine st1 ?_ | intro u)
    exact ih (2 * k) (XS'.flatten++X) _ (by omega) (by omega) (by omega) ⟨XS',X,rfl,hX',by omega,hXs⟩ hS' (by rfl) (by rfl) (by rfl) (by exact congrArg (fun n=>PV.c (CV.int .i64 n)) (by omega)) (by rfl) hK
   | [Y],hY',_,hS',hlen',hmem,bx =>
    have hY:=hY' Y (by simp)
    have hfl:[Y].flatten=Y:=by simp
    rw [hfl] at hS' hlen' hmem bx
    by_cases hX0:X.length=0
    ·obtain rfl:X=[]:=List.eq_nil_of_length_eq_zero hX0
     simp only [List.append_nil] at hS' bx
     have h1:¬ (XS'.flatten.length:Int) + k < tot:=by simp only [List.length_append,List.length_map,List.flatten_append,List.flatten_cons,List.flatten_nil,List.length_cons,List.length_nil] at hlen'; omega
     rw [← ja t0,← ja t1,← ja t2,← ja t6,← ja t7,← jc bx]
     repeat' (first | refine st1 ?_ | intro u)
     exact ih (2 * k) (XS'.flatten++Y) _ (by omega) (by omega) (by omega) ⟨XS',Y,rfl,hX',by omega,hY.2⟩ hS' (by rfl) (by rfl) (by rfl) (by exact congrArg (fun n=>PV.c (CV.int .i64 n)) (by omega)) (by rfl) hK
    ·have hsl:=jy (le:=leF cf) (Y++X)
     rw [List.length_append] at hsl
     have hL4:XS'.flatten++(Y++X)=XS'.flatten++(Y++(X++[])):=by simp
     rw [hL4] at bx hmem
     have hI:=Xt hC hp _ XS'.flatten Y X [] (Nat.le_refl _) (by omega) (by omega) hY.2 hXs hmem (by simp only [List.length_append,List.length_map,List.flatten_append,List.flatten_cons,List.flatten_nil,List.length_cons,List.length_nil]; omega) XS'.flatten.length ((XS'.flatten.length:Int) + k) tot rfl (by omega) (by omega)
     have hE:((XS'.flatten++(Y++(X++[]))).map encLn).length=tot:=by simp only [List.length_append,List.length_map,List.flatten_append,List.flatten_cons,List.flatten_nil,List.length_cons,List.length_nil]; omega
     have h1:(XS'.flatten.length:Int) + k < tot:=by omega
     have hs':(⟨0,.sl 11 ((XS'.flatten++(sortS (leF cf) (Y++X)++[])).map encLn)⟩:Box)=⟨0,.sl 11 ((XS'.flatten++sortS (leF cf) (Y++X)).map encLn)⟩:=by simp
     rw [← ja t0,← ja t1,← ja t2,← ja t6,← ja t7,← jc bx]
     repeat' (first | refine callS4 rfl rfl hE.symm rfl rfl rfl rfl hI ?_ | refine st1 ?_ | intro u)
     exact ih (2 * k) (XS'.flatten++sortS (leF cf) (Y++X)) _ (by omega) (by omega) (by omega) ⟨XS',_,rfl,hX',by omega,kJ hp _⟩ (by
       have:=JK hp XS'.flatten (Y++X) []
       rw [← hS']
       simpa using this) (by rfl) (by rfl) (by rfl) (by exact congrArg (fun n=>PV.c (CV.int .i64 n)) (by omega)) (by exact hs') hK
   | Y::Z::YS,_,hY1,_,_,_,_=>simp at hY1
  ·have he:L=S0:=by rw [← hS,wF hp (hB.srt (by omega))]
   rw [he] at bx
   rw [← ja t0,← ja t1,← ja t2,← ja t6,← jc bx]
   unfold b79_1
   repeat' (first | refine st0 ?_ | intro u)
   exact hK _ (by rfl)
theorem jgu (hC:Cmps f caps cf ok) (hp:PreO (leF cf)) (L:List LineS) (hok:∀ z∈L,ok z) (n:Int) (hn:(L.length:Int)=n) (htot:L.length≤1000000000000000000) :
  CP 79 [.ios 11 (L.map encLn),.c (.int .i64 n),.c (.clo f caps)] (.c (.tup [])) [[.sl ((sortS (leF cf) L).map encLn)]]:=by
 subst hn
 refine pcallS (cs:=[.int .i64 _,.clo f caps]) Tryz.func79 c79 ?_
 have hE:(L.map encLn).length=L.length:=List.length_map _
 unfold p79
 repeat' (first | refine st0 ?_ | intro u)
 refine srtst1 hC hp (sortS (leF cf) L) L.length (jy L) htot (fun z hz=>hok z ((kh hp L z).mp hz)) L.length [] L _ (Nat.le_refl _) (Chs.nil _) (by rfl) (by exact congrArg (PV.osl 0 0 0) hE) (by rfl) (by rfl) (by rfl) (by rfl) (by rfl) (by rfl) ?_
 intro s' XS R hX hR hS t0 t1 t2 t6 t7 bx
 refine JP ?_
 have hlen:XS.flatten.length + R.length=L.length:=by rw [← jy (le:=leF cf) L,← hS,jy]; simp
 have hL2:XS.flatten++R=XS.flatten++(R++[]):=by simp
 have hmem:∀ z∈XS.flatten++R,ok z:=fun z hz=>hok z (by rw [← kh hp L z,← hS]; exact (kh hp _ z).mpr hz)
 rw [hL2] at bx
 have hI:=Wd hC hp XS.flatten R [] (fun z hz=>hmem z (by simp [hz])) XS.flatten.length L.length rfl (by omega) (by simp only [List.length_append,List.length_map,List.flatten_append,List.flatten_cons,List.flatten_nil,List.length_cons,List.length_nil]; omega)
 have hE2:((XS.flatten++(R++[])).map encLn).length=L.length:=by simp only [List.length_append,List.length_map,List.flatten_append,List.flatten_cons,List.flatten_nil,List.length_cons,List.length_nil]; omega
 have hs':(⟨0,.sl 11 ((XS.flatten++(sortS (leF cf) R++[])).map encLn)⟩:Box)=⟨0,.sl 11 ((XS.flatten++sortS (leF cf) R).map encLn)⟩:=by simp
 have hsl:=jy (le:=leF cf) R
 rw [← ja t0,← ja t1,← ja t2,← ja t6,← ja t7,← jc bx]
 repeat' (first | refine callS3 rfl rfl hE2.symm rfl rfl rfl hI ?_ | refine st1 ?_ | intro u)
 exact srtst3 hC hp (sortS (leF cf) L) L.length (jy L) htot (fun z hz=>hok z ((kh hp L z).mp hz)) L.length 20 (XS.flatten++sortS (leF cf) R) _ (by omega) (by omega) (by omega) ⟨XS,_,rfl,hX,by omega,kJ hp _⟩ (by
   have:=JK hp XS.flatten R []
   rw [← hS]
   simpa using this) (by rfl) (by rfl) (by rfl) (by rfl) (by exact hs') (fun s' h'=>JP h')
theorem YN (hC:Cmps f caps cf ok) (hp:PreO (leF cf)) (L:List LineS) (hok:∀ z∈L,ok z) (htot:L.length≤1000000000000000000) :
  CP 42 [.ios 11 (L.map encLn),.c (.clo f caps)] (.c (.tup [])) [[.sl ((sortS (leF cf) L).map encLn)]]:=by
 have hE:(L.map encLn).length=L.length:=List.length_map _
 have hI:=jgu hC hp L hok ((L.map encLn).length:Nat) (by rw [hE]) htot
 refine pcallS (cs:=[.clo f caps]) Tryz.func42 c42 ?_
 unfold p42
 repeat' (first | refine callS2 rfl rfl rfl rfl rfl hI ?_ | refine st5 ?_ | intro u)
 rfl
end
set_option maxRecDepth 100000
set_option maxHeartbeats 16000000
theorem jgv (a b:Cell) (ha:a.b0.length≤1000000∧a.b1.length≤1000000) (hb:b.b0.length≤1000000∧b.b1.length≤1000000):CP 61 [.c (encCell a),.c (encCell b)] (.c (.bool (decide (a=b)))) []:=by
 obtain ⟨n,s0,s1,b0,b1⟩:=a
 obtain ⟨k,t0,t1,d0,d1⟩:=b
 simp only at ha hb
 show PCallG _ 61 [.c (.agg [.int .i64 n,.int .i64 s0,.int .i64 s1,encL b0,encL b1]),.c (.agg [.int .i64 k,.int .i64 t0,.int .i64 t1,encL d0,encL d1])] _ _
 refine pcallF Tryz.func61 c61 rfl ?_
 have c1:=jb6 b0 d0 (by omega) (by omega)
 have c2:=jb6 b1 d1 (by omega) (by omega)
 unfold p61
 repeat' (first | refine st2 ?_ | intro u)
 refine jf ?_
 unfold b61_0
 by_cases h1:s0=t0
 ·by_cases h3:b0=d0
  ·rw [decide_eq_true h3] at c1
   repeat' (first | refine call2 rfl rfl c1 ?_ | refine st7 ?_ | intro u)
   refine jf ?_
   by_cases h2:s1=t1
   ·by_cases h4:b1=d1
    ·rw [decide_eq_true h4] at c2
     repeat' (first | refine call2 rfl rfl c2 ?_ | refine st7 ?_ | intro u)
     refine jf ?_
     by_cases h5:n=k
     ·rw [decide_eq_true (by rw [h1,h2,h3,h4,h5])]
      repeat' (first | refine st2 ?_ | intro u)
      exact jd rfl rfl
     ·rw [decide_eq_false (by intro h; exact h5 (congrArg Cell.n h))]
      repeat' (first | refine st2 ?_ | intro u)
      exact jd rfl rfl
    ·rw [decide_eq_false h4] at c2
     rw [decide_eq_false (by intro h; exact h4 (congrArg Cell.b1 h))]
     repeat' (first | refine call2 rfl rfl c2 ?_ | refine st2 ?_ | intro u)
     exact jd rfl rfl
   ·rw [decide_eq_false (by intro h; exact h2 (congrArg Cell.s1 h))]
    repeat' (first | refine st3 ?_ | intro u)
    exact jd rfl rfl
  ·rw [decide_eq_false h3] at c1
   rw [decide_eq_false (by intro h; exact h3 (congrArg Cell.b0 h))]
   repeat' (first | refine call2 rfl rfl c1 ?_ | refine st2 ?_ | intro u)
   exact jd rfl rfl
 ·rw [decide_eq_false (by intro h; exact h1 (congrArg Cell.s0 h))]
  repeat' (first | refine st3 ?_ | intro u)
  exact jd rfl rfl
def lightC (c:Cell):Bool:=decide (c.b0.length≤60∧c.b1.length≤60)
theorem ZT (c:Cell) (h0:c.b0.length≤9223372036854775807) (h1:c.b1.length≤9223372036854775807):CP 33 [.c (encCell c)] (.c (.bool (lightC c))) []:=by
 obtain ⟨n,s0,s1,b0,b1⟩:=c
 simp only at h0 h1
 show PCallG _ 33 [.c (.agg [.int .i64 n,.int .i64 s0,.int .i64 s1,encL b0,encL b1])] _ _
 refine pcallF Tryz.func33 c33 rfl ?_
 unfold p33
 repeat' (first | refine st2 ?_ | intro u)
 refine jf ?_
 unfold b33_0
 repeat' (first | refine je rfl (List.length_map _) ?_ | refine st4 ?_ | intro u)
 refine jf ?_
 repeat' (first | refine je rfl (List.length_map _) ?_ | refine st4 ?_ | intro u)
 refine jf ?_
 by_cases h:b0.length≤60∧b1.length≤60
 ·rw [show lightC ⟨n,s0,s1,b0,b1⟩=true from decide_eq_true h]
  repeat' (first | refine jbq rfl rfl (by (repeat' split) <;> omega) ?_ | refine st0 ?_ | intro u)
  exact jd rfl rfl
 ·rw [show lightC ⟨n,s0,s1,b0,b1⟩=false from decide_eq_false h]
  repeat' (first | refine jeu rfl rfl (by (repeat' split) <;> omega) ?_ | refine st0 ?_ | intro u)
  exact jd rfl rfl
end Go.Proofs.YtnpncbplhdnonaaGreat
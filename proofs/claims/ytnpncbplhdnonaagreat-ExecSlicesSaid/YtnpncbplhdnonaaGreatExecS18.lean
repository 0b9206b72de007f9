/- Part of the proof of ExecTells, ExecAnswers, ExecBest, ExecFirst, ExecLevels, ExecTops, ExecLimits: lemmas. -/
import Derived.Test.YtnpncbplhdnonaaGreatExecS15
import Derived.Test.YtnpncbplhdnonaaGreatExecS16
import Derived.Test.YtnpncbplhdnonaaGreatExecS17
set_option linter.unusedVariables false
set_option linter.unusedSimpArgs false
namespace Go.Proofs.YtnpncbplhdnonaaGreat
open Go.Pl
set_option maxRecDepth 100000
set_option maxHeartbeats 4000000
theorem Vm (a:Int) (ha:I64 a):CP 85 [.c (.int .i64 a)] (.c (.int .u64 (absI a))) []:=by
 obtain ⟨h1,h2⟩:=ha
 refine pcallF Tryz.func85 c85 rfl ?_
 unfold p85
 by_cases h:a < 0
 ·repeat' (first | refine st9 ?_ | intro u)
  refine jd rfl ?_
  simp only [km,absI,if_pos h]
  congr 1
  omega
 ·repeat' (first | refine st5 ?_ | intro u)
  exact jd rfl (by simp [km,absI,h])
theorem jlu {C:CallP} {l:List POp} {s:PS} {K:PS→Prop} {d:Nat} {x y:PO} {a b:Int} (hx:s.ev x=.c (.int .u64 a)) (hy:s.ev y=.c (.int .u64 b)) (ha:0≤a∧a≤18446744069414584320) (hm:a % 4294967296=0) (hb:0≤b∧b < 4294967296)
  (h:wL C l (s.put d (.c (.int .u64 (a + b)))) K):wL C (⟨some d,.bin .or x y,none⟩::l) s K:=by
 refine vC hx hy ?_ h
 obtain ⟨A,rfl⟩:=Int.eq_ofNat_of_zero_le ha.1
 obtain ⟨B,rfl⟩:=Int.eq_ofNat_of_zero_le hb.1
 have h1:A % 2 ^ 64=A:=Nat.mod_eq_of_lt (by omega)
 have h2:B % 2 ^ 64=B:=Nat.mod_eq_of_lt (by omega)
 have h3:A=2 ^ 32 * (A / 4294967296):=by omega
 have e:((BitVec.ofInt 64 (A:Int)) ||| BitVec.ofInt 64 (B:Int)).toNat=A + B:=by
  rw [BitVec.ofInt_natCast,BitVec.ofInt_natCast,BitVec.toNat_or,BitVec.toNat_ofNat,BitVec.toNat_ofNat,h1,h2]
  rw [h3,← Nat.two_pow_add_eq_or_of_lt (by omega)]
 show some (CV.int .u64 (IntKind.u64.wrap (((BitVec.ofInt 64 (A:Int)) ||| BitVec.ofInt 64 (B:Int)).toNat:Nat)))=_
 rw [e,vo (by omega)]
 simp
def cellsV (z:Int):List CV:=[.bool (decide (z < 0)),.int .u64 (absI z / 18446744073709551616),.int .u64 (absI z % 18446744073709551616)]
theorem jds {z hi lo:Int} {neg:Bool} (h1:neg=decide (z < 0)) (h2:hi=absI z / 18446744073709551616) (h3:lo=absI z % 18446744073709551616):CV.agg (cellsV z)=km [.agg [.bool neg,.int .u64 hi,.int .u64 lo]]:=by
 subst h1 h2 h3; rfl
theorem Jk (a b:Int) (ha:I64 a) (hb:I64 b):CP 51 [.c (.int .i64 a),.c (.int .i64 b)] (.c (.agg (cellsV (a * b)))) []:=by
 have hA:=kQ ha
 have hB:=kQ hb
 have hS1:=Vm a ha
 have hS2:=Vm b hb
 have hab:=WW a b
 generalize absI a=x at *
 generalize absI b=y at *
 have hp0:0≤x * y:=Int.mul_nonneg hA.1 hB.1
 have hq:absI (a * b)=x * y:=by
  unfold absI
  split at hab <;> split <;> omega
 have hneg:x * y≠0→(!(decide (a < 0) == decide (b < 0)))=decide (a * b < 0):=fun hne=>by
  by_cases h1:a < 0 <;> by_cases h2:b < 0 <;> simp [h1,h2] at hab ⊢ <;> omega
 have hneg0:x * y=0→false=decide (a * b < 0):=fun h0=>by
  have:¬ a * b < 0:=by split at hab <;> omega
  simp [this]
 have e:=halves x y (x % 4294967296) (x / 4294967296) (y % 4294967296) (y / 4294967296) (by omega) (by omega)
 have b00:=vH (a:=x % 4294967296) (b:=y % 4294967296) (m:=4294967295) (by omega) (by omega) (by omega) (by omega)
 have b10:=vH (a:=x / 4294967296) (b:=y % 4294967296) (m:=4294967295) (by omega) (by omega) (by omega) (by omega)
 have b01:=vH (a:=x % 4294967296) (b:=y / 4294967296) (m:=4294967295) (by omega) (by omega) (by omega) (by omega)
 have b11:=vH (a:=x / 4294967296) (b:=y / 4294967296) (m:=4294967295) (by omega) (by omega) (by omega) (by omega)
 have hp32:(2:Int) ^ 32=4294967296:=by decide
 have step:∀ {C:CallP} {l:List POp} {s:PS} {K:PS→Prop} {d:Nat} {u v:PO} {a:Int},s.ev u=.c (.int .u64 a)→s.ev v=.c (.int .u64 4294967295)→(0≤a∧a≤18446744073709551615)→wL C l (s.put d (.c (.int .u64 (a % 4294967296)))) K→wL C (⟨some d,.bin .and u v,none⟩::l) s K :=
  fun h1 h2 h3 h4=>Y7 32 (by decide) (by decide) h1 h2 h3 (by rw [hp32]; exact h4)
 refine pcallF Tryz.func51 c51 rfl ?_
 unfold p51
 repeat' (first | refine call1 rfl hS1 ?_ | refine call1 rfl hS2 ?_ | refine step rfl rfl (by omega) ?_ | refine jmh (n:=32) (m:=4294967296) rfl rfl (by decide) (by decide) ?_ | refine jlu rfl rfl (by omega) (by omega) (by omega) ?_ | refine st9 ?_ | refine ⟨fun hc=>?_,fun hc=>?_⟩ | intro u)
 all_goals
  refine jd (jh rfl rfl rfl rfl jk) ?_
  refine jds ?_ ?_ ?_
  ·first
    | exact hneg (by omega)
    | exact hneg0 (by omega)
  ·rw [hq]; omega
  ·rw [hq]; omega
end Go.Proofs.YtnpncbplhdnonaaGreat
namespace Go.Proofs.YtnpncbplhdnonaaGreat
open Go.Pl Go.Bag
set_option maxRecDepth 100000
set_option maxHeartbeats 8000000
theorem jft {C:CallP} {K:KT} (l:List Run) (v n:Int) (hlen:l.length < 400000000):∀ (rest:List Run) (i:Nat) (d:Bool) (out:List Run) (es:List (List CV)) (s:PS),l.drop i=rest→i≤l.length→es=encE out→out.length + 2 * rest.length < 1000000000 →
  (∀ r∈rest,-9223372036854775808≤r.2 + n∧r.2 + n≤9223372036854775807) →
  s.t 0=.c (encL l)→s.t 1=.c (.int .i64 v)→s.t 2=.c (.int .i64 n)→s.t 8=.c (.bool d)→s.t 9=.c (.int .i64 i)→s.t 7=.osl 7 (s.bx 7).ver 0 es.length→s.bx 7=⟨(s.bx 7).ver,.sl 2 es⟩ →
  (∀ s',(out++(layB v n d rest).1).length < 1000000000→s'.t 1=.c (.int .i64 v)→s'.t 2=.c (.int .i64 n)→s'.t 8=.c (.bool (layB v n d rest).2)→s'.t 7=.osl 7 (s'.bx 7).ver 0 (encE (out++(layB v n d rest).1)).length→s'.bx 7=⟨(s'.bx 7).ver,.sl 2 (encE (out++(layB v n d rest).1))⟩→K (.x 0) s')→wP C (.loop b108_0) s K:=by
 intro rest
 induction rest with
 | nil =>
  intro i d out es s hd hi he hl hb t0 t1 t2 t8 t9 t7 b7 hx
  refine jf ?_
  have:=vi hd hi
  subst this
  subst he
  generalize (s.bx 7).ver=v7 at t7 b7
  rw [← ja t0,← ja t1,← ja t2,← ja t8,← ja t9,← ja t7,← jc b7]
  unfold b108_0
  repeat' (first | refine st0 ?_ | intro u)
  exact hx _ (by simpa [layB] using hl) (by rfl) (by rfl) (by rfl) (by simp only [layB,List.append_nil]; rfl) (by simp only [layB,List.append_nil]; rfl)
 | cons r rest ih =>
  intro i d out es s hd hi he hl hb t0 t1 t2 t8 t9 t7 b7 hx
  refine jf ?_
  have hget:=kP hd
  have hil:=vh hd
  have hn:=kz hd
  have hr1:=hb r (by simp)
  have hb':∀ q∈rest,-9223372036854775808≤q.2 + n∧q.2 + n≤9223372036854775807:=fun q hq=>hb q (by simp [hq])
  have hlr:(r::rest).length=rest.length + 1:=rfl
  have hgrow:∀ q:List CV,es.length + [q].length≤maxGrow:=fun q=>by
   subst he; simp [encE,maxGrow]; omega
  have hgrow2:∀ q p:List CV,(es++[p]).length + [q].length≤maxGrow:=fun q p=>by
   subst he; simp [encE,maxGrow]; omega
  have hz:∀ p:Run,es++[[.int .i64 p.1,.int .i64 p.2]]=encE (out++[p]):=fun p=>by subst he; simp [encE,encR]
  have hz2:∀ p q:Run,es++[[.int .i64 p.1,.int .i64 p.2]]++[[.int .i64 q.1,.int .i64 q.2]]=encE (out++[p]++[q]):=fun p q=>by subst he; simp [encE,encR]
  generalize (s.bx 7).ver=v7 at t7 b7
  rw [← ja t0,← ja t1,← ja t2,← ja t8,← ja t9,← ja t7,← jc b7]
  unfold b108_0
  cases d with
  | true =>
   repeat' (first | refine jr rfl rfl rfl rfl (hgrow _) (by intro e he; cases List.mem_singleton.mp he; rfl) rfl rfl (fun _ _=>?_) | refine st6 ?_ | refine ⟨fun hc=>?_,fun hc=>?_⟩ | intro u)
   ·have e:layB v n true (r::rest)=([r]++(layB v n true rest).1,(layB v n true rest).2):=by simp [layB,keepR,hc]
    rw [e,← List.append_assoc] at hx
    exact ih (i + 1) true (out++[r]) _ _ hn (by omega) (hz r) (by simp; omega) hb' (by rfl) (by rfl) (by rfl) (by rfl) (by rfl) (by rfl) (by rfl) hx
   ·have e:layB v n true (r::rest)=((layB v n true rest).1,(layB v n true rest).2):=by
     have:r.2=0:=by omega
     simp [layB,keepR,this]
    rw [e] at hx
    exact ih (i + 1) true out es _ hn (by omega) he (by omega) hb' (by rfl) (by rfl) (by rfl) (by rfl) (by rfl) (by rfl) (by rfl) hx
  | false =>
   by_cases h1:v≤r.1
   ·by_cases h2:v < r.1
    ·repeat' (first | refine jr rfl rfl rfl rfl (hgrow _) (by intro e he; cases List.mem_singleton.mp he; rfl) rfl rfl (fun _ _=>?_) | refine jr rfl rfl rfl rfl (hgrow2 _ _) (by intro e he; cases List.mem_singleton.mp he; rfl) rfl rfl (fun _ _=>?_) | refine st6 ?_ | refine ⟨fun hc=>?_,fun hc=>?_⟩ | intro u)
     ·have e:layB v n false (r::rest)=([(v,n)]++([r]++(layB v n true rest).1),(layB v n true rest).2):=by simp [layB,keepR,hc,h1,h2]
      rw [e,← List.append_assoc,← List.append_assoc] at hx
      exact ih (i + 1) true (out++[(v,n)]++[r]) _ _ hn (by omega) (hz2 (v,n) r) (by simp; omega) hb' (by rfl) (by rfl) (by rfl) (by rfl) (by rfl) (by rfl) (by rfl) hx
     ·have e:layB v n false (r::rest)=([(v,n)]++(layB v n true rest).1,(layB v n true rest).2):=by
       have:r.2=0:=by omega
       simp [layB,keepR,this,h1,h2]
      rw [e,← List.append_assoc] at hx
      exact ih (i + 1) true (out++[(v,n)]) _ _ hn (by omega) (hz (v,n)) (by simp; omega) hb' (by rfl) (by rfl) (by rfl) (by rfl) (by rfl) (by rfl) (by rfl) hx
    ·repeat' (first | refine jr rfl rfl rfl rfl (hgrow _) (by intro e he; cases List.mem_singleton.mp he; rfl) rfl rfl (fun _ _=>?_) | refine st6 ?_ | refine ⟨fun hc=>?_,fun hc=>?_⟩ | intro u)
     ·have e:layB v n false (r::rest)=([(r.1,r.2 + n)]++(layB v n true rest).1,(layB v n true rest).2):=by simp [layB,keepR,hc,h1,h2]
      rw [e,← List.append_assoc] at hx
      exact ih (i + 1) true (out++[(r.1,r.2 + n)]) _ _ hn (by omega) (hz (r.1,r.2 + n)) (by simp; omega) hb' (by rfl) (by rfl) (by rfl) (by rfl) (by rfl) (by rfl) (by rfl) hx
     ·have e:layB v n false (r::rest)=((layB v n true rest).1,(layB v n true rest).2):=by
       have:r.2 + n=0:=by omega
       simp [layB,keepR,this,h1,h2]
      rw [e] at hx
      exact ih (i + 1) true out es _ hn (by omega) he (by omega) hb' (by rfl) (by rfl) (by rfl) (by rfl) (by rfl) (by rfl) (by rfl) hx
   ·repeat' (first | refine jr rfl rfl rfl rfl (hgrow _) (by intro e he; cases List.mem_singleton.mp he; rfl) rfl rfl (fun _ _=>?_) | refine st6 ?_ | refine ⟨fun hc=>?_,fun hc=>?_⟩ | intro u)
    ·have e:layB v n false (r::rest)=([r]++(layB v n false rest).1,(layB v n false rest).2):=by simp [layB,keepR,hc,h1]
     rw [e,← List.append_assoc] at hx
     exact ih (i + 1) false (out++[r]) _ _ hn (by omega) (hz r) (by simp; omega) hb' (by rfl) (by rfl) (by rfl) (by rfl) (by rfl) (by rfl) (by rfl) hx
    ·have e:layB v n false (r::rest)=((layB v n false rest).1,(layB v n false rest).2):=by
      have:r.2=0:=by omega
      simp [layB,keepR,this,h1]
     rw [e] at hx
     exact ih (i + 1) false out es _ hn (by omega) he (by omega) hb' (by rfl) (by rfl) (by rfl) (by rfl) (by rfl) (by rfl) (by rfl) hx
theorem jfu (l:List Run) (v n:Int) (hlen:l.length < 400000000) (hb:∀ r∈l,-9223372036854775808≤r.2 + n∧r.2 + n≤9223372036854775807) :
  CP 108 [.c (encL l),.c (.int .i64 v),.c (.int .i64 n)] (.c (encL (lay l v n))) []:=by
 refine pcallF Tryz.func108 c108 rfl ?_
 unfold p108
 repeat' (first | refine st5 ?_ | intro u)
 refine jft l v n hlen l 0 false [] [] _ rfl (by omega) rfl (by simp; omega) hb (by rfl) (by rfl) (by rfl) (by rfl) (by rfl) (by rfl) (by rfl) ?_
 intro s' hl t1 t2 t8 t7 b7
 simp only [List.nil_append] at hl t7 b7
 have hgrow:∀ q:List CV,(encE (layB v n false l).1).length + [q].length≤maxGrow:=fun q=>by simp [encE,maxGrow]; omega
 generalize (s'.bx 7).ver=v7 at t7 b7
 rw [← ja t1,← ja t2,← ja t8,← ja t7,← jc b7]
 cases hd:(layB v n false l).2 with
 | true =>
  repeat' (first | refine st5 ?_ | intro u)
  refine jd (JT rfl rfl rfl jk) ?_
  simp [km,lay,hd,encL,encE]
 | false =>
  repeat' (first | refine jr rfl rfl rfl rfl (hgrow _) (by intro e he; cases List.mem_singleton.mp he; rfl) rfl rfl (fun _ _=>?_) | refine st5 ?_ | intro u)
  refine jd (JT rfl rfl rfl jk) ?_
  simp [km,lay,hd,encL,encE]
  rfl
set_option maxRecDepth 100000
set_option maxHeartbeats 4000000
theorem jat {C:CallP} {K:KT} (l:List Run) (hlen:l.length < 4611686018427387904):∀ (rest:List Run) (i:Nat) (sum:Int) (p:Option Int) (s:PS),l.drop i=rest→i≤l.length→0≤sum→sum≤1099511627776 →
  (i=0→p=none)→(0 < i→∃ q,(l.map encR)[((i:Int) - 1).toNat]? = some (encR q)∧p=some q.1) →
  s.t 0=.c (encL l)→s.t 4=.c (.int .i64 i)→s.t 3=.c (.int .i64 sum) →
  (goodFrom p sum rest=true→∀ s',K (.x 0) s')→(goodFrom p sum rest=false→∀ s',s'.t 2=.c (.bool false)→K .r s')→wP C (.loop b114_0) s K:=by
 intro rest
 induction rest with
 | nil =>
  intro i sum p s hd hi h0 h1 hp0 hp1 t0 t4 t3 hx hr
  refine jf ?_
  have:=vi hd hi
  subst this
  rw [← ja t0,← ja t4]
  unfold b114_0
  repeat' (first | refine st0 ?_ | intro u)
  exact hx rfl _
 | cons r rest ih =>
  intro i sum p s hd hi h0 h1 hp0 hp1 t0 t4 t3 hx hr
  refine jf ?_
  have he:=kP hd
  have hl:=vh hd
  have hn:=kz hd
  rw [← ja t0,← ja t4,← ja t3]
  unfold b114_0
  have next:∀ s'',(p.any (fun a=>decide (r.1≤a))=false)→1≤r.2→r.2≤1099511627776 - sum→s''.t 0=.c (encL l)→s''.t 4=.c (.int .i64 (i + 1))→s''.t 3=.c (.int .i64 (sum + r.2))→wP C (.loop b114_0) s'' K:=by
   intro s'' g1 g2 g3 u0 u4 u3
   have e:goodFrom p sum (r::rest)=goodFrom (some r.1) (sum + r.2) rest:=by
    have:¬ r.2 < 1:=by omega
    have:¬ cap - sum < r.2:=by unfold cap; omega
    simp [goodFrom, *]
   rw [e] at hx hr
   refine ih (i + 1) (sum + r.2) (some r.1) s'' hn (by omega) (by omega) (by omega) (by omega) (fun _=>⟨r,?_,rfl⟩) u0 u4 u3 hx hr
   have:(((i + 1:Nat):Int) - 1).toNat=i:=by omega
   rw [this]; exact he
  have bad:∀ s'',(p.any (fun a=>decide (r.1≤a))=true∨r.2 < 1∨1099511627776 - sum < r.2)→s''.t 2=.c (.bool false)→K .r s'':=by
   intro s'' g u2
   refine hr ?_ s'' u2
   rcases g with g | g | g
   ·simp [goodFrom,g]
   ·simp [goodFrom,g]
   ·have:cap - sum < r.2:=g
    simp [goodFrom,this]
  rcases Nat.eq_zero_or_pos i with hz | hz
  ·have hp:=hp0 hz
   repeat' (first | refine st4 ?_ | refine ⟨fun hc=>?_,fun hc=>?_⟩ | intro u)
   all_goals (first | exact next _ (by simp [hp]) (by omega) (by omega) (by rfl) (by rfl) (by rfl) | exact bad _ (.inr (by omega)) rfl)
  ·obtain ⟨q,hq,hp⟩:=hp1 hz
   repeat' (first | refine st4 ?_ | refine ⟨fun hc=>?_,fun hc=>?_⟩ | intro u)
   all_goals (first | exact next _ (by simp [hp]; omega) (by omega) (by omega) (by rfl) (by rfl) (by rfl) | exact bad _ (.inr (by omega)) rfl | exact bad _ (.inl (by simp [hp]; omega)) rfl)
theorem JG (l:List Run) (hlen:l.length < 4611686018427387904):CP 114 [.c (encL l)] (.c (.bool (good l))) []:=by
 refine pcallF Tryz.func114 c114 rfl ?_
 unfold p114
 repeat' (first | refine st0 ?_ | intro u)
 refine jat l hlen l 0 0 none _ rfl (by omega) (by omega) (by omega) (fun _=>rfl) (fun h=>by omega) (by rfl) (by rfl) (by rfl) ?_ ?_
 ·intro hg s'
  repeat' (first | refine st0 ?_ | intro u)
  exact jd rfl (by unfold good; rw [hg]; rfl)
 ·intro hg s' h2
  rw [← ja h2]
  repeat' (first | refine j8 ?_ | refine kl ?_)
  exact jd rfl (by unfold good; rw [hg]; rfl)
theorem Zt {K:KT} (l:List Run) (hg:good l=true) (hlen:l.length < 4611686018427387904):∀ (rest:List Run) (i:Nat) (acc:Int) (s:PS),l.drop i=rest→i≤l.length→pos rest→0≤acc→acc + sum rest≤1099511627776 →
  s.t 0=.c (encL l)→s.t 4=.c (.int .i64 i)→s.t 3=.c (.int .i64 acc) →
  (∀ s',s'.t 3=.c (.int .i64 (acc + sum rest))→K (.x 0) s')→wP (CP) (.loop b115_0) s K:=by
 have hC:=JG l hlen
 rw [hg] at hC
 intro rest
 induction rest with
 | nil =>
  intro i acc s hd hi hp h0 h1 t0 t4 t3 hx
  refine jf ?_
  have:=vi hd hi
  subst this
  rw [← ja t0,← ja t4,← ja t3]
  unfold b115_0
  repeat' (first | refine call1 rfl hC ?_ | refine st0 ?_ | intro u)
  exact hx _ (by simp [sum]; rfl)
 | cons r rest ih =>
  intro i acc s hd hi hp h0 h1 t0 t4 t3 hx
  refine jf ?_
  have he:=kP hd
  have hl:=vh hd
  have hn:=kz hd
  have hr:=hp r (by simp)
  have hp':pos rest:=fun q hq=>hp q (by simp [hq])
  have hs:=js hp'
  have e:acc + sum (r::rest)=acc + r.2 + sum rest:=by simp only [sum]; omega
  rw [e] at h1 hx
  rw [← ja t0,← ja t4,← ja t3]
  unfold b115_0
  repeat' (first | refine call1 rfl hC ?_ | refine st4 ?_ | intro u)
  exact ih (i + 1) (acc + r.2) _ hn (by omega) hp' (by omega) (by omega) (by rfl) (by rfl) (by rfl) hx
theorem Vn (l:List Run) (hlen:l.length < 4611686018427387904):CP 115 [.c (encL l)] (.c (.int .i64 (if good l then sum l else 0))) []:=by
 refine pcallF Tryz.func115 c115 rfl ?_
 unfold p115
 by_cases hg:good l=true
 ·obtain ⟨hp,hs⟩:=kY hg
  have hs':sum l≤1099511627776:=hs
  repeat' (first | refine st0 ?_ | intro u)
  refine Zt l hg hlen l 0 0 _ rfl (by omega) hp (by omega) (by omega) (by rfl) (by rfl) (by rfl) (fun s' h3=>?_)
  rw [← ja h3]
  repeat' (first | refine st0 ?_ | intro u)
  exact jd rfl (by simp [km,hg])
 ·simp only [Bool.not_eq_true] at hg
  have hC:=JG l hlen
  rw [hg] at hC
  repeat' (first | refine st0 ?_ | intro u)
  refine jf ?_
  unfold b115_0
  repeat' (first | refine call1 rfl hC ?_ | refine st2 ?_ | intro u)
  exact jd rfl (by simp [km,hg])
set_option maxRecDepth 100000
set_option maxHeartbeats 4000000
theorem jau {C:CallP} {K:KT} (l k:List Run) (hlen:l.length < 4611686018427387904) (hk:k.length=l.length):∀ (rest rest':List Run) (i:Nat) (s:PS),l.drop i=rest→k.drop i=rest'→i≤l.length →
  s.t 0=.c (encL l)→s.t 1=.c (encL k)→s.t 5=.c (.int .i64 i) →
  (rest=rest'→∀ s',K (.x 0) s')→(rest≠rest'→∀ s',s'.t 4=.c (.bool false)→K .r s')→wP C (.loop b104_0) s K:=by
 intro rest
 induction rest with
 | nil =>
  intro rest' i s hd hd' hi t0 t1 t5 hx hr
  refine jf ?_
  have:=vi hd hi
  subst this
  have h':rest'=[]:=by rw [← hd',← hk]; simp
  subst h'
  rw [← ja t0,← ja t5]
  unfold b104_0
  repeat' (first | refine st0 ?_ | intro u)
  exact hx rfl _
 | cons r rest ih =>
  intro rest' i s hd hd' hi t0 t1 t5 hx hr
  refine jf ?_
  have he:=kP hd
  have hl:=vh hd
  have hn:=kz hd
  match rest',hd' with
  | [],hd'=>exact absurd (List.drop_eq_nil_iff.mp hd') (by omega)
  | q::rest',hd' =>
   have he':=kP hd'
   have hn':=kz hd'
   rw [← ja t0,← ja t1,← ja t5]
   unfold b104_0
   have hq:eqC true [.i,.i] (.agg (encR r)) (.agg (encR q))=some (decide (r=q)):=by
    obtain ⟨r1,r2⟩:=r
    obtain ⟨q1,q2⟩:=q
    by_cases h1:r1=q1 <;> by_cases h2:r2=q2 <;> simp [eqC,shEq,encR,h1,h2]
   by_cases hrq:r=q
   ·rw [decide_eq_true hrq] at hq
    repeat' (first | refine kO rfl rfl hq ?_ | refine st1 ?_ | intro u)
    exact ih rest' (i + 1) _ hn hn' (by omega) (by rfl) (by rfl) (by rfl) (fun h=>hx (by rw [hrq,h])) (fun h=>hr (fun e=>h (by injection e)))
   ·rw [decide_eq_false hrq] at hq
    repeat' (first | refine kO rfl rfl hq ?_ | refine st4 ?_ | intro u)
    exact hr (fun e=>hrq (by injection e)) _ rfl
theorem jb6 (l k:List Run) (hlen:l.length < 4611686018427387904) (hklen:k.length < 4611686018427387904):CP 104 [.c (encL l),.c (encL k)] (.c (.bool (decide (l=k)))) []:=by
 refine pcallF Tryz.func104 c104 rfl ?_
 unfold p104
 by_cases hk:k.length=l.length
 ·repeat' (first | refine st1 ?_ | intro u)
  refine jau l k hlen hk l k 0 _ rfl rfl (by omega) (by rfl) (by rfl) (by rfl) (fun h s'=>?_) (fun h s' h4=>?_)
  ·repeat' (first | refine st0 ?_ | intro u)
   exact jd rfl (by simp [km,h])
  ·rw [← ja h4]
   repeat' (first | refine j8 ?_ | refine kl ?_)
   exact jd rfl (by simp [km,h])
 ·repeat' (first | refine st5 ?_ | intro u)
  refine jd rfl ?_
  have:l≠k:=fun e=>hk (by rw [e])
  simp [km,this]
set_option maxRecDepth 100000
set_option maxHeartbeats 8000000
def bagV (p:List Run × Bool):CV:=.agg [encL p.1,.bool p.2]
theorem jav {K:KT} (b:List Run) (hlen:b.length < 1000000) (v4:Nat) (c4:List CV):∀ (rest:List Run) (i:Nat) (out:List Run) (s:PS),b.drop i=rest→i≤b.length→asc out→pos out→out.length≤1000000 + i→pos rest→sum out + sum rest≤1099511627776 →
  s.t 1=.c (encL b)→s.t 5=.c (encL out)→s.t 6=.c (.int .i64 i)→s.t 4=.ptr 4 v4 0→s.bx 4=⟨v4,.var c4⟩ →
  (∀ s',s'.t 5=.c (encL (layS out rest))→s'.t 4=.ptr 4 v4 0→s'.bx 4=⟨v4,.var c4⟩→K (.x 0) s')→wP (CP) (.loop b147_0) s K:=by
 intro rest
 induction rest with
 | nil =>
  intro i out s hd hi ha hp hl hr hs t1 t5 t6 t4 b4 hx
  refine jf ?_
  have hi':=vi hd hi
  subst hi'
  rw [← ja t1,← ja t5,← ja t6,← ja t4,← jc b4]
  unfold b147_0
  repeat' (first | refine je rfl (List.length_map _) ?_ | refine st0 ?_ | intro u)
  exact hx _ rfl rfl rfl
 | cons r rest ih =>
  intro i out s hd hi ha hp hl hr hs t1 t5 t6 t4 b4 hx
  refine jf ?_
  have he:=kP hd
  have hil:=vh hd
  have hn:=kz hd
  have hr1:=hr r (by simp)
  have hr2:pos rest:=fun q hq=>hr q (by simp [hq])
  have hs0:=js hr2
  have hs1:=js hp
  simp only [sum] at hs
  have hM:=jfu out r.1 r.2 (by omega) fun q hq=>by have:=Ji hp q hq; omega
  obtain ⟨f1,f2,f3,f4,f5⟩:=vK out r.1 r.2
  obtain ⟨g1,g2⟩:=Vj (v:=r.1) (n:=r.2) ha hp (by omega) (by have:=jU r.1 hp; omega)
  rw [← ja t1,← ja t5,← ja t6,← ja t4,← jc b4]
  unfold b147_0
  repeat' (first | refine je rfl (List.length_map _) ?_ | refine call3 rfl rfl rfl hM ?_ | refine st4 ?_ | intro u)
  exact ih (i + 1) (lay out r.1 r.2) _ hn (by omega) g1 g2 (by omega) hr2 (by omega) (by rfl) (by rfl) (by rfl) (by rfl) (by rfl) hx
theorem jb7 (a b:List Run) (ha:a.length≤1000000) (hb:b.length < 1000000):CP 147 [.c (encL a),.c (encL b)] (.c (bagV (join a b))) []:=by
 refine pcallF Tryz.func147 c147 rfl ?_
 have h0:cap=1099511627776:=rfl
 have c1:=JG a (by omega)
 have c2:=JG b (by omega)
 have c3:=Vn a (by omega)
 have c4:=Vn b (by omega)
 unfold p147
 cases ga:good a with
 | false =>
  rw [ga] at c1
  rw [JB (by simp [ga])]
  repeat' (first | refine call1 rfl c1 ?_ | refine st8 ?_ | intro u)
  exact jd (jh rfl rfl rfl rfl jk) rfl
 | true =>
  cases gb:good b with
  | false =>
   rw [ga] at c1
   rw [gb] at c2
   rw [JB (by simp [gb])]
   repeat' (first | refine call1 rfl c1 ?_ | refine call1 rfl c2 ?_ | refine st8 ?_ | intro u)
   exact jd (jh rfl rfl rfl rfl jk) rfl
  | true =>
   rw [ga] at c1 c3
   rw [gb] at c2 c4
   rw [if_pos rfl] at c3 c4
   obtain ⟨a1,a2,a3⟩:=jA.mp ga
   obtain ⟨b1,b2,b3⟩:=jA.mp gb
   have na:=js a2
   have nb:=js b2
   by_cases hs:sum a + sum b≤1099511627776
   ·rw [jdn ga gb (by omega)]
    repeat' (first | refine call1 rfl c1 ?_ | refine call1 rfl c2 ?_ | refine call1 rfl c3 ?_ | refine call1 rfl c4 ?_ | refine st3 ?_ | intro u)
    refine jav b hb _ _ b 0 a _ rfl (by omega) a1 a2 (by omega) b2 hs (by rfl) (by rfl) (by rfl) (by rfl) (by rfl) ?_
    intro s' u5 u4 w4
    rw [← ja u5,← ja u4,← jc w4]
    repeat' (first | refine st5 ?_ | intro u)
    exact jd (jh rfl rfl rfl rfl jk) rfl
   ·rw [JB (by omega)]
    repeat' (first | refine call1 rfl c1 ?_ | refine call1 rfl c2 ?_ | refine call1 rfl c3 ?_ | refine call1 rfl c4 ?_ | refine st7 ?_ | intro u)
    exact jd (jh rfl rfl rfl rfl jk) rfl
set_option maxRecDepth 100000
set_option maxHeartbeats 8000000
/-! ### the document's wide numbers: sign, high part, low part -/
def enc3 (w:Bool × Int × Int):List CV:=[.bool w.1,.int .u64 w.2.1,.int .u64 w.2.2]
def in3 (w:Bool × Int × Int):Prop:=(0≤w.2.1∧w.2.1≤18446744073709551615)∧(0≤w.2.2∧w.2.2≤18446744073709551615)
def less3 (a b:Bool × Int × Int):Bool:=decide (a.2.1 < b.2.1∨(a.2.1=b.2.1∧a.2.2 < b.2.2))
def sub3 (p q:Bool × Int × Int):Bool × Int × Int :=
 let hi:=if p.2.2 < q.2.2 then ((p.2.1 - q.2.1) % 18446744073709551616 - 1) % 18446744073709551616 else (p.2.1 - q.2.1) % 18446744073709551616
 let lo:=(p.2.2 - q.2.2) % 18446744073709551616
 (if hi=0∧lo=0 then false else p.1,hi,lo)
def plus3 (a b:Bool × Int × Int):Bool × Int × Int :=
 if a.1=b.1 then (a.1,(if (a.2.2 + b.2.2) % 18446744073709551616 < a.2.2 then ((a.2.1 + b.2.1) % 18446744073709551616 + 1) % 18446744073709551616 else (a.2.1 + b.2.1) % 18446744073709551616),(a.2.2 + b.2.2) % 18446744073709551616)
 else if less3 a b then sub3 b a else sub3 a b
def of3 (z:Int):Bool × Int × Int:=(decide (z < 0),absI z / 18446744073709551616,absI z % 18446744073709551616)
theorem Wq (z:Int):enc3 (of3 z)=cellsV z:=rfl
theorem jig {p q:Bool × Int × Int}:in3 (sub3 p q):=by
 unfold sub3 in3
 simp only
 refine ⟨?_,by omega⟩
 split <;> omega
theorem jfv {a b:Bool × Int × Int}:in3 (plus3 a b):=by
 unfold plus3
 split
 ·unfold in3
  simp only
  refine ⟨?_,by omega⟩
  split <;> omega
 ·split <;> exact jig
theorem j9 (z:Int):0≤absI z:=by unfold absI; split <;> omega
theorem jlv {z:Int} (h:absI z < 340282366920938463463374607431768211456):in3 (of3 z):=by
 have:=j9 z
 unfold in3 of3; simp only; omega
theorem Zu {z y:Int}:less3 (of3 z) (of3 y)=decide (absI z < absI y):=by
 have:=j9 z
 have:=j9 y
 unfold less3 of3
 simp only
 rw [decide_eq_decide]
 omega
theorem jb8 {z y:Int} (hs:decide (z < 0)≠decide (y < 0)) (hle:absI y≤absI z) (hb:absI z < 340282366920938463463374607431768211456):sub3 (of3 z) (of3 y)=of3 (z + y):=by
 have h1:=j9 z
 have h2:=j9 y
 have h3:absI (z + y)=absI z - absI y:=by
  unfold absI at *
  by_cases hz:z < 0 <;> by_cases hy:y < 0 <;> by_cases hzy:z + y < 0 <;> simp [hz,hy,hzy] at hs hle ⊢ <;> omega
 have h4:absI z - absI y≠0→decide (z < 0)=decide (z + y < 0):=fun hne=>by
  rw [decide_eq_decide]
  unfold absI at *
  by_cases hz:z < 0 <;> by_cases hy:y < 0 <;> simp [hz,hy] at hs hle hne ⊢ <;> omega
 have h5:absI z - absI y=0→decide (z + y < 0)=false:=fun he=>by
  rw [decide_eq_false_iff_not]
  rw [he] at h3
  unfold absI at h3
  split at h3 <;> omega
 unfold sub3 of3
 simp only
 rw [h3]
 generalize absI z=A at *
 generalize absI y=B at *
 have hlo:(A % 18446744073709551616 - B % 18446744073709551616) % 18446744073709551616=(A - B) % 18446744073709551616:=by omega
 have hhi:(if A % 18446744073709551616 < B % 18446744073709551616 then ((A / 18446744073709551616 - B / 18446744073709551616) % 18446744073709551616 - 1) % 18446744073709551616 else (A / 18446744073709551616 - B / 18446744073709551616) % 18446744073709551616)=(A - B) / 18446744073709551616:=by
  split <;> omega
 rw [hlo,hhi]
 have h6:((A - B) / 18446744073709551616=0∧(A - B) % 18446744073709551616=0)↔A - B=0:=by omega
 by_cases he:A - B=0
 ·rw [if_pos (h6.mpr he),h5 he]
 ·rw [if_neg (mt h6.mp he),h4 he]
theorem jfw {z y:Int} (hb:absI z + absI y < 340282366920938463463374607431768211456):plus3 (of3 z) (of3 y)=of3 (z + y):=by
 have h1:=j9 z
 have h2:=j9 y
 by_cases hs:decide (z < 0)=decide (y < 0)
 ·have h3:absI (z + y)=absI z + absI y:=by
   unfold absI at *
   by_cases hz:z < 0 <;> by_cases hy:y < 0 <;> by_cases hzy:z + y < 0 <;> simp [hz,hy,hzy] at hs ⊢ <;> omega
  have h4:decide (z < 0)=decide (z + y < 0):=by
   by_cases hz:z < 0 <;> by_cases hy:y < 0 <;> simp [hz,hy] at hs ⊢ <;> omega
  unfold plus3 of3
  simp only
  rw [if_pos hs,h3,← h4]
  generalize absI z=A at *
  generalize absI y=B at *
  have hlo:(A % 18446744073709551616 + B % 18446744073709551616) % 18446744073709551616=(A + B) % 18446744073709551616:=by omega
  have hhi:(if (A % 18446744073709551616 + B % 18446744073709551616) % 18446744073709551616 < A % 18446744073709551616 then ((A / 18446744073709551616 + B / 18446744073709551616) % 18446744073709551616 + 1) % 18446744073709551616 else (A / 18446744073709551616 + B / 18446744073709551616) % 18446744073709551616)=(A + B) / 18446744073709551616:=by
   split <;> omega
  rw [hhi,hlo]
 ·unfold plus3
  rw [if_neg (show ¬ (of3 z).1=(of3 y).1 from hs),Zu]
  by_cases hlt:absI z < absI y
  ·rw [if_pos (by simpa using hlt),jb8 (fun h=>hs h.symm) (by omega) (by omega),Int.add_comm]
  ·rw [if_neg (by simpa using hlt),jb8 hs (by omega) (by omega)]
theorem jb9 (a b:Bool × Int × Int):CP 84 [.c (.agg (enc3 a)),.c (.agg (enc3 b))] (.c (.bool (less3 a b))) []:=by
 obtain ⟨an,ah,al⟩:=a
 obtain ⟨bn,bh,bl⟩:=b
 refine pcallF Tryz.func84 c84 rfl ?_
 unfold p84
 by_cases h1:ah < bh
 ·have e:less3 (an,ah,al) (bn,bh,bl)=true:=by simp [less3,h1]
  rw [e]
  repeat' (first | refine st3 ?_ | intro u)
  exact jd rfl rfl
 ·by_cases h2:ah=bh
  ·by_cases h3:al < bl
   ·have e:less3 (an,ah,al) (bn,bh,bl)=true:=by simp [less3,h2,h3]
    rw [e]
    repeat' (first | refine st2 ?_ | intro u)
    exact jd rfl rfl
   ·have e:less3 (an,ah,al) (bn,bh,bl)=false:=by simp [less3,h2]; omega
    rw [e]
    repeat' (first | refine st2 ?_ | intro u)
    exact jd rfl rfl
  ·have e:less3 (an,ah,al) (bn,bh,bl)=false:=by simp [less3,h2]; omega
   rw [e]
   repeat' (first | refine st2 ?_ | intro u)
   exact jd rfl rfl
theorem jih (a b:Bool × Int × Int):CP 148 [.c (.agg (enc3 a)),.c (.agg (enc3 b))] (.c (.agg (enc3 (plus3 a b)))) []:=by
 have hL:=jb9 a b
 obtain ⟨an,ah,al⟩:=a
 obtain ⟨bn,bh,bl⟩:=b
 refine pcallF Tryz.func148 c148 rfl ?_
 unfold p148
 by_cases hs:an=bn
 ·subst hs
  by_cases hc:(al + bl) % 18446744073709551616 < al
  ·have e:plus3 (an,ah,al) (an,bh,bl)=(an,((ah + bh) % 18446744073709551616 + 1) % 18446744073709551616,(al + bl) % 18446744073709551616):=by simp [plus3,hc]
   rw [e]
   repeat' (first  | refine jG rfl rfl (show eqC false [LK.b] (CV.bool an) (CV.bool an)=some true by simp [eqC,shEq]) ?_ | refine jK ?_ | refine jN ?_ | refine jE ?_ | refine ko ?_ | refine j8 ?_ | refine j4 ?_ | refine jR rfl ?_ | refine kU rfl rfl (by omega) ?_ | refine j5 (fun u=>?_) | refine kw rfl rfl rfl (fun u=>?_) | refine j6 rfl rfl ?_ | refine jl rfl (by decide) rfl (Nat.le_of_ble_eq_true rfl) rfl ?_ | refine jt rfl rfl (by decide) rfl rfl (Nat.le_of_ble_eq_true rfl) rfl ?_ | refine jC rfl rfl rfl ?_ | refine jkd rfl rfl ?_)
   exact jd (jh rfl rfl rfl rfl jk) rfl
  ·have e:plus3 (an,ah,al) (an,bh,bl)=(an,(ah + bh) % 18446744073709551616,(al + bl) % 18446744073709551616):=by simp [plus3,hc]
   rw [e]
   repeat' (first  | refine jG rfl rfl (show eqC false [LK.b] (CV.bool an) (CV.bool an)=some true by simp [eqC,shEq]) ?_ | refine jK ?_ | refine jN ?_ | refine jE ?_ | refine ko ?_ | refine j8 ?_ | refine jP ?_ | refine j4 ?_ | refine jR rfl ?_ | refine jD rfl ?_ | refine vn rfl rfl (by omega) ?_ | refine j5 (fun u=>?_) | refine kw rfl rfl rfl (fun u=>?_) | refine j6 rfl rfl ?_ | refine jl rfl (by decide) rfl (Nat.le_of_ble_eq_true rfl) rfl ?_ | refine jt rfl rfl (by decide) rfl rfl (Nat.le_of_ble_eq_true rfl) rfl ?_ | refine jC rfl rfl rfl ?_ | refine jkd rfl rfl ?_)
   exact jd (jh rfl rfl rfl rfl jk) rfl
 ·have hne:(an == bn)=false:=by simpa using hs
  have hq:eqC false [LK.b] (CV.bool an) (CV.bool bn)=some false:=by simp [eqC,shEq,hne]
  cases hl:less3 (an,ah,al) (bn,bh,bl) with
  | true =>
   have e:plus3 (an,ah,al) (bn,bh,bl)=sub3 (bn,bh,bl) (an,ah,al):=by simp [plus3,hs,hl]
   rw [hl] at hL
   rw [e]
   by_cases hb:bl < al
   ·by_cases h0:((bh - ah) % 18446744073709551616 - 1) % 18446744073709551616=0
    ·by_cases h1:(bl - al) % 18446744073709551616=0
     ·rw [show sub3 (bn,bh,bl) (an,ah,al)=(false,((bh - ah) % 18446744073709551616 - 1) % 18446744073709551616,(bl - al) % 18446744073709551616) by simp [sub3,hb,h0,h1]]
      repeat' (first  | refine call2 rfl rfl hL ?_ | refine jG rfl rfl hq ?_ | refine jK ?_ | refine jN ?_ | refine jE ?_ | refine ko ?_ | refine jP ?_ | refine j4 ?_ | refine jR rfl ?_ | refine jD rfl ?_ | refine vm rfl ?_ | refine kC rfl ?_ | refine kH rfl rfl ?_ | refine kU rfl rfl (by omega) ?_ | refine wl rfl rfl (by omega) ?_ | refine j5 (fun u=>?_) | refine kw rfl rfl rfl (fun u=>?_) | refine j6 rfl rfl ?_ | refine jl rfl (by decide) rfl (Nat.le_of_ble_eq_true rfl) rfl ?_ | refine jt rfl rfl (by decide) rfl rfl (Nat.le_of_ble_eq_true rfl) rfl ?_ | refine jC rfl rfl rfl ?_ | refine w8 rfl rfl ?_)
      exact jd (jh rfl rfl rfl rfl jk) rfl
     ·rw [show sub3 (bn,bh,bl) (an,ah,al)=(bn,((bh - ah) % 18446744073709551616 - 1) % 18446744073709551616,(bl - al) % 18446744073709551616) by simp [sub3,hb,h0,h1]]
      repeat' (first  | refine call2 rfl rfl hL ?_ | refine jG rfl rfl hq ?_ | refine jK ?_ | refine jN ?_ | refine jE ?_ | refine ko ?_ | refine jP ?_ | refine j4 ?_ | refine jR rfl ?_ | refine jD rfl ?_ | refine vm rfl ?_ | refine kC rfl ?_ | refine kH rfl rfl ?_ | refine kU rfl rfl (by omega) ?_ | refine wl rfl rfl (by omega) ?_ | refine wm rfl rfl (by omega) ?_ | refine j5 (fun u=>?_) | refine kw rfl rfl rfl (fun u=>?_) | refine j6 rfl rfl ?_ | refine jl rfl (by decide) rfl (Nat.le_of_ble_eq_true rfl) rfl ?_ | refine jt rfl rfl (by decide) rfl rfl (Nat.le_of_ble_eq_true rfl) rfl ?_ | refine jC rfl rfl rfl ?_ | refine w8 rfl rfl ?_)
      exact jd (jh rfl rfl rfl rfl jk) rfl
    ·rw [show sub3 (bn,bh,bl) (an,ah,al)=(bn,((bh - ah) % 18446744073709551616 - 1) % 18446744073709551616,(bl - al) % 18446744073709551616) by unfold sub3; simp only [if_pos hb]; rw [if_neg (fun h=>h0 h.1)]]
     repeat' (first  | refine call2 rfl rfl hL ?_ | refine jG rfl rfl hq ?_ | refine jK ?_ | refine jN ?_ | refine jE ?_ | refine ko ?_ | refine jP ?_ | refine j4 ?_ | refine jR rfl ?_ | refine jD rfl ?_ | refine XK rfl ?_ | refine kC rfl ?_ | refine vM rfl rfl ?_ | refine kU rfl rfl (by omega) ?_ | refine wm rfl rfl (by omega) ?_ | refine j5 (fun u=>?_) | refine kw rfl rfl rfl (fun u=>?_) | refine j6 rfl rfl ?_ | refine jl rfl (by decide) rfl (Nat.le_of_ble_eq_true rfl) rfl ?_ | refine jt rfl rfl (by decide) rfl rfl (Nat.le_of_ble_eq_true rfl) rfl ?_ | refine jC rfl rfl rfl ?_ | refine w8 rfl rfl ?_)
     exact jd (jh rfl rfl rfl rfl jk) rfl
   ·by_cases h0:(bh - ah) % 18446744073709551616=0
    ·by_cases h1:(bl - al) % 18446744073709551616=0
     ·rw [show sub3 (bn,bh,bl) (an,ah,al)=(false,(bh - ah) % 18446744073709551616,(bl - al) % 18446744073709551616) by simp [sub3,hb,h0,h1]]
      repeat' (first  | refine call2 rfl rfl hL ?_ | refine jG rfl rfl hq ?_ | refine jK ?_ | refine jN ?_ | refine jE ?_ | refine ko ?_ | refine jP ?_ | refine j4 ?_ | refine jR rfl ?_ | refine jD rfl ?_ | refine vm rfl ?_ | refine kC rfl ?_ | refine kH rfl rfl ?_ | refine vn rfl rfl (by omega) ?_ | refine wl rfl rfl (by omega) ?_ | refine j5 (fun u=>?_) | refine kw rfl rfl rfl (fun u=>?_) | refine j6 rfl rfl ?_ | refine jl rfl (by decide) rfl (Nat.le_of_ble_eq_true rfl) rfl ?_ | refine jt rfl rfl (by decide) rfl rfl (Nat.le_of_ble_eq_true rfl) rfl ?_ | refine jC rfl rfl rfl ?_ | refine w8 rfl rfl ?_)
      exact jd (jh rfl rfl rfl rfl jk) rfl
     ·rw [show sub3 (bn,bh,bl) (an,ah,al)=(bn,(bh - ah) % 18446744073709551616,(bl - al) % 18446744073709551616) by simp [sub3,hb,h0,h1]]
      repeat' (first  | refine call2 rfl rfl hL ?_ | refine jG rfl rfl hq ?_ | refine jK ?_ | refine jN ?_ | refine jE ?_ | refine ko ?_ | refine jP ?_ | refine j4 ?_ | refine jR rfl ?_ | refine jD rfl ?_ | refine vm rfl ?_ | refine kC rfl ?_ | refine kH rfl rfl ?_ | refine vn rfl rfl (by omega) ?_ | refine wl rfl rfl (by omega) ?_ | refine wm rfl rfl (by omega) ?_ | refine j5 (fun u=>?_) | refine kw rfl rfl rfl (fun u=>?_) | refine j6 rfl rfl ?_ | refine jl rfl (by decide) rfl (Nat.le_of_ble_eq_true rfl) rfl ?_ | refine jt rfl rfl (by decide) rfl rfl (Nat.le_of_ble_eq_true rfl) rfl ?_ | refine jC rfl rfl rfl ?_ | refine w8 rfl rfl ?_)
      exact jd (jh rfl rfl rfl rfl jk) rfl
    ·rw [show sub3 (bn,bh,bl) (an,ah,al)=(bn,(bh - ah) % 18446744073709551616,(bl - al) % 18446744073709551616) by simp [sub3,hb,h0]]
     repeat' (first  | refine call2 rfl rfl hL ?_ | refine jG rfl rfl hq ?_ | refine jK ?_ | refine jN ?_ | refine jE ?_ | refine ko ?_ | refine jP ?_ | refine j4 ?_ | refine jR rfl ?_ | refine jD rfl ?_ | refine XK rfl ?_ | refine kC rfl ?_ | refine vM rfl rfl ?_ | refine vn rfl rfl (by omega) ?_ | refine wm rfl rfl (by omega) ?_ | refine j5 (fun u=>?_) | refine kw rfl rfl rfl (fun u=>?_) | refine j6 rfl rfl ?_ | refine jl rfl (by decide) rfl (Nat.le_of_ble_eq_true rfl) rfl ?_ | refine jt rfl rfl (by decide) rfl rfl (Nat.le_of_ble_eq_true rfl) rfl ?_ | refine jC rfl rfl rfl ?_ | refine w8 rfl rfl ?_)
     exact jd (jh rfl rfl rfl rfl jk) rfl
  | false =>
   have e:plus3 (an,ah,al) (bn,bh,bl)=sub3 (an,ah,al) (bn,bh,bl):=by simp [plus3,hs,hl]
   rw [hl] at hL
   rw [e]
   by_cases hb:al < bl
   ·by_cases h0:((ah - bh) % 18446744073709551616 - 1) % 18446744073709551616=0
    ·by_cases h1:(al - bl) % 18446744073709551616=0
     ·rw [show sub3 (an,ah,al) (bn,bh,bl)=(false,((ah - bh) % 18446744073709551616 - 1) % 18446744073709551616,(al - bl) % 18446744073709551616) by simp [sub3,hb,h0,h1]]
      repeat' (first  | refine call2 rfl rfl hL ?_ | refine jG rfl rfl hq ?_ | refine jK ?_ | refine jN ?_ | refine jE ?_ | refine ko ?_ | refine jP ?_ | refine j4 ?_ | refine jR rfl ?_ | refine jD rfl ?_ | refine vm rfl ?_ | refine kC rfl ?_ | refine kH rfl rfl ?_ | refine kU rfl rfl (by omega) ?_ | refine wl rfl rfl (by omega) ?_ | refine j5 (fun u=>?_) | refine kw rfl rfl rfl (fun u=>?_) | refine j6 rfl rfl ?_ | refine jl rfl (by decide) rfl (Nat.le_of_ble_eq_true rfl) rfl ?_ | refine jt rfl rfl (by decide) rfl rfl (Nat.le_of_ble_eq_true rfl) rfl ?_ | refine jC rfl rfl rfl ?_ | refine w8 rfl rfl ?_)
      exact jd (jh rfl rfl rfl rfl jk) rfl
     ·rw [show sub3 (an,ah,al) (bn,bh,bl)=(an,((ah - bh) % 18446744073709551616 - 1) % 18446744073709551616,(al - bl) % 18446744073709551616) by simp [sub3,hb,h0,h1]]
      repeat' (first  | refine call2 rfl rfl hL ?_ | refine jG rfl rfl hq ?_ | refine jK ?_ | refine jN ?_ | refine jE ?_ | refine ko ?_ | refine jP ?_ | refine j4 ?_ | refine jR rfl ?_ | refine jD rfl ?_ | refine vm rfl ?_ | refine kC rfl ?_ | refine kH rfl rfl ?_ | refine kU rfl rfl (by omega) ?_ | refine wl rfl rfl (by omega) ?_ | refine wm rfl rfl (by omega) ?_ | refine j5 (fun u=>?_) | refine kw rfl rfl rfl (fun u=>?_) | refine j6 rfl rfl ?_ | refine jl rfl (by decide) rfl (Nat.le_of_ble_eq_true rfl) rfl ?_ | refine jt rfl rfl (by decide) rfl rfl (Nat.le_of_ble_eq_true rfl) rfl ?_ | refine jC rfl rfl rfl ?_ | refine w8 rfl rfl ?_)
      exact jd (jh rfl rfl rfl rfl jk) rfl
    ·rw [show sub3 (an,ah,al) (bn,bh,bl)=(an,((ah - bh) % 18446744073709551616 - 1) % 18446744073709551616,(al - bl) % 18446744073709551616) by unfold sub3; simp only [if_pos hb]; rw [if_neg (fun h=>h0 h.1)]]
     repeat' (first  | refine call2 rfl rfl hL ?_ | refine jG rfl rfl hq ?_ | refine jK ?_ | refine jN ?_ | refine jE ?_ | refine ko ?_ | refine jP ?_ | refine j4 ?_ | refine jR rfl ?_ | refine jD rfl ?_ | refine XK rfl ?_ | refine kC rfl ?_ | refine vM rfl rfl ?_ | refine kU rfl rfl (by omega) ?_ | refine wm rfl rfl (by omega) ?_ | refine j5 (fun u=>?_) | refine kw rfl rfl rfl (fun u=>?_) | refine j6 rfl rfl ?_ | refine jl rfl (by decide) rfl (Nat.le_of_ble_eq_true rfl) rfl ?_ | refine jt rfl rfl (by decide) rfl rfl (Nat.le_of_ble_eq_true rfl) rfl ?_ | refine jC rfl rfl rfl ?_ | refine w8 rfl rfl ?_)
     exact jd (jh rfl rfl rfl rfl jk) rfl
   ·by_cases h0:(ah - bh) % 18446744073709551616=0
    ·by_cases h1:(al - bl) % 18446744073709551616=0
     ·rw [show sub3 (an,ah,al) (bn,bh,bl)=(false,(ah - bh) % 18446744073709551616,(al - bl) % 18446744073709551616) by simp [sub3,hb,h0,h1]]
      repeat' (first  | refine call2 rfl rfl hL ?_ | refine jG rfl rfl hq ?_ | refine jK ?_ | refine jN ?_ | refine jE ?_ | refine ko ?_ | refine jP ?_ | refine j4 ?_ | refine jR rfl ?_ | refine jD rfl ?_ | refine vm rfl ?_ | refine kC rfl ?_ | refine kH rfl rfl ?_ | refine vn rfl rfl (by omega) ?_ | refine wl rfl rfl (by omega) ?_ | refine j5 (fun u=>?_) | refine kw rfl rfl rfl (fun u=>?_) | refine j6 rfl rfl ?_ | refine jl rfl (by decide) rfl (Nat.le_of_ble_eq_true rfl) rfl ?_ | refine jt rfl rfl (by decide) rfl rfl (Nat.le_of_ble_eq_true rfl) rfl ?_ | refine jC rfl rfl rfl ?_ | refine w8 rfl rfl ?_)
      exact jd (jh rfl rfl rfl rfl jk) rfl
     ·rw [show sub3 (an,ah,al) (bn,bh,bl)=(an,(ah - bh) % 18446744073709551616,(al - bl) % 18446744073709551616) by simp [sub3,hb,h0,h1]]
      repeat' (first  | refine call2 rfl rfl hL ?_ | refine jG rfl rfl hq ?_ | refine jK ?_ | refine jN ?_ | refine jE ?_ | refine ko ?_ | refine jP ?_ | refine j4 ?_ | refine jD rfl ?_ | refine vm rfl ?_ | refine kC rfl ?_ | refine kH rfl rfl ?_ | refine vn rfl rfl (by omega) ?_ | refine wl rfl rfl (by omega) ?_ | refine wm rfl rfl (by omega) ?_ | refine j5 (fun u=>?_) | refine kw rfl rfl rfl (fun u=>?_) | refine j6 rfl rfl ?_ | refine jl rfl (by decide) rfl (Nat.le_of_ble_eq_true rfl) rfl ?_ | refine jt rfl rfl (by decide) rfl rfl (Nat.le_of_ble_eq_true rfl) rfl ?_ | refine jC rfl rfl rfl ?_ | refine w8 rfl rfl ?_)
      exact jd (jh rfl rfl rfl rfl jk) rfl
    ·rw [show sub3 (an,ah,al) (bn,bh,bl)=(an,(ah - bh) % 18446744073709551616,(al - bl) % 18446744073709551616) by simp [sub3,hb,h0]]
     repeat' (first  | refine call2 rfl rfl hL ?_ | refine jG rfl rfl hq ?_ | refine jK ?_ | refine jN ?_ | refine jE ?_ | refine ko ?_ | refine jP ?_ | refine j4 ?_ | refine jD rfl ?_ | refine XK rfl ?_ | refine kC rfl ?_ | refine vM rfl rfl ?_ | refine vn rfl rfl (by omega) ?_ | refine wm rfl rfl (by omega) ?_ | refine j5 (fun u=>?_) | refine kw rfl rfl rfl (fun u=>?_) | refine j6 rfl rfl ?_ | refine jl rfl (by decide) rfl (Nat.le_of_ble_eq_true rfl) rfl ?_ | refine jt rfl rfl (by decide) rfl rfl (Nat.le_of_ble_eq_true rfl) rfl ?_ | refine jC rfl rfl rfl ?_ | refine w8 rfl rfl ?_)
     exact jd (jh rfl rfl rfl rfl jk) rfl
end Go.Proofs.YtnpncbplhdnonaaGreat
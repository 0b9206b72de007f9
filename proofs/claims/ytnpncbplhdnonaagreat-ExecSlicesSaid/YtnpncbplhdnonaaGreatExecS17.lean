/- Part of the proof of ExecTells, ExecAnswers, ExecBest, ExecFirst, ExecLevels, ExecTops, ExecLimits: lemmas. -/
import Derived.Test.YtnpncbplhdnonaaGreatExecS13
import Derived.Test.YtnpncbplhdnonaaGreatExecS15
import Derived.Test.YtnpncbplhdnonaaGreatExecS16
import Derived.RangeFuncBox
import Derived.RangeFuncLeaves
import Derived.Shelf.Abstract
import Derived.WalkKit
import Derived.OwnWalkIn
import Derived.TacticsInMore
import Derived.LoopNIn
import Derived.LoopIn
set_option linter.unusedVariables false
set_option linter.unusedSimpArgs false
/-
 slices.Sorted(slices.Values(l)),AT WHATEVER SLICE OF int64: its values in order. The worked proofs at the dump of 'slices.Collect','slices.Sorted','slices.Values' turned to this seat; the iterator is asked only for what the loop of AppendSeq keeps.
-/
namespace Go.Proofs.YtnpncbplhdnonaaGreat
open Go.RowKit Go.Maps Go.Sort Go.Shelf
attribute [local go_sem] Oper.semAt_some
def first {α:Type} (f:Nat→α) (k:Nat):List α:=(List.range k).map f
/-! ### as plain states have it -/
open Go.Pl Go.Bag
set_option maxRecDepth 100000
theorem VK {P:Program} {f:FuncId} {cs:List CV} {r:CV} (hE:Ent P f)
  (h:∀ (w:World) (O:Nat→Prop) (vs:Array Value),vs.size=cs.length→(∀ (i:Nat) (h1:i < vs.size) (h2:i < cs.length),V w O vs[i] cs[i])→(∀ b,O b→b < w.heap.size) →
   Calls P f vs w fun e w'=>∃ v,e=.returned v∧V w' O v r∧Below w.heap.size w w'):PCallG P f (cs.map .c) (.c r) []:=by
 refine ⟨hE,?_⟩
 intro w O A β vs hsz hS
 have hn:vs.size=cs.length:=by simpa using hsz
 refine (h w O vs hn (fun i h1 h2=>?_) (fun b hb=>(hS.outer b hb).1)).mono ?_
 ·have ht:=hS.temps i
  have e1:(initPS (cs.map AV.c)).t i=.c cs[i]:=by simp [initPS,h2]
  have e2:vs.getD i undef=vs[i]:=by simp [h1]
  rw [e1,e2] at ht
  exact V.ext (.of_less fun b hb=>.inl hb) ht
 ·rintro e w' ⟨v,rfl,hv,hb⟩
  have hdead:∀ d,((retPS (cs.map AV.c) (.c r) []).bx d).st=.dead:=by
   intro d
   simp only [retPS]
   split
   ·rfl
   ·simp only [List.getElem?_map]
    cases cs[d]? <;> rfl
  refine ⟨v,fun _=>none,rfl,⟨hb.os,hb.tape,hb.output,hb.size,fun b hlt _=>hb.block b hlt,fun i=>?_,fun d=>?_,fun d d' p p' _ ho hd=>(by simp at *),fun d p _ hd=>(by simp at hd),fun b hO=>hS.outer b hO,fun d ps hd=>(by rw [hdead] at hd; cases hd),fun d es hd=>(by rw [hdead] at hd; cases hd),fun sz es _ hst=>(by rw [hdead] at hst; cases hst),fun d _ _=>rfl⟩,fun i c hi=>?_,fun i sz es hi=>?_⟩
  ·by_cases hi:i=(cs.map AV.c).length
   ·simp only [hi,if_true,retPS]
    exact V.ext (.of_less fun b hb=>by
     rcases hb with hb | ⟨_,_,_,hb⟩
     ·exact hb
     ·cases hb) hv
   ·simp only [if_neg hi,retPS]; trivial
  ·rw [hdead]; trivial
  ·simp only [List.getElem?_map] at hi
   cases hc:cs[i]? <;> rw [hc] at hi <;> cases hi
  ·simp only [List.getElem?_map] at hi
   cases hc:cs[i]? <;> rw [hc] at hi <;> cases hi
end Go.Proofs.YtnpncbplhdnonaaGreat
namespace Go.Proofs.YtnpncbplhdnonaaGreat
open Go.Pl
set_option maxRecDepth 100000
set_option maxHeartbeats 4000000
def I64 (a:Int):Prop:=-9223372036854775808≤a∧a≤9223372036854775807
instance (a:Int):Decidable (I64 a):=by unfold I64; infer_instance
def absI (a:Int):Int:=if a < 0 then -a else a
theorem VL (a:Int) (ha:I64 a):CP 124 [.c (.int .i64 a)] (.c (.int .u64 (absI a))) []:=by
 obtain ⟨h1,h2⟩:=ha
 refine pcallF Tryz.func124 c124 rfl ?_
 unfold p124
 by_cases h:a < 0
 ·repeat' (first | refine st9 ?_ | intro u)
  refine jd rfl ?_
  have:-(a % 18446744073709551616) % 18446744073709551616=-a:=by omega
  simp [km,absI,h,this]
 ·repeat' (first | refine st5 ?_ | intro u)
  exact jd rfl (by simp [km,absI,h])
theorem halves (x y:Int) (x0 x1 y0 y1:Int) (hx:x=x1 * 4294967296 + x0) (hy:y=y1 * 4294967296 + y0) :
  x * y=(x1 * y1) * 18446744073709551616 + (x1 * y0) * 4294967296 + (x0 * y1) * 4294967296 + x0 * y0:=by
 subst hx hy
 simp only [Int.add_mul,Int.mul_add]
 have e1:x1 * 4294967296 * (y1 * 4294967296)=(x1 * y1) * 18446744073709551616:=by
  rw [Int.mul_assoc,Int.mul_left_comm 4294967296 y1,← Int.mul_assoc]; rfl
 have e2:x1 * 4294967296 * y0=(x1 * y0) * 4294967296:=by rw [Int.mul_assoc,Int.mul_comm 4294967296,← Int.mul_assoc]
 have e3:x0 * (y1 * 4294967296)=(x0 * y1) * 4294967296:=by rw [Int.mul_assoc]
 omega
theorem vH {a b m:Int} (ha:0≤a) (ha':a≤m) (hb:0≤b) (hb':b≤m):0≤a * b∧a * b≤m * m :=
 ⟨Int.mul_nonneg ha hb,Int.mul_le_mul ha' hb' hb (by omega)⟩
def mul64 (x y:Int):CV:=.tup [.int .u64 (x * y / 18446744073709551616),.int .u64 (x * y % 18446744073709551616)]
theorem YF (x y:Int) (hx:0≤x∧x≤18446744073709551615) (hy:0≤y∧y≤18446744073709551615):CP 123 [.c (.int .u64 x),.c (.int .u64 y)] (.c (mul64 x y)) []:=by
 refine pcallF Tryz.func123 c123 rfl ?_
 unfold p123
 have e:=halves x y (x % 4294967296) (x / 4294967296) (y % 4294967296) (y / 4294967296) (by omega) (by omega)
 have b00:=vH (a:=x % 4294967296) (b:=y % 4294967296) (m:=4294967295) (by omega) (by omega) (by omega) (by omega)
 have b10:=vH (a:=x / 4294967296) (b:=y % 4294967296) (m:=4294967295) (by omega) (by omega) (by omega) (by omega)
 have b01:=vH (a:=x % 4294967296) (b:=y / 4294967296) (m:=4294967295) (by omega) (by omega) (by omega) (by omega)
 have b11:=vH (a:=x / 4294967296) (b:=y / 4294967296) (m:=4294967295) (by omega) (by omega) (by omega) (by omega)
 have hp32:(2:Int) ^ 32=4294967296:=by decide
 have step:∀ {C:CallP} {l:List POp} {s:PS} {K:PS→Prop} {d:Nat} {u v:PO} {a:Int},s.ev u=.c (.int .u64 a)→s.ev v=.c (.int .u64 4294967295)→(0≤a∧a≤18446744073709551615)→wL C l (s.put d (.c (.int .u64 (a % 4294967296)))) K→wL C (⟨some d,.bin .and u v,none⟩::l) s K :=
  fun h1 h2 h3 h4=>Y7 32 (by decide) (by decide) h1 h2 h3 (by rw [hp32]; exact h4)
 repeat' (first | refine step rfl rfl (by omega) ?_ | refine st9 ?_ | intro u)
 refine jd rfl ?_
 simp only [km,mul64]
 generalize x * y=p at *
 generalize (x / 4294967296) * (y / 4294967296)=q11 at *
 generalize (x / 4294967296) * (y % 4294967296)=q10 at *
 generalize (x % 4294967296) * (y / 4294967296)=q01 at *
 generalize (x % 4294967296) * (y % 4294967296)=q00 at *
 congr 3
 omega
section
variable {C : CallP} {l : List POp} {s : PS} {K : PS → Prop} {d : Nat} {xs : List PO} {a b c : Int}
theorem jnb (hx:evcs s xs=some [.int .u64 a,.int .u64 b,.int .u64 c]) (hc:0≤a∧0≤b∧0≤c∧c≤1)
  (h:wL C l (s.put d (.c (.tup [.int .u64 ((a + b + c) % 18446744073709551616),.int .u64 ((a + b + c) / 18446744073709551616)]))) K):wL C (⟨some d,.xf .adc xs,none⟩::l) s K :=
 xf_ hx (by simp only [xfC,if_pos hc]; rfl) h
theorem jnc (hx : evcs s xs = some [.int .u64 a, .int .u64 b, .int .u64 c]) (hc : 0 ≤ a ∧ 0 ≤ b ∧ b < 18446744073709551616 ∧ 0 ≤ c ∧ c ≤ 1)
    (h : ∀ bo : Int, (a < b + c ∧ bo = 1) ∨ (b + c ≤ a ∧ bo = 0) → wL C l (s.put d (.c (.tup [.int .u64 ((a - b - c) % 18446744073709551616), .int .u64 bo]))) K) : wL C (⟨some d, .xf .sbc xs, none⟩ :: l) s K :=
  xf_ hx (by have hc' : 0 ≤ a ∧ 0 ≤ b ∧ b < m64 ∧ 0 ≤ c ∧ c ≤ 1 := hc
             simp only [xfC, if_pos hc']; rfl) (h _ (by split <;> omega))
end
def W128 (z:Int):Prop:=-170141183460469231731687303715884105728≤z∧z≤170141183460469231731687303715884105727
def cellsW (z:Int):List CV:=[.int .i64 (z / 18446744073709551616),.int .u64 (z % 18446744073709551616)]
def encW (z:Int):CV:=.agg (cellsW z)
theorem jb2 {z hi lo:Int} (h1:hi=z / 18446744073709551616) (h2:lo=z % 18446744073709551616):CV.agg (cellsW z)=km [.agg [.int .i64 hi,.int .u64 lo]]:=by
 subst h1 h2; rfl
theorem WW (a b:Int):absI a * absI b=if (a < 0)≠(b < 0) then -(a * b) else a * b:=by
 unfold absI
 by_cases h1:a < 0 <;> by_cases h2:b < 0 <;> simp [h1,h2,Int.neg_mul,Int.mul_neg]
theorem kQ {a:Int} (h:I64 a):0≤absI a∧absI a≤9223372036854775808:=by
 obtain ⟨h1,h2⟩:=h
 unfold absI; split <;> omega
theorem wrap_i64 (n:Int):IntKind.i64.wrap n=(n + 9223372036854775808) % 18446744073709551616 - 9223372036854775808:=by
 simp [IntKind.wrap,IntKind.bits,IntKind.signed]
 omega
theorem jap (z a b:Int) (hz:W128 z) (ha:I64 a) (hb:I64 b) (hr:W128 (z + a * b)):CP 160 [.c (encW z),.c (.int .i64 a),.c (.int .i64 b)] (.c (encW (z + a * b))) []:=by
 obtain ⟨hz1,hz2⟩:=hz
 obtain ⟨hr1,hr2⟩:=hr
 have hA:=kQ ha
 have hB:=kQ hb
 have hp:=vH hA.1 hA.2 hB.1 hB.2
 have hab:=WW a b
 have hS1:=VL a ha
 have hS2:=VL b hb
 have hM:=YF (absI a) (absI b) (by omega) (by omega)
 unfold mul64 at hM
 generalize absI a * absI b=p at hp hab hM
 generalize a * b=q at hr1 hr2 hab
 refine pcallF Tryz.func160 c160 rfl ?_
 unfold p160
 unfold encW
 have hx:(decide (a < 0) == decide (b < 0))=true→p=q:=fun e=>by
  have e:(a < 0)=(b < 0):=by simpa using e
  simpa [e] using hab
 have hy:(decide (a < 0) == decide (b < 0))=false→p=-q:=fun e=>by
  have e:¬ ((a < 0)↔(b < 0)):=by simpa using e
  by_cases h1:a < 0 <;> by_cases h2:b < 0 <;> simp_all
 repeat' (first  | refine call1 rfl hS1 ?_ | refine call1 rfl hS2 ?_ | refine call2 rfl rfl hM ?_ | refine jnb rfl (by omega) ?_ | refine jnc rfl (by omega) (fun bo hbo=>?_) | refine jK ?_ | refine jN ?_ | refine jE ?_ | refine ko ?_ | refine jP ?_ | refine j4 ?_ | refine jey rfl (fun hc=>?_) (fun hc=>?_) | refine kC rfl ?_ | refine Y3 rfl rfl ?_ | refine jkc rfl rfl ?_ | refine jev rfl ?_ | refine j5 (fun u=>?_) | refine kw rfl rfl rfl (fun u=>?_) | refine j6 rfl rfl ?_ | refine jl rfl (by decide) rfl (Nat.le_of_ble_eq_true rfl) rfl ?_ | refine jt rfl rfl (by decide) rfl rfl (Nat.le_of_ble_eq_true rfl) rfl ?_ | refine jC rfl rfl rfl ?_ | refine jaf rfl rfl ?_ | refine jbs rfl ?_)
 ·have hpq:=hy (by simpa using hc)
  refine jd (jh rfl rfl rfl rfl jk) ?_
  refine jb2 ?_ ?_
  ·rw [wrap_i64]; omega
  ·omega
 ·have hpq:=hx (by simpa using hc)
  refine jd (jh rfl rfl rfl rfl jk) ?_
  refine jb2 ?_ ?_
  ·rw [wrap_i64]; omega
  ·omega
theorem jkl (z:Int) (hz:W128 z):CP 142 [.c (encW z)] (.c (if I64 z then .tup [.int .i64 z,.bool true] else .tup [.int .i64 0,.bool false])) []:=by
 obtain ⟨hz1,hz2⟩:=hz
 refine pcallF Tryz.func142 c142 rfl ?_
 unfold p142
 unfold encW
 have hw:IntKind.i64.wrap (z % 18446744073709551616)=z∨¬ I64 z:=by
  rw [wrap_i64]; unfold I64; omega
 by_cases h:z % 18446744073709551616 < 9223372036854775808
 all_goals
  repeat' (first | refine st9 ?_ | refine ⟨fun hc=>?_,fun hc=>?_⟩ | intro u)
 all_goals
  refine jd rfl ?_
  simp only [km]
  by_cases hI:I64 z
  ·rw [if_pos hI]
   unfold I64 at hI
   first | (exfalso; omega) | (congr 3; omega)
  ·first
    | (rw [if_neg hI]; done)
    | (exfalso; unfold I64 at hI; omega)
set_option maxRecDepth 100000
set_option maxHeartbeats 4000000
def encI (a:Int):List CV:=[.int .i64 a]
def encIL (l:List Int):CV:=.sl (l.map encI)
def totI:List Int→Int
 | []=>0
 | a::l=>a + totI l
def I64s (l:List Int):Prop:=∀ a∈l,I64 a
theorem jaq {K:KT} (l:List Int) (v4:Nat) (hlen:l.length < 1000000000):∀ (rest:List Int) (i:Nat) (z:Int) (s:PS),l.drop i=rest→i≤l.length→I64s rest →
  -(9223372036854775808 * (i:Int))≤z→z≤9223372036854775808 * (i:Int) →
  s.t 7=.c (encIL l)→s.t 8=.c (.int .i64 l.length)→s.t 9=.c (.int .i64 i)→s.t 4=.ptr 4 v4 0→s.bx 4=⟨v4,.var (cellsW z)⟩ →
  (∀ s',s'.t 4=.ptr 4 v4 0→s'.bx 4=⟨v4,.var (cellsW (z + totI rest))⟩→W128 (z + totI rest)→K (.x 0) s')→wP (CP) (.loop b154_0) s K:=by
 intro rest
 induction rest with
 | nil =>
  intro i z s hd hi hr h0 h1 t7 t8 t9 t4 b4 hx
  refine jf ?_
  have hi':i=l.length:=by have:=List.drop_eq_nil_iff.mp hd; omega
  subst hi'
  rw [← ja t8,← ja t9,← ja t4,← jc b4]
  unfold b154_0
  repeat' (first | refine st0 ?_ | intro u)
  exact hx _ (by rfl) (by simp only [totI,Int.add_zero]; rfl) (by simp only [totI,Int.add_zero]; constructor <;> omega)
 | cons a rest ih =>
  intro i z s hd hi hr h0 h1 t7 t8 t9 t4 b4 hx
  refine jf ?_
  have hl:i < l.length:=by have:=congrArg List.length hd; simp at this; omega
  have hn:l.drop (i + 1)=rest:=by have:=congrArg List.tail hd; simpa [List.tail_drop] using this
  have he:(l.map encI)[i]? = some (encI a):=by
   have:l[i]? = some a:=by have:=congrArg List.head? hd; simpa [List.head?_drop] using this
   simp [this]
  have ha:=hr a (by simp)
  have hr':I64s rest:=fun b hb=>hr b (by simp [hb])
  obtain ⟨a1,a2⟩:=ha
  have hP:=jap z a 1 (by constructor <;> omega) ⟨a1,a2⟩ (by constructor <;> omega) (by constructor <;> omega)
  rw [Int.mul_one] at hP
  have e:z + totI (a::rest)=z + a + totI rest:=by simp only [totI]; omega
  rw [e] at hx
  rw [← ja t7,← ja t8,← ja t9,← ja t4,← jc b4]
  unfold b154_0
  repeat' (first | refine call3 rfl rfl rfl hP ?_ | refine st4 ?_ | intro u)
  exact ih (i + 1) (z + a) _ hn (by omega) hr' (by omega) (by omega) (by rfl) (by rfl) (by rfl) (by rfl) (by rfl) hx
def totB (l:List Int):CV:=if I64 (totI l) then .tup [.int .i64 (totI l),.bool true] else .tup [.int .i64 0,.bool false]
theorem jif (l:List Int) (hlen:l.length < 1000000000) (hr:I64s l):CP 154 [.c (encIL l)] (.c (totB l)) []:=by
 refine pcallF Tryz.func154 c154 rfl ?_
 unfold p154
 repeat' (first | refine st4 ?_ | intro u)
 refine jaq l _ hlen l 0 0 _ rfl (by omega) hr (by omega) (by omega) (by rfl) (by rfl) (by rfl) (by rfl) (by rfl) ?_
 intro s' t4 b4 hW
 rw [Int.zero_add] at b4 hW
 have hI:=jkl _ hW
 rw [← ja t4,← jc b4]
 by_cases h:I64 (totI l)
 ·rw [if_pos h] at hI
  repeat' (first | refine call1 rfl hI ?_ | refine st5 ?_ | intro u)
  exact jd rfl (by simp [km,totB,h])
 ·rw [if_neg h] at hI
  repeat' (first | refine call1 rfl hI ?_ | refine st5 ?_ | intro u)
  exact jd rfl (by simp [km,totB,h])
end Go.Proofs.YtnpncbplhdnonaaGreat
namespace Go.Proofs.YtnpncbplhdnonaaGreat
open Go.Pl Go.Bag
set_option maxRecDepth 100000
set_option maxHeartbeats 4000000
theorem Zr {i d ver n:Nat} {sz:Nat} {es zs:List (List CV)} {s:PS} (h:s.t i=.osl d ver 0 n) (hb:s.bx d=⟨ver,.sl sz zs⟩) (hz:zs=es) (hn:n=zs.length):FinK [.t i] (.own sz es) .r s:=by
 subst hz; exact Wn h hb hn
theorem jfr (k:List Run) (r q:Run):(encE (k++[r])).set k.length (encR q)=encE (k++[q]):=by
 simp [encE,List.set_append]
theorem jls (l:List Run) (v n:Int) (hlen:l.length < 1000000000) (hb:∀ r∈l,-9223372036854775808≤r.2 + n∧r.2 + n≤9223372036854775807) :
  CP 153 [.own 2 (encE l),.c (.int .i64 v),.c (.int .i64 n)] (.own 2 (encE (moreL l v n))) []:=by
 refine pcallF Tryz.func153 c153 rfl ?_
 unfold p153
 rcases kn l with rfl | ⟨k,r,rfl⟩
 ·have hg:(encE []).length=0:=rfl
  have hm:([]:List (List CV)).length + [[CV.int .i64 v,.int .i64 n]].length≤maxGrow:=by simp [maxGrow]
  repeat' (first | refine st9 ?_ | intro u)
  exact Wn rfl rfl rfl
 ·have hr:=hb r (by simp)
  have hk:(encE (k++[r])).length=k.length + 1:=by simp [encE]
  have hk9:k.length < 1000000000:=by simp only [List.length_append,List.length_cons,List.length_nil] at hlen; omega
  have hn:(((k.length + 1:Nat):Int) - 1).toNat=k.length:=by omega
  have hget:(encE (k++[r]))[(((encE (k++[r])).length:Int) - 1).toNat]? = some (encR r):=by rw [hk,hn]; simp [encE]
  have hgrow:(encE (k++[r])).length + [[CV.int .i64 v,.int .i64 n]].length≤maxGrow:=by
   rw [hk]; simp [maxGrow] at *; omega
  by_cases hv:r.1=v
  ·subst hv
   rw [vv]
   repeat' (first | refine st9 ?_ | intro u)
   refine Zr rfl rfl ?_ ?_
   ·rw [← jfr k r (r.1,r.2 + n),hk,hn]
    rfl
   ·rw [List.length_set]
  ·rw [vw k r v n hv]
   repeat' (first | refine st9 ?_ | intro u)
   refine Zr rfl rfl ?_ ?_
   ·simp [encE]; rfl
   ·rfl
set_option maxRecDepth 100000
set_option maxHeartbeats 8000000
set_option maxRecDepth 100000
set_option maxHeartbeats 4000000
theorem jdo {C:CallP} {K:KT} (l:List Run) (hlen:l.length < 4611686018427387904):∀ (rest:List Run) (i:Nat) (sum:Int) (p:Option Int) (s:PS),l.drop i=rest→i≤l.length→0≤sum→sum≤1099511627776 →
  (i=0→p=none)→(0 < i→∃ q,(l.map encR)[((i:Int) - 1).toNat]? = some (encR q)∧p=some q.1) →
  s.t 0=.c (encL l)→s.t 6=.c (encL l)→s.t 7=.c (.int .i64 l.length)→s.t 8=.c (.int .i64 i)→s.t 3=.c (.int .i64 sum) →
  (goodFrom p sum rest=true→∀ s',K (.x 0) s')→(goodFrom p sum rest=false→∀ s',s'.t 2=.c (.bool false)→K .r s')→wP C (.loop b140_0) s K:=by
 intro rest
 induction rest with
 | nil =>
  intro i sum p s hd hi h0 h1 hp0 hp1 t0 t6 t7 t8 t3 hx hr
  refine jf ?_
  have:=vi hd hi
  subst this
  rw [← ja t7,← ja t8]
  unfold b140_0
  repeat' (first  | refine jK ?_ | refine jN ?_ | refine jE ?_ | refine ko ?_ | refine jc7 ?_ | refine VE ?_ | refine jD rfl ?_ | refine vn rfl rfl (by omega) ?_)
  exact hx rfl _
 | cons r rest ih =>
  intro i sum p s hd hi h0 h1 hp0 hp1 t0 t6 t7 t8 t3 hx hr
  refine jf ?_
  have he:=kP hd
  have hl:=vh hd
  have hn:=kz hd
  rw [← ja t0,← ja t6,← ja t7,← ja t8,← ja t3]
  unfold b140_0
  have next:∀ s'',(p.any (fun a=>decide (r.1≤a))=false)→1≤r.2→r.2≤1099511627776 - sum→s''.t 0=.c (encL l)→s''.t 6=.c (encL l)→s''.t 7=.c (.int .i64 l.length)→s''.t 8=.c (.int .i64 (i + 1))→s''.t 3=.c (.int .i64 (sum + r.2))→wP C (.loop b140_0) s'' K:=by
   intro s'' g1 g2 g3 u0 u6 u7 u8 u3
   have e:goodFrom p sum (r::rest)=goodFrom (some r.1) (sum + r.2) rest:=by
    have:¬ r.2 < 1:=by omega
    have:¬ cap - sum < r.2:=by unfold cap; omega
    simp [goodFrom, *]
   rw [e] at hx hr
   refine ih (i + 1) (sum + r.2) (some r.1) s'' hn (by omega) (by omega) (by omega) (by omega) (fun _=>⟨r,?_,rfl⟩) u0 u6 u7 u8 u3 hx hr
   have:(((i + 1:Nat):Int) - 1).toNat=i:=by omega
   rw [this]; exact he
  have bad:∀ s'',(p.any (fun a=>decide (r.1≤a))=true∨r.2 < 1∨1099511627776 - sum < r.2)→s''.t 2=.c (.bool false)→K .r s'':=by
   intro s'' g u2
   refine hr ?_ s'' u2
   rcases g with g | g | g
   ·simp [goodFrom,g]
   ·simp [goodFrom,g]
   ·have:cap - sum < r.2:=g
    simp [goodFrom,this]
  rcases Nat.eq_zero_or_pos i with hz | hz
  ·have hp:=hp0 hz
   repeat' (first | refine st4 ?_ | refine ⟨fun hc=>?_,fun hc=>?_⟩ | intro u)
   all_goals (first | exact next _ (by simp [hp]) (by omega) (by omega) rfl rfl rfl rfl rfl | exact bad _ (.inr (by omega)) rfl | exact bad _ (.inl (by simp [hp]; omega)) rfl)
  ·obtain ⟨q,hq,hp⟩:=hp1 hz
   repeat' (first | refine st4 ?_ | refine ⟨fun hc=>?_,fun hc=>?_⟩ | intro u)
   all_goals (first | exact next _ (by simp [hp]; omega) (by omega) (by omega) rfl rfl rfl rfl rfl | exact bad _ (.inr (by omega)) rfl | exact bad _ (.inl (by simp [hp]; omega)) rfl)
theorem VM (l:List Run) (hlen:l.length < 4611686018427387904):CP 140 [.c (encL l)] (.c (.bool (good l))) []:=by
 refine pcallF Tryz.func140 c140 rfl ?_
 have t0:(initPS [.c (encL l)]).t 0=.c (encL l):=rfl
 rw [← ja t0]
 unfold p140
 repeat' (first  | refine jK ?_ | refine jN ?_ | refine jE ?_ | refine ko ?_ | refine jY ?_ | refine kC rfl ?_ | refine je rfl (by first | assumption | exact List.length_map _) ?_)
 refine jdo l hlen l 0 0 none _ rfl (by omega) (by omega) (by omega) (fun _=>rfl) (fun h=>by omega) rfl rfl (by simp [PS.put,encL]) rfl rfl ?_ ?_
 ·intro hg s'
  skip
  repeat' (first | refine st0 ?_ | intro u)
  exact ⟨_,rfl,by unfold good; rw [hg]; rfl⟩
 ·intro hg s' h2
  repeat' (first | refine j8 ?_ | refine kl ?_)
  exact ⟨[.bool false],by simp [rsVals,rs140,rsVal,h2,PS.close],by unfold good; rw [hg]; rfl⟩
set_option maxRecDepth 100000
set_option maxHeartbeats 4000000
theorem jar {C:CallP} {K:KT} (l:List Run) (hlen:l.length < 4611686018427387904):∀ (rest:List Run) (i:Nat) (acc:Int) (s:PS),l.drop i=rest→i≤l.length→pos rest→0≤acc→acc + sum rest≤1099511627776 →
  s.t 6=.c (encL l)→s.t 7=.c (.int .i64 l.length)→s.t 8=.c (.int .i64 i)→s.t 3=.c (.int .i64 acc) →
  (∀ s',s'.t 3=.c (.int .i64 (acc + sum rest))→K (.x 0) s')→wP C (.loop b143_0) s K:=by
 intro rest
 induction rest with
 | nil =>
  intro i acc s hd hi hp h0 h1 t6 t7 t8 t3 hx
  refine jf ?_
  have:=vi hd hi
  subst this
  rw [← ja t7,← ja t8,← ja t3]
  unfold b143_0
  repeat' (first | refine st0 ?_ | intro u)
  exact hx _ (by simp [sum]; rfl)
 | cons r rest ih =>
  intro i acc s hd hi hp h0 h1 t6 t7 t8 t3 hx
  refine jf ?_
  have he:=kP hd
  have hl:=vh hd
  have hn:=kz hd
  have hr:=hp r (by simp)
  have hp':pos rest:=fun q hq=>hp q (by simp [hq])
  have hs:=js hp'
  have e:acc + sum (r::rest)=acc + r.2 + sum rest:=by simp only [sum]; omega
  rw [e] at h1 hx
  rw [← ja t6,← ja t7,← ja t8,← ja t3]
  unfold b143_0
  repeat' (first | refine st4 ?_ | intro u)
  exact ih (i + 1) (acc + r.2) _ hn (by omega) hp' (by omega) (by omega) rfl rfl rfl rfl hx
theorem YG (l:List Run) (hlen:l.length < 4611686018427387904) (hp:pos l) (hs:sum l≤1099511627776):CP 143 [.c (encL l)] (.c (.int .i64 (sum l))) []:=by
 refine pcallF Tryz.func143 c143 rfl ?_
 unfold p143
 repeat' (first | refine st0 ?_ | intro u)
 refine jar l hlen l 0 0 _ rfl (by omega) hp (by omega) (by omega) rfl rfl rfl rfl (fun s' h3=>?_)
 rw [← ja h3]
 repeat' (first | refine st0 ?_ | intro u)
 exact jd rfl (by simp [km])
theorem jb3 (l:List Run) (hlen:l.length < 4611686018427387904):CP 103 [.c (encL l)] (.c (.int .i64 (if good l then sum l else 0))) []:=by
 refine pcallF Tryz.func103 c103 rfl ?_
 unfold p103
 by_cases hg:good l=true
 ·obtain ⟨hp,hs⟩:=kY hg
  have hC:=VM l hlen
  rw [hg] at hC
  repeat' (first | refine call1 rfl hC ?_ | refine call1 rfl (YG l hlen hp hs) ?_ | refine st2 ?_ | intro u)
  exact jd rfl (by simp [km,hg])
 ·simp only [Bool.not_eq_true] at hg
  have hC:=VM l hlen
  rw [hg] at hC
  repeat' (first | refine call1 rfl hC ?_ | refine st2 ?_ | intro u)
  exact jd rfl (by simp [km,hg])
set_option maxRecDepth 100000
set_option maxHeartbeats 4000000
theorem jdp {K:KT} (l o:List Run) (hlen:l.length < 4611686018427387904) (v4 v5:Nat) (c4:List CV):∀ (rest:List Run) (i:Nat) (z:Int) (s:PS),l.drop i=rest→i≤l.length→pos rest→ranged rest →
  -(9223372036854775808 * (2199023255552 - sum rest))≤z→z≤9223372036854775808 * (2199023255552 - sum rest)→sum rest≤2199023255552 →
  s.t 10=.c (encL l)→s.t 11=.c (.int .i64 l.length)→s.t 12=.c (.int .i64 i)→s.t 1=.c (encL o)→s.t 4=.ptr 4 v4 0→s.bx 4=⟨v4,.var c4⟩→s.t 5=.ptr 5 v5 0→s.bx 5=⟨v5,.var (cellsW z)⟩ →
  (∀ s',s'.t 1=.c (encL o)→s'.t 4=.ptr 4 v4 0→s'.bx 4=⟨v4,.var c4⟩→s'.t 5=.ptr 5 v5 0→s'.bx 5=⟨v5,.var (cellsW (z + wsum rest))⟩→K (.x 0) s')→wP (CP) (.loop b141_0) s K:=by
 intro rest
 induction rest with
 | nil =>
  intro i z s hd hi hp hr h0 h1 h2 t10 t11 t12 t1 t4 b4 t5 b5 hx
  refine jf ?_
  have:=vi hd hi
  subst this
  rw [← ja t11,← ja t12,← ja t1,← ja t4,← ja t5,← jc b4,← jc b5]
  unfold b141_0
  repeat' (first | refine st0 ?_ | intro u)
  exact hx _ rfl rfl rfl rfl (by simp only [wsum,Int.add_zero]; rfl)
 | cons r rest ih =>
  intro i z s hd hi hp hr h0 h1 h2 t10 t11 t12 t1 t4 b4 t5 b5 hx
  refine jf ?_
  have he:=kP hd
  have hl:=vh hd
  have hn:=kz hd
  have hr1:=hp r (by simp)
  have hp':pos rest:=fun q hq=>hp q (by simp [hq])
  have hr':ranged rest:=fun q hq=>hr q (by simp [hq])
  have hs:=js hp'
  have hrr:=hr r (by simp)
  have hm:=Jz hrr.1 (show 0≤r.2 by omega)
  have e:z + wsum (r::rest)=z + r.1 * r.2 + wsum rest:=by simp only [wsum]; omega
  have es:sum (r::rest)=r.2 + sum rest:=rfl
  rw [e] at hx
  rw [es] at h0 h1 h2
  have hP:=jap z r.1 r.2 (by constructor <;> omega) hrr.1 hrr.2 (by constructor <;> omega)
  rw [← ja t10,← ja t11,← ja t12,← ja t1,← ja t4,← ja t5,← jc b4,← jc b5]
  unfold b141_0
  repeat' (first | refine call3 rfl rfl rfl hP ?_ | refine st4 ?_ | intro u)
  exact ih (i + 1) (z + r.1 * r.2) _ hn (by omega) hp' hr' (by omega) (by omega) (by omega) rfl rfl rfl rfl rfl rfl rfl rfl hx
theorem jas {K:KT} (l:List Run) (hlen:l.length < 4611686018427387904) (v4 v5:Nat) (c4:List CV):∀ (rest:List Run) (i:Nat) (z:Int) (s:PS),l.drop i=rest→i≤l.length→pos rest→ranged rest →
  -(9223372036854775808 * (4398046511104 - sum rest))≤z→z≤9223372036854775808 * (4398046511104 - sum rest)→sum rest≤4398046511104 →
  s.t 23=.c (encL l)→s.t 24=.c (.int .i64 l.length)→s.t 25=.c (.int .i64 i)→s.t 4=.ptr 4 v4 0→s.bx 4=⟨v4,.var c4⟩→s.t 5=.ptr 5 v5 0→s.bx 5=⟨v5,.var (cellsW z)⟩ →
  (∀ s',s'.t 4=.ptr 4 v4 0→s'.bx 4=⟨v4,.var c4⟩→s'.t 5=.ptr 5 v5 0→s'.bx 5=⟨v5,.var (cellsW (z - wsum rest))⟩→K (.x 2) s')→wP (CP) (.loop b141_1) s K:=by
 intro rest
 induction rest with
 | nil =>
  intro i z s hd hi hp hr h0 h1 h2 t10 t11 t12 t4 b4 t5 b5 hx
  refine jf ?_
  have:=vi hd hi
  subst this
  rw [← ja t11,← ja t12,← ja t4,← ja t5,← jc b4,← jc b5]
  unfold b141_1
  repeat' (first | refine st0 ?_ | intro u)
  exact hx _ rfl rfl rfl (by simp only [wsum,Int.sub_zero]; rfl)
 | cons r rest ih =>
  intro i z s hd hi hp hr h0 h1 h2 t10 t11 t12 t4 b4 t5 b5 hx
  refine jf ?_
  have he:=kP hd
  have hl:=vh hd
  have hn:=kz hd
  have hr1:=hp r (by simp)
  have hp':pos rest:=fun q hq=>hp q (by simp [hq])
  have hr':ranged rest:=fun q hq=>hr q (by simp [hq])
  have hs:=js hp'
  have hrr:=hr r (by simp)
  have hm:=Jz hrr.1 (show 0≤r.2 by omega)
  have e:z - wsum (r::rest)=z + r.1 * -r.2 - wsum rest:=by simp only [wsum,Int.mul_neg]; omega
  have es:sum (r::rest)=r.2 + sum rest:=rfl
  rw [e] at hx
  rw [es] at h0 h1 h2
  have hmn:r.1 * -r.2=-(r.1 * r.2):=Int.mul_neg _ _
  have hP:=jap z r.1 (-r.2) (by constructor <;> omega) hrr.1 (by constructor <;> omega) (by constructor <;> omega)
  rw [← ja t10,← ja t11,← ja t12,← ja t4,← ja t5,← jc b4,← jc b5]
  unfold b141_1
  repeat' (first | refine call3 rfl rfl rfl hP ?_ | refine st4 ?_ | intro u)
  exact ih (i + 1) (z + r.1 * -r.2) _ hn (by omega) hp' hr' (by omega) (by omega) (by omega) rfl rfl rfl rfl rfl rfl rfl hx
theorem jlt (l o:List Run) (hlen:l.length < 4611686018427387904) (holen:o.length < 4611686018427387904) (hp:pos l) (hr:ranged l) (hs:sum l≤1099511627776) (hpo:pos o) (hro:ranged o) (hso:sum o≤1099511627776) :
  CP 141 [.c (encL l),.c (encL o)] (.c (encW (wsum l - wsum o))) []:=by
 have hn:=js hp
 have hno:=js hpo
 have hb:=JU hp hr
 refine pcallF Tryz.func141 c141 rfl ?_
 unfold p141
 repeat' (first | refine st4 ?_ | intro u)
 refine jdp l o hlen _ _ _ l 0 0 _ rfl (by omega) hp hr (by omega) (by omega) (by omega) rfl rfl rfl rfl rfl rfl rfl rfl ?_
 intro s' t1 t4 b4 t5 b5
 rw [← ja t1,← ja t4,← ja t5,← jc b4,← jc b5]
 repeat' (first | refine st0 ?_ | intro u)
 refine jas o holen _ _ _ o 0 (0 + wsum l) _ rfl (by omega) hpo hro (by omega) (by omega) (by omega) rfl rfl rfl rfl rfl rfl rfl ?_
 intro s' t4 b4 t5 b5
 rw [← ja t4,← ja t5,← jc b4,← jc b5]
 repeat' (first | refine st0 ?_ | intro u)
 refine jd (jh rfl rfl rfl rfl jk) ?_
 rw [Int.zero_add]
 rfl
set_option maxRecDepth 100000
set_option maxHeartbeats 4000000
def sumB (l:List Run):Int × Bool:=if good l=true∧I64 (wsum l) then (wsum l,true) else (0,false)
def tupI (p:Int × Bool):CV:=.tup [.int .i64 p.1,.bool p.2]
theorem jkm (l:List Run) (hlen:l.length < 4611686018427387904) (hr:ranged l):CP 102 [.c (encL l)] (.c (tupI (sumB l))) []:=by
 refine pcallF Tryz.func102 c102 rfl ?_
 unfold p102
 have hC:=VM l hlen
 cases hg:good l with
 | false =>
  rw [hg] at hC
  repeat' (first | refine call1 rfl hC ?_ | refine st2 ?_ | intro u)
  exact jd rfl (by simp [km,tupI,sumB,hg])
 | true =>
  rw [hg] at hC
  obtain ⟨hp,hs⟩:=kY hg
  have hs':sum l≤1099511627776:=hs
  have hn:=js hp
  have hb:=JU hp hr
  have hP:=jlt l [] hlen (by simp) hp hr hs' (fun q hq=>by simp at hq) (fun q hq=>by simp at hq) (by simp [sum])
  have e:wsum l - wsum []=wsum l:=by simp [wsum]
  rw [e] at hP
  have hI:=jkl (wsum l) (by constructor <;> omega)
  by_cases h:I64 (wsum l)
  ·rw [if_pos h] at hI
   repeat' (first | refine call1 rfl hC ?_ | refine call2 rfl rfl hP ?_ | refine call1 rfl hI ?_ | refine st3 ?_ | intro u)
   exact jd rfl (by simp [km,tupI,sumB,hg,h])
  ·rw [if_neg h] at hI
   repeat' (first | refine call1 rfl hC ?_ | refine call2 rfl rfl hP ?_ | refine call1 rfl hI ?_ | refine st3 ?_ | intro u)
   exact jd rfl (by simp [km,tupI,sumB,h])
set_option maxRecDepth 100000
set_option maxHeartbeats 4000000
theorem Vl {C:CallP} {l:List POp} {s:PS} {K:PS→Prop} {d sz:Nat} {x:PO} {e:List CV} {es:List (List CV)} (hx:s.ev x=.c (.sl (e::es))) (hw:∀ q∈e::es,q.length=sz)
  (h:wL C l (s.put d (.c (.sl es))) K):wL C (⟨some d,.slc sz x (some (.k (.int .i64 1))) none,none⟩::l) s K :=
 jew hx rfl rfl ⟨Nat.le_add_left _ _,Nat.le_refl _⟩ hw (by
  show ((e::es).take (e::es).length).drop 1=es
  simp) h
theorem jdq {K:KT} (v2 v3:Nat):∀ (m:Nat) (out a b:List Run) (s:PS),a.length + b.length=m→out.length + m < 1000000000→pos out→pos a→pos b→sum out + sum a + sum b≤4398046511104 →
  s.t 2=.ptr 2 v2 0→s.bx 2=⟨v2,.var [encL a]⟩→s.t 3=.ptr 3 v3 0→s.bx 3=⟨v3,.var [encL b]⟩→s.t 6=.osl 6 (s.bx 6).ver 0 (encE out).length→s.bx 6=⟨(s.bx 6).ver,.sl 2 (encE out)⟩ →
  (∀ s' v,s'.t 6=.osl 6 v 0 (encE (merge out a b)).length→s'.bx 6=⟨v,.sl 2 (encE (merge out a b))⟩→K (.x 0) s')→wP (CP) (.loop b129_0) s K:=by
 intro m
 induction m with
 | zero =>
  intro out a b s hm hl po pa pb hs t2 b2 t3 b3 t6 b6 hx
  generalize (s.bx 6).ver=v6 at t6 b6
  obtain rfl:a=[]:=List.eq_nil_of_length_eq_zero (by omega)
  obtain rfl:b=[]:=List.eq_nil_of_length_eq_zero (by omega)
  refine jf ?_
  rw [← ja t2,← ja t3,← ja t6,← jc b2,← jc b3,← jc b6]
  unfold b129_0
  repeat' (first | refine st8 ?_ | intro u)
  exact hx _ _ (by simp only [merge]; rfl) (by simp only [merge]; rfl)
 | succ m ih =>
  intro out a b s hm hl po pa pb hs t2 b2 t3 b3 t6 b6 hx
  generalize (s.bx 6).ver=v6 at t6 b6
  have ho:=js po
  have ha:=js pa
  have hb:=js pb
  have fa:∀ (r:Run) (a':List Run),a=r::a'→1≤r.2∧pos a'∧sum a=r.2 + sum a'∧0≤sum a':=fun r a' e=>by
   subst e; exact ⟨pa r (by simp),fun q hq=>pa q (by simp [hq]),rfl,js fun q hq=>pa q (by simp [hq])⟩
  have fb:∀ (r:Run) (b':List Run),b=r::b'→1≤r.2∧pos b'∧sum b=r.2 + sum b'∧0≤sum b':=fun r a' e=>by
   subst e; exact ⟨pb r (by simp),fun q hq=>pb q (by simp [hq]),rfl,js fun q hq=>pb q (by simp [hq])⟩
  have hM:∀ (r:Run),1≤r.2→r.2≤4398046511104→CP 153 [.own 2 (encE out),.c (.int .i64 r.1),.c (.int .i64 r.2)] (.own 2 (encE (moreL out r.1 r.2))) []:=fun r h1 h2 =>
   jls out r.1 r.2 (by omega) fun q hq=>by have:=Ji po q hq; omega
  refine jf ?_
  rw [← ja t2,← ja t3,← ja t6,← jc b2,← jc b3,← jc b6]
  unfold b129_0
  match a,b,hm with
  | [],s::b',hm =>
   obtain ⟨f1,f2,f3,f4⟩:=fb s b' rfl
   have hc:=hM s f1 (by omega)
   have h0:((s::b').map encR)[(0:Int).toNat]? = some (encR s):=rfl
   have hp:0 < (s::b').length:=by simp
   have e:merge out [] (s::b')=merge (moreL out s.1 s.2) [] b':=by simp only [merge]
   rw [e] at hx
   repeat' (first | refine je (es:=([]:List Run).map encR) rfl rfl ?_ | refine callO2 rfl rfl rfl rfl rfl hc rfl (fun _ _=>?_) | refine Vl (es:=b'.map encR) rfl (Vh (s::b')) ?_ | refine st8 ?_ | intro u)
   exact ih (moreL out s.1 s.2) [] b' _ (by simpa using hm) (by have:=jW out s.1 s.2; omega) (kE po f1) pa f2 (by rw [kD]; omega) (by rfl) (by rfl) (by rfl) (by rfl) (by rfl) (by rfl) hx
  | r::a',[],hm =>
   obtain ⟨f1,f2,f3,f4⟩:=fa r a' rfl
   have hc:=hM r f1 (by omega)
   have h0:((r::a').map encR)[(0:Int).toNat]? = some (encR r):=rfl
   have hp:0 < (r::a').length:=by simp
   have e:merge out (r::a') []=merge (moreL out r.1 r.2) a' []:=by simp only [merge]
   rw [e] at hx
   repeat' (first | refine je (es:=([]:List Run).map encR) rfl rfl ?_ | refine callO2 rfl rfl rfl rfl rfl hc rfl (fun _ _=>?_) | refine Vl (es:=a'.map encR) rfl (Vh (r::a')) ?_ | refine st8 ?_ | intro u)
   exact ih (moreL out r.1 r.2) a' [] _ (by simpa using hm) (by have:=jW out r.1 r.2; omega) (kE po f1) f2 pb (by rw [kD]; omega) (by rfl) (by rfl) (by rfl) (by rfl) (by rfl) (by rfl) hx
  | r::a',s::b',hm =>
   obtain ⟨f1,f2,f3,f4⟩:=fa r a' rfl
   obtain ⟨g1,g2,g3,g4⟩:=fb s b' rfl
   have hc:=hM r f1 (by omega)
   have hd:=hM s g1 (by omega)
   have h0:((r::a').map encR)[(0:Int).toNat]? = some (encR r):=rfl
   have h1:((s::b').map encR)[(0:Int).toNat]? = some (encR s):=rfl
   have hp:0 < (r::a').length:=by simp
   have hq:0 < (s::b').length:=by simp
   by_cases hlt:s.1 < r.1
   ·have e:merge out (r::a') (s::b')=merge (moreL out s.1 s.2) (r::a') b':=by rw [merge]; simp [hlt]
    rw [e] at hx
    repeat' (first | refine callO2 rfl rfl rfl rfl rfl hd rfl (fun _ _=>?_) | refine Vl (es:=b'.map encR) rfl (Vh (s::b')) ?_ | refine st8 ?_ | intro u)
    exact ih (moreL out s.1 s.2) (r::a') b' _ (by simp at hm ⊢; omega) (by have:=jW out s.1 s.2; omega) (kE po g1) pa g2 (by rw [kD]; omega) (by rfl) (by rfl) (by rfl) (by rfl) (by rfl) (by rfl) hx
   ·have e:merge out (r::a') (s::b')=merge (moreL out r.1 r.2) a' (s::b'):=by rw [merge]; simp [hlt]
    rw [e] at hx
    repeat' (first | refine callO2 rfl rfl rfl rfl rfl hc rfl (fun _ _=>?_) | refine Vl (es:=a'.map encR) rfl (Vh (r::a')) ?_ | refine st8 ?_ | intro u)
    exact ih (moreL out r.1 r.2) a' (s::b') _ (by simp at hm ⊢; omega) (by have:=jW out r.1 r.2; omega) (kE po f1) f2 pb (by rw [kD]; omega) (by rfl) (by rfl) (by rfl) (by rfl) (by rfl) (by rfl) hx
theorem jfs (a b:List Run) (ha:a.length < 400000000) (hb:b.length < 400000000):CP 129 [.c (encL a),.c (encL b)] (.c (.tup [encL (join a b).1,.bool (join a b).2])) []:=by
 refine pcallF Tryz.func129 c129 rfl ?_
 unfold p129
 have hA:=VM a (by omega)
 have hB:=VM b (by omega)
 cases ga:good a with
 | false =>
  rw [ga] at hA
  repeat' (first | refine kw rfl (cs:=[encL a]) rfl rfl (fun _=>?_) | refine kw rfl (cs:=[encL b]) rfl rfl (fun _=>?_) | refine call1 rfl hA ?_ | refine st2 ?_ | intro u)
  exact jd rfl (by simp [km,join,ga,encL])
 | true =>
  rw [ga] at hA
  obtain ⟨pa,sa⟩:=kY ga
  have na:=js pa
  cases gb:good b with
  | false =>
   rw [gb] at hB
   repeat' (first | refine kw rfl (cs:=[encL a]) rfl rfl (fun _=>?_) | refine kw rfl (cs:=[encL b]) rfl rfl (fun _=>?_) | refine call1 rfl hA ?_ | refine call1 rfl hB ?_ | refine st2 ?_ | intro u)
   exact jd rfl (by simp [km,join,gb,encL])
  | true =>
   rw [gb] at hB
   obtain ⟨pb,sb⟩:=kY gb
   have nb:=js pb
   have hSa:=YG a (by omega) pa sa
   have hSb:=YG b (by omega) pb sb
   have sa':sum a≤1099511627776:=sa
   have sb':sum b≤1099511627776:=sb
   by_cases hle:sum a≤1099511627776 - sum b
   ·repeat' (first | refine kw rfl (cs:=[encL a]) rfl rfl (fun _=>?_) | refine kw rfl (cs:=[encL b]) rfl rfl (fun _=>?_) | refine call1 rfl hA ?_ | refine call1 rfl hB ?_ | refine call1 rfl hSa ?_ | refine call1 rfl hSb ?_ | refine st7 ?_ | intro u)
    refine jdq _ _ _ [] a b _ rfl (by simp; omega) (fun q hq=>by simp at hq) pa pb (by simp [sum]; omega) rfl rfl rfl rfl rfl rfl ?_
    intro s' v t6 b6
    rw [← ja t6,← jc b6]
    repeat' (first | refine st5 ?_ | intro u)
    refine jd (JT rfl rfl rfl (Jf rfl jk)) ?_
    simp [km,join,ga,gb,hle,encL,encE]
   ·repeat' (first | refine kw rfl (cs:=[encL a]) rfl rfl (fun _=>?_) | refine kw rfl (cs:=[encL b]) rfl rfl (fun _=>?_) | refine call1 rfl hA ?_ | refine call1 rfl hB ?_ | refine call1 rfl hSa ?_ | refine call1 rfl hSb ?_ | refine st2 ?_ | intro u)
    exact jd rfl (by simp [km,join,hle,encL])
set_option maxRecDepth 100000
set_option maxHeartbeats 4000000
set_option maxRecDepth 100000
set_option maxHeartbeats 4000000
def endB (l:List Run) (last:Bool):Int × Bool :=
 if good l then (match (if last then l.getLast? else l.head?) with | some r=>(r.1,true) | none=>(0,false)) else (0,false)
def tup2 (p:Int × Bool):CV:=.tup [.int .i64 p.1,.bool p.2]
theorem jkn (l:List Run) (last:Bool) (hlen:l.length < 4611686018427387904):CP 136 [.c (encL l),.c (.bool last)] (.c (tup2 (endB l last))) []:=by
 refine pcallF Tryz.func136 c136 rfl ?_
 unfold p136
 have hC:=VM l hlen
 cases hg:good l with
 | false =>
  rw [hg] at hC
  repeat' (first | refine call1 rfl hC ?_ | refine st2 ?_ | intro u)
  exact jd rfl (by simp [km,tup2,endB,hg])
 | true =>
  rw [hg] at hC
  cases l with
  | nil =>
   repeat' (first | refine call1 rfl hC ?_ | refine st8 ?_ | intro u)
   exact jd rfl (by cases last <;> simp [km,tup2,endB,hg])
  | cons r l =>
   have h0:((r::l).map encR)[(0:Int).toNat]? = some (encR r):=rfl
   have h1:((r::l).map encR)[((r::l).length - 1:Int).toNat]? = some (encR ((r::l).getLast (by simp))):=by
    have:((r::l).length - 1:Int).toNat=l.length:=by simp
    rw [this,List.getElem?_map,List.getLast_eq_getElem]
    simp
   have hm:((r::l).map encR).length=(r::l).length:=List.length_map _
   have hp:0 < (r::l).length:=by simp
   cases last with
   | true =>
    repeat' (first | refine call1 rfl hC ?_ | refine st8 ?_ | intro u)
    exact jd rfl (by simp [km,tup2,endB,hg,List.getLast?_eq_some_getLast]; rfl)
   | false =>
    repeat' (first | refine call1 rfl hC ?_ | refine st8 ?_ | intro u)
    exact jd rfl (by simp [km,tup2,endB,hg]; rfl)
theorem jb4 (l:List Run) (hlen:l.length < 4611686018427387904):CP 97 [.c (encL l)] (.c (tup2 (endB l false))) []:=by
 refine pcallF Tryz.func97 c97 rfl ?_
 unfold p97
 repeat' (first | refine call2 rfl rfl (jkn l false hlen) ?_ | refine st3 ?_ | intro u)
 exact jd rfl rfl
theorem WX (l:List Run) (hlen:l.length < 4611686018427387904):CP 98 [.c (encL l)] (.c (tup2 (endB l true))) []:=by
 refine pcallF Tryz.func98 c98 rfl ?_
 unfold p98
 repeat' (first | refine call2 rfl rfl (jkn l true hlen) ?_ | refine st3 ?_ | intro u)
 exact jd rfl rfl
set_option maxRecDepth 100000
set_option maxHeartbeats 8000000
set_option maxRecDepth 100000
set_option maxHeartbeats 8000000
set_option maxRecDepth 100000
set_option maxHeartbeats 8000000
theorem jI {c:CV} (h:LF.Ok (.int .i64) c):∃ a,c=.int .i64 a∧I64 a:=by
 cases h with
 | int _ a hw=>exact ⟨a,rfl,by simpa [Lit.wf,IntKind.min,IntKind.max,IntKind.signed,IntKind.bits,I64] using hw⟩
set_option maxRecDepth 100000
theorem jdr:∀ (m:Nat) (out a b:List Run),a.length + b.length=m→(merge out a b).length≤out.length + m:=by
 intro m
 induction m with
 | zero=>intro out a b hm; obtain rfl:a=[]:=List.eq_nil_of_length_eq_zero (by omega); obtain rfl:b=[]:=List.eq_nil_of_length_eq_zero (by omega); simp [merge]
 | succ m ih =>
  intro out a b hm
  match a,b,hm with
  | [],s::b,hm=>rw [show merge out [] (s::b)=merge (moreL out s.1 s.2) [] b by simp only [merge]]; have:=ih (moreL out s.1 s.2) [] b (by simpa using hm); have:=jW out s.1 s.2; omega
  | r::a,[],hm=>rw [show merge out (r::a) []=merge (moreL out r.1 r.2) a [] by simp only [merge]]; have:=ih (moreL out r.1 r.2) a [] (by simpa using hm); have:=jW out r.1 r.2; omega
  | r::a,s::b,hm =>
   rw [merge]
   split
   ·have:=ih (moreL out s.1 s.2) (r::a) b (by simp at hm ⊢; omega); have:=jW out s.1 s.2; omega
   ·have:=ih (moreL out r.1 r.2) a (s::b) (by simp at hm ⊢; omega); have:=jW out r.1 r.2; omega
theorem Zs (a b:List Run):(join a b).1.length≤a.length + b.length:=by
 unfold join
 split
 ·have:=jdr _ [] a b rfl; simpa using this
 ·simp
theorem jo {α:Type} {l:List α} {i:Nat} {a:α} {rest:List α} (hd:l.drop i=a::rest):i < l.length:=by
 have:=congrArg List.length hd; simp at this; omega
theorem jb5 {c:CV} (h:LF.Ok (.sl [.int .i64,.int .i64]) c):∃ l,c=encL l∧ranged l∧l.length≤9223372036854775807:=by
 cases h with
 | sl _ es hn hl hh =>
  have:∀ e∈es,∃ r:Run,e=encR r∧I64 r.1∧I64 r.2:=fun e he=>by
   have h1:=hl e he
   match e,h1,hh e he with
   | [c,d],_,hh =>
    obtain ⟨a,rfl,ha⟩:=jI (hh 0 (by simp) (by simp))
    obtain ⟨b,rfl,hb⟩:=jI (hh 1 (by simp) (by simp))
    exact ⟨(a,b),rfl,ha,hb⟩
  clear hl hh
  have:∃ l,es=l.map encR∧ranged l:=by
   induction es with
   | nil=>exact ⟨[],rfl,fun a ha=>by simp at ha⟩
   | cons e es ih =>
    obtain ⟨a,rfl,ha⟩:=this e (by simp)
    obtain ⟨l,rfl,hl⟩:=ih (by simp at hn; omega) (fun q hq=>this q (by simp [hq]))
    exact ⟨a::l,rfl,fun b hb=>by
     rcases List.mem_cons.mp hb with rfl | hb
     ·exact ha
     ·exact hl b hb⟩
  obtain ⟨l,rfl,hl⟩:=this
  exact ⟨l,rfl,hl,by simpa [maxLen] using hn⟩
theorem X3 {c:CV} (h:LF.Ok (.int .u8) c):∃ a,c=.int .u8 a∧0≤a∧a≤255:=by
 cases h with
 | int _ a hw=>exact ⟨a,rfl,by simpa [Lit.wf,IntKind.min,IntKind.max,IntKind.signed,IntKind.bits] using hw⟩
end Go.Proofs.YtnpncbplhdnonaaGreat
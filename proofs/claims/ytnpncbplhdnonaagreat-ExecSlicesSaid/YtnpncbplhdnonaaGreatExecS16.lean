/- Part of the proof of ExecTells, ExecAnswers, ExecBest, ExecFirst, ExecLevels, ExecTops, ExecLimits: lemmas. -/
import Derived.Test.YtnpncbplhdnonaaGreatExecS1
import Derived.Shelf.SlIterI.Sorted
import Derived.Shelf.SortM.Plain
import Derived.Shelf.SortM.SortNone
import Derived.Test.YtnpncbplhdnonaaGreatProg
set_option linter.unusedVariables false
set_option linter.unusedSimpArgs false
/-
 BAGS,PLAIN: what the functions of package bag compute,of lists of pairs. No program in sight. My own work.
-/
namespace Go.Bag
open Go.Pl
set_option maxRecDepth 100000
abbrev Run:=Int × Int
def encR (r:Run):List CV:=[.int .i64 r.1,.int .i64 r.2]
def encL (l:List Run):CV:=.sl (l.map encR)
def cap:Int:=1099511627776
def goodFrom:Option Int→Int→List Run→Bool
 | _,_,[]=>true
 | p,s,r::l=>!(p.any (fun a=>decide (r.1≤a))) && !(decide (r.2 < 1)) && !(decide (cap - s < r.2)) && goodFrom (some r.1) (s + r.2) l
def good (l:List Run):Bool:=goodFrom none 0 l
def sum:List Run→Int
 | []=>0
 | r::l=>r.2 + sum l
def pos (l:List Run):Prop:=∀ r∈l,1≤r.2
theorem js:∀ {l:List Run},pos l→0≤sum l
 | [],_=>by simp [sum]
 | r::l,h=>by
  have:=h r (by simp)
  have:=js (l:=l) fun q hq=>h q (by simp [hq])
  simp only [sum]; omega
theorem Jh:∀ {l:List Run} {p:Option Int} {s:Int},s≤cap→goodFrom p s l=true→pos l∧s + sum l≤cap
 | [],_,s,hs,_=>⟨fun r hr=>by simp at hr,by simpa [sum] using hs⟩
 | r::l,p,s,hs,h=>by
  simp only [goodFrom,Bool.and_eq_true,Bool.not_eq_true',decide_eq_false_iff_not] at h
  obtain ⟨⟨⟨_,h1⟩,h2⟩,h3⟩:=h
  obtain ⟨g1,g2⟩:=Jh (by omega) h3
  refine ⟨fun q hq=>?_,by simp only [sum]; omega⟩
  rcases List.mem_cons.mp hq with rfl | hq
  ·omega
  ·exact g1 q hq
theorem kY {l:List Run} (h:good l=true):pos l∧sum l≤cap:=by
 have:=Jh (by decide) h
 exact ⟨this.1,by simpa using this.2⟩
def has (l:List Run) (v:Int):Int:=match l.find? (fun r=>r.1 == v) with | some r=>r.2 | none=>0
theorem Vh (l:List Run):∀ e∈l.map encR,e.length=2:=by
 intro e he
 obtain ⟨r,_,rfl⟩:=List.mem_map.mp he
 rfl
theorem kP {l:List Run} {i:Nat} {r:Run} {rest:List Run} (h:l.drop i=r::rest):(l.map encR)[i]? = some (encR r):=by
 have:l[i]? = some r:=by
  have:=congrArg List.head? h
  simpa [List.head?_drop] using this
 simp [this]
theorem vh {l:List Run} {i:Nat} {r:Run} {rest:List Run} (h:l.drop i=r::rest):i < l.length:=by
 have:=congrArg List.length h
 simp at this
 omega
theorem kz {l:List Run} {i:Nat} {r:Run} {rest:List Run} (h:l.drop i=r::rest):l.drop (i + 1)=rest:=by
 have:=congrArg List.tail h
 simpa [List.tail_drop] using this
theorem vi {l:List Run} {i:Nat} (h:l.drop i=[]) (hi:i≤l.length):i=l.length:=by
 have:=List.drop_eq_nil_iff.mp h
 omega
def wsum:List Run→Int
 | []=>0
 | r::l=>r.1 * r.2 + wsum l
def ranged (l:List Run):Prop:=∀ r∈l,(-9223372036854775808≤r.1∧r.1≤9223372036854775807)∧(-9223372036854775808≤r.2∧r.2≤9223372036854775807)
theorem Jz {a n:Int} (h:-9223372036854775808≤a∧a≤9223372036854775807) (hn:0≤n):-(9223372036854775808 * n)≤a * n∧a * n≤9223372036854775808 * n:=by
 have h1:a * n≤9223372036854775808 * n:=Int.mul_le_mul_of_nonneg_right (by omega) hn
 have h2:(-9223372036854775808) * n≤a * n:=Int.mul_le_mul_of_nonneg_right (by omega) hn
 omega
theorem JU:∀ {l:List Run},pos l→ranged l→-(9223372036854775808 * sum l)≤wsum l∧wsum l≤9223372036854775808 * sum l
 | [],_,_=>by simp [wsum,sum]
 | r::l,h,hr=>by
  have h1:=h r (by simp)
  have h2:=JU (l:=l) (fun q hq=>h q (by simp [hq])) (fun q hq=>hr q (by simp [hq]))
  have h3:=Jz (hr r (by simp)).1 (show 0≤r.2 by omega)
  simp only [wsum,sum]
  omega
end Go.Bag
/-
 BAGS,PLAIN,the second part. My own work.
-/
namespace Go.Bag
open Go.Pl
set_option maxRecDepth 100000
def encE (l:List Run):List (List CV):=l.map encR
def moreL (l:List Run) (v n:Int):List Run :=
 match l.getLast? with
 | some r=>if r.1=v then l.dropLast++[(r.1,r.2 + n)] else l++[(v,n)]
 | none=>[(v,n)]
theorem kZ (v n:Int):moreL [] v n=[(v,n)]:=rfl
theorem vv (l:List Run) (r:Run) (n:Int):moreL (l++[r]) r.1 n=l++[(r.1,r.2 + n)]:=by simp [moreL]
theorem vw (l:List Run) (r:Run) (v n:Int) (h:r.1≠v):moreL (l++[r]) v n=l++[r]++[(v,n)]:=by simp [moreL,h]
theorem kn (l:List Run):l=[]∨∃ k r,l=k++[r]:=by
 rcases List.eq_nil_or_concat l with h | ⟨k,r,h⟩
 ·exact .inl h
 ·exact .inr ⟨k,r,by simpa using h⟩
theorem kf:∀ (l k:List Run),sum (l++k)=sum l + sum k
 | [],k=>by simp [sum]
 | r::l,k=>by simp only [List.cons_append,sum,kf l k]; omega
theorem kD (l:List Run) (v n:Int):sum (moreL l v n)=sum l + n:=by
 rcases kn l with rfl | ⟨k,r,rfl⟩
 ·simp [kZ,sum]
 ·by_cases hv:r.1=v
  ·subst hv; rw [vv,kf,kf]; simp only [sum]; omega
  ·rw [vw _ _ _ _ hv,kf]; simp only [sum]; omega
theorem jW (l:List Run) (v n:Int):(moreL l v n).length≤l.length + 1:=by
 rcases kn l with rfl | ⟨k,r,rfl⟩
 ·simp [kZ]
 ·by_cases hv:r.1=v
  ·subst hv; rw [vv]; simp
  ·rw [vw _ _ _ _ hv]; simp
theorem kE {l:List Run} {v n:Int} (h:pos l) (hn:1≤n):pos (moreL l v n):=by
 rcases kn l with rfl | ⟨k,r,rfl⟩
 ·intro q hq; simp [kZ] at hq; subst hq; exact hn
 ·have hr:=h r (by simp)
  by_cases hv:r.1=v
  ·subst hv; rw [vv]
   intro q hq
   rcases List.mem_append.mp hq with hq | hq
   ·exact h q (by simp [hq])
   ·simp at hq; subst hq; show 1≤r.2 + n; omega
  ·rw [vw _ _ _ _ hv]
   intro q hq
   rcases List.mem_append.mp hq with hq | hq
   ·exact h q hq
   ·simp at hq; subst hq; exact hn
theorem Ji:∀ {l:List Run},pos l→∀ q∈l,1≤q.2∧q.2≤sum l
 | [],_,q,hq=>by simp at hq
 | r::l,h,q,hq=>by
  have hp:pos l:=fun q hq=>h q (by simp [hq])
  have h0:=js hp
  have h1:=h r (by simp)
  rcases List.mem_cons.mp hq with rfl | hq
  ·simp only [sum]; omega
  ·have:=Ji hp q hq
   simp only [sum]; omega
def merge:List Run→List Run→List Run→List Run
 | out,[],[]=>out
 | out,[],s::b=>merge (moreL out s.1 s.2) [] b
 | out,r::a,[]=>merge (moreL out r.1 r.2) a []
 | out,r::a,s::b=>if s.1 < r.1 then merge (moreL out s.1 s.2) (r::a) b else merge (moreL out r.1 r.2) a (s::b)
termination_by _ a b=>a.length + b.length
def join (a b:List Run):List Run × Bool:=if good a=true∧good b=true∧sum a≤1099511627776 - sum b then (merge [] a b,true) else ([],false)
end Go.Bag
/-
 BAGS,PLAIN,the third part: one without the other. My own work.
-/
namespace Go.Bag
open Go.Pl
set_option maxRecDepth 100000
def takeB (r:Run) (b:List Run):Int × List Run :=
 match b with
 | s::b'=>if s.1=r.1 then (r.2 - s.2,b') else (r.2,s::b')
 | []=>(r.2,[])
def minusL:List Run→List Run→List Run→Option (List Run × List Run)
 | out,[],b=>some (out,b)
 | out,r::a,b=>if (takeB r b).1 < 0 then none else minusL (if 0 < (takeB r b).1 then out++[(r.1,(takeB r b).1)] else out) a (takeB r b).2
def minus (a b:List Run):List Run × Bool :=
 if good a=true∧good b=true then (match minusL [] a b with | some (o,[])=>(o,true) | _=>([],false)) else ([],false)
end Go.Bag
/-
 BAGS,PLAIN,the fourth part: the document's laying of a value. My own work.
-/
namespace Go.Bag
open Go.Pl
set_option maxRecDepth 100000
def keepR (x:Run):List Run:=if x.2≠0 then [x] else []
def layB (v n : Int) : Bool → List Run → List Run × Bool
  | d, [] => ([], d)
  | d, x :: l =>
    if d = false ∧ v ≤ x.1 then
      (if v < x.1 then ([(v, n)] ++ (keepR x ++ (layB v n true l).1), (layB v n true l).2)
       else (keepR (x.1, x.2 + n) ++ (layB v n true l).1, (layB v n true l).2))
    else (keepR x ++ (layB v n d l).1, (layB v n d l).2)
def lay (l:List Run) (v n:Int):List Run:=if (layB v n false l).2 then (layB v n false l).1 else (layB v n false l).1++[(v,n)]
end Go.Bag
/-
 BAGS,PLAIN,the fifth part: what the functions compute is true. A bag is told by how often each value is there. My own work.
-/
namespace Go.Bag
open Go.Pl
set_option maxRecDepth 100000
def asc (l:List Run):Prop:=l.Pairwise fun r s=>r.1 < s.1
def cnt:List Run→Int→Int
 | [],_=>0
 | r::l,v=>(if r.1=v then r.2 else 0) + cnt l v
theorem jT:∀ (l k:List Run) (v:Int),cnt (l++k) v=cnt l v + cnt k v
 | [],k,v=>by simp [cnt]
 | r::l,k,v=>by simp only [List.cons_append,cnt,jT l k v]; omega
theorem kv:∀ {l:List Run} {v:Int},(∀ r∈l,r.1≠v)→cnt l v=0
 | [],_,_=>rfl
 | r::l,v,h=>by simp [cnt,h r (by simp),kv (l:=l) (v:=v) fun q hq=>h q (by simp [hq])]
theorem jU:∀ {l:List Run} (v:Int),pos l→0≤cnt l v
 | [],_,_=>by simp [cnt]
 | r::l,v,h=>by
  have:=h r (by simp)
  have:=jU (l:=l) v fun q hq=>h q (by simp [hq])
  simp only [cnt]; split <;> omega
theorem vG:∀ {l:List Run} {r:Run},pos l→r∈l→r.2≤cnt l r.1
 | [],r,_,hr=>by simp at hr
 | q::l,r,h,hr=>by
  have hp:pos l:=fun q hq=>h q (by simp [hq])
  have h1:=h q (by simp)
  rcases List.mem_cons.mp hr with rfl | hr
  ·have:=jU r.1 hp
   simp only [cnt,if_true]; omega
  ·have:=vG hp hr
   simp only [cnt]; split <;> omega
theorem jO {r:Run} {l:List Run}:asc (r::l)↔(∀ q∈l,r.1 < q.1)∧asc l:=by simp [asc]
theorem ext:∀ {a b:List Run},asc a→asc b→pos a→pos b→(∀ v,cnt a v=cnt b v)→a=b
 | [],[],_,_,_,_,_=>rfl
 | [],s::b,_,_,_,hb,h=>by
  have:=vG hb (r:=s) (by simp)
  have h1:=h s.1
  have:=hb s (by simp)
  simp only [cnt] at h1 this
  simp only [cnt] at *
  omega
 | r::a,[],_,_,ha,_,h=>by
  have:=vG ha (r:=r) (by simp)
  have h1:=h r.1
  have:=ha r (by simp)
  simp only [cnt] at *
  omega
 | r::a,s::b,ra,sb,ha,hb,h=>by
  obtain ⟨h1,h2⟩:=jO.mp ra
  obtain ⟨h3,h4⟩:=jO.mp sb
  have pr:=ha r (by simp)
  have ps:=hb s (by simp)
  have pa:pos a:=fun q hq=>ha q (by simp [hq])
  have pb:pos b:=fun q hq=>hb q (by simp [hq])
  have e:r.1=s.1:=by
   rcases Int.lt_trichotomy r.1 s.1 with hlt | he | hlt
   ·have:=h r.1
    have z1:cnt (s::b) r.1=0:=kv fun q hq=>by
     rcases List.mem_cons.mp hq with rfl | hq
     ·omega
     ·have:=h3 q hq; omega
    have:=vG ha (r:=r) (by simp)
    omega
   ·exact he
   ·have:=h s.1
    have z1:cnt (r::a) s.1=0:=kv fun q hq=>by
     rcases List.mem_cons.mp hq with rfl | hq
     ·omega
     ·have:=h1 q hq; omega
    have:=vG hb (r:=s) (by simp)
    omega
  have ea:cnt a r.1=0:=kv fun q hq=>by have:=h1 q hq; omega
  have eb:cnt b s.1=0:=kv fun q hq=>by have:=h3 q hq; omega
  have e2:r.2=s.2:=by
   have:=h r.1
   simp only [cnt,e,if_true] at this
   rw [e] at ea
   omega
  have er:r=s:=Prod.ext e e2
  subst er
  rw [ext (a:=a) (b:=b) h2 h4 pa pb fun v=>by
   have:=h v
   simp only [cnt] at this
   omega]
/-! ### may be -/
theorem Vi:∀ {l:List Run} {p:Option Int} {s:Int},goodFrom p s l=true→asc l∧∀ a,p=some a→∀ r∈l,a < r.1
 | [],p,s,_=>⟨by simp [asc],fun a _ r hr=>by simp at hr⟩
 | r::l,p,s,h=>by
  simp only [goodFrom,Bool.and_eq_true,Bool.not_eq_true',decide_eq_false_iff_not] at h
  obtain ⟨⟨⟨h0,h1⟩,h2⟩,h3⟩:=h
  obtain ⟨g1,g2⟩:=Vi h3
  refine ⟨jO.mpr ⟨g2 r.1 rfl,g1⟩,fun a ha q hq=>?_⟩
  subst ha
  have h0':a < r.1:=by simpa using h0
  rcases List.mem_cons.mp hq with rfl | hq
  ·exact h0'
  ·have:=g2 r.1 rfl q hq; omega
theorem V6:∀ {l:List Run} {p:Option Int} {s:Int},asc l→pos l→s + sum l≤cap→(∀ a,p=some a→∀ r∈l,a < r.1)→goodFrom p s l=true
 | [],_,_,_,_,_,_=>rfl
 | r::l,p,s,ha,hp,hs,hf=>by
  obtain ⟨h1,h2⟩:=jO.mp ha
  have hpl:pos l:=fun q hq=>hp q (by simp [hq])
  have:=js hpl
  have h3:=hp r (by simp)
  simp only [sum] at hs
  have h4:(p.any fun a=>decide (r.1≤a))=false:=by
   cases p with
   | none=>rfl
   | some a =>
    have:=hf a rfl r (by simp)
    simp; omega
  simp only [goodFrom,h4,Bool.not_false,Bool.true_and,Bool.and_eq_true,Bool.not_eq_true',decide_eq_false_iff_not]
  refine ⟨⟨by omega,by omega⟩,V6 h2 hpl (by omega) fun a ha q hq=>?_⟩
  cases ha
  exact h1 q hq
theorem jA {l:List Run}:good l=true↔asc l∧pos l∧sum l≤cap:=by
 constructor
 ·intro h
  exact ⟨(Vi h).1,kY h⟩
 ·intro ⟨h1,h2,h3⟩
  exact V6 h1 h2 (by simpa using h3) fun a ha=>by cases ha
theorem YC:∀ {l:List Run} (v:Int),asc l→has l v=cnt l v
 | [],v,_=>by simp [has,cnt]
 | r::l,v,h=>by
  obtain ⟨h1,h2⟩:=jO.mp h
  have ih:=YC (l:=l) v h2
  by_cases e:r.1=v
  ·have:cnt l v=0:=kv fun q hq=>by have:=h1 q hq; omega
   simp [has,cnt,e,this]
  ·simp only [has,List.find?_cons] at ih ⊢
   have:(r.1 == v)=false:=by simpa using e
   simp only [this,cnt,if_neg e,ih]; omega
/-! ### a value more -/
def upto (v:Int) (l:List Run):Prop:=∀ r∈l,r.1≤v
theorem wv (l:List Run) (v n u:Int):cnt (moreL l v n) u=cnt l u + if v=u then n else 0:=by
 rcases kn l with rfl | ⟨k,r,rfl⟩
 ·simp [kZ,cnt]
 ·by_cases hv:r.1=v
  ·subst hv; rw [vv,jT,jT]; simp only [cnt]; split <;> omega
  ·rw [vw _ _ _ _ hv,jT]; simp only [cnt]; omega
theorem vR {l:List Run} {r:Run}:asc (l++[r])↔asc l∧∀ q∈l,q.1 < r.1:=by
 simp [asc,List.pairwise_append]
theorem ww {l:List Run} {v n:Int} (h:asc l) (hu:upto v l):asc (moreL l v n):=by
 rcases kn l with rfl | ⟨k,r,rfl⟩
 ·simp [kZ,asc]
 ·by_cases hv:r.1=v
  ·subst hv; rw [vv]; exact vR.mpr ⟨(vR.mp h).1,fun q hq=>(vR.mp h).2 q hq⟩
  ·rw [vw _ _ _ _ hv]
   have h1:=hu r (by simp)
   refine vR.mpr ⟨h,fun q hq=>?_⟩
   rcases List.mem_append.mp hq with hq | hq
   ·have:=(vR.mp h).2 q hq
    show q.1 < v
    omega
   ·simp at hq; subst hq; show q.1 < v; omega
theorem kM {l:List Run} {v n:Int} (hu:upto v l):upto v (moreL l v n):=by
 rcases kn l with rfl | ⟨k,r,rfl⟩
 ·intro q hq; simp [kZ] at hq; subst hq; exact Int.le_refl _
 ·by_cases hv:r.1=v
  ·subst hv; rw [vv]
   intro q hq
   rcases List.mem_append.mp hq with hq | hq
   ·exact hu q (by simp [hq])
   ·simp at hq; subst hq; exact Int.le_refl _
  ·rw [vw _ _ _ _ hv]
   intro q hq
   rcases List.mem_append.mp hq with hq | hq
   ·exact hu q hq
   ·simp at hq; subst hq; exact Int.le_refl _
theorem wU {l:List Run} {v u:Int} (h:upto v l) (hv:v≤u):upto u l:=fun r hr=>by have:=h r hr; omega
/-! ### all of two -/
theorem Zn:∀ (m:Nat) (out a b:List Run),a.length + b.length=m→asc out→asc a→asc b→pos out→pos a→pos b→(∀ r∈a,upto r.1 out)→(∀ r∈b,upto r.1 out) →
  asc (merge out a b)∧pos (merge out a b)∧(∀ v,cnt (merge out a b) v=cnt out v + cnt a v + cnt b v)∧sum (merge out a b)=sum out + sum a + sum b:=by
 intro m
 induction m with
 | zero =>
  intro out a b hm ho ha hb po pa pb ua ub
  obtain rfl:a=[]:=List.eq_nil_of_length_eq_zero (by omega)
  obtain rfl:b=[]:=List.eq_nil_of_length_eq_zero (by omega)
  simp [merge,cnt,sum,ho,po]
 | succ m ih =>
  intro out a b hm ho ha hb po pa pb ua ub
  have tail:∀ {r:Run} {l:List Run},asc (r::l)→pos (r::l)→asc l∧pos l∧1≤r.2∧∀ q∈l,r.1 < q.1:=fun h k =>
   ⟨(jO.mp h).2,fun q hq=>k q (by simp [hq]),k _ (by simp),(jO.mp h).1⟩
  match a,b,hm with
  | [],s::b,hm =>
   obtain ⟨h1,h2,h3,h4⟩:=tail hb pb
   have hu:=ub s (by simp)
   have:=ih (moreL out s.1 s.2) [] b (by simpa using hm) (ww ho hu) ha h1 (kE po h3) pa h2 (fun r hr=>by simp at hr)
    (fun r hr=>wU (kM hu) (by have:=h4 r hr; omega))
   rw [show merge out [] (s::b)=merge (moreL out s.1 s.2) [] b by simp only [merge]]
   refine ⟨this.1,this.2.1,fun v=>?_,?_⟩
   ·rw [this.2.2.1,wv]; simp only [cnt]; omega
   ·rw [this.2.2.2,kD]; simp only [sum]; omega
  | r::a,[],hm =>
   obtain ⟨h1,h2,h3,h4⟩:=tail ha pa
   have hu:=ua r (by simp)
   have:=ih (moreL out r.1 r.2) a [] (by simpa using hm) (ww ho hu) h1 hb (kE po h3) h2 pb
    (fun q hq=>wU (kM hu) (by have:=h4 q hq; omega)) (fun r hr=>by simp at hr)
   rw [show merge out (r::a) []=merge (moreL out r.1 r.2) a [] by simp only [merge]]
   refine ⟨this.1,this.2.1,fun v=>?_,?_⟩
   ·rw [this.2.2.1,wv]; simp only [cnt]; omega
   ·rw [this.2.2.2,kD]; simp only [sum]; omega
  | r::a,s::b,hm =>
   obtain ⟨h1,h2,h3,h4⟩:=tail ha pa
   obtain ⟨k1,k2,k3,k4⟩:=tail hb pb
   by_cases hlt:s.1 < r.1
   ·have hu:=ub s (by simp)
    have:=ih (moreL out s.1 s.2) (r::a) b (by simp at hm ⊢; omega) (ww ho hu) ha k1 (kE po k3) pa k2
     (fun q hq=>wU (kM hu) (by
      rcases List.mem_cons.mp hq with rfl | hq
      ·omega
      ·have:=h4 q hq; omega))
     (fun q hq=>wU (kM hu) (by have:=k4 q hq; omega))
    rw [show merge out (r::a) (s::b)=merge (moreL out s.1 s.2) (r::a) b by rw [merge]; simp [hlt]]
    refine ⟨this.1,this.2.1,fun v=>?_,?_⟩
    ·rw [this.2.2.1,wv]; simp only [cnt]; omega
    ·rw [this.2.2.2,kD]; simp only [sum]; omega
   ·have hu:=ua r (by simp)
    have:=ih (moreL out r.1 r.2) a (s::b) (by simp at hm ⊢; omega) (ww ho hu) h1 hb (kE po h3) h2 pb
     (fun q hq=>wU (kM hu) (by have:=h4 q hq; omega))
     (fun q hq=>wU (kM hu) (by
      rcases List.mem_cons.mp hq with rfl | hq
      ·omega
      ·have:=k4 q hq; omega))
    rw [show merge out (r::a) (s::b)=merge (moreL out r.1 r.2) a (s::b) by rw [merge]; simp [hlt]]
    refine ⟨this.1,this.2.1,fun v=>?_,?_⟩
    ·rw [this.2.2.1,wv]; simp only [cnt]; omega
    ·rw [this.2.2.2,kD]; simp only [sum]; omega
/-! ### one without the other -/
theorem wV:∀ (a out b o k:List Run),minusL out a b=some (o,k)→asc out→asc a→asc b→pos out→pos a→pos b→(∀ r∈a,∀ q∈out,q.1 < r.1) →
  asc o∧pos o∧(∀ r∈k,r∈b)∧(∀ v,cnt o v + cnt b v=cnt out v + cnt a v + cnt k v)
 | [],out,b,o,k,h,ho,ha,hb,po,pa,pb,hu=>by
  simp only [minusL] at h
  obtain ⟨rfl,rfl⟩:=Prod.mk.inj (Option.some.inj h)
  exact ⟨ho,po,fun r hr=>hr,fun v=>by simp [cnt]⟩
 | r::a,out,b,o,k,h,ho,ha,hb,po,pa,pb,hu=>by
  obtain ⟨h1,h2⟩:=jO.mp ha
  have pa':pos a:=fun q hq=>pa q (by simp [hq])
  have pr:=pa r (by simp)
  simp only [minusL] at h
  split at h
  ·cases h
  ·rename_i hge
   -- what is taken of 'b'
   have tk:asc (takeB r b).2∧pos (takeB r b).2∧(∀ q∈(takeB r b).2,q∈b)∧∀ v,cnt (takeB r b).2 v=cnt b v - if r.1=v then r.2 - (takeB r b).1 else 0:=by
    cases b with
    | nil=>simp [takeB,asc,pos,cnt]
    | cons s b =>
     obtain ⟨k1,k2⟩:=jO.mp hb
     by_cases e:s.1=r.1
     ·simp only [takeB,if_pos e]
      refine ⟨k2,fun q hq=>pb q (by simp [hq]),fun q hq=>by simp [hq],fun v=>?_⟩
      simp only [cnt,e]; split <;> omega
     ·simp only [takeB,if_neg e]
      exact ⟨hb,pb,fun q hq=>hq,fun v=>by simp⟩
   obtain ⟨t1,t2,t3,t4⟩:=tk
   by_cases hp:0 < (takeB r b).1
   ·rw [if_pos hp] at h
    have hur:∀ q∈out,q.1 < r.1:=hu r (by simp)
    have:=wV a (out++[(r.1,(takeB r b).1)]) _ o k h (vR.mpr ⟨ho,hur⟩) h2 t1
     (fun q hq=>by
      rcases List.mem_append.mp hq with hq | hq
      ·exact po q hq
      ·simp at hq; subst hq; show 1≤(takeB r b).1; omega) pa' t2
     (fun q hq p hp=>by
      rcases List.mem_append.mp hp with hp | hp
      ·exact hu q (by simp [hq]) p hp
      ·simp at hp; subst hp; exact h1 q hq)
    refine ⟨this.1,this.2.1,fun q hq=>t3 q (this.2.2.1 q hq),fun v=>?_⟩
    have h5:=this.2.2.2 v
    rw [t4,jT] at h5
    simp only [cnt] at h5 ⊢
    split at h5 <;> simp_all <;> omega
   ·rw [if_neg hp] at h
    have h0:(takeB r b).1=0:=by omega
    have:=wV a out _ o k h ho h2 t1 po pa' t2 (fun q hq p hp=>hu q (by simp [hq]) p hp)
    refine ⟨this.1,this.2.1,fun q hq=>t3 q (this.2.2.1 q hq),fun v=>?_⟩
    have h5:=this.2.2.2 v
    rw [t4,h0] at h5
    simp only [cnt] at h5 ⊢
    split at h5 <;> simp_all <;> omega
def sub (b a:List Run):Prop:=∀ v,cnt b v≤cnt a v
theorem Jj (out:List Run) (r:Run) (a b:List Run):minusL out (r::a) b=if (takeB r b).1 < 0 then none else minusL (if 0 < (takeB r b).1 then out++[(r.1,(takeB r b).1)] else out) a (takeB r b).2:=by
 simp only [minusL]
theorem JA:∀ (a out b:List Run),asc a→asc b→pos a→pos b→sub b a→∃ o,minusL out a b=some (o,[])
 | [],out,b,ha,hb,pa,pb,h=>by
  cases b with
  | nil=>exact ⟨out,rfl⟩
  | cons s b =>
   have:=h s.1
   have h1:=vG pb (r:=s) (by simp)
   have h2:=pb s (by simp)
   have h3:cnt [] s.1=0:=rfl
   omega
 | r::a,out,b,ha,hb,pa,pb,h=>by
  obtain ⟨h1,h2⟩:=jO.mp ha
  have pa':pos a:=fun q hq=>pa q (by simp [hq])
  have ea:cnt a r.1=0:=kv fun q hq=>by have:=h1 q hq; omega
  cases b with
  | nil =>
   have pr:=pa r (by simp)
   rw [Jj,show takeB r []=(r.2,[]) from rfl,if_neg (by show ¬ r.2 < 0; omega)]
   exact JA a _ [] h2 hb pa' pb fun v=>by simpa [cnt] using jU v pa'
  | cons s b =>
   obtain ⟨k1,k2⟩:=jO.mp hb
   have pb':pos b:=fun q hq=>pb q (by simp [hq])
   have ps:=pb s (by simp)
   by_cases e:s.1=r.1
   ·have hs:s.2≤r.2:=by
     have:=h s.1
     have eb:cnt b s.1=0:=kv fun q hq=>by have:=k1 q hq; omega
     rw [← e] at ea
     simp only [cnt,ea,eb,e,if_true] at this
     rw [e] at eb ea
     omega
    rw [Jj,show takeB r (s::b)=(r.2 - s.2,b) by simp [takeB,e],if_neg (by show ¬ r.2 - s.2 < 0; omega)]
    refine JA a _ b h2 k2 pa' pb' fun v=>?_
    have:=h v
    simp only [cnt,e] at this
    by_cases ev:r.1=v
    ·subst ev
     have eb:cnt b r.1=0:=kv fun q hq=>by have:=k1 q hq; omega
     rw [ea,eb]; exact Int.le_refl _
    ·simpa [ev] using this
   ·have pr:=pa r (by simp)
    rw [Jj,show takeB r (s::b)=(r.2,s::b) by simp [takeB,e],if_neg (by show ¬ r.2 < 0; omega)]
    refine JA a _ (s::b) h2 hb pa' pb fun v=>?_
    have:=h v
    by_cases ev:r.1=v
    ·subst ev
     -- 's' is above 'r',or it is not there at all
     have hlt:r.1 < s.1:=by
      rcases Int.lt_or_le r.1 s.1 with h5 | h5
      ·exact h5
      ·exfalso
       have z:cnt (r::a) s.1=0:=kv fun q hq=>by
        rcases List.mem_cons.mp hq with rfl | hq
        ·omega
        ·have:=h1 q hq; omega
       have:=h s.1
       have:=vG pb (r:=s) (by simp)
       omega
     have z:cnt (s::b) r.1=0:=kv fun q hq=>by
      rcases List.mem_cons.mp hq with rfl | hq
      ·omega
      ·have:=k1 q hq; omega
     rw [z]; exact jU _ pa'
    ·simpa [cnt,ev] using this
theorem V7 {a b:List Run} (ga:good a=true) (gb:good b=true) (h:sub b a):∃ o,minus a b=(o,true)∧asc o∧pos o∧∀ v,cnt o v=cnt a v - cnt b v:=by
 obtain ⟨a1,a2,a3⟩:=jA.mp ga
 obtain ⟨b1,b2,b3⟩:=jA.mp gb
 obtain ⟨o,ho⟩:=JA a [] b a1 b1 a2 b2 h
 have:=wV a [] b o [] ho (by simp [asc]) a1 b1 (fun q hq=>by simp at hq) a2 b2 (fun r _ q hq=>by simp at hq)
 refine ⟨o,by simp [minus,ga,gb,ho],this.1,this.2.1,fun v=>?_⟩
 have:=this.2.2.2 v
 simp only [cnt] at this
 omega
/-! ### the bag of values -/
def ofS:List Run→List Int→List Run
 | out,[]=>out
 | out,v::l=>ofS (moreL out v 1) l
def srt (l:List Int):List Int:=l.mergeSort fun x y=>decide (x≤y)
def ofL (l:List Int):List Run:=ofS [] (srt l)
def num (l:List Int) (v:Int):Int:=(l.count v:Nat)
theorem YD (v:Int):num [] v=0:=rfl
theorem WP (x:Int) (l:List Int) (v:Int):num (x::l) v=num l v + if x=v then 1 else 0:=by
 simp only [num,List.count_cons]
 by_cases h:x=v
 ·simp [h]
 ·simp [h]
theorem X1:∀ (l:List Int) (out:List Run),l.Pairwise (·≤·)→asc out→pos out→(∀ v∈l,upto v out) →
  asc (ofS out l)∧pos (ofS out l)∧(∀ v,cnt (ofS out l) v=cnt out v + num l v)∧sum (ofS out l)=sum out + l.length∧(ofS out l).length≤out.length + l.length
 | [],out,_,ho,po,_=>by simp [ofS,ho,po,YD]
 | x::l,out,hs,ho,po,hu=>by
  obtain ⟨h1,h2⟩:=List.pairwise_cons.mp hs
  have hx:=hu x (by simp)
  have:=X1 l (moreL out x 1) h2 (ww ho hx) (kE po (Int.le_refl _)) (fun v hv=>wU (kM hx) (h1 v hv))
  refine ⟨this.1,this.2.1,fun v=>?_,?_,?_⟩
  ·rw [ofS,this.2.2.1,wv,WP]; omega
  ·rw [ofS,this.2.2.2.1,kD]; simp; omega
  ·have:=this.2.2.2.2
   have:=jW out x 1
   rw [ofS]; simp only [List.length_cons]; omega
theorem WQ (l:List Int):(srt l).Perm l:=List.mergeSort_perm _ _
theorem jan (l:List Int):(srt l).Pairwise (·≤·):=by
 have:=List.pairwise_mergeSort (le:=fun x y:Int=>decide (x≤y)) (fun a b c h1 h2=>by simp at *; omega) (fun a b=>by simp; omega) l
 simpa [srt] using this
theorem jJ (l:List Int):asc (ofL l)∧pos (ofL l)∧(∀ v,cnt (ofL l) v=num l v)∧sum (ofL l)=l.length∧(ofL l).length≤l.length:=by
 have:=X1 (srt l) [] (jan l) (by simp [asc]) (fun q hq=>by simp at hq) (fun v _ q hq=>by simp at hq)
 have hl:=(WQ l).length_eq
 refine ⟨this.1,this.2.1,fun v=>?_,?_,?_⟩
 ·rw [ofL,this.2.2.1]
  simp only [cnt,num,(WQ l).count_eq]; omega
 ·rw [ofL,this.2.2.2.1,hl]; simp [sum]
 ·have:=this.2.2.2.2
  rw [hl] at this; simpa [ofL] using this
theorem vS {l:List Int} (h:l.length≤1000000):good (ofL l)=true:=by
 obtain ⟨h1,h2,_,h4,_⟩:=jJ l
 exact jA.mpr ⟨h1,h2,by rw [h4]; simp [cap]; omega⟩
theorem YE {b:List Run} {l:List Int} (h1:asc b) (h2:pos b) (h:∀ v,cnt b v=num l v):b=ofL l:=by
 obtain ⟨g1,g2,g3,_⟩:=jJ l
 exact ext h1 g1 h2 g2 fun v=>by rw [h,g3]
/-! ### the ends -/
theorem k9:∀ {l:List Run} {v:Int},cnt l v≠0→∃ r∈l,r.1=v
 | [],v,h=>by simp [cnt] at h
 | r::l,v,h=>by
  by_cases e:r.1=v
  ·exact ⟨r,by simp,e⟩
  ·simp only [cnt,if_neg e,Int.zero_add] at h
   obtain ⟨q,hq,he⟩:=k9 h
   exact ⟨q,by simp [hq],he⟩
theorem jid {l:List Int} {v:Int}:0 < num l v↔v∈l:=by
 simp only [num]
 rw [← List.count_pos_iff]
 omega
theorem jie {l:List Int} {r:Run} (h:r∈ofL l):r.1∈l:=by
 obtain ⟨h1,h2,h3,_⟩:=jJ l
 have:=vG h2 h
 have:=h2 r h
 exact jid.mp (by rw [← h3]; omega)
end Go.Bag
/-
 BAGS,PLAIN,the sixth part: the ends of a bag of values. My own work.
-/
namespace Go.Bag
open Go.Pl
set_option maxRecDepth 100000
end Go.Bag
/-
 BAGS,PLAIN,the seventh part: bags of values joined,taken away,summed. My own work.
-/
namespace Go.Bag
open Go.Pl
set_option maxRecDepth 100000
theorem WR:∀ (a b:List Int) (v:Int),num (a++b) v=num a v + num b v
 | [],b,v=>by simp [YD]
 | x::a,b,v=>by simp only [List.cons_append,WP,WR a b v]; omega
theorem jfq {a b:List Int} (h:a.Perm b) (v:Int):num a v=num b v:=by simp only [num,h.count_eq]
theorem Zo {a b:List Int} (h:a.Perm b):ofL a=ofL b:=by
 obtain ⟨h1,h2,h3,_⟩:=jJ a
 exact YE h1 h2 fun v=>by rw [h3,jfq h]
theorem wW {a b:List Run} (ga:good a=true) (gb:good b=true) (h:sum a + sum b≤cap):∃ o,join a b=(o,true)∧good o=true∧sum o=sum a + sum b∧∀ v,cnt o v=cnt a v + cnt b v:=by
 obtain ⟨a1,a2,a3⟩:=jA.mp ga
 obtain ⟨b1,b2,b3⟩:=jA.mp gb
 have h0:cap=1099511627776:=rfl
 obtain ⟨m1,m2,m3,m4⟩:=Zn _ [] a b rfl (by simp [asc]) a1 b1 (fun q hq=>by simp at hq) a2 b2 (fun r _ q hq=>by simp at hq) (fun r _ q hq=>by simp at hq)
 have m5:sum (merge [] a b)=sum a + sum b:=by rw [m4]; simp [sum]
 refine ⟨merge [] a b,?_,jA.mpr ⟨m1,m2,by omega⟩,m5,fun v=>by rw [m3]; simp [cnt]⟩
 unfold join
 rw [if_pos ⟨ga,gb,by omega⟩]
theorem JB {a b:List Run} (h:¬ (good a=true∧good b=true∧sum a + sum b≤cap)):join a b=([],false):=by
 have h0:cap=1099511627776:=rfl
 unfold join
 rw [if_neg fun h'=>h ⟨h'.1,h'.2.1,by omega⟩]
theorem Zp {a b:List Int} (ha:a.length≤1000) (hb:b.length≤1000):join (ofL a) (ofL b)=(ofL (a++b),true):=by
 obtain ⟨_,_,a3,a4,_⟩:=jJ a
 obtain ⟨_,_,b3,b4,_⟩:=jJ b
 have h0:cap=1099511627776:=rfl
 obtain ⟨o,h,g,_,hc⟩:=wW (vS (l:=a) (by omega)) (vS (l:=b) (by omega)) (by omega)
 obtain ⟨g1,g2,_⟩:=jA.mp g
 rw [h,YE (l:=a++b) g1 g2 fun v=>by rw [hc,a3,b3,WR]]
/-! ### sums -/
theorem wa:∀ (l k:List Run),wsum (l++k)=wsum l + wsum k
 | [],k=>by simp [wsum]
 | r::l,k=>by simp only [List.cons_append,wsum,wa l k]; omega
theorem vT (l:List Run) (v n:Int):wsum (moreL l v n)=wsum l + v * n:=by
 rcases kn l with rfl | ⟨k,r,rfl⟩
 ·simp [kZ,wsum]
 ·by_cases hv:r.1=v
  ·subst hv; rw [vv,wa,wa]; simp only [wsum,Int.mul_add]; omega
  ·rw [vw _ _ _ _ hv,wa]; simp only [wsum]; omega
def sumI:List Int→Int
 | []=>0
 | a::l=>a + sumI l
theorem Zq:∀ (l:List Int) (out:List Run),wsum (ofS out l)=wsum out + sumI l
 | [],out=>by simp [ofS,sumI]
 | x::l,out=>by rw [ofS,Zq l,vT]; simp only [sumI]; omega
theorem VJ {a b:List Int} (h:a.Perm b):sumI a=sumI b:=by
 induction h with
 | nil=>rfl
 | cons x _ ih=>simp only [sumI,ih]
 | swap x y l=>simp only [sumI]; omega
 | trans _ _ h1 h2=>rw [h1,h2]
theorem wx (l:List Int):wsum (ofL l)=sumI l:=by
 rw [ofL,Zq,VJ (WQ l)]; simp [wsum]
theorem va {l:List Int} (h:∀ a∈l,-9223372036854775808≤a∧a≤9223372036854775807) (hl:l.length≤1000000):ranged (ofL l):=by
 obtain ⟨h1,h2,h3,h4,_⟩:=jJ l
 intro r hr
 have:=Ji h2 r hr
 refine ⟨h r.1 (jie hr),by omega,by omega⟩
end Go.Bag
/-
 BAGS,PLAIN,the eighth part: the document's laying of values comes to the same bags. My own work.
-/
namespace Go.Bag
open Go.Pl
set_option maxRecDepth 100000
theorem Wp:∀ {l:List Run} {r:Run},asc l→r∈l→cnt l r.1=r.2
 | [],r,_,hr=>by simp at hr
 | q::l,r,h,hr=>by
  obtain ⟨h1,h2⟩:=jO.mp h
  rcases List.mem_cons.mp hr with rfl | hr
  ·have:cnt l r.1=0:=kv fun p hp=>by have:=h1 p hp; omega
   simp [cnt,this]
  ·have h3:=h1 r hr
   simp only [cnt,if_neg (show ¬ q.1=r.1 by omega),Wp h2 hr]; omega
theorem kF {x q:Run} (h:q∈keepR x):q=x∧x.2≠0:=by
 unfold keepR at h
 split at h
 ·simp at h; exact ⟨h,by assumption⟩
 ·simp at h
theorem JC (x:Run) (u:Int):cnt (keepR x) u=if x.1=u then x.2 else 0:=by
 unfold keepR
 by_cases h:x.2=0
 ·simp [h,cnt]
 ·simp [h,cnt]
theorem JD (x:Run):sum (keepR x)=x.2:=by
 unfold keepR
 by_cases h:x.2=0
 ·simp [h,sum]
 ·simp [h,sum]
theorem JE (x:Run):(keepR x).length≤1:=by unfold keepR; split <;> simp
theorem JF {x:Run} {l:List Run} (h:asc l) (hx:∀ q∈l,x.1 < q.1):asc (keepR x++l):=by
 unfold keepR
 split
 ·exact jO.mpr ⟨hx,h⟩
 ·exact h
theorem X2 (v n:Int):∀ (l:List Run),(layB v n true l).2=true∧(∀ u,cnt (layB v n true l).1 u=cnt l u)∧sum (layB v n true l).1=sum l∧(layB v n true l).1.length≤l.length ∧
  (∀ q∈(layB v n true l).1,q∈l∧q.2≠0)∧(asc l→asc (layB v n true l).1)
 | []=>by simp [layB]
 | x::l=>by
  obtain ⟨h1,h2,h3,h4,h5,h6⟩:=X2 v n l
  have e:layB v n true (x::l)=(keepR x++(layB v n true l).1,(layB v n true l).2):=by simp [layB]
  rw [e]
  refine ⟨h1,fun u=>?_,?_,?_,fun q hq=>?_,fun h=>?_⟩
  ·rw [jT,JC,h2]; rfl
  ·rw [kf,JD,h3]; rfl
  ·have:=JE x; simp only [List.length_append,List.length_cons]; omega
  ·rcases List.mem_append.mp hq with hq | hq
   ·obtain ⟨rfl,hz⟩:=kF hq; exact ⟨by simp,hz⟩
   ·exact ⟨List.mem_cons_of_mem _ (h5 q hq).1,(h5 q hq).2⟩
  ·obtain ⟨g1,g2⟩:=jO.mp h
   exact JF (h6 g2) fun q hq=>g1 q (h5 q hq).1
theorem WS (v n:Int):∀ (l:List Run),(∀ u,cnt (layB v n false l).1 u + (if (layB v n false l).2 then 0 else if v=u then n else 0)=cnt l u + if v=u then n else 0) ∧
  sum (layB v n false l).1 + (if (layB v n false l).2 then 0 else n)=sum l + n∧(layB v n false l).1.length + (if (layB v n false l).2 then 0 else 1)≤l.length + 1 ∧
  (n≠0→∀ q∈(layB v n false l).1,q.2≠0)∧(∀ q∈(layB v n false l).1,q.1=v∨∃ r∈l,q.1=r.1) ∧
  ((layB v n false l).2=false→(∀ r∈l,r.1 < v)∧∀ q∈(layB v n false l).1,q∈l)∧(asc l→asc (layB v n false l).1)
 | []=>by simp [layB,cnt,sum,asc]
 | x::l=>by
  obtain ⟨t1,t2,t3,t4,t5,t6⟩:=X2 v n l
  obtain ⟨f1,f2,f3,f4,f5,f6,f7⟩:=WS v n l
  by_cases hv:v≤x.1
  ·by_cases hlt:v < x.1
   ·have e:layB v n false (x::l)=([(v,n)]++(keepR x++(layB v n true l).1),(layB v n true l).2):=by simp [layB,hv,hlt]
    rw [e,t1]
    refine ⟨fun u=>?_,?_,?_,fun hn q hq=>?_,fun q hq=>?_,(fun h=>by cases h),fun h=>?_⟩
    ·rw [jT,jT,JC,t2]; simp only [cnt,if_true]; omega
    ·rw [kf,kf,JD,t3]; simp only [sum,if_true]; omega
    ·have:=JE x; simp only [List.length_append,List.length_cons,List.length_nil,if_true]; omega
    ·rcases List.mem_append.mp hq with hq | hq
     ·simp at hq; subst hq; exact hn
     ·rcases List.mem_append.mp hq with hq | hq
      ·obtain ⟨rfl,hz⟩:=kF hq; exact hz
      ·exact (t5 q hq).2
    ·rcases List.mem_append.mp hq with hq | hq
     ·simp at hq; subst hq; exact .inl rfl
     ·rcases List.mem_append.mp hq with hq | hq
      ·obtain ⟨rfl,hz⟩:=kF hq; exact .inr ⟨q,by simp,rfl⟩
      ·exact .inr ⟨q,List.mem_cons_of_mem _ (t5 q hq).1,rfl⟩
    ·obtain ⟨g1,g2⟩:=jO.mp h
     refine jO.mpr ⟨fun q hq=>?_,JF (t6 g2) fun q hq=>g1 q (t5 q hq).1⟩
     have hq:q∈keepR x++(layB v n true l).1:=hq
     rcases List.mem_append.mp hq with hq | hq
     ·obtain ⟨rfl,hz⟩:=kF hq; exact hlt
     ·have:=g1 q (t5 q hq).1; show v < q.1; omega
   ·have hx:x.1=v:=by omega
    have e:layB v n false (x::l)=(keepR (x.1,x.2 + n)++(layB v n true l).1,(layB v n true l).2):=by simp [layB,hv,hlt]
    rw [e,t1]
    refine ⟨fun u=>?_,?_,?_,fun hn q hq=>?_,fun q hq=>?_,(fun h=>by cases h),fun h=>?_⟩
    ·rw [jT,JC,t2]; simp only [cnt,if_true,hx]; split <;> omega
    ·rw [kf,JD,t3]; simp only [sum,if_true]; omega
    ·have:=JE (x.1,x.2 + n); simp only [List.length_append,List.length_cons,if_true]; omega
    ·rcases List.mem_append.mp hq with hq | hq
     ·obtain ⟨rfl,hz⟩:=kF hq; exact hz
     ·exact (t5 q hq).2
    ·rcases List.mem_append.mp hq with hq | hq
     ·obtain ⟨rfl,hz⟩:=kF hq; exact .inl hx
     ·exact .inr ⟨q,List.mem_cons_of_mem _ (t5 q hq).1,rfl⟩
    ·obtain ⟨g1,g2⟩:=jO.mp h
     exact JF (t6 g2) fun q hq=>g1 q (t5 q hq).1
  ·have e:layB v n false (x::l)=(keepR x++(layB v n false l).1,(layB v n false l).2):=by simp [layB,hv]
   rw [e]
   refine ⟨fun u=>?_,?_,?_,fun hn q hq=>?_,fun q hq=>?_,fun h=>⟨fun r hr=>?_,fun q hq=>?_⟩,fun h=>?_⟩
   ·have:=f1 u
    rw [jT,JC]; simp only [cnt]; omega
   ·rw [kf,JD]; simp only [sum]; omega
   ·have:=JE x; simp only [List.length_append,List.length_cons]; omega
   ·rcases List.mem_append.mp hq with hq | hq
    ·obtain ⟨rfl,hz⟩:=kF hq; exact hz
    ·exact f4 hn q hq
   ·rcases List.mem_append.mp hq with hq | hq
    ·obtain ⟨rfl,hz⟩:=kF hq; exact .inr ⟨q,by simp,rfl⟩
    ·rcases f5 q hq with h | ⟨r,hr,h⟩
     ·exact .inl h
     ·exact .inr ⟨r,List.mem_cons_of_mem _ hr,h⟩
   ·rcases List.mem_cons.mp hr with rfl | hr
    ·omega
    ·exact (f6 h).1 r hr
   ·rcases List.mem_append.mp hq with hq | hq
    ·obtain ⟨rfl,hz⟩:=kF hq; simp
    ·exact List.mem_cons_of_mem _ ((f6 h).2 q hq)
   ·obtain ⟨g1,g2⟩:=jO.mp h
    refine JF (f7 g2) fun q hq=>?_
    rcases f5 q hq with h | ⟨r,hr,h⟩
    ·omega
    ·have:=g1 r hr; omega
theorem vK (l:List Run) (v n:Int):(∀ u,cnt (lay l v n) u=cnt l u + if v=u then n else 0)∧sum (lay l v n)=sum l + n∧(lay l v n).length≤l.length + 1∧(n≠0→∀ q∈lay l v n,q.2≠0)∧(asc l→asc (lay l v n)):=by
 obtain ⟨f1,f2,f3,f4,f5,f6,f7⟩:=WS v n l
 unfold lay
 cases hd:(layB v n false l).2 with
 | true =>
  simp only [hd,if_true] at *
  exact ⟨fun u=>by have:=f1 u; omega,by omega,by omega,f4,f7⟩
 | false =>
  simp only [hd,Bool.false_eq_true,if_false] at *
  refine ⟨fun u=>?_,?_,?_,fun hn q hq=>?_,fun h=>?_⟩
  ·have:=f1 u
   rw [jT]; simp only [cnt]; omega
  ·rw [kf]; simp only [sum]; omega
  ·simp only [List.length_append,List.length_cons,List.length_nil]; omega
  ·rcases List.mem_append.mp hq with hq | hq
   ·exact f4 hn q hq
   ·simp at hq; subst hq; exact hn
  ·refine vR.mpr ⟨f7 h,fun q hq=>?_⟩
   exact (f6 trivial).1 q ((f6 trivial).2 q hq)
theorem jlr {l:List Run} (ha:asc l) (hz:∀ q∈l,q.2≠0) (hc:∀ u,0≤cnt l u):pos l:=by
 intro q hq
 have h1:=Wp ha hq
 have h2:=hc q.1
 have h3:=hz q hq
 omega
end Go.Bag
/-
 BAGS,PLAIN,the ninth part: the document's bags of values,joined,taken away. My own work.
-/
namespace Go.Bag
open Go.Pl
set_option maxRecDepth 100000
theorem Vj {l:List Run} {v n:Int} (ha:asc l) (hp:pos l) (hn:n≠0) (h:0≤cnt l v + n):asc (lay l v n)∧pos (lay l v n):=by
 obtain ⟨h1,h2,h3,h4,h5⟩:=vK l v n
 refine ⟨h5 ha,jlr (h5 ha) (h4 hn) fun u=>?_⟩
 rw [h1]
 have:=jU u hp
 split
 ·rename_i e; subst e; exact h
 ·omega
def rofS:List Run→List Int→List Run
 | out,[]=>out
 | out,v::l=>rofS (lay out v 1) l
theorem WT:∀ (l:List Int) (out:List Run),asc out→pos out→asc (rofS out l)∧pos (rofS out l)∧∀ v,cnt (rofS out l) v=cnt out v + num l v
 | [],out,ha,hp=>⟨ha,hp,fun v=>by simp [rofS,YD]⟩
 | x::l,out,ha,hp=>by
  have h1:=jU x hp
  obtain ⟨h2,h3⟩:=Vj (v:=x) (n:=1) ha hp (by decide) (by omega)
  obtain ⟨g1,g2,g3⟩:=WT l (lay out x 1) h2 h3
  refine ⟨g1,g2,fun v=>?_⟩
  rw [rofS,g3,(vK out x 1).1,WP]; omega
theorem WU (l:List Int):rofS [] l=ofL l:=by
 obtain ⟨g1,g2,g3⟩:=WT l [] (by simp [asc]) (fun q hq=>by simp at hq)
 exact YE g1 g2 fun v=>by rw [g3]; simp [cnt]
def layS:List Run→List Run→List Run
 | out,[]=>out
 | out,r::b=>layS (lay out r.1 r.2) b
theorem WV:∀ (b out:List Run),asc out→pos out→pos b→asc (layS out b)∧pos (layS out b)∧∀ v,cnt (layS out b) v=cnt out v + cnt b v
 | [],out,ha,hp,_=>⟨ha,hp,fun v=>by simp [layS,cnt]⟩
 | r::b,out,ha,hp,hb=>by
  have h0:=hb r (by simp)
  have h1:=jU r.1 hp
  obtain ⟨h2,h3⟩:=Vj (v:=r.1) (n:=r.2) ha hp (by omega) (by omega)
  obtain ⟨g1,g2,g3⟩:=WV b (lay out r.1 r.2) h2 h3 fun q hq=>hb q (by simp [hq])
  refine ⟨g1,g2,fun v=>?_⟩
  rw [layS,g3,(vK out r.1 r.2).1]; simp only [cnt]; omega
theorem jdn {a b:List Run} (ga:good a=true) (gb:good b=true) (h:sum a + sum b≤cap):join a b=(layS a b,true):=by
 obtain ⟨a1,a2,_⟩:=jA.mp ga
 obtain ⟨b1,b2,_⟩:=jA.mp gb
 obtain ⟨o,h1,h2,_,h4⟩:=wW ga gb h
 obtain ⟨g1,g2,g3⟩:=WV b a a1 a2 b2
 obtain ⟨o1,o2,_⟩:=jA.mp h2
 rw [h1,ext o1 g1 o2 g2 fun v=>by rw [h4,g3]]
end Go.Bag
/-
 CELLS,PLAIN: what is known of some rows. My own work.
-/
namespace Go.Bag
open Go.Pl
set_option maxRecDepth 100000
structure Cell where
 n:Int
 s0:Int
 s1:Int
 b0:List Run
 b1:List Run
 deriving DecidableEq
def zeroC:Cell:=⟨0,0,0,[],[]⟩
def encC (c:Cell):List CV:=[.int .i64 c.n,.int .i64 c.s0,.int .i64 c.s1,encL c.b0,encL c.b1]
def encCell (c:Cell):CV:=.agg (encC c)
def in64 (a:Int):Prop:=-9223372036854775808≤a∧a≤9223372036854775807
instance (a:Int):Decidable (in64 a):=by unfold in64; infer_instance
def inC (k:Nat) (c:Cell):Prop:=in64 c.n∧in64 c.s0∧in64 c.s1∧ranged c.b0∧ranged c.b1∧c.b0.length≤k∧c.b1.length≤k
def gM (b:List Run) (s n:Int):Bool:=decide (good b=true∧wsum b=s∧sum b=n)
def goodC (m:Int) (c:Cell):Bool:=decide ((1≤m∧m≤2)∧(1≤c.n∧c.n≤1099511627776)∧gM c.b0 c.s0 c.n=true∧(if m=2 then gM c.b1 c.s1 c.n=true else c.s1=0∧c.b1=[]))
def joinC (m:Int) (a b:Cell):Cell × Bool :=
 if goodC m a=true∧goodC m b=true∧a.n + b.n≤1099511627776∧in64 (a.s0 + b.s0)∧(m=2→in64 (a.s1 + b.s1)) then
  (⟨a.n + b.n,a.s0 + b.s0,if m=2 then a.s1 + b.s1 else 0,(join a.b0 b.b0).1,if m=2 then (join a.b1 b.b1).1 else []⟩,true) else (zeroC,false)
structure LineS where
 p0:Int
 p1:Int
 p2:Int
 p3:Int
 n:Int
 s0:Int
 s1:Int
 lo0:Int
 lo1:Int
 hi0:Int
 hi1:Int
 deriving DecidableEq
def encLn (l:LineS):List CV:=[.int .u8 l.p0,.int .u8 l.p1,.int .u8 l.p2,.int .u8 l.p3,.int .i64 l.n,.int .i64 l.s0,.int .i64 l.s1,.int .i64 l.lo0,.int .i64 l.lo1,.int .i64 l.hi0,.int .i64 l.hi1]
def encLine (l:LineS):CV:=.agg (encLn l)
def zeroLn:LineS:=⟨0,0,0,0,0,0,0,0,0,0,0⟩
structure Place where
 p0:Int
 p1:Int
 p2:Int
 p3:Int
 deriving DecidableEq
def encP (p:Place):List CV:=[.int .u8 p.p0,.int .u8 p.p1,.int .u8 p.p2,.int .u8 p.p3]
def lo_ (b:List Run):Int:=match b.head? with | some r=>r.1 | none=>0
def hi_ (b:List Run):Int:=match b.getLast? with | some r=>r.1 | none=>0
def lineC (m:Int) (p:Place) (c:Cell):LineS :=
 if goodC m c then ⟨p.p0,p.p1,p.p2,p.p3,c.n,c.s0,if m=2 then c.s1 else 0,lo_ c.b0,if m=2 then lo_ c.b1 else 0,hi_ c.b0,if m=2 then hi_ c.b1 else 0⟩ else zeroLn
structure RowS where
 p:Place
 m0:Int
 m1:Int
 deriving DecidableEq
def encRow (r:RowS):List CV:=encP r.p++[.int .i64 r.m0,.int .i64 r.m1]
def encRows (l:List RowS):CV:=.sl (l.map encRow)
def ofC (m:Int) (l:List RowS):Cell × Bool :=
 if (1≤m∧m≤2)∧l≠[]∧in64 (sumI (l.map (·.m0)))∧(m=2→in64 (sumI (l.map (·.m1)))) then
  (⟨l.length,sumI (l.map (·.m0)),if m=2 then sumI (l.map (·.m1)) else 0,ofL (l.map (·.m0)),if m=2 then ofL (l.map (·.m1)) else []⟩,true) else (zeroC,false)
theorem jq {m:Int} {c:Cell}:goodC m c=true↔(1≤m∧m≤2)∧(1≤c.n∧c.n≤1099511627776)∧gM c.b0 c.s0 c.n=true∧(if m=2 then gM c.b1 c.s1 c.n=true else c.s1=0∧c.b1=[]):=by
 simp only [goodC,decide_eq_true_eq]
theorem kg {b:List Run} {s n:Int}:gM b s n=true↔good b=true∧wsum b=s∧sum b=n:=by simp only [gM,decide_eq_true_eq]
theorem jao:∀ (m:Nat) (out a b:List Run),a.length + b.length=m→wsum (merge out a b)=wsum out + wsum a + wsum b:=by
 intro m
 induction m with
 | zero =>
  intro out a b hm
  obtain rfl:a=[]:=List.eq_nil_of_length_eq_zero (by omega)
  obtain rfl:b=[]:=List.eq_nil_of_length_eq_zero (by omega)
  simp [merge,wsum]
 | succ m ih =>
  intro out a b hm
  match a,b,hm with
  | [],s::b,hm=>rw [show merge out [] (s::b)=merge (moreL out s.1 s.2) [] b by simp only [merge],ih _ [] b (by simpa using hm),vT]; simp only [wsum]; omega
  | r::a,[],hm=>rw [show merge out (r::a) []=merge (moreL out r.1 r.2) a [] by simp only [merge],ih _ a [] (by simpa using hm),vT]; simp only [wsum]; omega
  | r::a,s::b,hm =>
   rw [merge]
   split
   ·rw [ih _ (r::a) b (by simp at hm ⊢; omega),vT]; simp only [wsum]; omega
   ·rw [ih _ a (s::b) (by simp at hm ⊢; omega),vT]; simp only [wsum]; omega
theorem Vk {a b:List Run} (ga:good a=true) (gb:good b=true) (h:sum a + sum b≤1099511627776):good (join a b).1=true∧sum (join a b).1=sum a + sum b∧wsum (join a b).1=wsum a + wsum b∧(join a b).2=true:=by
 obtain ⟨o,h1,h2,h3,h4⟩:=wW ga gb h
 have e:join a b=(merge [] a b,true):=by unfold join; rw [if_pos ⟨ga,gb,by omega⟩]
 rw [h1] at e
 obtain rfl:o=merge [] a b:=(Prod.mk.inj e).1
 rw [h1]
 exact ⟨h2,h3,by rw [jao _ [] a b rfl]; simp [wsum],rfl⟩
end Go.Bag
/-
 CATALOGS,PLAIN: dimensions,levels,members; which places are a node's. My own work.
-/
namespace Go.Bag
open Go.Pl
set_option maxRecDepth 100000
def encIs (l:List Int):CV:=.sl (l.map fun n=>[.int .i64 n])
structure DimS where
 sizes:List Int
 up:List (List Int)
def encDim (d:DimS):List CV:=[encIs d.sizes,.sl (d.up.map fun l=>[encIs l])]
structure CatS where
 dims:List DimS
 m:Int
def encCat (c:CatS):List CV:=[.sl (c.dims.map encDim),.int .i64 c.m]
def upOk:List Int→List (List Int)→Bool
 | n::s::ss,u::us=>decide ((u.length:Int)=n) && u.all (fun m=>decide (0≤m∧m < s)) && upOk (s::ss) us
 | [_],[]=>true
 | _,_=>false
def goodDim (d:DimS):Bool:=decide (1≤d.sizes.length∧d.sizes.length≤4) && (decide (d.up.length + 1=d.sizes.length) && (d.sizes.all (fun n=>decide (1≤n∧n≤40)) && upOk d.sizes d.up))
def sizeD (d:DimS) (k:Int):Int:=if goodDim d=true∧0≤k∧k≤d.sizes.length then (if k=d.sizes.length then 1 else d.sizes.getD k.toNat 0) else 0
def goodCat (c:CatS):Bool:=decide ((1≤c.dims.length∧c.dims.length≤4)∧1≤c.m∧c.m≤2) && c.dims.all goodDim
def placeL (p:Place):List Int:=[p.p0,p.p1,p.p2,p.p3]
def zeroP:Place:=⟨0,0,0,0⟩
def rightL:List DimS→List Int→List Int→Bool
 | [],x::xs,y::ys=>decide (x=0∧y=0) && rightL [] xs ys
 | d::ds,x::xs,y::ys=>decide (y < sizeD d x) && rightL ds xs ys
 | _,_,_=>true
def rightC (c:CatS) (v a:Place):Bool:=goodCat c && rightL c.dims (placeL v) (placeL a)
def lightDim (d:DimS):Bool:=decide (d.sizes.length≤10∧d.up.length≤10) && d.up.all (fun l=>decide (l.length≤60))
def lightCat (c:CatS):Bool:=decide (c.dims.length≤8) && c.dims.all lightDim
def goodR (c:CatS) (r:RowS):Bool:=rightC c zeroP r.p && (rightC c zeroP zeroP && decide (c.m≤0→r.m0=0) && decide (c.m≤1→r.m1=0))
def keyP (p:Place):Int:=((p.p0 * 256 + p.p1) * 256 + p.p2) * 256 + p.p3
theorem sizeD_in {d:DimS} {k:Int}:0≤sizeD d k∧sizeD d k≤40:=by
 unfold sizeD
 split
 ·rename_i h
  split
  ·omega
  ·rename_i hk
   have hlt:k.toNat < d.sizes.length:=by omega
   have hg:=h.1
   unfold goodDim at hg
   simp only [Bool.and_eq_true,List.all_eq_true,decide_eq_true_eq] at hg
   have:=hg.2.2.1 _ (List.getElem_mem hlt)
   rw [List.getD_eq_getElem?_getD,List.getElem?_eq_getElem hlt]
   simp only [Option.getD_some]
   omega
 ·omega
end Go.Bag

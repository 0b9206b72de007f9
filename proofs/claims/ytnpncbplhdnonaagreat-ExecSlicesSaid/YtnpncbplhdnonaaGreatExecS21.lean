/- Part of the proof of ExecTells, ExecAnswers, ExecBest, ExecFirst, ExecLevels, ExecTops, ExecLimits: lemmas. -/
import Derived.Test.YtnpncbplhdnonaaGreatExecS15
import Derived.Test.YtnpncbplhdnonaaGreatExecS16
import Derived.Test.YtnpncbplhdnonaaGreatExecS17
import Derived.Sort.MapsRangeIn
import Derived.Maps.RangeRun
import Derived.Laws.IdiomRangeMap
import Derived.RangeFuncBox
import Derived.RangeFuncLeaves
import Derived.Shelf.Abstract
import Derived.WalkKit
import Derived.OwnWalkIn
import Derived.TacticsInMore
import Derived.LoopNIn
import Derived.LoopIn
import Derived.Shelf.SlIterI.Collect
import Derived.Maps.AppendAt
set_option linter.unusedVariables false
set_option linter.unusedSimpArgs false
/-
 NODES,AND WHAT BELONGS TO WHAT,PLAIN. My own work.
-/
namespace Go.Bag
open Go.Pl
set_option maxRecDepth 100000
def upM (u:List (List Int)):Nat→Nat→Int→Int
 | _,0,m=>m
 | f,k + 1,m=>upM u (f + 1) k ((u.getD f []).getD m.toNat 0)
def liftOk (d:DimS) (f t m:Int):Prop:=f≤t∧sizeD d t≠0∧0≤m∧m < sizeD d f
instance (d:DimS) (f t m:Int):Decidable (liftOk d f t m):=by unfold liftOk; infer_instance
def liftD (d:DimS) (f t m:Int):Int:=if t=d.sizes.length then 0 else upM d.up f.toNat (t - f).toNat m
def liftV (d:DimS) (f t m:Int):Int × Bool:=if liftOk d f t m then (liftD d f t m,true) else (0,false)
def ofP (l:List Int):Place:=⟨l.getD 0 0,l.getD 1 0,l.getD 2 0,l.getD 3 0⟩
def meetP (a b:Place):Place:=⟨if b.p0 < a.p0 then b.p0 else a.p0,if b.p1 < a.p1 then b.p1 else a.p1,if b.p2 < a.p2 then b.p2 else a.p2,if b.p3 < a.p3 then b.p3 else a.p3⟩
def joinP (a b:Place):Place:=⟨if b.p0 > a.p0 then b.p0 else a.p0,if b.p1 > a.p1 then b.p1 else a.p1,if b.p2 > a.p2 then b.p2 else a.p2,if b.p3 > a.p3 then b.p3 else a.p3⟩
def belowP (a b:Place):Bool:=decide (a.p0≤b.p0∧a.p1≤b.p1∧a.p2≤b.p2∧a.p3≤b.p3)
theorem ja0 (a b:Place):decide (meetP a b=a)=belowP a b:=by
 obtain ⟨a0,a1,a2,a3⟩:=a
 obtain ⟨b0,b1,b2,b3⟩:=b
 unfold belowP meetP
 simp only [Place.mk.injEq]
 congr 1
 refine propext ⟨fun h=>?_,fun h=>?_⟩
 ·obtain ⟨h0,h1,h2,h3⟩:=h
  refine ⟨?_,?_,?_,?_⟩
  ·split at h0 <;> omega
  ·split at h1 <;> omega
  ·split at h2 <;> omega
  ·split at h3 <;> omega
 ·obtain ⟨h0,h1,h2,h3⟩:=h
  exact ⟨if_neg (by omega),if_neg (by omega),if_neg (by omega),if_neg (by omega)⟩
def liftL:List DimS→List Int→List Int→List Int→List Int
 | d::ds,x::xs,y::ys,z::zs=>(liftV d x y z).1::liftL ds xs ys zs
 | _,_,_,_=>[]
def okAll:List DimS→List Int→List Int→List Int→Prop
 | d::ds,x::xs,y::ys,z::zs=>liftOk d x y z∧okAll ds xs ys zs
 | _,_,_,_=>True
def toP (c:CatS) (f t a:Place):Place × Bool :=
 if rightC c f a=true∧rightC c t zeroP=true∧belowP f t=true then (ofP (liftL c.dims (placeL f) (placeL t) (placeL a)),true) else (zeroP,false)
structure FixS where
 dim:Int
 level:Int
 mem:List Int
def encFix (f:FixS):List CV:=[.int .i64 f.dim,.int .i64 f.level,encIs f.mem]
def withinP (c:CatS) (v a:Place) (f:FixS):Bool :=
 if rightC c v a=true∧0≤f.dim∧f.dim < c.dims.length then
  (match c.dims[f.dim.toNat]? with
  | some d=>(liftV d ((placeL v).getD f.dim.toNat 0) f.level ((placeL a).getD f.dim.toNat 0)).2 && f.mem.contains (liftV d ((placeL v).getD f.dim.toNat 0) f.level ((placeL a).getD f.dim.toNat 0)).1
  | none=>false)
 else false
/-! ### What a good dimension gives -/
theorem kA {d:DimS} (h:goodDim d=true):(1≤d.sizes.length∧d.sizes.length≤4)∧d.up.length + 1=d.sizes.length∧(∀ n∈d.sizes,1≤n∧n≤40)∧upOk d.sizes d.up=true:=by
 unfold goodDim at h
 simp only [Bool.and_eq_true,decide_eq_true_eq,List.all_eq_true] at h
 exact ⟨h.1,h.2.1,h.2.2.1,h.2.2.2⟩
theorem Vp:∀ (ss:List Int) (us:List (List Int)),upOk ss us=true→∀ k,k < us.length→((us.getD k []).length:Int)=ss.getD k 0∧∀ m∈us.getD k [],0≤m∧m < ss.getD (k + 1) 0
 | n::s::ss,u::us,h,k,hk=>by
  simp only [upOk,Bool.and_eq_true,decide_eq_true_eq,List.all_eq_true] at h
  obtain ⟨⟨h1,h2⟩,h3⟩:=h
  cases k with
  | zero=>exact ⟨h1,h2⟩
  | succ k=>exact Vp (s::ss) us h3 k (by simpa using hk)
 | _,[],_,k,hk=>by simp at hk
 | [],u::us,h,_,_=>by simp [upOk] at h
 | [n],u::us,h,_,_=>by simp [upOk] at h
theorem jQ {d:DimS} {k:Int} (h:sizeD d k≠0):goodDim d=true∧0≤k∧k≤d.sizes.length:=by
 unfold sizeD at h
 by_cases g:goodDim d=true∧0≤k∧k≤d.sizes.length
 ·exact g
 ·rw [if_neg g] at h; exact absurd rfl h
theorem size_at {d:DimS} {k:Int} (g:goodDim d=true) (h0:0≤k) (h1:k < d.sizes.length):sizeD d k=d.sizes.getD k.toNat 0:=by
 unfold sizeD
 rw [if_pos ⟨g,h0,by omega⟩,if_neg (by omega)]
theorem ZA {d:DimS} (g:goodDim d=true):sizeD d d.sizes.length=1:=by
 unfold sizeD
 rw [if_pos ⟨g,by omega,by omega⟩,if_pos rfl]
theorem jf3 {d:DimS} (g:goodDim d=true):∀ (k f:Nat) (m:Int),f + k < d.sizes.length→0≤m→m < d.sizes.getD f 0→0≤upM d.up f k m∧upM d.up f k m < d.sizes.getD (f + k) 0
 | 0,f,m,_,h0,h1=>⟨h0,h1⟩
 | k + 1,f,m,hf,h0,h1=>by
  obtain ⟨_,hu,_,hup⟩:=kA g
  obtain ⟨e,hm⟩:=Vp _ _ hup f (by omega)
  have hmem:(d.up.getD f []).getD m.toNat 0∈d.up.getD f []:=by
   have hlt:m.toNat < (d.up.getD f []).length:=by omega
   rw [List.getD_eq_getElem?_getD (l:=d.up.getD f []),List.getElem?_eq_getElem hlt]
   exact List.getElem_mem hlt
  have:=hm _ hmem
  have h:=jf3 g k (f + 1) _ (by omega) this.1 this.2
  rw [show f + 1 + k=f + (k + 1) by omega] at h
  exact h
theorem jcd (u:List (List Int)):∀ (j k f:Nat) (m:Int),upM u f (j + k) m=upM u (f + j) k (upM u f j m)
 | 0,k,f,m=>by rw [Nat.zero_add]; rfl
 | j + 1,k,f,m=>by
  rw [show j + 1 + k=(j + k) + 1 by omega]
  show upM u (f + 1) (j + k) _=upM u (f + (j + 1)) k (upM u (f + 1) j _)
  rw [jcd u j k (f + 1),show f + 1 + j=f + (j + 1) by omega]
theorem W7 {d:DimS} {f t m:Int} (h:liftOk d f t m):0≤liftD d f t m∧liftD d f t m < sizeD d t:=by
 obtain ⟨h1,h2,h3,h4⟩:=h
 obtain ⟨g,g0,g1⟩:=jQ h2
 obtain ⟨_,f0,f1⟩:=jQ (d:=d) (k:=f) (by omega)
 unfold liftD
 by_cases e:t=d.sizes.length
 ·rw [if_pos e,e,ZA g]; omega
 ·rw [if_neg e,size_at g g0 (by omega)]
  rw [size_at g f0 (by omega)] at h4
  have:=jf3 g (t - f).toNat f.toNat m (by omega) h3 h4
  rw [show f.toNat + (t - f).toNat=t.toNat by omega] at this
  exact this
theorem W8 (d:DimS) (f t m:Int):0≤(liftV d f t m).1∧(liftV d f t m).1≤39:=by
 unfold liftV
 split
 ·rename_i h
  have:=W7 h
  have:=@sizeD_in d t
  simp only
  omega
 ·simp
theorem V8 {d:DimS} {f g t m:Int} (h:liftOk d f g m) (hg:g≤t) (ht:sizeD d t≠0):liftOk d g t (liftD d f g m)∧liftOk d f t m∧liftD d g t (liftD d f g m)=liftD d f t m:=by
 have hin:=W7 h
 obtain ⟨h1,h2,h3,h4⟩:=h
 obtain ⟨gd,g0,g1⟩:=jQ ht
 obtain ⟨_,f0,f1⟩:=jQ (d:=d) (k:=f) (by omega)
 refine ⟨⟨hg,ht,hin.1,hin.2⟩,⟨by omega,ht,h3,h4⟩,?_⟩
 unfold liftD
 by_cases e:t=d.sizes.length
 ·rw [if_pos e,if_pos e]
 ·rw [if_neg e,if_neg e,if_neg (by omega)]
  have:=jcd d.up (g - f).toNat (t - g).toNat f.toNat m
  rw [show (g - f).toNat + (t - g).toNat=(t - f).toNat by omega,show f.toNat + (g - f).toNat=g.toNat by omega] at this
  exact this.symm
theorem W9:∀ (ds:List DimS) (xs ys zs:List Int),ds.length≤xs.length→xs.length=ys.length→ys.length=zs.length→rightL ds xs zs=true→rightL ds ys (zs.map fun _=>0)=true→(∀ i,i < xs.length→xs.getD i 0≤ys.getD i 0)→(∀ z∈zs,0≤z)→okAll ds xs ys zs
 | [],_,_,_,_,_,_,_,_,_,_=>by unfold okAll; trivial
 | d::ds,[],_,_,h,_,_,_,_,_,_=>by simp at h
 | d::ds,x::xs,[],_,_,h,_,_,_,_,_=>by simp at h
 | d::ds,x::xs,y::ys,[],_,_,h,_,_,_,_=>by simp at h
 | d::ds,x::xs,y::ys,z::zs,h1,h2,h3,h4,h5,h6,h7=>by
  simp only [rightL,Bool.and_eq_true,decide_eq_true_eq,List.map_cons] at h4 h5
  have h0:=h6 0 (by simp)
  simp only [List.getD_cons_zero] at h0
  have hz:=h7 z (by simp)
  refine ⟨⟨h0,by omega,hz,h4.1⟩,W9 ds xs ys zs (by simpa using h1) (by simpa using h2) (by simpa using h3) h4.2 h5.2 (fun i hi=>?_) (fun z hz=>h7 z (by simp [hz]))⟩
  have:=h6 (i + 1) (by simpa using hi)
  simpa using this
theorem X4:∀ (ds:List DimS) (xs ys zs:List Int),ds.length≤xs.length→xs.length=ys.length→ys.length=zs.length→(liftL ds xs ys zs).length=ds.length
 | [],_,_,_,_,_,_=>by simp [liftL]
 | d::ds,[],_,_,h,_,_=>by simp at h
 | d::ds,x::xs,[],_,_,h,_=>by simp at h
 | d::ds,x::xs,y::ys,[],_,_,h=>by simp at h
 | d::ds,x::xs,y::ys,z::zs,h1,h2,h3=>by simp [liftL,X4 ds xs ys zs (by simpa using h1) (by simpa using h2) (by simpa using h3)]
theorem JV:∀ (ds:List DimS) (xs ys:List Int),ds.length≤xs.length→xs.length=ys.length→rightL ds xs ys=true→∀ (i:Nat) (d:DimS),ds[i]? = some d→ys.getD i 0 < sizeD d (xs.getD i 0)
 | [],_,_,_,_,_,i,d,h=>by simp at h
 | d::ds,[],_,h,_,_,_,_,_=>by simp at h
 | d::ds,x::xs,[],_,h,_,_,_,_=>by simp at h
 | d::ds,x::xs,y::ys,h1,h2,h3,i,e,h=>by
  simp only [rightL,Bool.and_eq_true,decide_eq_true_eq] at h3
  cases i with
  | zero=>simp at h; subst h; simpa using h3.1
  | succ i =>
   have:=JV ds xs ys (by simpa using h1) (by simpa using h2) h3.2 i e (by simpa using h)
   simpa using this
def levelsC (c:CatS) (k:Int):Int:=if goodCat c=true∧0≤k∧k < c.dims.length then (match c.dims[k.toNat]? with | some d=>(d.sizes.length:Int) + 1 | none=>0) else 0
theorem jx {c:CatS} (h:goodCat c=true):(1≤c.dims.length∧c.dims.length≤4)∧(1≤c.m∧c.m≤2)∧∀ d∈c.dims,goodDim d=true:=by
 unfold goodCat at h
 simp only [Bool.and_eq_true,decide_eq_true_eq,List.all_eq_true] at h
 exact ⟨h.1.1,h.1.2,h.2⟩
theorem jB {c:CatS} {v a:Place} (h:rightC c v a=true):goodCat c=true:=by
 unfold rightC at h
 simp only [Bool.and_eq_true] at h
 exact h.1
theorem kR {c:CatS} {v a:Place} (h:rightC c v a=true):rightL c.dims (placeL v) (placeL a)=true:=by
 unfold rightC at h
 simp only [Bool.and_eq_true] at h
 exact h.2
theorem Vq {d:DimS} {k:Int} (g:goodDim d=true) (h0:0≤k) (h1:k≤d.sizes.length):1≤sizeD d k:=by
 by_cases e:k=d.sizes.length
 ·rw [e,ZA g]; omega
 ·rw [size_at g h0 (by omega)]
  obtain ⟨_,_,hs,_⟩:=kA g
  have hlt:k.toNat < d.sizes.length:=by omega
  rw [List.getD_eq_getElem?_getD,List.getElem?_eq_getElem hlt]
  exact (hs _ (List.getElem_mem hlt)).1
theorem jdx {c:CatS} {v a:Place} {f:FixS} (hv:∀ x∈placeL v,0≤x) (ha:∀ x∈placeL a,0≤x) (h:rightC c v a=true) (h0:0≤f.dim) (h1:f.dim < c.dims.length) {d:DimS} (hd:c.dims[f.dim.toNat]? = some d) :
  liftOk d ((placeL v).getD f.dim.toNat 0) f.level ((placeL a).getD f.dim.toNat 0)↔(placeL v).getD f.dim.toNat 0≤f.level∧f.level < (d.sizes.length:Int) + 1:=by
 have g:=jx (jB h)
 have gd:=g.2.2 d (List.mem_of_getElem? hd)
 have hr:=JV c.dims (placeL v) (placeL a) (by show c.dims.length≤4; omega) rfl (kR h) _ d hd
 have pos:∀ {p:Place},(∀ x∈placeL p,0≤x)→∀ i,0≤(placeL p).getD i 0:=fun {p} hp i=>by
  by_cases hi:i < (placeL p).length
  ·rw [List.getD_eq_getElem?_getD,List.getElem?_eq_getElem hi]; exact hp _ (List.getElem_mem hi)
  ·rw [List.getD_eq_getElem?_getD,List.getElem?_eq_none (by omega)]; simp
 have pv:=pos hv f.dim.toNat
 have pa:=pos ha f.dim.toNat
 unfold liftOk
 constructor
 ·rintro ⟨k1,k2,_,_⟩
  have:=jQ k2
  exact ⟨k1,by omega⟩
 ·rintro ⟨k1,k2⟩
  have:=Vq gd (k:=f.level) (by omega) (by omega)
  exact ⟨k1,by omega,pa,hr⟩
end Go.Bag
namespace Go.Proofs.YtnpncbplhdnonaaGreat
open Go.Pl Go.Bag
set_option maxRecDepth 100000
set_option maxHeartbeats 4000000
/-! ### slices.Clone, slices.Clip -/
theorem ZB (es:List (List CV)) (hl:es.length≤4294967296) (hz:∀ e∈es,e.length=11):CP 41 [.c (.sl es)] (.own 11 es) []:=by
 refine pcallF Tryz.func41 c41 rfl ?_
 have h0:([]:List (List CV)).length + es.length≤maxGrow:=by simp [maxGrow]; omega
 unfold p41
 repeat' (first | refine st9 ?_ | intro u)
 refine nq_ rfl (fun he=>?_) ?_
 ·subst he
  repeat' (first | refine st5 ?_ | intro u)
  exact Wn rfl rfl rfl
 ·repeat' (first | refine jr rfl rfl rfl rfl h0 hz rfl rfl (fun _ _=>?_) | refine st8 ?_ | intro u)
  exact Wn rfl rfl rfl
theorem Xa (es:List (List CV)) (hl:es.length≤4294967296) (hz:∀ e∈es,e.length=2):CP 128 [.c (.sl es)] (.c (.sl es)) []:=by
 refine pcallF Tryz.func128 c128 rfl ?_
 have h0:([]:List (List CV)).length + es.length≤maxGrow:=by simp [maxGrow]; omega
 unfold p128
 repeat' (first | refine st9 ?_ | intro u)
 refine nq_ rfl (fun he=>?_) ?_
 ·subst he
  repeat' (first | refine st2 ?_ | intro u)
  exact jd rfl rfl
 ·repeat' (first | refine WC rfl rfl rfl rfl h0 hz rfl (fun u=>?_) | refine st8 ?_ | intro u)
  exact jd rfl rfl
end Go.Proofs.YtnpncbplhdnonaaGreat
namespace Go.Proofs.YtnpncbplhdnonaaGreat
open Go.Pl Go.Bag Go.RowKit Go.Maps Go.Sort Go.Shelf
set_option maxRecDepth 100000
set_option maxHeartbeats 4000000
theorem ja1 (es:List (List CV)):CP 47 [.c (.sl es)] (.c (.sl es)) []:=by
 refine VK (cs:=[.sl es]) (jam Tryz.func47 (by kernel_rfl)) fun w O vs hn hV hO=>?_
 have hn1:vs.size=1:=by simpa using hn
 have hv:=hV 0 (by omega) (by simp)
 obtain ⟨v,rfl⟩:∃ v,vs=#[v]:=⟨vs[0]'(by omega),by
  apply Array.ext
  ·simpa using hn1
  ·intro i h1 h2
   obtain rfl:i=0:=by simp at h2; omega
   rfl⟩
 have hv:V w O v (.sl es):=hv
 have key:∀ (a:Option Addr) (len cap:Nat),v=.slice a len cap→len≤cap→V w O (.slice a len len) (.sl es)→Calls Tryz.prog 47 #[v] w fun e w'=>∃ v,e=.returned v∧V w' O v (.sl es)∧Below w.heap.size w w':=by
  intro a len cap hv0 hlc hV'
  subst hv0
  refine calls_of_wp Tryz.func47 rfl ?_
  simp only [Tryz.ntmps47,List.size_toArray,List.length_cons,List.length_nil,Nat.reduceAdd,Nat.reduceSub,Array.replicate_succ,Array.replicate_zero,List.push_toArray,List.append_toArray,List.nil_append,List.cons_append]
  go_wp2
  go_ret
  exact ⟨_,rfl,hV',Below.refl _ w⟩
 generalize hc:CV.sl es=c at hv
 have hv':=hv
 cases hv <;> cases hc
 ·exact key none 0 0 rfl (Nat.le_refl _) .nil
 ·exact key _ 0 _ rfl (Nat.zero_le _) (.emp _ 0)
 ·rename_i b off cap sz cf hb hN hz hcap h1 hr h
  exact key _ _ _ rfl hcap (.sl b off es.length sz es cf hb hN hz (Nat.le_refl _) h1 hr h)
end Go.Proofs.YtnpncbplhdnonaaGreat
/-
 THE KEYS OF A MAP AT PLACES,ONE BY ONE,IN WHATEVER ORDER; what slices.Collect,slices.SortedFunc make of them. The worked proofs at the dump of 'maps.Keys','slices.Collect' turned to keys that are rows of cells. My own.
-/
namespace Go.Proofs.YtnpncbplhdnonaaGreat
open Go.RowKit Go.Maps Go.Sort Go.Shelf Go.Pl
open Go.ChangeMaps (setBlock)
attribute [local go_sem] Oper.semAt_some
def encPV (p:Go.Bag.Place):List Value:=[.int .u8 p.p0,.int .u8 p.p1,.int .u8 p.p2,.int .u8 p.p3]
def encPA (p:Go.Bag.Place):Value:=.agg (encPV p).toArray
section
variable {F : Fence} {n : Nat} {P : Program} (w : World) {ops : Array Oper} {rest : List Oper} {o : Oper} {a : Act} {Q : Exit → Act → World → Prop}
theorem JW (hg:o.guard=none) (m:Operand) (t:TypeId) (hop:o.op=Op.range t m) (k e:TypeId) (ht:P.underlying t=some (.map k e)) (b:Nat) (arr:Array MapEntry) (clock:Nat)
  (hm:a.eval m=.map (some b)) (hb:w.heap[b]? = some (.map arr clock))
  (hK:wpListIn F n P ops Q rest (a.put o.dst (.pointer (some ⟨w.heap.size,0,none⟩))) (w.alloc (.mapIter (some b) clock #[] clock))) :
  wpListIn F n P ops Q (o::rest) a w:=by
 refine wpListIn_plain hg fun K' hK'=>?_
 have hrun:=run_range_map (P:=P) w t k e b arr clock ht hb
 unfold Oper.wpIn
 refine ⟨?_,?_⟩
 ·simp [Oper.about,hop]
 ·rw [Oper.semAt_plain F _ _ (by rw [hop]; intro c hc'; cases hc')]
  simp [execOp,hop,hm,hrun,Result.andThen]
  exact hK' _ _ hK
def InLeft (arr:Array MapEntry) (seen:Array Nat) (e:MapEntry):Prop:=e∈(leftOf arr seen).toList
def NextW (w w1:World):Prop:=w1=w∨w1=w.drew
theorem Vr (hg:o.guard=none) (it:Operand) (hop:o.op=Op.next it false) (b r clock:Nat) (arr:Array MapEntry) (seen:Array Nat) (hit:a.eval it=.pointer (some ⟨r,0,none⟩))
  (hr:w.heap[r]? = some (.mapIter (some b) clock seen clock)) (hb:w.heap[b]? = some (.map arr clock)) (hold:∀ x∈arr.toList,x.born < clock)
  (hDone:(leftOf arr seen).size=0→wpListIn F n P ops Q rest (a.put o.dst (.tuple #[.bool false])) w)
  (hMore:∀ (e:MapEntry) (w1:World),InLeft arr seen e→NextW w w1→wpListIn F n P ops Q rest (a.put o.dst (.tuple #[.bool true,e.key,e.val])) (setBlock w1 r (.mapIter (some b) clock (seen.push e.born) clock))) :
  wpListIn F n P ops Q (o::rest) a w:=by
 refine wpListIn_plain hg fun K' hK'=>?_
 unfold Oper.wpIn
 refine ⟨by simp [Oper.about,hop],?_⟩
 rw [Oper.semAt_plain F _ _ (by rw [hop]; intro c hc'; cases hc')]
 rcases run_next_at (P:=P) w o.type r b clock clock seen arr clock hr hb hold (Nat.le_refl _) with ⟨h0,hrun⟩ | ⟨e,he,w1,hal,hrun⟩
 ·simp [execOp,hop,hit,hrun,Result.andThen]
  exact hK' _ _ (hDone h0)
 ·simp [execOp,hop,hit,hrun,Result.andThen]
  exact hK' _ _ (hMore e w1 he hal)
end
theorem jdy {arr:Array MapEntry} {seen:Array Nat} {e:MapEntry} (hn:(arr.toList.map (·.born)).Nodup) (he:e∈(leftOf arr seen).toList):(leftOf arr seen).toList.Perm (e::(leftOf arr (seen.push e.born)).toList):=by
 have h1:=mem_left he
 have key:∀ l:List MapEntry,(l.map (·.born)).Nodup→e∈l→(l.filter fun x=>!seen.contains x.born).Perm (e::l.filter fun x=>!(seen.push e.born).contains x.born):=by
  intro l
  induction l with
  | nil=>intro _ h; simp at h
  | cons x l ih =>
   intro hn he
   have hn':=List.nodup_cons.1 hn
   rcases List.mem_cons.1 he with rfl | he'
   ·have e1:(l.filter fun x=>!(seen.push e.born).contains x.born)=l.filter fun x=>!seen.contains x.born:=by
     refine List.filter_congr fun y hy=>?_
     have hne:(y.born == e.born)=false:=by
      cases hc:y.born == e.born with
      | false=>rfl
      | true=>exact absurd (List.mem_map.2 ⟨y,hy,beq_iff_eq.1 hc⟩) hn'.1
     rw [contains_push,hne,Bool.or_false]
    rw [List.filter_cons_of_pos (by rw [h1.2]; rfl),List.filter_cons_of_neg (by rw [contains_push]; simp),e1]
   ·have hne:(x.born == e.born)=false:=by
     cases hc:x.born == e.born with
     | false=>rfl
     | true=>exact absurd (List.mem_map.2 ⟨e,he',(beq_iff_eq.1 hc).symm⟩) hn'.1
    have hx:(seen.push e.born).contains x.born=seen.contains x.born:=by rw [contains_push,hne,Bool.or_false]
    by_cases hs:seen.contains x.born=true
    ·rw [List.filter_cons_of_neg (by rw [hs]; decide),List.filter_cons_of_neg (by rw [hx,hs]; decide)]
     exact ih hn'.2 he'
    ·have hs':seen.contains x.born=false:=by simpa using hs
     rw [List.filter_cons_of_pos (by rw [hs']; rfl),List.filter_cons_of_pos (by rw [hx,hs']; rfl)]
     exact (List.Perm.cons x (ih hn'.2 he')).trans (List.Perm.swap e x _)
 have:=key arr.toList hn h1.1
 unfold leftOf
 rw [Array.toList_filter,Array.toList_filter]
 exact this
def SeqP (F:Fence) (n:Nat) (P:Program) (g:Nat) (lb:Array Value) (S:List Go.Bag.Place→Prop) (N:Nat) (w:World):Prop :=
 ∀ (l:Nat) (J:List Go.Bag.Place→World→Prop) (W:World),Below w.heap.size w W→AbidesFrom W.heap.size J→(∀ ss W1,J ss W1→Below w.heap.size w W1) →
  (∀ pre x W1,J pre W1→pre.length < N→YieldAt F (n - 1) P l #[encPA x] W1 fun e W'=>e=.returned (.bool true)∧J (pre++[x]) W'∧KeepsWalks W1 W') →
  J [] W →
  CallsIn F n P g (#[.func (.yield l) #[] #[]]++lb) W fun e W'=>(∃ v,e=.returned v)∧∃ xs,S xs∧J xs W'
def iterLeft (arr:Array MapEntry) (r:Nat) (w:World):Nat:=match w.heap[r]? with
 | some (.mapIter _ _ seen _)=>(leftOf arr seen).size
 | _=>0
set_option maxRecDepth 100000 in
set_option maxHeartbeats 2000000 in
theorem jiq (F:Fence) (n:Nat) (h7:F.fn 133) (hro:F.round=none) (hn:1≤n) (l Bm om b clock:Nat) (arr:Array MapEntry) (kp:MapEntry→Go.Bag.Place) (hk:∀ e∈arr.toList,e.key=encPA (kp e)) (hborn:∀ e∈arr.toList,e.born < clock) (hnd:(arr.toList.map (·.born)).Nodup)
  (J:List Go.Bag.Place→World→Prop) (hB:∀ ss W1,J ss W1→W1.heap[b]? = some (.map arr clock))
  (hY:∀ pre x W,J pre W→pre.length < arr.size→YieldAt F (n - 1) Tryz.prog l #[encPA x] W fun e W'=>e=.returned (.bool true)∧J (pre++[x]) W'∧KeepsWalks W W')
  (W:World) (hJ:AbidesFrom W.heap.size J) (hBm:W.cell? ⟨Bm,om,none⟩=some (.map (some b))) (hb:b < W.heap.size) (h0:J [] W) :
  CallsIn F n Tryz.prog 133 #[.func (.yield l) #[] #[],.pointer (some ⟨Bm,om,none⟩)] W fun e W'=>(∃ v,e=.returned v)∧∃ ss,ss.Perm (arr.toList.map kp)∧J ss W':=by
 refine callsIn_of_wp Tryz.func133 rfl h7 ?_ hro
 simp only [Tryz.ntmps133,List.size_toArray,List.length_cons,List.length_nil,Nat.reduceAdd,Nat.reduceSub,Array.replicate_succ,Array.replicate_zero,List.push_toArray,List.append_toArray,List.nil_append,List.cons_append]
 have hWb:=hB _ _ h0
 have ht:Tryz.prog.underlying 142=some (.map 50 80):=by kernel_rfl
 gi_wp2_with (first
  | (gi_at_range; refine JW _ rfl _ _ rfl _ _ ht b arr clock rfl hWb ?_)
  | gi_in)
 go_frame
 gi_loopw [3] (fun _ wr=>∃ (seen:Array Nat) (ss:List Go.Bag.Place),wr.heap[W.heap.size]? = some (.mapIter (some b) clock seen clock)∧J ss wr∧(ss++(leftOf arr seen).toList.map kp).Perm (arr.toList.map kp))
  (fun _ wr=>iterLeft arr W.heap.size wr)
 case atStart =>
  refine ⟨#[],[],World.alloc_heap_new W _,hJ [] W _ none h0 (World.grownBy_alloc W _ none) (fun r e=>by cases e),?_⟩
  have e0:leftOf arr #[]=arr:=by unfold leftOf; rw [Array.filter_eq_self]; intro a _; simp
  rw [e0,List.nil_append]
 case round =>
  obtain ⟨seen,ss,hrg,hJs,hC⟩:=hrel
  have hbr:=hB _ _ hJs
  gi_wp2_with (first
   | (gi_at_next; refine Vr _ rfl _ rfl b W.heap.size clock arr seen rfl hrg hbr hborn ?_ ?_)
   | gi_in)
  ·-- nothing is left
   intro hc0
   gi_wp2
   go_end0
   refine ⟨⟨_,rfl⟩,ss,?_,hJs⟩
   rw [hc0] at hC
   simpa using hC
  ·-- an entry has come
   intro e w1 he hw1
   unfold InLeft at he
   unfold NextW at hw1
   obtain ⟨hem,hes⟩:=mem_left he
   have hke:=hk e hem
   have hr1:w1.heap[W.heap.size]? = some (.mapIter (some b) clock seen clock):=by rcases hw1 with rfl | rfl <;> exact hrg
   have hb1:w1.heap[b]? = some (.map arr clock):=by rcases hw1 with rfl | rfl <;> exact hbr
   have hset:=Go.MapKept.heap_set (o':=.mapIter (some b) clock (seen.push e.born) clock) hr1
   have hb2:(setBlock w1 W.heap.size (.mapIter (some b) clock (seen.push e.born) clock)).heap[b]? = some (.map arr clock):=(hset.2 b (by omega)).trans hb1
   have hen:=run_entry_at (P:=Tryz.prog) _ W.heap.size b clock seen arr clock e hset.1 hb2 hem hnd
   have hg2:wr.grownBy (setBlock w1 W.heap.size (.mapIter (some b) clock (seen.push e.born) clock)) (some W.heap.size):=by
    rcases hw1 with rfl | rfl <;> exact ⟨rfl,rfl,rfl,by simp [setBlock],fun i _ hi=>hset.2 i (fun e1=>hi (by rw [e1]))⟩
   have hJ2:=hJ ss wr _ (some W.heap.size) hJs hg2 (fun r e=>by cases e; exact ⟨Nat.le_refl _,_,hrg,rfl⟩)
   have hr2:(setBlock w1 W.heap.size (.mapIter (some b) clock (seen.push e.born) clock)).heap[W.heap.size]? = some (.mapIter (some b) clock (seen.push e.born) clock):=hset.1
   generalize setBlock w1 W.heap.size (.mapIter (some b) clock (seen.push e.born) clock)=w2 at hb2 hen hg2 hJ2 hr2
   clear hset
   have hlt:ss.length < arr.size:=by
    have h1:=hC.length_eq
    have h2:0 < (leftOf arr seen).toList.length:=List.length_pos_of_mem he
    simp at h1 h2
    omega
   have hsh:=left_shrinks arr seen e he
   have hCp:((ss++[kp e])++(leftOf arr (seen.push e.born)).toList.map kp).Perm (arr.toList.map kp):=by
    refine List.Perm.trans ?_ hC
    rw [List.append_assoc]
    exact (((jdy hnd he).map kp).symm).append_left ss
   rw [hke] at hen
   generalize kp e=x at hen hCp
   clear hke hem hes he
   unfold encPA encPV at hen
   have hg5:=World.grownBy_alloc w2 (.cells #[.int .u8 x.p0,.int .u8 x.p1,.int .u8 x.p2,.int .u8 x.p3] 50) none
   have hJ5:=hJ ss w2 _ none hJ2 hg5 (fun r e=>by cases e)
   have hr5:(w2.alloc (.cells #[.int .u8 x.p0,.int .u8 x.p1,.int .u8 x.p2,.int .u8 x.p3] 50)).heap[W.heap.size]? = some (.mapIter (some b) clock (seen.push e.born) clock):=(hg5.block _ (Array.getElem?_eq_some_iff.1 hr2).1 (by simp)).trans hr2
   obtain ⟨fn,tmps,assign,body,hy,hR⟩:=hY ss x _ hJ5 hlt
   unfold encPA encPV at hy
   gi_wp2
   refine hR.mono ?_
   rintro e' W3 ⟨rfl,hJ3,hk3⟩
   gi_wp2
   have hr3:=hk3.same _ _ hr5 rfl
   go_roundw
   case rel=>exact ⟨seen.push e.born,ss++[x],hr3,hJ3,hCp⟩
   case measure=>unfold iterLeft; rw [hr3,hrg]; exact hsh
theorem jdz (F:Fence) (n:Nat) (h7:F.fn 133) (hro:F.round=none) (hn:1≤n) (Bm om b clock:Nat) (arr:Array MapEntry) (kp:MapEntry→Go.Bag.Place) (hk:∀ e∈arr.toList,e.key=encPA (kp e)) (hborn:∀ e∈arr.toList,e.born < clock) (hnd:(arr.toList.map (·.born)).Nodup)
  (w:World) (hBm:Bm < w.heap.size) (hb:b < w.heap.size) (hc:w.cell? ⟨Bm,om,none⟩=some (.map (some b))) (hm:w.heap[b]? = some (.map arr clock)) :
  SeqP F n Tryz.prog 133 #[.pointer (some ⟨Bm,om,none⟩)] (fun ss=>ss.Perm (arr.toList.map kp)) arr.size w:=fun l J W hW hJa hJ hY h0 =>
 jiq F n h7 hro hn l Bm om b clock arr kp hk hborn hnd J (fun ss W1 h=>((hJ ss W1 h).block b hb).trans hm) hY W hJa ((hW.cell (p:=⟨Bm,om,none⟩) hBm).trans hc) (by have:=hW.size; omega) h0
end Go.Proofs.YtnpncbplhdnonaaGreat
/-
 slices.AppendSeq,slices.Collect AT PLACES,AGAINST WHATEVER ITERATOR. The worked proof at the dump of 'slices.Collect' (keys of one cell) turned to rows of four cells. My own.
-/
namespace Go.Proofs.YtnpncbplhdnonaaGreat
open Go.RowKit Go.Maps Go.Sort Go.Shelf Go.Pl
attribute [local go_sem] Oper.semAt_some
def flatP (ss:List Go.Bag.Place):List Value:=ss.flatMap encPV
theorem ja2 (ss:List Go.Bag.Place) (x:Go.Bag.Place):flatP (ss++[x])=flatP ss++encPV x:=by simp [flatP]
def apAssign : Code := (Code.region 2 #[{ dst := some 5, op := Op.alloc 50, type := 0, pos := "iter.go:51", after := #[], guard := none }, { dst := none, op := Op.store 50 (Operand.tmp 5) (Operand.tmp 7), type := 0, pos := "iter.go:51", after := #[{ on := 0, ground := Ground.data }, { on := 0, ground := Ground.phase }], guard := none }] false)
def apBody : Code := (Code.block 1 (Code.region 3 #[{ dst := some 8, op := Op.load 119 (Operand.tmp 2), type := 119, pos := "iter.go:52", after := #[], guard := none }, { dst := some 9, op := Op.load 50 (Operand.tmp 5), type := 50, pos := "iter.go:52", after := #[], guard := none }, { dst := some 10, op := Op.buildSlice 119 1 #[(0, Operand.tmp 9)], type := 119, pos := "iter.go:52", after := #[{ on := 1, ground := Ground.data }], guard := none }, { dst := some 11, op := Op.call { callee := Callee.builtin Builtin.append, args := #[Operand.tmp 8, Operand.tmp 10], argTypes := #[119, 119] }, type := 119, pos := "iter.go:52", after := #[{ on := 0, ground := Ground.data }, { on := 2, ground := Ground.data }], guard := none }, { dst := none, op := Op.store 119 (Operand.tmp 2) (Operand.tmp 11), type := 0, pos := "iter.go:52", after := #[{ on := 3, ground := Ground.data }, { on := 3, ground := Ground.chain }, { on := 0, ground := Ground.phase }, { on := 1, ground := Ground.phase }, { on := 2, ground := Ground.phase }, { on := 3, ground := Ground.phase }], guard := none }] false))
def apRec (fn:FuncId) (sv:Value) (Bs D:Nat) (st:LoopState) (pend:Option Code):Loop :=
 { state:=st,pending:=pend,fn,tmps:=#[.slice none 0 0,sv,.pointer (some ⟨Bs,0,none⟩),undef,.slice none 0 0,undef,sv,undef,undef,undef,undef,undef,undef],params:=#[7],assign:=apAssign,body:=apBody,defers:=D }
structure ApAt (w0:World) (fn:FuncId) (sv:Value) (Bs l D:Nat) (ss:List Go.Bag.Place) (W:World):Prop where
 box:∃ v,W.heap[Bs]? = some (.cells #[v] 119 (0,0))∧W.ownsRow w0.heap.size 50 4 v ss.length (flatP ss)∧(v=.slice none 0 0↔ss=[])
 L:W.heap[l]? = some (.loop (apRec fn sv Bs D .ready none))
 K:W.heap[D]? = some (.deferred (some []))
 below:Below w0.heap.size w0 W
theorem ap_abides (w0:World) (fn:FuncId) (sv:Value) (Bs l D B:Nat) (hB:w0.heap.size≤B):AbidesFrom B (ApAt w0 fn sv Bs l D):=fun s W W' row h hg hrow=>by
 have hrow':∀ r,row=some r→∃ o:Obj,W.heap[r]? = some o∧o.isWalk=true:=fun r e=>(hrow r e).2
 obtain ⟨v,hv,hr,hn⟩:=h.box
 exact ⟨⟨v,(grownBy_keeps hg hrow' hv rfl).trans hv,ownsRow_abides_a hr hg hrow',hn⟩,(grownBy_keeps hg hrow' h.L rfl).trans h.L,(grownBy_keeps hg hrow' h.K rfl).trans h.K,
  h.below.grown hg h.below.size (fun k e=>Nat.le_trans hB (hrow k e).1)⟩
theorem jd0 (w:World) (xs:List Value) (t:TypeId):∀ j u,xs[j]? = some u→(w.alloc (.cells xs.toArray t)).cell? ((⟨w.heap.size,0,none⟩:Addr).add j)=some u:=by
 intro j u hj
 have e:((⟨w.heap.size,0,none⟩:Addr).add j)=⟨w.heap.size,j,none⟩:=by simp [Addr.add]; intro h; exact h.symm
 rw [e]
 have h:=World.alloc_heap_new w (.cells xs.toArray t)
 simp only [World.cell?,h]
 simpa using hj
set_option maxRecDepth 100000 in
set_option maxHeartbeats 4000000 in
theorem apYield (F : Fence) (m : Nat) (w0 : World) (fn : FuncId) (hfn : F.fn fn) (sv : Value) (Bs l D : Nat) (hBl : Bs ≠ l) (hDl : D ≠ l) (hDB : D ≠ Bs) (h0B : w0.heap.size ≤ Bs) (h0l : w0.heap.size ≤ l)
    (N : Nat) (hN : N ≤ maxLen) (hNb : N * 4 ≤ 140737488355328) (ss : List Go.Bag.Place) (x : Go.Bag.Place) (W : World) (h : ApAt w0 fn sv Bs l D ss W) (hlen : ss.length < N) :
    YieldAt F m Tryz.prog l #[encPA x] W fun e W' => e = .returned (.bool true) ∧ ApAt w0 fn sv Bs l D (ss ++ [x]) W' ∧ KeepsWalks W W' := by
  have hty : Tryz.prog.underlying 119 = some (.slice 50) := by kernel_rfl
  have hif : (Tryz.prog.info? 50).map (fun i => (i.zero, i.size, i.bytes)) = some (some (.agg #[.int .u8 0, .int .u8 0, .int .u8 0, .int .u8 0]), 4, 4) := by kernel_rfl
  obtain ⟨i0, hi, hz0, hz1, hz2⟩ := info_parts hif
  obtain ⟨v, hv, hrow, _⟩ := h.box
  refine ⟨fn, #[.slice none 0 0, sv, .pointer (some ⟨Bs, 0, none⟩), undef, .slice none 0 0, undef, sv, encPA x, undef, undef, undef, undef, undef], apAssign, apBody, by simpa [apRec] using run_yield (P := Tryz.prog) (args := #[encPA x]) h.L rfl, roundIn_of_wpIn hfn ?_⟩
  obtain ⟨Wa, hWa⟩ : ∃ Wa, W.alloc (.cells #[.int .u8 x.p0, .int .u8 x.p1, .int .u8 x.p2, .int .u8 x.p3] 50) = Wa := ⟨_, rfl⟩
  have hga : W.grownBy Wa none := by rw [← hWa]; exact World.grownBy_alloc W _ none
  have hka : KeepsWalks W Wa := by rw [← hWa]; exact KeepsWalks.alloc _ _
  have hsa : Wa.heap.size = W.heap.size + 1 := by rw [← hWa]; simp
  have hxa : Wa.heap[W.heap.size]? = some (.cells #[.int .u8 x.p0, .int .u8 x.p1, .int .u8 x.p2, .int .u8 x.p3] 50 (0, 0)) := by rw [← hWa]; exact World.alloc_heap_new W _
  have hla : Wa.heap[l]? = some (.loop (apRec fn sv Bs D .ready none)) := (hga.block _ (Array.getElem?_eq_some_iff.1 h.L).1 (by simp)).trans h.L
  have hKa : Wa.heap[D]? = some (.deferred (some [])) := (hga.block _ (Array.getElem?_eq_some_iff.1 h.K).1 (by simp)).trans h.K
  have hva : Wa.heap[Bs]? = some (.cells #[v] 119 (0, 0)) := (hga.block _ (Array.getElem?_eq_some_iff.1 hv).1 (by simp)).trans hv
  have hrowa : Wa.ownsRow w0.heap.size 50 4 v ss.length (flatP ss) := by rw [← hWa]; exact hrow.alloc _
  have hba : Below w0.heap.size w0 Wa := by rw [← hWa]; exact h.below.alloc h.below.size _
  have hl : l < Wa.heap.size := (Array.getElem?_eq_some_iff.1 hla).1
  have hlW : l < W.heap.size := (Array.getElem?_eq_some_iff.1 h.L).1
  have hbr := run_beginRound (P := Tryz.prog) hla rfl
  obtain ⟨W2, hW2⟩ : ∃ W2, Wa.putObj l (.loop { apRec fn sv Bs D .ready none with state := .busy }) = W2 := ⟨_, rfl⟩
  rw [hW2] at hbr
  have hg2 : Wa.grownBy W2 (some l) := by rw [← hW2]; exact grownBy_putObj_a _ _ _
  have hk2 : KeepsWalks W W2 := by rw [← hW2]; exact hka.trans (KeepsWalks.putObj _ hla rfl)
  have hv2 : W2.heap[Bs]? = some (.cells #[v] 119 (0, 0)) := by rw [← hW2]; exact (World.putObj_heap_other hBl).trans hva
  have hK2 : W2.heap[D]? = some (.deferred (some [])) := by rw [← hW2]; exact (World.putObj_heap_other hDl).trans hKa
  have hx2 : W2.heap[W.heap.size]? = some (.cells #[.int .u8 x.p0, .int .u8 x.p1, .int .u8 x.p2, .int .u8 x.p3] 50 (0, 0)) := by rw [← hW2]; exact (World.putObj_heap_other (by omega)).trans hxa
  have hL2 : W2.heap[l]? = some (.loop { apRec fn sv Bs D .ready none with state := .busy }) := by rw [← hW2]; exact World.putObj_heap_same hl
  have hrow2 : W2.ownsRow w0.heap.size 50 4 v ss.length (flatP ss) := hrowa.kept hg2 (ownsRow_ne_a hrowa hla (fun cur e => by cases e))
  have hb2 : Below w0.heap.size w0 W2 := hba.grown hg2 hba.size (fun k e => by cases e; exact h0l)
  obtain ⟨hc2, hf2⟩ := cell_of_box_a hv2
  have q0 : W2.cell? ⟨W.heap.size, 0, none⟩ = some (.int .u8 x.p0) := by simp [World.cell?, hx2]
  have q1 : W2.cell? ⟨W.heap.size, 1, none⟩ = some (.int .u8 x.p1) := by simp [World.cell?, hx2]
  have q2 : W2.cell? ⟨W.heap.size, 2, none⟩ = some (.int .u8 x.p2) := by simp [World.cell?, hx2]
  have q3 : W2.cell? ⟨W.heap.size, 3, none⟩ = some (.int .u8 x.p3) := by simp [World.cell?, hx2]
  have hBlt : Bs < W2.heap.size := (Array.getElem?_eq_some_iff.1 hv2).1
  have hl2 : l < W2.heap.size := (Array.getElem?_eq_some_iff.1 hL2).1
  have hDlt : D < W2.heap.size := (Array.getElem?_eq_some_iff.1 hK2).1
  have ne_of : ∀ {j : Nat} {o : Obj}, W2.heap[j]? = some o → (∀ cur, o ≠ .cells cur 50 (0, 0)) → some j ≠ v.ownBlock := fun hj hno => by
    rcases ownsRow_ne_a hrow2 hj hno with e | e
    · rw [e]; simp
    · exact fun e' => e e'.symm
  clear hW2
  unfold apAssign encPA encPV
  gi_wp2_with gi_round_op_a
  unfold apBody
  gi_wp2_with (first
    | (gi_at_builtin; refine wpListIn_append_own _ rfl _ _ 119 rfl w0.heap.size 50 i0 (.agg #[.int .u8 0, .int .u8 0, .int .u8 0, .int .u8 0]) 4 4 hty hi hz0 hz1 hz2 rfl (by decide) _ _ _ rfl (hrow2.alloc _) ⟨W2.heap.size, 0, none⟩ 1 1 (encPV x) rfl rfl (jd0 _ _ _) (by simp [Value.oneCell', encPV]) (by omega) (by omega) (by have := hb2.size; simp; omega) ?_; intro v' w3 hown' hg3 hnil3
       have hv3 : w3.heap[Bs]? = some (.cells #[v] 119 (0, 0)) := (hg3.block Bs (by simp; omega) (ne_of hv2 (fun cur e => by cases e))).trans ((Below.heap_alloc _ _ Bs hBlt).trans hv2)
       obtain ⟨hc3, hf3⟩ := cell_of_box_a hv3
       obtain ⟨g', cap', cur', rfl, hbase', hgb', hr1, hr2, hr3, hr4⟩ : ∃ g' cap' cur', v' = .slice (some ⟨g', 0, none⟩) (ss.length + 1) cap' ∧ w0.heap.size ≤ g' ∧ w3.heap[g']? = some (.cells cur' 50 (0, 0)) ∧ ss.length + 1 ≤ cap' ∧ cap' ≤ maxLen ∧ cur'.size = cap' * 4 ∧ cur'.toList.take ((ss.length + 1) * 4) = flatP ss ++ encPV x := by
         rcases hown'.2 with ⟨_, h0⟩ | h'
         · exact absurd h0 (by omega)
         · exact h'
       go_frame)
    | gi_round_op_a)
  have hg3' : (W2.alloc (.cells (encPV x).toArray 50)).grownBy w3 v.ownBlock := hg3
  have hL3 : w3.heap[l]? = some (.loop { apRec fn sv Bs D .ready none with state := .busy }) := (hg3'.block l (by simp; omega) (ne_of hL2 (fun cur e => by cases e))).trans ((Below.heap_alloc _ _ l hl2).trans hL2)
  have hK3 : w3.heap[D]? = some (.deferred (some [])) := (hg3'.block D (by simp; omega) (ne_of hK2 (fun cur e => by cases e))).trans ((Below.heap_alloc _ _ D hDlt).trans hK2)
  obtain ⟨w4, hw4⟩ : ∃ w4, w3.setCell ⟨Bs, 0, none⟩ (.slice (some ⟨g', 0, none⟩) (ss.length + 1) cap') = w4 := ⟨_, rfl⟩
  rw [hw4]
  have hg4 : w3.grownBy w4 (some Bs) := by rw [← hw4]; exact grownBy_setCell0_a _ _ _
  have hv4 : w4.heap[Bs]? = some (.cells #[.slice (some ⟨g', 0, none⟩) (ss.length + 1) cap'] 119 (0, 0)) := by rw [← hw4]; exact heap_setCell_box_a _ hv3
  have hL4 : w4.heap[l]? = some (.loop { apRec fn sv Bs D .ready none with state := .busy }) := (hg4.block l (Array.getElem?_eq_some_iff.1 hL3).1 (fun e => hBl (by cases e; rfl))).trans hL3
  have hK4 : w4.heap[D]? = some (.deferred (some [])) := (hg4.block D (Array.getElem?_eq_some_iff.1 hK3).1 (fun e => hDB (by cases e; rfl))).trans hK3
  have hrow4 := hown'.kept hg4 (ownsRow_ne_a hown' hv3 (fun cur e => by cases e))
  have hl4 : l < w4.heap.size := (Array.getElem?_eq_some_iff.1 hL4).1
  have hb3 : Below w0.heap.size w0 w3 := (hb2.alloc hb2.size _).grown hg3' (by have := hb2.size; simp; omega) (fun k e => (hrow2.lt k e).1)
  have hb4 : Below w0.heap.size w0 w4 := hb3.grown hg4 hb3.size (fun k e => by cases e; exact h0B)
  have hk4 : KeepsWalks W w4 := ((hk2.trans (KeepsWalks.alloc _ _)).trans (KeepsWalks.of_grownBy hg3' (ownsRow_not_walk_a (hrow2.alloc _)))).trans (by rw [← hw4]; exact KeepsWalks.setCell _ _ _)
  clear hw4
  refine ⟨_, _, run_endRound none hL4, rfl, ⟨⟨_, (World.putObj_heap_other hBl).trans hv4, ?_, by simp⟩, World.putObj_heap_same hl4, (World.putObj_heap_other hDl).trans hK4, hb4.grown (grownBy_putObj_a _ _ _) hb4.size (fun k e => by cases e; exact h0l)⟩, hk4.trans (KeepsWalks.putObj _ hL4 rfl)⟩
  have := hrow4.kept (grownBy_putObj_a w4 l (.loop { { apRec fn sv Bs D .ready none with state := .busy } with state := if (none : Option Code).isNone then .ready else .done, pending := none })) (ownsRow_ne_a hrow4 hL4 (fun cur e => by cases e))
  rw [ja2]
  simpa using this
set_option maxRecDepth 100000 in
set_option maxHeartbeats 2000000 in
theorem appendSeqP (F:Fence) (n:Nat) (h11:F.fn 155) (hro:F.round=none) (hn:2≤n) (g:Nat) (lb:Array Value) (hFg:F.fn g) (eg:∀ args w,(callFunc g args).run Tryz.prog w=.ok (.enter g args) w)
    (S:List Go.Bag.Place→Prop) (N:Nat) (hN:N≤maxLen) (hNb:N * 4≤140737488355328) (w:World) (hseq:SeqP F (n - 1) Tryz.prog g lb S N w) :
    CallsIn F n Tryz.prog 155 #[.slice none 0 0,.func (.func g) #[] lb] w fun e w'=>∃ (v:Value) (ss:List Go.Bag.Place),e=.returned v∧S ss∧w'.ownsRow w.heap.size 50 4 v ss.length (flatP ss)∧(v=.slice none 0 0↔ss=[])∧Below w.heap.size w w':=by
  have h1:1≤n:=by omega
  refine callsIn_of_wp_marks Tryz.func155 rfl h11 ?_ hro
  simp only [Tryz.ntmps155,List.size_toArray,List.length_cons,List.length_nil,Nat.reduceAdd,Nat.reduceSub,Array.replicate_succ,Array.replicate_zero,List.push_toArray,List.append_toArray,List.nil_append,List.cons_append]
  gi_wp2
  refine wpIn_rangeFunc ?_
  intro fn hfn
  rw [hro]
  obtain ⟨W0,hW0⟩:∃ W0,w.alloc (.cells #[.slice none 0 0] 119)=W0:=⟨_,rfl⟩
  have hs0:W0.heap.size=w.heap.size + 1:=by rw [← hW0]; simp
  have hv0:W0.heap[w.heap.size]? = some (.cells #[.slice none 0 0] 119 (0,0)):=by rw [← hW0]; exact World.alloc_heap_new w _
  have hb0:Below w.heap.size w W0:=by rw [← hW0]; exact (Below.refl _ w).alloc (Nat.le_refl _) _
  rw [hW0]
  obtain ⟨W1,hW1⟩:∃ W1,(W0.alloc (.deferred (some []))).alloc (.loop (apRec fn (.func (.func g) #[] lb) w.heap.size W0.heap.size .ready none))=W1:=⟨_,rfl⟩
  have hold:∀ k,k < W0.heap.size→W1.heap[k]? = W0.heap[k]?:=fun k hk=>by
    rw [← hW1]; exact (Below.heap_alloc _ _ k (by simp; omega)).trans (Below.heap_alloc _ _ k hk)
  have hb1:Below w.heap.size w W1:=by rw [← hW1]; exact (hb0.alloc hb0.size _).alloc (by have:=hb0.size; simp; omega) _
  have hs1:W1.heap.size=W0.heap.size + 2:=by rw [← hW1]; simp
  have hM:ApAt w fn (.func (.func g) #[] lb) w.heap.size (W0.heap.size + 1) W0.heap.size [] W1 :=
    ⟨⟨_,(hold w.heap.size (by omega)).trans hv0,⟨rfl,.inl ⟨rfl,rfl⟩⟩,by simp⟩,
     by rw [← hW1]; have:=World.alloc_heap_new (W0.alloc (.deferred (some []))) (.loop (apRec fn (.func (.func g) #[] lb) w.heap.size W0.heap.size .ready none)); rwa [World.size_alloc] at this,
     by rw [← hW1]; exact (Below.heap_alloc _ _ _ (by simp)).trans (World.alloc_heap_new W0 _),hb1⟩
  refine ⟨W0.heap.size + 1,[{ target:=.collected W0.heap.size,args:=#[] }],W1,{ target:=.fn (.func g) lb,args:=#[.func (.yield (W0.heap.size + 1)) #[] #[]] },W1,g,
    #[.func (.yield (W0.heap.size + 1)) #[] #[]]++lb,W1,?_,?_,?_,?_,fun _=>h1,?_⟩
  · rw [← hW1]; exact run_enterLoop_outer _ _ _ _ _
  · simp [resolve,go_sem]
  · intro f' hf'; simp [Target.leads] at hf'; subst hf'; exact hFg
  · simp [invoke,go_sem,eg]
  · refine (hseq (W0.heap.size + 1) (ApAt w fn (.func (.func g) #[] lb) w.heap.size (W0.heap.size + 1) W0.heap.size) W1 hb1 (ap_abides _ _ _ _ _ _ _ hb1.size) (fun ss W h=>h.below)
      (fun pre x W hJ hl=>apYield F (n - 1 - 1) w fn hfn _ w.heap.size (W0.heap.size + 1) W0.heap.size (by omega) (by omega) (by omega) (Nat.le_refl _) (by omega) N hN hNb pre x W hJ hl) hM).mono ?_
    rintro e W2 ⟨⟨v0,rfl⟩,ss,hS,h2⟩
    obtain ⟨v,hv,hrow,hnil⟩:=h2.box
    have hend:=run_endLoop (P:=Tryz.prog) h2.L (by simp [apRec])
    obtain ⟨W3,hW3⟩:∃ W3,W2.putObj (W0.heap.size + 1) (.loop { apRec fn (.func (.func g) #[] lb) w.heap.size W0.heap.size .ready none with state:=.exhausted })=W3:=⟨_,rfl⟩
    rw [hW3] at hend
    have hg3:W2.grownBy W3 (some (W0.heap.size + 1)):=by rw [← hW3]; exact grownBy_putObj_a _ _ _
    have hv3:W3.heap[w.heap.size]? = some (.cells #[v] 119 (0,0)):=by rw [← hW3]; exact (World.putObj_heap_other (by omega)).trans hv
    have hK3:W3.heap[W0.heap.size]? = some (.deferred (some [])):=by rw [← hW3]; exact (World.putObj_heap_other (by omega)).trans h2.K
    have hrow3:=hrow.kept hg3 (ownsRow_ne_a hrow h2.L (fun cur e=>by cases e))
    have hb3:Below w.heap.size w W3:=h2.below.grown hg3 h2.below.size (fun k e=>by cases e; omega)
    obtain ⟨hc3,hf3⟩:=cell_of_box_a hv3
    clear hW3
    refine ⟨none,W3,hend,?_⟩
    gi_wp2
    rw [← hs0]
    refine ⟨by simp,.inl ⟨_,_,rfl,run_takeDeferred hK3,?_⟩⟩
    exact ⟨_,results_tmp rfl _ _ _,v,ss,rfl,hS,hrow3.kept (grownBy_putObj_a _ _ _) (ownsRow_ne_a hrow3 hK3 (fun cur e=>by cases e)),hnil,hb3.grown (grownBy_putObj_a _ _ _) hb3.size (fun k e=>by cases e; omega)⟩
set_option maxRecDepth 100000 in
set_option maxHeartbeats 2000000 in
theorem collectP (F:Fence) (n:Nat) (h8:F.fn 131) (h11:F.fn 155) (hro:F.round=none) (hn:3≤n) (g:Nat) (lb:Array Value) (hFg:F.fn g) (eg:∀ args w,(callFunc g args).run Tryz.prog w=.ok (.enter g args) w)
  (S:List Go.Bag.Place→Prop) (N:Nat) (hN:N≤maxLen) (hNb:N * 4≤140737488355328) (w:World) (hseq:SeqP F (n - 1 - 1) Tryz.prog g lb S N w) :
  CallsIn F n Tryz.prog 131 #[.func (.func g) #[] lb] w fun e w'=>∃ (v:Value) (ss:List Go.Bag.Place),e=.returned v∧S ss∧w'.ownsRow w.heap.size 50 4 v ss.length (flatP ss)∧(v=.slice none 0 0↔ss=[])∧Below w.heap.size w w':=by
 have h1:1≤n:=by omega
 refine callsIn_of_wp Tryz.func131 rfl h8 ?_ hro
 simp only [Tryz.ntmps131,List.size_toArray,List.length_cons,List.length_nil,Nat.reduceAdd,Nat.reduceSub,Array.replicate_succ,Array.replicate_zero,List.push_toArray,List.append_toArray,List.nil_append,List.cons_append]
 gi_wp2_with (gi_at_call 155; refine (appendSeqP F (n - 1) h11 hro (by omega) g lb hFg eg S N hN hNb _ hseq).mono ?_; rintro e w' ⟨v,ss,rfl,hS,hrow,hnil,hb⟩)
 go_ret
 exact ⟨v,ss,rfl,hS,hrow,hnil,hb⟩
end Go.Proofs.YtnpncbplhdnonaaGreat
/-
 ROWS OF A CATALOG,PLAIN: in order,their mass,what a batch makes of them. My own work.
-/
namespace Go.Bag
open Go.Pl
set_option maxRecDepth 100000
def ab (a:Int):Int:=if a < 0 then -a else a
def most:Int:=2305843009213693952
def massS:Int→Int→List RowS→Option (Int × Int)
 | a,b,[]=>some (a,b)
 | a,b,r::l=>if ab r.m0≤most - a∧ab r.m1≤most - b then massS (a + ab r.m0) (b + ab r.m1) l else none
def massV:Option (Int × Int)→List CV
 | some (a,b)=>[.int .i64 a,.int .i64 b,.bool true]
 | none=>[.int .i64 0,.int .i64 0,.bool false]
def rowsOk (c:CatS) (l:List RowS):Bool:=l.all (goodR c) && (goodCat c && (massS 0 0 l).isSome)
theorem YH {α:Type} (p:α→Bool) (l:List α):l.take (l.takeWhile p).length=l.takeWhile p:=by
 have h:=List.takeWhile_append_dropWhile (p:=p) (l:=l)
 generalize l.takeWhile p=a at *
 generalize l.dropWhile p=b at *
 subst h; simp
theorem YI {α:Type} (p:α→Bool) (l:List α):l.drop (l.takeWhile p).length=l.dropWhile p:=by
 have h:=List.takeWhile_append_dropWhile (p:=p) (l:=l)
 generalize l.takeWhile p=a at *
 generalize l.dropWhile p=b at *
 subst h; simp
theorem jf4 (a:Int):0≤ab a:=by unfold ab; split <;> omega
end Go.Bag
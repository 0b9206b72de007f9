/- Part of the proof of ExecSlices: lemmas. -/
import Derived.Test.YtnpncbplhdnonaaGreatExecSlicesJ6
set_option linter.unusedVariables false
set_option linter.unusedSimpArgs false
namespace Go.Proofs.YtnpncbplhdnonaaGreat
open Go.Pl Go.Bag
set_option maxHeartbeats 16000000
set_option maxRecDepth 100000
/-! ### Sums over all lines, over all slices -/
theorem sumI_app:∀ (x y:List Int),sumI (x++y)=sumI x + sumI y
 | [],y=>by simp [sumI]
 | a::x,y=>by simp only [List.cons_append,sumI,sumI_app x y]; omega
def wt9 (g:RowS→Int) (X:List RowS):Int:=sumI (X.map g)
theorem wt_perm (g:RowS→Int) {X Y:List RowS} (h:X.Perm Y):wt9 g X=wt9 g Y:=VJ (h.map _)
theorem wt_one (X:List RowS):wt9 (fun _=>1) X=X.length:=by
 induction X with
 | nil=>rfl
 | cons r X ih=>simp only [wt9,List.map_cons,sumI,List.length_cons] at ih ⊢; omega
theorem wt_flat (g:RowS→Int) (F:Go.Bag.Place→List RowS):∀ ps:List Go.Bag.Place,sumI (ps.map fun a=>wt9 g (F a))=wt9 g (ps.flatMap F)
 | []=>rfl
 | a::ps=>by
  rw [List.map_cons,List.flatMap_cons,sumI,wt_flat g F ps]
  simp only [wt9,List.map_append,sumI_app]
theorem line_at {m:Int} (hm:1≤m∧m≤2) {X:List RowS} (hne:X≠[]) (hl:X.length≤1000) (hf:fine X) (a:Go.Bag.Place):(lineC m a (ofC m X).1).n=wt9 (fun _=>1) X∧(lineC m a (ofC m X).1).s0=wt9 (·.m0) X:=by
 have hc:=(jcz hm hl hf).1
 obtain ⟨s0,s1⟩:=Z3 hf
 unfold most at s0 s1
 have e:ofC m X=(⟨X.length,sumI (X.map (·.m0)),if m=2 then sumI (X.map (·.m1)) else 0,ofL (X.map (·.m0)),if m=2 then ofL (X.map (·.m1)) else []⟩,true):=by
  unfold ofC
  rw [if_pos ⟨hm,hne,⟨by omega,by omega⟩,fun _=>⟨by omega,by omega⟩⟩]
 rw [e] at hc ⊢
 simp only [mayC,if_true] at hc
 unfold lineC
 rw [if_pos hc,wt_one]
 exact ⟨rfl,rfl⟩
theorem tot_group {c:CatS} (hm:1≤c.m∧c.m≤2) (w:Go.Bag.Place) {X:List RowS} (hl:X.length≤1000) (hf:fine X):totN (linesOf c.m (groupL c w X))=wt9 (fun _=>1) X∧totS (linesOf c.m (groupL c w X))=wt9 (·.m0) X:=by
 have hat:∀ a∈placesS c w X,(lineC c.m a (ofC c.m (atP c w a X)).1).n=wt9 (fun _=>1) (atP c w a X)∧(lineC c.m a (ofC c.m (atP c w a X)).1).s0=wt9 (·.m0) (atP c w a X):=fun a ha =>
  line_at hm (jbh.mpr ha) (by have:=jg9 c w a X; omega) (Ju _ hf) a
 have hp:((placesS c w X).flatMap fun a=>atP c w a X).Perm X:=by
  have hr:=Wi c w X
  have nd:(placesS c w X).Nodup:=hr.imp fun {a b} hlt e=>by rw [e] at hlt; omega
  refine (Yj (fun r:RowS=>(toP c zeroP w r.p).1) X (placesS c w X) nd).trans (.of_eq ?_)
  exact List.filter_eq_self.mpr fun r hr'=>decide_eq_true ((wZ c w X _).mpr ⟨r,hr',rfl⟩)
 unfold totN totS linesOf groupL
 simp only [List.map_map]
 refine ⟨?_,?_⟩
 ·rw [show ((placesS c w X).map ((fun l:LineS=>l.n) ∘ (fun p:Pr=>lineC c.m p.1 p.2) ∘ fun a=>(a,(ofC c.m (atP c w a X)).1)))=(placesS c w X).map fun a=>wt9 (fun _=>1) (atP c w a X) from List.map_congr_left fun a ha=>(hat a ha).1,wt_flat,wt_perm _ hp]
 ·rw [show ((placesS c w X).map ((fun l:LineS=>l.s0) ∘ (fun p:Pr=>lineC c.m p.1 p.2) ∘ fun a=>(a,(ofC c.m (atP c w a X)).1)))=(placesS c w X).map fun a=>wt9 (·.m0) (atP c w a X) from List.map_congr_left fun a ha=>(hat a ha).2,wt_flat,wt_perm _ hp]
theorem sum_parts (g:RowS→Int) (v:RowS→Int) (X:List RowS) (h:∀ r∈X,0≤v r):∀ z:Nat,sumT (fun j=>wt9 g (X.filter fun r=>decide (v r=(j:Nat)))) z=wt9 g (X.filter fun r=>decide (v r < (z:Nat)))
 | 0=>by
  have:X.filter (fun r=>decide (v r < ((0:Nat):Int)))=[]:=List.filter_eq_nil_iff.mpr fun r hr=>by have:=h r hr; simp; omega
  rw [this]; rfl
 | z + 1=>by
  rw [sumT,sum_parts g v X h z]
  clear h
  induction X with
  | nil=>rfl
  | cons r X ih =>
   simp only [List.filter_cons]
   by_cases h1:v r < (z:Nat)
   ·have h2:¬ v r=(z:Nat):=by omega
    have h3:v r < ((z + 1:Nat):Int):=by omega
    simp only [h1,h2,h3,decide_true,decide_false,if_true,Bool.false_eq_true,if_false,wt9,List.map_cons,sumI] at ih ⊢
    omega
   ·by_cases h2:v r=(z:Nat)
    ·have h3:v r < ((z + 1:Nat):Int):=by omega
     simp only [h1,h2,h3,decide_true,decide_false,if_true,Bool.false_eq_true,if_false,wt9,List.map_cons,sumI] at ih ⊢
     rw [← h2] at ih ⊢
     simp only [decide_true,if_true,List.map_cons,sumI,Int.lt_irrefl,decide_false,Bool.false_eq_true,if_false] at ih ⊢
     have h4:v r < v r + 1:=by omega
     push_cast at *
     simp only [← h2,h4,decide_true,if_true,List.map_cons,sumI] at ih ⊢
     omega
    ·have h3:¬ v r < ((z + 1:Nat):Int):=by omega
     simp only [h1,h2,h3,decide_false,Bool.false_eq_true,if_false] at ih ⊢
     exact ih
set_option maxHeartbeats 16000000
set_option maxRecDepth 100000
/-! ### Slices of a level -/
def valR (dd:DimS) (d k:Int) (r:RowS):Int:=(liftV dd 0 k ((placeL r.p).getD d.toNat 0)).1
section
variable {c : CatS} {d k : Int} {dd : DimS}
theorem slice_ok (hg:goodCat c=true) (hd:0≤d∧d < c.dims.length) (hdd:c.dims[d.toNat]? = some dd) (hk:0≤k∧k < dd.sizes.length) {r:RowS} (hr:rightC c zeroP r.p=true) (hu:u8P r.p):liftOk dd 0 k ((placeL r.p).getD d.toNat 0):=by
 have gd:=(jx hg).2.2 dd (List.mem_of_getElem? hdd)
 have hn:=(jx hg).1
 have hlt:=JV c.dims (placeL zeroP) (placeL r.p) (by show c.dims.length≤4; omega) rfl (kR hr) d.toNat dd hdd
 have hz:(placeL zeroP).getD d.toNat 0=0:=by
  have:d.toNat=0∨d.toNat=1∨d.toNat=2∨d.toNat=3:=by omega
  rcases this with e | e | e | e <;> rw [e] <;> rfl
 rw [hz] at hlt
 have h0:0≤(placeL r.p).getD d.toNat 0:=by
  have:d.toNat=0∨d.toNat=1∨d.toNat=2∨d.toNat=3:=by omega
  have a0:=(hu r.p.p0 (by simp [placeL])).1
  have a1:=(hu r.p.p1 (by simp [placeL])).1
  have a2:=(hu r.p.p2 (by simp [placeL])).1
  have a3:=(hu r.p.p3 (by simp [placeL])).1
  rcases this with e | e | e | e <;> rw [e]
  ·exact a0
  ·exact a1
  ·exact a2
  ·exact a3
 have:=Vq gd hk.1 (by omega)
 exact ⟨hk.1,by omega,h0,hlt⟩
theorem val_in {r:RowS} (h:liftOk dd 0 k ((placeL r.p).getD d.toNat 0)):0≤valR dd d k r∧valR dd d k r < sizeD dd k:=by
 have:=W7 h
 unfold valR liftV
 rw [if_pos h]
 exact this
theorem within_val (hd:0≤d∧d < c.dims.length) (hdd:c.dims[d.toNat]? = some dd) {r:RowS} (hr:rightC c zeroP r.p=true) (h:liftOk dd 0 k ((placeL r.p).getD d.toNat 0)) (m:Int) (hn:c.dims.length≤4):withinP c zeroP r.p ⟨d,k,[m]⟩=decide (valR dd d k r=m):=by
 have hz:(placeL zeroP).getD d.toNat 0=0:=by
  have:d.toNat=0∨d.toNat=1∨d.toNat=2∨d.toNat=3:=by omega
  rcases this with e | e | e | e <;> rw [e] <;> rfl
 unfold withinP valR
 dsimp only
 rw [if_pos ⟨hr,hd.1,hd.2⟩,hdd]
 dsimp only
 rw [hz]
 unfold liftV
 rw [if_pos h]
 simp
theorem kept_slice (hg:goodCat c=true) (hd:0≤d∧d < c.dims.length) (hdd:c.dims[d.toNat]? = some dd) (hk:0≤k∧k < dd.sizes.length) {rows:List RowS} (hr:∀ r∈rows,rightC c zeroP r.p=true) (hu:∀ r∈rows,u8P r.p) (fs:List FixS) (m:Int) :
  keptR c rows (fs++[⟨d,k,[m]⟩])=(keptR c rows fs).filter fun r=>decide (valR dd d k r=m):=by
 unfold keptR
 rw [List.filter_filter]
 refine List.filter_congr fun r hrr=>?_
 rw [List.all_append,List.all_cons,List.all_nil,Bool.and_true,within_val hd hdd (hr r hrr) (slice_ok hg hd hdd hk (hr r hrr) (hu r hrr)) m (jx hg).1.2,Bool.and_comm]
theorem whole_right (hg:goodCat c=true):rightC c (wholeP c) zeroP=true∧u8P (wholeP c):=by
 have hn:=(jx hg).1
 have hd:=(jx hg).2.2
 have hpl:=Xx (c.dims.map fun d=>(d.sizes.length:Int)) (by simp; omega)
 refine ⟨?_,?_⟩
 ·unfold rightC wholeP
  rw [hg,Bool.true_and,hpl,List.length_map]
  have go:∀ (ds:List DimS) (n:Nat) (zs:List Int),(∀ d∈ds,goodDim d=true)→(∀ z∈zs,z=0)→rightL ds (ds.map (fun d=>(d.sizes.length:Int))++List.replicate n 0) zs=true:=by
   intro ds
   induction ds with
   | nil =>
    intro n
    induction n with
    | zero=>intro zs _ _; cases zs <;> rfl
    | succ n ih =>
     intro zs h1 h2
     cases zs with
     | nil=>rfl
     | cons z zs =>
      simp only [List.map_nil,List.nil_append,List.replicate_succ,rightL,Bool.and_eq_true,decide_eq_true_eq,true_and]
      refine ⟨h2 z (by simp),?_⟩
      have:=ih zs h1 (fun y hy=>h2 y (by simp [hy]))
      simpa using this
   | cons d ds ih =>
    intro n zs h1 h2
    cases zs with
    | nil=>rfl
    | cons z zs =>
     simp only [List.map_cons,List.cons_append,rightL,Bool.and_eq_true,decide_eq_true_eq]
     have g:=h1 d (by simp)
     refine ⟨?_,ih n zs (fun e he=>h1 e (by simp [he])) (fun y hy=>h2 y (by simp [hy]))⟩
     rw [ZA g,h2 z (by simp)]; omega
  exact go c.dims _ (placeL zeroP) hd (by simp [placeL,zeroP])
 ·intro x hx
  unfold wholeP at hx
  rw [hpl] at hx
  rcases List.mem_append.mp hx with hx | hx
  ·obtain ⟨e,he,rfl⟩:=List.mem_map.mp hx
   have:=(kA (hd e he)).1
   omega
  ·have:=List.eq_of_mem_replicate hx
   omega
theorem placeL_set {n w:Go.Bag.Place} (hd:0≤d∧d < 4):placeL (ofP ((placeL n).set d.toNat ((placeL w).getD d.toNat 0)))=(placeL n).set d.toNat ((placeL w).getD d.toNat 0):=by
 rw [Xx _ (by simp [placeL])]
 simp [placeL]
theorem set_right {n w:Go.Bag.Place} (hd:0≤d∧d < 4) (h1:rightC c n zeroP=true) (h2:rightC c w zeroP=true):rightC c (ofP ((placeL n).set d.toNat ((placeL w).getD d.toNat 0))) zeroP=true:=by
 unfold rightC
 rw [jB h1,Bool.true_and,placeL_set hd]
 refine VX c.dims (placeL n) (placeL w) _ (placeL zeroP) (by simp [placeL]) (by simp [placeL]) (fun i hi=>?_) (kR h1) (kR h2)
 rw [List.getD_eq_getElem?_getD,List.getElem?_set]
 by_cases e:d.toNat=i
 ·subst e
  rw [if_pos rfl]
  right
  split
  ·rfl
  ·rename_i hh; exact absurd (by simp [placeL] at hi ⊢; omega) hh
 ·rw [if_neg e]
  left
  rw [List.getD_eq_getElem?_getD]
theorem set_u8 {n w:Go.Bag.Place} (hd:0≤d∧d < 4) (h1:u8P n) (h2:u8P w):u8P (ofP ((placeL n).set d.toNat ((placeL w).getD d.toNat 0))):=by
 intro x hx
 rw [placeL_set hd] at hx
 rcases List.mem_or_eq_of_mem_set hx with hx | rfl
 ·exact h1 x hx
 ·rw [List.getD_eq_getElem?_getD]
  cases h:(placeL w)[d.toNat]? with
  | none=>simp
  | some y=>exact h2 y (List.mem_of_getElem? h)
theorem goodQ_slice {q:QueryS} {m:Int} (hq:goodQ c q=true) (hl:q.fixes.length < 6) (hd:0≤d∧d < c.dims.length) (hdd:c.dims[d.toNat]? = some dd) (hk:0≤k∧k < dd.sizes.length) (hm:0≤m∧m < sizeD dd k) :
  goodQ c (withQ (allQ q) [⟨d,k,[m]⟩])=true∧goodQ c (sliceQ c (allQ q) d k m)=true:=by
 unfold goodQ at hq
 simp only [Bool.and_eq_true,decide_eq_true_eq,List.all_eq_true] at hq
 obtain ⟨⟨h1,h2,h3,h4⟩,h5,h6⟩:=hq
 have hg:=jB h1
 have hn:=(jx hg).1
 have hf:fixOk c ⟨d,k,[m]⟩=true:=by
  unfold fixOk
  have hs:sizeF c ⟨d,k,[m]⟩=sizeD dd k:=by unfold sizeF; dsimp only; rw [hdd]
  rw [hs]
  simp only [Bool.and_eq_true,decide_eq_true_eq,memOk,List.length_singleton,and_true]
  exact ⟨⟨hd,by omega⟩,hm⟩
 have hall:∀ f∈q.fixes++[⟨d,k,[m]⟩],fixOk c f=true:=fun f hff=>by
  rcases List.mem_append.mp hff with hff | hff
  ·exact h5 f hff
  ·obtain rfl:=List.mem_singleton.mp hff; exact hf
 refine ⟨?_,?_⟩
 ·unfold goodQ withQ allQ
  simp only [Bool.and_eq_true,decide_eq_true_eq,List.all_eq_true,List.length_append,List.length_singleton]
  exact ⟨⟨h1,by omega,by omega,by omega⟩,hall,by unfold endQ; simp⟩
 ·unfold goodQ sliceQ setN withQ allQ
  simp only [Bool.and_eq_true,decide_eq_true_eq,List.all_eq_true,List.length_append,List.length_singleton]
  exact ⟨⟨set_right (by omega) h1 (whole_right hg).1,by omega,by omega,by omega⟩,hall,by unfold endQ; simp⟩
end
end Go.Proofs.YtnpncbplhdnonaaGreat
namespace Go.Pl
theorem remE {C:CallP} {l:List POp} {s:PS} {K:PS→Prop} {d:Nat} {x y:PO} {k:IntKind} {a b r:Int} (hx:s.ev x=.c (.int k a)) (hy:s.ev y=.c (.int k b)) (hb:b≠0) (hr:a.tmod b=r) (h:wL C l (s.put d (.c (.int k r))) K):wL C (⟨some d,.bin .rem x y,none⟩::l) s K:=by
 subst hr
 exact vC hx hy (by simp [binC,hb]) h
end Go.Pl
namespace Go.Proofs.YtnpncbplhdnonaaGreat
open Go.Pl Go.Bag
set_option maxHeartbeats 16000000
set_option maxRecDepth 100000
theorem told_all {c:CatS} {v:Go.Bag.Place} {rows:List RowS} {q:QueryS} (hl:rows.length≤60) (ht:q.top=0) (hm:q.limit=1000) (fs:List FixS):toldS c.m (groupL c v (keptR c rows fs)) q=(linesOf c.m (groupL c v (keptR c rows fs)),0)∧(linesOf c.m (groupL c v (keptR c rows fs))).length≤60:=by
 have h1:(linesOf c.m (groupL c v (keptR c rows fs))).length=(groupL c v (keptR c rows fs)).length:=by simp [linesOf]
 have h2:=vd c v (keptR c rows fs)
 have h3:(keptR c rows fs).length≤rows.length:=List.length_filter_le _ _
 have h4:(linesOf c.m (groupL c v (keptR c rows fs))).length≤60:=by omega
 refine ⟨?_,h4⟩
 unfold toldS
 simp only [ht,hm,Int.lt_irrefl,if_false]
 rw [if_neg (by omega)]
theorem C_ExecSlices (c:CatS) (rows:List RowS) (q:QueryS) (v:Go.Bag.Place) (h:OkR c rows q v) (a1 a2:Int) (b1:0≤a1∧a1≤255) (b2:0≤a2∧a2≤255) :
  CP 10 [.c (.agg (encRw c rows q v)),.c (.int .u8 a1),.c (.int .u8 a2)] (.c (.bool true)) []:=by
 have cw:=ve
 have cm:=Wx c rows q v h
 refine pcallF Tryz.func10 c10 rfl ?_
 cases g:mayX c rows q v with
 | false =>
  rw [g] at cm
  unfold encRw at *
  unfold encRows at *
  generalize rows.map encRow=rm at *
  unfold encCat encQ encP at *
  dsimp only [List.cons_append,List.nil_append] at *
  unfold p10
  repeat' (first | refine call0 cw ?_ | refine call1 rfl cm ?_ | refine st2 ?_ | intro u)
  exact jd rfl rfl
 | true =>
  rw [g] at cm
  obtain ⟨hl,hok,hq,hvr⟩:=Wy g
  have hfl:(q.fixes.map encFix).length=q.fixes.length:=List.length_map _
  by_cases h6:6≤(q.fixes.length:Int)
  ·unfold encRw at *
   unfold encRows at *
   generalize rows.map encRow=rm at *
   unfold encCat encQ encP at *
   dsimp only [List.cons_append,List.nil_append] at *
   unfold p10
   repeat' (first | refine call0 cw ?_ | refine call1 rfl cm ?_ | refine je rfl hfl ?_ | refine st2 ?_ | intro u)
   exact jd rfl rfl
  ·have hg:=(vl hok).1
   have hf:=(vl hok).2.1
   have hr:=(vl hok).2.2
   have hc0:=w6 hg
   have hcm:=(jx hg).2.1
   have hn:=(jx hg).1
   have hu:∀ r∈rows,u8P r.p:=fun r hr=>(h.r r hr).1
   -- the dimension,the level
   have hd:0≤a1.tmod c.dims.length∧a1.tmod c.dims.length < c.dims.length:=⟨Int.tmod_nonneg _ b1.1,Int.tmod_lt_of_pos _ (by omega)⟩
   have hdl:(c.dims.map encDim).length=c.dims.length:=List.length_map _
   generalize hde:a1.tmod c.dims.length=d at *
   have hdn:d.toNat < c.dims.length:=by omega
   obtain ⟨dd,hdd⟩:∃ dd,c.dims[d.toNat]? = some dd:=⟨_,List.getElem?_eq_getElem hdn⟩
   have gd:=(jx hg).2.2 dd (List.mem_of_getElem? hdd)
   have gs:=kA gd
   have hk:0≤a2.tmod dd.sizes.length∧a2.tmod dd.sizes.length < dd.sizes.length:=⟨Int.tmod_nonneg _ b2.1,Int.tmod_lt_of_pos _ (by omega)⟩
   have hsl:(dd.sizes.map fun n=>[CV.int .i64 n]).length=dd.sizes.length:=List.length_map _
   generalize hke:a2.tmod dd.sizes.length=k at *
   have hkn:k.toNat < dd.sizes.length:=by omega
   have hsz:=size_at gd hk.1 hk.2
   rw [List.getD_eq_getElem?_getD,List.getElem?_eq_getElem hkn,Option.getD_some] at hsz
   have hz0:=gs.2.2.1 _ (List.getElem_mem hkn)
   obtain ⟨z,hz⟩:∃ z:Nat,dd.sizes[k.toNat]=(z:Int):=⟨dd.sizes[k.toNat].toNat,by omega⟩
   rw [hz] at hsz hz0
   have hDM:(c.dims.map encDim)[d.toNat]? = some [.sl (dd.sizes.map fun n=>[CV.int .i64 n]),.sl (dd.up.map fun l=>[encIs l])]:=by
    rw [List.getElem?_map,hdd]; rfl
   have hSZ:(dd.sizes.map fun n=>[CV.int .i64 n])[k.toNat]? = some [.int .i64 (z:Int)]:=by
    rw [List.getElem?_map,List.getElem?_eq_getElem hkn,hz]; rfl
   -- the queries
   have gq:=fun (m:Nat) (hm:m < z)=>goodQ_slice (m:=(m:Int)) hq (by omega) hd hdd hk (by rw [hsz]; omega)
   have hq0:goodQ c (allQ q)=true:=by
    have:=w7 (t:=0) (ms:=0) (fn:=0) (lim:=1000) hq (by omega) (by omega) (by rw [if_pos rfl]; exact ⟨rfl,rfl⟩)
    exact this
   have oq0:okQ (allQ q):=h.q
   have oq:=fun (m:Nat)=>show okQ (sliceQ c (allQ q) d k (m:Int)) from ⟨by simp [sliceQ,setN,withQ,allQ]; omega,fun f hff=>by
    rcases List.mem_append.mp hff with hff | hff
    ·exact h.q.2.1 f hff
    ·obtain rfl:=List.mem_singleton.mp hff; simp,set_u8 (by omega) h.q.2.2 (whole_right hg).2⟩
   have hlm:∀ f∈q.fixes,f.mem.length≤4294967296:=fun f hff=>by
    unfold mayX lightQ at g
    simp only [Bool.and_eq_true,List.all_eq_true,decide_eq_true_eq] at g
    have:=g.2.1.2 f hff
    omega
   have cS:=fun (m:Nat) (hm:m < z)=>C_Slice c (allQ q) d k (m:Int) h.c oq0 hd (by show q.fixes.length≤50000; omega) hlm hq0 (gq m hm).1 (gq m hm).2 (oq m)
   -- the lines
   have hin:inPs 1000 (groupL c zeroP rows):=wG (by omega) fun r hr=>(h.r r hr).2
   have h0l:(groupL c zeroP rows).length≤60:=by have:=vd c zeroP rows; omega
   have c3:=vV c rows q v zeroP h.c h.r hl jv hc0 hok
   have ca:=jj3 c rows q v
   have ln:=fun (Q:QueryS) (gQ:goodQ c Q=true) (uQ:u8P Q.node) (t0:Q.top=0) (l0:Q.limit=1000) =>
    show linesS c zeroP (groupL c zeroP rows) Q=(linesOf c.m (groupL c Q.node (keptR c rows Q.fixes)),0)∧(linesOf c.m (groupL c Q.node (keptR c rows Q.fixes))).length≤60 from by
     have:=ke hok (by omega) hu jv hc0 gQ (kB (w5 gQ uQ).2)
     rw [this]
     exact told_all hl t0 l0 Q.fixes
   have l5:=ln (allQ q) hq0 h.q.2.2 rfl rfl
   have c5:=vk c zeroP (groupL c zeroP rows) (allQ q) h.c jv oq0 1000 hin (by omega) (by omega)
   rw [l5.1] at c5
   have lQ:=fun (m:Nat) (hm:m < z)=>ln (sliceQ c (allQ q) d k (m:Int)) (gq m hm).2 (oq m).2.2 rfl rfl
   have cL:=fun (m:Nat) (hm:m < z)=>by
    have:=vk c zeroP (groupL c zeroP rows) (sliceQ c (allQ q) d k (m:Int)) h.c jv (oq m) 1000 hin (by omega) (by omega)
    rw [(lQ m hm).1] at this
    exact this
   -- the sums
   have hfk:=Ju (fun r=>q.fixes.all fun f=>withinP c zeroP r.p f) hf
   have hkl:(keptR c rows q.fixes).length≤rows.length:=List.length_filter_le _ _
   have hkr:∀ r∈keptR c rows q.fixes,r∈rows:=fun r hr=>(List.mem_filter.mp hr).1
   have hval:∀ r∈keptR c rows q.fixes,0≤valR dd d k r∧valR dd d k r < (z:Int):=fun r hr'=>by
    have:=val_in (slice_ok hg hd hdd hk (hr r (hkr r hr')) (hu r (hkr r hr')))
    rw [hsz] at this
    exact this
   have t0:=tot_group hcm q.node (X:=keptR c rows q.fixes) (by omega) hfk
   have tm:∀ m:Nat,totN (linesOf c.m (groupL c (sliceQ c (allQ q) d k (m:Int)).node (keptR c rows (sliceQ c (allQ q) d k (m:Int)).fixes)))=wt9 (fun _=>1) ((keptR c rows q.fixes).filter fun r=>decide (valR dd d k r=(m:Nat))) ∧
     totS (linesOf c.m (groupL c (sliceQ c (allQ q) d k (m:Int)).node (keptR c rows (sliceQ c (allQ q) d k (m:Int)).fixes)))=wt9 (·.m0) ((keptR c rows q.fixes).filter fun r=>decide (valR dd d k r=(m:Nat))):=fun m=>by
    have e:keptR c rows (sliceQ c (allQ q) d k (m:Int)).fixes=(keptR c rows q.fixes).filter fun r=>decide (valR dd d k r=(m:Nat)):=kept_slice hg hd hdd hk hr hu q.fixes (m:Int)
    rw [e]
    have hll:((keptR c rows q.fixes).filter fun r=>decide (valR dd d k r=(m:Nat))).length≤(keptR c rows q.fixes).length:=List.length_filter_le _ _
    exact tot_group hcm _ (by omega) (Ju _ hfk)
   have hself:(keptR c rows q.fixes).filter (fun r=>decide (valR dd d k r < (z:Nat)))=keptR c rows q.fixes:=List.filter_eq_self.mpr fun r hr'=>decide_eq_true (hval r hr').2
   have sN:sumT (fun j=>totN (linesOf c.m (groupL c (sliceQ c (allQ q) d k (j:Int)).node (keptR c rows (sliceQ c (allQ q) d k (j:Int)).fixes)))) z - totN (linesOf c.m (groupL c q.node (keptR c rows q.fixes)))=0:=by
    rw [show (fun j:Nat=>totN (linesOf c.m (groupL c (sliceQ c (allQ q) d k (j:Int)).node (keptR c rows (sliceQ c (allQ q) d k (j:Int)).fixes))))=fun j:Nat=>wt9 (fun _=>1) ((keptR c rows q.fixes).filter fun r=>decide (valR dd d k r=(j:Nat))) from funext fun j=>(tm j).1,sum_parts _ _ _ (fun r hr'=>(hval r hr').1),hself,t0.1]; omega
   have sS:sumT (fun j=>totS (linesOf c.m (groupL c (sliceQ c (allQ q) d k (j:Int)).node (keptR c rows (sliceQ c (allQ q) d k (j:Int)).fixes)))) z - totS (linesOf c.m (groupL c q.node (keptR c rows q.fixes)))=0:=by
    rw [show (fun j:Nat=>totS (linesOf c.m (groupL c (sliceQ c (allQ q) d k (j:Int)).node (keptR c rows (sliceQ c (allQ q) d k (j:Int)).fixes))))=fun j:Nat=>wt9 (·.m0) ((keptR c rows q.fixes).filter fun r=>decide (valR dd d k r=(j:Nat))) from funext fun j=>(tm j).2,sum_parts _ _ _ (fun r hr'=>(hval r hr').1),hself,t0.2]; omega
   have hLN:=fun (m:Nat) (hm:m < z)=>(lQ m hm).2
   have l5l:(linesOf c.m (groupL c q.node (keptR c rows q.fixes))).length≤60:=l5.2
   clear tm t0 hself hval hkr hkl hfk lQ ln l5 hin gq oq hlm hq0 oq0 g
   have so:=fun (K:Ex→PS→Prop) cr g3 e0 e1 e2 e3 e4 e5 e6 e7 e8 e9 e10 e11 e12 v3 v8 v13 cL'=>sl_all (K:=K) (DM:=c.dims.map encDim) (SZ:=dd.sizes.map fun n=>[CV.int .i64 n]) (up:=.sl (dd.up.map fun l=>[encIs l])) (cm:=.int .i64 c.m) (cr:=cr) (g3:=g3) (d:=d) (k:=k) (z:=z)
    (e0:=e0) (e1:=e1) (e2:=e2) (e3:=e3) (e4:=e4) (e5:=e5) (e6:=e6) (e7:=e7) (e8:=e8) (e9:=e9) (e10:=e10) (e11:=e11) (e12:=e12)
    (q0:=.int .u8 q.node.p0) (q1:=.int .u8 q.node.p1) (q2:=.int .u8 q.node.p2) (q3:=.int .u8 q.node.p3) (q4:=.sl (q.fixes.map encFix)) (q5:=.int .i64 0) (q6:=.int .i64 0) (q7:=.int .i64 0) (q8:=.int .i64 1000)
    (fun m=>sliceQ c (allQ q) d k (m:Int)) (fun j=>linesOf c.m (groupL c (sliceQ c (allQ q) d k (j:Int)).node (keptR c rows (sliceQ c (allQ q) d k (j:Int)).fixes))) v3 v8 v13 hd.1 hk.1 (by omega) hDM hSZ (fun m hm=>Nat.le_trans (hLN m hm) (by decide)) cS cL' z 0
   have su:=fun (K:Ex→PS→Prop) v13 s A B=>sl_out (K:=K) (linesOf c.m (groupL c q.node (keptR c rows q.fixes))) (by omega) v13 (linesOf c.m (groupL c q.node (keptR c rows q.fixes))) 0 s A B rfl (by omega)
   have cL2:∀ m,m < z→CP 25 [.c (.agg [.sl (c.dims.map encDim),.int .i64 c.m]),.c (.agg [.int .u8 0,.int .u8 0,.int .u8 0,.int .u8 0]),.c (encPrs (groupL c zeroP rows)),.c (.agg (encQ (sliceQ c (allQ q) d k (m:Int))))] (.c (.tup [.sl ((linesOf c.m (groupL c (sliceQ c (allQ q) d k (m:Int)).node (keptR c rows (sliceQ c (allQ q) d k (m:Int)).fixes))).map encLn),.int .i64 0])) []:=cL
   have so2:=fun K cr e0 e1 e2 e3 e4 e5 e6 e7 e8 e9 e10 e11 e12 v3 v8 v13=>so K cr _ e0 e1 e2 e3 e4 e5 e6 e7 e8 e9 e10 e11 e12 v3 v8 v13 cL2
   clear so cL cL2 cS hLN
   generalize (fun j:Nat=>totN (linesOf c.m (groupL c (sliceQ c (allQ q) d k (j:Int)).node (keptR c rows (sliceQ c (allQ q) d k (j:Int)).fixes))))=fN at *
   generalize (fun j:Nat=>totS (linesOf c.m (groupL c (sliceQ c (allQ q) d k (j:Int)).node (keptR c rows (sliceQ c (allQ q) d k (j:Int)).fixes))))=fS at *
   have w0:wr 0=0:=by decide
   have hOl:((linesOf c.m (groupL c q.node (keptR c rows q.fixes))).map encLn).length=(linesOf c.m (groupL c q.node (keptR c rows q.fixes))).length:=List.length_map _
   have c5':CP 25 [.c (.agg [.sl (c.dims.map encDim),.int .i64 c.m]),.c (.agg [.int .u8 0,.int .u8 0,.int .u8 0,.int .u8 0]),.c (encPrs (groupL c zeroP rows)),.c (.agg (encQ (allQ q)))] (.c (.tup [.sl ((linesOf c.m (groupL c q.node (keptR c rows q.fixes))).map encLn),.int .i64 0])) []:=c5
   clear c5
   generalize linesOf c.m (groupL c q.node (keptR c rows q.fixes))=A at *
   generalize encPrs (groupL c zeroP rows)=G3 at *
   generalize hDMe:c.dims.map encDim=DM at *
   generalize hSZe:(dd.sizes.map fun n=>[CV.int .i64 n])=SZ at *
   generalize CV.sl (dd.up.map fun l=>[encIs l])=up at *
   clear h
   unfold encRw at *
   unfold encRows at *
   generalize rows.map encRow=rm at *
   unfold encCat encQ encP zeroP allQ at *
   rw [hDMe] at *
   dsimp only [List.cons_append,List.nil_append] at *
   unfold p10
   repeat' (first | refine call1 rfl cm ?_ | refine je rfl hfl ?_ | refine call2 rfl rfl c3 ?_ | refine call1 rfl ca ?_ | refine call4 rfl rfl rfl rfl c5' ?_ | refine je rfl hdl ?_ | refine je rfl hsl ?_ | refine remE rfl rfl (by omega) hde ?_ | refine remE rfl rfl (by omega) hke ?_ | refine ji rfl rfl hd.1 hDM rfl ?_ | refine jK ?_ | refine jN ?_ | refine Yt rfl (fun u=>?_) | refine jE ?_ | refine ko ?_ | refine jY ?_ | refine jP ?_ | refine jD rfl ?_ | refine vm rfl ?_ | refine kC rfl ?_ | refine vM rfl rfl ?_ | refine WA rfl rfl (by omega) ?_ | refine XQ rfl rfl (by omega) ?_ | refine Y6 rfl ?_ | refine jL rfl (wrap64_in (by omega)) ?_ | refine j5 (fun u=>?_) | refine kw rfl rfl rfl (fun u=>?_) | refine j6 rfl rfl ?_ | refine vX rfl (Nat.le_of_ble_eq_true rfl) rfl ?_ | refine jl rfl (by decide) rfl (Nat.le_of_ble_eq_true rfl) rfl ?_ | refine jt rfl rfl (by decide) rfl rfl (Nat.le_of_ble_eq_true rfl) rfl ?_ | refine jC rfl rfl rfl ?_ | refine WB rfl (Nat.le_of_ble_eq_true rfl) rfl ?_ | refine jaf rfl rfl ?_ | intro u)
   refine so2 _ _ _ _ _ _ _ _ _ _ _ _ _ _ _ _ _ _ _ (by omega) (by rfl) (by rfl) (by rfl) (by rfl) (by rfl) (by rfl) (by rfl) (by rfl) (by rfl) (by rfl) (fun s' t13 b13 t11=>?_)
   have t11:s'.t 11=.c (.sl (A.map encLn)):=t11
   clear so2
   rw [← ja t13,← jc b13,← ja t11]
   repeat' (first | refine st0 ?_ | intro u)
   refine su _ _ _ _ _ (by rfl) (by rfl) (by rfl) (by rfl) (fun s2 u13 d13=>?_)
   rw [sN,sS,w0] at d13
   rw [← ja u13,← jc d13]
   repeat' (first | refine jG rfl rfl rfl ?_ | refine call0 cw ?_ | refine jK ?_ | refine jN ?_ | refine jE ?_ | refine ko ?_ | refine JP ?_ | refine j4 ?_ | refine vm rfl ?_ | refine kC rfl ?_ | refine kH rfl rfl ?_ | refine j6 rfl rfl ?_ | refine jl rfl (by decide) rfl (Nat.le_of_ble_eq_true rfl) rfl ?_)
   exact jd rfl rfl
theorem L_ExecSlices (c0:List CV) (h0:OkL [.sl [.sl [.int .i64],.sl [.sl [.int .i64]]],.int .i64,.sl [.int .u8,.int .u8,.int .u8,.int .u8,.int .i64,.int .i64],.int .u8,.int .u8,.int .u8,.int .u8,.sl [.int .i64,.int .i64,.sl [.int .i64]],.int .i64,.int .i64,.int .i64,.int .i64,.int .u8,.int .u8,.int .u8,.int .u8] c0) (c1:CV) (h1:LF.Ok (.int .u8) c1) (c2:CV) (h2:LF.Ok (.int .u8) c2):CP 10 [.c (.agg c0),.c c1,.c c2] (.c (.bool true)) []:=by
 obtain ⟨c,rows,q,v,rfl,h,_⟩:=jc4 h0
 obtain ⟨a1,rfl,b1⟩:=X3 h1
 obtain ⟨a2,rfl,b2⟩:=X3 h2
 exact C_ExecSlices c rows q v h a1 a2 b1 b2
end Go.Proofs.YtnpncbplhdnonaaGreat
/- Part of the proof of ExecTells, ExecAnswers, ExecBest, ExecFirst, ExecLevels, ExecTops, ExecLimits: lemmas. -/
import Derived.Test.YtnpncbplhdnonaaGreatExecS15
import Derived.Test.YtnpncbplhdnonaaGreatExecS16
import Derived.Test.YtnpncbplhdnonaaGreatExecS23
set_option linter.unusedVariables false
set_option linter.unusedSimpArgs false
namespace Go.Proofs.YtnpncbplhdnonaaGreat
open Go.Pl Go.Bag
set_option maxRecDepth 100000
set_option maxHeartbeats 16000000
theorem Xd (n l h:Int):CP 92 [.c (.int .i64 n),.c (.int .i64 l),.c (.int .i64 h)] (.c (.bool (decide (l≤n∧n≤h)))) []:=by
 refine pcallF Tryz.func92 c92 rfl ?_
 unfold p92
 by_cases h1:l≤n
 ·by_cases h2:n≤h
  ·rw [decide_eq_true ⟨h1,h2⟩]
   repeat' (first | refine st2 ?_ | intro u)
   exact jd rfl rfl
  ·rw [decide_eq_false (by omega)]
   repeat' (first | refine st2 ?_ | intro u)
   exact jd rfl rfl
 ·rw [decide_eq_false (by omega)]
  repeat' (first | refine st2 ?_ | intro u)
  exact jd rfl rfl
def PrevM (l:List Int) (i:Nat) (p:Option Int):Prop:=(i=0∧p=none)∨∃ j q,i=j + 1∧l[j]? = some q∧p=some q
theorem Xe {l:List Int} {i:Nat} {m:Int} {rest:List Int} (h:l.drop i=m::rest):PrevM l (i + 1) (some m):=by
 refine .inr ⟨i,m,rfl,?_,rfl⟩
 rw [← List.head?_drop,h]
 rfl
theorem ZE {l:List Int} {j:Nat} {q:Int} (h:l[j]? = some q):(l.map fun n=>[CV.int .i64 n])[(((j + 1:Nat):Int) - 1).toNat]? = some [.int .i64 q]:=by
 have:(((j + 1:Nat):Int) - 1).toNat=j:=by omega
 rw [this,List.getElem?_map,h]
 rfl
theorem ji3 {K:KT} (fd fl:Int) (l:List Int) (z:Int) (hz:0≤z∧z≤40) (v3:Nat) (hlen:l.length≤9223372036854775807):∀ (rest:List Int) (p:Option Int) (i:Nat) (s:PS),l.drop i=rest→i≤l.length→PrevM l i p →
  s.t 3=.ptr 3 v3 0→s.bx 3=⟨v3,.var [.int .i64 fd,.int .i64 fl,encIs l]⟩→s.t 5=.c (.int .i64 z)→s.t 32=.c (encIs l)→s.t 33=.c (.int .i64 l.length)→s.t 34=.c (.int .i64 i) →
  (memOk z p rest=true→∀ s',K (.x 0) s')→(memOk z p rest=false→∀ s',s'.t 4=.c (.bool false)→K .r s')→wP (CP) (.loop b93_0) s K:=by
 intro rest
 induction rest with
 | nil =>
  intro p i s hd hi hp t3 b3 t5 t32 t33 t34 hx hr
  refine jf ?_
  have:=jm hd hi
  subst this
  rw [← ja t3,← jc b3,← ja t5,← ja t32,← ja t33,← ja t34]
  unfold b93_0
  repeat' (first | refine st0 ?_ | intro u)
  exact hx rfl _
 | cons m rest ih =>
  intro p i s hd hi hp t3 b3 t5 t32 t33 t34 hx hr
  refine jf ?_
  have he:(l.map fun n=>[CV.int .i64 n])[((i:Nat):Int).toNat]? = some [.int .i64 m]:=jp hd
  have hil:=jo hd
  have hn:=jg hd
  have cb:=Xd m 0 (z - 1)
  have ih':=fun s=>ih (some m) (i + 1) s hn (by omega) (Xe hd)
  rw [← ja t3,← jc b3,← ja t5,← ja t32,← ja t33,← ja t34]
  unfold encIs at *
  unfold b93_0
  by_cases h1:0≤m∧m < z
  ·rw [decide_eq_true (show 0≤m∧m≤z - 1 by omega)] at cb
   rcases hp with ⟨rfl,rfl⟩ | ⟨j,q,rfl,hq,rfl⟩
   ·repeat' (first | refine ji rfl rfl (by omega) he rfl ?_ | refine call3 rfl rfl rfl cb ?_ | refine st6 ?_ | intro u)
    refine ih' _ (by rfl) (by rfl) (by rfl) (by rfl) (by rfl) (by rfl) (fun h'=>hx ?_) (fun h'=>hr ?_)
    ·simp [memOk,h1,h']
    ·simp [memOk,h1,h']
   ·have he2:=ZE hq
    by_cases h2:q < m
    ·repeat' (first | refine ji rfl rfl (by omega) he rfl ?_ | refine ji rfl rfl (by omega) he2 rfl ?_ | refine call3 rfl rfl rfl cb ?_ | refine st6 ?_ | intro u)
     refine ih' _ (by rfl) (by rfl) (by rfl) (by rfl) (by rfl) (by rfl) (fun h'=>hx ?_) (fun h'=>hr ?_)
     ·simp [memOk,h1,h2,h']
     ·simp [memOk,h1,h2,h']
    ·repeat' (first | refine ji rfl rfl (by omega) he rfl ?_ | refine ji rfl rfl (by omega) he2 rfl ?_ | refine call3 rfl rfl rfl cb ?_ | refine st3 ?_ | intro u)
     exact hr (by simp [memOk,h2]) _ (by rfl)
  ·rw [decide_eq_false (show ¬ (0≤m∧m≤z - 1) by omega)] at cb
   repeat' (first | refine ji rfl rfl (by omega) he rfl ?_ | refine call3 rfl rfl rfl cb ?_ | refine st3 ?_ | intro u)
   exact hr (by simp [memOk,decide_eq_false h1]) _ (by rfl)
theorem jlx (c:CatS) (f:FixS) (h:okCat2 c) (hm:f.mem.length≤9223372036854775807):CP 93 [.c (.agg (encCat c)),.c (.agg (encFix f))] (.c (.bool (fixOk c f))) []:=by
 refine pcallF Tryz.func93 c93 rfl ?_
 have h0:=h.1.1
 have cb:=Xd f.dim 0 ((c.dims.length:Int) - 1)
 have cs:∀ d,c.dims[f.dim.toNat]? = some d→CP 100 [.c (.agg (encDim d)),.c (.int .i64 f.level)] (.c (.int .i64 (sizeF c f))) []:=by
  intro d hd
  have hdm:=List.mem_of_getElem? hd
  have:=Ws d f.level (h.1.2 d hdm) (h.2 d hdm)
  unfold sizeF
  rw [hd]
  exact this
 have hsz:0≤sizeF c f∧sizeF c f≤40:=by
  unfold sizeF
  split
  ·exact sizeD_in
  ·omega
 unfold fixOk
 generalize sizeF c f=z at *
 obtain ⟨fd,fl,fm⟩:=f
 dsimp only at *
 by_cases a:0≤fd∧fd < c.dims.length
 ·rw [decide_eq_true (show 0≤fd∧fd≤(c.dims.length:Int) - 1 by omega)] at cb
  by_cases b:fm=[]
  ·subst b
   rw [decide_eq_false (by simp)]
   unfold encCat encFix encIs
   dsimp only
   unfold p93
   repeat' (first | refine je rfl (List.length_map _) ?_ | refine call3 rfl rfl rfl cb ?_ | refine st7 ?_ | intro u)
   exact jd rfl rfl
  ·have hl:0 < fm.length:=List.length_pos_iff.mpr b
   rw [decide_eq_true ⟨a,hl⟩,Bool.true_and]
   have hk:fd.toNat < c.dims.length:=by omega
   have hd:c.dims[fd.toNat]? = some c.dims[fd.toNat]:=by simp [hk]
   have he:(c.dims.map encDim)[fd.toNat]? = some (encDim c.dims[fd.toNat]):=by simp [hk]
   have c1:=cs _ hd
   clear cs
   have lp:=fun (K:Ex→PS→Prop) v3 s=>ji3 (K:=K) fd fl fm z hsz v3 hm fm none 0 s rfl (by omega) (.inl ⟨rfl,rfl⟩)
   generalize c.dims[fd.toNat]=d at *
   generalize hq:memOk z none fm=q at *
   unfold encCat encFix encDim at *
   dsimp only at *
   unfold encIs at *
   unfold p93
   repeat' (first | refine je rfl (List.length_map _) ?_ | refine call3 rfl rfl rfl cb ?_ | refine ji rfl rfl (by omega) he rfl ?_ | refine call2 rfl rfl c1 ?_ | refine st7 ?_ | intro u)
   refine lp _ _ _ (by rfl) (by rfl) (by rfl) (by rfl) (by rfl) (by rfl) (fun hf s'=>?_) (fun hf s' h4=>?_)
   ·subst hf
    repeat' (first | refine st0 ?_ | intro u)
    exact jd rfl rfl
   ·subst hf
    rw [← ja h4]
    repeat' (first | refine j8 ?_ | refine kl ?_)
    exact jd rfl rfl
 ·rw [decide_eq_false (show ¬ (0≤fd∧fd≤(c.dims.length:Int) - 1) by omega)] at cb
  rw [decide_eq_false (fun x=>a x.1),Bool.false_and]
  unfold encCat encFix encIs
  dsimp only
  unfold p93
  repeat' (first | refine je rfl (List.length_map _) ?_ | refine call3 rfl rfl rfl cb ?_ | refine st2 ?_ | intro u)
  exact jd rfl rfl
/-! ### The document's fix -/
theorem ji4 {K:KT} (c:CatS) (d:DimS) (hdm:okDim d) (fd fl:Int) (h0:0≤fd) (he:(c.dims.map encDim)[fd.toNat]? = some (encDim d)) (l:List Int) (v2 v3:Nat) (hlen:l.length≤9223372036854775807):∀ (rest:List Int) (p:Option Int) (i:Nat) (s:PS),l.drop i=rest→i≤l.length→PrevM l i p →
  s.t 2=.ptr 2 v2 0→s.bx 2=⟨v2,.var [.sl (c.dims.map encDim),.int .i64 c.m]⟩→s.t 3=.ptr 3 v3 0→s.bx 3=⟨v3,.var [.int .i64 fd,.int .i64 fl,encIs l]⟩→s.t 5=.c (.int .i64 i) →
  (memOk (sizeD d fl) p rest=true→∀ s',K (.x 0) s')→(memOk (sizeD d fl) p rest=false→∀ s',s'.t 4=.c (.bool false)→K .r s')→wP (CP) (.loop b78_0) s K:=by
 have cz:=Vo d fl hdm
 have hz:=@sizeD_in d fl
 generalize sizeD d fl=z at *
 intro rest
 induction rest with
 | nil =>
  intro p i s hd hi hp t2 b2 t3 b3 t5 hx hr
  refine jf ?_
  have:=jm hd hi
  subst this
  rw [← ja t2,← jc b2,← ja t3,← jc b3,← ja t5]
  unfold encIs
  unfold b78_0
  repeat' (first | refine je rfl (List.length_map _) ?_ | refine st0 ?_ | intro u)
  exact hx rfl _
 | cons m rest ih =>
  intro p i s hd hi hp t2 b2 t3 b3 t5 hx hr
  refine jf ?_
  have hm:(l.map fun n=>[CV.int .i64 n])[((i:Nat):Int).toNat]? = some [.int .i64 m]:=jp hd
  have hil:=jo hd
  have hn:=jg hd
  have ih':=fun s=>ih (some m) (i + 1) s hn (by omega) (Xe hd)
  rw [← ja t2,← jc b2,← ja t3,← jc b3,← ja t5]
  unfold encDim at *
  unfold encIs at *
  unfold b78_0
  by_cases h1:0≤m
  ·by_cases h3:m < z
   ·rcases hp with ⟨rfl,rfl⟩ | ⟨j,q,rfl,hq,rfl⟩
    ·repeat' (first | refine je rfl (List.length_map _) ?_ | refine ji rfl rfl (by omega) hm rfl ?_ | refine ji rfl rfl h0 he rfl ?_ | refine call2 rfl rfl cz ?_ | refine st6 ?_ | intro u)
     refine ih' _ (by rfl) (by rfl) (by rfl) (by rfl) (by rfl) (fun h'=>hx ?_) (fun h'=>hr ?_)
     ·simp [memOk,h1,h3,h']
     ·simp [memOk,h1,h3,h']
    ·have he2:=ZE hq
     by_cases h2:q < m
     ·repeat' (first | refine je rfl (List.length_map _) ?_ | refine ji rfl rfl (by omega) hm rfl ?_ | refine ji rfl rfl (by omega) he2 rfl ?_ | refine ji rfl rfl h0 he rfl ?_ | refine call2 rfl rfl cz ?_ | refine st6 ?_ | intro u)
      refine ih' _ (by rfl) (by rfl) (by rfl) (by rfl) (by rfl) (fun h'=>hx ?_) (fun h'=>hr ?_)
      ·simp [memOk,h1,h2,h3,h']
      ·simp [memOk,h1,h2,h3,h']
     ·repeat' (first | refine je rfl (List.length_map _) ?_ | refine ji rfl rfl (by omega) hm rfl ?_ | refine ji rfl rfl (by omega) he2 rfl ?_ | refine ji rfl rfl h0 he rfl ?_ | refine call2 rfl rfl cz ?_ | refine st3 ?_ | intro u)
      exact hr (by simp [memOk,h2]) _ (by rfl)
   ·repeat' (first | refine je rfl (List.length_map _) ?_ | refine ji rfl rfl (by omega) hm rfl ?_ | refine ji rfl rfl h0 he rfl ?_ | refine call2 rfl rfl cz ?_ | refine st3 ?_ | intro u)
    exact hr (by simp [memOk,h3]) _ (by rfl)
  ·repeat' (first | refine je rfl (List.length_map _) ?_ | refine ji rfl rfl (by omega) hm rfl ?_ | refine st3 ?_ | intro u)
   exact hr (by simp [memOk,h1]) _ (by rfl)
theorem jly (c:CatS) (f:FixS) (h:okCat2 c) (g:goodCat c=true) (hm:f.mem.length≤9223372036854775807):CP 78 [.c (.agg (encCat c)),.c (.agg (encFix f))] (.c (.bool (fixOk c f))) []:=by
 refine pcallF Tryz.func78 c78 rfl ?_
 have h0:=h.1.1
 have cl:=ZD c f.dim h.1
 have key:=@fix_level c f
 unfold fixOk at key ⊢
 unfold levelsC at cl
 unfold sizeF at *
 obtain ⟨fd,fl,fm⟩:=f
 dsimp only at *
 by_cases a:0≤fd∧fd < c.dims.length
 ·rw [if_pos ⟨g,a⟩] at cl
  have hk:fd.toNat < c.dims.length:=by omega
  have hd:c.dims[fd.toNat]? = some c.dims[fd.toNat]:=by simp [hk]
  have he:(c.dims.map encDim)[fd.toNat]? = some (encDim c.dims[fd.toNat]):=by simp [hk]
  have hdm:=h.1.2 _ (List.getElem_mem hk)
  have lp:=fun (K:Ex→PS→Prop) v2 v3 s=>ji4 (K:=K) c _ hdm fd fl a.1 he fm v2 v3 hm fm none 0 s rfl (by omega) (.inl ⟨rfl,rfl⟩)
  rw [hd] at cl key ⊢
  dsimp only at cl key ⊢
  generalize c.dims[fd.toNat]=d at *
  have hds:=hdm.1
  have kk:(decide ((0≤fd∧fd < (c.dims.length:Int))∧0 < fm.length) && memOk (sizeD d fl) none fm)=true→0≤fl∧fl < (d.sizes.length:Int) + 1:=fun hh=>by
   obtain ⟨d',e,_,e1,e2,_⟩:=key hh
   cases Option.some.inj e
   omega
  generalize hq:memOk (sizeD d fl) none fm=q at *
  by_cases k1:0≤fl∧fl < (d.sizes.length:Int) + 1
  ·by_cases b:fm=[]
   ·subst b
    rw [decide_eq_false (by simp)]
    unfold encCat encFix encIs at *
    dsimp only at *
    unfold p78
    repeat' (first | refine je rfl (List.length_map _) ?_ | refine call2 rfl rfl cl ?_ | refine st3 ?_ | intro u)
    exact jd rfl rfl
   ·have hl:0 < fm.length:=List.length_pos_iff.mpr b
    rw [decide_eq_true ⟨a,hl⟩,Bool.true_and]
    unfold encCat encFix encIs at *
    dsimp only at *
    unfold p78
    repeat' (first | refine je rfl (List.length_map _) ?_ | refine call2 rfl rfl cl ?_ | refine st2 ?_ | intro u)
    refine lp _ _ _ _ (by rfl) (by rfl) (by rfl) (by rfl) (by rfl) (fun hf s'=>?_) (fun hf s' h4=>?_)
    ·subst hf
     repeat' (first | refine st0 ?_ | intro u)
     exact jd rfl rfl
    ·subst hf
     rw [← ja h4]
     repeat' (first | refine j8 ?_ | refine kl ?_)
     exact jd rfl rfl
  ·have:(decide ((0≤fd∧fd < (c.dims.length:Int))∧0 < fm.length) && q)=false:=by
    cases hh:(decide ((0≤fd∧fd < (c.dims.length:Int))∧0 < fm.length) && q) with
    | false=>rfl
    | true=>exact absurd (kk hh) k1
   rw [this]
   unfold encCat encFix encIs at *
   dsimp only at *
   unfold p78
   by_cases k2:fl < 0
   ·repeat' (first | refine je rfl (List.length_map _) ?_ | refine st2 ?_ | intro u)
    exact jd rfl rfl
   ·have k3:¬ fl < (d.sizes.length:Int) + 1:=fun k3=>k1 ⟨by omega,k3⟩
    repeat' (first | refine je rfl (List.length_map _) ?_ | refine call2 rfl rfl cl ?_ | refine st2 ?_ | intro u)
    exact jd rfl rfl
 ·rw [decide_eq_false (fun x=>a x.1),Bool.false_and]
  unfold encCat encFix encIs
  dsimp only
  unfold p78
  by_cases k2:fd < 0
  ·repeat' (first | refine st2 ?_ | intro u)
   exact jd rfl rfl
  ·have k3:¬ fd < (c.dims.length:Int):=fun k3=>a ⟨by omega,k3⟩
   repeat' (first | refine je rfl (List.length_map _) ?_ | refine st2 ?_ | intro u)
   exact jd rfl rfl
set_option maxRecDepth 100000
set_option maxHeartbeats 16000000
def okQ (q:QueryS):Prop:=q.fixes.length≤9223372036854775807∧(∀ f∈q.fixes,f.mem.length≤9223372036854775807)∧u8P q.node
theorem ji5 {K:KT} (c:CatS) (h:okCat2 c) (fs:List FixS) (hm:∀ f∈fs,f.mem.length≤9223372036854775807) (hlen:fs.length≤9223372036854775807) (x:List CV) (v2 v3:Nat):∀ (rest:List FixS) (i:Nat) (s:PS),fs.drop i=rest→i≤fs.length →
  s.t 2=.ptr 2 v2 0→s.bx 2=⟨v2,.var [.sl (c.dims.map encDim),.int .i64 c.m]⟩→s.t 3=.ptr 3 v3 0→s.bx 3=⟨v3,.var x⟩→s.t 31=.c (.sl (fs.map encFix))→s.t 32=.c (.int .i64 fs.length)→s.t 33=.c (.int .i64 i) →
  (rest.all (fixOk c)=true→∀ s',s'.t 2=.ptr 2 v2 0→s'.bx 2=⟨v2,.var [.sl (c.dims.map encDim),.int .i64 c.m]⟩→s'.t 3=.ptr 3 v3 0→s'.bx 3=⟨v3,.var x⟩→K (.x 0) s')→(rest.all (fixOk c)=false→∀ s',s'.t 4=.c (.bool false)→K .r s')→wP (CP) (.loop b55_0) s K:=by
 intro rest
 induction rest with
 | nil =>
  intro i s hd hi t2 b2 t3 b3 t31 t32 t33 hx hr
  refine jf ?_
  have:=jm hd hi
  subst this
  rw [← ja t2,← jc b2,← ja t3,← jc b3,← ja t31,← ja t32,← ja t33]
  unfold b55_0
  repeat' (first | refine st0 ?_ | intro u)
  exact hx rfl _ (by rfl) (by rfl) (by rfl) (by rfl)
 | cons f rest ih =>
  intro i s hd hi t2 b2 t3 b3 t31 t32 t33 hx hr
  refine jf ?_
  have he:(fs.map encFix)[((i:Nat):Int).toNat]? = some (encFix f):=jp hd
  have hil:=jo hd
  have hn:=jg hd
  have c1:=jlx c f h (hm f (List.mem_of_mem_drop (by rw [hd]; simp)))
  have ih':=fun s=>ih (i + 1) s hn (by omega)
  generalize hq:fixOk c f=q at *
  rw [← ja t2,← jc b2,← ja t3,← jc b3,← ja t31,← ja t32,← ja t33]
  unfold encCat at c1
  unfold encFix at *
  unfold b55_0
  cases q with
  | true =>
   repeat' (first | refine ji rfl rfl (by omega) he rfl ?_ | refine call2 rfl rfl c1 ?_ | refine st6 ?_ | intro u)
   refine ih' _ (by rfl) (by rfl) (by rfl) (by rfl) (by rfl) (by rfl) (by rfl) (fun h'=>hx ?_) (fun h'=>hr ?_)
   ·simp only [List.all_cons,hq,h',Bool.and_self]
   ·simp only [List.all_cons,hq,h',Bool.and_false]
  | false =>
   repeat' (first | refine ji rfl rfl (by omega) he rfl ?_ | refine call2 rfl rfl c1 ?_ | refine st3 ?_ | intro u)
   exact hr (by simp only [List.all_cons,hq,Bool.false_and]) _ (by rfl)
theorem jck (c:CatS) (q:QueryS) (h:okCat2 c) (hq:okQ q):CP 55 [.c (.agg (encCat c)),.c (.agg (encQ q))] (.c (.bool (goodQ c q))) []:=by
 have c1:=Vv c q.node h hq.2.2
 have cb:=fun n=>Xd n 0 1000
 have cf:=fun n=>Xd n 1 5
 have cm:=fun n=>Xd n 0 (c.m - 1)
 refine pcallF Tryz.func55 c55 rfl ?_
 have h0:=h.1.1
 have hl:=hq.1
 have lp:=fun (K:Ex→PS→Prop) x v2 v3 s=>ji5 (K:=K) c h q.fixes hq.2.1 hq.1 x v2 v3 q.fixes 0 s rfl (by omega)
 have gm:rightC c q.node zeroP=true→1≤c.m∧c.m≤2:=fun g=>(jx (jB g)).2.1
 unfold goodQ endQ
 generalize rightC c q.node zeroP=g1 at *
 generalize q.fixes.all (fixOk c)=g2 at *
 obtain ⟨nd,fs,tp,ms,fn,lm⟩:=q
 unfold encCat encQ encP at *
 dsimp only [List.cons_append,List.nil_append] at *
 cases g1 with
 | false =>
  unfold p55
  repeat' (first | refine call2 rfl rfl c1 ?_ | refine st2 ?_ | intro u)
  exact jd rfl rfl
 | true =>
  have hcm:=gm rfl
  rw [Bool.true_and]
  by_cases e1:fs.length≤6
  ·by_cases e2:0≤tp∧tp≤1000
   ·have cb1:=cb tp
    rw [decide_eq_true e2] at cb1
    by_cases e3:0≤lm∧lm≤1000
    ·have cb2:=cb lm
     rw [decide_eq_true e3] at cb2
     rw [decide_eq_true ⟨e1,e2,e3⟩,Bool.true_and]
     unfold p55
     repeat' (first | refine call2 rfl rfl c1 ?_ | refine je rfl (List.length_map _) ?_ | refine call3 rfl rfl rfl cb1 ?_ | refine call3 rfl rfl rfl cb2 ?_ | refine st2 ?_ | intro u)
     refine lp _ _ _ _ _ (by rfl) (by rfl) (by rfl) (by rfl) (by rfl) (by rfl) (by rfl) (fun hf s' t2 b2 t3 b3=>?_) (fun hf s' h4=>?_)
     ·subst hf
      rw [← ja t2,← jc b2,← ja t3,← jc b3]
      rw [Bool.true_and]
      by_cases e4:tp=0
      ·rw [if_pos e4]
       by_cases e5:ms=0
       ·by_cases e6:fn=0
        ·rw [decide_eq_true ⟨e5,e6⟩]
         repeat' (first | refine st2 ?_ | intro u)
         exact jd rfl rfl
        ·rw [decide_eq_false (fun x=>e6 x.2)]
         repeat' (first | refine st2 ?_ | intro u)
         exact jd rfl rfl
       ·rw [decide_eq_false (fun x=>e5 x.1)]
        repeat' (first | refine st2 ?_ | intro u)
        exact jd rfl rfl
      ·rw [if_neg e4]
       have cm1:=cm ms
       have cf1:=cf fn
       by_cases e5:0≤ms∧ms < c.m
       ·rw [decide_eq_true (show 0≤ms∧ms≤c.m - 1 by omega)] at cm1
        by_cases e6:1≤fn∧fn≤5
        ·rw [decide_eq_true e6] at cf1
         rw [decide_eq_true ⟨e5,e6⟩]
         repeat' (first | refine call3 rfl rfl rfl cm1 ?_ | refine call3 rfl rfl rfl cf1 ?_ | refine st2 ?_ | intro u)
         exact jd rfl rfl
        ·rw [decide_eq_false e6] at cf1
         rw [decide_eq_false (fun x=>e6 x.2)]
         repeat' (first | refine call3 rfl rfl rfl cm1 ?_ | refine call3 rfl rfl rfl cf1 ?_ | refine st2 ?_ | intro u)
         exact jd rfl rfl
       ·rw [decide_eq_false (show ¬ (0≤ms∧ms≤c.m - 1) by omega)] at cm1
        rw [decide_eq_false (fun x=>e5 x.1)]
        repeat' (first | refine call3 rfl rfl rfl cm1 ?_ | refine st2 ?_ | intro u)
        exact jd rfl rfl
     ·subst hf
      rw [← ja h4,Bool.false_and]
      repeat' (first | refine j8 ?_ | refine kl ?_)
      exact jd rfl rfl
    ·have cb2:=cb lm
     rw [decide_eq_false e3] at cb2
     rw [decide_eq_false (fun x=>e3 x.2.2),Bool.false_and]
     unfold p55
     repeat' (first | refine call2 rfl rfl c1 ?_ | refine je rfl (List.length_map _) ?_ | refine call3 rfl rfl rfl cb1 ?_ | refine call3 rfl rfl rfl cb2 ?_ | refine st2 ?_ | intro u)
     exact jd rfl rfl
   ·have cb1:=cb tp
    rw [decide_eq_false e2] at cb1
    rw [decide_eq_false (fun x=>e2 x.2.1),Bool.false_and]
    unfold p55
    repeat' (first | refine call2 rfl rfl c1 ?_ | refine je rfl (List.length_map _) ?_ | refine call3 rfl rfl rfl cb1 ?_ | refine st2 ?_ | intro u)
    exact jd rfl rfl
  ·rw [decide_eq_false (fun x=>e1 x.1),Bool.false_and]
   unfold p55
   repeat' (first | refine call2 rfl rfl c1 ?_ | refine je rfl (List.length_map _) ?_ | refine st2 ?_ | intro u)
   exact jd rfl rfl
set_option maxRecDepth 100000
set_option maxHeartbeats 16000000
theorem ji6 {K:KT} (c:CatS) (h:okCat2 c) (g:goodCat c=true) (x0 x1 x2 x3:CV) (tp ms fn lm:Int) (fs:List FixS) (hm:∀ f∈fs,f.mem.length≤9223372036854775807) (hlen:fs.length≤9223372036854775807) (v2 v3:Nat):∀ (rest:List FixS) (i:Nat) (s:PS),fs.drop i=rest→i≤fs.length →
  s.t 2=.ptr 2 v2 0→s.bx 2=⟨v2,.var [.sl (c.dims.map encDim),.int .i64 c.m]⟩→s.t 3=.ptr 3 v3 0→s.bx 3=⟨v3,.var [x0,x1,x2,x3,.sl (fs.map encFix),.int .i64 tp,.int .i64 ms,.int .i64 fn,.int .i64 lm]⟩→s.t 5=.c (.int .i64 i) →
  (rest.all (fixOk c)=true→∀ s',s'.t 2=.ptr 2 v2 0→s'.bx 2=⟨v2,.var [.sl (c.dims.map encDim),.int .i64 c.m]⟩→s'.t 3=.ptr 3 v3 0→s'.bx 3=⟨v3,.var [x0,x1,x2,x3,.sl (fs.map encFix),.int .i64 tp,.int .i64 ms,.int .i64 fn,.int .i64 lm]⟩→K (.x 0) s')→(rest.all (fixOk c)=false→∀ s',s'.t 4=.c (.bool false)→K .r s')→wP (CP) (.loop b39_0) s K:=by
 intro rest
 induction rest with
 | nil =>
  intro i s hd hi t2 b2 t3 b3 t5 hx hr
  refine jf ?_
  have:=jm hd hi
  subst this
  rw [← ja t2,← jc b2,← ja t3,← jc b3,← ja t5]
  unfold b39_0
  repeat' (first | refine je rfl (List.length_map _) ?_ | refine st0 ?_ | intro u)
  exact hx rfl _ (by rfl) (by rfl) (by rfl) (by rfl)
 | cons f rest ih =>
  intro i s hd hi t2 b2 t3 b3 t5 hx hr
  refine jf ?_
  have he:(fs.map encFix)[((i:Nat):Int).toNat]? = some (encFix f):=jp hd
  have hil:=jo hd
  have hn:=jg hd
  have c1:=jly c f h g (hm f (List.mem_of_mem_drop (by rw [hd]; simp)))
  have ih':=fun s=>ih (i + 1) s hn (by omega)
  generalize hq:fixOk c f=q at *
  rw [← ja t2,← jc b2,← ja t3,← jc b3,← ja t5]
  unfold encCat at c1
  unfold encFix at *
  unfold b39_0
  cases q with
  | true =>
   repeat' (first | refine je rfl (List.length_map _) ?_ | refine ji rfl rfl (by omega) he rfl ?_ | refine call2 rfl rfl c1 ?_ | refine st1 ?_ | intro u)
   refine ih' _ (by rfl) (by rfl) (by rfl) (by rfl) (by rfl) (fun h'=>hx ?_) (fun h'=>hr ?_)
   ·simp only [List.all_cons,hq,h',Bool.and_self]
   ·simp only [List.all_cons,hq,h',Bool.and_false]
  | false =>
   repeat' (first | refine je rfl (List.length_map _) ?_ | refine ji rfl rfl (by omega) he rfl ?_ | refine call2 rfl rfl c1 ?_ | refine st3 ?_ | intro u)
   exact hr (by simp only [List.all_cons,hq,Bool.false_and]) _ (by rfl)
theorem Xf (c : CatS) (q : QueryS) (h : okCat2 c) (hq : okQ q) : CP 39 [.c (.agg (encCat c)), .c (.agg (encQ q))] (.c (.bool (goodQ c q))) [] := by
  have c1 := vy c q.node h.1 hq.2.2
  refine pcallF Tryz.func39 c39 rfl ?_
  have h0 := h.1.1
  have hl := hq.1
  have lp := fun g (K : Ex → PS → Prop) x0 x1 x2 x3 tp ms fn lm v2 v3 s => ji6 (K := K) c h g x0 x1 x2 x3 tp ms fn lm q.fixes hq.2.1 hq.1 v2 v3 q.fixes 0 s rfl (by omega)
  have gm : rightC c q.node zeroP = true → goodCat c = true := fun g => jB g
  unfold goodQ endQ
  generalize rightC c q.node zeroP = g1 at *
  generalize q.fixes.all (fixOk c) = g2 at *
  obtain ⟨nd, fs, tp, ms, fn, lm⟩ := q
  unfold encCat encQ encP at *
  dsimp only [List.cons_append, List.nil_append] at *
  cases g1 with
  | false =>
    unfold p39
    repeat' (first | refine call2 rfl rfl c1 ?_ | refine st2 ?_ | intro u)
    exact jd rfl rfl
  | true =>
    have g := gm rfl
    rw [Bool.true_and]
    by_cases e1 : fs.length ≤ 6
    · by_cases e2 : 0 ≤ tp ∧ tp ≤ 1000
      · by_cases e3 : 0 ≤ lm ∧ lm ≤ 1000
        · rw [decide_eq_true ⟨e1, e2, e3⟩, Bool.true_and]
          unfold p39
          repeat' (first | refine call2 rfl rfl c1 ?_ | refine je rfl (List.length_map _) ?_ | refine st2 ?_ | intro u)
          refine lp g _ _ _ _ _ _ _ _ _ _ _ _ (by rfl) (by rfl) (by rfl) (by rfl) (by rfl) (fun hf s' t2 b2 t3 b3 => ?_) (fun hf s' h4 => ?_)
          · subst hf
            rw [← ja t2, ← jc b2, ← ja t3, ← jc b3]
            rw [Bool.true_and]
            by_cases e4 : tp = 0
            · rw [if_pos e4]
              by_cases e5 : ms = 0
              · by_cases e6 : fn = 0
                · rw [decide_eq_true ⟨e5, e6⟩]
                  repeat' (first | refine st2 ?_ | intro u)
                  exact jd rfl rfl
                · rw [decide_eq_false (fun x => e6 x.2)]
                  repeat' (first | refine st2 ?_ | intro u)
                  exact jd rfl rfl
              · rw [decide_eq_false (fun x => e5 x.1)]
                repeat' (first | refine st2 ?_ | intro u)
                exact jd rfl rfl
            · rw [if_neg e4]
              by_cases e5 : 0 ≤ ms
              · by_cases e7 : ms < c.m
                · by_cases e6 : 1 ≤ fn
                  · by_cases e8 : fn ≤ 5
                    · rw [decide_eq_true ⟨⟨e5, e7⟩, e6, e8⟩]
                      repeat' (first | refine st2 ?_ | intro u)
                      exact jd rfl rfl
                    · rw [decide_eq_false (fun x => e8 x.2.2)]
                      repeat' (first | refine st2 ?_ | intro u)
                      exact jd rfl rfl
                  · rw [decide_eq_false (fun x => e6 x.2.1)]
                    repeat' (first | refine st2 ?_ | intro u)
                    exact jd rfl rfl
                · rw [decide_eq_false (fun x => e7 x.1.2)]
                  repeat' (first | refine st2 ?_ | intro u)
                  exact jd rfl rfl
              · rw [decide_eq_false (fun x => e5 x.1.1)]
                repeat' (first | refine st2 ?_ | intro u)
                exact jd rfl rfl
          · subst hf
            rw [← ja h4, Bool.false_and]
            repeat' (first | refine j8 ?_ | refine kl ?_)
            exact jd rfl rfl
        · rw [decide_eq_false (fun x => e3 x.2.2), Bool.false_and]
          unfold p39
          by_cases e4 : lm < 0
          · repeat' (first | refine call2 rfl rfl c1 ?_ | refine je rfl (List.length_map _) ?_ | refine st2 ?_ | intro u)
            exact jd rfl rfl
          · have e5 : ¬ lm ≤ 1000 := fun x => e3 ⟨by omega, x⟩
            repeat' (first | refine call2 rfl rfl c1 ?_ | refine je rfl (List.length_map _) ?_ | refine st2 ?_ | intro u)
            exact jd rfl rfl
      · rw [decide_eq_false (fun x => e2 x.2.1), Bool.false_and]
        unfold p39
        by_cases e4 : tp < 0
        · repeat' (first | refine call2 rfl rfl c1 ?_ | refine je rfl (List.length_map _) ?_ | refine st2 ?_ | intro u)
          exact jd rfl rfl
        · have e5 : ¬ tp ≤ 1000 := fun x => e2 ⟨by omega, x⟩
          repeat' (first | refine call2 rfl rfl c1 ?_ | refine je rfl (List.length_map _) ?_ | refine st2 ?_ | intro u)
          exact jd rfl rfl
    · rw [decide_eq_false (fun x => e1 x.1), Bool.false_and]
      unfold p39
      repeat' (first | refine call2 rfl rfl c1 ?_ | refine je rfl (List.length_map _) ?_ | refine st2 ?_ | intro u)
      exact jd rfl rfl
/-! ### Need -/
theorem ZF {v:Go.Bag.Place} {k:Nat} {n:Int} (h:k < 4):spl (encP v) (0 + ((k:Nat):Int).toNat * 1) [.int .u8 n]=encP (ofP ((placeL v).set k n)):=by
 match k,h with
 | 0,_=>rfl
 | 1,_=>rfl
 | 2,_=>rfl
 | 3,_=>rfl
theorem jcl {v:Go.Bag.Place} {f:FixS} (hv:u8P v) (hf:0≤f.level):u8P (minP v f):=by
 have hv':=u8P4 hv
 have:∀ (k:Nat) (n:Int),0≤n∧n≤255→u8P (ofP ((placeL v).set k n)):=by
  intro k n hn x hx
  match k with
  | 0=>simp [placeL,ofP] at hx; omega
  | 1=>simp [placeL,ofP] at hx; omega
  | 2=>simp [placeL,ofP] at hx; omega
  | 3=>simp [placeL,ofP] at hx; omega
  | k + 4=>simp [placeL,ofP] at hx; omega
 unfold minP
 refine this _ _ ?_
 have hg:0≤(placeL v).getD f.dim.toNat 0∧(placeL v).getD f.dim.toNat 0≤255:=by
  by_cases hi:f.dim.toNat < (placeL v).length
  ·rw [List.getD_eq_getElem?_getD,List.getElem?_eq_getElem hi]
   exact hv _ (List.getElem_mem hi)
  ·rw [List.getD_eq_getElem?_getD,List.getElem?_eq_none (by omega)]
   simp
 split <;> omega
theorem jgb {v:Go.Bag.Place} {f:FixS} (h:¬ f.level < (placeL v).getD f.dim.toNat 0):minP v f=v:=by
 unfold minP
 rw [if_neg h]
 obtain ⟨v0,v1,v2,v3⟩:=v
 match f.dim.toNat with
 | 0=>rfl
 | 1=>rfl
 | 2=>rfl
 | 3=>rfl
 | k + 4=>rfl
theorem ji7 {K:KT} (c:CatS) (hl4:c.dims.length≤4) (fs:List FixS) (hok:∀ f∈fs,fixOk c f=true) (hlen:fs.length≤9223372036854775807) (v4 v5:Nat):∀ (rest:List FixS) (v:Go.Bag.Place) (i:Nat) (s:PS),fs.drop i=rest→i≤fs.length→u8P v →
  s.t 4=.ptr 4 v4 0→s.bx 4=⟨v4,.var (encP zeroP)⟩→s.t 5=.ptr 5 v5 0→s.bx 5=⟨v5,.var (encP v)⟩→s.t 16=.c (.sl (fs.map encFix))→s.t 17=.c (.int .i64 fs.length)→s.t 18=.c (.int .i64 i) →
  (∀ s',s'.t 4=.ptr 4 v4 0→s'.bx 4=⟨v4,.var (encP zeroP)⟩→s'.t 5=.ptr 5 v5 0→s'.bx 5=⟨v5,.var (encP (rest.foldl minP v))⟩→K (.x 0) s')→wP (CP) (.loop b56_0) s K:=by
 intro rest
 induction rest with
 | nil =>
  intro v i s hd hi hu t4 b4 t5 b5 t16 t17 t18 hK
  refine jf ?_
  have:=jm hd hi
  subst this
  rw [← ja t4,← jc b4,← ja t5,← jc b5,← ja t16,← ja t17,← ja t18]
  unfold b56_0
  repeat' (first | refine st0 ?_ | intro u)
  exact hK _ (by rfl) (by rfl) (by rfl) (by rfl)
 | cons f rest ih =>
  intro v i s hd hi hu t4 b4 t5 b5 t16 t17 t18 hK
  refine jf ?_
  have he:(fs.map encFix)[((i:Nat):Int).toNat]? = some (encFix f):=jp hd
  have hil:=jo hd
  have hn:=jg hd
  have hf:=hok f (List.mem_of_mem_drop (by rw [hd]; simp))
  have hf1:=(wA hf).1
  obtain ⟨d,_,_,hl0,_,hl1⟩:=fix_level hf
  have hu':=jcl hu hl0
  have hK':∀ s',s'.t 4=.ptr 4 v4 0→s'.bx 4=⟨v4,.var (encP zeroP)⟩→s'.t 5=.ptr 5 v5 0→s'.bx 5=⟨v5,.var (encP (rest.foldl minP (minP v f)))⟩→K (.x 0) s':=hK
  have ih':=fun s=>ih (minP v f) (i + 1) s hn (by omega) hu'
  obtain ⟨k,hk⟩:=Int.eq_ofNat_of_zero_le hf1.1
  have hk4:k < 4:=by omega
  obtain ⟨x,xs,hx⟩:=j7 (p:=v) (i:=k) rfl hk4
  obtain ⟨gx,_⟩:=jV hx
  have rx:=rd1 gx
  have lx:(0 + ((k:Nat):Int).toNat * 1) + 1≤(encP v).length:=jZ (by show 0 + k < 4; omega)
  have ux:=hu x (List.mem_of_mem_drop (by rw [hx]; simp))
  have hw:=Vw (n:=f.level) (by omega)
  have hst:spl (encP v) (0 + ((k:Nat):Int).toNat * 1) (CV.int .u8 (if f.level < x then f.level else x)).cells=encP (minP v f):=by
   have:=ZF (v:=v) (k:=k) (n:=if f.level < x then f.level else x) hk4
   show spl (encP v) (0 + ((k:Nat):Int).toNat * 1) [.int .u8 (if f.level < x then f.level else x)]=_
   rw [this]
   unfold minP
   rw [hk,Int.toNat_natCast,vb hx]
  generalize minP v f=v' at *
  obtain ⟨fd,fl,fm⟩:=f
  dsimp only at *
  subst hk
  generalize encP v'=ev' at *
  generalize encP v=ev at *
  rw [← ja t4,← jc b4,← ja t5,← jc b5,← ja t16,← ja t17,← ja t18]
  unfold encFix at *
  dsimp only at *
  unfold b56_0
  repeat' (first | refine ji rfl rfl (by omega) he rfl ?_ | refine jl rfl (by decide) rfl lx rx ?_ | refine jL rfl hw ?_ | refine jt rfl rfl (by decide) rfl rfl lx hst ?_ | refine st7 ?_ | intro u)
  exact ih' _ (by rfl) (by rfl) (by rfl) (by rfl) (by rfl) (by rfl) (by rfl) hK'
theorem ji8 (c:CatS) (q:QueryS) (h:okCat2 c) (hq:okQ q):CP 56 [.c (.agg (encCat c)),.c (.agg (encQ q))] (.c (.agg (encP (needQ c q)))) []:=by
 have c1:=jck c q h hq
 refine pcallF Tryz.func56 c56 rfl ?_
 unfold needQ
 cases g:goodQ c q with
 | false =>
  rw [g] at c1
  rw [if_neg (by simp)]
  unfold encCat encQ encP zeroP at *
  dsimp only [List.cons_append,List.nil_append] at *
  unfold p56
  repeat' (first | refine call2 rfl rfl c1 ?_ | refine st7 ?_ | intro u)
  exact jd (jh rfl rfl rfl rfl jk) rfl
 | true =>
  rw [g] at c1
  rw [if_pos rfl]
  have hl:=hq.1
  have hg:=g
  unfold goodQ at hg
  simp only [Bool.and_eq_true,List.all_eq_true] at hg
  have hl4:=(jx (jB hg.1.1)).1.2
  have lp:=fun (K:Ex→PS→Prop) v4 v5 s=>ji7 (K:=K) c hl4 q.fixes hg.2.1 hq.1 v4 v5 q.fixes q.node 0 s rfl (by omega) hq.2.2
  generalize q.fixes.foldl minP q.node=r at *
  unfold encCat encQ encP zeroP at *
  dsimp only [List.cons_append,List.nil_append] at *
  unfold p56
  repeat' (first | refine call2 rfl rfl c1 ?_ | refine je rfl (List.length_map _) ?_ | refine st3 ?_ | intro u)
  refine lp _ _ _ _ (by rfl) (by rfl) (by rfl) (by rfl) (by rfl) (by rfl) (by rfl) (fun s' t4 b4 t5 b5=>?_)
  rw [← ja t4,← jc b4,← ja t5,← jc b5]
  repeat' (first | refine st0 ?_ | intro u)
  exact jd (jh rfl rfl rfl rfl jk) rfl
theorem ji9 {K:KT} (c:CatS) (hl4:c.dims.length≤4) (x0 x1 x2 x3:CV) (tp ms fn lm:Int) (fs:List FixS) (hok:∀ f∈fs,fixOk c f=true) (hlen:fs.length≤9223372036854775807) (v3 v4 v5:Nat):∀ (rest:List FixS) (v:Go.Bag.Place) (i:Nat) (s:PS),fs.drop i=rest→i≤fs.length→u8P v →
  s.t 3=.ptr 3 v3 0→s.bx 3=⟨v3,.var [x0,x1,x2,x3,.sl (fs.map encFix),.int .i64 tp,.int .i64 ms,.int .i64 fn,.int .i64 lm]⟩→s.t 4=.ptr 4 v4 0→s.bx 4=⟨v4,.var (encP zeroP)⟩→s.t 5=.ptr 5 v5 0→s.bx 5=⟨v5,.var (encP v)⟩→s.t 6=.c (.int .i64 i) →
  (∀ s',s'.t 4=.ptr 4 v4 0→s'.bx 4=⟨v4,.var (encP zeroP)⟩→s'.t 5=.ptr 5 v5 0→s'.bx 5=⟨v5,.var (encP (rest.foldl minP v))⟩→K (.x 0) s')→wP (CP) (.loop b16_0) s K:=by
 intro rest
 induction rest with
 | nil =>
  intro v i s hd hi hu t3 b3 t4 b4 t5 b5 t6 hK
  refine jf ?_
  have:=jm hd hi
  subst this
  rw [← ja t3,← jc b3,← ja t4,← jc b4,← ja t5,← jc b5,← ja t6]
  unfold b16_0
  repeat' (first | refine je rfl (List.length_map _) ?_ | refine st0 ?_ | intro u)
  exact hK _ (by rfl) (by rfl) (by rfl) (by rfl)
 | cons f rest ih =>
  intro v i s hd hi hu t3 b3 t4 b4 t5 b5 t6 hK
  refine jf ?_
  have he:(fs.map encFix)[((i:Nat):Int).toNat]? = some (encFix f):=jp hd
  have hil:=jo hd
  have hn:=jg hd
  have hf:=hok f (List.mem_of_mem_drop (by rw [hd]; simp))
  have hf1:=(wA hf).1
  obtain ⟨d,_,_,hl0,_,hl1⟩:=fix_level hf
  have hu':=jcl hu hl0
  have hK':∀ s',s'.t 4=.ptr 4 v4 0→s'.bx 4=⟨v4,.var (encP zeroP)⟩→s'.t 5=.ptr 5 v5 0→s'.bx 5=⟨v5,.var (encP (rest.foldl minP (minP v f)))⟩→K (.x 0) s':=hK
  have ih':=fun s=>ih (minP v f) (i + 1) s hn (by omega) hu'
  obtain ⟨k,hk⟩:=Int.eq_ofNat_of_zero_le hf1.1
  have hk4:k < 4:=by omega
  obtain ⟨x,xs,hx⟩:=j7 (p:=v) (i:=k) rfl hk4
  obtain ⟨gx,_⟩:=jV hx
  have rx:=rd1 gx
  have lx:(0 + ((k:Nat):Int).toNat * 1) + 1≤(encP v).length:=jZ (by show 0 + k < 4; omega)
  have ux:=hu x (List.mem_of_mem_drop (by rw [hx]; simp))
  have hw:=Vw (n:=f.level) (by omega)
  by_cases hlt:f.level < x
  ·have hst:spl (encP v) (0 + ((k:Nat):Int).toNat * 1) (CV.int .u8 f.level).cells=encP (minP v f):=by
    have:=ZF (v:=v) (k:=k) (n:=f.level) hk4
    show spl (encP v) (0 + ((k:Nat):Int).toNat * 1) [.int .u8 f.level]=_
    rw [this]
    unfold minP
    rw [hk,Int.toNat_natCast,vb hx,if_pos hlt]
   generalize minP v f=v' at *
   obtain ⟨fd,fl,fm⟩:=f
   dsimp only at *
   subst hk
   generalize encP v'=ev' at *
   generalize encP v=ev at *
   rw [← ja t3,← jc b3,← ja t4,← jc b4,← ja t5,← jc b5,← ja t6]
   unfold encFix at *
   dsimp only at *
   unfold b16_0
   repeat' (first | refine je rfl (List.length_map _) ?_ | refine ji rfl rfl (by omega) he rfl ?_ | refine jl rfl (by decide) rfl lx rx ?_ | refine jL rfl hw ?_ | refine jt rfl rfl (by decide) rfl rfl lx hst ?_ | refine st4 ?_ | intro u)
   exact ih' _ (by rfl) (by rfl) (by rfl) (by rfl) (by rfl) (by rfl) (by rfl) hK'
  ·have hm:minP v f=v:=jgb (by rw [hk,Int.toNat_natCast,vb hx]; exact hlt)
   rw [hm] at ih' hK'
   obtain ⟨fd,fl,fm⟩:=f
   dsimp only at *
   subst hk
   generalize encP v=ev at *
   rw [← ja t3,← jc b3,← ja t4,← jc b4,← ja t5,← jc b5,← ja t6]
   unfold encFix at *
   dsimp only at *
   unfold b16_0
   repeat' (first | refine je rfl (List.length_map _) ?_ | refine ji rfl rfl (by omega) he rfl ?_ | refine jl rfl (by decide) rfl lx rx ?_ | refine st7 ?_ | intro u)
   exact ih' _ (by rfl) (by rfl) (by rfl) (by rfl) (by rfl) (by rfl) (by rfl) hK'
theorem Xg (c:CatS) (q:QueryS) (h:okCat2 c) (hq:okQ q):CP 16 [.c (.agg (encCat c)),.c (.agg (encQ q))] (.c (.agg (encP (needQ c q)))) []:=by
 have c1:=Xf c q h hq
 refine pcallF Tryz.func16 c16 rfl ?_
 unfold needQ
 cases g:goodQ c q with
 | false =>
  rw [g] at c1
  rw [if_neg (by simp)]
  unfold encCat encQ encP zeroP at *
  dsimp only [List.cons_append,List.nil_append] at *
  unfold p16
  repeat' (first | refine call2 rfl rfl c1 ?_ | refine st7 ?_ | intro u)
  exact jd (jh rfl rfl rfl rfl jk) rfl
 | true =>
  rw [g] at c1
  rw [if_pos rfl]
  have hl:=hq.1
  have hg:=g
  unfold goodQ at hg
  simp only [Bool.and_eq_true,List.all_eq_true] at hg
  have hl4:=(jx (jB hg.1.1)).1.2
  have lp:=fun (K:Ex→PS→Prop) x0 x1 x2 x3 tp ms fn lm v3 v4 v5 s=>ji9 (K:=K) c hl4 x0 x1 x2 x3 tp ms fn lm q.fixes hg.2.1 hq.1 v3 v4 v5 q.fixes q.node 0 s rfl (by omega) hq.2.2
  generalize q.fixes.foldl minP q.node=r at *
  unfold encCat encQ encP zeroP at *
  dsimp only [List.cons_append,List.nil_append] at *
  unfold p16
  repeat' (first | refine call2 rfl rfl c1 ?_ | refine st3 ?_ | intro u)
  refine lp _ _ _ _ _ _ _ _ _ _ _ _ _ (by rfl) (by rfl) (by rfl) (by rfl) (by rfl) (by rfl) (by rfl) (fun s' t4 b4 t5 b5=>?_)
  rw [← ja t4,← jc b4,← ja t5,← jc b5]
  repeat' (first | refine st0 ?_ | intro u)
  exact jd (jh rfl rfl rfl rfl jk) rfl
/-! ### LightQuery -/
theorem jja {K:KT} (x0 x1 x2 x3:CV) (tp ms fn lm:Int) (fs:List FixS) (hm:∀ f∈fs,f.mem.length≤9223372036854775807) (hlen:fs.length≤9223372036854775807) (v1:Nat):∀ (rest:List FixS) (i:Nat) (s:PS),fs.drop i=rest→i≤fs.length →
  s.t 1=.ptr 1 v1 0→s.bx 1=⟨v1,.var [x0,x1,x2,x3,.sl (fs.map encFix),.int .i64 tp,.int .i64 ms,.int .i64 fn,.int .i64 lm]⟩→s.t 3=.c (.int .i64 i) →
  ((rest.all fun f=>decide (f.mem.length≤60))=true→∀ s',K (.x 0) s')→((rest.all fun f=>decide (f.mem.length≤60))=false→∀ s',s'.t 2=.c (.bool false)→K .r s')→wP (CP) (.loop b32_0) s K:=by
 intro rest
 induction rest with
 | nil =>
  intro i s hd hi t1 b1 t3 hx hr
  refine jf ?_
  have:=jm hd hi
  subst this
  rw [← ja t1,← jc b1,← ja t3]
  unfold b32_0
  repeat' (first | refine je rfl (List.length_map _) ?_ | refine st0 ?_ | intro u)
  exact hx rfl _
 | cons f rest ih =>
  intro i s hd hi t1 b1 t3 hx hr
  refine jf ?_
  have he:(fs.map encFix)[((i:Nat):Int).toNat]? = some (encFix f):=jp hd
  have hil:=jo hd
  have hn:=jg hd
  have hml:=hm f (List.mem_of_mem_drop (by rw [hd]; simp))
  have ih':=fun s=>ih (i + 1) s hn (by omega)
  rw [← ja t1,← jc b1,← ja t3]
  unfold encFix encIs at *
  unfold b32_0
  by_cases h1:f.mem.length≤60
  ·repeat' (first | refine je rfl (List.length_map _) ?_ | refine ji rfl rfl (by omega) he rfl ?_ | refine st4 ?_ | intro u)
   refine ih' _ (by rfl) (by rfl) (by rfl) (fun h'=>hx ?_) (fun h'=>hr ?_)
   ·simp only [List.all_cons,decide_eq_true h1,h',Bool.and_self]
   ·simp only [List.all_cons,decide_eq_true h1,h',Bool.and_false]
  ·repeat' (first | refine je rfl (List.length_map _) ?_ | refine ji rfl rfl (by omega) he rfl ?_ | refine st3 ?_ | intro u)
   exact hr (by simp only [List.all_cons,decide_eq_false h1,Bool.false_and]) _ (by rfl)
theorem ZG (q:QueryS) (hq:okQ q):CP 32 [.c (.agg (encQ q))] (.c (.bool (lightQ q))) []:=by
 refine pcallF Tryz.func32 c32 rfl ?_
 have hl:=hq.1
 have lp:=fun (K:Ex→PS→Prop) x0 x1 x2 x3 tp ms fn lm v1 s=>jja (K:=K) x0 x1 x2 x3 tp ms fn lm q.fixes hq.2.1 hq.1 v1 q.fixes 0 s rfl (by omega)
 unfold lightQ
 generalize (q.fixes.all fun f=>decide (f.mem.length≤60))=r at *
 unfold encQ encP at *
 dsimp only [List.cons_append,List.nil_append] at *
 unfold p32
 by_cases h1:q.fixes.length≤10
 ·rw [decide_eq_true h1,Bool.true_and]
  repeat' (first | refine je rfl (List.length_map _) ?_ | refine st2 ?_ | intro u)
  refine lp _ _ _ _ _ _ _ _ _ _ _ (by rfl) (by rfl) (by rfl) (fun hf s'=>?_) (fun hf s' h4=>?_)
  ·subst hf
   repeat' (first | refine st0 ?_ | intro u)
   exact jd rfl rfl
  ·subst hf
   rw [← ja h4]
   repeat' (first | refine j8 ?_ | refine kl ?_)
   exact jd rfl rfl
 ·rw [decide_eq_false h1,Bool.false_and]
  repeat' (first | refine je rfl (List.length_map _) ?_ | refine st2 ?_ | intro u)
  exact jd rfl rfl
end Go.Proofs.YtnpncbplhdnonaaGreat
/-
 DELTAS,PLAIN: what comes,what goes. My own work.
-/
namespace Go.Bag
open Go.Pl
set_option maxRecDepth 100000
/-! ### All runs together, weighed -/
def swt (f:Int→Int):List Run→Int
 | []=>0
 | r::l=>f r.1 * r.2 + swt f l
theorem Xh (f:Int→Int):∀ (a b:List Run),swt f (a++b)=swt f a + swt f b
 | [],b=>by simp [swt]
 | r::a,b=>by simp only [List.cons_append,swt,Xh f a b]; omega
def negL (l:List Run):List Run:=l.map fun r=>(r.1,-r.2)
theorem jcm (f:Int→Int):∀ (a:List Run),swt f (negL a)=- swt f a
 | []=>by simp [swt,negL]
 | r::a=>by
  have:=jcm f a
  simp only [negL,List.map_cons,swt,Int.mul_neg] at this ⊢
  omega
theorem jcn:∀ (a:List Run) (v:Int),cnt (negL a) v=- cnt a v
 | [],v=>by simp [cnt,negL]
 | r::a,v=>by
  have:=jcn a v
  simp only [negL,List.map_cons,cnt] at this ⊢
  split <;> omega
theorem jco (f:Int→Int) (k:Int):∀ l:List Run,swt f l=f k * cnt l k + swt f (l.filter fun r=>decide (r.1≠k))
 | []=>by simp [swt,cnt]
 | r::l=>by
  have:=jco f k l
  by_cases e:r.1=k
  ·subst e
   simp only [List.filter_cons,ne_eq,not_true_eq_false,decide_false,Bool.false_eq_true,if_false,swt,cnt,if_true,Int.mul_add] at this ⊢
   omega
  ·simp only [List.filter_cons,ne_eq,e,not_false_eq_true,decide_true,if_true,swt,cnt,if_false,Int.zero_add] at this ⊢
   omega
theorem jcp (k v:Int):∀ l:List Run,cnt (l.filter fun r=>decide (r.1≠k)) v=if v=k then 0 else cnt l v
 | []=>by simp [cnt]
 | r::l=>by
  have:=jcp k v l
  by_cases e:r.1=k
  ·subst e
   simp only [List.filter_cons,ne_eq,not_true_eq_false,decide_false,Bool.false_eq_true,if_false,cnt] at this ⊢
   rw [this]
   by_cases ev:v=r.1
   ·simp [ev]
   ·simp [ev,Ne.symm ev]
  ·simp only [List.filter_cons,ne_eq,e,not_false_eq_true,decide_true,if_true,cnt] at this ⊢
   rw [this]
   by_cases ev:v=k
   ·subst ev; simp [e]
   ·simp [ev]
theorem ZH (f:Int→Int):∀ (n:Nat) (l:List Run),l.length≤n→(∀ v,cnt l v=0)→swt f l=0
 | _,[],_,_=>rfl
 | 0,_::_,h,_=>by simp at h
 | n + 1,r::l,h,hc=>by
  rw [jco f r.1,hc r.1]
  have hl:((r::l).filter fun q=>decide (q.1≠r.1)).length≤n:=by
   have:=List.length_filter_le (fun q=>decide (q.1≠r.1)) l
   simp only [List.filter_cons,ne_eq,not_true_eq_false,decide_false,Bool.false_eq_true,if_false] at *
   simp only [List.length_cons] at h
   omega
  rw [ZH f n _ hl fun v=>by rw [jcp]; split <;> simp [hc]]
  simp
theorem jcq:∀ l:List Run,sum l=swt (fun _=>1) l
 | []=>rfl
 | r::l=>by simp only [sum,swt,jcq l]; omega
theorem ZI:∀ l:List Run,wsum l=swt (fun v=>v) l
 | []=>rfl
 | r::l=>by simp only [wsum,swt,ZI l]
theorem Xi {a b c d:List Run} (h:∀ v,cnt a v + cnt b v=cnt c v + cnt d v):sum a + sum b=sum c + sum d∧wsum a + wsum b=wsum c + wsum d:=by
 have key:∀ f,swt f a + swt f b=swt f c + swt f d:=by
  intro f
  have:=ZH f _ (a++b++(negL c++negL d)) (Nat.le_refl _) fun v=>by
   simp only [jT,jcn]; have:=h v; omega
  simp only [Xh,jcm] at this
  omega
 simp only [jcq,ZI]
 exact ⟨key _,key _⟩
/-! ### What two have in common, what one has more -/
def some_ (v n:Int):List Run:=if 0 < n then [(v,n)] else []
def cut (b:List Run):List Run→List Run
 | []=>[]
 | r::l=>some_ r.1 (r.2 - min r.2 (has b r.1))++cut b l
theorem jgc {a b:List Run} (ga:good a=true) (gb:good b=true) (h:∀ v,cnt a v=cnt b v):a=b:=by
 obtain ⟨a1,a2,_⟩:=jA.mp ga
 obtain ⟨b1,b2,_⟩:=jA.mp gb
 exact ext a1 b1 a2 b2 h
theorem wB {a:List Run} (ga:good a=true) (v:Int):0≤cnt a v:=jU v (jA.mp ga).2.1
def apartL (a b:List Run):Bool:=a.all fun r=>decide (has b r.1≤0)
theorem ja4 {a b:List Run} (ga:good a=true) (gb:good b=true):apartL a b=true↔∀ v,cnt a v=0∨cnt b v=0:=by
 obtain ⟨a1,a2,_⟩:=jA.mp ga
 obtain ⟨b1,b2,_⟩:=jA.mp gb
 simp only [apartL,List.all_eq_true,decide_eq_true_eq]
 constructor
 ·intro h v
  by_cases hv:cnt a v=0
  ·exact .inl hv
  ·obtain ⟨r,hr,rfl⟩:=k9 hv
   have:=h r hr
   rw [YC _ b1] at this
   have:=jU r.1 b2
   exact .inr (by omega)
 ·intro h r hr
  rw [YC _ b1]
  have:=Wp a1 hr
  have:=a2 r hr
  rcases h r.1 with h | h <;> omega
/-! ### A delta -/
structure Delta where
 n:Int
 s0:Int
 s1:Int
 i0:List Run
 i1:List Run
 o0:List Run
 o1:List Run
 deriving DecidableEq
def inB (k:Nat) (b:List Run):Prop:=ranged b∧b.length≤k
def mD (n s:Int) (a b:List Run):Bool:=decide (good a=true∧good b=true∧apartL a b=true∧sum a - sum b=n∧wsum a - wsum b=s)
def goodD (m:Int) (d:Delta):Bool:=decide ((1≤m∧m≤2)∧(-1099511627776≤d.n∧d.n≤1099511627776)∧mD d.n d.s0 d.i0 d.o0=true∧(if m=2 then mD d.n d.s1 d.i1 d.o1=true else d.s1=0∧d.i1=[]∧d.o1=[]))
theorem jgd {n s:Int} {a b:List Run}:mD n s a b=true↔good a=true∧good b=true∧apartL a b=true∧sum a - sum b=n∧wsum a - wsum b=s:=by simp only [mD,decide_eq_true_eq]
theorem jd2 {m:Int} {d:Delta}:goodD m d=true↔(1≤m∧m≤2)∧(-1099511627776≤d.n∧d.n≤1099511627776)∧mD d.n d.s0 d.i0 d.o0=true∧(if m=2 then mD d.n d.s1 d.i1 d.o1=true else d.s1=0∧d.i1=[]∧d.o1=[]):=by simp only [goodD,decide_eq_true_eq]
def joks (m:Int) (a b:Delta):Prop:=(join a.i0 b.i0).2=true∧(join a.o0 b.o0).2=true∧(m=2→(join a.i1 b.i1).2=true∧(join a.o1 b.o1).2=true)
instance (m:Int) (a b:Delta):Decidable (joks m a b):=by unfold joks; infer_instance
def mayC (m:Int) (c:Cell) (is:Bool):Bool:=if is then goodC m c else decide (c=zeroC)
def swap (b o i:List Run):List Run × Bool:=if (minus b o).2=true then join (minus b o).1 i else ([],false)
end Go.Bag
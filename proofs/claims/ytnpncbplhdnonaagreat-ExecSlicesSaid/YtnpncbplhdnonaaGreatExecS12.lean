/- Part of the proof of ExecTells, ExecAnswers, ExecBest, ExecFirst, ExecLevels, ExecTops, ExecLimits: lemmas. -/
import Derived.Test.YtnpncbplhdnonaaGreatExecS8
import Derived.Test.YtnpncbplhdnonaaGreatExecS11
import Derived.LoopN
set_option linter.unusedVariables false
set_option linter.unusedSimpArgs false
/-
 REGIONS IN WHATEVER ORDER: the theorem. My own work.
-/
namespace Go.Pl
open Go
set_option linter.unusedVariables false
set_option linter.unusedSimpArgs false
def wpR (C:CallP) (pl:List POp) (on:List (Nat × Nat)):List Nat→PS→(PS→Prop)→Prop
 | [],s,K=>K s
 | i::r,s,K=>clm (pl.getD i default) (on.lookup i) s∧wpG C (pl.getD i default) s fun s'=>wpR C pl on r s' K
theorem V4 {C:CallP} {pl:List POp} {on:List (Nat × Nat)} {K:PS→Prop}:∀ (m k:Nat),k + m=pl.length→∀ s,wpLB C on k (pl.drop k) s K→wpR C pl on (List.range' k m) s K
 | 0,k,hk,s,h=>by rw [List.drop_of_length_le (by omega)] at h; exact h
 | m + 1,k,hk,s,h=>by
  have hkl:k < pl.length:=by omega
  rw [List.drop_eq_getElem_cons hkl] at h
  rw [List.range'_succ]
  have:pl.getD k default=pl[k]:=by simp [hkl]
  simp only [wpR,this]
  exact ⟨h.1,vq (fun s h=>V4 m (k + 1) (by omega) s h) h.2⟩
theorem V5 {C:CallP} {K:PS→Prop}:∀ (l:List POp) (k:Nat) (s:PS),wpL C l s K→wpLB C [] k l s K
 | [],k,s,h=>h
 | o::l,k,s,h=>⟨fun c hc=>(nomatch hc),vq (fun s h=>V5 l (k + 1) s h) h⟩
section
variable {O : Nat → Prop} {A0 : Lent} {w0 : World} {P : Program} {ops : Array Oper} {pl : List POp} {on : List (Nat × Nat)} {n : Nat}
def SimEx (O:Nat→Prop) (A0:Lent) (w0:World) (n:Nat) (s:PS):Prop:=∃ β a w,Sim O w0 A0 β s (tmf a) w∧a.tmps.size=n∧a.defers=[]
def DeadR (pl:List POp) (rem:List Nat) (s:PS):Prop:=∀ i∈rem,isNew (pl.getD i default).k=true→∀ d,(pl.getD i default).dst=some d→(s.bx d).st=.dead
structure Reg (P:Program) (n:Nat) (ops:Array Oper) (pl:List POp) (on:List (Nat × Nat)):Prop where
 len:ops.size=pl.length
 chk:∀ (i:Nat) (o:Oper),ops[i]? = some o→chkP P n ops o (pl.getD i default)=true
 store:∀ i,i < pl.length→storeOk (pl.getD i default)=true
 new:∀ i j,i < pl.length→j < pl.length→i≠j→okNew (pl.getD i default) (pl.getD j default)=true
 pair:∀ i j,i < j→j < pl.length→Ahead ops i j∨okPair (pl.getD i default) (on.lookup i) (pl.getD j default) (on.lookup j)=true
theorem jal {p q:POp} (h:okNew p q=true):okNew q p=true:=by
 simp only [okNew,Bool.not_eq_true',Bool.and_eq_false_iff,decide_eq_false_iff_not] at h ⊢
 rcases h with ((h | h) | h) | h
 ·exact .inl (.inl (.inr h))
 ·exact .inl (.inl (.inl h))
 ·by_cases e:p.dst=q.dst
  ·exact .inl (.inr (by rw [← e]; exact h))
  ·exact .inr fun e'=>e e'.symm
 ·exact .inr fun e'=>h e'.symm
theorem Reg.of_chk (h:chkDraw P n ops pl on=true):Reg P n ops pl on:=by
 simp only [chkDraw,Bool.and_eq_true] at h
 obtain ⟨⟨⟨⟨h1,h2⟩,h3⟩,_⟩,_⟩:=h
 obtain ⟨hl,hg⟩:=vP h1
 simp only [Array.length_toList] at hl
 have hp:∀ i j,i < j→j < pl.length→okNew (pl.getD i default) (pl.getD j default)=true∧(Ahead ops i j∨okPair (pl.getD i default) (on.lookup i) (pl.getD j default) (on.lookup j)=true):=by
  intro i j hij hj
  simp only [chkPairs,List.all_eq_true,List.mem_range,Bool.and_eq_true,Bool.or_eq_true] at h3
  obtain ⟨q1,q2⟩:=h3 j hj i hij
  refine ⟨q1,q2.imp (fun q=>?_) id⟩
  exact V3 ops.toList [] (fun k hk=>by simp at hk ⊢) (fun k i h=>by simp at h) j i q
 refine ⟨hl,fun i o ho=>?_,fun i hi=>?_,fun i j hi hj hij=>?_,fun i j hij hj=>(hp i j hij hj).2⟩
 ·obtain ⟨hi,rfl⟩:=Array.getElem?_eq_some_iff.1 ho
  have:=hg i (by simpa using hi) (by omega)
  have e:pl.getD i default=pl[i]'(by omega):=by simp [show i < pl.length by omega]
  rw [e]
  simpa using this
 ·have e:pl.getD i default=pl[i]:=by simp [hi]
  rw [e]
  exact List.all_eq_true.1 h2 _ (List.getElem_mem hi)
 ·rcases Nat.lt_or_gt_of_ne hij with h | h
  ·exact (hp i j h hj).1
  ·exact jal (hp j i h hi).1
theorem jdk {C:CallP} {p:POp} {s s':PS} {v:PV} {wb:Nat→Option Box} {act:Bool} (L:LocG C p s s' v wb act) {d:Nat} (hd:(s.bx d).st=.dead) (hne:¬ (isNew p.k=true∧p.dst=some d)):(s'.bx d).st=.dead:=by
 rw [L.eq]
 show ((wb d).getD (s.bx d)).st=.dead
 cases hw:wb d with
 | none=>exact hd
 | some b =>
  exfalso
  cases ha:act with
  | false=>rw [L.wb0 ha] at hw; cases hw
  | true =>
   rcases L.wb1 ha d b hw with ⟨_,⟨ver,hr⟩,_⟩ | ⟨_,ver,hr⟩ | ⟨hn,hde,_⟩
   ·exact (L.live ha d ver hr (vg hr)).2 hd
   ·exact (L.live ha d ver hr (vg hr)).2 hd
   ·exact hne ⟨hn,hde⟩
theorem stepR (hR:Reg P n ops pl on) {i:Nat} (hi:i < pl.length) {rem:List Nat} (hrem:∀ j∈rem,j < pl.length∧j≠i) {s:PS} (hS:SimEx O A0 w0 n s) (hD:DeadR pl rem s) {K:PS→Prop} (h:wpG (PCallG P) (pl.getD i default) s K) :
  wpG (PCallG P) (pl.getD i default) s fun s1=>K s1∧SimEx O A0 w0 n s1∧DeadR pl rem s1:=by
 obtain ⟨s',v,wb,act,L,hK⟩:=locG (wQ (hR.store i hi)) h
 have hself:wpG (PCallG P) (pl.getD i default) s (·=s'):=by
  have:=L.again s (fun _ _=>rfl) fun _=>⟨fun e ver _=>⟨fun _=>kindEq.refl _,fun _=>rfl⟩,fun _ _ _=>rfl⟩
  rw [← L.eq] at this
  exact this
 refine vq (fun s1 hs1=>?_) hself
 subst hs1
 refine ⟨hK,?_,?_⟩
 ·obtain ⟨β,a,w,hs,hn,hd⟩:=hS
  have hio:i < ops.size:=by rw [hR.len]; exact hi
  have ho:ops[i]? = some ops[i]:=Array.getElem?_eq_getElem hio
  have:=Wm (next:=fun a' w'=>SimEx O A0 w0 n s1) (Q:=fun _ _ _=>False) ho (hR.chk i _ ho) hn hs hself fun β' s2 a' w' hS' hn' hd' e=>by
   subst e
   exact ⟨β',a',w',hS',hn',hd'.trans hd⟩
  obtain ⟨_,_,h⟩:=jia ho this
  exact h
 ·intro j hj hn d hde
  refine jdk L (hD j hj hn d hde) ?_
  rintro ⟨hn',hde'⟩
  have:=hR.new i j hi (hrem j hj).1 (Ne.symm (hrem j hj).2)
  unfold okNew at this
  rw [hn,hn',hde,hde'] at this
  simp at this
theorem moveFront (hR:Reg P n ops pl on) {i:Nat} (hi:i < pl.length) {K:PS→Prop}:∀ (pre post:List Nat) (s:PS),(∀ j∈pre,j < pl.length∧j≠i∧okPair (pl.getD j default) (on.lookup j) (pl.getD i default) (on.lookup i)=true)→(pre++i::post).Nodup→(∀ j∈post,j < pl.length) →
  SimEx O A0 w0 n s→DeadR pl (pre++i::post) s→wpR (PCallG P) pl on (pre++i::post) s K→wpR (PCallG P) pl on (i::(pre++post)) s K
 | [],post,s,_,_,_,_,_,h=>h
 | j::pre,post,s,hpre,hnd,hpost,hS,hD,h=>by
  obtain ⟨hj,hji,hok⟩:=hpre j (by simp)
  simp only [List.cons_append,wpR] at h ⊢
  have hnd':(pre++i::post).Nodup∧j ∉ pre++i::post:=by
   simp only [List.cons_append,List.nodup_cons] at hnd; exact ⟨hnd.2,hnd.1⟩
  have hrem:∀ k∈pre++i::post,k < pl.length∧k≠j:=by
   intro k hk
   refine ⟨?_,fun e=>hnd'.2 (e ▸ hk)⟩
   rcases List.mem_append.1 hk with hk | hk
   ·exact (hpre k (by simp [hk])).1
   ·rcases List.mem_cons.1 hk with rfl | hk
    ·exact hi
    ·exact hpost k hk
  obtain ⟨hc0,h⟩:=h
  have h1:=stepR hR hj hrem hS (fun k hk=>hD k (by simp only [List.cons_append,List.mem_cons]; exact .inr hk)) h
  have h2:wpG (PCallG P) (pl.getD j default) s fun s1=>clm (pl.getD i default) (on.lookup i) s1∧wpG (PCallG P) (pl.getD i default) s1 fun s2=>wpR (PCallG P) pl on (pre++post) s2 K:=by
   refine vq (fun s1 hs1=>?_) h1
   have:=moveFront hR hi pre post s1 (fun k hk=>hpre k (by simp [hk])) hnd'.1 hpost hs1.2.1 hs1.2.2 hs1.1
   exact this
  obtain ⟨β,a,w,hsim,_,_⟩:=hS
  exact swap (wQ (hR.store j hj)) (wQ (hR.store i hi)) hok hsim.wf hc0 (fun hn d hde=>hD j (by simp) hn d hde) (fun hn d hde=>hD i (by simp) hn d hde) h2
theorem Ahead.listed {listed:Array Bool} (hcl:∀ j,listed.getD j false=true→∀ o e,ops[j]? = some o→e∈o.after.toList→Region.binds .any e=true→listed.getD e.on false=true) {i j:Nat} (h:Ahead ops i j):listed.getD j false=true→listed.getD i false=true:=by
 induction h with
 | edge i j o e ho he hb hi=>intro hj; rw [← hi]; exact hcl j hj o e ho he hb
 | trans i j k _ _ ih1 ih2=>intro hk; exact ih1 (ih2 hk)
def vE (m:Nat) (listed:Array Bool):List Nat:=(List.range m).filter fun i=>!listed.getD i true
theorem mem_left {m:Nat} {listed:Array Bool} {i:Nat}:i∈vE m listed↔i < m∧listed.getD i true=false:=by
 simp [vE]
theorem jfj {m i:Nat} {listed:Array Bool} (hsz:listed.size=m) (hi:i < m):vE m (listed.setIfInBounds i true)=(vE m listed).filter (· != i):=by
 unfold vE
 rw [List.filter_filter]
 refine List.filter_congr fun k hk=>?_
 have hk':k < m:=by simpa using hk
 by_cases e:k=i
 ·subst e; simp [hsz,hk']
 ·have:(listed.setIfInBounds i true)[k]? = listed[k]?:=Array.getElem?_setIfInBounds_ne (Ne.symm e)
  simp only [Array.getD_eq_getD_getElem?,this]
  simp [e]
theorem Yz {l:List Nat} (hn:l.Nodup) {i:Nat} (hi:i∈l):∃ pre post,l=pre++i::post∧l.filter (· != i)=pre++post:=by
 obtain ⟨pre,post,rfl⟩:=List.append_of_mem hi
 refine ⟨pre,post,rfl,?_⟩
 rw [List.nodup_append] at hn
 obtain ⟨h1,h2,h3⟩:=hn
 rw [List.nodup_cons] at h2
 have e1:pre.filter (· != i)=pre:=List.filter_eq_self.2 fun k hk=>by
  have:=h3 k hk i (by simp); simpa using this
 have e2:post.filter (· != i)=post:=List.filter_eq_self.2 fun k hk=>by
  have:k≠i:=fun e=>h2.1 (e ▸ hk)
  simpa using this
 simp [List.filter_append,e1,e2]
theorem XX (hR:Reg P n ops pl on) (md:Region.Mode) {ord:List Nat} (htopo:chkTopo md ops ord []=true) (hmd:∀ e,Region.binds .any e=true→Region.binds md e=true) {K:PS→Prop} {Q:Exit→Act→World→Prop}
  (hQ:∀ β s a w,Sim O w0 A0 β s (tmf a) w→a.tmps.size=n→a.defers=[]→K s→Q .normal a w) :
  ∀ (fuel:Nat) (listed:Array Bool),listed.size=ops.size→(vE ops.size listed).length=fuel →
  (∀ j,listed.getD j false=true→∀ o e,ops[j]? = some o→e∈o.after.toList→Region.binds .any e=true→listed.getD e.on false=true) →
  ∀ (β:Bt) (s:PS) (a:Act) (w:World),Sim O w0 A0 β s (tmf a) w→a.tmps.size=n→a.defers=[]→DeadR pl (vE ops.size listed) s→wpR (PCallG P) pl on (vE ops.size listed) s K→wpAny P md ops Q fuel listed a w
 | 0,listed,hsz,hfuel,hcl,β,s,a,w,hS,hn,hd,hD,h=>by
  have h0:=List.eq_nil_of_length_eq_zero hfuel
  rw [h0] at h
  refine ⟨?_,hQ β s a w hS hn hd h⟩
  unfold Region.ready
  rw [List.filter_eq_nil_iff]
  intro k hk
  have hk':k < ops.size:=by simpa using hk
  have:¬ k∈vE ops.size listed:=by rw [h0]; simp
  rw [mem_left] at this
  simp [hk'] at this ⊢
  intro h
  simp_all
 | fuel + 1,listed,hsz,hfuel,hcl,β,s,a,w,hS,hn,hd,hD,h=>by
  have hnd:(vE ops.size listed).Nodup:=List.Pairwise.filter _ List.nodup_range
  refine ⟨fun hr=>?_,fun i hi=>?_⟩
  ·exfalso
   have:∃ i,i∈vE ops.size listed:=by
    cases hl:vE ops.size listed with
    | nil=>rw [hl] at hfuel; simp at hfuel
    | cons x l=>exact ⟨x,by simp⟩
   obtain ⟨i,hi⟩:=this
   rw [mem_left] at hi
   exact WJ md listed hsz ord [] htopo (by simp) ⟨i,hi.1,hi.2⟩ hr
  ·unfold Region.ready at hi
   simp only [List.mem_filter,List.mem_range,Bool.and_eq_true,Bool.not_eq_true'] at hi
   obtain ⟨hio,hun,hready⟩:=hi
   have ho:ops[i]? = some ops[i]:=Array.getElem?_eq_getElem hio
   rw [ho] at hready
   simp only [Option.map_some,Option.getD_some,Array.all_eq_true_iff_forall_mem,Bool.or_eq_true,Bool.not_eq_true'] at hready
   have hil:i < pl.length:=by rw [← hR.len]; exact hio
   have hmem:i∈vE ops.size listed:=mem_left.2 ⟨hio,hun⟩
   obtain ⟨pre,post,hsplit,hfil⟩:=Yz hnd hmem
   rw [hsplit] at h hD hnd
   have hlt:∀ k∈pre++i::post,k < pl.length:=fun k hk=>by rw [← hR.len]; exact (mem_left.1 (hsplit ▸ hk)).1
   have hpre:∀ j∈pre,j < pl.length∧j≠i∧okPair (pl.getD j default) (on.lookup j) (pl.getD i default) (on.lookup i)=true:=by
    intro j hj
    have hjm:j∈vE ops.size listed:=hsplit ▸ List.mem_append_left _ hj
    have hji:j < i:=by
     have hs:(pre++i::post).Pairwise (· < ·):=hsplit ▸ List.Pairwise.filter _ List.pairwise_lt_range
     exact (List.pairwise_append.1 hs).2.2 j hj i (by simp)
    refine ⟨hlt j (List.mem_append_left _ hj),by omega,?_⟩
    rcases hR.pair j i hji hil with ha | ha
    ·exfalso
     -- it stands ahead of 'i',and so is listed
     have hlist:∀ {x y:Nat},Ahead ops x y→y=i→listed.getD x false=true:=by
      intro x y hxy
      induction hxy with
      | edge x y o e ho' he hb hx =>
       intro hy
       subst hy
       rw [ho] at ho'
       cases ho'
       rcases hready e (by simpa using he) with h' | h'
       ·rw [hmd e hb] at h'; cases h'
       ·rw [← hx]; exact h'
      | trans x y z h1 h2 ih1 ih2 =>
       intro hz
       exact h1.listed hcl (ih2 hz)
     have:=hlist ha rfl
     have hj2:=(mem_left.1 hjm).2
     have hjs:j < listed.size:=by rw [hsz]; exact (mem_left.1 hjm).1
     simp [hjs] at this hj2
     rw [this] at hj2
     cases hj2
    ·exact ha
   have hfront:=moveFront hR hil pre post s hpre hnd (fun k hk=>hlt k (by simp [hk])) ⟨β,a,w,hS,hn,hd⟩ hD h
   simp only [wpR] at hfront
   have hrem:∀ k∈pre++post,k < pl.length∧k≠i:=by
    intro k hk
    have hnn:i ∉ pre++post:=by
     rw [List.nodup_append] at hnd
     obtain ⟨_,h2,h3⟩:=hnd
     rw [List.nodup_cons] at h2
     intro hm
     rcases List.mem_append.1 hm with hm | hm
     ·exact h3 i hm i (by simp) rfl
     ·exact h2.1 hm
    refine ⟨hlt k ?_,fun e=>hnn (e ▸ hk)⟩
    rcases List.mem_append.1 hk with hk | hk
    ·exact List.mem_append_left _ hk
    ·exact List.mem_append_right _ (List.mem_cons_of_mem _ hk)
   have hD':DeadR pl (pre++post) s:=fun k hk=>hD k (by
    rcases List.mem_append.1 hk with hk | hk
    ·exact List.mem_append_left _ hk
    ·exact List.mem_append_right _ (List.mem_cons_of_mem _ hk))
   have hstep:=stepR hR hil hrem ⟨β,a,w,hS,hn,hd⟩ hD' hfront.2
   have hset:=jfj hsz hio
   refine Wm ho (hR.chk i _ ho) hn hS hstep fun β' s' a' w' hS' hn' hd' hK=>?_
   refine XX hR md htopo hmd hQ fuel (listed.setIfInBounds i true) (by simpa using hsz) ?_ ?_ β' s' a' w' hS' hn' (hd'.trans hd) (by rw [hset,hfil]; exact hK.2.2) (by rw [hset,hfil]; exact hK.1)
   ·rw [hset,hfil]
    rw [hsplit] at hfuel
    simp at hfuel ⊢
    omega
   ·intro j hj o e ho' he hb
    by_cases hje:j=i
    ·subst hje
     rw [ho] at ho'
     cases ho'
     rcases hready e (by simpa using he) with h' | h'
     ·rw [hmd e hb] at h'; cases h'
     ·by_cases hei:e.on=j
      ·rw [hei]; simp [hsz,hio]
      ·have:(listed.setIfInBounds j true)[e.on]? = listed[e.on]?:=Array.getElem?_setIfInBounds_ne (Ne.symm hei)
       simp only [Array.getD_eq_getD_getElem?,this]
       simpa [Array.getD_eq_getD_getElem?] using h'
    ·have e1:(listed.setIfInBounds i true)[j]? = listed[j]?:=Array.getElem?_setIfInBounds_ne (Ne.symm hje)
     have hj':listed.getD j false=true:=by
      simp only [Array.getD_eq_getD_getElem?,e1] at hj ⊢; exact hj
     have:=hcl j hj' o e ho' he hb
     by_cases hei:e.on=i
     ·rw [hei]; simp [hsz,hio]
     ·have e2:(listed.setIfInBounds i true)[e.on]? = listed[e.on]?:=Array.getElem?_setIfInBounds_ne (Ne.symm hei)
      simp only [Array.getD_eq_getD_getElem?,e2] at this ⊢
      exact this
end
end Go.Pl
/-
 WHOLE FUNCTIONS: what the plain code comes to,the model's call comes to. My own work.
-/
namespace Go.Pl
open Go
set_option linter.unusedVariables false
set_option linter.unusedSimpArgs false
def chkC (P:Program) (n:Nat):Code→PCode→Bool
 | c,.fz _ p=>chkC P n c p
 | c,.rn _ _ p=>chkC P n c p
 | c,.fzc _ _ p=>chkC P n c p
 | c,.rnc _ _ _ p=>chkC P n c p
 | c,.nvp _ p=>chkC P n c p
 | c,.zn _ _ _ _ p=>chkC P n c p
 | c,.fzv _ p=>chkC P n c p
 | c,.fzm _ p=>chkC P n c p
 | c,.skip=>match c with | .skip=>true | _=>false
 | c,.ops dr l=>match c with
  | .region _ ops draw=>(dr == draw) && (if draw then chkDraw P n ops l [] else chkOps P n ops ops.toList l)
  | _=>false
 | c,.opsB l on=>match c with
  | .region _ ops draw=>draw && chkDraw P n ops l on
  | _=>false
 | c,.opsN l x d=>match c with
  | .region _ ops draw=>!draw && chkN P n ops l x d
  | _=>false
 | c,.seq p q=>match c with
  | .seq a b=>chkC P n a p && chkC P n b q
  | _=>false
 | c,.cond x p q=>match c with
  | .cond y a b=>chkPO y x && chkC P n a p && chkC P n b q
  | _=>false
 | c,.block id p=>match c with
  | .block id' a=>decide (id'=id) && chkC P n a p
  | _=>false
 | c,.loop p=>match c with
  | .loop a=>chkC P n a p
  | _=>false
 | c,.exit id=>match c with
  | .exit id'=>decide (id'=id)
  | _=>false
 | c,.ret=>match c with | .ret=>true | _=>false
def exOf:Ex→Exit
 | .n=>.normal
 | .x id=>.exit id
 | .r=>.ret
section
variable {O : Nat → Prop} {A0 : Lent} {w0 : World} {P : Program} {n : Nat}
theorem Sim.killsAll {β:Bt} {tm:Nat→Value} {w:World}:∀ (l:List Nat) {s:PS},Sim O w0 A0 β s tm w→Sim O w0 A0 β (s.kills l) tm w
 | [],s,h=>h
 | d::l,s,h=>Sim.killsAll l (h.kill d)
theorem WK:∀ (l:List Nat) (s:PS) (d:Nat),(d∈l∨(s.bx d).st=.dead)→((s.kills l).bx d).st=.dead
 | [],s,d,h=>h.resolve_left (by simp)
 | e::l,s,d,h=>by
  refine WK l _ d ?_
  by_cases hde:d=e
  ·subst hde; exact .inr (by simp [PS.box])
  ·rcases h with h | h
   ·rcases List.mem_cons.1 h with rfl | h
    ·exact absurd rfl hde
    ·exact .inl h
   ·exact .inr (by simp only [PS.box,if_neg hde]; exact h)
theorem Ve:∀ {l:List POp} {p:POp} {d:Nat},p∈l→isNew p.k=true→p.dst=some d→d∈newSites l
 | q::l,p,d,hp,hn,hd=>by
  rcases List.mem_cons.1 hp with rfl | hp
  ·simp [newSites,hn,hd]
  ·have:=Ve hp hn hd
   simp only [newSites]
   split
   ·exact List.mem_cons_of_mem _ this
   ·exact this
def InLoop (P:Program) (c:Code) (Q:Exit→Act→World→Prop) (a:Act) (w:World):Prop :=
 ∀ (b:Frame) (k:List Item) (cs:List Frame),∃ e a' w',Q e a' w'∧Arrives P (lone (b.at a (.code c::.inLoop c::k)) cs w) b k cs e a' w'
theorem jdl {c:Code} {Q:Exit→Act→World→Prop} {a:Act} {w:World} (h:c.wp P (Exit.then (InLoop P c Q) Q) a w):InLoop P c Q a w:=by
 intro b k cs
 obtain ⟨e,a₁,w₁,hq,harr⟩:=h b (.inLoop c::k) cs
 cases e with
 | normal =>
  obtain ⟨e₂,a₂,w₂,hq₂,harr₂⟩:=hq b k cs
  exact ⟨e₂,a₂,w₂,hq₂,.of_steps (Steps.trans harr (.one step_inLoop)) harr₂⟩
 | exit id=>exact ⟨_,a₁,w₁,hq,.pass (x:=.inLoop c) rfl (fun _ _=>.inl (by simp)) harr⟩
 | goto l=>exact ⟨_,a₁,w₁,hq,.pass (x:=.inLoop c) rfl (fun _ _=>.inl (by simp)) harr⟩
 | ret=>exact ⟨_,a₁,w₁,hq,.pass (x:=.inLoop c) rfl (fun _ _=>.inl (by simp)) harr⟩
 | panic ch=>exact ⟨_,a₁,w₁,hq,.pass (x:=.inLoop c) rfl (fun _ _=>.inl (by simp)) harr⟩
 | outgrown=>exact ⟨_,a₁,w₁,hq,.pass (x:=.inLoop c) rfl (fun _ _=>.inl (by simp)) harr⟩
theorem WL {id:Nat} {ops:Array Oper} {l:List POp} {on:List (Nat × Nat)} (hc:chkDraw P n ops l on=true) {K:PS→Prop} {Q:Exit→Act→World→Prop}
  (hQ:∀ β s a w,Sim O w0 A0 β s (tmf a) w→a.tmps.size=n→a.defers=[]→K s→Q .normal a w) {β:Bt} {s:PS} {a:Act} {w:World} (h:Sim O w0 A0 β s (tmf a) w) (hn:a.tmps.size=n) (hd:a.defers=[])
  (hw:wpLB (PCallG P) on 0 l (s.kills (newSites l)) K):(Code.region id ops true).wp P Q a w:=by
 have hR:=Reg.of_chk hc
 refine wp_region_draw fun t=>?_
 have hk:=h.killsAll (newSites l)
 have hdrew:Sim O w0 A0 β (s.kills (newSites l)) (tmf a) { w with drawn:=w.drawn + 1 }:=hk.grow rfl rfl rfl (Nat.le_refl _) fun _ _=>rfl
 have hleft:vE ops.size (Array.replicate ops.size false)=List.range ops.size:=by
  unfold vE
  refine List.filter_eq_self.2 fun i hi=>?_
  have:i < ops.size:=by simpa using hi
  simp [this]
 have hwr:wpR (PCallG P) l on (List.range ops.size) (s.kills (newSites l)) K:=by
  rw [hR.len,List.range_eq_range']
  exact V4 l.length 0 (by simp) _ (by simpa using hw)
 have hD:DeadR l (List.range ops.size) (s.kills (newSites l)):=by
  intro i hi hn' d hde
  have hil:i < l.length:=by rw [← hR.len]; simpa using hi
  refine WK _ _ _ (.inl (Ve (List.getElem_mem hil) ?_ ?_))
  ·have e:l.getD i default=l[i]:=by simp [hil]
   rw [e] at hn'; exact hn'
  ·have e:l.getD i default=l[i]:=by simp [hil]
   rw [e] at hde; exact hde
 have any:∀ (md:Region.Mode) (ord:List Nat),chkTopo md ops ord []=true→(∀ e,Region.binds .any e=true→Region.binds md e=true)→∀ t',wpOps P ops Q (Region.linearise md ops t') a { w with drawn:=w.drawn + 1 }:=by
  intro md ord htopo hmd t'
  refine wpAny_sound ops.size t' _ a _ ?_
  refine XX hR md htopo hmd (K:=K) hQ ops.size (Array.replicate ops.size false) (by simp) (by rw [hleft]; simp) (fun j hj=>?_) β _ a _ hdrew hn hd (by rw [hleft]; exact hD) (by rw [hleft]; exact hwr)
  exfalso
  simp only [Array.getD_eq_getD_getElem?,Array.getElem?_replicate] at hj
  split at hj <;> simp at hj
 simp only [chkDraw,Bool.and_eq_true,Bool.or_eq_true] at hc
 obtain ⟨⟨_,h4⟩,h5⟩:=hc
 unfold Region.schedule
 split
 ·exact any .any _ h4 (fun _ h=>h) t
 ·rename_i hm
  simp only [Bool.or_eq_true,Bool.not_eq_true',not_or,Bool.not_eq_false,Bool.not_eq_true] at hm
  rcases h5 with h5 | h5
  ·simp [hm.2] at h5
  ·split
   ·exact any .text _ h5.1 (fun e h=>by cases hg:e.ground <;> simp_all [Region.binds]) _
   ·exact any .gc _ h5.2 (fun e h=>by cases hg:e.ground <;> simp_all [Region.binds]) _
theorem XY:∀ (pc:PCode) (c:Code),chkC P n c pc=true→∀ (K:Ex→PS→Prop) (Q:Exit→Act→World→Prop),
  (∀ e β s a w,Sim O w0 A0 β s (tmf a) w→a.tmps.size=n→a.defers=[]→K e s→Q (exOf e) a w) →
  ∀ β s a w,Sim O w0 A0 β s (tmf a) w→a.tmps.size=n→a.defers=[]→pwp (PCallG P) pc s K→c.wp P Q a w:=by
 intro pc
 induction pc with
 | skip =>
  intro c hc K Q hQ β s a w h hn hd hw
  unfold chkC at hc
  split at hc <;> (try (cases hc; done))
  exact wp_skip (hQ .n β s a w h hn hd hw)
 | ops dr l =>
  intro c hc K Q hQ β s a w h hn hd hw
  unfold chkC at hc
  split at hc <;> (try (cases hc; done))
  rename_i id ops draw
  simp only [Bool.and_eq_true,beq_iff_eq] at hc
  obtain ⟨rfl,hc⟩:=hc
  simp only [pwp] at hw
  cases dr with
  | false =>
   simp only [Bool.false_eq_true,if_false] at hc hw
   obtain ⟨hl,_⟩:=vP hc
   refine wp_region ?_
   have:=jb0 (O:=O) (A0:=A0) (w0:=w0) hc (K:=K .n) (Q:=Q) (fun β s a w h hn hd hK=>hQ .n β s a w h hn hd hK) l.length 0 (by simp) β s a w h hn hd (by simpa using hw)
   ·rw [← List.range_eq_range'] at this
    have e:ops.size=l.length:=by simpa using hl
    rw [e]
    exact this
  | true =>
   simp only [if_true] at hc hw
   exact WL hc (fun β s a w h hn hd hK=>hQ .n β s a w h hn hd hK) h hn hd (V5 _ _ _ hw)
 | opsB l on =>
  intro c hc K Q hQ β s a w h hn hd hw
  unfold chkC at hc
  split at hc <;> (try (cases hc; done))
  rename_i id ops draw
  simp only [Bool.and_eq_true] at hc
  obtain ⟨rfl,hc⟩:=hc
  exact WL hc (fun β s a w h hn hd hK=>hQ .n β s a w h hn hd hK) h hn hd hw
 | opsN l x d =>
  intro c hc K Q hQ β s a w h hn hd hw
  unfold chkC at hc
  split at hc <;> (try (cases hc; done))
  rename_i id ops draw
  simp only [Bool.and_eq_true,Bool.not_eq_true'] at hc
  obtain ⟨rfl,hc⟩:=hc
  unfold chkN at hc
  simp only [Bool.and_eq_true,decide_eq_true_eq] at hc
  obtain ⟨⟨hsz,hops⟩,hlast⟩:=hc
  obtain ⟨hl,hg⟩:=vP hops
  have hlo:ops[l.length]? = some (ops[l.length]'(by omega)):=by simp
  rw [hlo] at hlast
  simp only [Bool.and_eq_true,decide_eq_true_eq] at hlast
  obtain ⟨⟨⟨ho,hdst⟩,hdn⟩,hgd⟩:=hlast
  refine wp_region ?_
  rw [hsz,List.range_succ,List.range_eq_range']
  refine Zk (O:=O) (A0:=A0) (w0:=w0) [l.length] (pl:=l) (n:=n) (fun i h1 h2=>?_) (by omega) (Q:=Q) (fun β s a w h hn hd hK=>?_) l.length 0 (by simp) β s a w h hn hd (by simp only [pwp] at hw; rw [List.drop_zero]; exact hw)
  ·have:=hg i (by simp; omega) h2
   simpa using this
  ·split at ho <;> (try (cases ho; done))
   rename_i t x' t' hop
   simp only [Bool.and_eq_true] at ho
   obtain ⟨hx,ht⟩:=ho
   split at ht <;> (try (cases ht; done))
   rename_i e hte
   split at hK <;> (try exact hK.elim)
   rename_i es hes
   unfold wpOps
   rw [hlo]
   have hgn:(ops[l.length]'(by omega)).guard=none:=by simpa using hgd
   have:Region.wanted (ops[l.length]'(by omega)) (yielded ops a.tmps)=true:=by simp [Region.wanted,hgn]
   simp only [this,if_true]
   refine .inl (jfi hop hte hx hdst (by omega) h hes (fun e0 a' hS hs' hd'=>?_) (fun a' hS hs' hd'=>?_))
   ·exact hQ .n β _ a' w hS (hs'.trans hn) (hd'.trans hd) (hK.1 e0)
   ·exact hQ .n β _ a' w hS (hs'.trans hn) (hd'.trans hd) hK.2
 | seq p q ihp ihq =>
  intro c hc K Q hQ β s a w h hn hd hw
  unfold chkC at hc
  split at hc <;> (try (cases hc; done))
  simp only [Bool.and_eq_true] at hc
  refine wp_seq (ihp _ hc.1 _ _ (fun e β s a w h hn hd hK=>?_) β s a w h hn hd hw)
  cases e with
  | n=>exact ihq _ hc.2 K Q hQ β s a w h hn hd hK
  | x id=>exact hQ (.x id) β s a w h hn hd hK
  | r=>exact hQ .r β s a w h hn hd hK
 | cond x p q ihp ihq =>
  intro c hc K Q hQ β s a w h hn hd hw
  unfold chkC at hc
  split at hc <;> (try (cases hc; done))
  simp only [Bool.and_eq_true] at hc
  obtain ⟨⟨h0,h1⟩,h2⟩:=hc
  have hR:=vW h h0
  simp only [pwp] at hw
  split at hw
  ·rename_i t ht
   rw [ht] at hR
   refine wp_cond_split (V.bool_inv hR) (fun e=>?_) fun e=>?_
   ·exact ihp _ h1 K Q hQ β s a w h hn hd (hw.1 e)
   ·exact ihq _ h2 K Q hQ β s a w h hn hd (hw.2 e)
  ·exact hw.elim
 | block id p ih =>
  intro c hc K Q hQ β s a w h hn hd hw
  unfold chkC at hc
  split at hc <;> (try (cases hc; done))
  simp only [Bool.and_eq_true,decide_eq_true_eq] at hc
  obtain ⟨rfl,h1⟩:=hc
  refine wp_block (ih _ h1 _ _ (fun e β s a w h hn hd hK=>?_) β s a w h hn hd hw)
  cases e with
  | n=>exact hQ .n β s a w h hn hd hK
  | x j =>
   simp only [Ex.blk] at hK
   simp only [exOf,Exit.inBlock]
   split at hK
   ·rename_i hj; rw [if_pos hj]; exact hQ .n β s a w h hn hd hK
   ·rename_i hj; rw [if_neg hj]; exact hQ (.x j) β s a w h hn hd hK
  | r=>exact hQ .r β s a w h hn hd hK
 | loop p ih =>
  intro c hc K Q hQ β s a w h hn hd hw
  unfold chkC at hc
  split at hc <;> (try (cases hc; done))
  rename_i body
  have:=hw (fun s=>∀ β a w,Sim O w0 A0 β s (tmf a) w→a.tmps.size=n→a.defers=[]→InLoop P body Q a w) (fun s hs β a w h hn hd=>by
   refine jdl (ih body hc _ _ (fun e β s a w h hn hd hK=>?_) β s a w h hn hd hs)
   cases e with
   | n=>exact hK β a w h hn hd
   | x j=>exact hQ (.x j) β s a w h hn hd hK
   | r=>exact hQ .r β s a w h hn hd hK)
  intro b k cs
  obtain ⟨e,a',w',hq,harr⟩:=this β a w h hn hd b k cs
  exact ⟨e,a',w',hq,.of_steps (.one step_loop) harr⟩
 | exit id =>
  intro c hc K Q hQ β s a w h hn hd hw
  unfold chkC at hc
  split at hc <;> (try (cases hc; done))
  obtain rfl:=of_decide_eq_true hc
  exact wp_exit (hQ (.x _) β s a w h hn hd hw)
 | ret =>
  intro c hc K Q hQ β s a w h hn hd hw
  unfold chkC at hc
  split at hc <;> (try (cases hc; done))
  exact wp_ret (hQ .r β s a w h hn hd hw)
 | fz i p ih =>
  intro c hc K Q hQ β s a w h hn hd hw
  unfold chkC at hc
  simp only [pwp] at hw
  split at hw
  ·rename_i d ver off len hi
   split at hw
   ·rename_i v hv
    exact ih c hc K Q hQ β _ a w (h.fz hi hv) hn hd hw
   ·exact hw.elim
  ·exact ih c hc K Q hQ β s a w h hn hd hw
  ·exact hw.elim
 | rn i e p ih =>
  intro c hc K Q hQ β s a w h hn hd hw
  unfold chkC at hc
  simp only [pwp] at hw
  split at hw
  ·rename_i d ver off len hi
   by_cases hde:d=e
   ·exact ih c hc K Q hQ β s a w h hn hd (hw.1 hde)
   ·have h2:=hw.2 hde
    split at h2
    ·rename_i v sz es hb
     obtain ⟨⟨rfl,rfl,hl⟩,h2⟩:=h2
     exact ih c hc K Q hQ _ _ a w (h.rn hi hb hde hl) hn hd h2
    ·exact h2.elim
  ·exact hw.elim
 | fzc i k p ih =>
  intro c hc K Q hQ β s a w h hn hd hw
  unfold chkC at hc
  simp only [pwp] at hw
  split at hw
  ·split at hw
   ·rename_i v ps hb
    obtain ⟨_,hw⟩:=hw
    split at hw
    ·rename_i e u off len hk
     obtain ⟨hed,hw⟩:=hw
     split at hw
     ·rename_i cv hcv
      exact ih c hc K Q hQ β _ a w (h.fzc hb hk hed hcv) hn hd hw
     ·exact hw.elim
    ·exact ih c hc K Q hQ β s a w h hn hd hw
    ·exact hw.elim
   ·exact ih c hc K Q hQ β s a w h hn hd hw.2
   ·exact hw.elim
  ·exact hw.elim
 | rnc i k e p ih =>
  intro c hc K Q hQ β s a w h hn hd hw
  unfold chkC at hc
  simp only [pwp] at hw
  split at hw
  ·split at hw
   ·rename_i v ps hb
    obtain ⟨_,hde,hw⟩:=hw
    split at hw
    ·rename_i g u off len hk
     by_cases hge:g=e
     ·exact ih c hc K Q hQ β s a w h hn hd (hw.1 hge)
     ·obtain ⟨hgd,h2⟩:=hw.2 hge
      split at h2
      ·rename_i q sz es hbg
       obtain ⟨⟨rfl,rfl,hl⟩,h2⟩:=h2
       exact ih c hc K Q hQ _ _ a w (h.rnc hb hk hde hge hgd hbg hl) hn hd h2
      ·exact h2.elim
    ·exact ih c hc K Q hQ β s a w h hn hd hw
    ·exact hw.elim
   ·exact ih c hc K Q hQ β s a w h hn hd hw.2
   ·exact hw.elim
  ·exact hw.elim
 | fzm i p ih =>
  intro c hc K Q hQ β s a w h hn hd hw
  unfold chkC at hc
  simp only [pwp] at hw
  split at hw
  ·rename_i d ver hi
   split at hw
   ·rename_i v es hb
    obtain ⟨rfl,hdd,hw⟩:=hw
    split at hw
    ·rename_i cs hcs
     exact ih c hc K Q hQ β _ a w (h.fzm hi hb hdd hcs) hn hd hw
    ·exact hw.elim
   ·exact hw.elim
  ·exact ih c hc K Q hQ β s a w h hn hd hw
  ·exact hw.elim
 | fzv i p ih =>
  intro c hc K Q hQ β s a w h hn hd hw
  unfold chkC at hc
  simp only [pwp] at hw
  split at hw
  ·rename_i d ver off hi
   split at hw
   ·rename_i v cs hb
    obtain ⟨⟨rfl,rfl⟩,hw⟩:=hw
    exact ih c hc K Q hQ β _ a w (h.fzv hi hb) hn hd hw
   ·exact hw.elim
  ·exact ih c hc K Q hQ β s a w h hn hd hw
  ·exact hw.elim
 | zn i k sz e p ih =>
  intro c hc K Q hQ β s a w h hn hd hw
  unfold chkC at hc
  simp only [pwp] at hw
  split at hw
  ·split at hw
   ·rename_i v cs hb
    obtain ⟨⟨rfl,hde⟩,hw⟩:=hw
    split at hw
    ·rename_i hk
     exact ih c hc K Q hQ _ _ a w (h.zn hb hde hk) hn hd hw
    ·exact hw.elim
   ·exact hw.elim
  ·exact hw.elim
 | nvp i p ih =>
  intro c hc K Q hQ β s a w h hn hd hw
  unfold chkC at hc
  simp only [pwp] at hw
  split at hw
  ·split at hw
   ·rename_i v ps hb
    obtain ⟨_,hw⟩:=hw
    split at hw
    ·rename_i cs hcs
     exact ih c hc K Q hQ β _ a w (h.nvp hb hcs) hn hd hw
    ·exact hw.elim
   ·exact ih c hc K Q hQ β s a w h hn hd hw.2
   ·exact hw.elim
  ·exact hw.elim
end
end Go.Pl
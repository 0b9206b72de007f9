/- Part of the proof of ExecTells, ExecAnswers, ExecBest, ExecFirst, ExecLevels, ExecTops, ExecLimits: lemmas. -/
import Derived.Test.YtnpncbplhdnonaaGreatExecS2
set_option linter.unusedVariables false
set_option linter.unusedSimpArgs false
/-
 WHAT A PLAIN OPERATION READS AND WRITES: so that operations of a statement whose order is open may change places. My own work.
-/
namespace Go.Pl
set_option linter.unusedVariables false
set_option linter.unusedSimpArgs false
inductive Cl where
 | pure | kr | mr | mw | x
 deriving DecidableEq
def optl:Option PO→List PO
 | some x=>[x]
 | none=>[]
def opds:PK→List PO
 | .mv x | .box _ x | .load _ _ x _ | .un _ x | .conv _ x | .fld _ _ _ x | .fad _ x | .ext x _ | .len x | .lenS x | .nilc x | .mki _ x=>[x]
 | .pick c a b=>[c,a,b]
 | .own0 _ | .alloc _=>[]
 | .build _ ps=>ps.map (·.2.2)
 | .bsl _ _ _ ps _=>ps.map (·.2)
 | .store _ a x _ | .bin _ a x | .eqs _ _ _ a x | .iaA _ _ a x | .iaS _ a x | .idA _ _ _ a x | .idS a x | .app _ a x _=>[a,x]
 | .slc _ x lo hi | .slS x lo hi | .slA _ _ x lo hi=>x::(optl lo++optl hi)
 | .mm _ x l=>x::l
 | .xf _ l=>l
 | .call _ _ l=>l
 | .mkf _ l=>l
 | .callv x l=>x::l
 | .mkm=>[]
 | .mget _ _ _ x k=>[x,k]
 | .mput _ x k v=>[x,k,v]
def cls:PK→Cl
 | .load _ _ _ _ | .mget _ _ _ _ _=>.mr
 | .store _ _ _ _ | .mput _ _ _ _=>.mw
 | .fad _ _ | .iaA _ _ _ _ | .iaS _ _ _ | .nilc _ | .len _=>.kr
 | .app _ _ _ _ | .call true _ _=>.x
 | _=>.pure
def tmpsOf (l:List PO):List Nat:=l.filterMap fun | .t i=>some i | .k _=>none
def kindEq (b b':Box):Prop:=b.ver=b'.ver∧(match b.st,b'.st with
 | .var _,.var _ | .vp _,.vp _ | .var _,.vp _ | .vp _,.var _ | .dead,.dead=>True
 | .sl z _,.sl z' _=>z=z'
 | .mp _,.mp _=>True
 | _,_=>False)
theorem kindEq.refl (b:Box):kindEq b b:=by
 obtain ⟨v,st⟩:=b
 cases st <;> exact ⟨rfl,by simp⟩
def opReads (k:PK):List Nat:=tmpsOf (opds k)
theorem jz {s u:PS} {k:PK} (h:∀ t∈opReads k,u.t t=s.t t):∀ x∈opds k,u.ev x=s.ev x:=by
 intro x hx
 cases x with
 | t i=>exact h i (List.mem_filterMap.2 ⟨.t i,hx,rfl⟩)
 | k v=>rfl
theorem ju {s u:PS} {x:PO} (h:u.ev x=s.ev x):u.evc x=s.evc x:=by simp only [PS.evc,h]
def upd (dst:Option Nat) (v:PV) (wb:Nat→Option Box) (u:PS):PS where
 t:=fun i=>if some i=dst then v else u.t i
 bx:=fun i=>(wb i).getD (u.bx i)
def nob:Nat→Option Box:=fun _=>none
def oneb (d:Nat) (b:Box):Nat→Option Box:=fun i=>if i=d then some b else none
theorem ku (dst:Option Nat) (v:PV) (u:PS):u.putO dst v=upd dst v nob u:=by
 cases dst with
 | none=>simp [PS.putO,upd,nob]
 | some d=>simp [PS.putO,PS.put,upd,nob]
theorem vF (v:PV) (d e:Nat) (b:Box) (u:PS):(u.box e b).put d v=upd (some d) v (oneb e b) u:=by
 simp only [PS.put,PS.box,upd,PS.mk.injEq]
 refine ⟨by funext i; simp,?_⟩
 funext i
 by_cases h:i=e <;> simp [oneb,h]
theorem vt (e:Nat) (b:Box) (u:PS):u.box e b=upd none .undef (oneb e b) u:=by
 simp only [PS.box,upd,PS.mk.injEq]
 refine ⟨by funext i; simp,?_⟩
 funext i
 by_cases h:i=e <;> simp [oneb,h]
def Pure1 (dst:Option Nat) (k:PK):Prop:=∀ (s u s':PS),(∀ t∈opReads k,u.t t=s.t t)→pstep dst s k=some s'→∃ v,s'=s.putO dst v∧pstep dst u k=some (u.putO dst v)
theorem vN {s u:PS}:∀ {l:List PO},(∀ x∈l,u.ev x=s.ev x)→evcs u l=evcs s l
 | [],_=>rfl
 | x::l,h=>by simp only [evcs,ju (h x (by simp)),vN (l:=l) fun y hy=>h y (by simp [hy])]
theorem WD {s u:PS}:∀ {l:List PO},(∀ x∈l,u.ev x=s.ev x)→evrs u l=evrs s l
 | [],_=>rfl
 | x::l,h=>by simp only [evrs,h x (by simp),WD (l:=l) fun y hy=>h y (by simp [hy])]
theorem J5 {s u:PS}:∀ {l:List (Nat × Nat × PO)},(∀ x∈l.map (·.2.2),u.ev x=s.ev x)→partsC u l=partsC s l
 | [],_=>rfl
 | (a,b,x)::l,h=>by simp only [partsC,ju (h x (by simp)),J5 (l:=l) fun y hy=>h y (by simp at hy ⊢; exact .inr hy)]
theorem wH {s u:PS}:∀ {l:List (Nat × PO)},(∀ x∈l.map (·.2),u.ev x=s.ev x)→partsS u l=partsS s l
 | [],_=>rfl
 | (a,x)::l,h=>by simp only [partsS,ju (h x (by simp)),wH (l:=l) fun y hy=>h y (by simp at hy ⊢; exact .inr hy)]
theorem J6 {s u:PS} {mx:Bool} {k:IntKind}:∀ {l:List PO} {a:Int},(∀ x∈l,u.ev x=s.ev x)→foldMm u mx k a l=foldMm s mx k a l
 | [],_,_=>rfl
 | x::l,a,h=>by
  simp only [foldMm,ju (h x (by simp))]
  split
  ·split
   ·exact J6 (l:=l) fun y hy=>h y (by simp [hy])
   ·rfl
  ·rfl
theorem vY {s u:PS} {n:Nat} {o:Option PO} (h:∀ x∈optl o,u.ev x=s.ev x):bound u n o=bound s n o:=by
 cases o with
 | none=>rfl
 | some x=>simp only [bound,ju (h x (by simp [optl]))]
theorem jhp (dst:Option Nat) (x:PO):Pure1 dst (.mv x):=by
 intro s u s' h hs
 have he:=jz h
 simp only [opds,List.mem_singleton,forall_eq] at he
 simp only [pstep,he] at hs ⊢
 exact ⟨_,(Option.some.inj hs).symm,rfl⟩
theorem locPure {dst:Option Nat} {k:PK} (hk:cls k=.pure) (hn:isNew k=false) (hc:∀ m f l,k≠.call m f l):Pure1 dst k:=by
 intro s u s' h hs
 have he:=jz h
 cases k <;> simp only [cls,isNew,reduceCtorEq] at hk hn
 case mv x=>exact jhp dst x s u s' h hs
 case pick c a b =>
  simp only [opds,List.mem_cons,List.not_mem_nil,or_false,forall_eq_or_imp,forall_eq] at he
  simp only [pstep,he.1,he.2.1,he.2.2] at hs ⊢
  split at hs <;> first | (cases hs; done) | exact ⟨_,(Option.some.inj hs).symm,rfl⟩
 case build z ps =>
  have hp:=J5 (s:=s) (u:=u) (l:=ps) he
  simp only [pstep,hp] at hs ⊢
  split at hs
  ·rename_i l hl
   cases hf:fillC z l with
   | none=>rw [hf] at hs; cases hs
   | some cs =>
    rw [hf] at hs
    exact ⟨_,(Option.some.inj hs).symm,by simp [hl,hf]⟩
  ·cases hs
 case bsl sz len zc ps own =>
  subst hn
  have hp:=wH (s:=s) (u:=u) (l:=ps) he
  simp only [pstep,hp] at hs ⊢
  split at hs
  ·rename_i l hl
   split at hs
   ·rename_i es hf
    exact ⟨_,(Option.some.inj hs).symm,by simp [hl,hf]⟩
   ·rename_i hb; cases hb
   ·cases hs
  ·cases hs
 case bin op x y =>
  simp only [opds,List.mem_cons,List.not_mem_nil,or_false,forall_eq_or_imp,forall_eq] at he
  simp only [pstep,ju he.1,ju he.2] at hs ⊢
  split at hs
  ·rename_i a b ha hb
   cases hf:binC op a b with
   | none=>rw [hf] at hs; cases hs
   | some cs =>
    rw [hf] at hs
    exact ⟨_,(Option.some.inj hs).symm,by simp [ha,hb,hf]⟩
  ·cases hs
 case un op x =>
  simp only [opds,List.mem_singleton,forall_eq] at he
  simp only [pstep,ju he] at hs ⊢
  split at hs
  ·rename_i a ha
   cases hf:unC op a with
   | none=>rw [hf] at hs; cases hs
   | some cs =>
    rw [hf] at hs
    exact ⟨_,(Option.some.inj hs).symm,by simp [ha,hf]⟩
  ·cases hs
 case eqs neq ag sh x y =>
  simp only [opds,List.mem_cons,List.not_mem_nil,or_false,forall_eq_or_imp,forall_eq] at he
  simp only [pstep,ju he.1,ju he.2] at hs ⊢
  split at hs
  ·rename_i a b ha hb
   cases hf:eqC ag sh a b with
   | none=>rw [hf] at hs; cases hs
   | some cs =>
    rw [hf] at hs
    exact ⟨_,(Option.some.inj hs).symm,by simp [ha,hb,hf]⟩
  ·cases hs
 case conv k x =>
  simp only [opds,List.mem_singleton,forall_eq] at he
  simp only [pstep,ju he] at hs ⊢
  split at hs
  ·rename_i ha; exact ⟨_,(Option.some.inj hs).symm,by simp [ha]⟩
  ·cases hs
 case fld a o n x =>
  simp only [opds,List.mem_singleton,forall_eq] at he
  simp only [pstep,ju he] at hs ⊢
  split at hs
  ·rename_i ha
   split at hs
   ·rename_i hc; exact ⟨_,(Option.some.inj hs).symm,by simp [ha,hc]⟩
   ·cases hs
  ·cases hs
 case idA a len sz x i =>
  simp only [opds,List.mem_cons,List.not_mem_nil,or_false,forall_eq_or_imp,forall_eq] at he
  simp only [pstep,ju he.1,ju he.2] at hs ⊢
  split at hs
  ·rename_i ha hb
   split at hs
   ·rename_i hc; exact ⟨_,(Option.some.inj hs).symm,by rw [if_pos hc]⟩
   ·cases hs
  ·cases hs
 case idS x i =>
  simp only [opds,List.mem_cons,List.not_mem_nil,or_false,forall_eq_or_imp,forall_eq] at he
  simp only [pstep,ju he.1,ju he.2] at hs ⊢
  split at hs
  ·rename_i ha hb
   split at hs
   ·rename_i hc
    split at hs
    ·rename_i hd; exact ⟨_,(Option.some.inj hs).symm,by rw [if_pos hc]⟩
    ·cases hs
   ·cases hs
  ·cases hs
 case ext x j =>
  simp only [opds,List.mem_singleton,forall_eq] at he
  simp only [pstep,ju he] at hs ⊢
  split at hs
  ·rename_i ha
   split at hs
   ·rename_i hc; exact ⟨_,(Option.some.inj hs).symm,by simp [ha,hc]⟩
   ·cases hs
  ·cases hs
 case lenS x =>
  simp only [opds,List.mem_singleton,forall_eq] at he
  simp only [pstep,ju he] at hs ⊢
  split at hs
  ·rename_i ha; exact ⟨_,(Option.some.inj hs).symm,by simp [ha]⟩
  ·cases hs
 case slc sz x lo hi =>
  have h1:=he x (by simp [opds])
  have h2:∀ n,bound u n lo=bound s n lo:=fun n=>vY fun y hy=>he y (by simp [opds,hy])
  have h3:∀ n,bound u n hi=bound s n hi:=fun n=>vY fun y hy=>he y (by simp [opds,hy])
  simp only [pstep,h1,h2,h3] at hs ⊢
  split at hs
  ·rename_i es ha
   split at hs
   ·rename_i l k hl hk
    split at hs
    ·rename_i hc; exact ⟨_,(Option.some.inj hs).symm,by rw [if_pos hc]⟩
    ·cases hs
   ·cases hs
  ·cases hs
 case slS x lo hi =>
  have h1:=he x (by simp [opds])
  have h2:∀ n,bound u n lo=bound s n lo:=fun n=>vY fun y hy=>he y (by simp [opds,hy])
  have h3:∀ n,bound u n hi=bound s n hi:=fun n=>vY fun y hy=>he y (by simp [opds,hy])
  simp only [pstep,ju h1,h2,h3] at hs ⊢
  split at hs
  ·rename_i es ha
   split at hs
   ·rename_i l k hl hk
    split at hs
    ·rename_i hc; exact ⟨_,(Option.some.inj hs).symm,by rw [if_pos hc]⟩
    ·cases hs
   ·cases hs
  ·cases hs
 case slA=>cases hs
 case mki t x =>
  simp only [opds,List.mem_singleton,forall_eq] at he
  simp only [pstep,ju he] at hs ⊢
  split at hs
  ·rename_i ha; exact ⟨_,(Option.some.inj hs).symm,by simp [ha]⟩
  ·cases hs
 case mm mx x l =>
  have h1:=he x (by simp [opds])
  have h2:∀ k a,foldMm u mx k a l=foldMm s mx k a l:=fun k a=>J6 fun y hy=>he y (by simp [opds,hy])
  simp only [pstep,ju h1,h2] at hs ⊢
  split at hs
  ·rename_i ha
   split at hs
   ·rename_i hc; exact ⟨_,(Option.some.inj hs).symm,by simp [ha,hc]⟩
   ·cases hs
  ·cases hs
 case xf g l =>
  simp only [pstep,vN (l:=l) fun y hy=>he y hy] at hs ⊢
  split at hs
  ·rename_i cs ha
   cases hf:xfC g cs with
   | none=>rw [hf] at hs; cases hs
   | some v =>
    rw [hf] at hs
    exact ⟨_,(Option.some.inj hs).symm,by simp [ha,hf]⟩
  ·cases hs
 case call m f l=>exact absurd rfl (hc _ _ _)
 case mkf f l =>
  simp only [pstep,WD (l:=l) fun y hy=>he y hy] at hs ⊢
  split at hs
  ·rename_i css ha; exact ⟨_,(Option.some.inj hs).symm,by simp [ha]⟩
  ·cases hs
 case callv x l=>simp [pstep] at hs
def AgB (k:PK) (dst:Option Nat) (s u:PS):Prop :=
 (∀ e ver,ref k s=some (e,ver)→(cls k=.kr→kindEq (s.bx e) (u.bx e))∧(cls k≠.kr→u.bx e=s.bx e))∧(isNew k=true→∀ d,dst=some d→u.bx d=s.bx d)
def Wb (k:PK) (dst:Option Nat) (s:PS) (wb:Nat→Option Box):Prop :=
 ∀ i b,wb i=some b→(cls k=.mw∧(∃ ver,ref k s=some (i,ver))∧kindEq (s.bx i) b)∨(cls k=.x∧∃ ver,ref k s=some (i,ver))∨(isNew k=true∧dst=some i∧(s.bx i).ver < b.ver)
structure LocK (C:CallP) (dst:Option Nat) (k:PK) (s s':PS) (v:PV) (wb:Nat→Option Box):Prop where
 eq:s'=upd dst v wb s
 again:∀ u,(∀ t∈opReads k,u.t t=s.t t)→AgB k dst s u→wpK C ⟨dst,k,none⟩ u (·=upd dst v wb u)
 wb:Wb k dst s wb
 live:∀ e ver,ref k s=some (e,ver)→cls k≠.pure→(s.bx e).ver=ver∧(s.bx e).st≠.dead
theorem wn {b b':Box} {v:Nat} {st:BSt} (h:kindEq b b') (hb:b=⟨v,st⟩) (hs:st.isv=true):(∃ cs',b'=⟨v,.var cs'⟩)∨∃ ps',b'=⟨v,.vp ps'⟩:=by
 subst hb
 obtain ⟨w,st'⟩:=b'
 obtain ⟨h1,h2⟩:=h
 simp only at h1
 subst h1
 cases st' <;> first | exact .inl ⟨_,rfl⟩ | exact .inr ⟨_,rfl⟩ | (cases st <;> first | (simp at h2; done) | (cases hs; done))
theorem J7 {b b':Box} {v z:Nat} {es:List (List CV)} (h:kindEq b b') (hb:b=⟨v,.sl z es⟩):∃ es',b'=⟨v,.sl z es'⟩:=by
 subst hb
 obtain ⟨w,st⟩:=b'
 obtain ⟨h1,h2⟩:=h
 simp only at h1
 subst h1
 cases st <;> first | (simp only at h2; subst h2; exact ⟨_,rfl⟩) | (simp at h2)
section
variable {C : CallP} {dst : Option Nat} {s s' : PS}
theorem wo {k:PK} {u:PS} {t:PS} (hc:∀ m f l,k≠.call m f l) (h:pstep dst u k=some t):wpK C ⟨dst,k,none⟩ u (·=t):=by
 cases k
 case call m f l=>exact absurd rfl (hc _ _ _)
 case callv x l=>simp [pstep] at h
 all_goals (simp only [wpK,h])
theorem Wb.none {k:PK}:Wb k dst s nob:=fun i b h=>by cases h
theorem LocK.put {k:PK} {v:PV} (hc:∀ m f l,k≠.call m f l) (he:s'=s.putO dst v) (ha:∀ u,(∀ t∈opReads k,u.t t=s.t t)→AgB k dst s u→pstep dst u k=some (u.putO dst v))
  (hl:∀ e ver,ref k s=some (e,ver)→cls k≠.pure→(s.bx e).ver=ver∧(s.bx e).st≠.dead):LocK C dst k s s' v nob :=
 ⟨by rw [he,ku],fun u hu hb=>by rw [← ku]; exact wo hc (ha u hu hb),Wb.none,hl⟩
theorem Zc {k:PK} (hk:cls k=.pure) (hn:isNew k=false) (hc:∀ m f l,k≠.call m f l) (hs:pstep dst s k=some s'):∃ v wb,LocK C dst k s s' v wb:=by
 obtain ⟨v,he,_⟩:=locPure hk hn hc s s s' (fun _ _=>rfl) hs
 refine ⟨v,nob,LocK.put hc he (fun u hu _=>?_) fun e ver _ h=>absurd hk h⟩
 obtain ⟨v',he',hu'⟩:=locPure hk hn hc s u s' hu hs
 cases dst with
 | none=>exact hu'
 | some d =>
  have:v=v':=by
   have h1:=congrArg (fun p:PS=>p.t d) (he.symm.trans he')
   simpa [PS.putO,PS.put] using h1
  rw [this]; exact hu'
theorem jez {f:Bool} {n:Nat} {x:PO} {av:List Nat} (hs:pstep dst s (.load f n x av)=some s'):∃ v wb,LocK C dst (.load f n x av) s s' v wb:=by
 have hev:∀ u:PS,(∀ t∈opReads (.load f n x av),u.t t=s.t t)→u.ev x=s.ev x:=fun u hu=>jz hu x (by simp [opds])
 simp only [pstep] at hs
 split at hs
 ·rename_i cs hx
  split at hs
  ·rename_i hc
   refine ⟨_,nob,LocK.put (by intros; simp) (Option.some.inj hs).symm (fun u hu _=>by simp only [pstep,hev u hu,hx]; rw [if_pos hc]) fun e ver hr _=>?_⟩
   simp [ref,key,hx,refOf] at hr
  ·cases hs
 ·rename_i d ver off hx
  have hr:ref (.load f n x av) s=some (d,ver):=by simp [ref,key,hx,refOf]
  split at hs
  ·cases hs
  ·rename_i hav
   split at hs
   ·rename_i v cs hb
    split at hs
    ·rename_i hc
     refine ⟨_,nob,LocK.put (by intros; simp) (Option.some.inj hs).symm (fun u hu hab=>?_) fun e ver' hr' _=>?_⟩
     ·have:=(hab.1 d ver hr).2 (by simp [cls])
      simp only [pstep,hev u hu,hx,if_neg hav,this,hb]; rw [if_pos hc]
     ·rw [hr] at hr'; cases hr'; rw [hb]; exact ⟨hc.1,by simp⟩
    ·cases hs
   ·rename_i v cs hb
    split at hs
    ·rename_i hc
     split at hs
     ·rename_i pv hpv
      refine ⟨_,nob,LocK.put (by intros; simp) (Option.some.inj hs).symm (fun u hu hab=>?_) fun e ver' hr' _=>?_⟩
      ·have:=(hab.1 d ver hr).2 (by simp [cls])
       simp only [pstep,hev u hu,hx,if_neg hav,this,hb]; rw [if_pos hc,hpv]
      ·rw [hr] at hr'; cases hr'; rw [hb]; exact ⟨hc.1,by simp⟩
     ·cases hs
    ·cases hs
   ·cases hs
 ·rename_i d ver i off hx
  have hr:ref (.load f n x av) s=some (d,ver):=by simp [ref,key,hx,refOf]
  split at hs
  ·cases hs
  ·rename_i hav
   split at hs
   ·rename_i v sz es hb
    split at hs
    ·rename_i e he
     split at hs
     ·rename_i hc
      refine ⟨_,nob,LocK.put (by intros; simp) (Option.some.inj hs).symm (fun u hu hab=>?_) fun e ver' hr' _=>?_⟩
      ·have:=(hab.1 d ver hr).2 (by simp [cls])
       simp only [pstep,hev u hu,hx,if_neg hav,this,hb,he]; rw [if_pos hc]
      ·rw [hr] at hr'; cases hr'; rw [hb]; exact ⟨hc.1,by simp⟩
     ·cases hs
    ·cases hs
   ·cases hs
 ·cases hs
theorem jda {n:Nat} {x y:PO} {av:List Nat} (hd:dst=none) (hs:pstep dst s (.store n x y av)=some s'):∃ v wb,LocK C dst (.store n x y av) s s' v wb:=by
 subst hd
 have hev:∀ u:PS,(∀ t∈opReads (.store n x y av),u.t t=s.t t)→u.ev x=s.ev x∧u.evc y=s.evc y∧u.ev y=s.ev y:=fun u hu=>⟨jz hu x (by simp [opds]),ju (jz hu y (by simp [opds])),jz hu y (by simp [opds])⟩
 -- a store into a variable
 have fin:∀ (d ver:Nat) (b:Box),ref (.store n x y av) s=some (d,ver)→(s.bx d).ver=ver→(s.bx d).st≠.dead→kindEq (s.bx d) b→s'=s.box d b →
   (∀ u:PS,u.ev x=s.ev x∧u.evc y=s.evc y∧u.ev y=s.ev y→u.bx d=s.bx d→pstep none u (.store n x y av)=some (u.box d b))→∃ v wb,LocK C none (.store n x y av) s s' v wb:=by
  intro d ver b hr hv hdead hk he hp
  rw [vt] at he
  refine ⟨.undef,oneb d _,he,fun u hu hab=>?_,fun i b' hi=>?_,fun e ver' hr' _=>?_⟩
  ·have:=(hab.1 d ver hr).2 (by simp [cls])
   refine wo (by intros; simp) ?_
   rw [hp u (hev u hu) this,vt]
  ·simp only [oneb] at hi
   split at hi
   ·rename_i e; subst e; cases hi; exact .inl ⟨rfl,⟨_,hr⟩,hk⟩
   ·cases hi
  ·rw [hr] at hr'; cases hr'; exact ⟨hv,hdead⟩
 simp only [pstep] at hs
 split at hs
 ·rename_i d ver off v hx hy
  have hr:ref (.store n x y av) s=some (d,ver):=by simp [ref,key,hx,refOf]
  split at hs
  ·cases hs
  ·rename_i hav
   split at hs
   ·rename_i q cs hb
    split at hs
    ·rename_i hc
     exact fin d ver _ hr (by rw [hb]; exact hc.1) (by rw [hb]; simp) (by rw [hb]; exact ⟨rfl,by simp⟩) (Option.some.inj hs).symm fun u hu hub=>by simp only [pstep,hu.1,hu.2.1,hx,hy,if_neg hav,hub,hb]; rw [if_pos hc]
    ·cases hs
   ·rename_i q cs hb
    split at hs
    ·rename_i hc
     exact fin d ver _ hr (by rw [hb]; exact hc.1) (by rw [hb]; simp) (by rw [hb]; exact ⟨rfl,by simp⟩) (Option.some.inj hs).symm fun u hu hub=>by simp only [pstep,hu.1,hu.2.1,hx,hy,if_neg hav,hub,hb]; rw [if_pos hc]
    ·cases hs
   ·cases hs
 ·rename_i d ver off hx hy
  have hr:ref (.store n x y av) s=some (d,ver):=by simp [ref,key,hx,refOf]
  split at hs
  ·cases hs
  ·rename_i hav
   split at hs
   ·rename_i hrf
    split at hs
    ·rename_i q cs hb
     split at hs
     ·rename_i hc
      exact fin d ver _ hr (by rw [hb]; exact hc.1) (by rw [hb]; simp) (by rw [hb]; exact ⟨rfl,by simp⟩) (Option.some.inj hs).symm fun u hu hub=>by simp only [pstep,hu.1,hu.2.1,hu.2.2,hx,hy,if_neg hav,hub,hb]; rw [if_pos hrf,if_pos hc]
     ·cases hs
    ·rename_i q cs hb
     split at hs
     ·rename_i hc
      exact fin d ver _ hr (by rw [hb]; exact hc.1) (by rw [hb]; simp) (by rw [hb]; exact ⟨rfl,by simp⟩) (Option.some.inj hs).symm fun u hu hub=>by simp only [pstep,hu.1,hu.2.1,hu.2.2,hx,hy,if_neg hav,hub,hb]; rw [if_pos hrf,if_pos hc]
     ·cases hs
    ·cases hs
   ·cases hs
 ·rename_i d ver k off v hx hy
  have hr:ref (.store n x y av) s=some (d,ver):=by simp [ref,key,hx,refOf]
  split at hs
  ·cases hs
  ·rename_i hav
   split at hs
   ·rename_i q sz es hb
    split at hs
    ·rename_i e0 he0
     split at hs
     ·rename_i hc
      exact fin d ver _ hr (by rw [hb]; exact hc.1) (by rw [hb]; simp) (by rw [hb]; exact ⟨rfl,by simp⟩) (Option.some.inj hs).symm fun u hu hub=>by simp only [pstep,hu.1,hu.2.1,hx,hy,if_neg hav,hub,hb,he0]; rw [if_pos hc]
     ·cases hs
    ·cases hs
   ·cases hs
 ·cases hs
end
end Go.Pl
/-
 WHAT A PLAIN OPERATION READS AND WRITES,GOES ON. My own work.
-/
namespace Go.Pl
set_option linter.unusedVariables false
set_option linter.unusedSimpArgs false
section
variable {C : CallP} {dst : Option Nat} {s s' : PS}
theorem jhq {o:Nat} {x:PO} (hs:pstep dst s (.fad o x)=some s'):∃ v wb,LocK C dst (.fad o x) s s' v wb:=by
 have hev:∀ u:PS,(∀ t∈opReads (.fad o x),u.t t=s.t t)→u.ev x=s.ev x:=fun u hu=>jz hu x (by simp [opds])
 simp only [pstep] at hs
 split at hs
 ·rename_i cs hx
  split at hs
  ·rename_i hc
   refine ⟨_,nob,LocK.put (by intros; simp) (Option.some.inj hs).symm (fun u hu _=>by simp only [pstep,hev u hu,hx]; rw [if_pos hc]) fun e ver hr _=>?_⟩
   simp [ref,key,hx,refOf] at hr
  ·cases hs
 ·rename_i d ver off hx
  have hr:ref (.fad o x) s=some (d,ver):=by simp [ref,key,hx,refOf]
  split at hs
  ·rename_i q cs hb
   split at hs
   ·rename_i hc
    refine ⟨_,nob,LocK.put (by intros; simp) (Option.some.inj hs).symm (fun u hu hab=>?_) fun e ver' hr' _=>?_⟩
    ·rcases wn ((hab.1 d ver hr).1 rfl) hb rfl with ⟨cs',hb'⟩ | ⟨cs',hb'⟩ <;> (simp only [pstep,hev u hu,hx,hb']; rw [if_pos hc])
    ·rw [hr] at hr'; cases hr'; rw [hb]; exact ⟨hc,by simp⟩
   ·cases hs
  ·rename_i q cs hb
   split at hs
   ·rename_i hc
    refine ⟨_,nob,LocK.put (by intros; simp) (Option.some.inj hs).symm (fun u hu hab=>?_) fun e ver' hr' _=>?_⟩
    ·rcases wn ((hab.1 d ver hr).1 rfl) hb rfl with ⟨cs',hb'⟩ | ⟨cs',hb'⟩ <;> (simp only [pstep,hev u hu,hx,hb']; rw [if_pos hc])
    ·rw [hr] at hr'; cases hr'; rw [hb]; exact ⟨hc,by simp⟩
   ·cases hs
  ·cases hs
 ·rename_i d ver i off hx
  have hr:ref (.fad o x) s=some (d,ver):=by simp [ref,key,hx,refOf]
  split at hs
  ·rename_i q sz es hb
   split at hs
   ·rename_i hc
    refine ⟨_,nob,LocK.put (by intros; simp) (Option.some.inj hs).symm (fun u hu hab=>?_) fun e ver' hr' _=>?_⟩
    ·obtain ⟨cs',hb'⟩:=J7 ((hab.1 d ver hr).1 rfl) hb
     simp only [pstep,hev u hu,hx,hb']; rw [if_pos hc]
    ·rw [hr] at hr'; cases hr'; rw [hb]; exact ⟨hc,by simp⟩
   ·cases hs
  ·cases hs
 ·cases hs
theorem je0 {x:PO} (hs:pstep dst s (.nilc x)=some s'):∃ v wb,LocK C dst (.nilc x) s s' v wb:=by
 have hev:∀ u:PS,(∀ t∈opReads (.nilc x),u.t t=s.t t)→u.ev x=s.ev x:=fun u hu=>jz hu x (by simp [opds])
 simp only [pstep] at hs
 split at hs
 ·rename_i d ver off hx
  have hr:ref (.nilc x) s=some (d,ver):=by simp [ref,key,hx,refOf]
  split at hs
  ·rename_i q cs hb
   split at hs
   ·rename_i hc
    refine ⟨_,nob,LocK.put (by intros; simp) (Option.some.inj hs).symm (fun u hu hab=>?_) fun e ver' hr' _=>?_⟩
    ·rcases wn ((hab.1 d ver hr).1 rfl) hb rfl with ⟨cs',hb'⟩ | ⟨cs',hb'⟩ <;> (simp only [pstep,hev u hu,hx,hb']; rw [if_pos hc])
    ·rw [hr] at hr'; cases hr'; rw [hb]; exact ⟨hc,by simp⟩
   ·cases hs
  ·rename_i q cs hb
   split at hs
   ·rename_i hc
    refine ⟨_,nob,LocK.put (by intros; simp) (Option.some.inj hs).symm (fun u hu hab=>?_) fun e ver' hr' _=>?_⟩
    ·rcases wn ((hab.1 d ver hr).1 rfl) hb rfl with ⟨cs',hb'⟩ | ⟨cs',hb'⟩ <;> (simp only [pstep,hev u hu,hx,hb']; rw [if_pos hc])
    ·rw [hr] at hr'; cases hr'; rw [hb]; exact ⟨hc,by simp⟩
   ·cases hs
  ·cases hs
 ·rename_i cs hx
  refine ⟨_,nob,LocK.put (by intros; simp) (Option.some.inj hs).symm (fun u hu _=>by simp only [pstep,hev u hu,hx]) fun e ver hr _=>?_⟩
  simp [ref,key,hx,refOf] at hr
 ·rename_i d ver i off hx
  have hr:ref (.nilc x) s=some (d,ver):=by simp [ref,key,hx,refOf]
  split at hs
  ·rename_i q sz es hb
   split at hs
   ·rename_i hc
    refine ⟨_,nob,LocK.put (by intros; simp) (Option.some.inj hs).symm (fun u hu hab=>?_) fun e ver' hr' _=>?_⟩
    ·obtain ⟨cs',hb'⟩:=J7 ((hab.1 d ver hr).1 rfl) hb
     simp only [pstep,hev u hu,hx,hb']; rw [if_pos hc]
    ·rw [hr] at hr'; cases hr'; rw [hb]; exact ⟨hc,by simp⟩
   ·cases hs
  ·cases hs
 ·cases hs
theorem jhr {len sz:Nat} {x y:PO} (hs:pstep dst s (.iaA len sz x y)=some s'):∃ v wb,LocK C dst (.iaA len sz x y) s s' v wb:=by
 have hev:∀ u:PS,(∀ t∈opReads (.iaA len sz x y),u.t t=s.t t)→u.ev x=s.ev x∧u.evc y=s.evc y:=fun u hu=>⟨jz hu x (by simp [opds]),ju (jz hu y (by simp [opds]))⟩
 simp only [pstep] at hs
 split at hs
 ·rename_i k n hy
  split at hs
  ·rename_i hn
   split at hs
   ·rename_i cs hx
    split at hs
    ·rename_i hc
     refine ⟨_,nob,LocK.put (by intros; simp) (Option.some.inj hs).symm (fun u hu _=>by simp only [pstep,(hev u hu).1,(hev u hu).2,hx,hy]; rw [if_pos hn,if_pos hc]) fun e ver hr _=>?_⟩
     simp [ref,key,hx,refOf] at hr
    ·cases hs
   ·rename_i d ver off hx
    have hr:ref (.iaA len sz x y) s=some (d,ver):=by simp [ref,key,hx,refOf]
    split at hs
    ·rename_i q cs hb
     split at hs
     ·rename_i hc
      refine ⟨_,nob,LocK.put (by intros; simp) (Option.some.inj hs).symm (fun u hu hab=>?_) fun e ver' hr' _=>?_⟩
      ·rcases wn ((hab.1 d ver hr).1 rfl) hb rfl with ⟨cs',hb'⟩ | ⟨cs',hb'⟩ <;> (simp only [pstep,(hev u hu).1,(hev u hu).2,hx,hy,hb']; rw [if_pos hn,if_pos hc])
      ·rw [hr] at hr'; cases hr'; rw [hb]; exact ⟨hc,by simp⟩
     ·cases hs
    ·rename_i q cs hb
     split at hs
     ·rename_i hc
      refine ⟨_,nob,LocK.put (by intros; simp) (Option.some.inj hs).symm (fun u hu hab=>?_) fun e ver' hr' _=>?_⟩
      ·rcases wn ((hab.1 d ver hr).1 rfl) hb rfl with ⟨cs',hb'⟩ | ⟨cs',hb'⟩ <;> (simp only [pstep,(hev u hu).1,(hev u hu).2,hx,hy,hb']; rw [if_pos hn,if_pos hc])
      ·rw [hr] at hr'; cases hr'; rw [hb]; exact ⟨hc,by simp⟩
     ·cases hs
    ·cases hs
   ·rename_i d ver i off hx
    have hr:ref (.iaA len sz x y) s=some (d,ver):=by simp [ref,key,hx,refOf]
    split at hs
    ·rename_i q sz' es hb
     split at hs
     ·rename_i hc
      refine ⟨_,nob,LocK.put (by intros; simp) (Option.some.inj hs).symm (fun u hu hab=>?_) fun e ver' hr' _=>?_⟩
      ·obtain ⟨cs',hb'⟩:=J7 ((hab.1 d ver hr).1 rfl) hb
       simp only [pstep,(hev u hu).1,(hev u hu).2,hx,hy,hb']; rw [if_pos hn,if_pos hc]
      ·rw [hr] at hr'; cases hr'; rw [hb]; exact ⟨hc,by simp⟩
     ·cases hs
    ·cases hs
   ·cases hs
  ·cases hs
 ·cases hs
theorem jhs {sz:Nat} {x y:PO} (hs:pstep dst s (.iaS sz x y)=some s'):∃ v wb,LocK C dst (.iaS sz x y) s s' v wb:=by
 have hev:∀ u:PS,(∀ t∈opReads (.iaS sz x y),u.t t=s.t t)→u.ev x=s.ev x∧u.evc y=s.evc y:=fun u hu=>⟨jz hu x (by simp [opds]),ju (jz hu y (by simp [opds]))⟩
 simp only [pstep] at hs
 split at hs
 ·rename_i k n hy
  split at hs
  ·rename_i es hx
   split at hs
   ·rename_i hn
    split at hs
    ·rename_i hc
     refine ⟨_,nob,LocK.put (by intros; simp) (Option.some.inj hs).symm (fun u hu _=>by simp only [pstep,(hev u hu).1,(hev u hu).2,hx,hy]; rw [if_pos hn,if_pos hc]) fun e ver hr _=>?_⟩
     simp [ref,key,hx,refOf] at hr
    ·cases hs
   ·cases hs
  ·rename_i d ver off len hx
   have hr:ref (.iaS sz x y) s=some (d,ver):=by simp [ref,key,hx,refOf]
   split at hs
   ·rename_i q sz' es hb
    split at hs
    ·rename_i hc
     refine ⟨_,nob,LocK.put (by intros; simp) (Option.some.inj hs).symm (fun u hu hab=>?_) fun e ver' hr' _=>?_⟩
     ·obtain ⟨cs',hb'⟩:=J7 ((hab.1 d ver hr).1 rfl) hb
      simp only [pstep,(hev u hu).1,(hev u hu).2,hx,hy,hb']; rw [if_pos hc]
     ·rw [hr] at hr'; cases hr'; rw [hb]; exact ⟨hc.1,by simp⟩
    ·cases hs
   ·cases hs
  ·cases hs
 ·cases hs
theorem jht {x:PO} (hs:pstep dst s (.len x)=some s'):∃ v wb,LocK C dst (.len x) s s' v wb:=by
 have hev:∀ u:PS,(∀ t∈opReads (.len x),u.t t=s.t t)→u.ev x=s.ev x:=fun u hu=>jz hu x (by simp [opds])
 simp only [pstep] at hs
 split at hs
 ·rename_i es hx
  refine ⟨_,nob,LocK.put (by intros; simp) (Option.some.inj hs).symm (fun u hu _=>by simp only [pstep,hev u hu,hx]) fun e ver hr _=>?_⟩
  simp [ref,key,hx,refOf] at hr
 ·rename_i d ver off len hx
  have hr:ref (.len x) s=some (d,ver):=by simp [ref,key,hx,refOf]
  split at hs
  ·rename_i q sz' es hb
   split at hs
   ·rename_i hc
    refine ⟨_,nob,LocK.put (by intros; simp) (Option.some.inj hs).symm (fun u hu hab=>?_) fun e ver' hr' _=>?_⟩
    ·obtain ⟨cs',hb'⟩:=J7 ((hab.1 d ver hr).1 rfl) hb
     simp only [pstep,hev u hu,hx,hb']; rw [if_pos hc]
    ·rw [hr] at hr'; cases hr'; rw [hb]; exact ⟨hc,by simp⟩
   ·cases hs
  ·cases hs
 ·cases hs
theorem J8 {k:PK} {d:Nat} {b:Nat→Box} {pv:Nat→PV} (hver:∀ v,v < (b v).ver) (hdst:dst=some d) (hk:isNew k=true) (hcl:cls k=.pure) (hc:∀ m f l,k≠.call m f l)
  (hs:s'=(s.box d (b (s.bx d).ver)).put d (pv (s.bx d).ver)) (ha:∀ u:PS,(∀ t∈opReads k,u.t t=s.t t)→pstep dst u k=some ((u.box d (b (u.bx d).ver)).put d (pv (u.bx d).ver))):∃ v wb,LocK C dst k s s' v wb:=by
 subst hdst
 rw [vF] at hs
 refine ⟨_,_,hs,fun u hu hab=>?_,fun i b' hi=>?_,fun e ver hr h=>absurd hcl h⟩
 ·have:=hab.2 hk d rfl
  refine wo hc ?_
  rw [ha u hu,vF,this]
 ·simp only [oneb] at hi
  split at hi
  ·rename_i e; subst e; cases hi; exact .inr (.inr ⟨hk,rfl,hver _⟩)
  ·cases hi
theorem jhu {sz:Nat} {x y:PO} {own:Bool} (hs:pstep dst s (.app sz x y own)=some s'):∃ v wb,LocK C dst (.app sz x y own) s s' v wb:=by
 have hev:∀ u:PS,(∀ t∈opReads (.app sz x y own),u.t t=s.t t)→u.ev x=s.ev x∧u.evc y=s.evc y:=fun u hu=>⟨jz hu x (by simp [opds]),ju (jz hu y (by simp [opds]))⟩
 simp only [pstep] at hs
 split at hs
 ·rename_i e d ver off len ys hx hy
  have hr:ref (.app sz x y own) s=some (d,ver):=by simp [ref,key,hx,refOf]
  split at hs
  ·rename_i q sz' es hb
   split at hs
   ·rename_i hc
    have hlive:∀ e ver',ref (.app sz x y own) s=some (e,ver')→cls (.app sz x y own)≠.pure→(s.bx e).ver=ver'∧(s.bx e).st≠.dead:=by
     intro e ver' hr' _
     rw [hr] at hr'; cases hr'; rw [hb]; exact ⟨hc.1,by simp⟩
    split at hs
    ·rename_i ho
     subst ho
     have he:=(Option.some.inj hs).symm
     have e2:∀ u:PS,u.bx e=s.bx e→((u.box d ⟨q + 1,.dead⟩).box e ⟨(u.bx e).ver + 1,.sl sz (es++ys)⟩).put e (.osl e ((u.bx e).ver + 1) 0 (es++ys).length) =
       upd (some e) (.osl e ((s.bx e).ver + 1) 0 (es++ys).length) (fun i=>if i=e then some ⟨(s.bx e).ver + 1,.sl sz (es++ys)⟩ else if i=d then some ⟨q + 1,.dead⟩ else none) u:=by
      intro u hu
      rw [hu]
      simp only [PS.put,PS.box,upd,PS.mk.injEq]
      refine ⟨by funext i; simp,?_⟩
      funext i
      by_cases h1:i=e
      ·simp [h1]
      ·by_cases h2:i=d
       ·subst h2; simp [h1]
       ·simp [h1,h2]
     rw [e2 s rfl] at he
     refine ⟨_,_,he,fun u hu hab=>?_,fun i b hi=>?_,hlive⟩
     ·have h1:=(hab.1 d ver hr).2 (by simp [cls])
      have h2:=hab.2 rfl e rfl
      refine wo (by intros; simp) ?_
      simp only [pstep,(hev u hu).1,(hev u hu).2,hx,hy,h1,hb]; rw [if_pos hc,if_pos trivial,e2 u h2]
     ·split at hi
      ·rename_i e'; subst e'; cases hi; exact .inr (.inr ⟨rfl,rfl,Nat.lt_succ_self _⟩)
      ·split at hi
       ·rename_i e'; subst e'; exact .inr (.inl ⟨rfl,_,hr⟩)
       ·cases hi
    ·rename_i ho
     have ho:own=false:=by simpa using ho
     subst ho
     have he:=(Option.some.inj hs).symm
     rw [vF] at he
     refine ⟨_,_,he,fun u hu hab=>?_,fun i b hi=>?_,hlive⟩
     ·have h1:=(hab.1 d ver hr).2 (by simp [cls])
      refine wo (by intros; simp) ?_
      simp only [pstep,(hev u hu).1,(hev u hu).2,hx,hy,h1,hb]; rw [if_pos hc,← vF]; simp
     ·simp only [oneb] at hi
      split at hi
      ·rename_i e'; subst e'; exact .inr (.inl ⟨rfl,_,hr⟩)
      ·cases hi
   ·cases hs
  ·cases hs
 ·cases hs
theorem je1 {ok:Bool} {sh:List LK} {z:CV} {x k:PO} (hs:pstep dst s (.mget ok sh z x k)=some s'):∃ v wb,LocK C dst (.mget ok sh z x k) s s' v wb:=by
 have hev:∀ u:PS,(∀ t∈opReads (.mget ok sh z x k),u.t t=s.t t)→u.ev x=s.ev x∧u.evc k=s.evc k:=fun u hu=>⟨jz hu x (by simp [opds]),ju (jz hu k (by simp [opds]))⟩
 simp only [pstep] at hs
 split at hs
 ·rename_i d ver kc hx hk
  have hr:ref (.mget ok sh z x k) s=some (d,ver):=by simp [ref,key,hx,refOf]
  split at hs
  ·rename_i q es hb
   split at hs
   ·rename_i hc
    split at hs
    ·rename_i r hf
     cases hm:mres ok z r with
     | none=>rw [hm] at hs; cases hs
     | some v =>
      rw [hm] at hs
      refine ⟨_,nob,LocK.put (v:=v) (by intros; simp) (Option.some.inj hs).symm (fun u hu hab=>?_) fun e ver' hr' _=>?_⟩
      ·have:=(hab.1 d ver hr).2 (by simp [cls])
       simp only [pstep,(hev u hu).1,(hev u hu).2,hx,hk,this,hb]; rw [if_pos hc]; simp only [hf,hm,Option.map_some]
      ·rw [hr] at hr'; cases hr'; rw [hb]; exact ⟨hc.1,by simp⟩
    ·cases hs
   ·cases hs
  ·cases hs
 ·rename_i es kc hx hk
  split at hs
  ·rename_i hc
   split at hs
   ·rename_i r hf
    cases hm:mres ok z (r.map .c) with
    | none=>rw [hm] at hs; cases hs
    | some v =>
     rw [hm] at hs
     refine ⟨_,nob,LocK.put (v:=v) (by intros; simp) (Option.some.inj hs).symm (fun u hu hab=>?_) fun e ver' hr' _=>?_⟩
     ·simp only [pstep,(hev u hu).1,(hev u hu).2,hx,hk]; rw [if_pos hc]; simp only [hf,hm,Option.map_some]
     ·simp [ref,key,hx,refOf] at hr'
   ·cases hs
  ·cases hs
 ·cases hs
theorem je2 {sh:List LK} {x k y:PO} (hs:pstep dst s (.mput sh x k y)=some s'):∃ v wb,LocK C dst (.mput sh x k y) s s' v wb:=by
 have hev:∀ u:PS,(∀ t∈opReads (.mput sh x k y),u.t t=s.t t)→u.ev x=s.ev x∧u.evc k=s.evc k∧u.ev y=s.ev y:=fun u hu=>⟨jz hu x (by simp [opds]),ju (jz hu k (by simp [opds])),jz hu y (by simp [opds])⟩
 simp only [pstep] at hs
 split at hs
 ·rename_i d ver kc hx hk
  have hr:ref (.mput sh x k y) s=some (d,ver):=by simp [ref,key,hx,refOf]
  split at hs
  ·rename_i q es hb
   split at hs
   ·rename_i hc
    split at hs
    ·rename_i es' hf
     have he:=(Option.some.inj hs).symm
     rw [vt] at he
     refine ⟨.undef,oneb d _,he,fun u hu hab=>?_,fun i b' hi=>?_,fun e ver' hr' _=>?_⟩
     ·have:=(hab.1 d ver hr).2 (by simp [cls])
      refine wo (by intros; simp) ?_
      simp only [pstep,(hev u hu).1,(hev u hu).2.1,(hev u hu).2.2,hx,hk,this,hb]; rw [if_pos hc]; simp only [hf]; rw [vt]
     ·simp only [oneb] at hi
      split at hi
      ·rename_i e; subst e; cases hi; exact .inl ⟨rfl,⟨_,hr⟩,by rw [hb]; exact ⟨rfl,by simp⟩⟩
      ·cases hi
     ·rw [hr] at hr'; cases hr'; rw [hb]; exact ⟨hc.1,by simp⟩
    ·cases hs
   ·cases hs
  ·cases hs
 ·cases hs
theorem je3 {k:PK} (hc:∀ m f l,k≠.call m f l) (hst:(∃ n x y av,k=.store n x y av)→dst=none) (hs:pstep dst s k=some s'):∃ v wb,LocK C dst k s s' v wb:=by
 cases k
 case load f n x av=>exact jez hs
 case store n x y av=>exact jda (hst ⟨_,_,_,_,rfl⟩) hs
 case fad o x=>exact jhq hs
 case nilc x=>exact je0 hs
 case iaA len sz x y=>exact jhr hs
 case iaS sz x y=>exact jhs hs
 case len x=>exact jht hs
 case app sz x y own=>exact jhu hs
 case own0 sz =>
  cases hd:dst with
  | none=>simp [pstep,hd] at hs
  | some d =>
   subst hd
   simp only [pstep] at hs
   exact J8 (b:=fun v=>⟨v + 1,.sl sz []⟩) (pv:=fun v=>.osl d (v + 1) 0 0) (fun v=>Nat.lt_succ_self v) rfl rfl rfl (by intros; simp) (Option.some.inj hs).symm (fun u _=>by simp only [pstep])
 case alloc z =>
  cases hd:dst with
  | none=>simp [pstep,hd] at hs
  | some d =>
   subst hd
   simp only [pstep] at hs
   exact J8 (b:=fun v=>⟨v + 1,.var z⟩) (pv:=fun v=>.ptr d (v + 1) 0) (fun v=>Nat.lt_succ_self v) rfl rfl rfl (by intros; simp) (Option.some.inj hs).symm (fun u _=>by simp only [pstep])
 case box n x =>
  simp only [pstep] at hs
  split at hs
  ·rename_i d v hx
   split at hs
   ·rename_i hn
    refine J8 (b:=fun q=>⟨q + 1,.var v.cells⟩) (pv:=fun q=>.ptr d (q + 1) 0) (fun v=>Nat.lt_succ_self v) rfl rfl rfl (by intros; simp) (Option.some.inj hs).symm (fun u hu=>?_)
    simp only [pstep,ju (jz hu x (by simp [opds])),hx]; rw [if_pos hn]
   ·cases hs
  ·cases hs
 case bsl sz len zc ps own =>
  cases own with
  | false=>exact Zc rfl rfl hc hs
  | true =>
   simp only [pstep] at hs
   split at hs
   ·rename_i l hl
    split at hs
    ·rename_i hb; cases hb
    ·rename_i es d hf _
     refine J8 (b:=fun q=>⟨q + 1,.sl sz es⟩) (pv:=fun q=>.osl d (q + 1) 0 es.length) (fun v=>Nat.lt_succ_self v) rfl rfl rfl (by intros; simp) (Option.some.inj hs).symm (fun u hu=>?_)
     have hp:=wH (s:=s) (u:=u) (l:=ps) (jz hu)
     simp only [pstep,hp,hl,hf]
    ·cases hs
   ·cases hs
 case mkm =>
  cases hd:dst with
  | none=>simp [pstep,hd] at hs
  | some d =>
   subst hd
   simp only [pstep] at hs
   exact J8 (b:=fun v=>⟨v + 1,.mp []⟩) (pv:=fun v=>.mp d (v + 1)) (fun v=>Nat.lt_succ_self v) rfl rfl rfl (by intros; simp) (Option.some.inj hs).symm (fun u _=>by simp only [pstep])
 case mget ok sh z x k=>exact je1 hs
 case mput sh x k v=>exact je2 hs
 case call m f l=>exact absurd rfl (hc _ _ _)
 all_goals exact Zc rfl rfl hc hs
theorem jdb {x:PO} {l:List PO} {K:PS→Prop} (h:wpCallV C x l dst s K):∃ s',(∃ v wb,LocK C dst (.callv x l) s s' v wb)∧K s':=by
 have hag:∀ u:PS,(∀ t∈opReads (.callv x l),u.t t=s.t t)→u.ev x=s.ev x∧evcs u l=evcs s l:=fun u hu=>⟨jz hu x (by simp [opds]),vN fun y hy=>jz hu y (by simp [opds,hy])⟩
 unfold wpCallV at h
 split at h
 ·rename_i f cs hx hcs
  obtain ⟨r,hC,hK⟩:=h
  refine ⟨_,⟨.c r,nob,by rw [ku],fun u hu _=>?_,Wb.none,fun e ver hr h=>absurd rfl h⟩,hK⟩
  simp only [wpK,wpCallV,(hag u hu).1,(hag u hu).2,hx,hcs]
  exact ⟨r,hC,by rw [ku]⟩
 ·rename_i f caps cs hx hcs
  obtain ⟨r,hC,hK⟩:=h
  refine ⟨_,⟨.c r,nob,by rw [ku],fun u hu _=>?_,Wb.none,fun e ver hr h=>absurd rfl h⟩,hK⟩
  simp only [wpK,wpCallV,(hag u hu).1,(hag u hu).2,hx,hcs]
  exact ⟨r,hC,by rw [ku]⟩
 ·exact h.elim
theorem je4 {m:Bool} {f:FuncId} {l:List PO} {K:PS→Prop} (h:wpCall C m f l dst s K):∃ s',(∃ v wb,LocK C dst (.call m f l) s s' v wb)∧K s':=by
 unfold wpCall at h
 split at h
 ·split at h
  ·rename_i cs hcs
   obtain ⟨r,hC,hK⟩:=h
   refine ⟨_,⟨.c r,nob,by rw [ku],fun u hu _=>?_,Wb.none,fun e ver hr h=>absurd rfl h⟩,hK⟩
   have:=vN (l:=l) (s:=s) (u:=u) (jz hu)
   simp only [wpK,wpCall,this,hcs]
   exact ⟨r,hC,by rw [ku]⟩
  ·exact h.elim
 ·rename_i x l
  have hev:∀ u:PS,(∀ t∈opReads (.call true f (x::l)),u.t t=s.t t)→u.ev x=s.ev x∧evcs u l=evcs s l:=fun u hu=>⟨jz hu x (by simp [opds]),vN fun y hy=>jz hu y (by simp [opds,hy])⟩
  split at h
  ·rename_i d ver off len cs hx hcs
   have hr:ref (.call true f (x::l)) s=some (d,ver):=by simp [ref,key,hx,refOf]
   split at h
   ·rename_i v sz es hb
    obtain ⟨hcond,h⟩:=h
    have hlive:∀ e ver',ref (.call true f (x::l)) s=some (e,ver')→cls (.call true f (x::l))≠.pure→(s.bx e).ver=ver'∧(s.bx e).st≠.dead:=by
     intro e ver' hr' _
     rw [hr] at hr'; cases hr'; rw [hb]; exact ⟨hcond.1,by simp⟩
    rcases h with ⟨r,hrd,hC,hK⟩ | ⟨r,es',hC,hK⟩
    ·have again:∀ u:PS,(∀ t∈opReads (.call true f (x::l)),u.t t=s.t t)→AgB (.call true f (x::l)) dst s u→wpK C ⟨dst,.call true f (x::l),none⟩ u (·=(u.box d ⟨v + 1,.dead⟩).putR dst r):=by
      intro u hu hab
      have h1:=(hab.1 d ver hr).2 (by simp [cls])
      simp only [wpK,wpCall,(hev u hu).1,(hev u hu).2,hx,hcs,h1,hb]
      exact ⟨hcond,.inl ⟨r,hrd,hC,rfl⟩⟩
     cases r with
     | c r =>
      refine ⟨_,⟨.c r,oneb d ⟨v + 1,.dead⟩,?_,fun u hu hab=>?_,fun i b hi=>?_,hlive⟩,hK⟩
      ·cases dst with
       | none=>simp only [PS.putR,PS.putO]; rw [vt]; simp [upd]
       | some e=>simp only [PS.putR,PS.putO]; rw [vF]
      ·have:=again u hu hab
       have e:(u.box d ⟨v + 1,.dead⟩).putR dst (.c r)=upd dst (.c r) (oneb d ⟨v + 1,.dead⟩) u:=by
        cases dst with
        | none=>simp only [PS.putR,PS.putO]; rw [vt]; simp [upd]
        | some e=>simp only [PS.putR,PS.putO]; rw [vF]
       rw [e] at this
       exact this
      ·simp only [oneb] at hi
       split at hi
       ·rename_i e'; subst e'; exact .inr (.inl ⟨rfl,_,hr⟩)
       ·cases hi
     | own sz' zs =>
      have hsome:=hrd _ _ rfl
      cases hd:dst with
      | none=>rw [hd] at hsome; cases hsome
      | some e =>
       subst hd
       have e2:∀ u:PS,u.bx e=s.bx e→(u.box d ⟨v + 1,.dead⟩).putR (some e) (.own sz' zs) =
         upd (some e) (.osl e (((s.box d ⟨v + 1,.dead⟩).bx e).ver + 1) 0 zs.length) (fun i=>if i=e then some ⟨((s.box d ⟨v + 1,.dead⟩).bx e).ver + 1,.sl sz' zs⟩ else if i=d then some ⟨v + 1,.dead⟩ else none) u:=by
        intro u hu
        have hh:((u.box d ⟨v + 1,.dead⟩).bx e)=((s.box d ⟨v + 1,.dead⟩).bx e):=by simp only [PS.box,hu]
        simp only [PS.putR,hh]
        simp only [PS.put,PS.box,upd,PS.mk.injEq]
        refine ⟨by funext i; simp,?_⟩
        funext i
        by_cases h1:i=e
        ·simp [h1]
        ·rw [if_neg h1,if_neg h1]
         by_cases h2:i=d
         ·rw [if_pos h2,if_pos h2]; rfl
         ·rw [if_neg h2,if_neg h2]; rfl
       refine ⟨_,⟨_,_,e2 s rfl,fun u hu hab=>?_,fun i b hi=>?_,hlive⟩,hK⟩
       ·have:=again u hu hab
        rw [e2 u (hab.2 rfl e rfl)] at this
        exact this
       ·split at hi
        ·rename_i e'; subst e'; cases hi; exact .inr (.inr ⟨rfl,rfl,by simp only [PS.box]; split <;> simp_all <;> omega⟩)
        ·split at hi
         ·rename_i e'; subst e'; exact .inr (.inl ⟨rfl,_,hr⟩)
         ·cases hi
    ·have e2:∀ u:PS,(u.box d ⟨v,.sl sz es'⟩).putO dst (.c r)=upd dst (.c r) (oneb d ⟨v,.sl sz es'⟩) u:=by
      intro u
      cases dst with
      | none=>simp only [PS.putO]; rw [vt]; simp [upd]
      | some e=>simp only [PS.putO]; rw [vF]
     refine ⟨_,⟨.c r,oneb d ⟨v,.sl sz es'⟩,e2 s,fun u hu hab=>?_,fun i b hi=>?_,hlive⟩,hK⟩
     ·have h1:=(hab.1 d ver hr).2 (by simp [cls])
      simp only [wpK,wpCall,(hev u hu).1,(hev u hu).2,hx,hcs,h1,hb]
      exact ⟨hcond,.inr ⟨r,es',hC,by rw [e2 u]⟩⟩
     ·simp only [oneb] at hi
      split at hi
      ·rename_i e'; subst e'; exact .inr (.inl ⟨rfl,_,hr⟩)
      ·cases hi
   ·exact h.elim
  ·rename_i d ver off cs hx hcs
   have hr:ref (.call true f (x::l)) s=some (d,ver):=by simp [ref,key,hx,refOf]
   split at h
   ·rename_i v c0 hb
    obtain ⟨hcond,r,c1,hC,hK⟩:=h
    have e2:∀ u:PS,(u.box d ⟨v,.var c1⟩).putO dst (.c r)=upd dst (.c r) (oneb d ⟨v,.var c1⟩) u:=by
     intro u
     cases dst with
     | none=>simp only [PS.putO]; rw [vt]; simp [upd]
     | some e=>simp only [PS.putO]; rw [vF]
    refine ⟨_,⟨.c r,oneb d ⟨v,.var c1⟩,e2 s,fun u hu hab=>?_,fun i b hi=>?_,fun e ver' hr' _=>?_⟩,hK⟩
    ·have h1:=(hab.1 d ver hr).2 (by simp [cls])
     simp only [wpK,wpCall,(hev u hu).1,(hev u hu).2,hx,hcs,h1,hb]
     exact ⟨hcond,r,c1,hC,by rw [e2 u]⟩
    ·simp only [oneb] at hi
     split at hi
     ·rename_i e'; subst e'; exact .inr (.inl ⟨rfl,_,hr⟩)
     ·cases hi
    ·rw [hr] at hr'; cases hr'; rw [hb]; exact ⟨hcond.1,by simp⟩
   ·exact h.elim
  ·rename_i v0 cs hx hcs
   have hr:ref (.call true f (x::l)) s=none:=by simp [ref,key,hx,refOf]
   obtain ⟨sz,es,hsome,hC,hK⟩:=h
   cases hd:dst with
   | none=>rw [hd] at hsome; cases hsome
   | some e =>
    subst hd
    have e2:∀ u:PS,u.bx e=s.bx e→u.putR (some e) (.own sz es)=upd (some e) (.osl e ((s.bx e).ver + 1) 0 es.length) (oneb e ⟨(s.bx e).ver + 1,.sl sz es⟩) u:=by
     intro u hu
     simp only [PS.putR,hu]
     rw [vF]
    refine ⟨_,⟨_,_,e2 s rfl,fun u hu hab=>?_,fun i b hi=>?_,fun e' ver' hr'=>?_⟩,hK⟩
    ·simp only [wpK,wpCall,(hev u hu).1,(hev u hu).2,hx,hcs]
     exact ⟨sz,es,rfl,hC,by rw [e2 u (hab.2 rfl e rfl)]⟩
    ·simp only [oneb] at hi
     split at hi
     ·rename_i e'; subst e'; cases hi; exact .inr (.inr ⟨rfl,rfl,by simp⟩)
     ·cases hi
    ·rw [hr] at hr'; cases hr'
  ·exact h.elim
 ·exact h.elim
end
end Go.Pl
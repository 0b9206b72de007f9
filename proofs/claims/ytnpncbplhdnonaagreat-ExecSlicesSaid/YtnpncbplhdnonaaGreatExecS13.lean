/- Part of the proof of ExecTells, ExecAnswers, ExecBest, ExecFirst, ExecLevels, ExecTops, ExecLimits: lemmas. -/
import Derived.Test.YtnpncbplhdnonaaGreatExecS2
import Derived.Test.YtnpncbplhdnonaaGreatExecS12
import Derived.ChangeArms
import Derived.ChangeOld
import Derived.OpenShut
import Derived.WideShapes
import Derived.Below
set_option linter.unusedVariables false
set_option linter.unusedSimpArgs false
/-
 A GO FUNCTION's CONTRACT OUT OF ITS PLAIN CODE. My own work.
-/
namespace Go.Pl
open Go
set_option linter.unusedVariables false
set_option linter.unusedSimpArgs false
inductive RS where
 | t (i:Nat)
 | cell (i:Nat) (f:Bool) (n:Nat)
 deriving Inhabited
def rsVal (s:PS):RS→Option CV
 | .t i=>s.close (s.t i)
 | .cell i f n=>match s.t i with
  | .ptr d ver off=>match s.bx d with
   | ⟨v,.var cs⟩=>if v=ver∧off + n≤cs.length then some (rdc f n (cs.drop off)) else none
   | _=>none
  | _=>none
def rsVals (s:PS):List RS→Option (List CV)
 | []=>some []
 | r::l=>match rsVal s r,rsVals s l with
  | some v,some vs=>some (v::vs)
  | _,_=>none
def km:List CV→CV
 | [v]=>v
 | l=>.tup l
def Fin (rs:List RS) (r:RV) (s:PS):Prop :=
 match r with
 | .c v=>∃ vals,rsVals s rs=some vals∧v=km vals
 | .own sz es=>∃ i d ver n,rs=[.t i]∧s.t i=.osl d ver 0 n∧s.bx d=⟨ver,.sl sz es⟩∧n=es.length
def FinK (rs:List RS) (r:RV):Ex→PS→Prop
 | .x _,_=>False
 | _,s=>Fin rs r s
def chkRes (P:Program):List ResultVar→List RS→Bool
 | [],[]=>true
 | .tmp t::l,.t i::m=>decide (t=i) && chkRes P l m
 | .cell x t::l,.cell i f n::m=>decide (x=i) && (match P.underlying t,P.info? t with
   | some d,some j=>(d.isRow == f) && decide (j.size=n) && (f || decide (n=1))
   | _,_=>false) && chkRes P l m
 | _,_=>false
def noIo:List AV→Bool
 | []=>true
 | .io _::_ | .ios _ _::_=>false
 | _::l=>noIo l
section
variable {O : Nat → Prop} {A0 : Lent} {w0 w : World} {β : Bt} {s : PS} {a : Act} {P : Program}
def Nv (O:Nat→Prop) (β:Bt) (bx:Nat→Box) (b:Nat):Prop:=O b∨∃ d base,(bx d).st.isv=true∧β d=some (b,base)
theorem XZ {st:BSt} (h:st.isv=true):st.owned=true:=by cases st <;> first | rfl | cases h
theorem Nv.nn {O:Nat→Prop} {β:Bt} {bx:Nat→Box} {b:Nat} (h:Nv O β bx b):Nn O β bx b:=by
 rcases h with h | ⟨d,base,h1,h2⟩
 ·exact .inl h
 ·exact .inr ⟨d,base,XZ h1,h2⟩
theorem jib (h:Sim O w0 A0 β s (tmf a) w) {pv:PV} {v:Value} (hR:R w (Nn O β s.bx) β s.bx v pv) {c:CV} (hc:s.close pv=some c) {N':Nat→Prop} (hN:∀ b,N' b→Nv O β s.bx b):V w N' v c:=by
 unfold PS.close at hc
 split at hc
 ·obtain rfl:=Option.some.inj hc
  exact V.ext (.of_less fun b hb=>(hN b hb).nn) hR
 ·rename_i d ver off len
  split at hc
  ·rename_i q sz es hb
   split at hc
   ·rename_i hcond
    obtain ⟨rfl,rfl,hl⟩:=hcond
    obtain rfl:=Option.some.inj hc
    have hB:=h.boxes d
    rw [hb] at hB
    have hV:=wt h (d:=d) (sz:=sz) (es:=es) (by rw [hb]) (wM hR hb hl hB) q
    refine V.ext (.of_less fun b' hb'=>?_) hV
    rcases hN b' hb' with h1 | ⟨d',base,h1,h2⟩
    ·exact .inl h1
    ·refine .inr ⟨d',base,?_,h2⟩
     by_cases e:d'=d
     ·subst e; rw [hb] at h1; cases h1
     ·simp only [PS.box,if_neg e]; exact XZ h1
   ·cases hc
  ·cases hc
 ·cases hc
def rvf (a:Act):ResultVar→Sem Value
 | .tmp t=>pure (a.tmps.getD t undef)
 | .cell x t=>do loadVar t (← asAddr (a.tmps.getD x undef))
theorem wS (fn:Func) (a:Act):results fn a.tmps=(do let vs ← fn.results.mapM (rvf a); pure (if h:vs.size=1 then vs[0] else .tuple vs)):=by
 unfold results
 congr 1
theorem jfk (h:Sim O w0 A0 β s (tmf a) w) {N':Nat→Prop} (hN:∀ b,N' b→Nv O β s.bx b) {rv:ResultVar} {r:RS} (hc:chkRes P [rv] [r]=true) {c:CV} (hv:rsVal s r=some c) :
  ∃ v,(rvf a rv).run P w=.ok v w∧V w N' v c:=by
 cases rv with
 | tmp t =>
  cases r with
  | t i =>
   simp only [chkRes,Bool.and_eq_true,decide_eq_true_eq] at hc
   obtain ⟨rfl,_⟩:=hc
   exact ⟨_,rfl,jib h (h.temps t) hv hN⟩
  | cell i f n=>simp [chkRes] at hc
 | cell x t =>
  cases r with
  | t i=>simp [chkRes] at hc
  | cell i f n =>
   simp only [chkRes,Bool.and_eq_true,decide_eq_true_eq] at hc
   obtain ⟨⟨rfl,hc⟩,_⟩:=hc
   split at hc <;> (try (cases hc; done))
   rename_i d j hu hi
   simp only [Bool.and_eq_true,Bool.or_eq_true,decide_eq_true_eq,beq_iff_eq] at hc
   obtain ⟨⟨h1,h2⟩,h3⟩:=hc
   simp only [rsVal] at hv
   split at hv
   ·rename_i d' ver off ht
    split at hv
    ·rename_i q cs hb
     split at hv
     ·rename_i hcond
      obtain ⟨rfl,hl⟩:=hcond
      obtain rfl:=Option.some.inj hv
      have hR:=h.temps x
      rw [ht] at hR
      obtain ⟨b,base,hβ,he⟩:=hR.2 (by rw [hb]) (by rw [hb]; rfl)
      have hB:=h.boxes d'
      rw [hb] at hB
      obtain ⟨b',base',hp',_,hcs⟩:=hB
      rw [hβ] at hp'
      obtain ⟨rfl,rfl⟩:=Prod.mk.inj (Option.some.inj hp')
      obtain ⟨v,hr,hV⟩:=Jc (P:=P) t d j hu hi h2 f h1 (fun e=>h3.resolve_left (by rw [e]; simp)) (hcs.drop off) (by simp; omega)
      refine ⟨v,?_,V.ext (.of_less fun b hb=>(hN b hb).nn) hV⟩
      have he':a.tmps.getD x undef=.pointer (some ⟨b,base + off,none⟩):=he
      simp only [Instr.loadAt,Instr.sureAddr,Sem.run_bind,Sem.run_pure,Result.andThen_ok] at hr
      simp only [rvf,he',asAddr,Sem.run_bind,Sem.run_pure,Result.andThen_ok,hr]
     ·cases hv
    ·cases hv
   ·cases hv
theorem X0 (h:Sim O w0 A0 β s (tmf a) w) {N':Nat→Prop} (hN:∀ b,N' b→Nv O β s.bx b):∀ (rvs:List ResultVar) (rs:List RS) (cs:List CV),chkRes P rvs rs=true→rsVals s rs=some cs →
  ∃ vs:List Value,(rvs.mapM (rvf a)).run P w=.ok vs w∧vs.length=cs.length∧∀ (i:Nat) (h1:i < vs.length) (h2:i < cs.length),V w N' vs[i] cs[i]
 | [],[],cs,_,hv=>by
  obtain rfl:=Option.some.inj hv
  exact ⟨[],by simp,rfl,fun i h=>by simp at h⟩
 | [],_::_,_,hc,_=>by simp [chkRes] at hc
 | rv::_,[],_,hc,_=>by cases rv <;> simp [chkRes] at hc
 | rv::rvs,r::rs,cs,hc,hv=>by
  have hc1:chkRes P [rv] [r]=true∧chkRes P rvs rs=true:=by
   cases rv <;> cases r <;> simp only [chkRes,Bool.and_eq_true,reduceCtorEq,Bool.false_eq_true] at hc ⊢
   ·exact ⟨⟨hc.1,trivial⟩,hc.2⟩
   ·exact ⟨⟨hc.1,trivial⟩,hc.2⟩
  simp only [rsVals] at hv
  split at hv
  ·rename_i c cs' hv1 hv2
   obtain rfl:=Option.some.inj hv
   obtain ⟨v,hr,hV⟩:=jfk h hN hc1.1 hv1
   obtain ⟨vs,hrs,hl,hVs⟩:=X0 h hN rvs rs cs' hc1.2 hv2
   refine ⟨v::vs,?_,by simp [hl],fun i h1 h2=>?_⟩
   ·rw [List.mapM_cons]
    simp only [Sem.run_bind,hr,Result.andThen_ok,hrs,Sem.run_pure]
   ·cases i with
    | zero=>exact hV
    | succ i=>exact hVs i (by simpa using h1) (by simpa using h2)
  ·cases hv
theorem kW:∀ {args:List AV},noIo args=true→∀ (i sz:Nat) (es:List (List CV)),args[i]?≠some (AV.ios sz es)
 | [],_,i,sz,es=>by simp
 | .io _::l,h,i,sz,es=>by cases h
 | .ios _ _::l,h,i,sz,es=>by cases h
 | .c _::l,h,0,sz,es=>by simp
 | .own _ _::l,h,0,sz,es=>by simp
 | .rp _::l,h,0,sz,es=>by simp
 | .c _::l,h,i + 1,sz,es=>by simpa using kW (args:=l) h i sz es
 | .own _ _::l,h,i + 1,sz,es=>by simpa using kW (args:=l) h i sz es
 | .rp _::l,h,i + 1,sz,es=>by simpa using kW (args:=l) h i sz es
theorem vQ:∀ {args:List AV},noIo args=true→∀ (i:Nat) (cs:List CV),args[i]?≠some (AV.io cs)
 | [],_,i,cs=>by simp
 | .c v::l,h,0,cs=>by simp
 | .own sz es::l,h,0,cs=>by simp
 | .rp _::l,h,0,cs=>by simp
 | .io _::l,h,i,cs=>by cases h
 | .ios _ _::l,h,i,cs=>by cases h
 | .c v::l,h,i + 1,cs=>by simpa using vQ (args:=l) h i cs
 | .own sz es::l,h,i + 1,cs=>by simpa using vQ (args:=l) h i cs
 | .rp _::l,h,i + 1,cs=>by simpa using vQ (args:=l) h i cs
theorem vu {args:List AV} (hno:noIo args=true) {r:RV} {outs:List (List CV)} {i:Nat} (hi:i≠args.length):((retPS args r outs).bx i).st=.dead:=by
 simp only [retPS,if_neg hi]
 have:=vQ hno i
 cases ha:args[i]? with
 | none=>rfl
 | some av =>
  cases av with
  | io cs=>exact absurd ha (this cs)
  | ios sz es=>exact absurd ha (kW hno i sz es)
  | _=>rfl
theorem pcall {f : FuncId} {fn : Func} {c : Code} {pc : PCode} {rs : List RS} {args : List AV} {r : RV} (hf : P.funcs[f]? = some fn) (hb : fn.body = some c) (hnm : fn.name ≠ "runtime.NumGoroutine") (hc : chkC P fn.ntmps c pc = true) (hr : chkRes P fn.results.toList rs = true)
  (ha:args.length≤fn.ntmps) (hno:noIo args=true) (h:pwp (PCallG P) pc (initPS args) (FinK rs r)):PCallG P f args r []:=by
 refine ⟨⟨fn,hf,hnm,by rw [hb]; rfl⟩,?_⟩
 intro w O A β vs hsz hS
 refine calls_of_wp hf hb ?_
 have htm:tmf { tmps:=vs++Array.replicate (fn.ntmps - vs.size) undef,defers:=[] }=fun i=>vs.getD i undef:=by
  funext i
  simp only [tmf,Array.getD_eq_getD_getElem?]
  by_cases hi:i < vs.size
  ·rw [Array.getElem?_append_left hi]
  ·rw [Array.getElem?_append_right (by omega),Array.getElem?_eq_none (xs:=vs) (by omega),Array.getElem?_replicate]
   split <;> rfl
 refine XY (O:=O) (A0:=⟨A,β⟩) (w0:=w) pc c hc (FinK rs r) _ (fun e β' s a w' hS' hn hd hK=>?_) β (initPS args) _ w (by rw [htm]; exact hS) (by simp; omega) rfl h
 have fin:Fin rs r s→a.defers=[]∧∃ v,(results fn a.tmps).run P w'=.ok v w'∧∃ v' β',Ending.returned v=.returned v'∧Sim O w ⟨A,β'⟩ β' (retPS args r []) (fun i=>if i=args.length then v' else undef) w'∧(∀ i cs,args[i]? = some (.io cs)→β' i=β i)∧∀ i sz es,args[i]? = some (.ios sz es)→β' i=β i∧∀ q n,β i=some q→OwnB w q.1 n→OwnB w' q.1 n:=by
  intro hF
  refine ⟨hd,?_⟩
  cases r with
  | c v =>
   obtain ⟨cs,hcs,rfl⟩:=hF
   obtain ⟨xs,hxs,hl,hV⟩:=X0 hS' (N':=O) (fun b hb=>.inl hb) fn.results.toList rs cs hr hcs
   have hmap:(fn.results.mapM (rvf a)).run P w'=.ok xs.toArray w':=by
    rw [Array.mapM_eq_mapM_toList,Sem.run_map,hxs]
    rfl
   have hsim:∀ v,V w' O v (km cs)→Sim O w ⟨A,fun _=>none⟩ (fun _=>none) (retPS args (.c (km cs)) []) (fun i=>if i=args.length then v else undef) w':=by
    intro v hv
    have hdead:∀ i,((retPS args (.c (km cs)) []).bx i).st=.dead:=by
     intro i
     by_cases hi:i=args.length
     ·simp [retPS,hi]
     ·exact vu hno hi
    refine ⟨hS'.os,hS'.tape,hS'.output,hS'.size,hS'.keep,fun i=>?_,fun d=>(by rw [hdead]; trivial),fun d d' p p' _ ho=>(by rw [hdead] at ho; cases ho),fun d p ho=>(by rw [hdead] at ho; cases ho),hS'.outer,fun d ps hd=>(by rw [hdead] at hd; cases hd),fun d es hd=>(by rw [hdead] at hd; cases hd),fun sz es _ hst=>(by rw [hdead] at hst; cases hst),fun d _ _=>rfl⟩
    by_cases hi:i=args.length
    ·simp only [hi,if_true,retPS]
     exact V.ext (.of_less fun b hb=>by
      rcases hb with hb | ⟨_,_,_,hb⟩
      ·exact hb
      ·cases hb) hv
    ·simp only [if_neg hi,retPS]; trivial
   by_cases h1:xs.length=1
   ·obtain ⟨x,rfl⟩:∃ x,xs=[x]:=by
     cases xs with
     | nil=>simp at h1
     | cons x l=>cases l with
      | nil=>exact ⟨x,rfl⟩
      | cons y l=>simp at h1
    obtain ⟨c0,rfl⟩:∃ c0,cs=[c0]:=by
     cases cs with
     | nil=>simp at hl
     | cons c0 l=>cases l with
      | nil=>exact ⟨c0,rfl⟩
      | cons y l=>simp at hl
    refine ⟨x,?_,x,_,rfl,hsim x (hV 0 (by simp) (by simp)),fun i cs hi=>absurd hi (vQ hno i cs),fun i sz es hi=>absurd hi (kW hno i sz es)⟩
    rw [wS]
    simp only [Sem.run_bind]
    rw [hmap]
    rfl
   ·refine ⟨.tuple xs.toArray,?_,_,_,rfl,hsim _ ?_,fun i cs hi=>absurd hi (vQ hno i cs),fun i sz es hi=>absurd hi (kW hno i sz es)⟩
    ·rw [wS]
     simp only [Sem.run_bind]
     rw [hmap]
     simp only [Result.andThen_ok,Sem.run_pure]
     rw [dif_neg (by simpa using h1)]
    ·have:km cs=.tup cs:=by
      cases cs with
      | nil=>rfl
      | cons c0 l=>cases l with
       | nil=>simp at hl; omega
       | cons y l=>rfl
     rw [this]
     exact V.tup _ _ (by simpa using hl) (fun i h1 h2=>by have:=hV i (by simpa using h1) h2; simpa using this)
  | own sz es =>
   obtain ⟨i,d,ver,n,rfl,ht,hbx,hn'⟩:=hF
   have hrs:∃ t,fn.results.toList=[.tmp t]∧t=i:=by
    cases hq:fn.results.toList with
    | nil=>rw [hq] at hr; simp [chkRes] at hr
    | cons rv l =>
     rw [hq] at hr
     cases rv with
     | cell x t=>simp [chkRes] at hr
     | tmp t =>
      simp only [chkRes,Bool.and_eq_true,decide_eq_true_eq] at hr
      cases l with
      | nil=>exact ⟨t,rfl,hr.1⟩
      | cons _ _=>simp [chkRes] at hr
   obtain ⟨t,hres,rfl⟩:=hrs
   have hR:=hS'.temps t
   rw [ht] at hR
   have hB:=hS'.boxes d
   rw [hbx] at hB
   have hH:=wM hR hbx hn' hB
   have howned:(s.bx d).st.owned=true:=by rw [hbx]; rfl
   have hbl:(retPS args (.own sz es) []).bx args.length=⟨1,.sl sz es⟩:=by simp [retPS]
   have hless:∀ b,Nn O (fun i=>if i=args.length then β' d else none) (retPS args (.own sz es) []).bx b→Nn O β' s.bx b:=by
    rintro b (hb | ⟨j,base,ho,hj⟩)
    ·exact .inl hb
    ·by_cases e:j=args.length
     ·subst e; simp only [if_true] at hj; exact .inr ⟨d,base,howned,hj⟩
     ·simp only [if_neg e] at hj; cases hj
   refine ⟨a.tmps.getD t undef,?_,_,fun i=>if i=args.length then β' d else none,rfl,?_,fun i cs hi=>absurd hi (vQ hno i cs),fun i sz es hi=>absurd hi (kW hno i sz es)⟩
   ·have hres':fn.results=#[.tmp t]:=by
     have:=congrArg List.toArray hres
     simpa using this
    rw [wS]
    rw [hres']
    simp [Sem.run_bind,rvf]
   ·refine ⟨hS'.os,hS'.tape,hS'.output,hS'.size,hS'.keep,fun j=>?_,fun j=>?_,fun j k p q hjk hj hk hp hq=>?_,fun j p hj hp=>?_,hS'.outer,fun j ps hj=>?_,fun j es hj=>?_,fun sz2 es2 hv2 hst2=>?_,fun j _ _=>rfl⟩
    ·by_cases e:j=args.length
     ·subst e
      simp only [if_true]
      have htl:(retPS args (.own sz es) []).t args.length=.osl args.length 1 0 es.length:=by simp [retPS]
      rw [htl]
      refine ⟨⟨by rw [hbl]; exact Nat.le_refl _,hH.one⟩,fun _ sz2 es2 hs2=>⟨rfl,?_⟩⟩
      rw [hbl] at hs2
      cases hs2
      simp only [if_true]
      rcases hH with ⟨h1,h2,h3⟩ | ⟨b,cap,h1,h2,h3,h4⟩
      ·exact .inl ⟨h1,h2,by rw [h3]; rfl⟩
      ·exact .inr ⟨b,cap,h1,h2,h3,h4⟩
     ·have htl:(retPS args (.own sz es) []).t j=.junk:=by simp [retPS,e]
      rw [htl]
      trivial
    ·by_cases e:j=args.length
     ·subst e
      rw [hbl]
      simp only [if_true]
      refine ⟨hB.1,?_⟩
      rcases hB.2 with hb | ⟨b,hp,ho,hcc⟩
      ·exact .inl hb
      ·exact .inr ⟨b,hp,ho,fun i hi=>(hcc i hi).ext (.of_less hless) rfl⟩
     ·rw [vu hno e]; trivial
    ·by_cases e:j=args.length
     ·by_cases e':k=args.length
      ·exact absurd (e.trans e'.symm) hjk
      ·rw [vu hno e'] at hk; cases hk
     ·rw [vu hno e] at hj; cases hj
    ·by_cases e:j=args.length
     ·simp only [if_pos e] at hp; exact hS'.out d p howned hp
     ·rw [vu hno e] at hj; cases hj
    ·by_cases e:j=args.length
     ·subst e; rw [hbl] at hj; cases hj
     ·rw [vu hno e] at hj; cases hj
    ·by_cases e:j=args.length
     ·subst e; rw [hbl] at hj; cases hj
     ·rw [vu hno e] at hj; cases hj
    ·by_cases e:0=args.length
     ·have hq:=hbl; rw [← e] at hq; rw [hq] at hv2; cases hv2
     ·rw [vu hno e] at hst2; cases hst2
 cases e with
 | n=>exact fin hK
 | x id=>exact hK.elim
 | r=>exact fin hK
theorem jfl (vs:Array Value) (n:Nat):tmf { tmps:=vs++Array.replicate (n - vs.size) undef,defers:=[] }=fun i=>vs.getD i undef:=by
 funext i
 simp only [tmf,Array.getD_eq_getD_getElem?]
 by_cases hi:i < vs.size
 ·rw [Array.getElem?_append_left hi]
 ·rw [Array.getElem?_append_right (by omega),Array.getElem?_eq_none (xs:=vs) (by omega),Array.getElem?_replicate]
  split <;> rfl
def FinKS (sz:Nat) (es:List (List CV)):Ex→PS→Prop
 | .x _,_=>False
 | _,s=>s.bx 0=⟨0,.sl sz es⟩
theorem jdm {f : FuncId} {fn : Func} {c : Code} {pc : PCode} {sz : Nat} {es es' : List (List CV)} {cs : List CV} (hf : P.funcs[f]? = some fn) (hb : fn.body = some c) (hnm : fn.name ≠ "runtime.NumGoroutine") (hc : chkC P fn.ntmps c pc = true) (hr : chkRes P fn.results.toList [] = true)
  (ha:cs.length + 1≤fn.ntmps) (h:pwp (PCallG P) pc (initPS (.ios sz es::cs.map .c)) (FinKS sz es')):PCallG P f (.ios sz es::cs.map .c) (.c (.tup [])) [[.sl es']]:=by
 refine ⟨⟨fn,hf,hnm,by rw [hb]; rfl⟩,?_⟩
 intro w O A β vs hsz hS
 simp only [List.length_cons,List.length_map] at hsz
 refine calls_of_wp hf hb ?_
 refine XY (O:=O) (A0:=⟨A,β⟩) (w0:=w) pc c hc (FinKS sz es') _ (fun e β' s a w' hS' hn hd hK=>?_) β (initPS (.ios sz es::cs.map .c)) _ w (by rw [jfl]; exact hS) (by simp; omega) rfl h
 have fin:s.bx 0=⟨0,.sl sz es'⟩→a.defers=[]∧∃ v,(results fn a.tmps).run P w'=.ok v w'∧∃ v' β',Ending.returned v=.returned v' ∧
   Sim O w ⟨A,β'⟩ β' (retPS (.ios sz es::cs.map .c) (.c (.tup [])) [[.sl es']]) (fun i=>if i=(AV.ios sz es::cs.map AV.c).length then v' else undef) w'∧(∀ i cs',(AV.ios sz es::cs.map AV.c)[i]? = some (.io cs')→β' i=β i) ∧
   ∀ i sz' es2,(AV.ios sz es::cs.map AV.c)[i]? = some (.ios sz' es2)→β' i=β i∧∀ q n,β i=some q→OwnB w q.1 n→OwnB w' q.1 n:=by
  intro h0
  refine ⟨hd,?_⟩
  have howned:(s.bx 0).st.owned=true:=by rw [h0]; rfl
  have hβ:β' 0=β 0:=hS'.still 0 (by rw [h0]) howned
  have hw:∀ q n,β 0=some q→OwnB w q.1 n→OwnB w' q.1 n:=fun q n hq ho=>hS'.wide sz es' (by rw [h0]) (by rw [h0]) q n (hβ.trans hq) ho
  have hB:=hS'.boxes 0
  rw [h0,hβ] at hB
  have hres:fn.results=#[]:=by
   cases hq:fn.results.toList with
   | nil=>have:=congrArg List.toArray hq; simpa using this
   | cons rv l=>rw [hq] at hr; cases rv <;> simp [chkRes] at hr
  have hst:∀ i,((retPS (AV.ios sz es::cs.map AV.c) (.c (.tup [])) [[.sl es']]).bx i).st=if i=0 then .sl sz es' else .dead:=by
   intro i
   rw [Je]
   by_cases e:i=0
   ·subst e; simp [outSl]
   ·simp only [if_neg e]; split <;> rfl
  have hown:∀ i,((retPS (AV.ios sz es::cs.map AV.c) (.c (.tup [])) [[.sl es']]).bx i).st.owned=true→i=0:=by
   intro i hi
   rw [hst] at hi
   by_cases e:i=0
   ·exact e
   ·simp only [if_neg e] at hi; cases hi
  have hless:∀ b,Nn O (fun i=>if i=0 then β 0 else none) (retPS (AV.ios sz es::cs.map AV.c) (.c (.tup [])) [[.sl es']]).bx b→Nn O β' s.bx b:=by
   rintro b (hb | ⟨j,base,ho,hj⟩)
   ·exact .inl hb
   ·obtain rfl:=hown j ho
    simp only [if_true] at hj
    exact .inr ⟨0,base,howned,by rw [hβ]; exact hj⟩
  have hsim:Sim O w ⟨A,fun i=>if i=0 then β 0 else none⟩ (fun i=>if i=0 then β 0 else none) (retPS (.ios sz es::cs.map .c) (.c (.tup [])) [[.sl es']]) (fun i=>if i=(AV.ios sz es::cs.map AV.c).length then .tuple #[] else undef) w':=by
   refine ⟨hS'.os,hS'.tape,hS'.output,hS'.size,hS'.keep,fun i=>?_,fun d=>?_,fun d d' p p' hdd ho ho'=>absurd ((hown d ho).trans (hown d' ho').symm) hdd,fun d p ho hp=>?_,hS'.outer,fun d ps hd=>(by rw [hst] at hd; split at hd <;> cases hd),fun d es hd=>(by rw [hst] at hd; split at hd <;> cases hd),fun sz2 es2 _ _ q n hq ho=>?_,fun d _ _=>rfl⟩
   ·by_cases hi:i=(AV.ios sz es::cs.map AV.c).length
    ·simp only [hi,if_true,retPS]
     exact V.tup _ _ rfl fun i h1=>by simp at h1
    ·simp only [if_neg hi,retPS]; trivial
   ·rw [hst]
    by_cases e:d=0
    ·subst e
     simp only [if_true]
     refine ⟨hB.1,?_⟩
     rcases hB.2 with hb | ⟨b,hp,ho,hc⟩
     ·exact .inl hb
     ·exact .inr ⟨b,hp,ho,fun i hi=>(hc i hi).ext (.of_less hless) rfl⟩
    ·simp only [if_neg e]; trivial
   ·obtain rfl:=hown d ho
    simp only [if_true] at hp
    exact hS'.out 0 p howned (by rw [hβ]; exact hp)
   ·simp only [if_true] at hq; exact hw q n hq ho
  refine ⟨.tuple #[],?_,_,_,rfl,hsim,fun i cs' hi=>?_,fun i sz' es2 hi=>?_⟩
  ·rw [wS,hres]
   simp [Sem.run_bind]
  ·cases i with
   | zero=>simp at hi
   | succ i =>
    simp only [List.getElem?_cons_succ,List.getElem?_map] at hi
    cases hq:cs[i]? <;> rw [hq] at hi <;> simp at hi
  ·cases i with
   | zero=>exact ⟨rfl,hw⟩
   | succ i =>
    simp only [List.getElem?_cons_succ,List.getElem?_map] at hi
    cases hq:cs[i]? <;> rw [hq] at hi <;> simp at hi
 cases e with
 | n=>exact fin hK
 | x id=>exact hK.elim
 | r=>exact fin hK
def chkF (P:Program) (fn:Func) (np:Nat) (pc:PCode) (rs:List RS):Bool :=
 match fn.body with
 | some c => decide (fn.name ≠ "runtime.NumGoroutine") && (chkC P fn.ntmps c pc && (chkRes P fn.results.toList rs && Nat.ble np fn.ntmps))
 | none=>false
theorem jam {f : FuncId} {fn : Func} (hf : P.funcs[f]? = some fn) (h : (decide (fn.name ≠ "runtime.NumGoroutine") && fn.body.isSome) = true) : Ent P f := by
 simp only [Bool.and_eq_true,decide_eq_true_eq] at h
 exact ⟨fn,hf,h.1,h.2⟩
theorem pcallF {f:FuncId} {fn:Func} {pc:PCode} {rs:List RS} {args:List AV} {r:RV} (hf:P.funcs[f]? = some fn) (hc:chkF P fn args.length pc rs=true) (hno:noIo args=true)
  (h:wP (PCallG P) pc (initPS args) (FinK rs r)):PCallG P f args r []:=by
 unfold chkF at hc
 split at hc
 ·rename_i c hb
  simp only [Bool.and_eq_true] at hc
  exact pcall hf hb (of_decide_eq_true hc.1) hc.2.1 hc.2.2.1 (Nat.le_of_ble_eq_true hc.2.2.2) hno (by simpa only [wP] using h)
 ·cases hc
theorem pcallS {f:FuncId} {fn:Func} {pc:PCode} {sz:Nat} {es es':List (List CV)} {cs:List CV} (hf:P.funcs[f]? = some fn) (hc:chkF P fn (cs.length + 1) pc []=true)
  (h:wP (PCallG P) pc (initPS (.ios sz es::cs.map .c)) (FinKS sz es')):PCallG P f (.ios sz es::cs.map .c) (.c (.tup [])) [[.sl es']]:=by
 unfold chkF at hc
 split at hc
 ·rename_i c hb
  simp only [Bool.and_eq_true] at hc
  exact jdm hf hb (of_decide_eq_true hc.1) hc.2.1 hc.2.2.1 (Nat.le_of_ble_eq_true hc.2.2.2) (by simpa only [wP] using h)
 ·cases hc
theorem jk {s:PS}:rsVals s []=some []:=rfl
theorem Jf {s:PS} {i:Nat} {v:CV} {l:List RS} {vs:List CV} (h:s.close (s.t i)=some v) (hl:rsVals s l=some vs):rsVals s (.t i::l)=some (v::vs):=by
 simp only [rsVals,rsVal,h,hl]
theorem JT {s:PS} {i d ver n sz:Nat} {es:List (List CV)} {l:List RS} {vs:List CV} (h:s.t i=.osl d ver 0 n) (hb:s.bx d=⟨ver,.sl sz es⟩) (hn:n=es.length) (hl:rsVals s l=some vs):rsVals s (.t i::l)=some (.sl es::vs):=by
 simp only [rsVals,rsVal,PS.close,h,hb,true_and,if_pos hn,hl]
theorem jh {s:PS} {i d ver off n:Nat} {f:Bool} {cs:List CV} {v:CV} {l:List RS} {vs:List CV} (h:s.t i=.ptr d ver off) (hb:s.bx d=⟨ver,.var cs⟩) (hn:Nat.ble (off + n) cs.length=true) (hv:rdc f n (cs.drop off)=v)
  (hl:rsVals s l=some vs):rsVals s (.cell i f n::l)=some (v::vs):=by
 subst hv
 simp only [rsVals,rsVal,h,hb,true_and,if_pos (Nat.le_of_ble_eq_true hn),hl]
theorem jd {rs:List RS} {vals:List CV} {v:CV} {s:PS} (h:rsVals s rs=some vals) (e:v=km vals):FinK rs (.c v) .r s:=⟨vals,h,e⟩
theorem Wn {i d ver n:Nat} {sz:Nat} {es:List (List CV)} {s:PS} (h:s.t i=.osl d ver 0 n) (hb:s.bx d=⟨ver,.sl sz es⟩) (hn:n=es.length):FinK [.t i] (.own sz es) .r s:=⟨i,d,ver,n,rfl,h,hb,hn⟩
end
end Go.Pl
/-
 WHAT A ROW HANDS IN READS AS CLOSED VALUES; what a contract says behind the call. My own work.
-/
namespace Go.Pl
open Go Go.WideShapes Go.RowKit
set_option linter.unusedVariables false
set_option linter.unusedSimpArgs false
inductive LF where
 | int (k:IntKind)
 | bool
 | str
 | sl (l:List LF)
 deriving Inhabited
def catO {α:Type}:List (Option (List α))→Option (List α)
 | []=>some []
 | x::l=>match x,catO l with
  | some a,some b=>some (a++b)
  | _,_=>none
def offsOk (P:Program):Nat→List Field→Bool
 | _,[]=>true
 | o,f::l=>decide (f.offset=o) && offsOk P (o + P.cellsOf f.type) l
def flatT (P:Program):Nat→TypeId→Option (List LF)
 | 0,_=>none
 | n + 1,t=>Option.bind (α:=List LF) (match P.underlying t with
  | some .bool=>some [.bool]
  | some (.int k)=>some [.int k]
  | some .string=>some [.str]
  | some (.slice e)=>(flatT P n e).bind fun l=>if l.length=0 then none else some [.sl l]
  | some (.struct fs)=>if offsOk P 0 fs.toList then catO (fs.toList.map fun f=>flatT P n f.type) else none
  | some (.array len e)=>catO (List.replicate len (flatT P n e))
  | _=>none) fun l=>if P.cellsOf t=l.length then some l else none
inductive LF.Ok:LF→CV→Prop
 | int (k:IntKind) (n:Int) (h:(Lit.int k n).wf=true):Ok (.int k) (.int k n)
 | bool (b:Bool):Ok .bool (.bool b)
 | str (s:ByteArray) (h:s.size≤maxLen):Ok .str (.str s)
 | sl (l:List LF) (es:List (List CV)) (hn:es.length≤maxLen) (hl:∀ e∈es,e.length=l.length)
   (h:∀ e∈es,∀ (i:Nat) (h1:i < l.length) (h2:i < e.length),Ok l[i] e[i]):Ok (.sl l) (.sl es)
structure OkL (l:List LF) (cs:List CV):Prop where
 len:cs.length=l.length
 each:∀ (i:Nat) (h1:i < l.length) (h2:i < cs.length),LF.Ok l[i] cs[i]
theorem LF.Ok.one {l:LF} {c:CV} (h:LF.Ok l c):c.one=true:=by cases h <;> rfl
structure RowV (w:World) (sh:List LF) (vs:List Value) (cs:List CV):Prop where
 ok:OkL sh cs
 len:vs.length=cs.length
 each:∀ (i:Nat) (h1:i < vs.length) (h2:i < cs.length),V w (fun _=>False) vs[i] cs[i]
theorem RowV.nil (w:World):RowV w [] [] []:=⟨⟨rfl,fun i h=>by simp at h⟩,rfl,fun i h=>by simp at h⟩
theorem RowV.single {w:World} {l:LF} {v:Value} {c:CV} (h:LF.Ok l c) (hv:V w (fun _=>False) v c):RowV w [l] [v] [c] :=
 ⟨⟨rfl,fun i h1 h2=>by
  obtain rfl:i=0:=by simp at h1; omega
  exact h⟩,rfl,fun i h1 h2=>by
  obtain rfl:i=0:=by simp at h1; omega
  exact hv⟩
theorem RowV.append {w:World} {a b:List LF} {vs us:List Value} {cs ds:List CV} (h:RowV w a vs cs) (k:RowV w b us ds):RowV w (a++b) (vs++us) (cs++ds):=by
 have h1:=h.ok.len
 have h2:=h.len
 refine ⟨⟨by simp [h.ok.len,k.ok.len],fun i hi hj=>?_⟩,by simp [h.len,k.len],fun i hi hj=>?_⟩
 ·by_cases e:i < a.length
  ·rw [List.getElem_append_left e,List.getElem_append_left (by omega)]; exact h.ok.each i e (by omega)
  ·rw [List.getElem_append_right (by omega),List.getElem_append_right (by omega)]
   simp only [h1]
   exact k.ok.each _ (by simp at hi; omega) (by simp at hj; omega)
 ·by_cases e:i < cs.length
  ·rw [List.getElem_append_left (by omega),List.getElem_append_left e]; exact h.each i (by omega) e
  ·rw [List.getElem_append_right (by omega),List.getElem_append_right (by omega)]
   simp only [h2]
   exact k.each _ (by simp at hi; omega) (by simp at hj; omega)
section
variable {H : Type} {enc : TypeId × Value → H} {P : Program} {w : World} {base : Nat} {spare : Nat → Bool} {held : Bool}
theorem VH {n:Nat} {t:TypeId} {sh:List LF} (h:flatT P n t=some sh):P.cellsOf t=sh.length:=by
 cases n with
 | zero=>simp [flatT] at h
 | succ n =>
  unfold flatT at h
  obtain ⟨l,_,h⟩:=Option.bind_eq_some_iff.1 h
  split at h
  ·obtain rfl:=Option.some.inj h; assumption
  ·cases h
theorem Jg {n:Nat}:∀ (ts:List TypeId) (o:Nat) (cs:List Value) (sh:List LF),catO (ts.map fun t=>flatT P n t)=some sh→cs.length=o + sh.length →
  (∀ (i:Nat) (t:TypeId),ts[i]? = some t→∀ l,flatT P n t=some l→∃ ds,RowV w l ((cs.drop (o + ((ts.take i).map P.cellsOf).sum)).take (P.cellsOf t)) ds) →
  ∃ ds,RowV w sh (cs.drop o) ds
 | [],o,cs,sh,hs,hl,_=>by
  obtain rfl:=Option.some.inj hs
  have:cs.drop o=[]:=List.drop_eq_nil_iff.2 (by simpa using Nat.le_of_eq hl)
  rw [this]
  exact ⟨_,.nil w⟩
 | t::ts,o,cs,sh,hs,hl,h=>by
  simp only [List.map_cons,catO] at hs
  split at hs
  ·rename_i a b ha hb
   obtain rfl:=Option.some.inj hs
   obtain ⟨ds,hd⟩:=h 0 t rfl a ha
   simp only [List.take_zero,List.map_nil,List.sum_nil,Nat.add_zero] at hd
   obtain ⟨es,he⟩:=Jg ts (o + P.cellsOf t) cs b hb (by rw [VH ha]; simp at hl; omega) (fun i u hu l hlu=>by
    have:=h (i + 1) u (by simpa using hu) l hlu
    simpa [Nat.add_assoc] using this)
   have:=hd.append he
   refine ⟨ds++es,?_⟩
   have e:(cs.drop o).take (P.cellsOf t)++cs.drop (o + P.cellsOf t)=cs.drop o:=by
    rw [← List.drop_drop,List.take_append_drop]
   rw [e] at this
   exact this
  ·cases hs
theorem Zm:∀ (fs:List Field) (o:Nat),offsOk P o fs=true→∀ (i:Nat) (f:Field),fs[i]? = some f→f.offset=o + (((fs.map (·.type)).take i).map P.cellsOf).sum
 | [],o,_,i,f,hf=>by simp at hf
 | g::fs,o,h,0,f,hf=>by
  simp only [offsOk,Bool.and_eq_true,decide_eq_true_eq] at h
  obtain rfl:g=f:=by simpa using hf
  simpa using h.1
 | g::fs,o,h,i + 1,f,hf=>by
  simp only [offsOk,Bool.and_eq_true,decide_eq_true_eq] at h
  have:=Zm fs _ h.2 i f (by simpa using hf)
  simp only [List.map_cons,List.take_succ_cons,List.sum_cons]
  omega
theorem jic (n k:Nat):((List.replicate n k)).sum=n * k:=by
 induction n with
 | zero=>simp
 | succ n ih=>simp [List.replicate_succ,ih,Nat.add_mul]; omega
theorem jfm:∀ (n fuel:Nat) (t:TypeId) (cs:List Value) (x:DataW H × List MemPlace) (sh:List LF),flatT P n t=some sh→DataW.trod enc P w base spare held fuel t cs=some x→∃ ds,RowV w sh cs ds:=by
 intro n
 induction n with
 | zero=>intro fuel t cs x sh h; simp [flatT] at h
 | succ n ih =>
  intro fuel t cs x sh hf h
  have hlen:=VH hf
  unfold flatT at hf
  obtain ⟨l,hl,hf⟩:=Option.bind_eq_some_iff.1 hf
  obtain rfl:l=sh:=by
   split at hf
   ·exact Option.some.inj hf
   ·cases hf
  split at hl
  ·rename_i hu
   obtain rfl:=Option.some.inj hl
   obtain ⟨b,rfl,_⟩:=DataW.trod_bool hu h
   exact ⟨_,.single (.bool b) (.bool b)⟩
  ·rename_i k hu
   obtain rfl:=Option.some.inj hl
   obtain ⟨z,rfl,_,hw⟩:=DataW.trod_int hu h
   exact ⟨_,.single (.int k z hw) (.int k z)⟩
  ·rename_i hu
   obtain rfl:=Option.some.inj hl
   obtain ⟨s,rfl,_,hw⟩:=DataW.trod_string hu h
   exact ⟨_,.single (.str s hw) (.str s)⟩
  ·rename_i e hu
   obtain ⟨le,hle,hl⟩:=Option.bind_eq_some_iff.1 hl
   split at hl
   ·cases hl
   rename_i hne
   obtain rfl:=Option.some.inj hl
   rcases DataW.trod_slice hu h with ⟨rfl,_⟩ | ⟨a,len,cap,elems,rest,m,_,rfl,_,_,hlc,hcm,hel,hget,_,_⟩
   ·exact ⟨_,.single (.sl le [] (by simp [maxLen]) (by simp) (by simp)) .nil⟩
   ·have hce:=VH hle
    have each:∀ i,i < len→∃ cs',w.cells? base (a.add (i * P.cellsOf e)) (P.cellsOf e)=some cs'∧∃ ds,RowV w le cs' ds:=by
     intro i hi
     have h1:=hget i hi
     rw [List.getElem?_eq_getElem (by omega)] at h1
     obtain ⟨cs',h2,h3⟩:=Option.bind_eq_some_iff.1 h1
     exact ⟨cs',h2,ih _ _ _ _ _ hle h3⟩
    by_cases h0:len=0
    ·subst h0
     exact ⟨_,.single (.sl le [] (by simp [maxLen]) (by simp) (by simp)) (.emp a cap)⟩
    have hz0:P.cellsOf e≠0:=by omega
    ·have hex:∀ i:_root_.Fin len,∃ p:List Value × List CV,w.cells? base (a.add (i.1 * P.cellsOf e)) (P.cellsOf e)=some p.1∧RowV w le p.1 p.2:=fun i=>by
      obtain ⟨cs',h1,ds,h2⟩:=each i.1 i.2
      exact ⟨(cs',ds),h1,h2⟩
     obtain ⟨g,hg⟩:∃ g:Nat→List Value × List CV,∀ i,i < len→w.cells? base (a.add (i * P.cellsOf e)) (P.cellsOf e)=some (g i).1∧RowV w le (g i).1 (g i).2 :=
      ⟨fun i=>if hi:i < len then Classical.choose (hex ⟨i,hi⟩) else ([],[]),fun i hi=>by simp only [dif_pos hi]; exact Classical.choose_spec (hex ⟨i,hi⟩)⟩
     have hcell:∀ i j,i < len→j < P.cellsOf e→w.cell? ((a.add (i * P.cellsOf e)).add j)=some ((g i).1.getD j undef):=by
      intro i j hi hj
      obtain ⟨_,q1,q2⟩:=World.cells?_some (hg i hi).1
      rw [q2 j hj,List.getElem?_eq_getElem (by omega)]
      simp [List.getD,show j < (g i).1.length by omega]
     obtain ⟨b,off,sp⟩:=a
     have hsp:sp=none:=by
      have:=hcell 0 0 (by omega) (by omega)
      have:=World.cell?_spot this
      simpa [Addr.add] using this
     subst hsp
     have hb:b < w.heap.size:=by
      have:=World.block_lt_of_cell? w _ (hcell 0 0 (by omega) (by omega))
      simpa [Addr.add] using this
     have hdl:∀ i,i < len→(g i).2.length=P.cellsOf e:=fun i hi=>by rw [(hg i hi).2.ok.len,hce]
     have hvl:∀ i,i < len→(g i).1.length=P.cellsOf e:=fun i hi=>by rw [(hg i hi).2.len,hdl i hi]
     refine ⟨[.sl ((List.range len).map fun i=>(g i).2)],.single (.sl le _ (by simp; omega) ?_ ?_) ?_⟩
     ·intro q hq
      obtain ⟨i,hi,rfl⟩:=List.mem_map.1 hq
      exact (hg i (List.mem_range.1 hi)).2.ok.len
     ·intro q hq
      obtain ⟨i,hi,rfl⟩:=List.mem_map.1 hq
      exact (hg i (List.mem_range.1 hi)).2.ok.each
     ·have hlen':((List.range len).map fun i=>(g i).2).length=len:=by simp
      have:=V.sl (w:=w) (N:=fun _=>False) b off cap (P.cellsOf e) ((List.range len).map fun i=>(g i).2) (fun i j=>(g i).1.getD j undef) hb (fun h=>h)
       (fun q hq=>by
        obtain ⟨i,hi,rfl⟩:=List.mem_map.1 hq
        exact hdl i (List.mem_range.1 hi))
       (by omega)
       (fun q hq c hc=>by
        obtain ⟨i,hi,rfl⟩:=List.mem_map.1 hq
        obtain ⟨j,hj,rfl⟩:=List.getElem_of_mem hc
        have hi':=List.mem_range.1 hi
        have:=hdl i hi'
        exact ((hg i hi').2.ok.each j (by omega) hj).one)
       (fun i j hi hj=>by
        have hi':i < len:=by simpa using hi
        have hj':j < P.cellsOf e:=by
         have:=hdl i hi'
         simp at hj; omega
        have:=hcell i j hi' hj'
        rw [Addr.add_mid,Addr.add_mid] at this
        rw [← this,Nat.add_assoc])
       (fun i j hi hj=>by
        have hi':i < len:=by simpa using hi
        have hj':j < (g i).2.length:=by simpa using hj
        have h1:=hdl i hi'
        have h2:=hvl i hi'
        have:=(hg i hi').2.each j (by omega) hj'
        simpa [List.getD,show j < (g i).1.length by omega] using this)
      rw [hlen'] at this
      exact this
  ·rename_i fs hu
   split at hl
   ·rename_i hoff
    obtain ⟨xs,m,_,_,hcl,hxl,hget⟩:=DataW.trod_struct hu h
    have:=Jg (P:=P) (w:=w) (n:=n) (fs.toList.map (·.type)) 0 cs l (by rw [List.map_map]; exact hl) (by omega) (fun i t ht lt hlt=>by
     obtain ⟨f,hf,rfl⟩:∃ f,fs.toList[i]? = some f∧f.type=t:=by
      rw [List.getElem?_map] at ht
      obtain ⟨f,hf,e⟩:=Option.map_eq_some_iff.1 ht
      exact ⟨f,hf,e⟩
     have ho:=Zm fs.toList 0 hoff i f hf
     have h1:=hget i f (by simpa using hf)
     have hix:i < xs.length:=by
      have:=(List.getElem?_eq_some_iff.1 hf).1
      simp at this; omega
     rw [List.getElem?_eq_getElem hix] at h1
     rw [← ho]
     exact ih _ _ _ _ _ hlt h1)
    simpa using this
   ·cases hl
  ·rename_i k e hu
   obtain ⟨xs,m,_,_,hcl,hxl,hget⟩:=DataW.trod_array hu h
   have:=Jg (P:=P) (w:=w) (n:=n) (List.replicate k e) 0 cs l (by rw [List.map_replicate]; exact hl) (by omega) (fun i t ht lt hlt=>by
    have hik:i < k:=by
     have:=(List.getElem?_eq_some_iff.1 ht).1
     simpa using this
    obtain rfl:e=t:=by
     rw [List.getElem?_replicate,if_pos hik] at ht
     exact Option.some.inj ht
    have h1:=hget i hik
    rw [List.getElem?_eq_getElem (by omega)] at h1
    have e1:(0 + (((List.replicate k e).take i).map P.cellsOf).sum)=i * P.cellsOf e:=by
     rw [List.take_replicate,List.map_replicate,jic,Nat.min_eq_left (by omega)]; omega
    rw [e1]
    exact ih _ _ _ _ _ hlt h1)
   simpa using this
  ·cases hl
theorem Vf {b0:Nat} {r:Reach} {t:TypeId} {v:Value} {d:DataW H} {p:List MemPlace} (n:Nat) {l:LF} (hf:flatT P n t=some [l]) (hl:(match P.underlying t with | some (.struct _) | some (.array _ _)=>false | _=>true)=true)
  (hok:Value.okWide P w r b0 t v) (h:DataW.Trod enc P w base spare held t v d p):∃ c,LF.Ok l c∧V w (fun _=>False) v c:=by
 obtain ⟨fuel,h⟩:=h
 have hv:v.cells=#[v]:=by
  cases v with
  | agg xs=>
   simp only [Value.okWide] at hok
   split at hl
   ·cases hl
   ·cases hl
   ·split at hok
    ·simp_all
    ·simp_all
    ·simp only [Cell.okWide] at hok
     split at hok <;> first | (rename_i hq; cases hq; done) | simp_all [Cell.ok]
  | tuple xs=>rfl
  | _=>rfl
 rw [hv] at h
 obtain ⟨ds,hd⟩:=jfm n fuel t _ _ _ hf h
 have h1:=hd.ok.len
 match ds,h1,hd with
 | [c],_,hd=>exact ⟨c,hd.ok.each 0 (by simp) (by simp),hd.each 0 (by simp) (by simp)⟩
theorem wT {b0:Nat} {r:Reach} {t:TypeId} {v:Value} {d:DataW H} {p:List MemPlace} (n:Nat) {sh:List LF} (hf:flatT P n t=some sh) (hl:(match P.underlying t with | some (.struct _) | some (.array _ _)=>true | _=>false)=true)
  (hok:Value.okWide P w r b0 t v) (h:DataW.Trod enc P w base spare held t v d p):∃ cs,OkL sh cs∧V w (fun _=>False) v (.agg cs):=by
 obtain ⟨fuel,h⟩:=h
 obtain ⟨xs,rfl⟩:∃ xs,v=.agg xs:=by
  simp only [Value.okWide] at hok
  split at hl
  ·rename_i hu; rw [hu] at hok; obtain ⟨xs,h,_⟩:=hok; exact ⟨xs,h⟩
  ·rename_i hu; rw [hu] at hok; obtain ⟨xs,h,_⟩:=hok; exact ⟨xs,h⟩
  ·cases hl
 obtain ⟨ds,hd⟩:=jfm n fuel t _ _ _ hf h
 refine ⟨ds,hd.ok,.agg xs ds (by have:=hd.len; simpa [Value.cells] using this) (fun c hc=>?_) (fun i h1 h2=>?_)⟩
 ·obtain ⟨j,hj,rfl⟩:=List.getElem_of_mem hc
  exact (hd.ok.each j (by have:=hd.ok.len; omega) hj).one
 ·have:=hd.each i (by simpa [Value.cells] using h1) h2
  simpa [Value.cells] using this
theorem kX {f:FuncId} {cs:List CV} {vs:Array Value} {r:CV} (hC:PCallG P f (cs.map .c) (.c r) []) (hn:vs.size=cs.length) (hV:∀ (i:Nat) (h1:i < vs.size) (h2:i < cs.length),V w (fun _=>False) vs[i] cs[i]) :
  Calls P f vs w fun e w'=>∃ v,e=.returned v∧V w' (fun _=>False) v r∧Below w.heap.size w w':=by
 have hno:∀ i,((initPS (cs.map AV.c)).bx i).st.owned=false:=by
  intro i
  simp only [initPS,List.getElem?_map]
  cases hc:cs[i]? <;> rfl
 have hS:Sim (fun _=>False) w ⟨fun _=>False,fun _=>none⟩ (fun _=>none) (initPS (cs.map .c)) (fun i=>vs.getD i undef) w:=by
  refine ⟨rfl,rfl,rfl,Nat.le_refl _,fun _ _ _=>rfl,fun i=>?_,fun d=>?_,fun d d' p p' _ ho=>(by rw [hno d] at ho; cases ho),fun d p ho=>(by rw [hno d] at ho; cases ho),fun b hb=>hb.elim,fun d ps hd=>absurd (hno d) (by rw [hd]; simp [BSt.owned]),fun d es hd=>absurd (hno d) (by rw [hd]; simp [BSt.owned]),fun _ _ _ _ _ _ _ hw=>hw,fun d _ ho=>rfl⟩
  ·by_cases hi:i < cs.length
   ·have:(initPS (cs.map AV.c)).t i=.c cs[i]:=by simp [initPS,hi]
    rw [this]
    have hv:vs.getD i undef=vs[i]'(by omega):=by simp [show i < vs.size by omega]
    rw [hv]
    exact (hV i (by omega) hi).ext (.of_less fun b hb=>by
     rcases hb with hb | ⟨_,_,ho,_⟩
     ·exact hb
     ·rw [hno] at ho; cases ho)
   ·have:(initPS (cs.map AV.c)).t i=.undef:=by simp [initPS,hi]
    rw [this]
    show vs.getD i undef=undef
    simp [show ¬ i < vs.size by omega]
  ·have:((initPS (cs.map AV.c)).bx d).st=.dead:=by
    simp only [initPS,List.getElem?_map]
    cases hc:cs[d]? <;> rfl
   rw [this]
   trivial
 refine (hC.2 w (fun _=>False) (fun _=>False) (fun _=>none) vs (by simpa using hn) hS).mono ?_
 rintro e w' ⟨v,β',rfl,hS',_⟩
 refine ⟨v,rfl,?_,hS'.os,hS'.tape,hS'.output,hS'.size,fun k hk=>hS'.keep k hk (fun h=>h)⟩
 have ht:=hS'.temps (cs.map AV.c).length
 simp only [retPS,if_true] at ht
 exact V.ext (.of_less fun b hb=>hb.elim) ht
end
end Go.Pl
/-
 THE WALK OF A PLAIN CODE,more steps. My own work.
-/
namespace Go.Pl
set_option linter.unusedSimpArgs false
section
variable {C : CallP} {l : List POp} {s : PS} {K : PS → Prop} {d : Nat} {x y z : PO} {k : IntKind} {a b n m : Int}
theorem jm8 {m:Int} (hx:s.ev x=.c (.int k a)) (hy:s.ev y=.c (.int k m)) (hm:m≠0) (h:wL C l (s.put d (.c (.int k (a.tmod m)))) K):wL C (⟨some d,.bin .rem x y,none⟩::l) s K :=
 vC hx hy (by simp only [binC]; rw [if_pos ⟨trivial,hm⟩]) h
end
end Go.Pl
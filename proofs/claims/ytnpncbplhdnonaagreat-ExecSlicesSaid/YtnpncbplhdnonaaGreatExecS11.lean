/- Part of the proof of ExecTells, ExecAnswers, ExecBest, ExecFirst, ExecLevels, ExecTops, ExecLimits: lemmas. -/
import Derived.Test.YtnpncbplhdnonaaGreatExecS3
import Derived.Test.YtnpncbplhdnonaaGreatExecS10
import Derived.Laws.Cover3
set_option linter.unusedVariables false
set_option linter.unusedSimpArgs false
/-
 ONE OPERATION OF A REGION,AS THE MODEL RUNS IT,AND THE PLAIN STEP. My own work.
-/
namespace Go.Pl
open Go
set_option linter.unusedVariables false
def chkCall (P:Program) (o:Oper) (f:FuncId) (args:List PO):Bool :=
 match o.op with
 | .call ⟨.value (.func f'),cargs,_⟩=>decide (f'=f) && chkPOs cargs.toList args && match P.funcs[f]? with
  | some fn => decide (fn.name ≠ "runtime.NumGoroutine") && fn.body.isSome
  | none=>false
 | _=>false
def chkCallV (o:Oper) (x:PO) (args:List PO):Bool :=
 match o.op with
 | .call ⟨.value x',cargs,_⟩=>chkPO x' x && chkPOs cargs.toList args
 | _=>false
def chkG (ops:Array Oper) (g:Option (Nat × Bool)) (g':Option (Nat × Bool)):Bool :=
 match g,g' with
 | none,none=>true
 | some (j,w),some (t,w')=>(w == w') && decide ((ops[j]?).bind (·.dst)=some t)
 | _,_=>false
def chkP (P:Program) (n:Nat) (ops:Array Oper) (o:Oper) (p:POp):Bool :=
 decide (o.dst=p.dst) && (match o.dst with | some d=>decide (d < n) | none=>true) && chkG ops o.guard p.g &&
  (match p.k with
  | .call _ f args=>chkCall P o f args
  | .callv x args=>chkCallV o x args
  | k=>chkK P o k)
section
variable {O : Nat → Prop} {A0 : Lent} {w0 w : World} {β : Bt} {s : PS} {a : Act} {P : Program}
theorem Vd (a:Act) (d:Option Tmp) (v:Value):(a.put d v).tmps.size=a.tmps.size:=by
 cases d <;> simp [Act.put]
theorem put_defers (a:Act) (d:Option Tmp) (v:Value):(a.put d v).defers=a.defers:=by
 cases d <;> rfl
theorem jdj {o : Oper} {f : FuncId} {cargs : Array Operand} {tys : Array TypeId} (ho : o.op = .call ⟨.value (.func f), cargs, tys⟩) {fn : Func} (hf : P.funcs[f]? = some fn) (hn : fn.name ≠ "runtime.NumGoroutine") (hb : fn.body.isSome = true) :
  (execOp a.eval o).run P w=.ok (.enter f (cargs.map a.eval)) w:=by
 unfold execOp
 simp [ho,resolve,Act.eval,Deferred.ofValue,invoke,callFunc,program,Sem.run_bind,Sem.run,hf]
 rw [if_neg hn,if_neg (by intro h; simp [h] at hb)]
theorem jak {o:Oper} {x:Operand} {cargs:Array Operand} {tys:Array TypeId} {f:FuncId} {caps:Array Value} (ho:o.op=.call ⟨.value x,cargs,tys⟩) (hx:a.eval x=.func (.func f) #[] caps) (hE:Ent P f) :
  (execOp a.eval o).run P w=.ok (.enter f (cargs.map a.eval++caps)) w:=by
 obtain ⟨fn,hf,hn,hb⟩:=hE
 unfold execOp
 simp [ho,hx,resolve,Deferred.ofValue,invoke,callFunc,program,Sem.run_bind,Sem.run,hf]
 rw [if_neg hn,if_neg (by intro h; simp [h] at hb)]
theorem jmn {N:Nat→Prop} {v:Value} {f:FuncId} (h:V w N v (.fn (.func f) [])):v=.func (.func f) #[] #[]:=by
 generalize hc:CV.fn (.func f) []=c at h
 cases h <;> cases hc
 rename_i vs hl h
 obtain rfl:vs=#[]:=Array.eq_empty_of_size_eq_zero (by simpa using hl)
 rfl
theorem jkg {N:Nat→Prop} {v:Value} {f:FuncId} {caps:List (List CV)} (h:V w N v (.clo f caps)):∃ vs:Array Value,v=.func (.func f) #[] vs∧vs.size=caps.length ∧
  ∀ (i:Nat) (h1:i < vs.size) (h2:i < caps.length) (β:Bt) (bx:Nat→Box),R w N β bx vs[i] (.rp caps[i]):=by
 generalize hc:CV.clo f caps=c at h
 cases h <;> cases hc
 rename_i vs b o c hv hl hb h1 hr h
 exact ⟨vs,rfl,hl,fun i hi1 hi2 β bx=>⟨b i,o i,hv i hi1,(hb i hi2).1,(hb i hi2).2,h1 _ (List.getElem_mem hi2),fun j hj=>⟨_,hr i j hi2 hj,h i j hi2 hj⟩⟩⟩
theorem jmo {ops:Array Oper} {o:Oper} {p:POp} {n:Nat} (hc:(match p.k with | .call _ f args=>chkCall P o f args | .callv x args=>chkCallV o x args | k=>chkK P o k)=true) (hdst:o.dst=p.dst) (hd:dstOk o.dst a.tmps.size)
  (h:Sim O w0 A0 β s (tmf a) w) {K:PS→Prop} (hw:wpK (PCallG P) p s K) {next:Act→World→Prop} {Q:Exit→Act→World→Prop}
  (hnext:∀ β' s' v w',Sim O w0 A0 β' s' (tmf (a.put o.dst v)) w'→K s'→next (a.put o.dst v) w'):o.wp P a w next Q:=by
 have plain:∀ k,chkK P o k=true→(match pstep p.dst s k with | some s'=>K s' | none=>False)→o.wp P a w next Q:=by
  intro k hk hs
  cases hp:pstep p.dst s k with
  | none=>rw [hp] at hs; exact hs.elim
  | some s' =>
   rw [hp] at hs
   rw [← hdst] at hp
   obtain ⟨nx,v,w',β',hr,hnx,hS⟩:=jh6 hk h hd hp
   unfold Oper.wp
   rw [hr]
   rcases hnx with rfl | ⟨rfl,rfl⟩
   ·exact hnext _ _ _ _ hS hs
   ·exact hnext _ _ _ _ hS hs
 obtain ⟨pd,pk,pg⟩:=p
 simp only at hc hdst
 cases pk
 case callv x args =>
  simp only [chkCallV] at hc
  split at hc <;> (try (cases hc; done))
  rename_i x' cargs tys ho
  simp only [Bool.and_eq_true] at hc
  obtain ⟨hx',hargs⟩:=hc
  simp only [wpK,wpCallV] at hw
  have hR:=vW h hx'
  -- closed arguments,and what the function value holds
  have go:∀ {f:FuncId} {cs:List CV} {caps:List (List CV)} {vs:Array Value},a.eval x'=.func (.func f) #[] vs→vs.size=caps.length→(∀ (i:Nat) (h1:i < vs.size) (h2:i < caps.length),R w (Nn O β s.bx) β s.bx vs[i] (.rp caps[i])) →
    evcs s args=some cs→(∃ r,PCallG P f (cs.map .c++caps.map .rp) (.c r) []∧K (s.putO pd (.c r)))→o.wp P a w next Q:=by
   intro f cs caps vs hv hvl hvR hcs hw
   obtain ⟨r,hC,hK⟩:=hw
   unfold Oper.wp
   rw [jak ho hv hC.1]
   show Calls P f (cargs.map a.eval++vs) w _
   obtain ⟨hl,hV⟩:=JS h hargs hcs
   have hl':cargs.size=cs.length:=by simpa using hl
   refine (hC.2 w _ _ _ _ (by simp; omega) (jdg h (avs:=cs.map .c++caps.map .rp) (fun v hv=>by
    rcases List.mem_append.1 hv with hv | hv <;> (obtain ⟨_,_,rfl⟩:=List.mem_map.1 hv; rfl)) (by simp; omega) (fun i h1 h2=>?_))).mono ?_
   ·by_cases hi:i < cs.length
    ·have e1:(cs.map AV.c++caps.map AV.rp)[i]=AV.c cs[i]:=by rw [List.getElem_append_left (by simpa using hi)]; simp
     have e2:(cargs.map a.eval++vs)[i]=a.eval cargs[i]:=by rw [Array.getElem_append_left (by simp; omega)]; simp
     rw [e1,e2]
     have:=hV i (by simp; omega) hi
     rw [Array.getElem_toList] at this
     exact this
    ·have h2':i < cs.length + caps.length:=by simpa using h2
     have e1:(cs.map AV.c++caps.map AV.rp)[i]=AV.rp caps[i - cs.length]:=by rw [List.getElem_append_right (by simp; omega)]; simp
     have e2:(cargs.map a.eval++vs)[i]=vs[i - cs.length]'(by omega):=by
      rw [Array.getElem_append_right (by simp; omega)]
      simp [hl']
     rw [e1,e2]
     exact hvR _ _ _
   ·rintro e w' ⟨v,β',rfl,hS,_⟩
    obtain ⟨hS',hVr⟩:=jln h hS
    exact hnext _ _ v _ (hS'.putO o.dst (by simpa using hd) (.c r) v hVr) (by rw [hdst]; exact hK)
  split at hw
  ·rename_i f cs hx hcs
   rw [hx] at hR
   exact go (caps:=[]) (jmn hR) rfl (fun i h1=>by simp at h1) hcs (by simpa using hw)
  ·rename_i f caps cs hx hcs
   rw [hx] at hR
   obtain ⟨vs,hv,hvl,hvR⟩:=jkg hR
   exact go hv hvl (fun i h1 h2=>hvR i h1 h2 _ _) hcs hw
  ·exact hw.elim
 case call m f args =>
  simp only [chkCall] at hc
  split at hc <;> (try (cases hc; done))
  rename_i f' cargs tys ho
  simp only [Bool.and_eq_true,decide_eq_true_eq] at hc
  obtain ⟨⟨rfl,hargs⟩,hc⟩:=hc
  split at hc <;> (try (cases hc; done))
  rename_i fn hf
  simp only [Bool.and_eq_true,decide_eq_true_eq] at hc
  unfold Oper.wp
  rw [jdj ho hf hc.1 hc.2]
  simp only [wpK,wpCall] at hw
  show Calls P f' (cargs.map a.eval) w _
  split at hw
  ·-- all closed
   split at hw <;> (try (exact hw.elim))
   rename_i cs hcs
   obtain ⟨r,hC,hK⟩:=hw
   obtain ⟨hl,hV⟩:=JS h hargs hcs
   refine (hC.2 w _ _ _ (cargs.map a.eval) (by simpa using hl) (XV h (by simpa using hl) (fun i h1 h2=>by have:=hV i (by simpa using h1) h2; simpa using this))).mono ?_
   rintro e w' ⟨v,β',rfl,hS,_⟩
   obtain ⟨hS',hVr⟩:=jlo h hS
   exact hnext _ _ v _ (hS'.putO o.dst (by simpa using hd) (.c r) v hVr) (by rw [hdst]; exact hK)
  ·-- the first one handed over,or lent
   rename_i x l
   obtain ⟨cl⟩:=cargs
   cases cl with
   | nil=>cases hargs
   | cons cx cl =>
   simp only [chkPOs,Bool.and_eq_true] at hargs
   have hargv:(⟨cx::cl⟩:Array Operand).map a.eval=(a.eval cx::cl.map a.eval).toArray:=by simp
   rw [hargv]
   have hR:=vW h hargs.1
   split at hw <;> (try (exact hw.elim))
   ·rename_i d ver off len cs hx hcs
    rw [hx] at hR
    obtain ⟨hl,hV⟩:=JS h hargs.2 hcs
    split at hw <;> (try (exact hw.elim))
    rename_i v sz es hb
    obtain ⟨⟨rfl,rfl,hlen⟩,hw⟩:=hw
    have hown:(s.bx d).st.owned=true:=by rw [hb]; rfl
    have hB:=h.boxes d
    rw [hb] at hB
    have hH:=wM hR hb hlen hB
    rcases hw with ⟨r,hrd,hC,hK⟩ | ⟨r,es',hC,hK⟩
    ·have hinit:=VG h (d0:=d) (av:=.own sz es) (by rw [hb]; rfl) hown (v0:=a.eval cx) (vs:=cl.map a.eval) (by simpa using hl) (fun i h1 h2=>by have:=hV i (by simpa using h1) h2; simpa using this) (by
      refine ⟨⟨Nat.le_refl _,hH.one⟩,fun _ sz2 es2 hs2=>⟨rfl,?_⟩⟩
      have:(initPS (AV.own sz es::List.map AV.c cs)).bx 0=⟨0,.sl sz es⟩:=rfl
      rw [this] at hs2
      cases hs2
      simp only [if_true]
      rcases hH with ⟨h1,h2,h3⟩ | ⟨b,cap,h1,h2,h3,h4⟩
      ·exact .inl ⟨h1,h2,by rw [h3]; rfl⟩
      ·exact .inr ⟨b,cap,h1,h2,h3,h4⟩)
     refine (hC.2 w _ _ _ _ (by simp; omega) hinit).mono ?_
     rintro e w' ⟨v',β',rfl,hS,_⟩
     cases r with
     | c r =>
      obtain ⟨hS',hVr⟩:=jdh h hb hS
      exact hnext _ _ v' _ (hS'.putO o.dst hd (.c r) v' hVr) (by rw [hdst]; exact hK)
     | own sz' zs =>
      cases hpd:pd with
      | none =>
       rw [hpd] at hrd
       have:=hrd _ _ rfl
       cases this
      | some e =>
       rw [hpd] at hdst hK
       obtain ⟨β2,hS'⟩:=jdi h hb hS (hd e hdst)
       exact hnext β2 _ v' _ (by rw [hdst]; exact hS') hK
    ·have hinit:=VG h (d0:=d) (av:=.ios sz es) (by rw [hb]; rfl) hown (v0:=a.eval cx) (vs:=cl.map a.eval) (by simpa using hl) (fun i h1 h2=>by have:=hV i (by simpa using h1) h2; simpa using this) (by
      refine ⟨⟨Nat.le_refl _,hH.one⟩,fun _ sz2 es2 hs2=>⟨rfl,?_⟩⟩
      have:(initPS (AV.ios sz es::List.map AV.c cs)).bx 0=⟨0,.sl sz es⟩:=rfl
      rw [this] at hs2
      cases hs2
      simp only [if_true]
      rcases hH with ⟨h1,h2,h3⟩ | ⟨b,cap,h1,h2,h3,h4⟩
      ·exact .inl ⟨h1,h2,by rw [h3]; rfl⟩
      ·exact .inr ⟨b,cap,h1,h2,h3,h4⟩)
     refine (hC.2 w _ _ _ _ (by simp; omega) hinit).mono ?_
     rintro e w' ⟨v',β',rfl,hS,_,hβ'⟩
     obtain ⟨hβ0,hwide⟩:=hβ' 0 sz es rfl
     simp only [if_true] at hβ0 hwide
     obtain ⟨hS',hVr⟩:=jfh h hb hS hβ0 hwide
     exact hnext _ _ v' _ (hS'.putO o.dst hd (.c r) v' hVr) (by rw [hdst]; exact hK)
   ·rename_i d ver off cs hx hcs
    rw [hx] at hR
    obtain ⟨hl,hV⟩:=JS h hargs.2 hcs
    split at hw <;> (try (exact hw.elim))
    rename_i v c0 hb
    obtain ⟨⟨rfl,rfl⟩,r,c1,hC,hK⟩:=hw
    have hown:(s.bx d).st.owned=true:=by rw [hb]; rfl
    obtain ⟨b,base,hβ,he⟩:=hR.2 (by rw [hb]) (by rw [hb]; rfl)
    have hinit:=VG h (d0:=d) (av:=.io c0) (by rw [hb]; rfl) hown (v0:=a.eval cx) (vs:=cl.map a.eval) (by simpa using hl) (fun i h1 h2=>by have:=hV i (by simpa using h1) h2; simpa using this)
     ⟨⟨Nat.le_refl _,hR.1.2⟩,fun _ hs2=>⟨b,base,by simpa using hβ,by simpa using he⟩⟩
    refine (hC.2 w _ _ _ _ (by simp; omega) hinit).mono ?_
    rintro e w' ⟨v',β',rfl,hS,hβ'⟩
    have hβ0:β' 0=β d:=by have:=hβ'.1 0 c0 rfl; simpa using this
    obtain ⟨hS',hVr⟩:=jh8 h hb hS hβ0
    exact hnext _ _ v' _ (hS'.putO o.dst hd (.c r) v' hVr) (by rw [hdst]; exact hK)
   ·rename_i v0 cs hx hcs
    rw [hx] at hR
    obtain ⟨hl,hV⟩:=JS h hargs.2 hcs
    obtain ⟨sz,es,hsome,hC,hK⟩:=hw
    have hl':cl.length=cs.length:=by simpa using hl
    refine (hC.2 w _ _ _ _ (by simp; omega) (XV h (cs:=v0::cs) (vs:=(a.eval cx::cl.map a.eval).toArray) (by simp; omega) (fun i h1 h2=>by
     cases i with
     | zero=>exact hR
     | succ i=>have:=hV i (by simpa using h1) (by simpa using h2); simpa using this))).mono ?_
    rintro e w' ⟨v',β',rfl,hS,_⟩
    cases hpd:pd with
    | none=>rw [hpd] at hsome; cases hsome
    | some e =>
     rw [hpd] at hdst hK
     obtain ⟨β2,hS'⟩:=jh9 (cs:=v0::cs) h hS (hd e hdst)
     exact hnext β2 _ v' _ (by rw [hdst]; exact hS') hK
  ·exact hw.elim
 all_goals (simp only [wpK] at hw; exact plain _ hc hw)
end
end Go.Pl
/-
 A STATEMENT WHOSE ORDER IS OPEN: its plain steps,in whatever order its edges let,come to the same. My own work.
-/
namespace Go.Pl
open Go
set_option linter.unusedVariables false
def reads (p:POp):List Nat:=opReads p.k++(match p.g with | some (g,_)=>[g] | none=>[])
def conf:Cl→Cl→Bool
 | .mw,.mr | .mw,.mw | .mr,.mw=>true
 | .x,.pure | .pure,.x=>false
 | .x,_ | _,.x=>true
 | _,_=>false
def apart:Option Nat→Option Nat→Bool
 | some a,some b=>a != b
 | _,_=>false
def okPair (p:POp) (bp:Option Nat) (q:POp) (bq:Option Nat):Bool :=
 (match p.dst with | some d=>!(reads q).contains d && decide (q.dst≠some d) | none=>true) && (match q.dst with | some d=>!(reads p).contains d | none=>true) && (!conf (cls p.k) (cls q.k) || apart bp bq)
structure LocG (C:CallP) (p:POp) (s s':PS) (v:PV) (wb:Nat→Option Box) (act:Bool):Prop where
 eq:s'=upd p.dst v wb s
 again:∀ u,(∀ t∈reads p,u.t t=s.t t)→(act=true→AgB p.k p.dst s u)→wpG C p u (·=upd p.dst v wb u)
 wb1:act=true→Wb p.k p.dst s wb
 wb0:act=false→wb=nob
 live:act=true→∀ e ver,ref p.k s=some (e,ver)→cls p.k≠.pure→(s.bx e).ver=ver∧(s.bx e).st≠.dead
theorem locG {C:CallP} {p:POp} {s:PS} {K:PS→Prop} (hst:(∃ n x y av,p.k=.store n x y av)→p.dst=none) (h:wpG C p s K):∃ s' v wb act,LocG C p s s' v wb act∧K s':=by
 obtain ⟨dst,k,g⟩:=p
 have hk:wpK C ⟨dst,k,none⟩ s K→∃ s' v wb,LocK C dst k s s' v wb∧K s':=by
  intro h
  cases k
  case callv x l =>
   simp only [wpK] at h
   obtain ⟨s',⟨v,wb,hl⟩,hK⟩:=jdb h
   exact ⟨s',v,wb,hl,hK⟩
  case call m f l =>
   simp only [wpK] at h
   obtain ⟨s',⟨v,wb,hl⟩,hK⟩:=je4 h
   exact ⟨s',v,wb,hl,hK⟩
  all_goals
   simp only [wpK] at h
   split at h
   ·rename_i s' hs
    obtain ⟨v,wb,hl⟩:=je3 (C:=C) (by intros; simp) hst hs
    exact ⟨s',v,wb,hl,h⟩
   ·exact h.elim
 have wK:∀ (gg:Option (Nat × Bool)) (u:PS) (K:PS→Prop),wpK C ⟨dst,k,gg⟩ u K=wpK C ⟨dst,k,none⟩ u K:=by
  intro gg u K; cases k <;> rfl
 cases g with
 | none =>
  simp only [wpG] at h
  obtain ⟨s',v,wb,hl,hK⟩:=hk h
  refine ⟨s',v,wb,true,⟨hl.eq,fun u hu hab=>?_,fun _=>hl.wb,fun h=>(by cases h),fun _=>hl.live⟩,hK⟩
  simp only [wpG]
  exact hl.again u (fun t ht=>hu t (by simp [reads,ht])) (hab rfl)
 | some gw =>
  obtain ⟨g,w⟩:=gw
  simp only [wpG] at h
  split at h
  ·rename_i b hb
   by_cases hbw:b=w
   ·have h1:=h.1 hbw
    rw [wK] at h1
    obtain ⟨s',v,wb,hl,hK⟩:=hk h1
    refine ⟨s',v,wb,true,⟨hl.eq,fun u hu hab=>?_,fun _=>hl.wb,fun h=>(by cases h),fun _=>hl.live⟩,hK⟩
    have hg:u.t g=.c (.bool b):=by rw [hu g (by simp [reads])]; exact hb
    simp only [wpG,hg]
    refine ⟨fun _=>?_,fun hne=>absurd hbw hne⟩
    rw [wK]
    exact hl.again u (fun t ht=>hu t (by simp [reads,ht])) (hab rfl)
   ·refine ⟨_,.undef,nob,false,⟨by rw [ku],fun u hu _=>?_,fun h=>(by cases h),fun _=>rfl,fun h=>(by cases h)⟩,h.2 hbw⟩
    have hg:u.t g=.c (.bool b):=by rw [hu g (by simp [reads])]; exact hb
    simp only [wpG,hg]
    exact ⟨fun e=>absurd e hbw,fun _=>by rw [ku]⟩
  ·rename_i hb
   refine ⟨_,.undef,nob,false,⟨by rw [ku],fun u hu _=>?_,fun h=>(by cases h),fun _=>rfl,fun h=>(by cases h)⟩,h⟩
   have hg:u.t g=.undef:=by rw [hu g (by simp [reads])]; exact hb
   simp only [wpG,hg]
   rw [ku]
  ·exact h.elim
def WF (s:PS):Prop:=∀ i e ver,refOf (s.t i)=some (e,ver)→ver≤(s.bx e).ver
theorem Sim.wf {O:Nat→Prop} {A0:Lent} {w0 w:World} {β:Bt} {s:PS} {tm:Nat→Value} (h:Sim O w0 A0 β s tm w):WF s:=by
 intro i e ver hr
 have:=h.temps i
 cases hp:s.t i <;> rw [hp] at this hr <;> simp only [refOf,Option.some.injEq,Prod.mk.injEq,reduceCtorEq] at hr
 all_goals (obtain ⟨rfl,rfl⟩:=hr; first | exact this.1.1 | exact this.1)
theorem kindEq.symm {b b':Box} (h:kindEq b b'):kindEq b' b:=by
 obtain ⟨v,st⟩:=b
 obtain ⟨v',st'⟩:=b'
 obtain ⟨h1,h2⟩:=h
 refine ⟨h1.symm,?_⟩
 cases st <;> cases st' <;> simp_all
theorem vg {k:PK} {s:PS} {e ver:Nat} (h:ref k s=some (e,ver)):cls k≠.pure:=by
 intro hc
 cases k <;> simp only [ref,key,cls,reduceCtorEq,Option.bind_none,Option.bind_some] at h hc
 rename_i m f l
 cases m <;> cases l <;> simp [key] at h hc
theorem XW {k:PK} {s u:PS} (h:∀ t∈opReads k,u.t t=s.t t):ref k u=ref k s:=by
 unfold ref
 cases hk:key k with
 | none=>rfl
 | some x =>
  have hx:x∈opds k:=by
   cases k <;> simp only [key,reduceCtorEq,Option.some.injEq] at hk <;> (try (subst hk; simp [opds]))
   rename_i m f l
   cases m <;> cases l <;> simp at hk
   subst hk; simp [opds]
  simp only [Option.bind_some,jz h x hx]
theorem jlp {k:PK} {s:PS} (hw:WF s) {e ver:Nat} (h:ref k s=some (e,ver)):ver≤(s.bx e).ver:=by
 unfold ref at h
 cases hk:key k with
 | none=>rw [hk] at h; cases h
 | some x =>
  rw [hk] at h
  cases x with
  | t i=>exact hw i e ver h
  | k v=>cases h
theorem jkh (dst:Option Nat) (v:PV) (wb:Nat→Option Box) (u:PS) {t:Nat} (h:dst≠some t):(upd dst v wb u).t t=u.t t:=by
 simp only [upd]; rw [if_neg (fun e=>h e.symm)]
theorem swap {C:CallP} {p q:POp} {bp bq:Option Nat} {s:PS} {K:PS→Prop} (hp:(∃ n x y av,p.k=.store n x y av)→p.dst=none) (hq:(∃ n x y av,q.k=.store n x y av)→q.dst=none) (hok:okPair p bp q bq=true) (hw:WF s) (hcp:clm p bp s)
  (dp:isNew p.k=true→∀ d,p.dst=some d→(s.bx d).st=.dead) (dq:isNew q.k=true→∀ d,q.dst=some d→(s.bx d).st=.dead)
  (h:wpG C p s fun s1=>clm q bq s1∧wpG C q s1 K):clm q bq s∧wpG C q s fun s1=>clm p bp s1∧wpG C p s1 K:=by
 obtain ⟨s1,v1,wb1,a1,L1,hcq,h1⟩:=locG hp h
 obtain ⟨s2,v2,wb2,a2,L2,hK⟩:=locG hq h1
 simp only [okPair,Bool.and_eq_true,Bool.or_eq_true,Bool.not_eq_true'] at hok
 obtain ⟨⟨hd1,hd2⟩,hok⟩:=hok
 have noconf:∀ e v v',ref p.k s=some (e,v)→ref q.k s1=some (e,v')→conf (cls p.k) (cls q.k)=false:=by
  intro e v v' h1 h2
  rcases hok with h | h
  ·exact h
  ·exfalso
   cases bp with
   | none=>simp [apart] at h
   | some a =>
    cases bq with
    | none=>simp [apart] at h
    | some b =>
     have e1:=hcp a rfl e v h1
     have e2:=hcq b rfl e v' h2
     subst e1; subst e2
     simp [apart] at h
 have n1:∀ t∈reads q,p.dst≠some t:=by
  intro t ht e
  rw [e] at hd1
  simp only [Bool.and_eq_true,Bool.not_eq_true',List.contains_eq_mem,decide_eq_false_iff_not] at hd1
  exact hd1.1 ht
 have n2:∀ t∈reads p,q.dst≠some t:=by
  intro t ht e
  rw [e] at hd2
  simp only [Bool.not_eq_true',List.contains_eq_mem,decide_eq_false_iff_not] at hd2
  exact hd2 ht
 have n3:∀ d,p.dst=some d→q.dst≠some d:=by
  intro d e
  rw [e] at hd1
  simp only [Bool.and_eq_true,decide_eq_true_eq] at hd1
  exact hd1.2
 have hs1:=L1.eq
 have bx1:∀ i,s1.bx i=(wb1 i).getD (s.bx i):=fun i=>by rw [hs1]; rfl
 have agq:∀ t∈reads q,s.t t=s1.t t:=fun t ht=>by rw [hs1,jkh _ _ _ _ (n1 t ht)]
 have refq:ref q.k s1=ref q.k s:=(XW (fun t ht=>agq t (by simp [reads,ht]))).symm
 -- what 'p' writes,against what 'q' looks into
 have hit1:∀ i b,wb1 i=some b→a1=true∧((cls p.k=.mw∧(∃ ver,ref p.k s=some (i,ver))∧kindEq (s.bx i) b)∨(cls p.k=.x∧∃ ver,ref p.k s=some (i,ver))∨(isNew p.k=true∧p.dst=some i∧(s.bx i).ver < b.ver)):=by
  intro i b hi
  cases ha:a1 with
  | false=>rw [L1.wb0 ha] at hi; cases hi
  | true=>exact ⟨rfl,L1.wb1 ha i b hi⟩
 have hit2:∀ i b,wb2 i=some b→a2=true∧((cls q.k=.mw∧(∃ ver,ref q.k s1=some (i,ver))∧kindEq (s1.bx i) b)∨(cls q.k=.x∧∃ ver,ref q.k s1=some (i,ver))∨(isNew q.k=true∧q.dst=some i∧(s1.bx i).ver < b.ver)):=by
  intro i b hi
  cases ha:a2 with
  | false=>rw [L2.wb0 ha] at hi; cases hi
  | true=>exact ⟨rfl,L2.wb1 ha i b hi⟩
 -- 'q' names no box that 'p' makes
 have noNew1:a2=true→∀ e ver,ref q.k s1=some (e,ver)→isNew p.k=true→p.dst≠some e:=by
  intro ha2 e ver hr hn hde
  have hl:=L2.live ha2 e ver hr (vg hr)
  cases hw1:wb1 e with
  | none =>
   have:s1.bx e=s.bx e:=by rw [bx1,hw1]; rfl
   rw [this,dp hn e hde] at hl
   exact hl.2 rfl
  | some b =>
   have hb1:s1.bx e=b:=by rw [bx1,hw1]; rfl
   obtain ⟨ha1,hc⟩:=hit1 e b hw1
   rcases hc with ⟨_,⟨ver',hr'⟩,_⟩ | ⟨_,ver',hr'⟩ | ⟨_,_,hlt⟩
   ·exact (L1.live ha1 e ver' hr' (vg hr')).2 (dp hn e hde)
   ·exact (L1.live ha1 e ver' hr' (vg hr')).2 (dp hn e hde)
   ·have:=jlp hw (refq ▸ hr)
    rw [hb1] at hl
    omega
 have noNew2:a1=true→∀ e ver,ref p.k s=some (e,ver)→isNew q.k=true→q.dst≠some e :=
  fun ha1 e ver hr hn hde=>(L1.live ha1 e ver hr (vg hr)).2 (dq hn e hde)
 -- 'q' from 's'
 have Q:wpG C q s (·=upd q.dst v2 wb2 s):=by
  refine L2.again s agq fun ha2=>⟨fun e ver hr=>?_,fun hn d hde=>?_⟩
  ·cases hw1:wb1 e with
   | none =>
    have:s1.bx e=s.bx e:=by rw [bx1,hw1]; rfl
    exact ⟨fun _=>by rw [this]; exact kindEq.refl _,fun _=>this.symm⟩
   | some b =>
    have hb1:s1.bx e=b:=by rw [bx1,hw1]; rfl
    obtain ⟨ha1,hc⟩:=hit1 e b hw1
    rcases hc with ⟨hcl,hrr,hke⟩ | ⟨hcl,hrr⟩ | ⟨hn,hde,_⟩
    ·obtain ⟨vr,hrr⟩:=hrr
     have hconf:=noconf e vr ver hrr hr
     rw [hcl] at hconf
     have hkr:cls q.k=.kr:=by
      have:=vg hr
      cases hq':cls q.k <;> rw [hq'] at hconf this <;> first | rfl | (simp [conf] at hconf; done) | (exact absurd rfl this)
     exact ⟨fun _=>by rw [hb1]; exact hke.symm,fun h=>absurd hkr h⟩
    ·obtain ⟨vr,hrr⟩:=hrr
     have hconf:=noconf e vr ver hrr hr
     rw [hcl] at hconf
     have:=vg hr
     cases hq':cls q.k <;> rw [hq'] at hconf this <;> first | (simp [conf] at hconf; done) | (exact absurd rfl this)
    ·exact absurd hde (noNew1 ha2 e ver hr hn)
  ·cases hw1:wb1 d with
   | none=>rw [bx1,hw1]; rfl
   | some b =>
    obtain ⟨ha1,hc⟩:=hit1 d b hw1
    rcases hc with ⟨_,⟨ver',hr'⟩,_⟩ | ⟨_,ver',hr'⟩ | ⟨_,hde',_⟩
    ·exact absurd hde (noNew2 ha1 d ver' hr' hn)
    ·exact absurd hde (noNew2 ha1 d ver' hr' hn)
    ·exact absurd hde (n3 d hde')
 -- 'p' behind it
 have bx2:∀ i,(upd q.dst v2 wb2 s).bx i=(wb2 i).getD (s.bx i):=fun i=>rfl
 have agp:∀ t∈reads p,(upd q.dst v2 wb2 s).t t=s.t t:=fun t ht=>jkh _ _ _ _ (n2 t ht)
 have Pn:wpG C p (upd q.dst v2 wb2 s) (·=upd p.dst v1 wb1 (upd q.dst v2 wb2 s)):=by
  refine L1.again _ agp fun ha1=>⟨fun e ver hr=>?_,fun hn d hde=>?_⟩
  ·cases hw2:wb2 e with
   | none=>rw [bx2,hw2]; exact ⟨fun _=>kindEq.refl _,fun _=>rfl⟩
   | some b =>
    obtain ⟨ha2,hc⟩:=hit2 e b hw2
    rcases hc with ⟨hcl,hrr,hke⟩ | ⟨hcl,hrr⟩ | ⟨hn,hde,_⟩
    ·obtain ⟨vr,hrr⟩:=hrr
     have hconf:=noconf e ver vr hr hrr
     rw [hcl] at hconf
     have hkr:cls p.k=.kr:=by
      have:=vg hr
      cases hp':cls p.k <;> rw [hp'] at hconf this <;> first | rfl | (simp [conf] at hconf; done) | (exact absurd rfl this)
     have hw1:wb1 e=none:=by
      cases hw1:wb1 e with
      | none=>rfl
      | some b' =>
       obtain ⟨_,hc'⟩:=hit1 e b' hw1
       rcases hc' with ⟨hcl',_,_⟩ | ⟨hcl',_⟩ | ⟨hn',hde',_⟩
       ·rw [hkr] at hcl'; cases hcl'
       ·rw [hkr] at hcl'; cases hcl'
       ·exact absurd hn' (by cases hpk:p.k <;> rw [hpk] at hkr <;> simp [cls,isNew] at hkr ⊢ <;> (rename_i m _ _; cases m <;> simp [cls] at hkr))
     have e1:s1.bx e=s.bx e:=by rw [bx1,hw1]; rfl
     rw [e1] at hke
     exact ⟨fun _=>by rw [bx2,hw2]; exact hke,fun h=>absurd hkr h⟩
    ·obtain ⟨vr,hrr⟩:=hrr
     have hconf:=noconf e ver vr hr hrr
     rw [hcl] at hconf
     have:=vg hr
     cases hp':cls p.k <;> rw [hp'] at hconf this <;> first | (simp [conf] at hconf; done) | (exact absurd rfl this)
    ·exact absurd hde (noNew2 ha1 e ver hr hn)
  ·cases hw2:wb2 d with
   | none=>rw [bx2,hw2]; rfl
   | some b =>
    obtain ⟨ha2,hc⟩:=hit2 d b hw2
    rcases hc with ⟨_,⟨ver',hr'⟩,_⟩ | ⟨_,ver',hr'⟩ | ⟨_,hde',_⟩
    ·exact absurd hde (noNew1 ha2 d ver' hr' hn)
    ·exact absurd hde (noNew1 ha2 d ver' hr' hn)
    ·exact absurd hde' (n3 d hde)
 -- the two ends are one
 have disj:∀ i,wb1 i=none∨wb2 i=none:=by
  intro i
  cases hw1:wb1 i with
  | none=>exact .inl rfl
  | some b1 =>
   cases hw2:wb2 i with
   | none=>exact .inr rfl
   | some b2 =>
    exfalso
    obtain ⟨ha1,hc1⟩:=hit1 i b1 hw1
    obtain ⟨ha2,hc2⟩:=hit2 i b2 hw2
    have two:∀ {v v'},ref p.k s=some (i,v)→ref q.k s1=some (i,v')→(cls p.k=.mw∨cls p.k=.x)→(cls q.k=.mw∨cls q.k=.x)→False:=by
     intro v v' r1 r2
     have hconf:=noconf i v v' r1 r2
     rintro (h1 | h1) (h2 | h2) <;> rw [h1,h2] at hconf <;> simp [conf] at hconf
    rcases hc1 with ⟨hcl1,⟨ver1,hr1⟩,_⟩ | ⟨hcl1,ver1,hr1⟩ | ⟨hn1,hde1,_⟩ <;> rcases hc2 with ⟨hcl2,⟨ver2,hr2⟩,_⟩ | ⟨hcl2,ver2,hr2⟩ | ⟨hn2,hde2,_⟩
    ·exact two hr1 hr2 (.inl hcl1) (.inl hcl2)
    ·exact two hr1 hr2 (.inl hcl1) (.inr hcl2)
    ·exact noNew2 ha1 i ver1 hr1 hn2 hde2
    ·exact two hr1 hr2 (.inr hcl1) (.inl hcl2)
    ·exact two hr1 hr2 (.inr hcl1) (.inr hcl2)
    ·exact noNew2 ha1 i ver1 hr1 hn2 hde2
    ·exact noNew1 ha2 i ver2 hr2 hn1 hde1
    ·exact noNew1 ha2 i ver2 hr2 hn1 hde1
    ·exact n3 i hde1 hde2
 have fin:upd p.dst v1 wb1 (upd q.dst v2 wb2 s)=s2:=by
  rw [L2.eq,hs1]
  simp only [upd,PS.mk.injEq]
  refine ⟨?_,?_⟩
  ·funext i
   by_cases e1:some i=p.dst
   ·have e2:¬ some i=q.dst:=fun e=>n3 i e1.symm e.symm
    rw [if_pos e1,if_neg e2,if_pos e1]
   ·rw [if_neg e1]
    by_cases e2:some i=q.dst
    ·rw [if_pos e2,if_pos e2]
    ·rw [if_neg e2,if_neg e2,if_neg e1]
  ·funext i
   rcases disj i with h0 | h0 <;> rw [h0]
   ·cases wb2 i <;> rfl
   ·cases wb1 i <;> rfl
 refine ⟨fun c hc e ver hr=>hcq c hc e ver (refq.trans hr),vq (fun u hu=>?_) Q⟩
 subst hu
 refine ⟨fun c hc e ver hr=>hcp c hc e ver ((XW (fun t ht=>agp t (by simp [reads,ht]))).symm.trans hr),vq (fun u hu=>?_) Pn⟩
 subst hu
 rw [fin]
 exact hK
end Go.Pl
/-
 REGIONS: in the text's order,and in whatever order. My own work.
-/
namespace Go.Pl
open Go
set_option linter.unusedVariables false
set_option linter.unusedSimpArgs false
def storeOk (p:POp):Bool:=match p.k with
 | .store _ _ _ _=>p.dst.isNone
 | _=>true
theorem wQ {p:POp} (h:storeOk p=true):(∃ n x y av,p.k=.store n x y av)→p.dst=none:=by
 rintro ⟨n,x,y,av,hk⟩
 simp only [storeOk,hk] at h
 simpa using h
section
variable {O : Nat → Prop} {A0 : Lent} {w0 w : World} {β : Bt} {s : PS} {a : Act} {P : Program}
theorem Wm {ops:Array Oper} {i:Nat} {o:Oper} {p:POp} {n:Nat} (hi:ops[i]? = some o) (hc:chkP P n ops o p=true) (hn:a.tmps.size=n) (h:Sim O w0 A0 β s (tmf a) w) {K:PS→Prop} (hw:wpG (PCallG P) p s K)
  {next:Act→World→Prop} {Q:Exit→Act→World→Prop}
  (hnext:∀ β' s' a' w',Sim O w0 A0 β' s' (tmf a') w'→a'.tmps.size=n→a'.defers=a.defers→K s'→next a' w'):wpOp P ops Q i next a w:=by
 simp only [chkP,Bool.and_eq_true,decide_eq_true_eq] at hc
 obtain ⟨⟨⟨hdst,hdn⟩,hg⟩,hk⟩:=hc
 have hd:dstOk o.dst a.tmps.size:=by
  intro d e
  rw [e] at hdn
  rw [hn]
  simpa using hdn
 have run:wpK (PCallG P) p s K→o.wp P a w next Q:=fun hw=>jmo (ops:=ops) (n:=n) hk hdst hd h hw fun β' s' v w' hS hK=>hnext β' s' _ w' hS (by rw [Vd]; exact hn) (put_defers _ _ _) hK
 have skip:K (s.putO p.dst .undef)→next (a.put o.dst undef) w:=fun hK=>hnext β _ _ w (h.putO o.dst hd .undef undef rfl) (by rw [Vd]; exact hn) (put_defers _ _ _) (by rw [hdst]; exact hK)
 unfold wpOp
 simp only [hi]
 unfold wpG at hw
 cases hog:o.guard with
 | none =>
  have hpg:p.g=none:=by
   cases hpg:p.g with
   | none=>rfl
   | some x=>rw [hog,hpg] at hg; cases hg
  rw [hpg] at hw
  have:Region.wanted o (yielded ops a.tmps)=true:=by simp [Region.wanted,hog]
  rw [if_pos this]
  exact .inl (run hw)
 | some jw =>
  obtain ⟨j,want⟩:=jw
  cases hpg:p.g with
  | none=>rw [hog,hpg] at hg; cases hg
  | some tw =>
   obtain ⟨t,want'⟩:=tw
   rw [hog,hpg] at hg
   simp only [chkG,Bool.and_eq_true,beq_iff_eq,decide_eq_true_eq] at hg
   obtain ⟨rfl,hjt⟩:=hg
   rw [hpg] at hw
   simp only at hw
   have hT:=h.temps t
   split at hw
   ·rename_i b hb
    rw [hb] at hT
    have hT:=V.bool_inv hT
    have hget:a.tmps[t]? = some (.bool b):=by
     simp only [tmf,Array.getD_eq_getD_getElem?] at hT
     cases hq:a.tmps[t]? with
     | none=>rw [hq] at hT; simp [undef] at hT
     | some v=>rw [hq] at hT; simp at hT; rw [hT]
    have hy:yielded ops a.tmps j=some b:=by simp only [yielded,hjt,Option.bind_some,hget]
    have hwa:Region.wanted o (yielded ops a.tmps)=(b == want):=by simp [Region.wanted,hog,hy]
    rw [hwa]
    by_cases hbw:b=want
    ·rw [if_pos (by simpa using hbw)]
     exact .inl (run (hw.1 hbw))
    ·rw [if_neg (by simpa using hbw)]
     exact skip (hw.2 hbw)
   ·rename_i hb
    rw [hb] at hT
    have hT:tmf a t=undef:=hT
    have hy:yielded ops a.tmps j=none:=by
     simp only [yielded,hjt,Option.bind_some]
     simp only [tmf,Array.getD_eq_getD_getElem?] at hT
     cases hq:a.tmps[t]? with
     | none=>rfl
     | some v=>rw [hq] at hT; simp at hT; subst hT; rfl
    have hwa:Region.wanted o (yielded ops a.tmps)=false:=by simp [Region.wanted,hog,hy]
    rw [hwa,if_neg (by simp)]
    exact skip hw
   ·exact hw.elim
theorem jmp {o:Oper} {next:Act→World→Prop} (h:o.wp P a w next fun _ _ _=>False):∃ a' w',next a' w':=by
 unfold Oper.wp Oper.upon at h
 split at h
 ·exact ⟨_,_,h⟩
 ·exact ⟨_,_,h⟩
 ·exact ⟨_,_,h⟩
 ·obtain ⟨e,w',fr,hR,_⟩:=h []
  cases e with
  | returned v=>exact ⟨_,_,hR⟩
  | panicked c=>exact hR.elim
  | outgrown=>exact (hR:LetsOut _).elim fun _ h=>h.elim fun _ h=>h.elim
 ·obtain ⟨v,w',hR,_⟩:=h default []
  exact ⟨_,_,hR⟩
 ·exact h.elim
 ·exact h.elim
theorem jia {ops:Array Oper} {i:Nat} {o:Oper} (hi:ops[i]? = some o) {next:Act→World→Prop} (h:wpOp P ops (fun _ _ _=>False) i next a w):∃ a' w',next a' w':=by
 unfold wpOp at h
 simp only [hi] at h
 split at h
 ·rcases h with h | ⟨_,_,_,h⟩
  ·exact jmp h
  ·exact h.elim
 ·exact ⟨_,_,h⟩
end
/-! ### In the text's order -/
def chkOps (P:Program) (n:Nat) (ops:Array Oper):List Oper→List POp→Bool
 | [],[]=>true
 | o::l,p::m=>chkP P n ops o p && chkOps P n ops l m
 | _,_=>false
theorem vP {P:Program} {n:Nat} {ops:Array Oper}:∀ {l:List Oper} {m:List POp},chkOps P n ops l m=true→l.length=m.length∧∀ (i:Nat) (h1:i < l.length) (h2:i < m.length),chkP P n ops l[i] m[i]=true
 | [],[],_=>⟨rfl,fun i h=>by simp at h⟩
 | [],_::_,h=>by cases h
 | _::_,[],h=>by cases h
 | o::l,p::m,h=>by
  simp only [chkOps,Bool.and_eq_true] at h
  obtain ⟨h1,h2⟩:=vP h.2
  refine ⟨by simp [h1],fun i hi hj=>?_⟩
  cases i with
  | zero=>exact h.1
  | succ i=>exact h2 i (by simpa using hi) (by simpa using hj)
section
variable {O : Nat → Prop} {A0 : Lent} {w0 : World} {P : Program} {ops : Array Oper} {pl : List POp} {n : Nat}
theorem jb0 (hc:chkOps P n ops ops.toList pl=true) {K:PS→Prop} {Q:Exit→Act→World→Prop} (hQ:∀ β s a w,Sim O w0 A0 β s (tmf a) w→a.tmps.size=n→a.defers=[]→K s→Q .normal a w) :
  ∀ (m k:Nat),k + m=pl.length→∀ (β:Bt) (s:PS) (a:Act) (w:World),Sim O w0 A0 β s (tmf a) w→a.tmps.size=n→a.defers=[]→wpL (PCallG P) (pl.drop k) s K→wpOps P ops Q (List.range' k m) a w
 | 0,k,hk,β,s,a,w,h,hn,hd,hw=>by
  rw [List.drop_of_length_le (by omega)] at hw
  exact hQ β s a w h hn hd hw
 | m + 1,k,hk,β,s,a,w,h,hn,hd,hw=>by
  obtain ⟨hl,hg⟩:=vP hc
  have hkl:k < pl.length:=by omega
  have hko:k < ops.toList.length:=by omega
  rw [List.drop_eq_getElem_cons hkl] at hw
  rw [List.range'_succ,wpOps_cons]
  have hi:ops[k]? = some ops.toList[k]:=by simp
  refine Wm hi (hg k hko hkl) hn h hw fun β' s' a' w' hS hn' hd' hK=>?_
  exact jb0 hc hQ m (k + 1) (by omega) β' s' a' w' hS hn' (hd'.trans hd) hK
theorem Zk (tail:List Nat) (hg:∀ (i:Nat) (h1:i < ops.size) (h2:i < pl.length),chkP P n ops ops[i] pl[i]=true) (hlen:pl.length≤ops.size) {K:PS→Prop} {Q:Exit→Act→World→Prop} (hQ:∀ β s a w,Sim O w0 A0 β s (tmf a) w→a.tmps.size=n→a.defers=[]→K s→wpOps P ops Q tail a w) :
  ∀ (m k:Nat),k + m=pl.length→∀ (β:Bt) (s:PS) (a:Act) (w:World),Sim O w0 A0 β s (tmf a) w→a.tmps.size=n→a.defers=[]→wpL (PCallG P) (pl.drop k) s K→wpOps P ops Q (List.range' k m++tail) a w
 | 0,k,hk,β,s,a,w,h,hn,hd,hw=>by
  rw [List.drop_of_length_le (by omega)] at hw
  exact hQ β s a w h hn hd hw
 | m + 1,k,hk,β,s,a,w,h,hn,hd,hw=>by
  have hkl:k < pl.length:=by omega
  have hko:k < ops.size:=by omega
  rw [List.drop_eq_getElem_cons hkl] at hw
  rw [List.range'_succ,List.cons_append,wpOps_cons]
  have hi:ops[k]? = some ops[k]:=by simp
  refine Wm hi (hg k hko hkl) hn h hw fun β' s' a' w' hS hn' hd' hK=>?_
  exact Zk tail hg hlen hQ m (k + 1) (by omega) β' s' a' w' hS hn' (hd'.trans hd) hK
def chkN (P:Program) (n:Nat) (ops:Array Oper) (l:List POp) (x:PO) (d:Nat):Bool :=
 decide (ops.size=l.length + 1) && chkOps P n ops (ops.toList.take l.length) l && match ops[l.length]? with
  | some o=>(match o.op with
   | .binOp .eql t x' (.const (.slice none 0 0)) _=>chkPO x' x && (match P.underlying t with | some (.slice _)=>true | _=>false)
   | _=>false) && decide (o.dst=some d) && decide (d < n) && o.guard.isNone
  | none=>false
theorem jfi {β:Bt} {s:PS} {a:Act} {w:World} {o:Oper} {t t':TypeId} {e:TypeId} {x:Operand} {x':PO} {d:Nat} (ho:o.op=.binOp .eql t x (.const (.slice none 0 0)) t') (ht:P.underlying t=some (.slice e)) (hx:chkPO x x'=true) (hdst:o.dst=some d) (hd:d < a.tmps.size)
  (h:Sim O w0 A0 β s (tmf a) w) {es:List (List CV)} (hes:s.evc x'=some (.sl es)) {next:Act→World→Prop} {Q:Exit→Act→World→Prop}
  (h1:es=[]→∀ a',Sim O w0 A0 β (s.put d (.c (.bool true))) (tmf a') w→a'.tmps.size=a.tmps.size→a'.defers=a.defers→next a' w)
  (h0:∀ a',Sim O w0 A0 β (s.put d (.c (.bool false))) (tmf a') w→a'.tmps.size=a.tmps.size→a'.defers=a.defers→next a' w):o.wp P a w next Q:=by
 have hV:=jX h hx hes
 have hrun:∀ (q:Option Addr) (l c:Nat),a.eval x=.slice q l c→(execOp a.eval o).run P w=.ok (.value (.bool q.isNone)) w:=by
  intro q l c hv
  unfold execOp
  simp only [ho,hv]
  have e0:a.eval (.const (.slice none 0 0))=.slice none 0 0:=rfl
  rw [e0]
  simp [eqGuard,binOp,run_equal_slice_nil w t e q l c ht,Sem.run_bind]
 have put:∀ b,Sim O w0 A0 β (s.put d (.c (.bool b))) (tmf (a.put o.dst (.bool b))) w:=fun b=>by
  rw [hdst]
  exact h.putO (some d) (fun d' e=>by cases e; exact hd) (.c (.bool b)) (.bool b) (.bool b)
 unfold Oper.wp
 generalize hc:CV.sl es=c at hV
 have fin:∀ b,(b=true→es=[])→o.upon P a next Q (.ok (.value (.bool b)) w):=by
  intro b hb
  rw [Oper.upon_value]
  cases b with
  | true=>exact h1 (hb rfl) _ (put true) (Vd _ _ _) (put_defers _ _ _)
  | false=>exact h0 _ (put false) (Vd _ _ _) (put_defers _ _ _)
 generalize hev:a.eval x=v at hV hrun
 cases hV <;> cases hc
 ·rw [hrun _ _ _ rfl]; exact fin _ (fun _=>rfl)
 ·rw [hrun _ _ _ rfl]; exact fin _ (fun _=>rfl)
 ·rw [hrun _ _ _ rfl]; exact fin _ (fun e=>by cases e)
/-! ### In whatever order -/
def okNew (p q:POp):Bool:=!(isNew p.k && isNew q.k && p.dst.isSome && decide (p.dst=q.dst))
def dmask (acc:List Nat) (o:Oper):Nat:=o.after.toList.foldl (fun m e=>if Region.binds .any e then m ||| (2 ^ e.on ||| acc.getD e.on 0) else m) 0
def masks:List Oper→List Nat→List Nat
 | [],acc=>acc
 | o::l,acc=>masks l (acc++[dmask acc o])
inductive Ahead (ops:Array Oper):Nat→Nat→Prop where
 | edge (i j:Nat) (o:Oper) (e:Edge) (ho:ops[j]? = some o) (he:e∈o.after.toList) (hb:Region.binds .any e=true) (hi:e.on=i):Ahead ops i j
 | trans (i j k:Nat) (h:Ahead ops i j) (h':Ahead ops j k):Ahead ops i k
theorem Zl {acc:List Nat} {o:Oper} {j:Nat} (ho:ops[j]? = some o) (hacc:∀ k i,(acc.getD k 0).testBit i=true→Ahead ops i k) {i:Nat} (h:(dmask acc o).testBit i=true):Ahead ops i j:=by
 unfold dmask at h
 have key:∀ (l:List Edge) (m:Nat),(∀ e∈l,e∈o.after.toList)→(l.foldl (fun m e=>if Region.binds .any e then m ||| (2 ^ e.on ||| acc.getD e.on 0) else m) m).testBit i=true→m.testBit i=true∨Ahead ops i j:=by
  intro l
  induction l with
  | nil=>intro m _ h; exact .inl h
  | cons e l ih =>
   intro m hl h
   simp only [List.foldl_cons] at h
   rcases ih _ (fun x hx=>hl x (by simp [hx])) h with h | h
   ·split at h
    ·rename_i hb
     simp only [Nat.testBit_or,Bool.or_eq_true] at h
     rcases h with h | h | h
     ·exact .inl h
     ·rw [Nat.testBit_two_pow] at h
      have:e.on=i:=by simpa using h
      exact .inr (.edge i j o e ho (hl e (by simp)) hb this)
     ·exact .inr (.trans i e.on j (hacc _ _ h) (.edge e.on j o e ho (hl e (by simp)) hb rfl))
    ·exact .inl h
   ·exact .inr h
 rcases key o.after.toList 0 (fun e he=>he) h with h | h
 ·simp at h
 ·exact h
theorem V3:∀ (l:List Oper) (acc:List Nat),(∀ k (hk:k < l.length),ops[acc.length + k]? = some l[k])→(∀ k i,(acc.getD k 0).testBit i=true→Ahead ops i k) →
  ∀ k i,((masks l acc).getD k 0).testBit i=true→Ahead ops i k
 | [],acc,_,hacc=>hacc
 | o::l,acc,hl,hacc=>by
  refine V3 l (acc++[dmask acc o]) (fun k hk=>?_) (fun k i h=>?_)
  ·have:=hl (k + 1) (by simp; omega)
   simp only [List.length_append,List.length_singleton]
   rw [show acc.length + 1 + k=acc.length + (k + 1) by omega,this]
   rfl
  ·rw [List.getD_eq_getElem?_getD] at h
   by_cases hk:k < acc.length
   ·rw [List.getElem?_append_left hk,← List.getD_eq_getElem?_getD] at h; exact hacc k i h
   ·rw [List.getElem?_append_right (by omega)] at h
    by_cases hk':k=acc.length
    ·subst hk'
     simp at h
     exact Zl (hl 0 (by simp)) hacc h
    ·rw [List.getElem?_eq_none (by simp; omega)] at h
     simp at h
def chkPairs (ms:List Nat) (pl:List POp) (on:List (Nat × Nat)):Bool :=
 (List.range pl.length).all fun j=>(List.range j).all fun i=>okNew (pl.getD i default) (pl.getD j default) && ((ms.getD j 0).testBit i || okPair (pl.getD i default) (on.lookup i) (pl.getD j default) (on.lookup j))
def edgesIn (md:Region.Mode) (o:Oper) (done:List Nat):Bool:=o.after.all fun e=>!Region.binds md e || done.contains e.on
def chkTopo (md:Region.Mode) (ops:Array Oper):List Nat→List Nat→Bool
 | [],done=>(List.range ops.size).all done.contains
 | i::l,done=>(match ops[i]? with | some o=>edgesIn md o done | none=>false) && chkTopo md ops l (i::done)
def chkDraw (P:Program) (n:Nat) (ops:Array Oper) (pl:List POp) (on:List (Nat × Nat)):Bool :=
 chkOps P n ops ops.toList pl && pl.all storeOk && chkPairs (masks ops.toList []) pl on && chkTopo .any ops (List.range ops.size) [] &&
  (!Region.departs ops || (chkTopo .text ops (List.range ops.size) [] && chkTopo .gc ops (Region.linearise .gc ops 0) []))
theorem WJ (md:Region.Mode) (listed:Array Bool) (hsz:listed.size=ops.size):∀ (l done:List Nat),chkTopo md ops l done=true→(∀ i∈done,listed.getD i false=true) →
  (∃ i,i < ops.size∧listed.getD i true=false)→Region.ready md ops listed≠[]
 | [],done,h,hd,⟨i,hi,hf⟩=>by
  simp only [chkTopo,List.all_eq_true,List.mem_range,List.contains_eq_mem,decide_eq_true_eq] at h
  have:=hd i (h i hi)
  simp [hsz,hi] at hf this
  simp_all
 | i::l,done,h,hd,hex=>by
  simp only [chkTopo,Bool.and_eq_true] at h
  obtain ⟨h1,h2⟩:=h
  by_cases hl:listed.getD i false=true
  ·refine WJ md listed hsz l (i::done) h2 (fun k hk=>?_) hex
   rcases List.mem_cons.1 hk with rfl | hk
   ·exact hl
   ·exact hd k hk
  ·intro hnil
   cases ho:ops[i]? with
   | none=>rw [ho] at h1; cases h1
   | some o =>
    rw [ho] at h1
    have hi:i < ops.size:=(Array.getElem?_eq_some_iff.1 ho).1
    have:i∈Region.ready md ops listed:=by
     unfold Region.ready
     simp only [List.mem_filter,List.mem_range,Bool.and_eq_true,Bool.not_eq_true',ho,Option.map_some,Option.getD_some]
     refine ⟨hi,?_,?_⟩
     ·have hi':i < listed.size:=by omega
      simp [hi'] at hl ⊢
      exact hl
     ·simp only [edgesIn,Array.all_eq_true_iff_forall_mem,Bool.or_eq_true] at h1 ⊢
      intro e he
      rcases h1 e he with h | h
      ·exact .inl h
      ·exact .inr (hd _ (by simpa using h))
    rw [hnil] at this
    cases this
end
end Go.Pl
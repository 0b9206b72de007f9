/- Part of the proof of ExecTells, ExecAnswers, ExecBest, ExecFirst, ExecLevels, ExecTops, ExecLimits: lemmas. -/
import Derived.Test.YtnpncbplhdnonaaGreatExecS8
import Derived.MapKept
set_option linter.unusedVariables false
set_option linter.unusedSimpArgs false
/-
 MAPS: made,looked into,written. Keys are arrays of whole numbers. My own work.
-/
namespace Go.Pl
open Go
set_option linter.unusedVariables false
structure KeyT (P:Program) (t:TypeId) (sh:List LK):Prop where
 arr:∃ n e q i,P.underlying t=some (.array n e)∧P.underlying e=some (.int q)∧P.info? e=some i∧i.size=1∧sh=List.replicate n .i
 shape:shapeOf P 50 t=some sh
 len:sh.length=P.cellsOf t
def chkKeyT (P:Program) (t:TypeId) (sh:List LK):Bool :=
 (match P.underlying t with
 | some (.array n e)=>(match P.underlying e,P.info? e with
  | some (.int _),some i=>decide (i.size=1) && decide (sh=List.replicate n .i)
  | _,_=>false)
 | _=>false) && decide (shapeOf P 50 t=some sh) && decide (sh.length=P.cellsOf t)
theorem KeyT.of_chk {P:Program} {t:TypeId} {sh:List LK} (h:chkKeyT P t sh=true):KeyT P t sh:=by
 simp only [chkKeyT,Bool.and_eq_true,decide_eq_true_eq] at h
 obtain ⟨⟨h1,h2⟩,h3⟩:=h
 split at h1 <;> (try (cases h1; done))
 split at h1 <;> (try (cases h1; done))
 simp only [Bool.and_eq_true,decide_eq_true_eq] at h1
 exact ⟨⟨_,_,_,_,‹_›,‹_›,‹_›,h1.1,h1.2⟩,h2,h3⟩
theorem VF:∀ {n:Nat} {cs ds:List CV} {r:Bool},shEq (List.replicate n .i) cs ds=some r→cs.length=n∧ds.length=n
 | 0,[],[],_,_=>⟨rfl,rfl⟩
 | 0,[],_::_,_,h=>by cases h
 | 0,_::_,_,_,h=>by cases h
 | n + 1,[],_,_,h=>by cases h
 | n + 1,c::cs,[],_,h=>by cases c <;> cases h
 | n + 1,c::cs,d::ds,r,h=>by
  cases c <;> cases d <;> simp only [List.replicate_succ,shEq] at h <;> (try (cases h; done))
  split at h
  ·simp only [Option.map_eq_some_iff] at h
   obtain ⟨r',h,_⟩:=h
   obtain ⟨h1,h2⟩:=VF h
   exact ⟨by simp [h1],by simp [h2]⟩
  ·cases h
theorem Wl:∀ {n:Nat} {cs ds:List CV},shEq (List.replicate n .i) cs ds=some true→cs=ds∧∀ c∈cs,∃ k a,c=.int k a
 | 0,[],[],_=>⟨rfl,by simp⟩
 | 0,[],_::_,h=>by cases h
 | 0,_::_,_,h=>by cases h
 | n + 1,[],_,h=>by cases h
 | n + 1,c::cs,[],h=>by cases c <;> cases h
 | n + 1,c::cs,d::ds,h=>by
  cases c <;> cases d <;> simp only [List.replicate_succ,shEq] at h <;> (try (cases h; done))
  split at h
  ·rename_i hk
   simp only [Option.map_eq_some_iff,Bool.and_eq_true,beq_iff_eq] at h
   obtain ⟨r',h,h1,h2⟩:=h
   subst h2
   obtain ⟨h3,h4⟩:=Wl h
   exact ⟨by rw [hk,h1,h3],fun c hc=>by
    rcases List.mem_cons.1 hc with rfl | hc
    ·exact ⟨_,_,rfl⟩
    ·exact h4 c hc⟩
  ·cases h
section
variable {O : Nat → Prop} {A0 : Lent} {w0 w : World} {β : Bt} {s : PS} {a : Act} {P : Program}
theorem wu {N:Nat→Prop} {v:Value} {cs:List CV} (h:V w N v (.agg cs)):∃ vs:Array Value,v=.agg vs∧Reads w N vs cs:=by
 generalize hc:CV.agg cs=c at h
 cases h <;> cases hc
 exact ⟨_,rfl,‹_›,‹_›⟩
theorem Yy {t:TypeId} {sh:List LK} (hK:KeyT P t sh) {N:Nat→Prop} {u v:Value} {c d:CV} (hu:V w N u c) (hv:V w N v d) {r:Bool} (hr:eqC true sh c d=some r):(Op.equal t u v).run P w=.ok r w:=by
 obtain ⟨n,e,q,i,hut,hue,hi,h1,hsh⟩:=hK.arr
 cases c <;> cases d <;> simp only [eqC] at hr <;> (try (cases hr; done))
 rename_i cs ds
 obtain ⟨xs,rfl,hx⟩:=wu hu
 obtain ⟨ys,rfl,hy⟩:=wu hv
 have hl:cs.length=sh.length∧ds.length=sh.length:=by
  have:=VF (hsh ▸ hr); rw [hsh]; simpa using this
 have hlen:=hK.len
 have hxl:=hx.len
 have hyl:=hy.len
 obtain ⟨u',v',hu',hv',he⟩:=jbv (P:=P) (w:=w) (N:=N) 50 t sh hK.shape hK.len 10000 (by decide) xs ys cs ds 0 r hx hy (by omega) (by omega) (by
   rw [List.drop_zero,List.drop_zero,List.take_of_length_le (by omega),List.take_of_length_le (by omega)]; exact hr)
 obtain ⟨it,hit⟩:=info_of_underlying hut
 rw [vO hut rfl hit] at hu' hv'
 have hcx:xs.extract 0 (0 + P.cellsOf t)=xs:=by rw [← hlen]; apply Array.ext <;> simp; omega
 have hcy:ys.extract 0 (0 + P.cellsOf t)=ys:=by rw [← hlen]; apply Array.ext <;> simp; omega
 rw [hcx] at hu'
 rw [hcy] at hv'
 cases hu'
 cases hv'
 exact he
theorem XU {t:TypeId} {sh:List LK} (hK:KeyT P t sh) {N:Nat→Prop} {u:Value} {c:CV} (hu:V w N u c) (hr:eqC true sh c c=some true) (em:Bool):(Instr.checkKey em 10000 t u).run P w=.ok () w:=by
 obtain ⟨n,e,q,i,hut,hue,hi,h1,hsh⟩:=hK.arr
 cases c <;> simp only [eqC] at hr <;> (try (cases hr; done))
 rename_i cs
 obtain ⟨xs,rfl,hx⟩:=wu hu
 have hl:cs.length=n:=(VF (hsh ▸ hr)).1
 have hxl:xs.size=n:=by have:=hx.len; omega
 rw [show (10000:Nat)=9999 + 1 from rfl,Instr.checkKey]
 simp only [Sem.run_bind,run_underlying hut,Result.andThen_ok]
 simp only [Std.Legacy.Range.forIn_eq_forIn_range',Std.Legacy.Range.size,Nat.sub_zero,Nat.add_one_sub_one,Nat.div_one]
 have each:∀ j∈List.range' 0 n,j < xs.size:=fun j hj=>by simp at hj; omega
 generalize List.range' 0 n=is at each
 induction is with
 | nil=>simp
 | cons j is ih =>
  have hj:=each j (by simp)
  have p1:(part e xs (j * 1)).run P w=.ok xs[j] w:=by rw [Nat.mul_one]; exact wq hue rfl hj
  have p2:(Instr.checkKey em 9999 e xs[j]).run P w=.ok () w:=by
   rw [show (9999:Nat)=9998 + 1 from rfl,Instr.checkKey]
   simp [Sem.run_bind,run_underlying hue]
  have hs:(sizeOf e).run P w=.ok 1 w:=by
   simp [sizeOf,typeInfo,Sem.run_bind,hi,h1]
  simp only [List.forIn_cons,Sem.run_bind,hs,Result.andThen_ok,p1,p2,Sem.run_pure]
  exact ih (fun y hy=>each y (by simp [hy]))
def EntR (w:World) (N:Nat→Prop) {α:Type} (Rv:Value→α→Prop) (arr:List MapEntry) (es:List (CV × α)):Prop :=
 arr.length=es.length∧∀ (i:Nat) (h1:i < arr.length) (h2:i < es.length),V w N arr[i].key es[i].1∧Rv arr[i].val es[i].2
theorem EntR.tail {N:Nat→Prop} {α:Type} {Rv:Value→α→Prop} {x:MapEntry} {arr:List MapEntry} {p:CV × α} {es:List (CV × α)} (h:EntR w N Rv (x::arr) (p::es)):V w N x.key p.1∧Rv x.val p.2∧EntR w N Rv arr es :=
 ⟨(h.2 0 (by simp) (by simp)).1,(h.2 0 (by simp) (by simp)).2,by simpa using h.1,fun i h1 h2=>by have:=h.2 (i + 1) (by simpa using h1) (by simpa using h2); simpa using this⟩
theorem Zi {t:TypeId} {sh:List LK} (hK:KeyT P t sh) {N:Nat→Prop} {α:Type} {Rv:Value→α→Prop} {u:Value} {c:CV} (hu:V w N u c):∀ {arr:List MapEntry} {es:List (CV × α)} (k:Nat) {r:Option α},EntR w N Rv arr es→mfind sh c es=some r →
  (r=none∧(Instr.findAsking t u arr k).run P w=.ok none w)∨∃ j x y,r=some y∧arr[j]? = some x∧Rv x.val y∧(Instr.findAsking t u arr k).run P w=.ok (some (k + j,x.val)) w∧V w N x.key c
 | [],[],k,r,_,h=>by
  simp only [mfind,Option.some.injEq] at h
  exact .inl ⟨h.symm,by simp [Instr.findAsking]⟩
 | [],_::_,k,r,hE,_=>by have:=hE.1; simp at this
 | _::_,[],k,r,hE,_=>by have:=hE.1; simp at this
 | x::arr,(k',v')::es,k,r,hE,h=>by
  obtain ⟨h1,h2,h3⟩:=hE.tail
  simp only [mfind] at h
  split at h
  ·rename_i he
   obtain rfl:=Option.some.inj h
   have hrun:=Yy hK hu h1 he
   obtain ⟨n,e,q,i,_,_,_,_,hsh⟩:=hK.arr
   have hck:c=k':=by
    cases c <;> cases k' <;> simp only [eqC] at he <;> (try (cases he; done))
    have:=(Wl (hsh ▸ he)).1
    rw [this]
   exact .inr ⟨0,x,v',rfl,rfl,h2,by simp [Instr.findAsking,Sem.run_bind,hrun],by rw [hck]; exact h1⟩
  ·rename_i he
   have hrun:=Yy hK hu h1 he
   rcases Zi hK hu (k + 1) h3 h with ⟨hr,hf⟩ | ⟨j,x',y,hr,hj,hy,hf,hk⟩
   ·exact .inl ⟨hr,by simp [Instr.findAsking,Sem.run_bind,hrun,hf]⟩
   ·exact .inr ⟨j + 1,x',y,hr,by simpa using hj,hy,by simp [Instr.findAsking,Sem.run_bind,hrun,hf]; omega,hk⟩
  ·cases h
theorem Zj {t:TypeId} {sh:List LK} (hK:KeyT P t sh) {N:Nat→Prop} {α:Type} {Rv:Value→α→Prop} {u:Value} {c:CV} (hu:V w N u c) {arr:List MapEntry} {es:List (CV × α)} {r:Option α} (hE:EntR w N Rv arr es) (h:mfind sh c es=some r) :
  (r=none∧(Instr.findKey t u arr).run P w=.ok none w)∨∃ j x y,r=some y∧arr[j]? = some x∧Rv x.val y∧(Instr.findKey t u arr).run P w=.ok (some (j,x.val)) w∧V w N x.key c:=by
 obtain ⟨n,e,q,i,hut,_⟩:=hK.arr
 have hnow:(Instr.findKey t u arr).run P w=(Instr.findAsking t u arr 0).run P w:=by
  unfold Instr.findKey
  simp only [Sem.run_bind,run_underlying hut,Result.andThen_ok]
  cases arr with
  | nil=>simp [Instr.findNow,Instr.findAsking]
  | cons x l=>simp [Instr.findNow,Instr.sameNow]
 rw [hnow]
 rcases Zi hK hu 0 hE h with h | ⟨j,x,y,h1,h2,h3,h4,h5⟩
 ·exact .inl h
 ·exact .inr ⟨j,x,y,h1,h2,h3,by simpa using h4,h5⟩
theorem WH {mt kt et:TypeId} {sh:List LK} (hm:P.underlying mt=some (.map kt et)) (hK:KeyT P kt sh) {N:Nat→Prop} {α:Type} {Rv:Value→α→Prop} {b:Nat} {arr:Array MapEntry} {clock:Nat} (hb:w.heap[b]? = some (.map arr clock))
  {u:Value} {c:CV} (hu:V w N u c) (hc:eqC true sh c c=some true) {es:List (CV × α)} (hE:EntR w N Rv arr.toList es) {r:Option α} (h:mfind sh c es=some r) {zi:TypeInfo} {zv:Value} (hz:P.info? et=some zi) (hzv:zi.zero=some zv) (ok:Bool) :
  (r=none∧(Instr.lookup mt (.map (some b)) u ok).run P w=.ok (if ok then .tuple #[zv,.bool false] else zv) w) ∨
  ∃ x y,r=some y∧Rv x y∧(Instr.lookup mt (.map (some b)) u ok).run P w=.ok (if ok then .tuple #[x,.bool true] else x) w:=by
 have hck:=XU hK hu hc arr.isEmpty
 rcases Zj hK hu hE h with ⟨hr,hf⟩ | ⟨j,x,y,hr,hj,hy,hf,_⟩
 ·refine .inl ⟨hr,?_⟩
  unfold Instr.lookup
  simp only [Sem.run_bind,run_underlying hm,Result.andThen_ok,MapKept.run_getObj_map hb,Sem.run_pure,hck,hf,zeroValue,typeInfo,program,Sem.run,hz,hzv]
 ·refine .inr ⟨x.val,y,hr,hy,?_⟩
  unfold Instr.lookup
  simp only [Sem.run_bind,run_underlying hm,Result.andThen_ok,MapKept.run_getObj_map hb,Sem.run_pure,hck,hf]
def chkZ (zv:Value) (z:CV):Bool :=
 match zv,z with
 | .agg vs,.agg cs=>chkL vs.toList cs
 | v,c=>chkL [v] [c]
theorem jlk {N:Nat→Prop} {zv:Value} {z:CV} (h:chkZ zv z=true):V w N zv z:=by
 have one:chkL [zv] [z]=true→V w N zv z:=fun h=>by
  obtain ⟨_,_,hV⟩:=JQ (w:=w) (N:=N) h
  exact hV 0 (by simp) (by simp)
 unfold chkZ at h
 split at h
 ·rename_i vs cs
  obtain ⟨hl,h1,hV⟩:=JQ (w:=w) (N:=N) h
  exact .agg vs cs (by simpa using hl) h1 (fun i h1 h2=>by have:=hV i (by simpa using h1) h2; simpa using this)
 ·exact one h
theorem jll {o:Oper} {t:TypeId} {d:Nat} (ho:o.op=.makeMap t none) (h:Sim O w0 A0 β s (tmf a) w) (hdst:o.dst=some d) (hd:d < a.tmps.size) {s':PS} (hs:pstep o.dst s .mkm=some s'):Does P o O A0 w0 a w s':=by
 simp only [pstep,hdst] at hs
 obtain rfl:=Option.some.inj hs
 have hsize:(w.alloc (.map #[] 0)).heap.size=w.heap.size + 1:=Array.size_push _
 have hk:∀ b,b < w.heap.size→(w.alloc (.map #[] 0)).heap[b]? = w.heap[b]?:=fun b hb=>by
  show (w.heap.push _)[b]? = _; rw [Array.getElem?_push,if_neg (by omega)]
 have hnew:(w.alloc (.map #[] 0)).heap[w.heap.size]? = some (.map #[] 0):=by show (w.heap.push _)[w.heap.size]? = _; simp
 refine ⟨.value (.map (some w.heap.size)),_,w.alloc (.map #[] 0),fun i=>if i=d then some (w.heap.size,0) else β i,?_,.inl rfl,?_⟩
 ·have hmm:(Instr.makeMap t none).run P w=.ok (.map (some w.heap.size)) (w.alloc (.map #[] 0)):=rfl
  unfold execOp
  simp only [ho,Option.map_none,hmm,Sem.run_bind,Result.andThen_ok,Sem.run_pure]
 ·rw [hdst]
  have:=h.change (w':=w.alloc (.map #[] 0)) d (some (w.heap.size,0)) ⟨(s.bx d).ver + 1,.mp []⟩ rfl rfl rfl (by omega) (fun b hb _=>hk b hb) (.inl (Nat.lt_succ_self _))
   (fun p _ hp=>by simp only [Option.some.injEq] at hp; subst hp; exact .inr ⟨Nat.le_refl _,by show w.heap.size < _; omega⟩) trivial
   (fun hext hcomp=>⟨fun ps hps=>(by cases hps),fun es hes=>by
    cases hes
    exact ⟨w.heap.size,rfl,#[],0,hnew,by simp,by simp,rfl,fun i h1=>by simp at h1,fun i h1=>by simp at h1,by simp⟩⟩)
  rw [vf _ hd]
  exact this.put d _ _ ⟨⟨by simp [PS.box],rfl⟩,fun _ _=>⟨w.heap.size,by simp,rfl⟩⟩
theorem jfc {N:Nat→Prop} {bx:Nat→Box} {b:Nat} {es:List (CV × PV)} (h:MapB w N β bx b es):∃ arr clock,w.heap[b]? = some (.map arr clock)∧EntR w N (R w N β bx) arr.toList es:=by
 obtain ⟨arr,clock,h1,h2,h3,h4,h5,h6,h7⟩:=h
 exact ⟨arr,clock,h1,by simpa using h4,fun i hi hj=>⟨by have:=h5 i (by simpa using hi) hj; simpa using this,by have:=h6 i (by simpa using hi) hj; simpa using this⟩⟩
theorem jh4 {N:Nat→Prop} {v:Value} {es:List (CV × CV)} (h:V w N v (.map es)):∃ b arr clock,v=.map (some b)∧w.heap[b]? = some (.map arr clock)∧EntR w N (V w N) arr.toList es:=by
 generalize hc:CV.map es=c at h
 cases h <;> cases hc
 rename_i b arr clock hb hN hr hc hd hl hk hv
 exact ⟨b,arr,clock,rfl,hr,by simpa using hl,fun i hi hj=>⟨by have:=hk i (by simpa using hi) hj; simpa using this,by have:=hv i (by simpa using hi) hj; simpa using this⟩⟩
theorem jh5 {o:Oper} {mt kt et:TypeId} {x k:Operand} {x' k':PO} {ok:Bool} {sh:List LK} {z:CV} {zi:TypeInfo} {zv:Value} (ho:o.op=.lookup mt x k ok) (h:Sim O w0 A0 β s (tmf a) w) (hd:dstOk o.dst a.tmps.size)
  (hx:chkPO x x'=true) (hk:chkPO k k'=true) (hm:P.underlying mt=some (.map kt et)) (hK:KeyT P kt sh) (hz:P.info? et=some zi) (hzv:zi.zero=some zv) (hzc:chkZ zv z=true) {s':PS} (hs:pstep o.dst s (.mget ok sh z x' k')=some s'):Does P o O A0 w0 a w s':=by
 have hzV:V w (Nn O β s.bx) zv z:=jlk hzc
 have hR:=vW h hx
 have tup:∀ {v:Value} {c:CV} (q:Bool),V w (Nn O β s.bx) v c→V w (Nn O β s.bx) (.tuple #[v,.bool q]) (.tup [c,.bool q]):=fun q hv=>by
  refine .tup _ _ rfl fun i h1 h2=>?_
  match i,h1 with
  | 0,_=>exact hv
  | 1,_=>exact .bool q
 simp only [pstep] at hs
 split at hs
 ·rename_i d ver kc hxe hke
  rw [hxe] at hR
  have hkV:=jX h hk hke
  split at hs
  ·rename_i u es hb
   split at hs
   ·rename_i hc
    obtain ⟨rfl,hc⟩:=hc
    split at hs
    ·rename_i r hf
     cases hmr:mres ok z r with
     | none=>rw [hmr] at hs; cases hs
     | some pv =>
      rw [hmr] at hs
      obtain rfl:=Option.some.inj hs
      obtain ⟨b,hβ,hv⟩:=hR.2 (by rw [hb]) (by rw [hb]; rfl)
      obtain ⟨b',hβ',hB⟩:=h.mps d es (by rw [hb])
      rw [hβ] at hβ'
      obtain ⟨rfl,_⟩:=Prod.mk.inj (Option.some.inj hβ')
      obtain ⟨arr,clock,hheap,hE⟩:=jfc hB
      have fin:∀ v,(Instr.lookup mt (.map (some b)) (a.eval k) ok).run P w=.ok v w→R w (Nn O β s.bx) β s.bx v pv→Does P o O A0 w0 a w (s.putO o.dst pv):=fun v hrun hRv=>by
       refine Does.val h hd (v:=v) ?_ hRv
       unfold execOp
       simp only [ho,hv,Sem.run_bind,hrun,Result.andThen_ok,Sem.run_pure]
      rcases WH hm hK hheap hkV hc hE hf hz hzv ok with ⟨rfl,hrun⟩ | ⟨y,q,rfl,hy,hrun⟩
      ·refine fin _ hrun ?_
       simp only [mres,Option.some.injEq] at hmr
       subst hmr
       cases ok
       ·exact hzV
       ·exact tup false hzV
      ·refine fin _ hrun ?_
       cases ok
       ·simp only [mres,Bool.false_eq_true,if_false,Option.some.injEq] at hmr
        subst hmr
        exact hy
       ·simp only [mres,if_true] at hmr
        split at hmr
        ·obtain rfl:=Option.some.inj hmr
         exact tup true hy
        ·cases hmr
    ·cases hs
   ·cases hs
  ·cases hs
 ·rename_i es kc hxe hke
  rw [hxe] at hR
  have hkV:=jX h hk hke
  split at hs
  ·rename_i hc
   split at hs
   ·rename_i r hf
    cases hmr:mres ok z (r.map .c) with
    | none=>rw [hmr] at hs; cases hs
    | some pv =>
     rw [hmr] at hs
     obtain rfl:=Option.some.inj hs
     obtain ⟨b,arr,clock,hv,hheap,hE⟩:=jh4 hR
     have fin:∀ v,(Instr.lookup mt (.map (some b)) (a.eval k) ok).run P w=.ok v w→R w (Nn O β s.bx) β s.bx v pv→Does P o O A0 w0 a w (s.putO o.dst pv):=fun v hrun hRv=>by
      refine Does.val h hd (v:=v) ?_ hRv
      unfold execOp
      simp only [ho,hv,Sem.run_bind,hrun,Result.andThen_ok,Sem.run_pure]
     rcases WH hm hK hheap hkV hc hE hf hz hzv ok with ⟨rfl,hrun⟩ | ⟨y,q,rfl,hy,hrun⟩
     ·refine fin _ hrun ?_
      simp only [mres,Option.map_none,Option.some.injEq] at hmr
      subst hmr
      cases ok
      ·exact hzV
      ·exact tup false hzV
     ·refine fin _ hrun ?_
      cases ok
      ·simp only [mres,Option.map_some,Bool.false_eq_true,if_false,Option.some.injEq] at hmr
       subst hmr
       exact hy
      ·simp only [mres,Option.map_some,if_true,Option.some.injEq] at hmr
       subst hmr
       exact tup true hy
   ·cases hs
  ·cases hs
 ·cases hs
theorem jby {t:TypeId} {sh:List LK} (hK:KeyT P t sh) {N:Nat→Prop} {α:Type} {Rv:Value→α→Prop} {u:Value} {c:CV} (hu:V w N u c) (y:α):∀ {arr:List MapEntry} {es:List (CV × α)} (k:Nat) {es':List (CV × α)},EntR w N Rv arr es→mset sh c y es=some es' →
  (es'=es++[(c,y)]∧(Instr.findAsking t u arr k).run P w=.ok none w)∨∃ j x,arr[j]? = some x∧es'=es.set j (c,y)∧(Instr.findAsking t u arr k).run P w=.ok (some (k + j,x.val)) w∧V w N x.key c∧eqC true sh c c=some true
 | [],[],k,es',_,h=>by
  simp only [mset,Option.some.injEq] at h
  exact .inl ⟨h.symm,by simp [Instr.findAsking]⟩
 | [],_::_,k,r,hE,_=>by have:=hE.1; simp at this
 | _::_,[],k,r,hE,_=>by have:=hE.1; simp at this
 | x::arr,(k',v')::es,k,es',hE,h=>by
  obtain ⟨h1,h2,h3⟩:=hE.tail
  simp only [mset] at h
  split at h
  ·rename_i he
   obtain rfl:=Option.some.inj h
   have hrun:=Yy hK hu h1 he
   obtain ⟨n,e,q,i,_,_,_,_,hsh⟩:=hK.arr
   have hck:c=k':=by
    cases c <;> cases k' <;> simp only [eqC] at he <;> (try (cases he; done))
    have:=(Wl (hsh ▸ he)).1
    rw [this]
   exact .inr ⟨0,x,rfl,rfl,by simp [Instr.findAsking,Sem.run_bind,hrun],by rw [hck]; exact h1,by rw [← hck] at he; exact he⟩
  ·rename_i he
   have hrun:=Yy hK hu h1 he
   simp only [Option.map_eq_some_iff] at h
   obtain ⟨es2,h,rfl⟩:=h
   rcases jby hK hu y (k + 1) h3 h with ⟨hr,hf⟩ | ⟨j,x',hj,hr,hf,hk⟩
   ·exact .inl ⟨by rw [hr]; rfl,by simp [Instr.findAsking,Sem.run_bind,hrun,hf]⟩
   ·exact .inr ⟨j + 1,x',by simpa using hj,by rw [hr]; rfl,by simp [Instr.findAsking,Sem.run_bind,hrun,hf]; omega,hk⟩
  ·cases h
theorem jdf {t:TypeId} {sh:List LK} (hK:KeyT P t sh) {N:Nat→Prop} {u v:Value} {c:CV} (hu:V w N u c) (hv:V w N v c) (hc:eqC true sh c c=some true):Instr.sameBits 10000 u v=true:=by
 obtain ⟨n,e,q,i,_,_,_,_,hsh⟩:=hK.arr
 cases c <;> simp only [eqC] at hc <;> (try (cases hc; done))
 rename_i cs
 obtain ⟨xs,rfl,hx⟩:=wu hu
 obtain ⟨ys,rfl,hy⟩:=wu hv
 have hi:=(Wl (hsh ▸ hc)).2
 have hl:xs.size=ys.size:=by have:=hx.len; have:=hy.len; omega
 rw [show (10000:Nat)=9999 + 1 from rfl,Instr.sameBits]
 simp only [hl,beq_self_eq_true,Bool.true_and,List.all_eq_true]
 rintro ⟨p,q⟩ hpq
 obtain ⟨j,hj,he⟩:=List.getElem_of_mem hpq
 have hj':j < xs.size∧j < ys.size:=by simp at hj; omega
 have hjc:j < cs.length:=by have:=hx.len; omega
 simp only [List.getElem_zip,Array.getElem_toList,Prod.mk.injEq] at he
 have h1:=hx.get j hj'.1 hjc
 have h2:=hy.get j hj'.2 hjc
 obtain ⟨kk,n',hcj⟩:=hi cs[j] (List.getElem_mem hjc)
 rw [hcj] at h1 h2
 rw [← he.1,← he.2,V.int_inv h1,V.int_inv h2]
 simp [Instr.sameBits]
theorem jbz {o:Oper} {mt kt et:TypeId} {x k y:Operand} {x' k' y':PO} {sh:List LK} (ho:o.op=.mapUpdate mt x k y∨o.op=.insert mt x k y) (h:Sim O w0 A0 β s (tmf a) w)
  (hx:chkPO x x'=true) (hk:chkPO k k'=true) (hy:chkPO y y'=true) (hm:P.underlying mt=some (.map kt et)) (hK:KeyT P kt sh) {s':PS} (hs:pstep o.dst s (.mput sh x' k' y')=some s'):Does P o O A0 w0 a w s':=by
 have hR:=vW h hx
 have hRy:=vW h hy
 simp only [pstep] at hs
 split at hs
 ·rename_i d ver kc hdst hxe hke
  rw [hxe] at hR
  have hkV:=jX h hk hke
  split at hs
  ·rename_i u es hb
   split at hs
   ·rename_i hc
    obtain ⟨rfl,hc,hmv⟩:=hc
    split at hs
    ·rename_i es' hf
     obtain rfl:=Option.some.inj hs
     obtain ⟨b,hβ,hv⟩:=hR.2 (by rw [hb]) (by rw [hb]; rfl)
     obtain ⟨b',hβ',hB⟩:=h.mps d es (by rw [hb])
     rw [hβ] at hβ'
     obtain ⟨rfl,_⟩:=Prod.mk.inj (Option.some.inj hβ')
     obtain ⟨arr,clock,hheap,hcl,hbn,hl,h5,h6,h7⟩:=hB
     have hE:EntR w (Nn O β s.bx) (R w (Nn O β s.bx) β s.bx) arr.toList es:=⟨by simpa using hl,fun i hi hj=>⟨by have:=h5 i (by simpa using hi) hj; simpa using this,by have:=h6 i (by simpa using hi) hj; simpa using this⟩⟩
     have hown:(s.bx d).st.owned=true:=by rw [hb]; rfl
     have hblt:b < w.heap.size:=(Array.getElem?_eq_some_iff.1 hheap).1
     have hck:=XU hK hkV hc false
     -- the world behind it
     have fin:∀ (arr':Array MapEntry) (clock':Nat),(Instr.mapUpdate mt (.map (some b)) (a.eval k) (a.eval y)).run P w=.ok () { w with heap:=w.heap.setIfInBounds b (.map arr' clock') } →
       (∀ e∈arr'.toList,e.born < clock')→(arr'.toList.Pairwise fun e f=>e.born≠f.born)→arr'.size=es'.length →
       (∀ (i:Nat) (h1:i < arr'.size) (h2:i < es'.length),V w (Nn O β s.bx) arr'[i].key es'[i].1)→(∀ (i:Nat) (h1:i < arr'.size) (h2:i < es'.length),R w (Nn O β s.bx) β s.bx arr'[i].val es'[i].2)→(∀ p∈es',p.2.mval=true) →
       Does P o O A0 w0 a w (s.box d ⟨u,.mp es'⟩):=by
      intro arr' clock' hrun g1 g2 g3 g4 g5 g6
      have hch:=h.change (w':={ w with heap:=w.heap.setIfInBounds b (.map arr' clock') }) d (β d) ⟨u,.mp es'⟩ rfl rfl rfl (by simp)
       (fun c hc hne=>by
        have:c≠b:=hne _ hown hβ
        simp only [Array.getElem?_setIfInBounds]
        rw [if_neg (Ne.symm this)])
       (.inr ⟨by rw [hb],.inr ⟨rfl,(by rw [hb]; rfl),fun sz es hs=>(by cases hs)⟩⟩)
       (fun p _ hp=>.inl ⟨hown,p,hp,rfl⟩) trivial
       (fun hext hcomp=>⟨fun ps hps=>(by cases hps),fun es2 hes=>by
        cases hes
        refine ⟨b,hβ,arr',clock',?_,g1,g2,g3,fun i h1 h2=>(g4 i h1 h2).ext hext,fun i h1 h2=>(g5 i h1 h2).change hext hcomp,g6⟩
        simp only [Array.getElem?_setIfInBounds,if_pos hblt,if_true]⟩)
      have e0:(fun i=>if i=d then β d else β i)=β:=by funext i; split <;> simp_all
      rw [e0] at hch
      refine Does.skip hdst ?_ hch
      unfold execOp
      rcases ho with ho | ho <;> simp only [ho,hv,Sem.run_bind,hrun,Result.andThen_ok,Sem.run_pure]
     obtain ⟨n,e,q,i,hut,_⟩:=hK.arr
     have hnow:(Instr.findKey kt (a.eval k) arr.toList).run P w=(Instr.findAsking kt (a.eval k) arr.toList 0).run P w:=by
      unfold Instr.findKey
      simp only [Sem.run_bind,run_underlying hut,Result.andThen_ok]
      cases arr.toList with
      | nil=>simp [Instr.findNow,Instr.findAsking]
      | cons x l=>simp [Instr.findNow,Instr.sameNow]
     rcases jby hK hkV (s.ev y') 0 hE hf with ⟨he,hrun⟩ | ⟨j,xx,hj,he,hrun,hkx,_⟩
     ·subst he
      refine fin (arr.push { key:=a.eval k,val:=a.eval y,born:=clock }) (clock + 1) ?_ ?_ ?_ (by simp [hl]) ?_ ?_ ?_
      ·unfold Instr.mapUpdate
       simp only [Sem.run_bind,run_underlying hm,Result.andThen_ok,MapKept.run_getObj_map hheap,hck,hnow,hrun,MapKept.run_setObj_map _ hheap]
      ·intro e he
       simp only [Array.toList_push,List.mem_append,List.mem_singleton] at he
       rcases he with he | rfl
       ·have:=hcl e he; omega
       ·exact Nat.lt_succ_self _
      ·simp only [Array.toList_push,List.pairwise_append,List.pairwise_cons,List.mem_singleton]
       exact ⟨hbn,⟨by simp,List.Pairwise.nil⟩,fun e he f hf=>by subst hf; have:=hcl e he; simp; omega⟩
      ·intro i h1 h2
       by_cases hi:i < arr.size
       ·have e1:(arr.push { key:=a.eval k,val:=a.eval y,born:=clock })[i]=arr[i]:=Array.getElem_push_lt hi
        have e2:(es++[(kc,s.ev y')])[i]=es[i]'(by omega):=List.getElem_append_left (by omega)
        rw [e1,e2]; exact h5 i hi (by omega)
       ·obtain rfl:i=arr.size:=by simp at h1; omega
        have e2:(es++[(kc,s.ev y')])[arr.size]=(kc,s.ev y'):=by simp [hl]
        rw [e2]; simpa using hkV
      ·intro i h1 h2
       by_cases hi:i < arr.size
       ·have e1:(arr.push { key:=a.eval k,val:=a.eval y,born:=clock })[i]=arr[i]:=Array.getElem_push_lt hi
        have e2:(es++[(kc,s.ev y')])[i]=es[i]'(by omega):=List.getElem_append_left (by omega)
        rw [e1,e2]; exact h6 i hi (by omega)
       ·obtain rfl:i=arr.size:=by simp at h1; omega
        have e2:(es++[(kc,s.ev y')])[arr.size]=(kc,s.ev y'):=by simp [hl]
        rw [e2]; simpa using hRy
      ·intro p hp
       rcases List.mem_append.1 hp with hp | hp
       ·exact h7 p hp
       ·cases List.mem_singleton.1 hp; exact hmv
     ·subst he
      have hjs:j < arr.size:=by have:=(List.getElem?_eq_some_iff.1 hj).1; simpa using this
      have hjx:arr[j]? = some xx:=by simpa using hj
      have hst:Instr.keyThatStays (((arr[j]?).map (·.key)).getD (a.eval k)) (a.eval k)=pure (a.eval k):=by
       rw [hjx]
       unfold Instr.keyThatStays
       simp only [Option.map_some,Option.getD_some]
       rw [if_pos (jdf hK hkx hkV hc)]
      refine fin (arr.modify j fun e=>{ e with key:=a.eval k,val:=a.eval y }) clock ?_ ?_ ?_ (by simp [hl]) ?_ ?_ ?_
      ·unfold Instr.mapUpdate
       simp only [Sem.run_bind,run_underlying hm,Result.andThen_ok,MapKept.run_getObj_map hheap,hck,hnow,hrun,Nat.zero_add,hst,Sem.run_pure,MapKept.run_setObj_map _ hheap]
      ·intro e he
       obtain ⟨m,hm',rfl⟩:=List.getElem_of_mem he
       have hm'':m < arr.size:=by simpa using hm'
       simp only [Array.getElem_toList,Array.getElem_modify]
       have:=hcl arr[m] (by simp)
       split <;> exact this
      ·rw [List.pairwise_iff_getElem] at hbn ⊢
       intro m n hm' hn' hmn
       have hm'':m < arr.size:=by simpa using hm'
       have hn'':n < arr.size:=by simpa using hn'
       have:=hbn m n (by simpa using hm'') (by simpa using hn'') hmn
       simp only [Array.getElem_toList,Array.getElem_modify] at this ⊢
       split <;> split <;> exact this
      ·intro i h1 h2
       have hi:i < arr.size:=by simpa using h1
       simp only [Array.getElem_modify,List.getElem_set]
       by_cases hji:j=i
       ·rw [if_pos hji,if_pos hji]; exact hkV
       ·rw [if_neg hji,if_neg hji]; exact h5 i hi (by omega)
      ·intro i h1 h2
       have hi:i < arr.size:=by simpa using h1
       simp only [Array.getElem_modify,List.getElem_set]
       by_cases hji:j=i
       ·rw [if_pos hji,if_pos hji]; exact hRy
       ·rw [if_neg hji,if_neg hji]; exact h6 i hi (by omega)
      ·intro p hp
       rcases List.mem_or_eq_of_mem_set hp with hp | rfl
       ·exact h7 p hp
       ·exact hmv
    ·cases hs
   ·cases hs
  ·cases hs
 ·cases hs
/-! ### A map that is not written any more -/
theorem Va:∀ (l:List Nat) (s:PS) (d:Nat),(s.kills l).bx d=if d∈l then ⟨(s.bx d).ver,.dead⟩ else s.bx d
 | [],s,d=>by simp [PS.kills]
 | e::l,s,d=>by
  simp only [PS.kills]
  rw [Va l]
  by_cases h:d∈l
  ·simp only [h,if_true,List.mem_cons,or_true,PS.box]
   split
   ·rename_i h2; rw [h2]
   ·rfl
  ·by_cases h2:d=e
   ·subst h2; simp [h,PS.box]
   ·simp [h,h2,PS.box]
theorem killsAll:∀ (l:List Nat) {s:PS} {tm:Nat→Value},Sim O w0 A0 β s tm w→Sim O w0 A0 β (s.kills l) tm w
 | [],_,_,h=>h
 | d::l,_,_,h=>killsAll l (h.kill d)
theorem WI {s:PS}:∀ {es:List (CV × PV)} {cs:List (CV × CV)},s.closeM es=some cs→es.length=cs.length∧∀ (i:Nat) (h1:i < es.length) (h2:i < cs.length),es[i].1=cs[i].1∧s.close es[i].2=some cs[i].2
 | [],cs,h=>by obtain rfl:=Option.some.inj h; exact ⟨rfl,fun i h=>by simp at h⟩
 | (k,v)::l,cs,h=>by
  simp only [PS.closeM] at h
  split at h
  ·rename_i c cs' hc hcs
   obtain rfl:=Option.some.inj h
   obtain ⟨hl,hg⟩:=WI hcs
   refine ⟨by simp [hl],fun i h1 h2=>?_⟩
   cases i with
   | zero=>exact ⟨rfl,hc⟩
   | succ i=>exact hg i (by simpa using h1) (by simpa using h2)
  ·cases h
theorem Vb:∀ {es:List (CV × PV)} {k:CV} {d v o l:Nat},(k,PV.osl d v o l)∈es→d∈oslBoxes es
 | (k',pv)::es,k,d,v,o,l,h=>by
  rcases List.mem_cons.1 h with h | h
  ·cases h; simp [oslBoxes]
  ·have:=Vb h
   cases pv <;> simp [oslBoxes,this]
theorem Sim.fzm {tm:Nat→Value} (h:Sim O w0 A0 β s tm w) {i d ver:Nat} {es:List (CV × PV)} {cs:List (CV × CV)} (hi:s.t i=.mp d ver) (hb:s.bx d=⟨ver,.mp es⟩) (hd:d ∉ oslBoxes es) (hc:s.closeM es=some cs) :
  Sim O w0 A0 β (((s.kills (oslBoxes es)).box d ⟨ver,.dead⟩).put i (.c (.map cs))) tm w:=by
 have hR:=h.temps i
 rw [hi] at hR
 obtain ⟨b,hβ,hv⟩:=hR.2 (by rw [hb]) (by rw [hb]; rfl)
 obtain ⟨b',hβ',hB⟩:=h.mps d es (by rw [hb])
 rw [hβ] at hβ'
 obtain ⟨rfl,_⟩:=Prod.mk.inj (Option.some.inj hβ')
 obtain ⟨arr,clock,hheap,hcl,hbn,hl,h5,h6,h7⟩:=hB
 have hK:=(killsAll (oslBoxes es) h).kill d
 have e1:((s.kills (oslBoxes es)).bx d).ver=ver:=by rw [Va,if_neg hd,hb]
 rw [e1] at hK
 have hown:(s.bx d).st.owned=true:=by rw [hb]; rfl
 have hless:∀ b,Nn O β ((s.kills (oslBoxes es)).box d ⟨ver,.dead⟩).bx b→O b∨∃ q base,q≠d∧q ∉ oslBoxes es∧(s.bx q).st.owned=true∧β q=some (b,base):=by
  rintro c (hn | ⟨q,base,hq,hqb⟩)
  ·exact .inl hn
  ·refine .inr ⟨q,base,?_,?_,?_,hqb⟩
   ·rintro rfl; simp [PS.box,BSt.owned] at hq
   ·intro hm
    by_cases e:q=d
    ·subst e; simp [PS.box,BSt.owned] at hq
    ·simp only [PS.box,if_neg e] at hq
     rw [Va,if_pos hm] at hq; cases hq
   ·by_cases e:q=d
    ·subst e; exact hown
    ·simp only [PS.box,if_neg e] at hq
     rw [Va] at hq
     split at hq
     ·cases hq
     ·exact hq
 have hnn:∀ c,Nn O β ((s.kills (oslBoxes es)).box d ⟨ver,.dead⟩).bx c→Nn O β s.bx c:=fun c hc=>by
  rcases hless c hc with hn | ⟨q,base,_,_,ho,hq⟩
  ·exact .inl hn
  ·exact .inr ⟨q,base,ho,hq⟩
 obtain ⟨hcsl,hcs⟩:=WI hc
 have hV:V w (Nn O β ((s.kills (oslBoxes es)).box d ⟨ver,.dead⟩).bx) (tm i) (.map cs):=by
  rw [hv]
  refine .map b arr clock cs (Array.getElem?_eq_some_iff.1 hheap).1 ?_ hheap hcl hbn (by omega) (fun j h1 h2=>?_) (fun j h1 h2=>?_)
  ·intro hn
   rcases hless b hn with hn | ⟨q,base,hqd,_,ho,hq⟩
   ·exact (h.out d _ hown hβ).1 hn
   ·exact h.inj q d _ _ hqd ho hown hq hβ rfl
  ·rw [← (hcs j (by omega) h2).1]
   exact (h5 j h1 (by omega)).ext (.of_less hnn)
  ·have hj:j < es.length:=by omega
   have hRj:=h6 j h1 hj
   have hcj:=(hcs j hj h2).2
   generalize he:es[j].2=pv at hRj hcj
   cases pv <;> simp only [PS.close] at hcj <;> (try (cases hcj; done))
   ·obtain rfl:=Option.some.inj hcj
    exact V.ext (.of_less hnn) hRj
   ·rename_i e u off len
    have hmem:e∈oslBoxes es:=Vb (k:=es[j].1) (v:=u) (o:=off) (l:=len) (by rw [← he]; exact List.getElem_mem hj)
    split at hcj
    ·rename_i q sz ees hbe
     split at hcj
     ·rename_i hcond
      obtain ⟨rfl,rfl,hlen⟩:=hcond
      have hBe:=h.boxes e
      rw [hbe] at hBe
      have hVe:=wt h (d:=e) (sz:=sz) (es:=ees) (by rw [hbe]) (wM hRj hbe hlen hBe) q
      rw [← Option.some.inj hcj]
      refine V.ext (.of_less fun c hc=>?_) hVe
      rcases hless c hc with hn | ⟨q',base,hqd,hqm,ho,hq'⟩
      ·exact .inl hn
      ·refine .inr ⟨q',base,?_,hq'⟩
       have:q'≠e:=fun e'=>hqm (e' ▸ hmem)
       simp only [PS.box,if_neg this]; exact ho
     ·cases hcj
    ·cases hcj
 have:=hK.put i (.c (.map cs)) (tm i) hV
 have e0:(fun j=>if j=i then tm i else tm j)=tm:=by funext j; split <;> simp_all
 rw [e0] at this
 exact this
end
end Go.Pl
/- Part of the proof of ExecTells, ExecAnswers, ExecBest, ExecFirst, ExecLevels, ExecTops, ExecLimits: lemmas. -/
import Derived.Test.YtnpncbplhdnonaaGreatExecS4
import Derived.Laws.Build
import Derived.ChangeKeysEq
import Derived.WideLaws
set_option linter.unusedVariables false
set_option linter.unusedSimpArgs false
/-
 EACH OPERATION,GOES ON: new variables,stores,numbers,addresses. My own work.
-/
namespace Go.Pl
open Go
set_option linter.unusedVariables false
section
variable {O : Nat → Prop} {A0 : Lent} {w0 w : World} {β : Bt} {s : PS} {a : Act} {P : Program}
theorem Does.skip {o:Oper} (hdst:o.dst=none) {w':World} {β':Bt} {s':PS} (hr:(execOp a.eval o).run P w=.ok .skip w') (h:Sim O w0 A0 β' s' (tmf a) w'):Does P o O A0 w0 a w s' :=
 ⟨.skip,undef,w',β',hr,.inr ⟨rfl,rfl⟩,by rw [hdst]; exact h⟩
theorem VZ (N:Nat→Prop) (cells:Array Value) (el:TypeId) (cs:List CV) (hl:cells.size=cs.length) (h1:∀ c∈cs,c.one=true)
  (hV:∀ (j:Nat) (h1:j < cells.size) (h2:j < cs.length),V (w.alloc (.cells cells el)) N cells[j] cs[j]) :
  OwnB (w.alloc (.cells cells el)) w.heap.size cs.length∧CellsAt (w.alloc (.cells cells el)) N w.heap.size 0 cs:=by
 have hb:(w.alloc (.cells cells el)).heap[w.heap.size]? = some (.cells cells el (0,0)):=by
  show (w.heap.push _)[w.heap.size]? = _
  simp
 refine ⟨⟨cells,el,hb,by omega⟩,h1,fun j hj=>⟨cells[j],?_,hV j (by omega) hj⟩⟩
 simp only [World.cell?,hb]
 simp [show j < cells.size by omega]
theorem je6 {o:Oper} {el:TypeId} {z:List CV} {i:TypeInfo} {zv:Value} {d:Nat} (ho:o.op=.alloc el) (h:Sim O w0 A0 β s (tmf a) w) (hdst:o.dst=some d) (hd:d < a.tmps.size)
  (hi:P.info? el=some i) (hz:i.zero=some zv) (hc:chkL zv.cells.toList z=true) {s':PS}
  (hs:pstep o.dst s (.alloc z)=some s'):Does P o O A0 w0 a w s':=by
 simp only [pstep,hdst] at hs
 obtain rfl:=Option.some.inj hs
 refine ⟨.value (.pointer (some ⟨w.heap.size,0,none⟩)),_,w.alloc (.cells zv.cells el),fun i=>if i=d then some (w.heap.size,0) else β i,?_,.inl rfl,?_⟩
 ·unfold execOp
  simp only [ho,Instr.alloc,zeroValue,typeInfo,program,newVar,newRow,newObj,Sem.run_bind,Sem.run,hi,hz,Result.andThen_ok,Sem.run_pure]
  rfl
 ·rw [hdst]
  refine Yw h hd zv.cells el _ _ _ (Nat.lt_succ_self _) ?_ ?_
  ·intro N he
   obtain ⟨hl,h1,hV⟩:=JQ (w:=w.alloc (.cells zv.cells el)) (N:=N) hc
   obtain ⟨h2,h3⟩:=VZ N zv.cells el z (by simpa using hl) h1 (fun j h1 h2=>by have:=hV j (by simpa using h1) h2; simpa using this)
   exact ⟨w.heap.size,0,rfl,by simpa using h2,h3⟩
  ·intro N β' bx' hβ hb
   exact ⟨⟨by rw [hb]; exact Nat.le_refl _,rfl⟩,fun _ _=>⟨w.heap.size,0,hβ,rfl⟩⟩
theorem jk3 {o:Oper} {el:TypeId} {x:Operand} {y:PO} {n d:Nat} (ho:o.op=.box el x) (h:Sim O w0 A0 β s (tmf a) w) (hdst:o.dst=some d) (hd:d < a.tmps.size)
  (hc:chkPO x y=true) (hn:0 < n) {s':PS} (hs:pstep o.dst s (.box n y)=some s'):Does P o O A0 w0 a w s':=by
 simp only [pstep,hdst] at hs
 split at hs
 ·rename_i e v he hv
  obtain rfl:=Option.some.inj he
  split at hs
  ·rename_i hlen
   obtain rfl:=Option.some.inj hs
   have hV:=jX h hc hv
   refine ⟨.value (.pointer (some ⟨w.heap.size,0,none⟩)),_,w.alloc (.cells (a.eval x).cells el),fun i=>if i=d then some (w.heap.size,0) else β i,?_,.inl rfl,?_⟩
   ·unfold execOp
    simp only [ho,Instr.box,newVar,newRow,newObj,Sem.run_bind,Sem.run,Result.andThen_ok,Sem.run_pure]
    rfl
   ·rw [hdst]
    refine Yw h hd _ el _ _ _ (Nat.lt_succ_self _) ?_ ?_
    ·intro N he
     obtain ⟨h1,h2,h3⟩:=V.cells (hV.ext he) (by omega)
     obtain ⟨h4,h5⟩:=VZ N (a.eval x).cells el v.cells h1 h2 h3
     exact ⟨w.heap.size,0,rfl,by simpa using h4,h5⟩
    ·intro N β' bx' hβ hb
     exact ⟨⟨by rw [hb]; exact Nat.le_refl _,rfl⟩,fun _ _=>⟨w.heap.size,0,hβ,rfl⟩⟩
  ·cases hs
 ·cases hs
theorem vD {b off:Nat} {arr:Array Value} {el t:TypeId} {i:TypeInfo} {v:Value} (hb:w.heap[b]? = some (.cells arr el (0,0))) (hi:P.info? t=some i) (hn:v.cells.size=i.size)
  (hl:off + v.cells.size≤arr.size) (h1:∀ x∈v.cells.toList,x.oneCell'=true) :
  (Instr.storeAt t (.pointer (some ⟨b,off,none⟩)) v).run P w=.ok () (w.setRow b (arr.toList.take off++v.cells.toList++arr.toList.drop (off + v.cells.size)).toArray):=by
 have:=run_storeCells_at (P:=P) b off el v.cells.toList 0 arr w hb (by simpa using hl) h1
 simp only [Nat.add_zero,Array.length_toList] at this
 simp [Instr.storeAt,Instr.sureAddr,storeVar,sizeOf,typeInfo,program,Sem.run_bind,Sem.run,hi,hn]
 simpa [hn] using this
theorem kV {cs new:List CV} {off:Nat} (h:off + new.length≤cs.length):(spl cs off new).length=cs.length:=by
 simp [spl]; omega
theorem spl_get? {cs new:List CV} {off:Nat} (h:off + new.length≤cs.length) (j:Nat) :
  (spl cs off new)[j]? = if off≤j∧j < off + new.length then new[j - off]? else cs[j]?:=by
 have ht:(cs.take off).length=off:=by simp; omega
 unfold spl
 split
 ·rename_i h1
  rw [List.getElem?_append_right (by omega),List.getElem?_append_left (by omega),ht]
 ·rename_i h1
  by_cases h2:j < off
  ·rw [List.getElem?_append_left (by omega),List.getElem?_take,if_pos h2]
  ·rw [List.getElem?_append_right (by omega),List.getElem?_append_right (by omega),List.getElem?_drop,ht]
   congr 1
   omega
theorem spl_get {cs new:List CV} {off:Nat} (h:off + new.length≤cs.length) (j:Nat) (hj:j < (spl cs off new).length) :
  (spl cs off new)[j]=if h1:off≤j∧j < off + new.length then new[j - off]'(by omega) else cs[j]'(by rw [kV h] at hj; exact hj):=by
 have hj':j < cs.length:=by rw [kV h] at hj; exact hj
 have:=spl_get? h j
 rw [List.getElem?_eq_getElem hj] at this
 split at this
 ·rename_i h1
  rw [List.getElem?_eq_getElem (by omega)] at this
  rw [dif_pos h1]; exact Option.some.inj this
 ·rename_i h1
  rw [List.getElem?_eq_getElem hj'] at this
  rw [dif_neg h1]; exact Option.some.inj this
theorem JN {N N':Nat→Prop} {b base off:Nat} {arr:Array Value} {el:TypeId} {cs:List CV} {v:Value} {c:CV} (hb:w.heap[b]? = some (.cells arr el (0,0)))
  (hsz:base + cs.length≤arr.size) (hcs:CellsAt w N b base cs) (hV:V w N v c) (hn:0 < c.cells.length) (hl:off + c.cells.length≤cs.length)
  (he:Ext w N (w.setRow b (arr.toList.take (base + off)++v.cells.toList++arr.toList.drop (base + off + v.cells.size)).toArray) N') :
  CellsAt (w.setRow b (arr.toList.take (base + off)++v.cells.toList++arr.toList.drop (base + off + v.cells.size)).toArray) N' b base (spl cs off c.cells):=by
 obtain ⟨h1,h2,h3⟩:=hV.cells hn
 refine ⟨?_,?_⟩
 ·intro x hx
  simp only [spl,List.mem_append] at hx
  rcases hx with hx | hx | hx
  ·exact hcs.1 x (List.mem_of_mem_take hx)
  ·exact h2 x hx
  ·exact hcs.1 x (List.mem_of_mem_drop hx)
 ·intro j hj
  have hj':j < cs.length:=by rw [kV hl] at hj; exact hj
  have hcell:∀ k:Nat,(w.setRow b (arr.toList.take (base + off)++v.cells.toList++arr.toList.drop (base + off + v.cells.size)).toArray).cell? ⟨b,k,none⟩ =
    (arr.toList.take (base + off)++v.cells.toList++arr.toList.drop (base + off + v.cells.size))[k]?:=by
   intro k
   simp [World.cell?,setRow_heap w b arr _ el _ hb]
  rw [hcell,spl_get hl j hj]
  obtain ⟨u,hu,hU⟩:=hcs.2 j hj'
  have hu':arr[base + j]? = some u:=by simpa [World.cell?,hb] using hu
  split
  ·rename_i hin
   have hk:j - off < v.cells.size:=by omega
   refine ⟨v.cells[j - off],?_,(h3 (j - off) hk (by omega)).ext he⟩
   rw [List.append_assoc,List.getElem?_append_right (by simp; omega),List.getElem?_append_left (by simp; omega)]
   simp only [List.length_take,Array.length_toList]
   rw [show base + j - min (base + off) arr.size=j - off by omega]
   simp [hk]
  ·rename_i hin
   refine ⟨u,?_,hU.ext he⟩
   by_cases h2:j < off
   ·rw [List.append_assoc,List.getElem?_append_left (by simp; omega)]
    simp only [List.getElem?_take,Array.getElem?_toList]
    rw [if_pos (by omega)]
    exact hu'
   ·rw [List.getElem?_append_right (by simp; omega)]
    simp only [List.length_append,List.length_take,Array.length_toList,List.getElem?_drop,Array.getElem?_toList]
    rw [show base + off + v.cells.size + (base + j - (min (base + off) arr.size + v.cells.size))=base + j by omega]
    exact hu'
theorem wJ {arr:Array Value} {k:Nat} {v:Value} (h:k + v.cells.size≤arr.size) :
  (arr.toList.take k++v.cells.toList++arr.toList.drop (k + v.cells.size)).toArray.size=arr.size:=by
 simp; omega
theorem vZ {cs new:List PV} {off:Nat} (h:off + new.length≤cs.length):(splP cs off new).length=cs.length:=by
 simp [splP]; omega
theorem je7 {cs new:List PV} {off:Nat} (h:off + new.length≤cs.length) (j:Nat) (hj:j < (splP cs off new).length) :
  (splP cs off new)[j]=if h1:off≤j∧j < off + new.length then new[j - off]'(by omega) else cs[j]'(by rw [vZ h] at hj; exact hj):=by
 have hj':j < cs.length:=by rw [vZ h] at hj; exact hj
 have ht:(cs.take off).length=off:=by simp; omega
 have key:(splP cs off new)[j]? = if off≤j∧j < off + new.length then new[j - off]? else cs[j]?:=by
  unfold splP
  split
  ·rename_i h1
   rw [List.getElem?_append_right (by omega),List.getElem?_append_left (by omega),ht]
  ·rename_i h1
   by_cases h2:j < off
   ·rw [List.getElem?_append_left (by omega),List.getElem?_take,if_pos h2]
   ·rw [List.getElem?_append_right (by omega),List.getElem?_append_right (by omega),List.getElem?_drop,ht]
    congr 1
    omega
 rw [List.getElem?_eq_getElem hj] at key
 split at key
 ·rename_i h1
  rw [List.getElem?_eq_getElem (by omega)] at key
  rw [dif_pos h1]; exact Option.some.inj key
 ·rename_i h1
  rw [List.getElem?_eq_getElem hj'] at key
  rw [dif_neg h1]; exact Option.some.inj key
theorem Yx {N N':Nat→Prop} {β':Bt} {bx bx':Nat→Box} {b base off:Nat} {arr:Array Value} {el:TypeId} {ps new:List PV} {v:Value} (hb:w.heap[b]? = some (.cells arr el (0,0)))
  (hsz:base + ps.length≤arr.size) (hcs:CellsP w N β bx b base ps) (h1:v.cells.size=new.length) (h2:∀ p∈new,p.one=true) (h3:∀ (j:Nat) (h1:j < v.cells.size) (h2:j < new.length),R w N β bx v.cells[j] new[j]) (hl:off + new.length≤ps.length)
  (he:Ext w N (w.setRow b (arr.toList.take (base + off)++v.cells.toList++arr.toList.drop (base + off + v.cells.size)).toArray) N')
  (hc:∀ d,Compat w (w.setRow b (arr.toList.take (base + off)++v.cells.toList++arr.toList.drop (base + off + v.cells.size)).toArray) (β d) (β' d) (bx d) (bx' d)) :
  CellsP (w.setRow b (arr.toList.take (base + off)++v.cells.toList++arr.toList.drop (base + off + v.cells.size)).toArray) N' β' bx' b base (splP ps off new):=by
 refine ⟨?_,?_⟩
 ·intro x hx
  simp only [splP,List.mem_append] at hx
  rcases hx with hx | hx | hx
  ·exact hcs.1 x (List.mem_of_mem_take hx)
  ·exact h2 x hx
  ·exact hcs.1 x (List.mem_of_mem_drop hx)
 ·intro j hj
  have hj':j < ps.length:=by rw [vZ hl] at hj; exact hj
  have hcell:∀ k:Nat,(w.setRow b (arr.toList.take (base + off)++v.cells.toList++arr.toList.drop (base + off + v.cells.size)).toArray).cell? ⟨b,k,none⟩ =
    (arr.toList.take (base + off)++v.cells.toList++arr.toList.drop (base + off + v.cells.size))[k]?:=by
   intro k
   simp [World.cell?,setRow_heap w b arr _ el _ hb]
  rw [hcell,je7 hl j hj]
  obtain ⟨u,hu,hU⟩:=hcs.2 j hj'
  have hu':arr[base + j]? = some u:=by simpa [World.cell?,hb] using hu
  split
  ·rename_i hin
   have hk:j - off < v.cells.size:=by omega
   refine ⟨v.cells[j - off],?_,(h3 (j - off) hk (by omega)).change he hc⟩
   rw [List.append_assoc,List.getElem?_append_right (by simp; omega),List.getElem?_append_left (by simp; omega)]
   simp only [List.length_take,Array.length_toList]
   rw [show base + j - min (base + off) arr.size=j - off by omega]
   simp [hk]
  ·rename_i hin
   refine ⟨u,?_,hU.change he hc⟩
   by_cases h2:j < off
   ·rw [List.append_assoc,List.getElem?_append_left (by simp; omega)]
    simp only [List.getElem?_take,Array.getElem?_toList]
    rw [if_pos (by omega)]
    exact hu'
   ·rw [List.getElem?_append_right (by simp; omega)]
    simp only [List.length_append,List.length_take,Array.length_toList,List.getElem?_drop,Array.getElem?_toList]
    rw [show base + off + v.cells.size + (base + j - (min (base + off) arr.size + v.cells.size))=base + j by omega]
    exact hu'
theorem CellsAt.toP {N:Nat→Prop} {bx:Nat→Box} {b off:Nat} {cs:List CV} (h:CellsAt w N b off cs):CellsP w N β bx b off (cs.map .c) :=
 ⟨fun p hp=>by obtain ⟨c,hc,rfl⟩:=List.mem_map.1 hp; exact h.1 c hc,fun j hj=>by
  obtain ⟨v,hv,hV⟩:=h.2 j (by simpa using hj)
  exact ⟨v,hv,by rw [List.getElem_map]; exact hV⟩⟩
theorem jdc (h:Sim O w0 A0 β s (tmf a) w) {d u:Nat} {st:BSt} {ps:List PV} (hb:s.bx d=⟨u,st⟩) (hst:st=.vp ps∨∃ cs,st=.var cs∧ps=cs.map .c) :
  ∃ b base,β d=some (b,base)∧OwnB w b (base + ps.length)∧CellsP w (Nn O β s.bx) β s.bx b base ps:=by
 rcases hst with rfl | ⟨cs,rfl,rfl⟩
 ·exact h.vps d ps (by rw [hb])
 ·have hB:=h.boxes d
  rw [hb] at hB
  obtain ⟨b,base,h1,h2,h3⟩:=hB
  exact ⟨b,base,h1,by simpa using h2,h3.toP⟩
theorem jbu {o:Oper} {t:TypeId} {x y:Operand} {n:Nat} {i:TypeInfo} (ho:o.op=.store t x y) (h:Sim O w0 A0 β s (tmf a) w) (hdst:o.dst=none)
  (hi:P.info? t=some i) (hin:i.size=n) {d u off:Nat} {st:BSt} {ps new:List PV} (hb:s.bx d=⟨u,st⟩) (hst:st=.vp ps∨∃ cs,st=.var cs∧ps=cs.map .c) (hR:R w (Nn O β s.bx) β s.bx (a.eval x) (.ptr d u off))
  (h1:(a.eval y).cells.size=new.length) (h0:∀ q∈(a.eval y).cells.toList,q.oneCell'=true) (h2:∀ p∈new,p.one=true) (h3:∀ (j:Nat) (h1:j < (a.eval y).cells.size) (h2:j < new.length),R w (Nn O β s.bx) β s.bx (a.eval y).cells[j] new[j])
  (hlen:new.length=n) (hl:off + n≤ps.length):Does P o O A0 w0 a w (s.box d ⟨u,.vp (splP ps off new)⟩):=by
 have hisv:st.isv=true:=by rcases hst with rfl | ⟨cs,rfl,_⟩ <;> rfl
 have hikd:st.kd=1:=by rcases hst with rfl | ⟨cs,rfl,_⟩ <;> rfl
 have howned:(s.bx d).st.owned=true:=by rw [hb]; rcases hst with rfl | ⟨cs,rfl,_⟩ <;> rfl
 obtain ⟨b,base,hβ,he⟩:=hR.2 (by rw [hb]) (by rw [hb]; exact hisv)
 obtain ⟨b',base',hp',hown,hcs⟩:=jdc h hb hst
 rw [hβ] at hp'
 obtain ⟨rfl,rfl⟩:=Prod.mk.inj (Option.some.inj hp')
 obtain ⟨arr,el,hheap,hsz⟩:=hown
 have hrun:=vD (P:=P) (t:=t) (i:=i) (v:=a.eval y) (off:=base + off) hheap hi (by omega) (by omega) h0
 have hbr:=h.change (w':=w.setRow b _) d (some (b,base)) ⟨u,.vp (splP ps off new)⟩ rfl rfl rfl (by rw [setRow_size]; exact Nat.le_refl _)
  (fun k hk hne=>setRow_other w b k (arr.toList.take (base + off)++(a.eval y).cells.toList++arr.toList.drop (base + off + (a.eval y).cells.size)).toArray (hne _ howned hβ))
  (.inr ⟨by rw [hb],.inr ⟨hβ.symm,(by rw [hb]; exact (hikd).symm),fun sz es hs=>(by cases hs)⟩⟩)
  (fun p _ hp=>.inl ⟨howned,(b,base),hβ,by have:=Option.some.inj hp; rw [← this]⟩) trivial
  (fun hext hcomp=>⟨fun ps' hps'=>by
   cases hps'
   refine ⟨b,base,rfl,⟨_,el,setRow_heap w b arr _ el _ hheap,?_⟩,Yx hheap hsz hcs h1 h2 h3 (by omega) hext hcomp⟩
   rw [vZ (by omega),wJ (by omega)]; exact hsz,fun es hes=>(by cases hes)⟩)
 refine Does.skip hdst ?_ hbr
 unfold execOp
 simp only [ho,he,Sem.run_bind,hrun,Result.andThen_ok,Sem.run_pure]
theorem je8 {o:Oper} {t:TypeId} {x y:Operand} {x' y':PO} {n:Nat} {av:List Nat} {i:TypeInfo} (ho:o.op=.store t x y) (h:Sim O w0 A0 β s (tmf a) w) (hdst:o.dst=none)
  (hx:chkPO x x'=true) (hy:chkPO y y'=true) (hi:P.info? t=some i) (hin:i.size=n) (hn:0 < n) {s':PS} (hs:pstep o.dst s (.store n x' y' av)=some s'):Does P o O A0 w0 a w s':=by
 have hR:=vW h hx
 simp only [pstep] at hs
 split at hs
 ·-- a variable
  rename_i d ver off v hp hv
  have hV:=jX h hy hv
  rw [hp] at hR
  split at hs
  ·cases hs
  split at hs
  ·rename_i u cs hb
   split at hs
   ·rename_i hcond
    obtain ⟨rfl,hlen,hl⟩:=hcond
    obtain rfl:=Option.some.inj hs
    obtain ⟨b,base,hβ,he⟩:=hR.2 (by rw [hb]) (by rw [hb]; rfl)
    have hB:=h.boxes d
    rw [hb] at hB
    obtain ⟨b',base',hp',hown,hcs⟩:=hB
    rw [hβ] at hp'
    obtain ⟨rfl,rfl⟩:=Prod.mk.inj (Option.some.inj hp')
    obtain ⟨arr,el,hheap,hsz⟩:=hown
    obtain ⟨h1,h2,h3⟩:=hV.cells (by omega)
    have hrun:=vD (P:=P) (t:=t) (i:=i) (v:=a.eval y) (off:=base + off) hheap hi (by omega) (by omega)
     (fun q hq=>by obtain ⟨k,hk,rfl⟩:=List.mem_iff_getElem.1 hq; have:=(h3 k (by simpa using hk) (by simp at hk; omega)).oneCell (h2 _ (List.getElem_mem _)); simpa using this)
    have howned:(s.bx d).st.owned=true:=by rw [hb]; rfl
    have hbr:=h.change (w':=w.setRow b _) d (some (b,base)) ⟨u,.var (spl cs off v.cells)⟩ rfl rfl rfl (by rw [setRow_size]; exact Nat.le_refl _)
     (fun k hk hne=>setRow_other w b k (arr.toList.take (base + off)++(a.eval y).cells.toList++arr.toList.drop (base + off + (a.eval y).cells.size)).toArray (hne _ howned hβ))
     (.inr ⟨by rw [hb],.inr ⟨hβ.symm,(by rw [hb]; rfl),fun sz es hs=>(by cases hs)⟩⟩)
     (fun p _ hp=>.inl ⟨howned,(b,base),hβ,by have:=Option.some.inj hp; rw [← this]⟩)
     (by
      refine ⟨b,base,rfl,⟨_,el,setRow_heap w b arr _ el _ hheap,?_⟩,?_⟩
      ·rw [kV (by omega),wJ (by omega)]; exact hsz
      ·refine JN hheap hsz hcs hV (by omega) (by omega) ⟨by rw [setRow_size]; exact Nat.le_refl _,fun k hk hN=>setRow_other w b k _ ?_,fun k hk hN=>?_⟩
       ·exact fun e=>hN (.inr ⟨d,base,howned,by rw [hβ,e]⟩)
       ·rcases hN with hN | ⟨q,base',hq,hq'⟩
        ·exact .inl hN
        ·by_cases e:q=d
         ·subst e; simp only [if_true] at hq'; exact .inr ⟨q,base',howned,by rw [hβ]; exact hq'⟩
         ·simp only [if_neg e] at hq hq'; exact .inr ⟨q,base',hq,hq'⟩)
    refine Does.skip hdst ?_ hbr
    unfold execOp
    simp only [ho,he,Sem.run_bind,hrun,Result.andThen_ok,Sem.run_pure]
   ·cases hs
  ·rename_i u ps hb
   split at hs
   ·rename_i hcond
    obtain ⟨rfl,hlen,hl⟩:=hcond
    obtain rfl:=Option.some.inj hs
    obtain ⟨h1,h2,h3⟩:=hV.cells (by omega)
    refine jbu ho h hdst hi hin hb (.inl rfl) hR (by simpa using h1) ?_ ?_ ?_ (by simpa using hlen) hl
    ·intro q hq
     obtain ⟨k,hk,rfl⟩:=List.mem_iff_getElem.1 hq
     have:=(h3 k (by simpa using hk) (by simp at hk; omega)).oneCell (h2 _ (List.getElem_mem _)); simpa using this
    ·intro p hp
     obtain ⟨c,hc,rfl⟩:=List.mem_map.1 hp
     exact h2 c hc
    ·intro j hj hj'
     have:=h3 j hj (by simpa using hj')
     rw [List.getElem_map]
     exact this
   ·cases hs
  ·cases hs
 ·-- a reference,into a variable
  rename_i d ver off hp hv
  rw [hp] at hR
  have hRy:=vW h hy
  split at hs
  ·cases hs
  split at hs
  ·rename_i hcond
   obtain ⟨hrf,hn1⟩:=hcond
   have hone:(a.eval y).oneCell'=true∧(s.ev y').one=true:=by
    cases hq:s.ev y' with
    | osl d' v' o' l'=>rw [hq] at hRy; exact ⟨hRy.1.2,rfl⟩
    | ptr d' v' o'=>rw [hq] at hRy; exact ⟨hRy.1.2,rfl⟩
    | mp d' v'=>rw [hq] at hRy; exact ⟨hRy.1.2,rfl⟩
    | _=>rw [hq] at hrf; cases hrf
   have hcells:(a.eval y).cells=#[a.eval y]:=by
    have:=hone.1
    revert this
    cases a.eval y <;> simp [Value.oneCell',Value.cells]
   have fin:∀ (u:Nat) (st:BSt) (ps:List PV),s.bx d=⟨u,st⟩→(st=.vp ps∨∃ cs,st=.var cs∧ps=cs.map .c)→u=ver→off + n≤ps.length→Does P o O A0 w0 a w (s.box d ⟨u,.vp (splP ps off [s.ev y'])⟩):=by
    intro u st ps hb hst hu hl
    subst hu
    refine jbu ho h hdst hi hin hb hst hR (by rw [hcells]; rfl) ?_ ?_ ?_ (by simp [hn1]) hl
    ·intro q hq
     rw [hcells] at hq
     obtain rfl:=List.mem_singleton.1 hq
     exact hone.1
    ·intro p hp
     obtain rfl:=List.mem_singleton.1 hp
     exact hone.2
    ·intro j hj hj'
     have:j=0:=by simp at hj'; omega
     subst this
     simp only [hcells]
     exact hRy
   split at hs
   ·rename_i u cs hb
    split at hs
    ·rename_i hc
     obtain rfl:=Option.some.inj hs
     exact fin _ _ _ hb (.inr ⟨cs,rfl,rfl⟩) hc.1 (by simpa using hc.2)
    ·cases hs
   ·rename_i u ps hb
    split at hs
    ·rename_i hc
     obtain rfl:=Option.some.inj hs
     exact fin _ _ _ hb (.inl rfl) hc.1 hc.2
    ·cases hs
   ·cases hs
  ·cases hs
 ·-- an element of a slice
  rename_i d ver k off v hp hv
  have hV:=jX h hy hv
  rw [hp] at hR
  split at hs
  ·cases hs
  split at hs
  ·rename_i u sz es hb
   split at hs
   ·rename_i e he'
    split at hs
    ·rename_i hcond
     obtain ⟨rfl,hlen,hl⟩:=hcond
     obtain rfl:=Option.some.inj hs
     obtain ⟨b,hβ,he⟩:=hR.2 (by rw [hb]) sz es (by rw [hb])
     have hB:=h.boxes d
     rw [hb] at hB
     obtain ⟨hz,hB⟩:=hB
     rcases hB with ⟨hnone,_⟩ | ⟨b',hp',hown,hcs⟩
     ·rw [hβ] at hnone; cases hnone
     rw [hβ] at hp'
     obtain ⟨rfl,_⟩:=Prod.mk.inj (Option.some.inj hp')
     obtain ⟨hk,rfl⟩:=List.getElem?_eq_some_iff.1 he'
     obtain ⟨arr,el,hheap,hsz⟩:=hown
     have hek:es[k].length=sz:=hz _ (List.getElem_mem _)
     have hmul:k * sz + sz≤es.length * sz:=by
      have:(k + 1) * sz≤es.length * sz:=Nat.mul_le_mul_right _ hk
      rw [Nat.add_mul,Nat.one_mul] at this; exact this
     obtain ⟨h1,h2,h3⟩:=hV.cells (by omega)
     have hrun:=vD (P:=P) (t:=t) (i:=i) (v:=a.eval y) (off:=k * sz + off) hheap hi (by omega) (by omega)
      (fun q hq=>by obtain ⟨k,hk,rfl⟩:=List.mem_iff_getElem.1 hq; have:=(h3 k (by simpa using hk) (by simp at hk; omega)).oneCell (h2 _ (List.getElem_mem _)); simpa using this)
     have howned:(s.bx d).st.owned=true:=by rw [hb]; rfl
     have hext:∀ N':Nat→Prop,(∀ q,q < w.heap.size→N' q→Nn O β s.bx q)→Ext w (Nn O β s.bx) (w.setRow b (arr.toList.take (k * sz + off)++(a.eval y).cells.toList++arr.toList.drop (k * sz + off + (a.eval y).cells.size)).toArray) N' :=
      fun N' hN'=>⟨by rw [setRow_size]; exact Nat.le_refl _,fun q hq hN=>setRow_other w b q _ (fun e=>hN (.inr ⟨d,0,howned,by rw [hβ,e]⟩)),hN'⟩
     have hbr:=h.change (w':=w.setRow b _) d (some (b,0)) ⟨u,.sl sz (es.set k (spl es[k] off v.cells))⟩ rfl rfl rfl (by rw [setRow_size]; exact Nat.le_refl _)
      (fun k' hk hne=>setRow_other w b k' (arr.toList.take (k * sz + off)++(a.eval y).cells.toList++arr.toList.drop (k * sz + off + (a.eval y).cells.size)).toArray (hne _ howned hβ))
      (.inr ⟨by rw [hb],.inr ⟨hβ.symm,(by rw [hb]; rfl),fun sz' es' hs=>⟨⟨es,by rw [hb]; cases hs; rfl⟩,fun q n hq hw=>by
       rw [hβ] at hq
       obtain rfl:=Option.some.inj hq
       obtain ⟨arr',el',h1',h2'⟩:=hw
       rw [hheap] at h1'
       cases h1'
       exact ⟨_,el,setRow_heap w b arr _ el _ hheap,by rw [wJ (by omega)]; exact h2'⟩⟩⟩⟩)
      (fun p _ hp=>.inl ⟨howned,(b,0),hβ,by have:=Option.some.inj hp; rw [← this]⟩)
      (by
       have hN':∀ q,q < w.heap.size→Nn O (fun i=>if i=d then some (b,0) else β i) (fun i=>if i=d then ⟨u,.sl sz (es.set k (spl es[k] off v.cells))⟩ else s.bx i) q→Nn O β s.bx q:=by
        intro q hq hN
        rcases hN with hN | ⟨r,base',hr,hr'⟩
        ·exact .inl hN
        ·by_cases e:r=d
         ·subst e; simp only [if_true] at hr'; exact .inr ⟨r,base',howned,by rw [hβ]; exact hr'⟩
         ·simp only [if_neg e] at hr hr'; exact .inr ⟨r,base',hr,hr'⟩
       refine ⟨?_,.inr ⟨b,rfl,⟨_,el,setRow_heap w b arr _ el _ hheap,?_⟩,?_⟩⟩
       ·intro e he
        rcases List.mem_or_eq_of_mem_set he with he | rfl
        ·exact hz e he
        ·rw [kV (by omega)]; exact hek
       ·rw [wJ (by omega),List.length_set]; exact hsz
       ·intro j hj
        have hj':j < es.length:=by simpa using hj
        have hjm:j * sz + sz≤es.length * sz:=by
         have:(j + 1) * sz≤es.length * sz:=Nat.mul_le_mul_right _ hj'
         rw [Nat.add_mul,Nat.one_mul] at this; exact this
        by_cases e:j=k
        ·subst e
         simp only [List.getElem_set_self]
         exact JN hheap (by omega) (hcs j hj') hV (by omega) (by omega) (hext _ hN')
        ·simp only [List.getElem_set_ne (Ne.symm e)]
         have hc:=hcs j hj'
         have hjl:es[j].length=sz:=hz _ (List.getElem_mem _)
         refine ⟨hc.1,fun m hm=>?_⟩
         obtain ⟨u',hu,hU⟩:=hc.2 m hm
         refine ⟨u',?_,hU.ext (hext _ hN')⟩
         have hu':arr[j * sz + m]? = some u':=by simpa [World.cell?,hheap] using hu
         have hcell:(w.setRow b (arr.toList.take (k * sz + off)++(a.eval y).cells.toList++arr.toList.drop (k * sz + off + (a.eval y).cells.size)).toArray).cell? ⟨b,j * sz + m,none⟩ =
           (arr.toList.take (k * sz + off)++(a.eval y).cells.toList++arr.toList.drop (k * sz + off + (a.eval y).cells.size))[j * sz + m]?:=by
          simp [World.cell?,setRow_heap w b arr _ el _ hheap]
         rw [hcell]
         rcases Nat.lt_or_gt_of_ne e with hlt | hgt
         ·have:(j + 1) * sz≤k * sz:=Nat.mul_le_mul_right _ hlt
          rw [Nat.add_mul,Nat.one_mul] at this
          rw [List.append_assoc,List.getElem?_append_left (by simp; omega)]
          simp only [List.getElem?_take,Array.getElem?_toList]
          rw [if_pos (by omega)]
          exact hu'
         ·have:(k + 1) * sz≤j * sz:=Nat.mul_le_mul_right _ hgt
          rw [Nat.add_mul,Nat.one_mul] at this
          rw [List.getElem?_append_right (by simp; omega)]
          simp only [List.length_append,List.length_take,Array.length_toList,List.getElem?_drop,Array.getElem?_toList]
          rw [show k * sz + off + (a.eval y).cells.size + (j * sz + m - (min (k * sz + off) arr.size + (a.eval y).cells.size))=j * sz + m by omega]
          exact hu')
     refine Does.skip hdst ?_ hbr
     unfold execOp
     simp only [ho,he,Sem.run_bind,hrun,Result.andThen_ok,Sem.run_pure]
    ·cases hs
   ·cases hs
  ·cases hs
 ·cases hs
end
end Go.Pl
/-
 '==' OF VALUES THAT LIE FLAT: whole numbers,bools,strings,structs and arrays of them. My own work.
-/
namespace Go.Pl
open Go
set_option linter.unusedVariables false
def fieldsShape (P:Program) (sh:TypeId→Option (List LK)):Nat→List Field→Option (List LK)
 | _,[]=>some []
 | o,f::fs=>match sh f.type with
  | some l => if f.name ≠ "_" ∧ f.offset = o ∧ l.length = P.cellsOf f.type then (fieldsShape P sh (o + l.length) fs).map (l ++ ·) else none
  | none=>none
def repShape (l:List LK):Nat→List LK
 | 0=>[]
 | n + 1=>l++repShape l n
def shapeOf (P:Program):Nat→TypeId→Option (List LK)
 | 0,_=>none
 | d + 1,t=>match P.underlying t with
  | some .bool=>some [.b]
  | some (.int _)=>some [.i]
  | some .string=>some [.s]
  | some (.struct fs)=>if P.stoodInHeld t then none else fieldsShape P (shapeOf P d) 0 fs.toList
  | some (.array n e)=>match shapeOf P d e with
   | some l=>if l.length=P.cellsOf e then some (repShape l n) else none
   | none=>none
  | _=>none
theorem Jd:∀ {l m:List LK} {a b c d:List CV} {r:Bool},a.length=l.length→c.length=l.length→shEq (l++m) (a++b) (c++d)=some r →
  ∃ x y,shEq l a c=some x∧shEq m b d=some y∧r=(x && y)
 | [],m,[],b,[],d,r,_,_,h=>⟨true,r,rfl,h,rfl⟩
 | [],m,_::_,b,_,d,r,hl,_,_=>by simp at hl
 | [],m,[],b,_::_,d,r,_,hl,_=>by simp at hl
 | _::_,m,[],b,_,d,r,hl,_,_=>by simp at hl
 | _::_,m,_::_,b,[],d,r,_,hl,_=>by simp at hl
 | k::l,m,p::a,b,q::c,d,r,hl,hl',h=>by
  have step:∀ {z:Bool},(shEq (l++m) (a++b) (c++d)).map (z && ·)=some r→∃ x y,(shEq l a c).map (z && ·)=some x∧shEq m b d=some y∧r=(x && y):=by
   intro z h
   cases hs:shEq (l++m) (a++b) (c++d) with
   | none=>rw [hs] at h; cases h
   | some u =>
    rw [hs] at h
    obtain ⟨x,y,hx,hy,rfl⟩:=Jd (by simpa using hl) (by simpa using hl') hs
    exact ⟨z && x,y,by rw [hx]; rfl,hy,by rw [← Option.some.inj h,Bool.and_assoc]⟩
  cases k <;> cases p <;> simp only [List.cons_append,shEq] at h ⊢ <;> (try (cases h; done)) <;> cases q <;> simp only [shEq] at h ⊢ <;> (try (cases h; done))
  ·split at h
   ·rename_i hk; simp only [if_pos hk]; exact step h
   ·cases h
  ·exact step h
  ·exact step h
structure Reads (w:World) (N:Nat→Prop) (xs:Array Value) (cs:List CV):Prop where
 len:xs.size=cs.length
 get:∀ (i:Nat) (h1:i < xs.size) (h2:i < cs.length),V w N xs[i] cs[i]
theorem Reads.extract {w:World} {N:Nat→Prop} {xs:Array Value} {cs:List CV} (h:Reads w N xs cs) (o n:Nat) (hn:o + n≤cs.length) :
  Reads w N (xs.extract o (o + n)) ((cs.drop o).take n):=by
 have hl:=h.len
 refine ⟨by simp; omega,fun i h1 h2=>?_⟩
 have:=h.get (o + i) (by simp at h1 h2; omega) (by simp at h2; omega)
 simpa using this
section
variable {P : Program} {w : World} {N : Nat → Prop}
theorem wq {t:TypeId} {d:TypeDesc} (hu:P.underlying t=some d) (hd:d.isRow=false) {xs:Array Value} {o:Nat} (ho:o < xs.size) :
  (part t xs o).run P w=.ok xs[o] w:=by
 have hagg:(isAgg t).run P w=.ok false w:=by
  unfold isAgg
  rw [Sem.run_bind,run_underlying hu w]
  cases d <;> simp_all [TypeDesc.isRow]
 simp [part,Sem.run_bind,hagg,ho]
theorem vO {t:TypeId} {d:TypeDesc} (hu:P.underlying t=some d) (hd:d.isRow=true) {i:TypeInfo} (hi:P.info? t=some i) {xs:Array Value} {o:Nat} :
  (part t xs o).run P w=.ok (.agg (xs.extract o (o + P.cellsOf t))) w:=by
 have hagg:(isAgg t).run P w=.ok true w:=by
  unfold isAgg
  rw [Sem.run_bind,run_underlying hu w]
  cases d <;> simp_all [TypeDesc.isRow]
 simp [part,Sem.run_bind,hagg,sizeOf,typeInfo,hi,Program.cellsOf]
theorem Zd {cs:List CV} {o:Nat} (ho:o + 1≤cs.length):(cs.drop o).take 1=[cs[o]]:=by
 rw [List.take_one,List.head?_drop,List.getElem?_eq_getElem (by omega)]; rfl
def EqAt (P:Program) (w:World) (N:Nat→Prop) (d:Nat) (t:TypeId) (sh:List LK):Prop :=
 ∀ (D:Nat),d≤D→∀ (xs ys:Array Value) (cs ds:List CV) (o:Nat) (r:Bool),Reads w N xs cs→Reads w N ys ds→o + sh.length≤cs.length→o + sh.length≤ds.length →
  shEq sh ((cs.drop o).take sh.length) ((ds.drop o).take sh.length)=some r →
  ∃ u v,(part t xs o).run P w=.ok u w∧(part t ys o).run P w=.ok v w∧(Op.equalIn D t u v).run P w=.ok r w
theorem kL (cs:List CV) (o n m:Nat):(cs.drop o).take (n + m)=(cs.drop o).take n++(cs.drop (o + n)).take m:=by
 rw [List.take_add,List.drop_drop]
theorem J9 {d D:Nat} (hD:d≤D) {xs ys:Array Value} {cs ds:List CV} (hx:Reads w N xs cs) (hy:Reads w N ys ds)
  (ih:∀ t sh,shapeOf P d t=some sh→sh.length=P.cellsOf t→EqAt P w N d t sh):∀ (fs:List Field) (o:Nat) (sh:List LK),fieldsShape P (shapeOf P d) o fs=some sh →
  ∀ r,o + sh.length≤cs.length→o + sh.length≤ds.length→shEq sh ((cs.drop o).take sh.length) ((ds.drop o).take sh.length)=some r→(Op.eqFields D xs ys fs).run P w=.ok r w
 | [],o,sh,h,r,_,_,hr=>by
  obtain rfl:=Option.some.inj h
  simp [shEq] at hr
  subst hr
  rfl
 | f::fs,o,sh,h,r,hc,hd,hr=>by
  simp only [fieldsShape] at h
  split at h
  ·rename_i l hl
   split at h
   ·rename_i hcond
    obtain ⟨hname,hoff,hlen⟩:=hcond
    cases hrest:fieldsShape P (shapeOf P d) (o + l.length) fs with
    | none=>rw [hrest] at h; cases h
    | some m =>
     rw [hrest] at h
     obtain rfl:=Option.some.inj h
     simp only [List.length_append] at hc hd hr
     rw [kL,kL] at hr
     obtain ⟨x,y,hxx,hyy,rfl⟩:=Jd (by simp; omega) (by simp; omega) hr
     obtain ⟨u,v,hu,hv,he⟩:=ih f.type l hl hlen D hD xs ys cs ds o x hx hy (by omega) (by omega) hxx
     have hrec:=J9 hD hx hy ih fs (o + l.length) m hrest y (by omega) (by omega) hyy
     simp only [Op.eqFields,hname,ne_eq,not_false_eq_true,if_true,Sem.run_bind,hoff,hu,hv,he,Result.andThen_ok]
     cases x
     ·simp
     ·simpa using hrec
   ·cases h
  ·cases h
theorem Wk (l:List LK) (n:Nat):(repShape l n).length=n * l.length:=by
 induction n with
 | zero=>simp [repShape]
 | succ n ih=>simp [repShape,ih,Nat.add_mul]; omega
theorem V0 {d D:Nat} (hD:d≤D) {e:TypeId} {l:List LK} (hl:l.length=P.cellsOf e) (ih:EqAt P w N d e l) {xs ys:Array Value} {cs ds:List CV} (hx:Reads w N xs cs) (hy:Reads w N ys ds) :
  ∀ (n k:Nat) (r:Bool),k * l.length + n * l.length≤cs.length→k * l.length + n * l.length≤ds.length →
  shEq (repShape l n) ((cs.drop (k * l.length)).take (n * l.length)) ((ds.drop (k * l.length)).take (n * l.length))=some r→(Op.eqItems D e (P.cellsOf e) xs ys (List.range' k n)).run P w=.ok r w
 | 0,k,r,_,_,hr=>by
  simp [repShape,shEq] at hr
  subst hr
  rfl
 | n + 1,k,r,hc,hd,hr=>by
  rw [Nat.add_mul,Nat.one_mul,Nat.add_comm (n * l.length) l.length] at hc hd hr
  rw [kL,kL] at hr
  obtain ⟨x,y,hxx,hyy,rfl⟩:=Jd (l:=l) (m:=repShape l n) (by simp; omega) (by simp; omega) hr
  obtain ⟨u,v,hu,hv,he⟩:=ih D hD xs ys cs ds (k * l.length) x hx hy (by omega) (by omega) hxx
  have hk:k * l.length + l.length=(k + 1) * l.length:=by rw [Nat.add_mul,Nat.one_mul]
  have hrec:=V0 hD hl ih hx hy n (k + 1) y (by omega) (by omega) (by rw [← hk]; exact hyy)
  simp only [List.range'_succ,Op.eqItems,Sem.run_bind,← hl,hu,hv,he,Result.andThen_ok]
  rw [← hl] at hrec
  cases x
  ·simp
  ·simpa using hrec
theorem jah {d:Nat} {t:TypeId} {l:List LK} (h:shapeOf P d t=some l):∃ i,P.info? t=some i:=by
 cases d with
 | zero=>cases h
 | succ d =>
  cases hu:P.underlying t with
  | none=>simp [shapeOf,hu] at h
  | some dd=>exact info_of_underlying hu
theorem jbv:∀ (d:Nat) (t:TypeId) (sh:List LK),shapeOf P d t=some sh→sh.length=P.cellsOf t→EqAt P w N d t sh:=by
 intro d
 induction d with
 | zero=>intro t sh h; cases h
 | succ d ih =>
  intro t sh h hsz D hD xs ys cs ds o r hx hy hc hd' hr
  obtain ⟨D,rfl⟩:∃ D',D=D' + 1:=⟨D - 1,by omega⟩
  simp only [shapeOf] at h
  have leaf:∀ dd k,P.underlying t=some dd→dd.isRow=false→sh=[k] →
    (∀ (u v:Value) (c e:CV),V w N u c→V w N v e→shEq [k] [c] [e]=some r→(Op.equalIn (D + 1) t u v).run P w=.ok r w) →
    ∃ u v,(part t xs o).run P w=.ok u w∧(part t ys o).run P w=.ok v w∧(Op.equalIn (D + 1) t u v).run P w=.ok r w:=by
   intro dd k hu hdd h1 hq
   subst h1
   simp only [List.length_singleton] at hc hd' hr
   have hxs:o < xs.size:=by rw [hx.len]; omega
   have hys:o < ys.size:=by rw [hy.len]; omega
   refine ⟨_,_,wq hu hdd hxs,wq hu hdd hys,?_⟩
   rw [Zd hc,Zd hd'] at hr
   exact hq _ _ _ _ (hx.get o hxs (by omega)) (hy.get o hys (by omega)) hr
  split at h
  ·rename_i hu
   refine leaf _ _ hu rfl (Option.some.inj h).symm fun u v c e hU hV hb=>?_
   cases c <;> cases e <;> simp only [shEq,Option.map_some,Bool.and_true] at hb <;> (try (cases hb; done))
   obtain rfl:=Option.some.inj hb
   cases hU; cases hV
   exact run_equalIn_bool' w D t _ _ hu
  ·rename_i k hu
   refine leaf _ _ hu rfl (Option.some.inj h).symm fun u v c e hU hV hb=>?_
   cases c <;> cases e <;> simp only [shEq,Option.map_some,Bool.and_true] at hb <;> (try (cases hb; done))
   split at hb
   ·rename_i hk
    subst hk
    obtain rfl:=Option.some.inj hb
    cases hU; cases hV
    exact run_equalIn_int w D t _ k _ _ hu
   ·cases hb
  ·rename_i hu
   refine leaf _ _ hu rfl (Option.some.inj h).symm fun u v c e hU hV hb=>?_
   cases c <;> cases e <;> simp only [shEq,Option.map_some,Bool.and_true] at hb <;> (try (cases hb; done))
   obtain rfl:=Option.some.inj hb
   cases hU; cases hV
   exact run_equalIn_string w D t _ _ hu
  ·rename_i fs hu
   split at h
   ·cases h
   ·rename_i hst
    have hst:P.stoodInHeld t=false:=by simpa using hst
    obtain ⟨i,hi⟩:=info_of_underlying hu
    refine ⟨_,_,vO hu rfl hi,vO hu rfl hi,?_⟩
    have hf:P.fieldsOf t=fs:=by simp [Program.fieldsOf,hu]
    rw [run_equalIn_struct w D t _ _ (by rw [hf]; exact hu) hst,hf]
    rw [← hsz]
    refine J9 (d:=d) (by omega) (hx.extract o sh.length hc) (hy.extract o sh.length hd') (fun t sh h1 h2=>ih t sh h1 h2) fs.toList 0 sh h r (by simp; omega) (by simp; omega) ?_
    simpa [List.take_take] using hr
  ·rename_i n e hu
   split at h
   ·rename_i l hl
    split at h
    ·rename_i hle
     obtain rfl:=Option.some.inj h
     obtain ⟨i,hi⟩:=info_of_underlying hu
     refine ⟨_,_,vO hu rfl hi,vO hu rfl hi,?_⟩
     obtain ⟨i',hi'⟩:=jah hl
     rw [run_equalIn_array w D _ _ hu hi',← hsz,List.range_eq_range']
     rw [Wk] at hc hd' hr ⊢
     refine V0 (d:=d) (by omega) hle (ih e l hl hle) (hx.extract o _ hc) (hy.extract o _ hd') n 0 r (by simp; omega) (by simp; omega) ?_
     simpa [List.take_take] using hr
    ·cases h
   ·cases h
  ·cases h
end
end Go.Pl
/-
 EACH OPERATION,GOES ON: numbers,parts,addresses,literals. My own work.
-/
namespace Go.Pl
open Go
set_option linter.unusedVariables false
section
variable {O : Nat → Prop} {A0 : Lent} {w0 w : World} {β : Bt} {s : PS} {a : Act} {P : Program}
theorem jmk {o:Oper} {op:UnOp} {t:TypeId} {x:Operand} {y:PO} (ho:o.op=.unOp op t x) (h:Sim O w0 A0 β s (tmf a) w) (hd:dstOk o.dst a.tmps.size) (hc:chkPO x y=true) {s':PS}
  (hs:pstep o.dst s (.un op y)=some s'):Does P o O A0 w0 a w s':=by
 simp only [pstep] at hs
 split at hs
 ·rename_i c hy
  have hV:=jX h hc hy
  cases hu:unC op c with
  | none=>rw [hu] at hs; cases hs
  | some r =>
   rw [hu] at hs
   obtain rfl:=Option.some.inj hs
   unfold unC at hu
   split at hu
   ·obtain rfl:=Option.some.inj hu
    refine Does.val h hd (v:=.bool _) ?_ (V.bool _)
    unfold execOp
    simp only [ho,V.bool_inv hV,Op.unary,Sem.run_bind,Sem.run_pure,Result.andThen_ok]
   ·obtain rfl:=Option.some.inj hu
    refine Does.val h hd (v:=.int _ _) ?_ (V.int _ _)
    unfold execOp
    simp only [ho,V.int_inv hV,Op.unary,Op.intArith,Sem.run_bind,Sem.run_pure,Result.andThen_ok]
   ·cases hu
 ·cases hs
theorem jdd {op : BinOp} {t : TypeId} {u v : Value} {x y z : CV} {N : Nat → Prop} (hx : V w N u x) (hy : V w N v y) (hb : binC op x y = some z)
    (px py : Operand) : ∃ r, (do eqGuard op t px py u v; binOp op t u v : Sem Value).run P w = .ok r w ∧ V w N r z := by
  unfold binC at hb
  split at hb
  · rename_i k a k' b
    unfold shl at hb
    split at hb
    · rename_i hc
      obtain rfl := Option.some.inj hb
      refine ⟨_, ?_, V.int _ _⟩
      simp only [V.int_inv hx, V.int_inv hy, eqGuard, binOp, Op.shift, Sem.run_bind]
      simp [show ¬ b < 0 by omega, Nat.min_eq_left hc.2]
    · cases hb
  · rename_i k a k' b
    unfold shr at hb
    split at hb
    · rename_i hc
      obtain rfl := Option.some.inj hb
      refine ⟨_, ?_, V.int _ _⟩
      simp only [V.int_inv hx, V.int_inv hy, eqGuard, binOp, Op.shift, Sem.run_bind]
      simp [show ¬ b < 0 by omega, Nat.min_eq_left hc.2]
    · cases hb
  all_goals first
    | (rename_i k a k' b
       split at hb
       · rename_i hc
         obtain rfl := Option.some.inj hb
         first
           | (obtain rfl := hc
              refine ⟨_, ?_, V.int _ _⟩
              simp only [V.int_inv hx, V.int_inv hy, eqGuard, binOp, Op.intArith, Op.intBits, Sem.run_bind]
              simp
              done)
           | (obtain rfl := hc
              refine ⟨_, ?_, V.bool _⟩
              simp only [V.int_inv hx, V.int_inv hy, eqGuard, binOp, Op.intCmp, Sem.run_bind]
              simp [bne]
              done)
           | (obtain ⟨rfl, hc⟩ := hc
              refine ⟨_, ?_, V.int _ _⟩
              simp only [V.int_inv hx, V.int_inv hy, eqGuard, binOp, Op.intDiv, Sem.run_bind]
              simp [hc]
              done)
       · cases hb)
    | (obtain rfl := Option.some.inj hb
       refine ⟨_, ?_, V.bool _⟩
       simp only [V.str_inv hx, V.str_inv hy, eqGuard, binOp, Op.stringOp, Sem.run_bind]
       simp
       done)
    | (cases hb; done)
theorem jk4 {o:Oper} {op:BinOp} {t t':TypeId} {x y:Operand} {x' y':PO} (ho:o.op=.binOp op t x y t') (h:Sim O w0 A0 β s (tmf a) w) (hd:dstOk o.dst a.tmps.size) (hx:chkPO x x'=true) (hy:chkPO y y'=true)
  {s':PS} (hs:pstep o.dst s (.bin op x' y')=some s'):Does P o O A0 w0 a w s':=by
 simp only [pstep] at hs
 split at hs
 ·rename_i u v hu hv
  cases hb:binC op u v with
  | none=>rw [hb] at hs; cases hs
  | some z =>
   rw [hb] at hs
   obtain rfl:=Option.some.inj hs
   obtain ⟨r,hr,hV⟩:=jdd (P:=P) (t:=t) (jX h hx hu) (jX h hy hv) hb x y
   refine Does.val h hd (v:=r) ?_ hV
   unfold execOp
   simp only [ho,Sem.run_bind] at hr ⊢
   simp only [hr,Result.andThen_ok,Sem.run_pure]
 ·cases hs
theorem V1:∀ {sh:List LK} {cs ds:List CV} {r:Bool},shEq sh cs ds=some r→cs.length=sh.length∧ds.length=sh.length
 | [],[],[],_,_=>⟨rfl,rfl⟩
 | [],[],_::_,_,h=>by simp [shEq] at h
 | [],_::_,_,_,h=>by simp [shEq] at h
 | _::_,[],_,_,h=>by simp [shEq] at h
 | _::_,_::_,[],_,h=>by simp [shEq] at h
 | k::sh,p::cs,q::ds,r,h=>by
  have step:∀ {z:Bool},(shEq sh cs ds).map (z && ·)=some r→(p::cs).length=(k::sh).length∧(q::ds).length=(k::sh).length:=by
   intro z h
   cases hs:shEq sh cs ds with
   | none=>rw [hs] at h; cases h
   | some u=>have:=V1 hs; simp [this.1,this.2]
  cases k <;> cases p <;> (try (simp [shEq] at h; done)) <;> cases q <;> (try (simp [shEq] at h; done)) <;> simp only [shEq] at h
  ·split at h
   ·exact step h
   ·cases h
  ·exact step h
  ·exact step h
theorem jhx {ag:Bool} {sh:List LK} {t:TypeId} {N:Nat→Prop} {u v:Value} {x y:CV} {r:Bool} (hsh:shapeOf P 50 t=some sh) (hlen:sh.length=P.cellsOf t) (hg:P.eqGuardType P.depth t=false)
  (hag:(match P.underlying t with | some d=>d.isRow | none=>false)=ag) (hb:ag=false→sh=[.b])
  (hx:V w N u x) (hy:V w N v y) (hr:eqC ag sh x y=some r) (neq:Bool) (px py:Operand) :
  (do eqGuard (if neq then .neq else .eql) t px py u v; binOp (if neq then .neq else .eql) t u v:Sem Value).run P w=.ok (.bool (if neq then !r else r)) w:=by
 have hE:=jbv (P:=P) (w:=w) (N:=N) 50 t sh hsh hlen 10000 (by omega)
 cases ag with
 | true =>
  obtain ⟨cs,ds,rfl,rfl,hr⟩:∃ cs ds,x=.agg cs∧y=.agg ds∧shEq sh cs ds=some r:=by
   cases x <;> (try (simp [eqC] at hr; done))
   cases y <;> (try (simp [eqC] at hr; done))
   exact ⟨_,_,rfl,rfl,hr⟩
  cases hx with
  | agg xs _ hl1 _ hV1 =>
  cases hy with
  | agg ys _ hl2 _ hV2 =>
  have hl:=V1 hr
  obtain ⟨u',v',hu,hv,he⟩:=hE xs ys cs ds 0 r ⟨hl1,hV1⟩ ⟨hl2,hV2⟩ (by omega) (by omega) (by
   rw [List.drop_zero,List.drop_zero,List.take_of_length_le (by omega),List.take_of_length_le (by omega)]; exact hr)
  cases hut:P.underlying t with
  | none=>rw [hut] at hag; cases hag
  | some dd =>
   rw [hut] at hag
   obtain ⟨i,hi⟩:=info_of_underlying hut
   rw [vO hut hag hi] at hu hv
   have hcx:xs.extract 0 (0 + P.cellsOf t)=xs:=by rw [← hlen]; apply Array.ext <;> simp; omega
   have hcy:ys.extract 0 (0 + P.cellsOf t)=ys:=by rw [← hlen]; apply Array.ext <;> simp; omega
   rw [hcx] at hu
   rw [hcy] at hv
   cases hu
   cases hv
   cases neq
   ·simp only [Bool.false_eq_true,if_false,Sem.run_bind,run_eqGuard_agg w _ t px py xs ys hg,Result.andThen_ok,run_eql_struct,he]
   ·simp only [if_true,Sem.run_bind,run_eqGuard_agg w _ t px py xs ys hg,Result.andThen_ok,run_neq_struct,he]
 | false =>
  obtain rfl:=hb rfl
  simp only [eqC] at hr
  cases x <;> (try (simp [shEq] at hr; done))
  cases y <;> (try (simp [shEq] at hr; done))
  rename_i p q
  simp only [shEq,Option.map_some,Bool.and_true] at hr
  obtain rfl:=Option.some.inj hr
  obtain rfl:=V.bool_inv hx
  obtain rfl:=V.bool_inv hy
  have one:∀ b:Bool,Reads w N #[.bool b] [.bool b]:=fun b=>by
   refine ⟨rfl,fun i h1 h2=>?_⟩
   obtain rfl:i=0:=by simp at h1; omega
   exact V.bool b
  obtain ⟨u',v',hu,hv,he⟩:=hE #[.bool p] #[.bool q] [.bool p] [.bool q] 0 (p == q) (one p) (one q) (by simp) (by simp) (by simp [shEq])
  cases hut:P.underlying t with
  | none=>simp [shapeOf,hut] at hsh
  | some dd =>
   rw [hut] at hag
   rw [wq hut hag (by simp)] at hu hv
   cases hu
   cases hv
   cases neq
   ·simp only [Bool.false_eq_true,if_false,eqGuard,binOp,Sem.run_bind,Op.equal,Op.maxDepth]
    simp only [List.getElem_toArray,List.getElem_cons_zero] at he
    simp [he]
   ·simp only [if_true,eqGuard,binOp,Sem.run_bind,Op.equal,Op.maxDepth]
    simp only [List.getElem_toArray,List.getElem_cons_zero] at he
    simp [he]
theorem jk5 {o:Oper} {t t':TypeId} {x y:Operand} {x' y':PO} {neq ag:Bool} {sh:List LK} (ho:o.op=.binOp (if neq then .neq else .eql) t x y t') (h:Sim O w0 A0 β s (tmf a) w) (hd:dstOk o.dst a.tmps.size)
  (hx:chkPO x x'=true) (hy:chkPO y y'=true) (hsh:shapeOf P 50 t=some sh) (hlen:sh.length=P.cellsOf t) (hg:P.eqGuardType P.depth t=false)
  (hag:(match P.underlying t with | some d=>d.isRow | none=>false)=ag) (hb:ag=false→sh=[.b]) {s':PS} (hs:pstep o.dst s (.eqs neq ag sh x' y')=some s'):Does P o O A0 w0 a w s':=by
 simp only [pstep] at hs
 split at hs
 ·rename_i u v hu hv
  cases hq:eqC ag sh u v with
  | none=>rw [hq] at hs; cases hs
  | some r =>
   rw [hq] at hs
   obtain rfl:=Option.some.inj hs
   have:=jhx hsh hlen hg hag hb (jX h hx hu) (jX h hy hv) hq neq x y
   refine Does.val h hd (v:=.bool (if neq then !r else r)) ?_ (V.bool _)
   unfold execOp
   simp only [ho,Sem.run_bind] at this ⊢
   simp only [this,Result.andThen_ok,Sem.run_pure]
 ·cases hs
theorem jhy {o:Oper} {src dst:TypeId} {x:Operand} {y:PO} {k k0:IntKind} (ho:o.op=.convert src dst x) (h:Sim O w0 A0 β s (tmf a) w) (hd:dstOk o.dst a.tmps.size) (hc:chkPO x y=true)
  (hu0:P.underlying src=some (.int k0)) (hu:P.underlying dst=some (.int k)) {s':PS} (hs:pstep o.dst s (.conv k y)=some s'):Does P o O A0 w0 a w s':=by
 simp only [pstep] at hs
 split at hs
 ·rename_i k' n hy
  obtain rfl:=Option.some.inj hs
  have hV:=jX h hc hy
  refine Does.val h hd (v:=.int k (k.wrap n)) ?_ (V.int _ _)
  unfold execOp
  simp only [ho,V.int_inv hV,convert,Sem.run_bind,run_underlying hu0,run_underlying hu,Result.andThen_ok,Conv.intToInt,Sem.run_pure]
 ·cases hs
end
end Go.Pl
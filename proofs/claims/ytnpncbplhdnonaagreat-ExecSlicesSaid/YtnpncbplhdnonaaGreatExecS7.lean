/- Part of the proof of ExecTells, ExecAnswers, ExecBest, ExecFirst, ExecLevels, ExecTops, ExecLimits: lemmas. -/
import Derived.Test.YtnpncbplhdnonaaGreatExecS6
import Derived.Laws.NewFold
set_option linter.unusedVariables false
set_option linter.unusedSimpArgs false
/-
 EACH OPERATION,THE LAST: slices that are made and that grow. My own work.
-/
namespace Go.Pl
open Go
set_option linter.unusedVariables false
section
variable {O : Nat → Prop} {A0 : Lent} {w0 w : World} {β : Bt} {s : PS} {a : Act} {P : Program}
theorem Sim.grow {tm:Nat→Value} (h:Sim O w0 A0 β s tm w) {w':World} (hos:w'.os=w.os) (htape:w'.tape=w.tape) (hout:w'.output=w.output) (hsize:w.heap.size≤w'.heap.size)
  (hk:∀ b,b < w.heap.size→w'.heap[b]? = w.heap[b]?):Sim O w0 A0 β s tm w':=by
 have e:Ext w (Nn O β s.bx) w' (Nn O β s.bx):=⟨hsize,fun b hb _=>hk b hb,fun b _ h=>h⟩
 refine ⟨hos.trans h.os,htape.trans h.tape,hout.trans h.output,Nat.le_trans h.size hsize,fun b hb hn=>?_,fun i=>?_,fun d=>?_,h.inj,fun d p ho hp=>?_,h.outer,fun d ps hd=>?_,fun d es hd=>?_,fun sz es hv hst q n hq hw=>?_,h.still⟩
 ·rw [hk b (Nat.lt_of_lt_of_le hb h.size)]; exact h.keep b hb hn
 ·exact (h.temps i).change e fun d=>Compat.same fun q n ho hq hw=>hw.of_eq (hk _ hw.lt)
 ·have hb:=h.boxes d
  cases hst:(s.bx d).st with
  | var cs =>
   rw [hst] at hb
   obtain ⟨b,base,hp,ho,hc⟩:=hb
   exact ⟨b,base,hp,ho.of_eq (hk _ ho.lt),hc.ext e (hk _ ho.lt)⟩
  | vp cs=>trivial
  | mp es=>trivial
  | sl sz es =>
   rw [hst] at hb
   refine ⟨hb.1,?_⟩
   rcases hb.2 with hb | ⟨b,hp,ho,hc⟩
   ·exact .inl hb
   ·exact .inr ⟨b,hp,ho.of_eq (hk _ ho.lt),fun i hi=>(hc i hi).ext e (hk _ ho.lt)⟩
  | dead=>trivial
 ·have:=h.out d p ho hp
  exact ⟨this.1,Nat.lt_of_lt_of_le this.2.1 hsize,this.2.2⟩
 ·obtain ⟨b,base,hp,ho,hc⟩:=h.vps d ps hd
  exact ⟨b,base,hp,ho.of_eq (hk _ ho.lt),hc.change e (fun d=>Compat.same fun q n ho hq hw=>hw.of_eq (hk _ hw.lt)) (hk _ ho.lt)⟩
 ·obtain ⟨b,hp,hm⟩:=h.mps d es hd
  exact ⟨b,hp,hm.change e (fun d=>Compat.same fun q n ho hq hw=>hw.of_eq (hk _ hw.lt)) (hk _ hm.lt)⟩
 ·have:=h.wide sz es hv hst q n hq hw
  exact this.of_eq (hk _ this.lt)
theorem Sim.notNew {tm:Nat→Value} (h:Sim O w0 A0 β s tm w) {b:Nat} (hb:w.heap.size≤b):¬ Nn O β s.bx b:=by
 rintro (hn | ⟨d,base,ho,hp⟩)
 ·have:=(h.outer b hn).1; have:=h.size; omega
 ·have:=(h.out d _ ho hp).2.1; simp at this; omega
structure Flat (w:World) (N:Nat→Prop) (arr:Array Value) (sz:Nat) (es:List (List CV)):Prop where
 size:es.length * sz≤arr.size
 len:∀ e∈es,e.length=sz
 one:∀ e∈es,∀ c∈e,c.one=true
 get:∀ (i j:Nat) (hi:i < es.length) (hj:j < es[i].length),∃ v,arr[i * sz + j]? = some v∧V w N v es[i][j]
theorem Flat.ext {w w':World} {N N':Nat→Prop} {arr:Array Value} {sz:Nat} {es:List (List CV)} (h:Flat w N arr sz es) (e:Ext w N w' N'):Flat w' N' arr sz es :=
 ⟨h.size,h.len,h.one,fun i j hi hj=>by obtain ⟨v,hv,hV⟩:=h.get i j hi hj; exact ⟨v,hv,hV.ext e⟩⟩
theorem kj {i n sz:Nat} (h:i < n):i * sz + sz≤n * sz:=by
 have:=Nat.mul_le_mul_right sz h
 rw [Nat.succ_mul] at this
 exact this
theorem Flat.closed {N:Nat→Prop} {arr:Array Value} {sz b cap:Nat} {el:TypeId} {es:List (List CV)} (h:Flat w N arr sz es) (hb:w.heap[b]? = some (.cells arr el (0,0))) (hN:¬ N b) (hc:es.length≤cap) :
  V w N (.slice (some ⟨b,0,none⟩) es.length cap) (.sl es):=by
 have hlt:b < w.heap.size:=(Array.getElem?_eq_some_iff.1 hb).1
 refine V.sl b 0 cap sz es (fun i j=>arr.getD (i * sz + j) undef) hlt hN h.len hc h.one ?_ ?_
 ·intro i j hi hj
  obtain ⟨v,hv,hV⟩:=h.get i j hi hj
  simp only [World.cell?,hb,Nat.zero_add,Option.isSome_none,Bool.false_eq_true,if_false,Array.getD_eq_getD_getElem?,hv,Option.getD_some]
 ·intro i j hi hj
  obtain ⟨v,hv,hV⟩:=h.get i j hi hj
  simpa only [Array.getD_eq_getD_getElem?,hv,Option.getD_some] using hV
theorem Flat.box {N:Nat→Prop} {arr:Array Value} {sz b:Nat} {el:TypeId} {es:List (List CV)} (h:Flat w N arr sz es) (hb:w.heap[b]? = some (.cells arr el (0,0))):BR w N (some (b,0)) (.sl sz es):=by
 refine ⟨h.len,.inr ⟨b,rfl,⟨arr,el,hb,h.size⟩,fun i hi=>⟨h.one _ (List.getElem_mem hi),fun j hj=>?_⟩⟩⟩
 obtain ⟨v,hv,hV⟩:=h.get i j hi hj
 exact ⟨v,by simp only [World.cell?,hb,Option.isSome_none,Bool.false_eq_true,if_false,hv],hV⟩
theorem Flat.of_box {N:Nat→Prop} {sz b:Nat} {es:List (List CV)} (h:BR w N (some (b,0)) (.sl sz es)):∃ arr el,w.heap[b]? = some (.cells arr el (0,0))∧Flat w N arr sz es:=by
 obtain ⟨hz,h⟩:=h
 rcases h with ⟨hn,_⟩ | ⟨b',hp,⟨arr,el,hb,hsz⟩,hc⟩
 ·cases hn
 ·obtain ⟨rfl,_⟩:=Prod.mk.inj (Option.some.inj hp)
  refine ⟨arr,el,hb,hsz,hz,fun e he c hce=>?_,fun i j hi hj=>?_⟩
  ·obtain ⟨i,hi,rfl⟩:=List.mem_iff_getElem.1 he
   exact (hc i hi).1 c hce
  ·obtain ⟨v,hv,hV⟩:=(hc i hi).2 j hj
   exact ⟨v,by simpa [World.cell?,hb] using hv,hV⟩
def chkPartsS:List (Nat × Operand)→List (Nat × PO)→Bool
 | [],[]=>true
 | (i,x)::l,(j,y)::m=>decide (i=j) && chkPO x y && chkPartsS l m
 | _,_=>false
theorem WG (h : Sim O w0 A0 β s (tmf a) w) {sz : Nat} (hsz : 0 < sz) : ∀ (ps : List (Nat × Operand)) (qs : List (Nat × PO)) (vs : List (Nat × CV)) (cells : Array Value) (z z' : List (List CV)),
    chkPartsS ps qs = true → partsS s qs = some vs → Flat w (Nn O β s.bx) cells sz z → fillS z vs = some z' →
    ∃ cells', Instr.fill (fun i => some (i * sz, sz)) cells (ps.map fun p => (p.1, a.eval p.2)) = some cells' ∧ Flat w (Nn O β s.bx) cells' sz z' ∧ z'.length = z.length ∧ cells'.size = cells.size
  | [], [], vs, cells, z, z', _, hp, hr, hf => by
    obtain rfl := Option.some.inj hp
    obtain rfl := Option.some.inj hf
    exact ⟨cells, rfl, hr, rfl, rfl⟩
  | [], _ :: _, _, _, _, _, hc, _, _, _ => by simp [chkPartsS] at hc
  | _ :: _, [], _, _, _, _, hc, _, _, _ => by simp [chkPartsS] at hc
  | (i, x) :: ps, (i', y) :: qs, vs, cells, z, z', hc, hp, hr, hf => by
    simp only [chkPartsS, Bool.and_eq_true, decide_eq_true_eq] at hc
    obtain ⟨⟨rfl, hx⟩, hrest⟩ := hc
    simp only [partsS] at hp
    split at hp
    · rename_i c hcv
      cases hpr : partsS s qs with
      | none => rw [hpr] at hp; cases hp
      | some vs' =>
        rw [hpr] at hp
        obtain rfl := Option.some.inj hp
        simp only [fillS] at hf
        split at hf
        · rename_i e he
          split at hf
          · rename_i hlen
            obtain ⟨hi, rfl⟩ := List.getElem?_eq_some_iff.1 he
            have hei : z[i].length = sz := hr.len _ (List.getElem_mem hi)
            have hV := jX h hx hcv
            obtain ⟨k1, k2, k3⟩ := hV.cells (by omega)
            have hmul := kj (sz := sz) hi
            have hle : i * sz + (a.eval x).cells.size ≤ cells.size := by have := hr.size; omega
            obtain ⟨q1, q2⟩ := foldSetA (i * sz) (a.eval x).cells cells hle
            have hr' : Flat w (Nn O β s.bx) ((a.eval x).cells.zipIdx.foldl (fun cs (p : Value × Nat) => cs.setIfInBounds (i * sz + p.2) p.1) cells) sz (z.set i c.cells) := by
              refine ⟨by rw [q1, List.length_set]; exact hr.size, ?_, ?_, ?_⟩
              · intro e he
                rcases List.mem_or_eq_of_mem_set he with he | rfl
                · exact hr.len e he
                · omega
              · intro e he
                rcases List.mem_or_eq_of_mem_set he with he | rfl
                · exact hr.one e he
                · exact k2
              · intro p q hp hq
                have hp' : p < z.length := by simpa using hp
                by_cases e : p = i
                · subst e
                  simp only [List.getElem_set_self] at hq ⊢
                  refine ⟨(a.eval x).cells[q]'(by omega), ?_, k3 q (by omega) hq⟩
                  rw [q2, if_pos (by omega), show p * sz + q - p * sz = q by omega]
                  simp [show q < (a.eval x).cells.size by omega]
                · simp only [List.getElem_set_ne (Ne.symm e)] at hq ⊢
                  obtain ⟨v, hv, hV'⟩ := hr.get p q hp' hq
                  refine ⟨v, ?_, hV'⟩
                  have hzp : z[p].length = sz := hr.len _ (List.getElem_mem hp')
                  rw [q2, if_neg ?_]
                  · exact hv
                  · rcases Nat.lt_or_gt_of_ne e with hlt | hgt
                    · have := kj (sz := sz) hlt; omega
                    · have := kj (sz := sz) hgt; omega
            obtain ⟨cells', hf', hr'', hl', hs'⟩ := WG h hsz ps qs vs' _ _ z' hrest hpr hr' hf
            refine ⟨cells', ?_, hr'', by rw [hl', List.length_set], by rw [hs', q1]⟩
            simp only [List.map_cons, Instr.fill]
            rw [if_neg (by simp; omega)]
            exact hf'
          · cases hf
        · cases hf
    · cases hp
theorem jde {N:Nat→Prop} {zc:List CV} {zv:Value} {sz len:Nat} (hc:chkL zv.cells.toList zc=true) (hl:zc.length=sz) (hsz:0 < sz) :
  Flat w N ((Array.range (len * sz)).map fun k=>zv.cells[k % zv.cells.size]!) sz (List.replicate len zc):=by
 obtain ⟨h1,h2,h3⟩:=JQ (w:=w) (N:=N) hc
 have hs:zv.cells.size=sz:=by simp at h1; omega
 refine ⟨by simp,fun e he=>by rw [List.eq_of_mem_replicate he]; exact hl,fun e he=>by rw [List.eq_of_mem_replicate he]; exact h2,fun i j hi hj=>?_⟩
 simp only [List.getElem_replicate] at hj ⊢
 have hi':i < len:=by simpa using hi
 have hmul:=kj (sz:=sz) hi'
 refine ⟨zv.cells[j]'(by omega),?_,by have:=h3 j (by simp; omega) hj; simpa using this⟩
 simp only [Array.getElem?_map,Array.getElem?_range]
 rw [if_pos (by omega)]
 simp only [Option.map_some,hs]
 rw [show (i * sz + j) % sz=j by rw [Nat.add_comm,Nat.add_mul_mod_self_right,Nat.mod_eq_of_lt (by omega)]]
 rw [getElem!_pos zv.cells j (by omega)]
theorem run_buildSlice (h:Sim O w0 A0 β s (tmf a) w) {o:Oper} {t e:TypeId} {len sz:Nat} {parts:Array (Nat × Operand)} {zc:List CV} {qs:List (Nat × PO)} {i:TypeInfo} {zv:Value} (ho:o.op=.buildSlice t len parts)
  (hu:P.underlying t=some (.slice e)) (hi:P.info? e=some i) (hisz:i.size=sz) (hsz:0 < sz) (hbig:len * sz≤2 ^ 24) (hz:i.zero=some zv) (hzc:chkL zv.cells.toList zc=true) (hzl:zc.length=sz) (hp:chkPartsS parts.toList qs=true)
  {vs:List (Nat × CV)} {es:List (List CV)} (hvs:partsS s qs=some vs) (hf:fillS (List.replicate len zc) vs=some es) :
  ∃ cells,(execOp a.eval o).run P w=.ok (.value (.slice (some ⟨w.heap.size,0,none⟩) es.length es.length)) (w.alloc (.cells cells e))∧Flat w (Nn O β s.bx) cells sz es∧cells.size=es.length * sz:=by
 obtain ⟨cells,hfill,hflat,hl,hsize⟩:=WG h hsz parts.toList qs vs _ _ es hp hvs (jde (len:=len) hzc hzl hsz) hf
 have hlen:es.length=len:=by simpa using hl
 have hpl:(parts.map fun p=>(p.1,a.eval p.2)).toList=parts.toList.map fun p=>(p.1,a.eval p.2):=by simp
 refine ⟨cells,?_,hflat,by rw [hsize,hlen]; simp⟩
 unfold execOp
 by_cases h0:len * sz=0
 ·have hnil:∀ (f:Nat→Value),(Array.range 0).map f=#[]:=fun f=>by simp
  rw [h0,hnil] at hfill
  simp only [ho,Instr.buildSlice,sizeOf,typeInfo,program,Sem.run_bind,Sem.run,run_underlying hu,hi,hisz,Result.andThen_ok,Sem.run_pure,h0,if_true,hnil,hpl,hfill,newRow,newObj,hlen]
  rfl
 ·simp only [ho,Instr.buildSlice,sizeOf,typeInfo,zeroValue,program,Sem.run_bind,Sem.run,run_underlying hu,hi,hisz,Result.andThen_ok,Sem.run_pure,if_neg (show ¬ len * sz > 2 ^ 24 by omega),if_neg h0,hz,hpl,hfill,newRow,newObj,hlen]
  rfl
theorem jlh {o:Oper} {t e:TypeId} {len sz:Nat} {parts:Array (Nat × Operand)} {zc:List CV} {qs:List (Nat × PO)} {i:TypeInfo} {zv:Value} {own:Bool} (ho:o.op=.buildSlice t len parts) (h:Sim O w0 A0 β s (tmf a) w) (hd:dstOk o.dst a.tmps.size)
  (hu:P.underlying t=some (.slice e)) (hi:P.info? e=some i) (hisz:i.size=sz) (hsz:0 < sz) (hbig:len * sz≤2 ^ 24) (hz:i.zero=some zv) (hzc:chkL zv.cells.toList zc=true) (hzl:zc.length=sz) (hp:chkPartsS parts.toList qs=true)
  {s':PS} (hs:pstep o.dst s (.bsl sz len zc qs own)=some s'):Does P o O A0 w0 a w s':=by
 simp only [pstep] at hs
 split at hs
 ·rename_i vs hvs
  split at hs
  ·rename_i es hf
   obtain rfl:=Option.some.inj hs
   obtain ⟨cells,hrun,hflat,hcs⟩:=run_buildSlice h ho hu hi hisz hsz hbig hz hzc hzl hp hvs hf
   have hk:∀ b,b < w.heap.size→(w.alloc (.cells cells e)).heap[b]? = w.heap[b]?:=fun b hb=>by
    show (w.heap.push _)[b]? = _; rw [Array.getElem?_push,if_neg (by omega)]
   have hsize:(w.alloc (.cells cells e)).heap.size=w.heap.size + 1:=Array.size_push _
   have hb:(w.alloc (.cells cells e)).heap[w.heap.size]? = some (.cells cells e (0,0)):=by
    show (w.heap.push _)[w.heap.size]? = _; simp
   have hg:=h.grow (w':=w.alloc (.cells cells e)) rfl rfl rfl (by omega) hk
   have hN:¬ Nn O β s.bx w.heap.size:=h.notNew (Nat.le_refl _)
   refine ⟨_,_,_,β,hrun,.inl rfl,hg.putO _ hd _ _ ?_⟩
   exact (hflat.ext ⟨by omega,fun b hb _=>hk b hb,fun b _ h=>h⟩).closed hb hN (Nat.le_refl _)
  ·rename_i es d hf hdst
   obtain rfl:=Option.some.inj hs
   obtain ⟨cells,hrun,hflat,hcs⟩:=run_buildSlice h ho hu hi hisz hsz hbig hz hzc hzl hp hvs hf
   have hb:(w.alloc (.cells cells e)).heap[w.heap.size]? = some (.cells cells e (0,0)):=by
    show (w.heap.push _)[w.heap.size]? = _; simp
   refine ⟨_,_,_,fun i=>if i=d then some (w.heap.size,0) else β i,hrun,.inl rfl,?_⟩
   rw [hdst]
   refine Yw h (hd _ hdst) cells e _ _ _ (Nat.lt_succ_self _) ?_ ?_
   ·intro N he
    exact (hflat.ext he).box hb
   ·intro N β' bx' hβ hbx
    refine ⟨⟨by rw [hbx]; exact Nat.le_refl _,rfl⟩,fun _ sz' es' hst=>⟨rfl,.inr ⟨w.heap.size,es.length,hβ,rfl,Nat.le_refl _,cells,e,hb,?_⟩⟩⟩
    rw [hbx] at hst
    cases hst
    omega
  ·cases hs
 ·cases hs
theorem jbw {o:Oper} {x:Operand} {sz d:Nat} (ho:o.op=.move x∨o.op=.assign x) (hx:chkPO x (.k (.sl []))=true) (h:Sim O w0 A0 β s (tmf a) w) (hdst:o.dst=some d) (hd:d < a.tmps.size)
  {s':PS} (hs:pstep o.dst s (.own0 sz)=some s'):Does P o O A0 w0 a w s':=by
 simp only [pstep,hdst] at hs
 obtain rfl:=Option.some.inj hs
 have hv:a.eval x=.slice none 0 0:=by
  cases x with
  | const v =>
   simp only [chkPO,chkV] at hx
   cases v <;> simp [chk1] at hx ⊢
   rename_i p l c
   cases p <;> cases l <;> cases c <;> simp [chk1] at hx ⊢ <;> simp [Act.eval]
  | tmp t=>cases hx
  | global g=>cases hx
  | func f=>cases hx
 refine ⟨.value (a.eval x),a.eval x,w,fun i=>if i=d then none else β i,?_,.inl rfl,?_⟩
 ·unfold execOp
  rcases ho with ho | ho <;> simp only [ho,Sem.run_pure]
 ·rw [hdst,vf _ hd,hv]
  refine (h.change (w':=w) d none ⟨(s.bx d).ver + 1,.sl sz []⟩ rfl rfl rfl (Nat.le_refl _) (fun b _ _=>rfl) (.inl (Nat.lt_succ_self _)) (fun p _ hp=>by cases hp) ⟨by simp,.inl ⟨rfl,rfl⟩⟩).put d _ _ ?_
  exact ⟨⟨by simp [PS.box],rfl⟩,fun _ sz' es' hs=>⟨rfl,.inl ⟨by simp,rfl,rfl⟩⟩⟩
end
end Go.Pl
/-
 append: to a slice of the frame's own. My own work.
-/
namespace Go.Pl
open Go
set_option linter.unusedVariables false
section
variable {O : Nat → Prop} {A0 : Lent} {w0 w : World} {β : Bt} {s : PS} {a : Act} {P : Program}
theorem XR {N:Nat→Prop} {v:Value} {ys:List (List CV)} {sz:Nat} (hV:V w N v (.sl ys)) (hsz:0 < sz) (hw:∀ e∈ys,e.length=sz) :
  (∃ n c,∃ b,v=.slice b n c∧n=ys.length)∧∃ cells,(Builtin.firstCells sz ys.length v).run P w=.ok cells w∧Flat w N cells sz ys∧cells.size=ys.length * sz∧∀ x∈cells.toList,x.oneCell'=true:=by
 cases hV with
 | nil=>exact ⟨⟨0,0,none,rfl,rfl⟩,#[],rfl,⟨by simp,by simp,by simp,fun i j hi=>by simp at hi⟩,by simp,by simp⟩
 | emp b cap=>exact ⟨⟨0,cap,some b,rfl,rfl⟩,#[],by simp [Builtin.firstCells,loadCells,loadCellsFrom,Sem.run_pure],⟨by simp,by simp,by simp,fun i j hi=>by simp at hi⟩,by simp,by simp⟩
 | sl b off cap sz' _ c hb hN hz hcap h1 hread hVV =>
  refine ⟨⟨_,_,_,rfl,rfl⟩,_,run_loadCells (P:=P) w ⟨b,off,none⟩ (ys.length * sz) (fun j=>c (j / sz) (j % sz)) ?_,?_,by simp,?_⟩
  ·intro j hj
   have hi:j / sz < ys.length:=by rw [Nat.div_lt_iff_lt_mul hsz]; exact hj
   have hl:ys[j / sz].length=sz:=hw _ (List.getElem_mem hi)
   have:=hread (j / sz) (j % sz) hi (by rw [hl]; exact Nat.mod_lt _ hsz)
   rw [Addr.add_mid,← this]
   have hzz:sz'=sz:=by rw [← hz _ (List.getElem_mem hi),hl]
   rw [hzz,Nat.mul_comm (j / sz) sz,Nat.div_add_mod]
  ·refine ⟨by simp,hw,h1,fun i j hi hj=>⟨c i j,?_,hVV i j hi hj⟩⟩
   have hl:ys[i].length=sz:=hw _ (List.getElem_mem hi)
   have hmul:=kj (sz:=sz) hi
   simp only [List.getElem?_toArray,List.getElem?_map,List.getElem?_range (show i * sz + j < ys.length * sz by omega),Option.map_some]
   rw [show (i * sz + j) / sz=i by rw [Nat.add_comm,Nat.add_mul_div_right _ _ hsz,Nat.div_eq_of_lt (by omega)]; omega,show (i * sz + j) % sz=j by rw [Nat.add_comm,Nat.add_mul_mod_self_right,Nat.mod_eq_of_lt (by omega)]]
  ·intro x hx
   simp only [List.mem_map,List.mem_range] at hx
   obtain ⟨j,hj,rfl⟩:=hx
   have hi:j / sz < ys.length:=by rw [Nat.div_lt_iff_lt_mul hsz]; exact hj
   have hl:ys[j / sz].length=sz:=hw _ (List.getElem_mem hi)
   have hjj:j % sz < ys[j / sz].length:=by rw [hl]; exact Nat.mod_lt _ hsz
   exact (hVV _ _ hi hjj).oneCell (h1 _ (List.getElem_mem hi) _ (List.getElem_mem hjj))
theorem Flat.append {N:Nat→Prop} {arr new:Array Value} {sz:Nat} {es ys:List (List CV)} (h:Flat w N arr sz es) (k:Flat w N new sz ys) (hn:new.size=ys.length * sz) {out:Array Value}
  (hs:es.length * sz + ys.length * sz≤out.size) (h1:∀ m,m < es.length * sz→out[m]? = arr[m]?) (h2:∀ m,m < ys.length * sz→out[es.length * sz + m]? = new[m]?):Flat w N out sz (es++ys):=by
 refine ⟨by rw [List.length_append,Nat.add_mul]; exact hs,?_,?_,?_⟩
 ·intro e he
  rcases List.mem_append.1 he with he | he
  ·exact h.len e he
  ·exact k.len e he
 ·intro e he
  rcases List.mem_append.1 he with he | he
  ·exact h.one e he
  ·exact k.one e he
 ·intro i j hi hj
  by_cases hie:i < es.length
  ·have hg:(es++ys)[i]=es[i]:=List.getElem_append_left hie
   have hj':j < es[i].length:=by rw [hg] at hj; exact hj
   obtain ⟨v,hv,hV⟩:=h.get i j hie hj'
   have hl:es[i].length=sz:=h.len _ (List.getElem_mem hie)
   have:=kj (sz:=sz) hie
   refine ⟨v,by rw [h1 _ (by omega)]; exact hv,?_⟩
   simp only [hg]; exact hV
  ·have hi':i - es.length < ys.length:=by rw [List.length_append] at hi; omega
   have hg:(es++ys)[i]=ys[i - es.length]:=List.getElem_append_right (by omega)
   have hj':j < ys[i - es.length].length:=by rw [hg] at hj; exact hj
   obtain ⟨v,hv,hV⟩:=k.get (i - es.length) j hi' hj'
   have hl:ys[i - es.length].length=sz:=k.len _ (List.getElem_mem hi')
   have:=kj (sz:=sz) hi'
   refine ⟨v,?_,?_⟩
   ·rw [show i * sz + j=es.length * sz + ((i - es.length) * sz + j) by rw [← Nat.add_assoc,← Nat.add_mul]; congr 2; omega,h2 _ (by omega)]
    exact hv
   ·simp only [hg]; exact hV
theorem XT (n:Nat):∀ (r c:Nat),c≤2 * n + 1024→Builtin.growBy n r c≤2 * n + 1024
 | 0,c,h=>h
 | r + 1,c,h=>by
  unfold Builtin.growBy
  split
  ·exact h
  ·exact XT n r _ (by omega)
theorem nextslicecap_le {n c:Nat} (h:c < n):Builtin.nextslicecap n c≤2 * n + 1024:=by
 unfold Builtin.nextslicecap
 split
 ·omega
 ·split
  ·omega
  ·exact XT n 4 c (by omega)
def Hdr (w:World) (p:Option (Nat × Nat)) (sz:Nat) (zs:List (List CV)) (v:Value):Prop :=
 (p=none∧v=.slice none 0 0∧zs=[])∨∃ b cap,p=some (b,0)∧v=.slice (some ⟨b,0,none⟩) zs.length cap∧zs.length≤cap∧OwnB w b (cap * sz)
theorem Hdr.one {w:World} {p:Option (Nat × Nat)} {sz:Nat} {zs:List (List CV)} {v:Value} (h:Hdr w p sz zs v):v.oneCell'=true:=by
 rcases h with ⟨_,h,_⟩ | ⟨_,_,_,h,_⟩ <;> rw [h] <;> rfl
section
variable {t e e2 u ty : TypeId} {i : TypeInfo} {sz : Nat} {zv : Value}
theorem jai (hu:P.underlying t=some (.slice e)) (hu2:P.underlying u=some (.slice e2)) (hi:P.info? e=some i) (hisz:i.size=sz)
  {base:Option Addr} {m cap n:Nat} {y:Value} {new:Array Value} (hl:(Builtin.lenOf y).run P w=.ok n w) (hf:(Builtin.firstCells sz n y).run P w=.ok new w) (hle:m + n≤cap) :
  (Builtin.append_ #[t,u] ty #[.slice base m cap,y]).run P w=match base with
   | none=>.ok (.slice none (m + n) cap) w
   | some ad=>((storeCells (ad.add (m * sz)) new.toList).run P w).andThen fun _ w'=>.ok (.slice (some ad) (m + n) cap) w':=by
 have hti:∀ w:World,(typeInfo e).run P w=.ok i w:=fun w=>by simp [typeInfo,program,Sem.run,Sem.run_bind,hi]
 cases base <;> simp only [Builtin.append_,List.getElem?_toArray,List.getElem?_cons_zero,List.getElem?_cons_succ,Sem.run_bind,run_underlying hu,run_underlying hu2,Result.andThen_ok,sizeOf,hti,hisz,Sem.run_pure,Sem.run_ite,hl,hf,
  Bool.false_eq_true,if_false,Bool.not_false,if_true,if_pos hle]
theorem Zg (hu:P.underlying t=some (.slice e)) (hu2:P.underlying u=some (.slice e2)) (hi:P.info? e=some i) (hisz:i.size=sz) (hby:i.bytes≤16384) (hby0:i.bytes≠0) (hz:i.zero=some zv)
  {base:Option Addr} {m cap n:Nat} {y:Value} {old new:Array Value} (hl:(Builtin.lenOf y).run P w=.ok n w) (hf:(Builtin.firstCells sz n y).run P w.drew=.ok new w.drew) (hfo:(Builtin.firstCells sz m (.slice base m cap)).run P w.drew=.ok old w.drew)
  (hle:¬ m + n≤cap) (hmax:m + n≤maxGrow) :
  ∃ newCap,m + n≤newCap∧(Builtin.append_ #[t,u] ty #[.slice base m cap,y]).run P w =
   .ok (.slice (some ⟨w.heap.size,0,none⟩) (m + n) newCap) (w.drew.alloc (.cells (old++new++Builtin.zeroCells zv.cells (newCap - (m + n))) e)):=by
 have hti:∀ w:World,(typeInfo e).run P w=.ok i w:=fun w=>by simp [typeInfo,program,Sem.run,Sem.run_bind,hi]
 have hm:maxGrow=4294967296:=rfl
 have hcap:=nextslicecap_le (n:=m + n) (c:=cap) (by omega)
 have hbig:¬ Builtin.nextslicecap (m + n) cap * i.bytes > 2 ^ 48:=by
  have:Builtin.nextslicecap (m + n) cap * i.bytes≤(2 * (m + n) + 1024) * 16384:=Nat.mul_le_mul hcap hby
  omega
 have hne:¬ (((m + n:Nat):Int) > IntKind.i64.max):=by
  simp [IntKind.max,IntKind.signed,IntKind.bits]; omega
 have hask:∀ (k:Nat) (w:World),(askRoom k).run P w=.ok () w:=fun k w=>by
  unfold askRoom; split <;> rfl
 refine ⟨Question.cut (.appendCap (m + n) cap e) (w.tape w.drawn (.appendCap (m + n) cap e)),?_,?_⟩
 ·simp only [Question.cut]; omega
 ·have hch:(choose (.appendCap (m + n) cap e)).run P w=.ok (Question.cut (.appendCap (m + n) cap e) (w.tape w.drawn (.appendCap (m + n) cap e))) w.drew:=rfl
  have hdrew:w.drew.heap.size=w.heap.size:=rfl
  generalize Question.cut (.appendCap (m + n) cap e) (w.tape w.drawn (.appendCap (m + n) cap e))=nc at hch ⊢
  simp only [Builtin.append_,List.getElem?_toArray,List.getElem?_cons_zero,List.getElem?_cons_succ,Sem.run_bind,run_underlying hu,run_underlying hu2,Result.andThen_ok,sizeOf,hti,hisz,Sem.run_pure,Sem.run_ite,hl,hfo,hf,
   Bool.false_eq_true,if_false,Bool.not_false,if_true,if_neg hle,hne,false_and,if_neg hbig,hch,hask,zeroValue,hz,newRow,run_newObj_alloc,hdrew]
end
theorem jaj {o:Oper} {c:Call} {t e e2 u:TypeId} {x y:Operand} {i:TypeInfo} {sz:Nat} {zv:Value} (ho:o.op=.call c) (hcal:c.callee=.builtin .append) (hargs:c.args=#[x,y]) (hty:c.argTypes=#[t,u])
  (hu:P.underlying t=some (.slice e)) (hu2:P.underlying u=some (.slice e2)) (hi:P.info? e=some i) (hisz:i.size=sz) (hsz:0 < sz) (hby:i.bytes≤16384) (hby0:i.bytes≠0) (hz:i.zero=some zv) (hzs:zv.cells.size=sz)
  (h:Sim O w0 A0 β s (tmf a) w) {d ver:Nat} {es ys:List (List CV)} (hb:s.bx d=⟨ver,.sl sz es⟩) (hx:Hdr w (β d) sz es (a.eval x)) (hy:V w (Nn O β s.bx) (a.eval y) (.sl ys)) (hr:es.length + ys.length≤maxGrow) (hw:∀ e∈ys,e.length=sz) :
  ∃ v w' p',(execOp a.eval o).run P w=.ok (.value v) w'∧Hdr w' p' sz (es++ys) v∧Sim O w0 A0 (fun i=>if i=d then p' else β i) (s.box d ⟨ver + 1,.sl sz (es++ys)⟩) (tmf a) w':=by
 obtain ⟨⟨n2,c2,b2,hyv,hn2⟩,new,hnew,hflat,hns,hone⟩:=XR (P:=P) hy hsz hw
 have howned:(s.bx d).st.owned=true:=by rw [hb]; rfl
 have hBR:=h.boxes d
 rw [hb] at hBR
 have hlen2:(Builtin.lenOf (a.eval y)).run P w=.ok ys.length w:=by rw [hyv,hn2]; rfl
 obtain ⟨base,cap,he⟩:∃ base cap,a.eval x=.slice base es.length cap:=by
  rcases hx with ⟨_,hv,rfl⟩ | ⟨b,cap,_,hv,_,_⟩
  ·exact ⟨_,_,hv⟩
  ·exact ⟨_,_,hv⟩
 have hexec:∀ r,(Builtin.append_ #[t,u] o.type #[.slice base es.length cap,a.eval y]).run P w=r→(execOp a.eval o).run P w=r.andThen fun v w'=>.ok (.value v) w':=by
  intro r hr
  have hargs':c.args.map a.eval=#[.slice base es.length cap,a.eval y]:=by rw [hargs]; simp [he]
  unfold execOp
  simp only [ho,hcal,resolve,invoke,builtin,Sem.run_bind,Sem.run_pure,Result.andThen_ok,hargs',hty,hr]
 by_cases hfit:es.length + ys.length≤cap
 ·have hrun:=hexec _ (jai (ty:=o.type) hu hu2 hi hisz (base:=base) hlen2 hnew hfit)
  rcases hx with ⟨hp,hv,rfl⟩ | ⟨b,cap',hp,hv,hlc,hown⟩
  ·-- nothing to nothing
   obtain ⟨rfl,_,rfl⟩:=Value.slice.inj (he.symm.trans hv)
   have hy0:ys=[]:=by simp at hfit; exact hfit
   subst hy0
   exact ⟨.slice none 0 0,w,none,hrun,.inl ⟨rfl,rfl,rfl⟩,h.change (w':=w) d none ⟨ver + 1,.sl sz []⟩ rfl rfl rfl (Nat.le_refl _) (fun b _ _=>rfl) (.inl (by rw [hb]; exact Nat.lt_succ_self _)) (fun p _ hp=>by cases hp) ⟨by simp,.inl ⟨rfl,rfl⟩⟩⟩
  ·obtain ⟨rfl,_,rfl⟩:=Value.slice.inj (he.symm.trans hv)
   rw [hp] at hBR
   obtain ⟨arr,el,hheap,hfe⟩:=Flat.of_box hBR
   obtain ⟨arr',el',hheap',hcsz⟩:=hown
   rw [hheap] at hheap'
   cases hheap'
   have hmulc:es.length * sz + ys.length * sz≤cap * sz:=by rw [← Nat.add_mul]; exact Nat.mul_le_mul_right _ hfit
   have hst:=run_storeCells_at (P:=P) b (es.length * sz) el new.toList 0 arr w hheap (by simp; omega) hone
   simp only [Nat.add_zero,Array.length_toList] at hst
   simp only [Addr.add_mid,Nat.zero_add,hst,Result.andThen_ok] at hrun
   have hsz':(arr.toList.take (es.length * sz)++new.toList++arr.toList.drop (es.length * sz + new.size)).toArray.size=arr.size:=by simp; omega
   have hheap2:=setRow_heap w b arr (arr.toList.take (es.length * sz)++new.toList++arr.toList.drop (es.length * sz + new.size)).toArray el _ hheap
   refine ⟨_,_,some (b,0),hrun,.inr ⟨b,cap,rfl,by rw [List.length_append],by rw [List.length_append]; exact hfit,_,el,hheap2,by rw [hsz']; exact hcsz⟩,?_⟩
   refine h.change (w':=w.setRow b _) d (some (b,0)) ⟨ver + 1,.sl sz (es++ys)⟩ rfl rfl rfl (by rw [setRow_size]; exact Nat.le_refl _) (fun k hk hne=>setRow_other w b k _ (hne _ howned hp)) (.inl (by rw [hb]; exact Nat.lt_succ_self _))
    (fun p _ hq=>.inl ⟨howned,(b,0),hp,by have:=Option.some.inj hq; rw [← this]⟩) ?_
   refine Flat.box ?_ hheap2
   have hext:Ext w (Nn O β s.bx) (w.setRow b (arr.toList.take (es.length * sz)++new.toList++arr.toList.drop (es.length * sz + new.size)).toArray) (Nn O (fun i=>if i=d then some (b,0) else β i) (fun i=>if i=d then ⟨ver + 1,.sl sz (es++ys)⟩ else s.bx i)):=by
    refine ⟨by rw [setRow_size]; exact Nat.le_refl _,fun q hq hN=>setRow_other w b q _ (fun e=>hN (.inr ⟨d,0,howned,by rw [hp,e]⟩)),fun q hq hN=>?_⟩
    rcases hN with hN | ⟨r,base',hr,hr'⟩
    ·exact .inl hN
    ·by_cases e:r=d
     ·subst e; simp only [if_true] at hr'; exact .inr ⟨r,base',howned,by rw [hp]; exact hr'⟩
     ·simp only [if_neg e] at hr hr'; exact .inr ⟨r,base',hr,hr'⟩
   refine (hfe.ext hext).append (hflat.ext hext) hns (by rw [hsz']; omega) ?_ ?_
   ·intro m hm
    simp only [List.getElem?_toArray]
    rw [List.append_assoc,List.getElem?_append_left (by simp; omega),List.getElem?_take,if_pos hm,Array.getElem?_toList]
   ·intro m hm
    simp only [List.getElem?_toArray]
    rw [List.append_assoc,List.getElem?_append_right (by simp; omega),List.getElem?_append_left (by simp; omega)]
    simp only [List.length_take,Array.length_toList,Array.getElem?_toList]
    congr 1
    omega
 ·-- a new row
  have hx':=hx
  have hold:∃ old,(Builtin.firstCells sz es.length (.slice base es.length cap)).run P w.drew=.ok old w.drew∧Flat w (Nn O β s.bx) old sz es∧old.size=es.length * sz:=by
   rcases hx with ⟨hp,hv,rfl⟩ | ⟨b,cap',hp,hv,hlc,hown⟩
   ·obtain ⟨rfl,_,rfl⟩:=Value.slice.inj (he.symm.trans hv)
    exact ⟨#[],rfl,⟨by simp,by simp,by simp,fun i j hi=>by simp at hi⟩,by simp⟩
   ·obtain ⟨rfl,_,rfl⟩:=Value.slice.inj (he.symm.trans hv)
    rw [hp] at hBR
    obtain ⟨arr,el,hheap,hfe⟩:=Flat.of_box hBR
    have hcell:∀ j,j < es.length * sz→w.drew.cell? ((⟨b,0,none⟩:Addr).add j)=some (arr.getD j undef):=by
     intro j hj
     have hj':j < arr.size:=by have:=hfe.size; omega
     have hheap':w.drew.heap[b]? = some (.cells arr el (0,0)):=hheap
     rw [Addr.add_mid]
     simp only [World.cell?,hheap',Nat.zero_add,Option.isSome_none,Bool.false_eq_true,if_false]
     simp [hj']
    refine ⟨_,run_loadCells (P:=P) w.drew ⟨b,0,none⟩ (es.length * sz) (fun j=>arr.getD j undef) hcell,?_,by simp⟩
    refine ⟨by simp,hfe.len,hfe.one,fun p q hp' hq=>?_⟩
    obtain ⟨v,hv,hV⟩:=hfe.get p q hp' hq
    have hl:es[p].length=sz:=hfe.len _ (List.getElem_mem hp')
    have:=kj (sz:=sz) hp'
    refine ⟨v,?_,hV⟩
    simp only [List.getElem?_toArray,List.getElem?_map,List.getElem?_range (show p * sz + q < es.length * sz by omega),Option.map_some,Array.getD_eq_getD_getElem?,hv,Option.getD_some]
  obtain ⟨old,hold,hfo,hos⟩:=hold
  have hd:Sim O w0 A0 β s (tmf a) w.drew:=h.grow rfl rfl rfl (Nat.le_refl _) fun _ _=>rfl
  have hydrew:V w.drew (Nn O β s.bx) (a.eval y) (.sl ys):=V.ext (w:=w) (w':=w.drew) ⟨Nat.le_refl _,fun _ _ _=>rfl,fun _ _ h=>h⟩ hy
  obtain ⟨_,new',hnew',hflat',hns',_⟩:=XR (P:=P) hydrew hsz hw
  obtain ⟨nc,hnc,hrun⟩:=Zg (ty:=o.type) hu hu2 hi hisz hby hby0 hz (base:=base) (cap:=cap) hlen2 hnew' hold hfit hr
  have hrun:=hexec _ hrun
  have hoseq:∀ cells:Array Value,(w.drew.alloc (.cells cells e)).heap[w.heap.size]? = some (.cells cells e (0,0)):=fun cells=>by
   show (w.heap.push _)[w.heap.size]? = _; simp
  have hk:∀ (cells:Array Value) b,b < w.heap.size→(w.drew.alloc (.cells cells e)).heap[b]? = w.heap[b]?:=fun cells b hb=>by
   show (w.heap.push _)[b]? = _; rw [Array.getElem?_push,if_neg (by omega)]
  have hsize:∀ cells:Array Value,(w.drew.alloc (.cells cells e)).heap.size=w.heap.size + 1:=fun cells=>Array.size_push _
  have htot:es.length * sz + ys.length * sz + (nc - (es.length + ys.length)) * sz=nc * sz:=by rw [← Nat.add_mul,← Nat.add_mul]; congr 1; omega
  have hcells:(old++new'++Builtin.zeroCells zv.cells (nc - (es.length + ys.length))).size=nc * sz:=by
   simp only [Array.size_append,hos,hns',Builtin.zeroCells,Array.size_map,Array.size_range,hzs]; exact htot
  refine ⟨_,_,some (w.heap.size,0),hrun,.inr ⟨w.heap.size,nc,rfl,by rw [List.length_append],by rw [List.length_append]; exact hnc,_,e,hoseq _,?_⟩,?_⟩
  ·rw [hcells]; exact Nat.le_refl _
  ·refine h.change (w':=w.drew.alloc _) d (some (w.heap.size,0)) ⟨ver + 1,.sl sz (es++ys)⟩ rfl rfl rfl (by rw [hsize]; omega) (fun k hk' _=>hk _ k hk') (.inl (by rw [hb]; exact Nat.lt_succ_self _))
    (fun p _ hq=>.inr (by have:=Option.some.inj hq; rw [← this]; exact ⟨Nat.le_refl _,by rw [hsize]; exact Nat.lt_succ_self _⟩)) ?_
   refine Flat.box ?_ (hoseq _)
   have hext:Ext w (Nn O β s.bx) (w.drew.alloc (.cells (old++new'++Builtin.zeroCells zv.cells (nc - (es.length + ys.length))) e)) (Nn O (fun i=>if i=d then some (w.heap.size,0) else β i) (fun i=>if i=d then ⟨ver + 1,.sl sz (es++ys)⟩ else s.bx i)):=by
    refine ⟨by rw [hsize]; omega,fun q hq _=>hk _ q hq,fun q hq hN=>?_⟩
    rcases hN with hN | ⟨r,base',hr,hr'⟩
    ·exact .inl hN
    ·by_cases e:r=d
     ·subst e; simp only [if_true,Option.some.injEq,Prod.mk.injEq] at hr'; omega
     ·simp only [if_neg e] at hr hr'; exact .inr ⟨r,base',hr,hr'⟩
   have hfl':Flat w (Nn O β s.bx) new' sz ys:=⟨hflat'.size,hflat'.len,hflat'.one,fun i j hi hj=>by
    obtain ⟨v,hv,hV⟩:=hflat'.get i j hi hj
    exact ⟨v,hv,V.ext (w:=w.drew) (w':=w) ⟨Nat.le_refl _,fun _ _ _=>rfl,fun _ _ h=>h⟩ hV⟩⟩
   refine (hfo.ext hext).append (hfl'.ext hext) hns' (by rw [hcells]; omega) ?_ ?_
   ·intro m hm
    rw [Array.append_assoc,Array.getElem?_append_left (by omega)]
   ·intro m hm
    rw [Array.append_assoc,Array.getElem?_append_right (by omega),Array.getElem?_append_left (by omega),hos]
    congr 1
    omega
end
end Go.Pl
/-
 append,as the plain step has it; a slice that is frozen. My own work.
-/
namespace Go.Pl
open Go
set_option linter.unusedVariables false
section
variable {O : Nat → Prop} {A0 : Lent} {w0 w : World} {β : Bt} {s : PS} {a : Act} {P : Program}
theorem Does.mk {o:Oper} {s':PS} {v:Value} {w':World} {β':Bt} (hr:(execOp a.eval o).run P w=.ok (.value v) w') (h:Sim O w0 A0 β' s' (tmf (a.put o.dst v)) w'):Does P o O A0 w0 a w s' :=
 ⟨_,v,w',β',hr,.inl rfl,h⟩
theorem Sim.kill {tm:Nat→Value} (h:Sim O w0 A0 β s tm w) (d:Nat):Sim O w0 A0 β (s.box d ⟨(s.bx d).ver,.dead⟩) tm w:=by
 have:=h.change (w':=w) d (β d) ⟨(s.bx d).ver,.dead⟩ rfl rfl rfl (Nat.le_refl _) (fun b _ _=>rfl) (.inr ⟨rfl,.inl rfl⟩) (fun p ho=>by cases ho) trivial
 have e:(fun i=>if i=d then β d else β i)=β:=by funext i; split <;> simp_all
 rw [e] at this
 exact this
theorem jfa (d:Nat) (v:Nat):Ext w (Nn O β s.bx) w (Nn O β (s.box d ⟨v,.dead⟩).bx):=by
 refine .of_less fun b hb=>?_
 rcases hb with hb | ⟨i,base,ho,hi⟩
 ·exact .inl hb
 ·by_cases e:i=d
  ·simp only [PS.box,if_pos e] at ho; cases ho
  ·simp only [PS.box,if_neg e] at ho; exact .inr ⟨i,base,ho,hi⟩
theorem Zh {tm:Nat→Value} (h:Sim O w0 A0 β s tm w) {d v b:Nat} {base:Nat} (ho:(s.bx d).st.owned=true) (hb:β d=some (b,base)):¬ Nn O β (s.box d ⟨v,.dead⟩).bx b:=by
 rintro (hn | ⟨i,base',hi,hbi⟩)
 ·exact (h.out d _ ho hb).1 hn
 ·by_cases e:i=d
  ·simp only [PS.box,if_pos e] at hi; cases hi
  ·simp only [PS.box,if_neg e] at hi
   exact h.inj i d _ _ e hi ho hbi hb rfl
theorem wt {tm:Nat→Value} (h:Sim O w0 A0 β s tm w) {d sz:Nat} {es:List (List CV)} (hst:(s.bx d).st=.sl sz es) {v:Value} (hv:Hdr w (β d) sz es v) (q:Nat) :
  V w (Nn O β (s.box d ⟨q,.dead⟩).bx) v (.sl es):=by
 have ho:(s.bx d).st.owned=true:=by rw [hst]; rfl
 rcases hv with ⟨_,rfl,rfl⟩ | ⟨b,cap,hb,rfl,hl,_⟩
 ·exact V.nil
 ·have hB:=h.boxes d
  rw [hst,hb] at hB
  obtain ⟨arr,el,hheap,hfl⟩:=Flat.of_box hB
  exact (hfl.ext (jfa d q)).closed hheap (Zh h ho hb) hl
theorem wM {N:Nat→Prop} {v:Value} {d ver off len sz:Nat} {es:List (List CV)} (hR:R w N β s.bx v (.osl d ver off len)) (hb:s.bx d=⟨ver,.sl sz es⟩) (hl:len=es.length)
  (hbr:BR w N (β d) (.sl sz es)):Hdr w (β d) sz es v:=by
 obtain ⟨_,hor⟩:=hR.2 (by rw [hb]) sz es (by rw [hb])
 subst hl
 rcases hor with ⟨h1,h2,h3⟩ | ⟨b,cap,h1,h2,h3,h4⟩
 ·refine .inl ⟨h1,h2,List.eq_nil_of_length_eq_zero h3⟩
 ·exact .inr ⟨b,cap,h1,h2,h3,h4⟩
theorem Sim.move {tm:Nat→Value} (h:Sim O w0 A0 β s tm w) {d e sz:Nat} {es:List (List CV)} (hde:d≠e) (hst:(s.bx d).st=.sl sz es) :
  Sim O w0 A0 (fun i=>if i=e then β d else β i) ((s.box d ⟨(s.bx d).ver,.dead⟩).box e ⟨(s.bx e).ver + 1,.sl sz es⟩) tm w:=by
 have hod:(s.bx d).st.owned=true:=by rw [hst]; rfl
 have hless:∀ b,Nn O (fun i=>if i=e then β d else β i) ((s.box d ⟨(s.bx d).ver,.dead⟩).box e ⟨(s.bx e).ver + 1,.sl sz es⟩).bx b→Nn O β s.bx b:=by
  rintro b (hb | ⟨i,base,ho,hi⟩)
  ·exact .inl hb
  ·by_cases ei:i=e
   ·simp only [if_pos ei] at hi; exact .inr ⟨d,base,hod,hi⟩
   ·simp only [if_neg ei] at hi
    by_cases ed:i=d
    ·simp only [PS.box,if_neg ei,if_pos ed] at ho; cases ho
    ·simp only [PS.box,if_neg ei,if_neg ed] at ho; exact .inr ⟨i,base,ho,hi⟩
 have hext:=Ext.of_less (w:=w) hless
 have hcomp:∀ i,Compat w w (β i) ((fun i=>if i=e then β d else β i) i) (s.bx i) (((s.box d ⟨(s.bx d).ver,.dead⟩).box e ⟨(s.bx e).ver + 1,.sl sz es⟩).bx i):=by
  intro i
  by_cases ei:i=e
  ·subst ei; simp only [PS.box,if_true]; exact .inl (Nat.lt_succ_self _)
  ·by_cases ed:i=d
   ·subst ed; simp only [PS.box,if_neg ei,if_true]; exact .inr ⟨rfl,.inl rfl⟩
   ·simp only [PS.box,if_neg ei,if_neg ed]; exact Compat.same fun _ _ _ _ h=>h
 refine ⟨h.os,h.tape,h.output,h.size,h.keep,fun i=>(h.temps i).change hext hcomp,?_,?_,?_,h.outer,?_,?_,?_,?_⟩
 ·intro i
  have hB:=h.boxes i
  by_cases ei:i=e
  ·subst ei
   simp only [PS.box,if_true]
   have hB:=h.boxes d
   rw [hst] at hB
   refine ⟨hB.1,?_⟩
   rcases hB.2 with hb | ⟨b,hp,ho,hc⟩
   ·exact .inl hb
   ·exact .inr ⟨b,hp,ho,fun i hi=>(hc i hi).ext hext rfl⟩
  ·by_cases ed:i=d
   ·simp only [PS.box,if_neg ei,if_pos ed]; trivial
   ·simp only [PS.box,if_neg ei,if_neg ed]
    cases hsi:(s.bx i).st with
    | var cs =>
     rw [hsi] at hB
     obtain ⟨b,base,hp,ho,hc⟩:=hB
     exact ⟨b,base,hp,ho,hc.ext hext rfl⟩
    | vp cs=>trivial
    | mp es'=>trivial
    | sl sz' es' =>
     rw [hsi] at hB
     refine ⟨hB.1,?_⟩
     rcases hB.2 with hb | ⟨b,hp,ho,hc⟩
     ·exact .inl hb
     ·exact .inr ⟨b,hp,ho,fun i hi=>(hc i hi).ext hext rfl⟩
    | dead=>trivial
 ·intro i j p q hij hi hj hp hq
  have key:∀ i p,(((s.box d ⟨(s.bx d).ver,.dead⟩).box e ⟨(s.bx e).ver + 1,.sl sz es⟩).bx i).st.owned=true→(if i=e then β d else β i)=some p →
    ∃ k,(k=if i=e then d else i)∧(s.bx k).st.owned=true∧β k=some p∧(i≠e→i≠d):=by
   intro i p hi hp
   by_cases ei:i=e
   ·simp only [if_pos ei] at hp ⊢; exact ⟨d,rfl,hod,hp,fun h=>absurd ei h⟩
   ·by_cases ed:i=d
    ·simp only [PS.box,if_neg ei,if_pos ed] at hi; cases hi
    ·simp only [PS.box,if_neg ei,if_neg ed] at hi; simp only [if_neg ei] at hp ⊢; exact ⟨i,rfl,hi,hp,fun _=>ed⟩
  obtain ⟨k,hk,hko,hkp,hkd⟩:=key i p hi hp
  obtain ⟨m,hm,hmo,hmp,hmd⟩:=key j q hj hq
  refine h.inj k m p q ?_ hko hmo hkp hmp
  intro e'
  subst hk; subst hm
  by_cases ei:i=e <;> by_cases ej:j=e
  ·exact hij (ei.trans ej.symm)
  ·rw [if_pos ei,if_neg ej] at e'; exact hmd ej e'.symm
  ·rw [if_neg ei,if_pos ej] at e'; exact hkd ei e'
  ·rw [if_neg ei,if_neg ej] at e'; exact hij e'
 ·intro i p hi hp
  by_cases ei:i=e
  ·simp only [if_pos ei] at hp; exact h.out d p hod hp
  ·by_cases ed:i=d
   ·simp only [PS.box,if_neg ei,if_pos ed] at hi; cases hi
   ·simp only [PS.box,if_neg ei,if_neg ed] at hi; simp only [if_neg ei] at hp; exact h.out i p hi hp
 ·intro i ps hi
  by_cases ei:i=e
  ·subst ei; simp only [PS.box,if_true] at hi; cases hi
  ·by_cases ed:i=d
   ·simp only [PS.box,if_neg ei,if_pos ed] at hi; cases hi
   ·simp only [PS.box,if_neg ei,if_neg ed] at hi
    obtain ⟨b,base,hp,ho,hc⟩:=h.vps i ps hi
    exact ⟨b,base,by simp only [if_neg ei]; exact hp,ho,hc.change hext hcomp rfl⟩
 ·intro i es' hi
  by_cases ei:i=e
  ·subst ei; simp only [PS.box,if_true] at hi; cases hi
  ·by_cases ed:i=d
   ·simp only [PS.box,if_neg ei,if_pos ed] at hi; cases hi
   ·simp only [PS.box,if_neg ei,if_neg ed] at hi
    obtain ⟨b,hp,hm⟩:=h.mps i es' hi
    exact ⟨b,by simp only [if_neg ei]; exact hp,hm.change hext hcomp rfl⟩
 ·intro sz2 es2 hv hst q n hq hw
  by_cases ei:0=e
  ·subst ei; simp [PS.box] at hv
  ·by_cases ed:0=d
   ·simp only [PS.box,if_neg ei,if_pos ed] at hst; cases hst
   ·simp only [PS.box,if_neg ei,if_neg ed] at hv hst
    simp only [if_neg ei] at hq
    exact h.wide sz2 es2 hv hst q n hq hw
 ·intro i hi ho
  by_cases ei:i=e
  ·subst ei; simp [PS.box] at hi
  ·by_cases ed:i=d
   ·simp only [PS.box,if_neg ei,if_pos ed] at ho; cases ho
   ·simp only [PS.box,if_neg ei,if_neg ed] at hi ho
    simp only [if_neg ei]
    exact h.still i hi ho
theorem wO (s:PS) (d:Nat) (b b':Box):(s.box d b).box d b'=s.box d b':=by
 simp only [PS.box,PS.mk.injEq,true_and]; funext i; split <;> rfl
theorem jli {o:Oper} {c:Call} {t e e2 u:TypeId} {x y:Operand} {x' y':PO} {i:TypeInfo} {sz:Nat} {zv:Value} {own:Bool} (ho:o.op=.call c) (hcal:c.callee=.builtin .append) (hargs:c.args=#[x,y]) (hty:c.argTypes=#[t,u])
  (h:Sim O w0 A0 β s (tmf a) w) (hd:dstOk o.dst a.tmps.size) (hcx:chkPO x x'=true) (hcy:chkPO y y'=true)
  (hu:P.underlying t=some (.slice e)) (hu2:P.underlying u=some (.slice e2)) (hi:P.info? e=some i) (hisz:i.size=sz) (hsz:0 < sz) (hby:i.bytes≤16384) (hby0:i.bytes≠0) (hz:i.zero=some zv) (hzs:zv.cells.size=sz)
  {s':PS} (hs:pstep o.dst s (.app sz x' y' own)=some s'):Does P o O A0 w0 a w s':=by
 simp only [pstep] at hs
 split at hs
 ·rename_i k d ver off len ys hdst hx hy
  split at hs
  ·rename_i q sz' es hb
   split at hs
   ·rename_i hc
    obtain ⟨rfl,rfl,rfl,hlen,hr,hw⟩:=hc
    have hR:=vW h hcx
    rw [hx] at hR
    have hB:=h.boxes d
    rw [hb] at hB
    obtain ⟨v,w',p',hrun,hH,hS⟩:=jaj ho hcal hargs hty hu hu2 hi hisz hsz hby hby0 hz hzs h hb (wM hR hb hlen hB) (jX h hcy hy) hr hw
    have hkd:=hd k hdst
    have hd1:(s.box d ⟨q + 1,.sl sz' (es++ys)⟩).bx d=⟨q + 1,.sl sz' (es++ys)⟩:=by simp [PS.box]
    have hb1:(fun i=>if i=d then p' else β i) d=p':=by simp
    split at hs
    ·-- as the frame's own
     obtain rfl:=Option.some.inj hs
     by_cases hdk:d=k
     ·subst hdk
      have e1:(s.box d ⟨q + 1,.dead⟩).box d ⟨(s.bx d).ver + 1,.sl sz' (es++ys)⟩=s.box d ⟨q + 1,.sl sz' (es++ys)⟩:=by rw [wO,hb]
      rw [e1]
      refine Does.mk (β':=fun i=>if i=d then p' else β i) hrun ?c
      case c =>
       rw [hdst,vf _ hkd]
       refine hS.put d _ v ?_
       refine ⟨⟨?_,hH.one⟩,fun _ sz2 es2 hs2=>⟨rfl,?_⟩⟩
       ·rw [hd1,hb]; exact Nat.le_refl _
       ·rw [hd1] at hs2
        cases hs2
        simp only [if_true]
        rcases hH with ⟨h1,h2,h3⟩ | ⟨b,cap,h1,h2,h3,h4⟩
        ·exact .inl ⟨h1,h2,by rw [h3]; rfl⟩
        ·exact .inr ⟨b,cap,h1,h2,h3,h4⟩
     ·have hmv:=hS.move (d:=d) (e:=k) (sz:=sz') (es:=es++ys) hdk (by rw [hd1])
      have e1:((s.box d ⟨q + 1,.sl sz' (es++ys)⟩).box d ⟨((s.box d ⟨q + 1,.sl sz' (es++ys)⟩).bx d).ver,.dead⟩)=s.box d ⟨q + 1,.dead⟩:=by rw [hd1,wO]
      have e2:((s.box d ⟨q + 1,.sl sz' (es++ys)⟩).bx k).ver=(s.bx k).ver:=by simp [PS.box,Ne.symm hdk]
      rw [e1,e2] at hmv
      refine Does.mk (β':=fun i=>if i=k then (if d=d then p' else β d) else (if i=d then p' else β i)) hrun ?c
      case c =>
       rw [hdst,vf _ hkd]
       have hbk:((s.box d ⟨q + 1,.dead⟩).box k ⟨(s.bx k).ver + 1,.sl sz' (es++ys)⟩).bx k=⟨(s.bx k).ver + 1,.sl sz' (es++ys)⟩:=by simp [PS.box]
       refine hmv.put k _ v ?_
       refine ⟨⟨?_,hH.one⟩,fun _ sz2 es2 hs2=>⟨rfl,?_⟩⟩
       ·rw [hbk]; exact Nat.le_refl _
       ·rw [hbk] at hs2
        cases hs2
        simp only [if_true]
        rcases hH with ⟨h1,h2,h3⟩ | ⟨b,cap,h1,h2,h3,h4⟩
        ·exact .inl ⟨h1,h2,by rw [h3]; rfl⟩
        ·exact .inr ⟨b,cap,h1,h2,h3,h4⟩
    ·-- closed
     obtain rfl:=Option.some.inj hs
     have hK:=hS.kill d
     have hV:=wt hS (d:=d) (sz:=sz') (es:=es++ys) (by rw [hd1]) (v:=v) (by simpa using hH) (q + 1)
     have e1:((s.box d ⟨q + 1,.sl sz' (es++ys)⟩).box d ⟨((s.box d ⟨q + 1,.sl sz' (es++ys)⟩).bx d).ver,.dead⟩)=s.box d ⟨q + 1,.dead⟩:=by rw [hd1,wO]
     rw [e1] at hK
     rw [wO] at hV
     refine Does.mk (β':=fun i=>if i=d then p' else β i) hrun ?c
     case c =>
      rw [hdst,vf _ hkd]
      exact hK.put k _ v hV
   ·cases hs
  ·cases hs
 ·cases hs
theorem Sim.fz (h:Sim O w0 A0 β s (tmf a) w) {i d ver off len:Nat} (hi:s.t i=.osl d ver off len) {v:CV} (hc:s.close (.osl d ver off len)=some v) :
  Sim O w0 A0 β ((s.box d ⟨ver,.dead⟩).put i (.c v)) (tmf a) w:=by
 have hR:=h.temps i
 rw [hi] at hR
 simp only [PS.close] at hc
 split at hc
 ·rename_i q sz es hb
  split at hc
  ·rename_i hcond
   obtain ⟨rfl,rfl,hl⟩:=hcond
   obtain rfl:=Option.some.inj hc
   have hB:=h.boxes d
   rw [hb] at hB
   have hV:=wt h (d:=d) (sz:=sz) (es:=es) (by rw [hb]) (wM hR hb hl hB) q
   have hK:=h.kill d
   rw [hb] at hK
   have hput:=hK.put i (.c (.sl es)) (tmf a i) hV
   have e:(fun j=>if j=i then tmf a i else tmf a j)=tmf a:=by funext j; split <;> simp_all
   rw [e] at hput
   exact hput
  ·cases hc
 ·cases hc
end
end Go.Pl
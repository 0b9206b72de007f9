/- Part of the proof of ExecTells, ExecAnswers, ExecBest, ExecFirst, ExecLevels, ExecTops, ExecLimits: lemmas. -/
import Derived.Test.YtnpncbplhdnonaaGreatExecS1
import Derived.Laws.Cells
import Derived.Laws.CopyRow
import Derived.Laws.Entries
import Derived.Deep.MidRow
import Derived.AtR
import Derived.Laws.Tables
set_option linter.unusedVariables false
set_option linter.unusedSimpArgs false
/-
 WHAT A PLAIN STATE SAYS OF A FRAME AND A WORLD: closed values read in memory that nobody writes; boxes are blocks of the frame's own. My own work.
-/
namespace Go.Pl
inductive V (w:World) (N:Nat→Prop):Value→CV→Prop where
 | int (k:IntKind) (n:Int):V w N (.int k n) (.int k n)
 | bool (b:Bool):V w N (.bool b) (.bool b)
 | str (s:ByteArray):V w N (.string s) (.str s)
 | nilp:V w N (.pointer none) .nilp
 | nili:V w N .nilIface .nili
 | nilf:V w N .nilFunc .nilf
 | iface (t:TypeId) (v:Value) (c:CV) (h:V w N v c):V w N (.iface t v) (.iface t c)
 | agg (vs:Array Value) (cs:List CV) (hl:vs.size=cs.length) (h1:∀ c∈cs,c.one=true)
   (h:∀ (i:Nat) (h1:i < vs.size) (h2:i < cs.length),V w N vs[i] cs[i]):V w N (.agg vs) (.agg cs)
 | tup (vs:Array Value) (cs:List CV) (hl:vs.size=cs.length)
   (h:∀ (i:Nat) (h1:i < vs.size) (h2:i < cs.length),V w N vs[i] cs[i]):V w N (.tuple vs) (.tup cs)
 | fn (f:Fn) (vs:Array Value) (cs:List CV) (hl:vs.size=cs.length)
   (h:∀ (i:Nat) (h1:i < vs.size) (h2:i < cs.length),V w N vs[i] cs[i]):V w N (.func f #[] vs) (.fn f cs)
 | clo (f:FuncId) (vs:Array Value) (caps:List (List CV)) (b o:Nat→Nat) (c:Nat→Nat→Value) (hl:vs.size=caps.length) (hv:∀ (i:Nat) (h:i < vs.size),vs[i]=.pointer (some ⟨b i,o i,none⟩)) (hb:∀ i,i < caps.length→b i < w.heap.size∧¬ N (b i))
   (h1:∀ e∈caps,∀ c∈e,c.one=true) (hr:∀ (i j:Nat) (hi:i < caps.length) (_:j < caps[i].length),w.cell? ⟨b i,o i + j,none⟩=some (c i j))
   (h:∀ (i j:Nat) (hi:i < caps.length) (hj:j < caps[i].length),V w N (c i j) caps[i][j]):V w N (.func (.func f) #[] vs) (.clo f caps)
 | map (b:Nat) (arr:Array MapEntry) (clock:Nat) (es:List (CV × CV)) (hb:b < w.heap.size) (hN:¬ N b) (hr:w.heap[b]? = some (.map arr clock)) (hc:∀ e∈arr.toList,e.born < clock) (hd:arr.toList.Pairwise fun e f=>e.born≠f.born) (hl:arr.size=es.length)
   (hk:∀ (i:Nat) (h1:i < arr.size) (h2:i < es.length),V w N arr[i].key es[i].1) (hv:∀ (i:Nat) (h1:i < arr.size) (h2:i < es.length),V w N arr[i].val es[i].2):V w N (.map (some b)) (.map es)
 | nils:V w N (.slice none 0 0) .nils
 | nil:V w N (.slice none 0 0) (.sl [])
 | emp (a:Addr) (cap:Nat):V w N (.slice (some a) 0 cap) (.sl [])
 | sl (b off cap sz:Nat) (es:List (List CV)) (c:Nat→Nat→Value) (hb:b < w.heap.size) (hN:¬ N b) (hz:∀ e∈es,e.length=sz) (hc:es.length≤cap)
   (h1:∀ e∈es,∀ c∈e,c.one=true)
   (hr:∀ (i j:Nat) (hi:i < es.length) (_:j < es[i].length),w.cell? ⟨b,off + (i * sz + j),none⟩=some (c i j))
   (h:∀ (i j:Nat) (hi:i < es.length) (hj:j < es[i].length),V w N (c i j) es[i][j]):V w N (.slice (some ⟨b,off,none⟩) es.length cap) (.sl es)
theorem V.oneCell {w:World} {N:Nat→Prop} {v:Value} {c:CV} (h:V w N v c) (h1:c.one=true):v.oneCell'=true:=by
 cases h <;> first | rfl | (simp [CV.one] at h1)
structure Ext (w:World) (N:Nat→Prop) (w':World) (N':Nat→Prop):Prop where
 size:w.heap.size≤w'.heap.size
 keep:∀ b,b < w.heap.size→¬ N b→w'.heap[b]? = w.heap[b]?
 less:∀ b,b < w.heap.size→N' b→N b
theorem Ext.refl (w:World) (N:Nat→Prop):Ext w N w N:=⟨Nat.le_refl _,fun _ _ _=>rfl,fun _ _ h=>h⟩
theorem Ext.of_less {w:World} {N N':Nat→Prop} (h:∀ b,N' b→N b):Ext w N w N':=⟨Nat.le_refl _,fun _ _ _=>rfl,fun b _=>h b⟩
theorem Ext.cell {w w':World} {N N':Nat→Prop} (e:Ext w N w' N') {b o:Nat} (hb:b < w.heap.size) (hN:¬ N b):w'.cell? ⟨b,o,none⟩=w.cell? ⟨b,o,none⟩:=by
 simp only [World.cell?,e.keep b hb hN]
theorem V.ext {w w':World} {N N':Nat→Prop} (e:Ext w N w' N') {v:Value} {c:CV} (h:V w N v c):V w' N' v c:=by
 induction h with
 | int k n=>exact .int k n
 | bool b=>exact .bool b
 | str s=>exact .str s
 | nilp=>exact .nilp
 | nili=>exact .nili
 | nilf=>exact .nilf
 | iface t v c _ ih=>exact .iface t v c ih
 | agg vs cs hl h1 _ ih=>exact .agg vs cs hl h1 ih
 | tup vs cs hl _ ih=>exact .tup vs cs hl ih
 | fn f vs cs hl _ ih=>exact .fn f vs cs hl ih
 | clo f vs caps b o c hl hv hb h1 hr _ ih=>exact .clo f vs caps b o c hl hv (fun i hi=>⟨Nat.lt_of_lt_of_le (hb i hi).1 e.size,fun h=>(hb i hi).2 (e.less _ (hb i hi).1 h)⟩) h1 (fun i j hi hj=>by rw [e.cell (hb i hi).1 (hb i hi).2]; exact hr i j hi hj) ih
 | map b arr clock es hb hN hr hc hd hl _ _ ihk ihv=>exact .map b arr clock es (Nat.lt_of_lt_of_le hb e.size) (fun h=>hN (e.less b hb h)) ((e.keep b hb hN).trans hr) hc hd hl ihk ihv
 | nils=>exact .nils
 | nil=>exact .nil
 | emp a cap=>exact .emp a cap
 | sl b off cap sz es c hb hN hz hc h1 hr _ ih =>
  exact .sl b off cap sz es c (Nat.lt_of_lt_of_le hb e.size) (fun h=>hN (e.less b hb h)) hz hc h1 (fun i j hi hj=>by rw [e.cell hb hN]; exact hr i j hi hj) ih
def BSt.owned:BSt→Bool
 | .var _ | .vp _ | .sl _ _ | .mp _=>true
 | _=>false
abbrev Bt:=Nat→Option (Nat × Nat)
def Nn (O:Nat→Prop) (β:Bt) (bx:Nat→Box) (b:Nat):Prop:=O b∨∃ d base,(bx d).st.owned=true∧β d=some (b,base)
def CellsAt (w:World) (N:Nat→Prop) (b off:Nat) (cs:List CV):Prop :=
 (∀ c∈cs,c.one=true)∧∀ (j:Nat) (hj:j < cs.length),∃ v,w.cell? ⟨b,off + j,none⟩=some v∧V w N v cs[j]
theorem CellsAt.ext {w w':World} {N N':Nat→Prop} {b off:Nat} {cs:List CV} (e:Ext w N w' N') (hc:w'.heap[b]? = w.heap[b]?) (h:CellsAt w N b off cs):CellsAt w' N' b off cs :=
 ⟨h.1,fun j hj=>by
  obtain ⟨v,hv,hV⟩:=h.2 j hj
  exact ⟨v,by simp only [World.cell?,hc] at hv ⊢; exact hv,hV.ext e⟩⟩
def OwnB (w:World) (b n:Nat):Prop:=∃ arr el,w.heap[b]? = some (.cells arr el (0,0))∧n≤arr.size
def BR (w:World) (N:Nat→Prop) (p:Option (Nat × Nat)):BSt→Prop
 | .var cs=>∃ b base,p=some (b,base)∧OwnB w b (base + cs.length)∧CellsAt w N b base cs
 | .vp _=>True
 | .mp _=>True
 | .sl sz es=>(∀ e∈es,e.length=sz)∧((p=none∧es=[])∨∃ b,p=some (b,0)∧OwnB w b (es.length * sz)∧∀ (i:Nat) (hi:i < es.length),CellsAt w N b (i * sz) es[i])
 | .dead=>True
def R (w:World) (N:Nat→Prop) (β:Bt) (bx:Nat→Box) (v:Value):PV→Prop
 | .c c=>V w N v c
 | .ptr d ver off=>(ver≤(bx d).ver∧v.oneCell'=true)∧(ver=(bx d).ver→(bx d).st.isv=true→∃ b base,β d=some (b,base)∧v=.pointer (some ⟨b,base + off,none⟩))
 | .rp cs=>∃ b off,v=.pointer (some ⟨b,off,none⟩)∧b < w.heap.size∧¬ N b∧CellsAt w N b off cs
 | .osl d ver off len=>(ver≤(bx d).ver∧v.oneCell'=true)∧(ver=(bx d).ver→∀ sz es,(bx d).st=.sl sz es→off=0 ∧
   ((β d=none∧v=.slice none 0 0∧len=0)∨∃ b cap,β d=some (b,0)∧v=.slice (some ⟨b,0,none⟩) len cap∧len≤cap∧OwnB w b (cap * sz)))
 | .sp d ver i off=>ver≤(bx d).ver∧(ver=(bx d).ver→∀ sz es,(bx d).st=.sl sz es→∃ b,β d=some (b,0)∧v=.pointer (some ⟨b,i * sz + off,none⟩))
 | .mp d ver=>(ver≤(bx d).ver∧v.oneCell'=true)∧(ver=(bx d).ver→(bx d).st.kd=3→∃ b,β d=some (b,0)∧v=.map (some b))
 | .undef=>v=Go.undef
 | .junk=>True
def CellsP (w:World) (N:Nat→Prop) (β:Bt) (bx:Nat→Box) (b off:Nat) (ps:List PV):Prop :=
 (∀ p∈ps,p.one=true)∧∀ (j:Nat) (hj:j < ps.length),∃ v,w.cell? ⟨b,off + j,none⟩=some v∧R w N β bx v ps[j]
def MapB (w:World) (N:Nat→Prop) (β:Bt) (bx:Nat→Box) (b:Nat) (es:List (CV × PV)):Prop :=
 ∃ (arr:Array MapEntry) (clock:Nat),w.heap[b]? = some (.map arr clock)∧(∀ e∈arr.toList,e.born < clock)∧(arr.toList.Pairwise fun e f=>e.born≠f.born)∧arr.size=es.length ∧
  (∀ (i:Nat) (h1:i < arr.size) (h2:i < es.length),V w N arr[i].key es[i].1)∧(∀ (i:Nat) (h1:i < arr.size) (h2:i < es.length),R w N β bx arr[i].val es[i].2)∧∀ p∈es,p.2.mval=true
theorem MapB.lt {w:World} {N:Nat→Prop} {β:Bt} {bx:Nat→Box} {b:Nat} {es:List (CV × PV)} (h:MapB w N β bx b es):b < w.heap.size:=by
 obtain ⟨arr,clock,h,_⟩:=h
 exact (Array.getElem?_eq_some_iff.1 h).1
structure Lent where
 may:Nat→Prop
 pl:Bt
instance:CoeFun Lent fun _=>Nat→Prop:=⟨Lent.may⟩
structure Sim (O:Nat→Prop) (w0:World) (A0:Lent) (β:Bt) (s:PS) (tm:Nat→Value) (w:World):Prop where
 os:w.os=w0.os
 tape:w.tape=w0.tape
 output:w.output=w0.output
 size:w0.heap.size≤w.heap.size
 keep:∀ b,b < w0.heap.size→¬ A0 b→w.heap[b]? = w0.heap[b]?
 temps:∀ i,R w (Nn O β s.bx) β s.bx (tm i) (s.t i)
 boxes:∀ d,BR w (Nn O β s.bx) (β d) (s.bx d).st
 inj:∀ d d' p p',d≠d'→(s.bx d).st.owned=true→(s.bx d').st.owned=true→β d=some p→β d'=some p'→p.1≠p'.1
 out:∀ d p,(s.bx d).st.owned=true→β d=some p→¬ O p.1∧p.1 < w.heap.size∧(p.1 < w0.heap.size→A0 p.1)
 outer:∀ b,O b→b < w0.heap.size∧¬ A0 b
 vps:∀ d ps,(s.bx d).st=.vp ps→∃ b base,β d=some (b,base)∧OwnB w b (base + ps.length)∧CellsP w (Nn O β s.bx) β s.bx b base ps
 mps:∀ d es,(s.bx d).st=.mp es→∃ b,β d=some (b,0)∧MapB w (Nn O β s.bx) β s.bx b es
 wide:∀ sz es,(s.bx 0).ver=0→(s.bx 0).st=.sl sz es→∀ q n,β 0=some q→OwnB w0 q.1 n→OwnB w q.1 n
 still:∀ d,(s.bx d).ver=0→(s.bx d).st.owned=true→β d=A0.pl d
theorem OwnB.lt {w:World} {b n:Nat} (h:OwnB w b n):b < w.heap.size:=by
 obtain ⟨arr,el,h,_⟩:=h
 exact (Array.getElem?_eq_some_iff.1 h).1
theorem OwnB.of_eq {w w':World} {b n:Nat} (h:OwnB w b n) (e:w'.heap[b]? = w.heap[b]?):OwnB w' b n:=by
 obtain ⟨arr,el,h,hn⟩:=h
 exact ⟨arr,el,by rw [e]; exact h,hn⟩
theorem Sim.put {O:Nat→Prop} {A0:Lent} {w0 w:World} {β:Bt} {s:PS} {tm:Nat→Value} (h:Sim O w0 A0 β s tm w) (d:Nat) (pv:PV) (v:Value)
  (hv:R w (Nn O β s.bx) β s.bx v pv):Sim O w0 A0 β (s.put d pv) (fun i=>if i=d then v else tm i) w where
 os:=h.os
 tape:=h.tape
 output:=h.output
 size:=h.size
 keep:=h.keep
 temps:=fun i=>by
  by_cases e:i=d
  ·simp only [PS.put,if_pos e]; exact hv
  ·simp only [PS.put,if_neg e]; exact h.temps i
 boxes:=h.boxes
 inj:=h.inj
 out:=h.out
 outer:=h.outer
 vps:=h.vps
 mps:=h.mps
 wide:=h.wide
 still:=h.still
def Compat (w w':World) (p p':Option (Nat × Nat)) (b b':Box):Prop :=
 b.ver < b'.ver∨(b.ver=b'.ver∧(b'.st=.dead∨(p'=p ∧
  (b'.st.kd=b.st.kd) ∧
  (∀ sz es,b'.st=.sl sz es→(∃ es',b.st=.sl sz es')∧∀ q n,p=some q→OwnB w q.1 n→OwnB w' q.1 n))))
theorem Compat.ver {w w':World} {p p':Option (Nat × Nat)} {b b':Box} (h:Compat w w' p p' b b'):b.ver≤b'.ver:=by
 rcases h with h | h
 ·omega
 ·omega
theorem jk1 {st st':BSt} (hk:st'.kd=st.kd) (h:st'.isv=true):st.isv=true:=by
 cases st' <;> cases st <;> simp_all [BSt.kd,BSt.isv]
theorem R.change {w w':World} {N N':Nat→Prop} {β β':Bt} {bx bx':Nat→Box} {v:Value} {pv:PV} (e:Ext w N w' N') (hc:∀ d,Compat w w' (β d) (β' d) (bx d) (bx' d))
  (h:R w N β bx v pv):R w' N' β' bx' v pv:=by
 cases pv with
 | c c=>exact V.ext e h
 | ptr d ver off =>
  obtain ⟨⟨h1,h0⟩,h2⟩:=h
  refine ⟨⟨Nat.le_trans h1 (hc d).ver,h0⟩,fun hv hs=>?_⟩
  rcases hc d with hlt | ⟨heq,hd | ⟨hp,hk,_⟩⟩
  ·omega
  ·rw [hd] at hs; cases hs
  ·obtain ⟨b,base,hb,he⟩:=h2 (by omega) (jk1 hk hs)
   exact ⟨b,base,by rw [hp]; exact hb,he⟩
 | rp cs =>
  obtain ⟨b,off,hv,hb,hN,hcs⟩:=h
  exact ⟨b,off,hv,Nat.lt_of_lt_of_le hb e.size,fun hn=>hN (e.less b hb hn),hcs.ext e (e.keep b hb hN)⟩
 | osl d ver off len =>
  obtain ⟨⟨h1,h0⟩,h2⟩:=h
  refine ⟨⟨Nat.le_trans h1 (hc d).ver,h0⟩,fun hv sz es hs=>?_⟩
  rcases hc d with hlt | ⟨heq,hd | ⟨hp,hk,hk2⟩⟩
  ·omega
  ·rw [hd] at hs; cases hs
  ·obtain ⟨⟨es',hs'⟩,hown⟩:=hk2 sz es hs
   obtain ⟨ho,hor⟩:=h2 (by omega) sz es' hs'
   refine ⟨ho,?_⟩
   rcases hor with ⟨a,b,c⟩ | ⟨b,cap,hb,hv,hl,ho⟩
   ·exact .inl ⟨by rw [hp]; exact a,b,c⟩
   ·exact .inr ⟨b,cap,by rw [hp]; exact hb,hv,hl,hown _ _ hb ho⟩
 | sp d ver i off =>
  obtain ⟨h1,h2⟩:=h
  refine ⟨Nat.le_trans h1 (hc d).ver,fun hv sz es hs=>?_⟩
  rcases hc d with hlt | ⟨heq,hd | ⟨hp,hk,hk2⟩⟩
  ·omega
  ·rw [hd] at hs; cases hs
  ·obtain ⟨⟨es',hs'⟩,_⟩:=hk2 sz es hs
   obtain ⟨b,hb,hv⟩:=h2 (by omega) sz es' hs'
   exact ⟨b,by rw [hp]; exact hb,hv⟩
 | mp d ver =>
  obtain ⟨⟨h1,h0⟩,h2⟩:=h
  refine ⟨⟨Nat.le_trans h1 (hc d).ver,h0⟩,fun hv hs=>?_⟩
  rcases hc d with hlt | ⟨heq,hd | ⟨hp,hk,_⟩⟩
  ·omega
  ·rw [hd] at hs; cases hs
  ·obtain ⟨b,hb,he⟩:=h2 (by omega) (hk ▸ hs)
   exact ⟨b,by rw [hp]; exact hb,he⟩
 | undef=>exact h
 | junk=>trivial
theorem Compat.same {w w':World} {p:Option (Nat × Nat)} {b:Box} (h:∀ q n,b.st.owned=true→p=some q→OwnB w q.1 n→OwnB w' q.1 n):Compat w w' p p b b :=
 .inr ⟨rfl,.inr ⟨rfl,rfl,fun sz es hs=>⟨⟨es,hs⟩,fun q n hq=>h q n (by rw [hs]; rfl) hq⟩⟩⟩
theorem CellsP.change {w w':World} {N N':Nat→Prop} {β β':Bt} {bx bx':Nat→Box} {b off:Nat} {ps:List PV} (e:Ext w N w' N') (hc:∀ d,Compat w w' (β d) (β' d) (bx d) (bx' d)) (hb:w'.heap[b]? = w.heap[b]?)
  (h:CellsP w N β bx b off ps):CellsP w' N' β' bx' b off ps :=
 ⟨h.1,fun j hj=>by
  obtain ⟨v,hv,hR⟩:=h.2 j hj
  exact ⟨v,by simp only [World.cell?,hb] at hv ⊢; exact hv,hR.change e hc⟩⟩
theorem MapB.change {w w':World} {N N':Nat→Prop} {β β':Bt} {bx bx':Nat→Box} {b:Nat} {es:List (CV × PV)} (e:Ext w N w' N') (hc:∀ d,Compat w w' (β d) (β' d) (bx d) (bx' d)) (hb:w'.heap[b]? = w.heap[b]?)
  (h:MapB w N β bx b es):MapB w' N' β' bx' b es:=by
 obtain ⟨arr,clock,h1,h2,h3,h4,h5,h6,h7⟩:=h
 exact ⟨arr,clock,hb.trans h1,h2,h3,h4,fun i hi hj=>(h5 i hi hj).ext e,fun i hi hj=>(h6 i hi hj).change e hc,h7⟩
def VP (w:World) (N:Nat→Prop) (β:Bt) (bx:Nat→Box) (p:Option (Nat × Nat)) (st:BSt):Prop :=
 (∀ ps,st=.vp ps→∃ b base,p=some (b,base)∧OwnB w b (base + ps.length)∧CellsP w N β bx b base ps)∧∀ es,st=.mp es→∃ b,p=some (b,0)∧MapB w N β bx b es
theorem Sim.change {O:Nat→Prop} {A0:Lent} {w0 w w':World} {β:Bt} {s:PS} {tm:Nat→Value} (h:Sim O w0 A0 β s tm w) (d:Nat) (p':Option (Nat × Nat)) (b':Box)
  (hos:w'.os=w.os) (htape:w'.tape=w.tape) (hout:w'.output=w.output) (hsize:w.heap.size≤w'.heap.size)
  -- blocks that stood are as they were,but that of 'd'
  (hkeep:∀ b,b < w.heap.size→(∀ p,(s.bx d).st.owned=true→β d=some p→b≠p.1)→w'.heap[b]? = w.heap[b]?)
  (hcompat:Compat w w' (β d) p' (s.bx d) b')
  -- the new block: it was 'd's own,or it is new
  (hnew:∀ p,b'.st.owned=true→p'=some p→((s.bx d).st.owned=true∧∃ q,β d=some q∧q.1=p.1)∨(w.heap.size≤p.1∧p.1 < w'.heap.size))
  (hbr:BR w' (Nn O (fun i=>if i=d then p' else β i) (fun i=>if i=d then b' else s.bx i)) p' b'.st)
  (hvp:Ext w (Nn O β s.bx) w' (Nn O (fun i=>if i=d then p' else β i) (fun i=>if i=d then b' else s.bx i))→(∀ i,Compat w w' (β i) ((fun i=>if i=d then p' else β i) i) (s.bx i) ((fun i=>if i=d then b' else s.bx i) i)) →
   VP w' (Nn O (fun i=>if i=d then p' else β i) (fun i=>if i=d then b' else s.bx i)) (fun i=>if i=d then p' else β i) (fun i=>if i=d then b' else s.bx i) p' b'.st:=by intro _ _; exact ⟨fun ps h=>(by cases h),fun es h=>(by cases h)⟩) :
  Sim O w0 A0 (fun i=>if i=d then p' else β i) (s.box d b') tm w':=by
 have hless:∀ b,b < w.heap.size→Nn O (fun i=>if i=d then p' else β i) (fun i=>if i=d then b' else s.bx i) b→Nn O β s.bx b:=by
  intro b hb hn
  rcases hn with hn | ⟨i,base,ho,hi⟩
  ·exact .inl hn
  ·by_cases e:i=d
   ·subst e
    simp only [if_true] at ho hi
    rcases hnew _ ho hi with ⟨ho',q,hq,he⟩ | ⟨h1,_⟩
    ·exact .inr ⟨i,q.2,ho',by obtain ⟨q1,q2⟩:=q; simp at he; rw [hq,he]⟩
    ·simp at h1; omega
   ·simp only [if_neg e] at ho hi
    exact .inr ⟨i,base,ho,hi⟩
 have e:Ext w (Nn O β s.bx) w' (Nn O (fun i=>if i=d then p' else β i) (fun i=>if i=d then b' else s.bx i)):=by
  refine ⟨hsize,fun b hb hn=>hkeep b hb fun p ho hp he=>hn (.inr ⟨d,p.2,ho,by rw [hp,he]⟩),hless⟩
 have hblk:∀ i p,i≠d→(s.bx i).st.owned=true→β i=some p→w'.heap[p.1]? = w.heap[p.1]?:=by
  intro i p hi ho hp
  refine hkeep _ (h.out i p ho hp).2.1 fun q ho' hq=>?_
  exact h.inj i d p q hi ho ho' hp hq
 have hcomp:∀ i,Compat w w' (β i) ((fun i=>if i=d then p' else β i) i) (s.bx i) ((fun i=>if i=d then b' else s.bx i) i):=by
  intro i
  by_cases hi:i=d
  ·subst hi; simp only [if_true]; exact hcompat
  ·simp only [if_neg hi]
   exact Compat.same fun q n ho hq hw=>hw.of_eq (hblk i q hi ho hq)
 refine ⟨hos.trans h.os,htape.trans h.tape,hout.trans h.output,Nat.le_trans h.size hsize,?_,fun i=>(h.temps i).change e hcomp,?_,?_,?_,h.outer,?_,?_,?_,?_⟩
 ·intro b hb hn
  rw [hkeep b (Nat.lt_of_lt_of_le hb h.size) fun p ho hp he=>hn (he ▸ (h.out d p ho hp).2.2 (he ▸ hb))]
  exact h.keep b hb hn
 ·intro i
  by_cases hi:i=d
  ·subst hi; simp only [PS.box,if_true]; exact hbr
  ·have hb:=h.boxes i
   simp only [PS.box,if_neg hi]
   cases hst:(s.bx i).st with
   | var cs =>
    rw [hst] at hb
    obtain ⟨b,base,hp,ho,hc⟩:=hb
    have hq:=hblk i _ hi (by rw [hst]; rfl) hp
    exact ⟨b,base,hp,ho.of_eq hq,hc.ext e hq⟩
   | vp cs=>trivial
   | mp es=>trivial
   | sl sz es =>
    rw [hst] at hb
    refine ⟨hb.1,?_⟩
    rcases hb.2 with hb | ⟨b,hp,ho,hc⟩
    ·exact .inl hb
    ·have hq:=hblk i _ hi (by rw [hst]; rfl) hp
     exact .inr ⟨b,hp,ho.of_eq hq,fun i hi=>(hc i hi).ext e hq⟩
   | dead=>trivial
 ·intro i j p q hij hi hj hp hq
  simp only [PS.box] at hi hj
  by_cases ei:i=d
  ·subst ei
   have ej:j≠i:=fun e=>hij e.symm
   simp only [if_true,if_neg ej] at hi hj hp hq
   rcases hnew _ hi hp with ⟨ho',r,hr,he⟩ | ⟨h1,_⟩
   ·rw [← he]; exact h.inj i j r q hij ho' hj hr hq
   ·have:=(h.out j q hj hq).2.1; omega
  ·by_cases ej:j=d
   ·subst ej
    simp only [if_true,if_neg ei] at hi hj hp hq
    rcases hnew _ hj hq with ⟨ho',r,hr,he⟩ | ⟨h1,_⟩
    ·rw [← he]; exact h.inj i j p r hij hi ho' hp hr
    ·have:=(h.out i p hi hp).2.1; omega
   ·simp only [if_neg ei,if_neg ej] at hi hj hp hq
    exact h.inj i j p q hij hi hj hp hq
 ·intro i p hi hp
  simp only [PS.box] at hi
  by_cases ei:i=d
  ·subst ei
   simp only [if_true] at hi hp
   rcases hnew _ hi hp with ⟨ho',r,hr,he⟩ | ⟨h1,h2⟩
   ·have:=h.out i r ho' hr; rw [he] at this; exact ⟨this.1,Nat.lt_of_lt_of_le this.2.1 hsize,this.2.2⟩
   ·exact ⟨fun ho=>by have:=(h.outer _ ho).1; have:=h.size; omega,h2,fun hlt=>by have:=h.size; omega⟩
  ·simp only [if_neg ei] at hi hp
   have:=h.out i p hi hp
   exact ⟨this.1,Nat.lt_of_lt_of_le this.2.1 hsize,this.2.2⟩
 ·intro i ps hi
  by_cases ei:i=d
  ·subst ei
   simp only [PS.box,if_true] at hi ⊢
   exact (hvp e hcomp).1 ps hi
  ·simp only [PS.box,if_neg ei] at hi ⊢
   obtain ⟨b,base,hp,ho,hc⟩:=h.vps i ps hi
   have hq:=hblk i _ ei (by rw [hi]; rfl) hp
   exact ⟨b,base,hp,ho.of_eq hq,hc.change e hcomp hq⟩
 ·intro i es hi
  by_cases ei:i=d
  ·subst ei
   simp only [PS.box,if_true] at hi ⊢
   exact (hvp e hcomp).2 es hi
  ·simp only [PS.box,if_neg ei] at hi ⊢
   obtain ⟨b,hp,hm⟩:=h.mps i es hi
   exact ⟨b,hp,hm.change e hcomp (hblk i _ ei (by rw [hi]; rfl) hp)⟩
 ·intro sz es hv hst q n hq hw
  by_cases ei:0=d
  ·subst ei
   simp only [PS.box,if_true] at hv hst hq
   rcases hcompat with hlt | ⟨heq,hd | ⟨hp,hk,hk2⟩⟩
   ·omega
   ·rw [hd] at hst; cases hst
   ·obtain ⟨⟨es',hs'⟩,ho⟩:=hk2 sz es hst
    rw [hp] at hq
    exact ho q n hq (h.wide sz es' (by omega) hs' q n hq hw)
  ·simp only [PS.box,if_neg ei] at hv hst hq
   exact (h.wide sz es hv hst q n hq hw).of_eq (hblk 0 q ei (by rw [hst]; rfl) hq)
 ·intro i hi ho
  by_cases ei:i=d
  ·subst ei
   simp only [PS.box,if_true] at hi ho ⊢
   rcases hcompat with hlt | ⟨heq,hd | ⟨hp,hk,hk2⟩⟩
   ·omega
   ·rw [hd] at ho; cases ho
   ·rw [hp]
    refine h.still i (by omega) ?_
    revert hk ho; cases b'.st <;> cases (s.bx i).st <;> simp [BSt.kd,BSt.owned]
  ·simp only [PS.box,if_neg ei] at hi ho ⊢
   exact h.still i hi ho
end Go.Pl
/-
 EACH OPERATION OF THE MODEL DOES TO A FRAME AND A WORLD WHAT THE PLAIN STEP DOES TO THE STATE THAT IS SAID OF THEM. My own work.
-/
namespace Go.Pl
open Go
set_option linter.unusedVariables false
def tmf (a:Act):Nat→Value:=fun i=>a.tmps.getD i undef
theorem vf {a:Act} {d:Nat} (v:Value) (h:d < a.tmps.size):tmf (a.put (some d) v)=fun i=>if i=d then v else tmf a i:=by
 funext i
 simp only [tmf,Act.put,Array.getD_eq_getD_getElem?,Array.getElem?_setIfInBounds]
 by_cases e:i=d
 ·subst e; simp [h]
 ·have:¬ d=i:=fun h=>e h.symm
  simp [e,this]
def dstOk (o:Option Nat) (n:Nat):Prop:=∀ d,o=some d→d < n
theorem Sim.putO {O:Nat→Prop} {A0:Lent} {w0 w:World} {β:Bt} {s:PS} {a:Act} (h:Sim O w0 A0 β s (tmf a) w) (o:Option Nat) (ho:dstOk o a.tmps.size) (pv:PV) (v:Value)
  (hv:R w (Nn O β s.bx) β s.bx v pv):Sim O w0 A0 β (s.putO o pv) (tmf (a.put o v)) w:=by
 cases o with
 | none=>exact h
 | some d=>rw [vf v (ho d rfl)]; exact h.put d pv v hv
/-! ### Constants and operands -/
def chk1:Value→CV→Bool
 | .int k n,.int k' m=>decide (k=k'∧n=m)
 | .bool a,.bool b=>a == b
 | .string a,.str b=>decide (a=b)
 | .pointer none,.nilp=>true
 | .nilIface,.nili=>true
 | .nilFunc,.nilf=>true
 | .slice none 0 0,.sl []=>true
 | .slice none 0 0,.nils=>true
 | _,_=>false
def chkL:List Value→List CV→Bool
 | [],[]=>true
 | v::l,c::m=>chk1 v c && chkL l m
 | _,_=>false
def chkV:Value→CV→Bool
 | .agg vs,.agg cs=>chkL vs.toList cs
 | v,c=>chk1 v c
theorem je5 {v:Value} {c:CV} (h:chk1 v c=true) (w:World) (N:Nat→Prop):V w N v c∧c.one=true:=by
 unfold chk1 at h
 split at h
 ·obtain ⟨rfl,rfl⟩:=of_decide_eq_true h; exact ⟨.int _ _,rfl⟩
 ·obtain rfl:=eq_of_beq h; exact ⟨.bool _,rfl⟩
 ·obtain rfl:=of_decide_eq_true h; exact ⟨.str _,rfl⟩
 ·exact ⟨.nilp,rfl⟩
 ·exact ⟨.nili,rfl⟩
 ·exact ⟨.nilf,rfl⟩
 ·exact ⟨.nil,rfl⟩
 ·exact ⟨.nils,rfl⟩
 ·cases h
theorem JQ {w:World} {N:Nat→Prop}:∀ {vs:List Value} {cs:List CV},chkL vs cs=true →
  vs.length=cs.length∧(∀ c∈cs,c.one=true)∧∀ (i:Nat) (h1:i < vs.length) (h2:i < cs.length),V w N vs[i] cs[i]
 | [],[],_=>⟨rfl,by simp,fun i h=>by simp at h⟩
 | v::l,c::m,h=>by
  simp only [chkL,Bool.and_eq_true] at h
  obtain ⟨hl,h1,hv⟩:=JQ (w:=w) (N:=N) h.2
  have h0:=je5 h.1 w N
  refine ⟨by simp [hl],?_,?_⟩
  ·intro x hx
   rcases List.mem_cons.1 hx with rfl | hx
   ·exact h0.2
   ·exact h1 x hx
  ·intro i hi hj
   cases i with
   | zero=>exact h0.1
   | succ i=>exact hv i (by simpa using hi) (by simpa using hj)
theorem jk2 {v:Value} {c:CV} (h:chkV v c=true) (w:World) (N:Nat→Prop):V w N v c:=by
 unfold chkV at h
 split at h
 ·rename_i vs cs
  obtain ⟨hl,h1,hv⟩:=JQ (w:=w) (N:=N) h
  exact .agg vs cs (by simpa using hl) h1 (fun i hi hj=>by have:=hv i (by simpa using hi) hj; simpa using this)
 ·exact (je5 h w N).1
def chkPO:Operand→PO→Bool
 | .tmp i,.t j=>decide (i=j)
 | .const v,.k c=>chkV v c
 | .func f,.k (.fn (.func g) [])=>decide (f=g)
 | _,_=>false
section
variable {O : Nat → Prop} {A0 : Lent} {w0 w : World} {β : Bt} {s : PS} {a : Act} {P : Program}
theorem vW (h:Sim O w0 A0 β s (tmf a) w) {x:Operand} {y:PO} (hc:chkPO x y=true):R w (Nn O β s.bx) β s.bx (a.eval x) (s.ev y):=by
 unfold chkPO at hc
 split at hc
 ·obtain rfl:=of_decide_eq_true hc; exact h.temps _
 ·exact jk2 hc _ _
 ·obtain rfl:=of_decide_eq_true hc
  exact V.fn _ #[] [] rfl (fun i hi=>by simp at hi)
 ·cases hc
theorem jX (h:Sim O w0 A0 β s (tmf a) w) {x:Operand} {y:PO} {c:CV} (hc:chkPO x y=true) (he:s.evc y=some c):V w (Nn O β s.bx) (a.eval x) c:=by
 have:=vW h hc
 unfold PS.evc at he
 split at he
 ·rename_i v hv; rw [hv] at this; obtain rfl:=Option.some.inj he; exact this
 ·cases he
theorem V.int_inv {N:Nat→Prop} {v:Value} {k:IntKind} {n:Int} (h:V w N v (.int k n)):v=.int k n:=by cases h; rfl
theorem V.bool_inv {N:Nat→Prop} {v:Value} {b:Bool} (h:V w N v (.bool b)):v=.bool b:=by cases h; rfl
theorem V.str_inv {N:Nat→Prop} {v:Value} {b:ByteArray} (h:V w N v (.str b)):v=.string b:=by cases h; rfl
theorem V.cells {N:Nat→Prop} {v:Value} {c:CV} (h:V w N v c) (hn:0 < c.cells.length) :
  v.cells.size=c.cells.length∧(∀ x∈c.cells,x.one=true)∧∀ (j:Nat) (h1:j < v.cells.size) (h2:j < c.cells.length),V w N v.cells[j] c.cells[j]:=by
 have one:∀ {v:Value} {c:CV},V w N v c→v.cells=#[v]→c.cells=[c]→c.one=true →
   v.cells.size=c.cells.length∧(∀ x∈c.cells,x.one=true)∧∀ (j:Nat) (h1:j < v.cells.size) (h2:j < c.cells.length),V w N v.cells[j] c.cells[j]:=by
  intro v c h hv hc h1
  simp only [hv,hc]
  refine ⟨rfl,by simpa using h1,fun j hj hj'=>?_⟩
  have:j=0:=by simp at hj; omega
  subst this
  exact h
 cases h with
 | agg vs cs hl h1 h=>exact ⟨hl,h1,h⟩
 | tup vs cs hl h=>simp [CV.cells] at hn
 | int k n=>exact one (.int k n) rfl rfl rfl
 | bool b=>exact one (.bool b) rfl rfl rfl
 | str s=>exact one (.str s) rfl rfl rfl
 | nilp=>exact one .nilp rfl rfl rfl
 | nili=>exact one .nili rfl rfl rfl
 | nilf=>exact one .nilf rfl rfl rfl
 | iface t v c h=>exact one (.iface t v c h) rfl rfl rfl
 | fn f vs cs hl h=>exact one (.fn f vs cs hl h) rfl rfl rfl
 | clo f vs caps b o c hl hv hb h1 hr h=>exact one (.clo f vs caps b o c hl hv hb h1 hr h) rfl rfl rfl
 | map b arr clock es hb hN hr hc hd hl hk hv=>exact one (.map b arr clock es hb hN hr hc hd hl hk hv) rfl rfl rfl
 | nils=>exact one .nils rfl rfl rfl
 | nil=>exact one .nil rfl rfl rfl
 | emp b cap=>exact one (.emp b cap) rfl rfl rfl
 | sl b off cap sz es c hb hN hz hc h1 hr h=>exact one (.sl b off cap sz es c hb hN hz hc h1 hr h) rfl rfl rfl
/-! ### What a step owes -/
def Does (P:Program) (o:Oper) (O:Nat→Prop) (A0:Lent) (w0:World) (a:Act) (w:World) (s':PS):Prop :=
 ∃ nx v w' β',(execOp a.eval o).run P w=.ok nx w'∧(nx=.value v∨(nx=.skip∧v=undef))∧Sim O w0 A0 β' s' (tmf (a.put o.dst v)) w'
theorem Does.val {o:Oper} (h:Sim O w0 A0 β s (tmf a) w) (ho:dstOk o.dst a.tmps.size) {v:Value} {pv:PV} (hr:(execOp a.eval o).run P w=.ok (.value v) w)
  (hv:R w (Nn O β s.bx) β s.bx v pv):Does P o O A0 w0 a w (s.putO o.dst pv) :=
 ⟨_,v,w,β,hr,.inl rfl,h.putO _ ho pv v hv⟩
theorem Yw (h:Sim O w0 A0 β s (tmf a) w) {d:Nat} (hd:d < a.tmps.size) (cells:Array Value) (el:TypeId) (b':Box) (pv:PV) (v:Value)
  (hver:(s.bx d).ver < b'.ver)
  (hbr:∀ N:Nat→Prop,Ext w (Nn O β s.bx) (w.alloc (.cells cells el)) N→BR (w.alloc (.cells cells el)) N (some (w.heap.size,0)) b'.st)
  (hR:∀ N β' bx',β' d=some (w.heap.size,0)→bx' d=b'→R (w.alloc (.cells cells el)) N β' bx' v pv) (hnp:(∀ ps,b'.st≠.vp ps)∧∀ es,b'.st≠.mp es:=by exact ⟨fun ps h=>(by cases h),fun es h=>(by cases h)⟩) :
  Sim O w0 A0 (fun i=>if i=d then some (w.heap.size,0) else β i) ((s.box d b').put d pv) (tmf (a.put (some d) v)) (w.alloc (.cells cells el)):=by
 have hsize:(w.alloc (.cells cells el)).heap.size=w.heap.size + 1:=Array.size_push _
 have hk:∀ b,b < w.heap.size→(w.alloc (.cells cells el)).heap[b]? = w.heap[b]?:=fun b hb=>by
  show (w.heap.push _)[b]? = _; rw [Array.getElem?_push,if_neg (by omega)]
 have hext:Ext w (Nn O β s.bx) (w.alloc (.cells cells el)) (Nn O (fun i=>if i=d then some (w.heap.size,0) else β i) (fun i=>if i=d then b' else s.bx i)):=by
  refine ⟨by omega,fun b hb _=>hk b hb,fun b hb hn=>?_⟩
  rcases hn with hn | ⟨i,base,ho,hi⟩
  ·exact .inl hn
  ·by_cases e:i=d
   ·simp only [if_pos e,Option.some.injEq,Prod.mk.injEq] at hi; omega
   ·simp only [if_neg e] at ho hi; exact .inr ⟨i,base,ho,hi⟩
 have:=h.change (w':=w.alloc (.cells cells el)) d (some (w.heap.size,0)) b' rfl rfl rfl (by omega) (fun b hb _=>hk b hb) (.inl hver)
  (fun p _ hp=>by simp only [Option.some.injEq] at hp; subst hp; exact .inr ⟨Nat.le_refl _,by show w.heap.size < _; omega⟩) (hbr _ hext) (fun _ _=>⟨fun ps hps=>absurd hps (hnp.1 ps),fun es hes=>absurd hes (hnp.2 es)⟩)
 rw [vf v hd]
 exact this.put d pv v (hR _ _ _ (by simp) (by simp [PS.box]))
theorem Jc {N:Nat→Prop} {b off n:Nat} {cs:List CV} (t:TypeId) (d:TypeDesc) (i:TypeInfo) (hu:P.underlying t=some d) (hi:P.info? t=some i) (hn:i.size=n) (f:Bool) (hf:d.isRow=f)
  (h1:f=false→n=1) (hc:CellsAt w N b off cs) (hl:n≤cs.length) :
  ∃ v,(Instr.loadAt t (.pointer (some ⟨b,off,none⟩))).run P w=.ok v w∧V w N v (rdc f n cs):=by
 obtain ⟨ho,hc⟩:=hc
 cases f with
 | true =>
  have hex:∀ j:Fin n,∃ v,w.cell? ⟨b,off + j.1,none⟩=some v∧V w N v (cs[j.1]'(by omega)):=fun j=>hc j.1 (by omega)
  have hch:=fun j=>Classical.choose_spec (hex j)
  refine ⟨_,run_loadAt_mid w b off t (List.ofFn fun j=>Classical.choose (hex j)) d ?_ hu hf (by simp [hi,hn]),?_⟩
  ·intro j v hv
   simp only [List.getElem?_ofFn] at hv
   split at hv
   ·rename_i hj; obtain rfl:=Option.some.inj hv; exact (hch ⟨j,hj⟩).1
   ·cases hv
  ·simp only [rdc,if_true]
   refine .agg _ _ (by simp; omega) (fun c hc'=>ho c (List.mem_of_mem_take hc')) fun j h1 h2=>?_
   have hj:j < n:=by simpa using h1
   have:=(hch ⟨j,hj⟩).2
   simpa using this
 | false =>
  have hn1:=h1 rfl
  obtain ⟨v,hv,hV⟩:=hc 0 (by omega)
  refine ⟨v,?_,?_⟩
  ·have hagg:(isAgg t).run P w=.ok false w:=by
    unfold isAgg
    rw [Sem.run_bind,run_underlying hu w]
    cases d <;> simp_all [TypeDesc.isRow]
   simp only [Nat.add_zero] at hv
   simp only [Instr.loadAt,Instr.sureAddr,Sem.run_bind,Sem.run_pure,Result.andThen_ok,loadVar,hagg,Bool.false_eq_true,if_false,run_load,hv]
  ·cases cs with
   | nil=>simp at hl; omega
   | cons c l=>simpa [rdc] using hV
theorem CellsAt.drop {N:Nat→Prop} {b off:Nat} {cs:List CV} (h:CellsAt w N b off cs) (k:Nat):CellsAt w N b (off + k) (cs.drop k) :=
 ⟨fun c hc=>h.1 c (List.mem_of_mem_drop hc),fun j hj=>by
  have hj':k + j < cs.length:=by simp at hj; omega
  obtain ⟨v,hv,hV⟩:=h.2 (k + j) hj'
  exact ⟨v,by rw [Nat.add_assoc]; exact hv,by simpa using hV⟩⟩
theorem XM {b off:Nat} {v:Value} (t:TypeId) (d:TypeDesc) (hu:P.underlying t=some d) (hf:d.isRow=false) (hv:w.cell? ⟨b,off,none⟩=some v):(Instr.loadAt t (.pointer (some ⟨b,off,none⟩))).run P w=.ok v w:=by
 have hagg:(isAgg t).run P w=.ok false w:=by
  unfold isAgg
  rw [Sem.run_bind,run_underlying hu w]
  cases d <;> simp_all [TypeDesc.isRow]
 simp only [Instr.loadAt,Instr.sureAddr,Sem.run_bind,Sem.run_pure,Result.andThen_ok,loadVar,hagg,Bool.false_eq_true,if_false,run_load,hv]
theorem wI {N:Nat→Prop} {bx:Nat→Box}:∀ {ps:List PV} {cs:List CV} {b off:Nat},closed? ps=some cs→CellsP w N β bx b off ps→CellsAt w N b off cs∧cs.length=ps.length
 | [],cs,b,off,hc,h=>by
  simp only [closed?,Option.some.injEq] at hc
  subst hc
  exact ⟨⟨fun c hc=>by simp at hc,fun j hj=>by simp at hj⟩,rfl⟩
 | p::ps,cs,b,off,hc,h=>by
  cases p with
  | c v =>
   simp only [closed?] at hc
   cases hl:closed? ps with
   | none=>rw [hl] at hc; cases hc
   | some ds =>
    rw [hl] at hc
    simp only [Option.map_some,Option.some.injEq] at hc
    subst hc
    obtain ⟨h1,h2⟩:=h
    have ht:CellsP w N β bx b (off + 1) ps:=⟨fun p hp=>h1 p (by simp [hp]),fun j hj=>by
     obtain ⟨v,hv,hR⟩:=h2 (j + 1) (by simp; omega)
     exact ⟨v,by rw [show off + 1 + j=off + (j + 1) by omega]; exact hv,by simpa using hR⟩⟩
    obtain ⟨⟨k1,k2⟩,k3⟩:=wI hl ht
    refine ⟨⟨fun c hc=>?_,fun j hj=>?_⟩,by simp [k3]⟩
    ·rcases List.mem_cons.1 hc with rfl | hc
     ·exact h1 (.c c) (by simp)
     ·exact k1 c hc
    ·cases j with
     | zero=>obtain ⟨u,hu,hR⟩:=h2 0 (by simp); exact ⟨u,hu,hR⟩
     | succ j =>
      obtain ⟨u,hu,hV⟩:=k2 j (by simp at hj; omega)
      exact ⟨u,by rw [show off + (j + 1)=off + 1 + j by omega]; exact hu,by simpa using hV⟩
  | _=>cases hc
theorem CellsP.slice {N:Nat→Prop} {bx:Nat→Box} {ps:List PV} {b off:Nat} (h:CellsP w N β bx b off ps) (k n:Nat):CellsP w N β bx b (off + k) ((ps.drop k).take n) :=
 ⟨fun p hp=>h.1 p (List.mem_of_mem_drop (List.mem_of_mem_take hp)),fun j hj=>by
  have hj':k + j < ps.length:=by simp at hj; omega
  obtain ⟨v,hv,hR⟩:=h.2 (k + j) hj'
  exact ⟨v,by rw [Nat.add_assoc]; exact hv,by simpa using hR⟩⟩
theorem jag (h:Sim O w0 A0 β s (tmf a) w) {x:Operand} {y:PO} (hc:chkPO x y=true) {dst:Option Nat} {f:Bool} {n:Nat} {av:List Nat} {s':PS} (hs:pstep dst s (.load f n y av)=some s') :
  (∃ b off cs,a.eval x=.pointer (some ⟨b,off,none⟩)∧CellsAt w (Nn O β s.bx) b off cs∧n≤cs.length∧s'=s.putO dst (.c (rdc f n cs))) ∨
  (f=false∧(n=1→∃ b off v pv,a.eval x=.pointer (some ⟨b,off,none⟩)∧w.cell? ⟨b,off,none⟩=some v∧R w (Nn O β s.bx) β s.bx v pv∧s'=s.putO dst pv)):=by
 have hR:=vW h hc
 simp only [pstep] at hs
 split at hs
 ·rename_i cs hy
  rw [hy] at hR
  obtain ⟨b,off,hv,_,_,hcs⟩:=hR
  split at hs
  ·exact .inl ⟨b,off,cs,hv,hcs,‹_›,(Option.some.inj hs).symm⟩
  ·cases hs
 ·rename_i d ver off hy
  rw [hy] at hR
  split at hs
  ·cases hs
  ·split at hs
   ·rename_i v cs hb
    split at hs
    ·rename_i hv
     obtain ⟨rfl,hl⟩:=hv
     obtain ⟨b,base,hβ,he⟩:=hR.2 (by rw [hb]) (by rw [hb]; rfl)
     have hB:=h.boxes d
     rw [hb] at hB
     obtain ⟨b',base',hp,_,hcs⟩:=hB
     rw [hβ] at hp
     obtain ⟨rfl,rfl⟩:=Prod.mk.inj (Option.some.inj hp)
     exact .inl ⟨b,base + off,cs.drop off,he,hcs.drop off,by simp; omega,(Option.some.inj hs).symm⟩
    ·cases hs
   ·rename_i v ps hb
    split at hs
    ·rename_i hv
     obtain ⟨rfl,hl⟩:=hv
     obtain ⟨b,base,hβ,he⟩:=hR.2 (by rw [hb]) (by rw [hb]; rfl)
     obtain ⟨b',base',hp,_,hcs⟩:=h.vps d ps (by rw [hb])
     rw [hβ] at hp
     obtain ⟨rfl,rfl⟩:=Prod.mk.inj (Option.some.inj hp)
     split at hs
     ·rename_i pv hpv
      unfold loadP at hpv
      split at hpv
      ·rename_i hf
       split at hpv
       ·rename_i cs hcl
        obtain ⟨hca,hlen⟩:=wI hcl (hcs.slice off n)
        have hlen':cs.length=n:=by rw [hlen]; simp; omega
        refine .inl ⟨b,base + off,cs,he,hca,by omega,?_⟩
        rw [← Option.some.inj hs,← Option.some.inj hpv]
        simp only [rdc,hf,if_true]
        rw [List.take_of_length_le (by omega)]
       ·cases hpv
      ·rename_i hf
       refine .inr ⟨by simpa using hf,fun hn=>?_⟩
       subst hn
       obtain ⟨v,hv,hR⟩:=hcs.2 off (by omega)
       refine ⟨b,base + off,v,ps[off],he,hv,hR,?_⟩
       rw [← Option.some.inj hs,← Option.some.inj hpv,List.drop_eq_getElem_cons (by omega)]
       rfl
     ·cases hs
    ·cases hs
   ·cases hs
 ·rename_i d ver i off hy
  rw [hy] at hR
  split at hs
  ·cases hs
  ·split at hs
   ·rename_i v sz es hb
    split at hs
    ·rename_i e he
     split at hs
     ·rename_i hv
      obtain ⟨rfl,hl⟩:=hv
      obtain ⟨b,hβ,hp⟩:=hR.2 (by rw [hb]) sz es (by rw [hb])
      have hB:=h.boxes d
      rw [hb] at hB
      rcases hB.2 with ⟨hn,_⟩ | ⟨b',hp',_,hcs⟩
      ·rw [hβ] at hn; cases hn
      ·rw [hβ] at hp'
       obtain ⟨rfl,_⟩:=Prod.mk.inj (Option.some.inj hp')
       obtain ⟨hi,rfl⟩:=List.getElem?_eq_some_iff.1 he
       exact .inl ⟨b,i * sz + off,es[i].drop off,hp,(hcs i hi).drop off,by simp; omega,(Option.some.inj hs).symm⟩
     ·cases hs
    ·cases hs
   ·cases hs
 ·cases hs
/-! ### The operations -/
theorem jke {o:Oper} {x:Operand} {y:PO} (ho:o.op=.move x∨o.op=.assign x) (h:Sim O w0 A0 β s (tmf a) w) (hd:dstOk o.dst a.tmps.size) (hc:chkPO x y=true) {s':PS}
  (hs:pstep o.dst s (.mv y)=some s'):Does P o O A0 w0 a w s':=by
 obtain rfl:=Option.some.inj hs
 refine Does.val h hd (v:=a.eval x) ?_ (vW h hc)
 unfold execOp
 rcases ho with ho | ho <;> simp only [ho,Sem.run_pure]
theorem jhv {o:Oper} {c x y:Operand} {c' x' y':PO} (ho:o.op=.pick c x y) (h:Sim O w0 A0 β s (tmf a) w) (hd:dstOk o.dst a.tmps.size) (hc:chkPO c c'=true) (hx:chkPO x x'=true) (hy:chkPO y y'=true) {s':PS}
  (hs:pstep o.dst s (.pick c' x' y')=some s'):Does P o O A0 w0 a w s':=by
 simp only [pstep] at hs
 split at hs
 ·rename_i t ht
  obtain rfl:=Option.some.inj hs
  have hb:=vW h hc
  rw [ht] at hb
  have hb:=V.bool_inv hb
  refine Does.val h hd (v:=if t=true then a.eval x else a.eval y) ?_ ?_
  ·unfold execOp
   simp only [ho,hb,asBool,Sem.run_bind,Sem.run_pure,Result.andThen_ok]
  ·cases t
   ·exact vW h hy
   ·exact vW h hx
 ·cases hs
theorem jhw {o:Oper} {t:TypeId} {x:Operand} {y:PO} {f:Bool} {n:Nat} {av:List Nat} (ho:o.op=.load t x) (h:Sim O w0 A0 β s (tmf a) w) (hd:dstOk o.dst a.tmps.size) (hc:chkPO x y=true)
  (d:TypeDesc) (i:TypeInfo) (hu:P.underlying t=some d) (hi:P.info? t=some i) (hn:i.size=n) (hf:d.isRow=f) (h1:f=false→n=1) {s':PS}
  (hs:pstep o.dst s (.load f n y av)=some s'):Does P o O A0 w0 a w s':=by
 rcases jag h hc hs with ⟨b,off,cs,he,hcs,hl,rfl⟩ | ⟨rfl,hk⟩
 ·obtain ⟨v,hr,hV⟩:=Jc t d i hu hi hn f hf h1 hcs hl
  refine Does.val h hd (v:=v) ?_ hV
  unfold execOp
  simp only [ho,he,Sem.run_bind,hr,Result.andThen_ok,Sem.run_pure]
 ·obtain ⟨b,off,v,pv,he,hv,hR,rfl⟩:=hk (h1 rfl)
  refine Does.val h hd (v:=v) ?_ hR
  unfold execOp
  simp only [ho,he,Sem.run_bind,XM t d hu hf hv,Result.andThen_ok,Sem.run_pure]
end
end Go.Pl
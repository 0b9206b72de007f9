/- Part of the proof of ExecTells, ExecAnswers, ExecBest, ExecFirst, ExecLevels, ExecTops, ExecLimits: lemmas. -/
import Derived.Test.YtnpncbplhdnonaaGreatExecS7
import Derived.Laws.Externs
import Derived.KernelRfl
set_option linter.unusedVariables false
set_option linter.unusedSimpArgs false
/-
 FUNCTIONS FOR WHICH THE MODEL ITSELF STANDS IN,of plain arguments. My own work.
-/
namespace Go.Pl
open Go
set_option linter.unusedVariables false
set_option linter.unusedSimpArgs false
def XF.name:XF→String
 | .adc => "math/bits.Add64"
 | .sbc => "math/bits.Sub64"
def sbcEntry:Array Value→Sem Value:=fun args=>do
 let (x, y, b) ← Extern.MathBitsCarry.three "Sub64" args
 pure (Extern.MathBitsCarry.pair ((x + Extern.MathBitsCarry.m64 - y - b) % Extern.MathBitsCarry.m64) (if x < y + b then 1 else 0))
theorem jbx {fn:Func} {n:String} {e:Array Value→Sem Value} (hn:fn.name=n) (h1:Extern.allGenericRows.lookup n=none) (h2:Extern.allTypedRows.lookup n=none) (h3:Extern.allRows.lookup n=some e) :
  Extern.find fn=some e:=by
 simp [Extern.find,hn,h1,h2,h3]
theorem V2 {fn : Func} {n : String} (hn : fn.name = n) (ho : fn.origin = "") (h1 : Extern.allNextRows.lookup n = none) (h2 : Extern.allNextRows.lookup "" = none) : Extern.findNext fn = none := by
 simp [Extern.findNext,hn,ho,h1,h2]
theorem jfb {w:World} {N:Nat→Prop} {vs:List Value} {k:IntKind} {x y z:Int} (hl:vs.length=3)
  (hV:∀ (i:Nat) (h1:i < vs.length) (h2:i < [CV.int k x,.int k y,.int k z].length),V w N vs[i] [CV.int k x,.int k y,.int k z][i]):vs=[.int k x,.int k y,.int k z]:=by
 match vs,hl with
 | [a,b,c],_ =>
  have h0:=V.int_inv (hV 0 (by simp) (by simp))
  have h1:=V.int_inv (hV 1 (by simp) (by simp))
  have h2:=V.int_inv (hV 2 (by simp) (by simp))
  simp only [List.getElem_cons_zero,List.getElem_cons_succ] at h0 h1 h2
  simp [h0,h1,h2]
theorem jh1 {cs:List CV} {r:CV} (h:xfC .adc cs=some r):∃ x y c:Int,cs=[.int .u64 x,.int .u64 y,.int .u64 c]∧(0≤x∧0≤y∧0≤c∧c≤1)∧r=.tup [.int .u64 ((x + y + c) % m64),.int .u64 ((x + y + c) / m64)]:=by
 unfold xfC at h
 split at h
 ·split at h
  ·exact ⟨_,_,_,rfl,‹_›,(Option.some.inj h).symm⟩
  ·cases h
 ·rename_i he; cases he
 ·cases h
theorem jh2 {cs:List CV} {r:CV} (h:xfC .sbc cs=some r):∃ x y c:Int,cs=[.int .u64 x,.int .u64 y,.int .u64 c]∧(0≤x∧0≤y∧y < m64∧0≤c∧c≤1)∧r=.tup [.int .u64 ((x - y - c) % m64),.int .u64 (if x < y + c then 1 else 0)]:=by
 unfold xfC at h
 split at h
 ·rename_i he; cases he
 ·split at h
  ·exact ⟨_,_,_,rfl,‹_›,(Option.some.inj h).symm⟩
  ·cases h
 ·cases h
theorem jh3 {P:Program} {x y c:Int} (hx:0≤x) (hy:0≤y) (hy':y < m64) (hc:0≤c) (hc':c≤1) (w:World) :
  (sbcEntry #[.int .u64 x,.int .u64 y,.int .u64 c]).run P w=.ok (.tuple #[.int .u64 ((x - y - c) % m64),.int .u64 (if x < y + c then 1 else 0)]) w:=by
 obtain ⟨X,rfl⟩:=Int.eq_ofNat_of_zero_le hx
 obtain ⟨Y,rfl⟩:=Int.eq_ofNat_of_zero_le hy
 obtain ⟨k,rfl⟩:=Int.eq_ofNat_of_zero_le hc
 have hk:k=0∨k=1:=by omega
 have run:(sbcEntry #[.int .u64 X,.int .u64 Y,.int .u64 k]).run P w =
   .ok (.tuple #[.int .u64 (((X + 18446744073709551616 - Y - k) % 18446744073709551616:Nat):Int),.int .u64 ((if X < Y + k then 1 else 0:Nat):Int)]) w:=by
  rcases hk with rfl | rfl <;> rfl
 rw [run]
 have e1:(((X + 18446744073709551616 - Y - k) % 18446744073709551616:Nat):Int)=((X:Int) - Y - k) % m64:=by
  unfold m64 at hy' ⊢
  omega
 have e2:((if X < Y + k then 1 else 0:Nat):Int)=(if (X:Int) < Y + k then 1 else 0):=by
  split <;> split <;> first | rfl | omega
 rw [e1,e2]
section
variable {O : Nat → Prop} {A0 : Lent} {w0 w : World} {β : Bt} {s : PS} {a : Act} {P : Program}
theorem jlj {g : XF} {fn : Func} (hn : fn.name = g.name) (ho : fn.origin = "") (hb : fn.body.isNone = true) {f : FuncId} (hf : P.funcs[f]? = some fn) {vs : Array Value} {cs : List CV} {N : Nat → Prop} {r : CV}
  (hl:vs.toList.length=cs.length) (hV:∀ (i:Nat) (h1:i < vs.toList.length) (h2:i < cs.length),V w N vs.toList[i] cs[i]) (hr:xfC g cs=some r) :
  ∃ v,(callFunc f vs).run P w=.ok (.value v) w∧V w N v r:=by
 have tup2:∀ (p q:Int),V w N (.tuple #[.int .u64 p,.int .u64 q]) (.tup [.int .u64 p,.int .u64 q]):=fun p q =>
  V.tup _ _ rfl (fun i h1 h2=>by
   match i with
   | 0=>exact V.int _ _
   | 1=>exact V.int _ _
   | i + 2=>exact absurd h2 (by simp))
 cases g with
 | adc =>
  obtain ⟨x,y,c,rfl,hc,rfl⟩:=jh1 hr
  have:=jfb (by simpa using hl) hV
  obtain rfl:vs=#[.int .u64 x,.int .u64 y,.int .u64 c]:=by
   apply Array.toList_inj.mp; simpa using this
  obtain ⟨h0,h1,h2,h3⟩:=hc
  rw [run_callFunc_extern hf (by rw [hn]; kernel_rfl) hb (V2 hn ho (by kernel_rfl) (by kernel_rfl)) (jbx (e:=add64Entry) hn (by kernel_rfl) (by kernel_rfl) (by kernel_rfl)),run_add64 x y c h0 h1 h2 h3]
  exact ⟨_,rfl,tup2 _ _⟩
 | sbc =>
  obtain ⟨x,y,c,rfl,hc,rfl⟩:=jh2 hr
  have:=jfb (by simpa using hl) hV
  obtain rfl:vs=#[.int .u64 x,.int .u64 y,.int .u64 c]:=by
   apply Array.toList_inj.mp; simpa using this
  obtain ⟨h0,h1,h1',h2,h3⟩:=hc
  rw [run_callFunc_extern hf (by rw [hn]; kernel_rfl) hb (V2 hn ho (by kernel_rfl) (by kernel_rfl)) (jbx (e:=sbcEntry) hn (by kernel_rfl) (by kernel_rfl) (by kernel_rfl)),jh3 h0 h1 h1' h2 h3]
  exact ⟨_,rfl,tup2 _ _⟩
theorem JS (h:Sim O w0 A0 β s (tmf a) w):∀ {xs:List Operand} {ys:List PO} {cs:List CV},chkPOs xs ys=true→evcs s ys=some cs →
  xs.length=cs.length∧∀ (i:Nat) (h1:i < xs.length) (h2:i < cs.length),V w (Nn O β s.bx) (a.eval xs[i]) cs[i]
 | [],[],cs,_,he=>by obtain rfl:=Option.some.inj he; exact ⟨rfl,fun i h=>by simp at h⟩
 | [],_::_,_,hc,_=>by cases hc
 | _::_,[],_,hc,_=>by cases hc
 | x::xs,y::ys,cs,hc,he=>by
  simp only [chkPOs,Bool.and_eq_true] at hc
  simp only [evcs] at he
  split at he
  ·rename_i v vs hv hvs
   obtain rfl:=Option.some.inj he
   obtain ⟨hl,hV⟩:=JS h hc.2 hvs
   refine ⟨by simp [hl],fun i h1 h2=>?_⟩
   cases i with
   | zero=>exact jX h hc.1 hv
   | succ i=>exact hV i (by simpa using h1) (by simpa using h2)
  ·cases he
theorem jmm {o : Oper} {f : FuncId} {cargs : Array Operand} {tys : Array TypeId} {g : XF} {ys : List PO} {fn : Func} (ho : o.op = .call ⟨.value (.func f), cargs, tys⟩) (hf : P.funcs[f]? = some fn) (hn : fn.name = g.name) (horg : fn.origin = "") (hb : fn.body.isNone = true)
  (h:Sim O w0 A0 β s (tmf a) w) (hd:dstOk o.dst a.tmps.size) (hcs:chkPOs cargs.toList ys=true) {s':PS} (hs:pstep o.dst s (.xf g ys)=some s'):Does P o O A0 w0 a w s':=by
 simp only [pstep] at hs
 split at hs
 ·rename_i cs hev
  cases hr:xfC g cs with
  | none=>rw [hr] at hs; cases hs
  | some r =>
   rw [hr] at hs
   obtain rfl:=Option.some.inj hs
   obtain ⟨hl,hV⟩:=JS h hcs hev
   obtain ⟨v,hrun,hv⟩:=jlj (P:=P) (w:=w) hn horg hb hf (vs:=cargs.map a.eval) (cs:=cs) (N:=Nn O β s.bx) (by simpa using hl) (fun i h1 h2=>by
    have:=hV i (by simpa using h1) h2
    simpa using this) hr
   refine Does.val h hd (v:=v) ?_ hv
   unfold execOp
   simp only [ho,resolve,Act.eval,Deferred.ofValue,invoke,Sem.run_bind,Sem.run_pure,Result.andThen_ok]
   simpa using hrun
 ·cases hs
end
end Go.Pl
/-
 A slice of the frame's own changes its box. My own work.
-/
namespace Go.Pl
open Go
set_option linter.unusedVariables false
section
variable {O : Nat → Prop} {A0 : Lent} {w0 w : World} {β : Bt} {s : PS} {a : Act} {P : Program}
theorem Sim.rn {tm:Nat→Value} (h:Sim O w0 A0 β s tm w) {i d e ver len sz:Nat} {es:List (List CV)} (hi:s.t i=.osl d ver 0 len) (hb:s.bx d=⟨ver,.sl sz es⟩) (hde:d≠e) (hl:len=es.length) :
  Sim O w0 A0 (fun j=>if j=e then β d else β j) (((s.box d ⟨ver,.dead⟩).box e ⟨(s.bx e).ver + 1,.sl sz es⟩).put i (.osl e ((s.bx e).ver + 1) 0 len)) tm w:=by
 have hR:=h.temps i
 rw [hi] at hR
 have hB:=h.boxes d
 rw [hb] at hB
 have hH:=wM hR hb hl hB
 have hm:=h.move (d:=d) (e:=e) (sz:=sz) (es:=es) hde (by rw [hb])
 rw [show (s.bx d).ver=ver by rw [hb]] at hm
 have hbe:((s.box d ⟨ver,.dead⟩).box e ⟨(s.bx e).ver + 1,.sl sz es⟩).bx e=⟨(s.bx e).ver + 1,.sl sz es⟩:=by simp [PS.box]
 have:=hm.put i (.osl e ((s.bx e).ver + 1) 0 len) (tm i) (by
  refine ⟨⟨by rw [hbe]; exact Nat.le_refl _,hH.one⟩,fun _ sz2 es2 hs2=>⟨rfl,?_⟩⟩
  rw [hbe] at hs2
  cases hs2
  simp only [if_true]
  rcases hH with ⟨h1,h2,h3⟩ | ⟨b,cap,h1,h2,h3,h4⟩
  ·exact .inl ⟨h1,h2,by rw [hl,h3]; rfl⟩
  ·exact .inr ⟨b,cap,h1,by rw [hl]; exact h2,by rw [hl]; exact h3,h4⟩)
 have e0:(fun j=>if j=i then tm i else tm j)=tm:=by funext j; split <;> simp_all
 rw [e0] at this
 exact this
/-! ### Cells of a variable -/
theorem Sim.recell {tm:Nat→Value} (h:Sim O w0 A0 β s tm w) {d ver k:Nat} {ps:List PV} {pv:PV} (hb:s.bx d=⟨ver,.vp ps⟩) (h1:pv.one=true)
  (hR:∀ v,∀ hk:k < ps.length,R w (Nn O β s.bx) β s.bx v ps[k]→R w (Nn O β s.bx) β s.bx v pv):Sim O w0 A0 β (s.box d ⟨ver,.vp (ps.set k pv)⟩) tm w:=by
 obtain ⟨b,base,hp,ho,hc⟩:=h.vps d ps (by rw [hb])
 have hown:(s.bx d).st.owned=true:=by rw [hb]; rfl
 have:=h.change (w':=w) d (β d) ⟨ver,.vp (ps.set k pv)⟩ rfl rfl rfl (Nat.le_refl _) (fun b _ _=>rfl)
  (.inr ⟨by rw [hb],.inr ⟨rfl,(by rw [hb]; rfl),fun sz es hs=>(by cases hs)⟩⟩)
  (fun p _ hp=>.inl ⟨hown,p,hp,rfl⟩) trivial
  (fun hext hcomp=>⟨fun ps' hps'=>by
   cases hps'
   refine ⟨b,base,hp,by rw [List.length_set]; exact ho,fun p hp=>?_,fun j hj=>?_⟩
   ·rcases List.mem_or_eq_of_mem_set hp with hp | rfl
    ·exact hc.1 p hp
    ·exact h1
   ·have hj':j < ps.length:=by simpa using hj
    obtain ⟨v,hv,hRj⟩:=hc.2 j hj'
    refine ⟨v,hv,R.change hext hcomp ?_⟩
    by_cases e:k=j
    ·subst e; rw [List.getElem_set_self]; exact hR v hj' hRj
    ·rw [List.getElem_set_ne e]; exact hRj,fun es hes=>(by cases hes)⟩)
 have e0:(fun i=>if i=d then β d else β i)=β:=by funext i; split <;> simp_all
 rw [e0] at this
 exact this
theorem Sim.fzc {tm:Nat→Value} (h:Sim O w0 A0 β s tm w) {d ver k e u off len:Nat} {ps:List PV} (hb:s.bx d=⟨ver,.vp ps⟩) (hk:ps[k]? = some (.osl e u off len)) (hed:e≠d) {c:CV} (hc:s.close (.osl e u off len)=some c) :
  Sim O w0 A0 β ((s.box e ⟨u,.dead⟩).box d ⟨ver,.vp (ps.set k (.c c))⟩) tm w:=by
 obtain ⟨hkl,hk⟩:=List.getElem?_eq_some_iff.1 hk
 simp only [PS.close] at hc
 split at hc
 ·rename_i q sz es hbe
  split at hc
  ·rename_i hcond
   obtain ⟨rfl,rfl,hl⟩:=hcond
   obtain rfl:=Option.some.inj hc
   have hB:=h.boxes e
   rw [hbe] at hB
   have hK:=h.kill e
   rw [hbe] at hK
   have hbd:(s.box e ⟨q,.dead⟩).bx d=⟨ver,.vp ps⟩:=by simp [PS.box,Ne.symm hed,hb]
   -- each value of the cell is a header of the box
   obtain ⟨b,base,hp,ho,hcs⟩:=h.vps d ps (by rw [hb])
   obtain ⟨v,hv,hR⟩:=hcs.2 k hkl
   rw [hk] at hR
   have hV:=wt h (d:=e) (sz:=sz) (es:=es) (by rw [hbe]) (wM hR hbe hl hB) q
   obtain ⟨b',base',hp',ho',hcs'⟩:=hK.vps d ps (by rw [hbd])
   have hown:((s.box e ⟨q,.dead⟩).bx d).st.owned=true:=by rw [hbd]; rfl
   have:=hK.change (w':=w) d (β d) ⟨ver,.vp (ps.set k (.c (.sl es)))⟩ rfl rfl rfl (Nat.le_refl _) (fun b _ _=>rfl)
    (.inr ⟨by rw [hbd],.inr ⟨rfl,(by rw [hbd]; rfl),fun sz es hs=>(by cases hs)⟩⟩)
    (fun p _ hp=>.inl ⟨hown,p,hp,rfl⟩) trivial
    (fun hext hcomp=>⟨fun ps' hps'=>by
     cases hps'
     refine ⟨b',base',hp',by rw [List.length_set]; exact ho',fun p hp=>?_,fun j hj=>?_⟩
     ·rcases List.mem_or_eq_of_mem_set hp with hp | rfl
      ·exact hcs'.1 p hp
      ·rfl
     ·have hj':j < ps.length:=by simpa using hj
      by_cases e':k=j
      ·subst e'
       refine ⟨v,?_,?_⟩
       ·rw [hp] at hp'
        obtain ⟨rfl,rfl⟩:=Prod.mk.inj (Option.some.inj hp')
        exact hv
       ·rw [List.getElem_set_self]
        exact V.ext hext hV
      ·obtain ⟨v,hv,hRj⟩:=hcs'.2 j hj'
       exact ⟨v,hv,by rw [List.getElem_set_ne e']; exact hRj.change hext hcomp⟩,fun es hes=>(by cases hes)⟩)
   have e0:(fun i=>if i=d then β d else β i)=β:=by funext i; split <;> simp_all
   rw [e0] at this
   exact this
  ·cases hc
 ·cases hc
theorem Sim.rnc {tm:Nat→Value} (h:Sim O w0 A0 β s tm w) {d ver k g e u len sz:Nat} {es:List (List CV)} {ps:List PV} (hb:s.bx d=⟨ver,.vp ps⟩) (hk:ps[k]? = some (.osl g u 0 len)) (hde:d≠e) (hge:g≠e) (hgd:g≠d) (hbg:s.bx g=⟨u,.sl sz es⟩) (hl:len=es.length) :
  Sim O w0 A0 (fun j=>if j=e then β g else β j) (((s.box g ⟨u,.dead⟩).box e ⟨(s.bx e).ver + 1,.sl sz es⟩).box d ⟨ver,.vp (ps.set k (.osl e ((s.bx e).ver + 1) 0 len))⟩) tm w:=by
 obtain ⟨hkl,hk⟩:=List.getElem?_eq_some_iff.1 hk
 have hB:=h.boxes g
 rw [hbg] at hB
 obtain ⟨b,base,hp,ho,hcs⟩:=h.vps d ps (by rw [hb])
 obtain ⟨v,hv,hR⟩:=hcs.2 k hkl
 rw [hk] at hR
 have hH:=wM hR hbg hl hB
 have hm:=h.move (d:=g) (e:=e) (sz:=sz) (es:=es) hge (by rw [hbg])
 rw [show (s.bx g).ver=u by rw [hbg]] at hm
 have hbd:((s.box g ⟨u,.dead⟩).box e ⟨(s.bx e).ver + 1,.sl sz es⟩).bx d=⟨ver,.vp ps⟩:=by simp [PS.box,hde,Ne.symm hgd,hb]
 have hbe:((s.box g ⟨u,.dead⟩).box e ⟨(s.bx e).ver + 1,.sl sz es⟩).bx e=⟨(s.bx e).ver + 1,.sl sz es⟩:=by simp [PS.box]
 obtain ⟨b',base',hp',ho',hcs'⟩:=hm.vps d ps (by rw [hbd])
 have hown:(((s.box g ⟨u,.dead⟩).box e ⟨(s.bx e).ver + 1,.sl sz es⟩).bx d).st.owned=true:=by rw [hbd]; rfl
 have:=hm.change (w':=w) d ((fun j=>if j=e then β g else β j) d) ⟨ver,.vp (ps.set k (.osl e ((s.bx e).ver + 1) 0 len))⟩ rfl rfl rfl (Nat.le_refl _) (fun b _ _=>rfl)
  (.inr ⟨by rw [hbd],.inr ⟨rfl,(by rw [hbd]; rfl),fun sz es hs=>(by cases hs)⟩⟩)
  (fun p _ hp=>.inl ⟨hown,p,hp,rfl⟩) trivial
  (fun hext hcomp=>⟨fun ps' hps'=>by
   cases hps'
   refine ⟨b',base',hp',by rw [List.length_set]; exact ho',fun p hp=>?_,fun j hj=>?_⟩
   ·rcases List.mem_or_eq_of_mem_set hp with hp | rfl
    ·exact hcs'.1 p hp
    ·rfl
   ·have hj':j < ps.length:=by simpa using hj
    by_cases e':k=j
    ·subst e'
     refine ⟨v,?_,?_⟩
     ·simp only [if_neg hde] at hp'
      rw [hp] at hp'
      obtain ⟨rfl,rfl⟩:=Prod.mk.inj (Option.some.inj hp')
      exact hv
     ·rw [List.getElem_set_self]
      refine R.change hext hcomp ?_
      refine ⟨⟨by rw [hbe]; exact Nat.le_refl _,hH.one⟩,fun _ sz2 es2 hs2=>⟨rfl,?_⟩⟩
      rw [hbe] at hs2
      cases hs2
      simp only [if_true]
      rcases hH with ⟨h1,h2,h3⟩ | ⟨b,cap,h1,h2,h3,h4⟩
      ·exact .inl ⟨h1,h2,by rw [hl,h3]; rfl⟩
      ·exact .inr ⟨b,cap,h1,by rw [hl]; exact h2,by rw [hl]; exact h3,h4⟩
    ·obtain ⟨v,hv,hRj⟩:=hcs'.2 j hj'
     exact ⟨v,hv,by rw [List.getElem_set_ne e']; exact hRj.change hext hcomp⟩,fun es hes=>(by cases hes)⟩)
 have e0:(fun i=>if i=d then (fun j=>if j=e then β g else β j) d else (fun j=>if j=e then β g else β j) i)=(fun j=>if j=e then β g else β j):=by funext i; split <;> simp_all
 rw [e0] at this
 exact this
theorem Sim.fzv {tm:Nat→Value} (h:Sim O w0 A0 β s tm w) {i d ver:Nat} {cs:List CV} (hi:s.t i=.ptr d ver 0) (hb:s.bx d=⟨ver,.var cs⟩):Sim O w0 A0 β ((s.box d ⟨ver,.dead⟩).put i (.rp cs)) tm w:=by
 have hR:=h.temps i
 rw [hi] at hR
 obtain ⟨b,base,hβ,hv⟩:=hR.2 (by rw [hb]) (by rw [hb]; rfl)
 have hB:=h.boxes d
 rw [hb] at hB
 obtain ⟨b',base',hp,ho,hc⟩:=hB
 rw [hβ] at hp
 obtain ⟨rfl,rfl⟩:=Prod.mk.inj (Option.some.inj hp)
 have hown:(s.bx d).st.owned=true:=by rw [hb]; rfl
 have hK:=h.kill d
 rw [hb] at hK
 have hless:∀ b,Nn O β (s.box d ⟨ver,.dead⟩).bx b→Nn O β s.bx b:=by
  rintro b (hn | ⟨j,base,hj,hbj⟩)
  ·exact .inl hn
  ·by_cases e:j=d
   ·subst e; simp [PS.box,BSt.owned] at hj
   ·simp only [PS.box,if_neg e] at hj; exact .inr ⟨j,base,hj,hbj⟩
 have hnot:¬ Nn O β (s.box d ⟨ver,.dead⟩).bx b:=by
  rintro (hn | ⟨j,base',hj,hbj⟩)
  ·exact (h.out d _ hown hβ).1 hn
  ·by_cases e:j=d
   ·subst e; simp [PS.box,BSt.owned] at hj
   ·simp only [PS.box,if_neg e] at hj; exact h.inj j d _ _ e hj hown hbj hβ rfl
 have:=hK.put i (.rp cs) (tm i) ⟨b,base,by simpa using hv,ho.lt,hnot,hc.ext (.of_less hless) rfl⟩
 have e0:(fun j=>if j=i then tm i else tm j)=tm:=by funext j; split <;> simp_all
 rw [e0] at this
 exact this
theorem Sim.vvp {tm:Nat→Value} (h:Sim O w0 A0 β s tm w) {d ver:Nat} {cs:List CV} (hb:s.bx d=⟨ver,.var cs⟩):Sim O w0 A0 β (s.box d ⟨ver,.vp (cs.map PV.c)⟩) tm w:=by
 have hB:=h.boxes d
 rw [hb] at hB
 obtain ⟨b,base,hp,ho,hc⟩:=hB
 have hown:(s.bx d).st.owned=true:=by rw [hb]; rfl
 have:=h.change (w':=w) d (β d) ⟨ver,.vp (cs.map PV.c)⟩ rfl rfl rfl (Nat.le_refl _) (fun b _ _=>rfl)
  (.inr ⟨by rw [hb],.inr ⟨rfl,(by rw [hb]; rfl),fun sz es hs=>(by cases hs)⟩⟩)
  (fun p _ hp=>.inl ⟨hown,p,hp,rfl⟩) trivial
  (fun hext hcomp=>⟨fun ps' hps'=>by
   cases hps'
   refine ⟨b,base,by simpa using hp,by rw [List.length_map]; exact ho,fun p hp=>?_,fun j hj=>?_⟩
   ·obtain ⟨c,hcm,rfl⟩:=List.mem_map.mp hp
    exact hc.1 c hcm
   ·have hj':j < cs.length:=by simpa using hj
    obtain ⟨v,hv,hV⟩:=hc.2 j hj'
    refine ⟨v,hv,?_⟩
    rw [List.getElem_map]
    exact hV.ext hext,fun es hes=>(by cases hes)⟩)
 have e0:(fun i=>if i=d then β d else β i)=β:=by funext i; split <;> simp_all
 rw [e0] at this
 exact this
theorem Sim.zn {tm:Nat→Value} (h:Sim O w0 A0 β s tm w) {d ver k sz e:Nat} {cs:List CV} (hb:s.bx d=⟨ver,.var cs⟩) (hde:d≠e) (hk:cs[k]? = some .nils) :
  Sim O w0 A0 (fun j=>if j=e then none else β j) ((s.box e ⟨(s.bx e).ver + 1,.sl sz []⟩).box d ⟨ver,.vp ((cs.map PV.c).set k (.osl e ((s.bx e).ver + 1) 0 0))⟩) tm w:=by
 have h1:=h.change (w':=w) e none ⟨(s.bx e).ver + 1,.sl sz []⟩ rfl rfl rfl (Nat.le_refl _) (fun b _ _=>rfl) (.inl (Nat.lt_succ_self _)) (fun p _ hp=>by cases hp) ⟨by simp,.inl ⟨rfl,rfl⟩⟩
 have hbd:(s.box e ⟨(s.bx e).ver + 1,.sl sz []⟩).bx d=⟨ver,.var cs⟩:=by simp [PS.box,hde,hb]
 have h2:=h1.vvp hbd
 have hbd2:((s.box e ⟨(s.bx e).ver + 1,.sl sz []⟩).box d ⟨ver,.vp (cs.map PV.c)⟩).bx d=⟨ver,.vp (cs.map PV.c)⟩:=by simp [PS.box]
 have h3:=h2.recell (k:=k) (pv:=.osl e ((s.bx e).ver + 1) 0 0) hbd2 rfl (fun v hkl hR=>by
  obtain ⟨hkl',hk'⟩:=List.getElem?_eq_some_iff.1 hk
  rw [List.getElem_map,hk'] at hR
  have hV:V w _ v .nils:=hR
  obtain rfl:v=.slice none 0 0:=by
   generalize hc:CV.nils=c at hV
   cases hV <;> cases hc
   rfl
  have hbe:((s.box e ⟨(s.bx e).ver + 1,.sl sz []⟩).box d ⟨ver,.vp (cs.map PV.c)⟩).bx e=⟨(s.bx e).ver + 1,.sl sz []⟩:=by simp [PS.box,Ne.symm hde]
  exact ⟨⟨by rw [hbe]; exact Nat.le_refl _,rfl⟩,fun _ sz' es' hs=>⟨rfl,.inl ⟨by simp,rfl,rfl⟩⟩⟩)
 rw [wO] at h3
 exact h3
theorem Sim.nvp {tm:Nat→Value} (h:Sim O w0 A0 β s tm w) {d ver:Nat} {ps:List PV} {cs:List CV} (hb:s.bx d=⟨ver,.vp ps⟩) (hc:closed? ps=some cs):Sim O w0 A0 β (s.box d ⟨ver,.var cs⟩) tm w:=by
 obtain ⟨b,base,hp,ho,hcs⟩:=h.vps d ps (by rw [hb])
 obtain ⟨hca,hlen⟩:=wI hc hcs
 have hown:(s.bx d).st.owned=true:=by rw [hb]; rfl
 have hless:∀ b,Nn O (fun i=>if i=d then β d else β i) (fun i=>if i=d then ⟨ver,.var cs⟩ else s.bx i) b→Nn O β s.bx b:=by
  rintro b (hn | ⟨i,base,ho,hi⟩)
  ·exact .inl hn
  ·by_cases e:i=d
   ·subst e; simp only [if_true] at hi; exact .inr ⟨i,base,hown,hi⟩
   ·simp only [if_neg e] at ho hi; exact .inr ⟨i,base,ho,hi⟩
 have:=h.change (w':=w) d (β d) ⟨ver,.var cs⟩ rfl rfl rfl (Nat.le_refl _) (fun b _ _=>rfl)
  (.inr ⟨by rw [hb],.inr ⟨rfl,(by rw [hb]; rfl),fun sz es hs=>(by cases hs)⟩⟩)
  (fun p _ hp=>.inl ⟨hown,p,hp,rfl⟩) ⟨b,base,hp,by rw [hlen]; exact ho,hca.ext (.of_less hless) rfl⟩
 have e0:(fun i=>if i=d then β d else β i)=β:=by funext i; split <;> simp_all
 rw [e0] at this
 exact this
end
end Go.Pl
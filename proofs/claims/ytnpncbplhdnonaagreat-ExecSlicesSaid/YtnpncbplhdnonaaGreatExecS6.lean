/- Part of the proof of ExecTells, ExecAnswers, ExecBest, ExecFirst, ExecLevels, ExecTops, ExecLimits: lemmas. -/
import Derived.Test.YtnpncbplhdnonaaGreatExecS5
set_option linter.unusedVariables false
set_option linter.unusedSimpArgs false
/-
 EACH OPERATION,GOES ON: addresses,parts,tuples,lengths. My own work.
-/
namespace Go.Pl
open Go
set_option linter.unusedVariables false
section
variable {O : Nat → Prop} {A0 : Lent} {w0 w : World} {β : Bt} {s : PS} {a : Act} {P : Program}
theorem moved (h:Sim O w0 A0 β s (tmf a) w) {v:Value} {pv pv':PV} {k:Nat} (hR:R w (Nn O β s.bx) β s.bx v pv)
  (hp:(∃ cs,pv=.rp cs∧k≤cs.length∧pv'=.rp (cs.drop k))∨(∃ d e o st,pv=.ptr d e o∧(s.bx d=⟨e,st⟩∧st.isv=true)∧pv'=.ptr d e (o + k)) ∨
   (∃ d e i o sz es,pv=.sp d e i o∧s.bx d=⟨e,.sl sz es⟩∧pv'=.sp d e i (o + k))) :
  ∃ b off,v=.pointer (some ⟨b,off,none⟩)∧R w (Nn O β s.bx) β s.bx (.pointer (some ⟨b,off + k,none⟩)) pv':=by
 rcases hp with ⟨cs,rfl,hk,rfl⟩ | ⟨d,e,o,cs,rfl,⟨hb,hst⟩,rfl⟩ | ⟨d,e,i,o,sz,es,rfl,hb,rfl⟩
 ·obtain ⟨b,off,he,hb,hN,hcs⟩:=hR
  exact ⟨b,off,he,b,off + k,rfl,hb,hN,hcs.drop k⟩
 ·obtain ⟨b,base,hβ,he⟩:=hR.2 (by rw [hb]) (by rw [hb]; exact hst)
  refine ⟨b,_,he,⟨hR.1.1,rfl⟩,fun hv hs=>⟨b,base,hβ,by rw [Nat.add_assoc]⟩⟩
 ·obtain ⟨b,hβ,he⟩:=hR.2 (by rw [hb]) sz es (by rw [hb])
  refine ⟨b,_,he,hR.1,fun hv sz' es' hs=>?_⟩
  rw [hb] at hs
  cases hs
  exact ⟨b,hβ,by rw [Nat.add_assoc]⟩
theorem jk6 {o:Oper} {t:TypeId} {x:Operand} {y:PO} {f k:Nat} {fs:Array Field} {fd:Field} {i:TypeInfo} (ho:o.op=.fieldAddr t x f) (h:Sim O w0 A0 β s (tmf a) w) (hd:dstOk o.dst a.tmps.size) (hc:chkPO x y=true)
  (hu:P.underlying t=some (.struct fs)) (hf:fs[f]? = some fd) (hk:fd.offset=k) (hi:P.info? fd.type=some i) (hi0:i.size≠0) {s':PS} (hs:pstep o.dst s (.fad k y)=some s'):Does P o O A0 w0 a w s':=by
 have hR:=vW h hc
 have key:∀ pv',((∃ cs,s.ev y=.rp cs∧k≤cs.length∧pv'=.rp (cs.drop k))∨(∃ d e o st,s.ev y=.ptr d e o∧(s.bx d=⟨e,st⟩∧st.isv=true)∧pv'=.ptr d e (o + k)) ∨
   (∃ d e i o sz es,s.ev y=.sp d e i o∧s.bx d=⟨e,.sl sz es⟩∧pv'=.sp d e i (o + k)))→s'=s.putO o.dst pv'→Does P o O A0 w0 a w s':=by
  rintro pv' hp rfl
  obtain ⟨b,off,he,hR'⟩:=moved h hR hp
  refine Does.val h hd (v:=.pointer (some ⟨b,off + k,none⟩)) ?_ hR'
  unfold execOp
  simp only [ho,he,Instr.fieldAt,Instr.sureAddr,fieldPlace,sizeOf,typeInfo,program,Sem.run_bind,Sem.run,run_underlying hu,hf,hi,hi0,if_false,Result.andThen_ok,Sem.run_pure,hk,Addr.add_mid]
 simp only [pstep] at hs
 split at hs
 ·rename_i cs hy
  split at hs
  ·exact key _ (.inl ⟨cs,hy,‹_›,rfl⟩) (Option.some.inj hs).symm
  ·cases hs
 ·rename_i d v o' hy
  split at hs
  ·rename_i u cs hb
   split at hs
   ·rename_i hv
    subst hv
    exact key _ (.inr (.inl ⟨d,u,o',_,hy,⟨hb,rfl⟩,rfl⟩)) (Option.some.inj hs).symm
   ·cases hs
  ·rename_i u cs hb
   split at hs
   ·rename_i hv
    subst hv
    exact key _ (.inr (.inl ⟨d,u,o',_,hy,⟨hb,rfl⟩,rfl⟩)) (Option.some.inj hs).symm
   ·cases hs
  ·cases hs
 ·rename_i d v j o' hy
  split at hs
  ·rename_i u sz es hb
   split at hs
   ·rename_i hv
    subst hv
    exact key _ (.inr (.inr ⟨d,u,j,o',sz,es,hy,hb,rfl⟩)) (Option.some.inj hs).symm
   ·cases hs
  ·cases hs
 ·cases hs
theorem jk7 {o:Oper} {t e:TypeId} {x ix:Operand} {y iy:PO} {len sz:Nat} {i:TypeInfo} (ho:o.op=.indexAddr t x ix) (h:Sim O w0 A0 β s (tmf a) w) (hd:dstOk o.dst a.tmps.size) (hc:chkPO x y=true) (hci:chkPO ix iy=true)
  (hu:P.underlying t=some (.array len e)) (hi:P.info? e=some i) (hsz:i.size=sz) {s':PS} (hs:pstep o.dst s (.iaA len sz y iy)=some s'):Does P o O A0 w0 a w s':=by
 have hR:=vW h hc
 simp only [pstep] at hs
 split at hs
 ·rename_i k n hn
  have hV:=V.int_inv (jX h hci hn)
  split at hs
  ·rename_i hr
   have key:∀ pv',((∃ cs,s.ev y=.rp cs∧n.toNat * sz≤cs.length∧pv'=.rp (cs.drop (n.toNat * sz)))∨(∃ d e o st,s.ev y=.ptr d e o∧(s.bx d=⟨e,st⟩∧st.isv=true)∧pv'=.ptr d e (o + n.toNat * sz)) ∨
     (∃ d e i o sz' es,s.ev y=.sp d e i o∧s.bx d=⟨e,.sl sz' es⟩∧pv'=.sp d e i (o + n.toNat * sz)))→s'=s.putO o.dst pv'→Does P o O A0 w0 a w s':=by
    rintro pv' hp rfl
    obtain ⟨b,off,he,hR'⟩:=moved h hR hp
    refine Does.val h hd (v:=.pointer (some ⟨b,off + n.toNat * sz,none⟩)) ?_ hR'
    unfold execOp
    simp only [ho,he,hV,Instr.indexAt,Instr.sureAddr,asIntOf,sizeOf,typeInfo,program,Sem.run_bind,Sem.run,run_underlying hu,hi,hsz,Result.andThen_ok,Sem.run_pure,Sem.run_ite,if_pos hr,Addr.add_mid]
   split at hs
   ·rename_i cs hy
    split at hs
    ·exact key _ (.inl ⟨cs,hy,‹_›,rfl⟩) (Option.some.inj hs).symm
    ·cases hs
   ·rename_i d v o' hy
    split at hs
    ·rename_i u cs hb
     split at hs
     ·rename_i hv
      subst hv
      exact key _ (.inr (.inl ⟨d,u,o',_,hy,⟨hb,rfl⟩,rfl⟩)) (Option.some.inj hs).symm
     ·cases hs
    ·rename_i u cs hb
     split at hs
     ·rename_i hv
      subst hv
      exact key _ (.inr (.inl ⟨d,u,o',_,hy,⟨hb,rfl⟩,rfl⟩)) (Option.some.inj hs).symm
     ·cases hs
    ·cases hs
   ·rename_i d v j o' hy
    split at hs
    ·rename_i u sz' es hb
     split at hs
     ·rename_i hv
      subst hv
      exact key _ (.inr (.inr ⟨d,u,j,o',sz',es,hy,hb,rfl⟩)) (Option.some.inj hs).symm
     ·cases hs
    ·cases hs
   ·cases hs
  ·cases hs
 ·cases hs
theorem jk8 {o:Oper} {t e:TypeId} {x ix:Operand} {y iy:PO} {sz:Nat} {i:TypeInfo} (ho:o.op=.indexAddr t x ix) (h:Sim O w0 A0 β s (tmf a) w) (hd:dstOk o.dst a.tmps.size) (hc:chkPO x y=true) (hci:chkPO ix iy=true)
  (hu:P.underlying t=some (.slice e)) (hi:P.info? e=some i) (hsz:i.size=sz) {s':PS} (hs:pstep o.dst s (.iaS sz y iy)=some s'):Does P o O A0 w0 a w s':=by
 have hR:=vW h hc
 simp only [pstep] at hs
 split at hs
 ·rename_i k n hn
  have hV:=V.int_inv (jX h hci hn)
  have run:∀ b off len cap,a.eval x=.slice (some ⟨b,off,none⟩) len cap→0≤n∧n < (len:Int)→(execOp a.eval o).run P w=.ok (.value (.pointer (some ⟨b,off + n.toNat * sz,none⟩))) w:=by
   intro b off len cap he hr
   unfold execOp
   simp only [ho,he,hV,Instr.indexAt,asIntOf,sizeOf,typeInfo,program,Sem.run_bind,Sem.run,run_underlying hu,hi,hsz,Result.andThen_ok,Sem.run_pure,Sem.run_ite,if_pos hr,Addr.add_mid]
  split at hs
  ·rename_i es hy
   rw [hy] at hR
   split at hs
   ·rename_i hr
    split at hs
    ·rename_i hlen
     obtain rfl:=Option.some.inj hs
     have hlt:n.toNat < es.length:=by omega
     have hget:es.getD n.toNat []=es[n.toNat]:=by simp [List.getD,hlt]
     rw [hget] at hlen ⊢
     generalize hvx:a.eval x=vx at hR
     cases hR with
     | nil=>simp at hlt
     | emp _ _=>simp at hlt
     | sl b off cap sz' _ c hb hN hz hcap h1 hread hVV =>
      have:sz'=sz:=by rw [← hz _ (List.getElem_mem hlt)]; exact hlen
      subst this
      refine Does.val h hd (run b off es.length cap hvx hr) ⟨b,off + n.toNat * sz',rfl,hb,hN,h1 _ (List.getElem_mem hlt),fun j hj=>?_⟩
      exact ⟨c n.toNat j,by rw [Nat.add_assoc]; exact hread _ _ hlt hj,hVV _ _ hlt hj⟩
    ·cases hs
   ·cases hs
  ·rename_i d v off len hy
   rw [hy] at hR
   split at hs
   ·rename_i u sz' es hb
    split at hs
    ·rename_i hcond
     obtain ⟨rfl,rfl,hr⟩:=hcond
     obtain rfl:=Option.some.inj hs
     obtain ⟨rfl,hor⟩:=hR.2 (by rw [hb]) sz' es (by rw [hb])
     rcases hor with ⟨_,_,rfl⟩ | ⟨b,cap,hβ,he,_,_⟩
     ·exact absurd hr.2 (by omega)
     ·refine Does.val h hd (run b 0 len cap he hr) ⟨by rw [hb]; exact Nat.le_refl _,fun _ sz2 es2 hs2=>⟨b,hβ,?_⟩⟩
      rw [hb] at hs2
      cases hs2
      simp
    ·cases hs
   ·cases hs
  ·cases hs
 ·cases hs
theorem je9 {t:TypeId} {d:TypeDesc} {i:TypeInfo} {N:Nat→Prop} {vs:Array Value} {cs:List CV} {off n:Nat} {f:Bool} (hu:P.underlying t=some d) (hi:P.info? t=some i) (hn:i.size=n) (hf:d.isRow=f) (h1:f=false→n=1)
  (hV:V w N (.agg vs) (.agg cs)) (hl:off + n≤cs.length):∃ v,(part t vs off).run P w=.ok v w∧V w N v (rdc f n (cs.drop off)):=by
 cases hV with
 | agg _ _ hlen ho hV =>
 have hct:P.cellsOf t=n:=by simp [Program.cellsOf,hi,hn]
 cases f with
 | true =>
  refine ⟨_,vO hu hf hi,?_⟩
  rw [hct]
  simp only [rdc,if_true]
  refine .agg _ _ (by simp; omega) (fun c hc=>ho c (List.mem_of_mem_drop (List.mem_of_mem_take hc))) fun j h1 h2=>?_
  have:=hV (off + j) (by simp at h1 h2; omega) (by simp at h2; omega)
  simpa using this
 | false =>
  have hn1:=h1 rfl
  have hlt:off < vs.size:=by omega
  refine ⟨_,wq hu hf hlt,?_⟩
  have:rdc false n (cs.drop off)=cs[off]'(by omega):=by
   simp only [rdc,Bool.false_eq_true,if_false]
   rw [List.drop_eq_getElem_cons (by omega)]
   rfl
  rw [this]
  exact hV off hlt (by omega)
theorem V.agg_inv {N:Nat→Prop} {v:Value} {cs:List CV} (h:V w N v (.agg cs)):∃ vs,v=.agg vs:=by cases h; exact ⟨_,rfl⟩
theorem jk9 {o:Oper} {t:TypeId} {x:Operand} {y:PO} {f k n:Nat} {ag:Bool} {fs:Array Field} {fd:Field} {i:TypeInfo} {d:TypeDesc} (ho:o.op=.field t x f) (h:Sim O w0 A0 β s (tmf a) w) (hd:dstOk o.dst a.tmps.size) (hc:chkPO x y=true)
  (hu:P.underlying t=some (.struct fs)) (hf:fs[f]? = some fd) (hk:fd.offset=k) (hi:P.info? fd.type=some i) (hn:i.size=n) (hud:P.underlying fd.type=some d) (hag:d.isRow=ag) (h1:ag=false→n=1)
  {s':PS} (hs:pstep o.dst s (.fld ag k n y)=some s'):Does P o O A0 w0 a w s':=by
 simp only [pstep] at hs
 split at hs
 ·rename_i cs hy
  split at hs
  ·rename_i hl
   obtain rfl:=Option.some.inj hs
   have hV:=jX h hc hy
   obtain ⟨vs,hvs⟩:=V.agg_inv hV
   rw [hvs] at hV
   obtain ⟨v,hr,hVr⟩:=je9 (P:=P) hud hi hn hag h1 hV hl
   refine Does.val h hd (v:=v) ?_ hVr
   unfold execOp
   simp only [ho,hvs,Instr.field,asAgg,Sem.run_bind,run_underlying hu,hf,hk,Result.andThen_ok,Sem.run_pure,hr]
  ·cases hs
 ·cases hs
theorem jla {o:Oper} {t e:TypeId} {x ix:Operand} {y iy:PO} {len sz:Nat} {ag:Bool} {i:TypeInfo} {d:TypeDesc} (ho:o.op=.index t x ix) (h:Sim O w0 A0 β s (tmf a) w) (hd:dstOk o.dst a.tmps.size) (hc:chkPO x y=true) (hci:chkPO ix iy=true)
  (hu:P.underlying t=some (.array len e)) (hi:P.info? e=some i) (hsz:i.size=sz) (hud:P.underlying e=some d) (hag:d.isRow=ag) (h1:ag=false→sz=1)
  {s':PS} (hs:pstep o.dst s (.idA ag len sz y iy)=some s'):Does P o O A0 w0 a w s':=by
 simp only [pstep] at hs
 split at hs
 ·rename_i k n cs hn hy
  split at hs
  ·rename_i hr
   obtain rfl:=Option.some.inj hs
   have hV:=jX h hc hy
   have hVi:=V.int_inv (jX h hci hn)
   obtain ⟨vs,hvs⟩:=V.agg_inv hV
   rw [hvs] at hV
   have hl:n.toNat * sz + sz≤cs.length:=by
    have:(n.toNat + 1) * sz≤len * sz:=Nat.mul_le_mul_right _ (by omega)
    rw [Nat.add_mul,Nat.one_mul] at this
    omega
   obtain ⟨v,hr',hVr⟩:=je9 (P:=P) hud hi hsz hag h1 hV hl
   refine Does.val h hd (v:=v) ?_ hVr
   unfold execOp
   simp only [ho,hvs,hVi,Instr.index,asIntOf,sizeOf,typeInfo,program,Sem.run_bind,Sem.run,run_underlying hu,hi,hsz,Result.andThen_ok,Sem.run_pure,Sem.run_ite,if_pos (show 0≤n∧n < (len:Int) from ⟨hr.1,hr.2.1⟩),hr']
  ·cases hs
 ·cases hs
theorem jlb {o:Oper} {t:TypeId} {x ix:Operand} {y iy:PO} (ho:o.op=.index t x ix) (h:Sim O w0 A0 β s (tmf a) w) (hd:dstOk o.dst a.tmps.size) (hc:chkPO x y=true) (hci:chkPO ix iy=true)
  (hu:P.underlying t=some .string) {s':PS} (hs:pstep o.dst s (.idS y iy)=some s'):Does P o O A0 w0 a w s':=by
 simp only [pstep] at hs
 split at hs
 ·rename_i k n b hn hy
  have hV:=V.str_inv (jX h hc hy)
  have hVi:=V.int_inv (jX h hci hn)
  split at hs
  ·rename_i h0
   split at hs
   ·rename_i c hcc
    obtain rfl:=Option.some.inj hs
    refine Does.val h hd (v:=.int .u8 c.toNat) ?_ (V.int _ _)
    unfold execOp
    simp only [ho,hV,hVi,Instr.index,asIntOf,Sem.run_bind,run_underlying hu,Result.andThen_ok,Sem.run_pure,if_pos h0,hcc]
   ·cases hs
  ·cases hs
 ·cases hs
theorem jlc {o:Oper} {x:Operand} {y:PO} {j:Nat} (ho:o.op=.extract x j) (h:Sim O w0 A0 β s (tmf a) w) (hd:dstOk o.dst a.tmps.size) (hc:chkPO x y=true)
  {s':PS} (hs:pstep o.dst s (.ext y j)=some s'):Does P o O A0 w0 a w s':=by
 simp only [pstep] at hs
 split at hs
 ·rename_i vs hy
  split at hs
  ·rename_i c hj
   obtain rfl:=Option.some.inj hs
   have hV:=jX h hc hy
   generalize hvx:a.eval x=vx at hV
   cases hV with
   | tup us _ hl hV =>
   obtain ⟨hj',rfl⟩:=List.getElem?_eq_some_iff.1 hj
   refine Does.val h hd (v:=us[j]'(by omega)) ?_ (hV j (by omega) hj')
   unfold execOp
   simp only [ho,hvx,Instr.extract,Sem.run_bind]
   simp [show j < us.size by omega]
  ·cases hs
 ·cases hs
theorem jld {o:Oper} {c:Call} {t e:TypeId} {x:Operand} {y:PO} (ho:o.op=.call c) (hcal:c.callee=.builtin .len) (hargs:c.args=#[x]) (hty:c.argTypes[0]? = some t) (h:Sim O w0 A0 β s (tmf a) w) (hd:dstOk o.dst a.tmps.size) (hc:chkPO x y=true)
  (hu:P.underlying t=some (.slice e)) {s':PS} (hs:pstep o.dst s (.len y)=some s'):Does P o O A0 w0 a w s':=by
 have hR:=vW h hc
 have runS:∀ b len cap,a.eval x=.slice b len cap→(execOp a.eval o).run P w=.ok (.value (goInt len)) w:=by
  intro b len cap he
  unfold execOp
  simp [ho,hcal,hargs,he,resolve,invoke,builtin,Builtin.len_,hty,Sem.run_bind,run_underlying hu]
 simp only [pstep] at hs
 split at hs
 ·rename_i es hy
  obtain rfl:=Option.some.inj hs
  rw [hy] at hR
  generalize hvx:a.eval x=vx at hR
  cases hR with
  | nil=>exact Does.val h hd (runS none 0 0 hvx) (V.int _ _)
  | emp b cap=>exact Does.val h hd (runS (some b) 0 cap hvx) (V.int _ _)
  | sl b off cap sz' _ c hb hN hz hcap h1 hread hVV=>exact Does.val h hd (runS _ es.length cap hvx) (V.int _ _)
 ·rename_i d v off len hy
  rw [hy] at hR
  split at hs
  ·rename_i u sz es hb
   split at hs
   ·rename_i hv
    subst hv
    obtain rfl:=Option.some.inj hs
    obtain ⟨_,hor⟩:=hR.2 (by rw [hb]) sz es (by rw [hb])
    rcases hor with ⟨_,he,rfl⟩ | ⟨b,cap,_,he,_,_⟩
    ·exact Does.val h hd (runS none 0 0 he) (V.int _ _)
    ·exact Does.val h hd (runS _ len cap he) (V.int _ _)
   ·cases hs
  ·cases hs
 ·cases hs
theorem jhz {o:Oper} {c:Call} {t:TypeId} {x:Operand} {y:PO} (ho:o.op=.call c) (hcal:c.callee=.builtin .len) (hargs:c.args=#[x]) (hty:c.argTypes[0]? = some t) (h:Sim O w0 A0 β s (tmf a) w) (hd:dstOk o.dst a.tmps.size) (hc:chkPO x y=true)
  (hu:P.underlying t=some .string) {s':PS} (hs:pstep o.dst s (.lenS y)=some s'):Does P o O A0 w0 a w s':=by
 simp only [pstep] at hs
 split at hs
 ·rename_i b hy
  obtain rfl:=Option.some.inj hs
  have hV:=V.str_inv (jX h hc hy)
  refine Does.val h hd (v:=goInt b.size) ?_ (V.int _ _)
  unfold execOp
  simp [ho,hcal,hargs,hV,resolve,invoke,builtin,Builtin.len_,hty,Sem.run_bind,run_underlying hu]
 ·cases hs
end
end Go.Pl
/-
 EACH OPERATION,GOES ON: slices of slices,literals of structs,arrays,slices. My own work.
-/
namespace Go.Pl
open Go
set_option linter.unusedVariables false
section
variable {O : Nat → Prop} {A0 : Lent} {w0 w : World} {β : Bt} {s : PS} {a : Act} {P : Program}
def chkOO:Option Operand→Option PO→Bool
 | none,none=>true
 | some x,some y=>chkPO x y
 | _,_=>false
theorem Jw (h:Sim O w0 A0 β s (tmf a) w) {x:Option Operand} {y:Option PO} (hc:chkOO x y=true) {dflt n top:Nat} (hb:bound s dflt y=some n) (hn:n≤top) (code:BoundsCode) :
  (x=none∧n=dflt)∨∃ z,x=some z∧(Instr.sliceBound (a.eval z) top code).run P w=.ok n w:=by
 cases y with
 | none =>
  cases x with
  | none=>exact .inl ⟨rfl,(Option.some.inj hb).symm⟩
  | some z=>cases hc
 | some y =>
  cases x with
  | none=>cases hc
  | some z =>
   simp only [bound] at hb
   split at hb
   ·rename_i k m hm
    split at hb
    ·rename_i h0
     obtain rfl:=Option.some.inj hb
     have hV:=V.int_inv (jX h hc hm)
     refine .inr ⟨z,rfl,?_⟩
     simp only [Instr.sliceBound,hV,asIntOf,Sem.run_bind,Sem.run_pure,Result.andThen_ok,Sem.run_ite]
     rw [if_pos ⟨h0,by omega⟩]
    ·cases hb
   ·cases hb
theorem jle {o:Oper} {t e:TypeId} {sz0:Nat} {x:Operand} {y:PO} {lo hi:Option Operand} {lo' hi':Option PO} {i:TypeInfo} (ho:o.op=.slice t x lo hi none) (h:Sim O w0 A0 β s (tmf a) w) (hd:dstOk o.dst a.tmps.size) (hc:chkPO x y=true)
  (hlo:chkOO lo lo'=true) (hhi:chkOO hi hi'=true) (hu:P.underlying t=some (.slice e)) (hi0:P.info? e=some i) {s':PS} (hisz:i.size=sz0) (hs:pstep o.dst s (.slc sz0 y lo' hi')=some s'):Does P o O A0 w0 a w s':=by
 have hR:=vW h hc
 simp only [pstep] at hs
 split at hs
 ·rename_i es hy
  rw [hy] at hR
  split at hs
  ·rename_i l k hl hk
   split at hs
   ·rename_i hlk
    obtain rfl:=Option.some.inj hs
    have run:∀ (b:Option Addr) (cap:Nat),a.eval x=.slice b es.length cap→es.length≤cap →
      (execOp a.eval o).run P w=.ok (.value (.slice (if cap=l then b else b.map (·.add (l * i.size))) (k - l) (cap - l))) w:=by
     intro b cap he hcap
     have hb1:=Jw (P:=P) h hhi hk (top:=cap) (by omega) .sliceAcap
     have hb2:=Jw (P:=P) h hlo hl (top:=k) (by omega) .sliceB
     have hbs:(Instr.sliceBounds true es.length cap (lo.map a.eval) (hi.map a.eval) none).run P w=.ok (l,k,cap) w:=by
      unfold Instr.sliceBounds
      rcases hb1 with ⟨rfl,rfl⟩ | ⟨z1,rfl,hz1⟩ <;> rcases hb2 with ⟨rfl,rfl⟩ | ⟨z2,rfl,hz2⟩ <;> simp [Sem.run_bind, *]
     unfold execOp
     simp only [ho,he,Instr.sliceAt,Instr.slice,Option.map_none,Sem.run_bind,run_underlying hu,Result.andThen_ok,hbs,sizeOf,typeInfo,program,Sem.run,hi0,Sem.run_pure]
    generalize hvx:a.eval x=vx at hR
    cases hR with
    | nil =>
     have hl0:l=0:=by simp at hlk; omega
     have hk0:k=0:=by simp at hlk; omega
     subst hl0; subst hk0
     have:=run none 0 (by simpa using hvx) (by simp)
     simp at this
     refine Does.val h hd this ?_
     simp only [List.take_nil,List.drop_nil]
     exact V.nil
    | emp b cap =>
     have hl0:l=0:=by simp at hlk; omega
     have hk0:k=0:=by simp at hlk; omega
     subst hl0; subst hk0
     have:=run (some b) cap (by simpa using hvx) (by simp)
     have e0:(if cap=0 then some b else (some b).map (·.add (0 * i.size)))=some b:=by
      split
      ·rfl
      ·simp [Addr.add]
     rw [e0] at this
     refine Does.val h hd this ?_
     simp only [List.take_nil,List.drop_nil,Nat.sub_zero]
     exact V.emp _ _
    | sl b off cap sz _ c hb hN hz hcap h1 hread hVV =>
     have hrun:=run _ cap hvx hcap
     have hlen:((es.take k).drop l).length=k - l:=by simp; omega
     by_cases hcl:cap=l
     ·have:k=l:=by omega
      subst this
      rw [if_pos hcl] at hrun
      refine Does.val h hd hrun ?_
      have he:(es.take k).drop k=[]:=by simp
      rw [he,Nat.sub_self]
      exact V.sl b off (cap - k) sz [] c hb hN (by simp) (by simp) (by simp) (fun i j hi=>by simp at hi) (fun i j hi=>by simp at hi)
     ·rw [if_neg hcl] at hrun
      refine Does.val h hd hrun ?_
      simp only [Option.map_some,Addr.add_mid]
      by_cases hes:es=[]
      ·subst hes
       simp only [List.length_nil] at hlk
       have hl0:l=0:=by omega
       have hk0:k=0:=by omega
       subst hl0; subst hk0
       simp only [List.take_nil,List.drop_nil,Nat.sub_self]
       exact V.sl b _ (cap - 0) sz [] c hb hN (by simp) (by simp) (by simp) (fun i j hi=>by simp at hi) (fun i j hi=>by simp at hi)
      ·have hsz:i.size=sz:=by
        rw [hisz,← hlk.2.2 _ (List.head_mem hes),hz _ (List.head_mem hes)]
       rw [hsz,← hlen]
       refine V.sl b (off + l * sz) (cap - l) sz _ (fun p q=>c (p + l) q) hb hN (fun e he=>hz e (List.mem_of_mem_take (List.mem_of_mem_drop he))) (by omega) (fun e he=>h1 e (List.mem_of_mem_take (List.mem_of_mem_drop he))) ?_ ?_
       ·intro p q hp hq
        have hp':p + l < es.length:=by simp at hp; omega
        have hg:((es.take k).drop l)[p]=es[l + p]'(by omega):=by simp
        have:=hread (p + l) q hp' (by rw [hg] at hq; simpa [Nat.add_comm] using hq)
        rw [← this]
        congr 1
        rw [Nat.add_mul]
        congr 1
        omega
       ·intro p q hp hq
        have hp':p + l < es.length:=by simp at hp; omega
        have hg:((es.take k).drop l)[p]=es[l + p]'(by omega):=by simp
        have hq':q < es[p + l].length:=by rw [hg] at hq; simpa [Nat.add_comm] using hq
        have:=hVV (p + l) q hp' hq'
        simp only [hg]
        simpa [Nat.add_comm] using this
   ·cases hs
  ·cases hs
 ·cases hs
end
end Go.Pl
/-
 EACH OPERATION,GOES ON: literals of structs,arrays,slices; texts' parts; the greatest and the least; a slice of nothing that is the frame's own. My own work.
-/
namespace Go.Pl
open Go
set_option linter.unusedVariables false
section
variable {O : Nat → Prop} {A0 : Lent} {w0 w : World} {β : Bt} {s : PS} {a : Act} {P : Program}
theorem jlf {o:Oper} {t:TypeId} {x:Operand} {y:PO} {lo hi:Option Operand} {lo' hi':Option PO} (ho:o.op=.slice t x lo hi none) (h:Sim O w0 A0 β s (tmf a) w) (hd:dstOk o.dst a.tmps.size) (hc:chkPO x y=true)
  (hlo:chkOO lo lo'=true) (hhi:chkOO hi hi'=true) (hu:P.underlying t=some .string) {s':PS} (hs:pstep o.dst s (.slS y lo' hi')=some s'):Does P o O A0 w0 a w s':=by
 simp only [pstep] at hs
 split at hs
 ·rename_i b hy
  have hV:=V.str_inv (jX h hc hy)
  split at hs
  ·rename_i l k hl hk
   split at hs
   ·rename_i hlk
    obtain rfl:=Option.some.inj hs
    have hb1:=Jw (P:=P) h hhi hk (top:=b.size) (by omega) .sliceAlen
    have hb2:=Jw (P:=P) h hlo hl (top:=k) (by omega) .sliceB
    have hbs:(Instr.sliceBounds false b.size b.size (lo.map a.eval) (hi.map a.eval) none).run P w=.ok (l,k,b.size) w:=by
     unfold Instr.sliceBounds
     rcases hb1 with ⟨rfl,rfl⟩ | ⟨z1,rfl,hz1⟩ <;> rcases hb2 with ⟨rfl,rfl⟩ | ⟨z2,rfl,hz2⟩ <;> simp [Sem.run_bind, *]
    refine Does.val h hd (v:=.string (b.extract l k)) ?_ (V.str _)
    unfold execOp
    simp only [ho,hV,Instr.sliceAt,Instr.slice,Option.map_none,Option.isSome_none,Bool.false_eq_true,if_false,Sem.run_bind,run_underlying hu,Result.andThen_ok,hbs,Sem.run_pure]
   ·cases hs
  ·cases hs
 ·cases hs
theorem jh0 {o:Oper} {x:Operand} {y:PO} (ho:o.op=.nilCheck x) (h:Sim O w0 A0 β s (tmf a) w) (hd:dstOk o.dst a.tmps.size) (hc:chkPO x y=true) {s':PS} (hs:pstep o.dst s (.nilc y)=some s'):Does P o O A0 w0 a w s':=by
 have hR:=vW h hc
 have key:∀ pv',((∃ cs,s.ev y=.rp cs∧0≤cs.length∧pv'=.rp (cs.drop 0))∨(∃ d e o st,s.ev y=.ptr d e o∧(s.bx d=⟨e,st⟩∧st.isv=true)∧pv'=.ptr d e (o + 0)) ∨
   (∃ d e i o sz es,s.ev y=.sp d e i o∧s.bx d=⟨e,.sl sz es⟩∧pv'=.sp d e i (o + 0)))→s'=s.putO o.dst pv'→Does P o O A0 w0 a w s':=by
  rintro pv' hp rfl
  obtain ⟨b,off,he,hR'⟩:=moved h hR hp
  refine Does.val h hd (v:=.pointer (some ⟨b,off + 0,none⟩)) ?_ hR'
  unfold execOp
  simp only [ho,he,Sem.run_pure,Nat.add_zero]
 simp only [pstep] at hs
 split at hs
 ·rename_i d v o' hy
  split at hs
  ·rename_i u cs hb
   split at hs
   ·rename_i hv
    subst hv
    exact key _ (.inr (.inl ⟨d,u,o',_,hy,⟨hb,rfl⟩,rfl⟩)) (Option.some.inj hs).symm
   ·cases hs
  ·rename_i u cs hb
   split at hs
   ·rename_i hv
    subst hv
    exact key _ (.inr (.inl ⟨d,u,o',_,hy,⟨hb,rfl⟩,rfl⟩)) (Option.some.inj hs).symm
   ·cases hs
  ·cases hs
 ·rename_i cs hy
  exact key _ (.inl ⟨cs,hy,Nat.zero_le _,rfl⟩) (Option.some.inj hs).symm
 ·rename_i d v j o' hy
  split at hs
  ·rename_i u sz es hb
   split at hs
   ·rename_i hv
    subst hv
    exact key _ (.inr (.inr ⟨d,u,j,o',sz,es,hy,hb,rfl⟩)) (Option.some.inj hs).symm
   ·cases hs
  ·cases hs
 ·cases hs
theorem jlg {o:Oper} {t:TypeId} {x:Operand} {y:PO} {d:TypeDesc} (ho:o.op=.makeInterface t x) (h:Sim O w0 A0 β s (tmf a) w) (hd:dstOk o.dst a.tmps.size) (hc:chkPO x y=true)
  (hu:P.underlying t=some d) (hdd:(match d with | .interface _=>false | _=>true)=true) {s':PS} (hs:pstep o.dst s (.mki t y)=some s'):Does P o O A0 w0 a w s':=by
 simp only [pstep] at hs
 split at hs
 ·rename_i c hy
  obtain rfl:=Option.some.inj hs
  refine Does.val h hd (v:=.iface t (a.eval x)) ?_ (V.iface t _ c (jX h hc hy))
  unfold execOp
  simp only [ho,Instr.makeInterface,Sem.run_bind,run_underlying hu,Result.andThen_ok]
  cases d <;> first | (simp at hdd; done) | rfl
 ·cases hs
def chkPOs:List Operand→List PO→Bool
 | [],[]=>true
 | x::l,y::m=>chkPO x y && chkPOs l m
 | _,_=>false
theorem WE (h:Sim O w0 A0 β s (tmf a) w) (mx:Bool) (k:IntKind):∀ (xs:List Operand) (ys:List PO) (n r:Int),chkPOs xs ys=true→foldMm s mx k n ys=some r →
  ((xs.map a.eval).foldlM (if mx then Builtin.max2 else Builtin.min2) (.int k n)).run P w=.ok (.int k r) w
 | [],[],n,r,_,hf=>by
  obtain rfl:=Option.some.inj hf
  simp
 | [],_::_,n,r,hc,_=>by cases hc
 | _::_,[],n,r,hc,_=>by cases hc
 | x::xs,y::ys,n,r,hc,hf=>by
  simp only [chkPOs,Bool.and_eq_true] at hc
  simp only [foldMm] at hf
  split at hf
  ·rename_i k' m hm
   split at hf
   ·rename_i hk
    subst hk
    have hV:=V.int_inv (jX h hc.1 hm)
    have:=WE h mx k xs ys _ r hc.2 hf
    simp only [List.map_cons,List.foldlM_cons,Sem.run_bind,hV]
    cases mx
    ·simp only [Bool.false_eq_true,if_false,Builtin.min2,Sem.run_pure,Result.andThen_ok] at this ⊢
     exact this
    ·simp only [if_true,Builtin.max2,Sem.run_pure,Result.andThen_ok] at this ⊢
     exact this
   ·cases hf
  ·cases hf
theorem jml {o:Oper} {c:Call} {mx:Bool} {x:Operand} {y:PO} {xs:List Operand} {ys:List PO} (ho:o.op=.call c) (hcal:c.callee=.builtin (if mx then .max else .min)) (hargs:c.args.toList=x::xs) (h:Sim O w0 A0 β s (tmf a) w) (hd:dstOk o.dst a.tmps.size)
  (hc:chkPO x y=true) (hcs:chkPOs xs ys=true) {s':PS} (hs:pstep o.dst s (.mm mx y ys)=some s'):Does P o O A0 w0 a w s':=by
 simp only [pstep] at hs
 split at hs
 ·rename_i k n hn
  split at hs
  ·rename_i r hr
   obtain rfl:=Option.some.inj hs
   have hV:=V.int_inv (jX h hc hn)
   have hrun:=WE (P:=P) h mx k xs ys n r hcs hr
   refine Does.val h hd (v:=.int k r) ?_ (V.int _ _)
   have hm:(c.args.map a.eval).toList=a.eval x::xs.map a.eval:=by simp [hargs]
   unfold execOp
   cases mx
   ·simp only [Bool.false_eq_true,if_false] at hcal hrun
    simp only [ho,hcal,resolve,invoke,builtin,Builtin.min_,Sem.run_bind,Sem.run_pure,Result.andThen_ok,hm,hV,hrun]
   ·simp only [if_true] at hcal hrun
    simp only [ho,hcal,resolve,invoke,builtin,Builtin.max_,Sem.run_bind,Sem.run_pure,Result.andThen_ok,hm,hV,hrun]
  ·cases hs
 ·cases hs
/-! ### Literals -/
theorem foldSet (off:Nat):∀ (l:List Value) (k:Nat) (cs:Array Value),off + k + l.length≤cs.size →
  ((l.zipIdx k).foldl (fun cs (p:Value × Nat)=>cs.setIfInBounds (off + p.2) p.1) cs).size=cs.size ∧
  ∀ m,((l.zipIdx k).foldl (fun cs (p:Value × Nat)=>cs.setIfInBounds (off + p.2) p.1) cs)[m]? = if off + k≤m∧m < off + k + l.length then l[m - (off + k)]? else cs[m]?
 | [],k,cs,h=>by
  refine ⟨rfl,fun m=>?_⟩
  rw [if_neg (by simp)]
  rfl
 | v::l,k,cs,h=>by
  simp only [List.length_cons] at h
  simp only [List.zipIdx_cons,List.foldl_cons]
  obtain ⟨h1,h2⟩:=foldSet off l (k + 1) (cs.setIfInBounds (off + k) v) (by simp; omega)
  refine ⟨by rw [h1]; simp,fun m=>?_⟩
  rw [h2]
  by_cases hm:m=off + k
  ·subst hm
   rw [if_neg (by omega),if_pos (by simp only [List.length_cons]; omega)]
   simp [show off + k < cs.size by omega]
  ·by_cases hin:off + (k + 1)≤m∧m < off + (k + 1) + l.length
   ·rw [if_pos hin,if_pos (by simp only [List.length_cons]; omega)]
    rw [show m - (off + k)=(m - (off + (k + 1))) + 1 by omega]
    simp
   ·rw [if_neg hin,if_neg (by simp only [List.length_cons]; omega)]
    rw [Array.getElem?_setIfInBounds,if_neg (by omega)]
theorem foldSetA (off:Nat) (vs cs:Array Value) (h:off + vs.size≤cs.size) :
  (vs.zipIdx.foldl (fun cs (p:Value × Nat)=>cs.setIfInBounds (off + p.2) p.1) cs).size=cs.size ∧
  ∀ m,(vs.zipIdx.foldl (fun cs (p:Value × Nat)=>cs.setIfInBounds (off + p.2) p.1) cs)[m]? = if off≤m∧m < off + vs.size then vs[m - off]? else cs[m]?:=by
 have:=foldSet off vs.toList 0 cs (by simpa using h)
 rw [← Array.foldl_toList,Array.toList_zipIdx]
 simpa using this
theorem Reads.get? {w:World} {N:Nat→Prop} {xs:Array Value} {cs:List CV} (h:Reads w N xs cs) {i:Nat} {v:Value} {c:CV} (hv:xs[i]? = some v) (hc:cs[i]? = some c):V w N v c:=by
 obtain ⟨h1,rfl⟩:=Array.getElem?_eq_some_iff.1 hv
 obtain ⟨h2,rfl⟩:=List.getElem?_eq_some_iff.1 hc
 exact h.get i h1 h2
theorem Reads.write {N:Nat→Prop} {xs:Array Value} {cs:List CV} (h:Reads w N xs cs) {v:Value} {c:CV} (hV:V w N v c) {off:Nat} (hn:0 < c.cells.length) (hl:off + c.cells.length≤cs.length) :
  v.cells.size=c.cells.length∧Reads w N (v.cells.zipIdx.foldl (fun cs (p:Value × Nat)=>cs.setIfInBounds (off + p.2) p.1) xs) (spl cs off c.cells):=by
 obtain ⟨h1,h2,h3⟩:=hV.cells hn
 obtain ⟨k1,k2⟩:=foldSetA off v.cells xs (by have:=h.len; omega)
 refine ⟨h1,by rw [k1,kV hl]; exact h.len,fun i hi hj=>?_⟩
 have e1:(v.cells.zipIdx.foldl (fun cs (p:Value × Nat)=>cs.setIfInBounds (off + p.2) p.1) xs)[i]? = some _:=Array.getElem?_eq_getElem hi
 have e2:(spl cs off c.cells)[i]? = some _:=List.getElem?_eq_getElem hj
 rw [k2] at e1
 rw [spl_get? hl] at e2
 rw [h1] at e1
 split at e1
 ·rename_i hin
  rw [if_pos hin] at e2
  obtain ⟨q1,q2⟩:=Array.getElem?_eq_some_iff.1 e1
  obtain ⟨q3,q4⟩:=List.getElem?_eq_some_iff.1 e2
  rw [← q2,← q4]
  exact h3 _ q1 q3
 ·rename_i hin
  rw [if_neg hin] at e2
  exact h.get? e1 e2
def chkParts (place:Nat→Option (Nat × Nat)):List (Nat × Operand)→List (Nat × Nat × PO)→Bool
 | [],[]=>true
 | (i,x)::l,(off,n,y)::m=>(place i == some (off,n)) && chkPO x y && decide (0 < n) && chkParts place l m
 | _,_=>false
theorem JR (h:Sim O w0 A0 β s (tmf a) w) (place:Nat→Option (Nat × Nat)):∀ (ps:List (Nat × Operand)) (qs:List (Nat × Nat × PO)) (vs:List (Nat × Nat × CV)) (cells:Array Value) (z z':List CV),
  chkParts place ps qs=true→partsC s qs=some vs→Reads w (Nn O β s.bx) cells z→(∀ c∈z,c.one=true)→fillC z vs=some z' →
  ∃ cells',Instr.fill place cells (ps.map fun p=>(p.1,a.eval p.2))=some cells'∧Reads w (Nn O β s.bx) cells' z'∧∀ c∈z',c.one=true
 | [],[],vs,cells,z,z',_,hp,hr,h1,hf=>by
  obtain rfl:=Option.some.inj hp
  obtain rfl:=Option.some.inj hf
  exact ⟨cells,rfl,hr,h1⟩
 | [],_::_,_,_,_,_,hc,_,_,_,_=>by simp [chkParts] at hc
 | _::_,[],_,_,_,_,hc,_,_,_,_=>by simp [chkParts] at hc
 | (i,x)::ps,(off,n,y)::qs,vs,cells,z,z',hc,hp,hr,h1,hf=>by
  simp only [chkParts,Bool.and_eq_true,beq_iff_eq,decide_eq_true_eq] at hc
  obtain ⟨⟨⟨hpl,hx⟩,hn⟩,hrest⟩:=hc
  simp only [partsC] at hp
  split at hp
  ·rename_i c hcv
   cases hpr:partsC s qs with
   | none=>rw [hpr] at hp; cases hp
   | some vs' =>
    rw [hpr] at hp
    obtain rfl:=Option.some.inj hp
    simp only [fillC] at hf
    split at hf
    ·rename_i hlen
     obtain ⟨rfl,hlen⟩:=hlen
     have hV:=jX h hx hcv
     obtain ⟨hsz,hr'⟩:=hr.write hV hn hlen
     obtain ⟨cells',hf',hr'',h1'⟩:=JR h place ps qs vs' _ _ z' hrest hpr hr' (by
      intro q hq
      simp only [spl,List.mem_append] at hq
      rcases hq with hq | hq | hq
      ·exact h1 q (List.mem_of_mem_take hq)
      ·exact (hV.cells hn).2.1 q hq
      ·exact h1 q (List.mem_of_mem_drop hq)) hf
     refine ⟨cells',?_,hr'',h1'⟩
     simp only [List.map_cons,Instr.fill,hpl]
     rw [if_neg (by rw [hsz,hr.len]; simp; omega)]
     exact hf'
    ·cases hf
  ·cases hp
theorem Ze {α γ:Type} (f:α→Sem γ) (g:α→γ):∀ (l:List α),(∀ x∈l,(f x).run P w=.ok (g x) w)→(l.mapM f).run P w=.ok (l.map g) w
 | [],_=>by simp
 | x::l,h=>by
  rw [List.mapM_cons]
  simp only [Sem.run_bind,h x (by simp),Result.andThen_ok,Ze f g l (fun y hy=>h y (by simp [hy])),Sem.run_pure,List.map_cons]
theorem Zf {o:Oper} {t:TypeId} {parts:Array (Nat × Operand)} {z:List CV} {qs:List (Nat × Nat × PO)} {i:TypeInfo} {zv:Value} (ho:o.op=.build t parts) (h:Sim O w0 A0 β s (tmf a) w) (hd:dstOk o.dst a.tmps.size)
  (hi:P.info? t=some i) (hz:i.zero=some zv) (hzc:chkL zv.cells.toList z=true)
  (hk:(∃ fs:Array Field,P.underlying t=some (.struct fs)∧(∀ f∈fs.toList,∃ j,P.info? f.type=some j)∧chkParts (fun k=>(fs[k]?).map fun f=>(f.offset,P.cellsOf f.type)) parts.toList qs=true) ∨
   (∃ n e j,P.underlying t=some (.array n e)∧P.info? e=some j∧chkParts (fun k=>some (k * j.size,j.size)) parts.toList qs=true))
  {s':PS} (hs:pstep o.dst s (.build z qs)=some s'):Does P o O A0 w0 a w s':=by
 simp only [pstep] at hs
 split at hs
 ·rename_i vs hvs
  cases hf:fillC z vs with
  | none=>rw [hf] at hs; cases hs
  | some z' =>
   rw [hf] at hs
   obtain rfl:=Option.some.inj hs
   obtain ⟨hl,h1,hV⟩:=JQ (w:=w) (N:=Nn O β s.bx) hzc
   have hr:Reads w (Nn O β s.bx) zv.cells z:=⟨by simpa using hl,fun k hk hk'=>by have:=hV k (by simpa using hk) hk'; simpa using this⟩
   have hp:(parts.map fun p=>(p.1,a.eval p.2)).toList=parts.toList.map fun p=>(p.1,a.eval p.2):=by simp
   rcases hk with ⟨fs,hu,hfs,hch⟩ | ⟨n,e,j,hu,hj,hch⟩
   ·obtain ⟨cells',hfill,hr',h1'⟩:=JR h _ parts.toList qs vs zv.cells z z' hch hvs hr h1 hf
    refine Does.val h hd (v:=.agg cells') ?_ (V.agg _ _ hr'.len h1' hr'.get)
    have hm:(fs.mapM fun f=>do pure (f.offset,← sizeOf f.type):Sem (Array (Nat × Nat))).run P w=.ok (fs.map fun f=>(f.offset,P.cellsOf f.type)) w:=by
     rw [Array.mapM_eq_mapM_toList,Sem.run_map,Ze (P:=P) (w:=w) _ (fun f:Field=>(f.offset,P.cellsOf f.type)) fs.toList (fun f hf=>by
      obtain ⟨j,hj⟩:=hfs f hf
      simp [Sem.run_bind,sizeOf,typeInfo,hj,Program.cellsOf])]
     simp only [Result.andThen_ok]
     congr 1
     exact Array.ext' (by simp)
    have hg:∀ k:Nat,(fs.map fun f=>(f.offset,P.cellsOf f.type))[k]? = (fs[k]?).map fun f=>(f.offset,P.cellsOf f.type):=by intro k; simp
    unfold execOp
    simp only [ho,Instr.build,zeroValue,typeInfo,program,Sem.run_bind,Sem.run,hi,hz,Result.andThen_ok,Sem.run_pure,run_underlying hu,hm,hg,hp,hfill]
   ·obtain ⟨cells',hfill,hr',h1'⟩:=JR h _ parts.toList qs vs zv.cells z z' hch hvs hr h1 hf
    refine Does.val h hd (v:=.agg cells') ?_ (V.agg _ _ hr'.len h1' hr'.get)
    unfold execOp
    simp only [ho,Instr.build,zeroValue,typeInfo,program,sizeOf,Sem.run_bind,Sem.run,hi,hz,hj,Result.andThen_ok,Sem.run_pure,run_underlying hu,hp,hfill]
 ·cases hs
end
end Go.Pl
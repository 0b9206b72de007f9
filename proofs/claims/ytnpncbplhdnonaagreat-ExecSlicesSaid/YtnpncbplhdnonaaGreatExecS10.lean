/- Part of the proof of ExecTells, ExecAnswers, ExecBest, ExecFirst, ExecLevels, ExecTops, ExecLimits: lemmas. -/
import Derived.Test.YtnpncbplhdnonaaGreatExecS9
import Derived.Orders
set_option linter.unusedVariables false
set_option linter.unusedSimpArgs false
/-
 THE PLAIN CODE OF A FUNCTION IS CHECKED AGAINST THE FUNCTION,operation by operation,by a computable test. My own work.
-/
namespace Go.Pl
open Go
set_option linter.unusedVariables false
def isRow' (P:Program) (t:TypeId):Bool:=match P.underlying t with | some d=>d.isRow | none=>false
def chkK (P : Program) (o : Oper) : PK → Bool
  | .mv y => match o.op with
    | .move x => chkPO x y
    | .assign x => chkPO x y
    | _ => false
  | .pick c x y => match o.op with
    | .pick c' x' y' => chkPO c' c && chkPO x' x && chkPO y' y
    | _ => false
  | .own0 _ => o.dst.isSome && match o.op with
    | .move x => chkPO x (.k (.sl []))
    | .assign x => chkPO x (.k (.sl []))
    | _ => false
  | .alloc z => o.dst.isSome && match o.op with
    | .alloc el => match P.info? el with
      | some i => match i.zero with
        | some zv => chkL zv.cells.toList z
        | none => false
      | none => false
    | _ => false
  | .box n y => o.dst.isSome && decide (0 < n) && match o.op with
    | .box _ x => chkPO x y
    | _ => false
  | .build z qs => match o.op with
    | .build t parts => match P.info? t, P.underlying t with
      | some i, some (.struct fs) => match i.zero with
        | some zv => chkL zv.cells.toList z && fs.toList.all (fun f => (P.info? f.type).isSome) && chkParts (fun k => (fs[k]?).map fun f => (f.offset, P.cellsOf f.type)) parts.toList qs
        | none => false
      | some i, some (.array _ e) => match i.zero, P.info? e with
        | some zv, some j => chkL zv.cells.toList z && chkParts (fun k => some (k * j.size, j.size)) parts.toList qs
        | _, _ => false
      | _, _ => false
    | _ => false
  | .bsl sz len zc qs _ => decide (0 < sz) && decide (len * sz ≤ 2 ^ 24) && match o.op with
    | .buildSlice t l parts => decide (l = len) && match P.underlying t with
      | some (.slice e) => match P.info? e with
        | some i => decide (i.size = sz) && match i.zero with
          | some zv => chkL zv.cells.toList zc && decide (zc.length = sz) && chkPartsS parts.toList qs
          | none => false
        | none => false
      | _ => false
    | _ => false
  | .load f n y _ => match o.op with
    | .load t x => match P.underlying t, P.info? t with
      | some d, some i => chkPO x y && decide (i.size = n) && (d.isRow == f) && (f || decide (n = 1))
      | _, _ => false
    | _ => false
  | .store n x y _ => o.dst.isNone && decide (0 < n) && match o.op with
    | .store t x' y' => match P.info? t with
      | some i => decide (i.size = n) && chkPO x' x && chkPO y' y
      | none => false
    | _ => false
  | .bin op x y => match o.op with
    | .binOp op' _ x' y' _ => decide (op' = op) && chkPO x' x && chkPO y' y
    | _ => false
  | .un op x => match o.op with
    | .unOp op' _ x' => decide (op' = op) && chkPO x' x
    | _ => false
  | .eqs neq ag sh x y => match o.op with
    | .binOp op' t x' y' _ => decide (op' = if neq then .neq else .eql) && chkPO x' x && chkPO y' y && decide (shapeOf P 50 t = some sh) && decide (sh.length = P.cellsOf t) && (P.eqGuardType P.depth t == false) && (isRow' P t == ag) && (ag || decide (sh = [.b]))
    | _ => false
  | .conv k y => match o.op with
    | .convert src dst x => match P.underlying src, P.underlying dst with
      | some (.int _), some (.int k') => decide (k' = k) && chkPO x y
      | _, _ => false
    | _ => false
  | .fld f off n y => match o.op with
    | .field t x j => match P.underlying t with
      | some (.struct fs) => match fs[j]? with
        | some fd => match P.info? fd.type, P.underlying fd.type with
          | some i, some d => decide (fd.offset = off) && decide (i.size = n) && (d.isRow == f) && (f || decide (n = 1)) && chkPO x y
          | _, _ => false
        | none => false
      | _ => false
    | _ => false
  | .fad off y => match o.op with
    | .fieldAddr t x j => match P.underlying t with
      | some (.struct fs) => match fs[j]? with
        | some fd => match P.info? fd.type with
          | some i => decide (fd.offset = off) && decide (i.size ≠ 0) && chkPO x y
          | none => false
        | none => false
      | _ => false
    | _ => false
  | .iaA len sz y iy => match o.op with
    | .indexAddr t x ix => match P.underlying t with
      | some (.array l e) => match P.info? e with
        | some i => decide (l = len) && decide (i.size = sz) && chkPO x y && chkPO ix iy
        | none => false
      | _ => false
    | _ => false
  | .iaS sz y iy => match o.op with
    | .indexAddr t x ix => match P.underlying t with
      | some (.slice e) => match P.info? e with
        | some i => decide (i.size = sz) && chkPO x y && chkPO ix iy
        | none => false
      | _ => false
    | _ => false
  | .idA f len sz y iy => match o.op with
    | .index t x ix => match P.underlying t with
      | some (.array l e) => match P.info? e, P.underlying e with
        | some i, some d => decide (l = len) && decide (i.size = sz) && (d.isRow == f) && (f || decide (sz = 1)) && chkPO x y && chkPO ix iy
        | _, _ => false
      | _ => false
    | _ => false
  | .idS y iy => match o.op with
    | .index t x ix => match P.underlying t with
      | some .string => chkPO x y && chkPO ix iy
      | _ => false
    | _ => false
  | .ext y j => match o.op with
    | .extract x j' => decide (j' = j) && chkPO x y
    | _ => false
  | .len y => match o.op with
    | .call ⟨.builtin .len, ⟨[x]⟩, tys⟩ => match tys[0]? with
      | some t => match P.underlying t with
        | some (.slice _) => chkPO x y
        | _ => false
      | none => false
    | _ => false
  | .lenS y => match o.op with
    | .call ⟨.builtin .len, ⟨[x]⟩, tys⟩ => match tys[0]? with
      | some t => match P.underlying t with
        | some .string => chkPO x y
        | _ => false
      | none => false
    | _ => false
  | .app sz x y _ => decide (0 < sz) && match o.op with
    | .call ⟨.builtin .append, ⟨[x', y']⟩, ⟨[t, u]⟩⟩ => match P.underlying t, P.underlying u with
      | some (.slice e), some (.slice _) => match P.info? e with
        | some i => decide (i.size = sz) && decide (i.bytes ≤ 16384) && decide (i.bytes ≠ 0) && chkPO x' x && chkPO y' y && match i.zero with
          | some zv => decide (zv.cells.size = sz)
          | none => false
        | none => false
      | _, _ => false
    | _ => false
  | .slc sz y lo hi => match o.op with
    | .slice t x lo' hi' none => match P.underlying t with
      | some (.slice e) => match P.info? e with
        | some i => decide (i.size = sz) && chkPO x y && chkOO lo' lo && chkOO hi' hi
        | none => false
      | _ => false
    | _ => false
  | .slS y lo hi => match o.op with
    | .slice t x lo' hi' none => match P.underlying t with
      | some .string => chkPO x y && chkOO lo' lo && chkOO hi' hi
      | _ => false
    | _ => false
  | .slA _ _ _ _ _ => true   -- what is never reached: a walk over it is false
  | .nilc y => match o.op with
    | .nilCheck x => chkPO x y
    | _ => false
  | .mki t y => match o.op with
    | .makeInterface t' x => decide (t' = t) && chkPO x y && match P.underlying t with
      | some (.interface _) => false
      | some _ => true
      | none => false
    | _ => false
  | .mm mx y ys => match o.op with
    | .call ⟨.builtin b, ⟨x :: xs⟩, _⟩ => decide (b = if mx then .max else .min) && chkPO x y && chkPOs xs ys
    | _ => false
  | .xf g ys => match o.op with
    | .call ⟨.value (.func f), cargs, _⟩ => chkPOs cargs.toList ys && match P.funcs[f]? with
      | some fn => decide (fn.name = g.name) && decide (fn.origin = "") && fn.body.isNone
      | none => false
    | _ => false
  | .call _ _ _ => false
  | .mkf f l => match o.op with
    | .makeFunc (.func f') ⟨[]⟩ captured => decide (f' = f) && chkPOs captured.toList l
    | _ => false
  | .callv _ _ => false
  | .mkm => o.dst.isSome && match o.op with
    | .makeMap _ none => true
    | _ => false
  | .mget ok sh z x k => match o.op with
    | .lookup mt x' k' ok' => decide (ok' = ok) && chkPO x' x && chkPO k' k && match P.underlying mt with
      | some (.map kt et) => chkKeyT P kt sh && match P.info? et with
        | some zi => (match zi.zero with
          | some zv => chkZ zv z
          | none => false)
        | none => false
      | _ => false
    | _ => false
  | .mput sh x k y => match o.op with
    | .mapUpdate mt x' k' y' => chkPO x' x && chkPO k' k && chkPO y' y && match P.underlying mt with
      | some (.map kt _) => chkKeyT P kt sh
      | _ => false
    | .insert mt x' k' y' => chkPO x' x && chkPO k' k && chkPO y' y && match P.underlying mt with
      | some (.map kt _) => chkKeyT P kt sh
      | _ => false
    | _ => false
section
variable {O : Nat → Prop} {A0 : Lent} {w0 w : World} {β : Bt} {s : PS} {a : Act} {P : Program}
theorem jfd (h:Sim O w0 A0 β s (tmf a) w):∀ {xs:List Operand} {ys:List PO} {css:List (List CV)},chkPOs xs ys=true→evrs s ys=some css →
  xs.length=css.length∧∀ (i:Nat) (h1:i < xs.length) (h2:i < css.length),R w (Nn O β s.bx) β s.bx (a.eval xs[i]) (.rp css[i])
 | [],[],css,_,he=>by obtain rfl:=Option.some.inj he; exact ⟨rfl,fun i h=>by simp at h⟩
 | [],_::_,_,hc,_=>by cases hc
 | _::_,[],_,hc,_=>by cases hc
 | x::xs,y::ys,css,hc,he=>by
  simp only [chkPOs,Bool.and_eq_true] at hc
  simp only [evrs] at he
  split at he
  ·rename_i cs vs hv hvs
   obtain rfl:=Option.some.inj he
   obtain ⟨hl,hV⟩:=jfd h hc.2 hvs
   refine ⟨by simp [hl],fun i h1 h2=>?_⟩
   cases i with
   | zero=>have:=vW h hc.1; rw [hv] at this; exact this
   | succ i=>exact hV i (by simpa using h1) (by simpa using h2)
  ·cases he
theorem jkf {N:Nat→Prop} {f:FuncId} {vs:Array Value} {css:List (List CV)} (hl:vs.size=css.length)
  (hR:∀ (i:Nat) (h1:i < vs.size) (h2:i < css.length),∃ b off,vs[i]=.pointer (some ⟨b,off,none⟩)∧b < w.heap.size∧¬ N b∧CellsAt w N b off css[i]):V w N (.func (.func f) #[] vs) (.clo f css):=by
 have hR':∀ i,∃ p:Nat × Nat,∀ (h1:i < vs.size) (h2:i < css.length),vs[i]=.pointer (some ⟨p.1,p.2,none⟩)∧p.1 < w.heap.size∧¬ N p.1∧CellsAt w N p.1 p.2 css[i]:=by
  intro i
  by_cases hi:i < css.length
  ·obtain ⟨b,off,h⟩:=hR i (by omega) hi
   exact ⟨(b,off),fun _ _=>h⟩
  ·exact ⟨(0,0),fun _ h=>absurd h hi⟩
 obtain ⟨p,hp⟩:=Classical.axiomOfChoice hR'
 have hc:∀ ij:Nat × Nat,∃ v,∀ (hi:ij.1 < css.length) (hj:ij.2 < css[ij.1].length),w.cell? ⟨(p ij.1).1,(p ij.1).2 + ij.2,none⟩=some v∧V w N v css[ij.1][ij.2]:=by
  rintro ⟨i,j⟩
  by_cases hi:i < css.length
  ·by_cases hj:j < css[i].length
   ·obtain ⟨v,hv,hV⟩:=(hp i (by omega) hi).2.2.2.2 j hj
    exact ⟨v,fun _ _=>⟨hv,hV⟩⟩
   ·exact ⟨undef,fun _ h=>absurd h hj⟩
  ·exact ⟨undef,fun h=>absurd h hi⟩
 obtain ⟨c,hc⟩:=Classical.axiomOfChoice hc
 exact .clo f vs css (fun i=>(p i).1) (fun i=>(p i).2) (fun i j=>c (i,j)) hl (fun i hi=>(hp i hi (by omega)).1) (fun i hi=>⟨(hp i (by omega) hi).2.1,(hp i (by omega) hi).2.2.1⟩)
  (fun e he=>by
   obtain ⟨i,hi,rfl⟩:=List.getElem_of_mem he
   exact (hp i (by omega) hi).2.2.2.1)
  (fun i j hi hj=>(hc (i,j) hi hj).1) (fun i j hi hj=>(hc (i,j) hi hj).2)
theorem jlm {o:Oper} {f:FuncId} {captured:Array Operand} {l:List PO} (ho:o.op=.makeFunc (.func f) ⟨[]⟩ captured) (h:Sim O w0 A0 β s (tmf a) w) (hd:dstOk o.dst a.tmps.size) (hc:chkPOs captured.toList l=true)
  {s':PS} (hs:pstep o.dst s (.mkf f l)=some s'):Does P o O A0 w0 a w s':=by
 simp only [pstep] at hs
 split at hs
 ·rename_i css hcs
  obtain rfl:=Option.some.inj hs
  obtain ⟨hl,hR⟩:=jfd h hc hcs
  refine Does.val h hd (v:=.func (.func f) #[] (captured.map a.eval)) ?_ (jkf (by simpa using hl) (fun i h1 h2=>?_))
  ·unfold execOp
   simp [ho,Instr.makeFunc]
  ·have:=hR i (by simpa using h1) h2
   obtain ⟨b,off,hv,hb,hN,hcc⟩:=this
   exact ⟨b,off,by simpa using hv,hb,hN,hcc⟩
 ·cases hs
theorem jh6 {o:Oper} {k:PK} (hk:chkK P o k=true) (h:Sim O w0 A0 β s (tmf a) w) (hd:dstOk o.dst a.tmps.size) {s':PS} (hs:pstep o.dst s k=some s'):Does P o O A0 w0 a w s':=by
 cases k <;> simp only [chkK] at hk
 case mv y =>
  split at hk
  ·exact jke (.inl ‹_›) h hd hk hs
  ·exact jke (.inr ‹_›) h hd hk hs
  ·cases hk
 case pick c x y =>
  split at hk
  ·simp only [Bool.and_eq_true] at hk
   exact jhv ‹_› h hd hk.1.1 hk.1.2 hk.2 hs
  ·cases hk
 case own0 sz =>
  simp only [Bool.and_eq_true] at hk
  obtain ⟨h0,hk⟩:=hk
  obtain ⟨d,hdst⟩:=Option.isSome_iff_exists.1 h0
  split at hk
  ·exact jbw (.inl ‹_›) hk h hdst (hd d hdst) hs
  ·exact jbw (.inr ‹_›) hk h hdst (hd d hdst) hs
  ·cases hk
 case alloc z =>
  simp only [Bool.and_eq_true] at hk
  obtain ⟨h0,hk⟩:=hk
  obtain ⟨d,hdst⟩:=Option.isSome_iff_exists.1 h0
  split at hk <;> (try (cases hk; done))
  split at hk <;> (try (cases hk; done))
  split at hk <;> (try (cases hk; done))
  exact je6 ‹_› h hdst (hd d hdst) ‹_› ‹_› hk hs
 case box n y =>
  simp only [Bool.and_eq_true,decide_eq_true_eq] at hk
  obtain ⟨⟨h0,hn⟩,hk⟩:=hk
  obtain ⟨d,hdst⟩:=Option.isSome_iff_exists.1 h0
  split at hk <;> (try (cases hk; done))
  exact jk3 ‹_› h hdst (hd d hdst) hk hn hs
 case build z qs =>
  split at hk <;> (try (cases hk; done))
  split at hk <;> (try (cases hk; done))
  ·split at hk <;> (try (cases hk; done))
   simp only [Bool.and_eq_true,List.all_eq_true] at hk
   exact Zf ‹_› h hd ‹_› ‹_› hk.1.1 (.inl ⟨_,‹_›,fun f hf=>Option.isSome_iff_exists.1 (hk.1.2 f hf),hk.2⟩) hs
  ·split at hk <;> (try (cases hk; done))
   simp only [Bool.and_eq_true] at hk
   exact Zf ‹_› h hd ‹_› ‹_› hk.1 (.inr ⟨_,_,_,‹_›,‹_›,hk.2⟩) hs
 case bsl sz len zc qs own =>
  simp only [Bool.and_eq_true,decide_eq_true_eq] at hk
  obtain ⟨⟨h1,h2⟩,hk⟩:=hk
  split at hk <;> (try (cases hk; done))
  simp only [Bool.and_eq_true,decide_eq_true_eq] at hk
  obtain ⟨rfl,hk⟩:=hk
  split at hk <;> (try (cases hk; done))
  split at hk <;> (try (cases hk; done))
  simp only [Bool.and_eq_true,decide_eq_true_eq] at hk
  obtain ⟨h3,hk⟩:=hk
  split at hk <;> (try (cases hk; done))
  simp only [Bool.and_eq_true,decide_eq_true_eq] at hk
  exact jlh ‹_› h hd ‹_› ‹_› h3 h1 h2 ‹_› hk.1.1 hk.1.2 hk.2 hs
 case load f n y av =>
  split at hk <;> (try (cases hk; done))
  split at hk <;> (try (cases hk; done))
  simp only [Bool.and_eq_true,Bool.or_eq_true,decide_eq_true_eq,beq_iff_eq] at hk
  obtain ⟨⟨⟨h1,h2⟩,h3⟩,h4⟩:=hk
  exact jhw ‹_› h hd h1 _ _ ‹_› ‹_› h2 h3 (fun e=>h4.resolve_left (by rw [e]; simp)) hs
 case store n x y av =>
  simp only [Bool.and_eq_true,decide_eq_true_eq] at hk
  obtain ⟨⟨h0,hn⟩,hk⟩:=hk
  split at hk <;> (try (cases hk; done))
  split at hk <;> (try (cases hk; done))
  simp only [Bool.and_eq_true,decide_eq_true_eq] at hk
  exact je8 ‹_› h (by simpa using h0) hk.1.2 hk.2 ‹_› hk.1.1 hn hs
 case bin op x y =>
  split at hk <;> (try (cases hk; done))
  simp only [Bool.and_eq_true,decide_eq_true_eq] at hk
  obtain ⟨⟨rfl,h1⟩,h2⟩:=hk
  exact jk4 ‹_› h hd h1 h2 hs
 case un op x =>
  split at hk <;> (try (cases hk; done))
  simp only [Bool.and_eq_true,decide_eq_true_eq] at hk
  obtain ⟨rfl,h1⟩:=hk
  exact jmk ‹_› h hd h1 hs
 case eqs neq ag sh x y =>
  split at hk <;> (try (cases hk; done))
  simp only [Bool.and_eq_true,Bool.or_eq_true,decide_eq_true_eq,beq_iff_eq] at hk
  obtain ⟨⟨⟨⟨⟨⟨⟨rfl,h1⟩,h2⟩,h3⟩,h4⟩,h5⟩,h6⟩,h7⟩:=hk
  exact jk5 ‹_› h hd h1 h2 h3 h4 h5 h6 (fun e=>h7.resolve_left (by rw [e]; simp)) hs
 case conv k y =>
  split at hk <;> (try (cases hk; done))
  split at hk <;> (try (cases hk; done))
  simp only [Bool.and_eq_true,decide_eq_true_eq] at hk
  obtain ⟨rfl,h1⟩:=hk
  exact jhy ‹_› h hd h1 ‹_› ‹_› hs
 case fld f off n y =>
  split at hk <;> (try (cases hk; done))
  split at hk <;> (try (cases hk; done))
  split at hk <;> (try (cases hk; done))
  split at hk <;> (try (cases hk; done))
  simp only [Bool.and_eq_true,Bool.or_eq_true,decide_eq_true_eq,beq_iff_eq] at hk
  obtain ⟨⟨⟨⟨h1,h2⟩,h3⟩,h4⟩,h5⟩:=hk
  exact jk9 ‹_› h hd h5 ‹_› ‹_› h1 ‹_› h2 ‹_› h3 (fun e=>h4.resolve_left (by rw [e]; simp)) hs
 case fad off y =>
  split at hk <;> (try (cases hk; done))
  split at hk <;> (try (cases hk; done))
  split at hk <;> (try (cases hk; done))
  split at hk <;> (try (cases hk; done))
  simp only [Bool.and_eq_true,decide_eq_true_eq] at hk
  exact jk6 ‹_› h hd hk.2 ‹_› ‹_› hk.1.1 ‹_› hk.1.2 hs
 case iaA len sz y iy =>
  split at hk <;> (try (cases hk; done))
  split at hk <;> (try (cases hk; done))
  split at hk <;> (try (cases hk; done))
  simp only [Bool.and_eq_true,decide_eq_true_eq] at hk
  obtain ⟨⟨⟨rfl,h1⟩,h2⟩,h3⟩:=hk
  exact jk7 ‹_› h hd h2 h3 ‹_› ‹_› h1 hs
 case iaS sz y iy =>
  split at hk <;> (try (cases hk; done))
  split at hk <;> (try (cases hk; done))
  split at hk <;> (try (cases hk; done))
  simp only [Bool.and_eq_true,decide_eq_true_eq] at hk
  exact jk8 ‹_› h hd hk.1.2 hk.2 ‹_› ‹_› hk.1.1 hs
 case idA f len sz y iy =>
  split at hk <;> (try (cases hk; done))
  split at hk <;> (try (cases hk; done))
  split at hk <;> (try (cases hk; done))
  simp only [Bool.and_eq_true,Bool.or_eq_true,decide_eq_true_eq,beq_iff_eq] at hk
  obtain ⟨⟨⟨⟨⟨rfl,h1⟩,h2⟩,h3⟩,h4⟩,h5⟩:=hk
  exact jla ‹_› h hd h4 h5 ‹_› ‹_› h1 ‹_› h2 (fun e=>h3.resolve_left (by rw [e]; simp)) hs
 case idS y iy =>
  split at hk <;> (try (cases hk; done))
  split at hk <;> (try (cases hk; done))
  simp only [Bool.and_eq_true] at hk
  exact jlb ‹_› h hd hk.1 hk.2 ‹_› hs
 case ext y j =>
  split at hk <;> (try (cases hk; done))
  simp only [Bool.and_eq_true,decide_eq_true_eq] at hk
  obtain ⟨rfl,h1⟩:=hk
  exact jlc ‹_› h hd h1 hs
 case len y =>
  split at hk <;> (try (cases hk; done))
  split at hk <;> (try (cases hk; done))
  split at hk <;> (try (cases hk; done))
  exact jld ‹_› rfl rfl ‹_› h hd hk ‹_› hs
 case lenS y =>
  split at hk <;> (try (cases hk; done))
  split at hk <;> (try (cases hk; done))
  split at hk <;> (try (cases hk; done))
  exact jhz ‹_› rfl rfl ‹_› h hd hk ‹_› hs
 case app sz x y own =>
  simp only [Bool.and_eq_true,decide_eq_true_eq] at hk
  obtain ⟨h0,hk⟩:=hk
  split at hk <;> (try (cases hk; done))
  split at hk <;> (try (cases hk; done))
  split at hk <;> (try (cases hk; done))
  simp only [Bool.and_eq_true,decide_eq_true_eq] at hk
  obtain ⟨⟨⟨⟨⟨h1,h2⟩,h3⟩,h4⟩,h5⟩,hk⟩:=hk
  split at hk <;> (try (cases hk; done))
  exact jli ‹_› rfl rfl rfl h hd h4 h5 ‹_› ‹_› ‹_› h1 h0 h2 h3 ‹_› (of_decide_eq_true hk) hs
 case slc sz y lo hi =>
  split at hk <;> (try (cases hk; done))
  split at hk <;> (try (cases hk; done))
  split at hk <;> (try (cases hk; done))
  simp only [Bool.and_eq_true,decide_eq_true_eq] at hk
  exact jle ‹_› h hd hk.1.1.2 hk.1.2 hk.2 ‹_› ‹_› hk.1.1.1 hs
 case slS y lo hi =>
  split at hk <;> (try (cases hk; done))
  split at hk <;> (try (cases hk; done))
  simp only [Bool.and_eq_true] at hk
  exact jlf ‹_› h hd hk.1.1 hk.1.2 hk.2 ‹_› hs
 case slA=>cases hs
 case nilc y =>
  split at hk <;> (try (cases hk; done))
  exact jh0 ‹_› h hd hk hs
 case mki t y =>
  split at hk <;> (try (cases hk; done))
  simp only [Bool.and_eq_true,decide_eq_true_eq] at hk
  obtain ⟨⟨rfl,h1⟩,hk⟩:=hk
  split at hk <;> (try (cases hk; done))
  rename_i d hne hu
  exact jlg ‹_› h hd h1 hu (by cases d <;> first | rfl | (exact absurd rfl (hne _))) hs
 case mm mx y ys =>
  split at hk <;> (try (cases hk; done))
  simp only [Bool.and_eq_true,decide_eq_true_eq] at hk
  obtain ⟨⟨rfl,h1⟩,h2⟩:=hk
  exact jml ‹_› rfl rfl h hd h1 h2 hs
 case xf g ys =>
  split at hk <;> (try (cases hk; done))
  simp only [Bool.and_eq_true] at hk
  obtain ⟨h1,hk⟩:=hk
  split at hk <;> (try (cases hk; done))
  simp only [Bool.and_eq_true,decide_eq_true_eq] at hk
  exact jmm ‹_› ‹_› hk.1.1 hk.1.2 hk.2 h hd h1 hs
 case call=>cases hk
 case mkf f l =>
  split at hk <;> (try (cases hk; done))
  simp only [Bool.and_eq_true,decide_eq_true_eq] at hk
  obtain ⟨rfl,h1⟩:=hk
  exact jlm ‹_› h hd h1 hs
 case callv=>cases hk
 case mkm =>
  simp only [Bool.and_eq_true] at hk
  obtain ⟨h0,hk⟩:=hk
  obtain ⟨d,hdst⟩:=Option.isSome_iff_exists.1 h0
  split at hk <;> (try (cases hk; done))
  exact jll ‹_› h hdst (hd d hdst) hs
 case mget ok sh z x k =>
  split at hk <;> (try (cases hk; done))
  simp only [Bool.and_eq_true,decide_eq_true_eq] at hk
  obtain ⟨⟨⟨rfl,h1⟩,h2⟩,hk⟩:=hk
  split at hk <;> (try (cases hk; done))
  simp only [Bool.and_eq_true] at hk
  obtain ⟨h3,hk⟩:=hk
  split at hk <;> (try (cases hk; done))
  split at hk <;> (try (cases hk; done))
  exact jh5 ‹_› h hd h1 h2 ‹_› (.of_chk h3) ‹_› ‹_› hk hs
 case mput sh x k y =>
  split at hk <;> (try (cases hk; done))
  ·simp only [Bool.and_eq_true] at hk
   obtain ⟨⟨⟨h1,h2⟩,h3⟩,hk⟩:=hk
   split at hk <;> (try (cases hk; done))
   exact jbz (.inl ‹_›) h h1 h2 h3 ‹_› (.of_chk hk) hs
  ·simp only [Bool.and_eq_true] at hk
   obtain ⟨⟨⟨h1,h2⟩,h3⟩,hk⟩:=hk
   split at hk <;> (try (cases hk; done))
   exact jbz (.inr ‹_›) h h1 h2 h3 ‹_› (.of_chk hk) hs
end
end Go.Pl
/-
 A CALL OF A GO FUNCTION,AS PLAIN STATES HAVE IT. My own work.
-/
namespace Go.Pl
open Go
set_option linter.unusedVariables false
def initPS (args:List AV):PS where
 t:=fun i=>match args[i]? with
  | some (.c v)=>.c v
  | some (.own _ es)=>.osl i 0 0 es.length
  | some (.io _)=>.ptr i 0 0
  | some (.rp cs)=>.rp cs
  | some (.ios _ es)=>.osl i 0 0 es.length
  | none=>.undef
 bx:=fun i=>match args[i]? with
  | some (.own sz es)=>⟨0,.sl sz es⟩
  | some (.ios sz es)=>⟨0,.sl sz es⟩
  | some (.io cs)=>⟨0,.var cs⟩
  | _=>⟨0,.dead⟩
def outSl:List (List CV)→List (List CV)
 | [.sl es]::_=>es
 | _=>[]
def retPS (args:List AV) (r:RV) (outs:List (List CV)):PS where
 t:=fun i=>if i=args.length then (match r with
  | .c v=>.c v
  | .own _ es=>.osl i 1 0 es.length) else .junk
 bx:=fun i=>if i=args.length then (match r with
  | .own sz es=>⟨1,.sl sz es⟩
  | .c _=>⟨0,.dead⟩) else match args[i]? with
  | some (.io _)=>⟨0,.var (outs.headD [])⟩
  | some (.ios sz _)=>⟨0,.sl sz (outSl outs)⟩
  | _=>⟨0,.dead⟩
def Ent (P : Program) (f : FuncId) : Prop := ∃ fn, P.funcs[f]? = some fn ∧ fn.name ≠ "runtime.NumGoroutine" ∧ fn.body.isSome = true
def PCallG (P:Program):CallP:=fun f args r outs=>Ent P f ∧
 ∀ (w:World) (O A:Nat→Prop) (β:Bt) (vs:Array Value),vs.size=args.length→Sim O w ⟨A,β⟩ β (initPS args) (fun i=>vs.getD i undef) w →
  Calls P f vs w fun e w'=>∃ v β',e=.returned v∧Sim O w ⟨A,β'⟩ β' (retPS args r outs) (fun i=>if i=args.length then v else undef) w'∧(∀ i cs,args[i]? = some (.io cs)→β' i=β i)∧∀ i sz es,args[i]? = some (.ios sz es)→β' i=β i∧∀ q n,β i=some q→OwnB w q.1 n→OwnB w' q.1 n
section
variable {O : Nat → Prop} {A0 : Lent} {w0 w : World} {β : Bt} {s : PS} {a : Act} {P : Program}
theorem jfe {O:Nat→Prop} {β:Bt} {cs:List CV} {b:Nat} (h:Nn O β (initPS (cs.map .c)).bx b):O b:=by
 rcases h with h | ⟨i,base,ho,_⟩
 ·exact h
 ·simp only [initPS,List.getElem?_map] at ho
  cases hc:cs[i]? <;> rw [hc] at ho <;> cases ho
def AV.quiet:AV→Bool
 | .c _ | .rp _=>true
 | _=>false
def AV.pv:AV→PV
 | .c v=>.c v
 | .rp cs=>.rp cs
 | _=>.junk
theorem jh7 {w:World} {N N':Nat→Prop} {β β':Bt} {bx bx':Nat→Box} {v:Value} {av:AV} (hq:av.quiet=true) (e:Ext w N w N') (h:R w N β bx v av.pv):R w N' β' bx' v av.pv:=by
 cases av with
 | c c=>exact V.ext e h
 | rp cs =>
  obtain ⟨b,off,hv,hb,hN,hcs⟩:=h
  exact ⟨b,off,hv,hb,fun hn=>hN (e.less b hb hn),hcs.ext e rfl⟩
 | own _ _=>cases hq
 | io _=>cases hq
 | ios _ _=>cases hq
theorem jff {avs:List AV} (hq:∀ v∈avs,v.quiet=true) (i:Nat):((initPS avs).bx i).st=.dead:=by
 simp only [initPS]
 cases h:avs[i]? with
 | none=>rfl
 | some av =>
  have:=hq av (List.mem_of_getElem? h)
  cases av <;> first | rfl | cases this
theorem jdg (h:Sim O w0 A0 β s (tmf a) w) {avs:List AV} (hq:∀ v∈avs,v.quiet=true) {vs:Array Value} (hl:vs.size=avs.length) (hV:∀ (i:Nat) (h1:i < vs.size) (h2:i < avs.length),R w (Nn O β s.bx) β s.bx vs[i] avs[i].pv) :
  Sim (Nn O β s.bx) w ⟨fun _=>False,fun _=>none⟩ (fun _=>none) (initPS avs) (fun i=>vs.getD i undef) w:=by
 have hd:=jff hq
 have hext:Ext w (Nn O β s.bx) w (Nn (Nn O β s.bx) (fun _=>none) (initPS avs).bx):=.of_less fun b hb=>by
  rcases hb with hb | ⟨i,base,ho,_⟩
  ·exact hb
  ·rw [hd] at ho; cases ho
 refine ⟨rfl,rfl,rfl,Nat.le_refl _,fun _ _ _=>rfl,fun i=>?_,fun d=>(by rw [hd]; trivial),fun d d' p p' _ ho=>(by rw [hd] at ho; cases ho),fun d p ho=>(by rw [hd] at ho; cases ho),fun b hb=>⟨?_,fun h=>h⟩,fun d ps he=>(by rw [hd] at he; cases he),fun d es he=>(by rw [hd] at he; cases he),fun _ _ _ _ _ _ _ hw=>hw,fun d _ ho=>rfl⟩
 ·by_cases hi:i < avs.length
  ·have hqi:=hq avs[i] (List.getElem_mem hi)
   have:(initPS avs).t i=avs[i].pv:=by
    simp only [initPS,List.getElem?_eq_getElem hi]
    cases he:avs[i] <;> rw [he] at hqi <;> first | rfl | cases hqi
   rw [this]
   have hv:vs.getD i undef=vs[i]'(by omega):=by simp [show i < vs.size by omega]
   rw [hv]
   exact jh7 hqi hext (hV i (by omega) hi)
  ·have:(initPS avs).t i=.undef:=by simp [initPS,hi]
   rw [this]
   show vs.getD i undef=undef
   simp [show ¬ i < vs.size by omega]
 ·rcases hb with hb | ⟨i,base,ho,hi⟩
  ·have:=(h.outer b hb).1; have:=h.size; omega
  ·exact (h.out i _ ho hi).2.1
theorem jln (h:Sim O w0 A0 β s (tmf a) w) {avs:List AV} {r:CV} {outs:List (List CV)} {v:Value} {w':World} {β':Bt} (hS:Sim (Nn O β s.bx) w ⟨fun _=>False,β'⟩ β' (retPS avs (.c r) outs) (fun i=>if i=avs.length then v else undef) w') :
  Sim O w0 A0 β s (tmf a) w'∧V w' (Nn O β s.bx) v r:=by
 have hg:=h.grow (w':=w') hS.os hS.tape hS.output hS.size fun b hb=>hS.keep b hb fun h=>h
 refine ⟨hg,?_⟩
 have ht:=hS.temps avs.length
 simp only [retPS,if_true] at ht
 exact V.ext (.of_less fun b hb=>.inl hb) ht
theorem XV (h:Sim O w0 A0 β s (tmf a) w) {cs:List CV} {vs:Array Value} (hl:vs.size=cs.length) (hV:∀ (i:Nat) (h1:i < vs.size) (h2:i < cs.length),V w (Nn O β s.bx) vs[i] cs[i]) :
  Sim (Nn O β s.bx) w ⟨fun _=>False,fun _=>none⟩ (fun _=>none) (initPS (cs.map .c)) (fun i=>vs.getD i undef) w:=by
 have hno:∀ i,((initPS (cs.map AV.c)).bx i).st.owned=false:=by
  intro i
  simp only [initPS,List.getElem?_map]
  cases hc:cs[i]? <;> rfl
 have hext:Ext w (Nn O β s.bx) w (Nn (Nn O β s.bx) (fun _=>none) (initPS (cs.map AV.c)).bx):=.of_less fun b hb=>jfe hb
 refine ⟨rfl,rfl,rfl,Nat.le_refl _,fun _ _ _=>rfl,fun i=>?_,fun d=>?_,fun d d' p p' _ ho=>(by rw [hno d] at ho; cases ho),fun d p ho=>(by rw [hno d] at ho; cases ho),fun b hb=>⟨?_,fun h=>h⟩,fun d ps hd=>absurd (hno d) (by rw [hd]; simp [BSt.owned]),fun d es hd=>absurd (hno d) (by rw [hd]; simp [BSt.owned]),fun _ _ _ _ _ _ _ hw=>hw,fun d _ ho=>rfl⟩
 ·by_cases hi:i < cs.length
  ·have:(initPS (cs.map AV.c)).t i=.c cs[i]:=by simp [initPS,hi]
   rw [this]
   have hv:vs.getD i undef=vs[i]'(by omega):=by simp [show i < vs.size by omega]
   rw [hv]
   exact (hV i (by omega) hi).ext hext
  ·have:(initPS (cs.map AV.c)).t i=.undef:=by simp [initPS,hi]
   rw [this]
   show vs.getD i undef=undef
   simp [show ¬ i < vs.size by omega]
 ·have:((initPS (cs.map AV.c)).bx d).st=.dead:=by
   simp only [initPS,List.getElem?_map]
   cases hc:cs[d]? <;> rfl
  rw [this]
  trivial
 ·rcases hb with hb | ⟨i,base,ho,hi⟩
  ·have:=(h.outer b hb).1; have:=h.size; omega
  ·exact (h.out i _ ho hi).2.1
theorem jlo (h:Sim O w0 A0 β s (tmf a) w) {cs:List CV} {r:CV} {outs:List (List CV)} {v:Value} {w':World} {β':Bt} (hS:Sim (Nn O β s.bx) w ⟨fun _=>False,β'⟩ β' (retPS (cs.map .c) (.c r) outs) (fun i=>if i=(cs.map AV.c).length then v else undef) w') :
  Sim O w0 A0 β s (tmf a) w'∧V w' (Nn O β s.bx) v r:=by
 have hg:=h.grow (w':=w') hS.os hS.tape hS.output hS.size fun b hb=>hS.keep b hb fun h=>h
 refine ⟨hg,?_⟩
 have ht:=hS.temps (cs.map AV.c).length
 simp only [retPS,if_true] at ht
 refine V.ext (.of_less fun b hb=>.inl hb) ht
def Oc (O:Nat→Prop) (β:Bt) (bx:Nat→Box) (d0:Nat) (b:Nat):Prop:=O b∨∃ d base,d≠d0∧(bx d).st.owned=true∧β d=some (b,base)
def headSt:AV→BSt
 | .own sz es | .ios sz es=>.sl sz es
 | .io cs=>.var cs
 | .c _ | .rp _=>.dead
theorem Vc (av:AV) (cs:List CV) (i:Nat):((initPS (av::cs.map .c)).bx i).st=if i=0 then headSt av else .dead:=by
 cases i with
 | zero=>cases av <;> rfl
 | succ i =>
  simp only [initPS,List.getElem?_cons_succ,List.getElem?_map]
  cases hc:cs[i]? <;> rfl
theorem jfg {O:Nat→Prop} {bx:Nat→Box} {d0:Nat} {av:AV} {cs:List CV} {b:Nat} (ho:(bx d0).st.owned=true)
  (h:Nn (Oc O β bx d0) (fun i=>if i=0 then β d0 else none) (initPS (av::cs.map .c)).bx b):Nn O β bx b:=by
 rcases h with (h | ⟨d,base,_,h1,h2⟩) | ⟨i,base,hi,hb⟩
 ·exact .inl h
 ·exact .inr ⟨d,base,h1,h2⟩
 ·rw [Vc] at hi
  by_cases e:i=0
  ·subst e; simp only [if_true] at hb; exact .inr ⟨d0,base,ho,hb⟩
  ·simp only [if_neg e] at hi; cases hi
theorem VG (h:Sim O w0 A0 β s (tmf a) w) {d0:Nat} {av:AV} (hst:(s.bx d0).st=headSt av) (ho:(s.bx d0).st.owned=true) {cs:List CV} {v0:Value} {vs:List Value} (hl:vs.length=cs.length)
  (hV:∀ (i:Nat) (h1:i < vs.length) (h2:i < cs.length),V w (Nn O β s.bx) vs[i] cs[i])
  (hR:R w (Nn (Oc O β s.bx d0) (fun i=>if i=0 then β d0 else none) (initPS (av::cs.map .c)).bx) (fun i=>if i=0 then β d0 else none) (initPS (av::cs.map .c)).bx v0 ((initPS (av::cs.map .c)).t 0)) :
  Sim (Oc O β s.bx d0) w ⟨fun b=>∃ base,β d0=some (b,base),fun i=>if i=0 then β d0 else none⟩ (fun i=>if i=0 then β d0 else none) (initPS (av::cs.map .c)) (fun i=>(v0::vs).toArray.getD i undef) w:=by
 have hext:Ext w (Nn O β s.bx) w (Nn (Oc O β s.bx d0) (fun i=>if i=0 then β d0 else none) (initPS (av::cs.map .c)).bx):=.of_less fun b hb=>jfg ho hb
 have hown:∀ i,((initPS (av::cs.map .c)).bx i).st.owned=true→i=0:=by
  intro i hi
  rw [Vc] at hi
  by_cases e:i=0
  ·exact e
  ·simp only [if_neg e] at hi; cases hi
 refine ⟨rfl,rfl,rfl,Nat.le_refl _,fun _ _ _=>rfl,fun i=>?_,fun d=>?_,fun d d' p p' hdd hod hod'=>absurd ((hown d hod).trans (hown d' hod').symm) hdd,fun d p hod hp=>?_,fun b hb=>⟨?_,?_⟩,fun d ps hd=>?_,fun d es hd=>?_,fun _ _ _ _ _ _ _ hw=>hw,fun d _ _=>rfl⟩
 ·cases i with
  | zero=>simpa using hR
  | succ i =>
   by_cases hi:i < cs.length
   ·have:(initPS (av::cs.map AV.c)).t (i + 1)=.c cs[i]:=by simp [initPS,hi]
    rw [this]
    have hv:(v0::vs).toArray.getD (i + 1) undef=vs[i]'(by omega):=by simp [show i < vs.length by omega]
    rw [hv]
    exact (hV i (by omega) hi).ext hext
   ·have:(initPS (av::cs.map AV.c)).t (i + 1)=.undef:=by simp [initPS,hi]
    rw [this]
    show (v0::vs).toArray.getD (i + 1) undef=undef
    simp [show ¬ i < vs.length by omega]
 ·rw [Vc]
  by_cases e:d=0
  ·subst e
   simp only [if_true]
   have hB:=h.boxes d0
   rw [hst] at hB
   cases av with
   | c _=>trivial
   | rp _=>trivial
   | own sz es =>
    refine ⟨hB.1,?_⟩
    rcases hB.2 with hb | ⟨b,hp,ho,hc⟩
    ·exact .inl hb
    ·exact .inr ⟨b,hp,ho,fun i hi=>(hc i hi).ext hext rfl⟩
   | ios sz es =>
    refine ⟨hB.1,?_⟩
    rcases hB.2 with hb | ⟨b,hp,ho,hc⟩
    ·exact .inl hb
    ·exact .inr ⟨b,hp,ho,fun i hi=>(hc i hi).ext hext rfl⟩
   | io c0 =>
    obtain ⟨b,base,hp,ho,hc⟩:=hB
    exact ⟨b,base,hp,ho,hc.ext hext rfl⟩
  ·simp only [if_neg e]; trivial
 ·have e:=hown d hod
  subst e
  simp only [if_true] at hp
  have:=h.out d0 p ho hp
  refine ⟨?_,this.2.1,fun _=>⟨p.2,hp⟩⟩
  rintro (hn | ⟨d',base,hne,ho',hb'⟩)
  ·exact this.1 hn
  ·exact h.inj d' d0 _ p hne ho' ho hb' hp rfl
 ·rcases hb with hb | ⟨d,base,_,hod,hbd⟩
  ·have:=(h.outer b hb).1; have:=h.size; omega
  ·exact (h.out d _ hod hbd).2.1
 ·rintro ⟨base,hβ⟩
  rcases hb with hb | ⟨d,base',hne,hod,hbd⟩
  ·exact (h.out d0 _ ho hβ).1 hb
  ·exact h.inj d d0 _ _ hne hod ho hbd hβ rfl
 ·rw [Vc] at hd
  split at hd
  ·cases av <;> cases hd
  ·cases hd
 ·rw [Vc] at hd
  split at hd
  ·cases av <;> cases hd
  ·cases hd
theorem Je (av:AV) (cs:List CV) (r:RV) (outs:List (List CV)) (i:Nat):((retPS (av::cs.map .c) r outs).bx i).st =
  if i=cs.length + 1 then (match r with | .own sz es=>.sl sz es | .c _=>.dead) else if i=0 then (match av with | .io _=>.var (outs.headD []) | .ios sz _=>.sl sz (outSl outs) | _=>.dead) else .dead:=by
 simp only [retPS,List.length_cons,List.length_map]
 by_cases e:i=cs.length + 1
 ·simp only [if_pos e]; cases r <;> rfl
 ·simp only [if_neg e]
  cases i with
  | zero=>cases av <;> rfl
  | succ i =>
   simp only [List.getElem?_cons_succ,List.getElem?_map]
   cases hc:cs[i]? <;> rfl
theorem Jx {av:AV} {cs:List CV} {r:RV} {outs:List (List CV)} {d0:Nat} {w':World} {β':Bt} {tm:Nat→Value}
  (hS:Sim (Oc O β s.bx d0) w ⟨fun b=>∃ base,β d0=some (b,base),β'⟩ β' (retPS (av::cs.map .c) r outs) tm w') (ho:(s.bx d0).st.owned=true) :
  ∀ b,b < w.heap.size→(∀ p,(s.bx d0).st.owned=true→β d0=some p→b≠p.1)→w'.heap[b]? = w.heap[b]? :=
 fun b hb hne=>hS.keep b hb (by rintro ⟨base,hβ⟩; exact hne _ ho hβ rfl)
theorem jh8 (h:Sim O w0 A0 β s (tmf a) w) {c0 c1:List CV} {cs:List CV} {r:CV} {d0 ver:Nat} {v:Value} {w':World} {β':Bt} (hb:s.bx d0=⟨ver,.var c0⟩)
  (hS:Sim (Oc O β s.bx d0) w ⟨fun b=>∃ base,β d0=some (b,base),β'⟩ β' (retPS (.io c0::cs.map .c) (.c r) [c1]) (fun i=>if i=(AV.io c0::cs.map AV.c).length then v else undef) w') (hβ':β' 0=β d0) :
  Sim O w0 A0 β (s.box d0 ⟨ver,.var c1⟩) (tmf a) w'∧V w' (Nn O β (s.box d0 ⟨ver,.var c1⟩).bx) v r:=by
 have ho:(s.bx d0).st.owned=true:=by rw [hb]; rfl
 have e0:(fun i=>if i=d0 then β d0 else β i)=β:=by funext i; split <;> simp_all
 have hless:∀ b,Nn O β (s.box d0 ⟨ver,.var c1⟩).bx b→Nn (Oc O β s.bx d0) β' (retPS (.io c0::cs.map .c) (.c r) [c1]).bx b:=by
  rintro b (hn | ⟨i,base,hi,hbi⟩)
  ·exact .inl (.inl hn)
  ·by_cases e:i=d0
   ·subst e
    exact .inr ⟨0,base,by rw [Je]; simp [BSt.owned],by rw [hβ']; exact hbi⟩
   ·simp only [PS.box,if_neg e] at hi; exact .inl (.inr ⟨i,base,e,hi,hbi⟩)
 have hB:=hS.boxes 0
 rw [Je] at hB
 simp only [Nat.zero_ne_add_one,if_false,if_true,List.headD_cons] at hB
 obtain ⟨b,base,hp,hown,hc⟩:=hB
 rw [hβ'] at hp
 have hch:=h.change (w':=w') d0 (β d0) ⟨ver,.var c1⟩ hS.os hS.tape hS.output hS.size (Jx hS ho)
  (.inr ⟨by rw [hb],.inr ⟨rfl,(by rw [hb]; rfl),fun sz es hs=>(by cases hs)⟩⟩)
  (fun p _ hp=>.inl ⟨ho,p,hp,rfl⟩) ⟨b,base,hp,hown,hc.ext (.of_less (by rw [e0]; exact hless)) rfl⟩
 rw [e0] at hch
 refine ⟨hch,?_⟩
 have ht:=hS.temps (AV.io c0::cs.map AV.c).length
 simp only [retPS,if_true] at ht
 exact V.ext (.of_less hless) ht
theorem jfh (h:Sim O w0 A0 β s (tmf a) w) {sz:Nat} {es es':List (List CV)} {cs:List CV} {r:CV} {d0 ver:Nat} {v:Value} {w':World} {β':Bt} (hb:s.bx d0=⟨ver,.sl sz es⟩)
  (hS:Sim (Oc O β s.bx d0) w ⟨fun b=>∃ base,β d0=some (b,base),β'⟩ β' (retPS (.ios sz es::cs.map .c) (.c r) [[.sl es']]) (fun i=>if i=(AV.ios sz es::cs.map AV.c).length then v else undef) w') (hβ':β' 0=β d0)
  (hwide:∀ q n,β d0=some q→OwnB w q.1 n→OwnB w' q.1 n) :
  Sim O w0 A0 β (s.box d0 ⟨ver,.sl sz es'⟩) (tmf a) w'∧V w' (Nn O β (s.box d0 ⟨ver,.sl sz es'⟩).bx) v r:=by
 have ho:(s.bx d0).st.owned=true:=by rw [hb]; rfl
 have e0:(fun i=>if i=d0 then β d0 else β i)=β:=by funext i; split <;> simp_all
 have hless:∀ b,Nn O β (s.box d0 ⟨ver,.sl sz es'⟩).bx b→Nn (Oc O β s.bx d0) β' (retPS (.ios sz es::cs.map .c) (.c r) [[.sl es']]).bx b:=by
  rintro b (hn | ⟨i,base,hi,hbi⟩)
  ·exact .inl (.inl hn)
  ·by_cases e:i=d0
   ·subst e
    exact .inr ⟨0,base,by rw [Je]; simp [BSt.owned],by rw [hβ']; exact hbi⟩
   ·simp only [PS.box,if_neg e] at hi; exact .inl (.inr ⟨i,base,e,hi,hbi⟩)
 have hB:=hS.boxes 0
 rw [Je] at hB
 simp only [Nat.zero_ne_add_one,if_false,if_true,outSl] at hB
 rw [hβ'] at hB
 have hch:=h.change (w':=w') d0 (β d0) ⟨ver,.sl sz es'⟩ hS.os hS.tape hS.output hS.size (Jx hS ho)
  (.inr ⟨by rw [hb],.inr ⟨rfl,(by rw [hb]; rfl),fun sz2 es2 hs=>by cases hs; exact ⟨⟨es,by rw [hb]⟩,hwide⟩⟩⟩)
  (fun p _ hp=>.inl ⟨ho,p,hp,rfl⟩) (by
   refine ⟨hB.1,?_⟩
   rcases hB.2 with hb' | ⟨b,hp,hown,hc⟩
   ·exact .inl hb'
   ·exact .inr ⟨b,hp,hown,fun i hi=>(hc i hi).ext (.of_less (by rw [e0]; exact hless)) rfl⟩)
 rw [e0] at hch
 refine ⟨hch,?_⟩
 have ht:=hS.temps (AV.ios sz es::cs.map AV.c).length
 simp only [retPS,if_true] at ht
 exact V.ext (.of_less hless) ht
theorem jdh (h:Sim O w0 A0 β s (tmf a) w) {cs:List CV} {r:CV} {d0 ver sz:Nat} {es:List (List CV)} {v:Value} {w':World} {β':Bt} (hb:s.bx d0=⟨ver,.sl sz es⟩)
  (hS:Sim (Oc O β s.bx d0) w ⟨fun b=>∃ base,β d0=some (b,base),β'⟩ β' (retPS (.own sz es::cs.map .c) (.c r) []) (fun i=>if i=(AV.own sz es::cs.map AV.c).length then v else undef) w') :
  Sim O w0 A0 β (s.box d0 ⟨ver + 1,.dead⟩) (tmf a) w'∧V w' (Nn O β (s.box d0 ⟨ver + 1,.dead⟩).bx) v r:=by
 have ho:(s.bx d0).st.owned=true:=by rw [hb]; rfl
 have e0:(fun i=>if i=d0 then β d0 else β i)=β:=by funext i; split <;> simp_all
 have hless:∀ b,Nn O β (s.box d0 ⟨ver + 1,.dead⟩).bx b→Nn (Oc O β s.bx d0) β' (retPS (.own sz es::cs.map .c) (.c r) []).bx b:=by
  rintro b (hn | ⟨i,base,hi,hbi⟩)
  ·exact .inl (.inl hn)
  ·by_cases e:i=d0
   ·simp only [PS.box,if_pos e] at hi; cases hi
   ·simp only [PS.box,if_neg e] at hi; exact .inl (.inr ⟨i,base,e,hi,hbi⟩)
 have hch:=h.change (w':=w') d0 (β d0) ⟨ver + 1,.dead⟩ hS.os hS.tape hS.output hS.size (Jx hS ho) (.inl (by rw [hb]; exact Nat.lt_succ_self _)) (fun p ho _=>by cases ho) trivial
 rw [e0] at hch
 refine ⟨hch,?_⟩
 have ht:=hS.temps (AV.own sz es::cs.map AV.c).length
 simp only [retPS,if_true] at ht
 exact V.ext (.of_less hless) ht
theorem jdi (h:Sim O w0 A0 β s (tmf a) w) {cs:List CV} {d0 ver sz sz':Nat} {es zs:List (List CV)} {v:Value} {w':World} {β':Bt} (hb:s.bx d0=⟨ver,.sl sz es⟩)
  (hS:Sim (Oc O β s.bx d0) w ⟨fun b=>∃ base,β d0=some (b,base),β'⟩ β' (retPS (.own sz es::cs.map .c) (.own sz' zs) []) (fun i=>if i=(AV.own sz es::cs.map AV.c).length then v else undef) w')
  {e:Nat} (he:e < a.tmps.size):∃ β2,Sim O w0 A0 β2 ((s.box d0 ⟨ver + 1,.dead⟩).putR (some e) (.own sz' zs)) (tmf (a.put (some e) v)) w':=by
 have ho:(s.bx d0).st.owned=true:=by rw [hb]; rfl
 have hlen:(AV.own sz es::cs.map AV.c).length=cs.length + 1:=by simp
 rw [hlen] at hS
 have hless:∀ q b,Nn O (fun i=>if i=d0 then β' (cs.length + 1) else β i) (s.box d0 ⟨q,.sl sz' zs⟩).bx b→Nn (Oc O β s.bx d0) β' (retPS (.own sz es::cs.map .c) (.own sz' zs) []).bx b:=by
  rintro q b (hn | ⟨i,base,hi,hbi⟩)
  ·exact .inl (.inl hn)
  ·by_cases e:i=d0
   ·subst e
    simp only [if_true] at hbi
    exact .inr ⟨cs.length + 1,base,by rw [Je]; simp [BSt.owned],hbi⟩
   ·simp only [PS.box,if_neg e] at hi; simp only [if_neg e] at hbi; exact .inl (.inr ⟨i,base,e,hi,hbi⟩)
 have hB:=hS.boxes (cs.length + 1)
 rw [Je] at hB
 simp only [if_true] at hB
 have hout:=hS.out (cs.length + 1)
 rw [Je] at hout
 simp only [if_true] at hout
 -- the box in its old place
 have stage:∀ q,ver < q→Sim O w0 A0 (fun i=>if i=d0 then β' (cs.length + 1) else β i) (s.box d0 ⟨q,.sl sz' zs⟩) (tmf a) w':=by
  intro q hq
  refine h.change (w':=w') d0 (β' (cs.length + 1)) ⟨q,.sl sz' zs⟩ hS.os hS.tape hS.output hS.size (Jx hS ho) (.inl (by rw [hb]; exact hq)) ?_ ?_
  ·intro p _ hp
   have:=hout p rfl hp
   by_cases hlt:p.1 < w.heap.size
   ·obtain ⟨base,hβ⟩:=this.2.2 hlt
    exact .inl ⟨ho,_,hβ,rfl⟩
   ·exact .inr ⟨by omega,this.2.1⟩
  ·refine ⟨hB.1,?_⟩
   rcases hB.2 with hb' | ⟨b,hp,ho',hc⟩
   ·exact .inl hb'
   ·exact .inr ⟨b,hp,ho',fun i hi=>(hc i hi).ext (.of_less (hless q)) rfl⟩
 have ht:=hS.temps (cs.length + 1)
 simp only [retPS,List.length_cons,List.length_map,if_true] at ht
 have hH:Hdr w' (β' (cs.length + 1)) sz' zs v:=by
  obtain ⟨_,hor⟩:=ht.2 (by simp) sz' zs (by simp)
  rcases hor with ⟨h1,h2,h3⟩ | ⟨b,cap,h1,h2,h3,h4⟩
  ·exact .inl ⟨h1,h2,List.eq_nil_of_length_eq_zero h3⟩
  ·exact .inr ⟨b,cap,h1,h2,h3,h4⟩
 have hHp:∀ (d:Nat) (β2:Bt) (bx2:Nat→Box) (N:Nat→Prop) (q:Nat),bx2 d=⟨q,.sl sz' zs⟩→β2 d=β' (cs.length + 1)→R w' N β2 bx2 v (.osl d q 0 zs.length):=by
  intro d β2 bx2 N q hbx hβ
  refine ⟨⟨by rw [hbx]; exact Nat.le_refl _,hH.one⟩,fun _ sz2 es2 hs2=>⟨rfl,?_⟩⟩
  rw [hbx] at hs2
  cases hs2
  rcases hH with ⟨h1,h2,h3⟩ | ⟨b,cap,h1,h2,h3,h4⟩
  ·exact .inl ⟨hβ.trans h1,h2,by rw [h3]; rfl⟩
  ·exact .inr ⟨b,cap,hβ.trans h1,h2,h3,h4⟩
 by_cases hde:d0=e
 ·subst hde
  have hst:=stage (ver + 1 + 1) (by omega)
  have e1:(s.box d0 ⟨ver + 1,.dead⟩).putR (some d0) (.own sz' zs)=(s.box d0 ⟨ver + 1 + 1,.sl sz' zs⟩).put d0 (.osl d0 (ver + 1 + 1) 0 zs.length):=by
   simp only [PS.putR,wO]
   simp [PS.box]
  rw [e1,vf _ he]
  exact ⟨_,hst.put d0 _ v (hHp d0 _ _ _ _ (by simp [PS.box]) (by simp))⟩
 ·have hst:=(stage (ver + 1) (by omega)).move (d:=d0) (e:=e) (sz:=sz') (es:=zs) hde (by simp [PS.box])
  have e1:((s.box d0 ⟨ver + 1,.sl sz' zs⟩).box d0 ⟨((s.box d0 ⟨ver + 1,.sl sz' zs⟩).bx d0).ver,.dead⟩)=s.box d0 ⟨ver + 1,.dead⟩:=by rw [wO]; simp [PS.box]
  have e2:((s.box d0 ⟨ver + 1,.sl sz' zs⟩).bx e).ver=(s.bx e).ver:=by simp [PS.box,Ne.symm hde]
  rw [e1,e2] at hst
  have e3:(s.box d0 ⟨ver + 1,.dead⟩).putR (some e) (.own sz' zs)=((s.box d0 ⟨ver + 1,.dead⟩).box e ⟨(s.bx e).ver + 1,.sl sz' zs⟩).put e (.osl e ((s.bx e).ver + 1) 0 zs.length):=by
   simp only [PS.putR]
   have:((s.box d0 ⟨ver + 1,.dead⟩).bx e)=s.bx e:=by simp [PS.box,Ne.symm hde]
   rw [this]
  rw [e3,vf _ he]
  exact ⟨_,hst.put e _ v (hHp e _ _ _ _ (by simp [PS.box]) (by simp))⟩
theorem jh9 (h:Sim O w0 A0 β s (tmf a) w) {cs:List CV} {sz:Nat} {zs:List (List CV)} {v:Value} {w':World} {β':Bt}
  (hS:Sim (Nn O β s.bx) w ⟨fun _=>False,β'⟩ β' (retPS (cs.map .c) (.own sz zs) []) (fun i=>if i=(cs.map AV.c).length then v else undef) w')
  {e:Nat} (he:e < a.tmps.size):∃ β2,Sim O w0 A0 β2 (s.putR (some e) (.own sz zs)) (tmf (a.put (some e) v)) w':=by
 have hlen:(cs.map AV.c).length=cs.length:=by simp
 rw [hlen] at hS
 have hret:∀ i,((retPS (cs.map AV.c) (.own sz zs) []).bx i).st=if i=cs.length then .sl sz zs else .dead:=by
  intro i
  simp only [retPS,List.length_map]
  by_cases e:i=cs.length
  ·simp only [if_pos e]
  ·simp only [if_neg e,List.getElem?_map]
   cases hc:cs[i]? <;> rfl
 have hB:=hS.boxes cs.length
 rw [hret] at hB
 simp only [if_true] at hB
 have hout:=hS.out cs.length
 rw [hret] at hout
 simp only [if_true] at hout
 have hless:∀ b,Nn O (fun i=>if i=e then β' cs.length else β i) (s.box e ⟨(s.bx e).ver + 1,.sl sz zs⟩).bx b→Nn (Nn O β s.bx) β' (retPS (cs.map AV.c) (.own sz zs) []).bx b:=by
  rintro b (hn | ⟨i,base,hi,hbi⟩)
  ·exact .inl (.inl hn)
  ·by_cases e':i=e
   ·subst e'
    simp only [if_true] at hbi
    exact .inr ⟨cs.length,base,by rw [hret]; simp [BSt.owned],hbi⟩
   ·simp only [PS.box,if_neg e'] at hi; simp only [if_neg e'] at hbi; exact .inl (.inr ⟨i,base,hi,hbi⟩)
 have stage:Sim O w0 A0 (fun i=>if i=e then β' cs.length else β i) (s.box e ⟨(s.bx e).ver + 1,.sl sz zs⟩) (tmf a) w':=by
  refine h.change (w':=w') e (β' cs.length) ⟨(s.bx e).ver + 1,.sl sz zs⟩ hS.os hS.tape hS.output hS.size (fun b hb _=>hS.keep b hb fun h=>h) (.inl (Nat.lt_succ_self _)) ?_ ?_
  ·intro p _ hp
   have:=hout p rfl hp
   by_cases hlt:p.1 < w.heap.size
   ·exact (this.2.2 hlt).elim
   ·exact .inr ⟨by omega,this.2.1⟩
  ·refine ⟨hB.1,?_⟩
   rcases hB.2 with hb' | ⟨b,hp,ho',hc⟩
   ·exact .inl hb'
   ·exact .inr ⟨b,hp,ho',fun i hi=>(hc i hi).ext (.of_less hless) rfl⟩
 have ht:=hS.temps cs.length
 simp only [retPS,List.length_map,if_true] at ht
 have hH:Hdr w' (β' cs.length) sz zs v:=by
  obtain ⟨_,hor⟩:=ht.2 (by simp) sz zs (by simp)
  rcases hor with ⟨h1,h2,h3⟩ | ⟨b,cap,h1,h2,h3,h4⟩
  ·exact .inl ⟨h1,h2,List.eq_nil_of_length_eq_zero h3⟩
  ·exact .inr ⟨b,cap,h1,h2,h3,h4⟩
 rw [vf _ he]
 refine ⟨_,stage.put e _ v ?_⟩
 refine ⟨⟨by simp [PS.box],hH.one⟩,fun _ sz2 es2 hs2=>⟨rfl,?_⟩⟩
 simp only [PS.box,if_true] at hs2
 cases hs2
 rcases hH with ⟨h1,h2,h3⟩ | ⟨b,cap,h1,h2,h3,h4⟩
 ·exact .inl ⟨by simp [h1],h2,by rw [h3]; rfl⟩
 ·exact .inr ⟨b,cap,by simp [h1],h2,h3,h4⟩
end
end Go.Pl
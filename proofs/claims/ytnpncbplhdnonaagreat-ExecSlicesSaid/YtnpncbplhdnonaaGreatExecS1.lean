/- Part of the proof of ExecTells, ExecAnswers, ExecBest, ExecFirst, ExecLevels, ExecTops, ExecLimits: lemmas. -/
import Derived.Calls
import Derived.Below
set_option linter.unusedVariables false
set_option linter.unusedSimpArgs false
/-
 PLAIN STATES. A pure reading of Go code over values without memory: what a step of a function does to a plain state,as a computable function. That the model's run does the same is proved in the texts that follow. My own work.
-/
namespace Go.Pl
inductive CV where
 | int (k:IntKind) (n:Int)
 | bool (b:Bool)
 | str (s:ByteArray)
 | sl (es:List (List CV))
 | nils
 | nilp
 | nili
 | nilf
 | iface (t:TypeId) (v:CV)
 | agg (cs:List CV)
 | tup (vs:List CV)
 | fn (f:Fn) (cap:List CV)
 | clo (f:FuncId) (caps:List (List CV))
 | map (es:List (CV × CV))
 deriving Inhabited
def CV.one:CV→Bool
 | .agg _ | .tup _=>false
 | _=>true
def CV.cells:CV→List CV
 | .agg cs=>cs
 | .tup _=>[]
 | v=>[v]
inductive PV where
 | c (v:CV)
 | ptr (d ver off:Nat)
 | rp (cs:List CV)
 | osl (d ver off len:Nat)
 | sp (d ver i off:Nat)
 | mp (d ver:Nat)
 | undef
 | junk
 deriving Inhabited
inductive BSt where
 | var (cs:List CV)
 | vp (cs:List PV)
 | mp (es:List (CV × PV))
 | sl (sz:Nat) (es:List (List CV))
 | dead
 deriving Inhabited
def BSt.isv:BSt→Bool
 | .var _ | .vp _=>true
 | _=>false
def BSt.kd:BSt→Nat
 | .dead=>0
 | .var _ | .vp _=>1
 | .sl _ _=>2
 | .mp _=>3
structure Box where
 ver:Nat
 st:BSt
 deriving Inhabited
structure PS where
 t:Nat→PV
 bx:Nat→Box
def PS.put (s:PS) (d:Nat) (v:PV):PS:={ s with t:=fun i=>if i=d then v else s.t i }
def PS.box (s:PS) (d:Nat) (b:Box):PS:={ s with bx:=fun i=>if i=d then b else s.bx i }
def PS.putO (s:PS) (d:Option Nat) (v:PV):PS:=match d with | some d=>s.put d v | none=>s
inductive PO where
 | t (i:Nat)
 | k (v:CV)
 deriving Inhabited
inductive LK where
 | i | b | s
 deriving DecidableEq
inductive XF where
 | adc | sbc
 deriving DecidableEq,Inhabited
inductive PK where
 | mv (x:PO)
 | pick (c a b:PO)
 | own0 (sz:Nat)
 | alloc (z:List CV)
 | box (n:Nat) (x:PO)
 | build (z:List CV) (ps:List (Nat × Nat × PO))
 | bsl (sz len:Nat) (zc:List CV) (ps:List (Nat × PO)) (own:Bool)
 | load (a:Bool) (n:Nat) (x:PO) (av:List Nat)
 | store (n:Nat) (a x:PO) (av:List Nat)
 | bin (op:BinOp) (x y:PO)
 | un (op:UnOp) (x:PO)
 | eqs (neq ag:Bool) (sh:List LK) (x y:PO)
 | conv (k:IntKind) (x:PO)
 | fld (a:Bool) (off n:Nat) (x:PO)
 | fad (off:Nat) (x:PO)
 | iaA (len sz:Nat) (x i:PO)
 | iaS (sz:Nat) (x i:PO)
 | idA (a:Bool) (len sz:Nat) (x i:PO)
 | idS (x i:PO)
 | ext (x:PO) (j:Nat)
 | len (x:PO)
 | lenS (x:PO)
 | app (sz:Nat) (x y:PO) (own:Bool)
 | slc (sz:Nat) (x:PO) (lo hi:Option PO)
 | slS (x:PO) (lo hi:Option PO)
 | slA (n sz:Nat) (x:PO) (lo hi:Option PO)
 | nilc (x:PO)
 | mki (t:TypeId) (x:PO)
 | mm (mx:Bool) (x:PO) (l:List PO)
 | xf (g:XF) (args:List PO)
 | call (m:Bool) (f:FuncId) (args:List PO)
 | mkf (f:FuncId) (caps:List PO)
 | callv (x:PO) (args:List PO)
 | mkm
 | mget (ok:Bool) (sh:List LK) (z:CV) (x k:PO)
 | mput (sh:List LK) (x k v:PO)
 deriving Inhabited
structure POp where
 dst:Option Nat
 k:PK
 g:Option (Nat × Bool)
 deriving Inhabited
inductive PCode where
 | skip
 | ops (draw:Bool) (l:List POp)
 | seq (a b:PCode)
 | cond (x:PO) (a b:PCode)
 | block (id:Nat) (a:PCode)
 | loop (a:PCode)
 | exit (id:Nat)
 | ret
 | fz (i:Nat) (a:PCode)
 | rn (i e:Nat) (a:PCode)
 | fzc (i k:Nat) (a:PCode)
 | rnc (i k e:Nat) (a:PCode)
 | nvp (i:Nat) (a:PCode)
 | fzv (i:Nat) (a:PCode)
 | fzm (i:Nat) (a:PCode)
 | opsB (l:List POp) (on:List (Nat × Nat))
 | opsN (l:List POp) (x:PO) (d:Nat)
 | zn (i k sz e:Nat) (a:PCode)
 deriving Inhabited
def PS.ev (s:PS):PO→PV
 | .t i=>s.t i
 | .k v=>.c v
def rdc (a:Bool) (n:Nat) (cs:List CV):CV:=if a then .agg (cs.take n) else cs.headD default
def spl (cs:List CV) (off:Nat) (new:List CV):List CV:=cs.take off++(new++cs.drop (off + new.length))
def splP (cs:List PV) (off:Nat) (new:List PV):List PV:=cs.take off++(new++cs.drop (off + new.length))
def PV.refr:PV→Bool
 | .osl _ _ _ _ | .ptr _ _ _ | .mp _ _=>true
 | _=>false
def PV.mval:PV→Bool
 | .c _ | .osl _ _ _ _=>true
 | _=>false
def PV.one:PV→Bool
 | .c v=>v.one
 | .osl _ _ _ _ | .ptr _ _ _ | .mp _ _=>true
 | _=>false
def closed?:List PV→Option (List CV)
 | []=>some []
 | .c v::l=>(closed? l).map (v::·)
 | _::_=>none
def loadP (f:Bool) (n off:Nat) (ps:List PV):Option PV :=
 if f then (match closed? ((ps.drop off).take n) with
  | some cs=>some (.c (.agg cs))
  | none=>none) else some ((ps.drop off).headD .junk)
def fillC:List CV→List (Nat × Nat × CV)→Option (List CV)
 | z,[]=>some z
 | z,(off,n,v)::l=>if v.cells.length=n∧off + n≤z.length then fillC (spl z off v.cells) l else none
def PS.close (s:PS):PV→Option CV
 | .c v=>some v
 | .osl d ver off len=>match s.bx d with
  | ⟨v,.sl _ es⟩=>if v=ver∧off=0∧len=es.length then some (.sl es) else none
  | _=>none
 | _=>none
def PS.evc (s:PS) (x:PO):Option CV:=match s.ev x with | .c v=>some v | _=>none
def partsC (s:PS):List (Nat × Nat × PO)→Option (List (Nat × Nat × CV))
 | []=>some []
 | (o,n,x)::l=>match s.evc x with
  | some v=>(partsC s l).map ((o,n,v)::·)
  | none=>none
def fillS:List (List CV)→List (Nat × CV)→Option (List (List CV))
 | z,[]=>some z
 | z,(i,v)::l=>match z[i]? with
  | some e=>if v.cells.length=e.length then fillS (z.set i v.cells) l else none
  | none=>none
def partsS (s:PS):List (Nat × PO)→Option (List (Nat × CV))
 | []=>some []
 | (i,x)::l=>match s.evc x with
  | some v=>(partsS s l).map ((i,v)::·)
  | none=>none
def shEq:List LK→List CV→List CV→Option Bool
 | [],[],[]=>some true
 | .i::l,.int k a::cs,.int k' b::ds=>if k=k' then (shEq l cs ds).map ((a == b) && ·) else none
 | .b::l,.bool a::cs,.bool b::ds=>(shEq l cs ds).map ((a == b) && ·)
 | .s::l,.str a::cs,.str b::ds=>(shEq l cs ds).map ((a.toList == b.toList) && ·)
 | _,_,_=>none
def eqC (ag:Bool) (sh:List LK) (u v:CV):Option Bool :=
 match ag,u,v with
 | true,.agg cs,.agg ds=>shEq sh cs ds
 | true,_,_=>none
 | false,u,v=>shEq sh [u] [v]
def mfind {α:Type} (sh:List LK) (k:CV):List (CV × α)→Option (Option α)
 | []=>some none
 | (k',v)::l=>match eqC true sh k k' with
  | some true=>some (some v)
  | some false=>mfind sh k l
  | none=>none
def mset {α:Type} (sh:List LK) (k:CV) (v:α):List (CV × α)→Option (List (CV × α))
 | []=>some [(k,v)]
 | (k',v')::l=>match eqC true sh k k' with
  | some true=>some ((k,v)::l)
  | some false=>(mset sh k v l).map ((k',v')::·)
  | none=>none
def mres (ok:Bool) (z:CV):Option PV→Option PV
 | some v=>if ok then (match v with | .c v=>some (.c (.tup [v,.bool true])) | _=>none) else some v
 | none=>some (.c (if ok then .tup [z,.bool false] else z))
def shl (k:IntKind) (a b:Int):Option CV:=if 0≤b∧b.toNat≤k.bits then some (.int k (k.wrap (a * 2 ^ b.toNat))) else none
def shr (k:IntKind) (a b:Int):Option CV:=if 0≤b∧b.toNat≤k.bits then some (.int k (a.fdiv (2 ^ b.toNat))) else none
def binC (op:BinOp) (x y:CV):Option CV :=
 match op,x,y with
 | .shl,.int k a,.int _ b=>shl k a b
 | .shr,.int k a,.int _ b=>shr k a b
 | .add,.int k a,.int k' b=>if k=k' then some (.int k (k.wrap (a + b))) else none
 | .sub,.int k a,.int k' b=>if k=k' then some (.int k (k.wrap (a - b))) else none
 | .mul,.int k a,.int k' b=>if k=k' then some (.int k (k.wrap (a * b))) else none
 | .quo,.int k a,.int k' b=>if k=k'∧b≠0 then some (.int k (k.wrap (a.tdiv b))) else none
 | .rem,.int k a,.int k' b=>if k=k'∧b≠0 then some (.int k (a.tmod b)) else none
 | .and,.int k a,.int k' b=>if k=k' then some (.int k (k.wrap (BitVec.ofInt k.bits a &&& BitVec.ofInt k.bits b).toNat)) else none
 | .or,.int k a,.int k' b=>if k=k' then some (.int k (k.wrap (BitVec.ofInt k.bits a ||| BitVec.ofInt k.bits b).toNat)) else none
 | .xor,.int k a,.int k' b=>if k=k' then some (.int k (k.wrap (BitVec.ofInt k.bits a ^^^ BitVec.ofInt k.bits b).toNat)) else none
 | .lss,.int k a,.int k' b=>if k=k' then some (.bool (decide (a < b))) else none
 | .leq,.int k a,.int k' b=>if k=k' then some (.bool (decide (a≤b))) else none
 | .gtr,.int k a,.int k' b=>if k=k' then some (.bool (decide (b < a))) else none
 | .geq,.int k a,.int k' b=>if k=k' then some (.bool (decide (b≤a))) else none
 | .eql,.int k a,.int k' b=>if k=k' then some (.bool (a == b)) else none
 | .neq,.int k a,.int k' b=>if k=k' then some (.bool (!(a == b))) else none
 | .eql,.str a,.str b=>some (.bool (a.toList == b.toList))
 | .neq,.str a,.str b=>some (.bool (!(a.toList == b.toList)))
 | _,_,_=>none
def unC (op:UnOp) (x:CV):Option CV :=
 match op,x with
 | .not,.bool b=>some (.bool (!b))
 | .neg,.int k a=>some (.int k (k.wrap (0 - a)))
 | _,_=>none
def bound (s:PS) (dflt:Nat):Option PO→Option Nat
 | none=>some dflt
 | some x=>match s.evc x with
  | some (.int _ n)=>if 0≤n then some n.toNat else none
  | _=>none
def foldMm (s:PS) (mx:Bool) (k:IntKind) (a:Int):List PO→Option Int
 | []=>some a
 | x::l=>match s.evc x with
  | some (.int k' b)=>if k=k' then foldMm s mx k (if mx then (if b > a then b else a) else (if b < a then b else a)) l else none
  | _=>none
def maxGrow:Nat:=4294967296
def m64:Int:=18446744073709551616
def xfC:XF→List CV→Option CV
 | .adc,[.int .u64 x,.int .u64 y,.int .u64 c]=>if 0≤x∧0≤y∧0≤c∧c≤1 then some (.tup [.int .u64 ((x + y + c) % m64),.int .u64 ((x + y + c) / m64)]) else none
 | .sbc,[.int .u64 x,.int .u64 y,.int .u64 c]=>if 0≤x∧0≤y∧y < m64∧0≤c∧c≤1 then some (.tup [.int .u64 ((x - y - c) % m64),.int .u64 (if x < y + c then 1 else 0)]) else none
 | _,_=>none
def evcs (s:PS):List PO→Option (List CV)
 | []=>some []
 | x::l=>match s.evc x,evcs s l with
  | some v,some vs=>some (v::vs)
  | _,_=>none
def evrs (s:PS):List PO→Option (List (List CV))
 | []=>some []
 | x::l=>match s.ev x,evrs s l with
  | .rp cs,some vs=>some (cs::vs)
  | _,_=>none
def pstep (dst : Option Nat) (s : PS) : PK → Option PS
  | .mv x => some (s.putO dst (s.ev x))
  | .pick c a b => match s.ev c with
    | .c (.bool t) => some (s.putO dst (if t then s.ev a else s.ev b))
    | _ => none
  | .own0 sz => match dst with
    | some d => some ((s.box d ⟨(s.bx d).ver + 1, .sl sz []⟩).put d (.osl d ((s.bx d).ver + 1) 0 0))
    | none => none
  | .alloc z => match dst with
    | some d => some ((s.box d ⟨(s.bx d).ver + 1, .var z⟩).put d (.ptr d ((s.bx d).ver + 1) 0))
    | none => none
  | .box n x => match dst, s.evc x with
    | some d, some v => if v.cells.length = n then some ((s.box d ⟨(s.bx d).ver + 1, .var v.cells⟩).put d (.ptr d ((s.bx d).ver + 1) 0)) else none
    | _, _ => none
  | .build z ps => match partsC s ps with
    | some l => (fillC z l).map fun cs => s.putO dst (.c (.agg cs))
    | none => none
  | .bsl sz len zc ps own => match partsS s ps with
    | some l => match fillS (List.replicate len zc) l, own, dst with
      | some es, false, _ => some (s.putO dst (.c (.sl es)))
      | some es, true, some d => some ((s.box d ⟨(s.bx d).ver + 1, .sl sz es⟩).put d (.osl d ((s.bx d).ver + 1) 0 es.length))
      | _, _, _ => none
    | none => none
  | .load a n x av => match s.ev x with
    | .rp cs => if n ≤ cs.length then some (s.putO dst (.c (rdc a n cs))) else none
    | .ptr d ver off => if d ∈ av then none else match s.bx d with
      | ⟨v, .var cs⟩ => if v = ver ∧ off + n ≤ cs.length then some (s.putO dst (.c (rdc a n (cs.drop off)))) else none
      | ⟨v, .vp ps⟩ => if v = ver ∧ off + n ≤ ps.length then (match loadP a n off ps with
        | some pv => some (s.putO dst pv)
        | none => none) else none
      | _ => none
    | .sp d ver i off => if d ∈ av then none else match s.bx d with
      | ⟨v, .sl _ es⟩ => match es[i]? with
        | some e => if v = ver ∧ off + n ≤ e.length then some (s.putO dst (.c (rdc a n (e.drop off)))) else none
        | none => none
      | _ => none
    | _ => none
  | .store n a x av => match s.ev a, s.evc x with
    | .ptr d ver off, some v => if d ∈ av then none else match s.bx d with
      | ⟨u, .var cs⟩ => if u = ver ∧ v.cells.length = n ∧ off + n ≤ cs.length then some (s.box d ⟨u, .var (spl cs off v.cells)⟩) else none
      | ⟨u, .vp ps⟩ => if u = ver ∧ v.cells.length = n ∧ off + n ≤ ps.length then some (s.box d ⟨u, .vp (splP ps off (v.cells.map .c))⟩) else none
      | _ => none
    | .ptr d ver off, none => if d ∈ av then none else if (s.ev x).refr = true ∧ n = 1 then (match s.bx d with
      | ⟨u, .var cs⟩ => if u = ver ∧ off + n ≤ cs.length then some (s.box d ⟨u, .vp (splP (cs.map .c) off [s.ev x])⟩) else none
      | ⟨u, .vp ps⟩ => if u = ver ∧ off + n ≤ ps.length then some (s.box d ⟨u, .vp (splP ps off [s.ev x])⟩) else none
      | _ => none) else none
    | .sp d ver i off, some v => if d ∈ av then none else match s.bx d with
      | ⟨u, .sl sz es⟩ => match es[i]? with
        | some e => if u = ver ∧ v.cells.length = n ∧ off + n ≤ e.length then some (s.box d ⟨u, .sl sz (es.set i (spl e off v.cells))⟩) else none
        | none => none
      | _ => none
    | _, _ => none
  | .bin op x y => match s.evc x, s.evc y with
    | some a, some b => (binC op a b).map fun v => s.putO dst (.c v)
    | _, _ => none
  | .eqs neq ag sh x y => match s.evc x, s.evc y with
    | some a, some b => (eqC ag sh a b).map fun r => s.putO dst (.c (.bool (if neq then !r else r)))
    | _, _ => none
  | .un op x => match s.evc x with
    | some a => (unC op a).map fun v => s.putO dst (.c v)
    | none => none
  | .conv k x => match s.evc x with
    | some (.int _ n) => some (s.putO dst (.c (.int k (k.wrap n))))
    | _ => none
  | .fld a off n x => match s.evc x with
    | some (.agg cs) => if off + n ≤ cs.length then some (s.putO dst (.c (rdc a n (cs.drop off)))) else none
    | _ => none
  | .fad off x => match s.ev x with
    | .rp cs => if off ≤ cs.length then some (s.putO dst (.rp (cs.drop off))) else none
    | .ptr d v o => match s.bx d with
      | ⟨u, .var _⟩ => if u = v then some (s.putO dst (.ptr d v (o + off))) else none
      | ⟨u, .vp _⟩ => if u = v then some (s.putO dst (.ptr d v (o + off))) else none
      | _ => none
    | .sp d v i o => match s.bx d with
      | ⟨u, .sl _ _⟩ => if u = v then some (s.putO dst (.sp d v i (o + off))) else none
      | _ => none
    | _ => none
  | .iaA len sz x i => match s.evc i with
    | some (.int _ n) => if 0 ≤ n ∧ n < (len : Int) then match s.ev x with
      | .rp cs => if n.toNat * sz ≤ cs.length then some (s.putO dst (.rp (cs.drop (n.toNat * sz)))) else none
      | .ptr d v o => match s.bx d with
        | ⟨u, .var _⟩ => if u = v then some (s.putO dst (.ptr d v (o + n.toNat * sz))) else none
        | ⟨u, .vp _⟩ => if u = v then some (s.putO dst (.ptr d v (o + n.toNat * sz))) else none
        | _ => none
      | .sp d v j o => match s.bx d with
        | ⟨u, .sl _ _⟩ => if u = v then some (s.putO dst (.sp d v j (o + n.toNat * sz))) else none
        | _ => none
      | _ => none
      else none
    | _ => none
  | .iaS sz x i => match s.evc i with
    | some (.int _ n) => match s.ev x with
      | .c (.sl es) => if 0 ≤ n ∧ n < (es.length : Int) then
          (if (es.getD n.toNat []).length = sz then some (s.putO dst (.rp (es.getD n.toNat []))) else none) else none
      | .osl d v _ len => match s.bx d with
        | ⟨u, .sl sz' _⟩ => if u = v ∧ sz' = sz ∧ 0 ≤ n ∧ n < (len : Int) then some (s.putO dst (.sp d v n.toNat 0)) else none
        | _ => none
      | _ => none
    | _ => none
  | .idA a len sz x i => match s.evc i, s.evc x with
    | some (.int _ n), some (.agg cs) => if 0 ≤ n ∧ n < (len : Int) ∧ len * sz ≤ cs.length then some (s.putO dst (.c (rdc a sz (cs.drop (n.toNat * sz))))) else none
    | _, _ => none
  | .idS x i => match s.evc i, s.evc x with
    | some (.int _ n), some (.str b) => if 0 ≤ n then match b[n.toNat]? with
      | some c => some (s.putO dst (.c (.int .u8 c.toNat)))
      | none => none
      else none
    | _, _ => none
  | .ext x j => match s.evc x with
    | some (.tup vs) => match vs[j]? with
      | some v => some (s.putO dst (.c v))
      | none => none
    | _ => none
  | .len x => match s.ev x with
    | .c (.sl es) => some (s.putO dst (.c (.int .i64 es.length)))
    | .osl d v _ len => match s.bx d with
      | ⟨u, .sl _ _⟩ => if u = v then some (s.putO dst (.c (.int .i64 len))) else none
      | _ => none
    | _ => none
  | .lenS x => match s.evc x with
    | some (.str b) => some (s.putO dst (.c (.int .i64 b.size)))
    | _ => none
  | .app sz x y own => match dst, s.ev x, s.evc y with
    | some e, .osl d ver off len, some (.sl ys) => match s.bx d with
      | ⟨v, .sl sz' es⟩ => if v = ver ∧ sz' = sz ∧ off = 0 ∧ len = es.length ∧ es.length + ys.length ≤ maxGrow ∧ ∀ e ∈ ys, e.length = sz then
          (if own then some (((s.box d ⟨v + 1, .dead⟩).box e ⟨(s.bx e).ver + 1, .sl sz (es ++ ys)⟩).put e (.osl e ((s.bx e).ver + 1) 0 (es ++ ys).length))
           else some ((s.box d ⟨v + 1, .dead⟩).put e (.c (.sl (es ++ ys))))) else none
      | _ => none
    | _, _, _ => none
  | .slc sz x lo hi => match s.ev x with
    | .c (.sl es) => match bound s 0 lo, bound s es.length hi with
      | some l, some h => if l ≤ h ∧ h ≤ es.length ∧ ∀ e ∈ es, e.length = sz then some (s.putO dst (.c (.sl ((es.take h).drop l)))) else none
      | _, _ => none
    | _ => none
  | .slS x lo hi => match s.evc x with
    | some (.str b) => match bound s 0 lo, bound s b.size hi with
      | some l, some h => if l ≤ h ∧ h ≤ b.size then some (s.putO dst (.c (.str (b.extract l h)))) else none
      | _, _ => none
    | _ => none
  | .slA _ _ _ _ _ => none
  | .nilc x => match s.ev x with
    | .ptr d v o => match s.bx d with
      | ⟨u, .var _⟩ => if u = v then some (s.putO dst (.ptr d v o)) else none
      | ⟨u, .vp _⟩ => if u = v then some (s.putO dst (.ptr d v o)) else none
      | _ => none
    | .rp cs => some (s.putO dst (.rp cs))
    | .sp d v i o => match s.bx d with
      | ⟨u, .sl _ _⟩ => if u = v then some (s.putO dst (.sp d v i o)) else none
      | _ => none
    | _ => none
  | .mki t x => match s.evc x with
    | some v => some (s.putO dst (.c (.iface t v)))
    | none => none
  | .mm mx x l => match s.evc x with
    | some (.int k a) => match foldMm s mx k a l with
      | some r => some (s.putO dst (.c (.int k r)))
      | none => none
    | _ => none
  | .xf g l => match evcs s l with
    | some cs => (xfC g cs).map fun v => s.putO dst (.c v)
    | none => none
  | .call _ _ _ => none
  | .mkf f l => match evrs s l with
    | some css => some (s.putO dst (.c (.clo f css)))
    | none => none
  | .callv _ _ => none
  | .mkm => match dst with
    | some d => some ((s.box d ⟨(s.bx d).ver + 1, .mp []⟩).put d (.mp d ((s.bx d).ver + 1)))
    | none => none
  | .mget ok sh z x k => match s.ev x, s.evc k with
    | .mp d ver, some kc => match s.bx d with
      | ⟨u, .mp es⟩ => if u = ver ∧ eqC true sh kc kc = some true then (match mfind sh kc es with
        | some r => (mres ok z r).map fun v => s.putO dst v
        | none => none) else none
      | _ => none
    | .c (.map es), some kc => if eqC true sh kc kc = some true then (match mfind sh kc es with
      | some r => (mres ok z (r.map .c)).map fun v => s.putO dst v
      | none => none) else none
    | _, _ => none
  | .mput sh x k v => match dst, s.ev x, s.evc k with
    | none, .mp d ver, some kc => match s.bx d with
      | ⟨u, .mp es⟩ => if u = ver ∧ eqC true sh kc kc = some true ∧ (s.ev v).mval = true then (match mset sh kc (s.ev v) es with
        | some es' => some (s.box d ⟨u, .mp es'⟩)
        | none => none) else none
      | _ => none
    | _, _, _ => none
inductive AV where
 | c (v:CV)
 | own (sz:Nat) (es:List (List CV))
 | io (cs:List CV)
 | rp (cs:List CV)
 | ios (sz:Nat) (es:List (List CV))
 deriving Inhabited
inductive RV where
 | c (v:CV)
 | own (sz:Nat) (es:List (List CV))
 deriving Inhabited
def PS.putR (s:PS) (dst:Option Nat):RV→PS
 | .c v=>s.putO dst (.c v)
 | .own sz es=>match dst with
  | some d=>(s.box d ⟨(s.bx d).ver + 1,.sl sz es⟩).put d (.osl d ((s.bx d).ver + 1) 0 es.length)
  | none=>s
inductive Ex where
 | n
 | x (id:Nat)
 | r
def Ex.th (N:PS→Prop) (K:Ex→PS→Prop):Ex→PS→Prop
 | .n,s=>N s
 | e,s=>K e s
def Ex.blk (id:Nat) (K:Ex→PS→Prop):Ex→PS→Prop
 | .x j,s=>if j=id then K .n s else K (.x j) s
 | e,s=>K e s
abbrev CallP:=FuncId→List AV→RV→List (List CV)→Prop
def wpCall (C:CallP) (m:Bool) (f:FuncId) (args:List PO) (dst:Option Nat) (s:PS) (K:PS→Prop):Prop :=
 match m,args with
 | false,args=>match evcs s args with
  | some cs=>∃ r,C f (cs.map .c) (.c r) []∧K (s.putO dst (.c r))
  | none=>False
 | true,x::l=>match s.ev x,evcs s l with
  | .osl d ver off len,some cs=>match s.bx d with
   | ⟨v,.sl sz es⟩=>(v=ver∧off=0∧len=es.length)∧((∃ r,(∀ a b,r=.own a b→dst.isSome=true)∧C f (.own sz es::cs.map .c) r []∧K ((s.box d ⟨v + 1,.dead⟩).putR dst r)) ∨
     ∃ r es',C f (.ios sz es::cs.map .c) (.c r) [[.sl es']]∧K ((s.box d ⟨v,.sl sz es'⟩).putO dst (.c r)))
   | _=>False
  | .ptr d ver off,some cs=>match s.bx d with
   | ⟨v,.var c0⟩=>(v=ver∧off=0)∧∃ r c1,C f (.io c0::cs.map .c) (.c r) [c1]∧K ((s.box d ⟨v,.var c1⟩).putO dst (.c r))
   | _=>False
  | .c v0,some cs=>∃ sz es,dst.isSome=true∧C f (.c v0::cs.map .c) (.own sz es) []∧K (s.putR dst (.own sz es))
  | _,_=>False
 | true,[]=>False
def wpCallV (C:CallP) (x:PO) (args:List PO) (dst:Option Nat) (s:PS) (K:PS→Prop):Prop :=
 match s.ev x,evcs s args with
 | .c (.fn (.func f) []),some cs=>∃ r,C f (cs.map .c) (.c r) []∧K (s.putO dst (.c r))
 | .c (.clo f caps),some cs=>∃ r,C f (cs.map .c++caps.map .rp) (.c r) []∧K (s.putO dst (.c r))
 | _,_=>False
def wpK (C:CallP) (o:POp) (s:PS) (K:PS→Prop):Prop :=
 match o.k with
 | .call m f args=>wpCall C m f args o.dst s K
 | .callv x args=>wpCallV C x args o.dst s K
 | k=>match pstep o.dst s k with
  | some s'=>K s'
  | none=>False
def wpG (C:CallP) (o:POp) (s:PS) (K:PS→Prop):Prop :=
 match o.g with
 | none=>wpK C o s K
 | some (g,want)=>match s.t g with
  | .c (.bool b)=>(b=want→wpK C o s K)∧(b≠want→K (s.putO o.dst .undef))
  | .undef=>K (s.putO o.dst .undef)
  | _=>False
def wpL (C:CallP):List POp→PS→(PS→Prop)→Prop
 | [],s,K=>K s
 | o::l,s,K=>wpG C o s fun s'=>wpL C l s' K
def key:PK→Option PO
 | .load _ _ x _ | .fad _ x | .len x | .nilc x | .iaA _ _ x _ | .iaS _ x _ | .store _ x _ _ | .app _ x _ _=>some x
 | .call true _ (x::_)=>some x
 | .mget _ _ _ x _ | .mput _ x _ _=>some x
 | _=>none
def refOf:PV→Option (Nat × Nat)
 | .ptr d v _=>some (d,v)
 | .osl d v _ _=>some (d,v)
 | .sp d v _ _=>some (d,v)
 | .mp d v=>some (d,v)
 | _=>none
def ref (k:PK) (s:PS):Option (Nat × Nat):=(key k).bind fun x=>refOf (s.ev x)
def clm (p:POp) (b:Option Nat) (s:PS):Prop:=∀ c,b=some c→∀ e ver,ref p.k s=some (e,ver)→e=c
def wpLB (C:CallP) (on:List (Nat × Nat)):Nat→List POp→PS→(PS→Prop)→Prop
 | _,[],s,K=>K s
 | k,o::l,s,K=>clm o (on.lookup k) s∧wpG C o s fun s'=>wpLB C on (k + 1) l s' K
def isNew:PK→Bool
 | .own0 _ | .alloc _ | .box _ _ | .mkm | .call true _ _=>true
 | .bsl _ _ _ _ own=>own
 | .app _ _ _ own=>own
 | _=>false
def newSites:List POp→List Nat
 | []=>[]
 | p::l=>match isNew p.k,p.dst with
  | true,some d=>d::newSites l
  | _,_=>newSites l
def PS.kills (s:PS):List Nat→PS
 | []=>s
 | d::l=>(s.box d ⟨(s.bx d).ver,.dead⟩).kills l
def PS.closeM (s:PS):List (CV × PV)→Option (List (CV × CV))
 | []=>some []
 | (k,v)::l=>match s.close v,s.closeM l with
  | some c,some cs=>some ((k,c)::cs)
  | _,_=>none
def oslBoxes:List (CV × PV)→List Nat
 | []=>[]
 | (_,.osl d _ _ _)::l=>d::oslBoxes l
 | _::l=>oslBoxes l
def LoopS (B:PS→(Ex→PS→Prop)→Prop) (s:PS) (K:Ex→PS→Prop):Prop :=
 ∀ X:PS→Prop,(∀ s,B s (Ex.th X K)→X s)→X s
def pwp (C:CallP):PCode→PS→(Ex→PS→Prop)→Prop
 | .skip,s,K=>K .n s
 | .ops dr l,s,K=>wpL C l (if dr then s.kills (newSites l) else s) (K .n)
 | .opsB l on,s,K=>wpLB C on 0 l (s.kills (newSites l)) (K .n)
 | .opsN l x d,s,K=>wpL C l s fun s'=>match s'.evc x with
  | some (.sl es)=>(es=[]→K .n (s'.put d (.c (.bool true))))∧K .n (s'.put d (.c (.bool false)))
  | _=>False
 | .seq a b,s,K=>pwp C a s (Ex.th (fun s'=>pwp C b s' K) K)
 | .cond x a b,s,K=>match s.ev x with
  | .c (.bool t)=>(t=true→pwp C a s K)∧(t=false→pwp C b s K)
  | _=>False
 | .block id a,s,K=>pwp C a s (Ex.blk id K)
 | .loop a,s,K=>LoopS (pwp C a) s K
 | .exit id,s,K=>K (.x id) s
 | .ret,s,K=>K .r s
 | .fz i a,s,K=>match s.t i with
  | .osl d ver off len=>match s.close (.osl d ver off len) with
   | some v=>pwp C a ((s.box d ⟨ver,.dead⟩).put i (.c v)) K
   | none=>False
  | .c _=>pwp C a s K
  | _=>False
 | .rn i e a,s,K=>match s.t i with
  | .osl d ver off len=>(d=e→pwp C a s K)∧(d≠e→match s.bx d with
   | ⟨v,.sl sz es⟩=>(v=ver∧off=0∧len=es.length)∧pwp C a (((s.box d ⟨v,.dead⟩).box e ⟨(s.bx e).ver + 1,.sl sz es⟩).put i (.osl e ((s.bx e).ver + 1) 0 len)) K
   | _=>False)
  | _=>False
 | .fzc i k a,s,K=>match s.t i with
  | .ptr d ver _=>match s.bx d with
   | ⟨v,.vp ps⟩=>v=ver∧match ps[k]? with
    | some (.osl e u off len)=>e≠d∧match s.close (.osl e u off len) with
     | some c=>pwp C a ((s.box e ⟨u,.dead⟩).box d ⟨v,.vp (ps.set k (.c c))⟩) K
     | none=>False
    | some (.c _)=>pwp C a s K
    | _=>False
   | ⟨v,.var _⟩=>v=ver∧pwp C a s K
   | _=>False
  | _=>False
 | .rnc i k e a,s,K=>match s.t i with
  | .ptr d ver _=>match s.bx d with
   | ⟨v,.vp ps⟩=>v=ver∧d≠e∧match ps[k]? with
    | some (.osl g u off len)=>(g=e→pwp C a s K)∧(g≠e→g≠d∧match s.bx g with
     | ⟨q,.sl sz es⟩=>(q=u∧off=0∧len=es.length)∧pwp C a (((s.box g ⟨q,.dead⟩).box e ⟨(s.bx e).ver + 1,.sl sz es⟩).box d ⟨v,.vp (ps.set k (.osl e ((s.bx e).ver + 1) 0 len))⟩) K
     | _=>False)
    | some (.c _)=>pwp C a s K
    | _=>False
   | ⟨v,.var _⟩=>v=ver∧pwp C a s K
   | _=>False
  | _=>False
 | .fzv i a,s,K=>match s.t i with
  | .ptr d ver off=>match s.bx d with
   | ⟨v,.var cs⟩=>(v=ver∧off=0)∧pwp C a ((s.box d ⟨v,.dead⟩).put i (.rp cs)) K
   | _=>False
  | .rp _=>pwp C a s K
  | _=>False
 | .fzm i a,s,K=>match s.t i with
  | .mp d ver=>match s.bx d with
   | ⟨v,.mp es⟩=>v=ver∧d ∉ oslBoxes es∧match s.closeM es with
    | some cs=>pwp C a (((s.kills (oslBoxes es)).box d ⟨v,.dead⟩).put i (.c (.map cs))) K
    | none=>False
   | _=>False
  | .c _=>pwp C a s K
  | _=>False
 | .zn i k sz e a,s,K=>match s.t i with
  | .ptr d ver _=>match s.bx d with
   | ⟨v,.var cs⟩=>(v=ver∧d≠e)∧match cs[k]? with
    | some .nils=>pwp C a ((s.box e ⟨(s.bx e).ver + 1,.sl sz []⟩).box d ⟨v,.vp ((cs.map PV.c).set k (.osl e ((s.bx e).ver + 1) 0 0))⟩) K
    | _=>False
   | _=>False
  | _=>False
 | .nvp i a,s,K=>match s.t i with
  | .ptr d ver _=>match s.bx d with
   | ⟨v,.vp ps⟩=>v=ver∧match closed? ps with
    | some cs=>pwp C a (s.box d ⟨v,.var cs⟩) K
    | none=>False
   | ⟨v,.var _⟩=>v=ver∧pwp C a s K
   | _=>False
  | _=>False
end Go.Pl
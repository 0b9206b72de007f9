/- Part of the proof of CellSpoilt: lemmas. -/
import Derived.Calls
import Derived.Below
set_option linter.unusedVariables false
set_option linter.unusedSimpArgs false
/-
  PLAIN STATES. A pure reading of Go code over values without memory: what a step of a function does to a plain state, as a computable function. That the model's run does the same is proved in the texts that follow. My own work.
-/
namespace Go.Pl
inductive CV where
  | int (k : IntKind) (n : Int)
  | bool (b : Bool)
  | str (s : ByteArray)
  | sl (es : List (List CV))
  | nilp
  | nili
  | nilf
  | iface (t : TypeId) (v : CV)
  | agg (cs : List CV)
  | tup (vs : List CV)
  | fn (f : Fn) (cap : List CV)
  | clo (f : FuncId) (c : CV)
  deriving Inhabited
def CV.one : CV → Bool
  | .agg _ | .tup _ => false
  | _ => true
def CV.cells : CV → List CV
  | .agg cs => cs
  | .tup _ => []
  | v => [v]
inductive PV where
  | c (v : CV)
  | ptr (d ver off : Nat)
  | rp (cs : List CV)
  | osl (d ver off len : Nat)
  | sp (d ver i off : Nat)
  | undef
  | junk
  deriving Inhabited
inductive BSt where
  | var (cs : List CV)
  | vp (cs : List PV)
  | sl (sz : Nat) (es : List (List CV))
  | dead
  deriving Inhabited
def BSt.isv : BSt → Bool
  | .var _ | .vp _ => true
  | _ => false
structure Box where
  ver : Nat
  st : BSt
  deriving Inhabited
structure PS where
  t : Nat → PV
  bx : Nat → Box
def PS.put (s : PS) (d : Nat) (v : PV) : PS := { s with t := fun i => if i = d then v else s.t i }
def PS.box (s : PS) (d : Nat) (b : Box) : PS := { s with bx := fun i => if i = d then b else s.bx i }
def PS.putO (s : PS) (d : Option Nat) (v : PV) : PS := match d with | some d => s.put d v | none => s
inductive PO where
  | t (i : Nat)
  | k (v : CV)
  deriving Inhabited
inductive LK where
  | i | b | s
  deriving DecidableEq
inductive XF where
  | adc | sbc
  deriving DecidableEq, Inhabited
inductive PK where
  | mv (x : PO)
  | pick (c a b : PO)
  | own0 (sz : Nat)
  | alloc (z : List CV)
  | box (n : Nat) (x : PO)
  | build (z : List CV) (ps : List (Nat × Nat × PO))
  | bsl (sz len : Nat) (zc : List CV) (ps : List (Nat × PO)) (own : Bool)
  | load (a : Bool) (n : Nat) (x : PO) (av : List Nat)
  | store (n : Nat) (a x : PO) (av : List Nat)
  | bin (op : BinOp) (x y : PO)
  | un (op : UnOp) (x : PO)
  | eqs (neq ag : Bool) (sh : List LK) (x y : PO)
  | conv (k : IntKind) (x : PO)
  | fld (a : Bool) (off n : Nat) (x : PO)
  | fad (off : Nat) (x : PO)
  | iaA (len sz : Nat) (x i : PO)
  | iaS (sz : Nat) (x i : PO)
  | idA (a : Bool) (len sz : Nat) (x i : PO)
  | idS (x i : PO)
  | ext (x : PO) (j : Nat)
  | len (x : PO)
  | lenS (x : PO)
  | app (sz : Nat) (x y : PO) (own : Bool)
  | slc (sz : Nat) (x : PO) (lo hi : Option PO)
  | slS (x : PO) (lo hi : Option PO)
  | slA (n sz : Nat) (x : PO) (lo hi : Option PO)
  | nilc (x : PO)
  | mki (t : TypeId) (x : PO)
  | mm (mx : Bool) (x : PO) (l : List PO)
  | xf (g : XF) (args : List PO)
  | call (m : Bool) (f : FuncId) (args : List PO)
  deriving Inhabited
structure POp where
  dst : Option Nat
  k : PK
  g : Option (Nat × Bool)
  deriving Inhabited
inductive PCode where
  | skip
  | ops (draw : Bool) (l : List POp)
  | seq (a b : PCode)
  | cond (x : PO) (a b : PCode)
  | block (id : Nat) (a : PCode)
  | loop (a : PCode)
  | exit (id : Nat)
  | ret
  | fz (i : Nat) (a : PCode)
  | rn (i e : Nat) (a : PCode)
  | fzc (i k : Nat) (a : PCode)
  | rnc (i k e : Nat) (a : PCode)
  | nvp (i : Nat) (a : PCode)
  | opsB (l : List POp) (on : List (Nat × Nat))
  deriving Inhabited
def PS.ev (s : PS) : PO → PV
  | .t i => s.t i
  | .k v => .c v
def rdc (a : Bool) (n : Nat) (cs : List CV) : CV := if a then .agg (cs.take n) else cs.headD default
def spl (cs : List CV) (off : Nat) (new : List CV) : List CV := cs.take off ++ (new ++ cs.drop (off + new.length))
def splP (cs : List PV) (off : Nat) (new : List PV) : List PV := cs.take off ++ (new ++ cs.drop (off + new.length))
def PV.refr : PV → Bool
  | .osl _ _ _ _ | .ptr _ _ _ => true
  | _ => false
def PV.one : PV → Bool
  | .c v => v.one
  | .osl _ _ _ _ | .ptr _ _ _ => true
  | _ => false
def closed? : List PV → Option (List CV)
  | [] => some []
  | .c v :: l => (closed? l).map (v :: ·)
  | _ :: _ => none
def loadP (f : Bool) (n off : Nat) (ps : List PV) : Option PV :=
  if f then (match closed? ((ps.drop off).take n) with
    | some cs => some (.c (.agg cs))
    | none => none) else some ((ps.drop off).headD .junk)
def fillC : List CV → List (Nat × Nat × CV) → Option (List CV)
  | z, [] => some z
  | z, (off, n, v) :: l => if v.cells.length = n ∧ off + n ≤ z.length then fillC (spl z off v.cells) l else none
def PS.close (s : PS) : PV → Option CV
  | .c v => some v
  | .osl d ver off len => match s.bx d with
    | ⟨v, .sl _ es⟩ => if v = ver ∧ off = 0 ∧ len = es.length then some (.sl es) else none
    | _ => none
  | _ => none
def PS.evc (s : PS) (x : PO) : Option CV := match s.ev x with | .c v => some v | _ => none
def partsC (s : PS) : List (Nat × Nat × PO) → Option (List (Nat × Nat × CV))
  | [] => some []
  | (o, n, x) :: l => match s.evc x with
    | some v => (partsC s l).map ((o, n, v) :: ·)
    | none => none
def fillS : List (List CV) → List (Nat × CV) → Option (List (List CV))
  | z, [] => some z
  | z, (i, v) :: l => match z[i]? with
    | some e => if v.cells.length = e.length then fillS (z.set i v.cells) l else none
    | none => none
def partsS (s : PS) : List (Nat × PO) → Option (List (Nat × CV))
  | [] => some []
  | (i, x) :: l => match s.evc x with
    | some v => (partsS s l).map ((i, v) :: ·)
    | none => none
def shEq : List LK → List CV → List CV → Option Bool
  | [], [], [] => some true
  | .i :: l, .int k a :: cs, .int k' b :: ds => if k = k' then (shEq l cs ds).map ((a == b) && ·) else none
  | .b :: l, .bool a :: cs, .bool b :: ds => (shEq l cs ds).map ((a == b) && ·)
  | .s :: l, .str a :: cs, .str b :: ds => (shEq l cs ds).map ((a.toList == b.toList) && ·)
  | _, _, _ => none
def eqC (ag : Bool) (sh : List LK) (u v : CV) : Option Bool :=
  match ag, u, v with
  | true, .agg cs, .agg ds => shEq sh cs ds
  | true, _, _ => none
  | false, u, v => shEq sh [u] [v]
def shl (k : IntKind) (a b : Int) : Option CV := if 0 ≤ b ∧ b.toNat ≤ k.bits then some (.int k (k.wrap (a * 2 ^ b.toNat))) else none
def shr (k : IntKind) (a b : Int) : Option CV := if 0 ≤ b ∧ b.toNat ≤ k.bits then some (.int k (a.fdiv (2 ^ b.toNat))) else none
def binC (op : BinOp) (x y : CV) : Option CV :=
  match op, x, y with
  | .shl, .int k a, .int _ b => shl k a b
  | .shr, .int k a, .int _ b => shr k a b
  | .add, .int k a, .int k' b => if k = k' then some (.int k (k.wrap (a + b))) else none
  | .sub, .int k a, .int k' b => if k = k' then some (.int k (k.wrap (a - b))) else none
  | .mul, .int k a, .int k' b => if k = k' then some (.int k (k.wrap (a * b))) else none
  | .quo, .int k a, .int k' b => if k = k' ∧ b ≠ 0 then some (.int k (k.wrap (a.tdiv b))) else none
  | .rem, .int k a, .int k' b => if k = k' ∧ b ≠ 0 then some (.int k (a.tmod b)) else none
  | .and, .int k a, .int k' b => if k = k' then some (.int k (k.wrap (BitVec.ofInt k.bits a &&& BitVec.ofInt k.bits b).toNat)) else none
  | .or, .int k a, .int k' b => if k = k' then some (.int k (k.wrap (BitVec.ofInt k.bits a ||| BitVec.ofInt k.bits b).toNat)) else none
  | .xor, .int k a, .int k' b => if k = k' then some (.int k (k.wrap (BitVec.ofInt k.bits a ^^^ BitVec.ofInt k.bits b).toNat)) else none
  | .lss, .int k a, .int k' b => if k = k' then some (.bool (decide (a < b))) else none
  | .leq, .int k a, .int k' b => if k = k' then some (.bool (decide (a ≤ b))) else none
  | .gtr, .int k a, .int k' b => if k = k' then some (.bool (decide (b < a))) else none
  | .geq, .int k a, .int k' b => if k = k' then some (.bool (decide (b ≤ a))) else none
  | .eql, .int k a, .int k' b => if k = k' then some (.bool (a == b)) else none
  | .neq, .int k a, .int k' b => if k = k' then some (.bool (!(a == b))) else none
  | .eql, .str a, .str b => some (.bool (a.toList == b.toList))
  | .neq, .str a, .str b => some (.bool (!(a.toList == b.toList)))
  | _, _, _ => none
def unC (op : UnOp) (x : CV) : Option CV :=
  match op, x with
  | .not, .bool b => some (.bool (!b))
  | .neg, .int k a => some (.int k (k.wrap (0 - a)))
  | _, _ => none
def bound (s : PS) (dflt : Nat) : Option PO → Option Nat
  | none => some dflt
  | some x => match s.evc x with
    | some (.int _ n) => if 0 ≤ n then some n.toNat else none
    | _ => none
def foldMm (s : PS) (mx : Bool) (k : IntKind) (a : Int) : List PO → Option Int
  | [] => some a
  | x :: l => match s.evc x with
    | some (.int k' b) => if k = k' then foldMm s mx k (if mx then (if b > a then b else a) else (if b < a then b else a)) l else none
    | _ => none
def maxGrow : Nat := 4294967296
def m64 : Int := 18446744073709551616
def xfC : XF → List CV → Option CV
  | .adc, [.int .u64 x, .int .u64 y, .int .u64 c] => if 0 ≤ x ∧ 0 ≤ y ∧ 0 ≤ c ∧ c ≤ 1 then some (.tup [.int .u64 ((x + y + c) % m64), .int .u64 ((x + y + c) / m64)]) else none
  | .sbc, [.int .u64 x, .int .u64 y, .int .u64 c] => if 0 ≤ x ∧ 0 ≤ y ∧ y < m64 ∧ 0 ≤ c ∧ c ≤ 1 then some (.tup [.int .u64 ((x - y - c) % m64), .int .u64 (if x < y + c then 1 else 0)]) else none
  | _, _ => none
def evcs (s : PS) : List PO → Option (List CV)
  | [] => some []
  | x :: l => match s.evc x, evcs s l with
    | some v, some vs => some (v :: vs)
    | _, _ => none
def pstep (dst : Option Nat) (s : PS) : PK → Option PS
  | .mv x => some (s.putO dst (s.ev x))
  | .pick c a b => match s.ev c with
    | .c (.bool t) => some (s.putO dst (if t then s.ev a else s.ev b))
    | _ => none
  | .own0 sz => match dst with
    | some d => some ((s.box d ⟨(s.bx d).ver + 1, .sl sz []⟩).put d (.osl d ((s.bx d).ver + 1) 0 0))
    | none => none
  | .alloc z => match dst with
    | some d => some ((s.box d ⟨(s.bx d).ver + 1, .var z⟩).put d (.ptr d ((s.bx d).ver + 1) 0))
    | none => none
  | .box n x => match dst, s.evc x with
    | some d, some v => if v.cells.length = n then some ((s.box d ⟨(s.bx d).ver + 1, .var v.cells⟩).put d (.ptr d ((s.bx d).ver + 1) 0)) else none
    | _, _ => none
  | .build z ps => match partsC s ps with
    | some l => (fillC z l).map fun cs => s.putO dst (.c (.agg cs))
    | none => none
  | .bsl sz len zc ps own => match partsS s ps with
    | some l => match fillS (List.replicate len zc) l, own, dst with
      | some es, false, _ => some (s.putO dst (.c (.sl es)))
      | some es, true, some d => some ((s.box d ⟨(s.bx d).ver + 1, .sl sz es⟩).put d (.osl d ((s.bx d).ver + 1) 0 es.length))
      | _, _, _ => none
    | none => none
  | .load a n x av => match s.ev x with
    | .rp cs => if n ≤ cs.length then some (s.putO dst (.c (rdc a n cs))) else none
    | .ptr d ver off => if d ∈ av then none else match s.bx d with
      | ⟨v, .var cs⟩ => if v = ver ∧ off + n ≤ cs.length then some (s.putO dst (.c (rdc a n (cs.drop off)))) else none
      | ⟨v, .vp ps⟩ => if v = ver ∧ off + n ≤ ps.length then (match loadP a n off ps with
        | some pv => some (s.putO dst pv)
        | none => none) else none
      | _ => none
    | .sp d ver i off => if d ∈ av then none else match s.bx d with
      | ⟨v, .sl _ es⟩ => match es[i]? with
        | some e => if v = ver ∧ off + n ≤ e.length then some (s.putO dst (.c (rdc a n (e.drop off)))) else none
        | none => none
      | _ => none
    | _ => none
  | .store n a x av => match s.ev a, s.evc x with
    | .ptr d ver off, some v => if d ∈ av then none else match s.bx d with
      | ⟨u, .var cs⟩ => if u = ver ∧ v.cells.length = n ∧ off + n ≤ cs.length then some (s.box d ⟨u, .var (spl cs off v.cells)⟩) else none
      | ⟨u, .vp ps⟩ => if u = ver ∧ v.cells.length = n ∧ off + n ≤ ps.length then some (s.box d ⟨u, .vp (splP ps off (v.cells.map .c))⟩) else none
      | _ => none
    | .ptr d ver off, none => if d ∈ av then none else if (s.ev x).refr = true ∧ n = 1 then (match s.bx d with
      | ⟨u, .var cs⟩ => if u = ver ∧ off + n ≤ cs.length then some (s.box d ⟨u, .vp (splP (cs.map .c) off [s.ev x])⟩) else none
      | ⟨u, .vp ps⟩ => if u = ver ∧ off + n ≤ ps.length then some (s.box d ⟨u, .vp (splP ps off [s.ev x])⟩) else none
      | _ => none) else none
    | .sp d ver i off, some v => if d ∈ av then none else match s.bx d with
      | ⟨u, .sl sz es⟩ => match es[i]? with
        | some e => if u = ver ∧ v.cells.length = n ∧ off + n ≤ e.length then some (s.box d ⟨u, .sl sz (es.set i (spl e off v.cells))⟩) else none
        | none => none
      | _ => none
    | _, _ => none
  | .bin op x y => match s.evc x, s.evc y with
    | some a, some b => (binC op a b).map fun v => s.putO dst (.c v)
    | _, _ => none
  | .eqs neq ag sh x y => match s.evc x, s.evc y with
    | some a, some b => (eqC ag sh a b).map fun r => s.putO dst (.c (.bool (if neq then !r else r)))
    | _, _ => none
  | .un op x => match s.evc x with
    | some a => (unC op a).map fun v => s.putO dst (.c v)
    | none => none
  | .conv k x => match s.evc x with
    | some (.int _ n) => some (s.putO dst (.c (.int k (k.wrap n))))
    | _ => none
  | .fld a off n x => match s.evc x with
    | some (.agg cs) => if off + n ≤ cs.length then some (s.putO dst (.c (rdc a n (cs.drop off)))) else none
    | _ => none
  | .fad off x => match s.ev x with
    | .rp cs => if off ≤ cs.length then some (s.putO dst (.rp (cs.drop off))) else none
    | .ptr d v o => match s.bx d with
      | ⟨u, .var _⟩ => if u = v then some (s.putO dst (.ptr d v (o + off))) else none
      | ⟨u, .vp _⟩ => if u = v then some (s.putO dst (.ptr d v (o + off))) else none
      | _ => none
    | .sp d v i o => match s.bx d with
      | ⟨u, .sl _ _⟩ => if u = v then some (s.putO dst (.sp d v i (o + off))) else none
      | _ => none
    | _ => none
  | .iaA len sz x i => match s.evc i with
    | some (.int _ n) => if 0 ≤ n ∧ n < (len : Int) then match s.ev x with
      | .rp cs => if n.toNat * sz ≤ cs.length then some (s.putO dst (.rp (cs.drop (n.toNat * sz)))) else none
      | .ptr d v o => match s.bx d with
        | ⟨u, .var _⟩ => if u = v then some (s.putO dst (.ptr d v (o + n.toNat * sz))) else none
        | ⟨u, .vp _⟩ => if u = v then some (s.putO dst (.ptr d v (o + n.toNat * sz))) else none
        | _ => none
      | .sp d v j o => match s.bx d with
        | ⟨u, .sl _ _⟩ => if u = v then some (s.putO dst (.sp d v j (o + n.toNat * sz))) else none
        | _ => none
      | _ => none
      else none
    | _ => none
  | .iaS sz x i => match s.evc i with
    | some (.int _ n) => match s.ev x with
      | .c (.sl es) => if 0 ≤ n ∧ n < (es.length : Int) then
          (if (es.getD n.toNat []).length = sz then some (s.putO dst (.rp (es.getD n.toNat []))) else none) else none
      | .osl d v _ len => match s.bx d with
        | ⟨u, .sl sz' _⟩ => if u = v ∧ sz' = sz ∧ 0 ≤ n ∧ n < (len : Int) then some (s.putO dst (.sp d v n.toNat 0)) else none
        | _ => none
      | _ => none
    | _ => none
  | .idA a len sz x i => match s.evc i, s.evc x with
    | some (.int _ n), some (.agg cs) => if 0 ≤ n ∧ n < (len : Int) ∧ len * sz ≤ cs.length then some (s.putO dst (.c (rdc a sz (cs.drop (n.toNat * sz))))) else none
    | _, _ => none
  | .idS x i => match s.evc i, s.evc x with
    | some (.int _ n), some (.str b) => if 0 ≤ n then match b[n.toNat]? with
      | some c => some (s.putO dst (.c (.int .u8 c.toNat)))
      | none => none
      else none
    | _, _ => none
  | .ext x j => match s.evc x with
    | some (.tup vs) => match vs[j]? with
      | some v => some (s.putO dst (.c v))
      | none => none
    | _ => none
  | .len x => match s.ev x with
    | .c (.sl es) => some (s.putO dst (.c (.int .i64 es.length)))
    | .osl d v _ len => match s.bx d with
      | ⟨u, .sl _ _⟩ => if u = v then some (s.putO dst (.c (.int .i64 len))) else none
      | _ => none
    | _ => none
  | .lenS x => match s.evc x with
    | some (.str b) => some (s.putO dst (.c (.int .i64 b.size)))
    | _ => none
  | .app sz x y own => match dst, s.ev x, s.evc y with
    | some e, .osl d ver off len, some (.sl ys) => match s.bx d with
      | ⟨v, .sl sz' es⟩ => if v = ver ∧ sz' = sz ∧ off = 0 ∧ len = es.length ∧ es.length + ys.length ≤ maxGrow ∧ ∀ e ∈ ys, e.length = sz then
          (if own then some (((s.box d ⟨v + 1, .dead⟩).box e ⟨(s.bx e).ver + 1, .sl sz (es ++ ys)⟩).put e (.osl e ((s.bx e).ver + 1) 0 (es ++ ys).length))
           else some ((s.box d ⟨v + 1, .dead⟩).put e (.c (.sl (es ++ ys))))) else none
      | _ => none
    | _, _, _ => none
  | .slc sz x lo hi => match s.ev x with
    | .c (.sl es) => match bound s 0 lo, bound s es.length hi with
      | some l, some h => if l ≤ h ∧ h ≤ es.length ∧ ∀ e ∈ es, e.length = sz then some (s.putO dst (.c (.sl ((es.take h).drop l)))) else none
      | _, _ => none
    | _ => none
  | .slS x lo hi => match s.evc x with
    | some (.str b) => match bound s 0 lo, bound s b.size hi with
      | some l, some h => if l ≤ h ∧ h ≤ b.size then some (s.putO dst (.c (.str (b.extract l h)))) else none
      | _, _ => none
    | _ => none
  | .slA _ _ _ _ _ => none
  | .nilc x => match s.ev x with
    | .ptr d v o => match s.bx d with
      | ⟨u, .var _⟩ => if u = v then some (s.putO dst (.ptr d v o)) else none
      | ⟨u, .vp _⟩ => if u = v then some (s.putO dst (.ptr d v o)) else none
      | _ => none
    | .rp cs => some (s.putO dst (.rp cs))
    | .sp d v i o => match s.bx d with
      | ⟨u, .sl _ _⟩ => if u = v then some (s.putO dst (.sp d v i o)) else none
      | _ => none
    | _ => none
  | .mki t x => match s.evc x with
    | some v => some (s.putO dst (.c (.iface t v)))
    | none => none
  | .mm mx x l => match s.evc x with
    | some (.int k a) => match foldMm s mx k a l with
      | some r => some (s.putO dst (.c (.int k r)))
      | none => none
    | _ => none
  | .xf g l => match evcs s l with
    | some cs => (xfC g cs).map fun v => s.putO dst (.c v)
    | none => none
  | .call _ _ _ => none
inductive AV where
  | c (v : CV)
  | own (sz : Nat) (es : List (List CV))
  | io (cs : List CV)
  deriving Inhabited
inductive RV where
  | c (v : CV)
  | own (sz : Nat) (es : List (List CV))
  deriving Inhabited
def PS.putR (s : PS) (dst : Option Nat) : RV → PS
  | .c v => s.putO dst (.c v)
  | .own sz es => match dst with
    | some d => (s.box d ⟨(s.bx d).ver + 1, .sl sz es⟩).put d (.osl d ((s.bx d).ver + 1) 0 es.length)
    | none => s
inductive Ex where
  | n
  | x (id : Nat)
  | r
def Ex.th (N : PS → Prop) (K : Ex → PS → Prop) : Ex → PS → Prop
  | .n, s => N s
  | e, s => K e s
def Ex.blk (id : Nat) (K : Ex → PS → Prop) : Ex → PS → Prop
  | .x j, s => if j = id then K .n s else K (.x j) s
  | e, s => K e s
abbrev CallP := FuncId → List AV → RV → List (List CV) → Prop
def wpCall (C : CallP) (m : Bool) (f : FuncId) (args : List PO) (dst : Option Nat) (s : PS) (K : PS → Prop) : Prop :=
  match m, args with
  | false, args => match evcs s args with
    | some cs => ∃ r, C f (cs.map .c) (.c r) [] ∧ K (s.putO dst (.c r))
    | none => False
  | true, x :: l => match s.ev x, evcs s l with
    | .osl d ver off len, some cs => match s.bx d with
      | ⟨v, .sl sz es⟩ => (v = ver ∧ off = 0 ∧ len = es.length) ∧ ∃ r, (∀ a b, r = .own a b → dst.isSome = true) ∧ C f (.own sz es :: cs.map .c) r [] ∧ K ((s.box d ⟨v + 1, .dead⟩).putR dst r)
      | _ => False
    | .ptr d ver off, some cs => match s.bx d with
      | ⟨v, .var c0⟩ => (v = ver ∧ off = 0) ∧ ∃ r c1, C f (.io c0 :: cs.map .c) (.c r) [c1] ∧ K ((s.box d ⟨v, .var c1⟩).putO dst (.c r))
      | _ => False
    | _, _ => False
  | true, [] => False
def wpK (C : CallP) (o : POp) (s : PS) (K : PS → Prop) : Prop :=
  match o.k with
  | .call m f args => wpCall C m f args o.dst s K
  | k => match pstep o.dst s k with
    | some s' => K s'
    | none => False
def wpG (C : CallP) (o : POp) (s : PS) (K : PS → Prop) : Prop :=
  match o.g with
  | none => wpK C o s K
  | some (g, want) => match s.t g with
    | .c (.bool b) => (b = want → wpK C o s K) ∧ (b ≠ want → K (s.putO o.dst .undef))
    | .undef => K (s.putO o.dst .undef)
    | _ => False
def wpL (C : CallP) : List POp → PS → (PS → Prop) → Prop
  | [], s, K => K s
  | o :: l, s, K => wpG C o s fun s' => wpL C l s' K
def key : PK → Option PO
  | .load _ _ x _ | .fad _ x | .len x | .nilc x | .iaA _ _ x _ | .iaS _ x _ | .store _ x _ _ | .app _ x _ _ => some x
  | .call true _ (x :: _) => some x
  | _ => none
def refOf : PV → Option (Nat × Nat)
  | .ptr d v _ => some (d, v)
  | .osl d v _ _ => some (d, v)
  | .sp d v _ _ => some (d, v)
  | _ => none
def ref (k : PK) (s : PS) : Option (Nat × Nat) := (key k).bind fun x => refOf (s.ev x)
def clm (p : POp) (b : Option Nat) (s : PS) : Prop := ∀ c, b = some c → ∀ e ver, ref p.k s = some (e, ver) → e = c
def wpLB (C : CallP) (on : List (Nat × Nat)) : Nat → List POp → PS → (PS → Prop) → Prop
  | _, [], s, K => K s
  | k, o :: l, s, K => clm o (on.lookup k) s ∧ wpG C o s fun s' => wpLB C on (k + 1) l s' K
def isNew : PK → Bool
  | .own0 _ | .alloc _ | .box _ _ | .call true _ _ => true
  | .bsl _ _ _ _ own => own
  | .app _ _ _ own => own
  | _ => false
def newSites : List POp → List Nat
  | [] => []
  | p :: l => match isNew p.k, p.dst with
    | true, some d => d :: newSites l
    | _, _ => newSites l
def PS.kills (s : PS) : List Nat → PS
  | [] => s
  | d :: l => (s.box d ⟨(s.bx d).ver, .dead⟩).kills l
def LoopS (B : PS → (Ex → PS → Prop) → Prop) (s : PS) (K : Ex → PS → Prop) : Prop :=
  ∀ X : PS → Prop, (∀ s, B s (Ex.th X K) → X s) → X s
def pwp (C : CallP) : PCode → PS → (Ex → PS → Prop) → Prop
  | .skip, s, K => K .n s
  | .ops dr l, s, K => wpL C l (if dr then s.kills (newSites l) else s) (K .n)
  | .opsB l on, s, K => wpLB C on 0 l (s.kills (newSites l)) (K .n)
  | .seq a b, s, K => pwp C a s (Ex.th (fun s' => pwp C b s' K) K)
  | .cond x a b, s, K => match s.ev x with
    | .c (.bool t) => (t = true → pwp C a s K) ∧ (t = false → pwp C b s K)
    | _ => False
  | .block id a, s, K => pwp C a s (Ex.blk id K)
  | .loop a, s, K => LoopS (pwp C a) s K
  | .exit id, s, K => K (.x id) s
  | .ret, s, K => K .r s
  | .fz i a, s, K => match s.t i with
    | .osl d ver off len => match s.close (.osl d ver off len) with
      | some v => pwp C a ((s.box d ⟨ver, .dead⟩).put i (.c v)) K
      | none => False
    | .c _ => pwp C a s K
    | _ => False
  | .rn i e a, s, K => match s.t i with
    | .osl d ver off len => (d = e → pwp C a s K) ∧ (d ≠ e → match s.bx d with
      | ⟨v, .sl sz es⟩ => (v = ver ∧ off = 0 ∧ len = es.length) ∧ pwp C a (((s.box d ⟨v, .dead⟩).box e ⟨(s.bx e).ver + 1, .sl sz es⟩).put i (.osl e ((s.bx e).ver + 1) 0 len)) K
      | _ => False)
    | _ => False
  | .fzc i k a, s, K => match s.t i with
    | .ptr d ver _ => match s.bx d with
      | ⟨v, .vp ps⟩ => v = ver ∧ match ps[k]? with
        | some (.osl e u off len) => e ≠ d ∧ match s.close (.osl e u off len) with
          | some c => pwp C a ((s.box e ⟨u, .dead⟩).box d ⟨v, .vp (ps.set k (.c c))⟩) K
          | none => False
        | some (.c _) => pwp C a s K
        | _ => False
      | ⟨v, .var _⟩ => v = ver ∧ pwp C a s K
      | _ => False
    | _ => False
  | .rnc i k e a, s, K => match s.t i with
    | .ptr d ver _ => match s.bx d with
      | ⟨v, .vp ps⟩ => v = ver ∧ d ≠ e ∧ match ps[k]? with
        | some (.osl g u off len) => (g = e → pwp C a s K) ∧ (g ≠ e → g ≠ d ∧ match s.bx g with
          | ⟨q, .sl sz es⟩ => (q = u ∧ off = 0 ∧ len = es.length) ∧ pwp C a (((s.box g ⟨q, .dead⟩).box e ⟨(s.bx e).ver + 1, .sl sz es⟩).box d ⟨v, .vp (ps.set k (.osl e ((s.bx e).ver + 1) 0 len))⟩) K
          | _ => False)
        | some (.c _) => pwp C a s K
        | _ => False
      | ⟨v, .var _⟩ => v = ver ∧ pwp C a s K
      | _ => False
    | _ => False
  | .nvp i a, s, K => match s.t i with
    | .ptr d ver _ => match s.bx d with
      | ⟨v, .vp ps⟩ => v = ver ∧ match closed? ps with
        | some cs => pwp C a (s.box d ⟨v, .var cs⟩) K
        | none => False
      | ⟨v, .var _⟩ => v = ver ∧ pwp C a s K
      | _ => False
    | _ => False
end Go.Pl
/-
  THE WALK OF A PLAIN CODE, step by step: one lemma for each form of an operation; each is a reading of 'wpL' and 'pwp'. My own work.
-/
namespace Go.Pl
set_option linter.unusedSimpArgs false
def wL (C : CallP) (l : List POp) (s : PS) (K : PS → Prop) : Prop := wpL C l s K
def wP (C : CallP) (p : PCode) (s : PS) (K : Ex → PS → Prop) : Prop := pwp C p s K
def wLB (C : CallP) (on : List (Nat × Nat)) (k : Nat) (l : List POp) (s : PS) (K : PS → Prop) : Prop := wpLB C on k l s K
def xL (C : CallP) (on : List (Nat × Nat)) (k : Nat) (l : List POp) (K : PS → Prop) : PS → Prop := fun s => wpLB C on k l s K
def xT (N : PS → Prop) (K : Ex → PS → Prop) : Ex → PS → Prop := Ex.th N K
def xB (id : Nat) (K : Ex → PS → Prop) : Ex → PS → Prop := Ex.blk id K
section
variable {C : CallP} {l : List POp} {s : PS} {K : PS → Prop} {d : Nat} {x y z : PO} {k : IntKind} {a b n m : Int}
theorem st_nil (h : K s) : wL C [] s K := h
theorem mv_c {v : CV} (hx : s.ev x = .c v) (h : wL C l (s.put d (.c v)) K) : wL C (⟨some d, .mv x, none⟩ :: l) s K := by
  simp only [wL, wpL, wpG, wpK, pstep, PS.putO, hx]; exact h
theorem mv_ptr {e v o : Nat} (hx : s.ev x = .ptr e v o) (h : wL C l (s.put d (.ptr e v o)) K) : wL C (⟨some d, .mv x, none⟩ :: l) s K := by
  simp only [wL, wpL, wpG, wpK, pstep, PS.putO, hx]; exact h
theorem mv_osl {e v o n : Nat} (hx : s.ev x = .osl e v o n) (h : wL C l (s.put d (.osl e v o n)) K) : wL C (⟨some d, .mv x, none⟩ :: l) s K := by
  simp only [wL, wpL, wpG, wpK, pstep, PS.putO, hx]; exact h
theorem pick_t {v : CV} (hx : s.ev x = .c (.bool true)) (hy : s.ev y = .c v) (h : wL C l (s.put d (.c v)) K) : wL C (⟨some d, .pick x y z, none⟩ :: l) s K := by
  simp only [wL, wpL, wpG, wpK, pstep, PS.putO, hx, hy, if_true]; exact h
theorem pick_f {v : CV} (hx : s.ev x = .c (.bool false)) (hy : s.ev z = .c v) (h : wL C l (s.put d (.c v)) K) : wL C (⟨some d, .pick x y z, none⟩ :: l) s K := by
  simp only [wL, wpL, wpG, wpK, pstep, PS.putO, hx, hy, if_false, Bool.false_eq_true]; exact h
theorem g_yes {g : Nat} {w : Bool} {o : Option Nat} {q : PK} (hg : s.t g = .c (.bool w)) (h : wL C (⟨o, q, none⟩ :: l) s K) : wL C (⟨o, q, some (g, w)⟩ :: l) s K := by
  simp only [wL, wpL, wpG, hg] at *; exact ⟨fun _ => h, fun h => absurd rfl h⟩
theorem g_no {g : Nat} {w : Bool} {q : PK} (hg : s.t g = .c (.bool (!w))) (h : wL C l (s.put d .undef) K) : wL C (⟨some d, q, some (g, w)⟩ :: l) s K := by
  simp only [wL, wpL, wpG, hg, PS.putO] at *; exact ⟨fun h => by cases w <;> simp at h, fun _ => h⟩
theorem g_un {g : Nat} {w : Bool} {q : PK} (hg : s.t g = .undef) (h : wL C l (s.put d .undef) K) : wL C (⟨some d, q, some (g, w)⟩ :: l) s K := by
  simp only [wL, wpL, wpG, hg, PS.putO] at *; exact h
theorem put_same {s : PS} {g : Nat} {v : PV} (h : s.t g = v) : s.put g v = s := by
  cases s; simp only [PS.put, PS.mk.injEq, and_true]; funext i; split
  · rename_i e; subst e; exact h.symm
  · rfl
theorem g_split {g : Nat} {b w : Bool} {o : Option Nat} {q : PK} (hg : s.t g = .c (.bool b))
    (h1 : b = true → wL C (⟨o, q, some (g, w)⟩ :: l) (s.put g (.c (.bool true))) K)
    (h0 : b = false → wL C (⟨o, q, some (g, w)⟩ :: l) (s.put g (.c (.bool false))) K) : wL C (⟨o, q, some (g, w)⟩ :: l) s K := by
  cases b with
  | true => rw [put_same hg] at h1; exact h1 rfl
  | false => rw [put_same hg] at h0; exact h0 rfl
theorem own0_ {sz : Nat} (h : ∀ w, wL C l ((s.box d ⟨w, .sl sz []⟩).put d (.osl d w 0 0)) K) : wL C (⟨some d, .own0 sz, none⟩ :: l) s K := by
  simp only [wL, wpL, wpG, wpK, pstep]; exact h _
theorem alloc_ {cs : List CV} (h : ∀ w, wL C l ((s.box d ⟨w, .var cs⟩).put d (.ptr d w 0)) K) : wL C (⟨some d, .alloc cs, none⟩ :: l) s K := by
  simp only [wL, wpL, wpG, wpK, pstep]; exact h _
theorem box_ {v : CV} {cs : List CV} {n : Nat} (hx : s.ev x = .c v) (hc : v.cells = cs) (hn : cs.length = n)
    (h : ∀ w, wL C l ((s.box d ⟨w, .var cs⟩).put d (.ptr d w 0)) K) : wL C (⟨some d, .box n x, none⟩ :: l) s K := by
  subst hc; simp only [wL, wpL, wpG, wpK, pstep, PS.evc, hx, hn, if_true]; exact h _
theorem build_ {zs cs : List CV} {ps : List (Nat × Nat × PO)} {vs : List (Nat × Nat × CV)} (hp : partsC s ps = some vs) (hf : fillC zs vs = some cs)
    (h : wL C l (s.put d (.c (.agg cs))) K) : wL C (⟨some d, .build zs ps, none⟩ :: l) s K := by
  simp only [wL, wpL, wpG, wpK, pstep, hp, hf, Option.map_some, PS.putO]; exact h
theorem bsl_ {sz len : Nat} {zc : List CV} {es : List (List CV)} {ps : List (Nat × PO)} {vs : List (Nat × CV)} (hp : partsS s ps = some vs) (hf : fillS (List.replicate len zc) vs = some es)
    (h : wL C l (s.put d (.c (.sl es))) K) : wL C (⟨some d, .bsl sz len zc ps false, none⟩ :: l) s K := by
  simp only [wL, wpL, wpG, wpK, pstep, hp, hf, PS.putO]; exact h
theorem bsl_own {sz len n : Nat} {zc : List CV} {es : List (List CV)} {ps : List (Nat × PO)} {vs : List (Nat × CV)} (hp : partsS s ps = some vs) (hf : fillS (List.replicate len zc) vs = some es) (hn : es.length = n)
    (h : ∀ w, wL C l ((s.box d ⟨w, .sl sz es⟩).put d (.osl d w 0 n)) K) : wL C (⟨some d, .bsl sz len zc ps true, none⟩ :: l) s K := by
  subst hn; simp only [wL, wpL, wpG, wpK, pstep, hp, hf]; exact h _
theorem load_rp {f : Bool} {n : Nat} {cs : List CV} {v : CV} {av : List Nat} (hx : s.ev x = .rp cs) (hn : n ≤ cs.length) (hv : rdc f n cs = v)
    (h : wL C l (s.put d (.c v)) K) : wL C (⟨some d, .load f n x av, none⟩ :: l) s K := by
  subst hv; simp only [wL, wpL, wpG, wpK, pstep, hx, if_pos hn, PS.putO]; exact h
theorem load_ptr {f : Bool} {n e w o : Nat} {cs : List CV} {v : CV} {av : List Nat} (hx : s.ev x = .ptr e w o) (ha : e ∉ av) (hb : s.bx e = ⟨w, .var cs⟩) (hn : o + n ≤ cs.length)
    (hv : rdc f n (cs.drop o) = v) (h : wL C l (s.put d (.c v)) K) : wL C (⟨some d, .load f n x av, none⟩ :: l) s K := by
  subst hv; simp only [wL, wpL, wpG, wpK, pstep, hx, hb, if_neg ha, if_pos hn, true_and, PS.putO]; exact h
theorem load_sp {f : Bool} {n e w i o sz : Nat} {es : List (List CV)} {cs : List CV} {v : CV} {av : List Nat} (hx : s.ev x = .sp e w i o) (ha : e ∉ av) (hb : s.bx e = ⟨w, .sl sz es⟩)
    (he : es[i]? = some cs) (hn : o + n ≤ cs.length) (hv : rdc f n (cs.drop o) = v) (h : wL C l (s.put d (.c v)) K) : wL C (⟨some d, .load f n x av, none⟩ :: l) s K := by
  subst hv; simp only [wL, wpL, wpG, wpK, pstep, hx, hb, he, if_neg ha, if_pos hn, true_and, PS.putO]; exact h
theorem store_ptr {n e w o : Nat} {cs new : List CV} {v : CV} {av : List Nat} (hx : s.ev x = .ptr e w o) (hy : s.ev y = .c v) (ha : e ∉ av) (hb : s.bx e = ⟨w, .var cs⟩)
    (hl : v.cells.length = n) (hn : o + n ≤ cs.length) (hv : spl cs o v.cells = new) (h : wL C l (s.box e ⟨w, .var new⟩) K) : wL C (⟨none, .store n x y av, none⟩ :: l) s K := by
  subst hv; simp only [wL, wpL, wpG, wpK, pstep, PS.evc, hx, hy, hb, if_neg ha, hl, if_pos hn, true_and]; exact h
theorem store_sp {n e w i o sz : Nat} {es new : List (List CV)} {cs : List CV} {v : CV} {av : List Nat} (hx : s.ev x = .sp e w i o) (hy : s.ev y = .c v) (ha : e ∉ av) (hb : s.bx e = ⟨w, .sl sz es⟩)
    (he : es[i]? = some cs) (hl : v.cells.length = n) (hn : o + n ≤ cs.length) (hv : es.set i (spl cs o v.cells) = new) (h : wL C l (s.box e ⟨w, .sl sz new⟩) K) : wL C (⟨none, .store n x y av, none⟩ :: l) s K := by
  subst hv; simp only [wL, wpL, wpG, wpK, pstep, PS.evc, hx, hy, hb, he, if_neg ha, hl, if_pos hn, true_and]; exact h
theorem bin_ {op : BinOp} {u v w : CV} (hx : s.ev x = .c u) (hy : s.ev y = .c v) (hv : binC op u v = some w) (h : wL C l (s.put d (.c w)) K) : wL C (⟨some d, .bin op x y, none⟩ :: l) s K := by
  simp only [wL, wpL, wpG, wpK, pstep, PS.evc, hx, hy, hv, Option.map_some, PS.putO]; exact h
theorem lss_ (hx : s.ev x = .c (.int k a)) (hy : s.ev y = .c (.int k b)) (h : wL C l (s.put d (.c (.bool (decide (a < b))))) K) : wL C (⟨some d, .bin .lss x y, none⟩ :: l) s K :=
  bin_ hx hy (by simp [binC]) h
theorem leq_ (hx : s.ev x = .c (.int k a)) (hy : s.ev y = .c (.int k b)) (h : wL C l (s.put d (.c (.bool (decide (a ≤ b))))) K) : wL C (⟨some d, .bin .leq x y, none⟩ :: l) s K :=
  bin_ hx hy (by simp [binC]) h
theorem gtr_ (hx : s.ev x = .c (.int k a)) (hy : s.ev y = .c (.int k b)) (h : wL C l (s.put d (.c (.bool (decide (b < a))))) K) : wL C (⟨some d, .bin .gtr x y, none⟩ :: l) s K :=
  bin_ hx hy (by simp [binC]) h
theorem geq_ (hx : s.ev x = .c (.int k a)) (hy : s.ev y = .c (.int k b)) (h : wL C l (s.put d (.c (.bool (decide (b ≤ a))))) K) : wL C (⟨some d, .bin .geq x y, none⟩ :: l) s K :=
  bin_ hx hy (by simp [binC]) h
theorem eql_ (hx : s.ev x = .c (.int k a)) (hy : s.ev y = .c (.int k b)) (h : wL C l (s.put d (.c (.bool (a == b)))) K) : wL C (⟨some d, .bin .eql x y, none⟩ :: l) s K :=
  bin_ hx hy (by simp [binC]) h
theorem neq_ (hx : s.ev x = .c (.int k a)) (hy : s.ev y = .c (.int k b)) (h : wL C l (s.put d (.c (.bool (!(a == b))))) K) : wL C (⟨some d, .bin .neq x y, none⟩ :: l) s K :=
  bin_ hx hy (by simp [binC]) h
theorem eqs_t {ag : Bool} {sh : List LK} {u v : CV} {r : Bool} (hx : s.ev x = .c u) (hy : s.ev y = .c v) (hr : eqC ag sh u v = some r) (h : wL C l (s.put d (.c (.bool r))) K) :
    wL C (⟨some d, .eqs false ag sh x y, none⟩ :: l) s K := by
  simp only [wL, wpL, wpG, wpK, pstep, PS.evc, hx, hy, hr, Option.map_some, PS.putO]; exact h
theorem eqs_f {ag : Bool} {sh : List LK} {u v : CV} {r : Bool} (hx : s.ev x = .c u) (hy : s.ev y = .c v) (hr : eqC ag sh u v = some r) (h : wL C l (s.put d (.c (.bool (!r)))) K) :
    wL C (⟨some d, .eqs true ag sh x y, none⟩ :: l) s K := by
  simp only [wL, wpL, wpG, wpK, pstep, PS.evc, hx, hy, hr, Option.map_some, PS.putO]; exact h
theorem neqB_ {a b : Bool} (hx : s.ev x = .c (.bool a)) (hy : s.ev y = .c (.bool b)) (h : wL C l (s.put d (.c (.bool (!(a == b))))) K) : wL C (⟨some d, .eqs true false [.b] x y, none⟩ :: l) s K :=
  eqs_f hx hy (by simp [eqC, shEq]) h
theorem eqd_ (hx : s.ev x = .c (.int k a)) (hy : s.ev y = .c (.int k b)) (h : wL C l (s.put d (.c (.bool (decide (a = b))))) K) : wL C (⟨some d, .bin .eql x y, none⟩ :: l) s K := by
  refine eql_ hx hy ?_
  have : (a == b) = decide (a = b) := by by_cases e : a = b <;> simp [e]
  rw [this]; exact h
theorem ned_ (hx : s.ev x = .c (.int k a)) (hy : s.ev y = .c (.int k b)) (h : wL C l (s.put d (.c (.bool (decide (a ≠ b))))) K) : wL C (⟨some d, .bin .neq x y, none⟩ :: l) s K := by
  refine neq_ hx hy ?_
  have : (!(a == b)) = decide (a ≠ b) := by by_cases e : a = b <;> simp [e]
  rw [this]; exact h
theorem lss_t (hx : s.ev x = .c (.int k a)) (hy : s.ev y = .c (.int k b)) (hc : a < b) (h : wL C l (s.put d (.c (.bool true))) K) : wL C (⟨some d, .bin .lss x y, none⟩ :: l) s K :=
  lss_ hx hy (by rw [decide_eq_true hc]; exact h)
theorem lss_f (hx : s.ev x = .c (.int k a)) (hy : s.ev y = .c (.int k b)) (hc : ¬ a < b) (h : wL C l (s.put d (.c (.bool false))) K) : wL C (⟨some d, .bin .lss x y, none⟩ :: l) s K :=
  lss_ hx hy (by rw [decide_eq_false hc]; exact h)
theorem leq_t (hx : s.ev x = .c (.int k a)) (hy : s.ev y = .c (.int k b)) (hc : a ≤ b) (h : wL C l (s.put d (.c (.bool true))) K) : wL C (⟨some d, .bin .leq x y, none⟩ :: l) s K :=
  leq_ hx hy (by rw [decide_eq_true hc]; exact h)
theorem leq_f (hx : s.ev x = .c (.int k a)) (hy : s.ev y = .c (.int k b)) (hc : ¬ a ≤ b) (h : wL C l (s.put d (.c (.bool false))) K) : wL C (⟨some d, .bin .leq x y, none⟩ :: l) s K :=
  leq_ hx hy (by rw [decide_eq_false hc]; exact h)
theorem gtr_t (hx : s.ev x = .c (.int k a)) (hy : s.ev y = .c (.int k b)) (hc : b < a) (h : wL C l (s.put d (.c (.bool true))) K) : wL C (⟨some d, .bin .gtr x y, none⟩ :: l) s K :=
  gtr_ hx hy (by rw [decide_eq_true hc]; exact h)
theorem gtr_f (hx : s.ev x = .c (.int k a)) (hy : s.ev y = .c (.int k b)) (hc : ¬ b < a) (h : wL C l (s.put d (.c (.bool false))) K) : wL C (⟨some d, .bin .gtr x y, none⟩ :: l) s K :=
  gtr_ hx hy (by rw [decide_eq_false hc]; exact h)
theorem geq_t (hx : s.ev x = .c (.int k a)) (hy : s.ev y = .c (.int k b)) (hc : b ≤ a) (h : wL C l (s.put d (.c (.bool true))) K) : wL C (⟨some d, .bin .geq x y, none⟩ :: l) s K :=
  geq_ hx hy (by rw [decide_eq_true hc]; exact h)
theorem geq_f (hx : s.ev x = .c (.int k a)) (hy : s.ev y = .c (.int k b)) (hc : ¬ b ≤ a) (h : wL C l (s.put d (.c (.bool false))) K) : wL C (⟨some d, .bin .geq x y, none⟩ :: l) s K :=
  geq_ hx hy (by rw [decide_eq_false hc]; exact h)
theorem eql_t (hx : s.ev x = .c (.int k a)) (hy : s.ev y = .c (.int k b)) (hc : a = b) (h : wL C l (s.put d (.c (.bool true))) K) : wL C (⟨some d, .bin .eql x y, none⟩ :: l) s K :=
  eqd_ hx hy (by rw [decide_eq_true hc]; exact h)
theorem eql_f (hx : s.ev x = .c (.int k a)) (hy : s.ev y = .c (.int k b)) (hc : ¬ a = b) (h : wL C l (s.put d (.c (.bool false))) K) : wL C (⟨some d, .bin .eql x y, none⟩ :: l) s K :=
  eqd_ hx hy (by rw [decide_eq_false hc]; exact h)
theorem neq_t (hx : s.ev x = .c (.int k a)) (hy : s.ev y = .c (.int k b)) (hc : a ≠ b) (h : wL C l (s.put d (.c (.bool true))) K) : wL C (⟨some d, .bin .neq x y, none⟩ :: l) s K :=
  ned_ hx hy (by rw [decide_eq_true hc]; exact h)
theorem neq_f (hx : s.ev x = .c (.int k a)) (hy : s.ev y = .c (.int k b)) (hc : ¬ a ≠ b) (h : wL C l (s.put d (.c (.bool false))) K) : wL C (⟨some d, .bin .neq x y, none⟩ :: l) s K :=
  ned_ hx hy (by rw [decide_eq_false hc]; exact h)
theorem g_splitd {p : Prop} [Decidable p] {g : Nat} {w : Bool} {o : Option Nat} {q : PK} (hg : s.t g = .c (.bool (decide p)))
    (h1 : p → wL C (⟨o, q, some (g, w)⟩ :: l) (s.put g (.c (.bool true))) K)
    (h0 : ¬ p → wL C (⟨o, q, some (g, w)⟩ :: l) (s.put g (.c (.bool false))) K) : wL C (⟨o, q, some (g, w)⟩ :: l) s K :=
  g_split hg (fun e => h1 (of_decide_eq_true e)) (fun e => h0 (of_decide_eq_false e))
theorem xf_ {g : XF} {xs : List PO} {cs : List CV} {v : CV} (hx : evcs s xs = some cs) (hr : xfC g cs = some v) (h : wL C l (s.put d (.c v)) K) : wL C (⟨some d, .xf g xs, none⟩ :: l) s K := by
  simp only [wL, wpL, wpG, wpK, pstep, hx, hr, Option.map_some, PS.putO]; exact h
theorem wrap64_in {n : Int} (h : -9223372036854775808 ≤ n ∧ n ≤ 9223372036854775807) : IntKind.i64.wrap n = n := by
  simp [IntKind.wrap, IntKind.bits, IntKind.signed]; omega
theorem add_in (hx : s.ev x = .c (.int .i64 a)) (hy : s.ev y = .c (.int .i64 b)) (hr : -9223372036854775808 ≤ a + b ∧ a + b ≤ 9223372036854775807)
    (h : wL C l (s.put d (.c (.int .i64 (a + b)))) K) : wL C (⟨some d, .bin .add x y, none⟩ :: l) s K :=
  bin_ hx hy (by simp only [binC, if_true]; rw [wrap64_in hr]) h
theorem sub_in (hx : s.ev x = .c (.int .i64 a)) (hy : s.ev y = .c (.int .i64 b)) (hr : -9223372036854775808 ≤ a - b ∧ a - b ≤ 9223372036854775807)
    (h : wL C l (s.put d (.c (.int .i64 (a - b)))) K) : wL C (⟨some d, .bin .sub x y, none⟩ :: l) s K :=
  bin_ hx hy (by simp only [binC, if_true]; rw [wrap64_in hr]) h
theorem not_ {b : Bool} (hx : s.ev x = .c (.bool b)) (h : wL C l (s.put d (.c (.bool (!b)))) K) : wL C (⟨some d, .un .not x, none⟩ :: l) s K := by
  simp only [wL, wpL, wpG, wpK, pstep, PS.evc, hx, unC, Option.map_some, PS.putO]; exact h
theorem un_ {op : UnOp} {u v : CV} (hx : s.ev x = .c u) (hv : unC op u = some v) (h : wL C l (s.put d (.c v)) K) : wL C (⟨some d, .un op x, none⟩ :: l) s K := by
  simp only [wL, wpL, wpG, wpK, pstep, PS.evc, hx, hv, Option.map_some, PS.putO]; exact h
theorem conv_ {k' : IntKind} (hx : s.ev x = .c (.int k' n)) (h : wL C l (s.put d (.c (.int k (k.wrap n)))) K) : wL C (⟨some d, .conv k x, none⟩ :: l) s K := by
  simp only [wL, wpL, wpG, wpK, pstep, PS.evc, hx, PS.putO]; exact h
theorem wrapu_in {n : Int} (h : 0 ≤ n ∧ n ≤ 18446744073709551615) : IntKind.u64.wrap n = n := by
  simp [IntKind.wrap, IntKind.bits, IntKind.signed]; omega
theorem addu_in (hx : s.ev x = .c (.int .u64 a)) (hy : s.ev y = .c (.int .u64 b)) (hr : 0 ≤ a + b ∧ a + b ≤ 18446744073709551615)
    (h : wL C l (s.put d (.c (.int .u64 (a + b)))) K) : wL C (⟨some d, .bin .add x y, none⟩ :: l) s K :=
  bin_ hx hy (by simp [binC, wrapu_in hr]) h
theorem mulu_in (hx : s.ev x = .c (.int .u64 a)) (hy : s.ev y = .c (.int .u64 b)) (hr : 0 ≤ a * b ∧ a * b ≤ 18446744073709551615)
    (h : wL C l (s.put d (.c (.int .u64 (a * b)))) K) : wL C (⟨some d, .bin .mul x y, none⟩ :: l) s K :=
  bin_ hx hy (by simp [binC, wrapu_in hr]) h
theorem mul_in (hx : s.ev x = .c (.int .i64 a)) (hy : s.ev y = .c (.int .i64 b)) (hr : -9223372036854775808 ≤ a * b ∧ a * b ≤ 9223372036854775807)
    (h : wL C l (s.put d (.c (.int .i64 (a * b)))) K) : wL C (⟨some d, .bin .mul x y, none⟩ :: l) s K :=
  bin_ hx hy (by simp [binC, wrap64_in hr]) h
theorem mul_ (hx : s.ev x = .c (.int k a)) (hy : s.ev y = .c (.int k b)) (h : wL C l (s.put d (.c (.int k (k.wrap (a * b))))) K) : wL C (⟨some d, .bin .mul x y, none⟩ :: l) s K :=
  bin_ hx hy (by simp [binC]) h
theorem wrapu_mod (n : Int) : IntKind.u64.wrap n = n % 18446744073709551616 := by
  simp [IntKind.wrap, IntKind.bits, IntKind.signed]
theorem mulu_ (hx : s.ev x = .c (.int .u64 a)) (hy : s.ev y = .c (.int .u64 b)) (h : wL C l (s.put d (.c (.int .u64 (a * b % 18446744073709551616)))) K) : wL C (⟨some d, .bin .mul x y, none⟩ :: l) s K :=
  mul_ hx hy (by rw [wrapu_mod]; exact h)
theorem addu_ (hx : s.ev x = .c (.int .u64 a)) (hy : s.ev y = .c (.int .u64 b)) (h : wL C l (s.put d (.c (.int .u64 ((a + b) % 18446744073709551616)))) K) : wL C (⟨some d, .bin .add x y, none⟩ :: l) s K :=
  bin_ hx hy (by simp [binC, wrapu_mod]) h
theorem subu_ (hx : s.ev x = .c (.int .u64 a)) (hy : s.ev y = .c (.int .u64 b)) (h : wL C l (s.put d (.c (.int .u64 ((a - b) % 18446744073709551616)))) K) : wL C (⟨some d, .bin .sub x y, none⟩ :: l) s K :=
  bin_ hx hy (by simp [binC, wrapu_mod]) h
theorem shr_n {k' : IntKind} {n : Nat} {m : Int} (hx : s.ev x = .c (.int k a)) (hy : s.ev y = .c (.int k' n)) (hn : n ≤ k.bits) (hm : (2 : Int) ^ n = m) (h : wL C l (s.put d (.c (.int k (a / m)))) K) : wL C (⟨some d, .bin .shr x y, none⟩ :: l) s K := by
  refine bin_ hx hy ?_ h
  have h0 : (0 : Int) ≤ 2 ^ n := Int.le_of_lt (Int.pow_pos (by decide))
  simp only [binC, shr, Int.toNat_natCast, hn, and_true, Int.natCast_nonneg, if_true, ← hm]
  rw [Int.fdiv_eq_ediv_of_nonneg _ h0]
theorem shl_n {k' : IntKind} {n : Nat} {m : Int} (hx : s.ev x = .c (.int .u64 a)) (hy : s.ev y = .c (.int k' n)) (hn : n ≤ 64) (hm : (2 : Int) ^ n = m) (h : wL C l (s.put d (.c (.int .u64 (a * m % 18446744073709551616)))) K) : wL C (⟨some d, .bin .shl x y, none⟩ :: l) s K := by
  refine bin_ hx hy ?_ h
  have hb : IntKind.u64.bits = 64 := rfl
  simp only [binC, shl, Int.toNat_natCast, hb, hn, and_true, Int.natCast_nonneg, if_true, hm, wrapu_mod]
theorem and_mask (n : Nat) {m : Int} (hm : (2 : Int) ^ n - 1 = m) (hn : n ≤ 64) (hx : s.ev x = .c (.int .u64 a)) (hy : s.ev y = .c (.int .u64 m)) (ha : 0 ≤ a ∧ a ≤ 18446744073709551615) (h : wL C l (s.put d (.c (.int .u64 (a % 2 ^ n)))) K) :
    wL C (⟨some d, .bin .and x y, none⟩ :: l) s K := by
  refine bin_ hx hy ?_ h
  obtain ⟨A, rfl⟩ := Int.eq_ofNat_of_zero_le ha.1
  have e1 : m = ((2 ^ n - 1 : Nat) : Int) := by
    rw [← hm, Int.natCast_sub (Nat.one_le_two_pow), Int.natCast_pow]; rfl
  have hb : IntKind.u64.bits = 64 := rfl
  have e2 : ((BitVec.ofInt 64 (A : Int)) &&& BitVec.ofInt 64 m).toNat = A % 2 ^ n := by
    subst e1
    rw [BitVec.ofInt_natCast, BitVec.ofInt_natCast, BitVec.toNat_and, BitVec.toNat_ofNat, BitVec.toNat_ofNat]
    have h1 : A % 2 ^ 64 = A := Nat.mod_eq_of_lt (by omega)
    have h2 : (2 ^ n - 1) % 2 ^ 64 = 2 ^ n - 1 := Nat.mod_eq_of_lt (by
      have : 2 ^ n ≤ 2 ^ 64 := Nat.pow_le_pow_right (by decide) hn
      have := Nat.pow_pos (n := n) (show 0 < 2 by decide)
      omega)
    rw [h1, h2, Nat.and_two_pow_sub_one_eq_mod]
  have h3 : A % 2 ^ n ≤ A := Nat.mod_le _ _
  have e3 : ((A % 2 ^ n : Nat) : Int) = (A : Int) % 2 ^ n := by simp
  have h4 : ((A % 2 ^ n : Nat) : Int) ≤ A := by exact_mod_cast h3
  show some (CV.int .u64 (IntKind.u64.wrap (((BitVec.ofInt 64 (A : Int)) &&& BitVec.ofInt 64 m).toNat : Nat))) = _
  rw [e2, wrapu_in (by omega), e3]
theorem conv_u (hx : s.ev x = .c (.int k a)) (h : wL C l (s.put d (.c (.int .u64 (a % 18446744073709551616)))) K) : wL C (⟨some d, .conv .u64 x, none⟩ :: l) s K :=
  conv_ hx (by rw [wrapu_mod]; exact h)
theorem conv_in {k' : IntKind} (hx : s.ev x = .c (.int k a)) (hw : k'.wrap a = a) (h : wL C l (s.put d (.c (.int k' a))) K) : wL C (⟨some d, .conv k' x, none⟩ :: l) s K :=
  conv_ hx (by rw [hw]; exact h)
theorem wrap64_hi {n : Int} (h : 9223372036854775808 ≤ n ∧ n ≤ 18446744073709551615) : IntKind.i64.wrap n = n - 18446744073709551616 := by
  simp [IntKind.wrap, IntKind.bits, IntKind.signed]; omega
theorem conv_s {n : Int} (hx : s.ev x = .c (.int k a)) (hw : IntKind.i64.wrap a = n) (h : wL C l (s.put d (.c (.int .i64 n))) K) : wL C (⟨some d, .conv .i64 x, none⟩ :: l) s K :=
  conv_ hx (by rw [hw]; exact h)
theorem neg_in (hx : s.ev x = .c (.int .i64 a)) (hr : -9223372036854775807 ≤ a ∧ a ≤ 9223372036854775808) (h : wL C l (s.put d (.c (.int .i64 (-a)))) K) : wL C (⟨some d, .un .neg x, none⟩ :: l) s K := by
  refine un_ hx (v := .int .i64 (-a)) ?_ h
  simp only [unC, Int.zero_sub, wrap64_in (n := -a) (by omega)]
theorem negu_ (hx : s.ev x = .c (.int .u64 a)) (h : wL C l (s.put d (.c (.int .u64 (-a % 18446744073709551616)))) K) : wL C (⟨some d, .un .neg x, none⟩ :: l) s K := by
  refine un_ hx (v := .int .u64 (-a % 18446744073709551616)) ?_ h
  simp only [unC, Int.zero_sub, wrapu_mod]
theorem fad_ptr {o e w i j : Nat} {cs : List CV} (hx : s.ev x = .ptr e w i) (hb : s.bx e = ⟨w, .var cs⟩) (hj : i + o = j) (h : wL C l (s.put d (.ptr e w j)) K) : wL C (⟨some d, .fad o x, none⟩ :: l) s K := by
  subst hj; simp only [wL, wpL, wpG, wpK, pstep, hx, hb, if_true, PS.putO]; exact h
theorem fad_rp {o : Nat} {cs cs' : List CV} (hx : s.ev x = .rp cs) (ho : o ≤ cs.length) (hj : cs.drop o = cs') (h : wL C l (s.put d (.rp cs')) K) : wL C (⟨some d, .fad o x, none⟩ :: l) s K := by
  subst hj; simp only [wL, wpL, wpG, wpK, pstep, hx, if_pos ho, PS.putO]; exact h
theorem fad_sp {o e w u i j sz : Nat} {es : List (List CV)} (hx : s.ev x = .sp e w u i) (hb : s.bx e = ⟨w, .sl sz es⟩) (hj : i + o = j) (h : wL C l (s.put d (.sp e w u j)) K) : wL C (⟨some d, .fad o x, none⟩ :: l) s K := by
  subst hj; simp only [wL, wpL, wpG, wpK, pstep, hx, hb, if_true, PS.putO]; exact h
theorem iaA_ptr {len sz e w o j : Nat} {cs : List CV} (hx : s.ev x = .ptr e w o) (hy : s.ev y = .c (.int k n)) (hb : s.bx e = ⟨w, .var cs⟩) (hn : 0 ≤ n ∧ n < (len : Int)) (hj : o + n.toNat * sz = j)
    (h : wL C l (s.put d (.ptr e w j)) K) : wL C (⟨some d, .iaA len sz x y, none⟩ :: l) s K := by
  subst hj; simp only [wL, wpL, wpG, wpK, pstep, PS.evc, hx, hy, hb, if_pos hn, if_true, PS.putO]; exact h
theorem iaA_rp {len sz : Nat} {cs cs' : List CV} (hx : s.ev x = .rp cs) (hy : s.ev y = .c (.int k n)) (hn : 0 ≤ n ∧ n < (len : Int)) (ho : n.toNat * sz ≤ cs.length) (hj : cs.drop (n.toNat * sz) = cs')
    (h : wL C l (s.put d (.rp cs')) K) : wL C (⟨some d, .iaA len sz x y, none⟩ :: l) s K := by
  subst hj; simp only [wL, wpL, wpG, wpK, pstep, PS.evc, hx, hy, if_pos hn, if_pos ho, PS.putO]; exact h
theorem iaS_c {sz : Nat} {es : List (List CV)} {e : List CV} (hx : s.ev x = .c (.sl es)) (hy : s.ev y = .c (.int k n)) (h0 : 0 ≤ n) (he : es[n.toNat]? = some e) (hz : e.length = sz)
    (h : wL C l (s.put d (.rp e)) K) : wL C (⟨some d, .iaS sz x y, none⟩ :: l) s K := by
  have hlt : n.toNat < es.length := by
    rcases Nat.lt_or_ge n.toNat es.length with h | h
    · exact h
    · simp [List.getElem?_eq_none h] at he
  have hg : es.getD n.toNat [] = e := by simp [List.getD, he]
  simp only [wL, wpL, wpG, wpK, pstep, PS.evc, hx, hy, if_pos (show 0 ≤ n ∧ n < (es.length : Int) from ⟨h0, by omega⟩), hg, hz, if_true, PS.putO]; exact h
theorem iaS_osl {sz e w o len j : Nat} {es : List (List CV)} (hx : s.ev x = .osl e w o len) (hy : s.ev y = .c (.int k n)) (hb : s.bx e = ⟨w, .sl sz es⟩) (hn : 0 ≤ n ∧ n < (len : Int)) (hj : n.toNat = j)
    (h : wL C l (s.put d (.sp e w j 0)) K) : wL C (⟨some d, .iaS sz x y, none⟩ :: l) s K := by
  subst hj; simp only [wL, wpL, wpG, wpK, pstep, PS.evc, hx, hy, hb, true_and, if_pos hn, PS.putO]; exact h
theorem idA_ {f : Bool} {len sz : Nat} {cs : List CV} {v : CV} (hx : s.ev x = .c (.agg cs)) (hy : s.ev y = .c (.int k n)) (hn : 0 ≤ n ∧ n < (len : Int) ∧ len * sz ≤ cs.length)
    (hv : rdc f sz (cs.drop (n.toNat * sz)) = v) (h : wL C l (s.put d (.c v)) K) : wL C (⟨some d, .idA f len sz x y, none⟩ :: l) s K := by
  subst hv; simp only [wL, wpL, wpG, wpK, pstep, PS.evc, hx, hy, if_pos hn, PS.putO]; exact h
theorem ext_ {vs : List CV} {j : Nat} {v : CV} (hx : s.ev x = .c (.tup vs)) (hj : vs[j]? = some v) (h : wL C l (s.put d (.c v)) K) : wL C (⟨some d, .ext x j, none⟩ :: l) s K := by
  simp only [wL, wpL, wpG, wpK, pstep, PS.evc, hx, hj, PS.putO]; exact h
theorem len_sl {es : List (List CV)} {n : Nat} (hx : s.ev x = .c (.sl es)) (hn : es.length = n) (h : wL C l (s.put d (.c (.int .i64 (n : Nat)))) K) : wL C (⟨some d, .len x, none⟩ :: l) s K := by
  subst hn; simp only [wL, wpL, wpG, wpK, pstep, hx, PS.putO]; exact h
theorem len_osl {e w o n sz : Nat} {es : List (List CV)} (hx : s.ev x = .osl e w o n) (hb : s.bx e = ⟨w, .sl sz es⟩) (h : wL C l (s.put d (.c (.int .i64 (n : Nat)))) K) : wL C (⟨some d, .len x, none⟩ :: l) s K := by
  simp only [wL, wpL, wpG, wpK, pstep, hx, hb, if_true, PS.putO]; exact h
theorem app_own {sz e w n m : Nat} {es ys zs : List (List CV)} (hx : s.ev x = .osl e w 0 n) (hy : s.ev y = .c (.sl ys)) (hb : s.bx e = ⟨w, .sl sz es⟩) (hn : n = es.length)
    (hr : es.length + ys.length ≤ maxGrow) (hw : ∀ e ∈ ys, e.length = sz) (hz : es ++ ys = zs) (hm : zs.length = m)
    (h : ∀ q u, wL C l (((s.box e ⟨q, .dead⟩).box d ⟨u, .sl sz zs⟩).put d (.osl d u 0 m)) K) : wL C (⟨some d, .app sz x y true, none⟩ :: l) s K := by
  subst hz; subst hm; have hc : n = es.length ∧ es.length + ys.length ≤ maxGrow ∧ ∀ e ∈ ys, e.length = sz := ⟨hn, hr, hw⟩
  simp only [wL, wpL, wpG, wpK, pstep, PS.evc, hx, hy, hb, true_and, if_pos hc, if_true]; exact h _ _
theorem slc_c {sz : Nat} {lo hi : Option PO} {es zs : List (List CV)} {i j : Nat} (hx : s.ev x = .c (.sl es)) (hl : bound s 0 lo = some i) (hh : bound s es.length hi = some j) (hij : i ≤ j ∧ j ≤ es.length)
    (hw : ∀ e ∈ es, e.length = sz) (hz : (es.take j).drop i = zs) (h : wL C l (s.put d (.c (.sl zs))) K) : wL C (⟨some d, .slc sz x lo hi, none⟩ :: l) s K := by
  subst hz; have hc : i ≤ j ∧ j ≤ es.length ∧ ∀ e ∈ es, e.length = sz := ⟨hij.1, hij.2, hw⟩
  simp only [wL, wpL, wpG, wpK, pstep, hx, hl, hh, if_pos hc, PS.putO]; exact h
theorem nilc_ptr {e w o : Nat} {cs : List CV} (hx : s.ev x = .ptr e w o) (hb : s.bx e = ⟨w, .var cs⟩) (h : wL C l (s.put d (.ptr e w o)) K) : wL C (⟨some d, .nilc x, none⟩ :: l) s K := by
  simp only [wL, wpL, wpG, wpK, pstep, hx, hb, if_true, PS.putO]; exact h
theorem mm_max (hx : s.ev x = .c (.int k a)) (hy : s.ev y = .c (.int k b)) (h : wL C l (s.put d (.c (.int k (if b > a then b else a)))) K) : wL C (⟨some d, .mm true x [y], none⟩ :: l) s K := by
  simp only [wL, wpL, wpG, wpK, pstep, foldMm, PS.evc, hx, hy, if_true, PS.putO]; exact h
theorem call0 {f : FuncId} {r : CV} (hC : C f [] (.c r) []) (h : wL C l (s.put d (.c r)) K) :
    wL C (⟨some d, .call false f [], none⟩ :: l) s K := by
  simp only [wL, wpL, wpG, wpK, wpCall, evcs, PS.evc]; exact ⟨r, hC, h⟩
theorem call1 {f : FuncId} {x1 : PO} {v1 : CV} {r : CV} (h1 : s.ev x1 = .c v1) (hC : C f [.c v1] (.c r) []) (h : wL C l (s.put d (.c r)) K) :
    wL C (⟨some d, .call false f [x1], none⟩ :: l) s K := by
  simp only [wL, wpL, wpG, wpK, wpCall, evcs, PS.evc, h1]; exact ⟨r, hC, h⟩
theorem call2 {f : FuncId} {x1 x2 : PO} {v1 v2 : CV} {r : CV} (h1 : s.ev x1 = .c v1) (h2 : s.ev x2 = .c v2) (hC : C f [.c v1, .c v2] (.c r) []) (h : wL C l (s.put d (.c r)) K) :
    wL C (⟨some d, .call false f [x1, x2], none⟩ :: l) s K := by
  simp only [wL, wpL, wpG, wpK, wpCall, evcs, PS.evc, h1, h2]; exact ⟨r, hC, h⟩
theorem call3 {f : FuncId} {x1 x2 x3 : PO} {v1 v2 v3 : CV} {r : CV} (h1 : s.ev x1 = .c v1) (h2 : s.ev x2 = .c v2) (h3 : s.ev x3 = .c v3) (hC : C f [.c v1, .c v2, .c v3] (.c r) []) (h : wL C l (s.put d (.c r)) K) :
    wL C (⟨some d, .call false f [x1, x2, x3], none⟩ :: l) s K := by
  simp only [wL, wpL, wpG, wpK, wpCall, evcs, PS.evc, h1, h2, h3]; exact ⟨r, hC, h⟩
theorem call4 {f : FuncId} {x1 x2 x3 x4 : PO} {v1 v2 v3 v4 : CV} {r : CV} (h1 : s.ev x1 = .c v1) (h2 : s.ev x2 = .c v2) (h3 : s.ev x3 = .c v3) (h4 : s.ev x4 = .c v4) (hC : C f [.c v1, .c v2, .c v3, .c v4] (.c r) []) (h : wL C l (s.put d (.c r)) K) :
    wL C (⟨some d, .call false f [x1, x2, x3, x4], none⟩ :: l) s K := by
  simp only [wL, wpL, wpG, wpK, wpCall, evcs, PS.evc, h1, h2, h3, h4]; exact ⟨r, hC, h⟩
theorem callO2 {f : FuncId} {x1 x2 : PO} {v1 v2 : CV} {e w n m sz sz' : Nat} {es zs : List (List CV)} (hx : s.ev x = .osl e w 0 n) (hb : s.bx e = ⟨w, .sl sz es⟩) (hn : n = es.length) (h1 : s.ev x1 = .c v1) (h2 : s.ev x2 = .c v2) (hC : C f [.own sz es, .c v1, .c v2] (.own sz' zs) []) (hm : zs.length = m)
    (h : ∀ q u, wL C l (((s.box e ⟨q, .dead⟩).box d ⟨u, .sl sz' zs⟩).put d (.osl d u 0 m)) K) : wL C (⟨some d, .call true f [x, x1, x2], none⟩ :: l) s K := by
  subst hm; simp only [wL, wpL, wpG, wpK, wpCall, evcs, PS.evc, hx, hb, h1, h2, true_and]; exact ⟨hn, .own sz' zs, fun _ _ _ => rfl, hC, h _ _⟩
end
section
variable {C : CallP} {s : PS} {K : Ex → PS → Prop} {p q : PCode}
theorem w_skip (h : K .n s) : wP C .skip s K := h
theorem w_ops {l : List POp} (h : wL C l s (K .n)) : wP C (.ops false l) s K := h
theorem w_opsD0 {l : List POp} (hn : newSites l = []) (h : wL C l s (K .n)) : wP C (.ops true l) s K := by
  simp only [wP, pwp, if_true, hn, PS.kills]; exact h
theorem w_opsD1 {l : List POp} {e : Nat} (hn : newSites l = [e]) (h : ∀ q, wL C l (s.box e ⟨q, .dead⟩) (K .n)) : wP C (.ops true l) s K := by
  simp only [wP, pwp, if_true, hn, PS.kills]; exact h _
theorem w_opsB3 {l : List POp} {on : List (Nat × Nat)} {e f g : Nat} (hn : newSites l = [e, f, g]) (h : ∀ q r t, wLB C on 0 l (((s.box e ⟨q, .dead⟩).box f ⟨r, .dead⟩).box g ⟨t, .dead⟩) (K .n)) : wP C (.opsB l on) s K := by
  simp only [wP, pwp, hn, PS.kills]; exact h _ _ _
theorem lb_nil {on : List (Nat × Nat)} {k : Nat} {N : PS → Prop} (h : N s) : wLB C on k [] s N := h
theorem lb_n {on : List (Nat × Nat)} {k : Nat} {o : POp} {l : List POp} {N : PS → Prop} (hb : on.lookup k = none) (h : wL C [o] s (xL C on (k + 1) l N)) : wLB C on k (o :: l) s N :=
  ⟨fun c hc => by (rw [hb] at hc; cases hc), h⟩
theorem lb_s {on : List (Nat × Nat)} {k e ver : Nat} {o : POp} {l : List POp} {N : PS → Prop} (hb : on.lookup k = some e) (hr : ref o.k s = some (e, ver)) (h : wL C [o] s (xL C on (k + 1) l N)) : wLB C on k (o :: l) s N :=
  ⟨fun c hc e' v' h' => by (rw [hb] at hc; rw [hr] at h'; cases hc; cases h'; rfl), h⟩
theorem lb_0 {on : List (Nat × Nat)} {k : Nat} {o : POp} {l : List POp} {N : PS → Prop} (hr : ref o.k s = none) (h : wL C [o] s (xL C on (k + 1) l N)) : wLB C on k (o :: l) s N :=
  ⟨fun c hc e' v' h' => by (rw [hr] at h'; cases h'), h⟩
theorem lb_x {on : List (Nat × Nat)} {k : Nat} {l : List POp} {N : PS → Prop} (h : wLB C on k l s N) : xL C on k l N s := h
theorem w_seq (h : wP C p s (xT (fun s' => wP C q s' K) K)) : wP C (.seq p q) s K := h
theorem w_exit {id : Nat} (h : K (.x id) s) : wP C (.exit id) s K := h
theorem w_ret (h : K .r s) : wP C .ret s K := h
theorem w_block {id : Nat} (h : wP C p s (xB id K)) : wP C (.block id p) s K := h
theorem w_true {x : PO} (hx : s.ev x = .c (.bool true)) (h : wP C p s K) : wP C (.cond x p q) s K := by
  simp only [wP, pwp, hx]; exact ⟨fun _ => h, fun h => by cases h⟩
theorem w_false {x : PO} (hx : s.ev x = .c (.bool false)) (h : wP C q s K) : wP C (.cond x p q) s K := by
  simp only [wP, pwp, hx]; exact ⟨(fun h => by cases h), fun _ => h⟩
theorem w_cond {x : PO} {b : Bool} (hx : s.ev x = .c (.bool b)) (h1 : b = true → wP C p s K) (h0 : b = false → wP C q s K) : wP C (.cond x p q) s K := by
  simp only [wP, pwp, hx]; exact ⟨h1, h0⟩
theorem w_condd {x : PO} {b : Prop} [Decidable b] (hx : s.ev x = .c (.bool (decide b))) (h1 : b → wP C p s K) (h0 : ¬ b → wP C q s K) : wP C (.cond x p q) s K :=
  w_cond hx (fun e => h1 (of_decide_eq_true e)) (fun e => h0 (of_decide_eq_false e))
theorem th_n {N : PS → Prop} (h : N s) : xT N K .n s := h
theorem th_x {N : PS → Prop} {i : Nat} (h : K (.x i) s) : xT N K (.x i) s := h
theorem th_r {N : PS → Prop} (h : K .r s) : xT N K .r s := h
theorem bk_n {id : Nat} (h : K .n s) : xB id K .n s := h
theorem bk_r {id : Nat} (h : K .r s) : xB id K .r s := h
theorem bk_x {id : Nat} (h : K .n s) : xB id K (.x id) s := by simp only [xB, Ex.blk, if_true]; exact h
theorem w_fz_osl {i e w n sz : Nat} {es : List (List CV)} (hx : s.t i = .osl e w 0 n) (hb : s.bx e = ⟨w, .sl sz es⟩) (hn : n = es.length) (h : ∀ q, wP C p ((s.box e ⟨q, .dead⟩).put i (.c (.sl es))) K) : wP C (.fz i p) s K := by
  simp only [wP, pwp, hx, PS.close, hb, true_and, if_pos hn]; exact h _
theorem w_rn_same {i e w o n : Nat} (hx : s.t i = .osl e w o n) (h : wP C p s K) : wP C (.rn i e p) s K := by
  simp only [wP, pwp, hx]; exact ⟨fun _ => h, fun hn => absurd rfl hn⟩
theorem w_rn {i d e w n sz : Nat} {es : List (List CV)} (hx : s.t i = .osl d w 0 n) (hne : d ≠ e) (hb : s.bx d = ⟨w, .sl sz es⟩) (hn : n = es.length)
    (h : ∀ q u, wP C p (((s.box d ⟨q, .dead⟩).box e ⟨u, .sl sz es⟩).put i (.osl e u 0 n)) K) : wP C (.rn i e p) s K := by
  simp only [wP, pwp, hx, hb, true_and]; exact ⟨fun he => absurd he hne, fun _ => ⟨hn, h _ _⟩⟩
theorem wpCall_mono {m : Bool} {f : FuncId} {args : List PO} {dst : Option Nat} {s : PS} {K K' : PS → Prop} (hk : ∀ s, K s → K' s) (h : wpCall C m f args dst s K) : wpCall C m f args dst s K' := by
  unfold wpCall at *
  split at h
  · split at h
    · obtain ⟨r, hc, h⟩ := h; exact ⟨r, hc, hk _ h⟩
    · exact h
  · split at h
    · split at h
      · obtain ⟨h0, r, h1, hc, h⟩ := h; exact ⟨h0, r, h1, hc, hk _ h⟩
      · exact h
    · split at h
      · obtain ⟨h0, r, c1, hc, h⟩ := h; exact ⟨h0, r, c1, hc, hk _ h⟩
      · exact h
    · exact h
  · exact h
theorem wpK_mono {o : POp} {s : PS} {K K' : PS → Prop} (hk : ∀ s, K s → K' s) (h : wpK C o s K) : wpK C o s K' := by
  obtain ⟨d, q, g⟩ := o
  cases q <;> simp only [wpK] at h ⊢
  case call m f args => exact wpCall_mono hk h
  all_goals (split at h <;> first | exact hk _ h | exact h)
theorem wpG_mono {o : POp} {s : PS} {K K' : PS → Prop} (hk : ∀ s, K s → K' s) (h : wpG C o s K) : wpG C o s K' := by
  unfold wpG at *
  split at h
  · exact wpK_mono hk h
  · split at h
    · exact ⟨fun e => wpK_mono hk (h.1 e), fun e => hk _ (h.2 e)⟩
    · exact hk _ h
    · exact h
theorem wpL_mono {l : List POp} : ∀ {s : PS} {K K' : PS → Prop}, (∀ s, K s → K' s) → wpL C l s K → wpL C l s K' := by
  induction l with
  | nil => intro s K K' hk h; exact hk _ h
  | cons o l ih => intro s K K' hk h; exact wpG_mono (fun _ h => ih hk h) h
theorem wpLB_mono {on : List (Nat × Nat)} {l : List POp} : ∀ {k : Nat} {s : PS} {K K' : PS → Prop}, (∀ s, K s → K' s) → wpLB C on k l s K → wpLB C on k l s K' := by
  induction l with
  | nil => intro k s K K' hk h; exact hk _ h
  | cons o l ih => intro k s K K' hk h; exact ⟨h.1, wpG_mono (fun _ h => ih hk h) h.2⟩
theorem pwp_mono {p : PCode} : ∀ {s : PS} {K K' : Ex → PS → Prop}, (∀ e s, K e s → K' e s) → pwp C p s K → pwp C p s K' := by
  induction p with
  | skip => intro s K K' hk h; exact hk _ _ h
  | ops d l => intro s K K' hk h; exact wpL_mono (hk _) h
  | opsB l on => intro s K K' hk h; exact wpLB_mono (hk _) h
  | seq a b iha ihb => intro s K K' hk h; exact iha (fun e s h => by cases e <;> first | exact ihb hk h | exact hk _ _ h) h
  | cond x a b iha ihb =>
    intro s K K' hk h
    simp only [pwp] at h ⊢
    split at h
    · exact ⟨fun e => iha hk (h.1 e), fun e => ihb hk (h.2 e)⟩
    · exact h
  | block id a iha =>
    intro s K K' hk h
    refine iha (fun e s h => ?_) h
    cases e <;> simp only [Ex.blk] at h ⊢
    · exact hk _ _ h
    · split at h <;> (rename_i hj; first | rw [if_pos hj] | rw [if_neg hj]) <;> exact hk _ _ h
    · exact hk _ _ h
  | loop a iha =>
    intro s K K' hk h X hX
    exact h X fun s h => hX s (iha (fun e s h => by cases e <;> first | exact h | exact hk _ _ h) h)
  | exit id => intro s K K' hk h; exact hk _ _ h
  | ret => intro s K K' hk h; exact hk _ _ h
  | fz i a iha =>
    intro s K K' hk h
    simp only [pwp] at h ⊢
    split at h
    · split at h
      · exact iha hk h
      · exact h
    · exact iha hk h
    · exact h
  | rn i e a iha =>
    intro s K K' hk h
    simp only [pwp] at h ⊢
    split at h
    · refine ⟨fun e => iha hk (h.1 e), fun e => ?_⟩
      have h2 := h.2 e
      split at h2
      · exact ⟨h2.1, iha hk h2.2⟩
      · exact h2
    · exact h
  | fzc i k a iha =>
    intro s K K' hk h
    simp only [pwp] at h ⊢
    split at h
    · split at h
      · refine ⟨h.1, ?_⟩
        have h := h.2
        split at h
        · refine ⟨h.1, ?_⟩
          have h := h.2
          split at h
          · exact iha hk h
          · exact h
        · exact iha hk h
        · exact h
      · exact ⟨h.1, iha hk h.2⟩
      · exact h
    · exact h
  | rnc i k e a iha =>
    intro s K K' hk h
    simp only [pwp] at h ⊢
    split at h
    · split at h
      · refine ⟨h.1, h.2.1, ?_⟩
        have h := h.2.2
        split at h
        · refine ⟨fun e => iha hk (h.1 e), fun e => ⟨(h.2 e).1, ?_⟩⟩
          have h := (h.2 e).2
          split at h
          · exact ⟨h.1, iha hk h.2⟩
          · exact h
        · exact iha hk h
        · exact h
      · exact ⟨h.1, iha hk h.2⟩
      · exact h
    · exact h
  | nvp i a iha =>
    intro s K K' hk h
    simp only [pwp] at h ⊢
    split at h
    · split at h
      · refine ⟨h.1, ?_⟩
        have h := h.2
        split at h
        · exact iha hk h
        · exact h
      · exact ⟨h.1, iha hk h.2⟩
      · exact h
    · exact h
theorem w_loop (h : wP C p s (xT (fun s' => wP C (.loop p) s' K) K)) : wP C (.loop p) s K := by
  intro X hX
  apply hX
  refine pwp_mono (fun e s' he => ?_) h
  cases e
  · exact he X hX
  · exact he
  · exact he
theorem box_same {s : PS} {g : Nat} {v : Box} (h : s.bx g = v) : s.box g v = s := by
  cases s; simp only [PS.box, PS.mk.injEq, true_and]; funext i; split
  · rename_i e; subst e; exact h.symm
  · rfl
end
attribute [irreducible] wL wP xT xB
end Go.Pl
/-
  WHAT A PLAIN OPERATION READS AND WRITES: so that operations of a statement whose order is open may change places. My own work.
-/
namespace Go.Pl
set_option linter.unusedVariables false
set_option linter.unusedSimpArgs false
inductive Cl where
  | pure | kr | mr | mw | x
  deriving DecidableEq
def optl : Option PO → List PO
  | some x => [x]
  | none => []
def opds : PK → List PO
  | .mv x | .box _ x | .load _ _ x _ | .un _ x | .conv _ x | .fld _ _ _ x | .fad _ x | .ext x _ | .len x | .lenS x | .nilc x | .mki _ x => [x]
  | .pick c a b => [c, a, b]
  | .own0 _ | .alloc _ => []
  | .build _ ps => ps.map (·.2.2)
  | .bsl _ _ _ ps _ => ps.map (·.2)
  | .store _ a x _ | .bin _ a x | .eqs _ _ _ a x | .iaA _ _ a x | .iaS _ a x | .idA _ _ _ a x | .idS a x | .app _ a x _ => [a, x]
  | .slc _ x lo hi | .slS x lo hi | .slA _ _ x lo hi => x :: (optl lo ++ optl hi)
  | .mm _ x l => x :: l
  | .xf _ l => l
  | .call _ _ l => l
def cls : PK → Cl
  | .load _ _ _ _ => .mr
  | .store _ _ _ _ => .mw
  | .fad _ _ | .iaA _ _ _ _ | .iaS _ _ _ | .nilc _ | .len _ => .kr
  | .app _ _ _ _ | .call true _ _ => .x
  | _ => .pure
def tmpsOf (l : List PO) : List Nat := l.filterMap fun | .t i => some i | .k _ => none
def kindEq (b b' : Box) : Prop := b.ver = b'.ver ∧ (match b.st, b'.st with
  | .var _, .var _ | .vp _, .vp _ | .var _, .vp _ | .vp _, .var _ | .dead, .dead => True
  | .sl z _, .sl z' _ => z = z'
  | _, _ => False)
theorem kindEq.refl (b : Box) : kindEq b b := by
  obtain ⟨v, st⟩ := b
  cases st <;> exact ⟨rfl, by simp⟩
def opReads (k : PK) : List Nat := tmpsOf (opds k)
theorem ev_agree {s u : PS} {k : PK} (h : ∀ t ∈ opReads k, u.t t = s.t t) : ∀ x ∈ opds k, u.ev x = s.ev x := by
  intro x hx
  cases x with
  | t i => exact h i (List.mem_filterMap.2 ⟨.t i, hx, rfl⟩)
  | k v => rfl
theorem evc_agree {s u : PS} {x : PO} (h : u.ev x = s.ev x) : u.evc x = s.evc x := by simp only [PS.evc, h]
def upd (dst : Option Nat) (v : PV) (wb : Nat → Option Box) (u : PS) : PS where
  t := fun i => if some i = dst then v else u.t i
  bx := fun i => (wb i).getD (u.bx i)
def nob : Nat → Option Box := fun _ => none
def oneb (d : Nat) (b : Box) : Nat → Option Box := fun i => if i = d then some b else none
theorem upd_putO (dst : Option Nat) (v : PV) (u : PS) : u.putO dst v = upd dst v nob u := by
  cases dst with
  | none => simp [PS.putO, upd, nob]
  | some d => simp [PS.putO, PS.put, upd, nob]
theorem upd_box (v : PV) (d e : Nat) (b : Box) (u : PS) : (u.box e b).put d v = upd (some d) v (oneb e b) u := by
  simp only [PS.put, PS.box, upd, PS.mk.injEq]
  refine ⟨by funext i; simp, ?_⟩
  funext i
  by_cases h : i = e <;> simp [oneb, h]
theorem upd_boxn (e : Nat) (b : Box) (u : PS) : u.box e b = upd none .undef (oneb e b) u := by
  simp only [PS.box, upd, PS.mk.injEq]
  refine ⟨by funext i; simp, ?_⟩
  funext i
  by_cases h : i = e <;> simp [oneb, h]
def Pure1 (dst : Option Nat) (k : PK) : Prop := ∀ (s u s' : PS), (∀ t ∈ opReads k, u.t t = s.t t) → pstep dst s k = some s' → ∃ v, s' = s.putO dst v ∧ pstep dst u k = some (u.putO dst v)
theorem evcs_agree {s u : PS} : ∀ {l : List PO}, (∀ x ∈ l, u.ev x = s.ev x) → evcs u l = evcs s l
  | [], _ => rfl
  | x :: l, h => by simp only [evcs, evc_agree (h x (by simp)), evcs_agree (l := l) fun y hy => h y (by simp [hy])]
theorem partsC_agree {s u : PS} : ∀ {l : List (Nat × Nat × PO)}, (∀ x ∈ l.map (·.2.2), u.ev x = s.ev x) → partsC u l = partsC s l
  | [], _ => rfl
  | (a, b, x) :: l, h => by simp only [partsC, evc_agree (h x (by simp)), partsC_agree (l := l) fun y hy => h y (by simp at hy ⊢; exact .inr hy)]
theorem partsS_agree {s u : PS} : ∀ {l : List (Nat × PO)}, (∀ x ∈ l.map (·.2), u.ev x = s.ev x) → partsS u l = partsS s l
  | [], _ => rfl
  | (a, x) :: l, h => by simp only [partsS, evc_agree (h x (by simp)), partsS_agree (l := l) fun y hy => h y (by simp at hy ⊢; exact .inr hy)]
theorem foldMm_agree {s u : PS} {mx : Bool} {k : IntKind} : ∀ {l : List PO} {a : Int}, (∀ x ∈ l, u.ev x = s.ev x) → foldMm u mx k a l = foldMm s mx k a l
  | [], _, _ => rfl
  | x :: l, a, h => by
    simp only [foldMm, evc_agree (h x (by simp))]
    split
    · split
      · exact foldMm_agree (l := l) fun y hy => h y (by simp [hy])
      · rfl
    · rfl
theorem bound_agree {s u : PS} {n : Nat} {o : Option PO} (h : ∀ x ∈ optl o, u.ev x = s.ev x) : bound u n o = bound s n o := by
  cases o with
  | none => rfl
  | some x => simp only [bound, evc_agree (h x (by simp [optl]))]
theorem pure_mv (dst : Option Nat) (x : PO) : Pure1 dst (.mv x) := by
  intro s u s' h hs
  have he := ev_agree h
  simp only [opds, List.mem_singleton, forall_eq] at he
  simp only [pstep, he] at hs ⊢
  exact ⟨_, (Option.some.inj hs).symm, rfl⟩
theorem locPure {dst : Option Nat} {k : PK} (hk : cls k = .pure) (hn : isNew k = false) (hc : ∀ m f l, k ≠ .call m f l) : Pure1 dst k := by
  intro s u s' h hs
  have he := ev_agree h
  cases k <;> simp only [cls, isNew, reduceCtorEq] at hk hn
  case mv x => exact pure_mv dst x s u s' h hs
  case pick c a b =>
    simp only [opds, List.mem_cons, List.not_mem_nil, or_false, forall_eq_or_imp, forall_eq] at he
    simp only [pstep, he.1, he.2.1, he.2.2] at hs ⊢
    split at hs <;> first | (cases hs; done) | exact ⟨_, (Option.some.inj hs).symm, rfl⟩
  case build z ps =>
    have hp := partsC_agree (s := s) (u := u) (l := ps) he
    simp only [pstep, hp] at hs ⊢
    split at hs
    · rename_i l hl
      cases hf : fillC z l with
      | none => rw [hf] at hs; cases hs
      | some cs =>
        rw [hf] at hs
        exact ⟨_, (Option.some.inj hs).symm, by simp [hl, hf]⟩
    · cases hs
  case bsl sz len zc ps own =>
    subst hn
    have hp := partsS_agree (s := s) (u := u) (l := ps) he
    simp only [pstep, hp] at hs ⊢
    split at hs
    · rename_i l hl
      split at hs
      · rename_i es hf
        exact ⟨_, (Option.some.inj hs).symm, by simp [hl, hf]⟩
      · rename_i hb; cases hb
      · cases hs
    · cases hs
  case bin op x y =>
    simp only [opds, List.mem_cons, List.not_mem_nil, or_false, forall_eq_or_imp, forall_eq] at he
    simp only [pstep, evc_agree he.1, evc_agree he.2] at hs ⊢
    split at hs
    · rename_i a b ha hb
      cases hf : binC op a b with
      | none => rw [hf] at hs; cases hs
      | some cs =>
        rw [hf] at hs
        exact ⟨_, (Option.some.inj hs).symm, by simp [ha, hb, hf]⟩
    · cases hs
  case un op x =>
    simp only [opds, List.mem_singleton, forall_eq] at he
    simp only [pstep, evc_agree he] at hs ⊢
    split at hs
    · rename_i a ha
      cases hf : unC op a with
      | none => rw [hf] at hs; cases hs
      | some cs =>
        rw [hf] at hs
        exact ⟨_, (Option.some.inj hs).symm, by simp [ha, hf]⟩
    · cases hs
  case eqs neq ag sh x y =>
    simp only [opds, List.mem_cons, List.not_mem_nil, or_false, forall_eq_or_imp, forall_eq] at he
    simp only [pstep, evc_agree he.1, evc_agree he.2] at hs ⊢
    split at hs
    · rename_i a b ha hb
      cases hf : eqC ag sh a b with
      | none => rw [hf] at hs; cases hs
      | some cs =>
        rw [hf] at hs
        exact ⟨_, (Option.some.inj hs).symm, by simp [ha, hb, hf]⟩
    · cases hs
  case conv k x =>
    simp only [opds, List.mem_singleton, forall_eq] at he
    simp only [pstep, evc_agree he] at hs ⊢
    split at hs
    · rename_i ha; exact ⟨_, (Option.some.inj hs).symm, by simp [ha]⟩
    · cases hs
  case fld a o n x =>
    simp only [opds, List.mem_singleton, forall_eq] at he
    simp only [pstep, evc_agree he] at hs ⊢
    split at hs
    · rename_i ha
      split at hs
      · rename_i hc; exact ⟨_, (Option.some.inj hs).symm, by simp [ha, hc]⟩
      · cases hs
    · cases hs
  case idA a len sz x i =>
    simp only [opds, List.mem_cons, List.not_mem_nil, or_false, forall_eq_or_imp, forall_eq] at he
    simp only [pstep, evc_agree he.1, evc_agree he.2] at hs ⊢
    split at hs
    · rename_i ha hb
      split at hs
      · rename_i hc; exact ⟨_, (Option.some.inj hs).symm, by rw [if_pos hc]⟩
      · cases hs
    · cases hs
  case idS x i =>
    simp only [opds, List.mem_cons, List.not_mem_nil, or_false, forall_eq_or_imp, forall_eq] at he
    simp only [pstep, evc_agree he.1, evc_agree he.2] at hs ⊢
    split at hs
    · rename_i ha hb
      split at hs
      · rename_i hc
        split at hs
        · rename_i hd; exact ⟨_, (Option.some.inj hs).symm, by rw [if_pos hc]⟩
        · cases hs
      · cases hs
    · cases hs
  case ext x j =>
    simp only [opds, List.mem_singleton, forall_eq] at he
    simp only [pstep, evc_agree he] at hs ⊢
    split at hs
    · rename_i ha
      split at hs
      · rename_i hc; exact ⟨_, (Option.some.inj hs).symm, by simp [ha, hc]⟩
      · cases hs
    · cases hs
  case lenS x =>
    simp only [opds, List.mem_singleton, forall_eq] at he
    simp only [pstep, evc_agree he] at hs ⊢
    split at hs
    · rename_i ha; exact ⟨_, (Option.some.inj hs).symm, by simp [ha]⟩
    · cases hs
  case slc sz x lo hi =>
    have h1 := he x (by simp [opds])
    have h2 : ∀ n, bound u n lo = bound s n lo := fun n => bound_agree fun y hy => he y (by simp [opds, hy])
    have h3 : ∀ n, bound u n hi = bound s n hi := fun n => bound_agree fun y hy => he y (by simp [opds, hy])
    simp only [pstep, h1, h2, h3] at hs ⊢
    split at hs
    · rename_i es ha
      split at hs
      · rename_i l k hl hk
        split at hs
        · rename_i hc; exact ⟨_, (Option.some.inj hs).symm, by rw [if_pos hc]⟩
        · cases hs
      · cases hs
    · cases hs
  case slS x lo hi =>
    have h1 := he x (by simp [opds])
    have h2 : ∀ n, bound u n lo = bound s n lo := fun n => bound_agree fun y hy => he y (by simp [opds, hy])
    have h3 : ∀ n, bound u n hi = bound s n hi := fun n => bound_agree fun y hy => he y (by simp [opds, hy])
    simp only [pstep, evc_agree h1, h2, h3] at hs ⊢
    split at hs
    · rename_i es ha
      split at hs
      · rename_i l k hl hk
        split at hs
        · rename_i hc; exact ⟨_, (Option.some.inj hs).symm, by rw [if_pos hc]⟩
        · cases hs
      · cases hs
    · cases hs
  case slA => cases hs
  case mki t x =>
    simp only [opds, List.mem_singleton, forall_eq] at he
    simp only [pstep, evc_agree he] at hs ⊢
    split at hs
    · rename_i ha; exact ⟨_, (Option.some.inj hs).symm, by simp [ha]⟩
    · cases hs
  case mm mx x l =>
    have h1 := he x (by simp [opds])
    have h2 : ∀ k a, foldMm u mx k a l = foldMm s mx k a l := fun k a => foldMm_agree fun y hy => he y (by simp [opds, hy])
    simp only [pstep, evc_agree h1, h2] at hs ⊢
    split at hs
    · rename_i ha
      split at hs
      · rename_i hc; exact ⟨_, (Option.some.inj hs).symm, by simp [ha, hc]⟩
      · cases hs
    · cases hs
  case xf g l =>
    simp only [pstep, evcs_agree (l := l) fun y hy => he y hy] at hs ⊢
    split at hs
    · rename_i cs ha
      cases hf : xfC g cs with
      | none => rw [hf] at hs; cases hs
      | some v =>
        rw [hf] at hs
        exact ⟨_, (Option.some.inj hs).symm, by simp [ha, hf]⟩
    · cases hs
  case call m f l => exact absurd rfl (hc _ _ _)
def AgB (k : PK) (dst : Option Nat) (s u : PS) : Prop :=
  (∀ e ver, ref k s = some (e, ver) → (cls k = .kr → kindEq (s.bx e) (u.bx e)) ∧ (cls k ≠ .kr → u.bx e = s.bx e)) ∧ (isNew k = true → ∀ d, dst = some d → u.bx d = s.bx d)
def Wb (k : PK) (dst : Option Nat) (s : PS) (wb : Nat → Option Box) : Prop :=
  ∀ i b, wb i = some b → (cls k = .mw ∧ (∃ ver, ref k s = some (i, ver)) ∧ kindEq (s.bx i) b) ∨ (cls k = .x ∧ ∃ ver, ref k s = some (i, ver)) ∨ (isNew k = true ∧ dst = some i ∧ (s.bx i).ver < b.ver)
structure LocK (C : CallP) (dst : Option Nat) (k : PK) (s s' : PS) (v : PV) (wb : Nat → Option Box) : Prop where
  eq : s' = upd dst v wb s
  again : ∀ u, (∀ t ∈ opReads k, u.t t = s.t t) → AgB k dst s u → wpK C ⟨dst, k, none⟩ u (· = upd dst v wb u)
  wb : Wb k dst s wb
  live : ∀ e ver, ref k s = some (e, ver) → cls k ≠ .pure → (s.bx e).ver = ver ∧ (s.bx e).st ≠ .dead
theorem kind_var {b b' : Box} {v : Nat} {st : BSt} (h : kindEq b b') (hb : b = ⟨v, st⟩) (hs : st.isv = true) : (∃ cs', b' = ⟨v, .var cs'⟩) ∨ ∃ ps', b' = ⟨v, .vp ps'⟩ := by
  subst hb
  obtain ⟨w, st'⟩ := b'
  obtain ⟨h1, h2⟩ := h
  simp only at h1
  subst h1
  cases st' <;> first | exact .inl ⟨_, rfl⟩ | exact .inr ⟨_, rfl⟩ | (cases st <;> first | (simp at h2; done) | (cases hs; done))
theorem kind_sl {b b' : Box} {v z : Nat} {es : List (List CV)} (h : kindEq b b') (hb : b = ⟨v, .sl z es⟩) : ∃ es', b' = ⟨v, .sl z es'⟩ := by
  subst hb
  obtain ⟨w, st⟩ := b'
  obtain ⟨h1, h2⟩ := h
  simp only at h1
  subst h1
  cases st <;> first | (simp only at h2; subst h2; exact ⟨_, rfl⟩) | (simp at h2)
section
variable {C : CallP} {dst : Option Nat} {s s' : PS}
theorem wpK_step {k : PK} {u : PS} {t : PS} (hc : ∀ m f l, k ≠ .call m f l) (h : pstep dst u k = some t) : wpK C ⟨dst, k, none⟩ u (· = t) := by
  cases k
  case call m f l => exact absurd rfl (hc _ _ _)
  all_goals (simp only [wpK, h])
theorem Wb.none {k : PK} : Wb k dst s nob := fun i b h => by cases h
theorem LocK.put {k : PK} {v : PV} (hc : ∀ m f l, k ≠ .call m f l) (he : s' = s.putO dst v) (ha : ∀ u, (∀ t ∈ opReads k, u.t t = s.t t) → AgB k dst s u → pstep dst u k = some (u.putO dst v))
    (hl : ∀ e ver, ref k s = some (e, ver) → cls k ≠ .pure → (s.bx e).ver = ver ∧ (s.bx e).st ≠ .dead) : LocK C dst k s s' v nob :=
  ⟨by rw [he, upd_putO], fun u hu hb => by rw [← upd_putO]; exact wpK_step hc (ha u hu hb), Wb.none, hl⟩
theorem loc_pure {k : PK} (hk : cls k = .pure) (hn : isNew k = false) (hc : ∀ m f l, k ≠ .call m f l) (hs : pstep dst s k = some s') : ∃ v wb, LocK C dst k s s' v wb := by
  obtain ⟨v, he, _⟩ := locPure hk hn hc s s s' (fun _ _ => rfl) hs
  refine ⟨v, nob, LocK.put hc he (fun u hu _ => ?_) fun e ver _ h => absurd hk h⟩
  obtain ⟨v', he', hu'⟩ := locPure hk hn hc s u s' hu hs
  cases dst with
  | none => exact hu'
  | some d =>
    have : v = v' := by
      have h1 := congrArg (fun p : PS => p.t d) (he.symm.trans he')
      simpa [PS.putO, PS.put] using h1
    rw [this]; exact hu'
theorem loc_load {f : Bool} {n : Nat} {x : PO} {av : List Nat} (hs : pstep dst s (.load f n x av) = some s') : ∃ v wb, LocK C dst (.load f n x av) s s' v wb := by
  have hev : ∀ u : PS, (∀ t ∈ opReads (.load f n x av), u.t t = s.t t) → u.ev x = s.ev x := fun u hu => ev_agree hu x (by simp [opds])
  simp only [pstep] at hs
  split at hs
  · rename_i cs hx
    split at hs
    · rename_i hc
      refine ⟨_, nob, LocK.put (by intros; simp) (Option.some.inj hs).symm (fun u hu _ => by simp only [pstep, hev u hu, hx]; rw [if_pos hc]) fun e ver hr _ => ?_⟩
      simp [ref, key, hx, refOf] at hr
    · cases hs
  · rename_i d ver off hx
    have hr : ref (.load f n x av) s = some (d, ver) := by simp [ref, key, hx, refOf]
    split at hs
    · cases hs
    · rename_i hav
      split at hs
      · rename_i v cs hb
        split at hs
        · rename_i hc
          refine ⟨_, nob, LocK.put (by intros; simp) (Option.some.inj hs).symm (fun u hu hab => ?_) fun e ver' hr' _ => ?_⟩
          · have := (hab.1 d ver hr).2 (by simp [cls])
            simp only [pstep, hev u hu, hx, if_neg hav, this, hb]; rw [if_pos hc]
          · rw [hr] at hr'; cases hr'; rw [hb]; exact ⟨hc.1, by simp⟩
        · cases hs
      · rename_i v cs hb
        split at hs
        · rename_i hc
          split at hs
          · rename_i pv hpv
            refine ⟨_, nob, LocK.put (by intros; simp) (Option.some.inj hs).symm (fun u hu hab => ?_) fun e ver' hr' _ => ?_⟩
            · have := (hab.1 d ver hr).2 (by simp [cls])
              simp only [pstep, hev u hu, hx, if_neg hav, this, hb]; rw [if_pos hc, hpv]
            · rw [hr] at hr'; cases hr'; rw [hb]; exact ⟨hc.1, by simp⟩
          · cases hs
        · cases hs
      · cases hs
  · rename_i d ver i off hx
    have hr : ref (.load f n x av) s = some (d, ver) := by simp [ref, key, hx, refOf]
    split at hs
    · cases hs
    · rename_i hav
      split at hs
      · rename_i v sz es hb
        split at hs
        · rename_i e he
          split at hs
          · rename_i hc
            refine ⟨_, nob, LocK.put (by intros; simp) (Option.some.inj hs).symm (fun u hu hab => ?_) fun e ver' hr' _ => ?_⟩
            · have := (hab.1 d ver hr).2 (by simp [cls])
              simp only [pstep, hev u hu, hx, if_neg hav, this, hb, he]; rw [if_pos hc]
            · rw [hr] at hr'; cases hr'; rw [hb]; exact ⟨hc.1, by simp⟩
          · cases hs
        · cases hs
      · cases hs
  · cases hs
theorem loc_store {n : Nat} {x y : PO} {av : List Nat} (hd : dst = none) (hs : pstep dst s (.store n x y av) = some s') : ∃ v wb, LocK C dst (.store n x y av) s s' v wb := by
  subst hd
  have hev : ∀ u : PS, (∀ t ∈ opReads (.store n x y av), u.t t = s.t t) → u.ev x = s.ev x ∧ u.evc y = s.evc y ∧ u.ev y = s.ev y := fun u hu => ⟨ev_agree hu x (by simp [opds]), evc_agree (ev_agree hu y (by simp [opds])), ev_agree hu y (by simp [opds])⟩
  -- a store into a variable
  have fin : ∀ (d ver : Nat) (b : Box), ref (.store n x y av) s = some (d, ver) → (s.bx d).ver = ver → (s.bx d).st ≠ .dead → kindEq (s.bx d) b → s' = s.box d b →
      (∀ u : PS, u.ev x = s.ev x ∧ u.evc y = s.evc y ∧ u.ev y = s.ev y → u.bx d = s.bx d → pstep none u (.store n x y av) = some (u.box d b)) → ∃ v wb, LocK C none (.store n x y av) s s' v wb := by
    intro d ver b hr hv hdead hk he hp
    rw [upd_boxn] at he
    refine ⟨.undef, oneb d _, he, fun u hu hab => ?_, fun i b' hi => ?_, fun e ver' hr' _ => ?_⟩
    · have := (hab.1 d ver hr).2 (by simp [cls])
      refine wpK_step (by intros; simp) ?_
      rw [hp u (hev u hu) this, upd_boxn]
    · simp only [oneb] at hi
      split at hi
      · rename_i e; subst e; cases hi; exact .inl ⟨rfl, ⟨_, hr⟩, hk⟩
      · cases hi
    · rw [hr] at hr'; cases hr'; exact ⟨hv, hdead⟩
  simp only [pstep] at hs
  split at hs
  · rename_i d ver off v hx hy
    have hr : ref (.store n x y av) s = some (d, ver) := by simp [ref, key, hx, refOf]
    split at hs
    · cases hs
    · rename_i hav
      split at hs
      · rename_i q cs hb
        split at hs
        · rename_i hc
          exact fin d ver _ hr (by rw [hb]; exact hc.1) (by rw [hb]; simp) (by rw [hb]; exact ⟨rfl, by simp⟩) (Option.some.inj hs).symm fun u hu hub => by simp only [pstep, hu.1, hu.2.1, hx, hy, if_neg hav, hub, hb]; rw [if_pos hc]
        · cases hs
      · rename_i q cs hb
        split at hs
        · rename_i hc
          exact fin d ver _ hr (by rw [hb]; exact hc.1) (by rw [hb]; simp) (by rw [hb]; exact ⟨rfl, by simp⟩) (Option.some.inj hs).symm fun u hu hub => by simp only [pstep, hu.1, hu.2.1, hx, hy, if_neg hav, hub, hb]; rw [if_pos hc]
        · cases hs
      · cases hs
  · rename_i d ver off hx hy
    have hr : ref (.store n x y av) s = some (d, ver) := by simp [ref, key, hx, refOf]
    split at hs
    · cases hs
    · rename_i hav
      split at hs
      · rename_i hrf
        split at hs
        · rename_i q cs hb
          split at hs
          · rename_i hc
            exact fin d ver _ hr (by rw [hb]; exact hc.1) (by rw [hb]; simp) (by rw [hb]; exact ⟨rfl, by simp⟩) (Option.some.inj hs).symm fun u hu hub => by simp only [pstep, hu.1, hu.2.1, hu.2.2, hx, hy, if_neg hav, hub, hb]; rw [if_pos hrf, if_pos hc]
          · cases hs
        · rename_i q cs hb
          split at hs
          · rename_i hc
            exact fin d ver _ hr (by rw [hb]; exact hc.1) (by rw [hb]; simp) (by rw [hb]; exact ⟨rfl, by simp⟩) (Option.some.inj hs).symm fun u hu hub => by simp only [pstep, hu.1, hu.2.1, hu.2.2, hx, hy, if_neg hav, hub, hb]; rw [if_pos hrf, if_pos hc]
          · cases hs
        · cases hs
      · cases hs
  · rename_i d ver k off v hx hy
    have hr : ref (.store n x y av) s = some (d, ver) := by simp [ref, key, hx, refOf]
    split at hs
    · cases hs
    · rename_i hav
      split at hs
      · rename_i q sz es hb
        split at hs
        · rename_i e0 he0
          split at hs
          · rename_i hc
            exact fin d ver _ hr (by rw [hb]; exact hc.1) (by rw [hb]; simp) (by rw [hb]; exact ⟨rfl, by simp⟩) (Option.some.inj hs).symm fun u hu hub => by simp only [pstep, hu.1, hu.2.1, hx, hy, if_neg hav, hub, hb, he0]; rw [if_pos hc]
          · cases hs
        · cases hs
      · cases hs
  · cases hs
end
end Go.Pl
/-
  WHAT A PLAIN OPERATION READS AND WRITES, GOES ON. My own work.
-/
namespace Go.Pl
set_option linter.unusedVariables false
set_option linter.unusedSimpArgs false
section
variable {C : CallP} {dst : Option Nat} {s s' : PS}
theorem loc_fad {o : Nat} {x : PO} (hs : pstep dst s (.fad o x) = some s') : ∃ v wb, LocK C dst (.fad o x) s s' v wb := by
  have hev : ∀ u : PS, (∀ t ∈ opReads (.fad o x), u.t t = s.t t) → u.ev x = s.ev x := fun u hu => ev_agree hu x (by simp [opds])
  simp only [pstep] at hs
  split at hs
  · rename_i cs hx
    split at hs
    · rename_i hc
      refine ⟨_, nob, LocK.put (by intros; simp) (Option.some.inj hs).symm (fun u hu _ => by simp only [pstep, hev u hu, hx]; rw [if_pos hc]) fun e ver hr _ => ?_⟩
      simp [ref, key, hx, refOf] at hr
    · cases hs
  · rename_i d ver off hx
    have hr : ref (.fad o x) s = some (d, ver) := by simp [ref, key, hx, refOf]
    split at hs
    · rename_i q cs hb
      split at hs
      · rename_i hc
        refine ⟨_, nob, LocK.put (by intros; simp) (Option.some.inj hs).symm (fun u hu hab => ?_) fun e ver' hr' _ => ?_⟩
        · rcases kind_var ((hab.1 d ver hr).1 rfl) hb rfl with ⟨cs', hb'⟩ | ⟨cs', hb'⟩ <;> (simp only [pstep, hev u hu, hx, hb']; rw [if_pos hc])
        · rw [hr] at hr'; cases hr'; rw [hb]; exact ⟨hc, by simp⟩
      · cases hs
    · rename_i q cs hb
      split at hs
      · rename_i hc
        refine ⟨_, nob, LocK.put (by intros; simp) (Option.some.inj hs).symm (fun u hu hab => ?_) fun e ver' hr' _ => ?_⟩
        · rcases kind_var ((hab.1 d ver hr).1 rfl) hb rfl with ⟨cs', hb'⟩ | ⟨cs', hb'⟩ <;> (simp only [pstep, hev u hu, hx, hb']; rw [if_pos hc])
        · rw [hr] at hr'; cases hr'; rw [hb]; exact ⟨hc, by simp⟩
      · cases hs
    · cases hs
  · rename_i d ver i off hx
    have hr : ref (.fad o x) s = some (d, ver) := by simp [ref, key, hx, refOf]
    split at hs
    · rename_i q sz es hb
      split at hs
      · rename_i hc
        refine ⟨_, nob, LocK.put (by intros; simp) (Option.some.inj hs).symm (fun u hu hab => ?_) fun e ver' hr' _ => ?_⟩
        · obtain ⟨cs', hb'⟩ := kind_sl ((hab.1 d ver hr).1 rfl) hb
          simp only [pstep, hev u hu, hx, hb']; rw [if_pos hc]
        · rw [hr] at hr'; cases hr'; rw [hb]; exact ⟨hc, by simp⟩
      · cases hs
    · cases hs
  · cases hs
theorem loc_nilc {x : PO} (hs : pstep dst s (.nilc x) = some s') : ∃ v wb, LocK C dst (.nilc x) s s' v wb := by
  have hev : ∀ u : PS, (∀ t ∈ opReads (.nilc x), u.t t = s.t t) → u.ev x = s.ev x := fun u hu => ev_agree hu x (by simp [opds])
  simp only [pstep] at hs
  split at hs
  · rename_i d ver off hx
    have hr : ref (.nilc x) s = some (d, ver) := by simp [ref, key, hx, refOf]
    split at hs
    · rename_i q cs hb
      split at hs
      · rename_i hc
        refine ⟨_, nob, LocK.put (by intros; simp) (Option.some.inj hs).symm (fun u hu hab => ?_) fun e ver' hr' _ => ?_⟩
        · rcases kind_var ((hab.1 d ver hr).1 rfl) hb rfl with ⟨cs', hb'⟩ | ⟨cs', hb'⟩ <;> (simp only [pstep, hev u hu, hx, hb']; rw [if_pos hc])
        · rw [hr] at hr'; cases hr'; rw [hb]; exact ⟨hc, by simp⟩
      · cases hs
    · rename_i q cs hb
      split at hs
      · rename_i hc
        refine ⟨_, nob, LocK.put (by intros; simp) (Option.some.inj hs).symm (fun u hu hab => ?_) fun e ver' hr' _ => ?_⟩
        · rcases kind_var ((hab.1 d ver hr).1 rfl) hb rfl with ⟨cs', hb'⟩ | ⟨cs', hb'⟩ <;> (simp only [pstep, hev u hu, hx, hb']; rw [if_pos hc])
        · rw [hr] at hr'; cases hr'; rw [hb]; exact ⟨hc, by simp⟩
      · cases hs
    · cases hs
  · rename_i cs hx
    refine ⟨_, nob, LocK.put (by intros; simp) (Option.some.inj hs).symm (fun u hu _ => by simp only [pstep, hev u hu, hx]) fun e ver hr _ => ?_⟩
    simp [ref, key, hx, refOf] at hr
  · rename_i d ver i off hx
    have hr : ref (.nilc x) s = some (d, ver) := by simp [ref, key, hx, refOf]
    split at hs
    · rename_i q sz es hb
      split at hs
      · rename_i hc
        refine ⟨_, nob, LocK.put (by intros; simp) (Option.some.inj hs).symm (fun u hu hab => ?_) fun e ver' hr' _ => ?_⟩
        · obtain ⟨cs', hb'⟩ := kind_sl ((hab.1 d ver hr).1 rfl) hb
          simp only [pstep, hev u hu, hx, hb']; rw [if_pos hc]
        · rw [hr] at hr'; cases hr'; rw [hb]; exact ⟨hc, by simp⟩
      · cases hs
    · cases hs
  · cases hs
theorem loc_iaA {len sz : Nat} {x y : PO} (hs : pstep dst s (.iaA len sz x y) = some s') : ∃ v wb, LocK C dst (.iaA len sz x y) s s' v wb := by
  have hev : ∀ u : PS, (∀ t ∈ opReads (.iaA len sz x y), u.t t = s.t t) → u.ev x = s.ev x ∧ u.evc y = s.evc y := fun u hu => ⟨ev_agree hu x (by simp [opds]), evc_agree (ev_agree hu y (by simp [opds]))⟩
  simp only [pstep] at hs
  split at hs
  · rename_i k n hy
    split at hs
    · rename_i hn
      split at hs
      · rename_i cs hx
        split at hs
        · rename_i hc
          refine ⟨_, nob, LocK.put (by intros; simp) (Option.some.inj hs).symm (fun u hu _ => by simp only [pstep, (hev u hu).1, (hev u hu).2, hx, hy]; rw [if_pos hn, if_pos hc]) fun e ver hr _ => ?_⟩
          simp [ref, key, hx, refOf] at hr
        · cases hs
      · rename_i d ver off hx
        have hr : ref (.iaA len sz x y) s = some (d, ver) := by simp [ref, key, hx, refOf]
        split at hs
        · rename_i q cs hb
          split at hs
          · rename_i hc
            refine ⟨_, nob, LocK.put (by intros; simp) (Option.some.inj hs).symm (fun u hu hab => ?_) fun e ver' hr' _ => ?_⟩
            · rcases kind_var ((hab.1 d ver hr).1 rfl) hb rfl with ⟨cs', hb'⟩ | ⟨cs', hb'⟩ <;> (simp only [pstep, (hev u hu).1, (hev u hu).2, hx, hy, hb']; rw [if_pos hn, if_pos hc])
            · rw [hr] at hr'; cases hr'; rw [hb]; exact ⟨hc, by simp⟩
          · cases hs
        · rename_i q cs hb
          split at hs
          · rename_i hc
            refine ⟨_, nob, LocK.put (by intros; simp) (Option.some.inj hs).symm (fun u hu hab => ?_) fun e ver' hr' _ => ?_⟩
            · rcases kind_var ((hab.1 d ver hr).1 rfl) hb rfl with ⟨cs', hb'⟩ | ⟨cs', hb'⟩ <;> (simp only [pstep, (hev u hu).1, (hev u hu).2, hx, hy, hb']; rw [if_pos hn, if_pos hc])
            · rw [hr] at hr'; cases hr'; rw [hb]; exact ⟨hc, by simp⟩
          · cases hs
        · cases hs
      · rename_i d ver i off hx
        have hr : ref (.iaA len sz x y) s = some (d, ver) := by simp [ref, key, hx, refOf]
        split at hs
        · rename_i q sz' es hb
          split at hs
          · rename_i hc
            refine ⟨_, nob, LocK.put (by intros; simp) (Option.some.inj hs).symm (fun u hu hab => ?_) fun e ver' hr' _ => ?_⟩
            · obtain ⟨cs', hb'⟩ := kind_sl ((hab.1 d ver hr).1 rfl) hb
              simp only [pstep, (hev u hu).1, (hev u hu).2, hx, hy, hb']; rw [if_pos hn, if_pos hc]
            · rw [hr] at hr'; cases hr'; rw [hb]; exact ⟨hc, by simp⟩
          · cases hs
        · cases hs
      · cases hs
    · cases hs
  · cases hs
theorem loc_iaS {sz : Nat} {x y : PO} (hs : pstep dst s (.iaS sz x y) = some s') : ∃ v wb, LocK C dst (.iaS sz x y) s s' v wb := by
  have hev : ∀ u : PS, (∀ t ∈ opReads (.iaS sz x y), u.t t = s.t t) → u.ev x = s.ev x ∧ u.evc y = s.evc y := fun u hu => ⟨ev_agree hu x (by simp [opds]), evc_agree (ev_agree hu y (by simp [opds]))⟩
  simp only [pstep] at hs
  split at hs
  · rename_i k n hy
    split at hs
    · rename_i es hx
      split at hs
      · rename_i hn
        split at hs
        · rename_i hc
          refine ⟨_, nob, LocK.put (by intros; simp) (Option.some.inj hs).symm (fun u hu _ => by simp only [pstep, (hev u hu).1, (hev u hu).2, hx, hy]; rw [if_pos hn, if_pos hc]) fun e ver hr _ => ?_⟩
          simp [ref, key, hx, refOf] at hr
        · cases hs
      · cases hs
    · rename_i d ver off len hx
      have hr : ref (.iaS sz x y) s = some (d, ver) := by simp [ref, key, hx, refOf]
      split at hs
      · rename_i q sz' es hb
        split at hs
        · rename_i hc
          refine ⟨_, nob, LocK.put (by intros; simp) (Option.some.inj hs).symm (fun u hu hab => ?_) fun e ver' hr' _ => ?_⟩
          · obtain ⟨cs', hb'⟩ := kind_sl ((hab.1 d ver hr).1 rfl) hb
            simp only [pstep, (hev u hu).1, (hev u hu).2, hx, hy, hb']; rw [if_pos hc]
          · rw [hr] at hr'; cases hr'; rw [hb]; exact ⟨hc.1, by simp⟩
        · cases hs
      · cases hs
    · cases hs
  · cases hs
theorem loc_len {x : PO} (hs : pstep dst s (.len x) = some s') : ∃ v wb, LocK C dst (.len x) s s' v wb := by
  have hev : ∀ u : PS, (∀ t ∈ opReads (.len x), u.t t = s.t t) → u.ev x = s.ev x := fun u hu => ev_agree hu x (by simp [opds])
  simp only [pstep] at hs
  split at hs
  · rename_i es hx
    refine ⟨_, nob, LocK.put (by intros; simp) (Option.some.inj hs).symm (fun u hu _ => by simp only [pstep, hev u hu, hx]) fun e ver hr _ => ?_⟩
    simp [ref, key, hx, refOf] at hr
  · rename_i d ver off len hx
    have hr : ref (.len x) s = some (d, ver) := by simp [ref, key, hx, refOf]
    split at hs
    · rename_i q sz' es hb
      split at hs
      · rename_i hc
        refine ⟨_, nob, LocK.put (by intros; simp) (Option.some.inj hs).symm (fun u hu hab => ?_) fun e ver' hr' _ => ?_⟩
        · obtain ⟨cs', hb'⟩ := kind_sl ((hab.1 d ver hr).1 rfl) hb
          simp only [pstep, hev u hu, hx, hb']; rw [if_pos hc]
        · rw [hr] at hr'; cases hr'; rw [hb]; exact ⟨hc, by simp⟩
      · cases hs
    · cases hs
  · cases hs
theorem loc_new {k : PK} {d : Nat} {b : Nat → Box} {pv : Nat → PV} (hver : ∀ v, v < (b v).ver) (hdst : dst = some d) (hk : isNew k = true) (hcl : cls k = .pure) (hc : ∀ m f l, k ≠ .call m f l)
    (hs : s' = (s.box d (b (s.bx d).ver)).put d (pv (s.bx d).ver)) (ha : ∀ u : PS, (∀ t ∈ opReads k, u.t t = s.t t) → pstep dst u k = some ((u.box d (b (u.bx d).ver)).put d (pv (u.bx d).ver))) : ∃ v wb, LocK C dst k s s' v wb := by
  subst hdst
  rw [upd_box] at hs
  refine ⟨_, _, hs, fun u hu hab => ?_, fun i b' hi => ?_, fun e ver hr h => absurd hcl h⟩
  · have := hab.2 hk d rfl
    refine wpK_step hc ?_
    rw [ha u hu, upd_box, this]
  · simp only [oneb] at hi
    split at hi
    · rename_i e; subst e; cases hi; exact .inr (.inr ⟨hk, rfl, hver _⟩)
    · cases hi
theorem loc_app {sz : Nat} {x y : PO} {own : Bool} (hs : pstep dst s (.app sz x y own) = some s') : ∃ v wb, LocK C dst (.app sz x y own) s s' v wb := by
  have hev : ∀ u : PS, (∀ t ∈ opReads (.app sz x y own), u.t t = s.t t) → u.ev x = s.ev x ∧ u.evc y = s.evc y := fun u hu => ⟨ev_agree hu x (by simp [opds]), evc_agree (ev_agree hu y (by simp [opds]))⟩
  simp only [pstep] at hs
  split at hs
  · rename_i e d ver off len ys hx hy
    have hr : ref (.app sz x y own) s = some (d, ver) := by simp [ref, key, hx, refOf]
    split at hs
    · rename_i q sz' es hb
      split at hs
      · rename_i hc
        have hlive : ∀ e ver', ref (.app sz x y own) s = some (e, ver') → cls (.app sz x y own) ≠ .pure → (s.bx e).ver = ver' ∧ (s.bx e).st ≠ .dead := by
          intro e ver' hr' _
          rw [hr] at hr'; cases hr'; rw [hb]; exact ⟨hc.1, by simp⟩
        split at hs
        · rename_i ho
          subst ho
          have he := (Option.some.inj hs).symm
          have e2 : ∀ u : PS, u.bx e = s.bx e → ((u.box d ⟨q + 1, .dead⟩).box e ⟨(u.bx e).ver + 1, .sl sz (es ++ ys)⟩).put e (.osl e ((u.bx e).ver + 1) 0 (es ++ ys).length) =
              upd (some e) (.osl e ((s.bx e).ver + 1) 0 (es ++ ys).length) (fun i => if i = e then some ⟨(s.bx e).ver + 1, .sl sz (es ++ ys)⟩ else if i = d then some ⟨q + 1, .dead⟩ else none) u := by
            intro u hu
            rw [hu]
            simp only [PS.put, PS.box, upd, PS.mk.injEq]
            refine ⟨by funext i; simp, ?_⟩
            funext i
            by_cases h1 : i = e
            · simp [h1]
            · by_cases h2 : i = d
              · subst h2; simp [h1]
              · simp [h1, h2]
          rw [e2 s rfl] at he
          refine ⟨_, _, he, fun u hu hab => ?_, fun i b hi => ?_, hlive⟩
          · have h1 := (hab.1 d ver hr).2 (by simp [cls])
            have h2 := hab.2 rfl e rfl
            refine wpK_step (by intros; simp) ?_
            simp only [pstep, (hev u hu).1, (hev u hu).2, hx, hy, h1, hb]; rw [if_pos hc, if_pos trivial, e2 u h2]
          · split at hi
            · rename_i e'; subst e'; cases hi; exact .inr (.inr ⟨rfl, rfl, Nat.lt_succ_self _⟩)
            · split at hi
              · rename_i e'; subst e'; exact .inr (.inl ⟨rfl, _, hr⟩)
              · cases hi
        · rename_i ho
          have ho : own = false := by simpa using ho
          subst ho
          have he := (Option.some.inj hs).symm
          rw [upd_box] at he
          refine ⟨_, _, he, fun u hu hab => ?_, fun i b hi => ?_, hlive⟩
          · have h1 := (hab.1 d ver hr).2 (by simp [cls])
            refine wpK_step (by intros; simp) ?_
            simp only [pstep, (hev u hu).1, (hev u hu).2, hx, hy, h1, hb]; rw [if_pos hc, ← upd_box]; simp
          · simp only [oneb] at hi
            split at hi
            · rename_i e'; subst e'; exact .inr (.inl ⟨rfl, _, hr⟩)
            · cases hi
      · cases hs
    · cases hs
  · cases hs
theorem loc_step {k : PK} (hc : ∀ m f l, k ≠ .call m f l) (hst : (∃ n x y av, k = .store n x y av) → dst = none) (hs : pstep dst s k = some s') : ∃ v wb, LocK C dst k s s' v wb := by
  cases k
  case load f n x av => exact loc_load hs
  case store n x y av => exact loc_store (hst ⟨_, _, _, _, rfl⟩) hs
  case fad o x => exact loc_fad hs
  case nilc x => exact loc_nilc hs
  case iaA len sz x y => exact loc_iaA hs
  case iaS sz x y => exact loc_iaS hs
  case len x => exact loc_len hs
  case app sz x y own => exact loc_app hs
  case own0 sz =>
    cases hd : dst with
    | none => simp [pstep, hd] at hs
    | some d =>
      subst hd
      simp only [pstep] at hs
      exact loc_new (b := fun v => ⟨v + 1, .sl sz []⟩) (pv := fun v => .osl d (v + 1) 0 0) (fun v => Nat.lt_succ_self v) rfl rfl rfl (by intros; simp) (Option.some.inj hs).symm (fun u _ => by simp only [pstep])
  case alloc z =>
    cases hd : dst with
    | none => simp [pstep, hd] at hs
    | some d =>
      subst hd
      simp only [pstep] at hs
      exact loc_new (b := fun v => ⟨v + 1, .var z⟩) (pv := fun v => .ptr d (v + 1) 0) (fun v => Nat.lt_succ_self v) rfl rfl rfl (by intros; simp) (Option.some.inj hs).symm (fun u _ => by simp only [pstep])
  case box n x =>
    simp only [pstep] at hs
    split at hs
    · rename_i d v hx
      split at hs
      · rename_i hn
        refine loc_new (b := fun q => ⟨q + 1, .var v.cells⟩) (pv := fun q => .ptr d (q + 1) 0) (fun v => Nat.lt_succ_self v) rfl rfl rfl (by intros; simp) (Option.some.inj hs).symm (fun u hu => ?_)
        simp only [pstep, evc_agree (ev_agree hu x (by simp [opds])), hx]; rw [if_pos hn]
      · cases hs
    · cases hs
  case bsl sz len zc ps own =>
    cases own with
    | false => exact loc_pure rfl rfl hc hs
    | true =>
      simp only [pstep] at hs
      split at hs
      · rename_i l hl
        split at hs
        · rename_i hb; cases hb
        · rename_i es d hf _
          refine loc_new (b := fun q => ⟨q + 1, .sl sz es⟩) (pv := fun q => .osl d (q + 1) 0 es.length) (fun v => Nat.lt_succ_self v) rfl rfl rfl (by intros; simp) (Option.some.inj hs).symm (fun u hu => ?_)
          have hp := partsS_agree (s := s) (u := u) (l := ps) (ev_agree hu)
          simp only [pstep, hp, hl, hf]
        · cases hs
      · cases hs
  case call m f l => exact absurd rfl (hc _ _ _)
  all_goals exact loc_pure rfl rfl hc hs
theorem loc_call {m : Bool} {f : FuncId} {l : List PO} {K : PS → Prop} (h : wpCall C m f l dst s K) : ∃ s', (∃ v wb, LocK C dst (.call m f l) s s' v wb) ∧ K s' := by
  unfold wpCall at h
  split at h
  · split at h
    · rename_i cs hcs
      obtain ⟨r, hC, hK⟩ := h
      refine ⟨_, ⟨.c r, nob, by rw [upd_putO], fun u hu _ => ?_, Wb.none, fun e ver hr h => absurd rfl h⟩, hK⟩
      have := evcs_agree (l := l) (s := s) (u := u) (ev_agree hu)
      simp only [wpK, wpCall, this, hcs]
      exact ⟨r, hC, by rw [upd_putO]⟩
    · exact h.elim
  · rename_i x l
    have hev : ∀ u : PS, (∀ t ∈ opReads (.call true f (x :: l)), u.t t = s.t t) → u.ev x = s.ev x ∧ evcs u l = evcs s l := fun u hu => ⟨ev_agree hu x (by simp [opds]), evcs_agree fun y hy => ev_agree hu y (by simp [opds, hy])⟩
    split at h
    · rename_i d ver off len cs hx hcs
      have hr : ref (.call true f (x :: l)) s = some (d, ver) := by simp [ref, key, hx, refOf]
      split at h
      · rename_i v sz es hb
        obtain ⟨hcond, r, hrd, hC, hK⟩ := h
        have hlive : ∀ e ver', ref (.call true f (x :: l)) s = some (e, ver') → cls (.call true f (x :: l)) ≠ .pure → (s.bx e).ver = ver' ∧ (s.bx e).st ≠ .dead := by
          intro e ver' hr' _
          rw [hr] at hr'; cases hr'; rw [hb]; exact ⟨hcond.1, by simp⟩
        have again : ∀ u : PS, (∀ t ∈ opReads (.call true f (x :: l)), u.t t = s.t t) → AgB (.call true f (x :: l)) dst s u → wpK C ⟨dst, .call true f (x :: l), none⟩ u (· = (u.box d ⟨v + 1, .dead⟩).putR dst r) := by
          intro u hu hab
          have h1 := (hab.1 d ver hr).2 (by simp [cls])
          simp only [wpK, wpCall, (hev u hu).1, (hev u hu).2, hx, hcs, h1, hb]
          exact ⟨hcond, r, hrd, hC, rfl⟩
        cases r with
        | c r =>
          refine ⟨_, ⟨.c r, oneb d ⟨v + 1, .dead⟩, ?_, fun u hu hab => ?_, fun i b hi => ?_, hlive⟩, hK⟩
          · cases dst with
            | none => simp only [PS.putR, PS.putO]; rw [upd_boxn]; simp [upd]
            | some e => simp only [PS.putR, PS.putO]; rw [upd_box]
          · have := again u hu hab
            have e : (u.box d ⟨v + 1, .dead⟩).putR dst (.c r) = upd dst (.c r) (oneb d ⟨v + 1, .dead⟩) u := by
              cases dst with
              | none => simp only [PS.putR, PS.putO]; rw [upd_boxn]; simp [upd]
              | some e => simp only [PS.putR, PS.putO]; rw [upd_box]
            rw [e] at this
            exact this
          · simp only [oneb] at hi
            split at hi
            · rename_i e'; subst e'; exact .inr (.inl ⟨rfl, _, hr⟩)
            · cases hi
        | own sz' zs =>
          have hsome := hrd _ _ rfl
          cases hd : dst with
          | none => rw [hd] at hsome; cases hsome
          | some e =>
            subst hd
            have e2 : ∀ u : PS, u.bx e = s.bx e → (u.box d ⟨v + 1, .dead⟩).putR (some e) (.own sz' zs) =
                upd (some e) (.osl e (((s.box d ⟨v + 1, .dead⟩).bx e).ver + 1) 0 zs.length) (fun i => if i = e then some ⟨((s.box d ⟨v + 1, .dead⟩).bx e).ver + 1, .sl sz' zs⟩ else if i = d then some ⟨v + 1, .dead⟩ else none) u := by
              intro u hu
              have hh : ((u.box d ⟨v + 1, .dead⟩).bx e) = ((s.box d ⟨v + 1, .dead⟩).bx e) := by simp only [PS.box, hu]
              simp only [PS.putR, hh]
              simp only [PS.put, PS.box, upd, PS.mk.injEq]
              refine ⟨by funext i; simp, ?_⟩
              funext i
              by_cases h1 : i = e
              · simp [h1]
              · rw [if_neg h1, if_neg h1]
                by_cases h2 : i = d
                · rw [if_pos h2, if_pos h2]; rfl
                · rw [if_neg h2, if_neg h2]; rfl
            refine ⟨_, ⟨_, _, e2 s rfl, fun u hu hab => ?_, fun i b hi => ?_, hlive⟩, hK⟩
            · have := again u hu hab
              rw [e2 u (hab.2 rfl e rfl)] at this
              exact this
            · split at hi
              · rename_i e'; subst e'; cases hi; exact .inr (.inr ⟨rfl, rfl, by simp only [PS.box]; split <;> simp_all <;> omega⟩)
              · split at hi
                · rename_i e'; subst e'; exact .inr (.inl ⟨rfl, _, hr⟩)
                · cases hi
      · exact h.elim
    · rename_i d ver off cs hx hcs
      have hr : ref (.call true f (x :: l)) s = some (d, ver) := by simp [ref, key, hx, refOf]
      split at h
      · rename_i v c0 hb
        obtain ⟨hcond, r, c1, hC, hK⟩ := h
        have e2 : ∀ u : PS, (u.box d ⟨v, .var c1⟩).putO dst (.c r) = upd dst (.c r) (oneb d ⟨v, .var c1⟩) u := by
          intro u
          cases dst with
          | none => simp only [PS.putO]; rw [upd_boxn]; simp [upd]
          | some e => simp only [PS.putO]; rw [upd_box]
        refine ⟨_, ⟨.c r, oneb d ⟨v, .var c1⟩, e2 s, fun u hu hab => ?_, fun i b hi => ?_, fun e ver' hr' _ => ?_⟩, hK⟩
        · have h1 := (hab.1 d ver hr).2 (by simp [cls])
          simp only [wpK, wpCall, (hev u hu).1, (hev u hu).2, hx, hcs, h1, hb]
          exact ⟨hcond, r, c1, hC, by rw [e2 u]⟩
        · simp only [oneb] at hi
          split at hi
          · rename_i e'; subst e'; exact .inr (.inl ⟨rfl, _, hr⟩)
          · cases hi
        · rw [hr] at hr'; cases hr'; rw [hb]; exact ⟨hcond.1, by simp⟩
      · exact h.elim
    · exact h.elim
  · exact h.elim
end
end Go.Pl

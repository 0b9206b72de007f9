/- Part of the proof of ExecTells, ExecAnswers, ExecBest, ExecFirst, ExecLevels, ExecTops, ExecLimits: lemmas. -/
import Derived.Test.YtnpncbplhdnonaaGreatExecS1
set_option linter.unusedVariables false
set_option linter.unusedSimpArgs false
/-
 THE WALK OF A PLAIN CODE,step by step: one lemma for each form of an operation; each is a reading of 'wpL' and 'pwp'. My own work.
-/
namespace Go.Pl
set_option linter.unusedSimpArgs false
def wL (C:CallP) (l:List POp) (s:PS) (K:PS→Prop):Prop:=wpL C l s K
def wP (C:CallP) (p:PCode) (s:PS) (K:Ex→PS→Prop):Prop:=pwp C p s K
def wLB (C:CallP) (on:List (Nat × Nat)) (k:Nat) (l:List POp) (s:PS) (K:PS→Prop):Prop:=wpLB C on k l s K
def xL (C:CallP) (on:List (Nat × Nat)) (k:Nat) (l:List POp) (K:PS→Prop):PS→Prop:=fun s=>wpLB C on k l s K
def xT (N:PS→Prop) (K:Ex→PS→Prop):Ex→PS→Prop:=Ex.th N K
def xB (id:Nat) (K:Ex→PS→Prop):Ex→PS→Prop:=Ex.blk id K
section
variable {C : CallP} {l : List POp} {s : PS} {K : PS → Prop} {d : Nat} {x y z : PO} {k : IntKind} {a b n m : Int}
theorem jE (h:K s):wL C [] s K:=h
theorem kC {v:CV} (hx:s.ev x=.c v) (h:wL C l (s.put d (.c v)) K):wL C (⟨some d,.mv x,none⟩::l) s K:=by
 simp only [wL,wpL,wpG,wpK,pstep,PS.putO,hx]; exact h
theorem jkt {e v o:Nat} (hx:s.ev x=.ptr e v o) (h:wL C l (s.put d (.ptr e v o)) K):wL C (⟨some d,.mv x,none⟩::l) s K:=by
 simp only [wL,wpL,wpG,wpK,pstep,PS.putO,hx]; exact h
theorem Wz {e v o n:Nat} (hx:s.ev x=.osl e v o n) (h:wL C l (s.put d (.osl e v o n)) K):wL C (⟨some d,.mv x,none⟩::l) s K:=by
 simp only [wL,wpL,wpG,wpK,pstep,PS.putO,hx]; exact h
theorem kH {v:CV} (hx:s.ev x=.c (.bool true)) (hy:s.ev y=.c v) (h:wL C l (s.put d (.c v)) K):wL C (⟨some d,.pick x y z,none⟩::l) s K:=by
 simp only [wL,wpL,wpG,wpK,pstep,PS.putO,hx,hy,if_true]; exact h
theorem vM {v:CV} (hx:s.ev x=.c (.bool false)) (hy:s.ev z=.c v) (h:wL C l (s.put d (.c v)) K):wL C (⟨some d,.pick x y z,none⟩::l) s K:=by
 simp only [wL,wpL,wpG,wpK,pstep,PS.putO,hx,hy,if_false,Bool.false_eq_true]; exact h
theorem vm {g:Nat} {w:Bool} {o:Option Nat} {q:PK} (hg:s.t g=.c (.bool w)) (h:wL C (⟨o,q,none⟩::l) s K):wL C (⟨o,q,some (g,w)⟩::l) s K:=by
 simp only [wL,wpL,wpG,hg] at *; exact ⟨fun _=>h,fun h=>absurd rfl h⟩
theorem XK {g:Nat} {w:Bool} {q:PK} (hg:s.t g=.c (.bool (!w))) (h:wL C l (s.put d .undef) K):wL C (⟨some d,q,some (g,w)⟩::l) s K:=by
 simp only [wL,wpL,wpG,hg,PS.putO] at *; exact ⟨fun h=>by cases w <;> simp at h,fun _=>h⟩
theorem jmf {g:Nat} {w:Bool} {q:PK} (hg:s.t g=.undef) (h:wL C l (s.put d .undef) K):wL C (⟨some d,q,some (g,w)⟩::l) s K:=by
 simp only [wL,wpL,wpG,hg,PS.putO] at *; exact h
theorem ja {s:PS} {g:Nat} {v:PV} (h:s.t g=v):s.put g v=s:=by
 cases s; simp only [PS.put,PS.mk.injEq,and_true]; funext i; split
 ·rename_i e; subst e; exact h.symm
 ·rfl
theorem jhi {g:Nat} {b w:Bool} {o:Option Nat} {q:PK} (hg:s.t g=.c (.bool b))
  (h1:b=true→wL C (⟨o,q,some (g,w)⟩::l) (s.put g (.c (.bool true))) K)
  (h0:b=false→wL C (⟨o,q,some (g,w)⟩::l) (s.put g (.c (.bool false))) K):wL C (⟨o,q,some (g,w)⟩::l) s K:=by
 cases b with
 | true=>rw [ja hg] at h1; exact h1 rfl
 | false=>rw [ja hg] at h0; exact h0 rfl
theorem jbn {sz:Nat} (h:∀ w,wL C l ((s.box d ⟨w,.sl sz []⟩).put d (.osl d w 0 0)) K):wL C (⟨some d,.own0 sz,none⟩::l) s K:=by
 simp only [wL,wpL,wpG,wpK,pstep]; exact h _
theorem j5 {cs:List CV} (h:∀ w,wL C l ((s.box d ⟨w,.var cs⟩).put d (.ptr d w 0)) K):wL C (⟨some d,.alloc cs,none⟩::l) s K:=by
 simp only [wL,wpL,wpG,wpK,pstep]; exact h _
theorem kw {v:CV} {cs:List CV} {n:Nat} (hx:s.ev x=.c v) (hc:v.cells=cs) (hn:cs.length=n)
  (h:∀ w,wL C l ((s.box d ⟨w,.var cs⟩).put d (.ptr d w 0)) K):wL C (⟨some d,.box n x,none⟩::l) s K:=by
 subst hc; simp only [wL,wpL,wpG,wpK,pstep,PS.evc,hx,hn,if_true]; exact h _
theorem j6 {zs cs:List CV} {ps:List (Nat × Nat × PO)} {vs:List (Nat × Nat × CV)} (hp:partsC s ps=some vs) (hf:fillC zs vs=some cs)
  (h:wL C l (s.put d (.c (.agg cs))) K):wL C (⟨some d,.build zs ps,none⟩::l) s K:=by
 simp only [wL,wpL,wpG,wpK,pstep,hp,hf,Option.map_some,PS.putO]; exact h
theorem jer {sz len:Nat} {zc:List CV} {es:List (List CV)} {ps:List (Nat × PO)} {vs:List (Nat × CV)} (hp:partsS s ps=some vs) (hf:fillS (List.replicate len zc) vs=some es)
  (h:wL C l (s.put d (.c (.sl es))) K):wL C (⟨some d,.bsl sz len zc ps false,none⟩::l) s K:=by
 simp only [wL,wpL,wpG,wpK,pstep,hp,hf,PS.putO]; exact h
theorem jbo {sz len n:Nat} {zc:List CV} {es:List (List CV)} {ps:List (Nat × PO)} {vs:List (Nat × CV)} (hp:partsS s ps=some vs) (hf:fillS (List.replicate len zc) vs=some es) (hn:es.length=n)
  (h:∀ w,wL C l ((s.box d ⟨w,.sl sz es⟩).put d (.osl d w 0 n)) K):wL C (⟨some d,.bsl sz len zc ps true,none⟩::l) s K:=by
 subst hn; simp only [wL,wpL,wpG,wpK,pstep,hp,hf]; exact h _
theorem vX {f:Bool} {n:Nat} {cs:List CV} {v:CV} {av:List Nat} (hx:s.ev x=.rp cs) (hn:n≤cs.length) (hv:rdc f n cs=v)
  (h:wL C l (s.put d (.c v)) K):wL C (⟨some d,.load f n x av,none⟩::l) s K:=by
 subst hv; simp only [wL,wpL,wpG,wpK,pstep,hx,if_pos hn,PS.putO]; exact h
theorem jl {f:Bool} {n e w o:Nat} {cs:List CV} {v:CV} {av:List Nat} (hx:s.ev x=.ptr e w o) (ha:e ∉ av) (hb:s.bx e=⟨w,.var cs⟩) (hn:o + n≤cs.length)
  (hv:rdc f n (cs.drop o)=v) (h:wL C l (s.put d (.c v)) K):wL C (⟨some d,.load f n x av,none⟩::l) s K:=by
 subst hv; simp only [wL,wpL,wpG,wpK,pstep,hx,hb,if_neg ha,if_pos hn,true_and,PS.putO]; exact h
theorem jbp {f:Bool} {n e w i o sz:Nat} {es:List (List CV)} {cs:List CV} {v:CV} {av:List Nat} (hx:s.ev x=.sp e w i o) (ha:e ∉ av) (hb:s.bx e=⟨w,.sl sz es⟩)
  (he:es[i]? = some cs) (hn:o + n≤cs.length) (hv:rdc f n (cs.drop o)=v) (h:wL C l (s.put d (.c v)) K):wL C (⟨some d,.load f n x av,none⟩::l) s K:=by
 subst hv; simp only [wL,wpL,wpG,wpK,pstep,hx,hb,he,if_neg ha,if_pos hn,true_and,PS.putO]; exact h
theorem jt {n e w o:Nat} {cs new:List CV} {v:CV} {av:List Nat} (hx:s.ev x=.ptr e w o) (hy:s.ev y=.c v) (ha:e ∉ av) (hb:s.bx e=⟨w,.var cs⟩)
  (hl:v.cells.length=n) (hn:o + n≤cs.length) (hv:spl cs o v.cells=new) (h:wL C l (s.box e ⟨w,.var new⟩) K):wL C (⟨none,.store n x y av,none⟩::l) s K:=by
 subst hv; simp only [wL,wpL,wpG,wpK,pstep,PS.evc,hx,hy,hb,if_neg ha,hl,if_pos hn,true_and]; exact h
theorem Y2 {n e w i o sz:Nat} {es new:List (List CV)} {cs:List CV} {v:CV} {av:List Nat} (hx:s.ev x=.sp e w i o) (hy:s.ev y=.c v) (ha:e ∉ av) (hb:s.bx e=⟨w,.sl sz es⟩)
  (he:es[i]? = some cs) (hl:v.cells.length=n) (hn:o + n≤cs.length) (hv:es.set i (spl cs o v.cells)=new) (h:wL C l (s.box e ⟨w,.sl sz new⟩) K):wL C (⟨none,.store n x y av,none⟩::l) s K:=by
 subst hv; simp only [wL,wpL,wpG,wpK,pstep,PS.evc,hx,hy,hb,he,if_neg ha,hl,if_pos hn,true_and]; exact h
theorem vC {op:BinOp} {u v w:CV} (hx:s.ev x=.c u) (hy:s.ev y=.c v) (hv:binC op u v=some w) (h:wL C l (s.put d (.c w)) K):wL C (⟨some d,.bin op x y,none⟩::l) s K:=by
 simp only [wL,wpL,wpG,wpK,pstep,PS.evc,hx,hy,hv,Option.map_some,PS.putO]; exact h
theorem Y3 (hx:s.ev x=.c (.int k a)) (hy:s.ev y=.c (.int k b)) (h:wL C l (s.put d (.c (.bool (decide (a < b))))) K):wL C (⟨some d,.bin .lss x y,none⟩::l) s K :=
 vC hx hy (by simp [binC]) h
theorem jku (hx:s.ev x=.c (.int k a)) (hy:s.ev y=.c (.int k b)) (h:wL C l (s.put d (.c (.bool (decide (a≤b))))) K):wL C (⟨some d,.bin .leq x y,none⟩::l) s K :=
 vC hx hy (by simp [binC]) h
theorem jes (hx:s.ev x=.c (.int k a)) (hy:s.ev y=.c (.int k b)) (h:wL C l (s.put d (.c (.bool (decide (b < a))))) K):wL C (⟨some d,.bin .gtr x y,none⟩::l) s K :=
 vC hx hy (by simp [binC]) h
theorem jkv (hx:s.ev x=.c (.int k a)) (hy:s.ev y=.c (.int k b)) (h:wL C l (s.put d (.c (.bool (decide (b≤a))))) K):wL C (⟨some d,.bin .geq x y,none⟩::l) s K :=
 vC hx hy (by simp [binC]) h
theorem jm1 (hx:s.ev x=.c (.int k a)) (hy:s.ev y=.c (.int k b)) (h:wL C l (s.put d (.c (.bool (a == b)))) K):wL C (⟨some d,.bin .eql x y,none⟩::l) s K :=
 vC hx hy (by simp [binC]) h
theorem jm2 (hx:s.ev x=.c (.int k a)) (hy:s.ev y=.c (.int k b)) (h:wL C l (s.put d (.c (.bool (!(a == b))))) K):wL C (⟨some d,.bin .neq x y,none⟩::l) s K :=
 vC hx hy (by simp [binC]) h
theorem jG {ag:Bool} {sh:List LK} {u v:CV} {r:Bool} (hx:s.ev x=.c u) (hy:s.ev y=.c v) (hr:eqC ag sh u v=some r) (h:wL C l (s.put d (.c (.bool r))) K) :
  wL C (⟨some d,.eqs false ag sh x y,none⟩::l) s K:=by
 simp only [wL,wpL,wpG,wpK,pstep,PS.evc,hx,hy,hr,Option.map_some,PS.putO]; exact h
theorem kO {ag:Bool} {sh:List LK} {u v:CV} {r:Bool} (hx:s.ev x=.c u) (hy:s.ev y=.c v) (hr:eqC ag sh u v=some r) (h:wL C l (s.put d (.c (.bool (!r)))) K) :
  wL C (⟨some d,.eqs true ag sh x y,none⟩::l) s K:=by
 simp only [wL,wpL,wpG,wpK,pstep,PS.evc,hx,hy,hr,Option.map_some,PS.putO]; exact h
theorem jkc {a b:Bool} (hx:s.ev x=.c (.bool a)) (hy:s.ev y=.c (.bool b)) (h:wL C l (s.put d (.c (.bool (!(a == b))))) K):wL C (⟨some d,.eqs true false [.b] x y,none⟩::l) s K :=
 kO hx hy (by simp [eqC,shEq]) h
theorem jet (hx:s.ev x=.c (.int k a)) (hy:s.ev y=.c (.int k b)) (h:wL C l (s.put d (.c (.bool (decide (a=b))))) K):wL C (⟨some d,.bin .eql x y,none⟩::l) s K:=by
 refine jm1 hx hy ?_
 have:(a == b)=decide (a=b):=by by_cases e:a=b <;> simp [e]
 rw [this]; exact h
theorem jhj (hx:s.ev x=.c (.int k a)) (hy:s.ev y=.c (.int k b)) (h:wL C l (s.put d (.c (.bool (decide (a≠b))))) K):wL C (⟨some d,.bin .neq x y,none⟩::l) s K:=by
 refine jm2 hx hy ?_
 have:(!(a == b))=decide (a≠b):=by by_cases e:a=b <;> simp [e]
 rw [this]; exact h
theorem kU (hx:s.ev x=.c (.int k a)) (hy:s.ev y=.c (.int k b)) (hc:a < b) (h:wL C l (s.put d (.c (.bool true))) K):wL C (⟨some d,.bin .lss x y,none⟩::l) s K :=
 Y3 hx hy (by rw [decide_eq_true hc]; exact h)
theorem vn (hx:s.ev x=.c (.int k a)) (hy:s.ev y=.c (.int k b)) (hc:¬ a < b) (h:wL C l (s.put d (.c (.bool false))) K):wL C (⟨some d,.bin .lss x y,none⟩::l) s K :=
 Y3 hx hy (by rw [decide_eq_false hc]; exact h)
theorem jbq (hx:s.ev x=.c (.int k a)) (hy:s.ev y=.c (.int k b)) (hc:a≤b) (h:wL C l (s.put d (.c (.bool true))) K):wL C (⟨some d,.bin .leq x y,none⟩::l) s K :=
 jku hx hy (by rw [decide_eq_true hc]; exact h)
theorem jeu (hx:s.ev x=.c (.int k a)) (hy:s.ev y=.c (.int k b)) (hc:¬ a≤b) (h:wL C l (s.put d (.c (.bool false))) K):wL C (⟨some d,.bin .leq x y,none⟩::l) s K :=
 jku hx hy (by rw [decide_eq_false hc]; exact h)
theorem J3 (hx:s.ev x=.c (.int k a)) (hy:s.ev y=.c (.int k b)) (hc:b < a) (h:wL C l (s.put d (.c (.bool true))) K):wL C (⟨some d,.bin .gtr x y,none⟩::l) s K :=
 jes hx hy (by rw [decide_eq_true hc]; exact h)
theorem J4 (hx:s.ev x=.c (.int k a)) (hy:s.ev y=.c (.int k b)) (hc:¬ b < a) (h:wL C l (s.put d (.c (.bool false))) K):wL C (⟨some d,.bin .gtr x y,none⟩::l) s K :=
 jes hx hy (by rw [decide_eq_false hc]; exact h)
theorem Y4 (hx:s.ev x=.c (.int k a)) (hy:s.ev y=.c (.int k b)) (hc:b≤a) (h:wL C l (s.put d (.c (.bool true))) K):wL C (⟨some d,.bin .geq x y,none⟩::l) s K :=
 jkv hx hy (by rw [decide_eq_true hc]; exact h)
theorem WA (hx:s.ev x=.c (.int k a)) (hy:s.ev y=.c (.int k b)) (hc:¬ b≤a) (h:wL C l (s.put d (.c (.bool false))) K):wL C (⟨some d,.bin .geq x y,none⟩::l) s K :=
 jkv hx hy (by rw [decide_eq_false hc]; exact h)
theorem wl (hx:s.ev x=.c (.int k a)) (hy:s.ev y=.c (.int k b)) (hc:a=b) (h:wL C l (s.put d (.c (.bool true))) K):wL C (⟨some d,.bin .eql x y,none⟩::l) s K :=
 jet hx hy (by rw [decide_eq_true hc]; exact h)
theorem wm (hx:s.ev x=.c (.int k a)) (hy:s.ev y=.c (.int k b)) (hc:¬ a=b) (h:wL C l (s.put d (.c (.bool false))) K):wL C (⟨some d,.bin .eql x y,none⟩::l) s K :=
 jet hx hy (by rw [decide_eq_false hc]; exact h)
theorem jbr (hx:s.ev x=.c (.int k a)) (hy:s.ev y=.c (.int k b)) (hc:a≠b) (h:wL C l (s.put d (.c (.bool true))) K):wL C (⟨some d,.bin .neq x y,none⟩::l) s K :=
 jhj hx hy (by rw [decide_eq_true hc]; exact h)
theorem XQ (hx:s.ev x=.c (.int k a)) (hy:s.ev y=.c (.int k b)) (hc:¬ a≠b) (h:wL C l (s.put d (.c (.bool false))) K):wL C (⟨some d,.bin .neq x y,none⟩::l) s K :=
 jhj hx hy (by rw [decide_eq_false hc]; exact h)
theorem Y5 {p:Prop} [Decidable p] {g:Nat} {w:Bool} {o:Option Nat} {q:PK} (hg:s.t g=.c (.bool (decide p)))
  (h1:p→wL C (⟨o,q,some (g,w)⟩::l) (s.put g (.c (.bool true))) K)
  (h0:¬ p→wL C (⟨o,q,some (g,w)⟩::l) (s.put g (.c (.bool false))) K):wL C (⟨o,q,some (g,w)⟩::l) s K :=
 jhi hg (fun e=>h1 (of_decide_eq_true e)) (fun e=>h0 (of_decide_eq_false e))
theorem xf_ {g:XF} {xs:List PO} {cs:List CV} {v:CV} (hx:evcs s xs=some cs) (hr:xfC g cs=some v) (h:wL C l (s.put d (.c v)) K):wL C (⟨some d,.xf g xs,none⟩::l) s K:=by
 simp only [wL,wpL,wpG,wpK,pstep,hx,hr,Option.map_some,PS.putO]; exact h
theorem wrap64_in {n:Int} (h:-9223372036854775808≤n∧n≤9223372036854775807):IntKind.i64.wrap n=n:=by
 simp [IntKind.wrap,IntKind.bits,IntKind.signed]; omega
theorem Jb (hx:s.ev x=.c (.int .i64 a)) (hy:s.ev y=.c (.int .i64 b)) (hr:-9223372036854775808≤a + b∧a + b≤9223372036854775807)
  (h:wL C l (s.put d (.c (.int .i64 (a + b)))) K):wL C (⟨some d,.bin .add x y,none⟩::l) s K :=
 vC hx hy (by simp only [binC,if_true]; rw [wrap64_in hr]) h
theorem wj (hx:s.ev x=.c (.int .i64 a)) (hy:s.ev y=.c (.int .i64 b)) (hr:-9223372036854775808≤a - b∧a - b≤9223372036854775807)
  (h:wL C l (s.put d (.c (.int .i64 (a - b)))) K):wL C (⟨some d,.bin .sub x y,none⟩::l) s K :=
 vC hx hy (by simp only [binC,if_true]; rw [wrap64_in hr]) h
theorem Y6 {b:Bool} (hx:s.ev x=.c (.bool b)) (h:wL C l (s.put d (.c (.bool (!b)))) K):wL C (⟨some d,.un .not x,none⟩::l) s K:=by
 simp only [wL,wpL,wpG,wpK,pstep,PS.evc,hx,unC,Option.map_some,PS.putO]; exact h
theorem un_ {op:UnOp} {u v:CV} (hx:s.ev x=.c u) (hv:unC op u=some v) (h:wL C l (s.put d (.c v)) K):wL C (⟨some d,.un op x,none⟩::l) s K:=by
 simp only [wL,wpL,wpG,wpK,pstep,PS.evc,hx,hv,Option.map_some,PS.putO]; exact h
theorem jbs {k':IntKind} (hx:s.ev x=.c (.int k' n)) (h:wL C l (s.put d (.c (.int k (k.wrap n)))) K):wL C (⟨some d,.conv k x,none⟩::l) s K:=by
 simp only [wL,wpL,wpG,wpK,pstep,PS.evc,hx,PS.putO]; exact h
theorem jhk {f:Bool} {o n:Nat} {cs:List CV} {v:CV} (hx:s.ev x=.c (.agg cs)) (hn:o + n≤cs.length) (hv:rdc f n (cs.drop o)=v) (h:wL C l (s.put d (.c v)) K) :
  wL C (⟨some d,.fld f o n x,none⟩::l) s K:=by
 subst hv; simp only [wL,wpL,wpG,wpK,pstep,PS.evc,hx,if_pos hn,PS.putO]; exact h
theorem vo {n:Int} (h:0≤n∧n≤18446744073709551615):IntKind.u64.wrap n=n:=by
 simp [IntKind.wrap,IntKind.bits,IntKind.signed]; omega
theorem jhl (hx:s.ev x=.c (.int .u64 a)) (hy:s.ev y=.c (.int .u64 b)) (hr:0≤a + b∧a + b≤18446744073709551615)
  (h:wL C l (s.put d (.c (.int .u64 (a + b)))) K):wL C (⟨some d,.bin .add x y,none⟩::l) s K :=
 vC hx hy (by simp [binC,vo hr]) h
theorem jhm (hx:s.ev x=.c (.int .u64 a)) (hy:s.ev y=.c (.int .u64 b)) (hr:0≤a * b∧a * b≤18446744073709551615)
  (h:wL C l (s.put d (.c (.int .u64 (a * b)))) K):wL C (⟨some d,.bin .mul x y,none⟩::l) s K :=
 vC hx hy (by simp [binC,vo hr]) h
theorem Yq (hx:s.ev x=.c (.int .i64 a)) (hy:s.ev y=.c (.int .i64 b)) (hr:-9223372036854775808≤a * b∧a * b≤9223372036854775807)
  (h:wL C l (s.put d (.c (.int .i64 (a * b)))) K):wL C (⟨some d,.bin .mul x y,none⟩::l) s K :=
 vC hx hy (by simp [binC,wrap64_in hr]) h
theorem jm3 (hx:s.ev x=.c (.int k a)) (hy:s.ev y=.c (.int k b)) (h:wL C l (s.put d (.c (.int k (k.wrap (a * b))))) K):wL C (⟨some d,.bin .mul x y,none⟩::l) s K :=
 vC hx hy (by simp [binC]) h
theorem vJ (n:Int):IntKind.u64.wrap n=n % 18446744073709551616:=by
 simp [IntKind.wrap,IntKind.bits,IntKind.signed]
theorem jmg (hx:s.ev x=.c (.int .u64 a)) (hy:s.ev y=.c (.int .u64 b)) (h:wL C l (s.put d (.c (.int .u64 (a * b % 18446744073709551616)))) K):wL C (⟨some d,.bin .mul x y,none⟩::l) s K :=
 jm3 hx hy (by rw [vJ]; exact h)
theorem jkd (hx:s.ev x=.c (.int .u64 a)) (hy:s.ev y=.c (.int .u64 b)) (h:wL C l (s.put d (.c (.int .u64 ((a + b) % 18446744073709551616)))) K):wL C (⟨some d,.bin .add x y,none⟩::l) s K :=
 vC hx hy (by simp [binC,vJ]) h
theorem w8 (hx:s.ev x=.c (.int .u64 a)) (hy:s.ev y=.c (.int .u64 b)) (h:wL C l (s.put d (.c (.int .u64 ((a - b) % 18446744073709551616)))) K):wL C (⟨some d,.bin .sub x y,none⟩::l) s K :=
 vC hx hy (by simp [binC,vJ]) h
theorem JM {k':IntKind} {n:Nat} {m:Int} (hx:s.ev x=.c (.int k a)) (hy:s.ev y=.c (.int k' n)) (hn:n≤k.bits) (hm:(2:Int) ^ n=m) (h:wL C l (s.put d (.c (.int k (a / m)))) K):wL C (⟨some d,.bin .shr x y,none⟩::l) s K:=by
 refine vC hx hy ?_ h
 have h0:(0:Int)≤2 ^ n:=Int.le_of_lt (Int.pow_pos (by decide))
 simp only [binC,shr,Int.toNat_natCast,hn,and_true,Int.natCast_nonneg,if_true,← hm]
 rw [Int.fdiv_eq_ediv_of_nonneg _ h0]
theorem jmh {k':IntKind} {n:Nat} {m:Int} (hx:s.ev x=.c (.int .u64 a)) (hy:s.ev y=.c (.int k' n)) (hn:n≤64) (hm:(2:Int) ^ n=m) (h:wL C l (s.put d (.c (.int .u64 (a * m % 18446744073709551616)))) K):wL C (⟨some d,.bin .shl x y,none⟩::l) s K:=by
 refine vC hx hy ?_ h
 have hb:IntKind.u64.bits=64:=rfl
 simp only [binC,shl,Int.toNat_natCast,hb,hn,and_true,Int.natCast_nonneg,if_true,hm,vJ]
theorem Y7 (n:Nat) {m:Int} (hm:(2:Int) ^ n - 1=m) (hn:n≤64) (hx:s.ev x=.c (.int .u64 a)) (hy:s.ev y=.c (.int .u64 m)) (ha:0≤a∧a≤18446744073709551615) (h:wL C l (s.put d (.c (.int .u64 (a % 2 ^ n)))) K) :
  wL C (⟨some d,.bin .and x y,none⟩::l) s K:=by
 refine vC hx hy ?_ h
 obtain ⟨A,rfl⟩:=Int.eq_ofNat_of_zero_le ha.1
 have e1:m=((2 ^ n - 1:Nat):Int):=by
  rw [← hm,Int.natCast_sub (Nat.one_le_two_pow),Int.natCast_pow]; rfl
 have hb:IntKind.u64.bits=64:=rfl
 have e2:((BitVec.ofInt 64 (A:Int)) &&& BitVec.ofInt 64 m).toNat=A % 2 ^ n:=by
  subst e1
  rw [BitVec.ofInt_natCast,BitVec.ofInt_natCast,BitVec.toNat_and,BitVec.toNat_ofNat,BitVec.toNat_ofNat]
  have h1:A % 2 ^ 64=A:=Nat.mod_eq_of_lt (by omega)
  have h2:(2 ^ n - 1) % 2 ^ 64=2 ^ n - 1:=Nat.mod_eq_of_lt (by
   have:2 ^ n≤2 ^ 64:=Nat.pow_le_pow_right (by decide) hn
   have:=Nat.pow_pos (n:=n) (show 0 < 2 by decide)
   omega)
  rw [h1,h2,Nat.and_two_pow_sub_one_eq_mod]
 have h3:A % 2 ^ n≤A:=Nat.mod_le _ _
 have e3:((A % 2 ^ n:Nat):Int)=(A:Int) % 2 ^ n:=by simp
 have h4:((A % 2 ^ n:Nat):Int)≤A:=by exact_mod_cast h3
 show some (CV.int .u64 (IntKind.u64.wrap (((BitVec.ofInt 64 (A:Int)) &&& BitVec.ofInt 64 m).toNat:Nat)))=_
 rw [e2,vo (by omega),e3]
theorem jev (hx:s.ev x=.c (.int k a)) (h:wL C l (s.put d (.c (.int .u64 (a % 18446744073709551616)))) K):wL C (⟨some d,.conv .u64 x,none⟩::l) s K :=
 jbs hx (by rw [vJ]; exact h)
theorem jL {k':IntKind} (hx:s.ev x=.c (.int k a)) (hw:k'.wrap a=a) (h:wL C l (s.put d (.c (.int k' a))) K):wL C (⟨some d,.conv k' x,none⟩::l) s K :=
 jbs hx (by rw [hw]; exact h)
theorem jc6 {n:Int} (h:9223372036854775808≤n∧n≤18446744073709551615):IntKind.i64.wrap n=n - 18446744073709551616:=by
 simp [IntKind.wrap,IntKind.bits,IntKind.signed]; omega
theorem jkw {n:Int} (hx:s.ev x=.c (.int k a)) (hw:IntKind.i64.wrap a=n) (h:wL C l (s.put d (.c (.int .i64 n))) K):wL C (⟨some d,.conv .i64 x,none⟩::l) s K :=
 jbs hx (by rw [hw]; exact h)
theorem jae (hx:s.ev x=.c (.int .i64 a)) (hr:-9223372036854775807≤a∧a≤9223372036854775808) (h:wL C l (s.put d (.c (.int .i64 (-a)))) K):wL C (⟨some d,.un .neg x,none⟩::l) s K:=by
 refine un_ hx (v:=.int .i64 (-a)) ?_ h
 simp only [unC,Int.zero_sub,wrap64_in (n:=-a) (by omega)]
theorem jmi (hx:s.ev x=.c (.int .u64 a)) (h:wL C l (s.put d (.c (.int .u64 (-a % 18446744073709551616)))) K):wL C (⟨some d,.un .neg x,none⟩::l) s K:=by
 refine un_ hx (v:=.int .u64 (-a % 18446744073709551616)) ?_ h
 simp only [unC,Int.zero_sub,vJ]
theorem jC {o e w i j:Nat} {cs:List CV} (hx:s.ev x=.ptr e w i) (hb:s.bx e=⟨w,.var cs⟩) (hj:i + o=j) (h:wL C l (s.put d (.ptr e w j)) K):wL C (⟨some d,.fad o x,none⟩::l) s K:=by
 subst hj; simp only [wL,wpL,wpG,wpK,pstep,hx,hb,if_true,PS.putO]; exact h
theorem WB {o:Nat} {cs cs':List CV} (hx:s.ev x=.rp cs) (ho:o≤cs.length) (hj:cs.drop o=cs') (h:wL C l (s.put d (.rp cs')) K):wL C (⟨some d,.fad o x,none⟩::l) s K:=by
 subst hj; simp only [wL,wpL,wpG,wpK,pstep,hx,if_pos ho,PS.putO]; exact h
theorem jkx {o e w u i j sz:Nat} {es:List (List CV)} (hx:s.ev x=.sp e w u i) (hb:s.bx e=⟨w,.sl sz es⟩) (hj:i + o=j) (h:wL C l (s.put d (.sp e w u j)) K):wL C (⟨some d,.fad o x,none⟩::l) s K:=by
 subst hj; simp only [wL,wpL,wpG,wpK,pstep,hx,hb,if_true,PS.putO]; exact h
theorem Jv {len sz e w o j:Nat} {cs:List CV} (hx:s.ev x=.ptr e w o) (hy:s.ev y=.c (.int k n)) (hb:s.bx e=⟨w,.var cs⟩) (hn:0≤n∧n < (len:Int)) (hj:o + n.toNat * sz=j)
  (h:wL C l (s.put d (.ptr e w j)) K):wL C (⟨some d,.iaA len sz x y,none⟩::l) s K:=by
 subst hj; simp only [wL,wpL,wpG,wpK,pstep,PS.evc,hx,hy,hb,if_pos hn,if_true,PS.putO]; exact h
theorem jky {len sz:Nat} {cs cs':List CV} (hx:s.ev x=.rp cs) (hy:s.ev y=.c (.int k n)) (hn:0≤n∧n < (len:Int)) (ho:n.toNat * sz≤cs.length) (hj:cs.drop (n.toNat * sz)=cs')
  (h:wL C l (s.put d (.rp cs')) K):wL C (⟨some d,.iaA len sz x y,none⟩::l) s K:=by
 subst hj; simp only [wL,wpL,wpG,wpK,pstep,PS.evc,hx,hy,if_pos hn,if_pos ho,PS.putO]; exact h
theorem ji {sz:Nat} {es:List (List CV)} {e:List CV} (hx:s.ev x=.c (.sl es)) (hy:s.ev y=.c (.int k n)) (h0:0≤n) (he:es[n.toNat]? = some e) (hz:e.length=sz)
  (h:wL C l (s.put d (.rp e)) K):wL C (⟨some d,.iaS sz x y,none⟩::l) s K:=by
 have hlt:n.toNat < es.length:=by
  rcases Nat.lt_or_ge n.toNat es.length with h | h
  ·exact h
  ·simp [List.getElem?_eq_none h] at he
 have hg:es.getD n.toNat []=e:=by simp [List.getD,he]
 simp only [wL,wpL,wpG,wpK,pstep,PS.evc,hx,hy,if_pos (show 0≤n∧n < (es.length:Int) from ⟨h0,by omega⟩),hg,hz,if_true,PS.putO]; exact h
theorem jH {sz e w o len j:Nat} {es:List (List CV)} (hx:s.ev x=.osl e w o len) (hy:s.ev y=.c (.int k n)) (hb:s.bx e=⟨w,.sl sz es⟩) (hn:0≤n∧n < (len:Int)) (hj:n.toNat=j)
  (h:wL C l (s.put d (.sp e w j 0)) K):wL C (⟨some d,.iaS sz x y,none⟩::l) s K:=by
 subst hj; simp only [wL,wpL,wpG,wpK,pstep,PS.evc,hx,hy,hb,true_and,if_pos hn,PS.putO]; exact h
theorem VD {f:Bool} {len sz:Nat} {cs:List CV} {v:CV} (hx:s.ev x=.c (.agg cs)) (hy:s.ev y=.c (.int k n)) (hn:0≤n∧n < (len:Int)∧len * sz≤cs.length)
  (hv:rdc f sz (cs.drop (n.toNat * sz))=v) (h:wL C l (s.put d (.c v)) K):wL C (⟨some d,.idA f len sz x y,none⟩::l) s K:=by
 subst hv; simp only [wL,wpL,wpG,wpK,pstep,PS.evc,hx,hy,if_pos hn,PS.putO]; exact h
theorem jaf {vs:List CV} {j:Nat} {v:CV} (hx:s.ev x=.c (.tup vs)) (hj:vs[j]? = some v) (h:wL C l (s.put d (.c v)) K):wL C (⟨some d,.ext x j,none⟩::l) s K:=by
 simp only [wL,wpL,wpG,wpK,pstep,PS.evc,hx,hj,PS.putO]; exact h
theorem je {es:List (List CV)} {n:Nat} (hx:s.ev x=.c (.sl es)) (hn:es.length=n) (h:wL C l (s.put d (.c (.int .i64 (n:Nat)))) K):wL C (⟨some d,.len x,none⟩::l) s K:=by
 subst hn; simp only [wL,wpL,wpG,wpK,pstep,hx,PS.putO]; exact h
theorem jbt {e w o n sz:Nat} {es:List (List CV)} (hx:s.ev x=.osl e w o n) (hb:s.bx e=⟨w,.sl sz es⟩) (h:wL C l (s.put d (.c (.int .i64 (n:Nat)))) K):wL C (⟨some d,.len x,none⟩::l) s K:=by
 simp only [wL,wpL,wpG,wpK,pstep,hx,hb,if_true,PS.putO]; exact h
theorem jr {sz e w n m:Nat} {es ys zs:List (List CV)} (hx:s.ev x=.osl e w 0 n) (hy:s.ev y=.c (.sl ys)) (hb:s.bx e=⟨w,.sl sz es⟩) (hn:n=es.length)
  (hr:es.length + ys.length≤maxGrow) (hw:∀ e∈ys,e.length=sz) (hz:es++ys=zs) (hm:zs.length=m)
  (h:∀ q u,wL C l (((s.box e ⟨q,.dead⟩).box d ⟨u,.sl sz zs⟩).put d (.osl d u 0 m)) K):wL C (⟨some d,.app sz x y true,none⟩::l) s K:=by
 subst hz; subst hm; have hc:n=es.length∧es.length + ys.length≤maxGrow∧∀ e∈ys,e.length=sz:=⟨hn,hr,hw⟩
 simp only [wL,wpL,wpG,wpK,pstep,PS.evc,hx,hy,hb,true_and,if_pos hc,if_true]; exact h _ _
theorem WC {sz e w n:Nat} {es ys zs:List (List CV)} (hx:s.ev x=.osl e w 0 n) (hy:s.ev y=.c (.sl ys)) (hb:s.bx e=⟨w,.sl sz es⟩) (hn:n=es.length)
  (hr:es.length + ys.length≤maxGrow) (hw:∀ e∈ys,e.length=sz) (hz:es++ys=zs)
  (h:∀ q,wL C l ((s.box e ⟨q,.dead⟩).put d (.c (.sl zs))) K):wL C (⟨some d,.app sz x y false,none⟩::l) s K:=by
 subst hz; have hc:n=es.length∧es.length + ys.length≤maxGrow∧∀ e∈ys,e.length=sz:=⟨hn,hr,hw⟩
 simp only [wL,wpL,wpG,wpK,pstep,PS.evc,hx,hy,hb,true_and,if_pos hc,Bool.false_eq_true,if_false]; exact h _
theorem jew {sz:Nat} {lo hi:Option PO} {es zs:List (List CV)} {i j:Nat} (hx:s.ev x=.c (.sl es)) (hl:bound s 0 lo=some i) (hh:bound s es.length hi=some j) (hij:i≤j∧j≤es.length)
  (hw:∀ e∈es,e.length=sz) (hz:(es.take j).drop i=zs) (h:wL C l (s.put d (.c (.sl zs))) K):wL C (⟨some d,.slc sz x lo hi,none⟩::l) s K:=by
 subst hz; have hc:i≤j∧j≤es.length∧∀ e∈es,e.length=sz:=⟨hij.1,hij.2,hw⟩
 simp only [wL,wpL,wpG,wpK,pstep,hx,hl,hh,if_pos hc,PS.putO]; exact h
theorem jex {e w o:Nat} {cs:List CV} (hx:s.ev x=.ptr e w o) (hb:s.bx e=⟨w,.var cs⟩) (h:wL C l (s.put d (.ptr e w o)) K):wL C (⟨some d,.nilc x,none⟩::l) s K:=by
 simp only [wL,wpL,wpG,wpK,pstep,hx,hb,if_true,PS.putO]; exact h
theorem Yr (hx:s.ev x=.c (.int k a)) (hy:s.ev y=.c (.int k b)) (h:wL C l (s.put d (.c (.int k (if b < a then b else a)))) K):wL C (⟨some d,.mm false x [y],none⟩::l) s K:=by
 simp only [wL,wpL,wpG,wpK,pstep,foldMm,PS.evc,hx,hy,if_true,Bool.false_eq_true,if_false,PS.putO]; exact h
theorem Ys (hx:s.ev x=.c (.int k a)) (hy:s.ev y=.c (.int k b)) (h:wL C l (s.put d (.c (.int k (if b > a then b else a)))) K):wL C (⟨some d,.mm true x [y],none⟩::l) s K:=by
 simp only [wL,wpL,wpG,wpK,pstep,foldMm,PS.evc,hx,hy,if_true,PS.putO]; exact h
theorem call0 {f:FuncId} {r:CV} (hC:C f [] (.c r) []) (h:wL C l (s.put d (.c r)) K) :
  wL C (⟨some d,.call false f [],none⟩::l) s K:=by
 simp only [wL,wpL,wpG,wpK,wpCall,evcs,PS.evc]; exact ⟨r,hC,h⟩
theorem call1 {f:FuncId} {x1:PO} {v1:CV} {r:CV} (h1:s.ev x1=.c v1) (hC:C f [.c v1] (.c r) []) (h:wL C l (s.put d (.c r)) K) :
  wL C (⟨some d,.call false f [x1],none⟩::l) s K:=by
 simp only [wL,wpL,wpG,wpK,wpCall,evcs,PS.evc,h1]; exact ⟨r,hC,h⟩
theorem call2 {f:FuncId} {x1 x2:PO} {v1 v2:CV} {r:CV} (h1:s.ev x1=.c v1) (h2:s.ev x2=.c v2) (hC:C f [.c v1,.c v2] (.c r) []) (h:wL C l (s.put d (.c r)) K) :
  wL C (⟨some d,.call false f [x1,x2],none⟩::l) s K:=by
 simp only [wL,wpL,wpG,wpK,wpCall,evcs,PS.evc,h1,h2]; exact ⟨r,hC,h⟩
theorem call3 {f:FuncId} {x1 x2 x3:PO} {v1 v2 v3:CV} {r:CV} (h1:s.ev x1=.c v1) (h2:s.ev x2=.c v2) (h3:s.ev x3=.c v3) (hC:C f [.c v1,.c v2,.c v3] (.c r) []) (h:wL C l (s.put d (.c r)) K) :
  wL C (⟨some d,.call false f [x1,x2,x3],none⟩::l) s K:=by
 simp only [wL,wpL,wpG,wpK,wpCall,evcs,PS.evc,h1,h2,h3]; exact ⟨r,hC,h⟩
theorem call4 {f:FuncId} {x1 x2 x3 x4:PO} {v1 v2 v3 v4:CV} {r:CV} (h1:s.ev x1=.c v1) (h2:s.ev x2=.c v2) (h3:s.ev x3=.c v3) (h4:s.ev x4=.c v4) (hC:C f [.c v1,.c v2,.c v3,.c v4] (.c r) []) (h:wL C l (s.put d (.c r)) K) :
  wL C (⟨some d,.call false f [x1,x2,x3,x4],none⟩::l) s K:=by
 simp only [wL,wpL,wpG,wpK,wpCall,evcs,PS.evc,h1,h2,h3,h4]; exact ⟨r,hC,h⟩
theorem callO2 {f:FuncId} {x1 x2:PO} {v1 v2:CV} {e w n m sz sz':Nat} {es zs:List (List CV)} (hx:s.ev x=.osl e w 0 n) (hb:s.bx e=⟨w,.sl sz es⟩) (hn:n=es.length) (h1:s.ev x1=.c v1) (h2:s.ev x2=.c v2) (hC:C f [.own sz es,.c v1,.c v2] (.own sz' zs) []) (hm:zs.length=m)
  (h:∀ q u,wL C l (((s.box e ⟨q,.dead⟩).box d ⟨u,.sl sz' zs⟩).put d (.osl d u 0 m)) K):wL C (⟨some d,.call true f [x,x1,x2],none⟩::l) s K:=by
 subst hm; simp only [wL,wpL,wpG,wpK,wpCall,evcs,PS.evc,hx,hb,h1,h2,true_and]; exact ⟨hn,.inl ⟨.own sz' zs,fun _ _ _=>rfl,hC,h _ _⟩⟩
theorem callS1 {f:FuncId} {x1:PO} {v1:CV} {e w n sz:Nat} {es es':List (List CV)} {r:CV} {dst:Option Nat} (hx:s.ev x=.osl e w 0 n) (hb:s.bx e=⟨w,.sl sz es⟩) (hn:n=es.length) (h1:s.ev x1=.c v1) (hC:C f [.ios sz es,.c v1] (.c r) [[.sl es']])
  (h:wL C l ((s.box e ⟨w,.sl sz es'⟩).putO dst (.c r)) K):wL C (⟨dst,.call true f [x,x1],none⟩::l) s K:=by
 simp only [wL,wpL,wpG,wpK,wpCall,evcs,PS.evc,hx,hb,h1,true_and]; exact ⟨hn,.inr ⟨r,es',hC,h⟩⟩
theorem callS2 {f:FuncId} {x1 x2:PO} {v1 v2:CV} {e w n sz:Nat} {es es':List (List CV)} {r:CV} {dst:Option Nat} (hx:s.ev x=.osl e w 0 n) (hb:s.bx e=⟨w,.sl sz es⟩) (hn:n=es.length) (h1:s.ev x1=.c v1) (h2:s.ev x2=.c v2) (hC:C f [.ios sz es,.c v1,.c v2] (.c r) [[.sl es']])
  (h:wL C l ((s.box e ⟨w,.sl sz es'⟩).putO dst (.c r)) K):wL C (⟨dst,.call true f [x,x1,x2],none⟩::l) s K:=by
 simp only [wL,wpL,wpG,wpK,wpCall,evcs,PS.evc,hx,hb,h1,h2,true_and]; exact ⟨hn,.inr ⟨r,es',hC,h⟩⟩
theorem callS3 {f:FuncId} {x1 x2 x3:PO} {v1 v2 v3:CV} {e w n sz:Nat} {es es':List (List CV)} {r:CV} {dst:Option Nat} (hx:s.ev x=.osl e w 0 n) (hb:s.bx e=⟨w,.sl sz es⟩) (hn:n=es.length) (h1:s.ev x1=.c v1) (h2:s.ev x2=.c v2) (h3:s.ev x3=.c v3) (hC:C f [.ios sz es,.c v1,.c v2,.c v3] (.c r) [[.sl es']])
  (h:wL C l ((s.box e ⟨w,.sl sz es'⟩).putO dst (.c r)) K):wL C (⟨dst,.call true f [x,x1,x2,x3],none⟩::l) s K:=by
 simp only [wL,wpL,wpG,wpK,wpCall,evcs,PS.evc,hx,hb,h1,h2,h3,true_and]; exact ⟨hn,.inr ⟨r,es',hC,h⟩⟩
theorem callS4 {f:FuncId} {x1 x2 x3 x4:PO} {v1 v2 v3 v4:CV} {e w n sz:Nat} {es es':List (List CV)} {r:CV} {dst:Option Nat} (hx:s.ev x=.osl e w 0 n) (hb:s.bx e=⟨w,.sl sz es⟩) (hn:n=es.length) (h1:s.ev x1=.c v1) (h2:s.ev x2=.c v2) (h3:s.ev x3=.c v3) (h4:s.ev x4=.c v4) (hC:C f [.ios sz es,.c v1,.c v2,.c v3,.c v4] (.c r) [[.sl es']])
  (h:wL C l ((s.box e ⟨w,.sl sz es'⟩).putO dst (.c r)) K):wL C (⟨dst,.call true f [x,x1,x2,x3,x4],none⟩::l) s K:=by
 simp only [wL,wpL,wpG,wpK,wpCall,evcs,PS.evc,hx,hb,h1,h2,h3,h4,true_and]; exact ⟨hn,.inr ⟨r,es',hC,h⟩⟩
theorem callV1 {f:FuncId} {caps:List (List CV)} {x1:PO} {v1:CV} {r:CV} {dst:Option Nat} (hx:s.ev x=.c (.clo f caps)) (h1:s.ev x1=.c v1) (hC:C f ([.c v1]++caps.map .rp) (.c r) [])
  (h:wL C l (s.putO dst (.c r)) K):wL C (⟨dst,.callv x [x1],none⟩::l) s K:=by
 simp only [wL,wpL,wpG,wpK,wpCallV,evcs,PS.evc,hx,h1]; exact ⟨r,hC,h⟩
theorem callV2 {f:FuncId} {caps:List (List CV)} {x1 x2:PO} {v1 v2:CV} {r:CV} {dst:Option Nat} (hx:s.ev x=.c (.clo f caps)) (h1:s.ev x1=.c v1) (h2:s.ev x2=.c v2) (hC:C f ([.c v1,.c v2]++caps.map .rp) (.c r) [])
  (h:wL C l (s.putO dst (.c r)) K):wL C (⟨dst,.callv x [x1,x2],none⟩::l) s K:=by
 simp only [wL,wpL,wpG,wpK,wpCallV,evcs,PS.evc,hx,h1,h2]; exact ⟨r,hC,h⟩
end
section
variable {C : CallP} {s : PS} {K : Ex → PS → Prop} {p q : PCode}
theorem jP (h:K .n s):wP C .skip s K:=h
theorem jN {l:List POp} (h:wL C l s (K .n)):wP C (.ops false l) s K:=h
theorem kK {l:List POp} (hn:newSites l=[]) (h:wL C l s (K .n)):wP C (.ops true l) s K:=by
 simp only [wP,pwp,if_true,hn,PS.kills]; exact h
theorem Yt {l:List POp} {e:Nat} (hn:newSites l=[e]) (h:∀ q,wL C l (s.box e ⟨q,.dead⟩) (K .n)):wP C (.ops true l) s K:=by
 simp only [wP,pwp,if_true,hn,PS.kills]; exact h _
theorem jhn {l:List POp} {on:List (Nat × Nat)} {e f:Nat} (hn:newSites l=[e,f]) (h:∀ q r,wLB C on 0 l ((s.box e ⟨q,.dead⟩).box f ⟨r,.dead⟩) (K .n)):wP C (.opsB l on) s K:=by
 simp only [wP,pwp,hn,PS.kills]; exact h _ _
theorem jho {l:List POp} {on:List (Nat × Nat)} {e f g:Nat} (hn:newSites l=[e,f,g]) (h:∀ q r t,wLB C on 0 l (((s.box e ⟨q,.dead⟩).box f ⟨r,.dead⟩).box g ⟨t,.dead⟩) (K .n)):wP C (.opsB l on) s K:=by
 simp only [wP,pwp,hn,PS.kills]; exact h _ _ _
theorem jkz {on:List (Nat × Nat)} {k:Nat} {N:PS→Prop} (h:N s):wLB C on k [] s N:=h
theorem jm4 {on:List (Nat × Nat)} {k:Nat} {o:POp} {l:List POp} {N:PS→Prop} (hb:on.lookup k=none) (h:wL C [o] s (xL C on (k + 1) l N)):wLB C on k (o::l) s N :=
 ⟨fun c hc=>by (rw [hb] at hc; cases hc),h⟩
theorem jm5 {on:List (Nat × Nat)} {k e ver:Nat} {o:POp} {l:List POp} {N:PS→Prop} (hb:on.lookup k=some e) (hr:ref o.k s=some (e,ver)) (h:wL C [o] s (xL C on (k + 1) l N)):wLB C on k (o::l) s N :=
 ⟨fun c hc e' v' h'=>by (rw [hb] at hc; rw [hr] at h'; cases hc; cases h'; rfl),h⟩
theorem jm6 {on:List (Nat × Nat)} {k:Nat} {o:POp} {l:List POp} {N:PS→Prop} (hr:ref o.k s=none) (h:wL C [o] s (xL C on (k + 1) l N)):wLB C on k (o::l) s N :=
 ⟨fun c hc e' v' h'=>by (rw [hr] at h'; cases h'),h⟩
theorem jm7 {on:List (Nat × Nat)} {k:Nat} {l:List POp} {N:PS→Prop} (h:wLB C on k l s N):xL C on k l N s:=h
theorem jK (h:wP C p s (xT (fun s'=>wP C q s' K) K)):wP C (.seq p q) s K:=h
theorem VE {id:Nat} (h:K (.x id) s):wP C (.exit id) s K:=h
theorem j4 (h:K .r s):wP C .ret s K:=h
theorem jY {id:Nat} (h:wP C p s (xB id K)):wP C (.block id p) s K:=h
theorem jR {x:PO} (hx:s.ev x=.c (.bool true)) (h:wP C p s K):wP C (.cond x p q) s K:=by
 simp only [wP,pwp,hx]; exact ⟨fun _=>h,fun h=>by cases h⟩
theorem jD {x:PO} (hx:s.ev x=.c (.bool false)) (h:wP C q s K):wP C (.cond x p q) s K:=by
 simp only [wP,pwp,hx]; exact ⟨(fun h=>by cases h),fun _=>h⟩
theorem jey {x:PO} {b:Bool} (hx:s.ev x=.c (.bool b)) (h1:b=true→wP C p s K) (h0:b=false→wP C q s K):wP C (.cond x p q) s K:=by
 simp only [wP,pwp,hx]; exact ⟨h1,h0⟩
theorem Yu {x:PO} {b:Prop} [Decidable b] (hx:s.ev x=.c (.bool (decide b))) (h1:b→wP C p s K) (h0:¬ b→wP C q s K):wP C (.cond x p q) s K :=
 jey hx (fun e=>h1 (of_decide_eq_true e)) (fun e=>h0 (of_decide_eq_false e))
theorem ko {N:PS→Prop} (h:N s):xT N K .n s:=h
theorem jc7 {N:PS→Prop} {i:Nat} (h:K (.x i) s):xT N K (.x i) s:=h
theorem j8 {N:PS→Prop} (h:K .r s):xT N K .r s:=h
theorem XL {id:Nat} (h:K .n s):xB id K .n s:=h
theorem kl {id:Nat} (h:K .r s):xB id K .r s:=h
theorem JP {id:Nat} (h:K .n s):xB id K (.x id) s:=by simp only [xB,Ex.blk,if_true]; exact h
theorem jF {i e w n sz:Nat} {es:List (List CV)} (hx:s.t i=.osl e w 0 n) (hb:s.bx e=⟨w,.sl sz es⟩) (hn:n=es.length) (h:∀ q,wP C p ((s.box e ⟨q,.dead⟩).put i (.c (.sl es))) K):wP C (.fz i p) s K:=by
 simp only [wP,pwp,hx,PS.close,hb,true_and,if_pos hn]; exact h _
theorem jk0 {i:Nat} {v:CV} (hx:s.t i=.c v) (h:wP C p s K):wP C (.fz i p) s K:=by
 simp only [wP,pwp,hx]; exact h
theorem jc8 {i e w o n:Nat} (hx:s.t i=.osl e w o n) (h:wP C p s K):wP C (.rn i e p) s K:=by
 simp only [wP,pwp,hx]; exact ⟨fun _=>h,fun hn=>absurd rfl hn⟩
theorem jmj {i d e w n sz:Nat} {es:List (List CV)} (hx:s.t i=.osl d w 0 n) (hne:d≠e) (hb:s.bx d=⟨w,.sl sz es⟩) (hn:n=es.length)
  (h:∀ q u,wP C p (((s.box d ⟨q,.dead⟩).box e ⟨u,.sl sz es⟩).put i (.osl e u 0 n)) K):wP C (.rn i e p) s K:=by
 simp only [wP,pwp,hx,hb,true_and]; exact ⟨fun he=>absurd he hne,fun _=>⟨hn,h _ _⟩⟩
theorem Y8 {m:Bool} {f:FuncId} {args:List PO} {dst:Option Nat} {s:PS} {K K':PS→Prop} (hk:∀ s,K s→K' s) (h:wpCall C m f args dst s K):wpCall C m f args dst s K':=by
 unfold wpCall at *
 split at h
 ·split at h
  ·obtain ⟨r,hc,h⟩:=h; exact ⟨r,hc,hk _ h⟩
  ·exact h
 ·split at h
  ·split at h
   ·obtain ⟨h0,h⟩:=h
    refine ⟨h0,?_⟩
    rcases h with ⟨r,h1,hc,h⟩ | ⟨r,es',hc,h⟩
    ·exact .inl ⟨r,h1,hc,hk _ h⟩
    ·exact .inr ⟨r,es',hc,hk _ h⟩
   ·exact h
  ·split at h
   ·obtain ⟨h0,r,c1,hc,h⟩:=h; exact ⟨h0,r,c1,hc,hk _ h⟩
   ·exact h
  ·obtain ⟨sz,es,hs,hc,h⟩:=h; exact ⟨sz,es,hs,hc,hk _ h⟩
  ·exact h
 ·exact h
theorem Yv {x:PO} {args:List PO} {dst:Option Nat} {s:PS} {K K':PS→Prop} (hk:∀ s,K s→K' s) (h:wpCallV C x args dst s K):wpCallV C x args dst s K':=by
 unfold wpCallV at *
 split at h
 ·obtain ⟨r,hc,h⟩:=h; exact ⟨r,hc,hk _ h⟩
 ·obtain ⟨r,hc,h⟩:=h; exact ⟨r,hc,hk _ h⟩
 ·exact h
theorem Y9 {o:POp} {s:PS} {K K':PS→Prop} (hk:∀ s,K s→K' s) (h:wpK C o s K):wpK C o s K':=by
 obtain ⟨d,q,g⟩:=o
 cases q <;> simp only [wpK] at h ⊢
 case call m f args=>exact Y8 hk h
 case callv x args=>exact Yv hk h
 all_goals (split at h <;> first | exact hk _ h | exact h)
theorem vq {o:POp} {s:PS} {K K':PS→Prop} (hk:∀ s,K s→K' s) (h:wpG C o s K):wpG C o s K':=by
 unfold wpG at *
 split at h
 ·exact Y9 hk h
 ·split at h
  ·exact ⟨fun e=>Y9 hk (h.1 e),fun e=>hk _ (h.2 e)⟩
  ·exact hk _ h
  ·exact h
theorem Za {l:List POp}:∀ {s:PS} {K K':PS→Prop},(∀ s,K s→K' s)→wpL C l s K→wpL C l s K':=by
 induction l with
 | nil=>intro s K K' hk h; exact hk _ h
 | cons o l ih=>intro s K K' hk h; exact vq (fun _ h=>ih hk h) h
theorem jc9 {on:List (Nat × Nat)} {l:List POp}:∀ {k:Nat} {s:PS} {K K':PS→Prop},(∀ s,K s→K' s)→wpLB C on k l s K→wpLB C on k l s K':=by
 induction l with
 | nil=>intro k s K K' hk h; exact hk _ h
 | cons o l ih=>intro k s K K' hk h; exact ⟨h.1,vq (fun _ h=>ih hk h) h.2⟩
theorem Zb {p:PCode}:∀ {s:PS} {K K':Ex→PS→Prop},(∀ e s,K e s→K' e s)→pwp C p s K→pwp C p s K':=by
 induction p with
 | skip=>intro s K K' hk h; exact hk _ _ h
 | ops d l=>intro s K K' hk h; exact Za (hk _) h
 | opsB l on=>intro s K K' hk h; exact jc9 (hk _) h
 | opsN l x d =>
  intro s K K' hk h
  refine Za (fun s h=>?_) h
  split at h
  ·exact ⟨fun e=>hk _ _ (h.1 e),hk _ _ h.2⟩
  ·exact h
 | seq a b iha ihb=>intro s K K' hk h; exact iha (fun e s h=>by cases e <;> first | exact ihb hk h | exact hk _ _ h) h
 | cond x a b iha ihb =>
  intro s K K' hk h
  simp only [pwp] at h ⊢
  split at h
  ·exact ⟨fun e=>iha hk (h.1 e),fun e=>ihb hk (h.2 e)⟩
  ·exact h
 | block id a iha =>
  intro s K K' hk h
  refine iha (fun e s h=>?_) h
  cases e <;> simp only [Ex.blk] at h ⊢
  ·exact hk _ _ h
  ·split at h <;> (rename_i hj; first | rw [if_pos hj] | rw [if_neg hj]) <;> exact hk _ _ h
  ·exact hk _ _ h
 | loop a iha =>
  intro s K K' hk h X hX
  exact h X fun s h=>hX s (iha (fun e s h=>by cases e <;> first | exact h | exact hk _ _ h) h)
 | exit id=>intro s K K' hk h; exact hk _ _ h
 | ret=>intro s K K' hk h; exact hk _ _ h
 | fz i a iha =>
  intro s K K' hk h
  simp only [pwp] at h ⊢
  split at h
  ·split at h
   ·exact iha hk h
   ·exact h
  ·exact iha hk h
  ·exact h
 | rn i e a iha =>
  intro s K K' hk h
  simp only [pwp] at h ⊢
  split at h
  ·refine ⟨fun e=>iha hk (h.1 e),fun e=>?_⟩
   have h2:=h.2 e
   split at h2
   ·exact ⟨h2.1,iha hk h2.2⟩
   ·exact h2
  ·exact h
 | fzc i k a iha =>
  intro s K K' hk h
  simp only [pwp] at h ⊢
  split at h
  ·split at h
   ·refine ⟨h.1,?_⟩
    have h:=h.2
    split at h
    ·refine ⟨h.1,?_⟩
     have h:=h.2
     split at h
     ·exact iha hk h
     ·exact h
    ·exact iha hk h
    ·exact h
   ·exact ⟨h.1,iha hk h.2⟩
   ·exact h
  ·exact h
 | rnc i k e a iha =>
  intro s K K' hk h
  simp only [pwp] at h ⊢
  split at h
  ·split at h
   ·refine ⟨h.1,h.2.1,?_⟩
    have h:=h.2.2
    split at h
    ·refine ⟨fun e=>iha hk (h.1 e),fun e=>⟨(h.2 e).1,?_⟩⟩
     have h:=(h.2 e).2
     split at h
     ·exact ⟨h.1,iha hk h.2⟩
     ·exact h
    ·exact iha hk h
    ·exact h
   ·exact ⟨h.1,iha hk h.2⟩
   ·exact h
  ·exact h
 | fzv i a iha =>
  intro s K K' hk h
  simp only [pwp] at h ⊢
  split at h
  ·split at h
   ·exact ⟨h.1,iha hk h.2⟩
   ·exact h
  ·exact iha hk h
  ·exact h
 | fzm i a iha =>
  intro s K K' hk h
  simp only [pwp] at h ⊢
  split at h
  ·split at h
   ·refine ⟨h.1,h.2.1,?_⟩
    have h:=h.2.2
    split at h
    ·exact iha hk h
    ·exact h
   ·exact h
  ·exact iha hk h
  ·exact h
 | zn i k sz e a iha =>
  intro s K K' hk h
  simp only [pwp] at h ⊢
  split at h
  ·split at h
   ·refine ⟨h.1,?_⟩
    have h:=h.2
    split at h
    ·exact iha hk h
    ·exact h
   ·exact h
  ·exact h
 | nvp i a iha =>
  intro s K K' hk h
  simp only [pwp] at h ⊢
  split at h
  ·split at h
   ·refine ⟨h.1,?_⟩
    have h:=h.2
    split at h
    ·exact iha hk h
    ·exact h
   ·exact ⟨h.1,iha hk h.2⟩
   ·exact h
  ·exact h
theorem jf (h:wP C p s (xT (fun s'=>wP C (.loop p) s' K) K)):wP C (.loop p) s K:=by
 intro X hX
 apply hX
 refine Zb (fun e s' he=>?_) h
 cases e
 ·exact he X hX
 ·exact he
 ·exact he
theorem jc {s:PS} {g:Nat} {v:Box} (h:s.bx g=v):s.box g v=s:=by
 cases s; simp only [PS.box,PS.mk.injEq,true_and]; funext i; split
 ·rename_i e; subst e; exact h.symm
 ·rfl
end
attribute [irreducible] wL wP xT xB
end Go.Pl
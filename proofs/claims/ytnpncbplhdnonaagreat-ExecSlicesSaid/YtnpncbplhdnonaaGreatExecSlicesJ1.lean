/- Part of the proof of ExecSlices: lemmas. -/
import Derived.Test.YtnpncbplhdnonaaGreatExecS1
import Derived.Test.YtnpncbplhdnonaaGreatExecS2
import Derived.Test.YtnpncbplhdnonaaGreatExecS3
import Derived.Test.YtnpncbplhdnonaaGreatExecS4
import Derived.Test.YtnpncbplhdnonaaGreatExecS5
import Derived.Test.YtnpncbplhdnonaaGreatExecS6
import Derived.Test.YtnpncbplhdnonaaGreatExecS7
import Derived.Test.YtnpncbplhdnonaaGreatExecS8
import Derived.Test.YtnpncbplhdnonaaGreatExecS9
import Derived.Test.YtnpncbplhdnonaaGreatExecS10
import Derived.Test.YtnpncbplhdnonaaGreatExecS11
import Derived.Test.YtnpncbplhdnonaaGreatExecS12
import Derived.Test.YtnpncbplhdnonaaGreatExecS13
import Derived.Test.YtnpncbplhdnonaaGreatExecS14
import Derived.Test.YtnpncbplhdnonaaGreatExecS15
import Derived.Test.YtnpncbplhdnonaaGreatExecS16
import Derived.Test.YtnpncbplhdnonaaGreatExecS17
import Derived.Test.YtnpncbplhdnonaaGreatExecS18
import Derived.Test.YtnpncbplhdnonaaGreatExecS19
import Derived.Test.YtnpncbplhdnonaaGreatExecS20
import Derived.Test.YtnpncbplhdnonaaGreatExecS21
import Derived.Test.YtnpncbplhdnonaaGreatExecS22
import Derived.Test.YtnpncbplhdnonaaGreatExecS23
import Derived.Test.YtnpncbplhdnonaaGreatExecS24
import Derived.Test.YtnpncbplhdnonaaGreatExecS25
import Derived.Test.YtnpncbplhdnonaaGreatExecS26
import Derived.Test.YtnpncbplhdnonaaGreatExecS27
import Derived.Test.YtnpncbplhdnonaaGreatExecS28
import Derived.Test.YtnpncbplhdnonaaGreatExecS29
set_option linter.unusedVariables false
set_option linter.unusedSimpArgs false
/-
 THE WALK OF A PLAIN CODE,step by step: one lemma for each form of an operation; each is a reading of 'wpL' and 'pwp'. My own work.
-/
namespace Go.Pl
attribute [local semireducible] wL wP xT xB
set_option linter.unusedSimpArgs false
section
variable {C : CallP} {l : List POp} {s : PS} {K : PS → Prop} {d : Nat} {x y z : PO} {k : IntKind} {a b n m : Int}
theorem call5 {f:FuncId} {x1 x2 x3 x4 x5:PO} {v1 v2 v3 v4 v5:CV} {r:CV} (h1:s.ev x1=.c v1) (h2:s.ev x2=.c v2) (h3:s.ev x3=.c v3) (h4:s.ev x4=.c v4) (h5:s.ev x5=.c v5) (hC:C f [.c v1,.c v2,.c v3,.c v4,.c v5] (.c r) []) (h:wL C l (s.put d (.c r)) K) :
  wL C (⟨some d,.call false f [x1,x2,x3,x4,x5],none⟩::l) s K:=by
 simp only [wL,wpL,wpG,wpK,wpCall,evcs,PS.evc,h1,h2,h3,h4,h5]; exact ⟨r,hC,h⟩
end
section
variable {C : CallP} {s : PS} {K : Ex → PS → Prop} {p q : PCode}
theorem w_opsB0 {l:List POp} {on:List (Nat × Nat)} (hn:newSites l=[]) (h:wLB C on 0 l s (K .n)):wP C (.opsB l on) s K:=by
 simp only [wP,pwp,hn,PS.kills]; exact h
end
end Go.Pl
/-
 THE WALK OF A PLAIN CODE: variables in whose cells references may lie. My own work.
-/
namespace Go.Pl
set_option linter.unusedSimpArgs false
section
variable {C : CallP} {l : List POp} {s : PS} {K : PS → Prop} {d : Nat} {x y z : PO} {k : IntKind} {a b n m : Int}
theorem store_vo {e w o g u i j:Nat} {cs:List CV} {new:List PV} {av:List Nat} (hx:s.ev x=.ptr e w o) (hy:s.ev y=.osl g u i j) (ha:e ∉ av) (hb:s.bx e=⟨w,.var cs⟩)
  (hn:o + 1≤cs.length) (hv:splP (cs.map .c) o [.osl g u i j]=new) (h:wL C l (s.box e ⟨w,.vp new⟩) K):wL C (⟨none,.store 1 x y av,none⟩::l) s K:=by
 subst hv; simp only [wL] at h; simp only [wL,wpL,wpG,wpK,pstep,PS.evc,hx,hy,hb,if_neg ha,PV.refr,true_and,and_self,if_true,if_pos hn]; exact h
end
section
variable {C : CallP} {s : PS} {K : Ex → PS → Prop} {p q : PCode}
end
/-! ### function values, maps -/
section
variable {C : CallP} {l : List POp} {s : PS} {K : PS → Prop} {d : Nat} {x y z : PO}
end
section
variable {C : CallP} {s : PS} {K : Ex → PS → Prop} {p : PCode}
end
section
variable {C : CallP} {l : List POp} {s : PS} {K : PS → Prop} {d : Nat} {x y z : PO}
end
section
variable {C : CallP} {l : List POp} {s : PS} {K : Ex → PS → Prop} {d : Nat} {x : PO}
end
end Go.Pl
/- Part of the proof of ExecFirst: lemmas. -/
import Derived.Test.YtnpncbplhdnonaaGreatExecS17
import Derived.Test.YtnpncbplhdnonaaGreatExecS34
set_option linter.unusedVariables false
set_option linter.unusedSimpArgs false
namespace Go.Proofs.YtnpncbplhdnonaaGreat
open Go.Pl Go.Bag
set_option maxHeartbeats 16000000
set_option maxRecDepth 100000
/-! ### ExecBest -/
theorem jm0 {K:KT} (l:List LineS) (hok:∀ z∈l,okLn z) (hlen:l.length≤40) (f0 m tt f:Int) (v3:Nat) (x15 x16 x17:CV) (ns:List Int) (hns:ns.length≤10):∀ (rest:List Int) (i:Nat) (s:PS),ns.drop i=rest→i≤ns.length →
  s.t 0=.c (encLs l)→s.t 3=.ptr 3 v3 0→s.bx 3=⟨v3,.var [.int .i64 f0,.int .i64 m,.int .i64 tt]⟩→s.t 6=.c (.int .i64 f)→s.t 15=.c x15→s.t 16=.c x16→s.t 17=.c x17→s.t 25=.c (encIs ns)→s.t 26=.c (.int .i64 ns.length)→s.t 27=.c (.int .i64 i) →
  (∀ s',s'.t 0=.c (encLs l)→s'.t 3=.ptr 3 v3 0→s'.bx 3=⟨v3,.var [.int .i64 f0,.int .i64 m,.int .i64 tt]⟩→s'.t 15=.c x15→s'.t 16=.c x16→s'.t 17=.c x17→K (.x 2) s')→wP (CP) (.loop b5_1) s K:=by
 intro rest
 induction rest with
 | nil =>
  intro i s hd hi t0 t3 b3 t6 t15 t16 t17 t25 t26 t27 hK
  refine jf ?_
  have:=jm hd hi
  subst this
  rw [← ja t0,← ja t3,← jc b3,← ja t15,← ja t16,← ja t17,← ja t26,← ja t27]
  unfold b5_1
  repeat' (first | refine st0 ?_ | intro u)
  exact hK _ (by rfl) (by rfl) (by rfl) (by rfl) (by rfl) (by rfl)
 | cons n rest ih =>
  intro i s hd hi t0 t3 b3 t6 t15 t16 t17 t25 t26 t27 hK
  refine jf ?_
  have he:(ns.map fun n=>[CV.int .i64 n])[((i:Nat):Int).toNat]? = some [CV.int .i64 n]:=jp hd
  have hil:=jo hd
  have ih':=fun s=>ih (i + 1) s (jg hd) (by omega)
  have c1:=VS l f m n hok (by omega)
  have c2:=YP l f m n hok (by omega)
  have c3:=vL (bestS f m n l) (bestS f m n l) (by have:=ki f m n l; omega) (by have:=ki f m n l; omega)
  have d1:=VS l f 0 n hok (by omega)
  have d2:=YP l f 0 n hok (by omega)
  have d3:=vL (bestS f 0 n l) (bestS f 0 n l) (by have:=ki f 0 n l; omega) (by have:=ki f 0 n l; omega)
  rw [decide_eq_true rfl] at c3 d3
  generalize encLs (bestS f m n l)=B1 at *
  generalize encLs (bestS f 0 n l)=B2 at *
  rw [← ja t0,← ja t3,← jc b3,← ja t6,← ja t15,← ja t16,← ja t17,← ja t25,← ja t26,← ja t27]
  generalize encLs l=el at *
  unfold encIs at *
  unfold b5_1
  repeat' (first | refine ji rfl rfl (by omega) he rfl ?_ | refine call4 rfl rfl rfl rfl c1 ?_ | refine call4 rfl rfl rfl rfl c2 ?_ | refine call2 rfl rfl c3 ?_ | refine call4 rfl rfl rfl rfl d1 ?_ | refine call4 rfl rfl rfl rfl d2 ?_ | refine call2 rfl rfl d3 ?_ | refine st6 ?_ | intro u)
  exact ih' _ (by rfl) (by rfl) (by rfl) (by rfl) (by rfl) (by rfl) (by rfl) (by rfl) (by rfl) (by rfl) hK
theorem jme {K:KT} (l:List LineS) (hok:∀ z∈l,okLn z) (hlen:l.length≤40) (f0 m tt:Int) (v3:Nat) (fs:List Int) (hfs:fs.length≤10):∀ (rest:List Int) (i:Nat) (s:PS),fs.drop i=rest→i≤fs.length →
  s.t 0=.c (encLs l)→s.t 3=.ptr 3 v3 0→s.bx 3=⟨v3,.var [.int .i64 f0,.int .i64 m,.int .i64 tt]⟩→s.t 15=.c (encIs fs)→s.t 16=.c (.int .i64 fs.length)→s.t 17=.c (.int .i64 i) →
  (∀ s',K (.x 0) s')→wP (CP) (.loop b5_0) s K:=by
 intro rest
 induction rest with
 | nil =>
  intro i s hd hi t0 t3 b3 t15 t16 t17 hK
  refine jf ?_
  have:=jm hd hi
  subst this
  rw [← ja t16,← ja t17]
  unfold b5_0
  repeat' (first | refine st0 ?_ | intro u)
  exact hK _
 | cons f rest ih =>
  intro i s hd hi t0 t3 b3 t15 t16 t17 hK
  refine jf ?_
  have he:(fs.map fun n=>[CV.int .i64 n])[((i:Nat):Int).toNat]? = some [CV.int .i64 f]:=jp hd
  have hil:=jo hd
  have ih':=fun s=>ih (i + 1) s (jg hd) (by omega)
  have lp:=fun (K:Ex→PS→Prop) v3 x15 x16 x17 s=>jm0 (K:=K) l hok hlen f0 m tt f v3 x15 x16 x17 [tt,3,l.length] (by simp) [tt,3,l.length] 0 s rfl (by omega)
  rw [← ja t0,← ja t3,← jc b3,← ja t15,← ja t16,← ja t17]
  have hll:(l.map encLn).length=l.length:=List.length_map _
  unfold encLs at *
  generalize l.map encLn=el at *
  unfold encIs at *
  simp only [List.map_cons,List.map_nil] at lp
  unfold b5_0
  repeat' (first | refine ji rfl rfl (by omega) he rfl ?_ | refine je rfl hll ?_ | refine st6 ?_ | intro u)
  refine lp _ _ _ _ _ _ (by rfl) (by rfl) (by rfl) (by rfl) (by rfl) (by rfl) (by rfl) (by rfl) (by rfl) (by rfl) (fun s' w0 w3 c3 w15 w16 w17=>?_)
  rw [← ja w0,← ja w3,← jc c3,← ja w15,← ja w16,← ja w17]
  repeat' (first | refine st0 ?_ | intro u)
  exact ih' _ (by rfl) (by rfl) (by rfl) (by rfl) (by rfl) (by rfl) hK
theorem jbi (l:List LineS) (hok:∀ z∈l,okLn z) (hl:l.length≤9223372036854775807) (f m t:Int):CP 5 [.c (encLs l),.c (.agg [.int .i64 f,.int .i64 m,.int .i64 t])] (.c (.bool true)) []:=by
 have cw:=ve
 refine pcallF Tryz.func5 c5 rfl ?_
 have lp:=fun (K:Ex→PS→Prop) hlen v3 s=>jme (K:=K) l hok hlen f m t v3 [f,1,2,3,4,5] (by simp) [f,1,2,3,4,5] 0 s rfl (by simp)
 have hll:(l.map encLn).length=l.length:=List.length_map _
 unfold encLs at *
 generalize l.map encLn=el at *
 unfold encIs at *
 simp only [List.map_cons,List.map_nil] at lp
 by_cases hlen:l.length≤40
 ·unfold p5
  repeat' (first | refine je rfl hll ?_ | refine st6 ?_ | intro u)
  refine lp _ hlen _ _ (by rfl) (by rfl) (by rfl) (by rfl) (by rfl) (by rfl) (fun s'=>?_)
  repeat' (first | refine call0 cw ?_ | refine st0 ?_ | intro u)
  exact jd rfl rfl
 ·unfold p5
  repeat' (first | refine je rfl hll ?_ | refine call0 cw ?_ | refine st2 ?_ | intro u)
  exact jd rfl rfl
theorem Yo {c:CV} (h:LF.Ok (.sl [.int .u8,.int .u8,.int .u8,.int .u8,.int .i64,.int .i64,.int .i64,.int .i64,.int .i64,.int .i64,.int .i64]) c):∃ l:List LineS,c=encLs l∧(∀ z∈l,okLn z)∧l.length≤9223372036854775807 :=
 vB h fun _ he=>jg4 he
theorem jbj (c0:CV) (h0:LF.Ok (.sl [.int .u8,.int .u8,.int .u8,.int .u8,.int .i64,.int .i64,.int .i64,.int .i64,.int .i64,.int .i64,.int .i64]) c0) (c1:List CV) (h1:OkL [.int .i64,.int .i64,.int .i64] c1):CP 5 [.c c0,.c (.agg c1)] (.c (.bool true)) []:=by
 obtain ⟨l,rfl,hok,hl⟩:=Yo h0
 obtain ⟨a0,k0,rfl,q0,g0⟩:=okL_cons h1
 obtain ⟨a1,k1,rfl,q1,g1⟩:=okL_cons g0
 obtain ⟨a2,k2,rfl,q2,g2⟩:=okL_cons g1
 obtain rfl:=okL_nil g2
 obtain ⟨f,rfl,_⟩:=jI q0
 obtain ⟨m,rfl,_⟩:=jI q1
 obtain ⟨t,rfl,_⟩:=jI q2
 exact jbi l hok hl f m t
end Go.Proofs.YtnpncbplhdnonaaGreat

/- Part of the proof of ExecTells, ExecAnswers, ExecBest, ExecFirst, ExecLevels, ExecTops, ExecLimits: lemmas. -/
import Derived.Test.YtnpncbplhdnonaaGreatExecS13
set_option linter.unusedVariables false
set_option linter.unusedSimpArgs false
/-
 THE WALK OF A PLAIN CODE: variables in whose cells references may lie. My own work.
-/
namespace Go.Pl
set_option linter.unusedSimpArgs false
section
variable {C : CallP} {l : List POp} {s : PS} {K : PS → Prop} {d : Nat} {x y z : PO} {k : IntKind} {a b n m : Int}
theorem YA {o e w i j:Nat} {ps:List PV} (hx:s.ev x=.ptr e w i) (hb:s.bx e=⟨w,.vp ps⟩) (hj:i + o=j) (h:wL C l (s.put d (.ptr e w j)) K):wL C (⟨some d,.fad o x,none⟩::l) s K:=by
 subst hj; simp only [wL] at h; simp only [wL,wpL,wpG,wpK,pstep,hx,hb,if_true,PS.putO]; exact h
theorem Wo {n e w o:Nat} {ps:List PV} {v:PV} {av:List Nat} (hx:s.ev x=.ptr e w o) (ha:e ∉ av) (hb:s.bx e=⟨w,.vp ps⟩) (hn:o + n≤ps.length)
  (hv:(ps.drop o).headD .junk=v) (h:wL C l (s.put d v) K):wL C (⟨some d,.load false n x av,none⟩::l) s K:=by
 subst hv; simp only [wL] at h; simp only [wL,wpL,wpG,wpK,pstep,hx,hb,if_neg ha,if_pos hn,true_and,PS.putO,loadP,Bool.false_eq_true,if_false]; exact h
theorem Jy {e w o g u i j:Nat} {ps new:List PV} {av:List Nat} (hx:s.ev x=.ptr e w o) (hy:s.ev y=.osl g u i j) (ha:e ∉ av) (hb:s.bx e=⟨w,.vp ps⟩)
  (hn:o + 1≤ps.length) (hv:splP ps o [.osl g u i j]=new) (h:wL C l (s.box e ⟨w,.vp new⟩) K):wL C (⟨none,.store 1 x y av,none⟩::l) s K:=by
 subst hv; simp only [wL] at h; simp only [wL,wpL,wpG,wpK,pstep,PS.evc,hx,hy,hb,if_neg ha,PV.refr,true_and,and_self,if_true,if_pos hn]; exact h
end
section
variable {C : CallP} {s : PS} {K : Ex → PS → Prop} {p q : PCode}
theorem jki {i k d w o e u n sz:Nat} {ps new:List PV} {es:List (List CV)} (hx:s.t i=.ptr d w o) (hb:s.bx d=⟨w,.vp ps⟩) (hk:ps[k]? = some (.osl e u 0 n)) (hed:e≠d) (he:s.bx e=⟨u,.sl sz es⟩) (hn:n=es.length)
  (hv:ps.set k (.c (.sl es))=new) (h:∀ q,wP C p ((s.box e ⟨q,.dead⟩).box d ⟨w,.vp new⟩) K):wP C (.fzc i k p) s K:=by
 subst hv; simp only [wP] at h; simp only [wP,pwp,hx,hb,true_and,hk,PS.close,he,if_pos hn]; exact ⟨hed,h _⟩
theorem jkj {i d w o:Nat} {ps:List PV} {cs:List CV} (hx:s.t i=.ptr d w o) (hb:s.bx d=⟨w,.vp ps⟩) (hc:closed? ps=some cs) (h:wP C p (s.box d ⟨w,.var cs⟩) K):wP C (.nvp i p) s K:=by
 simp only [wP] at h; simp only [wP,pwp,hx,hb,true_and,hc]; exact h
theorem jm9 {i k sz e d w o:Nat} {cs:List CV} {ps:List PV} (hx:s.t i=.ptr d w o) (hb:s.bx d=⟨w,.var cs⟩) (hde:d≠e) (hk:cs[k]? = some .nils) (hps:∀ r,(cs.map PV.c).set k (.osl e r 0 0)=ps.set k (.osl e r 0 0))
  (h:∀ r,wP C p ((s.box e ⟨r,.sl sz []⟩).box d ⟨w,.vp (ps.set k (.osl e r 0 0))⟩) K):wP C (.zn i k sz e p) s K:=by
 simp only [wP] at h; simp only [wP,pwp,hx,hb,hk]; exact ⟨⟨trivial,hde⟩,by rw [hps]; exact h _⟩
theorem jkk {i k d w o g u e n sz:Nat} {ps:List PV} {es:List (List CV)} (hx:s.t i=.ptr d w o) (hb:s.bx d=⟨w,.vp ps⟩) (hk:ps[k]? = some (.osl g u 0 n)) (hde:d≠e) (hge:g≠e) (hgd:g≠d) (hg:s.bx g=⟨u,.sl sz es⟩) (hn:n=es.length)
  (h:∀ q r,wP C p (((s.box g ⟨q,.dead⟩).box e ⟨r,.sl sz es⟩).box d ⟨w,.vp (ps.set k (.osl e r 0 n))⟩) K):wP C (.rnc i k e p) s K:=by
 simp only [wP] at h; simp only [wP,pwp,hx,hb,true_and,hk]; exact ⟨hde,fun he=>absurd he hge,fun _=>⟨hgd,by rw [hg]; exact ⟨⟨rfl,hn⟩,h _ _⟩⟩⟩
theorem WM {i k d w o u e off n:Nat} {ps:List PV} (hx:s.t i=.ptr d w o) (hb:s.bx d=⟨w,.vp ps⟩) (hk:ps[k]? = some (.osl e u off n)) (hde:d≠e) (h:wP C p s K):wP C (.rnc i k e p) s K:=by
 simp only [wP] at h; simp only [wP,pwp,hx,hb,true_and,hk]; exact ⟨hde,fun _=>h,fun he=>absurd rfl he⟩
end
/-! ### function values, maps -/
section
variable {C : CallP} {l : List POp} {s : PS} {K : PS → Prop} {d : Nat} {x y z : PO}
theorem jmq {f:FuncId} {xs:List PO} {css:List (List CV)} (hx:evrs s xs=some css) (h:wL C l (s.put d (.c (.clo f css))) K):wL C (⟨some d,.mkf f xs,none⟩::l) s K:=by
 simp only [wL] at h; simp only [wL,wpL,wpG,wpK,pstep,hx,PS.putO]; exact h
theorem jna (h:∀ w,wL C l ((s.box d ⟨w,.mp []⟩).put d (.mp d w)) K):wL C (⟨some d,.mkm,none⟩::l) s K:=by
 simp only [wL] at h; simp only [wL,wpL,wpG,wpK,pstep]; exact h _
theorem jb1 {e v:Nat} (hx:s.ev x=.mp e v) (h:wL C l (s.put d (.mp e v)) K):wL C (⟨some d,.mv x,none⟩::l) s K:=by
 simp only [wL] at h; simp only [wL,wpL,wpG,wpK,pstep,PS.putO,hx]; exact h
theorem YB {ok:Bool} {sh:List LK} {zv kc:CV} {e w:Nat} {es:List (CV × PV)} {r:Option PV} {v:PV} (hx:s.ev x=.mp e w) (hk:s.ev y=.c kc) (hb:s.bx e=⟨w,.mp es⟩) (hr:eqC true sh kc kc=some true)
  (hf:mfind sh kc es=some r) (hm:mres ok zv r=some v) (h:wL C l (s.put d v) K):wL C (⟨some d,.mget ok sh zv x y,none⟩::l) s K:=by
 simp only [wL] at h; simp only [wL,wpL,wpG,wpK,pstep,PS.evc,hx,hk,hb,hr,and_self,if_true,hf,hm,Option.map_some,PS.putO]; exact h
theorem jfn {ok:Bool} {sh:List LK} {zv kc:CV} {es:List (CV × CV)} {r:Option CV} {v:PV} (hx:s.ev x=.c (.map es)) (hk:s.ev y=.c kc) (hr:eqC true sh kc kc=some true)
  (hf:mfind sh kc es=some r) (hm:mres ok zv (r.map .c)=some v) (h:wL C l (s.put d v) K):wL C (⟨some d,.mget ok sh zv x y,none⟩::l) s K:=by
 simp only [wL] at h; simp only [wL,wpL,wpG,wpK,pstep,PS.evc,hx,hk,hr,if_true,hf,hm,Option.map_some,PS.putO]; exact h
theorem jfo {sh:List LK} {kc v:CV} {e w:Nat} {es es':List (CV × PV)} (hx:s.ev x=.mp e w) (hk:s.ev y=.c kc) (hv:s.ev z=.c v) (hb:s.bx e=⟨w,.mp es⟩) (hr:eqC true sh kc kc=some true)
  (hs:mset sh kc (.c v) es=some es') (h:wL C l (s.box e ⟨w,.mp es'⟩) K):wL C (⟨none,.mput sh x y z,none⟩::l) s K:=by
 simp only [wL] at h; simp only [wL,wpL,wpG,wpK,pstep,PS.evc,hx,hk,hv,hb,hr,PV.mval,and_self,if_true,hs]; exact h
end
section
variable {C : CallP} {s : PS} {K : Ex → PS → Prop} {p : PCode}
theorem jfp {i d w:Nat} {cs:List CV} (hx:s.t i=.ptr d w 0) (hb:s.bx d=⟨w,.var cs⟩) (h:∀ q,wP C p ((s.box d ⟨q,.dead⟩).put i (.rp cs)) K):wP C (.fzv i p) s K:=by
 simp only [wP] at h; simp only [wP,pwp,hx,hb,and_self,true_and]; exact h _
def mcl (es:List (CV × CV)):List (CV × PV):=es.map fun p=>(p.1,.c p.2)
theorem Vg:∀ es:List (CV × CV),oslBoxes (mcl es)=[]
 | []=>rfl
 | _::es=>Vg es
theorem WN (s:PS):∀ es:List (CV × CV),s.closeM (mcl es)=some es
 | []=>rfl
 | (k,v)::es=>by
  show s.closeM ((k,.c v)::mcl es)=_
  simp only [PS.closeM,PS.close,WN s es]
theorem jmr {i d w:Nat} {es:List (CV × CV)} (hx:s.t i=.mp d w) (hb:s.bx d=⟨w,.mp (mcl es)⟩) (h:∀ q,wP C p ((s.box d ⟨q,.dead⟩).put i (.c (.map es))) K):wP C (.fzm i p) s K:=by
 simp only [wP] at h
 simp only [wP,pwp,hx,hb,true_and,Vg,WN,PS.kills]
 exact ⟨(by simp),h _⟩
theorem VI (sh:List LK) (k:CV):∀ es:List (CV × CV),mfind sh k (mcl es)=(mfind sh k es).map fun r=>r.map .c
 | []=>rfl
 | (k',v)::es=>by
  show mfind sh k ((k',.c v)::mcl es)=_
  simp only [mfind]
  split <;> simp_all [VI sh k es]
theorem WO (sh:List LK) (k v:CV):∀ es:List (CV × CV),mset sh k (.c v) (mcl es)=(mset sh k v es).map mcl
 | []=>rfl
 | (k',v')::es=>by
  show mset sh k (.c v) ((k',.c v')::mcl es)=_
  simp only [mset]
  split
  ·rfl
  ·rw [WO sh k v es]
   cases mset sh k v es <;> rfl
  ·rfl
end
section
variable {C : CallP} {l : List POp} {s : PS} {K : PS → Prop} {d : Nat} {x y z : PO}
theorem callN1 {f:FuncId} {v:CV} {sz m:Nat} {es:List (List CV)} (hx:s.ev x=.c v) (hC:C f [.c v] (.own sz es) []) (hm:es.length=m) (h:∀ w,wL C l ((s.box d ⟨w,.sl sz es⟩).put d (.osl d w 0 m)) K):wL C (⟨some d,.call true f [x],none⟩::l) s K:=by
 subst hm
 simp only [wL] at h; simp only [wL,wpL,wpG,wpK,wpCall,evcs,hx]; exact ⟨sz,es,rfl,hC,h _⟩
end
section
variable {C : CallP} {l : List POp} {s : PS} {K : Ex → PS → Prop} {d : Nat} {x : PO}
def nQ (K:Ex→PS→Prop) (x:PO) (d:Nat):PS→Prop:=fun s'=>match s'.evc x with
  | some (.sl es)=>(es=[]→K .n (s'.put d (.c (.bool true))))∧K .n (s'.put d (.c (.bool false)))
  | _=>False
theorem jlq (h:wL C l s (nQ K x d)):wP C (.opsN l x d) s K:=by
 simp only [wL] at h; simp only [wP,pwp]; exact h
theorem nq_ {es:List (List CV)} (hx:s.ev x=.c (.sl es)) (h1:es=[]→K .n (s.put d (.c (.bool true)))) (h0:K .n (s.put d (.c (.bool false)))):nQ K x d s:=by
 simp only [nQ,PS.evc,hx]; exact ⟨h1,h0⟩
end
abbrev KT:=Ex→PS→Prop
theorem st0 {P Q:Prop} (q:Q) (h:Q→P:=by first
 | exact fun q=>ko q
 | exact fun q=>jE q
 | exact fun q=>kC rfl q
 | exact fun q=>vX rfl (Nat.le_of_ble_eq_true rfl) rfl q
 | exact fun q=>jl rfl (by decide) rfl (Nat.le_of_ble_eq_true rfl) rfl q
 | exact fun q=>jN q
 | exact fun q=>jK q
 | exact fun q=>jC rfl rfl rfl q
 | exact fun q=>jD rfl q
 | exact fun q=>j4 q
 | exact fun q=>XL q
 | exact fun q=>JP q
 | exact fun q=>jY q
 | exact fun q=>kU rfl rfl (by omega) q
 | exact fun q=>vn rfl rfl (by omega) q
 | exact fun q=>vm rfl q
 | exact fun q=>jt rfl rfl (by decide) rfl rfl (Nat.le_of_ble_eq_true rfl) rfl q
 | exact fun q=>je rfl (by first | assumption | exact List.length_map _) q
 | exact fun q=>Jb rfl rfl (by omega) q
 | exact fun q=>jc7 q
 | exact fun q=>VE q
 | exact fun q=>ji rfl rfl (by omega) (by assumption) rfl q
 | exact fun q=>wj rfl rfl (by omega) q
 | exact fun q=>kH rfl rfl q):P:=h q
theorem st1 {P Q:Prop} (q:Q) (h:Q→P:=by first
 | exact fun q=>ko q
 | exact fun q=>jE q
 | exact fun q=>kC rfl q
 | exact fun q=>Wz rfl q
 | exact fun q=>vX rfl (Nat.le_of_ble_eq_true rfl) rfl q
 | exact fun q=>jl rfl (by decide) rfl (Nat.le_of_ble_eq_true rfl) rfl q
 | exact fun q=>jN q
 | exact fun q=>jK q
 | exact fun q=>jC rfl rfl rfl q
 | exact fun q=>jR rfl q
 | exact fun q=>jD rfl q
 | exact fun q=>jP q
 | exact fun q=>XL q
 | exact fun q=>jY q
 | exact fun q=>kU rfl rfl (by omega) q
 | exact fun q=>vn rfl rfl (by omega) q
 | exact fun q=>Y6 rfl q
 | exact fun q=>je rfl (by first | assumption | exact List.length_map _) q
 | exact fun q=>Jb rfl rfl (by omega) q
 | exact fun q=>kK rfl q
 | exact fun q=>ji rfl rfl (by omega) (by assumption) rfl q
 | exact fun q=>Jv rfl rfl rfl (by omega) rfl q
 | exact fun q=>J3 rfl rfl (by omega) q
 | exact fun q=>J4 rfl rfl (by omega) q
 | exact fun q=>wl rfl rfl (by omega) q
 | exact fun q=>wm rfl rfl (by omega) q
 | exact fun q=>wj rfl rfl (by omega) q
 | exact fun q=>WA rfl rfl (by omega) q
 | exact fun q=>jaf rfl rfl q
 | exact fun q=>jbr rfl rfl (by omega) q
 | exact fun q=>XQ rfl rfl (by omega) q
 | exact fun q=>jbq rfl rfl (by omega) q
 | exact fun q=>Yq rfl rfl (by first | assumption | omega) q
 | exact fun q=>jL rfl (vo (by omega)) q
 | exact fun q=>jL rfl (wrap64_in (by omega)) q):P:=h q
theorem st2 {P Q:Prop} (q:Q) (h:Q→P:=by first
 | exact fun q=>ko q
 | exact fun q=>jE q
 | exact fun q=>kC rfl q
 | exact fun q=>jl rfl (by decide) rfl (Nat.le_of_ble_eq_true rfl) rfl q
 | exact fun q=>jN q
 | exact fun q=>jK q
 | exact fun q=>jC rfl rfl rfl q
 | exact fun q=>jR rfl q
 | exact fun q=>jD rfl q
 | exact fun q=>j4 q
 | exact fun q=>jP q
 | exact fun q=>XL q
 | exact fun q=>kl q
 | exact fun q=>JP q
 | exact fun q=>jY q
 | exact fun q=>j8 q
 | exact fun q=>kU rfl rfl (by omega) q
 | exact fun q=>vn rfl rfl (by omega) q
 | exact fun q=>vm rfl q
 | exact fun q=>XK rfl q
 | exact fun q=>kH rfl rfl q
 | exact fun q=>vM rfl rfl q
 | exact fun q=>Y6 rfl q
 | exact fun q=>kw rfl rfl rfl q
 | exact fun q=>kK rfl q
 | exact fun q=>jc7 q
 | exact fun q=>VE q
 | exact fun q=>Jv rfl rfl rfl (by omega) rfl q
 | exact fun q=>J3 rfl rfl (by omega) q
 | exact fun q=>J4 rfl rfl (by omega) q
 | exact fun q=>wl rfl rfl (by omega) q
 | exact fun q=>wm rfl rfl (by omega) q
 | exact fun q=>wj rfl rfl (by omega) q
 | exact fun q=>Y4 rfl rfl (by omega) q
 | exact fun q=>WA rfl rfl (by omega) q
 | exact fun q=>XQ rfl rfl (by omega) q
 | exact fun q=>jbq rfl rfl (by omega) q
 | exact fun q=>jeu rfl rfl (by omega) q
 | exact fun q=>jL rfl (wrap64_in (by omega)) q
 | exact fun q=>jae rfl (by omega) q
 | exact fun q=>Ys rfl rfl q):P:=h q
theorem st3 {P Q:Prop} (q:Q) (h:Q→P:=by first
 | exact fun q=>ko q
 | exact fun q=>jE q
 | exact fun q=>kC rfl q
 | exact fun q=>vX rfl (Nat.le_of_ble_eq_true rfl) rfl q
 | exact fun q=>jl rfl (by decide) rfl (Nat.le_of_ble_eq_true rfl) rfl q
 | exact fun q=>jN q
 | exact fun q=>jK q
 | exact fun q=>jC rfl rfl rfl q
 | exact fun q=>WB rfl (Nat.le_of_ble_eq_true rfl) rfl q
 | exact fun q=>jR rfl q
 | exact fun q=>jD rfl q
 | exact fun q=>j4 q
 | exact fun q=>jP q
 | exact fun q=>kl q
 | exact fun q=>jY q
 | exact fun q=>j8 q
 | exact fun q=>kU rfl rfl (by omega) q
 | exact fun q=>vn rfl rfl (by omega) q
 | exact fun q=>Y3 rfl rfl q
 | exact fun q=>vm rfl q
 | exact fun q=>XK rfl q
 | exact fun q=>jmf rfl q
 | exact fun q=>kH rfl rfl q
 | exact fun q=>vM rfl rfl q
 | exact fun q=>Y6 rfl q
 | exact fun q=>kw rfl rfl rfl q
 | exact fun q=>jt rfl rfl (by decide) rfl rfl (Nat.le_of_ble_eq_true rfl) rfl q
 | exact fun q=>Jb rfl rfl (by omega) q
 | exact fun q=>kK rfl q
 | exact fun q=>j5 q
 | exact fun q=>ji rfl rfl (by omega) (by assumption) rfl q
 | exact fun q=>Jv rfl rfl rfl (by omega) rfl q
 | exact fun q=>J3 rfl rfl (by omega) q
 | exact fun q=>J4 rfl rfl (by omega) q
 | exact fun q=>wj rfl rfl (by omega) q
 | exact fun q=>Y4 rfl rfl (by omega) q
 | exact fun q=>WA rfl rfl (by omega) q
 | exact fun q=>jaf rfl rfl q
 | exact fun q=>jbr rfl rfl (by omega) q
 | exact fun q=>XQ rfl rfl (by omega) q
 | exact fun q=>wl rfl rfl (by omega) q
 | exact fun q=>jL rfl (wrap64_in (by omega)) q):P:=h q
theorem st4 {P Q:Prop} (q:Q) (h:Q→P:=by first
 | exact fun q=>ko q
 | exact fun q=>jE q
 | exact fun q=>kC rfl q
 | exact fun q=>vX rfl (Nat.le_of_ble_eq_true rfl) rfl q
 | exact fun q=>jl rfl (by decide) rfl (Nat.le_of_ble_eq_true rfl) rfl q
 | exact fun q=>jN q
 | exact fun q=>jK q
 | exact fun q=>jC rfl rfl rfl q
 | exact fun q=>WB rfl (Nat.le_of_ble_eq_true rfl) rfl q
 | exact fun q=>jR rfl q
 | exact fun q=>jD rfl q
 | exact fun (q:_∧_)=>Yu rfl q.1 q.2
 | exact fun q=>j4 q
 | exact fun q=>jP q
 | exact fun q=>XL q
 | exact fun q=>kl q
 | exact fun q=>jY q
 | exact fun q=>j8 q
 | exact fun q=>kU rfl rfl (by omega) q
 | exact fun q=>Y3 rfl rfl q
 | exact fun q=>vm rfl q
 | exact fun q=>XK rfl q
 | exact fun (q:_∧_)=>Y5 rfl q.1 q.2
 | exact fun q=>kH rfl rfl q
 | exact fun q=>vM rfl rfl q
 | exact fun q=>jt rfl rfl (by decide) rfl rfl (Nat.le_of_ble_eq_true rfl) rfl q
 | exact fun q=>je rfl (by first | assumption | exact List.length_map _) q
 | exact fun q=>Jb rfl rfl (by omega) q
 | exact fun q=>kK rfl q
 | exact fun q=>j5 q
 | exact fun q=>ji rfl rfl (by omega) (by assumption) rfl q
 | exact fun q=>j6 rfl rfl q
 | exact fun q=>Jv rfl rfl rfl (by omega) rfl q
 | exact fun q=>jky rfl rfl (by omega) (Nat.le_of_ble_eq_true rfl) rfl q
 | exact fun q=>J3 rfl rfl (by omega) q
 | exact fun q=>J4 rfl rfl (by omega) q
 | exact fun q=>jes rfl rfl q
 | exact fun q=>wj rfl rfl (by omega) q
 | exact fun q=>jkv rfl rfl q
 | exact fun q=>jL rfl (vo (by omega)) q
 | exact fun q=>jL rfl (wrap64_in (by omega)) q
 | exact fun q=>jae rfl (by omega) q
 | exact fun q=>Ys rfl rfl q):P:=h q
theorem st5 {P Q:Prop} (q:Q) (h:Q→P:=by first
 | exact fun q=>ko q
 | exact fun q=>jE q
 | exact fun q=>kC rfl q
 | exact fun q=>Wz rfl q
 | exact fun q=>jl rfl (by decide) rfl (Nat.le_of_ble_eq_true rfl) rfl q
 | exact fun q=>jN q
 | exact fun q=>jK q
 | exact fun q=>jC rfl rfl rfl q
 | exact fun q=>jR rfl q
 | exact fun q=>jD rfl q
 | exact fun q=>j4 q
 | exact fun q=>jP q
 | exact fun q=>JP q
 | exact fun q=>jY q
 | exact fun q=>j8 q
 | exact fun q=>kU rfl rfl (by omega) q
 | exact fun q=>vn rfl rfl (by omega) q
 | exact fun q=>Y3 rfl rfl q
 | exact fun q=>vm rfl q
 | exact fun q=>Y6 rfl q
 | exact fun q=>kw rfl rfl rfl q
 | exact fun q=>jt rfl rfl (by decide) rfl rfl (Nat.le_of_ble_eq_true rfl) rfl q
 | exact fun q=>je rfl (by first | assumption | exact List.length_map _) q
 | exact fun q=>jbt rfl rfl q
 | exact fun q=>jc7 q
 | exact fun q=>VE q
 | exact fun q=>j6 rfl rfl q
 | exact fun q=>J3 rfl rfl (by omega) q
 | exact fun q=>J4 rfl rfl (by omega) q
 | exact fun q=>jaf rfl rfl q
 | exact fun q=>jbr rfl rfl (by omega) q
 | exact fun q=>XQ rfl rfl (by omega) q
 | exact fun q=>jer rfl rfl q
 | exact fun q=>kH rfl rfl q
 | exact fun q=>Yq rfl rfl (by first | assumption | omega) q
 | exact fun q=>jL rfl (vo (by omega)) q
 | exact fun q=>jbn q
 | exact fun q=>jhk rfl (Nat.le_of_ble_eq_true rfl) rfl q
 | exact fun q=>jk0 rfl q
 | exact fun q=>Yr rfl rfl q
 | exact fun q=>Ys rfl rfl q
 | exact fun q=>jna q
 | exact fun q=>jfp rfl rfl q):P:=h q
theorem st6 {P Q:Prop} (q:Q) (h:Q→P:=by first
 | exact fun q=>ko q
 | exact fun q=>jE q
 | exact fun q=>kC rfl q
 | exact fun q=>Wz rfl q
 | exact fun q=>vX rfl (Nat.le_of_ble_eq_true rfl) rfl q
 | exact fun q=>jl rfl (by decide) rfl (Nat.le_of_ble_eq_true rfl) rfl q
 | exact fun q=>jN q
 | exact fun q=>jK q
 | exact fun q=>jC rfl rfl rfl q
 | exact fun q=>WB rfl (Nat.le_of_ble_eq_true rfl) rfl q
 | exact fun q=>jR rfl q
 | exact fun q=>jD rfl q
 | exact fun (q:_∧_)=>Yu rfl q.1 q.2
 | exact fun q=>jP q
 | exact fun q=>XL q
 | exact fun q=>JP q
 | exact fun q=>jY q
 | exact fun q=>kU rfl rfl (by omega) q
 | exact fun q=>vn rfl rfl (by omega) q
 | exact fun q=>vm rfl q
 | exact fun q=>XK rfl q
 | exact fun q=>kH rfl rfl q
 | exact fun q=>vM rfl rfl q
 | exact fun q=>Y6 rfl q
 | exact fun q=>kw rfl rfl rfl q
 | exact fun q=>jt rfl rfl (by decide) rfl rfl (Nat.le_of_ble_eq_true rfl) rfl q
 | exact fun q=>je rfl (by first | assumption | exact List.length_map _) q
 | exact fun q=>je rfl rfl q
 | exact fun q=>Jb rfl rfl (by omega) q
 | exact fun q=>kK rfl q
 | exact fun q=>Yt rfl q
 | exact fun q=>j5 q
 | exact fun q=>ji rfl rfl (by omega) (by assumption) rfl q
 | exact fun q=>j6 rfl rfl q
 | exact fun q=>J3 rfl rfl (by omega) q
 | exact fun q=>J4 rfl rfl (by omega) q
 | exact fun q=>wj rfl rfl (by omega) q
 | exact fun q=>Y4 rfl rfl (by omega) q
 | exact fun q=>WA rfl rfl (by omega) q
 | exact fun q=>jer rfl rfl q
 | exact fun q=>jhj rfl rfl q
 | exact fun q=>jhk rfl (Nat.le_of_ble_eq_true rfl) rfl q
 | exact fun q=>jc8 rfl q
 | exact fun q=>jmj rfl (by decide) rfl rfl q
 | exact fun q=>jmq rfl q
 | exact fun q=>jfp rfl rfl q):P:=h q
theorem st7 {P Q:Prop} (q:Q) (h:Q→P:=by first
 | exact fun q=>ko q
 | exact fun q=>jE q
 | exact fun q=>kC rfl q
 | exact fun q=>vX rfl (Nat.le_of_ble_eq_true rfl) rfl q
 | exact fun q=>jl rfl (by decide) rfl (Nat.le_of_ble_eq_true rfl) rfl q
 | exact fun q=>jN q
 | exact fun q=>jK q
 | exact fun q=>jC rfl rfl rfl q
 | exact fun q=>jR rfl q
 | exact fun q=>jD rfl q
 | exact fun q=>j4 q
 | exact fun q=>jP q
 | exact fun q=>XL q
 | exact fun q=>kl q
 | exact fun q=>JP q
 | exact fun q=>jY q
 | exact fun q=>j8 q
 | exact fun q=>kU rfl rfl (by omega) q
 | exact fun q=>vn rfl rfl (by omega) q
 | exact fun q=>vm rfl q
 | exact fun q=>vM rfl rfl q
 | exact fun q=>Y6 rfl q
 | exact fun q=>kw rfl rfl rfl q
 | exact fun q=>jt rfl rfl (by decide) rfl rfl (Nat.le_of_ble_eq_true rfl) rfl q
 | exact fun q=>Jb rfl rfl (by omega) q
 | exact fun q=>kK rfl q
 | exact fun q=>Yt rfl q
 | exact fun q=>j5 q
 | exact fun q=>jc7 q
 | exact fun q=>VE q
 | exact fun q=>ji rfl rfl (by omega) (by assumption) rfl q
 | exact fun q=>j6 rfl rfl q
 | exact fun q=>Jv rfl rfl rfl (by omega) rfl q
 | exact fun q=>J3 rfl rfl (by omega) q
 | exact fun q=>J4 rfl rfl (by omega) q
 | exact fun q=>jes rfl rfl q
 | exact fun q=>wm rfl rfl (by omega) q
 | exact fun q=>jet rfl rfl q
 | exact fun q=>wj rfl rfl (by omega) q
 | exact fun q=>Y4 rfl rfl (by omega) q
 | exact fun q=>WA rfl rfl (by omega) q
 | exact fun q=>jaf rfl rfl q
 | exact fun q=>jbr rfl rfl (by omega) q
 | exact fun q=>XQ rfl rfl (by omega) q
 | exact fun q=>jer rfl rfl q
 | exact fun q=>jku rfl rfl q
 | exact fun q=>jL rfl (wrap64_in (by omega)) q
 | exact fun q=>jbn q
 | exact fun q=>Yr rfl rfl q):P:=h q
theorem st8 {P Q:Prop} (q:Q) (h:Q→P:=by first
 | exact fun q=>ko q
 | exact fun q=>jE q
 | exact fun q=>kC rfl q
 | exact fun q=>jkt rfl q
 | exact fun q=>Wz rfl q
 | exact fun q=>vX rfl (Nat.le_of_ble_eq_true rfl) rfl q
 | exact fun q=>jl rfl (by decide) rfl (Nat.le_of_ble_eq_true rfl) rfl q
 | exact fun q=>jN q
 | exact fun q=>jK q
 | exact fun q=>jC rfl rfl rfl q
 | exact fun q=>WB rfl (Nat.le_of_ble_eq_true rfl) rfl q
 | exact fun q=>jR rfl q
 | exact fun q=>jD rfl q
 | exact fun q=>j4 q
 | exact fun q=>jP q
 | exact fun q=>XL q
 | exact fun q=>JP q
 | exact fun q=>jY q
 | exact fun q=>j8 q
 | exact fun q=>kU rfl rfl (by omega) q
 | exact fun q=>vn rfl rfl (by omega) q
 | exact fun q=>vm rfl q
 | exact fun q=>XK rfl q
 | exact fun q=>jmf rfl q
 | exact fun q=>kH rfl rfl q
 | exact fun q=>vM rfl rfl q
 | exact fun q=>Y6 rfl q
 | exact fun q=>kw rfl rfl rfl q
 | exact fun q=>jt rfl rfl (by decide) rfl rfl (Nat.le_of_ble_eq_true rfl) rfl q
 | exact fun q=>je rfl (by first | assumption | exact List.length_map _) q
 | exact fun q=>je rfl rfl q
 | exact fun q=>Jb rfl rfl (by omega) q
 | exact fun q=>kK rfl q
 | exact fun q=>Yt rfl q
 | exact fun q=>j5 q
 | exact fun q=>jc7 q
 | exact fun q=>VE q
 | exact fun q=>ji rfl rfl (by omega) (by assumption) rfl q
 | exact fun q=>j6 rfl rfl q
 | exact fun q=>J3 rfl rfl (by omega) q
 | exact fun q=>J4 rfl rfl (by omega) q
 | exact fun q=>jes rfl rfl q
 | exact fun q=>wl rfl rfl (by omega) q
 | exact fun q=>wm rfl rfl (by omega) q
 | exact fun q=>jet rfl rfl q
 | exact fun q=>wj rfl rfl (by omega) q
 | exact fun q=>WA rfl rfl (by omega) q
 | exact fun q=>jaf rfl rfl q
 | exact fun q=>XQ rfl rfl (by omega) q
 | exact fun q=>jer rfl rfl q
 | exact fun q=>jbo rfl rfl rfl q
 | exact fun q=>jbq rfl rfl (by omega) q
 | exact fun q=>jeu rfl rfl (by omega) q
 | exact fun q=>jhk rfl (Nat.le_of_ble_eq_true rfl) rfl q
 | exact fun q=>jmj rfl (by decide) rfl rfl q
 | exact fun q=>jex rfl rfl q
 | exact fun q=>Yr rfl rfl q):P:=h q
theorem st9 {P Q:Prop} (q:Q) (h:Q→P:=by first
 | exact fun q=>ko q
 | exact fun q=>jE q
 | exact fun q=>kC rfl q
 | exact fun q=>Wz rfl q
 | exact fun q=>vX rfl (Nat.le_of_ble_eq_true rfl) rfl q
 | exact fun q=>jl rfl (by decide) rfl (Nat.le_of_ble_eq_true rfl) rfl q
 | exact fun q=>jbp rfl (by decide) rfl (by assumption) (Nat.le_of_ble_eq_true rfl) rfl q
 | exact fun q=>jN q
 | exact fun q=>jK q
 | exact fun q=>jC rfl rfl rfl q
 | exact fun q=>WB rfl (Nat.le_of_ble_eq_true rfl) rfl q
 | exact fun q=>jkx rfl rfl rfl q
 | exact fun q=>jR rfl q
 | exact fun q=>jD rfl q
 | exact fun (q:_∧_)=>Yu rfl q.1 q.2
 | exact fun q=>j4 q
 | exact fun q=>jP q
 | exact fun q=>j8 q
 | exact fun q=>kU rfl rfl (by omega) q
 | exact fun q=>vn rfl rfl (by omega) q
 | exact fun q=>Y3 rfl rfl q
 | exact fun q=>vm rfl q
 | exact fun q=>XK rfl q
 | exact fun (q:_∧_)=>Y5 rfl q.1 q.2
 | exact fun q=>kH rfl rfl q
 | exact fun q=>vM rfl rfl q
 | exact fun q=>Y6 rfl q
 | exact fun q=>kw rfl rfl rfl q
 | exact fun q=>jt rfl rfl (by decide) rfl rfl (Nat.le_of_ble_eq_true rfl) rfl q
 | exact fun q=>Y2 rfl rfl (by decide) rfl (by assumption) rfl (Nat.le_of_ble_eq_true rfl) rfl q
 | exact fun q=>je rfl rfl q
 | exact fun q=>jbt rfl rfl q
 | exact fun q=>jhl rfl rfl (by omega) q
 | exact fun q=>Jb rfl rfl (by omega) q
 | exact fun q=>XL q
 | exact fun q=>JP q
 | exact fun q=>kK rfl q
 | exact fun q=>j5 q
 | exact fun q=>j6 rfl rfl q
 | exact fun q=>Jv rfl rfl rfl (by omega) rfl q
 | exact fun q=>J3 rfl rfl (by omega) q
 | exact fun q=>J4 rfl rfl (by omega) q
 | exact fun q=>wl rfl rfl (by omega) q
 | exact fun q=>wm rfl rfl (by omega) q
 | exact fun q=>jet rfl rfl q
 | exact fun q=>wj rfl rfl (by omega) q
 | exact fun q=>Y4 rfl rfl (by omega) q
 | exact fun q=>WA rfl rfl (by omega) q
 | exact fun q=>jaf rfl rfl q
 | exact fun q=>jer rfl rfl q
 | exact fun q=>jbo rfl rfl rfl q
 | with_reducible exact fun q=>jkz q
 | with_reducible exact fun q=>jm7 q
 | exact fun q=>jm4 rfl q
 | exact fun q=>jm5 rfl rfl q
 | exact fun q=>jm6 rfl q
 | exact fun q=>jhn rfl q
 | exact fun q=>jho rfl q
 | exact fun q=>jlq q
 | exact fun q=>jhj rfl rfl q
 | exact fun q=>jkc rfl rfl q
 | exact fun q=>jhm rfl rfl (by first | assumption | omega) q
 | exact fun q=>jmg rfl rfl q
 | exact fun q=>JM (n:=32) (m:=4294967296) rfl rfl (by decide) (by decide) q
 | exact fun q=>JM (n:=63) (m:=9223372036854775808) rfl rfl (by decide) (by decide) q
 | exact fun q=>jL rfl (vo (by omega)) q
 | exact fun q=>jev rfl q
 | exact fun q=>jL rfl (wrap64_in (by omega)) q
 | exact fun q=>jkw rfl (jc6 (by omega)) q
 | exact fun q=>jae rfl (by omega) q
 | exact fun q=>jmi rfl q
 | exact fun q=>jbn q
 | exact fun q=>jH rfl rfl rfl (by omega) rfl q
 | exact fun q=>jhk rfl (Nat.le_of_ble_eq_true rfl) rfl q
 | exact fun q=>jr rfl rfl rfl rfl (by first | assumption | omega | (simp; omega)) (by first | (intro e he; cases List.mem_singleton.mp he; rfl) | assumption) rfl rfl q
 | exact fun q=>Yr rfl rfl q
 | exact fun q=>Ys rfl rfl q
 | exact fun q=>jmq rfl q
 | exact fun q=>jfp rfl rfl q):P:=h q
abbrev xm (d i:Nat):POp:=⟨some d,.mv (.t i),none⟩
abbrev xk (d:Nat) (v:CV):POp:=⟨some d,.mv (.k v),none⟩
abbrev xl (d n i:Nat):POp:=⟨some d,.load false n (.t i) [],none⟩
abbrev xR (d n i:Nat):POp:=⟨some d,.load true n (.t i) [],none⟩
abbrev xf (d n i:Nat):POp:=⟨some d,.fad n (.t i),none⟩
abbrev xs (n i j:Nat):POp:=⟨none,.store n (.t i) (.t j) [],none⟩
abbrev xb (d:Nat) (o:BinOp) (i j:Nat):POp:=⟨some d,.bin o (.t i) (.t j),none⟩
abbrev xc (d:Nat) (o:BinOp) (i:Nat) (v:CV):POp:=⟨some d,.bin o (.t i) (.k v),none⟩
abbrev xp (d i j:Nat):POp:=⟨some d,.pick (.t i) (.t j) (.k (.bool false)),none⟩
abbrev xq (d i j:Nat):POp:=⟨some d,.pick (.t i) (.k (.bool true)) (.t j),none⟩
abbrev xi (d n i j:Nat):POp:=⟨some d,.iaS n (.t i) (.t j),none⟩
abbrev xn (d i:Nat):POp:=⟨some d,.len (.t i),none⟩
abbrev xu (d i:Nat):POp:=⟨some d,.un .not (.t i),none⟩
abbrev xe (d i j:Nat):POp:=⟨some d,.ext (.t i) j,none⟩
abbrev xx (d n i:Nat):POp:=⟨some d,.box n (.t i),none⟩
abbrev xC1 (d f a:Nat):POp:=⟨some d,.call false f [.t a],none⟩
abbrev xC2 (d f a b:Nat):POp:=⟨some d,.call false f [.t a,.t b],none⟩
abbrev xC3 (d f a b c:Nat):POp:=⟨some d,.call false f [.t a,.t b,.t c],none⟩
abbrev xC4 (d f a b c e:Nat):POp:=⟨some d,.call false f [.t a,.t b,.t c,.t e],none⟩
abbrev xg (o:POp) (g:Nat):POp:=⟨o.dst,o.k,some (g,true)⟩
abbrev xh (o:POp) (g:Nat):POp:=⟨o.dst,o.k,some (g,false)⟩
abbrev xo (l:List POp):PCode:=.ops false l
abbrev xO (l:List POp):PCode:=.ops true l
abbrev LO:=List POp
abbrev PC:=PCode
abbrev LR:=List RS
abbrev sq (a b:PCode):PCode:=.seq a b
abbrev zi (n:Int):CV:=.int .i64 n
abbrev zu (n:Int):CV:=.int .u8 n
end Go.Pl
/- Part of the proof of ExecTells, ExecAnswers, ExecBest, ExecFirst, ExecLevels, ExecTops, ExecLimits: lemmas. -/
import Derived.Test.YtnpncbplhdnonaaGreatExecS21
import Derived.Test.YtnpncbplhdnonaaGreatExecS22
set_option linter.unusedVariables false
set_option linter.unusedSimpArgs false
namespace Go.Proofs.YtnpncbplhdnonaaGreat
open Go.Pl Go.Bag
set_option maxRecDepth 100000
set_option maxHeartbeats 16000000
/-! ### slices.Contains -/
theorem jiz {K:KT} (l:List Int) (m:Int) (hlen:l.length≤9223372036854775807):∀ (rest:List Int) (i:Nat) (s:PS),l.drop i=rest→i≤l.length →
  s.t 0=.c (encIs l)→s.t 1=.c (.int .i64 m)→s.t 7=.c (.int .i64 l.length)→s.t 8=.c (.int .i64 i) →
  (rest.contains m=false→∀ s',K (.x 0) s')→(rest.contains m=true→∀ s' (j:Nat),s'.t 4=.c (.int .i64 j)→K .r s')→wP (CP) (.loop b158_0) s K:=by
 intro rest
 induction rest with
 | nil =>
  intro i s hd hi t0 t1 t7 t8 hx hr
  refine jf ?_
  have:=jm hd hi
  subst this
  rw [← ja t0,← ja t1,← ja t7,← ja t8]
  unfold b158_0
  repeat' (first | refine st0 ?_ | intro u)
  exact hx rfl _
 | cons a rest ih =>
  intro i s hd hi t0 t1 t7 t8 hx hr
  refine jf ?_
  have he:(l.map fun n=>[CV.int .i64 n])[i]? = some [.int .i64 a]:=jp hd
  have hil:=jo hd
  have hn:=jg hd
  rw [← ja t0,← ja t1,← ja t7,← ja t8]
  unfold encIs
  unfold b158_0
  by_cases h1:m=a
  ·repeat' (first | refine st3 ?_ | intro u)
   exact hr (by simp [h1]) _ i (by rfl)
  ·repeat' (first | refine st1 ?_ | intro u)
   refine ih (i + 1) _ hn (by omega) (by rfl) (by rfl) (by rfl) (by rfl) (fun h'=>hx ?_) (fun h'=>hr ?_)
   ·simp only [List.contains_cons,h',Bool.or_false]; simpa using h1
   ·simp only [List.contains_cons,h',Bool.or_true]
theorem ji0 (l:List Int) (m:Int) (hlen:l.length≤9223372036854775807):∃ r:Int,(0≤r↔l.contains m=true)∧CP 158 [.c (encIs l),.c (.int .i64 m)] (.c (.int .i64 r)) []:=by
 -- whichever it is
 cases h:l.contains m with
 | false =>
  refine ⟨-1,by simp,pcallF Tryz.func158 c158 rfl ?_⟩
  have hm:∀ {K:KT} {s:PS},s.t 0=.c (encIs l)→s.t 1=.c (.int .i64 m)→s.t 7=.c (.int .i64 l.length)→s.t 8=.c (.int .i64 0)→(∀ s',K (.x 0) s')→wP (CP) (.loop b158_0) s K:=fun {K s} t0 t1 t7 t8 hx =>
   jiz l m hlen l 0 s rfl (by omega) t0 t1 t7 t8 (fun _=>hx) (fun h'=>by rw [h] at h'; cases h')
  unfold encIs at hm ⊢
  unfold p158
  repeat' (first | refine je rfl (List.length_map _) ?_ | refine st0 ?_ | intro u)
  refine hm (by rfl) (by rfl) (by rfl) (by rfl) (fun s'=>?_)
  repeat' (first | refine st0 ?_ | intro u)
  exact jd rfl rfl
 | true =>
  -- where it stands first
  have key:∃ j:Nat,∀ {K:KT} {s:PS},s.t 0=.c (encIs l)→s.t 1=.c (.int .i64 m)→s.t 7=.c (.int .i64 l.length)→s.t 8=.c (.int .i64 0)→(∀ s',s'.t 4=.c (.int .i64 j)→K .r s')→wP (CP) (.loop b158_0) s K:=by
   have gen:∀ (rest:List Int) (i:Nat),l.drop i=rest→i≤l.length→rest.contains m=true→∃ j:Nat,∀ {K:KT} {s:PS},s.t 0=.c (encIs l)→s.t 1=.c (.int .i64 m)→s.t 7=.c (.int .i64 l.length)→s.t 8=.c (.int .i64 i)→(∀ s',s'.t 4=.c (.int .i64 j)→K .r s')→wP (CP) (.loop b158_0) s K:=by
    intro rest
    induction rest with
    | nil=>intro i _ _ h; simp at h
    | cons a rest ih =>
     intro i hd hi hcn
     have he:(l.map fun n=>[CV.int .i64 n])[i]? = some [.int .i64 a]:=jp hd
     have hil:=jo hd
     have hn:=jg hd
     by_cases h1:m=a
     ·refine ⟨i,fun {K s} t0 t1 t7 t8 hr=>?_⟩
      refine jf ?_
      rw [← ja t0,← ja t1,← ja t7,← ja t8]
      unfold encIs
      unfold b158_0
      repeat' (first | refine st3 ?_ | intro u)
      exact hr _ (by rfl)
     ·have hcn':rest.contains m=true:=by
       simp only [List.contains_cons,Bool.or_eq_true] at hcn
       rcases hcn with e | e
       ·exact absurd (by simpa using e) h1
       ·exact e
      obtain ⟨j,hj⟩:=ih (i + 1) hn (by omega) hcn'
      refine ⟨j,fun {K s} t0 t1 t7 t8 hr=>?_⟩
      refine jf ?_
      rw [← ja t0,← ja t1,← ja t7,← ja t8]
      unfold encIs
      unfold b158_0
      repeat' (first | refine st1 ?_ | intro u)
      exact hj (by rfl) (by rfl) (by rfl) (by rfl) hr
   exact gen l 0 rfl (by omega) h
  obtain ⟨j,hm⟩:=key
  refine ⟨j,by simp,pcallF Tryz.func158 c158 rfl ?_⟩
  unfold encIs at hm ⊢
  unfold p158
  repeat' (first | refine je rfl (List.length_map _) ?_ | refine st0 ?_ | intro u)
  refine hm (by rfl) (by rfl) (by rfl) (by rfl) (fun s' t4=>?_)
  rw [← ja t4]
  repeat' (first | refine j8 ?_ | refine kl ?_)
  exact jd rfl rfl
theorem ja3 (l:List Int) (m:Int) (hlen:l.length≤9223372036854775807):CP 135 [.c (encIs l),.c (.int .i64 m)] (.c (.bool (l.contains m))) []:=by
 obtain ⟨r,hr,c1⟩:=ji0 l m hlen
 refine pcallF Tryz.func135 c135 rfl ?_
 unfold encIs at *
 unfold p135
 cases h:l.contains m with
 | true =>
  rw [h] at hr
  have h0:0≤r:=hr.mpr rfl
  repeat' (first | refine call2 rfl rfl c1 ?_ | refine st2 ?_ | intro u)
  exact jd rfl rfl
 | false =>
  rw [h] at hr
  have h0:¬ 0≤r:=fun h=>by cases hr.mp h
  repeat' (first | refine call2 rfl rfl c1 ?_ | refine st2 ?_ | intro u)
  exact jd rfl rfl
theorem ZD (c:CatS) (k:Int) (h:okCat c):CP 111 [.c (.agg (encCat c)),.c (.int .i64 k)] (.c (.int .i64 (levelsC c k))) []:=by
 have c1:=W5 c h
 refine pcallF Tryz.func111 c111 rfl ?_
 have h0:=h.1
 unfold levelsC
 unfold encCat at *
 cases g:goodCat c with
 | false =>
  rw [g] at c1
  rw [if_neg (by simp)]
  unfold p111
  repeat' (first | refine call1 rfl c1 ?_ | refine st2 ?_ | intro u)
  exact jd rfl rfl
 | true =>
  rw [g] at c1
  by_cases a:0≤k∧k < c.dims.length
  ·rw [if_pos ⟨rfl,a⟩]
   have hk:k.toNat < c.dims.length:=by omega
   have hd:c.dims[k.toNat]? = some c.dims[k.toNat]:=by simp [hk]
   have hs:=(kA ((jx g).2.2 _ (List.getElem_mem hk))).1
   rw [hd]
   have he:(c.dims.map encDim)[k.toNat]? = some (encDim c.dims[k.toNat]):=by simp [hk]
   generalize c.dims[k.toNat]=d at *
   unfold encDim encIs at he
   dsimp only
   unfold p111
   repeat' (first | refine call1 rfl c1 ?_ | refine je rfl (List.length_map _) ?_ | refine st3 ?_ | intro u)
   exact jd rfl rfl
  ·rw [if_neg (fun h=>a h.2)]
   unfold p111
   by_cases b:k < 0
   ·repeat' (first | refine call1 rfl c1 ?_ | refine st2 ?_ | intro u)
    exact jd rfl rfl
   ·repeat' (first | refine call1 rfl c1 ?_ | refine je rfl (List.length_map _) ?_ | refine st2 ?_ | intro u)
    exact jd rfl rfl
set_option maxRecDepth 100000
set_option maxHeartbeats 16000000
/-! ### lift.To, the document's -/
def cellsP (L:List Int):List CV:=[.int .u8 (L.getD 0 0),.int .u8 (L.getD 1 0),.int .u8 (L.getD 2 0),.int .u8 (L.getD 3 0)]
theorem V9 {D:List Int} {z:Int} (h:D.length < 4) (tl:List CV):spl (cellsP D++tl) (0 + ((D.length:Nat):Int).toNat * 1) [.int .u8 z]=cellsP (D++[z])++tl:=by
 match D,h with
 | [],_=>rfl
 | [a],_=>rfl
 | [a,b],_=>rfl
 | [a,b,c],_=>rfl
theorem Vw {n:Int} (h:0≤n∧n≤255):IntKind.u8.wrap n=n:=by
 simp [IntKind.wrap,IntKind.bits,IntKind.signed]
 omega
theorem j7 {p:Go.Bag.Place} {i:Nat} {xs:List Int} (h:(placeL p).drop i=xs) (hi:i < 4):∃ x xs',xs=x::xs':=by
 cases xs with
 | nil=>have:=jm h (by show i≤4; omega); exact absurd this (by show i≠4; omega)
 | cons y ys'=>exact ⟨y,ys',rfl⟩
theorem ji1 {K:KT} (c:CatS) (hin:∀ d∈c.dims,okDim d∧okUp d) (hlen:c.dims.length≤4) (f t a:Go.Bag.Place) (hf:u8P f) (ht:u8P t) (ha:u8P a) (v4 v5 v6 v7 v10:Nat):∀ (ds:List DimS) (xs ys zs D:List Int) (s:PS),c.dims.drop D.length=ds→(placeL f).drop D.length=xs→(placeL t).drop D.length=ys→(placeL a).drop D.length=zs→D.length≤c.dims.length →
  s.t 4=.ptr 4 v4 0→s.bx 4=⟨v4,.var [.sl (c.dims.map encDim),.int .i64 c.m]⟩→s.t 5=.ptr 5 v5 0→s.bx 5=⟨v5,.var (encP f)⟩→s.t 6=.ptr 6 v6 0→s.bx 6=⟨v6,.var (encP t)⟩→s.t 7=.ptr 7 v7 0→s.bx 7=⟨v7,.var (encP a)⟩ →
  s.t 10=.ptr 10 v10 0→s.bx 10=⟨v10,.var (cellsP D)⟩→s.t 34=.c (.int .i64 c.dims.length)→s.t 35=.c (.int .i64 D.length)→(∃ v8,s.t 8=.ptr 8 v8 0∧s.bx 8=⟨v8,.var (encP zeroP)⟩) →
  (∀ s',s'.t 10=.ptr 10 v10 0→s'.bx 10=⟨v10,.var (cellsP (D++liftL ds xs ys zs))⟩→(∃ v8,s'.t 8=.ptr 8 v8 0∧s'.bx 8=⟨v8,.var (encP zeroP)⟩)→K (.x 0) s')→wP (CP) (.loop b87_0) s K:=by
 intro ds
 induction ds with
 | nil =>
  intro xs ys zs D s hd hx hy hz hi t4 b4 t5 b5 t6 b6 t7 b7 t10 b10 t34 t35 h8 hK
  obtain ⟨v8,t8,b8⟩:=h8
  refine jf ?_
  have:=jm hd hi
  rw [this] at t35
  have hK':=fun s' h1 h2 h3=>hK s' h1 (by simpa [liftL] using h2) h3
  generalize cellsP D=cD at *
  rw [← ja t10,← jc b10,← ja t34,← ja t35,← ja t8,← jc b8]
  unfold b87_0
  repeat' (first | refine st0 ?_ | intro u)
  exact hK' _ (by rfl) (by rfl) ⟨v8,by rfl,by rfl⟩
 | cons d ds ih =>
  intro xs ys zs D s hd hx hy hz hi t4 b4 t5 b5 t6 b6 t7 b7 t10 b10 t34 t35 h8 hK
  obtain ⟨v8,t8,b8⟩:=h8
  refine jf ?_
  have he:(c.dims.map encDim)[D.length]? = some (encDim d):=jp hd
  have hil:=jo hd
  obtain ⟨x,xs,rfl⟩:=j7 hx (by omega)
  obtain ⟨y,ys,rfl⟩:=j7 hy (by omega)
  obtain ⟨z,zs,rfl⟩:=j7 hz (by omega)
  obtain ⟨gx,hi4⟩:=jV hx
  obtain ⟨gy,_⟩:=jV hy
  obtain ⟨gz,_⟩:=jV hz
  have rx:=rd1 gx
  have ry:=rd1 gy
  have rz:=rd1 gz
  have lx:(0 + ((D.length:Nat):Int).toNat * 1) + 1≤(encP f).length:=jZ (by show 0 + D.length < 4; omega)
  have ly:(0 + ((D.length:Nat):Int).toNat * 1) + 1≤(encP t).length:=jZ (by show 0 + D.length < 4; omega)
  have lz:(0 + ((D.length:Nat):Int).toNat * 1) + 1≤(encP a).length:=jZ (by show 0 + D.length < 4; omega)
  have lD:(0 + ((D.length:Nat):Int).toNat * 1) + 1≤(cellsP D).length:=jZ (by show 0 + D.length < 4; omega)
  have ux:=hf x (List.mem_of_mem_drop (by rw [hx]; simp))
  have uy:=ht y (List.mem_of_mem_drop (by rw [hy]; simp))
  have uz:=ha z (List.mem_of_mem_drop (by rw [hz]; simp))
  have hdm:=hin d (List.mem_of_mem_drop (by rw [hd]; simp))
  have c1:=jch d x y z hdm.1 hdm.2
  have hr:=W8 d x y z
  have hst:spl (cellsP D) (0 + ((D.length:Nat):Int).toNat * 1) (CV.int .u8 (liftV d x y z).1).cells=cellsP (D++[(liftV d x y z).1]):=by
   have:=V9 (D:=D) (z:=(liftV d x y z).1) (by omega) []
   rw [List.append_nil,List.append_nil] at this
   exact this
  have hw:=Vw (n:=(liftV d x y z).1) (by omega)
  have hnl:((D.length:Nat):Int) + 1=((D++[(liftV d x y z).1]).length:Nat):=by simp
  have ih':=fun (s:PS)=>ih xs ys zs (D++[(liftV d x y z).1]) s (by simp; exact jg hd) (by simp; exact jg hx) (by simp; exact jg hy) (by simp; exact jg hz) (by simp; omega)
  have hK':∀ s',s'.t 10=.ptr 10 v10 0→s'.bx 10=⟨v10,.var (cellsP ((D++[(liftV d x y z).1])++liftL ds xs ys zs))⟩→(∃ v8,s'.t 8=.ptr 8 v8 0∧s'.bx 8=⟨v8,.var (encP zeroP)⟩)→K (.x 0) s':=fun s' h1 h2 h3=>hK s' h1 (by rw [h2]; simp [liftL]) h3
  generalize (liftV d x y z).1=r at *
  generalize (liftV d x y z).2=rb at *
  generalize cellsP (D++[r])=cD' at *
  generalize cellsP D=cD at *
  generalize encP f=ef at *
  generalize encP t=et at *
  generalize encP a=ea at *
  rw [← ja t4,← jc b4,← ja t5,← jc b5,← ja t6,← jc b6,← ja t7,← jc b7,← ja t10,← jc b10,← ja t34,← ja t35,← ja t8,← jc b8]
  unfold encDim at he c1
  unfold b87_0
  repeat' (first | refine jl rfl (by decide) rfl lx rx ?_ | refine jl rfl (by decide) rfl ly ry ?_ | refine jl rfl (by decide) rfl lz rz ?_ | refine call4 rfl rfl rfl rfl c1 ?_ | refine jL rfl hw ?_ | refine jt rfl rfl (by decide) rfl rfl lD hst ?_ | refine st1 ?_ | intro u)
  exact ih' _ (by rfl) (by rfl) (by rfl) (by rfl) (by rfl) (by rfl) (by rfl) (by rfl) (by rfl) (by rfl) (by rfl) (by exact congrArg (fun n=>PV.c (CV.int .i64 n)) hnl) ⟨v8,by rfl,by rfl⟩ hK'
theorem jni (c:CatS) (f t a:Go.Bag.Place) (h:okCat2 c) (hf:u8P f) (ht:u8P t) (ha:u8P a) :
  CP 87 [.c (.agg (encCat c)),.c (.agg (encP f)),.c (.agg (encP t)),.c (.agg (encP a))] (.c (.tup [.agg (encP (toP c f t a).1),.bool (toP c f t a).2])) []:=by
 have c1:=Vu c f a h hf ha
 have c2:=Vv c t h ht
 have c3:=Xb f t
 refine pcallF Tryz.func87 c87 rfl ?_
 have h0:=h.1.1
 unfold toP
 by_cases g:rightC c f a=true∧rightC c t zeroP=true∧belowP f t=true
 ·rw [if_pos g]
  obtain ⟨g1,g2,g3⟩:=g
  rw [g1] at c1
  rw [g2] at c2
  rw [g3] at c3
  have hl:=(jx (jB g1)).1.2
  have lp:=fun (K:Ex→PS→Prop) v4 v5 v6 v7 v10 s=>ji1 (K:=K) c (fun d hd=>⟨h.1.2 d hd,h.2 d hd⟩) hl f t a hf ht ha v4 v5 v6 v7 v10 c.dims (placeL f) (placeL t) (placeL a) [] s rfl rfl rfl rfl (by simp)
  have e0:cellsP []=encP zeroP:=rfl
  have e1:encP (ofP (liftL c.dims (placeL f) (placeL t) (placeL a)))=cellsP ([]++liftL c.dims (placeL f) (placeL t) (placeL a)):=rfl
  rw [e0] at lp
  dsimp only
  rw [e1]
  have e2:(cellsP ([]++liftL c.dims (placeL f) (placeL t) (placeL a))).length=4:=rfl
  have e3:rdc true 4 (cellsP ([]++liftL c.dims (placeL f) (placeL t) (placeL a)))=.agg (cellsP ([]++liftL c.dims (placeL f) (placeL t) (placeL a))):=rfl
  have ef:(encP f).length=4:=rfl
  unfold cellsP at lp e2 e3 ⊢
  unfold encCat encP zeroP at *
  dsimp only at *
  unfold p87
  repeat' (first | refine call3 rfl rfl rfl c1 ?_ | refine call2 rfl rfl c2 ?_ | refine call2 rfl rfl c3 ?_ | refine je rfl (List.length_map _) ?_ | refine st3 ?_ | intro u)
  refine lp _ _ _ _ _ _ _ (by rfl) (by rfl) (by rfl) (by rfl) (by rfl) (by rfl) (by rfl) (by rfl) (by rfl) (by rfl) (by rfl) (by rfl) ⟨_,by rfl,by rfl⟩ ?_
  rintro s' t10 b10 ⟨v8,t8,b8⟩
  rw [← ja t10,← jc b10,← ja t8,← jc b8]
  repeat' (first | refine st0 ?_ | intro u)
  exact jd (jh rfl rfl rfl rfl (Jf rfl jk)) rfl
 ·rw [if_neg g]
  generalize hg1:rightC c f a=g1 at *
  generalize hg2:rightC c t zeroP=g2 at *
  generalize hg3:belowP f t=g3 at *
  unfold encCat encP zeroP at *
  dsimp only at *
  unfold p87
  cases g1 with
  | false =>
   repeat' (first | refine call3 rfl rfl rfl c1 ?_ | refine st8 ?_ | intro u)
   exact jd (jh rfl rfl rfl rfl (Jf rfl jk)) rfl
  | true =>
   cases g2 with
   | false =>
    repeat' (first | refine call3 rfl rfl rfl c1 ?_ | refine call2 rfl rfl c2 ?_ | refine st8 ?_ | intro u)
    exact jd (jh rfl rfl rfl rfl (Jf rfl jk)) rfl
   | true =>
    cases g3 with
    | false =>
     repeat' (first | refine call3 rfl rfl rfl c1 ?_ | refine call2 rfl rfl c2 ?_ | refine call2 rfl rfl c3 ?_ | refine st7 ?_ | intro u)
     exact jd (jh rfl rfl rfl rfl (Jf rfl jk)) rfl
    | true=>exact absurd ⟨rfl,rfl,rfl⟩ g
set_option maxRecDepth 100000
set_option maxHeartbeats 16000000
/-! ### ref06.To -/
theorem jf8 {K:KT} (c:CatS) (hin:∀ d∈c.dims,okDim d) (hlen:c.dims.length≤4) (f t a:Go.Bag.Place) (hf:u8P f) (ht:u8P t) (ha:u8P a) (v4 v5 v6 v7 v9:Nat):∀ (ds:List DimS) (xs ys zs D:List Int) (s:PS),okAll ds xs ys zs→c.dims.drop D.length=ds→(placeL f).drop D.length=xs→(placeL t).drop D.length=ys→(placeL a).drop D.length=zs→D.length≤c.dims.length →
  s.t 4=.ptr 4 v4 0→s.bx 4=⟨v4,.var [.sl (c.dims.map encDim),.int .i64 c.m]⟩→s.t 5=.ptr 5 v5 0→s.bx 5=⟨v5,.var (encP f)⟩→s.t 6=.ptr 6 v6 0→s.bx 6=⟨v6,.var (encP t)⟩→s.t 7=.ptr 7 v7 0→s.bx 7=⟨v7,.var (encP a)⟩ →
  s.t 9=.ptr 9 v9 0→s.bx 9=⟨v9,.var (cellsP D++[.bool true])⟩→s.t 10=.c (.int .i64 D.length)→(∃ v8,s.t 8=.ptr 8 v8 0∧s.bx 8=⟨v8,.var (encP zeroP++[.bool false])⟩) →
  (∀ s',s'.t 9=.ptr 9 v9 0→s'.bx 9=⟨v9,.var (cellsP (D++liftL ds xs ys zs)++[.bool true])⟩→(∃ v8,s'.t 8=.ptr 8 v8 0∧s'.bx 8=⟨v8,.var (encP zeroP++[.bool false])⟩)→K (.x 0) s')→wP (CP) (.loop b67_0) s K:=by
 intro ds
 induction ds with
 | nil =>
  intro xs ys zs D s hok hd hx hy hz hi t4 b4 t5 b5 t6 b6 t7 b7 t9 b9 t10 h8 hK
  obtain ⟨v8,t8,b8⟩:=h8
  refine jf ?_
  have:=jm hd hi
  rw [this] at t10
  have hK':=fun s' h1 h2 h3=>hK s' h1 (by simpa [liftL] using h2) h3
  generalize cellsP D=cD at *
  rw [← ja t4,← jc b4,← ja t9,← jc b9,← ja t10,← ja t8,← jc b8]
  unfold b67_0
  repeat' (first | refine je rfl (List.length_map _) ?_ | refine st0 ?_ | intro u)
  exact hK' _ (by rfl) (by rfl) ⟨v8,by rfl,by rfl⟩
 | cons d ds ih =>
  intro xs ys zs D s hok hd hx hy hz hi t4 b4 t5 b5 t6 b6 t7 b7 t9 b9 t10 h8 hK
  obtain ⟨v8,t8,b8⟩:=h8
  refine jf ?_
  have he:(c.dims.map encDim)[D.length]? = some (encDim d):=jp hd
  have hil:=jo hd
  obtain ⟨x,xs,rfl⟩:=j7 hx (by omega)
  obtain ⟨y,ys,rfl⟩:=j7 hy (by omega)
  obtain ⟨z,zs,rfl⟩:=j7 hz (by omega)
  obtain ⟨gx,hi4⟩:=jV hx
  obtain ⟨gy,_⟩:=jV hy
  obtain ⟨gz,_⟩:=jV hz
  have rx:=rd1 gx
  have ry:=rd1 gy
  have rz:=rd1 gz
  have lx:(0 + ((D.length:Nat):Int).toNat * 1) + 1≤(encP f).length:=jZ (by show 0 + D.length < 4; omega)
  have ly:(0 + ((D.length:Nat):Int).toNat * 1) + 1≤(encP t).length:=jZ (by show 0 + D.length < 4; omega)
  have lz:(0 + ((D.length:Nat):Int).toNat * 1) + 1≤(encP a).length:=jZ (by show 0 + D.length < 4; omega)
  have lD:(0 + ((D.length:Nat):Int).toNat * 1) + 1≤(cellsP D++[CV.bool true]).length:=jZ (by show 0 + D.length < 5; omega)
  have ux:=hf x (List.mem_of_mem_drop (by rw [hx]; simp))
  have uy:=ht y (List.mem_of_mem_drop (by rw [hy]; simp))
  have uz:=ha z (List.mem_of_mem_drop (by rw [hz]; simp))
  have hdm:=hin d (List.mem_of_mem_drop (by rw [hd]; simp))
  have c1:=jcj d x y z hdm
  have hr:=W8 d x y z
  have hv:(if liftOk d x y z then liftD d x y z else -1)=(liftV d x y z).1:=by
   unfold liftV
   rw [if_pos hok.1,if_pos hok.1]
  rw [hv] at c1
  have hst:spl (cellsP D++[CV.bool true]) (0 + ((D.length:Nat):Int).toNat * 1) (CV.int .u8 (liftV d x y z).1).cells=cellsP (D++[(liftV d x y z).1])++[CV.bool true]:=V9 (D:=D) (z:=(liftV d x y z).1) (by omega) _
  have hw:=Vw (n:=(liftV d x y z).1) (by omega)
  have hnl:((D.length:Nat):Int) + 1=((D++[(liftV d x y z).1]).length:Nat):=by simp
  have ih':=fun (s:PS)=>ih xs ys zs (D++[(liftV d x y z).1]) s hok.2 (by simp; exact jg hd) (by simp; exact jg hx) (by simp; exact jg hy) (by simp; exact jg hz) (by simp; omega)
  have hK':∀ s',s'.t 9=.ptr 9 v9 0→s'.bx 9=⟨v9,.var (cellsP ((D++[(liftV d x y z).1])++liftL ds xs ys zs)++[.bool true])⟩→(∃ v8,s'.t 8=.ptr 8 v8 0∧s'.bx 8=⟨v8,.var (encP zeroP++[.bool false])⟩)→K (.x 0) s':=fun s' h1 h2 h3=>hK s' h1 (by rw [h2]; simp [liftL]) h3
  generalize (liftV d x y z).1=r at *
  generalize cellsP (D++[r])++[CV.bool true]=cD' at *
  generalize cellsP D++[CV.bool true]=cD at *
  generalize encP f=ef at *
  generalize encP t=et at *
  generalize encP a=ea at *
  rw [← ja t4,← jc b4,← ja t5,← jc b5,← ja t6,← jc b6,← ja t7,← jc b7,← ja t9,← jc b9,← ja t10,← ja t8,← jc b8]
  unfold encDim at he c1
  unfold b67_0
  repeat' (first | refine je rfl (List.length_map _) ?_ | refine jl rfl (by decide) rfl lx rx ?_ | refine jl rfl (by decide) rfl ly ry ?_ | refine jl rfl (by decide) rfl lz rz ?_ | refine call4 rfl rfl rfl rfl c1 ?_ | refine jL rfl hw ?_ | refine jt rfl rfl (by decide) rfl rfl lD hst ?_ | refine st1 ?_ | intro u)
  exact ih' _ (by rfl) (by rfl) (by rfl) (by rfl) (by rfl) (by rfl) (by rfl) (by rfl) (by rfl) (by rfl) (by exact congrArg (fun n=>PV.c (CV.int .i64 n)) hnl) ⟨v8,by rfl,by rfl⟩ hK'
theorem below_get {f t:Go.Bag.Place} (h:belowP f t=true):∀ i,i < (placeL f).length→(placeL f).getD i 0≤(placeL t).getD i 0:=by
 unfold belowP at h
 simp only [decide_eq_true_eq] at h
 obtain ⟨h0,h1,h2,h3⟩:=h
 intro i hi
 match i,hi with
 | 0,_=>exact h0
 | 1,_=>exact h1
 | 2,_=>exact h2
 | 3,_=>exact h3
theorem jmt {c:CatS} {f t a:Go.Bag.Place} (ha:u8P a) (g1:rightC c f a=true) (g2:rightC c t zeroP=true) (g3:belowP f t=true):okAll c.dims (placeL f) (placeL t) (placeL a) :=
 W9 c.dims _ _ _ (by have:=(jx (jB g1)).1.2; show c.dims.length≤4; omega) rfl rfl (kR g1) (kR g2) (below_get g3) (fun z hz=>(ha z hz).1)
theorem jf9 (c:CatS) (f t a:Go.Bag.Place) (h:okCat2 c) (hf:u8P f) (ht:u8P t) (ha:u8P a) :
  CP 67 [.c (.agg (encCat c)),.c (.agg (encP f)),.c (.agg (encP t)),.c (.agg (encP a))] (.c (.agg (encP (toP c f t a).1++[.bool (toP c f t a).2]))) []:=by
 have c1:=wz c f a h.1 hf ha
 have c2:=vy c t h.1 ht
 have c3:=Xc f t
 refine pcallF Tryz.func67 c67 rfl ?_
 have h0:=h.1.1
 unfold toP
 by_cases g:rightC c f a=true∧rightC c t zeroP=true∧belowP f t=true
 ·rw [if_pos g]
  obtain ⟨g1,g2,g3⟩:=g
  have hok:=jmt ha g1 g2 g3
  rw [g1] at c1
  rw [g2] at c2
  rw [g3] at c3
  have hl:=(jx (jB g1)).1.2
  have lp:=fun (K:Ex→PS→Prop) v4 v5 v6 v7 v9 s=>jf8 (K:=K) c (fun d hd=>h.1.2 d hd) hl f t a hf ht ha v4 v5 v6 v7 v9 c.dims (placeL f) (placeL t) (placeL a) [] s hok rfl rfl rfl rfl (by simp)
  have e0:cellsP []=encP zeroP:=rfl
  have e1:encP (ofP (liftL c.dims (placeL f) (placeL t) (placeL a)))=cellsP ([]++liftL c.dims (placeL f) (placeL t) (placeL a)):=rfl
  rw [e0] at lp
  dsimp only
  rw [e1]
  have ef:(encP f).length=4:=rfl
  unfold cellsP at lp ⊢
  unfold encCat encP zeroP at *
  dsimp only [List.cons_append,List.nil_append] at *
  unfold p67
  repeat' (first | refine call3 rfl rfl rfl c1 ?_ | refine call2 rfl rfl c2 ?_ | refine call2 rfl rfl c3 ?_ | refine st6 ?_ | intro u)
  refine lp _ _ _ _ _ _ _ (by rfl) (by rfl) (by rfl) (by rfl) (by rfl) (by rfl) (by rfl) (by rfl) (by rfl) (by rfl) (by rfl) ⟨_,by rfl,by rfl⟩ ?_
  rintro s' t9 b9 ⟨v8,t8,b8⟩
  rw [← ja t9,← jc b9,← ja t8,← jc b8]
  repeat' (first | refine st0 ?_ | intro u)
  exact jd (jh rfl rfl rfl rfl jk) rfl
 ·rw [if_neg g]
  generalize hg1:rightC c f a=g1 at *
  generalize hg2:rightC c t zeroP=g2 at *
  generalize hg3:belowP f t=g3 at *
  unfold encCat encP zeroP at *
  dsimp only [List.cons_append,List.nil_append] at *
  unfold p67
  cases g1 with
  | false =>
   repeat' (first | refine call3 rfl rfl rfl c1 ?_ | refine st8 ?_ | intro u)
   exact jd (jh rfl rfl rfl rfl jk) rfl
  | true =>
   cases g2 with
   | false =>
    repeat' (first | refine call3 rfl rfl rfl c1 ?_ | refine call2 rfl rfl c2 ?_ | refine st8 ?_ | intro u)
    exact jd (jh rfl rfl rfl rfl jk) rfl
   | true =>
    cases g3 with
    | false =>
     repeat' (first | refine call3 rfl rfl rfl c1 ?_ | refine call2 rfl rfl c2 ?_ | refine call2 rfl rfl c3 ?_ | refine st7 ?_ | intro u)
     exact jd (jh rfl rfl rfl rfl jk) rfl
    | true=>exact absurd ⟨rfl,rfl,rfl⟩ g
set_option maxRecDepth 100000
set_option maxHeartbeats 16000000
/-! ### Within -/
theorem vb {l:List Int} {i:Nat} {x:Int} {xs:List Int} (h:l.drop i=x::xs):l.getD i 0=x:=by
 have:=jo h
 rw [List.getD_eq_getElem?_getD,← List.head?_drop,h]
 rfl
theorem jga (c:CatS) (v a:Go.Bag.Place) (f:FixS) (h:okCat2 c) (hv:u8P v) (ha:u8P a) (hm:f.mem.length≤9223372036854775807) :
  CP 96 [.c (.agg (encCat c)),.c (.agg (encP v)),.c (.agg (encP a)),.c (.agg (encFix f))] (.c (.bool (withinP c v a f))) []:=by
 have c1:=Vu c v a h hv ha
 refine pcallF Tryz.func96 c96 rfl ?_
 have h0:=h.1.1
 obtain ⟨fd,fl,fm⟩:=f
 unfold withinP
 dsimp only at hm ⊢
 by_cases g:rightC c v a=true∧0≤fd∧fd < c.dims.length
 ·rw [if_pos g]
  obtain ⟨g1,g2,g3⟩:=g
  rw [g1] at c1
  have hl:=(jx (jB g1)).1.2
  obtain ⟨k,rfl⟩:=Int.eq_ofNat_of_zero_le g2
  have hk:k < c.dims.length:=by omega
  have hd:c.dims[((k:Nat):Int).toNat]? = some c.dims[k]:=by simp [hk]
  have hdm:okDim c.dims[k]∧okUp c.dims[k]:=⟨h.1.2 _ (List.getElem_mem hk),h.2 _ (List.getElem_mem hk)⟩
  have he:(c.dims.map encDim)[((k:Nat):Int).toNat]? = some (encDim c.dims[k]):=by simp [hk]
  rw [hd]
  dsimp only
  generalize c.dims[k]=d at *
  obtain ⟨x,xs,hx⟩:=j7 (p:=v) (i:=k) rfl (by omega)
  obtain ⟨z,zs,hz⟩:=j7 (p:=a) (i:=k) rfl (by omega)
  rw [Int.toNat_natCast,vb hx,vb hz]
  obtain ⟨gx,hi4⟩:=jV hx
  obtain ⟨gz,_⟩:=jV hz
  have rx:=rd1 gx
  have rz:=rd1 gz
  have lx:(0 + ((k:Nat):Int).toNat * 1) + 1≤(encP v).length:=jZ (by show 0 + k < 4; omega)
  have lz:(0 + ((k:Nat):Int).toNat * 1) + 1≤(encP a).length:=jZ (by show 0 + k < 4; omega)
  have ux:=hv x (List.mem_of_mem_drop (by rw [hx]; simp))
  have uz:=ha z (List.mem_of_mem_drop (by rw [hz]; simp))
  have c2:=jch d x fl z hdm.1 hdm.2
  generalize (liftV d x fl z).1=r at *
  generalize (liftV d x fl z).2=rb at *
  have c3:=ja3 fm r hm
  generalize fm.contains r=q at *
  unfold encP at *
  unfold encCat encFix encDim at *
  dsimp only at *
  generalize encIs fm=em at *
  unfold p96
  cases rb with
  | true =>
   rw [Bool.true_and]
   repeat' (first | refine call3 rfl rfl rfl c1 ?_ | refine je rfl (List.length_map _) ?_ | refine jl rfl (by decide) rfl lx rx ?_ | refine jl rfl (by decide) rfl lz rz ?_ | refine call4 rfl rfl rfl rfl c2 ?_ | refine call2 rfl rfl c3 ?_ | refine st3 ?_ | intro u)
   exact jd rfl rfl
  | false =>
   rw [Bool.false_and]
   repeat' (first | refine call3 rfl rfl rfl c1 ?_ | refine je rfl (List.length_map _) ?_ | refine jl rfl (by decide) rfl lx rx ?_ | refine jl rfl (by decide) rfl lz rz ?_ | refine call4 rfl rfl rfl rfl c2 ?_ | refine st3 ?_ | intro u)
   exact jd rfl rfl
 ·rw [if_neg g]
  generalize hg1:rightC c v a=g1 at *
  unfold encCat encFix encP at *
  dsimp only at *
  generalize encIs fm=em at *
  unfold p96
  cases g1 with
  | false =>
   repeat' (first | refine call3 rfl rfl rfl c1 ?_ | refine st2 ?_ | intro u)
   exact jd rfl rfl
  | true =>
   by_cases k0:fd < 0
   ·repeat' (first | refine call3 rfl rfl rfl c1 ?_ | refine st2 ?_ | intro u)
    exact jd rfl rfl
   ·have k1:¬ fd < (c.dims.length:Int):=fun k1=>g ⟨rfl,by omega,k1⟩
    repeat' (first | refine call3 rfl rfl rfl c1 ?_ | refine je rfl (List.length_map _) ?_ | refine st2 ?_ | intro u)
    exact jd rfl rfl
theorem ji2 {K:KT} (fd fl:Int) (l:List Int) (m:Int) (v7:Nat) (hlen:l.length≤9223372036854775807):∀ (rest:List Int) (i:Nat) (s:PS),l.drop i=rest→i≤l.length →
  s.t 7=.ptr 7 v7 0→s.bx 7=⟨v7,.var [.int .i64 fd,.int .i64 fl,encIs l]⟩→s.t 9=.c (.int .i64 m)→s.t 10=.c (.int .i64 i) →
  (rest.contains m=false→∀ s',K (.x 0) s')→(rest.contains m=true→∀ s',s'.t 8=.c (.bool true)→K .r s')→wP (CP) (.loop b71_0) s K:=by
 intro rest
 induction rest with
 | nil =>
  intro i s hd hi t7 b7 t9 t10 hx hr
  refine jf ?_
  have:=jm hd hi
  subst this
  rw [← ja t7,← jc b7,← ja t9,← ja t10]
  unfold encIs
  unfold b71_0
  repeat' (first | refine je rfl (List.length_map _) ?_ | refine st0 ?_ | intro u)
  exact hx rfl _
 | cons a rest ih =>
  intro i s hd hi t7 b7 t9 t10 hx hr
  refine jf ?_
  have he:(l.map fun n=>[CV.int .i64 n])[i]? = some [.int .i64 a]:=jp hd
  have hil:=jo hd
  have hn:=jg hd
  rw [← ja t7,← jc b7,← ja t9,← ja t10]
  unfold encIs
  unfold b71_0
  by_cases h1:a=m
  ·repeat' (first | refine je rfl (List.length_map _) ?_ | refine st3 ?_ | intro u)
   exact hr (by simp [h1]) _ (by rfl)
  ·repeat' (first | refine je rfl (List.length_map _) ?_ | refine st1 ?_ | intro u)
   refine ih (i + 1) _ hn (by omega) (by rfl) (by rfl) (by rfl) (by rfl) (fun h'=>hx ?_) (fun h'=>hr ?_)
   ·simp only [List.contains_cons,h',Bool.or_false]; simpa using fun e=>h1 e.symm
   ·simp only [List.contains_cons,h',Bool.or_true]
theorem jd1 (c:CatS) (v a:Go.Bag.Place) (f:FixS) (h:okCat2 c) (hv:u8P v) (ha:u8P a) (hm:f.mem.length≤9223372036854775807) :
  CP 71 [.c (.agg (encCat c)),.c (.agg (encP v)),.c (.agg (encP a)),.c (.agg (encFix f))] (.c (.bool (withinP c v a f))) []:=by
 have c1:=wz c v a h.1 hv ha
 have cl:=ZD c f.dim h.1
 refine pcallF Tryz.func71 c71 rfl ?_
 have h0:=h.1.1
 by_cases g:rightC c v a=true∧0≤f.dim∧f.dim < c.dims.length
 ·have wi:=fun d hd=>jdx (fun x hx=>(hv x hx).1) (fun x hx=>(ha x hx).1) g.1 g.2.1 g.2.2 (d:=d) hd
  unfold withinP
  unfold levelsC at cl
  rw [if_pos g]
  obtain ⟨g1,g2,g3⟩:=g
  rw [if_pos ⟨jB g1,g2,g3⟩] at cl
  obtain ⟨fd,fl,fm⟩:=f
  dsimp only at *
  rw [g1] at c1
  have hl:=(jx (jB g1)).1.2
  obtain ⟨k,rfl⟩:=Int.eq_ofNat_of_zero_le g2
  have hk:k < c.dims.length:=by omega
  have hd:c.dims[((k:Nat):Int).toNat]? = some c.dims[k]:=by simp [hk]
  have hdm:okDim c.dims[k]∧okUp c.dims[k]:=⟨h.1.2 _ (List.getElem_mem hk),h.2 _ (List.getElem_mem hk)⟩
  have he:(c.dims.map encDim)[((k:Nat):Int).toNat]? = some (encDim c.dims[k]):=by simp [hk]
  have wd:=wi _ hd
  rw [hd] at cl ⊢
  dsimp only at cl ⊢
  clear wi
  generalize c.dims[k]=d at *
  obtain ⟨x,xs,hx⟩:=j7 (p:=v) (i:=k) rfl (by omega)
  obtain ⟨z,zs,hz⟩:=j7 (p:=a) (i:=k) rfl (by omega)
  rw [Int.toNat_natCast,vb hx,vb hz] at wd ⊢
  obtain ⟨gx,hi4⟩:=jV hx
  obtain ⟨gz,_⟩:=jV hz
  have rx:=rd1 gx
  have rz:=rd1 gz
  have lx:(0 + ((k:Nat):Int).toNat * 1) + 1≤(encP v).length:=jZ (by show 0 + k < 4; omega)
  have lz:(0 + ((k:Nat):Int).toNat * 1) + 1≤(encP a).length:=jZ (by show 0 + k < 4; omega)
  have ux:=hv x (List.mem_of_mem_drop (by rw [hx]; simp))
  have uz:=ha z (List.mem_of_mem_drop (by rw [hz]; simp))
  have c2:=jcj d x fl z hdm.1
  unfold encP at *
  have lp:=fun (K:Ex→PS→Prop) v7 m s=>ji2 (K:=K) k fl fm m v7 hm fm 0 s rfl (by omega)
  have hds:=hdm.1.1
  unfold liftV
  by_cases ok:liftOk d x fl z
  ·rw [if_pos ok] at c2 ⊢
   rw [Bool.true_and]
   have wd':=wd.mp ok
   generalize liftD d x fl z=r at *
   generalize hq:fm.contains r=q at *
   unfold encCat encFix encDim at *
   dsimp only at *
   generalize hem:encIs fm=em at *
   unfold p71
   repeat' (first | refine call3 rfl rfl rfl c1 ?_ | refine je rfl (List.length_map _) ?_ | refine call2 rfl rfl cl ?_ | refine jl rfl (by decide) rfl lx rx ?_ | refine jl rfl (by decide) rfl lz rz ?_ | refine call4 rfl rfl rfl rfl c2 ?_ | refine st3 ?_ | intro u)
   refine lp _ _ _ _ (by rfl) (by rfl) (by rfl) (by rfl) (fun hf s'=>?_) (fun hf s' h8=>?_)
   ·rw [hq] at hf
    subst hf
    repeat' (first | refine st0 ?_ | intro u)
    exact jd rfl rfl
   ·rw [hq] at hf
    subst hf
    rw [← ja h8]
    repeat' (first | refine j8 ?_ | refine kl ?_)
    exact jd rfl rfl
  ·rw [if_neg ok]
   rw [Bool.false_and]
   have wd':x≤fl→¬ fl < (d.sizes.length:Int) + 1:=fun p q=>ok (wd.mpr ⟨p,q⟩)
   clear c2
   unfold encCat encFix encDim at *
   dsimp only at *
   generalize hem:encIs fm=em at *
   unfold p71
   by_cases q1:fl < x
   ·repeat' (first | refine call3 rfl rfl rfl c1 ?_ | refine je rfl (List.length_map _) ?_ | refine jl rfl (by decide) rfl lx rx ?_ | refine st2 ?_ | intro u)
    exact jd rfl rfl
   ·have q2:=wd' (by omega)
    repeat' (first | refine call3 rfl rfl rfl c1 ?_ | refine je rfl (List.length_map _) ?_ | refine call2 rfl rfl cl ?_ | refine jl rfl (by decide) rfl lx rx ?_ | refine st2 ?_ | intro u)
    exact jd rfl rfl
 ·clear cl
  unfold withinP
  rw [if_neg g]
  obtain ⟨fd,fl,fm⟩:=f
  dsimp only at *
  generalize hg1:rightC c v a=g1 at *
  unfold encCat encFix encP at *
  dsimp only at *
  generalize encIs fm=em at *
  unfold p71
  cases g1 with
  | false =>
   repeat' (first | refine call3 rfl rfl rfl c1 ?_ | refine st2 ?_ | intro u)
   exact jd rfl rfl
  | true =>
   by_cases k0:fd < 0
   ·repeat' (first | refine call3 rfl rfl rfl c1 ?_ | refine st2 ?_ | intro u)
    exact jd rfl rfl
   ·have k1:¬ fd < (c.dims.length:Int):=fun k1=>g ⟨rfl,by omega,k1⟩
    repeat' (first | refine call3 rfl rfl rfl c1 ?_ | refine je rfl (List.length_map _) ?_ | refine st2 ?_ | intro u)
    exact jd rfl rfl
end Go.Proofs.YtnpncbplhdnonaaGreat
/-
 QUERIES,PLAIN: which may be; the node that one needs. My own work.
-/
namespace Go.Bag
open Go.Pl
set_option maxRecDepth 100000
structure QueryS where
 node:Place
 fixes:List FixS
 top:Int
 measure:Int
 fn:Int
 limit:Int
def encQ (q:QueryS):List CV:=encP q.node++[.sl (q.fixes.map encFix),.int .i64 q.top,.int .i64 q.measure,.int .i64 q.fn,.int .i64 q.limit]
def memOk (z:Int):Option Int→List Int→Bool
 | _,[]=>true
 | p,m::l=>(decide (0≤m∧m < z) && (match p with | none=>true | some q=>decide (q < m))) && memOk z (some m) l
def sizeF (c:CatS) (f:FixS):Int:=match c.dims[f.dim.toNat]? with | some d=>sizeD d f.level | none=>0
def fixOk (c:CatS) (f:FixS):Bool:=decide ((0≤f.dim∧f.dim < c.dims.length)∧0 < f.mem.length) && memOk (sizeF c f) none f.mem
def endQ (c:CatS) (q:QueryS):Bool:=if q.top=0 then decide (q.measure=0∧q.fn=0) else decide ((0≤q.measure∧q.measure < c.m)∧(1≤q.fn∧q.fn≤5))
def goodQ (c:CatS) (q:QueryS):Bool:=(rightC c q.node zeroP && decide (q.fixes.length≤6∧(0≤q.top∧q.top≤1000)∧(0≤q.limit∧q.limit≤1000))) && (q.fixes.all (fixOk c) && endQ c q)
def minP (v:Place) (f:FixS):Place:=ofP ((placeL v).set f.dim.toNat (if f.level < (placeL v).getD f.dim.toNat 0 then f.level else (placeL v).getD f.dim.toNat 0))
def needQ (c:CatS) (q:QueryS):Place:=if goodQ c q=true then q.fixes.foldl minP q.node else zeroP
def lightQ (q:QueryS):Bool:=decide (q.fixes.length≤10) && q.fixes.all fun f=>decide (f.mem.length≤60)
theorem wA {c:CatS} {f:FixS} (h:fixOk c f=true):(0≤f.dim∧f.dim < c.dims.length)∧0 < f.mem.length∧sizeF c f≠0:=by
 unfold fixOk at h
 simp only [Bool.and_eq_true,decide_eq_true_eq] at h
 refine ⟨h.1.1,h.1.2,fun h0=>?_⟩
 rw [h0] at h
 cases hm:f.mem with
 | nil=>have:=h.1.2; rw [hm] at this; simp at this
 | cons m l =>
  have h2:=h.2
  rw [hm] at h2
  simp only [memOk,Bool.and_eq_true,decide_eq_true_eq] at h2
  omega
theorem fix_level {c:CatS} {f:FixS} (h:fixOk c f=true):∃ d,c.dims[f.dim.toNat]? = some d∧goodDim d=true∧0≤f.level∧f.level≤d.sizes.length∧f.level≤4:=by
 have h1:=wA h
 unfold sizeF at h1
 cases hd:c.dims[f.dim.toNat]? with
 | none=>rw [hd] at h1; exact absurd rfl h1.2.2
 | some d =>
  rw [hd] at h1
  have g:=jQ h1.2.2
  have:=(kA g.1).1
  exact ⟨d,rfl,g.1,g.2.1,g.2.2,by omega⟩
end Go.Bag
/- Part of the proof of ExecTells, ExecAnswers, ExecBest, ExecFirst, ExecLevels, ExecTops, ExecLimits: lemmas. -/
import Derived.Test.YtnpncbplhdnonaaGreatExecS15
import Derived.Test.YtnpncbplhdnonaaGreatExecS19
set_option linter.unusedVariables false
set_option linter.unusedSimpArgs false
namespace Go.Proofs.YtnpncbplhdnonaaGreat
open Go.Pl Go.Bag
set_option maxRecDepth 100000
set_option maxHeartbeats 8000000
theorem jnd {C:CallP} {K:KT} (d:DimS) (hlen:d.sizes.length≤4) (v:Nat):∀ (rest:List Int) (i:Nat) (s:PS),d.sizes.drop i=rest→i≤d.sizes.length →
  s.t 1=.ptr 1 v 0→s.bx 1=⟨v,.var [encIs d.sizes,.sl (d.up.map fun l=>[encIs l])]⟩→s.t 3=.c (.int .i64 d.sizes.length)→s.t 4=.c (.int .i64 i) →
  (rest.all (fun n=>decide (1≤n∧n≤40))=true→∀ s',s'.t 1=.ptr 1 v 0→s'.bx 1=⟨v,.var [encIs d.sizes,.sl (d.up.map fun l=>[encIs l])]⟩→s'.t 3=.c (.int .i64 d.sizes.length)→K (.x 0) s') →
  (rest.all (fun n=>decide (1≤n∧n≤40))=false→∀ s',s'.t 2=.c (.bool false)→K .r s')→wP C (.loop b117_0) s K:=by
 intro rest
 induction rest with
 | nil =>
  intro i s hd hi t1 b1 t3 t4 hx hr
  refine jf ?_
  have:=jm hd hi
  subst this
  rw [← ja t1,← jc b1,← ja t3,← ja t4]
  unfold b117_0
  repeat' (first | refine st0 ?_ | intro u)
  exact hx rfl _ (by rfl) (by rfl) (by rfl)
 | cons n rest ih =>
  intro i s hd hi t1 b1 t3 t4 hx hr
  refine jf ?_
  have he:(d.sizes.map fun n=>[CV.int .i64 n])[i]? = some [.int .i64 n]:=jp hd
  have hil:=jo hd
  have hn:=jg hd
  rw [← ja t1,← jc b1,← ja t3,← ja t4]
  unfold b117_0
  by_cases h1:n < 1
  ·repeat' (first | refine st3 ?_ | intro u)
   exact hr (by simp; omega) _ (by rfl)
  ·by_cases h2:n≤40
   ·repeat' (first | refine st6 ?_ | intro u)
    refine ih (i + 1) _ hn (by omega) (by rfl) (by rfl) (by rfl) (by rfl) (fun h'=>hx ?_) (fun h'=>hr ?_)
    ·simp only [List.all_cons,h',Bool.and_true,decide_eq_true_eq]; omega
    ·simp only [List.all_cons,h',Bool.and_false]
   ·repeat' (first | refine st3 ?_ | intro u)
    exact hr (by simp; omega) _ (by rfl)
theorem jne {C:CallP} {K:KT} (d:DimS) (v:Nat) (k:Nat) (hk:k≤4) (l:List Int) (z:Int) (hl:l.length≤1000) (he:(d.up.map fun l=>[encIs l])[k]? = some [encIs l]) (hz:(d.sizes.map fun n=>[CV.int .i64 n])[((k:Int) + 1).toNat]? = some [.int .i64 z]):∀ (rest:List Int) (i:Nat) (s:PS),l.drop i=rest→i≤l.length →
  s.t 1=.ptr 1 v 0→s.bx 1=⟨v,.var [encIs d.sizes,.sl (d.up.map fun l=>[encIs l])]⟩→s.t 3=.c (.int .i64 d.sizes.length)→s.t 5=.c (.int .i64 k)→s.t 6=.c (.int .i64 i) →
  (rest.all (fun m=>decide (0≤m∧m < z))=true→∀ s',s'.t 1=.ptr 1 v 0→s'.bx 1=⟨v,.var [encIs d.sizes,.sl (d.up.map fun l=>[encIs l])]⟩→s'.t 3=.c (.int .i64 d.sizes.length)→s'.t 5=.c (.int .i64 k)→K (.x 4) s') →
  (rest.all (fun m=>decide (0≤m∧m < z))=false→∀ s',s'.t 2=.c (.bool false)→K .r s')→wP C (.loop b117_2) s K:=by
 intro rest
 induction rest with
 | nil =>
  intro i s hd hi t1 b1 t3 t5 t6 hx hr
  refine jf ?_
  have:=jm hd hi
  subst this
  rw [← ja t1,← jc b1,← ja t3,← ja t5,← ja t6]
  unfold b117_2
  repeat' (first | refine je rfl (List.length_map _) ?_ | refine st0 ?_ | intro u)
  exact hx rfl _ (by rfl) (by rfl) (by rfl) (by rfl)
 | cons m rest ih =>
  intro i s hd hi t1 b1 t3 t5 t6 hx hr
  refine jf ?_
  have hm:(l.map fun n=>[CV.int .i64 n])[i]? = some [.int .i64 m]:=jp hd
  have hil:=jo hd
  have hn:=jg hd
  rw [← ja t1,← jc b1,← ja t3,← ja t5,← ja t6]
  unfold b117_2
  by_cases h1:m < 0
  ·repeat' (first | refine je rfl (List.length_map _) ?_ | refine st3 ?_ | intro u)
   exact hr (by simp; omega) _ (by rfl)
  ·by_cases h2:m < z
   ·repeat' (first | refine je rfl (List.length_map _) ?_ | refine st6 ?_ | intro u)
    refine ih (i + 1) _ hn (by omega) (by rfl) (by rfl) (by rfl) (by rfl) (by rfl) (fun h'=>hx ?_) (fun h'=>hr ?_)
    ·simp only [List.all_cons,h',Bool.and_true,decide_eq_true_eq]; omega
    ·simp only [List.all_cons,h',Bool.and_false]
   ·repeat' (first | refine je rfl (List.length_map _) ?_ | refine st3 ?_ | intro u)
    exact hr (by simp; omega) _ (by rfl)
theorem jnf {C:CallP} {K:KT} (d:DimS) (hlen:d.sizes.length≤4) (hul:d.up.length + 1=d.sizes.length) (hs:d.sizes.all (fun n=>decide (1≤n∧n≤40))=true) (v:Nat):∀ (rest:List (List Int)) (k:Nat) (s:PS),d.up.drop k=rest→k≤d.up.length →
  s.t 1=.ptr 1 v 0→s.bx 1=⟨v,.var [encIs d.sizes,.sl (d.up.map fun l=>[encIs l])]⟩→s.t 3=.c (.int .i64 d.sizes.length)→s.t 5=.c (.int .i64 k) →
  (upOk (d.sizes.drop k) rest=true→∀ s',K (.x 2) s') →
  (upOk (d.sizes.drop k) rest=false→∀ s',s'.t 2=.c (.bool false)→K .r s')→wP C (.loop b117_1) s K:=by
 intro rest
 induction rest with
 | nil =>
  intro k s hd hi t1 b1 t3 t5 hx hr
  refine jf ?_
  have:=jm hd hi
  subst this
  rw [← ja t1,← jc b1,← ja t3,← ja t5]
  unfold b117_1
  repeat' (first | refine st0 ?_ | intro u)
  refine hx ?_ _
  have:d.sizes.drop d.up.length=[d.sizes[d.up.length]]:=by
   rw [List.drop_eq_getElem_cons (by omega),List.drop_of_length_le (by omega)]
  rw [this]; rfl
 | cons l rest ih =>
  intro k s hd hi t1 b1 t3 t5 hx hr
  refine jf ?_
  have he:(d.up.map fun l=>[encIs l])[k]? = some [encIs l]:=jp hd
  have hil:=jo hd
  have hn:=jg hd
  have e0:d.sizes.drop k=d.sizes[k]::d.sizes[k + 1]::d.sizes.drop (k + 2):=by
   rw [List.drop_eq_getElem_cons (by omega),List.drop_eq_getElem_cons (by omega)]
  have hz:(d.sizes.map fun n=>[CV.int .i64 n])[k]? = some [.int .i64 d.sizes[k]]:=jp e0
  have hz1:(d.sizes.map fun n=>[CV.int .i64 n])[((k:Int) + 1).toNat]? = some [.int .i64 d.sizes[k + 1]]:=by
   have:((k:Int) + 1).toNat=k + 1:=by omega
   rw [this]; exact jp (jg e0)
  have e1:d.sizes.drop (k + 1)=d.sizes[k + 1]::d.sizes.drop (k + 2):=jg e0
  have hb:d.sizes[k]≤40:=by
   have:=List.all_eq_true.mp hs _ (List.getElem_mem (show k < d.sizes.length by omega))
   simp at this; exact this.2
  rw [e0] at hx hr
  simp only [upOk] at hx hr
  generalize d.sizes[k]=y at *
  generalize d.sizes[k + 1]=z at *
  rw [← ja t1,← jc b1,← ja t3,← ja t5]
  unfold b117_1
  by_cases h1:(l.length:Int)=y
  ·repeat' (first | refine je rfl (List.length_map _) ?_ | refine st1 ?_ | intro u)
   refine jne d v k (by omega) l z (by omega) he hz1 l 0 _ rfl (by omega) (by rfl) (by rfl) (by rfl) (by rfl) (by rfl) (fun h s' t1 b1 t3 t5=>?_) (fun h s' h2=>?_)
   ·rw [← ja t1,← jc b1,← ja t3,← ja t5]
    repeat' (first | refine st0 ?_ | intro u)
    refine ih (k + 1) _ hn (by omega) (by rfl) (by rfl) (by rfl) (by rfl) (fun h'=>hx ?_) (fun h'=>hr ?_)
    ·rw [e1] at h'; simp only [h',h,decide_eq_true h1,Bool.and_self]
    ·rw [e1] at h'; simp only [h',Bool.and_false]
   ·rw [← ja h2]
    repeat' (first | refine j8 ?_ | refine kl ?_)
    refine hr ?_ _ (by rfl)
    simp only [h,Bool.and_false,Bool.false_and]
  ·repeat' (first | refine je rfl (List.length_map _) ?_ | refine st3 ?_ | intro u)
   refine hr ?_ _ (by rfl)
   simp only [decide_eq_false h1,Bool.false_and]
theorem Zz (d:DimS) (h0:d.sizes.length≤9223372036854775807) (h1:d.up.length≤9223372036854775807):CP 117 [.c (.agg (encDim d))] (.c (.bool (goodDim d))) []:=by
 refine pcallF Tryz.func117 c117 rfl ?_
 unfold encDim goodDim
 unfold p117
 by_cases a:1≤d.sizes.length∧d.sizes.length≤4
 ·by_cases b:d.up.length + 1=d.sizes.length
  ·rw [decide_eq_true a,decide_eq_true b,Bool.true_and,Bool.true_and]
   repeat' (first | refine je rfl (List.length_map _) ?_ | refine st2 ?_ | intro u)
   refine jnd d a.2 _ d.sizes 0 _ rfl (by omega) (by rfl) (by rfl) (by rfl) (by rfl) (fun h s' t1 b1 t3=>?_) (fun h s' h2=>?_)
   ·rw [h,Bool.true_and,← ja t1,← jc b1,← ja t3]
    repeat' (first | refine st0 ?_ | intro u)
    refine jnf d a.2 b h _ d.up 0 _ rfl (by omega) (by rfl) (by rfl) (by rfl) (by rfl) (fun h s'=>?_) (fun h s' h2=>?_)
    ·rw [List.drop_zero] at h
     rw [h]
     repeat' (first | refine st0 ?_ | intro u)
     exact jd rfl rfl
    ·rw [List.drop_zero] at h
     rw [h,← ja h2]
     repeat' (first | refine j8 ?_ | refine kl ?_)
     exact jd rfl rfl
   ·rw [h,Bool.false_and,← ja h2]
    repeat' (first | refine j8 ?_ | refine kl ?_)
    exact jd rfl rfl
  ·rw [decide_eq_false b,Bool.false_and,Bool.and_false]
   repeat' (first | refine je rfl (List.length_map _) ?_ | refine st3 ?_ | intro u)
   exact jd rfl rfl
 ·rw [decide_eq_false a,Bool.false_and]
  by_cases a1:d.sizes.length < 1
  ·repeat' (first | refine je rfl (List.length_map _) ?_ | refine st2 ?_ | intro u)
   exact jd rfl rfl
  ·repeat' (first | refine je rfl (List.length_map _) ?_ | refine st2 ?_ | intro u)
   exact jd rfl rfl
set_option maxRecDepth 100000
set_option maxHeartbeats 8000000
def okDim (d:DimS):Prop:=d.sizes.length≤9223372036854775807∧d.up.length≤9223372036854775807
def okCat (c:CatS):Prop:=c.dims.length≤9223372036854775807∧∀ d∈c.dims,okDim d
theorem Vo (d:DimS) (k:Int) (h:okDim d):CP 113 [.c (.agg (encDim d)),.c (.int .i64 k)] (.c (.int .i64 (sizeD d k))) []:=by
 have c1:=Zz d h.1 h.2
 have h0:=h.1
 refine pcallF Tryz.func113 c113 rfl ?_
 unfold sizeD
 unfold encDim at c1 ⊢
 unfold p113
 cases hg:goodDim d with
 | false =>
  rw [hg] at c1
  rw [if_neg (by simp)]
  repeat' (first | refine call1 rfl c1 ?_ | refine st2 ?_ | intro u)
  exact jd rfl rfl
 | true =>
  rw [hg] at c1
  by_cases a:k < 0
  ·rw [if_neg (by omega)]
   repeat' (first | refine call1 rfl c1 ?_ | refine st2 ?_ | intro u)
   exact jd rfl rfl
  ·by_cases b:k≤d.sizes.length
   ·rw [if_pos ⟨rfl,by omega,b⟩]
    by_cases e:k=d.sizes.length
    ·rw [if_pos e]
     repeat' (first | refine call1 rfl c1 ?_ | refine je rfl (List.length_map _) ?_ | refine st2 ?_ | intro u)
     exact jd rfl rfl
    ·rw [if_neg e]
     have hlt:k.toNat < d.sizes.length:=by omega
     have he:(d.sizes.map fun n=>[CV.int .i64 n])[k.toNat]? = some [.int .i64 (d.sizes.getD k.toNat 0)]:=by
      simp [List.getD,hlt]
     repeat' (first | refine call1 rfl c1 ?_ | refine je rfl (List.length_map _) ?_ | refine st7 ?_ | intro u)
     exact jd rfl rfl
   ·rw [if_neg (by omega)]
    repeat' (first | refine call1 rfl c1 ?_ | refine je rfl (List.length_map _) ?_ | refine st2 ?_ | intro u)
    exact jd rfl rfl
theorem jim {K:KT} (c:CatS) (hlen:c.dims.length≤4) (hin:∀ d∈c.dims,okDim d) (v:Nat):∀ (rest:List DimS) (i:Nat) (s:PS),c.dims.drop i=rest→i≤c.dims.length →
  s.t 1=.ptr 1 v 0→s.bx 1=⟨v,.var [.sl (c.dims.map encDim),.int .i64 c.m]⟩→s.t 3=.c (.int .i64 i) →
  (rest.all goodDim=true→∀ s',K (.x 0) s')→(rest.all goodDim=false→∀ s',s'.t 2=.c (.bool false)→K .r s')→wP (CP) (.loop b76_0) s K:=by
 intro rest
 induction rest with
 | nil =>
  intro i s hd hi t1 b1 t3 hx hr
  refine jf ?_
  have:=jm hd hi
  subst this
  rw [← ja t1,← jc b1,← ja t3]
  unfold b76_0
  repeat' (first | refine je rfl (List.length_map _) ?_ | refine st0 ?_ | intro u)
  exact hx rfl _
 | cons d rest ih =>
  intro i s hd hi t1 b1 t3 hx hr
  refine jf ?_
  have he:(c.dims.map encDim)[i]? = some (encDim d):=jp hd
  have hil:=jo hd
  have hn:=jg hd
  have hdm:=hin d (List.mem_of_mem_drop (by rw [hd]; simp))
  have c1:=Zz d hdm.1 hdm.2
  rw [← ja t1,← jc b1,← ja t3]
  unfold encDim at he c1
  unfold b76_0
  cases h:goodDim d with
  | true =>
   rw [h] at c1
   repeat' (first | refine je rfl (List.length_map _) ?_ | refine call1 rfl c1 ?_ | refine st1 ?_ | intro u)
   refine ih (i + 1) _ hn (by omega) (by rfl) (by rfl) (by rfl) (fun h'=>hx ?_) (fun h'=>hr ?_)
   ·simp [h]; simpa using h'
   ·simp [h]; simpa using h'
  | false =>
   rw [h] at c1
   repeat' (first | refine je rfl (List.length_map _) ?_ | refine call1 rfl c1 ?_ | refine st3 ?_ | intro u)
   exact hr (by simp [h]) _ (by rfl)
theorem W5 (c:CatS) (h:okCat c):CP 76 [.c (.agg (encCat c))] (.c (.bool (goodCat c))) []:=by
 have h0:=h.1
 refine pcallF Tryz.func76 c76 rfl ?_
 unfold encCat goodCat
 unfold p76
 by_cases a:(1≤c.dims.length∧c.dims.length≤4)∧1≤c.m∧c.m≤2
 ·rw [decide_eq_true a,Bool.true_and]
  repeat' (first | refine je rfl (List.length_map _) ?_ | refine st2 ?_ | intro u)
  refine jim c a.1.2 h.2 _ c.dims 0 _ rfl (by omega) (by rfl) (by rfl) (by rfl) (fun h s'=>?_) (fun h s' h2=>?_)
  ·rw [h]
   repeat' (first | refine st0 ?_ | intro u)
   exact jd rfl rfl
  ·rw [h,← ja h2]
   repeat' (first | refine j8 ?_ | refine kl ?_)
   exact jd rfl rfl
 ·rw [decide_eq_false a,Bool.false_and]
  by_cases a1:c.dims.length < 1
  ·repeat' (first | refine je rfl (List.length_map _) ?_ | refine st2 ?_ | intro u)
   exact jd rfl rfl
  ·by_cases a2:c.dims.length≤4
   ·by_cases a3:c.m < 1
    ·repeat' (first | refine je rfl (List.length_map _) ?_ | refine st2 ?_ | intro u)
     exact jd rfl rfl
    ·repeat' (first | refine je rfl (List.length_map _) ?_ | refine st2 ?_ | intro u)
     exact jd rfl rfl
   ·repeat' (first | refine je rfl (List.length_map _) ?_ | refine st2 ?_ | intro u)
    exact jd rfl rfl
theorem rd1 {cs:List CV} {o i:Nat} {v:CV} (h:cs[o + i]? = some v):rdc false 1 (cs.drop (o + ((i:Nat):Int).toNat * 1))=v:=by
 have e:((i:Nat):Int).toNat * 1=i:=by simp
 rw [e]
 obtain ⟨hl,rfl⟩:=List.getElem?_eq_some_iff.1 h
 simp only [rdc,Bool.false_eq_true,if_false]
 rw [List.drop_eq_getElem_cons hl]
 rfl
theorem jZ {cs:List CV} {o i:Nat} (h:o + i < cs.length):(o + ((i:Nat):Int).toNat * 1) + 1≤cs.length:=by
 have e:((i:Nat):Int).toNat * 1=i:=by simp
 omega
theorem jV {p:Go.Bag.Place} {i:Nat} {x:Int} {xs:List Int} (h:(placeL p).drop i=x::xs):(encP p)[0 + i]? = some (.int .u8 x)∧i < 4:=by
 have hl:=jo h
 have h4:i < 4:=hl
 have:encP p=(placeL p).map (.int .u8 ·):=rfl
 rw [this,Nat.zero_add,List.getElem?_map]
 have:(placeL p)[i]? = some x:=by have:=congrArg List.head? h; simpa [List.head?_drop] using this
 rw [this]; exact ⟨rfl,h4⟩
def u8P (p:Go.Bag.Place):Prop:=∀ x∈placeL p,0≤x∧x≤255
theorem jin {K:KT} (c:CatS) (hin:∀ d∈c.dims,okDim d) (hlen:c.dims.length≤4) (v a:Go.Bag.Place) (hv:u8P v) (ha:u8P a) (v3 v4 v5:Nat):∀ (xs ys:List Int) (ds:List DimS) (i:Nat) (s:PS),(placeL v).drop i=xs→(placeL a).drop i=ys→c.dims.drop i=ds→i≤4 →
  s.t 3=.ptr 3 v3 0→s.bx 3=⟨v3,.var [.sl (c.dims.map encDim),.int .i64 c.m]⟩→s.t 4=.ptr 4 v4 0→s.bx 4=⟨v4,.var (encP v)⟩→s.t 5=.ptr 5 v5 0→s.bx 5=⟨v5,.var (encP a)⟩→s.t 7=.c (.int .i64 i) →
  (rightL ds xs ys=true→∀ s',K (.x 0) s')→(rightL ds xs ys=false→∀ s',s'.t 6=.c (.bool false)→K .r s')→wP (CP) (.loop b73_0) s K:=by
 intro xs
 induction xs with
 | nil =>
  intro ys ds i s hx' hy hd hi t3 b3 t4 b4 t5 b5 t7 hx hr
  refine jf ?_
  have h4:i=4:=jm hx' hi
  subst h4
  have:ys=[]:=by rw [← hy]; rfl
  subst this
  rw [← ja t3,← jc b3,← ja t4,← jc b4,← ja t5,← jc b5,← ja t7]
  unfold b73_0
  repeat' (first | refine st0 ?_ | intro u)
  exact hx (by cases ds <;> rfl) _
 | cons x xs ih =>
  intro ys ds i s hx' hy hd hi t3 b3 t4 b4 t5 b5 t7 hx hr
  refine jf ?_
  obtain ⟨gx,hi4⟩:=jV hx'
  have hys:∃ y ys',ys=y::ys':=by
   cases ys with
   | nil=>have:=jm hy (by show i≤4; omega); exact absurd this (by show i≠4; omega)
   | cons y ys'=>exact ⟨y,ys',rfl⟩
  obtain ⟨y,ys,rfl⟩:=hys
  obtain ⟨gy,_⟩:=jV hy
  have nx:=jg hx'
  have ny:=jg hy
  have rx:=rd1 gx
  have ry:=rd1 gy
  have lx:(0 + ((i:Nat):Int).toNat * 1) + 1≤(encP v).length:=jZ (by show 0 + i < 4; omega)
  have ly:(0 + ((i:Nat):Int).toNat * 1) + 1≤(encP a).length:=jZ (by show 0 + i < 4; omega)
  have ux:=hv x (List.mem_of_mem_drop (by rw [hx']; simp))
  have uy:=ha y (List.mem_of_mem_drop (by rw [hy]; simp))
  rw [← ja t3,← jc b3,← ja t4,← jc b4,← ja t5,← jc b5,← ja t7]
  generalize encP v=ev at *
  generalize encP a=ea at *
  cases ds with
  | nil =>
   have hil:c.dims.length≤i:=List.drop_eq_nil_iff.mp hd
   simp only [rightL] at hx hr
   unfold b73_0
   by_cases h1:x=0
   ·by_cases h2:y=0
    ·repeat' (first | refine je rfl (List.length_map _) ?_ | refine jl rfl (by decide) rfl lx rx ?_ | refine jl rfl (by decide) rfl ly ry ?_ | refine st7 ?_ | intro u)
     refine ih ys [] (i + 1) _ nx ny (List.drop_eq_nil_iff.mpr (by omega)) (by omega) (by rfl) (by rfl) (by rfl) (by rfl) (by rfl) (by rfl) (by rfl) (fun h=>hx ?_) (fun h=>hr ?_)
     ·rw [h]; simp [h1,h2]
     ·rw [h]; simp
    ·repeat' (first | refine je rfl (List.length_map _) ?_ | refine jl rfl (by decide) rfl lx rx ?_ | refine jl rfl (by decide) rfl ly ry ?_ | refine st3 ?_ | intro u)
     exact hr (by simp [h2]) _ (by rfl)
   ·repeat' (first | refine je rfl (List.length_map _) ?_ | refine jl rfl (by decide) rfl lx rx ?_ | refine st3 ?_ | intro u)
    exact hr (by simp [h1]) _ (by rfl)
  | cons d ds =>
   have he:(c.dims.map encDim)[i]? = some (encDim d):=jp hd
   have hil:=jo hd
   have hdm:=hin d (List.mem_of_mem_drop (by rw [hd]; simp))
   have c1:=Vo d x hdm
   have sd:=@sizeD_in d x
   simp only [rightL] at hx hr
   generalize sizeD d x=z at *
   unfold encDim at he c1
   unfold b73_0
   by_cases h1:y < z
   ·repeat' (first | refine je rfl (List.length_map _) ?_ | refine jl rfl (by decide) rfl lx rx ?_ | refine jl rfl (by decide) rfl ly ry ?_ | refine call2 rfl rfl c1 ?_ | refine st1 ?_ | intro u)
    refine ih ys ds (i + 1) _ nx ny (jg hd) (by omega) (by rfl) (by rfl) (by rfl) (by rfl) (by rfl) (by rfl) (by rfl) (fun h=>hx ?_) (fun h=>hr ?_)
    ·rw [h]; simp [h1]
    ·rw [h]; simp
   ·repeat' (first | refine je rfl (List.length_map _) ?_ | refine jl rfl (by decide) rfl lx rx ?_ | refine jl rfl (by decide) rfl ly ry ?_ | refine call2 rfl rfl c1 ?_ | refine st3 ?_ | intro u)
    exact hr (by simp [h1]) _ (by rfl)
theorem wz (c:CatS) (v a:Go.Bag.Place) (h:okCat c) (hv:u8P v) (ha:u8P a):CP 73 [.c (.agg (encCat c)),.c (.agg (encP v)),.c (.agg (encP a))] (.c (.bool (rightC c v a))) []:=by
 have c1:=W5 c h
 refine pcallF Tryz.func73 c73 rfl ?_
 unfold rightC
 unfold encCat at c1 ⊢
 unfold p73
 cases g:goodCat c with
 | false =>
  rw [g] at c1
  rw [Bool.false_and]
  repeat' (first | refine call1 rfl c1 ?_ | refine st2 ?_ | intro u)
  exact jd rfl rfl
 | true =>
  rw [g] at c1
  rw [Bool.true_and]
  have hl:c.dims.length≤4:=by
   unfold goodCat at g
   simp only [Bool.and_eq_true,decide_eq_true_eq] at g
   exact g.1.1.2
  repeat' (first | refine call1 rfl c1 ?_ | refine st2 ?_ | intro u)
  refine jin c h.2 hl v a hv ha _ _ _ (placeL v) (placeL a) c.dims 0 _ rfl rfl rfl (by omega) (by rfl) (by rfl) (by rfl) (by rfl) (by rfl) (by rfl) (by rfl) (fun h s'=>?_) (fun h s' h2=>?_)
  ·rw [h]
   repeat' (first | refine st0 ?_ | intro u)
   exact jd rfl rfl
  ·rw [h,← ja h2]
   repeat' (first | refine j8 ?_ | refine kl ?_)
   exact jd rfl rfl
theorem jv:u8P zeroP:=by
 intro x hx
 simp [placeL,zeroP] at hx
 omega
theorem vy (c:CatS) (v:Go.Bag.Place) (h:okCat c) (hv:u8P v):CP 40 [.c (.agg (encCat c)),.c (.agg (encP v))] (.c (.bool (rightC c v zeroP))) []:=by
 have c1:=wz c v zeroP h hv jv
 refine pcallF Tryz.func40 c40 rfl ?_
 unfold encCat at c1 ⊢
 unfold encP at c1 ⊢
 unfold p40
 repeat' (first | refine call3 rfl rfl rfl c1 ?_ | refine st5 ?_ | intro u)
 exact jd rfl rfl
theorem jf0 (c:CatS) (r:RowS) (h:okCat c) (hp:u8P r.p):CP 75 [.c (.agg (encCat c)),.c (.agg (encRow r))] (.c (.bool (goodR c r))) []:=by
 have c1:=wz c zeroP r.p h jv hp
 have c2:=vy c zeroP h jv
 refine pcallF Tryz.func75 c75 rfl ?_
 have hm:rightC c zeroP r.p=true→1≤c.m∧c.m≤2:=fun hh=>by
  unfold rightC goodCat at hh
  simp only [Bool.and_eq_true,decide_eq_true_eq] at hh
  exact hh.1.1.2
 unfold goodR
 generalize rightC c zeroP r.p=g1 at *
 generalize rightC c zeroP zeroP=g2 at *
 unfold encCat at c1 c2 ⊢
 obtain ⟨⟨p0,p1,p2,p3⟩,m0,m1⟩:=r
 show wP _ _ (initPS [.c (.agg [.sl (c.dims.map encDim),.int .i64 c.m]),.c (.agg [.int .u8 p0,.int .u8 p1,.int .u8 p2,.int .u8 p3,.int .i64 m0,.int .i64 m1])]) _
 unfold encP at c1 c2
 unfold zeroP at c1 c2
 dsimp only at c1 c2
 unfold p75
 cases g1 with
 | false =>
  repeat' (first | refine call3 rfl rfl rfl c1 ?_ | refine st8 ?_ | intro u)
  exact jd rfl rfl
 | true =>
  cases g2 with
  | false =>
   repeat' (first | refine call3 rfl rfl rfl c1 ?_ | refine call2 rfl rfl c2 ?_ | refine st7 ?_ | intro u)
   exact jd rfl rfl
  | true =>
   have hm:=hm rfl
   rw [Bool.true_and,Bool.true_and]
   by_cases m2:c.m=2
   ·rw [decide_eq_true (show c.m≤0→m0=0 from fun h=>by omega),decide_eq_true (show c.m≤1→m1=0 from fun h=>by omega)]
    repeat' (first | refine call3 rfl rfl rfl c1 ?_ | refine call2 rfl rfl c2 ?_ | refine st6 ?_ | intro u)
    refine jf ?_
    unfold b75_0
    repeat' (first | refine st0 ?_ | intro u)
    exact jd rfl rfl
   ·have e1:c.m=1:=by omega
    rw [decide_eq_true (show c.m≤0→m0=0 from fun h=>by omega),Bool.true_and]
    rw [e1] at c1 c2 ⊢
    by_cases z:m1=0
    ·rw [decide_eq_true (show (1:Int)≤1→m1=0 from fun _=>z)]
     repeat' (first | refine call3 rfl rfl rfl c1 ?_ | refine call2 rfl rfl c2 ?_ | refine st6 ?_ | intro u)
     refine jf ?_
     unfold b75_0
     repeat' (first | refine st1 ?_ | intro u)
     refine jf ?_
     repeat' (first | refine st0 ?_ | intro u)
     exact jd rfl rfl
    ·rw [decide_eq_false (show ¬ ((1:Int)≤1→m1=0) from fun h=>z (h (by omega)))]
     repeat' (first | refine call3 rfl rfl rfl c1 ?_ | refine call2 rfl rfl c2 ?_ | refine st6 ?_ | intro u)
     refine jf ?_
     unfold b75_0
     repeat' (first | refine st3 ?_ | intro u)
     exact jd rfl rfl
set_option maxRecDepth 100000
set_option maxHeartbeats 8000000
/-! ### hier, schema -/
theorem W6 (n l h:Int):CP 139 [.c (.int .i64 n),.c (.int .i64 l),.c (.int .i64 h)] (.c (.bool (decide (l≤n∧n≤h)))) []:=by
 refine pcallF Tryz.func139 c139 rfl ?_
 unfold p139
 by_cases h1:l≤n
 ·by_cases h2:n≤h
  ·rw [decide_eq_true ⟨h1,h2⟩]
   repeat' (first | refine st2 ?_ | intro u)
   exact jd rfl rfl
  ·rw [decide_eq_false (by omega)]
   repeat' (first | refine st2 ?_ | intro u)
   exact jd rfl rfl
 ·rw [decide_eq_false (by omega)]
  repeat' (first | refine st2 ?_ | intro u)
  exact jd rfl rfl
theorem jf1 (n l h:Int):CP 137 [.c (.int .i64 n),.c (.int .i64 l),.c (.int .i64 h)] (.c (.bool (decide (l≤n∧n≤h)))) []:=by
 refine pcallF Tryz.func137 c137 rfl ?_
 unfold p137
 by_cases h1:l≤n
 ·by_cases h2:n≤h
  ·rw [decide_eq_true ⟨h1,h2⟩]
   repeat' (first | refine st2 ?_ | intro u)
   exact jd rfl rfl
  ·rw [decide_eq_false (by omega)]
   repeat' (first | refine st2 ?_ | intro u)
   exact jd rfl rfl
 ·rw [decide_eq_false (by omega)]
  repeat' (first | refine st2 ?_ | intro u)
  exact jd rfl rfl
theorem jf2 {K:KT} (l:List Int) (z:Int) (hl:l.length≤9223372036854775807) (hz:-9223372036854775807≤z∧z≤9223372036854775807):∀ (rest:List Int) (i:Nat) (s:PS),l.drop i=rest→i≤l.length →
  s.t 2=.c (.int .i64 z)→s.t 13=.c (encIs l)→s.t 14=.c (.int .i64 l.length)→s.t 15=.c (.int .i64 i) →
  (rest.all (fun m=>decide (0≤m∧m < z))=true→∀ s',K (.x 0) s')→(rest.all (fun m=>decide (0≤m∧m < z))=false→∀ s',s'.t 6=.c (.bool false)→K .r s')→wP (CP) (.loop b159_0) s K:=by
 intro rest
 induction rest with
 | nil =>
  intro i s hd hi t2 t13 t14 t15 hx hr
  refine jf ?_
  have:=jm hd hi
  subst this
  rw [← ja t2,← ja t13,← ja t14,← ja t15]
  unfold b159_0
  repeat' (first | refine st0 ?_ | intro u)
  exact hx rfl _
 | cons m rest ih =>
  intro i s hd hi t2 t13 t14 t15 hx hr
  refine jf ?_
  have he:(l.map fun n=>[CV.int .i64 n])[i]? = some [.int .i64 m]:=jp hd
  have hil:=jo hd
  have hn:=jg hd
  have cb:=W6 m 0 (z - 1)
  unfold encIs at t13
  rw [← ja t2,← ja t13,← ja t14,← ja t15]
  unfold b159_0
  by_cases h1:0≤m∧m < z
  ·rw [decide_eq_true (show 0≤m∧m≤z - 1 by omega)] at cb
   repeat' (first | refine call3 rfl rfl rfl cb ?_ | refine st1 ?_ | intro u)
   refine ih (i + 1) _ hn (by omega) (by rfl) (by rfl) (by rfl) (by rfl) (fun h'=>hx ?_) (fun h'=>hr ?_)
   ·simp only [List.all_cons,h',Bool.and_true,decide_eq_true_eq]; omega
   ·simp only [List.all_cons,h',Bool.and_false]
  ·rw [decide_eq_false (show ¬ (0≤m∧m≤z - 1) by omega)] at cb
   repeat' (first | refine call3 rfl rfl rfl cb ?_ | refine st3 ?_ | intro u)
   exact hr (by simp only [List.all_cons,decide_eq_false h1,Bool.false_and]) _ (by rfl)
theorem jms (l:List Int) (n z:Int) (hl:l.length≤9223372036854775807) (hz:-9223372036854775807≤z∧z≤9223372036854775807) :
  CP 159 [.c (encIs l),.c (.int .i64 n),.c (.int .i64 z)] (.c (.bool (decide ((l.length:Int)=n) && l.all fun m=>decide (0≤m∧m < z)))) []:=by
 refine pcallF Tryz.func159 c159 rfl ?_
 unfold encIs
 unfold p159
 by_cases h1:(l.length:Int)=n
 ·rw [decide_eq_true h1,Bool.true_and]
  repeat' (first | refine je rfl (List.length_map _) ?_ | refine st1 ?_ | intro u)
  refine jf2 l z hl hz l 0 _ rfl (by omega) (by rfl) (by rfl) (by rfl) (by rfl) (fun h s'=>?_) (fun h s' h2=>?_)
  ·rw [h]
   repeat' (first | refine st0 ?_ | intro u)
   exact jd rfl rfl
  ·rw [h,← ja h2]
   repeat' (first | refine j8 ?_ | refine kl ?_)
   exact jd rfl rfl
 ·rw [decide_eq_false h1,Bool.false_and]
  repeat' (first | refine je rfl (List.length_map _) ?_ | refine st3 ?_ | intro u)
  exact jd rfl rfl
theorem jng {K:KT} (d:DimS) (hlen:d.sizes.length≤4) (v:Nat):∀ (rest:List Int) (i:Nat) (s:PS),d.sizes.drop i=rest→i≤d.sizes.length →
  s.t 1=.ptr 1 v 0→s.bx 1=⟨v,.var [encIs d.sizes,.sl (d.up.map fun l=>[encIs l])]⟩→s.t 22=.c (encIs d.sizes)→s.t 23=.c (.int .i64 d.sizes.length)→s.t 24=.c (.int .i64 i) →
  (rest.all (fun n=>decide (1≤n∧n≤40))=true→∀ s',s'.t 1=.ptr 1 v 0→s'.bx 1=⟨v,.var [encIs d.sizes,.sl (d.up.map fun l=>[encIs l])]⟩→K (.x 0) s') →
  (rest.all (fun n=>decide (1≤n∧n≤40))=false→∀ s',s'.t 2=.c (.bool false)→K .r s')→wP (CP) (.loop b138_0) s K:=by
 intro rest
 induction rest with
 | nil =>
  intro i s hd hi t1 b1 t22 t23 t24 hx hr
  refine jf ?_
  have:=jm hd hi
  subst this
  rw [← ja t1,← jc b1,← ja t22,← ja t23,← ja t24]
  unfold b138_0
  repeat' (first | refine st0 ?_ | intro u)
  exact hx rfl _ (by rfl) (by rfl)
 | cons n rest ih =>
  intro i s hd hi t1 b1 t22 t23 t24 hx hr
  refine jf ?_
  have he:(d.sizes.map fun n=>[CV.int .i64 n])[i]? = some [.int .i64 n]:=jp hd
  have hil:=jo hd
  have hn:=jg hd
  have cb:=W6 n 1 40
  rw [← ja t1,← jc b1,← ja t22,← ja t23,← ja t24]
  unfold encIs
  unfold b138_0
  by_cases h1:1≤n∧n≤40
  ·rw [decide_eq_true h1] at cb
   repeat' (first | refine call3 rfl rfl rfl cb ?_ | refine st1 ?_ | intro u)
   refine ih (i + 1) _ hn (by omega) (by rfl) (by rfl) (by rfl) (by rfl) (by rfl) (fun h'=>hx ?_) (fun h'=>hr ?_)
   ·simp only [List.all_cons,h',Bool.and_true,decide_eq_true_eq]; omega
   ·simp only [List.all_cons,h',Bool.and_false]
  ·rw [decide_eq_false h1] at cb
   repeat' (first | refine call3 rfl rfl rfl cb ?_ | refine st3 ?_ | intro u)
   exact hr (by simp only [List.all_cons,decide_eq_false h1,Bool.false_and]) _ (by rfl)
theorem jnh {K:KT} (d:DimS) (hok:okDim d) (hin:∀ l∈d.up,l.length≤9223372036854775807) (hlen:d.sizes.length≤4) (hul:d.up.length + 1=d.sizes.length) (hs:d.sizes.all (fun n=>decide (1≤n∧n≤40))=true) (v:Nat):∀ (rest:List (List Int)) (k:Nat) (s:PS),d.up.drop k=rest→k≤d.up.length →
  s.t 1=.ptr 1 v 0→s.bx 1=⟨v,.var [encIs d.sizes,.sl (d.up.map fun l=>[encIs l])]⟩→s.t 34=.c (.int .i64 d.up.length)→s.t 35=.c (.int .i64 k) →
  (upOk (d.sizes.drop k) rest=true→∀ s',K (.x 2) s') →
  (upOk (d.sizes.drop k) rest=false→∀ s',s'.t 2=.c (.bool false)→K .r s')→wP (CP) (.loop b138_1) s K:=by
 intro rest
 induction rest with
 | nil =>
  intro k s hd hi t1 b1 t34 t35 hx hr
  refine jf ?_
  have:=jm hd hi
  subst this
  rw [← ja t1,← jc b1,← ja t34,← ja t35]
  unfold b138_1
  repeat' (first | refine st0 ?_ | intro u)
  refine hx ?_ _
  have:d.sizes.drop d.up.length=[d.sizes[d.up.length]]:=by
   rw [List.drop_eq_getElem_cons (by omega),List.drop_of_length_le (by omega)]
  rw [this]; rfl
 | cons l rest ih =>
  intro k s hd hi t1 b1 t34 t35 hx hr
  refine jf ?_
  have he:(d.up.map fun l=>[encIs l])[k]? = some [encIs l]:=jp hd
  have hil:=jo hd
  have hn:=jg hd
  have hll:=hin l (List.mem_of_mem_drop (by rw [hd]; simp))
  have e0:d.sizes.drop k=d.sizes[k]::d.sizes[k + 1]::d.sizes.drop (k + 2):=by
   rw [List.drop_eq_getElem_cons (by omega),List.drop_eq_getElem_cons (by omega)]
  have hz:(d.sizes.map fun n=>[CV.int .i64 n])[k]? = some [.int .i64 d.sizes[k]]:=jp e0
  have hz1:(d.sizes.map fun n=>[CV.int .i64 n])[((k:Int) + 1).toNat]? = some [.int .i64 d.sizes[k + 1]]:=by
   have:((k:Int) + 1).toNat=k + 1:=by omega
   rw [this]; exact jp (jg e0)
  have e1:d.sizes.drop (k + 1)=d.sizes[k + 1]::d.sizes.drop (k + 2):=jg e0
  have hb:1≤d.sizes[k + 1]∧d.sizes[k + 1]≤40:=by
   have:=List.all_eq_true.mp hs _ (List.getElem_mem (show k + 1 < d.sizes.length by omega))
   simpa using this
  have cu:=jms l d.sizes[k] d.sizes[k + 1] hll (by omega)
  rw [e0] at hx hr
  simp only [upOk] at hx hr
  generalize d.sizes[k]=y at *
  generalize d.sizes[k + 1]=z at *
  rw [← ja t1,← jc b1,← ja t34,← ja t35]
  unfold encIs at he cu ⊢
  unfold b138_1
  cases hc:(decide ((l.length:Int)=y) && l.all fun m=>decide (0≤m∧m < z)) with
  | true =>
   rw [hc] at cu hx hr
   repeat' (first | refine call3 rfl rfl rfl cu ?_ | refine st1 ?_ | intro u)
   refine ih (k + 1) _ hn (by omega) (by rfl) (by rfl) (by rfl) (by rfl) (fun h'=>hx ?_) (fun h'=>hr ?_)
   ·rw [e1] at h'; simp only [h',Bool.and_self]
   ·rw [e1] at h'; simp only [h',Bool.and_false]
  | false =>
   rw [hc] at cu hx hr
   repeat' (first | refine call3 rfl rfl rfl cu ?_ | refine st3 ?_ | intro u)
   exact hr (by simp only [Bool.false_and]) _ (by rfl)
def okUp (d:DimS):Prop:=∀ l∈d.up,l.length≤9223372036854775807
theorem jcc (d:DimS) (h:okDim d) (hin:okUp d):CP 138 [.c (.agg (encDim d))] (.c (.bool (goodDim d))) []:=by
 obtain ⟨h0,h1⟩:=h
 refine pcallF Tryz.func138 c138 rfl ?_
 have cb:=W6 d.sizes.length 1 4
 unfold encDim goodDim
 unfold p138
 by_cases a:1≤d.sizes.length∧d.sizes.length≤4
 ·rw [decide_eq_true (show (1:Int)≤d.sizes.length∧(d.sizes.length:Int)≤4 by omega)] at cb
  rw [decide_eq_true a,Bool.true_and]
  by_cases b:d.up.length + 1=d.sizes.length
  ·rw [decide_eq_true b,Bool.true_and]
   unfold encIs
   repeat' (first | refine je rfl (List.length_map _) ?_ | refine call3 rfl rfl rfl cb ?_ | refine st2 ?_ | intro u)
   refine jng d a.2 _ d.sizes 0 _ rfl (by omega) (by rfl) (by rfl) (by rfl) (by rfl) (by rfl) (fun h s' t1 b1=>?_) (fun h s' h2=>?_)
   ·rw [h,Bool.true_and,← ja t1,← jc b1]
    unfold encIs
    repeat' (first | refine je rfl (List.length_map _) ?_ | refine st0 ?_ | intro u)
    refine jnh d ⟨h0,h1⟩ hin a.2 b h _ d.up 0 _ rfl (by omega) (by rfl) (by rfl) (by rfl) (by rfl) (fun h s'=>?_) (fun h s' h2=>?_)
    ·rw [List.drop_zero] at h
     rw [h]
     repeat' (first | refine st0 ?_ | intro u)
     exact jd rfl rfl
    ·rw [List.drop_zero] at h
     rw [h,← ja h2]
     repeat' (first | refine j8 ?_ | refine kl ?_)
     exact jd rfl rfl
   ·rw [h,Bool.false_and,← ja h2]
    repeat' (first | refine j8 ?_ | refine kl ?_)
    exact jd rfl rfl
  ·rw [decide_eq_false b,Bool.false_and]
   unfold encIs
   repeat' (first | refine je rfl (List.length_map _) ?_ | refine call3 rfl rfl rfl cb ?_ | refine st3 ?_ | intro u)
   exact jd rfl rfl
 ·rw [decide_eq_false (show ¬ ((1:Int)≤d.sizes.length∧(d.sizes.length:Int)≤4) by omega)] at cb
  rw [decide_eq_false a,Bool.false_and]
  unfold encIs
  repeat' (first | refine je rfl (List.length_map _) ?_ | refine call3 rfl rfl rfl cb ?_ | refine st2 ?_ | intro u)
  exact jd rfl rfl
theorem Ws (d:DimS) (k:Int) (h:okDim d) (hin:okUp d):CP 100 [.c (.agg (encDim d)),.c (.int .i64 k)] (.c (.int .i64 (sizeD d k))) []:=by
 have c1:=jcc d h hin
 have cb:=W6 k 0 d.sizes.length
 have h0:=h.1
 refine pcallF Tryz.func100 c100 rfl ?_
 unfold sizeD
 unfold encDim encIs at c1 ⊢
 unfold p100
 cases hg:goodDim d with
 | false =>
  rw [hg] at c1
  rw [if_neg (by simp)]
  repeat' (first | refine call1 rfl c1 ?_ | refine st2 ?_ | intro u)
  exact jd rfl rfl
 | true =>
  rw [hg] at c1
  by_cases a:0≤k∧k≤d.sizes.length
  ·rw [decide_eq_true a] at cb
   rw [if_pos ⟨rfl,a.1,a.2⟩]
   by_cases e:k=d.sizes.length
   ·rw [if_pos e]
    repeat' (first | refine call1 rfl c1 ?_ | refine call3 rfl rfl rfl cb ?_ | refine je rfl (List.length_map _) ?_ | refine st2 ?_ | intro u)
    exact jd rfl rfl
   ·rw [if_neg e]
    have hlt:k.toNat < d.sizes.length:=by omega
    have he:(d.sizes.map fun n=>[CV.int .i64 n])[k.toNat]? = some [.int .i64 (d.sizes.getD k.toNat 0)]:=by
     simp [List.getD,hlt]
    repeat' (first | refine call1 rfl c1 ?_ | refine call3 rfl rfl rfl cb ?_ | refine je rfl (List.length_map _) ?_ | refine st7 ?_ | intro u)
    exact jd rfl rfl
  ·rw [decide_eq_false a] at cb
   rw [if_neg (by omega)]
   repeat' (first | refine call1 rfl c1 ?_ | refine call3 rfl rfl rfl cb ?_ | refine je rfl (List.length_map _) ?_ | refine st2 ?_ | intro u)
   exact jd rfl rfl
def okCat2 (c:CatS):Prop:=okCat c∧∀ d∈c.dims,okUp d
theorem jio {K:KT} (c:CatS) (hlen:c.dims.length≤4) (hin:∀ d∈c.dims,okDim d∧okUp d):∀ (rest:List DimS) (i:Nat) (s:PS),c.dims.drop i=rest→i≤c.dims.length →
  s.t 17=.c (.sl (c.dims.map encDim))→s.t 18=.c (.int .i64 c.dims.length)→s.t 19=.c (.int .i64 i) →
  (rest.all goodDim=true→∀ s',K (.x 0) s')→(rest.all goodDim=false→∀ s',s'.t 2=.c (.bool false)→K .r s')→wP (CP) (.loop b99_0) s K:=by
 intro rest
 induction rest with
 | nil =>
  intro i s hd hi t17 t18 t19 hx hr
  refine jf ?_
  have:=jm hd hi
  subst this
  rw [← ja t17,← ja t18,← ja t19]
  unfold b99_0
  repeat' (first | refine st0 ?_ | intro u)
  exact hx rfl _
 | cons d rest ih =>
  intro i s hd hi t17 t18 t19 hx hr
  refine jf ?_
  have he:(c.dims.map encDim)[i]? = some (encDim d):=jp hd
  have hil:=jo hd
  have hn:=jg hd
  have hdm:=hin d (List.mem_of_mem_drop (by rw [hd]; simp))
  have c1:=jcc d hdm.1 hdm.2
  rw [← ja t17,← ja t18,← ja t19]
  unfold encDim at he c1
  unfold b99_0
  cases h:goodDim d with
  | true =>
   rw [h] at c1
   repeat' (first | refine call1 rfl c1 ?_ | refine st6 ?_ | intro u)
   refine ih (i + 1) _ hn (by omega) (by rfl) (by rfl) (by rfl) (fun h'=>hx ?_) (fun h'=>hr ?_)
   ·simp [h]; simpa using h'
   ·simp [h]; simpa using h'
  | false =>
   rw [h] at c1
   repeat' (first | refine call1 rfl c1 ?_ | refine st3 ?_ | intro u)
   exact hr (by simp [h]) _ (by rfl)
theorem jip (c:CatS) (h:okCat2 c):CP 99 [.c (.agg (encCat c))] (.c (.bool (goodCat c))) []:=by
 have h0:=h.1.1
 refine pcallF Tryz.func99 c99 rfl ?_
 have cb:=jf1 c.dims.length 1 4
 have cm:=jf1 c.m 1 2
 unfold encCat goodCat
 unfold p99
 by_cases a:1≤c.dims.length∧c.dims.length≤4
 ·rw [decide_eq_true (show (1:Int)≤c.dims.length∧(c.dims.length:Int)≤4 by omega)] at cb
  by_cases b:1≤c.m∧c.m≤2
  ·rw [decide_eq_true b] at cm
   rw [decide_eq_true ⟨a,b.1,b.2⟩,Bool.true_and]
   repeat' (first | refine je rfl (List.length_map _) ?_ | refine call3 rfl rfl rfl cb ?_ | refine call3 rfl rfl rfl cm ?_ | refine st2 ?_ | intro u)
   refine jio c a.2 (fun d hd=>⟨h.1.2 d hd,h.2 d hd⟩) c.dims 0 _ rfl (by omega) (by rfl) (by rfl) (by rfl) (fun h s'=>?_) (fun h s' h2=>?_)
   ·rw [h]
    repeat' (first | refine st0 ?_ | intro u)
    exact jd rfl rfl
   ·rw [h,← ja h2]
    repeat' (first | refine j8 ?_ | refine kl ?_)
    exact jd rfl rfl
  ·rw [decide_eq_false b] at cm
   rw [decide_eq_false (by omega),Bool.false_and]
   repeat' (first | refine je rfl (List.length_map _) ?_ | refine call3 rfl rfl rfl cb ?_ | refine call3 rfl rfl rfl cm ?_ | refine st2 ?_ | intro u)
   exact jd rfl rfl
 ·rw [decide_eq_false (show ¬ ((1:Int)≤c.dims.length∧(c.dims.length:Int)≤4) by omega)] at cb
  rw [decide_eq_false (by omega),Bool.false_and]
  repeat' (first | refine je rfl (List.length_map _) ?_ | refine call3 rfl rfl rfl cb ?_ | refine st2 ?_ | intro u)
  exact jd rfl rfl
end Go.Proofs.YtnpncbplhdnonaaGreat
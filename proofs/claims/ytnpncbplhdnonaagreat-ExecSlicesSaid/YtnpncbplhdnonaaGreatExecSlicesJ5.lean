/- Part of the proof of ExecSlices: lemmas. -/
import Derived.Test.YtnpncbplhdnonaaGreatExecSlicesJ4
set_option linter.unusedVariables false
set_option linter.unusedSimpArgs false
namespace Go.Proofs.YtnpncbplhdnonaaGreat
open Go.Pl Go.Bag
set_option maxRecDepth 100000
set_option maxHeartbeats 16000000
theorem jl7 {K:KT} (c:CatS) (h:okCat2 c) (v:Go.Bag.Place) (hv:u8P v) (rows:List RowS) (hr:∀ r∈rows,u8P r.p) (hlen:rows.length≤10000) (ps:List Go.Bag.Place) (a:Go.Bag.Place) (k:Nat) (hk:(ps.map encP)[((k:Nat):Int).toNat]? = some (encP a)) (x6:List CV) (v3 v5 v6 v7 eg wg ng:Nat) (heg:eg=63∨eg=75) (E:List (List CV)):∀ (rest:List RowS) (out:List RowS) (i:Nat) (s:PS) (e w:Nat),rows.drop i=rest→i≤rows.length→out.length≤i→(e=10∨e=61) →
  s.t 1=.c (encRows rows)→s.t 3=.ptr 3 v3 0→s.bx 3=⟨v3,.var (encCat c)⟩→s.t 5=.ptr 5 v5 0→s.bx 5=⟨v5,.var (encP v)⟩→s.t 6=.ptr 6 v6 0→s.bx 6=⟨v6,.var x6⟩→s.t 7=.ptr 7 v7 0→s.bx 7=⟨v7,.vp [.osl eg wg 0 ng,.c (.bool true)]⟩→s.bx eg=⟨wg,.sl 9 E⟩→s.t 8=.c (encPl ps)→s.t 9=.c (.int .i64 k)→s.t 10=.osl e w 0 (out.map encRow).length→s.bx e=⟨w,.sl 6 (out.map encRow)⟩→s.t 11=.c (.int .i64 i) →
  (∀ s' e' w',(e'=10∨e'=61)→s'.t 1=.c (encRows rows)→s'.t 3=.ptr 3 v3 0→s'.bx 3=⟨v3,.var (encCat c)⟩→s'.t 5=.ptr 5 v5 0→s'.bx 5=⟨v5,.var (encP v)⟩→s'.t 6=.ptr 6 v6 0→s'.bx 6=⟨v6,.var x6⟩→s'.t 7=.ptr 7 v7 0→s'.bx 7=⟨v7,.vp [.osl eg wg 0 ng,.c (.bool true)]⟩→s'.bx eg=⟨wg,.sl 9 E⟩→s'.t 8=.c (encPl ps)→s'.t 9=.c (.int .i64 k)→s'.t 10=.osl e' w' 0 ((out++atP c v a rest).map encRow).length→s'.bx e'=⟨w',.sl 6 ((out++atP c v a rest).map encRow)⟩→K (.x 2) s')→wP (CP) (.loop b34_1) s K:=by
 intro rest
 induction rest with
 | nil =>
  intro out i s e w hd hi hol he t1 t3 b3 t5 b5 t6 b6 t7 b7 bg t8 t9 t10 b10 t11 hK
  refine jf ?_
  have:=jm hd hi
  subst this
  have e0:out++atP c v a []=out:=by simp [atP]
  rw [e0] at hK
  rw [← ja t1,← ja t3,← jc b3,← ja t5,← jc b5,← ja t6,← jc b6,← ja t7,← jc b7,← jc bg,← ja t8,← ja t9,← ja t10,← jc b10,← ja t11]
  generalize out.map encRow=B at *
  unfold encRows at *
  unfold b34_1
  rcases he with rfl | rfl <;> rcases heg with rfl | rfl
  ·repeat' (first | refine je rfl (List.length_map _) ?_ | refine st0 ?_ | intro u)
   exact hK _ 10 _ (.inl rfl) (by rfl) (by rfl) (by rfl) (by rfl) (by rfl) (by rfl) (by rfl) (by rfl) (by rfl) (by rfl) (by rfl) (by rfl) (by rfl) (by rfl)
  ·repeat' (first | refine je rfl (List.length_map _) ?_ | refine st0 ?_ | intro u)
   exact hK _ 10 _ (.inl rfl) (by rfl) (by rfl) (by rfl) (by rfl) (by rfl) (by rfl) (by rfl) (by rfl) (by rfl) (by rfl) (by rfl) (by rfl) (by rfl) (by rfl)
  ·repeat' (first | refine je rfl (List.length_map _) ?_ | refine st0 ?_ | intro u)
   exact hK _ 61 _ (.inr rfl) (by rfl) (by rfl) (by rfl) (by rfl) (by rfl) (by rfl) (by rfl) (by rfl) (by rfl) (by rfl) (by rfl) (by rfl) (by rfl) (by rfl)
  ·repeat' (first | refine je rfl (List.length_map _) ?_ | refine st0 ?_ | intro u)
   exact hK _ 61 _ (.inr rfl) (by rfl) (by rfl) (by rfl) (by rfl) (by rfl) (by rfl) (by rfl) (by rfl) (by rfl) (by rfl) (by rfl) (by rfl) (by rfl) (by rfl)
 | cons r rest ih =>
  intro out i s e w hd hi hol he t1 t3 b3 t5 b5 t6 b6 t7 b7 bg t8 t9 t10 b10 t11 hK
  refine jf ?_
  have hget:(rows.map encRow)[((i:Nat):Int).toNat]? = some (encRow r):=jp hd
  have hil:=jo hd
  have hn:=jg hd
  have hrp:=hr r (List.mem_of_mem_drop (by rw [hd]; simp))
  have c1:=jf9 c zeroP v r.p h jv hv hrp
  have hq:=w9 (toP c zeroP v r.p).1 a
  have hz:out.map encRow++[encRow r]=(out++[r]).map encRow:=by simp
  have hgrow:(out.map encRow).length + [encRow r].length≤maxGrow:=by simp [maxGrow]; omega
  have hrl:(rows.map encRow).length=rows.length:=List.length_map _
  have hat:atP c v a (r::rest)=if (toP c zeroP v r.p).1=a then r::atP c v a rest else atP c v a rest:=by
   unfold atP
   rw [List.filter_cons]
   by_cases hh:(toP c zeroP v r.p).1=a
   ·rw [if_pos hh,decide_eq_true hh,if_pos rfl]
   ·rw [if_neg hh,decide_eq_false hh,if_neg (by simp)]
  rw [hat] at hK
  by_cases hra:(toP c zeroP v r.p).1=a
  ·rw [if_pos hra] at hK
   rw [decide_eq_true hra] at hq
   have e1:out++r::atP c v a rest=out++[r]++atP c v a rest:=by simp
   rw [e1] at hK
   have ih':=fun s e w=>ih (out++[r]) (i + 1) s e w hn (by omega) (by simp; omega)
   clear ih hat hra
   generalize (toP c zeroP v r.p).1=b at *
   generalize (toP c zeroP v r.p).2=bb at *
   rw [← ja t1,← ja t3,← jc b3,← ja t5,← jc b5,← ja t6,← jc b6,← ja t7,← jc b7,← jc bg,← ja t8,← ja t9,← ja t10,← jc b10,← ja t11]
   generalize (out++[r]).map encRow=A at *
   generalize out.map encRow=B at *
   unfold encRows encPl at *
   generalize rows.map encRow=rm at *
   unfold encRow at hget hz hgrow
   unfold encCat encP zeroP at *
   dsimp only [List.cons_append,List.nil_append] at *
   unfold b34_1
   rcases he with rfl | rfl <;> rcases heg with rfl | rfl
   ·repeat' (first | refine je rfl hrl ?_ | refine ji rfl rfl (by omega) hget rfl ?_ | refine ji rfl rfl (by omega) hk rfl ?_ | refine call4 rfl rfl rfl rfl c1 ?_ | refine jG rfl rfl hq ?_ | refine jr rfl rfl rfl rfl hgrow (by intro e he; cases List.mem_singleton.mp he; rfl) hz rfl (fun _ _=>?_) | refine st6 ?_ | intro u)
    exact ih' _ 61 _ (.inr rfl) (by rfl) (by rfl) (by rfl) (by rfl) (by rfl) (by rfl) (by rfl) (by rfl) (by rfl) (by rfl) (by rfl) (by rfl) (by rfl) (by rfl) (by rfl) hK
   ·repeat' (first | refine je rfl hrl ?_ | refine ji rfl rfl (by omega) hget rfl ?_ | refine ji rfl rfl (by omega) hk rfl ?_ | refine call4 rfl rfl rfl rfl c1 ?_ | refine jG rfl rfl hq ?_ | refine jr rfl rfl rfl rfl hgrow (by intro e he; cases List.mem_singleton.mp he; rfl) hz rfl (fun _ _=>?_) | refine st6 ?_ | intro u)
    exact ih' _ 61 _ (.inr rfl) (by rfl) (by rfl) (by rfl) (by rfl) (by rfl) (by rfl) (by rfl) (by rfl) (by rfl) (by rfl) (by rfl) (by rfl) (by rfl) (by rfl) (by rfl) hK
   ·repeat' (first | refine je rfl hrl ?_ | refine ji rfl rfl (by omega) hget rfl ?_ | refine ji rfl rfl (by omega) hk rfl ?_ | refine call4 rfl rfl rfl rfl c1 ?_ | refine jG rfl rfl hq ?_ | refine jr rfl rfl rfl rfl hgrow (by intro e he; cases List.mem_singleton.mp he; rfl) hz rfl (fun _ _=>?_) | refine st6 ?_ | intro u)
    exact ih' _ 61 _ (.inr rfl) (by rfl) (by rfl) (by rfl) (by rfl) (by rfl) (by rfl) (by rfl) (by rfl) (by rfl) (by rfl) (by rfl) (by rfl) (by rfl) (by rfl) (by rfl) hK
   ·repeat' (first | refine je rfl hrl ?_ | refine ji rfl rfl (by omega) hget rfl ?_ | refine ji rfl rfl (by omega) hk rfl ?_ | refine call4 rfl rfl rfl rfl c1 ?_ | refine jG rfl rfl hq ?_ | refine jr rfl rfl rfl rfl hgrow (by intro e he; cases List.mem_singleton.mp he; rfl) hz rfl (fun _ _=>?_) | refine st6 ?_ | intro u)
    exact ih' _ 61 _ (.inr rfl) (by rfl) (by rfl) (by rfl) (by rfl) (by rfl) (by rfl) (by rfl) (by rfl) (by rfl) (by rfl) (by rfl) (by rfl) (by rfl) (by rfl) (by rfl) hK
  ·rw [if_neg hra] at hK
   rw [decide_eq_false hra] at hq
   have ih':=fun s e w=>ih out (i + 1) s e w hn (by omega) (by omega)
   clear ih hat hra
   generalize (toP c zeroP v r.p).1=b at *
   generalize (toP c zeroP v r.p).2=bb at *
   rw [← ja t1,← ja t3,← jc b3,← ja t5,← jc b5,← ja t6,← jc b6,← ja t7,← jc b7,← jc bg,← ja t8,← ja t9,← ja t10,← jc b10,← ja t11]
   generalize out.map encRow=B at *
   unfold encRows encPl at *
   generalize rows.map encRow=rm at *
   unfold encRow at hget
   unfold encCat encP zeroP at *
   dsimp only [List.cons_append,List.nil_append] at *
   unfold b34_1
   rcases he with rfl | rfl <;> rcases heg with rfl | rfl
   ·repeat' (first | refine je rfl hrl ?_ | refine ji rfl rfl (by omega) hget rfl ?_ | refine ji rfl rfl (by omega) hk rfl ?_ | refine call4 rfl rfl rfl rfl c1 ?_ | refine jG rfl rfl hq ?_ | refine st6 ?_ | intro u)
    exact ih' _ 10 _ (.inl rfl) (by rfl) (by rfl) (by rfl) (by rfl) (by rfl) (by rfl) (by rfl) (by rfl) (by rfl) (by rfl) (by rfl) (by rfl) (by rfl) (by rfl) (by rfl) hK
   ·repeat' (first | refine je rfl hrl ?_ | refine ji rfl rfl (by omega) hget rfl ?_ | refine ji rfl rfl (by omega) hk rfl ?_ | refine call4 rfl rfl rfl rfl c1 ?_ | refine jG rfl rfl hq ?_ | refine st6 ?_ | intro u)
    exact ih' _ 10 _ (.inl rfl) (by rfl) (by rfl) (by rfl) (by rfl) (by rfl) (by rfl) (by rfl) (by rfl) (by rfl) (by rfl) (by rfl) (by rfl) (by rfl) (by rfl) (by rfl) hK
   ·repeat' (first | refine je rfl hrl ?_ | refine ji rfl rfl (by omega) hget rfl ?_ | refine ji rfl rfl (by omega) hk rfl ?_ | refine call4 rfl rfl rfl rfl c1 ?_ | refine jG rfl rfl hq ?_ | refine st6 ?_ | intro u)
    exact ih' _ 61 _ (.inr rfl) (by rfl) (by rfl) (by rfl) (by rfl) (by rfl) (by rfl) (by rfl) (by rfl) (by rfl) (by rfl) (by rfl) (by rfl) (by rfl) (by rfl) (by rfl) hK
   ·repeat' (first | refine je rfl hrl ?_ | refine ji rfl rfl (by omega) hget rfl ?_ | refine ji rfl rfl (by omega) hk rfl ?_ | refine call4 rfl rfl rfl rfl c1 ?_ | refine jG rfl rfl hq ?_ | refine st6 ?_ | intro u)
    exact ih' _ 61 _ (.inr rfl) (by rfl) (by rfl) (by rfl) (by rfl) (by rfl) (by rfl) (by rfl) (by rfl) (by rfl) (by rfl) (by rfl) (by rfl) (by rfl) (by rfl) (by rfl) hK
theorem jjw {K:KT} (c:CatS) (h:okCat2 c) (v:Go.Bag.Place) (hv:u8P v) (rows:List RowS) (hr:∀ r∈rows,u8P r.p∧inR r) (hlen:rows.length≤1000) (ps:List Go.Bag.Place) (hpl:ps.length≤100000) (v3 v5 v6 v7:Nat) (x6:List CV):∀ (rest:List Go.Bag.Place) (out:List Pr) (i:Nat) (s:PS) (e w:Nat),ps.drop i=rest→i≤ps.length→out.length=i→(e=63∨e=75) →
  s.t 1=.c (encRows rows)→s.t 3=.ptr 3 v3 0→s.bx 3=⟨v3,.var (encCat c)⟩→s.t 5=.ptr 5 v5 0→s.bx 5=⟨v5,.var (encP v)⟩→s.t 6=.ptr 6 v6 0→s.bx 6=⟨v6,.var x6⟩→s.t 7=.ptr 7 v7 0→s.bx 7=⟨v7,.vp [.osl e w 0 (out.map encPr).length,.c (.bool true)]⟩→s.bx e=⟨w,.sl 9 (out.map encPr)⟩→s.t 8=.c (encPl ps)→s.t 9=.c (.int .i64 i) →
  (∀ s' e' w',(e'=63∨e'=75)→s'.t 6=.ptr 6 v6 0→s'.bx 6=⟨v6,.var x6⟩→s'.t 7=.ptr 7 v7 0→s'.bx 7=⟨v7,.vp [.osl e' w' 0 ((out++rest.map fun a=>(a,(ofC c.m (atP c v a rows)).1)).map encPr).length,.c (.bool true)]⟩→s'.bx e'=⟨w',.sl 9 ((out++rest.map fun a=>(a,(ofC c.m (atP c v a rows)).1)).map encPr)⟩→K (.x 0) s')→wP (CP) (.loop b34_0) s K:=by
 intro rest
 induction rest with
 | nil =>
  intro out i s e w hd hi hol he t1 t3 b3 t5 b5 t6 b6 t7 b7 bg t8 t9 hK
  refine jf ?_
  have:=jm hd hi
  subst this
  simp only [List.map_nil,List.append_nil] at hK
  rw [← ja t6,← jc b6,← ja t7,← jc b7,← jc bg,← ja t8,← ja t9]
  generalize out.map encPr=B at *
  unfold encPl at *
  unfold b34_0
  rcases he with rfl | rfl
  ·repeat' (first | refine je rfl (List.length_map _) ?_ | refine st0 ?_ | intro u)
   exact hK _ 63 _ (.inl rfl) (by rfl) (by rfl) (by rfl) (by rfl) (by rfl)
  ·repeat' (first | refine je rfl (List.length_map _) ?_ | refine st0 ?_ | intro u)
   exact hK _ 75 _ (.inr rfl) (by rfl) (by rfl) (by rfl) (by rfl) (by rfl)
 | cons a rest ih =>
  intro out i s e w hd hi hol he t1 t3 b3 t5 b5 t6 b6 t7 b7 bg t8 t9 hK
  refine jf ?_
  have hget:(ps.map encP)[((i:Nat):Int).toNat]? = some (encP a):=jp hd
  have hil:=jo hd
  have hn:=jg hd
  have hal:(atP c v a rows).length≤rows.length:=List.length_filter_le _ _
  have c1:=jlz c.m (atP c v a rows) (by omega) (fun r hr'=>(hr r (List.mem_filter.mp hr').1).2)
  have lp:=fun (K:Ex→PS→Prop) v7 e' w' n E he' s=>jl7 (K:=K) c h v hv rows (fun r hr'=>(hr r hr').1) (by omega) ps a i hget x6 v3 v5 v6 v7 e' w' n he' E rows [] 0 s 10
  rw [show []++atP c v a rows=atP c v a rows from rfl] at lp
  have e1:out++(a::rest).map (fun a=>(a,(ofC c.m (atP c v a rows)).1))=out++[(a,(ofC c.m (atP c v a rows)).1)]++rest.map fun a=>(a,(ofC c.m (atP c v a rows)).1):=by simp
  rw [e1] at hK
  have ih':=fun s e w=>ih (out++[(a,(ofC c.m (atP c v a rows)).1)]) (i + 1) s e w hn (by omega) (by simp [hol])
  clear ih e1
  have hz:out.map encPr++[encPr (a,(ofC c.m (atP c v a rows)).1)]=(out++[(a,(ofC c.m (atP c v a rows)).1)]).map encPr:=by simp
  have hgrow:(out.map encPr).length + [encPr (a,(ofC c.m (atP c v a rows)).1)].length≤maxGrow:=by simp [maxGrow]; omega
  unfold rcV at c1
  unfold encRows at c1
  generalize (ofC c.m (atP c v a rows)).1=x at *
  generalize (ofC c.m (atP c v a rows)).2=xb at *
  generalize (atP c v a rows).map encRow=R at *
  rw [← ja t1,← ja t3,← jc b3,← ja t5,← jc b5,← ja t6,← jc b6,← ja t7,← jc b7,← jc bg,← ja t8,← ja t9]
  generalize (out++[(a,x)]).map encPr=A at *
  generalize out.map encPr=B at *
  have hpm:(ps.map encP).length=ps.length:=List.length_map _
  unfold encPl at *
  generalize ps.map encP=pm at *
  unfold encPr encC encP at hz hgrow
  dsimp only [List.cons_append,List.nil_append] at hz hgrow
  unfold encP at hget
  unfold encCat at *
  unfold b34_0
  rcases he with rfl | rfl
  ·repeat' (first | refine je rfl hpm ?_ | refine st5 ?_ | intro u)
   refine lp _ _ _ _ _ _ (.inl rfl) _ _ rfl (by omega) (by simp) (.inl rfl) (by rfl) (by rfl) (by rfl) (by rfl) (by rfl) (by rfl) (by rfl) (by rfl) (by rfl) (by rfl) (by rfl) (by rfl) (by rfl) (by rfl) (by rfl) (fun s' e' w' he' u1 u3 c3 u5 c5 u6 c6 u7 c7 cg u8 u9 u10 c10=>?_)
   rw [← ja u1,← ja u3,← jc c3,← ja u5,← jc c5,← ja u6,← jc c6,← ja u7,← jc c7,← jc cg,← ja u8,← ja u9,← ja u10,← jc c10]
   rcases he' with rfl | rfl
   ·repeat' (first | refine jF rfl rfl rfl (fun _=>?_) | refine WM rfl rfl rfl (by decide) ?_ | refine YA rfl rfl rfl ?_ | refine Wo rfl (by decide) rfl (Nat.le_of_ble_eq_true rfl) rfl ?_ | refine ji rfl rfl (by omega) hget rfl ?_ | refine call2 rfl rfl c1 ?_ | refine jr rfl rfl rfl rfl hgrow (by intro e he; cases List.mem_singleton.mp he; rfl) hz rfl (fun _ _=>?_) | refine Jy rfl rfl (by decide) rfl (Nat.le_of_ble_eq_true rfl) rfl ?_ | refine st6 ?_ | intro u)
    exact ih' _ 75 _ (.inr rfl) (by rfl) (by rfl) (by rfl) (by rfl) (by rfl) (by rfl) (by rfl) (by rfl) (by rfl) (by rfl) (by rfl) (by rfl) hK
   ·repeat' (first | refine jF rfl rfl rfl (fun _=>?_) | refine WM rfl rfl rfl (by decide) ?_ | refine YA rfl rfl rfl ?_ | refine Wo rfl (by decide) rfl (Nat.le_of_ble_eq_true rfl) rfl ?_ | refine ji rfl rfl (by omega) hget rfl ?_ | refine call2 rfl rfl c1 ?_ | refine jr rfl rfl rfl rfl hgrow (by intro e he; cases List.mem_singleton.mp he; rfl) hz rfl (fun _ _=>?_) | refine Jy rfl rfl (by decide) rfl (Nat.le_of_ble_eq_true rfl) rfl ?_ | refine st6 ?_ | intro u)
    exact ih' _ 75 _ (.inr rfl) (by rfl) (by rfl) (by rfl) (by rfl) (by rfl) (by rfl) (by rfl) (by rfl) (by rfl) (by rfl) (by rfl) (by rfl) hK
  ·repeat' (first | refine je rfl hpm ?_ | refine st5 ?_ | intro u)
   refine lp _ _ _ _ _ _ (.inr rfl) _ _ rfl (by omega) (by simp) (.inl rfl) (by rfl) (by rfl) (by rfl) (by rfl) (by rfl) (by rfl) (by rfl) (by rfl) (by rfl) (by rfl) (by rfl) (by rfl) (by rfl) (by rfl) (by rfl) (fun s' e' w' he' u1 u3 c3 u5 c5 u6 c6 u7 c7 cg u8 u9 u10 c10=>?_)
   rw [← ja u1,← ja u3,← jc c3,← ja u5,← jc c5,← ja u6,← jc c6,← ja u7,← jc c7,← jc cg,← ja u8,← ja u9,← ja u10,← jc c10]
   rcases he' with rfl | rfl
   ·repeat' (first | refine jF rfl rfl rfl (fun _=>?_) | refine jkk rfl rfl rfl (by decide) (by decide) (by decide) rfl rfl (fun _ _=>?_) | refine YA rfl rfl rfl ?_ | refine Wo rfl (by decide) rfl (Nat.le_of_ble_eq_true rfl) rfl ?_ | refine ji rfl rfl (by omega) hget rfl ?_ | refine call2 rfl rfl c1 ?_ | refine jr rfl rfl rfl rfl hgrow (by intro e he; cases List.mem_singleton.mp he; rfl) hz rfl (fun _ _=>?_) | refine Jy rfl rfl (by decide) rfl (Nat.le_of_ble_eq_true rfl) rfl ?_ | refine st6 ?_ | intro u)
    exact ih' _ 75 _ (.inr rfl) (by rfl) (by rfl) (by rfl) (by rfl) (by rfl) (by rfl) (by rfl) (by rfl) (by rfl) (by rfl) (by rfl) (by rfl) hK
   ·repeat' (first | refine jF rfl rfl rfl (fun _=>?_) | refine jkk rfl rfl rfl (by decide) (by decide) (by decide) rfl rfl (fun _ _=>?_) | refine YA rfl rfl rfl ?_ | refine Wo rfl (by decide) rfl (Nat.le_of_ble_eq_true rfl) rfl ?_ | refine ji rfl rfl (by omega) hget rfl ?_ | refine call2 rfl rfl c1 ?_ | refine jr rfl rfl rfl rfl hgrow (by intro e he; cases List.mem_singleton.mp he; rfl) hz rfl (fun _ _=>?_) | refine Jy rfl rfl (by decide) rfl (Nat.le_of_ble_eq_true rfl) rfl ?_ | refine st6 ?_ | intro u)
    exact ih' _ 75 _ (.inr rfl) (by rfl) (by rfl) (by rfl) (by rfl) (by rfl) (by rfl) (by rfl) (by rfl) (by rfl) (by rfl) (by rfl) (by rfl) hK
def groupS (c:CatS) (v:Go.Bag.Place) (rows:List RowS):Option (List Pr):=if rightC c v zeroP=true∧rowsOk c rows=true then some (groupL c v rows) else none
theorem jg0 (ps:List Go.Bag.Place) (a:Go.Bag.Place):(insP ps a).length≤ps.length + 1:=by
 have hs:ps.takeWhile (ltP a)++ps.dropWhile (ltP a)=ps:=List.takeWhile_append_dropWhile
 have hl:=congrArg List.length hs
 simp only [List.length_append] at hl
 unfold insP
 split
 ·simp; omega
 ·rename_i b D hd
  rw [hd] at hl
  simp only [List.length_cons] at hl
  split
  ·omega
  ·simp only [List.length_append,List.length_cons]; omega
theorem Ya (f:RowS→Go.Bag.Place):∀ (rows:List RowS) (ps:List Go.Bag.Place),(rows.foldl (fun ps r=>insP ps (f r)) ps).length≤ps.length + rows.length
 | [],ps=>by simp
 | r::rows,ps=>by
  have:=Ya f rows (insP ps (f r))
  have:=jg0 ps (f r)
  simp only [List.foldl_cons,List.length_cons]
  omega
theorem Wg (c:CatS) (v:Go.Bag.Place) (rows:List RowS):(placesS c v rows).length≤rows.length:=by
 have:=Ya (fun r=>(toP c zeroP v r.p).1) rows []
 simpa [placesS] using this
theorem jcw (c:CatS) (v:Go.Bag.Place) (rows:List RowS) (h:okCat2 c) (hv:u8P v) (hr:∀ r∈rows,u8P r.p∧inR r) (hlen:rows.length≤1000) :
  CP 34 [.c (.agg (encCat c)),.c (encRows rows),.c (.agg (encP v))] (.c (.agg (encUp (groupS c v rows)))) []:=by
 have c1:=vy c v h.1 hv
 have c2:=jcs c h.1 rows (by omega) (fun r hr'=>(hr r hr').1) (fun r hr'=>(hr r hr').2)
 have c3:=jgz c v rows h hv (fun r hr'=>(hr r hr').1) (by omega)
 refine pcallF Tryz.func34 c34 rfl ?_
 unfold groupS
 by_cases g:rightC c v zeroP=true∧rowsOk c rows=true
 ·rw [if_pos g]
  rw [g.1] at c1
  rw [g.2] at c2
  have lp:=fun (K:Ex→PS→Prop) v3 v5 v6 v7 x6 s=>jjw (K:=K) c h v hv rows hr hlen (placesS c v rows) (by have:=Wg c v rows; omega) v3 v5 v6 v7 x6 (placesS c v rows) [] 0 s 63
  have e0:[]++(placesS c v rows).map (fun a=>(a,(ofC c.m (atP c v a rows)).1))=groupL c v rows:=rfl
  rw [e0] at lp
  unfold encUp encPrs
  dsimp only
  generalize (groupL c v rows).map encPr=G at *
  generalize placesS c v rows=P at *
  generalize encRows rows=er at *
  generalize encPl P=ep at *
  unfold encCat encP at *
  unfold p34
  repeat' (first | refine call2 rfl rfl c1 ?_ | refine call2 rfl rfl c2 ?_ | refine jm9 (ps:=[.c .nils,.c (.bool true)]) rfl rfl (by decide) rfl (fun _=>rfl) (fun _=>?_) | refine call3 rfl rfl rfl c3 ?_ | refine st6 ?_ | intro u)
  refine lp _ _ _ _ _ _ _ _ rfl (by omega) rfl (.inl rfl) (by rfl) (by rfl) (by rfl) (by rfl) (by rfl) (by rfl) (by rfl) (by rfl) (by rfl) (by rfl) (by rfl) (by rfl) (fun s' e' w' he u6 c6 u7 c7 cg=>?_)
  rw [← ja u6,← jc c6,← ja u7,← jc c7,← jc cg]
  rcases he with rfl | rfl
  ·repeat' (first | refine jki rfl rfl rfl (by decide) rfl rfl rfl (fun _=>?_) | refine jkj rfl rfl rfl ?_ | refine st0 ?_ | intro u)
   exact jd (jh rfl rfl rfl rfl jk) rfl
  ·repeat' (first | refine jki rfl rfl rfl (by decide) rfl rfl rfl (fun _=>?_) | refine jkj rfl rfl rfl ?_ | refine st0 ?_ | intro u)
   exact jd (jh rfl rfl rfl rfl jk) rfl
 ·rw [if_neg g]
  generalize hg1:rightC c v zeroP=g1 at *
  generalize hg2:rowsOk c rows=g2 at *
  unfold encUp
  generalize encRows rows=er at *
  unfold encCat encP at *
  unfold p34
  cases g1 with
  | false =>
   repeat' (first | refine call2 rfl rfl c1 ?_ | refine st8 ?_ | intro u)
   exact jd (jh rfl rfl rfl rfl jk) rfl
  | true =>
   cases g2 with
   | false =>
    repeat' (first | refine call2 rfl rfl c1 ?_ | refine call2 rfl rfl c2 ?_ | refine st7 ?_ | intro u)
    exact jd (jh rfl rfl rfl rfl jk) rfl
   | true=>exact absurd ⟨rfl,rfl⟩ g
set_option maxRecDepth 100000
set_option maxHeartbeats 4000000
/-! What plain data read as, piece by piece. -/
theorem jmy {sh:List LF} {c:CV} (h:LF.Ok (.sl sh) c):∃ es,c=.sl es∧es.length≤9223372036854775807∧∀ e∈es,OkL sh e:=by
 cases h with
 | sl _ es hn hl hh=>exact ⟨es,rfl,hn,fun e he=>⟨hl e he,fun i h1 h2=>hh e he i h1 h2⟩⟩
theorem jcx {α:Type} {f:α→List CV} {P:α→Prop}:∀ {es:List (List CV)},(∀ e∈es,∃ a,e=f a∧P a)→∃ l:List α,es=l.map f∧∀ a∈l,P a
 | [],_=>⟨[],rfl,by simp⟩
 | e::es,h=>by
  obtain ⟨a,rfl,ha⟩:=h e (by simp)
  obtain ⟨l,rfl,hl⟩:=jcx (es:=es) fun e he=>h e (by simp [he])
  exact ⟨a::l,rfl,fun x hx=>by
   rcases List.mem_cons.mp hx with rfl | hx
   ·exact ha
   ·exact hl x hx⟩
theorem vB {α:Type} {f:α→List CV} {P:α→Prop} {sh:List LF} {c:CV} (h:LF.Ok (.sl sh) c) (hf:∀ e,OkL sh e→∃ a,e=f a∧P a):∃ l:List α,c=.sl (l.map f)∧(∀ a∈l,P a)∧l.length≤9223372036854775807:=by
 obtain ⟨es,rfl,hn,he⟩:=jmy h
 obtain ⟨l,rfl,hl⟩:=jcx fun e h=>hf e (he e h)
 exact ⟨l,rfl,hl,by simpa using hn⟩
theorem vc {sh:List LF} {cs:List CV} (h:OkL (.int .u8::.int .u8::.int .u8::.int .u8::sh) cs):∃ (p:Go.Bag.Place) (cs':List CV),cs=encP p++cs'∧u8P p∧OkL sh cs':=by
 obtain ⟨c0,k0,rfl,h0,g1⟩:=okL_cons h
 obtain ⟨c1,k1,rfl,h1,g2⟩:=okL_cons g1
 obtain ⟨c2,k2,rfl,h2,g3⟩:=okL_cons g2
 obtain ⟨c3,k3,rfl,h3,g4⟩:=okL_cons g3
 obtain ⟨a0,rfl,q0⟩:=X3 h0
 obtain ⟨a1,rfl,q1⟩:=X3 h1
 obtain ⟨a2,rfl,q2⟩:=X3 h2
 obtain ⟨a3,rfl,q3⟩:=X3 h3
 refine ⟨⟨a0,a1,a2,a3⟩,k3,rfl,fun x hx=>?_,g4⟩
 simp only [placeL,List.mem_cons,List.not_mem_nil,or_false] at hx
 rcases hx with rfl | rfl | rfl | rfl <;> assumption
def rowIn (r:RowS):Prop:=u8P r.p∧inR r
theorem jjx {cs:List CV} (h:OkL [.int .u8,.int .u8,.int .u8,.int .u8,.int .i64,.int .i64] cs):∃ r:RowS,cs=encRow r∧rowIn r:=by
 obtain ⟨p,k,rfl,hp,g0⟩:=vc h
 obtain ⟨c4,k4,rfl,h4,g1⟩:=okL_cons g0
 obtain ⟨c5,k5,rfl,h5,g2⟩:=okL_cons g1
 obtain rfl:=okL_nil g2
 obtain ⟨m0,rfl,q0⟩:=jI h4
 obtain ⟨m1,rfl,q1⟩:=jI h5
 exact ⟨⟨p,m0,m1⟩,rfl,hp,q0,q1⟩
theorem jg1 {c:CV} (h:LF.Ok (.sl [.int .u8,.int .u8,.int .u8,.int .u8,.int .i64,.int .i64]) c):∃ l:List RowS,c=encRows l∧(∀ r∈l,rowIn r)∧l.length≤9223372036854775807 :=
 vB h fun _ he=>jjx he
set_option maxRecDepth 100000
set_option maxHeartbeats 4000000
/-! Catalogs, queries, cells, pairs, as plain data read. -/
theorem Z0 {sh:List LF} {cs:List CV} (h:OkL (.sl [.sl [.int .i64],.sl [.sl [.int .i64]]]::.int .i64::sh) cs):∃ (c:CatS) (cs':List CV),cs=encCat c++cs'∧okCat2 c∧in64 c.m∧OkL sh cs':=by
 obtain ⟨c0,k0,rfl,h0,g1⟩:=okL_cons h
 obtain ⟨c1,k1,rfl,h1,g2⟩:=okL_cons g1
 obtain ⟨m,rfl,qm⟩:=jI h1
 obtain ⟨ds,rfl,hd,hn⟩:=vB (f:=encDim) (P:=fun d=>okDim d∧okUp d) h0 fun e he=>by
  obtain ⟨c0,k0,rfl,h0,g3⟩:=okL_cons he
  obtain ⟨c1,k1,rfl,h1,g4⟩:=okL_cons g3
  obtain rfl:=okL_nil g4
  have hi:∀ {c:CV},LF.Ok (.sl [.int .i64]) c→∃ l:List Int,c=encIs l∧l.length≤9223372036854775807:=fun hc=>by
   obtain ⟨l,rfl,_,hl⟩:=vB (f:=fun n:Int=>[CV.int .i64 n]) (P:=fun _=>True) hc fun e he=>by
    obtain ⟨c0,k0,rfl,h0,g5⟩:=okL_cons he
    obtain rfl:=okL_nil g5
    obtain ⟨n,rfl,_⟩:=jI h0
    exact ⟨n,rfl,trivial⟩
   exact ⟨l,rfl,hl⟩
  obtain ⟨sz,rfl,hsz⟩:=hi h0
  obtain ⟨up,rfl,hul,hup⟩:=vB (f:=fun l:List Int=>[encIs l]) (P:=fun l=>l.length≤9223372036854775807) h1 fun e he=>by
   obtain ⟨c0,k0,rfl,h0,g6⟩:=okL_cons he
   obtain rfl:=okL_nil g6
   obtain ⟨l,rfl,hl⟩:=hi h0
   exact ⟨l,rfl,hl⟩
  exact ⟨⟨sz,up⟩,rfl,⟨hsz,hup⟩,hul⟩
 exact ⟨⟨ds,m⟩,k1,rfl,⟨⟨hn,fun d hdd=>(hd d hdd).1⟩,fun d hdd=>(hd d hdd).2⟩,qm,g2⟩
theorem Yb {sh:List LF} {cs:List CV} (h:OkL (.int .u8::.int .u8::.int .u8::.int .u8::.sl [.int .i64,.int .i64,.sl [.int .i64]]::.int .i64::.int .i64::.int .i64::.int .i64::sh) cs):∃ (q:QueryS) (cs':List CV),cs=encQ q++cs'∧okQ q∧OkL sh cs':=by
 obtain ⟨p,k,rfl,hp,g0⟩:=vc h
 obtain ⟨c4,k4,rfl,h4,g1⟩:=okL_cons g0
 obtain ⟨c5,k5,rfl,h5,g2⟩:=okL_cons g1
 obtain ⟨c6,k6,rfl,h6,g3⟩:=okL_cons g2
 obtain ⟨c7,k7,rfl,h7,g4⟩:=okL_cons g3
 obtain ⟨c8,k8,rfl,h8,g5⟩:=okL_cons g4
 obtain ⟨a5,rfl,_⟩:=jI h5
 obtain ⟨a6,rfl,_⟩:=jI h6
 obtain ⟨a7,rfl,_⟩:=jI h7
 obtain ⟨a8,rfl,_⟩:=jI h8
 obtain ⟨fs,rfl,hf,hn⟩:=vB (f:=encFix) (P:=fun f=>f.mem.length≤9223372036854775807) h4 fun e he=>by
  obtain ⟨c0,k0,rfl,h0,e1⟩:=okL_cons he
  obtain ⟨c1,k1,rfl,h1,e2⟩:=okL_cons e1
  obtain ⟨c2,k2,rfl,h2,e3⟩:=okL_cons e2
  obtain rfl:=okL_nil e3
  obtain ⟨a0,rfl,_⟩:=jI h0
  obtain ⟨a1,rfl,_⟩:=jI h1
  obtain ⟨l,rfl,_,hl⟩:=vB (f:=fun n:Int=>[CV.int .i64 n]) (P:=fun _=>True) h2 fun e he=>by
   obtain ⟨c0,k0,rfl,h0,g5⟩:=okL_cons he
   obtain rfl:=okL_nil g5
   obtain ⟨n,rfl,_⟩:=jI h0
   exact ⟨n,rfl,trivial⟩
  exact ⟨⟨a0,a1,l⟩,rfl,hl⟩
 exact ⟨⟨p,fs,a5,a6,a7,a8⟩,k8,rfl,⟨hn,hf,hp⟩,g5⟩
set_option maxHeartbeats 16000000
set_option maxRecDepth 100000
def fitsC (m:Int) (l:List RowS):Prop:=in64 (sumI (l.map (·.m0)))∧(m=2→in64 (sumI (l.map (·.m1))))
instance (m:Int) (l:List RowS):Decidable (fitsC m l):=by unfold fitsC; infer_instance
theorem YR {m:Int} (hm:1≤m∧m≤2) {l:List RowS}:(ofC m l).2=true↔l≠[]∧fitsC m l:=by
 unfold ofC fitsC
 by_cases h:(1≤m∧m≤2)∧l≠[]∧in64 (sumI (l.map (·.m0)))∧(m=2→in64 (sumI (l.map (·.m1))))
 ·rw [if_pos h]; exact ⟨fun _=>h.2,fun _=>rfl⟩
 ·rw [if_neg h]; exact ⟨fun h'=>(by cases h'),fun h'=>absurd ⟨hm,h'⟩ h⟩
theorem YT {m:Int} {l:List RowS} (h:(ofC m l).2=true):ofC m l=(⟨l.length,sumI (l.map (·.m0)),if m=2 then sumI (l.map (·.m1)) else 0,ofL (l.map (·.m0)),if m=2 then ofL (l.map (·.m1)) else []⟩,true):=by
 unfold ofC at h ⊢
 split
 ·rfl
 ·rename_i h'; rw [if_neg h'] at h; cases h
theorem jl9 {m:Int} {l:List RowS} (h:(ofC m l).2=false):ofC m l=(zeroC,false):=by
 unfold ofC at h ⊢
 split
 ·rename_i h'; rw [if_pos h'] at h; cases h
 ·rfl
theorem jej:inC 1000 zeroC:=⟨by decide,by decide,by decide,fun q hq=>by simp [zeroC] at hq,fun q hq=>by simp [zeroC] at hq,by decide,by decide⟩
theorem jcy {m:Int} {l:List RowS} (hl:l.length≤1000) (hr:∀ r∈l,inR r):inC 1000 (ofC m l).1:=by
 cases h:(ofC m l).2 with
 | false=>rw [jl9 h]; exact jej
 | true =>
  have hm:1≤m∧m≤2:=by
   unfold ofC at h
   split at h
   ·rename_i h'; exact h'.1
   ·cases h
  obtain ⟨_,f0,f1⟩:=(YR hm).mp h
  have r0:∀ a∈l.map (·.m0),I64 a:=fun a ha=>by obtain ⟨r,hr',rfl⟩:=List.mem_map.mp ha; exact (hr r hr').1
  have r1:∀ a∈l.map (·.m1),I64 a:=fun a ha=>by obtain ⟨r,hr',rfl⟩:=List.mem_map.mp ha; exact (hr r hr').2
  have k0:=(jJ (l.map (·.m0))).2.2.2.2
  have k1:=(jJ (l.map (·.m1))).2.2.2.2
  simp only [List.length_map] at k0 k1
  rw [YT h]
  by_cases hm2:m=2
  ·simp only [if_pos hm2]
   exact ⟨by simp only [in64]; omega,f0,f1 hm2,va r0 (by simp; omega),va r1 (by simp; omega),(by show (ofL (l.map (·.m0))).length≤1000; omega),(by show (ofL (l.map (·.m1))).length≤1000; omega)⟩
  ·simp only [if_neg hm2]
   exact ⟨by simp only [in64]; omega,f0,(by show in64 0; decide),va r0 (by simp; omega),(fun q hq=>by simp at hq),(by show (ofL (l.map (·.m0))).length≤1000; omega),(by show ([]:List Run).length≤1000; simp)⟩
theorem Jr:∀ a b:List Int,sumI (a++b)=sumI a + sumI b
 | [],b=>by simp [sumI]
 | x::a,b=>by simp only [List.cons_append,sumI,Jr a b]; omega
theorem Vz {m:Int} {l:List RowS} (hl:l.length≤1000) (h:(ofC m l).2=true):goodC m (ofC m l).1=true:=by
 have hm:1≤m∧m≤2:=by
  unfold ofC at h
  split at h
  ·rename_i h'; exact h'.1
  ·cases h
 obtain ⟨hne,f0,f1⟩:=(YR hm).mp h
 have hpos:0 < l.length:=by
  cases l with
  | nil=>exact absurd rfl hne
  | cons _ _=>simp
 have gv:∀ v:List Int,v.length=l.length→gM (ofL v) (sumI v) l.length=true:=fun v hv=>by
  obtain ⟨_,_,_,h4,_⟩:=jJ v
  exact kg.mpr ⟨vS (by omega),wx v,by rw [h4,hv]⟩
 rw [YT h]
 refine jq.mpr ⟨hm,⟨by simp; omega,by simp; omega⟩,gv _ (by simp),?_⟩
 by_cases hm2:m=2
 ·rw [if_pos hm2]; simp only [if_pos hm2]; exact gv _ (by simp)
 ·rw [if_neg hm2]; simp [hm2]
theorem jek {m:Int} (hm:1≤m∧m≤2) {a b:List RowS} (ha:a.length≤500) (hb:b.length≤500) (pa:(ofC m a).2=true) (pb:(ofC m b).2=true):joinC m (ofC m a).1 (ofC m b).1=ofC m (a++b):=by
 have ga:=Vz (by omega) pa
 have gb:=Vz (by omega) pb
 obtain ⟨na,fa0,fa1⟩:=(YR hm).mp pa
 unfold joinC
 rw [YT pa] at ga ⊢
 rw [YT pb] at gb ⊢
 simp only at ga gb ⊢
 have e0:sumI ((a++b).map (·.m0))=sumI (a.map (·.m0)) + sumI (b.map (·.m0)):=by rw [List.map_append,Jr]
 have e1:sumI ((a++b).map (·.m1))=sumI (a.map (·.m1)) + sumI (b.map (·.m1)):=by rw [List.map_append,Jr]
 have j0:join (ofL (a.map (·.m0))) (ofL (b.map (·.m0)))=(ofL ((a++b).map (·.m0)),true):=by rw [Zp (by simp; omega) (by simp; omega),List.map_append]
 have j1:join (ofL (a.map (·.m1))) (ofL (b.map (·.m1)))=(ofL ((a++b).map (·.m1)),true):=by rw [Zp (by simp; omega) (by simp; omega),List.map_append]
 unfold ofC
 rw [e0,e1]
 by_cases hm2:m=2
 ·simp only [hm2,if_true] at ga gb ⊢
  by_cases h0:in64 (sumI (a.map (·.m0)) + sumI (b.map (·.m0)))
  ·by_cases h1:in64 (sumI (a.map (·.m1)) + sumI (b.map (·.m1)))
   ·rw [if_pos ⟨ga,gb,by omega,h0,fun _=>h1⟩,if_pos ⟨by decide,by simp [na],h0,fun _=>h1⟩,j0,j1]
    simp
   ·rw [if_neg (fun h=>h1 (h.2.2.2.2 trivial)),if_neg (fun h=>h1 (h.2.2.2 trivial))]
  ·rw [if_neg (fun h=>h0 h.2.2.2.1),if_neg (fun h=>h0 h.2.2.1)]
 ·simp only [if_neg hm2] at ga gb ⊢
  by_cases h0:in64 (sumI (a.map (·.m0)) + sumI (b.map (·.m0)))
  ·rw [if_pos ⟨ga,gb,by omega,h0,fun h=>absurd h hm2⟩,if_pos ⟨hm,by simp [na],h0,fun h=>absurd h hm2⟩,j0]
   simp
  ·rw [if_neg (fun h=>h0 h.2.2.2.1),if_neg (fun h=>h0 h.2.2.1)]
theorem jg6 {m:Int} {a b:List RowS} (h:a.Perm b):ofC m a=ofC m b:=by
 have h0:=h.map (·.m0)
 have h1:=h.map (·.m1)
 have hn:a=[]↔b=[]:=⟨fun e=>by subst e; exact h.nil_eq.symm ▸ rfl,fun e=>by subst e; exact h.eq_nil⟩
 unfold ofC
 rw [VJ h0,VJ h1,Zo h0,Zo h1,h.length_eq]
 simp only [ne_eq,hn]
end Go.Proofs.YtnpncbplhdnonaaGreat
/-
 CARRIED UP,PLAIN: carried twice is carried once; what is carried belongs where it is carried to; a fix is one whether or not a place was carried. My own work.
-/
namespace Go.Bag
open Go.Pl
set_option maxRecDepth 100000
theorem Xx:∀ (l:List Int),l.length≤4→placeL (ofP l)=l++List.replicate (4 - l.length) 0
 | [],_=>rfl
 | [_],_=>rfl
 | [_,_],_=>rfl
 | [_,_,_],_=>rfl
 | [_,_,_,_],_=>rfl
 | _::_::_::_::_::_,h=>by simp at h
theorem Xy:∀ (ys zs:List Int),ys.length=zs.length→rightL [] ys (zs.map fun _=>0)=true→rightL [] ys (List.replicate zs.length 0)=true
 | [],_,_,_=>by unfold rightL; rfl
 | _::_,[],h,_=>by simp at h
 | y::ys,z::zs,h,h2=>by
  simp only [rightL,List.map_cons,List.length_cons,List.replicate_succ,Bool.and_eq_true] at h2 ⊢
  exact ⟨h2.1,Xy ys zs (by simpa using h) h2.2⟩
theorem Xz:∀ (ds:List DimS) (xs ys zs:List Int),ds.length≤xs.length→xs.length=ys.length→ys.length=zs.length→okAll ds xs ys zs→rightL ds ys (zs.map fun _=>0)=true→rightL ds ys (liftL ds xs ys zs++List.replicate (zs.length - ds.length) 0)=true
 | [],xs,ys,zs,_,_,h,_,h2=>by simpa [liftL] using Xy ys zs h h2
 | d::ds,[],_,_,h,_,_,_,_=>by simp at h
 | d::ds,x::xs,[],_,_,h,_,_,_=>by simp at h
 | d::ds,x::xs,y::ys,[],_,_,h,_,_=>by simp at h
 | d::ds,x::xs,y::ys,z::zs,h1,h2,h3,h4,h5=>by
  obtain ⟨k1,k2⟩:=h4
  simp only [rightL,List.map_cons,Bool.and_eq_true,decide_eq_true_eq] at h5
  have ih:=Xz ds xs ys zs (by simpa using h1) (by simpa using h2) (by simpa using h3) k2 h5.2
  simp only [liftL,List.cons_append,rightL,Bool.and_eq_true,decide_eq_true_eq,List.length_cons]
  refine ⟨?_,by rw [show zs.length + 1 - (ds.length + 1)=zs.length - ds.length by omega]; exact ih⟩
  unfold liftV
  rw [if_pos k1]
  exact (W7 k1).2
theorem XA:∀ (ds:List DimS) (xs ys ts zs l:List Int),ds.length≤xs.length→xs.length=ys.length→ys.length=ts.length→ts.length=zs.length→okAll ds xs ys zs→rightL ds ts (zs.map fun _=>0)=true→(∀ i,i < ys.length→ys.getD i 0≤ts.getD i 0)→liftL ds ys ts (liftL ds xs ys zs++l)=liftL ds xs ts zs
 | [],_,_,_,_,_,_,_,_,_,_,_,_=>by simp [liftL]
 | d::ds,[],_,_,_,_,h,_,_,_,_,_,_=>by simp at h
 | d::ds,x::xs,[],_,_,_,_,h,_,_,_,_,_=>by simp at h
 | d::ds,x::xs,y::ys,[],_,_,_,_,h,_,_,_,_=>by simp at h
 | d::ds,x::xs,y::ys,t::ts,[],_,_,_,_,h,_,_,_=>by simp at h
 | d::ds,x::xs,y::ys,t::ts,z::zs,l,h1,h2,h3,h4,h5,h6,h7=>by
  obtain ⟨k1,k2⟩:=h5
  simp only [rightL,List.map_cons,Bool.and_eq_true,decide_eq_true_eq] at h6
  have h0:=h7 0 (by simp)
  simp only [List.getD_cons_zero] at h0
  have ih:=XA ds xs ys ts zs l (by simpa using h1) (by simpa using h2) (by simpa using h3) (by simpa using h4) k2 h6.2 (fun i hi=>by have:=h7 (i + 1) (by simpa using hi); simpa using this)
  obtain ⟨j1,j2,j3⟩:=V8 (t:=t) k1 h0 (by omega)
  simp only [liftL,List.cons_append,ih]
  congr 1
  have e:(liftV d x y z).1=liftD d x y z:=by unfold liftV; rw [if_pos k1]
  rw [e]
  unfold liftV
  rw [if_pos j1,if_pos j2]
  exact j3
theorem Z1:∀ (ds:List DimS) (xs ys zs l:List Int) (i:Nat) (d:DimS),ds.length≤xs.length→xs.length=ys.length→ys.length=zs.length→ds[i]? = some d→(liftL ds xs ys zs++l).getD i 0=(liftV d (xs.getD i 0) (ys.getD i 0) (zs.getD i 0)).1
 | [],_,_,_,_,i,d,_,_,_,h=>by simp at h
 | d::ds,[],_,_,_,_,_,h,_,_,_=>by simp at h
 | d::ds,x::xs,[],_,_,_,_,_,h,_,_=>by simp at h
 | d::ds,x::xs,y::ys,[],_,_,_,_,_,h,_=>by simp at h
 | d::ds,x::xs,y::ys,z::zs,l,i,e,h1,h2,h3,h=>by
  cases i with
  | zero=>simp at h; subst h; simp [liftL]
  | succ i =>
   have:=Z1 ds xs ys zs l i e (by simpa using h1) (by simpa using h2) (by simpa using h3) (by simpa using h)
   simpa [liftL] using this
theorem Yc:∀ (ds:List DimS) (xs ys zs:List Int) (i:Nat) (d:DimS),ds.length≤xs.length→xs.length=ys.length→ys.length=zs.length→okAll ds xs ys zs→ds[i]? = some d→liftOk d (xs.getD i 0) (ys.getD i 0) (zs.getD i 0)
 | [],_,_,_,i,d,_,_,_,_,h=>by simp at h
 | d::ds,[],_,_,_,_,h,_,_,_,_=>by simp at h
 | d::ds,x::xs,[],_,_,_,_,h,_,_,_=>by simp at h
 | d::ds,x::xs,y::ys,[],_,_,_,_,h,_,_=>by simp at h
 | d::ds,x::xs,y::ys,z::zs,i,e,h1,h2,h3,h4,h=>by
  obtain ⟨k1,k2⟩:=h4
  cases i with
  | zero=>simp at h; subst h; simpa using k1
  | succ i =>
   have:=Yc ds xs ys zs i e (by simpa using h1) (by simpa using h2) (by simpa using h3) k2 (by simpa using h)
   simpa using this
abbrev u8Q (p:Place):Prop:=∀ x∈placeL p,0≤x∧x≤255
theorem below_get {a b:Place} (h:belowP a b=true):∀ i,i < (placeL a).length→(placeL a).getD i 0≤(placeL b).getD i 0:=by
 unfold belowP at h
 simp only [decide_eq_true_eq] at h
 intro i hi
 match i,hi with
 | 0,_=>exact h.1
 | 1,_=>exact h.2.1
 | 2,_=>exact h.2.2.1
 | 3,_=>exact h.2.2.2
 | n + 4,hi=>exact absurd hi (by simp [placeL])
theorem YU {c:CatS} {f t a:Place} (ha:u8Q a) (h1:rightC c f a=true) (h2:rightC c t zeroP=true) (h3:belowP f t=true):okAll c.dims (placeL f) (placeL t) (placeL a):=by
 have g:=jx (jB h1)
 exact W9 _ _ _ _ (by show c.dims.length≤4; omega) rfl rfl (kR h1) (kR h2) (below_get h3) fun z hz=>(ha z hz).1
theorem jbf {c:CatS} {f t a:Place} (h1:rightC c f a=true) (h2:rightC c t zeroP=true) (h3:belowP f t=true):toP c f t a=(ofP (liftL c.dims (placeL f) (placeL t) (placeL a)),true):=by
 unfold toP
 rw [if_pos ⟨h1,h2,h3⟩]
theorem VV {c:CatS} {f t a:Place} (h1:rightC c f a=true) (h2:rightC c t zeroP=true) (h3:belowP f t=true):placeL (toP c f t a).1=liftL c.dims (placeL f) (placeL t) (placeL a)++List.replicate (4 - c.dims.length) 0:=by
 have g:=jx (jB h1)
 have hl:=X4 c.dims (placeL f) (placeL t) (placeL a) (by show c.dims.length≤4; omega) rfl rfl
 rw [jbf h1 h2 h3,Xx _ (by omega),hl]
theorem XB {c:CatS} {f t a:Place} (ha:u8Q a) (h1:rightC c f a=true) (h2:rightC c t zeroP=true) (h3:belowP f t=true):rightC c t (toP c f t a).1=true:=by
 have g:=jx (jB h1)
 unfold rightC
 rw [VV h1 h2 h3,jB h1,Bool.true_and]
 exact Xz c.dims (placeL f) (placeL t) (placeL a) (by show c.dims.length≤4; omega) rfl rfl (YU ha h1 h2 h3) (kR h2)
theorem jg7 {c:CatS} {f v t a:Place} (ha:u8Q a) (h1:rightC c f a=true) (h2:rightC c v zeroP=true) (h3:rightC c t zeroP=true) (h4:belowP f v=true) (h5:belowP v t=true):toP c v t (toP c f v a).1=toP c f t a:=by
 have g:=jx (jB h1)
 have hr:=XB ha h1 h2 h4
 rw [jbf hr h3 h5,jbf h1 h3 (kT h4 h5),VV h1 h2 h4]
 rw [XA c.dims (placeL f) (placeL v) (placeL t) (placeL a) _ (by show c.dims.length≤4; omega) rfl rfl rfl (YU ha h1 h2 h4) (kR h3) (below_get h5)]
theorem jel {c:CatS} {v t a:Place} {f:FixS} (ha:u8Q a) (h1:rightC c v a=true) (h2:rightC c t zeroP=true) (h3:belowP v t=true) (hf:fixOk c f=true) (hl:(placeL t).getD f.dim.toNat 0≤f.level):withinP c t (toP c v t a).1 f=withinP c v a f:=by
 have g:=jx (jB h1)
 have hr:=XB ha h1 h2 h3
 obtain ⟨hd,_,hs⟩:=wA hf
 obtain ⟨d,hde,gd,l0,l1,_⟩:=fix_level hf
 have hok:=Yc c.dims (placeL v) (placeL t) (placeL a) f.dim.toNat d (by show c.dims.length≤4; omega) rfl rfl (YU ha h1 h2 h3) hde
 unfold withinP
 rw [if_pos ⟨hr,hd.1,hd.2⟩,if_pos ⟨h1,hd.1,hd.2⟩,hde]
 dsimp only
 have hget:(placeL (toP c v t a).1).getD f.dim.toNat 0=(liftV d ((placeL v).getD f.dim.toNat 0) ((placeL t).getD f.dim.toNat 0) ((placeL a).getD f.dim.toNat 0)).1:=by
  rw [VV h1 h2 h3]
  exact Z1 c.dims _ _ _ _ _ d (by show c.dims.length≤4; omega) rfl rfl hde
 have hsz:sizeD d f.level≠0:=by have:=Vq gd l0 l1; omega
 obtain ⟨j1,j2,j3⟩:=V8 hok hl hsz
 have e:(liftV d ((placeL v).getD f.dim.toNat 0) ((placeL t).getD f.dim.toNat 0) ((placeL a).getD f.dim.toNat 0)).1=liftD d ((placeL v).getD f.dim.toNat 0) ((placeL t).getD f.dim.toNat 0) ((placeL a).getD f.dim.toNat 0):=by unfold liftV; rw [if_pos hok]
 rw [hget,e]
 unfold liftV
 rw [if_pos j1,if_pos j2,j3]
theorem wh {v:Place} (h:u8Q v):belowP zeroP v=true:=by
 unfold belowP zeroP
 simp only [decide_eq_true_eq]
 exact ⟨(h v.p0 (by simp [placeL])).1,(h v.p1 (by simp [placeL])).1,(h v.p2 (by simp [placeL])).1,(h v.p3 (by simp [placeL])).1⟩
theorem jbg (v:Place) (f:FixS) (hd:f.dim.toNat < 4):(placeL (minP v f)).getD f.dim.toNat 0≤f.level:=by
 unfold minP
 match h:f.dim.toNat,hd with
 | 0,_=>simp [placeL,ofP]; split <;> omega
 | 1,_=>simp [placeL,ofP]; split <;> omega
 | 2,_=>simp [placeL,ofP]; split <;> omega
 | 3,_=>simp [placeL,ofP]; split <;> omega
 | k + 4,hd=>omega
theorem XC:∀ (fs:List FixS) (v:Place) (f:FixS),f∈fs→f.dim.toNat < 4→(placeL (fs.foldl minP v)).getD f.dim.toNat 0≤f.level
 | [],_,_,h,_=>by simp at h
 | g::fs,v,f,h,hd=>by
  rcases List.mem_cons.mp h with rfl | h
  ·have h1:=jbg v f hd
   have h2:=below_get (JY fs (minP v f)) f.dim.toNat hd
   simp only [List.foldl_cons]
   omega
  ·exact XC fs (minP v g) f h hd
end Go.Bag
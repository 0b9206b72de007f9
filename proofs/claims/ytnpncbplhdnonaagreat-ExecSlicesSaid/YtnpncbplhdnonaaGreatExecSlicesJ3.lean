/- Part of the proof of ExecSlices: lemmas. -/
import Derived.Test.YtnpncbplhdnonaaGreatExecSlicesJ2
import Derived.Test.YtnpncbplhdnonaaGreatProg
import Derived.Shelf.Spec.SlicesGrow
set_option linter.unusedVariables false
set_option linter.unusedSimpArgs false
/-
 DERIVED: THE SHELF's CONTRACTS AT THIS DUMP,IN PLAIN WORDS (tools/lay-plain.mjs out of 'YtnpncbplhdnonaaGreatLaysGQ.lean',which tools/lay-shelf.mjs wrote): THE SAME DECLARATIONS UNDER THE SAME NAMES: 'import','namespace','open','def','theorem' AND NOTHING ELSE: no command of the shelf's: FOR A HAND-IN. Each laying: the table of numbers ('.._ren') and one theorem,a field a fact of the dump's own or the kernel's comparison; each contract: ONE APPLICATION.
-/
namespace Go.Proofs
open Go.Shelf
def Tryz.growF_ren:Go.Shelf.Ren:=⟨fun | 4=>161 | n=>n,fun | 22=>28 | 25=>96 | 3=>3 | 4=>4 | 9=>9 | 20=>20 | 0=>0 | n=>n,fun | n=>n⟩
theorem Tryz.growF:Go.Proofs.Lays8.n4 Tryz.prog Tryz.growF_ren:={
 mixed:=by kernel_rfl
 f4:=⟨Tryz.f161.name,by decide,Tryz.func161.trans (congrArg some (by kernel_rfl))⟩
 t0:=Tryz.underlying0
 a0:=Tryz.isAgg0
 z0:=Tryz.sizeOf0
 v0:=Tryz.zeroValue0
 t3:=Tryz.underlying3
 a3:=Tryz.isAgg3
 z3:=Tryz.sizeOf3
 v3:=Tryz.zeroValue3
 t4:=Tryz.underlying4
 a4:=Tryz.isAgg4
 z4:=Tryz.sizeOf4
 v4:=Tryz.zeroValue4
 t9:=Tryz.underlying9
 a9:=Tryz.isAgg9
 z9:=Tryz.sizeOf9
 v9:=Tryz.zeroValue9
 t20:=Tryz.underlying20
 a20:=Tryz.isAgg20
 z20:=Tryz.sizeOf20
 v20:=Tryz.zeroValue20
 t22:=Tryz.underlying28
 a22:=Tryz.isAgg28
 z22:=Tryz.sizeOf28
 v22:=Tryz.zeroValue28 }
end Go.Proofs
/-
 slices.Grow OF NIL,AT WHATEVER ELEMENT TYPE: a slice of one's own with no element. My own work.
-/
namespace Go.Pl
theorem callN2 {C:CallP} {l:List POp} {s:PS} {K:PS→Prop} {d:Nat} {x y:PO} {f:FuncId} {v v2:CV} {sz m:Nat} {es:List (List CV)} (hx:s.ev x=.c v) (hy:s.ev y=.c v2) (hC:C f [.c v,.c v2] (.own sz es) []) (hm:es.length=m) (h:∀ w,wL C l ((s.box d ⟨w,.sl sz es⟩).put d (.osl d w 0 m)) K):wL C (⟨some d,.call true f [x,y],none⟩::l) s K:=by
 subst hm
 simp only [wL] at h; simp only [wL,wpL,wpG,wpK,wpCall,evcs,PS.evc,hx,hy]; exact ⟨sz,es,rfl,hC,h _⟩
end Go.Pl
namespace Go.Proofs.YtnpncbplhdnonaaGreat
open Go.Pl Go.Bag Go.Shelf Go.RowKit Go.Maps Go.Sort
set_option maxRecDepth 100000
theorem pcallOwn_of {P:Program} {f:FuncId} {cs:List CV} {sz:Nat} (hE:Ent P f)
  (h:∀ (w:World) (O:Nat→Prop) (vs:Array Value),vs.size=cs.length→(∀ (i:Nat) (h1:i < vs.size) (h2:i < cs.length),V w O vs[i] cs[i])→(∀ b,O b→b < w.heap.size) →
   Calls P f vs w fun e w'=>∃ v,e=.returned v∧(w'.os=w.os∧w'.tape=w.tape∧w'.output=w.output∧w.heap.size≤w'.heap.size∧∀ b,b < w.heap.size→w'.heap[b]? = w.heap[b]?) ∧
    (v=.slice none 0 0∨∃ b cap,v=.slice (some ⟨b,0,none⟩) 0 cap∧w.heap.size≤b∧OwnB w' b (cap * sz))):PCallG P f (cs.map .c) (.own sz []) []:=by
 refine ⟨hE,?_⟩
 intro w O A β vs hsz hS
 have hn:vs.size=cs.length:=by simpa using hsz
 refine (h w O vs hn (fun i h1 h2=>?_) (fun b hb=>(hS.outer b hb).1)).mono ?_
 ·have ht:=hS.temps i
  have e1:(initPS (cs.map AV.c)).t i=.c cs[i]:=by simp [initPS,h2]
  have e2:vs.getD i undef=vs[i]:=by simp [h1]
  rw [e1,e2] at ht
  exact V.ext (.of_less fun b hb=>.inl hb) ht
 ·rintro e w' ⟨v,rfl,⟨h1,h2,h3,h4,h5⟩,hv⟩
  have hbl:(retPS (cs.map AV.c) (.own sz []) []).bx cs.length=⟨1,.sl sz []⟩:=by simp [retPS]
  have hdead:∀ d,d≠cs.length→((retPS (cs.map AV.c) (.own sz []) []).bx d).st=.dead:=by
   intro d hd
   simp only [retPS,List.length_map,if_neg hd,List.getElem?_map]
   cases cs[d]? <;> rfl
  have hio:∀ (β2:Bt),(∀ i c0,(cs.map AV.c)[i]? = some (.io c0)→β2 i=β i)∧∀ i sz es,(cs.map AV.c)[i]? = some (.ios sz es)→β2 i=β i∧∀ q n,β i=some q→OwnB w q.1 n→OwnB w' q.1 n:=by
   intro β2
   refine ⟨fun i c0 hi=>?_,fun i sz es hi=>?_⟩ <;>
   ·simp only [List.getElem?_map] at hi
    cases hc:cs[i]? <;> rw [hc] at hi <;> cases hi
  have go:∀ (q:Option (Nat × Nat)),(q=none∧v=.slice none 0 0∨∃ b cap,q=some (b,0)∧v=.slice (some ⟨b,0,none⟩) 0 cap∧w.heap.size≤b∧OwnB w' b (cap * sz)) →
    Sim O w ⟨A,fun i=>if i=cs.length then q else none⟩ (fun i=>if i=cs.length then q else none) (retPS (cs.map .c) (.own sz []) []) (fun i=>if i=(cs.map AV.c).length then v else undef) w':=by
   intro q hq
   refine ⟨h1,h2,h3,h4,fun b hlt _=>h5 b hlt,fun i=>?_,fun d=>?_,fun d d' p p' hdd ho ho'=>?_,fun d p ho hp=>?_,fun b hO=>hS.outer b hO,fun d ps hd=>?_,fun d es hd=>?_,fun sz2 es2 hv2 hst2=>?_,fun d _ _=>rfl⟩
   ·by_cases hi:i=(cs.map AV.c).length
    ·have hi':i=cs.length:=by simpa using hi
     have ht:(retPS (cs.map AV.c) (.own sz []) []).t i=.osl i 1 0 0:=by simp [retPS,hi']
     rw [ht,if_pos hi]
     have h1':v.oneCell'=true:=by rcases hq with ⟨_,rfl⟩ | ⟨b,cap,_,rfl,_⟩ <;> rfl
     refine ⟨⟨by rw [hi',hbl]; exact Nat.le_refl _,h1'⟩,fun _ sz2 es2 hs2=>⟨rfl,?_⟩⟩
     rw [hi',hbl] at hs2
     cases hs2
     rcases hq with ⟨rfl,rfl⟩ | ⟨b,cap,rfl,rfl,_,ho⟩
     ·exact .inl ⟨by simp [hi'],rfl,rfl⟩
     ·exact .inr ⟨b,cap,by simp [hi'],rfl,Nat.zero_le _,ho⟩
    ·simp only [if_neg hi,retPS]; trivial
   ·by_cases hd:d=cs.length
    ·subst hd
     rw [hbl]
     refine ⟨fun e he=>by simp at he,?_⟩
     rcases hq with ⟨rfl,rfl⟩ | ⟨b,cap,rfl,rfl,_,ho⟩
     ·exact .inl ⟨by simp,rfl⟩
     ·refine .inr ⟨b,by simp,?_,fun i hi=>by simp at hi⟩
      obtain ⟨arr,el,h,hn⟩:=ho
      exact ⟨arr,el,h,by simp⟩
    ·rw [hdead d hd]; trivial
   ·by_cases h1:d=cs.length
    ·by_cases h2:d'=cs.length
     ·exact absurd (h1.trans h2.symm) hdd
     ·rw [hdead d' h2] at ho'; cases ho'
    ·rw [hdead d h1] at ho; cases ho
   ·by_cases h1:d=cs.length
    ·rw [if_pos h1] at hp
     rcases hq with ⟨rfl,_⟩ | ⟨b,cap,rfl,_,hb,ho'⟩
     ·cases hp
     ·cases hp
      exact ⟨fun hO=>by have:=(hS.outer _ hO).1; simp only at this; omega,ho'.lt,fun hlt=>by simp only at hlt; omega⟩
    ·rw [hdead d h1] at ho; cases ho
   ·by_cases h1:d=cs.length
    ·rw [h1,hbl] at hd; cases hd
    ·rw [hdead d h1] at hd; cases hd
   ·by_cases h1:d=cs.length
    ·rw [h1,hbl] at hd; cases hd
    ·rw [hdead d h1] at hd; cases hd
   ·by_cases h1:0=cs.length
    ·have hq2:=hbl; rw [← h1] at hq2; rw [hq2] at hv2; cases hv2
    ·rw [hdead 0 h1] at hst2; cases hst2
  rcases hv with rfl | ⟨b,cap,rfl,hb,ho⟩
  ·exact ⟨_,_,rfl,go none (.inl ⟨rfl,rfl⟩),hio _⟩
  ·exact ⟨_,_,rfl,go (some (b,0)) (.inr ⟨b,cap,rfl,rfl,hb,ho⟩),hio _⟩
theorem zeroCells_size (c:Array Value):∀ n,(Builtin.zeroCells c n).size=n * c.size:=by
 intro n
 simp [Builtin.zeroCells]
theorem grow_nil {P:Program} {ρ:Ren} (L:Lays8.n4 P ρ) (hE:Ent P (ρ.f 4)) {i0:TypeInfo} {z:Value} {sz:Nat} (hi0:P.info? (ρ.t 25)=some i0) (hz0:i0.zero=some z) (hsz:i0.size=sz) (hs0:0 < sz) (hzc:z.cells.size=sz) (hby:i0.bytes≤1000) (n:Nat) (hn:n≤1000000) :
  PCallG P (ρ.f 4) [.c .nils,.c (.int .i64 n)] (.own sz []) []:=by
 refine pcallOwn_of (cs:=[.nils,.int .i64 n]) hE fun w O vs hvs hV hO=>?_
 have hn2:vs.size=2:=by simpa using hvs
 have hv0:=hV 0 (by omega) (by simp)
 have hv1:=hV 1 (by omega) (by simp)
 obtain rfl:vs=#[.slice none 0 0,.int .i64 n]:=by
  apply Array.ext
  ·simpa using hn2
  ·intro i h1 h2
   have hi:i=0∨i=1:=by simp at h2; omega
   rcases hi with rfl | rfl
   ·have hv0:V w O vs[0] .nils:=hv0
    generalize hc:CV.nils=c at hv0
    generalize hv:vs[0]=v at hv0 ⊢
    cases hv0 <;> cases hc
    rfl
   ·have hv1:V w O vs[1] (.int .i64 n):=hv1
    exact V.int_inv hv1
 have hbm:n * i0.bytes≤1000000 * 1000:=Nat.mul_le_mul hn hby
 by_cases h0:n=0
 ·subst h0
  refine (Any8.slices_Grow_room L none 0 0 0 w (Nat.le_refl _) (by omega) (by omega) (by omega)).mono ?_
  rintro e w' ⟨rfl,rfl⟩
  exact ⟨_,rfl,⟨rfl,rfl,rfl,Nat.le_refl _,fun _ _=>rfl⟩,.inl rfl⟩
 ·refine (Any8.slices_Grow_grow L i0 z hi0 hz0 (by omega) none 0 0 n [] w (Nat.le_refl _) (by omega) (by rw [Nat.zero_add]; omega) (by omega) (by simp) (fun _=>rfl) (fun a ha=>by cases ha)).mono ?_
  rintro e w' ⟨rfl,rfl⟩
  have hge:0 + n≤grownCap w (0 + n) 0 (ρ.t 25):=grownCap_ge w _ _ _
  generalize grownCap w (0 + n) 0 (ρ.t 25)=G at *
  refine ⟨_,rfl,⟨rfl,rfl,rfl,(by show w.heap.size≤(w.heap.push _).size; rw [Array.size_push]; omega),fun b hb=>?_⟩,.inr ⟨w.heap.size,G,rfl,Nat.le_refl _,?_⟩⟩
  ·have:=Below.heap_alloc w.drew (.cells (([]:List Value).toArray++Builtin.zeroCells z.cells (0 + n - 0)++Builtin.zeroCells z.cells (G - (0 + n))) (ρ.t 25)) b hb
   exact this
  ·refine ⟨_,_,World.alloc_heap_new w.drew _,?_⟩
   simp only [Array.size_append,zeroCells_size,hzc]
   have:(0 + n - 0) * sz + (G - (0 + n)) * sz=G * sz:=by
    rw [← Nat.add_mul]; congr 1; omega
   simp only [List.size_toArray,List.length_nil,Nat.zero_add] at this ⊢
   omega
def chkGrow (P:Program) (t sz:Nat):Bool:=match P.info? t with
 | some i=>(match i.zero with
  | some z=>decide (i.size=sz∧0 < sz∧z.cells.size=sz∧i.bytes≤1000)
  | none=>false)
 | none=>false
theorem grow_of {P:Program} {ρ:Ren} (L:Lays8.n4 P ρ) (hE:Ent P (ρ.f 4)) {sz:Nat} (h:chkGrow P (ρ.t 25) sz=true) (n:Nat) (hn:n≤1000000):PCallG P (ρ.f 4) [.c .nils,.c (.int .i64 n)] (.own sz []) []:=by
 unfold chkGrow at h
 split at h
 ·rename_i i hi
  split at h
  ·rename_i z hz
   simp only [decide_eq_true_eq] at h
   exact grow_nil L hE hi hz h.1 h.2.1 h.2.2.1 h.2.2.2 n hn
  ·cases h
 ·cases h
end Go.Proofs.YtnpncbplhdnonaaGreat
namespace Go.Proofs.YtnpncbplhdnonaaGreat
open Go.Pl Go.Bag
set_option maxHeartbeats 16000000
set_option maxRecDepth 100000
/-! ### slices.Grow, slices.Concat at fixes -/
theorem C_GrowFix (n:Nat) (hn:n≤1000000):CP 161 [.c .nils,.c (.int .i64 n)] (.own 3 []) [] :=
 grow_of Tryz.growF (jam Tryz.func161 (by kernel_rfl)) (by kernel_rfl) n hn
theorem C_ConcatFix (a b:List (List CV)) (ha:a.length≤100000) (hb:b.length≤100000) (za:∀ e∈a,e.length=3) (zb:∀ e∈b,e.length=3):CP 144 [.c (.sl [[.sl a],[.sl b]])] (.own 3 (a++b)) []:=by
 have cg:=C_GrowFix (a.length + b.length) (by omega)
 rw [show ((a.length + b.length:Nat):Int)=0 + (a.length:Int) + (b.length:Int) by omega] at cg
 refine pcallF Tryz.func144 c144 rfl ?_
 have g1:([]:List (List CV)).length + a.length≤maxGrow:=by simp [maxGrow]; omega
 have g2:a.length + b.length≤maxGrow:=by simp [maxGrow]; omega
 unfold p144
 repeat' (first | refine jK ?_ | refine jN ?_ | refine jE ?_ | refine ko ?_ | refine jY ?_ | refine kC rfl ?_ | refine jbn (fun u=>?_) | refine je rfl rfl ?_ | intro u)
 refine jf ?_
 unfold b144_0
 repeat' (first | refine ji rfl rfl (by omega) rfl rfl ?_ | refine jK ?_ | refine jN ?_ | refine jE ?_ | refine ko ?_ | refine XL ?_ | refine jY ?_ | refine jP ?_ | refine jR rfl ?_ | refine jD rfl ?_ | refine kC rfl ?_ | refine vn rfl rfl (by omega) ?_ | refine Y3 rfl rfl ?_ | refine Jb rfl rfl (by omega) ?_ | refine vX rfl (Nat.le_of_ble_eq_true rfl) rfl ?_ | refine je rfl rfl ?_ | intro u)
 refine jf ?_
 repeat' (first | refine ji rfl rfl (by omega) rfl rfl ?_ | refine jK ?_ | refine jN ?_ | refine jE ?_ | refine ko ?_ | refine XL ?_ | refine jY ?_ | refine jP ?_ | refine jR rfl ?_ | refine jD rfl ?_ | refine kC rfl ?_ | refine vn rfl rfl (by omega) ?_ | refine Y3 rfl rfl ?_ | refine Jb rfl rfl (by omega) ?_ | refine vX rfl (Nat.le_of_ble_eq_true rfl) rfl ?_ | refine je rfl rfl ?_ | intro u)
 refine jf ?_
 repeat' (first | refine callN2 rfl rfl cg rfl (fun w=>?_) | refine jK ?_ | refine jN ?_ | refine jE ?_ | refine ko ?_ | refine jc7 ?_ | refine JP ?_ | refine jY ?_ | refine VE ?_ | refine jD rfl ?_ | refine kC rfl ?_ | refine Wz rfl ?_ | refine Y3 rfl rfl ?_ | refine je rfl rfl ?_ | intro u)
 refine jf ?_
 unfold b144_1
 repeat' (first | refine ji rfl rfl (by omega) rfl rfl ?_ | refine jr rfl rfl rfl rfl g1 za rfl rfl (fun _ _=>?_) | refine jK ?_ | refine jN ?_ | refine jE ?_ | refine ko ?_ | refine XL ?_ | refine jY ?_ | refine jP ?_ | refine jR rfl ?_ | refine kC rfl ?_ | refine Wz rfl ?_ | refine Y3 rfl rfl ?_ | refine Jb rfl rfl (by omega) ?_ | refine vX rfl (Nat.le_of_ble_eq_true rfl) rfl ?_ | intro u)
 refine jf ?_
 repeat' (first | refine ji rfl rfl (by omega) rfl rfl ?_ | refine jr rfl rfl rfl rfl g2 zb rfl rfl (fun _ _=>?_) | refine jK ?_ | refine jN ?_ | refine jE ?_ | refine ko ?_ | refine XL ?_ | refine jY ?_ | refine jP ?_ | refine jR rfl ?_ | refine kC rfl ?_ | refine Wz rfl ?_ | refine Y3 rfl rfl ?_ | refine Jb rfl rfl (by omega) ?_ | refine vX rfl (Nat.le_of_ble_eq_true rfl) rfl ?_ | intro u)
 refine jf ?_
 repeat' (first | refine st5 ?_ | intro u)
 exact Wn rfl rfl rfl
set_option maxRecDepth 100000
set_option maxHeartbeats 4000000
/-! ### slices.Clone, slices.Clip -/
theorem C_CloneInt (es:List (List CV)) (hl:es.length≤4294967296) (hz:∀ e∈es,e.length=1):CP 145 [.c (.sl es)] (.c (.sl es)) []:=by
 refine pcallF Tryz.func145 c145 rfl ?_
 have h0:([]:List (List CV)).length + es.length≤maxGrow:=by simp [maxGrow]; omega
 unfold p145
 repeat' (first | refine st9 ?_ | intro u)
 refine nq_ rfl (fun he=>?_) ?_
 ·subst he
  repeat' (first | refine st2 ?_ | intro u)
  exact jd rfl rfl
 ·repeat' (first | refine WC rfl rfl rfl rfl h0 hz rfl (fun u=>?_) | refine st8 ?_ | intro u)
  exact jd rfl rfl
set_option maxHeartbeats 16000000
set_option maxRecDepth 100000
/-! ### A query in memory of its own, and fixes more -/
theorem qown_loop {K:KT} (fs:List FixS) (hlen:fs.length≤100000) (hm:∀ f∈fs,f.mem.length≤4294967296) (x0 x1 x2 x3 y0 y1 y2 y3:CV) (v2 w:Nat):∀ (rest:List FixS) (i:Nat) (s:PS),fs.drop i=rest→i≤fs.length →
  s.t 2=.ptr 2 v2 0→s.bx 2=⟨v2,.vp [.c x0,.c x1,.c x2,.c x3,.osl 11 w 0 (fs.map encFix).length,.c y0,.c y1,.c y2,.c y3]⟩→s.bx 11=⟨w,.sl 3 (fs.map encFix)⟩→s.t 14=.osl 11 w 0 (fs.map encFix).length→s.t 15=.c (.int .i64 (fs.map encFix).length)→s.t 16=.c (.int .i64 i) →
  (∀ s',s'.t 2=.ptr 2 v2 0→s'.bx 2=⟨v2,.vp [.c x0,.c x1,.c x2,.c x3,.osl 11 w 0 (fs.map encFix).length,.c y0,.c y1,.c y2,.c y3]⟩→s'.bx 11=⟨w,.sl 3 (fs.map encFix)⟩→s'.bx 4=s.bx 4→s'.t 4=s.t 4→K (.x 0) s')→wP (CP) (.loop b106_0) s K:=by
 intro rest
 induction rest with
 | nil =>
  intro i s hd hi t2 b2 b11 t14 t15 t16 hx
  refine jf ?_
  have:=jm hd hi
  subst this
  have hEl:(fs.map encFix).length=fs.length:=List.length_map _
  rw [← ja t2,← jc b2,← jc b11,← ja t14,← ja t15,← ja t16]
  unfold b106_0
  repeat' (first | refine st0 ?_ | intro u)
  exact hx _ (by rfl) (by rfl) (by rfl) (by rfl) (by rfl)
 | cons f rest ih =>
  intro i s hd hi t2 b2 b11 t14 t15 t16 hx
  refine jf ?_
  have he:(fs.map encFix)[((i:Nat):Int).toNat]? = some (encFix f):=jp hd
  have hil:=jo hd
  have hn:=jg hd
  have hfm:=hm f (List.mem_of_mem_drop (by rw [hd]; simp))
  have cc:=C_CloneInt (f.mem.map fun n=>[.int .i64 n]) (by simpa using hfm) (by intro e he; obtain ⟨r,_,rfl⟩:=List.mem_map.mp he; rfl)
  have ih':=fun s=>ih (i + 1) s hn (by omega)
  rw [← ja t2,← jc b2,← jc b11,← ja t14,← ja t15,← ja t16]
  generalize hE:fs.map encFix=E at *
  unfold encFix encIs at he
  generalize f.mem.map (fun n=>[CV.int .i64 n])=ms at *
  have hEl:E.length=fs.length:=by rw [← hE,List.length_map]
  have hset:E.set ((i:Nat):Int).toNat (spl [.int .i64 f.dim,.int .i64 f.level,.sl ms] 2 [.sl ms])=E:=by
   apply List.ext_getElem?
   intro j
   rw [List.getElem?_set]
   split
   ·rename_i e
    subst e
    rw [he]
    simp [spl]
    omega
   ·rfl
  unfold b106_0
  repeat' (first | refine call1 rfl cc ?_ | refine YA rfl rfl rfl ?_ | refine Wo rfl (by decide) rfl (Nat.le_of_ble_eq_true rfl) rfl ?_ | refine Y2 rfl rfl (by decide) rfl he rfl (Nat.le_of_ble_eq_true rfl) hset ?_ | refine jK ?_ | refine jN ?_ | with_reducible refine jkz ?_ | with_reducible refine jm7 ?_ | refine jm4 rfl ?_ | refine jm5 rfl rfl ?_ | refine jE ?_ | refine ko ?_ | refine XL ?_ | refine jY ?_ | refine jP ?_ | refine w_opsB0 rfl ?_ | refine jR rfl ?_ | refine kC rfl ?_ | refine kU rfl rfl (by omega) ?_ | refine Jb rfl rfl (by omega) ?_ | refine j5 (fun u=>?_) | refine jl rfl (by decide) rfl (Nat.le_of_ble_eq_true rfl) rfl ?_ | refine jbp rfl (by decide) rfl (by assumption) (Nat.le_of_ble_eq_true rfl) rfl ?_ | refine jt rfl rfl (by decide) rfl rfl (Nat.le_of_ble_eq_true rfl) rfl ?_ | refine jC rfl rfl rfl ?_ | refine jkx rfl rfl rfl ?_ | refine jH rfl rfl rfl (by omega) rfl ?_ | intro u)
  exact ih' _ (by rfl) (by rfl) (by rfl) (by rfl) (by rfl) (by rfl) (fun s' u2 c2 c11 c4 u4=>hx s' u2 c2 c11 (c4.trans (by rfl)) (u4.trans (by rfl)))
def withQ (q:QueryS) (gs:List FixS):QueryS:=⟨q.node,q.fixes++gs,q.top,q.measure,q.fn,q.limit⟩
theorem C_qOwn (q:QueryS) (gs:List FixS) (h1:q.fixes.length≤50000) (h2:gs.length≤50000) (hm:∀ f∈q.fixes++gs,f.mem.length≤4294967296) :
  CP 106 [.c (.agg (encQ q)),.c (.sl (gs.map encFix))] (.c (.agg (encQ (withQ q gs)))) []:=by
 have c1:=C_ConcatFix (q.fixes.map encFix) (gs.map encFix) (by simp; omega) (by simp; omega) (by intro e he; obtain ⟨r,_,rfl⟩:=List.mem_map.mp he; rfl) (by intro e he; obtain ⟨r,_,rfl⟩:=List.mem_map.mp he; rfl)
 rw [← List.map_append] at c1
 have lp:=fun (K:Ex→PS→Prop) x0 x1 x2 x3 y0 y1 y2 y3 v2 w s=>qown_loop (K:=K) (q.fixes++gs) (by simp; omega) hm x0 x1 x2 x3 y0 y1 y2 y3 v2 w (q.fixes++gs) 0 s rfl (by omega)
 have hl:((q.fixes++gs).map encFix).length=(q.fixes++gs).length:=List.length_map _
 refine pcallF Tryz.func106 c106 rfl ?_
 unfold withQ
 obtain ⟨nd,fs,tp,ms,fn,lm⟩:=q
 dsimp only at *
 unfold encQ encP
 dsimp only [List.cons_append,List.nil_append]
 generalize hA:fs.map encFix=A at *
 generalize hB:gs.map encFix=B at *
 generalize hE:(fs++gs).map encFix=E at *
 unfold p106
 repeat' (first | refine callN1 rfl c1 rfl (fun w=>?_) | refine YA rfl rfl rfl ?_ | refine Wo rfl (by decide) rfl (Nat.le_of_ble_eq_true rfl) rfl ?_ | refine store_vo rfl rfl (by decide) rfl (Nat.le_of_ble_eq_true rfl) rfl ?_ | refine jK ?_ | refine jN ?_ | refine jE ?_ | refine ko ?_ | refine jY ?_ | refine kC rfl ?_ | refine j5 (fun u=>?_) | refine kw rfl rfl rfl (fun u=>?_) | refine jer rfl rfl ?_ | refine jl rfl (by decide) rfl (Nat.le_of_ble_eq_true rfl) rfl ?_ | refine jC rfl rfl rfl ?_ | refine jbt rfl rfl ?_ | intro u)
 refine lp _ _ _ _ _ _ _ _ _ _ _ _ (by rfl) (by rfl) (by rfl) (by rfl) (by rfl) (by rfl) (fun s' u2 c2 c11 c4 u4=>?_)
 have u4:s'.t 4=_:=u4
 have c4:s'.bx 4=_:=c4
 rw [← ja u2,← jc c2,← jc c11,← ja u4,← jc c4]
 repeat' (first | refine jki rfl rfl rfl (by decide) rfl rfl rfl (fun _=>?_) | refine jkj rfl rfl rfl ?_ | refine st0 ?_ | intro u)
 exact jd (jh rfl rfl rfl rfl jk) rfl
set_option maxHeartbeats 16000000
set_option maxRecDepth 100000
def zeroQ:QueryS:=⟨zeroP,[],0,0,0,0⟩
def toldQ (c:CatS) (q:QueryS):QueryS × Bool:=if goodQ c q=true then (q,true) else (zeroQ,false)
def encQb (r:QueryS × Bool):CV:=.tup [.agg (encQ r.1),.bool r.2]
theorem C_qTold (c:CatS) (q:QueryS) (h:okCat2 c) (hq:okQ q):CP 64 [.c (.agg (encCat c)),.c (.agg (encQ q))] (.c (encQb (toldQ c q))) []:=by
 have c1:=jck c q h hq
 refine pcallF Tryz.func64 c64 rfl ?_
 unfold toldQ encQb zeroQ
 generalize goodQ c q=g at *
 cases g with
 | true =>
  rw [if_pos rfl]
  unfold encQ encCat encP at *
  dsimp only [List.cons_append,List.nil_append] at *
  unfold p64
  repeat' (first | refine call2 rfl rfl c1 ?_ | refine st3 ?_ | intro u)
  exact jd (jh rfl rfl rfl rfl (Jf rfl jk)) rfl
 | false =>
  rw [if_neg (by decide)]
  unfold encQ encCat encP zeroP at *
  dsimp only [List.cons_append,List.nil_append,List.map_nil] at *
  unfold p64
  repeat' (first | refine call2 rfl rfl c1 ?_ | refine st7 ?_ | intro u)
  exact jd (jh rfl rfl rfl rfl (Jf rfl jk)) rfl
theorem C_qHas (c:CatS) (q:QueryS) (d:Int) (h:okCat2 c) (hq:okQ q):CP 105 [.c (.agg (encCat c)),.c (.agg (encQ q)),.c (.int .i64 d)] (.c (.bool (goodQ c q && decide (0≤d∧d≤(c.dims.length:Int) - 1)))) []:=by
 have c1:=jck c q h hq
 have c2:=Xd d 0 ((c.dims.length:Int) - 1)
 have hl:=h.1.1
 have hdl:(c.dims.map encDim).length=c.dims.length:=List.length_map _
 refine pcallF Tryz.func105 c105 rfl ?_
 generalize goodQ c q=g at *
 generalize decide (0≤d∧d≤(c.dims.length:Int) - 1)=b at *
 unfold encQ encCat encP at *
 generalize c.dims.map encDim=dm at *
 dsimp only [List.cons_append,List.nil_append] at *
 cases g with
 | true =>
  unfold p105
  repeat' (first | refine call2 rfl rfl c1 ?_ | refine call3 rfl rfl rfl c2 ?_ | refine je rfl hdl ?_ | refine st2 ?_ | intro u)
  exact jd rfl rfl
 | false =>
  unfold p105
  repeat' (first | refine call2 rfl rfl c1 ?_ | refine st2 ?_ | intro u)
  exact jd rfl rfl
def diceS (c:CatS) (q:QueryS) (f:FixS):QueryS × Bool:=if (goodQ c q && decide (0≤f.dim∧f.dim≤(c.dims.length:Int) - 1))=true then toldQ c (withQ q [f]) else (zeroQ,false)
theorem C_Dice (c:CatS) (q:QueryS) (f:FixS) (h:okCat2 c) (hq:okQ q) (h1:q.fixes.length≤50000) (hm:∀ g∈q.fixes++[f],g.mem.length≤4294967296) :
  CP 62 [.c (.agg (encCat c)),.c (.agg (encQ q)),.c (.int .i64 f.dim),.c (.int .i64 f.level),.c (encIs f.mem)] (.c (encQb (diceS c q f))) []:=by
 have c1:=C_qHas c q f.dim h hq
 have c2:=C_qOwn q [f] h1 (by simp) hm
 have c3:=C_qTold c (withQ q [f]) h ⟨by simp [withQ]; omega,fun g hg=>by have:=hm g hg; omega,hq.2.2⟩
 refine pcallF Tryz.func62 c62 rfl ?_
 unfold diceS
 generalize (goodQ c q && decide (0≤f.dim∧f.dim≤(c.dims.length:Int) - 1))=g at *
 generalize toldQ c (withQ q [f])=r at *
 generalize withQ q [f]=q' at *
 obtain ⟨r,rb⟩:=r
 unfold encQb at *
 dsimp only at *
 cases g with
 | true =>
  rw [if_pos rfl]
  unfold encQ encCat encP encFix at *
  dsimp only [List.cons_append,List.nil_append,List.map_cons,List.map_nil] at *
  unfold p62
  repeat' (first | refine call3 rfl rfl rfl c1 ?_ | refine call2 rfl rfl c2 ?_ | refine call2 rfl rfl c3 ?_ | refine st7 ?_ | intro u)
  exact jd (jh rfl rfl rfl rfl (Jf rfl jk)) rfl
 | false =>
  rw [if_neg (by decide)]
  unfold zeroQ
  unfold encQ encCat encP zeroP at *
  dsimp only [List.cons_append,List.nil_append,List.map_nil] at *
  unfold p62
  repeat' (first | refine call3 rfl rfl rfl c1 ?_ | refine st7 ?_ | intro u)
  exact jd (jh rfl rfl rfl rfl (Jf rfl jk)) rfl
set_option maxHeartbeats 16000000
set_option maxRecDepth 100000
def wholeP (c:CatS):Go.Bag.Place:=ofP (c.dims.map fun d=>(d.sizes.length:Int))
theorem C_Whole (c:CatS) (h:okCat2 c) (hg:goodCat c=true):CP 63 [.c (.agg (encCat c))] (.c (.agg (encP (wholeP c)))) []:=by
 have c1:=jip c h
 rw [hg] at c1
 obtain ⟨hn,_,hd⟩:=jx hg
 have hs:∀ d∈c.dims,d.sizes.length≤4:=fun d hd'=>(kA (hd d hd')).1.2
 refine pcallF Tryz.func63 c63 rfl ?_
 unfold wholeP
 obtain ⟨ds,m⟩:=c
 dsimp only at *
 have hsl:∀ d:DimS,(d.sizes.map fun n=>[CV.int .i64 n]).length=d.sizes.length:=fun d=>List.length_map _
 match ds,hn with
 | [d0],_ =>
  have s0:=hs d0 (by simp)
  have l0:=hsl d0
  unfold encCat encP ofP at *
  simp only [List.map_cons,List.map_nil,List.getD_cons_zero,List.getD_cons_succ,List.getD_nil,encDim,encIs] at *
  generalize d0.sizes.map (fun n=>[CV.int .i64 n])=z0 at *
  unfold p63
  repeat' (first | refine call1 rfl c1 ?_ | refine st6 ?_ | intro u)
  refine jf ?_
  unfold b63_0
  repeat' (first | refine ji rfl rfl (by omega) rfl rfl ?_ | refine je rfl l0 ?_ | refine jL rfl (Vw (by omega)) ?_ | refine st4 ?_ | intro u)
  refine jf ?_
  repeat' (first | refine st5 ?_ | intro u)
  exact jd (jh rfl rfl rfl rfl jk) rfl
 | [d0,d1],_ =>
  have s0:=hs d0 (by simp)
  have l0:=hsl d0
  have s1:=hs d1 (by simp)
  have l1:=hsl d1
  unfold encCat encP ofP at *
  simp only [List.map_cons,List.map_nil,List.getD_cons_zero,List.getD_cons_succ,List.getD_nil,encDim,encIs] at *
  generalize d0.sizes.map (fun n=>[CV.int .i64 n])=z0 at *
  generalize d1.sizes.map (fun n=>[CV.int .i64 n])=z1 at *
  unfold p63
  repeat' (first | refine call1 rfl c1 ?_ | refine st6 ?_ | intro u)
  refine jf ?_
  unfold b63_0
  repeat' (first | refine ji rfl rfl (by omega) rfl rfl ?_ | refine je rfl l0 ?_ | refine jL rfl (Vw (by omega)) ?_ | refine st4 ?_ | intro u)
  refine jf ?_
  repeat' (first | refine ji rfl rfl (by omega) rfl rfl ?_ | refine je rfl l1 ?_ | refine jL rfl (Vw (by omega)) ?_ | refine st4 ?_ | intro u)
  refine jf ?_
  repeat' (first | refine st5 ?_ | intro u)
  exact jd (jh rfl rfl rfl rfl jk) rfl
 | [d0,d1,d2],_ =>
  have s0:=hs d0 (by simp)
  have l0:=hsl d0
  have s1:=hs d1 (by simp)
  have l1:=hsl d1
  have s2:=hs d2 (by simp)
  have l2:=hsl d2
  unfold encCat encP ofP at *
  simp only [List.map_cons,List.map_nil,List.getD_cons_zero,List.getD_cons_succ,List.getD_nil,encDim,encIs] at *
  generalize d0.sizes.map (fun n=>[CV.int .i64 n])=z0 at *
  generalize d1.sizes.map (fun n=>[CV.int .i64 n])=z1 at *
  generalize d2.sizes.map (fun n=>[CV.int .i64 n])=z2 at *
  unfold p63
  repeat' (first | refine call1 rfl c1 ?_ | refine st6 ?_ | intro u)
  refine jf ?_
  unfold b63_0
  repeat' (first | refine ji rfl rfl (by omega) rfl rfl ?_ | refine je rfl l0 ?_ | refine jL rfl (Vw (by omega)) ?_ | refine st4 ?_ | intro u)
  refine jf ?_
  repeat' (first | refine ji rfl rfl (by omega) rfl rfl ?_ | refine je rfl l1 ?_ | refine jL rfl (Vw (by omega)) ?_ | refine st4 ?_ | intro u)
  refine jf ?_
  repeat' (first | refine ji rfl rfl (by omega) rfl rfl ?_ | refine je rfl l2 ?_ | refine jL rfl (Vw (by omega)) ?_ | refine st4 ?_ | intro u)
  refine jf ?_
  repeat' (first | refine st5 ?_ | intro u)
  exact jd (jh rfl rfl rfl rfl jk) rfl
 | [d0,d1,d2,d3],_ =>
  have s0:=hs d0 (by simp)
  have l0:=hsl d0
  have s1:=hs d1 (by simp)
  have l1:=hsl d1
  have s2:=hs d2 (by simp)
  have l2:=hsl d2
  have s3:=hs d3 (by simp)
  have l3:=hsl d3
  unfold encCat encP ofP at *
  simp only [List.map_cons,List.map_nil,List.getD_cons_zero,List.getD_cons_succ,List.getD_nil,encDim,encIs] at *
  generalize d0.sizes.map (fun n=>[CV.int .i64 n])=z0 at *
  generalize d1.sizes.map (fun n=>[CV.int .i64 n])=z1 at *
  generalize d2.sizes.map (fun n=>[CV.int .i64 n])=z2 at *
  generalize d3.sizes.map (fun n=>[CV.int .i64 n])=z3 at *
  unfold p63
  repeat' (first | refine call1 rfl c1 ?_ | refine st6 ?_ | intro u)
  refine jf ?_
  unfold b63_0
  repeat' (first | refine ji rfl rfl (by omega) rfl rfl ?_ | refine je rfl l0 ?_ | refine jL rfl (Vw (by omega)) ?_ | refine st4 ?_ | intro u)
  refine jf ?_
  repeat' (first | refine ji rfl rfl (by omega) rfl rfl ?_ | refine je rfl l1 ?_ | refine jL rfl (Vw (by omega)) ?_ | refine st4 ?_ | intro u)
  refine jf ?_
  repeat' (first | refine ji rfl rfl (by omega) rfl rfl ?_ | refine je rfl l2 ?_ | refine jL rfl (Vw (by omega)) ?_ | refine st4 ?_ | intro u)
  refine jf ?_
  repeat' (first | refine ji rfl rfl (by omega) rfl rfl ?_ | refine je rfl l3 ?_ | refine jL rfl (Vw (by omega)) ?_ | refine st4 ?_ | intro u)
  refine jf ?_
  repeat' (first | refine st5 ?_ | intro u)
  exact jd (jh rfl rfl rfl rfl jk) rfl
set_option maxHeartbeats 16000000
set_option maxRecDepth 100000
def setN (q:QueryS) (d:Int) (w:Go.Bag.Place):QueryS:=⟨ofP ((placeL q.node).set d.toNat ((placeL w).getD d.toNat 0)),q.fixes,q.top,q.measure,q.fn,q.limit⟩
def sliceQ (c:CatS) (q:QueryS) (d k m:Int):QueryS:=setN (withQ q [⟨d,k,[m]⟩]) d (wholeP c)
theorem C_Slice (c:CatS) (q:QueryS) (d k m:Int) (h:okCat2 c) (hq:okQ q) (hd:0≤d∧d < c.dims.length) (h1:q.fixes.length≤50000) (hm:∀ g∈q.fixes,g.mem.length≤4294967296) (g0:goodQ c q=true) (g1:goodQ c (withQ q [⟨d,k,[m]⟩])=true) (g2:goodQ c (sliceQ c q d k m)=true) (hq2:okQ (sliceQ c q d k m)) :
  CP 30 [.c (.agg (encCat c)),.c (.agg (encQ q)),.c (.int .i64 d),.c (.int .i64 k),.c (.int .i64 m)] (.c (encQb (sliceQ c q d k m,true))) []:=by
 have hgc:goodCat c=true:=by
  unfold goodQ at g0
  simp only [Bool.and_eq_true] at g0
  exact jB g0.1.1
 have hn:=(jx hgc).1
 have c1:=C_Dice c q ⟨d,k,[m]⟩ h hq h1 (fun g hg=>by
  rcases List.mem_append.mp hg with hg | hg
  ·exact hm g hg
  ·obtain rfl:=List.mem_singleton.mp hg
   simp)
 have e1:diceS c q ⟨d,k,[m]⟩=(withQ q [⟨d,k,[m]⟩],true):=by
  unfold diceS toldQ
  dsimp only
  rw [g0,decide_eq_true (show 0≤d∧d≤(c.dims.length:Int) - 1 by omega),Bool.and_self,if_pos rfl,if_pos g1]
 rw [e1] at c1
 have c2:=C_Whole c h hgc
 have c3:=C_qTold c (sliceQ c q d k m) h hq2
 have e3:toldQ c (sliceQ c q d k m)=(sliceQ c q d k m,true):=by unfold toldQ; rw [if_pos g2]
 rw [e3] at c3
 clear e1 e3 g0 g1 g2 hq2 hm hq h1
 refine pcallF Tryz.func30 c30 rfl ?_
 unfold sliceQ setN at *
 generalize wholeP c=w at *
 generalize withQ q [⟨d,k,[m]⟩]=q' at *
 obtain ⟨w0,w1,w2,w3⟩:=w
 obtain ⟨⟨n0,n1,n2,n3⟩,fs',tp',ms',fn',lm'⟩:=q'
 have h4:d=0∨d=1∨d=2∨d=3:=by omega
 unfold encQb encQ encCat encP encIs ofP placeL at *
 rcases h4 with rfl | rfl | rfl | rfl
 all_goals
  simp only [List.cons_append,List.nil_append,List.map_cons,List.map_nil,Int.toNat_zero,Int.toNat_one,List.set_cons_zero,List.set_cons_succ,List.getD_cons_zero,List.getD_cons_succ] at *
 all_goals
  unfold p30
  repeat' (first | refine call5 rfl rfl rfl rfl rfl c1 ?_ | refine call1 rfl c2 ?_ | refine call2 rfl rfl c3 ?_ | refine VD rfl rfl ⟨by omega,by omega,Nat.le_of_ble_eq_true rfl⟩ rfl ?_ | refine st7 ?_ | intro u)
  exact jd (jh rfl rfl rfl rfl (Jf rfl jk)) rfl
set_option maxHeartbeats 16000000
set_option maxRecDepth 100000
/-! ### The law's loops -/
abbrev wr (x:Int):Int:=IntKind.i64.wrap x
theorem wr_add (a b:Int):wr (wr a + b)=wr (a + b):=by
 simp [IntKind.wrap,IntKind.bits,IntKind.signed]; omega
theorem wr_sub (a b:Int):wr (wr a - b)=wr (a - b):=by
 simp [IntKind.wrap,IntKind.bits,IntKind.signed]; omega
def totN (l:List LineS):Int:=sumI (l.map (·.n))
def totS (l:List LineS):Int:=sumI (l.map (·.s0))
structure FrS (s s':PS):Prop where
 a3:s'.t 3=s.t 3
 a6:s'.t 6=s.t 6
 a7:s'.t 7=s.t 7
 a8:s'.t 8=s.t 8
 a9:s'.t 9=s.t 9
 a10:s'.t 10=s.t 10
 a11:s'.t 11=s.t 11
 a14:s'.t 14=s.t 14
 b3:s'.bx 3=s.bx 3
 b8:s'.bx 8=s.bx 8
theorem FrS.trans {s u v:PS} (h:FrS s u) (k:FrS u v):FrS s v :=
 ⟨k.a3.trans h.a3,k.a6.trans h.a6,k.a7.trans h.a7,k.a8.trans h.a8,k.a9.trans h.a9,k.a10.trans h.a10,k.a11.trans h.a11,k.a14.trans h.a14,k.b3.trans h.b3,k.b8.trans h.b8⟩
theorem sl_in {K:KT} (L:List LineS) (hl:L.length≤100000) (v13:Nat):∀ (rest:List LineS) (i:Nat) (s:PS) (A B:Int),L.drop i=rest→i≤L.length →
  s.t 17=.c (.sl (L.map encLn))→s.t 19=.c (.int .i64 i)→s.t 13=.ptr 13 v13 0→s.bx 13=⟨v13,.var [.int .i64 (wr A),.int .i64 (wr B)]⟩ →
  (∀ s',s'.t 13=.ptr 13 v13 0→s'.bx 13=⟨v13,.var [.int .i64 (wr (A + totN rest)),.int .i64 (wr (B + totS rest))]⟩→FrS s s'→K (.x 2) s')→wP (CP) (.loop b10_1) s K:=by
 intro rest
 induction rest with
 | nil =>
  intro i s A B hd hi t17 t19 t13 b13 hx
  refine jf ?_
  have:=jm hd hi
  subst this
  have hLl:(L.map encLn).length=L.length:=List.length_map _
  simp only [totN,totS,List.map_nil,sumI,Int.add_zero] at hx
  rw [← ja t17,← ja t19,← ja t13,← jc b13]
  unfold b10_1
  repeat' (first | refine je rfl hLl ?_ | refine st0 ?_ | intro u)
  exact hx _ (by rfl) (by rfl) ⟨by rfl,by rfl,by rfl,by rfl,by rfl,by rfl,by rfl,by rfl,by rfl,by rfl⟩
 | cons q rest ih =>
  intro i s A B hd hi t17 t19 t13 b13 hx
  refine jf ?_
  have he:(L.map encLn)[((i:Nat):Int).toNat]? = some (encLn q):=jp hd
  have hil:=jo hd
  have hn:=jg hd
  have hLl:(L.map encLn).length=L.length:=List.length_map _
  have ih':=fun s=>ih (i + 1) s (A + q.n) (B + q.s0) hn (by omega)
  have e1:A + totN (q::rest)=A + q.n + totN rest:=by simp only [totN,List.map_cons,sumI]; omega
  have e2:B + totS (q::rest)=B + q.s0 + totS rest:=by simp only [totS,List.map_cons,sumI]; omega
  rw [e1,e2] at hx
  have w1:=wr_add A q.n
  have w2:=wr_add B q.s0
  rw [← ja t17,← ja t19,← ja t13,← jc b13]
  generalize L.map encLn=M at *
  generalize wr A=a at *
  generalize wr B=b at *
  unfold encLn at he
  unfold b10_1
  repeat' (first | refine je rfl hLl ?_ | refine jK ?_ | refine jN ?_ | with_reducible refine jkz ?_ | with_reducible refine jm7 ?_ | refine jm4 rfl ?_ | refine jm5 rfl rfl ?_ | refine jm6 rfl ?_ | refine jE ?_ | refine ko ?_ | refine XL ?_ | refine jY ?_ | refine jP ?_ | refine w_opsB0 rfl ?_ | refine jR rfl ?_ | refine kC rfl ?_ | refine kU rfl rfl (by omega) ?_ | refine Jb rfl rfl (by omega) ?_ | refine vX rfl (Nat.le_of_ble_eq_true rfl) rfl ?_ | refine jl rfl (by decide) rfl (Nat.le_of_ble_eq_true rfl) rfl ?_ | refine jt rfl rfl (by decide) rfl rfl (Nat.le_of_ble_eq_true rfl) rfl ?_ | refine WB rfl (Nat.le_of_ble_eq_true rfl) rfl ?_ | refine Jv rfl rfl rfl (by omega) rfl ?_ | refine jky rfl rfl (by omega) (Nat.le_of_ble_eq_true rfl) rfl ?_ | refine ji rfl rfl (by omega) (by assumption) rfl ?_ | refine vC rfl rfl rfl ?_ | intro u)
  exact ih' _ (by rfl) (by rfl) (by rfl) (by rw [← w1,← w2]; rfl) (fun s' u1 u2 f=>hx s' u1 u2 (FrS.trans ⟨by rfl,by rfl,by rfl,by rfl,by rfl,by rfl,by rfl,by rfl,by rfl,by rfl⟩ f))
set_option maxHeartbeats 16000000
set_option maxRecDepth 100000
theorem sl_out {K:KT} (L:List LineS) (hl:L.length≤100000) (v13:Nat):∀ (rest:List LineS) (i:Nat) (s:PS) (A B:Int),L.drop i=rest→i≤L.length →
  s.t 11=.c (.sl (L.map encLn))→s.t 20=.c (.int .i64 i)→s.t 13=.ptr 13 v13 0→s.bx 13=⟨v13,.var [.int .i64 (wr A),.int .i64 (wr B)]⟩ →
  (∀ s',s'.t 13=.ptr 13 v13 0→s'.bx 13=⟨v13,.var [.int .i64 (wr (A - totN rest)),.int .i64 (wr (B - totS rest))]⟩→K (.x 4) s')→wP (CP) (.loop b10_2) s K:=by
 intro rest
 induction rest with
 | nil =>
  intro i s A B hd hi t17 t19 t13 b13 hx
  refine jf ?_
  have:=jm hd hi
  subst this
  have hLl:(L.map encLn).length=L.length:=List.length_map _
  simp only [totN,totS,List.map_nil,sumI,Int.sub_zero] at hx
  rw [← ja t17,← ja t19,← ja t13,← jc b13]
  unfold b10_2
  repeat' (first | refine je rfl hLl ?_ | refine st0 ?_ | intro u)
  exact hx _ (by rfl) (by rfl)
 | cons q rest ih =>
  intro i s A B hd hi t17 t19 t13 b13 hx
  refine jf ?_
  have he:(L.map encLn)[((i:Nat):Int).toNat]? = some (encLn q):=jp hd
  have hil:=jo hd
  have hn:=jg hd
  have hLl:(L.map encLn).length=L.length:=List.length_map _
  have ih':=fun s=>ih (i + 1) s (A - q.n) (B - q.s0) hn (by omega)
  have e1:A - totN (q::rest)=A - q.n - totN rest:=by simp only [totN,List.map_cons,sumI]; omega
  have e2:B - totS (q::rest)=B - q.s0 - totS rest:=by simp only [totS,List.map_cons,sumI]; omega
  rw [e1,e2] at hx
  have w1:=wr_sub A q.n
  have w2:=wr_sub B q.s0
  rw [← ja t17,← ja t19,← ja t13,← jc b13]
  generalize L.map encLn=M at *
  generalize wr A=a at *
  generalize wr B=b at *
  unfold encLn at he
  unfold b10_2
  repeat' (first | refine je rfl hLl ?_ | refine jK ?_ | refine jN ?_ | with_reducible refine jkz ?_ | with_reducible refine jm7 ?_ | refine jm4 rfl ?_ | refine jm5 rfl rfl ?_ | refine jm6 rfl ?_ | refine jE ?_ | refine ko ?_ | refine XL ?_ | refine jY ?_ | refine jP ?_ | refine w_opsB0 rfl ?_ | refine jR rfl ?_ | refine kC rfl ?_ | refine kU rfl rfl (by omega) ?_ | refine Jb rfl rfl (by omega) ?_ | refine vX rfl (Nat.le_of_ble_eq_true rfl) rfl ?_ | refine jl rfl (by decide) rfl (Nat.le_of_ble_eq_true rfl) rfl ?_ | refine jt rfl rfl (by decide) rfl rfl (Nat.le_of_ble_eq_true rfl) rfl ?_ | refine WB rfl (Nat.le_of_ble_eq_true rfl) rfl ?_ | refine Jv rfl rfl rfl (by omega) rfl ?_ | refine jky rfl rfl (by omega) (Nat.le_of_ble_eq_true rfl) rfl ?_ | refine ji rfl rfl (by omega) (by assumption) rfl ?_ | refine vC rfl rfl rfl ?_ | intro u)
  exact ih' _ (by rfl) (by rfl) (by rfl) (by rw [← w1,← w2]; rfl) hx
def sumT (f:Nat→Int):Nat→Int
 | 0=>0
 | n + 1=>sumT f n + f n
theorem sl_all {K:KT} {DM SZ:List (List CV)} {up cm cr g3:CV} {d k:Int} {z:Nat} {e0 e1 e2 e3 e4 e5 e6 e7 e8 e9 e10 e11 e12 q0 q1 q2 q3 q4 q5 q6 q7 q8:CV} (Q:Nat→QueryS) (LN:Nat→List LineS) (v3 v8 v13:Nat)
  (hd0:0≤d) (hk0:0≤k) (hz:z≤100000) (hDM:DM[d.toNat]? = some [.sl SZ,up]) (hSZ:SZ[k.toNat]? = some [.int .i64 z]) (hLN:∀ m,m < z→(LN m).length≤100000)
  (cS:∀ m,m < z→CP 30 [.c (.agg [.sl DM,cm]),.c (.agg [q0,q1,q2,q3,q4,q5,q6,q7,q8]),.c (.int .i64 d),.c (.int .i64 k),.c (.int .i64 (m:Nat))] (.c (.tup [.agg (encQ (Q m)),.bool true])) [])
  (cL:∀ m,m < z→CP 25 [.c (.agg [.sl DM,cm]),.c (.agg [.int .u8 0,.int .u8 0,.int .u8 0,.int .u8 0]),.c g3,.c (.agg (encQ (Q m)))] (.c (.tup [.sl ((LN m).map encLn),.int .i64 0])) []) :
  ∀ (n m:Nat) (s:PS),m + n=z→s.t 3=.ptr 3 v3 0→s.bx 3=⟨v3,.var [.sl DM,cm,cr,e0,e1,e2,e3,e4,e5,e6,e7,e8,e9,e10,e11,e12]⟩→s.t 7=.c g3→s.t 8=.ptr 8 v8 0→s.bx 8=⟨v8,.var [q0,q1,q2,q3,q4,q5,q6,q7,q8]⟩ →
  s.t 9=.c (.int .i64 d)→s.t 10=.c (.int .i64 k)→s.t 14=.c (.int .i64 (m:Nat))→s.t 13=.ptr 13 v13 0→s.bx 13=⟨v13,.var [.int .i64 (wr (sumT (fun j=>totN (LN j)) m)),.int .i64 (wr (sumT (fun j=>totS (LN j)) m))]⟩ →
  (∀ s',s'.t 13=.ptr 13 v13 0→s'.bx 13=⟨v13,.var [.int .i64 (wr (sumT (fun j=>totN (LN j)) z)),.int .i64 (wr (sumT (fun j=>totS (LN j)) z))]⟩→s'.t 11=s.t 11→K (.x 0) s')→wP (CP) (.loop b10_0) s K:=by
 intro n
 induction n with
 | zero =>
  intro m s hm t3 b3 t7 t8 b8 t9 t10 t14 t13 b13 hx
  refine jf ?_
  obtain rfl:m=z:=by omega
  rw [← ja t3,← jc b3,← ja t9,← ja t10,← ja t14,← ja t13,← jc b13]
  unfold b10_0
  repeat' (first | refine ji rfl rfl hd0 hDM rfl ?_ | refine ji rfl rfl hk0 hSZ rfl ?_ | refine st8 ?_ | intro u)
  exact hx _ (by rfl) (by rfl) (by rfl)
 | succ n ih =>
  intro m s hm t3 b3 t7 t8 b8 t9 t10 t14 t13 b13 hx
  refine jf ?_
  have hmz:m < z:=by omega
  have c1:=cS m hmz
  have c2:=cL m hmz
  have li:=fun (K:Ex→PS→Prop) s=>sl_in (K:=K) (LN m) (hLN m hmz) v13 (LN m) 0 s (sumT (fun j=>totN (LN j)) m) (sumT (fun j=>totS (LN j)) m) rfl (by omega)
  have ih':=fun s=>ih (m + 1) s (by omega)
  have hs1:sumT (fun j=>totN (LN j)) (m + 1)=sumT (fun j=>totN (LN j)) m + totN (LN m):=rfl
  have hs2:sumT (fun j=>totS (LN j)) (m + 1)=sumT (fun j=>totS (LN j)) m + totS (LN m):=rfl
  rw [hs1,hs2] at ih'
  clear cS cL hLN
  rw [← ja t3,← jc b3,← ja t7,← ja t8,← jc b8,← ja t9,← ja t10,← ja t14,← ja t13,← jc b13]
  generalize (LN m).map encLn=M at *
  unfold encQ encP at *
  dsimp only [List.cons_append,List.nil_append] at *
  unfold b10_0
  repeat' (first | refine ji rfl rfl hd0 hDM rfl ?_ | refine ji rfl rfl hk0 hSZ rfl ?_ | refine call5 rfl rfl rfl rfl rfl c1 ?_ | refine call4 rfl rfl rfl rfl c2 ?_ | refine st8 ?_ | intro u)
  refine li _ _ (by rfl) (by rfl) (by rfl) (by rfl) (fun s' u13 d13 f=>?_)
  have g3':s'.t 3=.ptr 3 v3 0:=f.a3
  have g7':s'.t 7=.c g3:=f.a7
  have g8':s'.t 8=.ptr 8 v8 0:=f.a8
  have g9':s'.t 9=.c (.int .i64 d):=f.a9
  have g10':s'.t 10=.c (.int .i64 k):=f.a10
  have g14':s'.t 14=.c (.int .i64 (m:Nat)):=f.a14
  have k3':s'.bx 3=⟨v3,.var [.sl DM,cm,cr,e0,e1,e2,e3,e4,e5,e6,e7,e8,e9,e10,e11,e12]⟩:=f.b3
  have k8':s'.bx 8=⟨v8,.var [q0,q1,q2,q3,q4,q5,q6,q7,q8]⟩:=f.b8
  have g11':s'.t 11=s.t 11:=f.a11
  rw [← ja g3',← ja g7',← ja g8',← ja g9',← ja g10',← ja g14',← jc k3',← jc k8',← ja u13,← jc d13]
  repeat' (first | refine st0 ?_ | intro u)
  exact ih' _ (by rfl) (by rfl) (by rfl) (by rfl) (by rfl) (by rfl) (by rfl) (by rfl) (by rfl) (by rfl) (fun s2 w1 w2 w3=>hx s2 w1 w2 (w3.trans g11'))
set_option maxRecDepth 100000
set_option maxHeartbeats 16000000
def inL (l:LineS):Prop:=in64 l.n∧in64 l.s0∧in64 l.s1∧in64 l.lo0∧in64 l.lo1∧in64 l.hi0∧in64 l.hi1
def one1 (n:Int):Int:=if 1 > n then 1 else n
def sel (i x y:Int):Int:=if i=0 then x else y
def aheadC (f i:Int) (a b:LineS):Int :=
 if f=1 then cmpI b.n a.n else if i < 0∨2≤i then 0
 else if f=2 then cmpI (sel i b.s0 b.s1) (sel i a.s0 a.s1)
 else if f=3 then cmpI (sel i b.lo0 b.lo1) (sel i a.lo0 a.lo1)
 else if f=4 then cmpI (sel i b.hi0 b.hi1) (sel i a.hi0 a.hi1)
 else if f=5 then cmpI (sel i b.s0 b.s1 * one1 a.n) (sel i a.s0 a.s1 * one1 b.n) else 0
theorem Ww {n:Int} (h:in64 n):I64 (one1 n):=by
 unfold one1 in64 at *
 unfold I64
 split <;> omega
theorem jjs (f i:Int) (a b:LineS) (ha:inL a) (hb:inL b):CP 45 [.c (.int .i64 f),.c (.int .i64 i),.c (encLine a),.c (encLine b)] (.c (.int .i64 (aheadC f i a b))) []:=by
 obtain ⟨a1,a2,a3,a4,a5,a6,a7⟩:=ha
 obtain ⟨b1,b2,b3,b4,b5,b6,b7⟩:=hb
 have o1:=Ww a1
 have o2:=Ww b1
 refine pcallF Tryz.func45 c45 rfl ?_
 have d1:=kG b.n a.n
 have d2:=kG b.s0 a.s0
 have d3:=kG b.s1 a.s1
 have d4:=kG b.lo0 a.lo0
 have d5:=kG b.lo1 a.lo1
 have d6:=kG b.hi0 a.hi0
 have d7:=kG b.hi1 a.hi1
 have d8:=jkp b.s0 (one1 a.n) a.s0 (one1 b.n) b2 o1 a2 o2
 have d9:=jkp b.s1 (one1 a.n) a.s1 (one1 b.n) b3 o1 a3 o2
 unfold one1 at d8 d9
 have hf:f=1∨f=2∨f=3∨f=4∨f=5∨(f < 1∨5 < f):=by omega
 have hi:(i < 0∨2≤i)∨i=0∨i=1:=by omega
 unfold p45
 rcases hf with rfl | rfl | rfl | rfl | rfl | hf
 ·rw [show aheadC 1 i a b=cmpI b.n a.n by simp [aheadC]]
  repeat' (first | refine call2 rfl rfl d1 ?_ | refine st2 ?_ | intro u)
  exact jd rfl rfl
 ·rcases hi with hi | rfl | rfl
  ·rw [show aheadC 2 i a b=0 by simp [aheadC,hi]]
   rcases hi with hi | hi
   all_goals
    repeat' (first | refine st2 ?_ | intro u)
   all_goals exact jd rfl rfl
  ·rw [show aheadC 2 0 a b=cmpI b.s0 a.s0 by simp [aheadC,sel]]
   repeat' (first | refine call2 rfl rfl d2 ?_ | refine st2 ?_ | intro u)
   exact jd rfl rfl
  ·rw [show aheadC 2 1 a b=cmpI b.s1 a.s1 by simp [aheadC,sel]]
   repeat' (first | refine call2 rfl rfl d3 ?_ | refine st2 ?_ | intro u)
   exact jd rfl rfl
 ·rcases hi with hi | rfl | rfl
  ·rw [show aheadC 3 i a b=0 by simp [aheadC,hi]]
   rcases hi with hi | hi
   all_goals
    repeat' (first | refine st2 ?_ | intro u)
   all_goals exact jd rfl rfl
  ·rw [show aheadC 3 0 a b=cmpI b.lo0 a.lo0 by simp [aheadC,sel]]
   repeat' (first | refine call2 rfl rfl d4 ?_ | refine st2 ?_ | intro u)
   exact jd rfl rfl
  ·rw [show aheadC 3 1 a b=cmpI b.lo1 a.lo1 by simp [aheadC,sel]]
   repeat' (first | refine call2 rfl rfl d5 ?_ | refine st2 ?_ | intro u)
   exact jd rfl rfl
 ·rcases hi with hi | rfl | rfl
  ·rw [show aheadC 4 i a b=0 by simp [aheadC,hi]]
   rcases hi with hi | hi
   all_goals
    repeat' (first | refine st2 ?_ | intro u)
   all_goals exact jd rfl rfl
  ·rw [show aheadC 4 0 a b=cmpI b.hi0 a.hi0 by simp [aheadC,sel]]
   repeat' (first | refine call2 rfl rfl d6 ?_ | refine st2 ?_ | intro u)
   exact jd rfl rfl
  ·rw [show aheadC 4 1 a b=cmpI b.hi1 a.hi1 by simp [aheadC,sel]]
   repeat' (first | refine call2 rfl rfl d7 ?_ | refine st2 ?_ | intro u)
   exact jd rfl rfl
 ·rcases hi with hi | rfl | rfl
  ·rw [show aheadC 5 i a b=0 by simp [aheadC,hi]]
   rcases hi with hi | hi
   all_goals
    repeat' (first | refine st2 ?_ | intro u)
   all_goals exact jd rfl rfl
  ·rw [show aheadC 5 0 a b=cmpI (b.s0 * one1 a.n) (a.s0 * one1 b.n) by simp [aheadC,sel]]
   repeat' (first | refine call4 rfl rfl rfl rfl d8 ?_ | refine st2 ?_ | intro u)
   exact jd rfl rfl
  ·rw [show aheadC 5 1 a b=cmpI (b.s1 * one1 a.n) (a.s1 * one1 b.n) by simp [aheadC,sel]]
   repeat' (first | refine call4 rfl rfl rfl rfl d9 ?_ | refine st2 ?_ | intro u)
   exact jd rfl rfl
 ·have e:aheadC f i a b=0:=by
   unfold aheadC
   rw [if_neg (by omega)]
   split
   ·rfl
   ·rw [if_neg (by omega),if_neg (by omega),if_neg (by omega),if_neg (by omega)]
  rw [e]
  rcases hi with (hi | hi) | rfl | rfl
  all_goals
   repeat' (first | refine st2 ?_ | intro u)
  all_goals exact jd rfl rfl
end Go.Proofs.YtnpncbplhdnonaaGreat
/- Part of the proof of ExecTells, ExecAnswers, ExecBest, ExecFirst, ExecLevels, ExecTops, ExecLimits: lemmas. -/
import Derived.Test.YtnpncbplhdnonaaGreatExecS15
import Derived.Test.YtnpncbplhdnonaaGreatExecS18
import Derived.Test.YtnpncbplhdnonaaGreatExecS20
import Derived.Test.YtnpncbplhdnonaaGreatExecS21
import Derived.Test.YtnpncbplhdnonaaGreatProg
import Derived.Shelf.SlSortCmp.NoneTotal
import Derived.Shelf.SlSortCmp.QuietGrown
set_option linter.unusedVariables false
set_option linter.unusedSimpArgs false
namespace Go.Proofs.YtnpncbplhdnonaaGreat
open Go.Pl Go.Bag
set_option maxRecDepth 100000
set_option maxHeartbeats 8000000
theorem wrap32_in {n:Int} (h:0≤n∧n≤4294967295):IntKind.u32.wrap n=n:=by
 simp [IntKind.wrap,IntKind.bits,IntKind.signed]
 omega
section
variable {C : CallP} {l : List POp} {s : PS} {K : PS → Prop} {d : Nat} {x y : PO} {a b : Int}
theorem Vs (hx:s.ev x=.c (.int .u32 a)) (hy:s.ev y=.c (.int .u32 b)) (hc:0≤a * b∧a * b≤4294967295) (h:wL C l (s.put d (.c (.int .u32 (a * b)))) K):wL C (⟨some d,.bin .mul x y,none⟩::l) s K :=
 vC hx hy (by simp only [binC,if_true,wrap32_in hc]) h
theorem Vt (hx:s.ev x=.c (.int .u32 a)) (hy:s.ev y=.c (.int .u32 b)) (hc:0≤a + b∧a + b≤4294967295) (h:wL C l (s.put d (.c (.int .u32 (a + b)))) K):wL C (⟨some d,.bin .add x y,none⟩::l) s K :=
 vC hx hy (by simp only [binC,if_true,wrap32_in hc]) h
theorem JI {sz:Nat} {k:IntKind} {es zs:List (List CV)} {j:Nat} (hx:s.ev x=.c (.sl es)) (hy:s.ev y=.c (.int k (j:Int))) (hj:j≤es.length) (hw:∀ e∈es,e.length=sz) (hz:es.drop j=zs)
  (h:wL C l (s.put d (.c (.sl zs))) K):wL C (⟨some d,.slc sz x (some y) none,none⟩::l) s K :=
 jew (i:=j) hx (by simp only [bound,PS.evc,hy]; rw [if_pos (Int.natCast_nonneg _)]; rfl) rfl ⟨hj,Nat.le_refl _⟩ hw (by simpa using hz) h
theorem kS {sz:Nat} {k:IntKind} {es zs:List (List CV)} {j:Nat} (hx:s.ev x=.c (.sl es)) (hy:s.ev y=.c (.int k (j:Int))) (hj:j≤es.length) (hw:∀ e∈es,e.length=sz) (hz:es.take j=zs)
  (h:wL C l (s.put d (.c (.sl zs))) K):wL C (⟨some d,.slc sz x none (some y),none⟩::l) s K :=
 jew hx rfl (by simp only [bound,PS.evc,hy]; rw [if_pos (Int.natCast_nonneg _)]; rfl) ⟨Nat.zero_le _,hj⟩ hw (by simpa using hz) h
end
theorem u8P4 {p:Go.Bag.Place} (h:u8P p):(0≤p.p0∧p.p0≤255)∧(0≤p.p1∧p.p1≤255)∧(0≤p.p2∧p.p2≤255)∧(0≤p.p3∧p.p3≤255) :=
 ⟨h _ (by simp [placeL]),h _ (by simp [placeL]),h _ (by simp [placeL]),h _ (by simp [placeL])⟩
theorem wk (p:Go.Bag.Place) (h:u8P p):CP 23 [.c (.agg (encP p))] (.c (.int .u32 (keyP p))) []:=by
 obtain ⟨h0,h1,h2,h3⟩:=u8P4 h
 refine pcallF Tryz.func23 c23 rfl ?_
 obtain ⟨p0,p1,p2,p3⟩:=p
 simp only at h0 h1 h2 h3
 unfold keyP encP
 dsimp only
 unfold p23
 repeat' (first | refine st2 ?_ | intro u)
 refine jf ?_
 unfold b23_0
 repeat' (first | refine Vs rfl rfl (by omega) ?_ | refine Vt rfl rfl (by omega) ?_ | refine jL rfl (wrap32_in (by omega)) ?_ | refine st1 ?_ | intro u)
 refine jf ?_
 repeat' (first | refine Vs rfl rfl (by omega) ?_ | refine Vt rfl rfl (by omega) ?_ | refine jL rfl (wrap32_in (by omega)) ?_ | refine st1 ?_ | intro u)
 refine jf ?_
 repeat' (first | refine Vs rfl rfl (by omega) ?_ | refine Vt rfl rfl (by omega) ?_ | refine jL rfl (wrap32_in (by omega)) ?_ | refine st1 ?_ | intro u)
 refine jf ?_
 repeat' (first | refine Vs rfl rfl (by omega) ?_ | refine Vt rfl rfl (by omega) ?_ | refine jL rfl (wrap32_in (by omega)) ?_ | refine st1 ?_ | intro u)
 refine jf ?_
 repeat' (first | refine st0 ?_ | intro u)
 refine jd rfl ?_
 simp only [km]
 congr 1
 omega
theorem w9 (a b:Go.Bag.Place):eqC true [LK.i,LK.i,LK.i,LK.i] (.agg (encP a)) (.agg (encP b))=some (decide (a=b)):=by
 obtain ⟨a0,a1,a2,a3⟩:=a
 obtain ⟨b0,b1,b2,b3⟩:=b
 have:eqC true [LK.i,LK.i,LK.i,LK.i] (.agg (encP ⟨a0,a1,a2,a3⟩)) (.agg (encP ⟨b0,b1,b2,b3⟩))=some ((a0 == b0) && ((a1 == b1) && ((a2 == b2) && ((a3 == b3) && true)))):=by simp [eqC,shEq,encP]
 rw [this]
 congr 1
 by_cases h0:a0=b0 <;> by_cases h1:a1=b1 <;> by_cases h2:a2=b2 <;> by_cases h3:a3=b3 <;> simp [h0,h1,h2,h3]
end Go.Proofs.YtnpncbplhdnonaaGreat
/-
 DERIVED: THE SHELF's CONTRACTS AT THIS DUMP,IN PLAIN WORDS (tools/lay-plain.mjs out of 'YtnpncbplhdnonaaGreatLaysFQ.lean',which tools/lay-shelf.mjs wrote): THE SAME DECLARATIONS UNDER THE SAME NAMES: 'import','namespace','open','def','theorem' AND NOTHING ELSE: no command of the shelf's: FOR A HAND-IN. Each laying: the table of numbers ('.._ren') and one theorem,a field a fact of the dump's own or the kernel's comparison; each contract: ONE APPLICATION.
-/
namespace Go.Proofs
open Go.Shelf
def Tryz.sortF_ren:Go.Shelf.Ren:=⟨fun | 6=>132 | 15=>157 | 14=>156 | 28=>171 | 29=>172 | 20=>163 | 21=>164 | 22=>165 | 23=>166 | 24=>167 | 25=>168 | 26=>169 | 27=>170 | 46=>175 | 47=>176 | 48=>177 | 49=>178 | 50=>179 | 57=>180 | n=>n,fun | 22=>119 | 24=>50 | 25=>100 | 3=>3 | 39=>141 | 0=>0 | 53=>55 | 55=>104 | 4=>4 | 46=>216 | 45=>215 | 50=>177 | 5=>5 | 9=>9 | 66=>224 | 70=>228 | 76=>230 | 77=>231 | n=>n,fun | n=>n⟩
theorem Tryz.sortF:Go.Proofs.SlLaysF0.n6 Tryz.prog Tryz.sortF_ren:={
 mixed:=by kernel_rfl
 f6:=⟨Tryz.f132.name,by decide,Tryz.func132.trans (congrArg some (by kernel_rfl))⟩
 f14:=⟨Tryz.f156.name,by decide,Tryz.func156.trans (congrArg some (by kernel_rfl))⟩
 f15:=Tryz.func157.trans (congrArg some (by kernel_rfl))
 f20:=⟨Tryz.f163.name,by decide,Tryz.func163.trans (congrArg some (by kernel_rfl))⟩
 f21:=⟨Tryz.f164.name,by decide,Tryz.func164.trans (congrArg some (by kernel_rfl))⟩
 f22:=⟨Tryz.f165.name,by decide,Tryz.func165.trans (congrArg some (by kernel_rfl))⟩
 f23:=⟨Tryz.f166.name,by decide,Tryz.func166.trans (congrArg some (by kernel_rfl))⟩
 f24:=⟨Tryz.f167.name,by decide,Tryz.func167.trans (congrArg some (by kernel_rfl))⟩
 f25:=⟨Tryz.f168.name,by decide,Tryz.func168.trans (congrArg some (by kernel_rfl))⟩
 f26:=⟨Tryz.f169.name,by decide,Tryz.func169.trans (congrArg some (by kernel_rfl))⟩
 f27:=⟨Tryz.f170.name,by decide,Tryz.func170.trans (congrArg some (by kernel_rfl))⟩
 f28:=Tryz.func171.trans (congrArg some (by kernel_rfl))
 f29:=Tryz.func172.trans (congrArg some (by kernel_rfl))
 f46:=⟨Tryz.f175.name,by decide,Tryz.func175.trans (congrArg some (by kernel_rfl))⟩
 f47:=Tryz.func176.trans (congrArg some (by kernel_rfl))
 f48:=Tryz.func177.trans (congrArg some (by kernel_rfl))
 f49:=⟨Tryz.f178.name,by decide,Tryz.func178.trans (congrArg some (by kernel_rfl))⟩
 f50:=⟨Tryz.f179.name,by decide,Tryz.func179.trans (congrArg some (by kernel_rfl))⟩
 f57:=⟨Tryz.f180.name,by decide,Tryz.func180.trans (congrArg some (by kernel_rfl))⟩
 t0:=Tryz.underlying0
 a0:=Tryz.isAgg0
 z0:=Tryz.sizeOf0
 v0:=Tryz.zeroValue0
 t3:=Tryz.underlying3
 a3:=Tryz.isAgg3
 z3:=Tryz.sizeOf3
 v3:=Tryz.zeroValue3
 t4:=Tryz.underlying4
 a4:=Tryz.isAgg4
 z4:=Tryz.sizeOf4
 v4:=Tryz.zeroValue4
 t5:=Tryz.underlying5
 a5:=Tryz.isAgg5
 z5:=Tryz.sizeOf5
 v5:=Tryz.zeroValue5
 t9:=Tryz.underlying9
 a9:=Tryz.isAgg9
 z9:=Tryz.sizeOf9
 v9:=Tryz.zeroValue9
 t22:=Tryz.underlying119
 a22:=Tryz.isAgg119
 z22:=Tryz.sizeOf119
 v22:=Tryz.zeroValue119
 t25:=Tryz.underlying100
 a25:=Tryz.isAgg100
 z25:=Tryz.sizeOf100
 v25:=Tryz.zeroValue100
 t39:=Tryz.underlying141
 a39:=Tryz.isAgg141
 z39:=Tryz.sizeOf141
 v39:=Tryz.zeroValue141
 t45:=Tryz.underlying215
 a45:=Tryz.isAgg215
 z45:=Tryz.sizeOf215
 v45:=Tryz.zeroValue215
 t46:=Tryz.underlying216
 a46:=Tryz.isAgg216
 z46:=Tryz.sizeOf216
 v46:=Tryz.zeroValue216
 t50:=Tryz.underlying177
 a50:=Tryz.isAgg177
 z50:=Tryz.sizeOf177
 v50:=Tryz.zeroValue177
 t53:=Tryz.underlying55
 a53:=Tryz.isAgg55
 z53:=Tryz.sizeOf55
 v53:=Tryz.zeroValue55
 t55:=Tryz.underlying104
 a55:=Tryz.isAgg104
 z55:=Tryz.sizeOf104
 v55:=Tryz.zeroValue104
 t66:=Tryz.underlying224
 a66:=Tryz.isAgg224
 z66:=Tryz.sizeOf224
 v66:=Tryz.zeroValue224
 t70:=Tryz.underlying228
 a70:=Tryz.isAgg228
 z70:=Tryz.sizeOf228
 v70:=Tryz.zeroValue228
 t76:=Tryz.underlying230
 a76:=Tryz.isAgg230
 z76:=Tryz.sizeOf230
 v76:=Tryz.zeroValue230
 t77:=Tryz.underlying231
 a77:=Tryz.isAgg231
 z77:=Tryz.sizeOf231
 v77:=Tryz.zeroValue231 }
end Go.Proofs
/-
 exec.key,AS THE SORT ASKS IT: in whatever world,it tells how two places stand to each other,lays blocks,draws,and turns nothing. My own.
-/
namespace Go.Proofs.YtnpncbplhdnonaaGreat
open Go.RowKit Go.Maps Go.Sort Go.Shelf Go.Pl Go.Bag
theorem or8 (a b:Int) (ha:0≤a∧a < 16777216) (hb:0≤b∧b < 256):IntKind.u32.wrap (BitVec.ofInt 32 (a * 256) ||| BitVec.ofInt 32 b).toNat=a * 256 + b:=by
 obtain ⟨x,rfl⟩:=Int.eq_ofNat_of_zero_le ha.1
 obtain ⟨y,rfl⟩:=Int.eq_ofNat_of_zero_le hb.1
 have hx:x < 16777216:=by omega
 have hy:y < 256:=by omega
 have e1:(BitVec.ofInt 32 ((x:Int) * 256))=BitVec.ofNat 32 (x <<< 8):=by
  rw [Nat.shiftLeft_eq,show ((x:Int) * 256)=((x * 2 ^ 8:Nat):Int) by omega,BitVec.ofInt_natCast]
 rw [e1,BitVec.ofInt_natCast,BitVec.toNat_or,BitVec.toNat_ofNat,BitVec.toNat_ofNat,Nat.mod_eq_of_lt (by rw [Nat.shiftLeft_eq]; omega),Nat.mod_eq_of_lt (by omega)]
 rw [← Nat.shiftLeft_add_eq_or_of_lt (by omega),Nat.shiftLeft_eq]
 simp [IntKind.wrap,IntKind.bits,IntKind.signed]
 omega
set_option maxRecDepth 100000 in
set_option maxHeartbeats 2000000 in
theorem jce (p:Go.Bag.Place) (hp:u8P p) (w:World):Calls Tryz.prog 83 #[encPA p] w fun e w'=>e=.returned (.int .u32 (keyP p))∧∃ q os',w'=grow (w.drewN q) os':=by
 refine calls_of_wp Tryz.func83 rfl ?_
 simp only [Tryz.ntmps83,List.size_toArray,List.length_cons,List.length_nil,Nat.reduceAdd,Nat.reduceSub,Array.replicate_succ,Array.replicate_zero,List.push_toArray,List.append_toArray,List.nil_append,List.cons_append]
 unfold encPA encPV
 have hx0:∀ (a b c d:Value) (W:World),(Instr.index 50 (.agg #[a,b,c,d]) (.int .i64 0)).run Tryz.prog W=.ok a W:=fun a b c d W=>rfl
 have hx1:∀ (a b c d:Value) (W:World),(Instr.index 50 (.agg #[a,b,c,d]) (.int .i64 1)).run Tryz.prog W=.ok b W:=fun a b c d W=>rfl
 have hx2:∀ (a b c d:Value) (W:World),(Instr.index 50 (.agg #[a,b,c,d]) (.int .i64 2)).run Tryz.prog W=.ok c W:=fun a b c d W=>rfl
 have hx3:∀ (a b c d:Value) (W:World),(Instr.index 50 (.agg #[a,b,c,d]) (.int .i64 3)).run Tryz.prog W=.ok d W:=fun a b c d W=>rfl
 go_wp2
 refine wp_loop_rounds 5 ?_
 rw [rounds_succ]
 go_wp2
 rw [rounds_succ]
 go_wp2
 rw [rounds_succ]
 go_wp2
 rw [rounds_succ]
 go_wp2
 rw [rounds_succ]
 go_wp2
 go_ret
 obtain ⟨h0,h1,h2,h3⟩:=u8P4 hp
 refine ⟨?_,0,#[_],by rw [alloc_eq_grow]; rfl⟩
 have hb:∀ a b:Int,bits .or .u32 a b=IntKind.u32.wrap (BitVec.ofInt 32 a ||| BitVec.ofInt 32 b).toNat:=fun a b=>rfl
 have e0:bits .or .u32 0 (p.p0 % 4294967296)=p.p0:=by
  have:=or8 0 p.p0 (by omega) (by omega)
  rw [hb,show p.p0 % 4294967296=p.p0 by omega]
  simpa using this
 have e1:bits .or .u32 (p.p0 * 256 % 4294967296) (p.p1 % 4294967296)=p.p0 * 256 + p.p1:=by
  rw [hb,show p.p0 * 256 % 4294967296=p.p0 * 256 by omega,show p.p1 % 4294967296=p.p1 by omega]
  exact or8 _ _ (by omega) (by omega)
 have e2:bits .or .u32 ((p.p0 * 256 + p.p1) * 256 % 4294967296) (p.p2 % 4294967296)=(p.p0 * 256 + p.p1) * 256 + p.p2:=by
  rw [hb,show (p.p0 * 256 + p.p1) * 256 % 4294967296=(p.p0 * 256 + p.p1) * 256 by omega,show p.p2 % 4294967296=p.p2 by omega]
  exact or8 _ _ (by omega) (by omega)
 have e3:bits .or .u32 (((p.p0 * 256 + p.p1) * 256 + p.p2) * 256 % 4294967296) (p.p3 % 4294967296)=((p.p0 * 256 + p.p1) * 256 + p.p2) * 256 + p.p3:=by
  rw [hb,show ((p.p0 * 256 + p.p1) * 256 + p.p2) * 256 % 4294967296=((p.p0 * 256 + p.p1) * 256 + p.p2) * 256 by omega,show p.p3 % 4294967296=p.p3 by omega]
  exact or8 _ _ (by omega) (by omega)
 show Ending.returned (.int .u32 (bits .or .u32 (bits .or .u32 (bits .or .u32 (bits .or .u32 0 (p.p0 % 4294967296) * 256 % 4294967296) (p.p1 % 4294967296) * 256 % 4294967296) (p.p2 % 4294967296) * 256 % 4294967296) (p.p3 % 4294967296)))=_
 rw [e0,e1,e2,e3]
 rfl
theorem YJ (a:Int) (w:World):Calls Tryz.prog 126 #[.int .u32 a] w fun e w'=>e=.returned (.bool false)∧w'=w:=by
 refine calls_of_wp Tryz.func126 rfl ?_
 simp only [Tryz.ntmps126,List.size_toArray,List.length_cons,List.length_nil,Nat.reduceAdd,Nat.reduceSub,Array.replicate_succ,Array.replicate_zero,List.push_toArray,List.append_toArray,List.nil_append,List.cons_append]
 go_wp2
 go_ret
 simp
set_option maxHeartbeats 2000000 in
theorem jir (a b:Int) (w:World):Calls Tryz.prog 82 #[.int .u32 a,.int .u32 b] w fun e w'=>e=.returned (.int .i64 (cmpI a b))∧w'=w:=by
 refine calls_of_wp Tryz.func82 rfl ?_
 simp only [Tryz.ntmps82,List.size_toArray,List.length_cons,List.length_nil,Nat.reduceAdd,Nat.reduceSub,Array.replicate_succ,Array.replicate_zero,List.push_toArray,List.append_toArray,List.nil_append,List.cons_append]
 by_cases h1:a < b
 ·have hd:decide (a < b)=true:=decide_eq_true h1
  go_wp2_with (go_at_call 126; refine (YJ _ _).mono ?_; rintro e w' ⟨rfl,rfl⟩)
  go_ret
  exact ⟨by unfold cmpI; rw [if_pos (by omega)]; rfl,rfl⟩
 ·have hd:decide (a < b)=false:=decide_eq_false h1
  by_cases h2:b < a
  ·have hd2:decide (b < a)=true:=decide_eq_true h2
   go_wp2_with (go_at_call 126; refine (YJ _ _).mono ?_; rintro e w' ⟨rfl,rfl⟩)
   go_ret
   exact ⟨by unfold cmpI; rw [if_neg (by omega),if_pos (by omega)]; rfl,rfl⟩
  ·have hd2:decide (b < a)=false:=decide_eq_false h2
   go_wp2_with (go_at_call 126; refine (YJ _ _).mono ?_; rintro e w' ⟨rfl,rfl⟩)
   go_ret
   exact ⟨by unfold cmpI; rw [if_neg (by omega),if_neg (by omega)]; rfl,rfl⟩
set_option maxRecDepth 100000 in
set_option maxHeartbeats 400000 in
theorem jis (p q:Go.Bag.Place) (hp:u8P p) (hq:u8P q) (w:World):Calls Tryz.prog 46 #[encPA p,encPA q] w fun e w'=>e=.returned (.int .i64 (cmpI (keyP p) (keyP q)))∧∃ m os',w'=grow (w.drewN m) os':=by
 have mixed:Tryz.prog.follows .mixedOrders=true:=by kernel_rfl
 refine calls_of_wp Tryz.func46 rfl ?_
 simp only [Tryz.ntmps46,List.size_toArray,List.length_cons,List.length_nil,Nat.reduceAdd,Nat.reduceSub,Array.replicate_succ,Array.replicate_zero,List.push_toArray,List.append_toArray,List.nil_append,List.cons_append]
 have hk1:=fun W=>jce p hp W
 have hk2:=fun W=>jce q hq W
 unfold encPA encPV at *
 go_wp2_with fail
 obtain ⟨W,hW⟩:∃ W,(w.alloc (.cells #[.int .u8 p.p0,.int .u8 p.p1,.int .u8 p.p2,.int .u8 p.p3] 50)).alloc (.cells #[.int .u8 q.p0,.int .u8 q.p1,.int .u8 q.p2,.int .u8 q.p3] 50)=W:=⟨_,rfl⟩
 rw [hW]
 have hg:W=grow w #[.cells #[.int .u8 p.p0,.int .u8 p.p1,.int .u8 p.p2,.int .u8 p.p3] 50,.cells #[.int .u8 q.p0,.int .u8 q.p1,.int .u8 q.p2,.int .u8 q.p3] 50]:=by
  rw [← hW,alloc_eq_grow,alloc_eq_grow,grow_grow]; rfl
 have hs:W.heap.size=w.heap.size + 2:=by rw [← hW]; simp
 have b2:W.heap[w.heap.size + 1]? = some (.cells #[.int .u8 q.p0,.int .u8 q.p1,.int .u8 q.p2,.int .u8 q.p3] 50 (0,0)):=by
  rw [← hW]
  have:=World.alloc_heap_new (w.alloc (.cells #[.int .u8 p.p0,.int .u8 p.p1,.int .u8 p.p2,.int .u8 p.p3] 50)) (.cells #[.int .u8 q.p0,.int .u8 q.p1,.int .u8 q.p2,.int .u8 q.p3] 50)
  rwa [World.size_alloc] at this
 have b1:W.heap[w.heap.size]? = some (.cells #[.int .u8 p.p0,.int .u8 p.p1,.int .u8 p.p2,.int .u8 p.p3] 50 (0,0)):=by
  rw [← hW]
  exact (Below.heap_alloc _ _ _ (by simp)).trans (World.alloc_heap_new w _)
 have r0:=fun n os=>cell_grown (w:=W) (a:=⟨w.heap.size,0,none⟩) (v:=.int .u8 p.p0) (by show w.heap.size < W.heap.size; omega) (by simp [World.cell?,b1]) n os
 have r1:=fun n os=>cell_grown (w:=W) (a:=⟨w.heap.size,1,none⟩) (v:=.int .u8 p.p1) (by show w.heap.size < W.heap.size; omega) (by simp [World.cell?,b1]) n os
 have r2:=fun n os=>cell_grown (w:=W) (a:=⟨w.heap.size,2,none⟩) (v:=.int .u8 p.p2) (by show w.heap.size < W.heap.size; omega) (by simp [World.cell?,b1]) n os
 have r3:=fun n os=>cell_grown (w:=W) (a:=⟨w.heap.size,3,none⟩) (v:=.int .u8 p.p3) (by show w.heap.size < W.heap.size; omega) (by simp [World.cell?,b1]) n os
 have s0:=fun n os=>cell_grown (w:=W) (a:=⟨w.heap.size + 1,0,none⟩) (v:=.int .u8 q.p0) (by show w.heap.size + 1 < W.heap.size; omega) (by simp [World.cell?,b2]) n os
 have s1:=fun n os=>cell_grown (w:=W) (a:=⟨w.heap.size + 1,1,none⟩) (v:=.int .u8 q.p1) (by show w.heap.size + 1 < W.heap.size; omega) (by simp [World.cell?,b2]) n os
 have s2:=fun n os=>cell_grown (w:=W) (a:=⟨w.heap.size + 1,2,none⟩) (v:=.int .u8 q.p2) (by show w.heap.size + 1 < W.heap.size; omega) (by simp [World.cell?,b2]) n os
 have s3:=fun n os=>cell_grown (w:=W) (a:=⟨w.heap.size + 1,3,none⟩) (v:=.int .u8 q.p3) (by show w.heap.size + 1 < W.heap.size; omega) (by simp [World.cell?,b2]) n os
 have c1:=fun n os=>hk1 (grow (W.drewN n) os)
 have c2:=fun n os=>hk2 (grow (W.drewN n) os)
 have c3:=fun n os=>(jir (keyP p) (keyP q) (grow (W.drewN n) os)).mono fun e w' (h:_∧_)=>(⟨h.1,0,#[],by rw [h.2,grow_empty]; rfl⟩:e=.returned (.int .i64 (cmpI (keyP p) (keyP q)))∧∃ m os',w'=grow ((grow (W.drewN n) os).drewN m) os')
 clear hW b1 b2
 have hfin:∀ n os,∃ m os',grow (W.drewN n) os=grow (w.drewN m) os':=fun n os=>⟨n,_,by rw [hg]; show grow (grow (w.drewN n) _) os=_; rw [grow_grow]⟩
 clear hg
 refine wp_region_quiet_grown (by assumption) (by kernel_rfl) ?_
 quiet_step (fail)
 quiet_step (first | (go_at_call 83; refine Calls.grown_of (c1 _ _)))
 quiet_step (fail)
 quiet_step (first | (go_at_call 83; refine Calls.grown_of (c2 _ _)))
 quiet_step (first | (go_at_call 82; refine Calls.grown_of (c3 _ _)))
 quiet_step (fail)
 refine wpQuiet_nil ?_
 rintro _ ⟨⟨nq,osq⟩,rfl⟩
 go_wp2
 go_ret
 exact ⟨rfl,hfin _ _⟩
end Go.Proofs.YtnpncbplhdnonaaGreat
namespace Go.Proofs.YtnpncbplhdnonaaGreat
open Go.Pl Go.Bag
set_option maxRecDepth 100000
set_option maxHeartbeats 16000000
theorem jit {K:KT} (c:CatS) (hin:∀ d∈c.dims,okDim d∧okUp d) (hlen:c.dims.length≤4) (v a:Go.Bag.Place) (hv:u8P v) (ha:u8P a) (v3 v4 v5:Nat):∀ (xs ys:List Int) (ds:List DimS) (i:Nat) (s:PS),(placeL v).drop i=xs→(placeL a).drop i=ys→c.dims.drop i=ds→i≤4 →
  s.t 3=.ptr 3 v3 0→s.bx 3=⟨v3,.var [.sl (c.dims.map encDim),.int .i64 c.m]⟩→s.t 4=.ptr 4 v4 0→s.bx 4=⟨v4,.var (encP v)⟩→s.t 5=.ptr 5 v5 0→s.bx 5=⟨v5,.var (encP a)⟩→s.t 11=.c (.int .i64 i) →
  (rightL ds xs ys=true→∀ s',K (.x 0) s')→(rightL ds xs ys=false→∀ s',s'.t 6=.c (.bool false)→K .r s')→wP (CP) (.loop b59_0) s K:=by
 intro xs
 induction xs with
 | nil =>
  intro ys ds i s hx' hy hd hi t3 b3 t4 b4 t5 b5 t11 hx hr
  refine jf ?_
  have h4:i=4:=jm hx' hi
  subst h4
  have:ys=[]:=by rw [← hy]; rfl
  subst this
  rw [← ja t3,← jc b3,← ja t4,← jc b4,← ja t5,← jc b5,← ja t11]
  unfold b59_0
  repeat' (first | refine st0 ?_ | intro u)
  exact hx (by cases ds <;> rfl) _
 | cons x xs ih =>
  intro ys ds i s hx' hy hd hi t3 b3 t4 b4 t5 b5 t11 hx hr
  refine jf ?_
  obtain ⟨gx,hi4⟩:=jV hx'
  have hys:∃ y ys',ys=y::ys':=by
   cases ys with
   | nil=>have:=jm hy (by show i≤4; omega); exact absurd this (by show i≠4; omega)
   | cons y ys'=>exact ⟨y,ys',rfl⟩
  obtain ⟨y,ys,rfl⟩:=hys
  obtain ⟨gy,_⟩:=jV hy
  have nx:=jg hx'
  have ny:=jg hy
  have rx:=rd1 gx
  have ry:=rd1 gy
  have lx:(0 + ((i:Nat):Int).toNat * 1) + 1≤(encP v).length:=jZ (by show 0 + i < 4; omega)
  have ly:(0 + ((i:Nat):Int).toNat * 1) + 1≤(encP a).length:=jZ (by show 0 + i < 4; omega)
  have ux:=hv x (List.mem_of_mem_drop (by rw [hx']; simp))
  have uy:=ha y (List.mem_of_mem_drop (by rw [hy]; simp))
  rw [← ja t3,← jc b3,← ja t4,← jc b4,← ja t5,← jc b5,← ja t11]
  generalize encP v=ev at *
  generalize encP a=ea at *
  cases ds with
  | nil =>
   have hil:c.dims.length≤i:=List.drop_eq_nil_iff.mp hd
   simp only [rightL] at hx hr
   unfold b59_0
   by_cases h1:x=0
   ·by_cases h2:y=0
    ·repeat' (first | refine je rfl (List.length_map _) ?_ | refine jl rfl (by decide) rfl lx rx ?_ | refine jl rfl (by decide) rfl ly ry ?_ | refine st7 ?_ | intro u)
     refine ih ys [] (i + 1) _ nx ny (List.drop_eq_nil_iff.mpr (by omega)) (by omega) (by rfl) (by rfl) (by rfl) (by rfl) (by rfl) (by rfl) (by rfl) (fun h=>hx ?_) (fun h=>hr ?_)
     ·rw [h]; simp [h1,h2]
     ·rw [h]; simp
    ·repeat' (first | refine je rfl (List.length_map _) ?_ | refine jl rfl (by decide) rfl lx rx ?_ | refine jl rfl (by decide) rfl ly ry ?_ | refine st3 ?_ | intro u)
     exact hr (by simp [h2]) _ (by rfl)
   ·repeat' (first | refine je rfl (List.length_map _) ?_ | refine jl rfl (by decide) rfl lx rx ?_ | refine st3 ?_ | intro u)
    exact hr (by simp [h1]) _ (by rfl)
  | cons d ds =>
   have he:(c.dims.map encDim)[i]? = some (encDim d):=jp hd
   have hil:=jo hd
   have hdm:=hin d (List.mem_of_mem_drop (by rw [hd]; simp))
   have c1:=Ws d x hdm.1 hdm.2
   have sd:=@sizeD_in d x
   simp only [rightL] at hx hr
   generalize sizeD d x=z at *
   unfold encDim at he c1
   unfold b59_0
   by_cases h1:y < z
   ·repeat' (first | refine je rfl (List.length_map _) ?_ | refine jl rfl (by decide) rfl lx rx ?_ | refine jl rfl (by decide) rfl ly ry ?_ | refine call2 rfl rfl c1 ?_ | refine st1 ?_ | intro u)
    refine ih ys ds (i + 1) _ nx ny (jg hd) (by omega) (by rfl) (by rfl) (by rfl) (by rfl) (by rfl) (by rfl) (by rfl) (fun h=>hx ?_) (fun h=>hr ?_)
    ·rw [h]; simp [h1]
    ·rw [h]; simp
   ·repeat' (first | refine je rfl (List.length_map _) ?_ | refine jl rfl (by decide) rfl lx rx ?_ | refine jl rfl (by decide) rfl ly ry ?_ | refine call2 rfl rfl c1 ?_ | refine st3 ?_ | intro u)
    exact hr (by simp [h1]) _ (by rfl)
theorem Vu (c:CatS) (v a:Go.Bag.Place) (h:okCat2 c) (hv:u8P v) (ha:u8P a):CP 59 [.c (.agg (encCat c)),.c (.agg (encP v)),.c (.agg (encP a))] (.c (.bool (rightC c v a))) []:=by
 have c1:=jip c h
 refine pcallF Tryz.func59 c59 rfl ?_
 unfold rightC
 unfold encCat at c1 ⊢
 unfold p59
 cases g:goodCat c with
 | false =>
  rw [g] at c1
  rw [Bool.false_and]
  repeat' (first | refine call1 rfl c1 ?_ | refine st2 ?_ | intro u)
  exact jd rfl rfl
 | true =>
  rw [g] at c1
  rw [Bool.true_and]
  have hl:c.dims.length≤4:=by
   unfold goodCat at g
   simp only [Bool.and_eq_true,decide_eq_true_eq] at g
   exact g.1.1.2
  repeat' (first | refine call1 rfl c1 ?_ | refine st2 ?_ | intro u)
  refine jit c (fun d hd=>⟨h.1.2 d hd,h.2 d hd⟩) hl v a hv ha _ _ _ (placeL v) (placeL a) c.dims 0 _ rfl rfl rfl (by omega) (by rfl) (by rfl) (by rfl) (by rfl) (by rfl) (by rfl) (by rfl) (fun h s'=>?_) (fun h s' h2=>?_)
  ·rw [h]
   repeat' (first | refine st0 ?_ | intro u)
   exact jd rfl rfl
  ·rw [h,← ja h2]
   repeat' (first | refine j8 ?_ | refine kl ?_)
   exact jd rfl rfl
theorem Vv (c:CatS) (v:Go.Bag.Place) (h:okCat2 c) (hv:u8P v):CP 52 [.c (.agg (encCat c)),.c (.agg (encP v))] (.c (.bool (rightC c v zeroP))) []:=by
 have c1:=Vu c v zeroP h hv jv
 refine pcallF Tryz.func52 c52 rfl ?_
 unfold encCat at c1 ⊢
 unfold encP at c1 ⊢
 unfold p52
 repeat' (first | refine call3 rfl rfl rfl c1 ?_ | refine st5 ?_ | intro u)
 exact jd rfl rfl
theorem jiu (a b:Go.Bag.Place):CP 86 [.c (.agg (encP a)),.c (.agg (encP b))] (.c (.agg (encP (meetP a b)))) []:=by
 refine pcallF Tryz.func86 c86 rfl ?_
 obtain ⟨a0,a1,a2,a3⟩:=a
 obtain ⟨b0,b1,b2,b3⟩:=b
 unfold meetP encP
 dsimp only
 unfold p86
 repeat' (first | refine st3 ?_ | intro u)
 refine jf ?_
 unfold b86_0
 repeat' (first | refine st7 ?_ | intro u)
 refine jf ?_
 repeat' (first | refine st7 ?_ | intro u)
 refine jf ?_
 repeat' (first | refine st7 ?_ | intro u)
 refine jf ?_
 repeat' (first | refine st7 ?_ | intro u)
 refine jf ?_
 repeat' (first | refine st0 ?_ | intro u)
 exact jd (jh rfl rfl rfl rfl jk) rfl
theorem jcf (a b:Go.Bag.Place):CP 15 [.c (.agg (encP a)),.c (.agg (encP b))] (.c (.agg (encP (meetP a b)))) []:=by
 refine pcallF Tryz.func15 c15 rfl ?_
 obtain ⟨a0,a1,a2,a3⟩:=a
 obtain ⟨b0,b1,b2,b3⟩:=b
 unfold meetP encP
 dsimp only
 unfold p15
 repeat' (first | refine st3 ?_ | intro u)
 refine jf ?_
 unfold b15_0
 repeat' (first | refine st7 ?_ | intro u)
 refine jf ?_
 repeat' (first | refine st7 ?_ | intro u)
 refine jf ?_
 repeat' (first | refine st7 ?_ | intro u)
 refine jf ?_
 repeat' (first | refine st7 ?_ | intro u)
 refine jf ?_
 repeat' (first | refine st0 ?_ | intro u)
 exact jd (jh rfl rfl rfl rfl jk) rfl
theorem jiv (a b:Go.Bag.Place):CP 17 [.c (.agg (encP a)),.c (.agg (encP b))] (.c (.agg (encP (joinP a b)))) []:=by
 refine pcallF Tryz.func17 c17 rfl ?_
 obtain ⟨a0,a1,a2,a3⟩:=a
 obtain ⟨b0,b1,b2,b3⟩:=b
 unfold joinP encP
 dsimp only
 unfold p17
 repeat' (first | refine st3 ?_ | intro u)
 refine jf ?_
 unfold b17_0
 repeat' (first | refine st4 ?_ | intro u)
 refine jf ?_
 repeat' (first | refine st4 ?_ | intro u)
 refine jf ?_
 repeat' (first | refine st4 ?_ | intro u)
 refine jf ?_
 repeat' (first | refine st4 ?_ | intro u)
 refine jf ?_
 repeat' (first | refine st0 ?_ | intro u)
 exact jd (jh rfl rfl rfl rfl jk) rfl
theorem Xb (a b:Go.Bag.Place):CP 53 [.c (.agg (encP a)),.c (.agg (encP b))] (.c (.bool (belowP a b))) []:=by
 have c1:=jiu a b
 have hq:=w9 (meetP a b) a
 rw [ja0] at hq
 refine pcallF Tryz.func53 c53 rfl ?_
 generalize encP (meetP a b)=em at *
 unfold encP at *
 unfold p53
 repeat' (first | refine call2 rfl rfl c1 ?_ | refine jG rfl rfl hq ?_ | refine st2 ?_ | intro u)
 exact jd rfl rfl
theorem Xc (a b:Go.Bag.Place):CP 69 [.c (.agg (encP a)),.c (.agg (encP b))] (.c (.bool (belowP a b))) []:=by
 refine pcallF Tryz.func69 c69 rfl ?_
 obtain ⟨a0,a1,a2,a3⟩:=a
 obtain ⟨b0,b1,b2,b3⟩:=b
 unfold belowP encP
 dsimp only
 unfold p69
 repeat' (first | refine st2 ?_ | intro u)
 unfold b69_0
 refine jf ?_
 by_cases h0:a0≤b0
 ·repeat' (first | refine st1 ?_ | intro u)
  refine jf ?_
  by_cases h1:a1≤b1
  ·repeat' (first | refine st1 ?_ | intro u)
   refine jf ?_
   by_cases h2:a2≤b2
   ·repeat' (first | refine st1 ?_ | intro u)
    refine jf ?_
    by_cases h3:a3≤b3
    ·repeat' (first | refine st1 ?_ | intro u)
     refine jf ?_
     rw [decide_eq_true ⟨h0,h1,h2,h3⟩]
     repeat' (first | refine st0 ?_ | intro u)
     exact jd rfl rfl
    ·rw [decide_eq_false (by omega)]
     repeat' (first | refine st2 ?_ | intro u)
     exact jd rfl rfl
   ·rw [decide_eq_false (by omega)]
    repeat' (first | refine st2 ?_ | intro u)
    exact jd rfl rfl
  ·rw [decide_eq_false (by omega)]
   repeat' (first | refine st2 ?_ | intro u)
   exact jd rfl rfl
 ·rw [decide_eq_false (by omega)]
  repeat' (first | refine st2 ?_ | intro u)
  exact jd rfl rfl
/-! ### Key -/
section
variable {C : CallP} {l : List POp} {s : PS} {K : PS → Prop} {d : Nat} {x y : PO} {a b : Int}
theorem jcg (hx:s.ev x=.c (.int .u32 a)) (hy:s.ev y=.c (.int .u64 8)) (ha:0≤a∧a < 16777216) (h:wL C l (s.put d (.c (.int .u32 (a * 256)))) K):wL C (⟨some d,.bin .shl x y,none⟩::l) s K :=
 vC hx hy (by
  simp only [binC,shl]
  rw [if_pos ⟨by omega,by decide⟩,wrap32_in (by simp; omega)]
  simp) h
theorem jiw (hx:s.ev x=.c (.int .u32 (a * 256))) (hy:s.ev y=.c (.int .u32 b)) (ha:0≤a∧a < 16777216) (hb:0≤b∧b < 256) (h:wL C l (s.put d (.c (.int .u32 (a * 256 + b)))) K):wL C (⟨some d,.bin .or x y,none⟩::l) s K :=
 vC hx hy (by
  simp only [binC,if_true]
  congr 2
  exact or8 a b ha hb) h
end
theorem jkr (p:Go.Bag.Place) (h:u8P p):CP 83 [.c (.agg (encP p))] (.c (.int .u32 (keyP p))) []:=by
 obtain ⟨h0,h1,h2,h3⟩:=u8P4 h
 refine pcallF Tryz.func83 c83 rfl ?_
 obtain ⟨p0,p1,p2,p3⟩:=p
 simp only at h0 h1 h2 h3
 unfold keyP encP
 dsimp only
 unfold p83
 repeat' (first | refine st2 ?_ | intro u)
 refine jf ?_
 unfold b83_0
 repeat' (first | refine jcg rfl rfl (by omega) ?_ | refine jiw rfl rfl (by omega) (by omega) ?_ | refine jL rfl (wrap32_in (by omega)) ?_ | refine VD rfl rfl ⟨by omega,by omega,Nat.le_of_ble_eq_true rfl⟩ rfl ?_ | refine st1 ?_ | intro u)
 refine jf ?_
 repeat' (first | refine jcg rfl rfl (by omega) ?_ | refine jiw rfl rfl (by omega) (by omega) ?_ | refine jL rfl (wrap32_in (by omega)) ?_ | refine VD rfl rfl ⟨by omega,by omega,Nat.le_of_ble_eq_true rfl⟩ rfl ?_ | refine st1 ?_ | intro u)
 refine jf ?_
 repeat' (first | refine jcg rfl rfl (by omega) ?_ | refine jiw rfl rfl (by omega) (by omega) ?_ | refine jL rfl (wrap32_in (by omega)) ?_ | refine VD rfl rfl ⟨by omega,by omega,Nat.le_of_ble_eq_true rfl⟩ rfl ?_ | refine st1 ?_ | intro u)
 refine jf ?_
 repeat' (first | refine jcg rfl rfl (by omega) ?_ | refine jiw rfl rfl (by omega) (by omega) ?_ | refine jL rfl (wrap32_in (by omega)) ?_ | refine VD rfl rfl ⟨by omega,by omega,Nat.le_of_ble_eq_true rfl⟩ rfl ?_ | refine st1 ?_ | intro u)
 refine jf ?_
 repeat' (first | refine st0 ?_ | intro u)
 refine jd rfl ?_
 simp only [km]
 congr 1
 omega
theorem X5 (a:Int):CP 126 [.c (.int .u32 a)] (.c (.bool false)) []:=by
 refine pcallF Tryz.func126 c126 rfl ?_
 unfold p126
 repeat' (first | refine st2 ?_ | intro u)
 exact jd rfl rfl
theorem ZC (a b:Int):CP 82 [.c (.int .u32 a),.c (.int .u32 b)] (.c (.int .i64 (cmpI a b))) []:=by
 have n1:=X5 a
 have n2:=X5 b
 refine pcallF Tryz.func82 c82 rfl ?_
 unfold cmpI
 unfold p82
 by_cases h1:a < b
 ·rw [if_pos h1]
  repeat' (first | refine call1 rfl n1 ?_ | refine call1 rfl n2 ?_ | refine st2 ?_ | intro u)
  exact jd rfl rfl
 ·rw [if_neg h1]
  by_cases h2:b < a
  ·rw [if_pos h2]
   repeat' (first | refine call1 rfl n1 ?_ | refine call1 rfl n2 ?_ | refine st2 ?_ | intro u)
   exact jd rfl rfl
  ·rw [if_neg h2]
   repeat' (first | refine call1 rfl n1 ?_ | refine call1 rfl n2 ?_ | refine st2 ?_ | intro u)
   exact jd rfl rfl
theorem jf5 (p q:Go.Bag.Place) (hp:u8P p) (hq:u8P q):CP 46 [.c (.agg (encP p)),.c (.agg (encP q))] (.c (.int .i64 (cmpI (keyP p) (keyP q)))) []:=by
 have k1:=jkr p hp
 have k2:=jkr q hq
 have k3:=ZC (keyP p) (keyP q)
 refine pcallF Tryz.func46 c46 rfl ?_
 unfold encP at *
 unfold p46
 repeat' (first | refine call1 rfl k1 ?_ | refine call1 rfl k2 ?_ | refine call2 rfl rfl k3 ?_ | refine st2 ?_ | intro u)
 exact jd rfl rfl
set_option maxRecDepth 100000
set_option maxHeartbeats 16000000
theorem jf6 {d:DimS} {k:Nat} (hk:k < d.up.length):(d.up.map fun l=>[encIs l])[((k:Nat):Int).toNat]? = some [encIs (d.up.getD k [])]:=by
 simp [hk]
theorem jf7 {l:List Int} {m:Int} (h:m.toNat < l.length):(l.map fun n=>[CV.int .i64 n])[m.toNat]? = some [.int .i64 (l.getD m.toNat 0)]:=by
 simp [List.getD,h]
theorem jix {K:KT} (d:DimS) (g:goodDim d=true) (f w:Nat) (tt:Int) (v4:Nat) (hf:f + w < d.sizes.length):∀ (k i:Nat) (m:Int) (s:PS),i + k=w→0≤m→m < d.sizes.getD (f + i) 0 →
  s.t 1=.c (.int .i64 f)→s.t 2=.c (.int .i64 tt)→s.t 3=.c (.int .i64 m)→s.t 4=.ptr 4 v4 0→s.bx 4=⟨v4,.var [encIs d.sizes,.sl (d.up.map fun l=>[encIs l])]⟩→s.t 17=.c (.int .i64 w)→s.t 18=.c (.int .i64 i) →
  (∀ s',s'.t 3=.c (.int .i64 (upM d.up (f + i) k m))→K (.x 0) s')→wP (CP) (.loop b152_0) s K:=by
 intro k
 induction k with
 | zero =>
  intro i m s hi h0 h1 t1 t2 t3 t4 b4 t17 t18 hK
  refine jf ?_
  have:i=w:=by omega
  subst this
  rw [← ja t1,← ja t2,← ja t3,← ja t4,← jc b4,← ja t17,← ja t18]
  unfold b152_0
  repeat' (first | refine st0 ?_ | intro u)
  exact hK _ (by rfl)
 | succ k ih =>
  intro i m s hi h0 h1 t1 t2 t3 t4 b4 t17 t18 hK
  refine jf ?_
  obtain ⟨hs4,hu,hs,hup⟩:=kA g
  obtain ⟨e,hm⟩:=Vp _ _ hup (f + i) (by omega)
  have he:=jf6 (d:=d) (k:=f + i) (by omega)
  have e1:(((f:Int) + i)).toNat=((f + i:Nat):Int).toNat:=by omega
  have hml:m.toNat < (d.up.getD (f + i) []).length:=by omega
  have he2:=jf7 hml
  have hmem:(d.up.getD (f + i) []).getD m.toNat 0∈d.up.getD (f + i) []:=by
   rw [List.getD_eq_getElem?_getD (l:=d.up.getD (f + i) []),List.getElem?_eq_getElem hml]
   exact List.getElem_mem hml
  have hnx:=hm _ hmem
  have hK':∀ s',s'.t 3=.c (.int .i64 (upM d.up (f + (i + 1)) k ((d.up.getD (f + i) []).getD m.toNat 0)))→K (.x 0) s':=hK
  generalize hL:d.up.getD (f + i) []=L at *
  rw [← e1] at he
  generalize hz:L.getD m.toNat 0=z at *
  rw [← ja t1,← ja t2,← ja t3,← ja t4,← jc b4,← ja t17,← ja t18]
  unfold encIs at he ⊢
  unfold b152_0
  repeat' (first | refine st1 ?_ | intro u)
  exact ih (i + 1) z _ (by omega) hnx.1 hnx.2 (by rfl) (by rfl) (by rfl) (by rfl) (by rfl) (by rfl) (by rfl) hK'
theorem jiy (d:DimS) (f t m:Int) (h:liftOk d f t m):CP 152 [.c (.agg (encDim d)),.c (.int .i64 f),.c (.int .i64 t),.c (.int .i64 m)] (.c (.int .i64 (liftD d f t m))) []:=by
 obtain ⟨h1,h2,h3,h4⟩:=h
 obtain ⟨g,g0,g1⟩:=jQ h2
 obtain ⟨_,f0,f1⟩:=jQ (d:=d) (k:=f) (by omega)
 obtain ⟨hs4,hu,hs,hup⟩:=kA g
 refine pcallF Tryz.func152 c152 rfl ?_
 unfold liftD encDim
 by_cases e:t=d.sizes.length
 ·rw [if_pos e]
  unfold encIs
  unfold p152
  repeat' (first | refine je rfl (List.length_map _) ?_ | refine st2 ?_ | intro u)
  exact jd rfl rfl
 ·rw [if_neg e]
  rw [size_at g f0 (by omega)] at h4
  obtain ⟨f',rfl⟩:=Int.eq_ofNat_of_zero_le f0
  obtain ⟨w,hw⟩:=Int.eq_ofNat_of_zero_le (show 0≤t - (f':Int) by omega)
  have hw2:(t - (f':Int)).toNat=w:=by omega
  rw [hw2,Int.toNat_natCast]
  unfold encIs
  unfold p152
  repeat' (first | refine je rfl (List.length_map _) ?_ | refine st2 ?_ | intro u)
  refine jix d g f' w t _ (by omega) w 0 m _ (by omega) h3 (by simpa using h4) (by rfl) (by rfl) (by rfl) (by rfl) (by rfl) (by exact congrArg (fun n=>PV.c (CV.int .i64 n)) hw) (by rfl) (fun s' t3=>?_)
  rw [← ja t3]
  repeat' (first | refine st0 ?_ | intro u)
  exact jd rfl rfl
theorem jch (d:DimS) (f t m:Int) (hd:okDim d) (hu:okUp d):CP 127 [.c (.agg (encDim d)),.c (.int .i64 f),.c (.int .i64 t),.c (.int .i64 m)] (.c (.tup [.int .i64 (liftV d f t m).1,.bool (liftV d f t m).2])) []:=by
 have c1:=Ws d t hd hu
 have c2:=Ws d f hd hu
 have hsf:=@sizeD_in d f
 have cb:=W6 m 0 (sizeD d f - 1)
 refine pcallF Tryz.func127 c127 rfl ?_
 unfold liftV
 by_cases h:liftOk d f t m
 ·have cl:=jiy d f t m h
  rw [if_pos h]
  obtain ⟨h1,h2,h3,h4⟩:=h
  rw [decide_eq_true (show 0≤m∧m≤sizeD d f - 1 by omega)] at cb
  generalize liftD d f t m=r at *
  generalize sizeD d t=st at *
  generalize sizeD d f=sf at *
  unfold encDim at *
  unfold p127
  repeat' (first | refine call2 rfl rfl c1 ?_ | refine call2 rfl rfl c2 ?_ | refine call3 rfl rfl rfl cb ?_ | refine call4 rfl rfl rfl rfl cl ?_ | refine st2 ?_ | intro u)
  exact jd rfl rfl
 ·rw [if_neg h]
  unfold liftOk at h
  generalize sizeD d t=st at *
  generalize sizeD d f=sf at *
  unfold encDim at *
  unfold p127
  by_cases h1:f≤t
  ·by_cases h2:st=0
   ·repeat' (first | refine call2 rfl rfl c1 ?_ | refine st2 ?_ | intro u)
    exact jd rfl rfl
   ·rw [decide_eq_false (show ¬ (0≤m∧m≤sf - 1) by omega)] at cb
    repeat' (first | refine call2 rfl rfl c1 ?_ | refine call2 rfl rfl c2 ?_ | refine call3 rfl rfl rfl cb ?_ | refine st2 ?_ | intro u)
    exact jd rfl rfl
  ·repeat' (first | refine st2 ?_ | intro u)
   exact jd rfl rfl
/-! ### The document's -/
theorem jci {K:KT} (d:DimS) (g:goodDim d=true) (t:Int) (w:Nat) (v4:Nat) (hw:w≤d.up.length) (hwt:(w:Int)=t∨(w=d.up.length∧(w:Int)≤t)):∀ (k i:Nat) (m:Int) (s:PS),i + k=w→0≤m→m < d.sizes.getD i 0 →
  s.t 2=.c (.int .i64 t)→s.t 3=.c (.int .i64 m)→s.t 4=.ptr 4 v4 0→s.bx 4=⟨v4,.var [encIs d.sizes,.sl (d.up.map fun l=>[encIs l])]⟩→s.t 9=.c (.int .i64 i) →
  (∀ s',s'.t 2=.c (.int .i64 t)→s'.t 3=.c (.int .i64 (upM d.up i k m))→s'.t 4=.ptr 4 v4 0→s'.bx 4=⟨v4,.var [encIs d.sizes,.sl (d.up.map fun l=>[encIs l])]⟩→K (.x 0) s')→wP (CP) (.loop b107_0) s K:=by
 intro k
 have hlen:=(kA g)
 induction k with
 | zero =>
  intro i m s hi h0 h1 t2 t3 t4 b4 t9 hK
  refine jf ?_
  have:i=w:=by omega
  subst this
  rw [← ja t2,← ja t3,← ja t4,← jc b4,← ja t9]
  rcases hwt with hwt | hwt
  ·unfold b107_0
   repeat' (first | refine st2 ?_ | intro u)
   exact hK _ (by rfl) (by rfl) (by rfl) (by rfl)
  ·by_cases hlt:(i:Int) < t
   ·unfold b107_0
    repeat' (first | refine je rfl (List.length_map _) ?_ | refine st0 ?_ | intro u)
    exact hK _ (by rfl) (by rfl) (by rfl) (by rfl)
   ·unfold b107_0
    repeat' (first | refine st2 ?_ | intro u)
    exact hK _ (by rfl) (by rfl) (by rfl) (by rfl)
 | succ k ih =>
  intro i m s hi h0 h1 t2 t3 t4 b4 t9 hK
  refine jf ?_
  obtain ⟨hs4,hu,hs,hup⟩:=hlen
  obtain ⟨e,hm⟩:=Vp _ _ hup i (by omega)
  have he:=jf6 (d:=d) (k:=i) (by omega)
  have hml:m.toNat < (d.up.getD i []).length:=by omega
  have he2:=jf7 hml
  have hmem:(d.up.getD i []).getD m.toNat 0∈d.up.getD i []:=by
   rw [List.getD_eq_getElem?_getD (l:=d.up.getD i []),List.getElem?_eq_getElem hml]
   exact List.getElem_mem hml
  have hnx:=hm _ hmem
  have hlt:(i:Int) < t:=by rcases hwt with h | h <;> omega
  have hK':∀ s',s'.t 2=.c (.int .i64 t)→s'.t 3=.c (.int .i64 (upM d.up (i + 1) k ((d.up.getD i []).getD m.toNat 0)))→s'.t 4=.ptr 4 v4 0→s'.bx 4=⟨v4,.var [encIs d.sizes,.sl (d.up.map fun l=>[encIs l])]⟩→K (.x 0) s':=hK
  generalize hL:d.up.getD i []=L at *
  generalize hz:L.getD m.toNat 0=z at *
  rw [← ja t2,← ja t3,← ja t4,← jc b4,← ja t9]
  unfold encIs at he ⊢
  unfold b107_0
  repeat' (first | refine je rfl (List.length_map _) ?_ | refine st4 ?_ | intro u)
  exact ih (i + 1) z _ (by omega) hnx.1 hnx.2 (by rfl) (by rfl) (by rfl) (by rfl) (by rfl) hK'
theorem jcj (d:DimS) (f t m:Int) (hd:okDim d):CP 107 [.c (.agg (encDim d)),.c (.int .i64 f),.c (.int .i64 t),.c (.int .i64 m)] (.c (.int .i64 (if liftOk d f t m then liftD d f t m else -1))) []:=by
 have c1:=Vo d t hd
 have c2:=Vo d f hd
 refine pcallF Tryz.func107 c107 rfl ?_
 by_cases h:liftOk d f t m
 ·rw [if_pos h]
  obtain ⟨h1,h2,h3,h4⟩:=h
  obtain ⟨g,g0,g1⟩:=jQ h2
  obtain ⟨_,f0,f1⟩:=jQ (d:=d) (k:=f) (by omega)
  obtain ⟨hs4,hu,hs,hup⟩:=kA g
  have hst:sizeD d t≠0:=h2
  unfold liftD
  by_cases e:t=d.sizes.length
  ·rw [if_pos e]
   by_cases ef:f=d.sizes.length
   ·-- at the whole already
    generalize sizeD d t=st at *
    generalize sizeD d f=sf at *
    unfold encDim encIs at *
    unfold p107 b107_0
    repeat' (first | refine call2 rfl rfl c1 ?_ | refine call2 rfl rfl c2 ?_ | refine jf ?_ | refine je rfl (List.length_map _) ?_ | refine st2 ?_ | intro u)
    exact jd rfl rfl
   ·have h4':=h4
    rw [size_at g f0 (by omega)] at h4'
    obtain ⟨f',rfl⟩:=Int.eq_ofNat_of_zero_le f0
    generalize sizeD d t=st at *
    generalize sizeD d (f':Int)=sf at *
    unfold encDim encIs at *
    unfold p107
    repeat' (first | refine call2 rfl rfl c1 ?_ | refine call2 rfl rfl c2 ?_ | refine st2 ?_ | intro u)
    refine jci d g t d.up.length _ (Nat.le_refl _) (.inr ⟨rfl,by omega⟩) (d.up.length - f') f' m _ (by omega) h3 (by simpa using h4') (by rfl) (by rfl) (by rfl) (by rfl) (by rfl) (fun s' t2 t3 t4 b4=>?_)
    rw [← ja t2,← ja t3,← ja t4,← jc b4]
    unfold encIs
    repeat' (first | refine je rfl (List.length_map _) ?_ | refine st2 ?_ | intro u)
    exact jd rfl rfl
  ·rw [if_neg e]
   have h4':=h4
   rw [size_at g f0 (by omega)] at h4'
   obtain ⟨f',rfl⟩:=Int.eq_ofNat_of_zero_le f0
   obtain ⟨t',rfl⟩:=Int.eq_ofNat_of_zero_le g0
   have hw2:((t':Int) - (f':Int)).toNat=t' - f':=by omega
   rw [hw2,Int.toNat_natCast]
   generalize sizeD d (t':Int)=st at *
   generalize sizeD d (f':Int)=sf at *
   unfold encDim encIs at *
   unfold p107
   repeat' (first | refine call2 rfl rfl c1 ?_ | refine call2 rfl rfl c2 ?_ | refine st2 ?_ | intro u)
   refine jci d g t' t' _ (by omega) (.inl rfl) (t' - f') f' m _ (by omega) h3 (by simpa using h4') (by rfl) (by rfl) (by rfl) (by rfl) (by rfl) (fun s' t2 t3 t4 b4=>?_)
   rw [← ja t2,← ja t3,← ja t4,← jc b4]
   unfold encIs
   repeat' (first | refine je rfl (List.length_map _) ?_ | refine st2 ?_ | intro u)
   exact jd rfl rfl
 ·rw [if_neg h]
  have sf0:f < 0→sizeD d f=0:=fun hf=>by unfold sizeD; rw [if_neg (by omega)]
  unfold liftOk at h
  generalize sizeD d t=st at *
  generalize sizeD d f=sf at *
  unfold encDim at *
  unfold p107
  by_cases h0:f < 0
  ·repeat' (first | refine st2 ?_ | intro u)
   exact jd rfl rfl
  ·by_cases h1:f≤t
   ·by_cases h2:st=0
    ·repeat' (first | refine call2 rfl rfl c1 ?_ | refine st2 ?_ | intro u)
     exact jd rfl rfl
    ·by_cases h3:0≤m
     ·repeat' (first | refine call2 rfl rfl c1 ?_ | refine call2 rfl rfl c2 ?_ | refine st2 ?_ | intro u)
      exact jd rfl rfl
     ·repeat' (first | refine call2 rfl rfl c1 ?_ | refine st2 ?_ | intro u)
      exact jd rfl rfl
   ·repeat' (first | refine st2 ?_ | intro u)
    exact jd rfl rfl
end Go.Proofs.YtnpncbplhdnonaaGreat
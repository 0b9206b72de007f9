/-
  slices.Sorted(slices.Values(l)), AT WHATEVER SLICE OF int64: its values in order. The worked proofs at the dump of 'slices.Collect', 'slices.Sorted', 'slices.Values' turned to this seat; the iterator is asked only for what the loop of AppendSeq keeps.
-/
import Derived.Test.YtcmejdkjfekoeaaLaysP
import Derived.Test.YtcmejdkjfekoeaaPlRow
import Derived.Test.YtcmejdkjfekoeaaMBag5
import Derived.RangeFuncBox
import Derived.RangeFuncLeaves
import Derived.Shelf.Abstract
import Derived.WalkKit
import Derived.OwnWalkIn
import Derived.TacticsInMore
import Derived.LoopNIn
import Derived.LoopIn
namespace Go.Proofs.Ytcmejdkjfekoeaa
open Go.RowKit Go.Maps Go.Sort Go.Shelf

attribute [local go_sem] Oper.semAt_some

/-- what an iterator gives to a loop that leaves alone what lay -/
def SeqB (F : Fence) (n : Nat) (P : Program) (g : Nat) (lb : Array Value) (S : List Int → Prop) (N : Nat) (w : World) : Prop :=
  ∀ (l : Nat) (J : List Int → World → Prop) (W : World), Below w.heap.size w W → AbidesFrom W.heap.size J → (∀ ss W1, J ss W1 → Below w.heap.size w W1) →
    (∀ pre x W1, J pre W1 → pre.length < N → YieldAt F (n - 1) P l #[encZ x] W1 fun e W' => e = .returned (.bool true) ∧ J (pre ++ [x]) W' ∧ KeepsWalks W1 W') →
    J [] W →
    CallsIn F n P g (#[.func (.yield l) #[] #[]] ++ lb) W fun e W' => (∃ v, e = .returned v) ∧ ∃ xs, S xs ∧ J xs W'

def first {α : Type} (f : Nat → α) (k : Nat) : List α := (List.range k).map f
theorem first_succ {α : Type} (f : Nat → α) (k : Nat) : first f (k + 1) = first f k ++ [f k] := by simp [first, List.range_succ]
theorem first_length {α : Type} (f : Nat → α) (k : Nat) : (first f k).length = k := by simp [first]
theorem first_all (zs : List Int) : first (fun j => zs[j]?.getD 0) zs.length = zs := by
  apply List.ext_getElem
  · simp [first]
  · intro i h1 h2
    simp [first, h2]

set_option maxRecDepth 100000 in
set_option maxHeartbeats 2000000 in
theorem values1_b (F : Fence) (n : Nat) (h7 : F.fn 117) (hro : F.round = none) (hn : 1 ≤ n) (l Bs b off len cap : Nat) (zs : List Int) (hreach : len * 8 ≤ 140737488351232) (J : List Int → World → Prop)
    (hB : ∀ ss W1, J ss W1 → ∀ j, j < len → W1.cell? ⟨b, off + j, none⟩ = some (.int .i64 (zs[j]?.getD 0)))
    (hY : ∀ pre x W, J pre W → pre.length < len → YieldAt F (n - 1) Try.prog l #[encZ x] W fun e W' => e = .returned (.bool true) ∧ J (pre ++ [x]) W' ∧ KeepsWalks W W')
    (W : World) (hBs : W.cell? ⟨Bs, 0, none⟩ = some (.slice (some ⟨b, off, none⟩) len cap)) (h0 : J [] W) :
    CallsIn F n Try.prog 117 #[.func (.yield l) #[] #[], .pointer (some ⟨Bs, 0, none⟩)] W fun e W' => (∃ v, e = .returned v) ∧ J (first (fun j => zs[j]?.getD 0) len) W' := by
  refine callsIn_of_wp Try.func117 rfl h7 ?_ hro
  simp only [Try.ntmps117, List.size_toArray, List.length_cons, List.length_nil, Nat.reduceAdd, Nat.reduceSub, Array.replicate_succ, Array.replicate_zero, List.push_toArray, List.append_toArray, List.nil_append, List.cons_append]
  gi_wp2
  gi_loopw [7] (fun i wr => ∃ k : Nat, k ≤ len ∧ i = .int .i64 k ∧ J (first (fun j => zs[j]?.getD 0) k) wr)
    (fun i _ => len - (intOf i).toNat)
  case atStart => exact ⟨0, Nat.zero_le _, rfl, h0⟩
  case round =>
    obtain ⟨k, hk, rfl, hJs⟩ := hrel
    have hcx : k < len → wr.cell? ⟨b, off + k, none⟩ = some (.int .i64 (zs[k]?.getD 0)) := fun h => hB _ _ hJs k h
    by_cases hlt : k < len
    · obtain ⟨fn, tmps, assign, body, hy, hR⟩ := hY _ (zs[k]?.getD 0) wr hJs (by rw [first_length]; exact hlt)
      have hcx' := hcx hlt
      gi_wp2
      refine hR.mono ?_
      rintro e W3 ⟨rfl, hJ3, hk3⟩
      gi_wp2
      go_roundw
      case rel => exact ⟨k + 1, by omega, by simp, by rw [first_succ]; exact hJ3⟩
      case measure => simp [intOf]; omega
    · obtain rfl : k = len := by omega
      gi_wp2
      go_end0
      exact ⟨⟨_, rfl⟩, hJs⟩

set_option maxRecDepth 100000 in
set_option maxHeartbeats 1000000 in
/-- .. where there is none: no round. -/
theorem values1_none_b (F : Fence) (n : Nat) (h7 : F.fn 117) (hro : F.round = none) (l Bs : Nat) (a : Option Addr) (cap : Nat) (J : List Int → World → Prop) (W : World) (hBs : W.cell? ⟨Bs, 0, none⟩ = some (.slice a 0 cap)) (h0 : J [] W) :
    CallsIn F n Try.prog 117 #[.func (.yield l) #[] #[], .pointer (some ⟨Bs, 0, none⟩)] W fun e W' => (∃ v, e = .returned v) ∧ J [] W' := by
  refine callsIn_of_wp Try.func117 rfl h7 ?_ hro
  simp only [Try.ntmps117, List.size_toArray, List.length_cons, List.length_nil, Nat.reduceAdd, Nat.reduceSub, Array.replicate_succ, Array.replicate_zero, List.push_toArray, List.append_toArray, List.nil_append, List.cons_append]
  gi_wp2
  gi_loopw [7] (fun i wr => i = .int .i64 0 ∧ J [] wr) (fun _ _ => 0)
  case atStart => exact ⟨rfl, h0⟩
  case round =>
    obtain ⟨rfl, hJs⟩ := hrel
    gi_wp2
    go_end0
    exact ⟨⟨_, rfl⟩, hJs⟩

/-- the slice 'sv' holds 'zs' -/
def Ints (w : World) (sv : Value) (zs : List Int) : Prop :=
  (∃ a cap, sv = .slice a 0 cap ∧ zs = []) ∨ ∃ b off cap, sv = .slice (some ⟨b, off, none⟩) zs.length cap ∧ b < w.heap.size ∧ ∀ j, j < zs.length → w.cell? ⟨b, off + j, none⟩ = some (.int .i64 (zs[j]?.getD 0))

theorem values_b (F : Fence) (n : Nat) (h7 : F.fn 117) (hro : F.round = none) (hn : 1 ≤ n) (Bs : Nat) (sv : Value) (zs : List Int) (hreach : zs.length * 8 ≤ 140737488351232) (w : World) (hBs : Bs < w.heap.size)
    (hc : w.cell? ⟨Bs, 0, none⟩ = some sv) (hI : Ints w sv zs) : SeqB F n Try.prog 117 #[.pointer (some ⟨Bs, 0, none⟩)] (fun ys => ys = zs) zs.length w := fun l J W hW _ hJ hY h0 => by
  have hc' := (hW.cell (p := ⟨Bs, 0, none⟩) hBs).trans hc
  rcases hI with ⟨a, cap, rfl, rfl⟩ | ⟨b, off, cap, rfl, hb, hcs⟩
  · exact (values1_none_b F n h7 hro l Bs a cap J W hc' h0).mono fun e W' ⟨he, hj⟩ => ⟨he, _, rfl, hj⟩
  · refine (values1_b F n h7 hro hn l Bs b off zs.length cap zs hreach J (fun ss W1 h j hj => ((hJ ss W1 h).cell (p := ⟨b, off + j, none⟩) hb).trans (hcs j hj)) hY W hc' h0).mono ?_
    rintro e W' ⟨he, hj⟩
    exact ⟨he, _, first_all zs, hj⟩

/-- slices.Sort's two contracts -/
def SortsIn (F : Fence) (m : Nat) : Prop :=
  (∀ (blk off cap : Nat) (ss : List Int) (W : World), Holds encZ W blk off ss.toArray → blk < W.heap.size → ss.length < 4611686018427387904 →
    CallsIn F m Try.prog 116 #[.slice (some ⟨blk, off, none⟩) ss.length cap] W fun e w' => e = .returned (.tuple #[]) ∧ ∃ k os, w' = grow (putRow encZ (Sort.ahead W k) blk off (ss.mergeSort fun x y => decide (x ≤ y)).toArray) os) ∧
  (∀ (p : Option Addr) (cap : Nat) (W : World), CallsIn F m Try.prog 116 #[.slice p 0 cap] W fun e w' => e = .returned (.tuple #[]) ∧ w' = W)

theorem sorts_wide (m : Nat) : SortsIn Fence.wide m :=
  ⟨fun blk off cap ss W hH hblk hsz => callsIn_wide.2 (AnyM.slices_Sort_int Try.sortA blk off cap ss W hH hblk hsz),
   fun p cap W => callsIn_wide.2 (AnyM.slices_Sort_int_none Try.sortA p cap W)⟩

set_option maxRecDepth 100000 in
set_option maxHeartbeats 2000000 in
theorem appendSeq_b (F : Fence) (n : Nat) (h11 : F.fn 138) (hro : F.round = none) (hn : 2 ≤ n) (g : Nat) (lb : Array Value) (hFg : F.fn g) (eg : ∀ args w, (callFunc g args).run Try.prog w = .ok (.enter g args) w)
    (S : List Int → Prop) (N : Nat) (hN : N ≤ maxLen) (hNb : N * 8 ≤ 140737488355328) (w : World) (hseq : SeqB F (n - 1) Try.prog g lb S N w) :
    CallsIn F n Try.prog 138 #[.slice none 0 0, .func (.func g) #[] lb] w fun e w' => ∃ (v : Value) (ss : List Int), e = .returned v ∧ S ss ∧ w'.ownsRow w.heap.size 2 1 v ss.length (ss.map encZ) ∧ (v = .slice none 0 0 ↔ ss = []) ∧ Below w.heap.size w w' := by
  have h1 : 1 ≤ n := by omega
  refine callsIn_of_wp_marks Try.func138 rfl h11 ?_ hro
  simp only [Try.ntmps138, List.size_toArray, List.length_cons, List.length_nil, Nat.reduceAdd, Nat.reduceSub, Array.replicate_succ, Array.replicate_zero, List.push_toArray, List.append_toArray, List.nil_append, List.cons_append]
  gi_wp2
  refine wpIn_rangeFunc ?_
  intro fn hfn
  rw [hro]
  obtain ⟨W0, hW0⟩ : ∃ W0, w.alloc (.cells #[.slice none 0 0] 22) = W0 := ⟨_, rfl⟩
  have hs0 : W0.heap.size = w.heap.size + 1 := by rw [← hW0]; simp
  have hv0 : W0.heap[w.heap.size]? = some (.cells #[.slice none 0 0] 22 (0, 0)) := by rw [← hW0]; exact World.alloc_heap_new w _
  have hb0 : Below w.heap.size w W0 := by rw [← hW0]; exact (Below.refl _ w).alloc (Nat.le_refl _) _
  rw [hW0]
  obtain ⟨W1, hW1⟩ : ∃ W1, (W0.alloc (.deferred (some []))).alloc (.loop (AnyZI.apRec Try.sorted_ren fn (.func (.func g) #[] lb) w.heap.size W0.heap.size .ready none)) = W1 := ⟨_, rfl⟩
  have hold : ∀ k, k < W0.heap.size → W1.heap[k]? = W0.heap[k]? := fun k hk => by
    rw [← hW1]; exact (Below.heap_alloc _ _ k (by simp; omega)).trans (Below.heap_alloc _ _ k hk)
  have hb1 : Below w.heap.size w W1 := by rw [← hW1]; exact (hb0.alloc hb0.size _).alloc (by have := hb0.size; simp; omega) _
  have hs1 : W1.heap.size = W0.heap.size + 2 := by rw [← hW1]; simp
  have hM : AnyZI.ApAt Try.sorted_ren w fn (.func (.func g) #[] lb) w.heap.size (W0.heap.size + 1) W0.heap.size [] W1 :=
    ⟨⟨_, (hold w.heap.size (by omega)).trans hv0, ⟨rfl, .inl ⟨rfl, rfl⟩⟩, by simp⟩,
     by rw [← hW1]; have := World.alloc_heap_new (W0.alloc (.deferred (some []))) (.loop (AnyZI.apRec Try.sorted_ren fn (.func (.func g) #[] lb) w.heap.size W0.heap.size .ready none)); rwa [World.size_alloc] at this,
     by rw [← hW1]; exact (Below.heap_alloc _ _ _ (by simp)).trans (World.alloc_heap_new W0 _), hb1⟩
  refine ⟨W0.heap.size + 1, [{ target := .collected W0.heap.size, args := #[] }], W1, { target := .fn (.func g) lb, args := #[.func (.yield (W0.heap.size + 1)) #[] #[]] }, W1, g,
    #[.func (.yield (W0.heap.size + 1)) #[] #[]] ++ lb, W1, ?_, ?_, ?_, ?_, fun _ => h1, ?_⟩
  · rw [← hW1]; exact run_enterLoop_outer _ _ _ _ _
  · simp [resolve, go_sem]
  · intro f' hf'; simp [Target.leads] at hf'; subst hf'; exact hFg
  · simp [invoke, go_sem, eg]
  · refine (hseq (W0.heap.size + 1) (AnyZI.ApAt Try.sorted_ren w fn (.func (.func g) #[] lb) w.heap.size (W0.heap.size + 1) W0.heap.size) W1 hb1 (AnyZI.ap_abides Try.sorted_ren _ _ _ _ _ _ _ hb1.size) (fun ss W h => h.below)
      (fun pre x W hJ hl => AnyZI.apYield (ρ := Try.sorted_ren) { Try.sorted with } F (n - 1 - 1) w fn hfn _ w.heap.size (W0.heap.size + 1) W0.heap.size (by omega) (by omega) (by omega) (Nat.le_refl _) (by omega) N hN hNb pre x W hJ hl) hM).mono ?_
    rintro e W2 ⟨⟨v0, rfl⟩, ss, hS, h2⟩
    obtain ⟨v, hv, hrow, hnil⟩ := h2.box
    have hend := run_endLoop (P := Try.prog) h2.L (by simp [AnyZI.apRec])
    obtain ⟨W3, hW3⟩ : ∃ W3, W2.putObj (W0.heap.size + 1) (.loop { AnyZI.apRec Try.sorted_ren fn (.func (.func g) #[] lb) w.heap.size W0.heap.size .ready none with state := .exhausted }) = W3 := ⟨_, rfl⟩
    rw [hW3] at hend
    have hg3 : W2.grownBy W3 (some (W0.heap.size + 1)) := by rw [← hW3]; exact grownBy_putObj_a _ _ _
    have hv3 : W3.heap[w.heap.size]? = some (.cells #[v] 22 (0, 0)) := by rw [← hW3]; exact (World.putObj_heap_other (by omega)).trans hv
    have hK3 : W3.heap[W0.heap.size]? = some (.deferred (some [])) := by rw [← hW3]; exact (World.putObj_heap_other (by omega)).trans h2.K
    have hrow3 := hrow.kept hg3 (ownsRow_ne_a hrow h2.L (fun cur e => by cases e))
    have hb3 : Below w.heap.size w W3 := h2.below.grown hg3 h2.below.size (fun k e => by cases e; omega)
    obtain ⟨hc3, hf3⟩ := cell_of_box_a hv3
    clear hW3
    refine ⟨none, W3, hend, ?_⟩
    gi_wp2
    rw [← hs0]
    refine ⟨by simp, .inl ⟨_, _, rfl, run_takeDeferred hK3, ?_⟩⟩
    exact ⟨_, results_tmp rfl _ _ _, v, ss, rfl, hS, hrow3.kept (grownBy_putObj_a _ _ _) (ownsRow_ne_a hrow3 hK3 (fun cur e => by cases e)), hnil, hb3.grown (grownBy_putObj_a _ _ _) hb3.size (fun k e => by cases e; omega)⟩

set_option maxRecDepth 100000 in
set_option maxHeartbeats 2000000 in
theorem collect_b (F : Fence) (n : Nat) (h8 : F.fn 115) (h11 : F.fn 138) (hro : F.round = none) (hn : 3 ≤ n) (g : Nat) (lb : Array Value) (hFg : F.fn g) (eg : ∀ args w, (callFunc g args).run Try.prog w = .ok (.enter g args) w)
    (S : List Int → Prop) (N : Nat) (hN : N ≤ maxLen) (hNb : N * 8 ≤ 140737488355328) (w : World) (hseq : SeqB F (n - 1 - 1) Try.prog g lb S N w) :
    CallsIn F n Try.prog 115 #[.func (.func g) #[] lb] w fun e w' => ∃ (v : Value) (ss : List Int), e = .returned v ∧ S ss ∧ w'.ownsRow w.heap.size 2 1 v ss.length (ss.map encZ) ∧ (v = .slice none 0 0 ↔ ss = []) ∧ Below w.heap.size w w' := by
  have h1 : 1 ≤ n := by omega
  refine callsIn_of_wp Try.func115 rfl h8 ?_ hro
  simp only [Try.ntmps115, List.size_toArray, List.length_cons, List.length_nil, Nat.reduceAdd, Nat.reduceSub, Array.replicate_succ, Array.replicate_zero, List.push_toArray, List.append_toArray, List.nil_append, List.cons_append]
  gi_wp2_with (gi_at_call 138; refine (appendSeq_b F (n - 1) h11 hro (by omega) g lb hFg eg S N hN hNb _ hseq).mono ?_; rintro e w' ⟨v, ss, rfl, hS, hrow, hnil, hb⟩)
  go_ret
  exact ⟨v, ss, rfl, hS, hrow, hnil, hb⟩

set_option maxRecDepth 100000 in
set_option maxHeartbeats 2000000 in
theorem sorted_b (F : Fence) (n : Nat) (h6 : F.fn 82) (h8 : F.fn 115) (h9 : F.fn 116) (h11 : F.fn 138) (hro : F.round = none) (hn : 4 ≤ n) (hsort : SortsIn F (n - 1)) (g : Nat) (lb : Array Value) (hFg : F.fn g) (eg : ∀ args w, (callFunc g args).run Try.prog w = .ok (.enter g args) w)
    (S : List Int → Prop) (N : Nat) (hN : N ≤ maxLen) (hNb : N * 8 ≤ 140737488355328) (w : World) (hSN : ∀ ss, S ss → ss.length ≤ N) (hseq : SeqB F (n - 1 - 1 - 1) Try.prog g lb S N w) :
    CallsIn F n Try.prog 82 #[.func (.func g) #[] lb] w fun e w' => ∃ (v : Value) (ss : List Int), e = .returned v ∧ S ss ∧
      w'.ownsRow w.heap.size 2 1 v ss.length ((ss.mergeSort (fun x y => decide (x ≤ y))).map encZ) ∧ (v = .slice none 0 0 ↔ ss = []) ∧ Below w.heap.size w w' := by
  have h1 : 1 ≤ n := by omega
  refine callsIn_of_wp Try.func82 rfl h6 ?_ hro
  simp only [Try.ntmps82, List.size_toArray, List.length_cons, List.length_nil, Nat.reduceAdd, Nat.reduceSub, Array.replicate_succ, Array.replicate_zero, List.push_toArray, List.append_toArray, List.nil_append, List.cons_append]
  gi_wp2_with (gi_at_call 115; refine (collect_b F (n - 1) h8 h11 hro (by omega) g lb hFg eg _ N hN hNb _ hseq).mono ?_; rintro e W ⟨v, ss, rfl, hS, hrow, hnil, hb⟩)
  rcases hrow.2 with ⟨rfl, hz⟩ | ⟨gb, cap, cur, rfl, hbase, hgb, r1, r2, r3, r4⟩
  · -- nothing came: the nil slice is sorted and handed back
    have hss : ss = [] := List.eq_nil_of_length_eq_zero hz
    subst hss
    gi_wp2_with (gi_at_call 116; refine (hsort.2 none 0 W).mono ?_; rintro e w' ⟨rfl, rfl⟩)
    go_ret
    exact ⟨.slice none 0 0, [], rfl, hS, by simpa using hrow, by simp, hb⟩
  · have hH : Holds encZ W gb 0 ss.toArray := holds_of_block_i hgb (by simpa using r4)
    have hgl : gb < W.heap.size := (Array.getElem?_eq_some_iff.1 hgb).1
    have hsz : ss.length < 4611686018427387904 := by have := hSN ss hS; omega
    have cS := hsort.1 gb 0 cap ss W hH hgl hsz
    gi_wp2_with (gi_at_call 116; refine cS.mono ?_; rintro e w' ⟨rfl, nn, os, rfl⟩)
    go_ret
    exact ⟨_, ss, rfl, hS, ownsRow_sorted_i (by simp) hbase hgb r1 r2 r3, hnil, hb.grown (grownBy_sorted_i _) hb.size (fun j hj => by cases hj; exact hbase)⟩

/-! ### as plain states have it -/
open Go.Pl Go.Bag

def encIL' (l : List Int) : CV := .sl (l.map fun n => [.int .i64 n])

/-- a contract whose arguments and result are closed -/
theorem pcallC_of {P : Program} {f : FuncId} {cs : List CV} {r : CV}
    (h : ∀ (w : World) (O : Nat → Prop) (vs : Array Value), vs.size = cs.length → (∀ (i : Nat) (h1 : i < vs.size) (h2 : i < cs.length), V w O vs[i] cs[i]) → (∀ b, O b → b < w.heap.size) →
      Calls P f vs w fun e w' => ∃ v, e = .returned v ∧ V w' O v r ∧ Below w.heap.size w w') : PCallG P f (cs.map .c) (.c r) [] := by
  intro w O A β vs hsz hS
  have hn : vs.size = cs.length := by simpa using hsz
  refine (h w O vs hn (fun i h1 h2 => ?_) (fun b hb => (hS.outer b hb).1)).mono ?_
  · have ht := hS.temps i
    have e1 : (initPS (cs.map AV.c)).t i = .c cs[i] := by simp [initPS, h2]
    have e2 : vs.getD i undef = vs[i] := by simp [h1]
    rw [e1, e2] at ht
    exact V.ext (.of_less fun b hb => .inl hb) ht
  · rintro e w' ⟨v, rfl, hv, hb⟩
    refine ⟨v, fun _ => none, rfl, ⟨hb.os, hb.tape, hb.output, hb.size, fun b hlt _ => hb.block b hlt, fun i => ?_, fun d => ?_, fun d d' p p' _ ho hd => (by simp at *), fun d p _ hd => (by simp at hd), fun b hO => hS.outer b hO⟩, fun i c hi => ?_⟩
    · by_cases hi : i = (cs.map AV.c).length
      · simp only [hi, if_true, retPS]
        exact V.ext (.of_less fun b hb => by
          rcases hb with hb | ⟨_, _, _, hb⟩
          · exact hb
          · cases hb) hv
      · simp only [if_neg hi, retPS]; trivial
    · have : ((retPS (cs.map AV.c) (.c r) []).bx d).st = .dead := by
        simp only [retPS]
        split
        · rfl
        · simp only [List.getElem?_map]
          cases cs[d]? <;> rfl
      rw [this]; trivial
    · simp only [List.getElem?_map] at hi
      cases hc : cs[i]? <;> rw [hc] at hi <;> cases hi

/-- an int64 slice's reading -/
theorem ints_of {w : World} {N : Nat → Prop} {v : Value} {l : List Int} (h : V w N v (encIL' l)) : Ints w v l := by
  unfold encIL' at h
  generalize he : (l.map fun n => [CV.int .i64 n]) = es at h
  cases h with
  | nil => exact .inl ⟨none, 0, rfl, by cases l <;> simp_all⟩
  | emp a cap => exact .inl ⟨some a, cap, rfl, by cases l <;> simp_all⟩
  | sl b off cap sz _ c hb hN hz hcap h1 hread hVV =>
    subst he
    refine .inr ⟨b, off, cap, by simp, hb, fun j hj => ?_⟩
    have hj' : j < (l.map fun n => [CV.int .i64 n]).length := by simpa using hj
    have hs : sz = 1 := by
      have := hz _ (List.getElem_mem hj')
      simpa using this.symm
    have h0 : 0 < (l.map fun n => [CV.int .i64 n])[j].length := by simp
    have h1 := hread j 0 hj' h0
    have h2 := hVV j 0 hj' h0
    subst hs
    rw [show off + j = off + (j * 1 + 0) by omega, h1]
    have e : (l.map fun n => [CV.int .i64 n])[j][0] = CV.int .i64 l[j] := by simp
    rw [e] at h2
    rw [V.int_inv h2]
    simp [hj]

/-- a row that a call has made, as a closed value -/
theorem V_of_ownsRow {w' : World} {O : Nat → Prop} {base : Nat} {v : Value} {zs : List Int} (hO : ∀ b, O b → b < base) (h : w'.ownsRow base 2 1 v zs.length (zs.map encZ)) : V w' O v (encIL' zs) := by
  unfold encIL'
  rcases h.2 with ⟨rfl, h0⟩ | ⟨g, cap, cur, rfl, hb, hg, h1, h2, h3, h4⟩
  · obtain rfl : zs = [] := List.eq_nil_of_length_eq_zero h0
    exact .nil
  · have hlt : g < w'.heap.size := (Array.getElem?_eq_some_iff.1 hg).1
    have := V.sl (w := w') (N := O) g 0 cap 1 (zs.map fun n => [CV.int .i64 n]) (fun i _ => .int .i64 (zs[i]?.getD 0)) hlt (fun h => by have := hO g h; omega) (fun e he => by
        obtain ⟨n, _, rfl⟩ := List.mem_map.1 he
        rfl) (by simpa using h1) (fun e he c hc => by
        obtain ⟨n, _, rfl⟩ := List.mem_map.1 he
        simp at hc
        subst hc
        rfl) (fun i j hi hj => by
        have hi' : i < zs.length := by simpa using hi
        obtain rfl : j = 0 := by simp at hj; omega
        have : cur[i]? = some (encZ zs[i]) := by
          have e : (cur.toList.take (zs.length * 1))[i]? = (zs.map encZ)[i]? := by rw [h4]
          rw [List.getElem?_take, if_pos (by omega)] at e
          simpa [hi'] using e
        simp only [World.cell?, hg]
        simp [this, hi', encZ]) (fun i j hi hj => by
        have hi' : i < zs.length := by simpa using hi
        obtain rfl : j = 0 := by simp at hj; omega
        simp [hi']
        exact .int _ _)
    simpa using this

theorem C_Values (l : List Int) : PCallG Try.prog 83 [.c (encIL' l)] (.c (.clo 117 (encIL' l))) [] := by
  refine pcallC_of (cs := [encIL' l]) fun w O vs hn hV hO => ?_
  have hn1 : vs.size = 1 := by simpa using hn
  have hv := hV 0 (by omega) (by simp)
  obtain ⟨v, rfl⟩ : ∃ v, vs = #[v] := ⟨vs[0]'(by omega), by
    apply Array.ext
    · simpa using hn1
    · intro i h1 h2
      obtain rfl : i = 0 := by simp at h2; omega
      rfl⟩
  have hv : V w O v (encIL' l) := hv
  obtain ⟨a, len, cap, rfl⟩ : ∃ a len cap, v = .slice a len cap := by
    unfold encIL' at hv
    generalize (l.map fun n => [CV.int .i64 n]) = es at hv
    cases hv <;> exact ⟨_, _, _, rfl⟩
  refine calls_of_wp Try.func83 rfl ?_
  simp only [Try.ntmps83, List.size_toArray, List.length_cons, List.length_nil, Nat.reduceAdd, Nat.reduceSub, Array.replicate_succ, Array.replicate_zero, List.push_toArray, List.append_toArray, List.nil_append, List.cons_append]
  go_wp2
  go_ret
  refine ⟨_, rfl, ?_, (Below.refl _ w).alloc (Nat.le_refl _) _⟩
  refine V.clo 117 w.heap.size (.slice a len cap) _ (by simp) (fun h => by have := hO _ h; omega) ?_ (hv.ext ⟨by simp, fun b hb _ => Below.heap_alloc _ _ b hb, fun b _ h => h⟩)
  show (match (w.alloc (.cells #[.slice a len cap] 22)).heap[w.heap.size]? with | some (Obj.cells c _ _) => c[0]? | _ => none) = _
  rw [World.alloc_heap_new]
  rfl

theorem C_Sorted (l : List Int) (hlen : l.length < 1000000000) : PCallG Try.prog 82 [.c (.clo 117 (encIL' l))] (.c (encIL' (srt l))) [] := by
  refine pcallC_of (cs := [.clo 117 (encIL' l)]) fun w O vs hn hV hO => ?_
  have hn1 : vs.size = 1 := by simpa using hn
  have hv := hV 0 (by omega) (by simp)
  obtain ⟨v, rfl⟩ : ∃ v, vs = #[v] := ⟨vs[0]'(by omega), by
    apply Array.ext
    · simpa using hn1
    · intro i h1 h2
      obtain rfl : i = 0 := by simp at h2; omega
      rfl⟩
  have hv : V w O v (.clo 117 (encIL' l)) := hv
  cases hv with
  | clo _ b sv _ hb hN hr h =>
    have hm : maxLen = 9223372036854775807 := rfl
    have hseq := values_b Fence.wide 1 trivial rfl (Nat.le_refl _) b sv l (by omega) w hb hr (ints_of h)
    refine (callsIn_wide (n := 4)).1 ((sorted_b Fence.wide 4 trivial trivial trivial trivial rfl (Nat.le_refl _) (sorts_wide _) 117 _ trivial (enters_of Try.func117 (by kernel_rfl) rfl) _ l.length (by omega) (by omega) w (fun ss h => by rw [h]; exact Nat.le_refl _) hseq).mono ?_)
    rintro e w' ⟨v, ss, rfl, rfl, hrow, _, hbl⟩
    refine ⟨v, rfl, ?_, hbl⟩
    have hl : ss.length = (srt ss).length := (srt_perm ss).length_eq.symm
    rw [hl] at hrow
    exact V_of_ownsRow hO hrow
end Go.Proofs.Ytcmejdkjfekoeaa

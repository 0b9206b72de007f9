/- Part of the proof of CellSpoilt: lemmas. -/
import Derived.Test.YtcmejdkjfekoeaaCSpoilS5
import Derived.Test.YtcmejdkjfekoeaaCellSpoiltJ2
import Derived.Test.YtcmejdkjfekoeaaCellSpoiltJ3
import Derived.RangeFuncBox
import Derived.RangeFuncLeaves
import Derived.Shelf.Abstract
import Derived.WalkKit
import Derived.OwnWalkIn
import Derived.TacticsInMore
import Derived.LoopNIn
import Derived.LoopIn
set_option linter.unusedVariables false
set_option linter.unusedSimpArgs false
/-
  slices.Sorted(slices.Values(l)), AT WHATEVER SLICE OF int64: its values in order. The worked proofs at the dump of 'slices.Collect', 'slices.Sorted', 'slices.Values' turned to this seat; the iterator is asked only for what the loop of AppendSeq keeps.
-/
namespace Go.Proofs.Ytcmejdkjfekoeaa
open Go.RowKit Go.Maps Go.Sort Go.Shelf
attribute [local go_sem] Oper.semAt_some
def SeqB (F : Fence) (n : Nat) (P : Program) (g : Nat) (lb : Array Value) (S : List Int → Prop) (N : Nat) (w : World) : Prop :=
  ∀ (l : Nat) (J : List Int → World → Prop) (W : World), Below w.heap.size w W → AbidesFrom W.heap.size J → (∀ ss W1, J ss W1 → Below w.heap.size w W1) →
    (∀ pre x W1, J pre W1 → pre.length < N → YieldAt F (n - 1) P l #[encZ x] W1 fun e W' => e = .returned (.bool true) ∧ J (pre ++ [x]) W' ∧ KeepsWalks W1 W') →
    J [] W →
    CallsIn F n P g (#[.func (.yield l) #[] #[]] ++ lb) W fun e W' => (∃ v, e = .returned v) ∧ ∃ xs, S xs ∧ J xs W'
def first {α : Type} (f : Nat → α) (k : Nat) : List α := (List.range k).map f
theorem first_succ {α : Type} (f : Nat → α) (k : Nat) : first f (k + 1) = first f k ++ [f k] := by simp [first, List.range_succ]
theorem first_length {α : Type} (f : Nat → α) (k : Nat) : (first f k).length = k := by simp [first]
theorem first_all (zs : List Int) : first (fun j => zs[j]?.getD 0) zs.length = zs := by
  apply List.ext_getElem
  · simp [first]
  · intro i h1 h2
    simp [first, h2]
set_option maxRecDepth 100000 in
set_option maxHeartbeats 2000000 in
theorem values1_b (F : Fence) (n : Nat) (h7 : F.fn 117) (hro : F.round = none) (hn : 1 ≤ n) (l Bs b off len cap : Nat) (zs : List Int) (hreach : len * 8 ≤ 140737488351232) (J : List Int → World → Prop)
    (hB : ∀ ss W1, J ss W1 → ∀ j, j < len → W1.cell? ⟨b, off + j, none⟩ = some (.int .i64 (zs[j]?.getD 0)))
    (hY : ∀ pre x W, J pre W → pre.length < len → YieldAt F (n - 1) Try.prog l #[encZ x] W fun e W' => e = .returned (.bool true) ∧ J (pre ++ [x]) W' ∧ KeepsWalks W W')
    (W : World) (hBs : W.cell? ⟨Bs, 0, none⟩ = some (.slice (some ⟨b, off, none⟩) len cap)) (h0 : J [] W) :
    CallsIn F n Try.prog 117 #[.func (.yield l) #[] #[], .pointer (some ⟨Bs, 0, none⟩)] W fun e W' => (∃ v, e = .returned v) ∧ J (first (fun j => zs[j]?.getD 0) len) W' := by
  refine callsIn_of_wp Try.func117 rfl h7 ?_ hro
  simp only [Try.ntmps117, List.size_toArray, List.length_cons, List.length_nil, Nat.reduceAdd, Nat.reduceSub, Array.replicate_succ, Array.replicate_zero, List.push_toArray, List.append_toArray, List.nil_append, List.cons_append]
  gi_wp2
  gi_loopw [7] (fun i wr => ∃ k : Nat, k ≤ len ∧ i = .int .i64 k ∧ J (first (fun j => zs[j]?.getD 0) k) wr)
    (fun i _ => len - (intOf i).toNat)
  case atStart => exact ⟨0, Nat.zero_le _, rfl, h0⟩
  case round =>
    obtain ⟨k, hk, rfl, hJs⟩ := hrel
    have hcx : k < len → wr.cell? ⟨b, off + k, none⟩ = some (.int .i64 (zs[k]?.getD 0)) := fun h => hB _ _ hJs k h
    by_cases hlt : k < len
    · obtain ⟨fn, tmps, assign, body, hy, hR⟩ := hY _ (zs[k]?.getD 0) wr hJs (by rw [first_length]; exact hlt)
      have hcx' := hcx hlt
      gi_wp2
      refine hR.mono ?_
      rintro e W3 ⟨rfl, hJ3, hk3⟩
      gi_wp2
      go_roundw
      case rel => exact ⟨k + 1, by omega, by simp, by rw [first_succ]; exact hJ3⟩
      case measure => simp [intOf]; omega
    · obtain rfl : k = len := by omega
      gi_wp2
      go_end0
      exact ⟨⟨_, rfl⟩, hJs⟩
set_option maxRecDepth 100000 in
set_option maxHeartbeats 1000000 in
theorem values1_none_b (F : Fence) (n : Nat) (h7 : F.fn 117) (hro : F.round = none) (l Bs : Nat) (a : Option Addr) (cap : Nat) (J : List Int → World → Prop) (W : World) (hBs : W.cell? ⟨Bs, 0, none⟩ = some (.slice a 0 cap)) (h0 : J [] W) :
    CallsIn F n Try.prog 117 #[.func (.yield l) #[] #[], .pointer (some ⟨Bs, 0, none⟩)] W fun e W' => (∃ v, e = .returned v) ∧ J [] W' := by
  refine callsIn_of_wp Try.func117 rfl h7 ?_ hro
  simp only [Try.ntmps117, List.size_toArray, List.length_cons, List.length_nil, Nat.reduceAdd, Nat.reduceSub, Array.replicate_succ, Array.replicate_zero, List.push_toArray, List.append_toArray, List.nil_append, List.cons_append]
  gi_wp2
  gi_loopw [7] (fun i wr => i = .int .i64 0 ∧ J [] wr) (fun _ _ => 0)
  case atStart => exact ⟨rfl, h0⟩
  case round =>
    obtain ⟨rfl, hJs⟩ := hrel
    gi_wp2
    go_end0
    exact ⟨⟨_, rfl⟩, hJs⟩
def Ints (w : World) (sv : Value) (zs : List Int) : Prop :=
  (∃ a cap, sv = .slice a 0 cap ∧ zs = []) ∨ ∃ b off cap, sv = .slice (some ⟨b, off, none⟩) zs.length cap ∧ b < w.heap.size ∧ ∀ j, j < zs.length → w.cell? ⟨b, off + j, none⟩ = some (.int .i64 (zs[j]?.getD 0))
theorem values_b (F : Fence) (n : Nat) (h7 : F.fn 117) (hro : F.round = none) (hn : 1 ≤ n) (Bs : Nat) (sv : Value) (zs : List Int) (hreach : zs.length * 8 ≤ 140737488351232) (w : World) (hBs : Bs < w.heap.size)
    (hc : w.cell? ⟨Bs, 0, none⟩ = some sv) (hI : Ints w sv zs) : SeqB F n Try.prog 117 #[.pointer (some ⟨Bs, 0, none⟩)] (fun ys => ys = zs) zs.length w := fun l J W hW _ hJ hY h0 => by
  have hc' := (hW.cell (p := ⟨Bs, 0, none⟩) hBs).trans hc
  rcases hI with ⟨a, cap, rfl, rfl⟩ | ⟨b, off, cap, rfl, hb, hcs⟩
  · exact (values1_none_b F n h7 hro l Bs a cap J W hc' h0).mono fun e W' ⟨he, hj⟩ => ⟨he, _, rfl, hj⟩
  · refine (values1_b F n h7 hro hn l Bs b off zs.length cap zs hreach J (fun ss W1 h j hj => ((hJ ss W1 h).cell (p := ⟨b, off + j, none⟩) hb).trans (hcs j hj)) hY W hc' h0).mono ?_
    rintro e W' ⟨he, hj⟩
    exact ⟨he, _, first_all zs, hj⟩
def SortsIn (F : Fence) (m : Nat) : Prop :=
  (∀ (blk off cap : Nat) (ss : List Int) (W : World), Holds encZ W blk off ss.toArray → blk < W.heap.size → ss.length < 4611686018427387904 →
    CallsIn F m Try.prog 116 #[.slice (some ⟨blk, off, none⟩) ss.length cap] W fun e w' => e = .returned (.tuple #[]) ∧ ∃ k os, w' = grow (putRow encZ (Sort.ahead W k) blk off (ss.mergeSort fun x y => decide (x ≤ y)).toArray) os) ∧
  (∀ (p : Option Addr) (cap : Nat) (W : World), CallsIn F m Try.prog 116 #[.slice p 0 cap] W fun e w' => e = .returned (.tuple #[]) ∧ w' = W)
theorem sorts_wide (m : Nat) : SortsIn Fence.wide m :=
  ⟨fun blk off cap ss W hH hblk hsz => callsIn_wide.2 (AnyM.slices_Sort_int Try.sortA blk off cap ss W hH hblk hsz),
   fun p cap W => callsIn_wide.2 (AnyM.slices_Sort_int_none Try.sortA p cap W)⟩
set_option maxRecDepth 100000 in
set_option maxHeartbeats 2000000 in
theorem appendSeq_b (F : Fence) (n : Nat) (h11 : F.fn 138) (hro : F.round = none) (hn : 2 ≤ n) (g : Nat) (lb : Array Value) (hFg : F.fn g) (eg : ∀ args w, (callFunc g args).run Try.prog w = .ok (.enter g args) w)
    (S : List Int → Prop) (N : Nat) (hN : N ≤ maxLen) (hNb : N * 8 ≤ 140737488355328) (w : World) (hseq : SeqB F (n - 1) Try.prog g lb S N w) :
    CallsIn F n Try.prog 138 #[.slice none 0 0, .func (.func g) #[] lb] w fun e w' => ∃ (v : Value) (ss : List Int), e = .returned v ∧ S ss ∧ w'.ownsRow w.heap.size 2 1 v ss.length (ss.map encZ) ∧ (v = .slice none 0 0 ↔ ss = []) ∧ Below w.heap.size w w' := by
  have h1 : 1 ≤ n := by omega
  refine callsIn_of_wp_marks Try.func138 rfl h11 ?_ hro
  simp only [Try.ntmps138, List.size_toArray, List.length_cons, List.length_nil, Nat.reduceAdd, Nat.reduceSub, Array.replicate_succ, Array.replicate_zero, List.push_toArray, List.append_toArray, List.nil_append, List.cons_append]
  gi_wp2
  refine wpIn_rangeFunc ?_
  intro fn hfn
  rw [hro]
  obtain ⟨W0, hW0⟩ : ∃ W0, w.alloc (.cells #[.slice none 0 0] 22) = W0 := ⟨_, rfl⟩
  have hs0 : W0.heap.size = w.heap.size + 1 := by rw [← hW0]; simp
  have hv0 : W0.heap[w.heap.size]? = some (.cells #[.slice none 0 0] 22 (0, 0)) := by rw [← hW0]; exact World.alloc_heap_new w _
  have hb0 : Below w.heap.size w W0 := by rw [← hW0]; exact (Below.refl _ w).alloc (Nat.le_refl _) _
  rw [hW0]
  obtain ⟨W1, hW1⟩ : ∃ W1, (W0.alloc (.deferred (some []))).alloc (.loop (AnyZI.apRec Try.sorted_ren fn (.func (.func g) #[] lb) w.heap.size W0.heap.size .ready none)) = W1 := ⟨_, rfl⟩
  have hold : ∀ k, k < W0.heap.size → W1.heap[k]? = W0.heap[k]? := fun k hk => by
    rw [← hW1]; exact (Below.heap_alloc _ _ k (by simp; omega)).trans (Below.heap_alloc _ _ k hk)
  have hb1 : Below w.heap.size w W1 := by rw [← hW1]; exact (hb0.alloc hb0.size _).alloc (by have := hb0.size; simp; omega) _
  have hs1 : W1.heap.size = W0.heap.size + 2 := by rw [← hW1]; simp
  have hM : AnyZI.ApAt Try.sorted_ren w fn (.func (.func g) #[] lb) w.heap.size (W0.heap.size + 1) W0.heap.size [] W1 :=
    ⟨⟨_, (hold w.heap.size (by omega)).trans hv0, ⟨rfl, .inl ⟨rfl, rfl⟩⟩, by simp⟩,
     by rw [← hW1]; have := World.alloc_heap_new (W0.alloc (.deferred (some []))) (.loop (AnyZI.apRec Try.sorted_ren fn (.func (.func g) #[] lb) w.heap.size W0.heap.size .ready none)); rwa [World.size_alloc] at this,
     by rw [← hW1]; exact (Below.heap_alloc _ _ _ (by simp)).trans (World.alloc_heap_new W0 _), hb1⟩
  refine ⟨W0.heap.size + 1, [{ target := .collected W0.heap.size, args := #[] }], W1, { target := .fn (.func g) lb, args := #[.func (.yield (W0.heap.size + 1)) #[] #[]] }, W1, g,
    #[.func (.yield (W0.heap.size + 1)) #[] #[]] ++ lb, W1, ?_, ?_, ?_, ?_, fun _ => h1, ?_⟩
  · rw [← hW1]; exact run_enterLoop_outer _ _ _ _ _
  · simp [resolve, go_sem]
  · intro f' hf'; simp [Target.leads] at hf'; subst hf'; exact hFg
  · simp [invoke, go_sem, eg]
  · refine (hseq (W0.heap.size + 1) (AnyZI.ApAt Try.sorted_ren w fn (.func (.func g) #[] lb) w.heap.size (W0.heap.size + 1) W0.heap.size) W1 hb1 (AnyZI.ap_abides Try.sorted_ren _ _ _ _ _ _ _ hb1.size) (fun ss W h => h.below)
      (fun pre x W hJ hl => AnyZI.apYield (ρ := Try.sorted_ren) { Try.sorted with } F (n - 1 - 1) w fn hfn _ w.heap.size (W0.heap.size + 1) W0.heap.size (by omega) (by omega) (by omega) (Nat.le_refl _) (by omega) N hN hNb pre x W hJ hl) hM).mono ?_
    rintro e W2 ⟨⟨v0, rfl⟩, ss, hS, h2⟩
    obtain ⟨v, hv, hrow, hnil⟩ := h2.box
    have hend := run_endLoop (P := Try.prog) h2.L (by simp [AnyZI.apRec])
    obtain ⟨W3, hW3⟩ : ∃ W3, W2.putObj (W0.heap.size + 1) (.loop { AnyZI.apRec Try.sorted_ren fn (.func (.func g) #[] lb) w.heap.size W0.heap.size .ready none with state := .exhausted }) = W3 := ⟨_, rfl⟩
    rw [hW3] at hend
    have hg3 : W2.grownBy W3 (some (W0.heap.size + 1)) := by rw [← hW3]; exact grownBy_putObj_a _ _ _
    have hv3 : W3.heap[w.heap.size]? = some (.cells #[v] 22 (0, 0)) := by rw [← hW3]; exact (World.putObj_heap_other (by omega)).trans hv
    have hK3 : W3.heap[W0.heap.size]? = some (.deferred (some [])) := by rw [← hW3]; exact (World.putObj_heap_other (by omega)).trans h2.K
    have hrow3 := hrow.kept hg3 (ownsRow_ne_a hrow h2.L (fun cur e => by cases e))
    have hb3 : Below w.heap.size w W3 := h2.below.grown hg3 h2.below.size (fun k e => by cases e; omega)
    obtain ⟨hc3, hf3⟩ := cell_of_box_a hv3
    clear hW3
    refine ⟨none, W3, hend, ?_⟩
    gi_wp2
    rw [← hs0]
    refine ⟨by simp, .inl ⟨_, _, rfl, run_takeDeferred hK3, ?_⟩⟩
    exact ⟨_, results_tmp rfl _ _ _, v, ss, rfl, hS, hrow3.kept (grownBy_putObj_a _ _ _) (ownsRow_ne_a hrow3 hK3 (fun cur e => by cases e)), hnil, hb3.grown (grownBy_putObj_a _ _ _) hb3.size (fun k e => by cases e; omega)⟩
set_option maxRecDepth 100000 in
set_option maxHeartbeats 2000000 in
theorem collect_b (F : Fence) (n : Nat) (h8 : F.fn 115) (h11 : F.fn 138) (hro : F.round = none) (hn : 3 ≤ n) (g : Nat) (lb : Array Value) (hFg : F.fn g) (eg : ∀ args w, (callFunc g args).run Try.prog w = .ok (.enter g args) w)
    (S : List Int → Prop) (N : Nat) (hN : N ≤ maxLen) (hNb : N * 8 ≤ 140737488355328) (w : World) (hseq : SeqB F (n - 1 - 1) Try.prog g lb S N w) :
    CallsIn F n Try.prog 115 #[.func (.func g) #[] lb] w fun e w' => ∃ (v : Value) (ss : List Int), e = .returned v ∧ S ss ∧ w'.ownsRow w.heap.size 2 1 v ss.length (ss.map encZ) ∧ (v = .slice none 0 0 ↔ ss = []) ∧ Below w.heap.size w w' := by
  have h1 : 1 ≤ n := by omega
  refine callsIn_of_wp Try.func115 rfl h8 ?_ hro
  simp only [Try.ntmps115, List.size_toArray, List.length_cons, List.length_nil, Nat.reduceAdd, Nat.reduceSub, Array.replicate_succ, Array.replicate_zero, List.push_toArray, List.append_toArray, List.nil_append, List.cons_append]
  gi_wp2_with (gi_at_call 138; refine (appendSeq_b F (n - 1) h11 hro (by omega) g lb hFg eg S N hN hNb _ hseq).mono ?_; rintro e w' ⟨v, ss, rfl, hS, hrow, hnil, hb⟩)
  go_ret
  exact ⟨v, ss, rfl, hS, hrow, hnil, hb⟩
set_option maxRecDepth 100000 in
set_option maxHeartbeats 2000000 in
theorem sorted_b (F : Fence) (n : Nat) (h6 : F.fn 82) (h8 : F.fn 115) (h9 : F.fn 116) (h11 : F.fn 138) (hro : F.round = none) (hn : 4 ≤ n) (hsort : SortsIn F (n - 1)) (g : Nat) (lb : Array Value) (hFg : F.fn g) (eg : ∀ args w, (callFunc g args).run Try.prog w = .ok (.enter g args) w)
    (S : List Int → Prop) (N : Nat) (hN : N ≤ maxLen) (hNb : N * 8 ≤ 140737488355328) (w : World) (hSN : ∀ ss, S ss → ss.length ≤ N) (hseq : SeqB F (n - 1 - 1 - 1) Try.prog g lb S N w) :
    CallsIn F n Try.prog 82 #[.func (.func g) #[] lb] w fun e w' => ∃ (v : Value) (ss : List Int), e = .returned v ∧ S ss ∧
      w'.ownsRow w.heap.size 2 1 v ss.length ((ss.mergeSort (fun x y => decide (x ≤ y))).map encZ) ∧ (v = .slice none 0 0 ↔ ss = []) ∧ Below w.heap.size w w' := by
  have h1 : 1 ≤ n := by omega
  refine callsIn_of_wp Try.func82 rfl h6 ?_ hro
  simp only [Try.ntmps82, List.size_toArray, List.length_cons, List.length_nil, Nat.reduceAdd, Nat.reduceSub, Array.replicate_succ, Array.replicate_zero, List.push_toArray, List.append_toArray, List.nil_append, List.cons_append]
  gi_wp2_with (gi_at_call 115; refine (collect_b F (n - 1) h8 h11 hro (by omega) g lb hFg eg _ N hN hNb _ hseq).mono ?_; rintro e W ⟨v, ss, rfl, hS, hrow, hnil, hb⟩)
  rcases hrow.2 with ⟨rfl, hz⟩ | ⟨gb, cap, cur, rfl, hbase, hgb, r1, r2, r3, r4⟩
  · -- nothing came: the nil slice is sorted and handed back
    have hss : ss = [] := List.eq_nil_of_length_eq_zero hz
    subst hss
    gi_wp2_with (gi_at_call 116; refine (hsort.2 none 0 W).mono ?_; rintro e w' ⟨rfl, rfl⟩)
    go_ret
    exact ⟨.slice none 0 0, [], rfl, hS, by simpa using hrow, by simp, hb⟩
  · have hH : Holds encZ W gb 0 ss.toArray := holds_of_block_i hgb (by simpa using r4)
    have hgl : gb < W.heap.size := (Array.getElem?_eq_some_iff.1 hgb).1
    have hsz : ss.length < 4611686018427387904 := by have := hSN ss hS; omega
    have cS := hsort.1 gb 0 cap ss W hH hgl hsz
    gi_wp2_with (gi_at_call 116; refine cS.mono ?_; rintro e w' ⟨rfl, nn, os, rfl⟩)
    go_ret
    exact ⟨_, ss, rfl, hS, ownsRow_sorted_i (by simp) hbase hgb r1 r2 r3, hnil, hb.grown (grownBy_sorted_i _) hb.size (fun j hj => by cases hj; exact hbase)⟩
/-! ### as plain states have it -/
open Go.Pl Go.Bag
def encIL' (l : List Int) : CV := .sl (l.map fun n => [.int .i64 n])
theorem pcallC_of {P : Program} {f : FuncId} {cs : List CV} {r : CV}
    (h : ∀ (w : World) (O : Nat → Prop) (vs : Array Value), vs.size = cs.length → (∀ (i : Nat) (h1 : i < vs.size) (h2 : i < cs.length), V w O vs[i] cs[i]) → (∀ b, O b → b < w.heap.size) →
      Calls P f vs w fun e w' => ∃ v, e = .returned v ∧ V w' O v r ∧ Below w.heap.size w w') : PCallG P f (cs.map .c) (.c r) [] := by
  intro w O A β vs hsz hS
  have hn : vs.size = cs.length := by simpa using hsz
  refine (h w O vs hn (fun i h1 h2 => ?_) (fun b hb => (hS.outer b hb).1)).mono ?_
  · have ht := hS.temps i
    have e1 : (initPS (cs.map AV.c)).t i = .c cs[i] := by simp [initPS, h2]
    have e2 : vs.getD i undef = vs[i] := by simp [h1]
    rw [e1, e2] at ht
    exact V.ext (.of_less fun b hb => .inl hb) ht
  · rintro e w' ⟨v, rfl, hv, hb⟩
    have hdead : ∀ d, ((retPS (cs.map AV.c) (.c r) []).bx d).st = .dead := by
      intro d
      simp only [retPS]
      split
      · rfl
      · simp only [List.getElem?_map]
        cases cs[d]? <;> rfl
    refine ⟨v, fun _ => none, rfl, ⟨hb.os, hb.tape, hb.output, hb.size, fun b hlt _ => hb.block b hlt, fun i => ?_, fun d => ?_, fun d d' p p' _ ho hd => (by simp at *), fun d p _ hd => (by simp at hd), fun b hO => hS.outer b hO, fun d ps hd => (by rw [hdead] at hd; cases hd), fun d _ _ => rfl⟩, fun i c hi => ?_⟩
    · by_cases hi : i = (cs.map AV.c).length
      · simp only [hi, if_true, retPS]
        exact V.ext (.of_less fun b hb => by
          rcases hb with hb | ⟨_, _, _, hb⟩
          · exact hb
          · cases hb) hv
      · simp only [if_neg hi, retPS]; trivial
    · rw [hdead]; trivial
    · simp only [List.getElem?_map] at hi
      cases hc : cs[i]? <;> rw [hc] at hi <;> cases hi
theorem ints_of {w : World} {N : Nat → Prop} {v : Value} {l : List Int} (h : V w N v (encIL' l)) : Ints w v l := by
  unfold encIL' at h
  generalize he : (l.map fun n => [CV.int .i64 n]) = es at h
  cases h with
  | nil => exact .inl ⟨none, 0, rfl, by cases l <;> simp_all⟩
  | emp a cap => exact .inl ⟨some a, cap, rfl, by cases l <;> simp_all⟩
  | sl b off cap sz _ c hb hN hz hcap h1 hread hVV =>
    subst he
    refine .inr ⟨b, off, cap, by simp, hb, fun j hj => ?_⟩
    have hj' : j < (l.map fun n => [CV.int .i64 n]).length := by simpa using hj
    have hs : sz = 1 := by
      have := hz _ (List.getElem_mem hj')
      simpa using this.symm
    have h0 : 0 < (l.map fun n => [CV.int .i64 n])[j].length := by simp
    have h1 := hread j 0 hj' h0
    have h2 := hVV j 0 hj' h0
    subst hs
    rw [show off + j = off + (j * 1 + 0) by omega, h1]
    have e : (l.map fun n => [CV.int .i64 n])[j][0] = CV.int .i64 l[j] := by simp
    rw [e] at h2
    rw [V.int_inv h2]
    simp [hj]
theorem V_of_ownsRow {w' : World} {O : Nat → Prop} {base : Nat} {v : Value} {zs : List Int} (hO : ∀ b, O b → b < base) (h : w'.ownsRow base 2 1 v zs.length (zs.map encZ)) : V w' O v (encIL' zs) := by
  unfold encIL'
  rcases h.2 with ⟨rfl, h0⟩ | ⟨g, cap, cur, rfl, hb, hg, h1, h2, h3, h4⟩
  · obtain rfl : zs = [] := List.eq_nil_of_length_eq_zero h0
    exact .nil
  · have hlt : g < w'.heap.size := (Array.getElem?_eq_some_iff.1 hg).1
    have := V.sl (w := w') (N := O) g 0 cap 1 (zs.map fun n => [CV.int .i64 n]) (fun i _ => .int .i64 (zs[i]?.getD 0)) hlt (fun h => by have := hO g h; omega) (fun e he => by
        obtain ⟨n, _, rfl⟩ := List.mem_map.1 he
        rfl) (by simpa using h1) (fun e he c hc => by
        obtain ⟨n, _, rfl⟩ := List.mem_map.1 he
        simp at hc
        subst hc
        rfl) (fun i j hi hj => by
        have hi' : i < zs.length := by simpa using hi
        obtain rfl : j = 0 := by simp at hj; omega
        have : cur[i]? = some (encZ zs[i]) := by
          have e : (cur.toList.take (zs.length * 1))[i]? = (zs.map encZ)[i]? := by rw [h4]
          rw [List.getElem?_take, if_pos (by omega)] at e
          simpa [hi'] using e
        simp only [World.cell?, hg]
        simp [this, hi', encZ]) (fun i j hi hj => by
        have hi' : i < zs.length := by simpa using hi
        obtain rfl : j = 0 := by simp at hj; omega
        simp [hi']
        exact .int _ _)
    simpa using this
theorem C_Values (l : List Int) : PCallG Try.prog 83 [.c (encIL' l)] (.c (.clo 117 (encIL' l))) [] := by
  refine pcallC_of (cs := [encIL' l]) fun w O vs hn hV hO => ?_
  have hn1 : vs.size = 1 := by simpa using hn
  have hv := hV 0 (by omega) (by simp)
  obtain ⟨v, rfl⟩ : ∃ v, vs = #[v] := ⟨vs[0]'(by omega), by
    apply Array.ext
    · simpa using hn1
    · intro i h1 h2
      obtain rfl : i = 0 := by simp at h2; omega
      rfl⟩
  have hv : V w O v (encIL' l) := hv
  obtain ⟨a, len, cap, rfl⟩ : ∃ a len cap, v = .slice a len cap := by
    unfold encIL' at hv
    generalize (l.map fun n => [CV.int .i64 n]) = es at hv
    cases hv <;> exact ⟨_, _, _, rfl⟩
  refine calls_of_wp Try.func83 rfl ?_
  simp only [Try.ntmps83, List.size_toArray, List.length_cons, List.length_nil, Nat.reduceAdd, Nat.reduceSub, Array.replicate_succ, Array.replicate_zero, List.push_toArray, List.append_toArray, List.nil_append, List.cons_append]
  go_wp2
  go_ret
  refine ⟨_, rfl, ?_, (Below.refl _ w).alloc (Nat.le_refl _) _⟩
  refine V.clo 117 w.heap.size (.slice a len cap) _ (by simp) (fun h => by have := hO _ h; omega) ?_ (hv.ext ⟨by simp, fun b hb _ => Below.heap_alloc _ _ b hb, fun b _ h => h⟩)
  show (match (w.alloc (.cells #[.slice a len cap] 22)).heap[w.heap.size]? with | some (Obj.cells c _ _) => c[0]? | _ => none) = _
  rw [World.alloc_heap_new]
  rfl
theorem C_Sorted (l : List Int) (hlen : l.length < 1000000000) : PCallG Try.prog 82 [.c (.clo 117 (encIL' l))] (.c (encIL' (srt l))) [] := by
  refine pcallC_of (cs := [.clo 117 (encIL' l)]) fun w O vs hn hV hO => ?_
  have hn1 : vs.size = 1 := by simpa using hn
  have hv := hV 0 (by omega) (by simp)
  obtain ⟨v, rfl⟩ : ∃ v, vs = #[v] := ⟨vs[0]'(by omega), by
    apply Array.ext
    · simpa using hn1
    · intro i h1 h2
      obtain rfl : i = 0 := by simp at h2; omega
      rfl⟩
  have hv : V w O v (.clo 117 (encIL' l)) := hv
  cases hv with
  | clo _ b sv _ hb hN hr h =>
    have hm : maxLen = 9223372036854775807 := rfl
    have hseq := values_b Fence.wide 1 trivial rfl (Nat.le_refl _) b sv l (by omega) w hb hr (ints_of h)
    refine (callsIn_wide (n := 4)).1 ((sorted_b Fence.wide 4 trivial trivial trivial trivial rfl (Nat.le_refl _) (sorts_wide _) 117 _ trivial (enters_of Try.func117 (by kernel_rfl) rfl) _ l.length (by omega) (by omega) w (fun ss h => by rw [h]; exact Nat.le_refl _) hseq).mono ?_)
    rintro e w' ⟨v, ss, rfl, rfl, hrow, _, hbl⟩
    refine ⟨v, rfl, ?_, hbl⟩
    have hl : ss.length = (srt ss).length := (srt_perm ss).length_eq.symm
    rw [hl] at hrow
    exact V_of_ownsRow hO hrow
end Go.Proofs.Ytcmejdkjfekoeaa
namespace Go.Proofs.Ytcmejdkjfekoeaa
open Go.Pl
set_option maxHeartbeats 4000000
def encI (a : Int) : List CV := [.int .i64 a]
def encIL (l : List Int) : CV := .sl (l.map encI)
def totI : List Int → Int
  | [] => 0
  | a :: l => a + totI l
def I64s (l : List Int) : Prop := ∀ a ∈ l, I64 a
theorem total_loop {K : Ex → PS → Prop} (l : List Int) (v4 : Nat) (hlen : l.length < 1000000000) : ∀ (rest : List Int) (i : Nat) (z : Int) (s : PS), l.drop i = rest → i ≤ l.length → I64s rest →
    -(9223372036854775808 * (i : Int)) ≤ z → z ≤ 9223372036854775808 * (i : Int) →
    s.t 7 = .c (encIL l) → s.t 8 = .c (.int .i64 l.length) → s.t 9 = .c (.int .i64 i) → s.t 4 = .ptr 4 v4 0 → s.bx 4 = ⟨v4, .var (cellsW z)⟩ →
    (∀ s', s'.t 4 = .ptr 4 v4 0 → s'.bx 4 = ⟨v4, .var (cellsW (z + totI rest))⟩ → W128 (z + totI rest) → K (.x 0) s') → wP (PCallG Try.prog) (.loop b32_0) s K := by
  intro rest
  induction rest with
  | nil =>
    intro i z s hd hi hr h0 h1 t7 t8 t9 t4 b4 hx
    refine w_loop ?_
    have hi' : i = l.length := by have := List.drop_eq_nil_iff.mp hd; omega
    subst hi'
    rw [← put_same t8, ← put_same t9, ← put_same t4, ← box_same b4]
    unfold b32_0 r32_3 r32_4 r32_5 r32_6
    repeat' (first | refine w_seq ?_ | refine w_ops ?_ | refine st_nil ?_ | refine th_n ?_ | refine th_x ?_ | refine w_exit ?_ | refine w_false rfl ?_ | refine lss_f rfl rfl (by omega) ?_)
    exact hx _ (by rfl) (by simp only [totI, Int.add_zero]; rfl) (by simp only [totI, Int.add_zero]; constructor <;> omega)
  | cons a rest ih =>
    intro i z s hd hi hr h0 h1 t7 t8 t9 t4 b4 hx
    refine w_loop ?_
    have hl : i < l.length := by have := congrArg List.length hd; simp at this; omega
    have hn : l.drop (i + 1) = rest := by have := congrArg List.tail hd; simpa [List.tail_drop] using this
    have he : (l.map encI)[i]? = some (encI a) := by
      have : l[i]? = some a := by have := congrArg List.head? hd; simpa [List.head?_drop] using this
      simp [this]
    have ha := hr a (by simp)
    have hr' : I64s rest := fun b hb => hr b (by simp [hb])
    obtain ⟨a1, a2⟩ := ha
    have hP := C_Plus z a 1 (by constructor <;> omega) ⟨a1, a2⟩ (by constructor <;> omega) (by constructor <;> omega)
    rw [Int.mul_one] at hP
    have e : z + totI (a :: rest) = z + a + totI rest := by simp only [totI]; omega
    rw [e] at hx
    rw [← put_same t7, ← put_same t8, ← put_same t9, ← put_same t4, ← box_same b4]
    unfold b32_0 r32_3 r32_4 r32_5 r32_6
    repeat' (first | refine call3 rfl rfl rfl hP ?_ | refine w_seq ?_ | refine w_ops ?_ | refine st_nil ?_ | refine th_n ?_ | refine bk_n ?_ | refine w_block ?_ | refine w_skip ?_ | refine w_true rfl ?_ | refine mv_c rfl ?_ | refine lss_t rfl rfl (by omega) ?_ | refine add_in rfl rfl (by omega) ?_ | refine load_rp rfl (Nat.le_of_ble_eq_true rfl) rfl ?_ | refine load_ptr rfl (by decide) rfl (Nat.le_of_ble_eq_true rfl) rfl ?_ | refine store_ptr rfl rfl (by decide) rfl rfl (Nat.le_of_ble_eq_true rfl) rfl ?_ | refine iaS_c rfl rfl (by omega) (by assumption) rfl ?_)
    exact ih (i + 1) (z + a) _ hn (by omega) hr' (by omega) (by omega) (by rfl) (by rfl) (by rfl) (by rfl) (by rfl) hx
def totB (l : List Int) : CV := if I64 (totI l) then .tup [.int .i64 (totI l), .bool true] else .tup [.int .i64 0, .bool false]
theorem C_Total (l : List Int) (hlen : l.length < 1000000000) (hr : I64s l) : PCallG Try.prog 32 [.c (encIL l)] (.c (totB l)) [] := by
  refine pcallF Try.func32 c32 rfl ?_
  unfold p32 r32_0 r32_1 r32_2 r32_7
  repeat' (first | refine w_seq ?_ | refine w_ops ?_ | refine st_nil ?_ | refine th_n ?_ | refine w_block ?_ | refine mv_c rfl ?_ | refine alloc_ (fun u => ?_) | refine len_sl rfl (by first | assumption | exact List.length_map _) ?_)
  refine total_loop l _ hlen l 0 0 _ rfl (by omega) hr (by omega) (by omega) (by rfl) (by rfl) (by rfl) (by rfl) (by rfl) ?_
  intro s' t4 b4 hW
  rw [Int.zero_add] at b4 hW
  have hI := C_Int _ hW
  rw [← put_same t4, ← box_same b4]
  by_cases h : I64 (totI l)
  · rw [if_pos h] at hI
    repeat' (first | refine call1 rfl hI ?_ | refine w_seq ?_ | refine w_ops ?_ | refine st_nil ?_ | refine th_n ?_ | refine bk_x ?_ | refine w_ret ?_ | refine mv_c rfl ?_ | refine load_ptr rfl (by decide) rfl (Nat.le_of_ble_eq_true rfl) rfl ?_ | refine ext_ rfl rfl ?_)
    exact fin_r rfl (by simp [one_, totB, h])
  · rw [if_neg h] at hI
    repeat' (first | refine call1 rfl hI ?_ | refine w_seq ?_ | refine w_ops ?_ | refine st_nil ?_ | refine th_n ?_ | refine bk_x ?_ | refine w_ret ?_ | refine mv_c rfl ?_ | refine load_ptr rfl (by decide) rfl (Nat.le_of_ble_eq_true rfl) rfl ?_ | refine ext_ rfl rfl ?_)
    exact fin_r rfl (by simp [one_, totB, h])
end Go.Proofs.Ytcmejdkjfekoeaa
namespace Go.Proofs.Ytcmejdkjfekoeaa
open Go.Pl Go.Bag
set_option maxHeartbeats 4000000
theorem fin_own' {i d ver n : Nat} {sz : Nat} {es zs : List (List CV)} {s : PS} (h : s.t i = .osl d ver 0 n) (hb : s.bx d = ⟨ver, .sl sz zs⟩) (hz : zs = es) (hn : n = zs.length) : FinK [.t i] (.own sz es) .r s := by
  subst hz; exact fin_own h hb hn
theorem set_last (k : List Run) (r q : Run) : (encE (k ++ [r])).set k.length (encR q) = encE (k ++ [q]) := by
  simp [encE, List.set_append]
theorem C_more (l : List Run) (v n : Int) (hlen : l.length < 1000000000) (hb : ∀ r ∈ l, -9223372036854775808 ≤ r.2 + n ∧ r.2 + n ≤ 9223372036854775807) :
    PCallG Try.prog 84 [.own 2 (encE l), .c (.int .i64 v), .c (.int .i64 n)] (.own 2 (encE (moreL l v n))) [] := by
  refine pcallF Try.func84 c84 rfl ?_
  unfold p84 r84_0 r84_1 r84_2 r84_3 r84_4 r84_5
  rcases snoc_cases l with rfl | ⟨k, r, rfl⟩
  · have hg : (encE []).length = 0 := rfl
    have hm : ([] : List (List CV)).length + [[CV.int .i64 v, .int .i64 n]].length ≤ maxGrow := by simp [maxGrow]
    repeat' (first | refine w_seq ?_ | refine w_ops ?_ | refine st_nil ?_ | refine th_n ?_ | refine w_skip ?_ | refine w_ret ?_ | refine w_false rfl ?_ | refine g_no rfl ?_ | refine mv_c rfl ?_ | refine mv_osl rfl ?_ | refine pick_f rfl rfl ?_ | refine geq_f rfl rfl (by omega) ?_ | refine sub_in rfl rfl (by omega) ?_ | refine own0_ (fun u => ?_) | refine build_ rfl rfl ?_ | refine bsl_ rfl rfl ?_ | refine len_osl rfl rfl ?_ | refine app_own rfl rfl rfl rfl (by first | assumption | omega | (simp; omega)) (by first | (intro e he; cases List.mem_singleton.mp he; rfl) | assumption) rfl rfl (fun _ _ => ?_))
    exact fin_own rfl rfl rfl
  · have hr := hb r (by simp)
    have hk : (encE (k ++ [r])).length = k.length + 1 := by simp [encE]
    have hk9 : k.length < 1000000000 := by simp only [List.length_append, List.length_cons, List.length_nil] at hlen; omega
    have hn : (((k.length + 1 : Nat) : Int) - 1).toNat = k.length := by omega
    have hget : (encE (k ++ [r]))[(((encE (k ++ [r])).length : Int) - 1).toNat]? = some (encR r) := by rw [hk, hn]; simp [encE]
    have hgrow : (encE (k ++ [r])).length + [[CV.int .i64 v, .int .i64 n]].length ≤ maxGrow := by
      rw [hk]; simp [maxGrow] at *; omega
    by_cases hv : r.1 = v
    · subst hv
      rw [moreL_eq]
      repeat' (first | refine w_seq ?_ | refine w_ops ?_ | refine st_nil ?_ | refine th_n ?_ | refine th_r ?_ | refine w_ret ?_ | refine w_true rfl ?_ | refine g_yes rfl ?_ | refine mv_c rfl ?_ | refine mv_osl rfl ?_ | refine pick_t rfl rfl ?_ | refine geq_t rfl rfl (by omega) ?_ | refine eql_t rfl rfl (by omega) ?_ | refine add_in rfl rfl (by omega) ?_ | refine sub_in rfl rfl (by omega) ?_ | refine own0_ (fun u => ?_) | refine load_sp rfl (by decide) rfl (by assumption) (Nat.le_of_ble_eq_true rfl) rfl ?_ | refine store_sp rfl rfl (by decide) rfl (by assumption) rfl (Nat.le_of_ble_eq_true rfl) rfl ?_ | refine fad_sp rfl rfl rfl ?_ | refine iaS_osl rfl rfl rfl (by omega) rfl ?_ | refine len_osl rfl rfl ?_)
      refine fin_own' rfl rfl ?_ ?_
      · rw [← set_last k r (r.1, r.2 + n), hk, hn]
        rfl
      · rw [List.length_set]
    · rw [moreL_ne k r v n hv]
      repeat' (first | refine w_seq ?_ | refine w_ops ?_ | refine st_nil ?_ | refine th_n ?_ | refine w_skip ?_ | refine w_ret ?_ | refine w_false rfl ?_ | refine g_yes rfl ?_ | refine mv_c rfl ?_ | refine mv_osl rfl ?_ | refine pick_t rfl rfl ?_ | refine geq_t rfl rfl (by omega) ?_ | refine eql_f rfl rfl (by omega) ?_ | refine sub_in rfl rfl (by omega) ?_ | refine own0_ (fun u => ?_) | refine build_ rfl rfl ?_ | refine bsl_ rfl rfl ?_ | refine load_sp rfl (by decide) rfl (by assumption) (Nat.le_of_ble_eq_true rfl) rfl ?_ | refine fad_sp rfl rfl rfl ?_ | refine iaS_osl rfl rfl rfl (by omega) rfl ?_ | refine len_osl rfl rfl ?_ | refine app_own rfl rfl rfl rfl (by first | assumption | omega | (simp; omega)) (by first | (intro e he; cases List.mem_singleton.mp he; rfl) | assumption) rfl rfl (fun _ _ => ?_))
      refine fin_own' rfl rfl ?_ ?_
      · simp [encE]; rfl
      · rfl
end Go.Proofs.Ytcmejdkjfekoeaa
namespace Go.Proofs.Ytcmejdkjfekoeaa
open Go.Pl Go.Bag
set_option maxHeartbeats 8000000
theorem of_loop {K : Ex → PS → Prop} (l : List Int) (hlen : l.length < 400000000) : ∀ (rest : List Int) (i : Nat) (out : List Run) (s : PS), l.drop i = rest → i ≤ l.length → pos out → out.length ≤ i → sum out ≤ i →
    s.t 8 = .c (encIL l) → s.t 9 = .c (.int .i64 l.length) → s.t 10 = .c (.int .i64 i) → s.t 3 = .osl 3 (s.bx 3).ver 0 (encE out).length → s.bx 3 = ⟨(s.bx 3).ver, .sl 2 (encE out)⟩ →
    (∀ s' v, s'.t 3 = .osl 3 v 0 (encE (ofS out rest)).length → s'.bx 3 = ⟨v, .sl 2 (encE (ofS out rest))⟩ → K (.x 0) s') → wP (PCallG Try.prog) (.loop b21_0) s K := by
  intro rest
  induction rest with
  | nil =>
    intro i out s hd hi hp hl hs t8 t9 t10 t3 b3 hx
    refine w_loop ?_
    have hi' : i = l.length := by have := List.drop_eq_nil_iff.mp hd; omega
    subst hi'
    generalize (s.bx 3).ver = v3 at t3 b3
    rw [← put_same t8, ← put_same t9, ← put_same t10, ← put_same t3, ← box_same b3]
    unfold b21_0 r21_3 r21_4 r21_5 r21_6
    repeat' (first | refine w_seq ?_ | refine w_ops ?_ | refine st_nil ?_ | refine th_n ?_ | refine th_x ?_ | refine w_exit ?_ | refine w_false rfl ?_ | refine lss_f rfl rfl (by omega) ?_)
    exact hx _ _ (by rfl) (by rfl)
  | cons a rest ih =>
    intro i out s hd hi hp hl hs t8 t9 t10 t3 b3 hx
    refine w_loop ?_
    have hil : i < l.length := by have := congrArg List.length hd; simp at this; omega
    have hn : l.drop (i + 1) = rest := by have := congrArg List.tail hd; simpa [List.tail_drop] using this
    have he : (l.map encI)[i]? = some (encI a) := by
      have : l[i]? = some a := by have := congrArg List.head? hd; simpa [List.head?_drop] using this
      simp [this]
    have hM := C_more out a 1 (by omega) fun q hq => by have := le_sum hp q hq; omega
    generalize (s.bx 3).ver = v3 at t3 b3
    rw [← put_same t8, ← put_same t9, ← put_same t10, ← put_same t3, ← box_same b3]
    unfold b21_0 r21_3 r21_4 r21_5 r21_6
    repeat' (first | refine callO2 rfl rfl rfl rfl rfl hM rfl (fun _ _ => ?_) | refine w_seq ?_ | refine w_ops ?_ | refine st_nil ?_ | refine th_n ?_ | refine bk_n ?_ | refine w_block ?_ | refine w_skip ?_ | refine w_true rfl ?_ | refine mv_c rfl ?_ | refine mv_osl rfl ?_ | refine lss_t rfl rfl (by omega) ?_ | refine add_in rfl rfl (by omega) ?_ | refine load_rp rfl (Nat.le_of_ble_eq_true rfl) rfl ?_ | refine iaS_c rfl rfl (by omega) (by assumption) rfl ?_ | refine w_rn rfl (by decide) rfl rfl (fun _ _ => ?_))
    exact ih (i + 1) (moreL out a 1) _ hn (by omega) (moreL_pos hp (Int.le_refl _)) (by have := moreL_len out a 1; omega) (by rw [moreL_sum]; omega) (by rfl) (by rfl) (by rfl) (by rfl) (by rfl) hx
theorem C_Of (l : List Int) (hlen : l.length < 400000000) : PCallG Try.prog 21 [.c (encIL l)] (.c (encL (ofL l))) [] := by
  refine pcallF Try.func21 c21 rfl ?_
  have h1 : PCallG Try.prog 83 [.c (encIL l)] (.c (.clo 117 (encIL l))) [] := C_Values l
  have h2 : PCallG Try.prog 82 [.c (.clo 117 (encIL l))] (.c (encIL (srt l))) [] := C_Sorted l (by omega)
  have hl : (srt l).length = l.length := (srt_perm l).length_eq
  unfold p21 r21_0 r21_1 r21_2 r21_7
  repeat' (first | refine call1 rfl h1 ?_ | refine call1 rfl h2 ?_ | refine len_sl rfl (List.length_map _) ?_ | refine w_seq ?_ | refine w_ops ?_ | refine st_nil ?_ | refine th_n ?_ | refine w_block ?_ | refine mv_c rfl ?_ | refine own0_ (fun u => ?_))
  refine of_loop (srt l) (by omega) (srt l) 0 [] _ rfl (by omega) (fun q hq => by simp at hq) (by simp) (by simp [sum]) (by rfl) (by rfl) (by rfl) (by rfl) (by rfl) ?_
  intro s' v t3 b3
  rw [← put_same t3, ← box_same b3]
  repeat' (first | refine w_seq ?_ | refine w_ops ?_ | refine st_nil ?_ | refine th_n ?_ | refine bk_x ?_ | refine w_ret ?_ | refine mv_osl rfl ?_)
  exact fin_r (rv_own rfl rfl rfl rv_nil) rfl
end Go.Proofs.Ytcmejdkjfekoeaa
namespace Go.Proofs.Ytcmejdkjfekoeaa
open Go.Pl Go.Bag
set_option maxHeartbeats 4000000
theorem good_loop {C : CallP} {K : Ex → PS → Prop} (l : List Run) (hlen : l.length < 4611686018427387904) : ∀ (rest : List Run) (i : Nat) (sum : Int) (p : Option Int) (s : PS), l.drop i = rest → i ≤ l.length → 0 ≤ sum → sum ≤ 1099511627776 →
    (i = 0 → p = none) → (0 < i → ∃ q, (l.map encR)[((i : Int) - 1).toNat]? = some (encR q) ∧ p = some q.1) →
    s.t 0 = .c (encL l) → s.t 6 = .c (encL l) → s.t 7 = .c (.int .i64 l.length) → s.t 8 = .c (.int .i64 i) → s.t 3 = .c (.int .i64 sum) →
    (goodFrom p sum rest = true → ∀ s', K (.x 0) s') → (goodFrom p sum rest = false → ∀ s', s'.t 2 = .c (.bool false) → K .r s') → wP C (.loop b26_0) s K := by
  intro rest
  induction rest with
  | nil =>
    intro i sum p s hd hi h0 h1 hp0 hp1 t0 t6 t7 t8 t3 hx hr
    refine w_loop ?_
    have := get_end hd hi
    subst this
    rw [← put_same t7, ← put_same t8]
    unfold b26_0 r26_3 r26_4 r26_5 r26_6 r26_7 r26_8
    repeat' (first | refine w_seq ?_ | refine w_ops ?_ | refine st_nil ?_ | refine th_n ?_ | refine th_x ?_ | refine w_exit ?_ | refine w_false rfl ?_ | refine lss_f rfl rfl (by omega) ?_)
    exact hx rfl _
  | cons r rest ih =>
    intro i sum p s hd hi h0 h1 hp0 hp1 t0 t6 t7 t8 t3 hx hr
    refine w_loop ?_
    have he := get_enc hd
    have hl := get_len hd
    have hn := get_next hd
    rw [← put_same t0, ← put_same t6, ← put_same t7, ← put_same t8, ← put_same t3]
    unfold b26_0 r26_3 r26_4 r26_5 r26_6 r26_7 r26_8
    have next : ∀ s'', (p.any (fun a => decide (r.1 ≤ a)) = false) → 1 ≤ r.2 → r.2 ≤ 1099511627776 - sum → s''.t 0 = .c (encL l) → s''.t 6 = .c (encL l) → s''.t 7 = .c (.int .i64 l.length) → s''.t 8 = .c (.int .i64 (i + 1)) → s''.t 3 = .c (.int .i64 (sum + r.2)) → wP C (.loop b26_0) s'' K := by
      intro s'' g1 g2 g3 u0 u6 u7 u8 u3
      have e : goodFrom p sum (r :: rest) = goodFrom (some r.1) (sum + r.2) rest := by
        have : ¬ r.2 < 1 := by omega
        have : ¬ cap - sum < r.2 := by unfold cap; omega
        simp [goodFrom, *]
      rw [e] at hx hr
      refine ih (i + 1) (sum + r.2) (some r.1) s'' hn (by omega) (by omega) (by omega) (by omega) (fun _ => ⟨r, ?_, rfl⟩) u0 u6 u7 u8 u3 hx hr
      have : (((i + 1 : Nat) : Int) - 1).toNat = i := by omega
      rw [this]; exact he
    have bad : ∀ s'', (p.any (fun a => decide (r.1 ≤ a)) = true ∨ r.2 < 1 ∨ 1099511627776 - sum < r.2) → s''.t 2 = .c (.bool false) → K .r s'' := by
      intro s'' g u2
      refine hr ?_ s'' u2
      rcases g with g | g | g
      · simp [goodFrom, g]
      · simp [goodFrom, g]
      · have : cap - sum < r.2 := g
        simp [goodFrom, this]
    rcases Nat.eq_zero_or_pos i with hz | hz
    · have hp := hp0 hz
      repeat' (first | refine w_seq ?_ | refine w_ops ?_ | refine w_opsD0 rfl ?_ | refine st_nil ?_ | refine th_n ?_ | refine th_r ?_ | refine bk_n ?_ | refine bk_r ?_ | refine w_block ?_ | refine w_skip ?_ | refine w_ret ?_ | refine w_true rfl ?_ | refine w_condd rfl (fun hc => ?_) (fun hc => ?_) | refine g_yes rfl ?_ | refine g_no rfl ?_ | refine g_splitd rfl (fun hg => ?_) (fun hg => ?_) | refine mv_c rfl ?_ | refine pick_t rfl rfl ?_ | refine pick_f rfl rfl ?_ | refine lss_t rfl rfl (by omega) ?_ | refine lss_ rfl rfl ?_ | refine gtr_f rfl rfl (by omega) ?_ | refine gtr_ rfl rfl ?_ | refine add_in rfl rfl (by omega) ?_ | refine sub_in rfl rfl (by omega) ?_ | refine alloc_ (fun u => ?_) | refine load_rp rfl (Nat.le_of_ble_eq_true rfl) rfl ?_ | refine load_ptr rfl (by decide) rfl (Nat.le_of_ble_eq_true rfl) rfl ?_ | refine store_ptr rfl rfl (by decide) rfl rfl (Nat.le_of_ble_eq_true rfl) rfl ?_ | refine fad_ptr rfl rfl rfl ?_ | refine iaS_c rfl rfl (by omega) (by assumption) rfl ?_)
      all_goals (first | exact next _ (by simp [hp]) (by omega) (by omega) rfl rfl rfl rfl rfl | exact bad _ (.inr (by omega)) rfl | exact bad _ (.inl (by simp [hp]; omega)) rfl)
    · obtain ⟨q, hq, hp⟩ := hp1 hz
      repeat' (first | refine w_seq ?_ | refine w_ops ?_ | refine w_opsD0 rfl ?_ | refine st_nil ?_ | refine th_n ?_ | refine th_r ?_ | refine bk_n ?_ | refine bk_r ?_ | refine w_block ?_ | refine w_skip ?_ | refine w_ret ?_ | refine w_true rfl ?_ | refine w_condd rfl (fun hc => ?_) (fun hc => ?_) | refine g_yes rfl ?_ | refine g_no rfl ?_ | refine g_splitd rfl (fun hg => ?_) (fun hg => ?_) | refine mv_c rfl ?_ | refine pick_t rfl rfl ?_ | refine pick_f rfl rfl ?_ | refine lss_t rfl rfl (by omega) ?_ | refine lss_ rfl rfl ?_ | refine gtr_t rfl rfl (by omega) ?_ | refine gtr_ rfl rfl ?_ | refine geq_ rfl rfl ?_ | refine add_in rfl rfl (by omega) ?_ | refine sub_in rfl rfl (by omega) ?_ | refine alloc_ (fun u => ?_) | refine load_rp rfl (Nat.le_of_ble_eq_true rfl) rfl ?_ | refine load_ptr rfl (by decide) rfl (Nat.le_of_ble_eq_true rfl) rfl ?_ | refine store_ptr rfl rfl (by decide) rfl rfl (Nat.le_of_ble_eq_true rfl) rfl ?_ | refine fad_ptr rfl rfl rfl ?_ | refine fad_rp rfl (Nat.le_of_ble_eq_true rfl) rfl ?_ | refine iaS_c rfl rfl (by omega) (by assumption) rfl ?_)
      all_goals (first | exact next _ (by simp [hp]; omega) (by omega) (by omega) rfl rfl rfl rfl rfl | exact bad _ (.inr (by omega)) rfl | exact bad _ (.inl (by simp [hp]; omega)) rfl)
theorem C_good (l : List Run) (hlen : l.length < 4611686018427387904) : PCallG Try.prog 26 [.c (encL l)] (.c (.bool (good l))) [] := by
  refine pcallF Try.func26 c26 rfl ?_
  have t0 : (initPS [.c (encL l)]).t 0 = .c (encL l) := rfl
  rw [← put_same t0]
  unfold p26 r26_0 r26_1 r26_2
  repeat' (first | refine w_seq ?_ | refine w_ops ?_ | refine st_nil ?_ | refine th_n ?_ | refine w_block ?_ | refine mv_c rfl ?_ | refine len_sl rfl (by first | assumption | exact List.length_map _) ?_)
  refine good_loop l hlen l 0 0 none _ rfl (by omega) (by omega) (by omega) (fun _ => rfl) (fun h => by omega) rfl rfl (by simp [PS.put, encL]) rfl rfl ?_ ?_
  · intro hg s'
    unfold r26_9
    repeat' (first | refine w_seq ?_ | refine w_ops ?_ | refine st_nil ?_ | refine th_n ?_ | refine bk_x ?_ | refine w_ret ?_ | refine mv_c rfl ?_)
    exact ⟨_, rfl, by unfold good; rw [hg]; rfl⟩
  · intro hg s' h2
    repeat' (first | refine th_r ?_ | refine bk_r ?_)
    exact ⟨[.bool false], by simp [rsVals, rs26, rsVal, h2, PS.close], by unfold good; rw [hg]; rfl⟩
end Go.Proofs.Ytcmejdkjfekoeaa
namespace Go.Proofs.Ytcmejdkjfekoeaa
open Go.Pl Go.Bag
set_option maxHeartbeats 4000000
theorem count_loop {C : CallP} {K : Ex → PS → Prop} (l : List Run) (hlen : l.length < 4611686018427387904) : ∀ (rest : List Run) (i : Nat) (acc : Int) (s : PS), l.drop i = rest → i ≤ l.length → pos rest → 0 ≤ acc → acc + sum rest ≤ 1099511627776 →
    s.t 6 = .c (encL l) → s.t 7 = .c (.int .i64 l.length) → s.t 8 = .c (.int .i64 i) → s.t 3 = .c (.int .i64 acc) →
    (∀ s', s'.t 3 = .c (.int .i64 (acc + sum rest)) → K (.x 0) s') → wP C (.loop b86_0) s K := by
  intro rest
  induction rest with
  | nil =>
    intro i acc s hd hi hp h0 h1 t6 t7 t8 t3 hx
    refine w_loop ?_
    have := get_end hd hi
    subst this
    rw [← put_same t7, ← put_same t8, ← put_same t3]
    unfold b86_0 r86_3 r86_4 r86_5 r86_6
    repeat' (first | refine w_seq ?_ | refine w_ops ?_ | refine st_nil ?_ | refine th_n ?_ | refine th_x ?_ | refine w_exit ?_ | refine w_false rfl ?_ | refine lss_f rfl rfl (by omega) ?_)
    exact hx _ (by simp [sum]; rfl)
  | cons r rest ih =>
    intro i acc s hd hi hp h0 h1 t6 t7 t8 t3 hx
    refine w_loop ?_
    have he := get_enc hd
    have hl := get_len hd
    have hn := get_next hd
    have hr := hp r (by simp)
    have hp' : pos rest := fun q hq => hp q (by simp [hq])
    have hs := sum_nonneg hp'
    have e : acc + sum (r :: rest) = acc + r.2 + sum rest := by simp only [sum]; omega
    rw [e] at h1 hx
    rw [← put_same t6, ← put_same t7, ← put_same t8, ← put_same t3]
    unfold b86_0 r86_3 r86_4 r86_5 r86_6
    repeat' (first | refine w_seq ?_ | refine w_ops ?_ | refine st_nil ?_ | refine th_n ?_ | refine bk_n ?_ | refine w_block ?_ | refine w_skip ?_ | refine w_true rfl ?_ | refine mv_c rfl ?_ | refine lss_t rfl rfl (by omega) ?_ | refine add_in rfl rfl (by omega) ?_ | refine alloc_ (fun u => ?_) | refine load_rp rfl (Nat.le_of_ble_eq_true rfl) rfl ?_ | refine load_ptr rfl (by decide) rfl (Nat.le_of_ble_eq_true rfl) rfl ?_ | refine store_ptr rfl rfl (by decide) rfl rfl (Nat.le_of_ble_eq_true rfl) rfl ?_ | refine fad_ptr rfl rfl rfl ?_ | refine iaS_c rfl rfl (by omega) (by assumption) rfl ?_)
    exact ih (i + 1) (acc + r.2) _ hn (by omega) hp' (by omega) (by omega) rfl rfl rfl rfl hx
theorem C_count (l : List Run) (hlen : l.length < 4611686018427387904) (hp : pos l) (hs : sum l ≤ 1099511627776) : PCallG Try.prog 86 [.c (encL l)] (.c (.int .i64 (sum l))) [] := by
  refine pcallF Try.func86 c86 rfl ?_
  unfold p86 r86_0 r86_1 r86_2 r86_7
  repeat' (first | refine w_seq ?_ | refine w_ops ?_ | refine st_nil ?_ | refine th_n ?_ | refine w_block ?_ | refine mv_c rfl ?_ | refine len_sl rfl (by first | assumption | exact List.length_map _) ?_)
  refine count_loop l hlen l 0 0 _ rfl (by omega) hp (by omega) (by omega) rfl rfl rfl rfl (fun s' h3 => ?_)
  rw [← put_same h3]
  repeat' (first | refine w_seq ?_ | refine w_ops ?_ | refine st_nil ?_ | refine th_n ?_ | refine bk_x ?_ | refine w_ret ?_ | refine mv_c rfl ?_)
  exact fin_r rfl (by simp [one_])
theorem C_Count (l : List Run) (hlen : l.length < 4611686018427387904) : PCallG Try.prog 27 [.c (encL l)] (.c (.int .i64 (if good l then sum l else 0))) [] := by
  refine pcallF Try.func27 c27 rfl ?_
  unfold p27 r27_0 r27_1 r27_2 r27_3
  by_cases hg : good l = true
  · obtain ⟨hp, hs⟩ := good_facts hg
    have hC := C_good l hlen
    rw [hg] at hC
    repeat' (first | refine call1 rfl hC ?_ | refine call1 rfl (C_count l hlen hp hs) ?_ | refine w_seq ?_ | refine w_ops ?_ | refine st_nil ?_ | refine th_n ?_ | refine w_skip ?_ | refine w_ret ?_ | refine w_false rfl ?_ | refine mv_c rfl ?_ | refine not_ rfl ?_)
    exact fin_r rfl (by simp [one_, hg])
  · simp only [Bool.not_eq_true] at hg
    have hC := C_good l hlen
    rw [hg] at hC
    repeat' (first | refine call1 rfl hC ?_ | refine w_seq ?_ | refine w_ops ?_ | refine st_nil ?_ | refine th_n ?_ | refine th_r ?_ | refine w_ret ?_ | refine w_true rfl ?_ | refine mv_c rfl ?_ | refine not_ rfl ?_)
    exact fin_r rfl (by simp [one_, hg])
end Go.Proofs.Ytcmejdkjfekoeaa
namespace Go.Proofs.Ytcmejdkjfekoeaa
open Go.Pl Go.Bag
set_option maxHeartbeats 4000000
theorem part_loop {K : Ex → PS → Prop} (l o : List Run) (hlen : l.length < 4611686018427387904) (v4 v5 : Nat) (c4 : List CV) : ∀ (rest : List Run) (i : Nat) (z : Int) (s : PS), l.drop i = rest → i ≤ l.length → pos rest → ranged rest →
    -(9223372036854775808 * (2199023255552 - sum rest)) ≤ z → z ≤ 9223372036854775808 * (2199023255552 - sum rest) → sum rest ≤ 2199023255552 →
    s.t 10 = .c (encL l) → s.t 11 = .c (.int .i64 l.length) → s.t 12 = .c (.int .i64 i) → s.t 1 = .c (encL o) → s.t 4 = .ptr 4 v4 0 → s.bx 4 = ⟨v4, .var c4⟩ → s.t 5 = .ptr 5 v5 0 → s.bx 5 = ⟨v5, .var (cellsW z)⟩ →
    (∀ s', s'.t 1 = .c (encL o) → s'.t 4 = .ptr 4 v4 0 → s'.bx 4 = ⟨v4, .var c4⟩ → s'.t 5 = .ptr 5 v5 0 → s'.bx 5 = ⟨v5, .var (cellsW (z + wsum rest))⟩ → K (.x 0) s') → wP (PCallG Try.prog) (.loop b88_0) s K := by
  intro rest
  induction rest with
  | nil =>
    intro i z s hd hi hp hr h0 h1 h2 t10 t11 t12 t1 t4 b4 t5 b5 hx
    refine w_loop ?_
    have := get_end hd hi
    subst this
    rw [← put_same t11, ← put_same t12, ← put_same t1, ← put_same t4, ← put_same t5, ← box_same b4, ← box_same b5]
    unfold b88_0 r88_3 r88_4 r88_5 r88_6
    repeat' (first | refine w_seq ?_ | refine w_ops ?_ | refine st_nil ?_ | refine th_n ?_ | refine th_x ?_ | refine w_exit ?_ | refine w_false rfl ?_ | refine lss_f rfl rfl (by omega) ?_)
    exact hx _ rfl rfl rfl rfl (by simp only [wsum, Int.add_zero]; rfl)
  | cons r rest ih =>
    intro i z s hd hi hp hr h0 h1 h2 t10 t11 t12 t1 t4 b4 t5 b5 hx
    refine w_loop ?_
    have he := get_enc hd
    have hl := get_len hd
    have hn := get_next hd
    have hr1 := hp r (by simp)
    have hp' : pos rest := fun q hq => hp q (by simp [hq])
    have hr' : ranged rest := fun q hq => hr q (by simp [hq])
    have hs := sum_nonneg hp'
    have hrr := hr r (by simp)
    have hm := mul_bound hrr.1 (show 0 ≤ r.2 by omega)
    have e : z + wsum (r :: rest) = z + r.1 * r.2 + wsum rest := by simp only [wsum]; omega
    have es : sum (r :: rest) = r.2 + sum rest := rfl
    rw [e] at hx
    rw [es] at h0 h1 h2
    have hP := C_Plus z r.1 r.2 (by constructor <;> omega) hrr.1 hrr.2 (by constructor <;> omega)
    rw [← put_same t10, ← put_same t11, ← put_same t12, ← put_same t1, ← put_same t4, ← put_same t5, ← box_same b4, ← box_same b5]
    unfold b88_0 r88_3 r88_4 r88_5 r88_6
    repeat' (first | refine call3 rfl rfl rfl hP ?_ | refine w_seq ?_ | refine w_ops ?_ | refine st_nil ?_ | refine th_n ?_ | refine bk_n ?_ | refine w_block ?_ | refine w_skip ?_ | refine w_true rfl ?_ | refine mv_c rfl ?_ | refine lss_t rfl rfl (by omega) ?_ | refine add_in rfl rfl (by omega) ?_ | refine alloc_ (fun u => ?_) | refine load_rp rfl (Nat.le_of_ble_eq_true rfl) rfl ?_ | refine load_ptr rfl (by decide) rfl (Nat.le_of_ble_eq_true rfl) rfl ?_ | refine store_ptr rfl rfl (by decide) rfl rfl (Nat.le_of_ble_eq_true rfl) rfl ?_ | refine fad_ptr rfl rfl rfl ?_ | refine iaS_c rfl rfl (by omega) (by assumption) rfl ?_)
    exact ih (i + 1) (z + r.1 * r.2) _ hn (by omega) hp' hr' (by omega) (by omega) (by omega) rfl rfl rfl rfl rfl rfl rfl rfl hx
theorem part_loop2 {K : Ex → PS → Prop} (l : List Run) (hlen : l.length < 4611686018427387904) (v4 v5 : Nat) (c4 : List CV) : ∀ (rest : List Run) (i : Nat) (z : Int) (s : PS), l.drop i = rest → i ≤ l.length → pos rest → ranged rest →
    -(9223372036854775808 * (4398046511104 - sum rest)) ≤ z → z ≤ 9223372036854775808 * (4398046511104 - sum rest) → sum rest ≤ 4398046511104 →
    s.t 23 = .c (encL l) → s.t 24 = .c (.int .i64 l.length) → s.t 25 = .c (.int .i64 i) → s.t 4 = .ptr 4 v4 0 → s.bx 4 = ⟨v4, .var c4⟩ → s.t 5 = .ptr 5 v5 0 → s.bx 5 = ⟨v5, .var (cellsW z)⟩ →
    (∀ s', s'.t 4 = .ptr 4 v4 0 → s'.bx 4 = ⟨v4, .var c4⟩ → s'.t 5 = .ptr 5 v5 0 → s'.bx 5 = ⟨v5, .var (cellsW (z - wsum rest))⟩ → K (.x 2) s') → wP (PCallG Try.prog) (.loop b88_1) s K := by
  intro rest
  induction rest with
  | nil =>
    intro i z s hd hi hp hr h0 h1 h2 t10 t11 t12 t4 b4 t5 b5 hx
    refine w_loop ?_
    have := get_end hd hi
    subst this
    rw [← put_same t11, ← put_same t12, ← put_same t4, ← put_same t5, ← box_same b4, ← box_same b5]
    unfold b88_1 r88_8 r88_9 r88_10 r88_11
    repeat' (first | refine w_seq ?_ | refine w_ops ?_ | refine st_nil ?_ | refine th_n ?_ | refine th_x ?_ | refine w_exit ?_ | refine w_false rfl ?_ | refine lss_f rfl rfl (by omega) ?_)
    exact hx _ rfl rfl rfl (by simp only [wsum, Int.sub_zero]; rfl)
  | cons r rest ih =>
    intro i z s hd hi hp hr h0 h1 h2 t10 t11 t12 t4 b4 t5 b5 hx
    refine w_loop ?_
    have he := get_enc hd
    have hl := get_len hd
    have hn := get_next hd
    have hr1 := hp r (by simp)
    have hp' : pos rest := fun q hq => hp q (by simp [hq])
    have hr' : ranged rest := fun q hq => hr q (by simp [hq])
    have hs := sum_nonneg hp'
    have hrr := hr r (by simp)
    have hm := mul_bound hrr.1 (show 0 ≤ r.2 by omega)
    have e : z - wsum (r :: rest) = z + r.1 * -r.2 - wsum rest := by simp only [wsum, Int.mul_neg]; omega
    have es : sum (r :: rest) = r.2 + sum rest := rfl
    rw [e] at hx
    rw [es] at h0 h1 h2
    have hmn : r.1 * -r.2 = -(r.1 * r.2) := Int.mul_neg _ _
    have hP := C_Plus z r.1 (-r.2) (by constructor <;> omega) hrr.1 (by constructor <;> omega) (by constructor <;> omega)
    rw [← put_same t10, ← put_same t11, ← put_same t12, ← put_same t4, ← put_same t5, ← box_same b4, ← box_same b5]
    unfold b88_1 r88_8 r88_9 r88_10 r88_11
    repeat' (first | refine call3 rfl rfl rfl hP ?_ | refine w_seq ?_ | refine w_ops ?_ | refine st_nil ?_ | refine th_n ?_ | refine bk_n ?_ | refine w_block ?_ | refine w_skip ?_ | refine w_true rfl ?_ | refine mv_c rfl ?_ | refine lss_t rfl rfl (by omega) ?_ | refine neg_in rfl (by omega) ?_ | refine add_in rfl rfl (by omega) ?_ | refine alloc_ (fun u => ?_) | refine load_rp rfl (Nat.le_of_ble_eq_true rfl) rfl ?_ | refine load_ptr rfl (by decide) rfl (Nat.le_of_ble_eq_true rfl) rfl ?_ | refine store_ptr rfl rfl (by decide) rfl rfl (Nat.le_of_ble_eq_true rfl) rfl ?_ | refine fad_ptr rfl rfl rfl ?_ | refine iaS_c rfl rfl (by omega) (by assumption) rfl ?_)
    exact ih (i + 1) (z + r.1 * -r.2) _ hn (by omega) hp' hr' (by omega) (by omega) (by omega) rfl rfl rfl rfl rfl rfl rfl hx
theorem C_Part (l o : List Run) (hlen : l.length < 4611686018427387904) (holen : o.length < 4611686018427387904) (hp : pos l) (hr : ranged l) (hs : sum l ≤ 1099511627776) (hpo : pos o) (hro : ranged o) (hso : sum o ≤ 1099511627776) :
    PCallG Try.prog 88 [.c (encL l), .c (encL o)] (.c (encW (wsum l - wsum o))) [] := by
  have hn := sum_nonneg hp
  have hno := sum_nonneg hpo
  have hb := wsum_bound hp hr
  refine pcallF Try.func88 c88 rfl ?_
  unfold p88 r88_0 r88_1 r88_2 r88_7 r88_12
  repeat' (first | refine w_seq ?_ | refine w_ops ?_ | refine st_nil ?_ | refine th_n ?_ | refine w_block ?_ | refine mv_c rfl ?_ | refine alloc_ (fun u => ?_) | refine len_sl rfl (by first | assumption | exact List.length_map _) ?_)
  refine part_loop l o hlen _ _ _ l 0 0 _ rfl (by omega) hp hr (by omega) (by omega) (by omega) rfl rfl rfl rfl rfl rfl rfl rfl ?_
  intro s' t1 t4 b4 t5 b5
  rw [← put_same t1, ← put_same t4, ← put_same t5, ← box_same b4, ← box_same b5]
  repeat' (first | refine w_seq ?_ | refine w_ops ?_ | refine st_nil ?_ | refine th_n ?_ | refine bk_x ?_ | refine w_block ?_ | refine mv_c rfl ?_ | refine len_sl rfl (by first | assumption | exact List.length_map _) ?_)
  refine part_loop2 o holen _ _ _ o 0 (0 + wsum l) _ rfl (by omega) hpo hro (by omega) (by omega) (by omega) rfl rfl rfl rfl rfl rfl rfl ?_
  intro s' t4 b4 t5 b5
  rw [← put_same t4, ← put_same t5, ← box_same b4, ← box_same b5]
  repeat' (first | refine w_seq ?_ | refine w_ops ?_ | refine st_nil ?_ | refine th_n ?_ | refine bk_x ?_ | refine w_ret ?_ | refine load_ptr rfl (by decide) rfl (Nat.le_of_ble_eq_true rfl) rfl ?_ | refine store_ptr rfl rfl (by decide) rfl rfl (Nat.le_of_ble_eq_true rfl) rfl ?_)
  refine fin_r (rv_cell rfl rfl rfl rfl rv_nil) ?_
  rw [Int.zero_add]
  rfl
end Go.Proofs.Ytcmejdkjfekoeaa
namespace Go.Proofs.Ytcmejdkjfekoeaa
open Go.Pl Go.Bag
set_option maxHeartbeats 4000000
def sumB (l : List Run) : Int × Bool := if good l = true ∧ I64 (wsum l) then (wsum l, true) else (0, false)
def tupI (p : Int × Bool) : CV := .tup [.int .i64 p.1, .bool p.2]
theorem C_Sum (l : List Run) (hlen : l.length < 4611686018427387904) (hr : ranged l) : PCallG Try.prog 31 [.c (encL l)] (.c (tupI (sumB l))) [] := by
  refine pcallF Try.func31 c31 rfl ?_
  unfold p31 r31_0 r31_1 r31_2 r31_3
  have hC := C_good l hlen
  cases hg : good l with
  | false =>
    rw [hg] at hC
    repeat' (first | refine call1 rfl hC ?_ | refine w_seq ?_ | refine w_ops ?_ | refine st_nil ?_ | refine th_n ?_ | refine th_r ?_ | refine w_ret ?_ | refine w_true rfl ?_ | refine mv_c rfl ?_ | refine not_ rfl ?_)
    exact fin_r rfl (by simp [one_, tupI, sumB, hg])
  | true =>
    rw [hg] at hC
    obtain ⟨hp, hs⟩ := good_facts hg
    have hs' : sum l ≤ 1099511627776 := hs
    have hn := sum_nonneg hp
    have hb := wsum_bound hp hr
    have hP := C_Part l [] hlen (by simp) hp hr hs' (fun q hq => by simp at hq) (fun q hq => by simp at hq) (by simp [sum])
    have e : wsum l - wsum [] = wsum l := by simp [wsum]
    rw [e] at hP
    have hI := C_Int (wsum l) (by constructor <;> omega)
    by_cases h : I64 (wsum l)
    · rw [if_pos h] at hI
      repeat' (first | refine call1 rfl hC ?_ | refine call2 rfl rfl hP ?_ | refine call1 rfl hI ?_ | refine w_seq ?_ | refine w_ops ?_ | refine st_nil ?_ | refine th_n ?_ | refine w_skip ?_ | refine w_ret ?_ | refine w_false rfl ?_ | refine mv_c rfl ?_ | refine not_ rfl ?_ | refine ext_ rfl rfl ?_)
      exact fin_r rfl (by simp [one_, tupI, sumB, hg, h])
    · rw [if_neg h] at hI
      repeat' (first | refine call1 rfl hC ?_ | refine call2 rfl rfl hP ?_ | refine call1 rfl hI ?_ | refine w_seq ?_ | refine w_ops ?_ | refine st_nil ?_ | refine th_n ?_ | refine w_skip ?_ | refine w_ret ?_ | refine w_false rfl ?_ | refine mv_c rfl ?_ | refine not_ rfl ?_ | refine ext_ rfl rfl ?_)
      exact fin_r rfl (by simp [one_, tupI, sumB, h])
theorem equal_loop {C : CallP} {K : Ex → PS → Prop} (l k : List Run) (hlen : l.length < 4611686018427387904) (hk : k.length = l.length) : ∀ (rest rest' : List Run) (i : Nat) (s : PS), l.drop i = rest → k.drop i = rest' → i ≤ l.length →
    s.t 0 = .c (encL l) → s.t 1 = .c (encL k) → s.t 12 = .c (.int .i64 l.length) → s.t 13 = .c (.int .i64 i) →
    (rest = rest' → ∀ s', K (.x 0) s') → (rest ≠ rest' → ∀ s', s'.t 4 = .c (.bool false) → K .r s') → wP C (.loop b87_0) s K := by
  intro rest
  induction rest with
  | nil =>
    intro rest' i s hd hd' hi t0 t1 t12 t13 hx hr
    refine w_loop ?_
    have := get_end hd hi
    subst this
    have h' : rest' = [] := by rw [← hd', ← hk]; simp
    subst h'
    rw [← put_same t12, ← put_same t13]
    unfold b87_0 r87_4 r87_5 r87_6 r87_7 r87_8
    repeat' (first | refine w_seq ?_ | refine w_ops ?_ | refine st_nil ?_ | refine th_n ?_ | refine th_x ?_ | refine w_exit ?_ | refine w_false rfl ?_ | refine lss_f rfl rfl (by omega) ?_)
    exact hx rfl _
  | cons r rest ih =>
    intro rest' i s hd hd' hi t0 t1 t12 t13 hx hr
    refine w_loop ?_
    have he := get_enc hd
    have hl := get_len hd
    have hn := get_next hd
    match rest', hd' with
    | [], hd' => exact absurd (List.drop_eq_nil_iff.mp hd') (by omega)
    | q :: rest', hd' =>
      have he' := get_enc hd'
      have hn' := get_next hd'
      rw [← put_same t0, ← put_same t1, ← put_same t12, ← put_same t13]
      unfold b87_0 r87_4 r87_5 r87_6 r87_7 r87_8
      have hq : eqC true [.i, .i] (.agg (encR r)) (.agg (encR q)) = some (decide (r = q)) := by
        obtain ⟨r1, r2⟩ := r
        obtain ⟨q1, q2⟩ := q
        by_cases h1 : r1 = q1 <;> by_cases h2 : r2 = q2 <;> simp [eqC, shEq, encR, h1, h2]
      by_cases hrq : r = q
      · rw [decide_eq_true hrq] at hq
        repeat' (first | refine eqs_f rfl rfl hq ?_ | refine w_seq ?_ | refine w_ops ?_ | refine w_opsD0 rfl ?_ | refine st_nil ?_ | refine th_n ?_ | refine bk_n ?_ | refine w_block ?_ | refine w_skip ?_ | refine w_true rfl ?_ | refine w_false rfl ?_ | refine mv_c rfl ?_ | refine lss_t rfl rfl (by omega) ?_ | refine add_in rfl rfl (by omega) ?_ | refine load_rp rfl (Nat.le_of_ble_eq_true rfl) rfl ?_ | refine iaS_c rfl rfl (by omega) (by assumption) rfl ?_)
        exact ih rest' (i + 1) _ hn hn' (by omega) (by rfl) (by rfl) (by rfl) (by rfl) (fun h => hx (by rw [hrq, h])) (fun h => hr (fun e => h (by injection e)))
      · rw [decide_eq_false hrq] at hq
        repeat' (first | refine eqs_f rfl rfl hq ?_ | refine w_seq ?_ | refine w_ops ?_ | refine w_opsD0 rfl ?_ | refine st_nil ?_ | refine th_n ?_ | refine th_r ?_ | refine bk_r ?_ | refine w_block ?_ | refine w_skip ?_ | refine w_ret ?_ | refine w_true rfl ?_ | refine mv_c rfl ?_ | refine lss_t rfl rfl (by omega) ?_ | refine load_rp rfl (Nat.le_of_ble_eq_true rfl) rfl ?_ | refine iaS_c rfl rfl (by omega) (by assumption) rfl ?_)
        exact hr (fun e => hrq (by injection e)) _ rfl
theorem C_Equal (l k : List Run) (hlen : l.length < 4611686018427387904) (hklen : k.length < 4611686018427387904) : PCallG Try.prog 87 [.c (encL l), .c (encL k)] (.c (.bool (decide (l = k)))) [] := by
  refine pcallF Try.func87 c87 rfl ?_
  unfold p87 r87_0 r87_1 r87_2 r87_3 r87_9
  by_cases hk : k.length = l.length
  · repeat' (first | refine w_seq ?_ | refine w_ops ?_ | refine st_nil ?_ | refine th_n ?_ | refine w_block ?_ | refine w_skip ?_ | refine w_false rfl ?_ | refine mv_c rfl ?_ | refine neq_f rfl rfl (by omega) ?_ | refine len_sl rfl (by first | assumption | exact List.length_map _) ?_)
    refine equal_loop l k hlen hk l k 0 _ rfl rfl (by omega) (by rfl) (by rfl) (by rfl) (by rfl) (fun h s' => ?_) (fun h s' h4 => ?_)
    · repeat' (first | refine w_seq ?_ | refine w_ops ?_ | refine st_nil ?_ | refine th_n ?_ | refine bk_x ?_ | refine w_ret ?_ | refine mv_c rfl ?_)
      exact fin_r rfl (by simp [one_, h])
    · rw [← put_same h4]
      repeat' (first | refine th_r ?_ | refine bk_r ?_)
      exact fin_r rfl (by simp [one_, h])
  · repeat' (first | refine w_seq ?_ | refine w_ops ?_ | refine st_nil ?_ | refine th_n ?_ | refine th_r ?_ | refine w_ret ?_ | refine w_true rfl ?_ | refine mv_c rfl ?_ | refine neq_t rfl rfl (by omega) ?_ | refine len_sl rfl (by first | assumption | exact List.length_map _) ?_)
    refine fin_r rfl ?_
    have : l ≠ k := fun e => hk (by rw [e])
    simp [one_, this]
theorem C_Same (l k : List Run) (hlen : l.length < 4611686018427387904) (hklen : k.length < 4611686018427387904) : PCallG Try.prog 29 [.c (encL l), .c (encL k)] (.c (.bool (decide (l = k)))) [] := by
  refine pcallF Try.func29 c29 rfl ?_
  unfold p29 r29_0 r29_1
  repeat' (first | refine call2 rfl rfl (C_Equal l k hlen hklen) ?_ | refine w_seq ?_ | refine w_ops ?_ | refine st_nil ?_ | refine th_n ?_ | refine w_ret ?_ | refine mv_c rfl ?_)
  exact fin_r rfl (by simp [one_])
end Go.Proofs.Ytcmejdkjfekoeaa
namespace Go.Proofs.Ytcmejdkjfekoeaa
open Go.Pl Go.Bag
set_option maxHeartbeats 4000000
theorem slc_tail {C : CallP} {l : List POp} {s : PS} {K : PS → Prop} {d sz : Nat} {x : PO} {e : List CV} {es : List (List CV)} (hx : s.ev x = .c (.sl (e :: es))) (hw : ∀ q ∈ e :: es, q.length = sz)
    (h : wL C l (s.put d (.c (.sl es))) K) : wL C (⟨some d, .slc sz x (some (.k (.int .i64 1))) none, none⟩ :: l) s K :=
  slc_c hx rfl rfl ⟨Nat.le_add_left _ _, Nat.le_refl _⟩ hw (by
    show ((e :: es).take (e :: es).length).drop 1 = es
    simp) h
theorem join_loop {K : Ex → PS → Prop} (v2 v3 : Nat) : ∀ (m : Nat) (out a b : List Run) (s : PS), a.length + b.length = m → out.length + m < 1000000000 → pos out → pos a → pos b → sum out + sum a + sum b ≤ 4398046511104 →
    s.t 2 = .ptr 2 v2 0 → s.bx 2 = ⟨v2, .var [encL a]⟩ → s.t 3 = .ptr 3 v3 0 → s.bx 3 = ⟨v3, .var [encL b]⟩ → s.t 6 = .osl 6 (s.bx 6).ver 0 (encE out).length → s.bx 6 = ⟨(s.bx 6).ver, .sl 2 (encE out)⟩ →
    (∀ s' v, s'.t 6 = .osl 6 v 0 (encE (merge out a b)).length → s'.bx 6 = ⟨v, .sl 2 (encE (merge out a b))⟩ → K (.x 0) s') → wP (PCallG Try.prog) (.loop b25_0) s K := by
  intro m
  induction m with
  | zero =>
    intro out a b s hm hl po pa pb hs t2 b2 t3 b3 t6 b6 hx
    generalize (s.bx 6).ver = v6 at t6 b6
    obtain rfl : a = [] := List.eq_nil_of_length_eq_zero (by omega)
    obtain rfl : b = [] := List.eq_nil_of_length_eq_zero (by omega)
    refine w_loop ?_
    rw [← put_same t2, ← put_same t3, ← put_same t6, ← box_same b2, ← box_same b3, ← box_same b6]
    unfold b25_0 r25_4 r25_5 r25_6 r25_7 r25_8 r25_9
    repeat' (first | refine len_sl rfl rfl ?_ | refine w_seq ?_ | refine w_ops ?_ | refine st_nil ?_ | refine th_n ?_ | refine th_x ?_ | refine w_exit ?_ | refine w_false rfl ?_ | refine g_yes rfl ?_ | refine mv_c rfl ?_ | refine pick_f rfl rfl ?_ | refine gtr_ rfl rfl ?_ | refine load_ptr rfl (by decide) rfl (Nat.le_of_ble_eq_true rfl) rfl ?_)
    exact hx _ _ (by simp only [merge]; rfl) (by simp only [merge]; rfl)
  | succ m ih =>
    intro out a b s hm hl po pa pb hs t2 b2 t3 b3 t6 b6 hx
    generalize (s.bx 6).ver = v6 at t6 b6
    have ho := sum_nonneg po
    have ha := sum_nonneg pa
    have hb := sum_nonneg pb
    have fa : ∀ (r : Run) (a' : List Run), a = r :: a' → 1 ≤ r.2 ∧ pos a' ∧ sum a = r.2 + sum a' ∧ 0 ≤ sum a' := fun r a' e => by
      subst e; exact ⟨pa r (by simp), fun q hq => pa q (by simp [hq]), rfl, sum_nonneg fun q hq => pa q (by simp [hq])⟩
    have fb : ∀ (r : Run) (b' : List Run), b = r :: b' → 1 ≤ r.2 ∧ pos b' ∧ sum b = r.2 + sum b' ∧ 0 ≤ sum b' := fun r a' e => by
      subst e; exact ⟨pb r (by simp), fun q hq => pb q (by simp [hq]), rfl, sum_nonneg fun q hq => pb q (by simp [hq])⟩
    have hM : ∀ (r : Run), 1 ≤ r.2 → r.2 ≤ 4398046511104 → PCallG Try.prog 84 [.own 2 (encE out), .c (.int .i64 r.1), .c (.int .i64 r.2)] (.own 2 (encE (moreL out r.1 r.2))) [] := fun r h1 h2 =>
      C_more out r.1 r.2 (by omega) fun q hq => by have := le_sum po q hq; omega
    refine w_loop ?_
    rw [← put_same t2, ← put_same t3, ← put_same t6, ← box_same b2, ← box_same b3, ← box_same b6]
    unfold b25_0 r25_4 r25_5 r25_6 r25_7 r25_8 r25_9
    match a, b, hm with
    | [], s :: b', hm =>
      obtain ⟨f1, f2, f3, f4⟩ := fb s b' rfl
      have hc := hM s f1 (by omega)
      have h0 : ((s :: b').map encR)[(0 : Int).toNat]? = some (encR s) := rfl
      have hp : 0 < (s :: b').length := by simp
      have e : merge out [] (s :: b') = merge (moreL out s.1 s.2) [] b' := by simp only [merge]
      rw [e] at hx
      repeat' (first | refine len_sl (es := ([] : List Run).map encR) rfl rfl ?_ | refine callO2 rfl rfl rfl rfl rfl hc rfl (fun _ _ => ?_) | refine slc_tail (es := b'.map encR) rfl (encR_len (s :: b')) ?_ | refine w_seq ?_ | refine w_ops ?_ | refine w_opsD0 rfl ?_ | refine w_opsD1 rfl (fun u => ?_) | refine st_nil ?_ | refine th_n ?_ | refine bk_n ?_ | refine w_block ?_ | refine w_skip ?_ | refine w_true rfl ?_ | refine g_yes rfl ?_ | refine g_no rfl ?_ | refine g_un rfl ?_ | refine mv_c rfl ?_ | refine mv_ptr rfl ?_ | refine mv_osl rfl ?_ | refine pick_t rfl rfl ?_ | refine pick_f rfl rfl ?_ | refine gtr_t rfl rfl (by omega) ?_ | refine gtr_ rfl rfl ?_ | refine eqd_ rfl rfl ?_ | refine load_rp rfl (Nat.le_of_ble_eq_true rfl) rfl ?_ | refine load_ptr rfl (by decide) rfl (Nat.le_of_ble_eq_true rfl) rfl ?_ | refine store_ptr rfl rfl (by decide) rfl rfl (Nat.le_of_ble_eq_true rfl) rfl ?_ | refine fad_rp rfl (Nat.le_of_ble_eq_true rfl) rfl ?_ | refine iaS_c rfl rfl (by omega) (by assumption) rfl ?_ | refine len_sl rfl (by first | assumption | exact List.length_map _) ?_ | refine w_rn rfl (by decide) rfl rfl (fun _ _ => ?_) | refine nilc_ptr rfl rfl ?_)
      exact ih (moreL out s.1 s.2) [] b' _ (by simpa using hm) (by have := moreL_len out s.1 s.2; omega) (moreL_pos po f1) pa f2 (by rw [moreL_sum]; omega) (by rfl) (by rfl) (by rfl) (by rfl) (by rfl) (by rfl) hx
    | r :: a', [], hm =>
      obtain ⟨f1, f2, f3, f4⟩ := fa r a' rfl
      have hc := hM r f1 (by omega)
      have h0 : ((r :: a').map encR)[(0 : Int).toNat]? = some (encR r) := rfl
      have hp : 0 < (r :: a').length := by simp
      have e : merge out (r :: a') [] = merge (moreL out r.1 r.2) a' [] := by simp only [merge]
      rw [e] at hx
      repeat' (first | refine len_sl (es := ([] : List Run).map encR) rfl rfl ?_ | refine callO2 rfl rfl rfl rfl rfl hc rfl (fun _ _ => ?_) | refine slc_tail (es := a'.map encR) rfl (encR_len (r :: a')) ?_ | refine w_seq ?_ | refine w_ops ?_ | refine w_opsD0 rfl ?_ | refine w_opsD1 rfl (fun u => ?_) | refine st_nil ?_ | refine th_n ?_ | refine bk_n ?_ | refine w_block ?_ | refine w_skip ?_ | refine w_true rfl ?_ | refine w_false rfl ?_ | refine g_yes rfl ?_ | refine g_no rfl ?_ | refine mv_c rfl ?_ | refine mv_ptr rfl ?_ | refine mv_osl rfl ?_ | refine pick_t rfl rfl ?_ | refine pick_f rfl rfl ?_ | refine gtr_t rfl rfl (by omega) ?_ | refine gtr_ rfl rfl ?_ | refine eql_f rfl rfl (by omega) ?_ | refine load_rp rfl (Nat.le_of_ble_eq_true rfl) rfl ?_ | refine load_ptr rfl (by decide) rfl (Nat.le_of_ble_eq_true rfl) rfl ?_ | refine store_ptr rfl rfl (by decide) rfl rfl (Nat.le_of_ble_eq_true rfl) rfl ?_ | refine fad_rp rfl (Nat.le_of_ble_eq_true rfl) rfl ?_ | refine iaS_c rfl rfl (by omega) (by assumption) rfl ?_ | refine len_sl rfl (by first | assumption | exact List.length_map _) ?_ | refine w_rn rfl (by decide) rfl rfl (fun _ _ => ?_) | refine nilc_ptr rfl rfl ?_)
      exact ih (moreL out r.1 r.2) a' [] _ (by simpa using hm) (by have := moreL_len out r.1 r.2; omega) (moreL_pos po f1) f2 pb (by rw [moreL_sum]; omega) (by rfl) (by rfl) (by rfl) (by rfl) (by rfl) (by rfl) hx
    | r :: a', s :: b', hm =>
      obtain ⟨f1, f2, f3, f4⟩ := fa r a' rfl
      obtain ⟨g1, g2, g3, g4⟩ := fb s b' rfl
      have hc := hM r f1 (by omega)
      have hd := hM s g1 (by omega)
      have h0 : ((r :: a').map encR)[(0 : Int).toNat]? = some (encR r) := rfl
      have h1 : ((s :: b').map encR)[(0 : Int).toNat]? = some (encR s) := rfl
      have hp : 0 < (r :: a').length := by simp
      have hq : 0 < (s :: b').length := by simp
      by_cases hlt : s.1 < r.1
      · have e : merge out (r :: a') (s :: b') = merge (moreL out s.1 s.2) (r :: a') b' := by rw [merge]; simp [hlt]
        rw [e] at hx
        repeat' (first | refine callO2 rfl rfl rfl rfl rfl hd rfl (fun _ _ => ?_) | refine slc_tail (es := b'.map encR) rfl (encR_len (s :: b')) ?_ | refine w_seq ?_ | refine w_ops ?_ | refine w_opsD0 rfl ?_ | refine w_opsD1 rfl (fun u => ?_) | refine st_nil ?_ | refine th_n ?_ | refine bk_n ?_ | refine w_block ?_ | refine w_skip ?_ | refine w_true rfl ?_ | refine g_yes rfl ?_ | refine g_no rfl ?_ | refine mv_c rfl ?_ | refine mv_ptr rfl ?_ | refine mv_osl rfl ?_ | refine pick_t rfl rfl ?_ | refine pick_f rfl rfl ?_ | refine lss_t rfl rfl (by omega) ?_ | refine gtr_t rfl rfl (by omega) ?_ | refine eql_f rfl rfl (by omega) ?_ | refine load_rp rfl (Nat.le_of_ble_eq_true rfl) rfl ?_ | refine load_ptr rfl (by decide) rfl (Nat.le_of_ble_eq_true rfl) rfl ?_ | refine store_ptr rfl rfl (by decide) rfl rfl (Nat.le_of_ble_eq_true rfl) rfl ?_ | refine fad_rp rfl (Nat.le_of_ble_eq_true rfl) rfl ?_ | refine iaS_c rfl rfl (by omega) (by assumption) rfl ?_ | refine len_sl rfl (by first | assumption | exact List.length_map _) ?_ | refine w_rn rfl (by decide) rfl rfl (fun _ _ => ?_) | refine nilc_ptr rfl rfl ?_)
        exact ih (moreL out s.1 s.2) (r :: a') b' _ (by simp at hm ⊢; omega) (by have := moreL_len out s.1 s.2; omega) (moreL_pos po g1) pa g2 (by rw [moreL_sum]; omega) (by rfl) (by rfl) (by rfl) (by rfl) (by rfl) (by rfl) hx
      · have e : merge out (r :: a') (s :: b') = merge (moreL out r.1 r.2) a' (s :: b') := by rw [merge]; simp [hlt]
        rw [e] at hx
        repeat' (first | refine callO2 rfl rfl rfl rfl rfl hc rfl (fun _ _ => ?_) | refine slc_tail (es := a'.map encR) rfl (encR_len (r :: a')) ?_ | refine w_seq ?_ | refine w_ops ?_ | refine w_opsD0 rfl ?_ | refine w_opsD1 rfl (fun u => ?_) | refine st_nil ?_ | refine th_n ?_ | refine bk_n ?_ | refine w_block ?_ | refine w_skip ?_ | refine w_true rfl ?_ | refine w_false rfl ?_ | refine g_yes rfl ?_ | refine g_no rfl ?_ | refine mv_c rfl ?_ | refine mv_ptr rfl ?_ | refine mv_osl rfl ?_ | refine pick_t rfl rfl ?_ | refine pick_f rfl rfl ?_ | refine lss_f rfl rfl (by omega) ?_ | refine gtr_t rfl rfl (by omega) ?_ | refine eql_f rfl rfl (by omega) ?_ | refine load_rp rfl (Nat.le_of_ble_eq_true rfl) rfl ?_ | refine load_ptr rfl (by decide) rfl (Nat.le_of_ble_eq_true rfl) rfl ?_ | refine store_ptr rfl rfl (by decide) rfl rfl (Nat.le_of_ble_eq_true rfl) rfl ?_ | refine fad_rp rfl (Nat.le_of_ble_eq_true rfl) rfl ?_ | refine iaS_c rfl rfl (by omega) (by assumption) rfl ?_ | refine len_sl rfl (by first | assumption | exact List.length_map _) ?_ | refine w_rn rfl (by decide) rfl rfl (fun _ _ => ?_) | refine nilc_ptr rfl rfl ?_)
        exact ih (moreL out r.1 r.2) a' (s :: b') _ (by simp at hm ⊢; omega) (by have := moreL_len out r.1 r.2; omega) (moreL_pos po f1) f2 pb (by rw [moreL_sum]; omega) (by rfl) (by rfl) (by rfl) (by rfl) (by rfl) (by rfl) hx
theorem C_Join (a b : List Run) (ha : a.length < 400000000) (hb : b.length < 400000000) : PCallG Try.prog 25 [.c (encL a), .c (encL b)] (.c (.tup [encL (join a b).1, .bool (join a b).2])) [] := by
  refine pcallF Try.func25 c25 rfl ?_
  unfold p25 r25_0 r25_1 r25_2 r25_3 r25_10
  have hA := C_good a (by omega)
  have hB := C_good b (by omega)
  cases ga : good a with
  | false =>
    rw [ga] at hA
    repeat' (first | refine box_ rfl (cs := [encL a]) rfl rfl (fun _ => ?_) | refine box_ rfl (cs := [encL b]) rfl rfl (fun _ => ?_) | refine call1 rfl hA ?_ | refine w_seq ?_ | refine w_ops ?_ | refine w_opsD0 rfl ?_ | refine st_nil ?_ | refine th_n ?_ | refine th_r ?_ | refine w_ret ?_ | refine w_true rfl ?_ | refine g_no rfl ?_ | refine mv_c rfl ?_ | refine pick_t rfl rfl ?_ | refine not_ rfl ?_ | refine load_ptr rfl (by decide) rfl (Nat.le_of_ble_eq_true rfl) rfl ?_)
    exact fin_r rfl (by simp [one_, join, ga, encL])
  | true =>
    rw [ga] at hA
    obtain ⟨pa, sa⟩ := good_facts ga
    have na := sum_nonneg pa
    cases gb : good b with
    | false =>
      rw [gb] at hB
      repeat' (first | refine box_ rfl (cs := [encL a]) rfl rfl (fun _ => ?_) | refine box_ rfl (cs := [encL b]) rfl rfl (fun _ => ?_) | refine call1 rfl hA ?_ | refine call1 rfl hB ?_ | refine w_seq ?_ | refine w_ops ?_ | refine w_opsD0 rfl ?_ | refine st_nil ?_ | refine th_n ?_ | refine th_r ?_ | refine w_ret ?_ | refine w_true rfl ?_ | refine g_yes rfl ?_ | refine g_no rfl ?_ | refine mv_c rfl ?_ | refine pick_t rfl rfl ?_ | refine pick_f rfl rfl ?_ | refine not_ rfl ?_ | refine load_ptr rfl (by decide) rfl (Nat.le_of_ble_eq_true rfl) rfl ?_)
      exact fin_r rfl (by simp [one_, join, gb, encL])
    | true =>
      rw [gb] at hB
      obtain ⟨pb, sb⟩ := good_facts gb
      have nb := sum_nonneg pb
      have hSa := C_count a (by omega) pa sa
      have hSb := C_count b (by omega) pb sb
      have sa' : sum a ≤ 1099511627776 := sa
      have sb' : sum b ≤ 1099511627776 := sb
      by_cases hle : sum a ≤ 1099511627776 - sum b
      · repeat' (first | refine box_ rfl (cs := [encL a]) rfl rfl (fun _ => ?_) | refine box_ rfl (cs := [encL b]) rfl rfl (fun _ => ?_) | refine call1 rfl hA ?_ | refine call1 rfl hB ?_ | refine call1 rfl hSa ?_ | refine call1 rfl hSb ?_ | refine w_seq ?_ | refine w_ops ?_ | refine w_opsD0 rfl ?_ | refine st_nil ?_ | refine th_n ?_ | refine w_block ?_ | refine w_skip ?_ | refine w_false rfl ?_ | refine g_yes rfl ?_ | refine mv_c rfl ?_ | refine pick_f rfl rfl ?_ | refine gtr_f rfl rfl (by omega) ?_ | refine not_ rfl ?_ | refine sub_in rfl rfl (by omega) ?_ | refine own0_ (fun u => ?_) | refine load_ptr rfl (by decide) rfl (Nat.le_of_ble_eq_true rfl) rfl ?_)
        refine join_loop _ _ _ [] a b _ rfl (by simp; omega) (fun q hq => by simp at hq) pa pb (by simp [sum]; omega) rfl rfl rfl rfl rfl rfl ?_
        intro s' v t6 b6
        rw [← put_same t6, ← box_same b6]
        repeat' (first | refine w_seq ?_ | refine w_ops ?_ | refine st_nil ?_ | refine th_n ?_ | refine bk_x ?_ | refine w_ret ?_ | refine mv_c rfl ?_ | refine mv_osl rfl ?_)
        refine fin_r (rv_own rfl rfl rfl (rv_t rfl rv_nil)) ?_
        simp [one_, join, ga, gb, hle, encL, encE]
      · repeat' (first | refine box_ rfl (cs := [encL a]) rfl rfl (fun _ => ?_) | refine box_ rfl (cs := [encL b]) rfl rfl (fun _ => ?_) | refine call1 rfl hA ?_ | refine call1 rfl hB ?_ | refine call1 rfl hSa ?_ | refine call1 rfl hSb ?_ | refine w_seq ?_ | refine w_ops ?_ | refine w_opsD0 rfl ?_ | refine st_nil ?_ | refine th_n ?_ | refine th_r ?_ | refine w_ret ?_ | refine w_true rfl ?_ | refine g_yes rfl ?_ | refine mv_c rfl ?_ | refine pick_f rfl rfl ?_ | refine gtr_t rfl rfl (by omega) ?_ | refine not_ rfl ?_ | refine sub_in rfl rfl (by omega) ?_ | refine load_ptr rfl (by decide) rfl (Nat.le_of_ble_eq_true rfl) rfl ?_)
        exact fin_r rfl (by simp [one_, join, hle, encL])
end Go.Proofs.Ytcmejdkjfekoeaa
namespace Go.Proofs.Ytcmejdkjfekoeaa
open Go.Pl Go.Bag
set_option maxHeartbeats 4000000
end Go.Proofs.Ytcmejdkjfekoeaa
namespace Go.Proofs.Ytcmejdkjfekoeaa
open Go.Pl Go.Bag
set_option maxHeartbeats 4000000
def endB (l : List Run) (last : Bool) : Int × Bool :=
  if good l then (match (if last then l.getLast? else l.head?) with | some r => (r.1, true) | none => (0, false)) else (0, false)
def tup2 (p : Int × Bool) : CV := .tup [.int .i64 p.1, .bool p.2]
theorem C_end (l : List Run) (last : Bool) (hlen : l.length < 4611686018427387904) : PCallG Try.prog 85 [.c (encL l), .c (.bool last)] (.c (tup2 (endB l last))) [] := by
  refine pcallF Try.func85 c85 rfl ?_
  unfold p85 r85_0 r85_1 r85_2 r85_3 r85_4 r85_5
  have hC := C_good l hlen
  cases hg : good l with
  | false =>
    rw [hg] at hC
    repeat' (first | refine call1 rfl hC ?_ | refine w_seq ?_ | refine w_ops ?_ | refine st_nil ?_ | refine th_n ?_ | refine th_r ?_ | refine w_ret ?_ | refine w_true rfl ?_ | refine g_no rfl ?_ | refine mv_c rfl ?_ | refine pick_t rfl rfl ?_ | refine not_ rfl ?_)
    exact fin_r rfl (by simp [one_, tup2, endB, hg])
  | true =>
    rw [hg] at hC
    cases l with
    | nil =>
      repeat' (first | refine call1 rfl hC ?_ | refine len_sl rfl rfl ?_ | refine w_seq ?_ | refine w_ops ?_ | refine st_nil ?_ | refine th_n ?_ | refine th_r ?_ | refine w_ret ?_ | refine w_true rfl ?_ | refine g_yes rfl ?_ | refine mv_c rfl ?_ | refine pick_f rfl rfl ?_ | refine eqd_ rfl rfl ?_ | refine not_ rfl ?_)
      exact fin_r rfl (by cases last <;> simp [one_, tup2, endB, hg])
    | cons r l =>
      have h0 : ((r :: l).map encR)[(0 : Int).toNat]? = some (encR r) := rfl
      have h1 : ((r :: l).map encR)[((r :: l).length - 1 : Int).toNat]? = some (encR ((r :: l).getLast (by simp))) := by
        have : ((r :: l).length - 1 : Int).toNat = l.length := by simp
        rw [this, List.getElem?_map, List.getLast_eq_getElem]
        simp
      have hm : ((r :: l).map encR).length = (r :: l).length := List.length_map _
      have hp : 0 < (r :: l).length := by simp
      cases last with
      | true =>
        repeat' (first | refine call1 rfl hC ?_ | refine w_seq ?_ | refine w_ops ?_ | refine st_nil ?_ | refine th_n ?_ | refine th_r ?_ | refine w_skip ?_ | refine w_ret ?_ | refine w_true rfl ?_ | refine w_false rfl ?_ | refine g_yes rfl ?_ | refine mv_c rfl ?_ | refine pick_f rfl rfl ?_ | refine eql_f rfl rfl (by omega) ?_ | refine not_ rfl ?_ | refine sub_in rfl rfl (by omega) ?_ | refine load_rp rfl (Nat.le_of_ble_eq_true rfl) rfl ?_ | refine fad_rp rfl (Nat.le_of_ble_eq_true rfl) rfl ?_ | refine iaS_c rfl rfl (by omega) (by assumption) rfl ?_ | refine len_sl rfl (by first | assumption | exact List.length_map _) ?_)
        exact fin_r rfl (by simp [one_, tup2, endB, hg, List.getLast?_eq_some_getLast]; rfl)
      | false =>
        repeat' (first | refine call1 rfl hC ?_ | refine w_seq ?_ | refine w_ops ?_ | refine st_nil ?_ | refine th_n ?_ | refine w_skip ?_ | refine w_ret ?_ | refine w_false rfl ?_ | refine g_yes rfl ?_ | refine mv_c rfl ?_ | refine pick_f rfl rfl ?_ | refine eql_f rfl rfl (by omega) ?_ | refine not_ rfl ?_ | refine load_rp rfl (Nat.le_of_ble_eq_true rfl) rfl ?_ | refine fad_rp rfl (Nat.le_of_ble_eq_true rfl) rfl ?_ | refine iaS_c rfl rfl (by omega) (by assumption) rfl ?_ | refine len_sl rfl (by first | assumption | exact List.length_map _) ?_)
        exact fin_r rfl (by simp [one_, tup2, endB, hg]; rfl)
theorem C_Least (l : List Run) (hlen : l.length < 4611686018427387904) : PCallG Try.prog 22 [.c (encL l)] (.c (tup2 (endB l false))) [] := by
  refine pcallF Try.func22 c22 rfl ?_
  unfold p22 r22_0 r22_1
  repeat' (first | refine call2 rfl rfl (C_end l false hlen) ?_ | refine w_seq ?_ | refine w_ops ?_ | refine st_nil ?_ | refine th_n ?_ | refine w_ret ?_ | refine mv_c rfl ?_ | refine ext_ rfl rfl ?_)
  exact fin_r rfl rfl
theorem C_Greatest (l : List Run) (hlen : l.length < 4611686018427387904) : PCallG Try.prog 23 [.c (encL l)] (.c (tup2 (endB l true))) [] := by
  refine pcallF Try.func23 c23 rfl ?_
  unfold p23 r23_0 r23_1
  repeat' (first | refine call2 rfl rfl (C_end l true hlen) ?_ | refine w_seq ?_ | refine w_ops ?_ | refine st_nil ?_ | refine th_n ?_ | refine w_ret ?_ | refine mv_c rfl ?_ | refine ext_ rfl rfl ?_)
  exact fin_r rfl rfl
end Go.Proofs.Ytcmejdkjfekoeaa
namespace Go.Proofs.Ytcmejdkjfekoeaa
open Go.Pl Go.Bag
set_option maxHeartbeats 8000000
end Go.Proofs.Ytcmejdkjfekoeaa
namespace Go.Proofs.Ytcmejdkjfekoeaa
open Go.Pl Go.Bag
set_option maxHeartbeats 8000000
end Go.Proofs.Ytcmejdkjfekoeaa
namespace Go.Proofs.Ytcmejdkjfekoeaa
open Go.Pl Go.Bag
set_option maxHeartbeats 8000000
end Go.Proofs.Ytcmejdkjfekoeaa
namespace Go.Proofs.Ytcmejdkjfekoeaa
open Go.Pl Go.Bag
set_option maxHeartbeats 8000000
/-! ### the document's wide numbers: sign, high part, low part -/
def enc3 (w : Bool × Int × Int) : List CV := [.bool w.1, .int .u64 w.2.1, .int .u64 w.2.2]
def in3 (w : Bool × Int × Int) : Prop := (0 ≤ w.2.1 ∧ w.2.1 ≤ 18446744073709551615) ∧ (0 ≤ w.2.2 ∧ w.2.2 ≤ 18446744073709551615)
def less3 (a b : Bool × Int × Int) : Bool := decide (a.2.1 < b.2.1 ∨ (a.2.1 = b.2.1 ∧ a.2.2 < b.2.2))
def sub3 (p q : Bool × Int × Int) : Bool × Int × Int :=
  let hi := if p.2.2 < q.2.2 then ((p.2.1 - q.2.1) % 18446744073709551616 - 1) % 18446744073709551616 else (p.2.1 - q.2.1) % 18446744073709551616
  let lo := (p.2.2 - q.2.2) % 18446744073709551616
  (if hi = 0 ∧ lo = 0 then false else p.1, hi, lo)
def plus3 (a b : Bool × Int × Int) : Bool × Int × Int :=
  if a.1 = b.1 then (a.1, (if (a.2.2 + b.2.2) % 18446744073709551616 < a.2.2 then ((a.2.1 + b.2.1) % 18446744073709551616 + 1) % 18446744073709551616 else (a.2.1 + b.2.1) % 18446744073709551616), (a.2.2 + b.2.2) % 18446744073709551616)
  else if less3 a b then sub3 b a else sub3 a b
def of3 (z : Int) : Bool × Int × Int := (decide (z < 0), absI z / 18446744073709551616, absI z % 18446744073709551616)
theorem enc3_of (z : Int) : enc3 (of3 z) = cellsV z := rfl
theorem in3_sub {p q : Bool × Int × Int} : in3 (sub3 p q) := by
  unfold sub3 in3
  simp only
  refine ⟨?_, by omega⟩
  split <;> omega
theorem in3_plus {a b : Bool × Int × Int} : in3 (plus3 a b) := by
  unfold plus3
  split
  · unfold in3
    simp only
    refine ⟨?_, by omega⟩
    split <;> omega
  · split <;> exact in3_sub
theorem absI_nn (z : Int) : 0 ≤ absI z := by unfold absI; split <;> omega
theorem in3_of {z : Int} (h : absI z < 340282366920938463463374607431768211456) : in3 (of3 z) := by
  have := absI_nn z
  unfold in3 of3; simp only; omega
theorem less3_of {z y : Int} : less3 (of3 z) (of3 y) = decide (absI z < absI y) := by
  have := absI_nn z
  have := absI_nn y
  unfold less3 of3
  simp only
  rw [decide_eq_decide]
  omega
theorem sub3_of {z y : Int} (hs : decide (z < 0) ≠ decide (y < 0)) (hle : absI y ≤ absI z) (hb : absI z < 340282366920938463463374607431768211456) : sub3 (of3 z) (of3 y) = of3 (z + y) := by
  have h1 := absI_nn z
  have h2 := absI_nn y
  have h3 : absI (z + y) = absI z - absI y := by
    unfold absI at *
    by_cases hz : z < 0 <;> by_cases hy : y < 0 <;> by_cases hzy : z + y < 0 <;> simp [hz, hy, hzy] at hs hle ⊢ <;> omega
  have h4 : absI z - absI y ≠ 0 → decide (z < 0) = decide (z + y < 0) := fun hne => by
    rw [decide_eq_decide]
    unfold absI at *
    by_cases hz : z < 0 <;> by_cases hy : y < 0 <;> simp [hz, hy] at hs hle hne ⊢ <;> omega
  have h5 : absI z - absI y = 0 → decide (z + y < 0) = false := fun he => by
    rw [decide_eq_false_iff_not]
    rw [he] at h3
    unfold absI at h3
    split at h3 <;> omega
  unfold sub3 of3
  simp only
  rw [h3]
  generalize absI z = A at *
  generalize absI y = B at *
  have hlo : (A % 18446744073709551616 - B % 18446744073709551616) % 18446744073709551616 = (A - B) % 18446744073709551616 := by omega
  have hhi : (if A % 18446744073709551616 < B % 18446744073709551616 then ((A / 18446744073709551616 - B / 18446744073709551616) % 18446744073709551616 - 1) % 18446744073709551616 else (A / 18446744073709551616 - B / 18446744073709551616) % 18446744073709551616) = (A - B) / 18446744073709551616 := by
    split <;> omega
  rw [hlo, hhi]
  have h6 : ((A - B) / 18446744073709551616 = 0 ∧ (A - B) % 18446744073709551616 = 0) ↔ A - B = 0 := by omega
  by_cases he : A - B = 0
  · rw [if_pos (h6.mpr he), h5 he]
  · rw [if_neg (mt h6.mp he), h4 he]
theorem plus3_of {z y : Int} (hb : absI z + absI y < 340282366920938463463374607431768211456) : plus3 (of3 z) (of3 y) = of3 (z + y) := by
  have h1 := absI_nn z
  have h2 := absI_nn y
  by_cases hs : decide (z < 0) = decide (y < 0)
  · have h3 : absI (z + y) = absI z + absI y := by
      unfold absI at *
      by_cases hz : z < 0 <;> by_cases hy : y < 0 <;> by_cases hzy : z + y < 0 <;> simp [hz, hy, hzy] at hs ⊢ <;> omega
    have h4 : decide (z < 0) = decide (z + y < 0) := by
      by_cases hz : z < 0 <;> by_cases hy : y < 0 <;> simp [hz, hy] at hs ⊢ <;> omega
    unfold plus3 of3
    simp only
    rw [if_pos hs, h3, ← h4]
    generalize absI z = A at *
    generalize absI y = B at *
    have hlo : (A % 18446744073709551616 + B % 18446744073709551616) % 18446744073709551616 = (A + B) % 18446744073709551616 := by omega
    have hhi : (if (A % 18446744073709551616 + B % 18446744073709551616) % 18446744073709551616 < A % 18446744073709551616 then ((A / 18446744073709551616 + B / 18446744073709551616) % 18446744073709551616 + 1) % 18446744073709551616 else (A / 18446744073709551616 + B / 18446744073709551616) % 18446744073709551616) = (A + B) / 18446744073709551616 := by
      split <;> omega
    rw [hhi, hlo]
  · unfold plus3
    rw [if_neg (show ¬ (of3 z).1 = (of3 y).1 from hs), less3_of]
    by_cases hlt : absI z < absI y
    · rw [if_pos (by simpa using hlt), sub3_of (fun h => hs h.symm) (by omega) (by omega), Int.add_comm]
    · rw [if_neg (by simpa using hlt), sub3_of hs (by omega) (by omega)]
theorem C_rLess (a b : Bool × Int × Int) : PCallG Try.prog 129 [.c (.agg (enc3 a)), .c (.agg (enc3 b))] (.c (.bool (less3 a b))) [] := by
  obtain ⟨an, ah, al⟩ := a
  obtain ⟨bn, bh, bl⟩ := b
  refine pcallF Try.func129 c129 rfl ?_
  unfold p129 r129_0 r129_1
  by_cases h1 : ah < bh
  · have e : less3 (an, ah, al) (bn, bh, bl) = true := by simp [less3, h1]
    rw [e]
    repeat' (first | refine w_seq ?_ | refine w_ops ?_ | refine st_nil ?_ | refine th_n ?_ | refine w_ret ?_ | refine g_no rfl ?_ | refine g_un rfl ?_ | refine mv_c rfl ?_ | refine pick_t rfl rfl ?_ | refine lss_t rfl rfl (by omega) ?_ | refine box_ rfl rfl rfl (fun u => ?_) | refine load_ptr rfl (by decide) rfl (Nat.le_of_ble_eq_true rfl) rfl ?_ | refine fad_ptr rfl rfl rfl ?_)
    exact fin_r rfl rfl
  · by_cases h2 : ah = bh
    · by_cases h3 : al < bl
      · have e : less3 (an, ah, al) (bn, bh, bl) = true := by simp [less3, h2, h3]
        rw [e]
        repeat' (first | refine w_seq ?_ | refine w_ops ?_ | refine st_nil ?_ | refine th_n ?_ | refine w_ret ?_ | refine g_yes rfl ?_ | refine mv_c rfl ?_ | refine pick_t rfl rfl ?_ | refine pick_f rfl rfl ?_ | refine lss_t rfl rfl (by omega) ?_ | refine lss_f rfl rfl (by omega) ?_ | refine eql_t rfl rfl (by omega) ?_ | refine box_ rfl rfl rfl (fun u => ?_) | refine load_ptr rfl (by decide) rfl (Nat.le_of_ble_eq_true rfl) rfl ?_ | refine fad_ptr rfl rfl rfl ?_)
        exact fin_r rfl rfl
      · have e : less3 (an, ah, al) (bn, bh, bl) = false := by simp [less3, h2]; omega
        rw [e]
        repeat' (first | refine w_seq ?_ | refine w_ops ?_ | refine st_nil ?_ | refine th_n ?_ | refine w_ret ?_ | refine g_yes rfl ?_ | refine mv_c rfl ?_ | refine pick_t rfl rfl ?_ | refine pick_f rfl rfl ?_ | refine lss_f rfl rfl (by omega) ?_ | refine eql_t rfl rfl (by omega) ?_ | refine box_ rfl rfl rfl (fun u => ?_) | refine load_ptr rfl (by decide) rfl (Nat.le_of_ble_eq_true rfl) rfl ?_ | refine fad_ptr rfl rfl rfl ?_)
        exact fin_r rfl rfl
    · have e : less3 (an, ah, al) (bn, bh, bl) = false := by simp [less3, h2]; omega
      rw [e]
      repeat' (first | refine w_seq ?_ | refine w_ops ?_ | refine st_nil ?_ | refine th_n ?_ | refine w_ret ?_ | refine g_yes rfl ?_ | refine g_no rfl ?_ | refine mv_c rfl ?_ | refine pick_f rfl rfl ?_ | refine lss_f rfl rfl (by omega) ?_ | refine eql_f rfl rfl (by omega) ?_ | refine box_ rfl rfl rfl (fun u => ?_) | refine load_ptr rfl (by decide) rfl (Nat.le_of_ble_eq_true rfl) rfl ?_ | refine fad_ptr rfl rfl rfl ?_)
      exact fin_r rfl rfl
theorem C_rPlus (a b : Bool × Int × Int) : PCallG Try.prog 122 [.c (.agg (enc3 a)), .c (.agg (enc3 b))] (.c (.agg (enc3 (plus3 a b)))) [] := by
  have hL := C_rLess a b
  obtain ⟨an, ah, al⟩ := a
  obtain ⟨bn, bh, bl⟩ := b
  refine pcallF Try.func122 c122 rfl ?_
  unfold p122 r122_0 r122_1 r122_2 r122_3 r122_4 r122_5 r122_6 r122_7 r122_8 r122_9 r122_10 r122_11 r122_12 r122_13
  by_cases hs : an = bn
  · subst hs
    by_cases hc : (al + bl) % 18446744073709551616 < al
    · have e : plus3 (an, ah, al) (an, bh, bl) = (an, ((ah + bh) % 18446744073709551616 + 1) % 18446744073709551616, (al + bl) % 18446744073709551616) := by simp [plus3, hc]
      rw [e]
      repeat' (first | refine eqs_t rfl rfl (show eqC false [LK.b] (CV.bool an) (CV.bool an) = some true by simp [eqC, shEq]) ?_ | refine w_seq ?_ | refine w_ops ?_ | refine st_nil ?_ | refine th_n ?_ | refine th_r ?_ | refine w_ret ?_ | refine w_true rfl ?_ | refine lss_t rfl rfl (by omega) ?_ | refine alloc_ (fun u => ?_) | refine box_ rfl rfl rfl (fun u => ?_) | refine build_ rfl rfl ?_ | refine load_ptr rfl (by decide) rfl (Nat.le_of_ble_eq_true rfl) rfl ?_ | refine store_ptr rfl rfl (by decide) rfl rfl (Nat.le_of_ble_eq_true rfl) rfl ?_ | refine fad_ptr rfl rfl rfl ?_ | refine addu_ rfl rfl ?_)
      exact fin_r (rv_cell rfl rfl rfl rfl rv_nil) rfl
    · have e : plus3 (an, ah, al) (an, bh, bl) = (an, (ah + bh) % 18446744073709551616, (al + bl) % 18446744073709551616) := by simp [plus3, hc]
      rw [e]
      repeat' (first | refine eqs_t rfl rfl (show eqC false [LK.b] (CV.bool an) (CV.bool an) = some true by simp [eqC, shEq]) ?_ | refine w_seq ?_ | refine w_ops ?_ | refine st_nil ?_ | refine th_n ?_ | refine th_r ?_ | refine w_skip ?_ | refine w_ret ?_ | refine w_true rfl ?_ | refine w_false rfl ?_ | refine lss_f rfl rfl (by omega) ?_ | refine alloc_ (fun u => ?_) | refine box_ rfl rfl rfl (fun u => ?_) | refine build_ rfl rfl ?_ | refine load_ptr rfl (by decide) rfl (Nat.le_of_ble_eq_true rfl) rfl ?_ | refine store_ptr rfl rfl (by decide) rfl rfl (Nat.le_of_ble_eq_true rfl) rfl ?_ | refine fad_ptr rfl rfl rfl ?_ | refine addu_ rfl rfl ?_)
      exact fin_r (rv_cell rfl rfl rfl rfl rv_nil) rfl
  · have hne : (an == bn) = false := by simpa using hs
    have hq : eqC false [LK.b] (CV.bool an) (CV.bool bn) = some false := by simp [eqC, shEq, hne]
    cases hl : less3 (an, ah, al) (bn, bh, bl) with
    | true =>
      have e : plus3 (an, ah, al) (bn, bh, bl) = sub3 (bn, bh, bl) (an, ah, al) := by simp [plus3, hs, hl]
      rw [hl] at hL
      rw [e]
      by_cases hb : bl < al
      · by_cases h0 : ((bh - ah) % 18446744073709551616 - 1) % 18446744073709551616 = 0
        · by_cases h1 : (bl - al) % 18446744073709551616 = 0
          · rw [show sub3 (bn, bh, bl) (an, ah, al) = (false, ((bh - ah) % 18446744073709551616 - 1) % 18446744073709551616, (bl - al) % 18446744073709551616) by simp [sub3, hb, h0, h1]]
            repeat' (first | refine call2 rfl rfl hL ?_ | refine eqs_t rfl rfl hq ?_ | refine w_seq ?_ | refine w_ops ?_ | refine st_nil ?_ | refine th_n ?_ | refine w_skip ?_ | refine w_ret ?_ | refine w_true rfl ?_ | refine w_false rfl ?_ | refine g_yes rfl ?_ | refine mv_c rfl ?_ | refine pick_t rfl rfl ?_ | refine lss_t rfl rfl (by omega) ?_ | refine eql_t rfl rfl (by omega) ?_ | refine alloc_ (fun u => ?_) | refine box_ rfl rfl rfl (fun u => ?_) | refine build_ rfl rfl ?_ | refine load_ptr rfl (by decide) rfl (Nat.le_of_ble_eq_true rfl) rfl ?_ | refine store_ptr rfl rfl (by decide) rfl rfl (Nat.le_of_ble_eq_true rfl) rfl ?_ | refine fad_ptr rfl rfl rfl ?_ | refine subu_ rfl rfl ?_)
            exact fin_r (rv_cell rfl rfl rfl rfl rv_nil) rfl
          · rw [show sub3 (bn, bh, bl) (an, ah, al) = (bn, ((bh - ah) % 18446744073709551616 - 1) % 18446744073709551616, (bl - al) % 18446744073709551616) by simp [sub3, hb, h0, h1]]
            repeat' (first | refine call2 rfl rfl hL ?_ | refine eqs_t rfl rfl hq ?_ | refine w_seq ?_ | refine w_ops ?_ | refine st_nil ?_ | refine th_n ?_ | refine w_skip ?_ | refine w_ret ?_ | refine w_true rfl ?_ | refine w_false rfl ?_ | refine g_yes rfl ?_ | refine mv_c rfl ?_ | refine pick_t rfl rfl ?_ | refine lss_t rfl rfl (by omega) ?_ | refine eql_t rfl rfl (by omega) ?_ | refine eql_f rfl rfl (by omega) ?_ | refine alloc_ (fun u => ?_) | refine box_ rfl rfl rfl (fun u => ?_) | refine build_ rfl rfl ?_ | refine load_ptr rfl (by decide) rfl (Nat.le_of_ble_eq_true rfl) rfl ?_ | refine store_ptr rfl rfl (by decide) rfl rfl (Nat.le_of_ble_eq_true rfl) rfl ?_ | refine fad_ptr rfl rfl rfl ?_ | refine subu_ rfl rfl ?_)
            exact fin_r (rv_cell rfl rfl rfl rfl rv_nil) rfl
        · rw [show sub3 (bn, bh, bl) (an, ah, al) = (bn, ((bh - ah) % 18446744073709551616 - 1) % 18446744073709551616, (bl - al) % 18446744073709551616) by unfold sub3; simp only [if_pos hb]; rw [if_neg (fun h => h0 h.1)]]
          repeat' (first | refine call2 rfl rfl hL ?_ | refine eqs_t rfl rfl hq ?_ | refine w_seq ?_ | refine w_ops ?_ | refine st_nil ?_ | refine th_n ?_ | refine w_skip ?_ | refine w_ret ?_ | refine w_true rfl ?_ | refine w_false rfl ?_ | refine g_no rfl ?_ | refine mv_c rfl ?_ | refine pick_f rfl rfl ?_ | refine lss_t rfl rfl (by omega) ?_ | refine eql_f rfl rfl (by omega) ?_ | refine alloc_ (fun u => ?_) | refine box_ rfl rfl rfl (fun u => ?_) | refine build_ rfl rfl ?_ | refine load_ptr rfl (by decide) rfl (Nat.le_of_ble_eq_true rfl) rfl ?_ | refine store_ptr rfl rfl (by decide) rfl rfl (Nat.le_of_ble_eq_true rfl) rfl ?_ | refine fad_ptr rfl rfl rfl ?_ | refine subu_ rfl rfl ?_)
          exact fin_r (rv_cell rfl rfl rfl rfl rv_nil) rfl
      · by_cases h0 : (bh - ah) % 18446744073709551616 = 0
        · by_cases h1 : (bl - al) % 18446744073709551616 = 0
          · rw [show sub3 (bn, bh, bl) (an, ah, al) = (false, (bh - ah) % 18446744073709551616, (bl - al) % 18446744073709551616) by simp [sub3, hb, h0, h1]]
            repeat' (first | refine call2 rfl rfl hL ?_ | refine eqs_t rfl rfl hq ?_ | refine w_seq ?_ | refine w_ops ?_ | refine st_nil ?_ | refine th_n ?_ | refine w_skip ?_ | refine w_ret ?_ | refine w_true rfl ?_ | refine w_false rfl ?_ | refine g_yes rfl ?_ | refine mv_c rfl ?_ | refine pick_t rfl rfl ?_ | refine lss_f rfl rfl (by omega) ?_ | refine eql_t rfl rfl (by omega) ?_ | refine alloc_ (fun u => ?_) | refine box_ rfl rfl rfl (fun u => ?_) | refine build_ rfl rfl ?_ | refine load_ptr rfl (by decide) rfl (Nat.le_of_ble_eq_true rfl) rfl ?_ | refine store_ptr rfl rfl (by decide) rfl rfl (Nat.le_of_ble_eq_true rfl) rfl ?_ | refine fad_ptr rfl rfl rfl ?_ | refine subu_ rfl rfl ?_)
            exact fin_r (rv_cell rfl rfl rfl rfl rv_nil) rfl
          · rw [show sub3 (bn, bh, bl) (an, ah, al) = (bn, (bh - ah) % 18446744073709551616, (bl - al) % 18446744073709551616) by simp [sub3, hb, h0, h1]]
            repeat' (first | refine call2 rfl rfl hL ?_ | refine eqs_t rfl rfl hq ?_ | refine w_seq ?_ | refine w_ops ?_ | refine st_nil ?_ | refine th_n ?_ | refine w_skip ?_ | refine w_ret ?_ | refine w_true rfl ?_ | refine w_false rfl ?_ | refine g_yes rfl ?_ | refine mv_c rfl ?_ | refine pick_t rfl rfl ?_ | refine lss_f rfl rfl (by omega) ?_ | refine eql_t rfl rfl (by omega) ?_ | refine eql_f rfl rfl (by omega) ?_ | refine alloc_ (fun u => ?_) | refine box_ rfl rfl rfl (fun u => ?_) | refine build_ rfl rfl ?_ | refine load_ptr rfl (by decide) rfl (Nat.le_of_ble_eq_true rfl) rfl ?_ | refine store_ptr rfl rfl (by decide) rfl rfl (Nat.le_of_ble_eq_true rfl) rfl ?_ | refine fad_ptr rfl rfl rfl ?_ | refine subu_ rfl rfl ?_)
            exact fin_r (rv_cell rfl rfl rfl rfl rv_nil) rfl
        · rw [show sub3 (bn, bh, bl) (an, ah, al) = (bn, (bh - ah) % 18446744073709551616, (bl - al) % 18446744073709551616) by simp [sub3, hb, h0]]
          repeat' (first | refine call2 rfl rfl hL ?_ | refine eqs_t rfl rfl hq ?_ | refine w_seq ?_ | refine w_ops ?_ | refine st_nil ?_ | refine th_n ?_ | refine w_skip ?_ | refine w_ret ?_ | refine w_true rfl ?_ | refine w_false rfl ?_ | refine g_no rfl ?_ | refine mv_c rfl ?_ | refine pick_f rfl rfl ?_ | refine lss_f rfl rfl (by omega) ?_ | refine eql_f rfl rfl (by omega) ?_ | refine alloc_ (fun u => ?_) | refine box_ rfl rfl rfl (fun u => ?_) | refine build_ rfl rfl ?_ | refine load_ptr rfl (by decide) rfl (Nat.le_of_ble_eq_true rfl) rfl ?_ | refine store_ptr rfl rfl (by decide) rfl rfl (Nat.le_of_ble_eq_true rfl) rfl ?_ | refine fad_ptr rfl rfl rfl ?_ | refine subu_ rfl rfl ?_)
          exact fin_r (rv_cell rfl rfl rfl rfl rv_nil) rfl
    | false =>
      have e : plus3 (an, ah, al) (bn, bh, bl) = sub3 (an, ah, al) (bn, bh, bl) := by simp [plus3, hs, hl]
      rw [hl] at hL
      rw [e]
      by_cases hb : al < bl
      · by_cases h0 : ((ah - bh) % 18446744073709551616 - 1) % 18446744073709551616 = 0
        · by_cases h1 : (al - bl) % 18446744073709551616 = 0
          · rw [show sub3 (an, ah, al) (bn, bh, bl) = (false, ((ah - bh) % 18446744073709551616 - 1) % 18446744073709551616, (al - bl) % 18446744073709551616) by simp [sub3, hb, h0, h1]]
            repeat' (first | refine call2 rfl rfl hL ?_ | refine eqs_t rfl rfl hq ?_ | refine w_seq ?_ | refine w_ops ?_ | refine st_nil ?_ | refine th_n ?_ | refine w_skip ?_ | refine w_ret ?_ | refine w_true rfl ?_ | refine w_false rfl ?_ | refine g_yes rfl ?_ | refine mv_c rfl ?_ | refine pick_t rfl rfl ?_ | refine lss_t rfl rfl (by omega) ?_ | refine eql_t rfl rfl (by omega) ?_ | refine alloc_ (fun u => ?_) | refine box_ rfl rfl rfl (fun u => ?_) | refine build_ rfl rfl ?_ | refine load_ptr rfl (by decide) rfl (Nat.le_of_ble_eq_true rfl) rfl ?_ | refine store_ptr rfl rfl (by decide) rfl rfl (Nat.le_of_ble_eq_true rfl) rfl ?_ | refine fad_ptr rfl rfl rfl ?_ | refine subu_ rfl rfl ?_)
            exact fin_r (rv_cell rfl rfl rfl rfl rv_nil) rfl
          · rw [show sub3 (an, ah, al) (bn, bh, bl) = (an, ((ah - bh) % 18446744073709551616 - 1) % 18446744073709551616, (al - bl) % 18446744073709551616) by simp [sub3, hb, h0, h1]]
            repeat' (first | refine call2 rfl rfl hL ?_ | refine eqs_t rfl rfl hq ?_ | refine w_seq ?_ | refine w_ops ?_ | refine st_nil ?_ | refine th_n ?_ | refine w_skip ?_ | refine w_ret ?_ | refine w_true rfl ?_ | refine w_false rfl ?_ | refine g_yes rfl ?_ | refine mv_c rfl ?_ | refine pick_t rfl rfl ?_ | refine lss_t rfl rfl (by omega) ?_ | refine eql_t rfl rfl (by omega) ?_ | refine eql_f rfl rfl (by omega) ?_ | refine alloc_ (fun u => ?_) | refine box_ rfl rfl rfl (fun u => ?_) | refine build_ rfl rfl ?_ | refine load_ptr rfl (by decide) rfl (Nat.le_of_ble_eq_true rfl) rfl ?_ | refine store_ptr rfl rfl (by decide) rfl rfl (Nat.le_of_ble_eq_true rfl) rfl ?_ | refine fad_ptr rfl rfl rfl ?_ | refine subu_ rfl rfl ?_)
            exact fin_r (rv_cell rfl rfl rfl rfl rv_nil) rfl
        · rw [show sub3 (an, ah, al) (bn, bh, bl) = (an, ((ah - bh) % 18446744073709551616 - 1) % 18446744073709551616, (al - bl) % 18446744073709551616) by unfold sub3; simp only [if_pos hb]; rw [if_neg (fun h => h0 h.1)]]
          repeat' (first | refine call2 rfl rfl hL ?_ | refine eqs_t rfl rfl hq ?_ | refine w_seq ?_ | refine w_ops ?_ | refine st_nil ?_ | refine th_n ?_ | refine w_skip ?_ | refine w_ret ?_ | refine w_true rfl ?_ | refine w_false rfl ?_ | refine g_no rfl ?_ | refine mv_c rfl ?_ | refine pick_f rfl rfl ?_ | refine lss_t rfl rfl (by omega) ?_ | refine eql_f rfl rfl (by omega) ?_ | refine alloc_ (fun u => ?_) | refine box_ rfl rfl rfl (fun u => ?_) | refine build_ rfl rfl ?_ | refine load_ptr rfl (by decide) rfl (Nat.le_of_ble_eq_true rfl) rfl ?_ | refine store_ptr rfl rfl (by decide) rfl rfl (Nat.le_of_ble_eq_true rfl) rfl ?_ | refine fad_ptr rfl rfl rfl ?_ | refine subu_ rfl rfl ?_)
          exact fin_r (rv_cell rfl rfl rfl rfl rv_nil) rfl
      · by_cases h0 : (ah - bh) % 18446744073709551616 = 0
        · by_cases h1 : (al - bl) % 18446744073709551616 = 0
          · rw [show sub3 (an, ah, al) (bn, bh, bl) = (false, (ah - bh) % 18446744073709551616, (al - bl) % 18446744073709551616) by simp [sub3, hb, h0, h1]]
            repeat' (first | refine call2 rfl rfl hL ?_ | refine eqs_t rfl rfl hq ?_ | refine w_seq ?_ | refine w_ops ?_ | refine st_nil ?_ | refine th_n ?_ | refine w_skip ?_ | refine w_ret ?_ | refine w_true rfl ?_ | refine w_false rfl ?_ | refine g_yes rfl ?_ | refine mv_c rfl ?_ | refine pick_t rfl rfl ?_ | refine lss_f rfl rfl (by omega) ?_ | refine eql_t rfl rfl (by omega) ?_ | refine alloc_ (fun u => ?_) | refine box_ rfl rfl rfl (fun u => ?_) | refine build_ rfl rfl ?_ | refine load_ptr rfl (by decide) rfl (Nat.le_of_ble_eq_true rfl) rfl ?_ | refine store_ptr rfl rfl (by decide) rfl rfl (Nat.le_of_ble_eq_true rfl) rfl ?_ | refine fad_ptr rfl rfl rfl ?_ | refine subu_ rfl rfl ?_)
            exact fin_r (rv_cell rfl rfl rfl rfl rv_nil) rfl
          · rw [show sub3 (an, ah, al) (bn, bh, bl) = (an, (ah - bh) % 18446744073709551616, (al - bl) % 18446744073709551616) by simp [sub3, hb, h0, h1]]
            repeat' (first | refine call2 rfl rfl hL ?_ | refine eqs_t rfl rfl hq ?_ | refine w_seq ?_ | refine w_ops ?_ | refine st_nil ?_ | refine th_n ?_ | refine w_skip ?_ | refine w_ret ?_ | refine w_false rfl ?_ | refine g_yes rfl ?_ | refine mv_c rfl ?_ | refine pick_t rfl rfl ?_ | refine lss_f rfl rfl (by omega) ?_ | refine eql_t rfl rfl (by omega) ?_ | refine eql_f rfl rfl (by omega) ?_ | refine alloc_ (fun u => ?_) | refine box_ rfl rfl rfl (fun u => ?_) | refine build_ rfl rfl ?_ | refine load_ptr rfl (by decide) rfl (Nat.le_of_ble_eq_true rfl) rfl ?_ | refine store_ptr rfl rfl (by decide) rfl rfl (Nat.le_of_ble_eq_true rfl) rfl ?_ | refine fad_ptr rfl rfl rfl ?_ | refine subu_ rfl rfl ?_)
            exact fin_r (rv_cell rfl rfl rfl rfl rv_nil) rfl
        · rw [show sub3 (an, ah, al) (bn, bh, bl) = (an, (ah - bh) % 18446744073709551616, (al - bl) % 18446744073709551616) by simp [sub3, hb, h0]]
          repeat' (first | refine call2 rfl rfl hL ?_ | refine eqs_t rfl rfl hq ?_ | refine w_seq ?_ | refine w_ops ?_ | refine st_nil ?_ | refine th_n ?_ | refine w_skip ?_ | refine w_ret ?_ | refine w_false rfl ?_ | refine g_no rfl ?_ | refine mv_c rfl ?_ | refine pick_f rfl rfl ?_ | refine lss_f rfl rfl (by omega) ?_ | refine eql_f rfl rfl (by omega) ?_ | refine alloc_ (fun u => ?_) | refine box_ rfl rfl rfl (fun u => ?_) | refine build_ rfl rfl ?_ | refine load_ptr rfl (by decide) rfl (Nat.le_of_ble_eq_true rfl) rfl ?_ | refine store_ptr rfl rfl (by decide) rfl rfl (Nat.le_of_ble_eq_true rfl) rfl ?_ | refine fad_ptr rfl rfl rfl ?_ | refine subu_ rfl rfl ?_)
          exact fin_r (rv_cell rfl rfl rfl rfl rv_nil) rfl
end Go.Proofs.Ytcmejdkjfekoeaa

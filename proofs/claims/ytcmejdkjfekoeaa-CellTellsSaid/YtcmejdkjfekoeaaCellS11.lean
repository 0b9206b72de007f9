/- Part of the proof of CellMean, CellOrder, CellJoins, CellLines, CellTells: lemmas. -/
import Derived.Test.YtcmejdkjfekoeaaCellS5
import Derived.Test.YtcmejdkjfekoeaaCellS6
import Derived.Test.YtcmejdkjfekoeaaCellS7
import Derived.Test.YtcmejdkjfekoeaaCellS8
import Derived.Test.YtcmejdkjfekoeaaCellS9
import Derived.Test.YtcmejdkjfekoeaaCellS10
set_option linter.unusedVariables false
set_option linter.unusedSimpArgs false
namespace Go.Proofs.Ytcmejdkjfekoeaa
open Go.Pl Go.Bag
set_option maxHeartbeats 16000000
def inL (l : LineS) : Prop := in64 l.n ∧ in64 l.s0 ∧ in64 l.s1 ∧ in64 l.lo0 ∧ in64 l.lo1 ∧ in64 l.hi0 ∧ in64 l.hi1
def one1 (n : Int) : Int := if 1 > n then 1 else n
def sel (i x y : Int) : Int := if i = 0 then x else y
/-- which of two lines is ahead -/
def aheadC (f i : Int) (a b : LineS) : Int :=
  if f = 1 then cmpI b.n a.n else if i < 0 ∨ 2 ≤ i then 0
  else if f = 2 then cmpI (sel i b.s0 b.s1) (sel i a.s0 a.s1)
  else if f = 3 then cmpI (sel i b.lo0 b.lo1) (sel i a.lo0 a.lo1)
  else if f = 4 then cmpI (sel i b.hi0 b.hi1) (sel i a.hi0 a.hi1)
  else if f = 5 then cmpI (sel i b.s0 b.s1 * one1 a.n) (sel i a.s0 a.s1 * one1 b.n) else 0
theorem one1_in {n : Int} (h : in64 n) : I64 (one1 n) := by
  unfold one1 in64 at *
  unfold I64
  split <;> omega
theorem C_Ahead (f i : Int) (a b : LineS) (ha : inL a) (hb : inL b) : PCallG Try.prog 55 [.c (.int .i64 f), .c (.int .i64 i), .c (encLine a), .c (encLine b)] (.c (.int .i64 (aheadC f i a b))) [] := by
  obtain ⟨a1, a2, a3, a4, a5, a6, a7⟩ := ha
  obtain ⟨b1, b2, b3, b4, b5, b6, b7⟩ := hb
  have o1 := one1_in a1
  have o2 := one1_in b1
  refine pcallF Try.func55 c55 rfl ?_
  have d1 := C_Compare b.n a.n
  have d2 := C_Compare b.s0 a.s0
  have d3 := C_Compare b.s1 a.s1
  have d4 := C_Compare b.lo0 a.lo0
  have d5 := C_Compare b.lo1 a.lo1
  have d6 := C_Compare b.hi0 a.hi0
  have d7 := C_Compare b.hi1 a.hi1
  have d8 := C_Cmp b.s0 (one1 a.n) a.s0 (one1 b.n) b2 o1 a2 o2
  have d9 := C_Cmp b.s1 (one1 a.n) a.s1 (one1 b.n) b3 o1 a3 o2
  unfold one1 at d8 d9
  have hf : f = 1 ∨ f = 2 ∨ f = 3 ∨ f = 4 ∨ f = 5 ∨ (f < 1 ∨ 5 < f) := by omega
  have hi : (i < 0 ∨ 2 ≤ i) ∨ i = 0 ∨ i = 1 := by omega
  unfold p55 r55_0 r55_1 r55_2 r55_3 r55_4 r55_5 r55_6 r55_7 r55_8 r55_9 r55_10 r55_11 r55_12 r55_13 r55_14
  rcases hf with rfl | rfl | rfl | rfl | rfl | hf
  · rw [show aheadC 1 i a b = cmpI b.n a.n by simp [aheadC]]
    repeat' (first
      | refine call2 rfl rfl d1 ?_
      | refine w_seq ?_
      | refine w_ops ?_
      | refine st_nil ?_
      | refine th_n ?_
      | refine th_r ?_
      | refine w_ret ?_
      | refine w_true rfl ?_
      | refine mv_c rfl ?_
      | refine eql_t rfl rfl (by omega) ?_
      | refine box_ rfl rfl rfl (fun u => ?_)
      | refine load_ptr rfl (by decide) rfl (Nat.le_of_ble_eq_true rfl) rfl ?_
      | refine fad_ptr rfl rfl rfl ?_)
    exact fin_r rfl rfl
  · rcases hi with hi | rfl | rfl
    · rw [show aheadC 2 i a b = 0 by simp [aheadC, hi]]
      rcases hi with hi | hi
      all_goals
        repeat' (first
          | refine w_seq ?_
          | refine w_ops ?_
          | refine st_nil ?_
          | refine th_n ?_
          | refine th_r ?_
          | refine w_skip ?_
          | refine w_ret ?_
          | refine w_true rfl ?_
          | refine w_false rfl ?_
          | refine g_yes rfl ?_
          | refine g_no rfl ?_
          | refine mv_c rfl ?_
          | refine pick_t rfl rfl ?_
          | refine pick_f rfl rfl ?_
          | refine lss_t rfl rfl (by omega) ?_
          | refine lss_f rfl rfl (by omega) ?_
          | refine geq_t rfl rfl (by omega) ?_
          | refine eql_f rfl rfl (by omega) ?_
          | refine box_ rfl rfl rfl (fun u => ?_))
      all_goals exact fin_r rfl rfl
    · rw [show aheadC 2 0 a b = cmpI b.s0 a.s0 by simp [aheadC, sel]]
      repeat' (first
        | refine call2 rfl rfl d2 ?_
        | refine w_seq ?_
        | refine w_ops ?_
        | refine w_opsD0 rfl ?_
        | refine st_nil ?_
        | refine th_n ?_
        | refine th_r ?_
        | refine bk_r ?_
        | refine w_block ?_
        | refine w_skip ?_
        | refine w_ret ?_
        | refine w_true rfl ?_
        | refine w_false rfl ?_
        | refine g_yes rfl ?_
        | refine mv_c rfl ?_
        | refine pick_f rfl rfl ?_
        | refine lss_f rfl rfl (by omega) ?_
        | refine geq_f rfl rfl (by omega) ?_
        | refine eql_t rfl rfl (by omega) ?_
        | refine eql_f rfl rfl (by omega) ?_
        | refine box_ rfl rfl rfl (fun u => ?_)
        | refine load_ptr rfl (by decide) rfl (Nat.le_of_ble_eq_true rfl) rfl ?_
        | refine fad_ptr rfl rfl rfl ?_
        | refine iaA_ptr rfl rfl rfl (by omega) rfl ?_)
      exact fin_r rfl rfl
    · rw [show aheadC 2 1 a b = cmpI b.s1 a.s1 by simp [aheadC, sel]]
      repeat' (first
        | refine call2 rfl rfl d3 ?_
        | refine w_seq ?_
        | refine w_ops ?_
        | refine w_opsD0 rfl ?_
        | refine st_nil ?_
        | refine th_n ?_
        | refine th_r ?_
        | refine bk_r ?_
        | refine w_block ?_
        | refine w_skip ?_
        | refine w_ret ?_
        | refine w_true rfl ?_
        | refine w_false rfl ?_
        | refine g_yes rfl ?_
        | refine mv_c rfl ?_
        | refine pick_f rfl rfl ?_
        | refine lss_f rfl rfl (by omega) ?_
        | refine geq_f rfl rfl (by omega) ?_
        | refine eql_t rfl rfl (by omega) ?_
        | refine eql_f rfl rfl (by omega) ?_
        | refine box_ rfl rfl rfl (fun u => ?_)
        | refine load_ptr rfl (by decide) rfl (Nat.le_of_ble_eq_true rfl) rfl ?_
        | refine fad_ptr rfl rfl rfl ?_
        | refine iaA_ptr rfl rfl rfl (by omega) rfl ?_)
      exact fin_r rfl rfl
  · rcases hi with hi | rfl | rfl
    · rw [show aheadC 3 i a b = 0 by simp [aheadC, hi]]
      rcases hi with hi | hi
      all_goals
        repeat' (first
          | refine w_seq ?_
          | refine w_ops ?_
          | refine st_nil ?_
          | refine th_n ?_
          | refine th_r ?_
          | refine w_skip ?_
          | refine w_ret ?_
          | refine w_true rfl ?_
          | refine w_false rfl ?_
          | refine g_yes rfl ?_
          | refine g_no rfl ?_
          | refine mv_c rfl ?_
          | refine pick_t rfl rfl ?_
          | refine pick_f rfl rfl ?_
          | refine lss_t rfl rfl (by omega) ?_
          | refine lss_f rfl rfl (by omega) ?_
          | refine geq_t rfl rfl (by omega) ?_
          | refine eql_f rfl rfl (by omega) ?_
          | refine box_ rfl rfl rfl (fun u => ?_))
      all_goals exact fin_r rfl rfl
    · rw [show aheadC 3 0 a b = cmpI b.lo0 a.lo0 by simp [aheadC, sel]]
      repeat' (first
        | refine call2 rfl rfl d4 ?_
        | refine w_seq ?_
        | refine w_ops ?_
        | refine w_opsD0 rfl ?_
        | refine st_nil ?_
        | refine th_n ?_
        | refine th_r ?_
        | refine bk_r ?_
        | refine w_block ?_
        | refine w_skip ?_
        | refine w_ret ?_
        | refine w_true rfl ?_
        | refine w_false rfl ?_
        | refine g_yes rfl ?_
        | refine mv_c rfl ?_
        | refine pick_f rfl rfl ?_
        | refine lss_f rfl rfl (by omega) ?_
        | refine geq_f rfl rfl (by omega) ?_
        | refine eql_t rfl rfl (by omega) ?_
        | refine eql_f rfl rfl (by omega) ?_
        | refine box_ rfl rfl rfl (fun u => ?_)
        | refine load_ptr rfl (by decide) rfl (Nat.le_of_ble_eq_true rfl) rfl ?_
        | refine fad_ptr rfl rfl rfl ?_
        | refine iaA_ptr rfl rfl rfl (by omega) rfl ?_)
      exact fin_r rfl rfl
    · rw [show aheadC 3 1 a b = cmpI b.lo1 a.lo1 by simp [aheadC, sel]]
      repeat' (first
        | refine call2 rfl rfl d5 ?_
        | refine w_seq ?_
        | refine w_ops ?_
        | refine w_opsD0 rfl ?_
        | refine st_nil ?_
        | refine th_n ?_
        | refine th_r ?_
        | refine bk_r ?_
        | refine w_block ?_
        | refine w_skip ?_
        | refine w_ret ?_
        | refine w_true rfl ?_
        | refine w_false rfl ?_
        | refine g_yes rfl ?_
        | refine mv_c rfl ?_
        | refine pick_f rfl rfl ?_
        | refine lss_f rfl rfl (by omega) ?_
        | refine geq_f rfl rfl (by omega) ?_
        | refine eql_t rfl rfl (by omega) ?_
        | refine eql_f rfl rfl (by omega) ?_
        | refine box_ rfl rfl rfl (fun u => ?_)
        | refine load_ptr rfl (by decide) rfl (Nat.le_of_ble_eq_true rfl) rfl ?_
        | refine fad_ptr rfl rfl rfl ?_
        | refine iaA_ptr rfl rfl rfl (by omega) rfl ?_)
      exact fin_r rfl rfl
  · rcases hi with hi | rfl | rfl
    · rw [show aheadC 4 i a b = 0 by simp [aheadC, hi]]
      rcases hi with hi | hi
      all_goals
        repeat' (first
          | refine w_seq ?_
          | refine w_ops ?_
          | refine st_nil ?_
          | refine th_n ?_
          | refine th_r ?_
          | refine w_skip ?_
          | refine w_ret ?_
          | refine w_true rfl ?_
          | refine w_false rfl ?_
          | refine g_yes rfl ?_
          | refine g_no rfl ?_
          | refine mv_c rfl ?_
          | refine pick_t rfl rfl ?_
          | refine pick_f rfl rfl ?_
          | refine lss_t rfl rfl (by omega) ?_
          | refine lss_f rfl rfl (by omega) ?_
          | refine geq_t rfl rfl (by omega) ?_
          | refine eql_f rfl rfl (by omega) ?_
          | refine box_ rfl rfl rfl (fun u => ?_))
      all_goals exact fin_r rfl rfl
    · rw [show aheadC 4 0 a b = cmpI b.hi0 a.hi0 by simp [aheadC, sel]]
      repeat' (first
        | refine call2 rfl rfl d6 ?_
        | refine w_seq ?_
        | refine w_ops ?_
        | refine w_opsD0 rfl ?_
        | refine st_nil ?_
        | refine th_n ?_
        | refine th_r ?_
        | refine bk_r ?_
        | refine w_block ?_
        | refine w_skip ?_
        | refine w_ret ?_
        | refine w_true rfl ?_
        | refine w_false rfl ?_
        | refine g_yes rfl ?_
        | refine mv_c rfl ?_
        | refine pick_f rfl rfl ?_
        | refine lss_f rfl rfl (by omega) ?_
        | refine geq_f rfl rfl (by omega) ?_
        | refine eql_t rfl rfl (by omega) ?_
        | refine eql_f rfl rfl (by omega) ?_
        | refine box_ rfl rfl rfl (fun u => ?_)
        | refine load_ptr rfl (by decide) rfl (Nat.le_of_ble_eq_true rfl) rfl ?_
        | refine fad_ptr rfl rfl rfl ?_
        | refine iaA_ptr rfl rfl rfl (by omega) rfl ?_)
      exact fin_r rfl rfl
    · rw [show aheadC 4 1 a b = cmpI b.hi1 a.hi1 by simp [aheadC, sel]]
      repeat' (first
        | refine call2 rfl rfl d7 ?_
        | refine w_seq ?_
        | refine w_ops ?_
        | refine w_opsD0 rfl ?_
        | refine st_nil ?_
        | refine th_n ?_
        | refine th_r ?_
        | refine bk_r ?_
        | refine w_block ?_
        | refine w_skip ?_
        | refine w_ret ?_
        | refine w_true rfl ?_
        | refine w_false rfl ?_
        | refine g_yes rfl ?_
        | refine mv_c rfl ?_
        | refine pick_f rfl rfl ?_
        | refine lss_f rfl rfl (by omega) ?_
        | refine geq_f rfl rfl (by omega) ?_
        | refine eql_t rfl rfl (by omega) ?_
        | refine eql_f rfl rfl (by omega) ?_
        | refine box_ rfl rfl rfl (fun u => ?_)
        | refine load_ptr rfl (by decide) rfl (Nat.le_of_ble_eq_true rfl) rfl ?_
        | refine fad_ptr rfl rfl rfl ?_
        | refine iaA_ptr rfl rfl rfl (by omega) rfl ?_)
      exact fin_r rfl rfl
  · rcases hi with hi | rfl | rfl
    · rw [show aheadC 5 i a b = 0 by simp [aheadC, hi]]
      rcases hi with hi | hi
      all_goals
        repeat' (first
          | refine w_seq ?_
          | refine w_ops ?_
          | refine st_nil ?_
          | refine th_n ?_
          | refine th_r ?_
          | refine w_skip ?_
          | refine w_ret ?_
          | refine w_true rfl ?_
          | refine w_false rfl ?_
          | refine g_yes rfl ?_
          | refine g_no rfl ?_
          | refine mv_c rfl ?_
          | refine pick_t rfl rfl ?_
          | refine pick_f rfl rfl ?_
          | refine lss_t rfl rfl (by omega) ?_
          | refine lss_f rfl rfl (by omega) ?_
          | refine geq_t rfl rfl (by omega) ?_
          | refine eql_f rfl rfl (by omega) ?_
          | refine box_ rfl rfl rfl (fun u => ?_))
      all_goals exact fin_r rfl rfl
    · rw [show aheadC 5 0 a b = cmpI (b.s0 * one1 a.n) (a.s0 * one1 b.n) by simp [aheadC, sel]]
      repeat' (first
        | refine call4 rfl rfl rfl rfl d8 ?_
        | refine w_seq ?_
        | refine w_ops ?_
        | refine w_opsD0 rfl ?_
        | refine st_nil ?_
        | refine th_n ?_
        | refine th_r ?_
        | refine bk_r ?_
        | refine w_block ?_
        | refine w_skip ?_
        | refine w_ret ?_
        | refine w_true rfl ?_
        | refine w_false rfl ?_
        | refine g_yes rfl ?_
        | refine mv_c rfl ?_
        | refine pick_f rfl rfl ?_
        | refine lss_f rfl rfl (by omega) ?_
        | refine geq_f rfl rfl (by omega) ?_
        | refine eql_t rfl rfl (by omega) ?_
        | refine eql_f rfl rfl (by omega) ?_
        | refine box_ rfl rfl rfl (fun u => ?_)
        | refine load_ptr rfl (by decide) rfl (Nat.le_of_ble_eq_true rfl) rfl ?_
        | refine fad_ptr rfl rfl rfl ?_
        | refine iaA_ptr rfl rfl rfl (by omega) rfl ?_
        | refine mm_max rfl rfl ?_)
      exact fin_r rfl rfl
    · rw [show aheadC 5 1 a b = cmpI (b.s1 * one1 a.n) (a.s1 * one1 b.n) by simp [aheadC, sel]]
      repeat' (first
        | refine call4 rfl rfl rfl rfl d9 ?_
        | refine w_seq ?_
        | refine w_ops ?_
        | refine w_opsD0 rfl ?_
        | refine st_nil ?_
        | refine th_n ?_
        | refine th_r ?_
        | refine bk_r ?_
        | refine w_block ?_
        | refine w_skip ?_
        | refine w_ret ?_
        | refine w_true rfl ?_
        | refine w_false rfl ?_
        | refine g_yes rfl ?_
        | refine mv_c rfl ?_
        | refine pick_f rfl rfl ?_
        | refine lss_f rfl rfl (by omega) ?_
        | refine geq_f rfl rfl (by omega) ?_
        | refine eql_t rfl rfl (by omega) ?_
        | refine eql_f rfl rfl (by omega) ?_
        | refine box_ rfl rfl rfl (fun u => ?_)
        | refine load_ptr rfl (by decide) rfl (Nat.le_of_ble_eq_true rfl) rfl ?_
        | refine fad_ptr rfl rfl rfl ?_
        | refine iaA_ptr rfl rfl rfl (by omega) rfl ?_
        | refine mm_max rfl rfl ?_)
      exact fin_r rfl rfl
  · have e : aheadC f i a b = 0 := by
      unfold aheadC
      rw [if_neg (by omega)]
      split
      · rfl
      · rw [if_neg (by omega), if_neg (by omega), if_neg (by omega), if_neg (by omega)]
    rw [e]
    rcases hi with (hi | hi) | rfl | rfl
    all_goals
      repeat' (first
        | refine w_seq ?_
        | refine w_ops ?_
        | refine st_nil ?_
        | refine th_n ?_
        | refine th_r ?_
        | refine bk_n ?_
        | refine w_block ?_
        | refine w_skip ?_
        | refine w_ret ?_
        | refine w_true rfl ?_
        | refine w_false rfl ?_
        | refine g_yes rfl ?_
        | refine g_no rfl ?_
        | refine mv_c rfl ?_
        | refine pick_t rfl rfl ?_
        | refine pick_f rfl rfl ?_
        | refine lss_t rfl rfl (by omega) ?_
        | refine lss_f rfl rfl (by omega) ?_
        | refine geq_t rfl rfl (by omega) ?_
        | refine geq_f rfl rfl (by omega) ?_
        | refine eql_f rfl rfl (by omega) ?_
        | refine box_ rfl rfl rfl (fun u => ?_))
    all_goals exact fin_r rfl rfl
theorem C_rAhead (f i : Int) (a b : LineS) (ha : inL a) (hb : inL b) : PCallG Try.prog 56 [.c (.int .i64 f), .c (.int .i64 i), .c (encLine a), .c (encLine b)] (.c (.int .i64 (aheadC f i a b))) [] := by
  obtain ⟨a1, a2, a3, a4, a5, a6, a7⟩ := ha
  obtain ⟨b1, b2, b3, b4, b5, b6, b7⟩ := hb
  have o1 := one1_in a1
  have o2 := one1_in b1
  refine pcallF Try.func56 c56 rfl ?_
  have q1 := C_rOf1 b.n b1
  have q2 := C_rOf1 b.s0 b2
  have q3 := C_rOf1 b.s1 b3
  have q4 := C_rOf1 b.lo0 b4
  have q5 := C_rOf1 b.lo1 b5
  have q6 := C_rOf1 b.hi0 b6
  have q7 := C_rOf1 b.hi1 b7
  have r1 := C_rOf1 a.n a1
  have r2 := C_rOf1 a.s0 a2
  have r3 := C_rOf1 a.s1 a3
  have r4 := C_rOf1 a.lo0 a4
  have r5 := C_rOf1 a.lo1 a5
  have r6 := C_rOf1 a.hi0 a6
  have r7 := C_rOf1 a.hi1 a7
  have d1 := C_Order b.n a.n
  have d2 := C_Order b.s0 a.s0
  have d3 := C_Order b.s1 a.s1
  have d4 := C_Order b.lo0 a.lo0
  have d5 := C_Order b.lo1 a.lo1
  have d6 := C_Order b.hi0 a.hi0
  have d7 := C_Order b.hi1 a.hi1
  have t8 := C_rTimes b.s0 (one1 a.n) b2 o1
  have u8 := C_rTimes a.s0 (one1 b.n) a2 o2
  have t9 := C_rTimes b.s1 (one1 a.n) b3 o1
  have u9 := C_rTimes a.s1 (one1 b.n) a3 o2
  have d8 := C_Order (b.s0 * one1 a.n) (a.s0 * one1 b.n)
  have d9 := C_Order (b.s1 * one1 a.n) (a.s1 * one1 b.n)
  unfold one1 at d8 d9 t8 u8 t9 u9
  have hf : f = 1 ∨ f = 2 ∨ f = 3 ∨ f = 4 ∨ f = 5 ∨ (f < 1 ∨ 5 < f) := by omega
  have hi : (i < 0 ∨ 2 ≤ i) ∨ i = 0 ∨ i = 1 := by omega
  unfold p56 r56_0 r56_1 r56_2 r56_3 r56_4 r56_5 r56_6 r56_7 r56_8 r56_9 r56_10 r56_11 r56_12 r56_13 r56_14
  rcases hf with rfl | rfl | rfl | rfl | rfl | hf
  · rw [show aheadC 1 i a b = cmpI b.n a.n by simp [aheadC]]
    repeat' (first
      | refine call1 rfl q1 ?_
      | refine call1 rfl r1 ?_
      | refine call2 rfl rfl d1 ?_
      | refine w_seq ?_
      | refine w_ops ?_
      | refine w_opsD0 rfl ?_
      | refine st_nil ?_
      | refine th_n ?_
      | refine th_r ?_
      | refine w_ret ?_
      | refine w_true rfl ?_
      | refine mv_c rfl ?_
      | refine eql_t rfl rfl (by omega) ?_
      | refine box_ rfl rfl rfl (fun u => ?_)
      | refine load_ptr rfl (by decide) rfl (Nat.le_of_ble_eq_true rfl) rfl ?_
      | refine fad_ptr rfl rfl rfl ?_)
    exact fin_r rfl rfl
  · rcases hi with hi | rfl | rfl
    · rw [show aheadC 2 i a b = 0 by simp [aheadC, hi]]
      rcases hi with hi | hi
      all_goals
        repeat' (first
          | refine w_seq ?_
          | refine w_ops ?_
          | refine st_nil ?_
          | refine th_n ?_
          | refine th_r ?_
          | refine w_skip ?_
          | refine w_ret ?_
          | refine w_true rfl ?_
          | refine w_false rfl ?_
          | refine g_yes rfl ?_
          | refine g_no rfl ?_
          | refine mv_c rfl ?_
          | refine pick_t rfl rfl ?_
          | refine pick_f rfl rfl ?_
          | refine lss_t rfl rfl (by omega) ?_
          | refine lss_f rfl rfl (by omega) ?_
          | refine geq_t rfl rfl (by omega) ?_
          | refine eql_f rfl rfl (by omega) ?_
          | refine box_ rfl rfl rfl (fun u => ?_))
      all_goals exact fin_r rfl rfl
    · rw [show aheadC 2 0 a b = cmpI b.s0 a.s0 by simp [aheadC, sel]]
      repeat' (first
        | refine call1 rfl q2 ?_
        | refine call1 rfl r2 ?_
        | refine call2 rfl rfl d2 ?_
        | refine w_seq ?_
        | refine w_ops ?_
        | refine w_opsD0 rfl ?_
        | refine st_nil ?_
        | refine th_n ?_
        | refine th_r ?_
        | refine bk_r ?_
        | refine w_block ?_
        | refine w_skip ?_
        | refine w_ret ?_
        | refine w_true rfl ?_
        | refine w_false rfl ?_
        | refine g_yes rfl ?_
        | refine mv_c rfl ?_
        | refine pick_f rfl rfl ?_
        | refine lss_f rfl rfl (by omega) ?_
        | refine geq_f rfl rfl (by omega) ?_
        | refine eql_t rfl rfl (by omega) ?_
        | refine eql_f rfl rfl (by omega) ?_
        | refine box_ rfl rfl rfl (fun u => ?_)
        | refine load_ptr rfl (by decide) rfl (Nat.le_of_ble_eq_true rfl) rfl ?_
        | refine fad_ptr rfl rfl rfl ?_
        | refine iaA_ptr rfl rfl rfl (by omega) rfl ?_)
      exact fin_r rfl rfl
    · rw [show aheadC 2 1 a b = cmpI b.s1 a.s1 by simp [aheadC, sel]]
      repeat' (first
        | refine call1 rfl q3 ?_
        | refine call1 rfl r3 ?_
        | refine call2 rfl rfl d3 ?_
        | refine w_seq ?_
        | refine w_ops ?_
        | refine w_opsD0 rfl ?_
        | refine st_nil ?_
        | refine th_n ?_
        | refine th_r ?_
        | refine bk_r ?_
        | refine w_block ?_
        | refine w_skip ?_
        | refine w_ret ?_
        | refine w_true rfl ?_
        | refine w_false rfl ?_
        | refine g_yes rfl ?_
        | refine mv_c rfl ?_
        | refine pick_f rfl rfl ?_
        | refine lss_f rfl rfl (by omega) ?_
        | refine geq_f rfl rfl (by omega) ?_
        | refine eql_t rfl rfl (by omega) ?_
        | refine eql_f rfl rfl (by omega) ?_
        | refine box_ rfl rfl rfl (fun u => ?_)
        | refine load_ptr rfl (by decide) rfl (Nat.le_of_ble_eq_true rfl) rfl ?_
        | refine fad_ptr rfl rfl rfl ?_
        | refine iaA_ptr rfl rfl rfl (by omega) rfl ?_)
      exact fin_r rfl rfl
  · rcases hi with hi | rfl | rfl
    · rw [show aheadC 3 i a b = 0 by simp [aheadC, hi]]
      rcases hi with hi | hi
      all_goals
        repeat' (first
          | refine w_seq ?_
          | refine w_ops ?_
          | refine st_nil ?_
          | refine th_n ?_
          | refine th_r ?_
          | refine w_skip ?_
          | refine w_ret ?_
          | refine w_true rfl ?_
          | refine w_false rfl ?_
          | refine g_yes rfl ?_
          | refine g_no rfl ?_
          | refine mv_c rfl ?_
          | refine pick_t rfl rfl ?_
          | refine pick_f rfl rfl ?_
          | refine lss_t rfl rfl (by omega) ?_
          | refine lss_f rfl rfl (by omega) ?_
          | refine geq_t rfl rfl (by omega) ?_
          | refine eql_f rfl rfl (by omega) ?_
          | refine box_ rfl rfl rfl (fun u => ?_))
      all_goals exact fin_r rfl rfl
    · rw [show aheadC 3 0 a b = cmpI b.lo0 a.lo0 by simp [aheadC, sel]]
      repeat' (first
        | refine call1 rfl q4 ?_
        | refine call1 rfl r4 ?_
        | refine call2 rfl rfl d4 ?_
        | refine w_seq ?_
        | refine w_ops ?_
        | refine w_opsD0 rfl ?_
        | refine st_nil ?_
        | refine th_n ?_
        | refine th_r ?_
        | refine bk_r ?_
        | refine w_block ?_
        | refine w_skip ?_
        | refine w_ret ?_
        | refine w_true rfl ?_
        | refine w_false rfl ?_
        | refine g_yes rfl ?_
        | refine mv_c rfl ?_
        | refine pick_f rfl rfl ?_
        | refine lss_f rfl rfl (by omega) ?_
        | refine geq_f rfl rfl (by omega) ?_
        | refine eql_t rfl rfl (by omega) ?_
        | refine eql_f rfl rfl (by omega) ?_
        | refine box_ rfl rfl rfl (fun u => ?_)
        | refine load_ptr rfl (by decide) rfl (Nat.le_of_ble_eq_true rfl) rfl ?_
        | refine fad_ptr rfl rfl rfl ?_
        | refine iaA_ptr rfl rfl rfl (by omega) rfl ?_)
      exact fin_r rfl rfl
    · rw [show aheadC 3 1 a b = cmpI b.lo1 a.lo1 by simp [aheadC, sel]]
      repeat' (first
        | refine call1 rfl q5 ?_
        | refine call1 rfl r5 ?_
        | refine call2 rfl rfl d5 ?_
        | refine w_seq ?_
        | refine w_ops ?_
        | refine w_opsD0 rfl ?_
        | refine st_nil ?_
        | refine th_n ?_
        | refine th_r ?_
        | refine bk_r ?_
        | refine w_block ?_
        | refine w_skip ?_
        | refine w_ret ?_
        | refine w_true rfl ?_
        | refine w_false rfl ?_
        | refine g_yes rfl ?_
        | refine mv_c rfl ?_
        | refine pick_f rfl rfl ?_
        | refine lss_f rfl rfl (by omega) ?_
        | refine geq_f rfl rfl (by omega) ?_
        | refine eql_t rfl rfl (by omega) ?_
        | refine eql_f rfl rfl (by omega) ?_
        | refine box_ rfl rfl rfl (fun u => ?_)
        | refine load_ptr rfl (by decide) rfl (Nat.le_of_ble_eq_true rfl) rfl ?_
        | refine fad_ptr rfl rfl rfl ?_
        | refine iaA_ptr rfl rfl rfl (by omega) rfl ?_)
      exact fin_r rfl rfl
  · rcases hi with hi | rfl | rfl
    · rw [show aheadC 4 i a b = 0 by simp [aheadC, hi]]
      rcases hi with hi | hi
      all_goals
        repeat' (first
          | refine w_seq ?_
          | refine w_ops ?_
          | refine st_nil ?_
          | refine th_n ?_
          | refine th_r ?_
          | refine w_skip ?_
          | refine w_ret ?_
          | refine w_true rfl ?_
          | refine w_false rfl ?_
          | refine g_yes rfl ?_
          | refine g_no rfl ?_
          | refine mv_c rfl ?_
          | refine pick_t rfl rfl ?_
          | refine pick_f rfl rfl ?_
          | refine lss_t rfl rfl (by omega) ?_
          | refine lss_f rfl rfl (by omega) ?_
          | refine geq_t rfl rfl (by omega) ?_
          | refine eql_f rfl rfl (by omega) ?_
          | refine box_ rfl rfl rfl (fun u => ?_))
      all_goals exact fin_r rfl rfl
    · rw [show aheadC 4 0 a b = cmpI b.hi0 a.hi0 by simp [aheadC, sel]]
      repeat' (first
        | refine call1 rfl q6 ?_
        | refine call1 rfl r6 ?_
        | refine call2 rfl rfl d6 ?_
        | refine w_seq ?_
        | refine w_ops ?_
        | refine w_opsD0 rfl ?_
        | refine st_nil ?_
        | refine th_n ?_
        | refine th_r ?_
        | refine bk_r ?_
        | refine w_block ?_
        | refine w_skip ?_
        | refine w_ret ?_
        | refine w_true rfl ?_
        | refine w_false rfl ?_
        | refine g_yes rfl ?_
        | refine mv_c rfl ?_
        | refine pick_f rfl rfl ?_
        | refine lss_f rfl rfl (by omega) ?_
        | refine geq_f rfl rfl (by omega) ?_
        | refine eql_t rfl rfl (by omega) ?_
        | refine eql_f rfl rfl (by omega) ?_
        | refine box_ rfl rfl rfl (fun u => ?_)
        | refine load_ptr rfl (by decide) rfl (Nat.le_of_ble_eq_true rfl) rfl ?_
        | refine fad_ptr rfl rfl rfl ?_
        | refine iaA_ptr rfl rfl rfl (by omega) rfl ?_)
      exact fin_r rfl rfl
    · rw [show aheadC 4 1 a b = cmpI b.hi1 a.hi1 by simp [aheadC, sel]]
      repeat' (first
        | refine call1 rfl q7 ?_
        | refine call1 rfl r7 ?_
        | refine call2 rfl rfl d7 ?_
        | refine w_seq ?_
        | refine w_ops ?_
        | refine w_opsD0 rfl ?_
        | refine st_nil ?_
        | refine th_n ?_
        | refine th_r ?_
        | refine bk_r ?_
        | refine w_block ?_
        | refine w_skip ?_
        | refine w_ret ?_
        | refine w_true rfl ?_
        | refine w_false rfl ?_
        | refine g_yes rfl ?_
        | refine mv_c rfl ?_
        | refine pick_f rfl rfl ?_
        | refine lss_f rfl rfl (by omega) ?_
        | refine geq_f rfl rfl (by omega) ?_
        | refine eql_t rfl rfl (by omega) ?_
        | refine eql_f rfl rfl (by omega) ?_
        | refine box_ rfl rfl rfl (fun u => ?_)
        | refine load_ptr rfl (by decide) rfl (Nat.le_of_ble_eq_true rfl) rfl ?_
        | refine fad_ptr rfl rfl rfl ?_
        | refine iaA_ptr rfl rfl rfl (by omega) rfl ?_)
      exact fin_r rfl rfl
  · rcases hi with hi | rfl | rfl
    · rw [show aheadC 5 i a b = 0 by simp [aheadC, hi]]
      rcases hi with hi | hi
      all_goals
        repeat' (first
          | refine w_seq ?_
          | refine w_ops ?_
          | refine st_nil ?_
          | refine th_n ?_
          | refine th_r ?_
          | refine w_skip ?_
          | refine w_ret ?_
          | refine w_true rfl ?_
          | refine w_false rfl ?_
          | refine g_yes rfl ?_
          | refine g_no rfl ?_
          | refine mv_c rfl ?_
          | refine pick_t rfl rfl ?_
          | refine pick_f rfl rfl ?_
          | refine lss_t rfl rfl (by omega) ?_
          | refine lss_f rfl rfl (by omega) ?_
          | refine geq_t rfl rfl (by omega) ?_
          | refine eql_f rfl rfl (by omega) ?_
          | refine box_ rfl rfl rfl (fun u => ?_))
      all_goals exact fin_r rfl rfl
    · rw [show aheadC 5 0 a b = cmpI (b.s0 * one1 a.n) (a.s0 * one1 b.n) by simp [aheadC, sel]]
      repeat' (first
        | refine call2 rfl rfl t8 ?_
        | refine call2 rfl rfl u8 ?_
        | refine call2 rfl rfl d8 ?_
        | refine w_seq ?_
        | refine w_ops ?_
        | refine w_opsD0 rfl ?_
        | refine st_nil ?_
        | refine th_n ?_
        | refine th_r ?_
        | refine bk_r ?_
        | refine w_block ?_
        | refine w_skip ?_
        | refine w_ret ?_
        | refine w_true rfl ?_
        | refine w_false rfl ?_
        | refine g_yes rfl ?_
        | refine mv_c rfl ?_
        | refine pick_f rfl rfl ?_
        | refine lss_f rfl rfl (by omega) ?_
        | refine geq_f rfl rfl (by omega) ?_
        | refine eql_t rfl rfl (by omega) ?_
        | refine eql_f rfl rfl (by omega) ?_
        | refine box_ rfl rfl rfl (fun u => ?_)
        | refine load_ptr rfl (by decide) rfl (Nat.le_of_ble_eq_true rfl) rfl ?_
        | refine fad_ptr rfl rfl rfl ?_
        | refine iaA_ptr rfl rfl rfl (by omega) rfl ?_
        | refine mm_max rfl rfl ?_)
      exact fin_r rfl rfl
    · rw [show aheadC 5 1 a b = cmpI (b.s1 * one1 a.n) (a.s1 * one1 b.n) by simp [aheadC, sel]]
      repeat' (first
        | refine call2 rfl rfl t9 ?_
        | refine call2 rfl rfl u9 ?_
        | refine call2 rfl rfl d9 ?_
        | refine w_seq ?_
        | refine w_ops ?_
        | refine w_opsD0 rfl ?_
        | refine st_nil ?_
        | refine th_n ?_
        | refine th_r ?_
        | refine bk_r ?_
        | refine w_block ?_
        | refine w_skip ?_
        | refine w_ret ?_
        | refine w_true rfl ?_
        | refine w_false rfl ?_
        | refine g_yes rfl ?_
        | refine mv_c rfl ?_
        | refine pick_f rfl rfl ?_
        | refine lss_f rfl rfl (by omega) ?_
        | refine geq_f rfl rfl (by omega) ?_
        | refine eql_t rfl rfl (by omega) ?_
        | refine eql_f rfl rfl (by omega) ?_
        | refine box_ rfl rfl rfl (fun u => ?_)
        | refine load_ptr rfl (by decide) rfl (Nat.le_of_ble_eq_true rfl) rfl ?_
        | refine fad_ptr rfl rfl rfl ?_
        | refine iaA_ptr rfl rfl rfl (by omega) rfl ?_
        | refine mm_max rfl rfl ?_)
      exact fin_r rfl rfl
  · have e : aheadC f i a b = 0 := by
      unfold aheadC
      rw [if_neg (by omega)]
      split
      · rfl
      · rw [if_neg (by omega), if_neg (by omega), if_neg (by omega), if_neg (by omega)]
    rw [e]
    rcases hi with (hi | hi) | rfl | rfl
    all_goals
      repeat' (first
        | refine w_seq ?_
        | refine w_ops ?_
        | refine st_nil ?_
        | refine th_n ?_
        | refine th_r ?_
        | refine bk_n ?_
        | refine w_block ?_
        | refine w_skip ?_
        | refine w_ret ?_
        | refine w_true rfl ?_
        | refine w_false rfl ?_
        | refine g_yes rfl ?_
        | refine g_no rfl ?_
        | refine mv_c rfl ?_
        | refine pick_t rfl rfl ?_
        | refine pick_f rfl rfl ?_
        | refine lss_t rfl rfl (by omega) ?_
        | refine lss_f rfl rfl (by omega) ?_
        | refine geq_t rfl rfl (by omega) ?_
        | refine geq_f rfl rfl (by omega) ?_
        | refine eql_f rfl rfl (by omega) ?_
        | refine box_ rfl rfl rfl (fun u => ?_))
    all_goals exact fin_r rfl rfl
end Go.Proofs.Ytcmejdkjfekoeaa
namespace Go.Proofs.Ytcmejdkjfekoeaa
open Go.Pl Go.Bag
set_option maxHeartbeats 16000000
def inR (r : RowS) : Prop := in64 r.m0 ∧ in64 r.m1
def mv (i : Int) (r : RowS) : Int := if i = 0 then r.m0 else r.m1
theorem get_row {l : List RowS} {i : Nat} {x : RowS} {rest : List RowS} (hd : l.drop i = x :: rest) : (l.map encRow)[i]? = some (encRow x) := by
  have : l[i]? = some x := by have := congrArg List.head? hd; simpa [List.head?_drop] using this
  simp [this]
theorem drop_len {α : Type} {l : List α} {i : Nat} {a : α} {rest : List α} (hd : l.drop i = a :: rest) : i < l.length := by
  have := congrArg List.length hd; simp at this; omega
theorem drop_next {α : Type} {l : List α} {i : Nat} {a : α} {rest : List α} (hd : l.drop i = a :: rest) : l.drop (i + 1) = rest := by
  have := congrArg List.tail hd; simpa [List.tail_drop] using this
theorem drop_end {α : Type} {l : List α} {i : Nat} (hd : l.drop i = []) (hi : i ≤ l.length) : i = l.length := by
  have := List.drop_eq_nil_iff.mp hd; omega
/-- the values of a measure, one by one -/
theorem vals_loop {C : CallP} {K : Ex → PS → Prop} (l : List RowS) (hlen : l.length ≤ 1000) (m : Int) (hm : m = 0 ∨ m = 1) (v0 v1 v25 v26 v6 v4 : PV) (x6 x4 : Box) : ∀ (rest : List RowS) (k : Nat) (out : List Int) (s : PS), l.drop k = rest → k ≤ l.length → out.length ≤ k →
    s.t 29 = .c (encRows l) → s.t 30 = .c (.int .i64 l.length) → s.t 31 = .c (.int .i64 k) → s.t 7 = .c (.int .i64 m) → s.t 8 = .osl 8 (s.bx 8).ver 0 (out.map encI).length → s.bx 8 = ⟨(s.bx 8).ver, .sl 1 (out.map encI)⟩ →
    s.t 0 = v0 → s.t 1 = v1 → s.t 25 = v25 → s.t 26 = v26 → s.t 6 = v6 → s.t 4 = v4 → s.bx 6 = x6 → s.bx 4 = x4 →
    (∀ s' v, s'.t 7 = .c (.int .i64 m) → s'.t 8 = .osl 8 v 0 ((out ++ rest.map (mv m)).map encI).length → s'.bx 8 = ⟨v, .sl 1 ((out ++ rest.map (mv m)).map encI)⟩ → s'.t 0 = v0 → s'.t 1 = v1 → s'.t 25 = v25 → s'.t 26 = v26 → s'.t 6 = v6 → s'.t 4 = v4 → s'.bx 6 = x6 → s'.bx 4 = x4 → K (.x 2) s') → wP C (.loop b45_1) s K := by
  intro rest
  induction rest with
  | nil =>
    intro k out s hd hk ho t29 t30 t31 t7 t8 b8 t0 t1 t25 t26 t6 t4 b6 b4 hx
    refine w_loop ?_
    have hk' := drop_end hd hk
    subst hk'
    generalize (s.bx 8).ver = v8 at t8 b8
    rw [← put_same t29, ← put_same t30, ← put_same t31, ← put_same t7, ← put_same t8, ← put_same t0, ← put_same t1, ← put_same t25, ← put_same t26, ← put_same t6, ← put_same t4, ← box_same b8, ← box_same b6, ← box_same b4]
    unfold b45_1 r45_9 r45_10 r45_11 r45_12
    repeat' (first
      | refine w_seq ?_
      | refine w_ops ?_
      | refine st_nil ?_
      | refine th_n ?_
      | refine th_x ?_
      | refine w_exit ?_
      | refine w_false rfl ?_
      | refine lss_f rfl rfl (by omega) ?_)
    exact hx _ _ rfl (by simp only [List.map_nil, List.append_nil]; rfl) (by simp only [List.map_nil, List.append_nil]; rfl) rfl rfl rfl rfl rfl rfl rfl rfl
  | cons r rest ih =>
    intro k out s hd hk ho t29 t30 t31 t7 t8 b8 t0 t1 t25 t26 t6 t4 b6 b4 hx
    refine w_loop ?_
    have he := get_row hd
    have hkl := drop_len hd
    have hn := drop_next hd
    have z1 : ∀ q : List CV, (out.map encI).length + [q].length ≤ maxGrow := fun q => by simp [maxGrow]; omega
    have e : ∀ a : Int, out.map encI ++ [[CV.int .i64 a]] = (out ++ [a]).map encI := fun a => by simp [encI]
    generalize (s.bx 8).ver = v8 at t8 b8
    rw [← put_same t29, ← put_same t30, ← put_same t31, ← put_same t7, ← put_same t8, ← put_same t0, ← put_same t1, ← put_same t25, ← put_same t26, ← put_same t6, ← put_same t4, ← box_same b8, ← box_same b6, ← box_same b4]
    unfold b45_1 r45_9 r45_10 r45_11 r45_12
    rcases hm with rfl | rfl
    · rw [show out ++ (r :: rest).map (mv 0) = (out ++ [r.m0]) ++ rest.map (mv 0) by simp [mv]] at hx
      repeat' (first
        | refine app_own rfl rfl rfl rfl (z1 _) (by intro e he; cases List.mem_singleton.mp he; rfl) (e _) rfl (fun _ _ => ?_)
        | refine w_seq ?_
        | refine w_ops ?_
        | refine st_nil ?_
        | refine th_n ?_
        | refine bk_n ?_
        | refine w_block ?_
        | refine w_skip ?_
        | refine w_true rfl ?_
        | refine mv_c rfl ?_
        | refine mv_osl rfl ?_
        | refine lss_t rfl rfl (by omega) ?_
        | refine add_in rfl rfl (by omega) ?_
        | refine alloc_ (fun u => ?_)
        | refine bsl_ rfl rfl ?_
        | refine load_rp rfl (Nat.le_of_ble_eq_true rfl) rfl ?_
        | refine load_ptr rfl (by decide) rfl (Nat.le_of_ble_eq_true rfl) rfl ?_
        | refine store_ptr rfl rfl (by decide) rfl rfl (Nat.le_of_ble_eq_true rfl) rfl ?_
        | refine fad_ptr rfl rfl rfl ?_
        | refine iaA_ptr rfl rfl rfl (by omega) rfl ?_
        | refine iaS_c rfl rfl (by omega) (by assumption) rfl ?_
        | refine w_rn rfl (by decide) rfl rfl (fun _ _ => ?_))
      exact ih (k + 1) (out ++ [r.m0]) _ hn (by omega) (by simp; omega) (by rfl) (by rfl) (by rfl) (by rfl) (by rfl) (by rfl) (by rfl) (by rfl) (by rfl) (by rfl) (by rfl) (by rfl) (by rfl) (by rfl) hx
    · rw [show out ++ (r :: rest).map (mv 1) = (out ++ [r.m1]) ++ rest.map (mv 1) by simp [mv]] at hx
      repeat' (first
        | refine app_own rfl rfl rfl rfl (z1 _) (by intro e he; cases List.mem_singleton.mp he; rfl) (e _) rfl (fun _ _ => ?_)
        | refine w_seq ?_
        | refine w_ops ?_
        | refine st_nil ?_
        | refine th_n ?_
        | refine bk_n ?_
        | refine w_block ?_
        | refine w_skip ?_
        | refine w_true rfl ?_
        | refine mv_c rfl ?_
        | refine mv_osl rfl ?_
        | refine lss_t rfl rfl (by omega) ?_
        | refine add_in rfl rfl (by omega) ?_
        | refine alloc_ (fun u => ?_)
        | refine bsl_ rfl rfl ?_
        | refine load_rp rfl (Nat.le_of_ble_eq_true rfl) rfl ?_
        | refine load_ptr rfl (by decide) rfl (Nat.le_of_ble_eq_true rfl) rfl ?_
        | refine store_ptr rfl rfl (by decide) rfl rfl (Nat.le_of_ble_eq_true rfl) rfl ?_
        | refine fad_ptr rfl rfl rfl ?_
        | refine iaA_ptr rfl rfl rfl (by omega) rfl ?_
        | refine iaS_c rfl rfl (by omega) (by assumption) rfl ?_
        | refine w_rn rfl (by decide) rfl rfl (fun _ _ => ?_))
      exact ih (k + 1) (out ++ [r.m1]) _ hn (by omega) (by simp; omega) (by rfl) (by rfl) (by rfl) (by rfl) (by rfl) (by rfl) (by rfl) (by rfl) (by rfl) (by rfl) (by rfl) (by rfl) (by rfl) (by rfl) hx
theorem mv0 : mv 0 = (·.m0) := by funext r; simp [mv]
theorem mv1 : mv 1 = (·.m1) := by funext r; simp [mv]
/-- what the sum of a bag of values is -/
theorem sum_vals (l : List Int) (hl : l.length ≤ 1000) : sumB (ofL l) = if I64 (sumI l) then (sumI l, true) else (0, false) := by
  have hg : good (ofL l) = true := good_ofL (by omega)
  simp only [sumB, hg, wsum_ofL, true_and]
theorem C_cOf (m : Int) (l : List RowS) (hlen : l.length ≤ 1000) (hr : ∀ r ∈ l, inR r) : PCallG Try.prog 45 [.c (.int .i64 m), .c (encRows l)] (.c (.tup [encCell (ofC m l).1, .bool (ofC m l).2])) [] := by
  refine pcallF Try.func45 c45 rfl ?_
  have c1 := C_measures m
  have l0 : (l.map (·.m0)).length ≤ 1000 := by simp; omega
  have l1 : (l.map (·.m1)).length ≤ 1000 := by simp; omega
  have r0 : ∀ a ∈ l.map (·.m0), I64 a := fun a ha => by obtain ⟨r, hr', rfl⟩ := List.mem_map.mp ha; exact (hr r hr').1
  have r1 : ∀ a ∈ l.map (·.m1), I64 a := fun a ha => by obtain ⟨r, hr', rfl⟩ := List.mem_map.mp ha; exact (hr r hr').2
  have c2 := C_Of (l.map (·.m0)) (by omega)
  have c3 := C_Of (l.map (·.m1)) (by omega)
  have k0 := (ofL_facts (l.map (·.m0))).2.2.2.2
  have k1 := (ofL_facts (l.map (·.m1))).2.2.2.2
  have c4 := C_Sum (ofL (l.map (·.m0))) (by omega) (ranged_ofL r0 (by omega))
  have c5 := C_Sum (ofL (l.map (·.m1))) (by omega) (ranged_ofL r1 (by omega))
  rw [sum_vals _ l0] at c4
  rw [sum_vals _ l1] at c5
  unfold p45 r45_0 r45_1 r45_2 r45_3 r45_4 r45_19
  by_cases hm : 1 ≤ m ∧ m ≤ 2
  · rw [decide_eq_true hm] at c1
    cases l with
    | nil =>
      rw [show ofC m [] = (zeroC, false) by simp [ofC]]
      repeat' (first
        | refine call1 rfl c1 ?_
        | refine len_sl (es := []) rfl rfl ?_
        | refine w_seq ?_
        | refine w_ops ?_
        | refine st_nil ?_
        | refine th_n ?_
        | refine th_r ?_
        | refine w_ret ?_
        | refine w_true rfl ?_
        | refine g_yes rfl ?_
        | refine mv_c rfl ?_
        | refine pick_f rfl rfl ?_
        | refine eqd_ rfl rfl ?_
        | refine not_ rfl ?_
        | refine alloc_ (fun u => ?_)
        | refine build_ rfl rfl ?_
        | refine store_ptr rfl rfl (by decide) rfl rfl (Nat.le_of_ble_eq_true rfl) rfl ?_)
      exact fin_r (rv_cell rfl rfl rfl rfl (rv_t rfl rv_nil)) rfl
    | cons r0' l' =>
      generalize hL : r0' :: l' = l at *
      have hne : l ≠ [] := by rw [← hL]; simp
      have hpos : 0 < l.length := by rw [← hL]; simp
      have lenE : (l.map encRow).length = l.length := List.length_map _
      by_cases f0 : I64 (sumI (l.map (·.m0)))
      · rw [if_pos f0] at c4
        by_cases hm2 : m = 2
        · by_cases f1 : I64 (sumI (l.map (·.m1)))
          · rw [if_pos f1] at c5
            rw [show ofC m l = (⟨l.length, sumI (l.map (·.m0)), sumI (l.map (·.m1)), ofL (l.map (·.m0)), ofL (l.map (·.m1))⟩, true) by
              unfold ofC; rw [if_pos ⟨hm, hne, f0, fun _ => f1⟩]; simp [hm2]]
            repeat' (first
              | refine call1 rfl c1 ?_
              | refine len_sl rfl lenE ?_
              | refine w_seq ?_
              | refine w_ops ?_
              | refine st_nil ?_
              | refine th_n ?_
              | refine w_block ?_
              | refine w_skip ?_
              | refine w_false rfl ?_
              | refine g_yes rfl ?_
              | refine mv_c rfl ?_
              | refine pick_f rfl rfl ?_
              | refine eql_f rfl rfl (by omega) ?_
              | refine not_ rfl ?_
              | refine alloc_ (fun u => ?_)
              | refine build_ rfl rfl ?_
              | refine store_ptr rfl rfl (by decide) rfl rfl (Nat.le_of_ble_eq_true rfl) rfl ?_)
            refine w_loop ?_
            unfold b45_0 r45_5 r45_6 r45_7 r45_8 r45_13 r45_14 r45_15 r45_16 r45_17 r45_18
            repeat' (first
              | refine len_sl rfl lenE ?_
              | refine w_seq ?_
              | refine w_ops ?_
              | refine st_nil ?_
              | refine th_n ?_
              | refine w_block ?_
              | refine w_skip ?_
              | refine w_true rfl ?_
              | refine mv_c rfl ?_
              | refine lss_t rfl rfl (by omega) ?_
              | refine own0_ (fun u => ?_))
            refine vals_loop l hlen 0 (.inl rfl) _ _ _ _ _ _ _ _ l 0 [] _ rfl (by omega) (by simp) (by rfl) (by rfl) (by rfl) (by rfl) (by rfl) (by rfl) (by rfl) (by rfl) (by rfl) (by rfl) (by rfl) (by rfl) (by rfl) (by rfl) ?_
            intro s' v t7 t8 b8 t0 t1 t25 t26 t6 t4 b6 b4
            rw [List.nil_append, mv0] at t8 b8
            rw [← put_same t7, ← put_same t8, ← put_same t0, ← put_same t1, ← put_same t25, ← put_same t26, ← put_same t6, ← put_same t4, ← box_same b8, ← box_same b6, ← box_same b4]
            repeat' (first
              | refine call1 rfl c2 ?_
              | refine call1 rfl c4 ?_
              | refine w_seq ?_
              | refine w_ops ?_
              | refine st_nil ?_
              | refine th_n ?_
              | refine bk_n ?_
              | refine bk_x ?_
              | refine w_skip ?_
              | refine w_false rfl ?_
              | refine mv_c rfl ?_
              | refine not_ rfl ?_
              | refine add_in rfl rfl (by omega) ?_
              | refine load_ptr rfl (by decide) rfl (Nat.le_of_ble_eq_true rfl) rfl ?_
              | refine store_ptr rfl rfl (by decide) rfl rfl (Nat.le_of_ble_eq_true rfl) rfl ?_
              | refine fad_ptr rfl rfl rfl ?_
              | refine iaA_ptr rfl rfl rfl (by omega) rfl ?_
              | refine ext_ rfl rfl ?_
              | refine w_fz_osl rfl rfl rfl (fun u => ?_))
            refine w_loop ?_
            repeat' (first
              | refine len_sl rfl lenE ?_
              | refine w_seq ?_
              | refine w_ops ?_
              | refine st_nil ?_
              | refine th_n ?_
              | refine w_block ?_
              | refine w_skip ?_
              | refine w_true rfl ?_
              | refine mv_c rfl ?_
              | refine lss_t rfl rfl (by omega) ?_
              | refine own0_ (fun u => ?_))
            refine vals_loop l hlen 1 (.inr rfl) _ _ _ _ _ _ _ _ l 0 [] _ rfl (by omega) (by simp) (by rfl) (by rfl) (by rfl) (by rfl) (by rfl) (by rfl) (by rfl) (by rfl) (by rfl) (by rfl) (by rfl) (by rfl) (by rfl) (by rfl) ?_
            intro s' v t7 t8 b8 t0 t1 t25 t26 t6 t4 b6 b4
            rw [List.nil_append, mv1] at t8 b8
            rw [← put_same t7, ← put_same t8, ← put_same t0, ← put_same t1, ← put_same t25, ← put_same t26, ← put_same t6, ← put_same t4, ← box_same b8, ← box_same b6, ← box_same b4]
            repeat' (first
              | refine call1 rfl c3 ?_
              | refine call1 rfl c5 ?_
              | refine w_seq ?_
              | refine w_ops ?_
              | refine st_nil ?_
              | refine th_n ?_
              | refine bk_n ?_
              | refine bk_x ?_
              | refine w_skip ?_
              | refine w_false rfl ?_
              | refine mv_c rfl ?_
              | refine not_ rfl ?_
              | refine add_in rfl rfl (by omega) ?_
              | refine load_ptr rfl (by decide) rfl (Nat.le_of_ble_eq_true rfl) rfl ?_
              | refine store_ptr rfl rfl (by decide) rfl rfl (Nat.le_of_ble_eq_true rfl) rfl ?_
              | refine fad_ptr rfl rfl rfl ?_
              | refine iaA_ptr rfl rfl rfl (by omega) rfl ?_
              | refine ext_ rfl rfl ?_
              | refine w_fz_osl rfl rfl rfl (fun u => ?_))
            refine w_loop ?_
            repeat' (first
              | refine w_seq ?_
              | refine w_ops ?_
              | refine st_nil ?_
              | refine th_n ?_
              | refine th_x ?_
              | refine bk_x ?_
              | refine w_exit ?_
              | refine w_ret ?_
              | refine w_false rfl ?_
              | refine mv_c rfl ?_
              | refine lss_f rfl rfl (by omega) ?_
              | refine load_ptr rfl (by decide) rfl (Nat.le_of_ble_eq_true rfl) rfl ?_
              | refine store_ptr rfl rfl (by decide) rfl rfl (Nat.le_of_ble_eq_true rfl) rfl ?_)
            exact fin_r (rv_cell rfl rfl rfl rfl (rv_t rfl rv_nil)) rfl
          · rw [if_neg f1] at c5
            rw [show ofC m l = (zeroC, false) by unfold ofC; rw [if_neg (fun h => f1 (h.2.2.2 hm2))]]
            repeat' (first
              | refine call1 rfl c1 ?_
              | refine len_sl rfl lenE ?_
              | refine w_seq ?_
              | refine w_ops ?_
              | refine st_nil ?_
              | refine th_n ?_
              | refine w_block ?_
              | refine w_skip ?_
              | refine w_false rfl ?_
              | refine g_yes rfl ?_
              | refine mv_c rfl ?_
              | refine pick_f rfl rfl ?_
              | refine eql_f rfl rfl (by omega) ?_
              | refine not_ rfl ?_
              | refine alloc_ (fun u => ?_)
              | refine build_ rfl rfl ?_
              | refine store_ptr rfl rfl (by decide) rfl rfl (Nat.le_of_ble_eq_true rfl) rfl ?_)
            refine w_loop ?_
            unfold b45_0 r45_5 r45_6 r45_7 r45_8 r45_13 r45_14 r45_15 r45_16 r45_17 r45_18
            repeat' (first
              | refine len_sl rfl lenE ?_
              | refine w_seq ?_
              | refine w_ops ?_
              | refine st_nil ?_
              | refine th_n ?_
              | refine w_block ?_
              | refine w_skip ?_
              | refine w_true rfl ?_
              | refine mv_c rfl ?_
              | refine lss_t rfl rfl (by omega) ?_
              | refine own0_ (fun u => ?_))
            refine vals_loop l hlen 0 (.inl rfl) _ _ _ _ _ _ _ _ l 0 [] _ rfl (by omega) (by simp) (by rfl) (by rfl) (by rfl) (by rfl) (by rfl) (by rfl) (by rfl) (by rfl) (by rfl) (by rfl) (by rfl) (by rfl) (by rfl) (by rfl) ?_
            intro s' v t7 t8 b8 t0 t1 t25 t26 t6 t4 b6 b4
            rw [List.nil_append, mv0] at t8 b8
            rw [← put_same t7, ← put_same t8, ← put_same t0, ← put_same t1, ← put_same t25, ← put_same t26, ← put_same t6, ← put_same t4, ← box_same b8, ← box_same b6, ← box_same b4]
            repeat' (first
              | refine call1 rfl c2 ?_
              | refine call1 rfl c4 ?_
              | refine w_seq ?_
              | refine w_ops ?_
              | refine st_nil ?_
              | refine th_n ?_
              | refine bk_n ?_
              | refine bk_x ?_
              | refine w_skip ?_
              | refine w_false rfl ?_
              | refine mv_c rfl ?_
              | refine not_ rfl ?_
              | refine add_in rfl rfl (by omega) ?_
              | refine load_ptr rfl (by decide) rfl (Nat.le_of_ble_eq_true rfl) rfl ?_
              | refine store_ptr rfl rfl (by decide) rfl rfl (Nat.le_of_ble_eq_true rfl) rfl ?_
              | refine fad_ptr rfl rfl rfl ?_
              | refine iaA_ptr rfl rfl rfl (by omega) rfl ?_
              | refine ext_ rfl rfl ?_
              | refine w_fz_osl rfl rfl rfl (fun u => ?_))
            refine w_loop ?_
            repeat' (first
              | refine len_sl rfl lenE ?_
              | refine w_seq ?_
              | refine w_ops ?_
              | refine st_nil ?_
              | refine th_n ?_
              | refine w_block ?_
              | refine w_skip ?_
              | refine w_true rfl ?_
              | refine mv_c rfl ?_
              | refine lss_t rfl rfl (by omega) ?_
              | refine own0_ (fun u => ?_))
            refine vals_loop l hlen 1 (.inr rfl) _ _ _ _ _ _ _ _ l 0 [] _ rfl (by omega) (by simp) (by rfl) (by rfl) (by rfl) (by rfl) (by rfl) (by rfl) (by rfl) (by rfl) (by rfl) (by rfl) (by rfl) (by rfl) (by rfl) (by rfl) ?_
            intro s' v t7 t8 b8 t0 t1 t25 t26 t6 t4 b6 b4
            rw [List.nil_append, mv1] at t8 b8
            rw [← put_same t7, ← put_same t8, ← put_same t0, ← put_same t1, ← put_same t25, ← put_same t26, ← put_same t6, ← put_same t4, ← box_same b8, ← box_same b6, ← box_same b4]
            repeat' (first
              | refine call1 rfl c3 ?_
              | refine call1 rfl c5 ?_
              | refine w_seq ?_
              | refine w_ops ?_
              | refine st_nil ?_
              | refine th_n ?_
              | refine th_r ?_
              | refine bk_r ?_
              | refine bk_x ?_
              | refine w_ret ?_
              | refine w_true rfl ?_
              | refine mv_c rfl ?_
              | refine not_ rfl ?_
              | refine build_ rfl rfl ?_
              | refine load_ptr rfl (by decide) rfl (Nat.le_of_ble_eq_true rfl) rfl ?_
              | refine store_ptr rfl rfl (by decide) rfl rfl (Nat.le_of_ble_eq_true rfl) rfl ?_
              | refine fad_ptr rfl rfl rfl ?_
              | refine iaA_ptr rfl rfl rfl (by omega) rfl ?_
              | refine ext_ rfl rfl ?_
              | refine w_fz_osl rfl rfl rfl (fun u => ?_))
            exact fin_r (rv_cell rfl rfl rfl rfl (rv_t rfl rv_nil)) rfl
        · rw [show ofC m l = (⟨l.length, sumI (l.map (·.m0)), 0, ofL (l.map (·.m0)), []⟩, true) by
            unfold ofC; rw [if_pos ⟨hm, hne, f0, fun h => absurd h hm2⟩]; simp [hm2]]
          repeat' (first
            | refine call1 rfl c1 ?_
            | refine len_sl rfl lenE ?_
            | refine w_seq ?_
            | refine w_ops ?_
            | refine st_nil ?_
            | refine th_n ?_
            | refine w_block ?_
            | refine w_skip ?_
            | refine w_false rfl ?_
            | refine g_yes rfl ?_
            | refine mv_c rfl ?_
            | refine pick_f rfl rfl ?_
            | refine eql_f rfl rfl (by omega) ?_
            | refine not_ rfl ?_
            | refine alloc_ (fun u => ?_)
            | refine build_ rfl rfl ?_
            | refine store_ptr rfl rfl (by decide) rfl rfl (Nat.le_of_ble_eq_true rfl) rfl ?_)
          refine w_loop ?_
          unfold b45_0 r45_5 r45_6 r45_7 r45_8 r45_13 r45_14 r45_15 r45_16 r45_17 r45_18
          repeat' (first
            | refine len_sl rfl lenE ?_
            | refine w_seq ?_
            | refine w_ops ?_
            | refine st_nil ?_
            | refine th_n ?_
            | refine w_block ?_
            | refine w_skip ?_
            | refine w_true rfl ?_
            | refine mv_c rfl ?_
            | refine lss_t rfl rfl (by omega) ?_
            | refine own0_ (fun u => ?_))
          refine vals_loop l hlen 0 (.inl rfl) _ _ _ _ _ _ _ _ l 0 [] _ rfl (by omega) (by simp) (by rfl) (by rfl) (by rfl) (by rfl) (by rfl) (by rfl) (by rfl) (by rfl) (by rfl) (by rfl) (by rfl) (by rfl) (by rfl) (by rfl) ?_
          intro s' v t7 t8 b8 t0 t1 t25 t26 t6 t4 b6 b4
          rw [List.nil_append, mv0] at t8 b8
          rw [← put_same t7, ← put_same t8, ← put_same t0, ← put_same t1, ← put_same t25, ← put_same t26, ← put_same t6, ← put_same t4, ← box_same b8, ← box_same b6, ← box_same b4]
          repeat' (first
            | refine call1 rfl c2 ?_
            | refine call1 rfl c4 ?_
            | refine w_seq ?_
            | refine w_ops ?_
            | refine st_nil ?_
            | refine th_n ?_
            | refine bk_n ?_
            | refine bk_x ?_
            | refine w_skip ?_
            | refine w_false rfl ?_
            | refine mv_c rfl ?_
            | refine not_ rfl ?_
            | refine add_in rfl rfl (by omega) ?_
            | refine load_ptr rfl (by decide) rfl (Nat.le_of_ble_eq_true rfl) rfl ?_
            | refine store_ptr rfl rfl (by decide) rfl rfl (Nat.le_of_ble_eq_true rfl) rfl ?_
            | refine fad_ptr rfl rfl rfl ?_
            | refine iaA_ptr rfl rfl rfl (by omega) rfl ?_
            | refine ext_ rfl rfl ?_
            | refine w_fz_osl rfl rfl rfl (fun u => ?_))
          refine w_loop ?_
          repeat' (first
            | refine w_seq ?_
            | refine w_ops ?_
            | refine st_nil ?_
            | refine th_n ?_
            | refine th_x ?_
            | refine bk_x ?_
            | refine w_exit ?_
            | refine w_ret ?_
            | refine w_false rfl ?_
            | refine mv_c rfl ?_
            | refine lss_f rfl rfl (by omega) ?_
            | refine load_ptr rfl (by decide) rfl (Nat.le_of_ble_eq_true rfl) rfl ?_
            | refine store_ptr rfl rfl (by decide) rfl rfl (Nat.le_of_ble_eq_true rfl) rfl ?_)
          exact fin_r (rv_cell rfl rfl rfl rfl (rv_t rfl rv_nil)) rfl
      · rw [if_neg f0] at c4
        rw [show ofC m l = (zeroC, false) by unfold ofC; rw [if_neg (fun h => f0 h.2.2.1)]]
        repeat' (first
          | refine call1 rfl c1 ?_
          | refine len_sl rfl lenE ?_
          | refine w_seq ?_
          | refine w_ops ?_
          | refine st_nil ?_
          | refine th_n ?_
          | refine w_block ?_
          | refine w_skip ?_
          | refine w_false rfl ?_
          | refine g_yes rfl ?_
          | refine mv_c rfl ?_
          | refine pick_f rfl rfl ?_
          | refine eql_f rfl rfl (by omega) ?_
          | refine not_ rfl ?_
          | refine alloc_ (fun u => ?_)
          | refine build_ rfl rfl ?_
          | refine store_ptr rfl rfl (by decide) rfl rfl (Nat.le_of_ble_eq_true rfl) rfl ?_)
        refine w_loop ?_
        unfold b45_0 r45_5 r45_6 r45_7 r45_8 r45_13 r45_14 r45_15 r45_16 r45_17 r45_18
        repeat' (first
          | refine len_sl rfl lenE ?_
          | refine w_seq ?_
          | refine w_ops ?_
          | refine st_nil ?_
          | refine th_n ?_
          | refine w_block ?_
          | refine w_skip ?_
          | refine w_true rfl ?_
          | refine mv_c rfl ?_
          | refine lss_t rfl rfl (by omega) ?_
          | refine own0_ (fun u => ?_))
        refine vals_loop l hlen 0 (.inl rfl) _ _ _ _ _ _ _ _ l 0 [] _ rfl (by omega) (by simp) (by rfl) (by rfl) (by rfl) (by rfl) (by rfl) (by rfl) (by rfl) (by rfl) (by rfl) (by rfl) (by rfl) (by rfl) (by rfl) (by rfl) ?_
        intro s' v t7 t8 b8 t0 t1 t25 t26 t6 t4 b6 b4
        rw [List.nil_append, mv0] at t8 b8
        rw [← put_same t7, ← put_same t8, ← put_same t0, ← put_same t1, ← put_same t25, ← put_same t26, ← put_same t6, ← put_same t4, ← box_same b8, ← box_same b6, ← box_same b4]
        repeat' (first
          | refine call1 rfl c2 ?_
          | refine call1 rfl c4 ?_
          | refine w_seq ?_
          | refine w_ops ?_
          | refine st_nil ?_
          | refine th_n ?_
          | refine th_r ?_
          | refine bk_r ?_
          | refine bk_x ?_
          | refine w_ret ?_
          | refine w_true rfl ?_
          | refine mv_c rfl ?_
          | refine not_ rfl ?_
          | refine build_ rfl rfl ?_
          | refine load_ptr rfl (by decide) rfl (Nat.le_of_ble_eq_true rfl) rfl ?_
          | refine store_ptr rfl rfl (by decide) rfl rfl (Nat.le_of_ble_eq_true rfl) rfl ?_
          | refine fad_ptr rfl rfl rfl ?_
          | refine iaA_ptr rfl rfl rfl (by omega) rfl ?_
          | refine ext_ rfl rfl ?_
          | refine w_fz_osl rfl rfl rfl (fun u => ?_))
        exact fin_r (rv_cell rfl rfl rfl rfl (rv_t rfl rv_nil)) rfl
  · rw [decide_eq_false hm] at c1
    rw [show ofC m l = (zeroC, false) by unfold ofC; rw [if_neg (fun h => hm h.1)]]
    repeat' (first
      | refine call1 rfl c1 ?_
      | refine len_sl rfl (List.length_map _) ?_
      | refine w_seq ?_
      | refine w_ops ?_
      | refine st_nil ?_
      | refine th_n ?_
      | refine th_r ?_
      | refine w_ret ?_
      | refine w_true rfl ?_
      | refine g_no rfl ?_
      | refine mv_c rfl ?_
      | refine pick_t rfl rfl ?_
      | refine not_ rfl ?_
      | refine alloc_ (fun u => ?_)
      | refine build_ rfl rfl ?_
      | refine store_ptr rfl rfl (by decide) rfl rfl (Nat.le_of_ble_eq_true rfl) rfl ?_)
    exact fin_r (rv_cell rfl rfl rfl rfl (rv_t rfl rv_nil)) rfl
end Go.Proofs.Ytcmejdkjfekoeaa
namespace Go.Proofs.Ytcmejdkjfekoeaa
open Go.Pl Go.Bag
set_option maxHeartbeats 16000000
set_option maxRecDepth 100000
theorem ofL_52 : ofL [5, -2] = [(-2, 1), (5, 1)] := (ofL_ext (by simp [asc]) (by intro q hq; simp at hq; rcases hq with rfl | rfl <;> decide) (fun v => by simp only [cnt, num_cons, num_nil]; omega)).symm
theorem C_wakes9 : PCallG Try.prog 43 [] (.c (.bool true)) [] := by
  refine pcallF Try.func43 c43 rfl ?_
  have i1 : inC 1000000 ⟨2, 3, 0, [(-2, 1), (5, 1)], []⟩ := ⟨by decide, by decide, by decide, by intro q hq; simp at hq; rcases hq with rfl | rfl <;> decide, fun q hq => by simp at hq, by decide, by decide⟩
  have i2 : inC 1000000 ⟨4, 6, 0, [(-2, 2), (5, 2)], []⟩ := ⟨by decide, by decide, by decide, by intro q hq; simp at hq; rcases hq with rfl | rfl <;> decide, fun q hq => by simp at hq, by decide, by decide⟩
  have g1 : goodC 1 ⟨2, 3, 0, [(-2, 1), (5, 1)], []⟩ = true := by decide
  have g2 : goodC 1 ⟨4, 6, 0, [(-2, 2), (5, 2)], []⟩ = true := by decide
  have g3 : goodC 2 ⟨4, 6, 0, [(-2, 2), (5, 2)], []⟩ = false := by decide
  have hm : merge [] [(-2, 1), (5, 1)] [(-2, 1), (5, 1)] = [(-2, 2), (5, 2)] := by simp [merge, moreL]
  have hj : join [(-2, 1), (5, 1)] [(-2, 1), (5, 1)] = ([(-2, 2), (5, 2)], true) := by unfold join; rw [if_pos (by decide), hm]
  have c1 : PCallG Try.prog 45 [.c (.int .i64 1), .c (encRows [⟨⟨0, 0, 0, 0⟩, 5, 1⟩, ⟨⟨0, 0, 0, 0⟩, -2, 1⟩])] (.c (.tup [encCell ⟨2, 3, 0, [(-2, 1), (5, 1)], []⟩, .bool true])) [] := by
    have := C_cOf 1 [⟨⟨0, 0, 0, 0⟩, 5, 1⟩, ⟨⟨0, 0, 0, 0⟩, -2, 1⟩] (by decide) (by intro r hr; simp at hr; rcases hr with rfl | rfl <;> exact ⟨by decide, by decide⟩)
    have e : ofC 1 [⟨⟨0, 0, 0, 0⟩, 5, 1⟩, ⟨⟨0, 0, 0, 0⟩, -2, 1⟩] = (⟨2, 3, 0, [(-2, 1), (5, 1)], []⟩, true) := by
      unfold ofC
      rw [if_pos ⟨by decide, by simp, by decide, fun h => by cases h⟩]
      simp [ofL_52, sumI]
    rw [e] at this; exact this
  have c2 : PCallG Try.prog 49 [.c (.int .i64 1), .c (.agg (encP ⟨3, 0, 0, 0⟩)), .c (encCell ⟨2, 3, 0, [(-2, 1), (5, 1)], []⟩)] (.c (encLine ⟨3, 0, 0, 0, 2, 3, 0, -2, 0, 5, 0⟩)) [] := C_cLine 1 ⟨3, 0, 0, 0⟩ _ i1
  have c3 : PCallG Try.prog 51 [.c (.int .i64 1), .c (encCell ⟨2, 3, 0, [(-2, 1), (5, 1)], []⟩), .c (encCell ⟨2, 3, 0, [(-2, 1), (5, 1)], []⟩)] (.c (.tup [encCell ⟨4, 6, 0, [(-2, 2), (5, 2)], []⟩, .bool true])) [] := by
    have := C_cJoin 1 _ _ i1 i1
    have e : joinC 1 ⟨2, 3, 0, [(-2, 1), (5, 1)], []⟩ ⟨2, 3, 0, [(-2, 1), (5, 1)], []⟩ = (⟨4, 6, 0, [(-2, 2), (5, 2)], []⟩, true) := by
      unfold joinC
      rw [if_pos ⟨g1, g1, by decide, by decide, fun h => by cases h⟩]
      simp [hj]
    rw [e] at this; exact this
  have c4 : PCallG Try.prog 47 [.c (.int .i64 1), .c (encCell ⟨4, 6, 0, [(-2, 2), (5, 2)], []⟩)] (.c (.bool true)) [] := by have := C_cGood 1 _ i2; rw [g2] at this; exact this
  have c5 : PCallG Try.prog 47 [.c (.int .i64 2), .c (encCell ⟨4, 6, 0, [(-2, 2), (5, 2)], []⟩)] (.c (.bool false)) [] := by have := C_cGood 2 _ i2; rw [g3] at this; exact this
  have c6 : PCallG Try.prog 53 [.c (encCell ⟨2, 3, 0, [(-2, 1), (5, 1)], []⟩), .c (encCell ⟨2, 3, 0, [(-2, 1), (5, 1)], []⟩)] (.c (.bool true)) [] := C_cSame _ _ (by decide) (by decide)
  have c7 : PCallG Try.prog 53 [.c (encCell ⟨2, 3, 0, [(-2, 1), (5, 1)], []⟩), .c (encCell ⟨4, 6, 0, [(-2, 2), (5, 2)], []⟩)] (.c (.bool false)) [] := C_cSame _ _ (by decide) (by decide)
  have c8 : PCallG Try.prog 55 [.c (.int .i64 5), .c (.int .i64 0), .c (encLine ⟨0, 0, 0, 0, 2, 3, 0, 0, 0, 0, 0⟩), .c (encLine ⟨0, 0, 0, 0, 3, 4, 0, 0, 0, 0, 0⟩)] (.c (.int .i64 (-1))) [] := C_Ahead 5 0 _ _ ⟨by decide, by decide, by decide, by decide, by decide, by decide, by decide⟩ ⟨by decide, by decide, by decide, by decide, by decide, by decide, by decide⟩
  have c9 : PCallG Try.prog 55 [.c (.int .i64 2), .c (.int .i64 0), .c (encLine ⟨0, 0, 0, 0, 2, 3, 0, 0, 0, 0, 0⟩), .c (encLine ⟨0, 0, 0, 0, 3, 4, 0, 0, 0, 0, 0⟩)] (.c (.int .i64 1)) [] := C_Ahead 2 0 _ _ ⟨by decide, by decide, by decide, by decide, by decide, by decide, by decide⟩ ⟨by decide, by decide, by decide, by decide, by decide, by decide, by decide⟩
  unfold p43 r43_0 r43_1 r43_2 r43_3 r43_4 r43_5 r43_6 r43_7
  repeat' (first
    | refine call2 rfl rfl c1 ?_
    | refine call3 rfl rfl rfl c2 ?_
    | refine call3 rfl rfl rfl c3 ?_
    | refine call2 rfl rfl c4 ?_
    | refine call2 rfl rfl c5 ?_
    | refine call2 rfl rfl c6 ?_
    | refine call2 rfl rfl c7 ?_
    | refine call4 rfl rfl rfl rfl c8 ?_
    | refine call4 rfl rfl rfl rfl c9 ?_
    | refine w_seq ?_
    | refine w_ops ?_
    | refine st_nil ?_
    | refine th_n ?_
    | refine w_ret ?_
    | refine g_yes rfl ?_
    | refine mv_c rfl ?_
    | refine pick_t rfl rfl ?_
    | refine eql_t rfl rfl (by omega) ?_
    | refine eqd_ rfl rfl ?_
    | refine not_ rfl ?_
    | refine alloc_ (fun u => ?_)
    | refine build_ rfl rfl ?_
    | refine bsl_ rfl rfl ?_
    | refine load_ptr rfl (by decide) rfl (Nat.le_of_ble_eq_true rfl) rfl ?_
    | refine store_ptr rfl rfl (by decide) rfl rfl (Nat.le_of_ble_eq_true rfl) rfl ?_
    | refine fad_ptr rfl rfl rfl ?_
    | refine iaA_ptr rfl rfl rfl (by omega) rfl ?_
    | refine ext_ rfl rfl ?_
    | refine eqs_t rfl rfl rfl ?_)
  exact fin_r rfl rfl
end Go.Proofs.Ytcmejdkjfekoeaa
namespace Go.Proofs.Ytcmejdkjfekoeaa
open Go.Pl Go.Bag
set_option maxHeartbeats 8000000
theorem good_one {v n : Int} (h : 1 ≤ n ∧ n ≤ 1099511627776) : good [(v, n)] = true :=
  good_iff.mpr ⟨by simp [asc], fun q hq => by simp at hq; subst hq; exact h.1, by simp [sum, cap]; exact h.2⟩
theorem C_BagMany (v w n : Int) (hn : 0 ≤ n ∧ n ≤ 18446744073709551615) : PCallG Try.prog 4 [.c (.int .i64 v), .c (.int .i64 w), .c (.int .u64 n)] (.c (.bool true)) [] := by
  refine pcallF Try.func4 c4 rfl ?_
  have hw := C_wakes8
  have h0 : cap = 1099511627776 := rfl
  have hk1 : 0 ≤ n % 1099511627776 := by omega
  have hk2 : n % 1099511627776 < 1099511627776 := by omega
  generalize hk : n % 1099511627776 = k at hk1 hk2
  have g1 : good [(v, 1099511627776 - k)] = true := good_one (by omega)
  have c1 : PCallG Try.prog 26 [.c (encL [(v, 1099511627776 - k)])] (.c (.bool true)) [] := by
    have := C_good [(v, 1099511627776 - k)] (by simp)
    rw [g1] at this; exact this
  have c2 : PCallG Try.prog 26 [.c (encL [(v, 1099511627777)])] (.c (.bool false)) [] := by
    have := C_good [(v, 1099511627777)] (by simp)
    have e : good [(v, 1099511627777)] = false := by simp [good, goodFrom, cap]
    rw [e] at this; exact this
  have c3 : PCallG Try.prog 25 [.c (encL [(v, 1099511627776 - k)]), .c (encL [(w, k + 1)])] (.c (.tup [encL [], .bool false])) [] := by
    have := C_Join [(v, 1099511627776 - k)] [(w, k + 1)] (by simp) (by simp)
    rw [join_no (by simp [sum, cap]; omega)] at this; exact this
  have c4 : ∀ b, (k = 0 → b = []) → (k ≠ 0 → b = [(w, k)]) → ∃ o, PCallG Try.prog 25 [.c (encL [(v, 1099511627776 - k)]), .c (encL b)] (.c (.tup [encL o, .bool true])) [] ∧ PCallG Try.prog 27 [.c (encL o)] (.c (.int .i64 1099511627776)) [] := by
    intro b b0 b1
    have gb : good b = true ∧ sum b = k ∧ b.length ≤ 1 := by
      by_cases hk0 : k = 0
      · rw [b0 hk0]; exact ⟨rfl, by simp [sum, hk0], by simp⟩
      · rw [b1 hk0]; exact ⟨good_one (by omega), by simp [sum], by simp⟩
    obtain ⟨o, h1, h2, h3, h4⟩ := join_ok g1 gb.1 (by simp only [sum]; omega)
    have hj := C_Join [(v, 1099511627776 - k)] b (by simp) (by omega)
    have ho : o.length < 1000 := by
      have : o = merge [] [(v, 1099511627776 - k)] b := by
        have e : (join [(v, 1099511627776 - k)] b).1 = o := by rw [h1]
        rw [← e]; unfold join
        rw [if_pos ⟨g1, gb.1, by simp only [sum]; omega⟩]
      rw [this]
      have hl : ∀ (m : Nat) (out a b : List Run), a.length + b.length = m → (merge out a b).length ≤ out.length + m := by
        intro m
        induction m with
        | zero => intro out a b hm; obtain rfl : a = [] := List.eq_nil_of_length_eq_zero (by omega); obtain rfl : b = [] := List.eq_nil_of_length_eq_zero (by omega); simp [merge]
        | succ m ih =>
          intro out a b hm
          match a, b, hm with
          | [], s :: b, hm => rw [show merge out [] (s :: b) = merge (moreL out s.1 s.2) [] b by simp only [merge]]; have := ih (moreL out s.1 s.2) [] b (by simpa using hm); have := moreL_len out s.1 s.2; omega
          | r :: a, [], hm => rw [show merge out (r :: a) [] = merge (moreL out r.1 r.2) a [] by simp only [merge]]; have := ih (moreL out r.1 r.2) a [] (by simpa using hm); have := moreL_len out r.1 r.2; omega
          | r :: a, s :: b, hm =>
            rw [merge]
            split
            · have := ih (moreL out s.1 s.2) (r :: a) b (by simp at hm ⊢; omega); have := moreL_len out s.1 s.2; omega
            · have := ih (moreL out r.1 r.2) a (s :: b) (by simp at hm ⊢; omega); have := moreL_len out r.1 r.2; omega
      have := hl _ [] [(v, 1099511627776 - k)] b rfl
      simp at this; omega
    have hc := C_Count o (by omega)
    rw [h2] at hc
    refine ⟨o, by rw [h1] at hj; exact hj, ?_⟩
    have e : sum o = 1099511627776 := by rw [h3, gb.2.1]; simp only [sum]; omega
    rw [e] at hc; exact hc
  unfold p4 r4_0 r4_1 r4_2 r4_3 r4_4 r4_5 r4_6 r4_7 r4_8 r4_9
  by_cases hk0 : k = 0
  · obtain ⟨o, j1, j2⟩ := c4 [] (fun _ => rfl) (fun h => absurd hk0 h)
    repeat' (first
      | refine rem_nn rfl rfl (by omega) (by omega) ?_
      | refine w_seq ?_
      | refine w_ops ?_
      | refine st_nil ?_
      | refine th_n ?_
      | refine w_true rfl ?_
      | refine mv_c rfl ?_
      | refine eql_t rfl rfl (by omega) ?_
      | refine conv_in rfl (wrap64_in (by omega)) ?_
      | refine add_in rfl rfl (by omega) ?_
      | refine sub_in rfl rfl (by omega) ?_
      | refine build_ rfl rfl ?_
      | refine bsl_ rfl rfl ?_)
    rw [hk]
    repeat' (first
      | refine call2 rfl rfl j1 ?_
      | refine call2 rfl rfl c3 ?_
      | refine call1 rfl c1 ?_
      | refine call1 rfl c2 ?_
      | refine call1 rfl j2 ?_
      | refine call0 hw ?_
      | refine w_seq ?_
      | refine w_ops ?_
      | refine st_nil ?_
      | refine th_n ?_
      | refine w_ret ?_
      | refine g_yes rfl ?_
      | refine mv_c rfl ?_
      | refine pick_t rfl rfl ?_
      | refine eql_t rfl rfl (by omega) ?_
      | refine not_ rfl ?_
      | refine build_ rfl rfl ?_
      | refine bsl_ rfl rfl ?_
      | refine ext_ rfl rfl ?_)
    exact fin_r rfl rfl
  · obtain ⟨o, j1, j2⟩ := c4 [(w, k)] (fun h => absurd h hk0) (fun _ => rfl)
    repeat' (first
      | refine rem_nn rfl rfl (by omega) (by omega) ?_
      | refine w_seq ?_
      | refine w_ops ?_
      | refine st_nil ?_
      | refine th_n ?_
      | refine w_skip ?_
      | refine w_false rfl ?_
      | refine mv_c rfl ?_
      | refine eql_f rfl rfl (by omega) ?_
      | refine conv_in rfl (wrap64_in (by omega)) ?_
      | refine add_in rfl rfl (by omega) ?_
      | refine sub_in rfl rfl (by omega) ?_
      | refine build_ rfl rfl ?_
      | refine bsl_ rfl rfl ?_)
    rw [hk]
    repeat' (first
      | refine call2 rfl rfl j1 ?_
      | refine call2 rfl rfl c3 ?_
      | refine call1 rfl c1 ?_
      | refine call1 rfl c2 ?_
      | refine call1 rfl j2 ?_
      | refine call0 hw ?_
      | refine w_seq ?_
      | refine w_ops ?_
      | refine st_nil ?_
      | refine th_n ?_
      | refine w_ret ?_
      | refine g_yes rfl ?_
      | refine mv_c rfl ?_
      | refine pick_t rfl rfl ?_
      | refine eql_t rfl rfl (by omega) ?_
      | refine not_ rfl ?_
      | refine build_ rfl rfl ?_
      | refine bsl_ rfl rfl ?_
      | refine ext_ rfl rfl ?_)
    exact fin_r rfl rfl
theorem ok_i64 {c : CV} (h : LF.Ok (.int .i64) c) : ∃ a, c = .int .i64 a ∧ I64 a := by
  cases h with
  | int _ a hw => exact ⟨a, rfl, by simpa [Lit.wf, IntKind.min, IntKind.max, IntKind.signed, IntKind.bits, I64] using hw⟩
theorem ok_u64 {c : CV} (h : LF.Ok (.int .u64) c) : ∃ a, c = .int .u64 a ∧ 0 ≤ a ∧ a ≤ 18446744073709551615 := by
  cases h with
  | int _ a hw => exact ⟨a, rfl, by simpa [Lit.wf, IntKind.min, IntKind.max, IntKind.signed, IntKind.bits] using hw⟩
theorem L_BagMany (c0 : CV) (h0 : LF.Ok (.int .i64) c0) (c1 : CV) (h1 : LF.Ok (.int .i64) c1) (c2 : CV) (h2 : LF.Ok (.int .u64) c2) : PCallG Try.prog 4 [.c c0, .c c1, .c c2] (.c (.bool true)) [] := by
  obtain ⟨v, rfl, _⟩ := ok_i64 h0
  obtain ⟨w, rfl, _⟩ := ok_i64 h1
  obtain ⟨n, rfl, hn⟩ := ok_u64 h2
  exact C_BagMany v w n hn
end Go.Proofs.Ytcmejdkjfekoeaa
namespace Go.Proofs.Ytcmejdkjfekoeaa
open Go.Pl Go.Bag
theorem merge_len : ∀ (m : Nat) (out a b : List Run), a.length + b.length = m → (merge out a b).length ≤ out.length + m := by
  intro m
  induction m with
  | zero => intro out a b hm; obtain rfl : a = [] := List.eq_nil_of_length_eq_zero (by omega); obtain rfl : b = [] := List.eq_nil_of_length_eq_zero (by omega); simp [merge]
  | succ m ih =>
    intro out a b hm
    match a, b, hm with
    | [], s :: b, hm => rw [show merge out [] (s :: b) = merge (moreL out s.1 s.2) [] b by simp only [merge]]; have := ih (moreL out s.1 s.2) [] b (by simpa using hm); have := moreL_len out s.1 s.2; omega
    | r :: a, [], hm => rw [show merge out (r :: a) [] = merge (moreL out r.1 r.2) a [] by simp only [merge]]; have := ih (moreL out r.1 r.2) a [] (by simpa using hm); have := moreL_len out r.1 r.2; omega
    | r :: a, s :: b, hm =>
      rw [merge]
      split
      · have := ih (moreL out s.1 s.2) (r :: a) b (by simp at hm ⊢; omega); have := moreL_len out s.1 s.2; omega
      · have := ih (moreL out r.1 r.2) a (s :: b) (by simp at hm ⊢; omega); have := moreL_len out r.1 r.2; omega
theorem join_len (a b : List Run) : (join a b).1.length ≤ a.length + b.length := by
  unfold join
  split
  · have := merge_len _ [] a b rfl; simpa using this
  · simp
theorem get_slen {α : Type} {l : List α} {i : Nat} {a : α} {rest : List α} (hd : l.drop i = a :: rest) : i < l.length := by
  have := congrArg List.length hd; simp at this; omega
theorem get_snext {α : Type} {l : List α} {i : Nat} {a : α} {rest : List α} (hd : l.drop i = a :: rest) : l.drop (i + 1) = rest := by
  have := congrArg List.tail hd; simpa [List.tail_drop] using this
theorem get_send {α : Type} {l : List α} {i : Nat} (hd : l.drop i = []) (hi : i ≤ l.length) : i = l.length := by
  have := List.drop_eq_nil_iff.mp hd; omega
theorem quo2 {C : CallP} {r : List POp} {s : PS} {K : PS → Prop} {d : Nat} {x y : PO} {a : Int} (hx : s.ev x = .c (.int .i64 a)) (hy : s.ev y = .c (.int .i64 2)) (ha : 0 ≤ a ∧ a ≤ 9223372036854775807) (h : wL C r (s.put d (.c (.int .i64 (a / 2)))) K) : wL C (⟨some d, .bin .quo x y, none⟩ :: r) s K := by
  refine bin_ hx hy ?_ h
  simp only [binC]
  rw [if_pos ⟨trivial, by decide⟩, Int.tdiv_eq_ediv_of_nonneg ha.1, wrap64_in (by omega)]
/-- what a slice of runs is, as a row hands it in -/
theorem ok_runs {c : CV} (h : LF.Ok (.sl [.int .i64, .int .i64]) c) : ∃ l, c = encL l ∧ ranged l ∧ l.length ≤ 9223372036854775807 := by
  cases h with
  | sl _ es hn hl hh =>
    have : ∀ e ∈ es, ∃ r : Run, e = encR r ∧ I64 r.1 ∧ I64 r.2 := fun e he => by
      have h1 := hl e he
      match e, h1, hh e he with
      | [c, d], _, hh =>
        obtain ⟨a, rfl, ha⟩ := ok_i64 (hh 0 (by simp) (by simp))
        obtain ⟨b, rfl, hb⟩ := ok_i64 (hh 1 (by simp) (by simp))
        exact ⟨(a, b), rfl, ha, hb⟩
    clear hl hh
    have : ∃ l, es = l.map encR ∧ ranged l := by
      induction es with
      | nil => exact ⟨[], rfl, fun a ha => by simp at ha⟩
      | cons e es ih =>
        obtain ⟨a, rfl, ha⟩ := this e (by simp)
        obtain ⟨l, rfl, hl⟩ := ih (by simp at hn; omega) (fun q hq => this q (by simp [hq]))
        exact ⟨a :: l, rfl, fun b hb => by
          rcases List.mem_cons.mp hb with rfl | hb
          · exact ha
          · exact hl b hb⟩
    obtain ⟨l, rfl, hl⟩ := this
    exact ⟨l, rfl, hl, by simpa [maxLen] using hn⟩
theorem ok_u8 {c : CV} (h : LF.Ok (.int .u8) c) : ∃ a, c = .int .u8 a ∧ 0 ≤ a ∧ a ≤ 255 := by
  cases h with
  | int _ a hw => exact ⟨a, rfl, by simpa [Lit.wf, IntKind.min, IntKind.max, IntKind.signed, IntKind.bits] using hw⟩
theorem ok_bool {c : CV} (h : LF.Ok .bool c) : ∃ b, c = .bool b := by
  cases h with
  | bool b => exact ⟨b, rfl⟩
theorem ok_i32 {c : CV} (h : LF.Ok (.int .i32) c) : ∃ a, c = .int .i32 a ∧ -2147483648 ≤ a ∧ a ≤ 2147483647 := by
  cases h with
  | int _ a hw => exact ⟨a, rfl, by simpa [Lit.wf, IntKind.min, IntKind.max, IntKind.signed, IntKind.bits] using hw⟩
theorem ok_u16 {c : CV} (h : LF.Ok (.int .u16) c) : ∃ a, c = .int .u16 a ∧ 0 ≤ a ∧ a ≤ 65535 := by
  cases h with
  | int _ a hw => exact ⟨a, rfl, by simpa [Lit.wf, IntKind.min, IntKind.max, IntKind.signed, IntKind.bits] using hw⟩
end Go.Proofs.Ytcmejdkjfekoeaa
namespace Go.Proofs.Ytcmejdkjfekoeaa
open Go.Pl Go.Bag
set_option maxHeartbeats 16000000
set_option maxRecDepth 100000
theorem C_CellMean (s n t : Int) (hs : -2147483648 ≤ s ∧ s ≤ 2147483647) (hn : 0 ≤ n ∧ n ≤ 65535) (ht : 0 ≤ t ∧ t ≤ 65535) : PCallG Try.prog 12 [.c (.int .i32 s), .c (.int .u16 n), .c (.int .u16 t)] (.c (.bool true)) [] := by
  refine pcallF Try.func12 c12 rfl ?_
  have hw := C_wakes9
  have hN : 1 ≤ n + 1 ∧ n + 1 ≤ 65536 := by omega
  have hF : 1 ≤ t + 1 ∧ t + 1 ≤ 65536 := by omega
  have hNF : 1 ≤ (n + 1) * (t + 1) ∧ (n + 1) * (t + 1) ≤ 4294967296 := by
    have h1 := Int.mul_le_mul hN.2 hF.2 (by omega) (by omega)
    have h2 := Int.mul_le_mul hN.1 hF.1 (by omega) (by omega)
    omega
  have hSF : -140737488355328 ≤ s * (t + 1) ∧ s * (t + 1) ≤ 140737488355328 := by
    have h1 : s * (t + 1) ≤ 2147483648 * (t + 1) := Int.mul_le_mul_of_nonneg_right (by omega) (by omega)
    have h2 : (-2147483648) * (t + 1) ≤ s * (t + 1) := Int.mul_le_mul_of_nonneg_right (by omega) (by omega)
    omega
  have p1 : -9223372036854775808 ≤ (n + 1) * (t + 1) ∧ (n + 1) * (t + 1) ≤ 9223372036854775807 := by omega
  have p2 : -9223372036854775808 ≤ s * (t + 1) ∧ s * (t + 1) ≤ 9223372036854775807 := by omega
  have i0 : in64 0 := by decide
  have i1 : inL ⟨0, 0, 0, 0, n + 1, s, 0, 0, 0, 0, 0⟩ := ⟨by simp only [in64]; omega, by simp only [in64]; omega, i0, i0, i0, i0, i0⟩
  have i2 : inL ⟨0, 0, 0, 0, (n + 1) * (t + 1), s * (t + 1), 0, 0, 0, 0, 0⟩ := ⟨p1, p2, i0, i0, i0, i0, i0⟩
  have i3 : inL ⟨0, 0, 0, 0, (n + 1) * (t + 1), s * (t + 1) + 1, 0, 0, 0, 0, 0⟩ := ⟨p1, by simp only [in64]; omega, i0, i0, i0, i0, i0⟩
  have o1 : one1 (n + 1) = n + 1 := by unfold one1; rw [if_neg (by omega)]
  have o2 : one1 ((n + 1) * (t + 1)) = (n + 1) * (t + 1) := by unfold one1; rw [if_neg (by omega)]
  have e5 : ∀ a b : LineS, aheadC 5 0 a b = cmpI (b.s0 * one1 a.n) (a.s0 * one1 b.n) := fun a b => by simp [aheadC, sel]
  have x1 : s * (t + 1) * (n + 1) = s * ((n + 1) * (t + 1)) := by rw [Int.mul_assoc, Int.mul_comm (t + 1)]
  have x2 : (s * (t + 1) + 1) * (n + 1) = s * ((n + 1) * (t + 1)) + (n + 1) := by rw [Int.add_mul, x1, Int.one_mul]
  have x3 : (s * (t + 1) + 1) * ((n + 1) * (t + 1)) = s * (t + 1) * ((n + 1) * (t + 1)) + (n + 1) * (t + 1) := by rw [Int.add_mul, Int.one_mul]
  have d1 := C_Ahead 5 0 _ _ i1 i2
  have d2 := C_Ahead 5 0 _ _ i1 i3
  have d3 := C_Ahead 5 0 _ _ i3 i1
  have d4 := C_Ahead 5 0 _ _ i2 i3
  rw [e5] at d1 d2 d3 d4
  simp only [o1, o2, x1, x2, x3] at d1 d2 d3 d4
  rw [show ∀ y, cmpI y y = 0 by intro y; simp [cmpI]] at d1
  rw [show ∀ y, cmpI (y + (n + 1)) y = 1 by intro y; unfold cmpI; rw [if_neg (by omega), if_pos (by omega)]] at d2
  rw [show ∀ y, cmpI y (y + (n + 1)) = -1 by intro y; unfold cmpI; rw [if_pos (by omega)]] at d3
  rw [show ∀ y, cmpI (y + (n + 1) * (t + 1)) y = 1 by intro y; unfold cmpI; rw [if_neg (by omega), if_pos (by omega)]] at d4
  unfold p12 r12_0 r12_1 r12_2 r12_3 r12_4 r12_5 r12_6 r12_7 r12_8
  repeat' (first
    | refine mul_in rfl rfl p1 ?_
    | refine mul_in rfl rfl p2 ?_
    | refine call4 rfl rfl rfl rfl d1 ?_
    | refine call4 rfl rfl rfl rfl d2 ?_
    | refine call4 rfl rfl rfl rfl d3 ?_
    | refine call4 rfl rfl rfl rfl d4 ?_
    | refine call0 hw ?_
    | refine w_seq ?_
    | refine w_ops ?_
    | refine st_nil ?_
    | refine th_n ?_
    | refine w_ret ?_
    | refine g_yes rfl ?_
    | refine mv_c rfl ?_
    | refine pick_t rfl rfl ?_
    | refine eql_t rfl rfl (by omega) ?_
    | refine conv_in rfl (wrap64_in (by omega)) ?_
    | refine add_in rfl rfl (by omega) ?_
    | refine alloc_ (fun u => ?_)
    | refine build_ rfl rfl ?_
    | refine load_ptr rfl (by decide) rfl (Nat.le_of_ble_eq_true rfl) rfl ?_
    | refine store_ptr rfl rfl (by decide) rfl rfl (Nat.le_of_ble_eq_true rfl) rfl ?_
    | refine fad_ptr rfl rfl rfl ?_
    | refine iaA_ptr rfl rfl rfl (by omega) rfl ?_)
  exact fin_r rfl rfl
theorem L_CellMean (c0 : CV) (h0 : LF.Ok (.int .i32) c0) (c1 : CV) (h1 : LF.Ok (.int .u16) c1) (c2 : CV) (h2 : LF.Ok (.int .u16) c2) : PCallG Try.prog 12 [.c c0, .c c1, .c c2] (.c (.bool true)) [] := by
  obtain ⟨s, rfl, hs⟩ := ok_i32 h0
  obtain ⟨n, rfl, hn⟩ := ok_u16 h1
  obtain ⟨t, rfl, ht⟩ := ok_u16 h2
  exact C_CellMean s n t hs hn ht
end Go.Proofs.Ytcmejdkjfekoeaa
namespace Go.Proofs.Ytcmejdkjfekoeaa
open Go.Pl Go.Bag
set_option maxHeartbeats 16000000
set_option maxRecDepth 100000
def manyI (two : Bool) : Int := if two then 2 else 1
theorem C_many (two : Bool) : PCallG Try.prog 54 [.c (.bool two)] (.c (.int .i64 (manyI two))) [] := by
  refine pcallF Try.func54 c54 rfl ?_
  unfold p54 r54_0 r54_1 r54_2 r54_3
  cases two <;>
  repeat' (first
    | refine w_seq ?_
    | refine w_ops ?_
    | refine st_nil ?_
    | refine th_n ?_
    | refine th_r ?_
    | refine w_skip ?_
    | refine w_ret ?_
    | refine w_true rfl ?_
    | refine w_false rfl ?_
    | refine mv_c rfl ?_)
  all_goals exact fin_r rfl rfl
theorem manyI_in (two : Bool) : 1 ≤ manyI two ∧ manyI two ≤ 2 := by cases two <;> decide
/-- the sums of rows fit -/
def fitsC (m : Int) (l : List RowS) : Prop := in64 (sumI (l.map (·.m0))) ∧ (m = 2 → in64 (sumI (l.map (·.m1))))
instance (m : Int) (l : List RowS) : Decidable (fitsC m l) := by unfold fitsC; infer_instance
theorem ofC_ok {m : Int} (hm : 1 ≤ m ∧ m ≤ 2) {l : List RowS} : (ofC m l).2 = true ↔ l ≠ [] ∧ fitsC m l := by
  unfold ofC fitsC
  by_cases h : (1 ≤ m ∧ m ≤ 2) ∧ l ≠ [] ∧ in64 (sumI (l.map (·.m0))) ∧ (m = 2 → in64 (sumI (l.map (·.m1))))
  · rw [if_pos h]; exact ⟨fun _ => h.2, fun _ => rfl⟩
  · rw [if_neg h]; exact ⟨fun h' => (by cases h'), fun h' => absurd ⟨hm, h'⟩ h⟩
theorem ofC_eq {m : Int} {l : List RowS} (h : (ofC m l).2 = true) : ofC m l = (⟨l.length, sumI (l.map (·.m0)), if m = 2 then sumI (l.map (·.m1)) else 0, ofL (l.map (·.m0)), if m = 2 then ofL (l.map (·.m1)) else []⟩, true) := by
  unfold ofC at h ⊢
  split
  · rfl
  · rename_i h'; rw [if_neg h'] at h; cases h
theorem ofC_no {m : Int} {l : List RowS} (h : (ofC m l).2 = false) : ofC m l = (zeroC, false) := by
  unfold ofC at h ⊢
  split
  · rename_i h'; rw [if_pos h'] at h; cases h
  · rfl
theorem inC_zero : inC 1000 zeroC := ⟨by decide, by decide, by decide, fun q hq => by simp [zeroC] at hq, fun q hq => by simp [zeroC] at hq, by decide, by decide⟩
theorem inC_up {a b : Nat} (h : a ≤ b) {c : Cell} (hc : inC a c) : inC b c := ⟨hc.1, hc.2.1, hc.2.2.1, hc.2.2.2.1, hc.2.2.2.2.1, by have := hc.2.2.2.2.2.1; omega, by have := hc.2.2.2.2.2.2; omega⟩
theorem inC_ofC {m : Int} {l : List RowS} (hl : l.length ≤ 1000) (hr : ∀ r ∈ l, inR r) : inC 1000 (ofC m l).1 := by
  cases h : (ofC m l).2 with
  | false => rw [ofC_no h]; exact inC_zero
  | true =>
    have hm : 1 ≤ m ∧ m ≤ 2 := by
      unfold ofC at h
      split at h
      · rename_i h'; exact h'.1
      · cases h
    obtain ⟨_, f0, f1⟩ := (ofC_ok hm).mp h
    have r0 : ∀ a ∈ l.map (·.m0), I64 a := fun a ha => by obtain ⟨r, hr', rfl⟩ := List.mem_map.mp ha; exact (hr r hr').1
    have r1 : ∀ a ∈ l.map (·.m1), I64 a := fun a ha => by obtain ⟨r, hr', rfl⟩ := List.mem_map.mp ha; exact (hr r hr').2
    have k0 := (ofL_facts (l.map (·.m0))).2.2.2.2
    have k1 := (ofL_facts (l.map (·.m1))).2.2.2.2
    simp only [List.length_map] at k0 k1
    rw [ofC_eq h]
    by_cases hm2 : m = 2
    · simp only [if_pos hm2]
      exact ⟨by simp only [in64]; omega, f0, f1 hm2, ranged_ofL r0 (by simp; omega), ranged_ofL r1 (by simp; omega), (by show (ofL (l.map (·.m0))).length ≤ 1000; omega), (by show (ofL (l.map (·.m1))).length ≤ 1000; omega)⟩
    · simp only [if_neg hm2]
      exact ⟨by simp only [in64]; omega, f0, (by show in64 0; decide), ranged_ofL r0 (by simp; omega), (fun q hq => by simp at hq), (by show (ofL (l.map (·.m0))).length ≤ 1000; omega), (by show ([] : List Run).length ≤ 1000; simp)⟩
theorem sumI_append : ∀ a b : List Int, sumI (a ++ b) = sumI a + sumI b
  | [], b => by simp [sumI]
  | x :: a, b => by simp only [List.cons_append, sumI, sumI_append a b]; omega
theorem good_ofC {m : Int} {l : List RowS} (hl : l.length ≤ 1000) (h : (ofC m l).2 = true) : goodC m (ofC m l).1 = true := by
  have hm : 1 ≤ m ∧ m ≤ 2 := by
    unfold ofC at h
    split at h
    · rename_i h'; exact h'.1
    · cases h
  obtain ⟨hne, f0, f1⟩ := (ofC_ok hm).mp h
  have hpos : 0 < l.length := by
    cases l with
    | nil => exact absurd rfl hne
    | cons _ _ => simp
  have gv : ∀ v : List Int, v.length = l.length → gM (ofL v) (sumI v) l.length = true := fun v hv => by
    obtain ⟨_, _, _, h4, _⟩ := ofL_facts v
    exact gM_iff.mpr ⟨good_ofL (by omega), wsum_ofL v, by rw [h4, hv]⟩
  rw [ofC_eq h]
  refine goodC_iff.mpr ⟨hm, ⟨by simp; omega, by simp; omega⟩, gv _ (by simp), ?_⟩
  by_cases hm2 : m = 2
  · rw [if_pos hm2]; simp only [if_pos hm2]; exact gv _ (by simp)
  · rw [if_neg hm2]; simp [hm2]
/-- the cells of some rows and of some more, joined -/
theorem joinC_ofC {m : Int} (hm : 1 ≤ m ∧ m ≤ 2) {a b : List RowS} (ha : a.length ≤ 500) (hb : b.length ≤ 500) (pa : (ofC m a).2 = true) (pb : (ofC m b).2 = true) : joinC m (ofC m a).1 (ofC m b).1 = ofC m (a ++ b) := by
  have ga := good_ofC (by omega) pa
  have gb := good_ofC (by omega) pb
  obtain ⟨na, fa0, fa1⟩ := (ofC_ok hm).mp pa
  unfold joinC
  rw [ofC_eq pa] at ga ⊢
  rw [ofC_eq pb] at gb ⊢
  simp only at ga gb ⊢
  have e0 : sumI ((a ++ b).map (·.m0)) = sumI (a.map (·.m0)) + sumI (b.map (·.m0)) := by rw [List.map_append, sumI_append]
  have e1 : sumI ((a ++ b).map (·.m1)) = sumI (a.map (·.m1)) + sumI (b.map (·.m1)) := by rw [List.map_append, sumI_append]
  have j0 : join (ofL (a.map (·.m0))) (ofL (b.map (·.m0))) = (ofL ((a ++ b).map (·.m0)), true) := by rw [join_ofL (by simp; omega) (by simp; omega), List.map_append]
  have j1 : join (ofL (a.map (·.m1))) (ofL (b.map (·.m1))) = (ofL ((a ++ b).map (·.m1)), true) := by rw [join_ofL (by simp; omega) (by simp; omega), List.map_append]
  unfold ofC
  rw [e0, e1]
  by_cases hm2 : m = 2
  · simp only [hm2, if_true] at ga gb ⊢
    by_cases h0 : in64 (sumI (a.map (·.m0)) + sumI (b.map (·.m0)))
    · by_cases h1 : in64 (sumI (a.map (·.m1)) + sumI (b.map (·.m1)))
      · rw [if_pos ⟨ga, gb, by omega, h0, fun _ => h1⟩, if_pos ⟨by decide, by simp [na], h0, fun _ => h1⟩, j0, j1]
        simp
      · rw [if_neg (fun h => h1 (h.2.2.2.2 trivial)), if_neg (fun h => h1 (h.2.2.2 trivial))]
    · rw [if_neg (fun h => h0 h.2.2.2.1), if_neg (fun h => h0 h.2.2.1)]
  · simp only [if_neg hm2] at ga gb ⊢
    by_cases h0 : in64 (sumI (a.map (·.m0)) + sumI (b.map (·.m0)))
    · rw [if_pos ⟨ga, gb, by omega, h0, fun h => absurd h hm2⟩, if_pos ⟨hm, by simp [na], h0, fun h => absurd h hm2⟩, j0]
      simp
    · rw [if_neg (fun h => h0 h.2.2.2.1), if_neg (fun h => h0 h.2.2.1)]
theorem ofC_perm {m : Int} {a b : List RowS} (h : a.Perm b) : ofC m a = ofC m b := by
  have h0 := h.map (·.m0)
  have h1 := h.map (·.m1)
  have hn : a = [] ↔ b = [] := ⟨fun e => by subst e; exact h.nil_eq.symm ▸ rfl, fun e => by subst e; exact h.eq_nil⟩
  unfold ofC
  rw [sumI_perm h0, sumI_perm h1, ofL_perm h0, ofL_perm h1, h.length_eq]
  simp only [ne_eq, hn]
theorem sameC_T (c : Cell) (h : inC 1000 c) : PCallG Try.prog 53 [.c (encCell c), .c (encCell c)] (.c (.bool true)) [] := by
  have := C_cSame c c ⟨by have := h.2.2.2.2.2.1; omega, by have := h.2.2.2.2.2.2; omega⟩ ⟨by have := h.2.2.2.2.2.1; omega, by have := h.2.2.2.2.2.2; omega⟩
  rw [decide_eq_true rfl] at this; exact this
theorem C_CellJoins (two : Bool) (a b : List RowS) (ra : ∀ r ∈ a, inR r) (rb : ∀ r ∈ b, inR r) (ha : a.length ≤ 9223372036854775807) (hb : b.length ≤ 9223372036854775807) : PCallG Try.prog 9 [.c (.bool two), .c (encRows a), .c (encRows b)] (.c (.bool true)) [] := by
  refine pcallF Try.func9 c9 rfl ?_
  have hw := C_wakes9
  have c0 := C_many two
  have hm := manyI_in two
  generalize manyI two = m at c0 hm
  have lea : (a.map encRow).length = a.length := List.length_map _
  have leb : (b.map encRow).length = b.length := List.length_map _
  unfold p9 r9_0 r9_1 r9_2 r9_3 r9_4 r9_5 r9_6 r9_7 r9_8 r9_9 r9_10 r9_11 r9_12 r9_13
  by_cases h1 : a.length ≤ 60
  · by_cases h2 : b.length ≤ 60
    · have rab : ∀ r ∈ a ++ b, inR r := fun r hr => by
        rcases List.mem_append.mp hr with hr | hr
        · exact ra r hr
        · exact rb r hr
      have c1 := C_cOf m a (by omega) ra
      have c2 := C_cOf m b (by omega) rb
      have c3 := C_cOf m (a ++ b) (by simp; omega) rab
      have c3' : PCallG Try.prog 45 [.c (.int .i64 m), .c (.sl (a.map encRow ++ b.map encRow))] (.c (.tup [encCell (ofC m (a ++ b)).1, .bool (ofC m (a ++ b)).2])) [] := by rw [← List.map_append]; exact c3
      have ia := inC_ofC (m := m) (l := a) (by omega) ra
      have ib := inC_ofC (m := m) (l := b) (by omega) rb
      have iab := inC_ofC (m := m) (l := a ++ b) (by simp; omega) rab
      have w1 : ∀ e ∈ a.map encRow, e.length = 6 := fun e he => by obtain ⟨x, _, rfl⟩ := List.mem_map.mp he; rfl
      have w2 : ∀ e ∈ b.map encRow, e.length = 6 := fun e he => by obtain ⟨x, _, rfl⟩ := List.mem_map.mp he; rfl
      have z1 : ([] : List (List CV)).length + (a.map encRow).length ≤ maxGrow := by simp [maxGrow]; omega
      have z2 : (a.map encRow).length + (b.map encRow).length ≤ maxGrow := by simp [maxGrow]; omega
      have c4 := C_cJoin m (ofC m a).1 (ofC m b).1 (inC_up (by decide) ia) (inC_up (by decide) ib)
      have c5 := C_cJoin m (ofC m b).1 (ofC m a).1 (inC_up (by decide) ib) (inC_up (by decide) ia)
      have c6 := sameC_T _ iab
      have nb : ∀ p q : Bool, eqC false [LK.b] (CV.bool p) (CV.bool q) = some (p == q) := fun p q => by simp [eqC, shEq]
      cases pa : (ofC m a).2 with
      | true =>
        cases pb : (ofC m b).2 with
        | true =>
          rw [joinC_ofC hm (by omega) (by omega) pa pb] at c4
          rw [joinC_ofC hm (by omega) (by omega) pb pa, ofC_perm (List.perm_append_comm (l₁ := b) (l₂ := a))] at c5
          rw [pa] at c1
          rw [pb] at c2
          generalize (ofC m (a ++ b)).1 = z at *
          generalize (ofC m (a ++ b)).2 = r at *
          generalize (ofC m a).1 = x at *
          generalize (ofC m b).1 = y at *
          have nr : eqC false [LK.b] (CV.bool r) (CV.bool r) = some true := by rw [nb]; simp
          repeat' (first
            | refine len_sl rfl lea ?_
            | refine len_sl rfl leb ?_
            | refine call1 rfl c0 ?_
            | refine call2 rfl rfl c1 ?_
            | refine call2 rfl rfl c2 ?_
            | refine call2 rfl rfl c3' ?_
            | refine call3 rfl rfl rfl c4 ?_
            | refine call3 rfl rfl rfl c5 ?_
            | refine call2 rfl rfl c6 ?_
            | refine app_own rfl rfl rfl rfl z1 w1 (List.nil_append _) rfl (fun _ _ => ?_)
            | refine app_cl rfl rfl rfl rfl z2 w2 rfl (fun _ => ?_)
            | refine eqs_t rfl rfl nr ?_
            | refine call0 hw ?_
            | refine w_seq ?_
            | refine w_ops ?_
            | refine st_nil ?_
            | refine th_n ?_
            | refine th_r ?_
            | refine w_skip ?_
            | refine w_ret ?_
            | refine w_true rfl ?_
            | refine w_false rfl ?_
            | refine g_yes rfl ?_
            | refine mv_c rfl ?_
            | refine pick_t rfl rfl ?_
            | refine pick_f rfl rfl ?_
            | refine gtr_f rfl rfl (by omega) ?_
            | refine alloc_ (fun u => ?_)
            | refine bsl_own rfl rfl rfl (fun u => ?_)
            | refine load_ptr rfl (by decide) rfl (Nat.le_of_ble_eq_true rfl) rfl ?_
            | refine store_ptr rfl rfl (by decide) rfl rfl (Nat.le_of_ble_eq_true rfl) rfl ?_
            | refine ext_ rfl rfl ?_)
          exact fin_r rfl rfl
        | false =>
          have hne : a ≠ [] := ((ofC_ok hm).mp pa).1
          have hpos : 0 < a.length := by
            cases a with
            | nil => exact absurd rfl hne
            | cons _ _ => simp
          by_cases hb0 : b = []
          · subst hb0
            rw [List.append_nil] at c3' c6
            rw [pa] at c1 c3'
            rw [pb] at c2
            have nr := nb true true
            simp only [List.map_nil, List.append_nil] at c3'
            generalize (ofC m a).1 = x at *
            generalize (ofC m []).1 = y at *
            repeat' (first
              | refine len_sl rfl lea ?_
              | refine len_sl (es := []) rfl rfl ?_
              | refine call1 rfl c0 ?_
              | refine call2 rfl rfl c1 ?_
              | refine call2 rfl rfl c2 ?_
              | refine call2 rfl rfl c6 ?_
              | refine app_own rfl rfl rfl rfl z1 w1 (List.nil_append _) rfl (fun _ _ => ?_)
              | refine app_cl rfl rfl rfl rfl z2 w2 (List.append_nil _) (fun _ => ?_)
              | refine eqs_f rfl rfl nr ?_
              | refine call0 hw ?_
              | refine w_seq ?_
              | refine w_ops ?_
              | refine st_nil ?_
              | refine th_n ?_
              | refine w_skip ?_
              | refine w_ret ?_
              | refine w_false rfl ?_
              | refine g_yes rfl ?_
              | refine g_no rfl ?_
              | refine g_un rfl ?_
              | refine mv_c rfl ?_
              | refine pick_t rfl rfl ?_
              | refine pick_f rfl rfl ?_
              | refine gtr_f rfl rfl (by omega) ?_
              | refine eql_f rfl rfl (by omega) ?_
              | refine eqd_ rfl rfl ?_
              | refine not_ rfl ?_
              | refine alloc_ (fun u => ?_)
              | refine bsl_own rfl rfl rfl (fun u => ?_)
              | refine load_ptr rfl (by decide) rfl (Nat.le_of_ble_eq_true rfl) rfl ?_
              | refine store_ptr rfl rfl (by decide) rfl rfl (Nat.le_of_ble_eq_true rfl) rfl ?_
              | refine ext_ rfl rfl ?_)
            exact fin_r rfl rfl
          · have hposb : 0 < b.length := by
              cases b with
              | nil => exact absurd rfl hb0
              | cons _ _ => simp
            rw [pa] at c1
            rw [pb] at c2
            generalize (ofC m (a ++ b)).1 = z at *
            generalize (ofC m (a ++ b)).2 = r at *
            repeat' (first
              | refine len_sl rfl lea ?_
              | refine len_sl rfl leb ?_
              | refine call1 rfl c0 ?_
              | refine call2 rfl rfl c1 ?_
              | refine call2 rfl rfl c2 ?_
              | refine call2 rfl rfl c3' ?_
              | refine app_own rfl rfl rfl rfl z1 w1 (List.nil_append _) rfl (fun _ _ => ?_)
              | refine app_cl rfl rfl rfl rfl z2 w2 rfl (fun _ => ?_)
              | refine call0 hw ?_
              | refine w_seq ?_
              | refine w_ops ?_
              | refine st_nil ?_
              | refine th_n ?_
              | refine w_skip ?_
              | refine w_ret ?_
              | refine w_false rfl ?_
              | refine g_yes rfl ?_
              | refine g_no rfl ?_
              | refine g_un rfl ?_
              | refine mv_c rfl ?_
              | refine pick_t rfl rfl ?_
              | refine pick_f rfl rfl ?_
              | refine gtr_f rfl rfl (by omega) ?_
              | refine eql_f rfl rfl (by omega) ?_
              | refine alloc_ (fun u => ?_)
              | refine bsl_own rfl rfl rfl (fun u => ?_)
              | refine store_ptr rfl rfl (by decide) rfl rfl (Nat.le_of_ble_eq_true rfl) rfl ?_
              | refine ext_ rfl rfl ?_)
            exact fin_r rfl rfl
      | false =>
        by_cases ha0 : a = []
        · subst ha0
          rw [List.nil_append] at c3' c6
          rw [pa] at c1
          simp only [List.map_nil, List.nil_append] at c3'
          have c7 := sameC_T _ ib
          have e0 : ofC m [] = (zeroC, false) := ofC_no pa
          generalize hQ : (ofC m b).2 = q at *
          have nr : eqC false [LK.b] (CV.bool q) (CV.bool q) = some true := by rw [nb]; simp
          by_cases hb0 : b = []
          · subst hb0
            rw [pa] at hQ
            subst hQ
            generalize (ofC m []).1 = y at *
            repeat' (first
              | refine len_sl (es := []) rfl rfl ?_
              | refine call1 rfl c0 ?_
              | refine call2 rfl rfl c1 ?_
              | refine call2 rfl rfl c7 ?_
              | refine app_own rfl rfl rfl rfl z1 w1 (List.nil_append _) rfl (fun _ _ => ?_)
              | refine app_cl rfl rfl rfl rfl z2 w2 (List.append_nil _) (fun _ => ?_)
              | refine eqs_f rfl rfl nr ?_
              | refine call0 hw ?_
              | refine w_seq ?_
              | refine w_ops ?_
              | refine st_nil ?_
              | refine th_n ?_
              | refine w_skip ?_
              | refine w_ret ?_
              | refine w_false rfl ?_
              | refine g_yes rfl ?_
              | refine g_no rfl ?_
              | refine mv_c rfl ?_
              | refine pick_t rfl rfl ?_
              | refine pick_f rfl rfl ?_
              | refine gtr_f rfl rfl (by omega) ?_
              | refine eqd_ rfl rfl ?_
              | refine not_ rfl ?_
              | refine alloc_ (fun u => ?_)
              | refine bsl_own rfl rfl rfl (fun u => ?_)
              | refine load_ptr rfl (by decide) rfl (Nat.le_of_ble_eq_true rfl) rfl ?_
              | refine store_ptr rfl rfl (by decide) rfl rfl (Nat.le_of_ble_eq_true rfl) rfl ?_
              | refine ext_ rfl rfl ?_)
            exact fin_r rfl rfl
          · have hposb : 0 < b.length := by
              cases b with
              | nil => exact absurd rfl hb0
              | cons _ _ => simp
            generalize (ofC m b).1 = y at *
            generalize (ofC m []).1 = x at *
            repeat' (first
              | refine len_sl rfl leb ?_
              | refine len_sl (es := []) rfl rfl ?_
              | refine call1 rfl c0 ?_
              | refine call2 rfl rfl c1 ?_
              | refine call2 rfl rfl c2 ?_
              | refine call2 rfl rfl c7 ?_
              | refine app_own rfl rfl rfl rfl z1 w1 (List.nil_append _) rfl (fun _ _ => ?_)
              | refine app_cl rfl rfl rfl rfl z2 w2 (List.nil_append _) (fun _ => ?_)
              | refine eqs_f rfl rfl nr ?_
              | refine call0 hw ?_
              | refine w_seq ?_
              | refine w_ops ?_
              | refine st_nil ?_
              | refine th_n ?_
              | refine w_skip ?_
              | refine w_ret ?_
              | refine w_false rfl ?_
              | refine g_yes rfl ?_
              | refine g_no rfl ?_
              | refine g_un rfl ?_
              | refine mv_c rfl ?_
              | refine pick_t rfl rfl ?_
              | refine pick_f rfl rfl ?_
              | refine gtr_f rfl rfl (by omega) ?_
              | refine eql_f rfl rfl (by omega) ?_
              | refine eqd_ rfl rfl ?_
              | refine not_ rfl ?_
              | refine alloc_ (fun u => ?_)
              | refine bsl_own rfl rfl rfl (fun u => ?_)
              | refine load_ptr rfl (by decide) rfl (Nat.le_of_ble_eq_true rfl) rfl ?_
              | refine store_ptr rfl rfl (by decide) rfl rfl (Nat.le_of_ble_eq_true rfl) rfl ?_
              | refine ext_ rfl rfl ?_)
            exact fin_r rfl rfl
        · have hpos : 0 < a.length := by
            cases a with
            | nil => exact absurd rfl ha0
            | cons _ _ => simp
          rw [pa] at c1
          by_cases hb0 : b = []
          · subst hb0
            have pb : (ofC m []).2 = false := by simp [ofC]
            rw [List.append_nil] at c3' c6
            rw [pa] at c3'
            rw [pb] at c2
            have nr := nb false false
            simp only [List.map_nil, List.append_nil] at c3'
            generalize (ofC m a).1 = x at *
            generalize (ofC m []).1 = y at *
            repeat' (first
              | refine len_sl rfl lea ?_
              | refine len_sl (es := []) rfl rfl ?_
              | refine call1 rfl c0 ?_
              | refine call2 rfl rfl c1 ?_
              | refine call2 rfl rfl c2 ?_
              | refine call2 rfl rfl c6 ?_
              | refine app_own rfl rfl rfl rfl z1 w1 (List.nil_append _) rfl (fun _ _ => ?_)
              | refine app_cl rfl rfl rfl rfl z2 w2 (List.append_nil _) (fun _ => ?_)
              | refine eqs_f rfl rfl nr ?_
              | refine call0 hw ?_
              | refine w_seq ?_
              | refine w_ops ?_
              | refine st_nil ?_
              | refine th_n ?_
              | refine w_skip ?_
              | refine w_ret ?_
              | refine w_false rfl ?_
              | refine g_yes rfl ?_
              | refine g_no rfl ?_
              | refine g_un rfl ?_
              | refine mv_c rfl ?_
              | refine pick_t rfl rfl ?_
              | refine pick_f rfl rfl ?_
              | refine gtr_f rfl rfl (by omega) ?_
              | refine eql_f rfl rfl (by omega) ?_
              | refine eqd_ rfl rfl ?_
              | refine not_ rfl ?_
              | refine alloc_ (fun u => ?_)
              | refine bsl_own rfl rfl rfl (fun u => ?_)
              | refine load_ptr rfl (by decide) rfl (Nat.le_of_ble_eq_true rfl) rfl ?_
              | refine store_ptr rfl rfl (by decide) rfl rfl (Nat.le_of_ble_eq_true rfl) rfl ?_
              | refine ext_ rfl rfl ?_)
            exact fin_r rfl rfl
          · have hposb : 0 < b.length := by
              cases b with
              | nil => exact absurd rfl hb0
              | cons _ _ => simp
            generalize (ofC m (a ++ b)).1 = z at *
            generalize (ofC m (a ++ b)).2 = r at *
            generalize (ofC m b).2 = q at *
            repeat' (first
              | refine len_sl rfl lea ?_
              | refine len_sl rfl leb ?_
              | refine call1 rfl c0 ?_
              | refine call2 rfl rfl c1 ?_
              | refine call2 rfl rfl c2 ?_
              | refine call2 rfl rfl c3' ?_
              | refine app_own rfl rfl rfl rfl z1 w1 (List.nil_append _) rfl (fun _ _ => ?_)
              | refine app_cl rfl rfl rfl rfl z2 w2 rfl (fun _ => ?_)
              | refine call0 hw ?_
              | refine w_seq ?_
              | refine w_ops ?_
              | refine st_nil ?_
              | refine th_n ?_
              | refine w_skip ?_
              | refine w_ret ?_
              | refine w_false rfl ?_
              | refine g_yes rfl ?_
              | refine g_no rfl ?_
              | refine g_un rfl ?_
              | refine mv_c rfl ?_
              | refine pick_f rfl rfl ?_
              | refine gtr_f rfl rfl (by omega) ?_
              | refine eql_f rfl rfl (by omega) ?_
              | refine alloc_ (fun u => ?_)
              | refine bsl_own rfl rfl rfl (fun u => ?_)
              | refine store_ptr rfl rfl (by decide) rfl rfl (Nat.le_of_ble_eq_true rfl) rfl ?_
              | refine ext_ rfl rfl ?_)
            exact fin_r rfl rfl
    · repeat' (first
      | refine len_sl rfl lea ?_
      | refine len_sl rfl leb ?_
      | refine call0 hw ?_
      | refine w_seq ?_
      | refine w_ops ?_
      | refine st_nil ?_
      | refine th_n ?_
      | refine th_r ?_
      | refine w_ret ?_
      | refine w_true rfl ?_
      | refine g_yes rfl ?_
      | refine mv_c rfl ?_
      | refine pick_f rfl rfl ?_
      | refine gtr_t rfl rfl (by omega) ?_
      | refine gtr_f rfl rfl (by omega) ?_)
      exact fin_r rfl rfl
  · repeat' (first
    | refine len_sl rfl lea ?_
    | refine call0 hw ?_
    | refine w_seq ?_
    | refine w_ops ?_
    | refine st_nil ?_
    | refine th_n ?_
    | refine th_r ?_
    | refine w_ret ?_
    | refine w_true rfl ?_
    | refine g_no rfl ?_
    | refine mv_c rfl ?_
    | refine pick_t rfl rfl ?_
    | refine gtr_t rfl rfl (by omega) ?_)
    exact fin_r rfl rfl
/-- what a slice of rows is, as a law's row hands it in -/
theorem ok_rows {c : CV} (h : LF.Ok (.sl [.int .u8, .int .u8, .int .u8, .int .u8, .int .i64, .int .i64]) c) : ∃ l, c = encRows l ∧ (∀ r ∈ l, inR r) ∧ l.length ≤ 9223372036854775807 := by
  cases h with
  | sl _ es hn hl hh =>
    have : ∀ e ∈ es, ∃ r : RowS, e = encRow r ∧ inR r := fun e he => by
      have h1 := hl e he
      match e, h1, hh e he with
      | [x0, x1, x2, x3, x4, x5], _, hh =>
        obtain ⟨a0, rfl, _⟩ := ok_u8 (hh 0 (by simp) (by simp))
        obtain ⟨a1, rfl, _⟩ := ok_u8 (hh 1 (by simp) (by simp))
        obtain ⟨a2, rfl, _⟩ := ok_u8 (hh 2 (by simp) (by simp))
        obtain ⟨a3, rfl, _⟩ := ok_u8 (hh 3 (by simp) (by simp))
        obtain ⟨a4, rfl, i4⟩ := ok_i64 (hh 4 (by simp) (by simp))
        obtain ⟨a5, rfl, i5⟩ := ok_i64 (hh 5 (by simp) (by simp))
        exact ⟨⟨⟨a0, a1, a2, a3⟩, a4, a5⟩, rfl, i4, i5⟩
    clear hl hh
    have : ∃ l : List RowS, es = l.map encRow ∧ ∀ r ∈ l, inR r := by
      induction es with
      | nil => exact ⟨[], rfl, fun a ha => by simp at ha⟩
      | cons e es ih =>
        obtain ⟨a, rfl, ha⟩ := this e (by simp)
        obtain ⟨l, rfl, hl⟩ := ih (by simp at hn; omega) (fun q hq => this q (by simp [hq]))
        exact ⟨a :: l, rfl, fun b hb => by
          rcases List.mem_cons.mp hb with rfl | hb
          · exact ha
          · exact hl b hb⟩
    obtain ⟨l, rfl, hl⟩ := this
    exact ⟨l, rfl, hl, by simpa [maxLen] using hn⟩
theorem L_CellJoins (c0 : CV) (h0 : LF.Ok .bool c0) (c1 : CV) (h1 : LF.Ok (.sl [.int .u8, .int .u8, .int .u8, .int .u8, .int .i64, .int .i64]) c1) (c2 : CV) (h2 : LF.Ok (.sl [.int .u8, .int .u8, .int .u8, .int .u8, .int .i64, .int .i64]) c2) : PCallG Try.prog 9 [.c c0, .c c1, .c c2] (.c (.bool true)) [] := by
  obtain ⟨two, rfl⟩ := ok_bool h0
  obtain ⟨a, rfl, ra, ha⟩ := ok_rows h1
  obtain ⟨b, rfl, rb, hb⟩ := ok_rows h2
  exact C_CellJoins two a b ra rb ha hb
end Go.Proofs.Ytcmejdkjfekoeaa

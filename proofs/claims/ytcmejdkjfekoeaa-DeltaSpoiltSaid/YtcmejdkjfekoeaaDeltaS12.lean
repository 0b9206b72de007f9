/- Part of the proof of DeltaTells, DeltaApplies, DeltaBack, DeltaJoins, DeltaSpoilt: lemmas. -/
import Derived.Test.YtcmejdkjfekoeaaDeltaS5
import Derived.Test.YtcmejdkjfekoeaaDeltaS9
import Derived.Test.YtcmejdkjfekoeaaDeltaS10
import Derived.Test.YtcmejdkjfekoeaaDeltaS11
set_option linter.unusedVariables false
set_option linter.unusedSimpArgs false
namespace Go.Proofs.Ytcmejdkjfekoeaa
open Go.Pl Go.Bag
set_option maxHeartbeats 16000000
set_option maxRecDepth 100000
def d5 : Delta := ⟨1, 5, 0, [(5, 1)], [], [], []⟩
def n5 : Delta := ⟨-1, -5, 0, [], [], [(5, 1)], []⟩
def c5_ : Cell := ⟨1, 5, 0, [(5, 1)], []⟩
theorem C_wakes10 : PCallG Try.prog 58 [] (.c (.bool true)) [] := by
  refine pcallF Try.func58 c58 rfl ?_
  have b1 : inB 1 [((5 : Int), (1 : Int))] := inB_one (by decide)
  have hd : inD 1 d5 := ⟨by decide, by decide, by decide, b1, inB_nil _, inB_nil _, inB_nil _⟩
  have hn : inD 1 n5 := ⟨by decide, by decide, by decide, inB_nil _, inB_nil _, b1, inB_nil _⟩
  have hc : inC 1 c5_ := ⟨by decide, by decide, by decide, b1.1, (inB_nil 0).1, by decide, by decide⟩
  have g1 : goodD 1 d5 = true := by decide
  have g2 : goodD 1 n5 = true := by decide
  have e1 : ofD 1 false ⟨⟨0, 0, 0, 0⟩, 5, 0⟩ = (d5, true) := by decide
  have e2 : negD 1 d5 = (n5, true) := by decide
  have e3 : ofC 1 [⟨⟨0, 0, 0, 0⟩, 5, 0⟩] = (c5_, true) := by rw [ofC_one (by decide) _ (by decide) (by decide)]; rfl
  have s0 : swap [((5 : Int), (1 : Int))] [(5, 1)] [] = ([], true) := by
    unfold Go.Bag.swap
    rw [show minus [((5 : Int), (1 : Int))] [(5, 1)] = ([], true) by decide]
    exact join_nil (a := []) (by decide)
  have ea : applyN 1 c5_ n5 = zeroC := by
    show Cell.mk (1 + -1) (5 + -5) (if (1 : Int) = 2 then _ else 0) (swap [(5, 1)] [(5, 1)] []).1 (if (1 : Int) = 2 then _ else []) = _
    rw [s0]; rfl
  have e4 : applyD 1 c5_ true n5 = (zeroC, false, true) := by
    unfold applyD
    rw [if_pos ⟨g2, by decide, ⟨by show (swap [((5 : Int), (1 : Int))] [(5, 1)] []).2 = true; rw [s0], fun h => by cases h⟩, ⟨by decide, fun h => by cases h⟩, by rw [ea]; decide⟩, ea]
    decide
  have j1 : join [((5 : Int), (1 : Int))] [] = ([(5, 1)], true) := join_nil (by decide)
  have j2 : join [] [((5 : Int), (1 : Int))] = ([(5, 1)], true) := by rw [join_comm]; exact join_nil (by decide)
  have e5 : joinD 1 d5 n5 = (zeroD, true) := by
    unfold joinD
    rw [if_pos ⟨g1, g2, by show (join [((5 : Int), (1 : Int))] []).2 = true; rw [j1], by show (join [] [((5 : Int), (1 : Int))]).2 = true; rw [j2], fun h => by cases h⟩]
    show mkD 1 (1 + -1) (join [(5, 1)] []).1 _ (join [] [(5, 1)]).1 _ = _
    rw [j1, j2, mkD_1 (j1 := []) (q1 := []) (by decide)]
    decide
  have e6 : betweenD 1 zeroC false c5_ true = (d5, true) := by decide
  have c1 : PCallG Try.prog 59 [.c (.int .i64 1), .c (encCh false ⟨⟨0, 0, 0, 0⟩, 5, 0⟩)] (.c (.tup [encDelta d5, .bool true])) [] := by
    have := C_dOf 1 false ⟨⟨0, 0, 0, 0⟩, 5, 0⟩ (by decide) (by decide); rw [e1] at this; exact this
  have c2 : PCallG Try.prog 63 [.c (.int .i64 1), .c (encDelta d5)] (.c (.tup [encDelta n5, .bool true])) [] := by
    have := C_dNeg 1 d5 (inD_to hd (by omega)); rw [e2] at this; exact this
  have c3 : PCallG Try.prog 45 [.c (.int .i64 1), .c (encRows [⟨⟨0, 0, 0, 0⟩, 5, 0⟩])] (.c (.tup [encCell c5_, .bool true])) [] := by
    have := C_cOf 1 [⟨⟨0, 0, 0, 0⟩, 5, 0⟩] (by decide) (by intro r hr; obtain rfl := List.mem_singleton.mp hr; exact ⟨by decide, by decide⟩); rw [e3] at this; exact this
  have c4 : PCallG Try.prog 74 [.c (.int .i64 1), .c (encCell c5_), .c (.bool true), .c (encDelta n5)] (.c (.tup [encCell zeroC, .bool false, .bool true])) [] := by
    have := C_dApply 1 c5_ true n5 (inC_to hc (by omega)) (inD_to hn (by omega)); rw [e4] at this; exact this
  have c6 : PCallG Try.prog 69 [.c (.int .i64 1), .c (encDelta d5), .c (encDelta n5)] (.c (.tup [encDelta zeroD, .bool true])) [] := by
    have := C_dJoin 1 d5 n5 (inD_to hd (by omega)) (inD_to hn (by omega)); rw [e5] at this; exact this
  have c7 : PCallG Try.prog 76 [.c (.int .i64 1), .c (encCell zeroC), .c (.bool false), .c (encCell c5_), .c (.bool true)] (.c (.tup [encDelta d5, .bool true])) [] := by
    have := C_dBetween 1 zeroC c5_ false true (inC_zero _) (inC_to hc (by omega)); rw [e6] at this; exact this
  have c8 : PCallG Try.prog 67 [.c (.int .i64 1), .c (encDelta zeroD)] (.c (.bool true)) [] := by
    have := C_dIdle 1 zeroD (inD_zero _); rw [show idleD 1 zeroD = true by decide] at this; exact this
  have c9 : PCallG Try.prog 67 [.c (.int .i64 1), .c (encDelta d5)] (.c (.bool false)) [] := by
    have := C_dIdle 1 d5 (inD_to hd (by omega)); rw [show idleD 1 d5 = false by decide] at this; exact this
  have c10 : PCallG Try.prog 71 [.c (encDelta d5), .c (encDelta d5)] (.c (.bool true)) [] := by
    have := C_dSame d5 d5 (inD_len hd (by omega)) (inD_len hd (by omega)); rw [decide_eq_true rfl] at this; exact this
  have c11 : PCallG Try.prog 65 [.c (.int .i64 1), .c (encDelta d5)] (.c (.bool true)) [] := by
    have := C_dGood 1 d5 (inD_to hd (by omega)); rw [g1] at this; exact this
  have c12 : PCallG Try.prog 65 [.c (.int .i64 2), .c (encDelta d5)] (.c (.bool false)) [] := by
    have := C_dGood 2 d5 (inD_to hd (by omega)); rw [show goodD 2 d5 = false by decide] at this; exact this
  unfold p58 r58_0 r58_1 r58_2 r58_3 r58_4 r58_5 r58_6 r58_7 r58_8 r58_9
  repeat' (first | refine call2 rfl rfl c1 ?_ | refine call2 rfl rfl c2 ?_ | refine call2 rfl rfl c3 ?_ | refine call4 rfl rfl rfl rfl c4 ?_ | refine call3 rfl rfl rfl c6 ?_ | refine call5 rfl rfl rfl rfl rfl c7 ?_ | refine call2 rfl rfl c8 ?_ | refine call2 rfl rfl c9 ?_ | refine call2 rfl rfl c10 ?_ | refine call2 rfl rfl c11 ?_ | refine call2 rfl rfl c12 ?_ | refine len_sl (n := 1) rfl rfl ?_ | refine w_seq ?_ | refine w_ops ?_ | refine st_nil ?_ | refine th_n ?_ | refine w_ret ?_ | refine g_yes rfl ?_ | refine mv_c rfl ?_ | refine pick_t rfl rfl ?_ | refine eql_t rfl rfl (by omega) ?_ | refine eqd_ rfl rfl ?_ | refine not_ rfl ?_ | refine alloc_ (fun u => ?_) | refine build_ rfl rfl ?_ | refine bsl_ rfl rfl ?_ | refine load_ptr rfl (by decide) rfl (Nat.le_of_ble_eq_true rfl) rfl ?_ | refine store_ptr rfl rfl (by decide) rfl rfl (Nat.le_of_ble_eq_true rfl) rfl ?_ | refine fad_ptr rfl rfl rfl ?_ | refine iaA_ptr rfl rfl rfl (by omega) rfl ?_ | refine ext_ rfl rfl ?_)
  exact fin_r rfl rfl
end Go.Proofs.Ytcmejdkjfekoeaa
namespace Go.Proofs.Ytcmejdkjfekoeaa
open Go.Pl Go.Bag
set_option maxHeartbeats 32000000
set_option maxRecDepth 100000
theorem C_Zero (c : Cell) (h0 : c.b0.length ≤ 1000000) (h1 : c.b1.length ≤ 1000000) : PCallG Try.prog 107 [.c (encCell c)] (.c (.bool (decide (c = zeroC)))) [] := by
  obtain ⟨n, s0, s1, b0, b1⟩ := c
  simp only at h0 h1
  show PCallG _ 107 [.c (.agg [.int .i64 n, .int .i64 s0, .int .i64 s1, encL b0, encL b1])] _ _
  refine pcallF Try.func107 c107 rfl ?_
  have hno : ∀ {p : Prop}, (Cell.mk n s0 s1 b0 b1 = zeroC → p) → ¬ p → decide (Cell.mk n s0 s1 b0 b1 = zeroC) = false := fun h hp => decide_eq_false fun e => hp (h e)
  unfold p107 r107_0 r107_1 r107_2 r107_3 r107_8
  by_cases z : n = 0
  · by_cases z0 : s0 = 0
    · cases b0 with
      | nil =>
        repeat' (first | refine w_seq ?_ | refine w_ops ?_ | refine st_nil ?_ | refine th_n ?_ | refine w_block ?_ | refine w_skip ?_ | refine w_false rfl ?_ | refine mv_c rfl ?_ | refine neq_f rfl rfl (by omega) ?_ | refine box_ rfl rfl rfl (fun u => ?_) | refine load_ptr rfl (by decide) rfl (Nat.le_of_ble_eq_true rfl) rfl ?_ | refine fad_ptr rfl rfl rfl ?_)
        refine w_loop ?_
        unfold b107_0 r107_4 r107_5 r107_6 r107_7
        repeat' (first | refine len_sl (es := []) rfl rfl ?_ | refine w_seq ?_ | refine w_ops ?_ | refine st_nil ?_ | refine th_n ?_ | refine bk_n ?_ | refine w_block ?_ | refine w_skip ?_ | refine w_true rfl ?_ | refine w_false rfl ?_ | refine g_yes rfl ?_ | refine mv_c rfl ?_ | refine pick_f rfl rfl ?_ | refine lss_t rfl rfl (by omega) ?_ | refine gtr_ rfl rfl ?_ | refine neq_f rfl rfl (by omega) ?_ | refine add_in rfl rfl (by omega) ?_ | refine load_ptr rfl (by decide) rfl (Nat.le_of_ble_eq_true rfl) rfl ?_ | refine fad_ptr rfl rfl rfl ?_ | refine iaA_ptr rfl rfl rfl (by omega) rfl ?_)
        refine w_loop ?_
        by_cases z1 : s1 = 0
        · cases b1 with
          | nil =>
            rw [decide_eq_true (show Cell.mk n s0 s1 [] [] = zeroC by rw [z, z0, z1]; rfl)]
            repeat' (first | refine len_sl (es := []) rfl rfl ?_ | refine w_seq ?_ | refine w_ops ?_ | refine st_nil ?_ | refine th_n ?_ | refine bk_n ?_ | refine w_block ?_ | refine w_skip ?_ | refine w_true rfl ?_ | refine w_false rfl ?_ | refine g_yes rfl ?_ | refine mv_c rfl ?_ | refine pick_f rfl rfl ?_ | refine lss_t rfl rfl (by omega) ?_ | refine gtr_ rfl rfl ?_ | refine neq_f rfl rfl (by omega) ?_ | refine add_in rfl rfl (by omega) ?_ | refine load_ptr rfl (by decide) rfl (Nat.le_of_ble_eq_true rfl) rfl ?_ | refine fad_ptr rfl rfl rfl ?_ | refine iaA_ptr rfl rfl rfl (by omega) rfl ?_)
            refine w_loop ?_
            repeat' (first | refine w_seq ?_ | refine w_ops ?_ | refine st_nil ?_ | refine th_n ?_ | refine th_x ?_ | refine bk_x ?_ | refine w_exit ?_ | refine w_ret ?_ | refine w_false rfl ?_ | refine mv_c rfl ?_ | refine lss_f rfl rfl (by omega) ?_)
            exact fin_r rfl rfl
          | cons x b1 =>
            rw [hno (congrArg Cell.b1) (by simp [zeroC])]
            have hp : 0 < (x :: b1).length := by simp
            repeat' (first | refine len_sl rfl (List.length_map _) ?_ | refine w_seq ?_ | refine w_ops ?_ | refine st_nil ?_ | refine th_n ?_ | refine th_r ?_ | refine bk_r ?_ | refine w_block ?_ | refine w_skip ?_ | refine w_ret ?_ | refine w_true rfl ?_ | refine g_yes rfl ?_ | refine mv_c rfl ?_ | refine pick_f rfl rfl ?_ | refine lss_t rfl rfl (by omega) ?_ | refine gtr_t rfl rfl (by omega) ?_ | refine neq_f rfl rfl (by omega) ?_ | refine load_ptr rfl (by decide) rfl (Nat.le_of_ble_eq_true rfl) rfl ?_ | refine fad_ptr rfl rfl rfl ?_ | refine iaA_ptr rfl rfl rfl (by omega) rfl ?_)
            exact fin_r rfl rfl
        · rw [hno (congrArg Cell.s1) z1]
          repeat' (first | refine w_seq ?_ | refine w_ops ?_ | refine st_nil ?_ | refine th_n ?_ | refine th_r ?_ | refine bk_r ?_ | refine w_block ?_ | refine w_skip ?_ | refine w_ret ?_ | refine w_true rfl ?_ | refine g_no rfl ?_ | refine mv_c rfl ?_ | refine pick_t rfl rfl ?_ | refine lss_t rfl rfl (by omega) ?_ | refine neq_t rfl rfl (by omega) ?_ | refine load_ptr rfl (by decide) rfl (Nat.le_of_ble_eq_true rfl) rfl ?_ | refine fad_ptr rfl rfl rfl ?_ | refine iaA_ptr rfl rfl rfl (by omega) rfl ?_)
          exact fin_r rfl rfl
      | cons x b0 =>
        rw [hno (congrArg Cell.b0) (by simp [zeroC])]
        have hp : 0 < (x :: b0).length := by simp
        repeat' (first | refine w_seq ?_ | refine w_ops ?_ | refine st_nil ?_ | refine th_n ?_ | refine w_block ?_ | refine w_skip ?_ | refine w_false rfl ?_ | refine mv_c rfl ?_ | refine neq_f rfl rfl (by omega) ?_ | refine box_ rfl rfl rfl (fun u => ?_) | refine load_ptr rfl (by decide) rfl (Nat.le_of_ble_eq_true rfl) rfl ?_ | refine fad_ptr rfl rfl rfl ?_)
        refine w_loop ?_
        unfold b107_0 r107_4 r107_5 r107_6 r107_7
        repeat' (first | refine len_sl rfl (List.length_map _) ?_ | refine w_seq ?_ | refine w_ops ?_ | refine st_nil ?_ | refine th_n ?_ | refine th_r ?_ | refine bk_r ?_ | refine w_block ?_ | refine w_skip ?_ | refine w_ret ?_ | refine w_true rfl ?_ | refine g_yes rfl ?_ | refine mv_c rfl ?_ | refine pick_f rfl rfl ?_ | refine lss_t rfl rfl (by omega) ?_ | refine gtr_t rfl rfl (by omega) ?_ | refine neq_f rfl rfl (by omega) ?_ | refine load_ptr rfl (by decide) rfl (Nat.le_of_ble_eq_true rfl) rfl ?_ | refine fad_ptr rfl rfl rfl ?_ | refine iaA_ptr rfl rfl rfl (by omega) rfl ?_)
        exact fin_r rfl rfl
    · rw [hno (congrArg Cell.s0) z0]
      repeat' (first | refine w_seq ?_ | refine w_ops ?_ | refine st_nil ?_ | refine th_n ?_ | refine w_block ?_ | refine w_skip ?_ | refine w_false rfl ?_ | refine mv_c rfl ?_ | refine neq_f rfl rfl (by omega) ?_ | refine box_ rfl rfl rfl (fun u => ?_) | refine load_ptr rfl (by decide) rfl (Nat.le_of_ble_eq_true rfl) rfl ?_ | refine fad_ptr rfl rfl rfl ?_)
      refine w_loop ?_
      unfold b107_0 r107_4 r107_5 r107_6 r107_7
      repeat' (first | refine w_seq ?_ | refine w_ops ?_ | refine st_nil ?_ | refine th_n ?_ | refine th_r ?_ | refine bk_r ?_ | refine w_block ?_ | refine w_skip ?_ | refine w_ret ?_ | refine w_true rfl ?_ | refine g_no rfl ?_ | refine mv_c rfl ?_ | refine pick_t rfl rfl ?_ | refine lss_t rfl rfl (by omega) ?_ | refine neq_t rfl rfl (by omega) ?_ | refine load_ptr rfl (by decide) rfl (Nat.le_of_ble_eq_true rfl) rfl ?_ | refine fad_ptr rfl rfl rfl ?_ | refine iaA_ptr rfl rfl rfl (by omega) rfl ?_)
      exact fin_r rfl rfl
  · rw [hno (congrArg Cell.n) z]
    repeat' (first | refine w_seq ?_ | refine w_ops ?_ | refine st_nil ?_ | refine th_n ?_ | refine th_r ?_ | refine w_ret ?_ | refine w_true rfl ?_ | refine mv_c rfl ?_ | refine neq_t rfl rfl (by omega) ?_ | refine box_ rfl rfl rfl (fun u => ?_) | refine load_ptr rfl (by decide) rfl (Nat.le_of_ble_eq_true rfl) rfl ?_ | refine fad_ptr rfl rfl rfl ?_)
    exact fin_r rfl rfl
theorem C_rdBetween (m : Int) (a b : Cell) (was is : Bool) (ha : inC 400000 a) (hb : inC 400000 b) : PCallG Try.prog 73 [.c (.int .i64 m), .c (encCell a), .c (.bool was), .c (encCell b), .c (.bool is)] (.c (rdV (betweenD m a was b is))) [] := by
  have c1 := C_rcGood m a (inC_to ha (by omega))
  have c2 := C_rcGood m b (inC_to hb (by omega))
  have c3 := C_Zero a (by have := ha.2.2.2.2.2.1; omega) (by have := ha.2.2.2.2.2.2; omega)
  have c4 := C_Zero b (by have := hb.2.2.2.2.2.1; omega) (by have := hb.2.2.2.2.2.2; omega)
  have hz : ¬ ((1 ≤ m ∧ m ≤ 2) ∧ mayC m a was = true ∧ mayC m b is = true) → betweenD m a was b is = (zeroD, false) := fun h => by unfold betweenD; rw [if_neg h]
  have hy : (1 ≤ m ∧ m ≤ 2) → mayC m a was = true → mayC m b is = true → betweenD m a was b is = mkD m (b.n - a.n) b.b0 b.b1 a.b0 a.b1 := fun h1 h2 h3 => by unfold betweenD; rw [if_pos ⟨h1, h2, h3⟩]
  have hpre := @betweenD_pre m a b was is
  have h2 := @mayC_is m a was
  have h3 := @mayC_is m b is
  have e1 : mayC m a was = if was then goodC m a else decide (a = zeroC) := rfl
  have e2 : mayC m b is = if is then goodC m b else decide (b = zeroC) := rfl
  generalize hA : mayC m a was = ga at *
  generalize hB : mayC m b is = gb at *
  generalize goodC m a = a1 at *
  generalize goodC m b = b1 at *
  generalize decide (a = zeroC) = a0 at *
  generalize decide (b = zeroC) = b0 at *
  obtain ⟨n, s0, s1, x0, x1⟩ := a
  obtain ⟨k, t0, t1, y0, y1⟩ := b
  obtain ⟨hn, hs0, hs1, hr0, hr1, hl0, hl1⟩ := ha
  obtain ⟨hk, ht0, ht1, hq0, hq1, hm0, hm1⟩ := hb
  simp only at hn hs0 hs1 hr0 hr1 hl0 hl1 hk ht0 ht1 hq0 hq1 hm0 hm1 h2 h3 hy hpre
  show PCallG _ 73 [.c (.int .i64 m), .c (.agg [.int .i64 n, .int .i64 s0, .int .i64 s1, encL x0, encL x1]), .c (.bool was), .c (.agg [.int .i64 k, .int .i64 t0, .int .i64 t1, encL y0, encL y1]), .c (.bool is)] _ _
  unfold encCell encC at c1 c2 c3 c4
  refine pcallF Try.func73 c73 rfl ?_
  unfold p73 r73_0 r73_1 r73_2 r73_3
  by_cases hm : 1 ≤ m ∧ m ≤ 2
  · have fin : ga = true → gb = true → PCallG Try.prog 101 [.c (.int .i64 m), .c (.int .i64 (k - n)), .c (.agg [encL y0, encL y1]), .c (.agg [encL x0, encL x1])] (.c (rdV (betweenD m ⟨n, s0, s1, x0, x1⟩ was ⟨k, t0, t1, y0, y1⟩ is))) [] := fun u v => by
      rw [hy hm u v]
      have := h2 u; have := h3 v
      exact C_rdMade m (k - n) y0 y1 x0 x1 (hpre hm u v) ⟨by omega, by omega⟩ (by omega) (by omega) (by omega) (by omega) hq0 hq1 hr0 hr1
    have hr1' : ga = true → 0 ≤ n ∧ n ≤ 1099511627776 := fun u => (h2 u).2.2
    have hr2' : gb = true → 0 ≤ k ∧ k ≤ 1099511627776 := fun u => (h3 u).2.2
    generalize hw : betweenD m ⟨n, s0, s1, x0, x1⟩ was ⟨k, t0, t1, y0, y1⟩ is = w at *
    obtain ⟨⟨_, _, _, _, _, _, _⟩, _⟩ := w
    cases was with
    | true =>
      simp only [if_true] at e1
      subst e1
      cases ga with
      | false =>
        rw [hz (fun h => by cases h.2.1)]
        repeat' (first | refine call2 rfl rfl c1 ?_ | refine w_seq ?_ | refine w_ops ?_ | refine st_nil ?_ | refine th_n ?_ | refine th_r ?_ | refine w_ret ?_ | refine w_true rfl ?_ | refine g_yes rfl ?_ | refine g_no rfl ?_ | refine g_un rfl ?_ | refine mv_c rfl ?_ | refine pick_t rfl rfl ?_ | refine pick_f rfl rfl ?_ | refine lss_f rfl rfl (by omega) ?_ | refine gtr_f rfl rfl (by omega) ?_ | refine not_ rfl ?_ | refine alloc_ (fun u => ?_) | refine box_ rfl rfl rfl (fun u => ?_) | refine build_ rfl rfl ?_ | refine load_ptr rfl (by decide) rfl (Nat.le_of_ble_eq_true rfl) rfl ?_ | refine store_ptr rfl rfl (by decide) rfl rfl (Nat.le_of_ble_eq_true rfl) rfl ?_)
        exact fin_r (rv_cell rfl rfl rfl rfl rv_nil) rfl
      | true =>
        have rn := hr1' rfl
        cases is with
        | true =>
          simp only [if_true] at e2
          subst e2
          cases gb with
          | false =>
            rw [hz (fun h => by cases h.2.2)]
            repeat' (first | refine call2 rfl rfl c1 ?_ | refine call2 rfl rfl c2 ?_ | refine w_seq ?_ | refine w_ops ?_ | refine st_nil ?_ | refine th_n ?_ | refine th_r ?_ | refine w_ret ?_ | refine w_true rfl ?_ | refine g_yes rfl ?_ | refine g_no rfl ?_ | refine g_un rfl ?_ | refine mv_c rfl ?_ | refine pick_t rfl rfl ?_ | refine pick_f rfl rfl ?_ | refine lss_f rfl rfl (by omega) ?_ | refine gtr_f rfl rfl (by omega) ?_ | refine not_ rfl ?_ | refine alloc_ (fun u => ?_) | refine box_ rfl rfl rfl (fun u => ?_) | refine build_ rfl rfl ?_ | refine load_ptr rfl (by decide) rfl (Nat.le_of_ble_eq_true rfl) rfl ?_ | refine store_ptr rfl rfl (by decide) rfl rfl (Nat.le_of_ble_eq_true rfl) rfl ?_)
            exact fin_r (rv_cell rfl rfl rfl rfl rv_nil) rfl
          | true =>
            have rk := hr2' rfl
            have c5 := fin rfl rfl
            repeat' (first | refine call2 rfl rfl c1 ?_ | refine call2 rfl rfl c2 ?_ | refine call4 rfl rfl rfl rfl c5 ?_ | refine w_seq ?_ | refine w_ops ?_ | refine st_nil ?_ | refine th_n ?_ | refine w_skip ?_ | refine w_ret ?_ | refine w_false rfl ?_ | refine g_yes rfl ?_ | refine g_no rfl ?_ | refine mv_c rfl ?_ | refine pick_t rfl rfl ?_ | refine pick_f rfl rfl ?_ | refine lss_f rfl rfl (by omega) ?_ | refine gtr_f rfl rfl (by omega) ?_ | refine not_ rfl ?_ | refine sub_in rfl rfl (by omega) ?_ | refine alloc_ (fun u => ?_) | refine box_ rfl rfl rfl (fun u => ?_) | refine load_ptr rfl (by decide) rfl (Nat.le_of_ble_eq_true rfl) rfl ?_ | refine store_ptr rfl rfl (by decide) rfl rfl (Nat.le_of_ble_eq_true rfl) rfl ?_ | refine fad_ptr rfl rfl rfl ?_)
            exact fin_r (rv_cell rfl rfl rfl rfl rv_nil) rfl
        | false =>
          simp only [Bool.false_eq_true, if_false] at e2
          subst e2
          cases gb with
          | false =>
            rw [hz (fun h => by cases h.2.2)]
            repeat' (first | refine call2 rfl rfl c1 ?_ | refine call1 rfl c4 ?_ | refine w_seq ?_ | refine w_ops ?_ | refine st_nil ?_ | refine th_n ?_ | refine th_r ?_ | refine w_ret ?_ | refine w_true rfl ?_ | refine g_yes rfl ?_ | refine g_no rfl ?_ | refine mv_c rfl ?_ | refine pick_t rfl rfl ?_ | refine pick_f rfl rfl ?_ | refine lss_f rfl rfl (by omega) ?_ | refine gtr_f rfl rfl (by omega) ?_ | refine not_ rfl ?_ | refine alloc_ (fun u => ?_) | refine box_ rfl rfl rfl (fun u => ?_) | refine build_ rfl rfl ?_ | refine load_ptr rfl (by decide) rfl (Nat.le_of_ble_eq_true rfl) rfl ?_ | refine store_ptr rfl rfl (by decide) rfl rfl (Nat.le_of_ble_eq_true rfl) rfl ?_)
            exact fin_r (rv_cell rfl rfl rfl rfl rv_nil) rfl
          | true =>
            have rk := hr2' rfl
            have c5 := fin rfl rfl
            repeat' (first | refine call2 rfl rfl c1 ?_ | refine call1 rfl c4 ?_ | refine call4 rfl rfl rfl rfl c5 ?_ | refine w_seq ?_ | refine w_ops ?_ | refine st_nil ?_ | refine th_n ?_ | refine w_skip ?_ | refine w_ret ?_ | refine w_false rfl ?_ | refine g_yes rfl ?_ | refine g_no rfl ?_ | refine mv_c rfl ?_ | refine pick_t rfl rfl ?_ | refine pick_f rfl rfl ?_ | refine lss_f rfl rfl (by omega) ?_ | refine gtr_f rfl rfl (by omega) ?_ | refine not_ rfl ?_ | refine sub_in rfl rfl (by omega) ?_ | refine alloc_ (fun u => ?_) | refine box_ rfl rfl rfl (fun u => ?_) | refine load_ptr rfl (by decide) rfl (Nat.le_of_ble_eq_true rfl) rfl ?_ | refine store_ptr rfl rfl (by decide) rfl rfl (Nat.le_of_ble_eq_true rfl) rfl ?_ | refine fad_ptr rfl rfl rfl ?_)
            exact fin_r (rv_cell rfl rfl rfl rfl rv_nil) rfl
    | false =>
      simp only [Bool.false_eq_true, if_false] at e1
      subst e1
      cases ga with
      | false =>
        rw [hz (fun h => by cases h.2.1)]
        repeat' (first | refine call1 rfl c3 ?_ | refine w_seq ?_ | refine w_ops ?_ | refine st_nil ?_ | refine th_n ?_ | refine th_r ?_ | refine w_ret ?_ | refine w_true rfl ?_ | refine g_yes rfl ?_ | refine g_no rfl ?_ | refine g_un rfl ?_ | refine mv_c rfl ?_ | refine pick_t rfl rfl ?_ | refine pick_f rfl rfl ?_ | refine lss_f rfl rfl (by omega) ?_ | refine gtr_f rfl rfl (by omega) ?_ | refine not_ rfl ?_ | refine alloc_ (fun u => ?_) | refine box_ rfl rfl rfl (fun u => ?_) | refine build_ rfl rfl ?_ | refine load_ptr rfl (by decide) rfl (Nat.le_of_ble_eq_true rfl) rfl ?_ | refine store_ptr rfl rfl (by decide) rfl rfl (Nat.le_of_ble_eq_true rfl) rfl ?_)
        exact fin_r (rv_cell rfl rfl rfl rfl rv_nil) rfl
      | true =>
        have rn := hr1' rfl
        cases is with
        | true =>
          simp only [if_true] at e2
          subst e2
          cases gb with
          | false =>
            rw [hz (fun h => by cases h.2.2)]
            repeat' (first | refine call1 rfl c3 ?_ | refine call2 rfl rfl c2 ?_ | refine w_seq ?_ | refine w_ops ?_ | refine st_nil ?_ | refine th_n ?_ | refine th_r ?_ | refine w_ret ?_ | refine w_true rfl ?_ | refine g_yes rfl ?_ | refine g_no rfl ?_ | refine g_un rfl ?_ | refine mv_c rfl ?_ | refine pick_t rfl rfl ?_ | refine pick_f rfl rfl ?_ | refine lss_f rfl rfl (by omega) ?_ | refine gtr_f rfl rfl (by omega) ?_ | refine not_ rfl ?_ | refine alloc_ (fun u => ?_) | refine box_ rfl rfl rfl (fun u => ?_) | refine build_ rfl rfl ?_ | refine load_ptr rfl (by decide) rfl (Nat.le_of_ble_eq_true rfl) rfl ?_ | refine store_ptr rfl rfl (by decide) rfl rfl (Nat.le_of_ble_eq_true rfl) rfl ?_)
            exact fin_r (rv_cell rfl rfl rfl rfl rv_nil) rfl
          | true =>
            have rk := hr2' rfl
            have c5 := fin rfl rfl
            repeat' (first | refine call1 rfl c3 ?_ | refine call2 rfl rfl c2 ?_ | refine call4 rfl rfl rfl rfl c5 ?_ | refine w_seq ?_ | refine w_ops ?_ | refine st_nil ?_ | refine th_n ?_ | refine w_skip ?_ | refine w_ret ?_ | refine w_false rfl ?_ | refine g_yes rfl ?_ | refine g_no rfl ?_ | refine mv_c rfl ?_ | refine pick_t rfl rfl ?_ | refine pick_f rfl rfl ?_ | refine lss_f rfl rfl (by omega) ?_ | refine gtr_f rfl rfl (by omega) ?_ | refine not_ rfl ?_ | refine sub_in rfl rfl (by omega) ?_ | refine alloc_ (fun u => ?_) | refine box_ rfl rfl rfl (fun u => ?_) | refine load_ptr rfl (by decide) rfl (Nat.le_of_ble_eq_true rfl) rfl ?_ | refine store_ptr rfl rfl (by decide) rfl rfl (Nat.le_of_ble_eq_true rfl) rfl ?_ | refine fad_ptr rfl rfl rfl ?_)
            exact fin_r (rv_cell rfl rfl rfl rfl rv_nil) rfl
        | false =>
          simp only [Bool.false_eq_true, if_false] at e2
          subst e2
          cases gb with
          | false =>
            rw [hz (fun h => by cases h.2.2)]
            repeat' (first | refine call1 rfl c3 ?_ | refine call1 rfl c4 ?_ | refine w_seq ?_ | refine w_ops ?_ | refine st_nil ?_ | refine th_n ?_ | refine th_r ?_ | refine w_ret ?_ | refine w_true rfl ?_ | refine g_yes rfl ?_ | refine g_no rfl ?_ | refine mv_c rfl ?_ | refine pick_t rfl rfl ?_ | refine pick_f rfl rfl ?_ | refine lss_f rfl rfl (by omega) ?_ | refine gtr_f rfl rfl (by omega) ?_ | refine not_ rfl ?_ | refine alloc_ (fun u => ?_) | refine box_ rfl rfl rfl (fun u => ?_) | refine build_ rfl rfl ?_ | refine load_ptr rfl (by decide) rfl (Nat.le_of_ble_eq_true rfl) rfl ?_ | refine store_ptr rfl rfl (by decide) rfl rfl (Nat.le_of_ble_eq_true rfl) rfl ?_)
            exact fin_r (rv_cell rfl rfl rfl rfl rv_nil) rfl
          | true =>
            have rk := hr2' rfl
            have c5 := fin rfl rfl
            repeat' (first | refine call1 rfl c3 ?_ | refine call1 rfl c4 ?_ | refine call4 rfl rfl rfl rfl c5 ?_ | refine w_seq ?_ | refine w_ops ?_ | refine st_nil ?_ | refine th_n ?_ | refine w_skip ?_ | refine w_ret ?_ | refine w_false rfl ?_ | refine g_yes rfl ?_ | refine g_no rfl ?_ | refine mv_c rfl ?_ | refine pick_t rfl rfl ?_ | refine pick_f rfl rfl ?_ | refine lss_f rfl rfl (by omega) ?_ | refine gtr_f rfl rfl (by omega) ?_ | refine not_ rfl ?_ | refine sub_in rfl rfl (by omega) ?_ | refine alloc_ (fun u => ?_) | refine box_ rfl rfl rfl (fun u => ?_) | refine load_ptr rfl (by decide) rfl (Nat.le_of_ble_eq_true rfl) rfl ?_ | refine store_ptr rfl rfl (by decide) rfl rfl (Nat.le_of_ble_eq_true rfl) rfl ?_ | refine fad_ptr rfl rfl rfl ?_)
            exact fin_r (rv_cell rfl rfl rfl rfl rv_nil) rfl
  · rw [hz (fun h => hm h.1)]
    by_cases h : m < 1
    · repeat' (first | refine w_seq ?_ | refine w_ops ?_ | refine st_nil ?_ | refine th_n ?_ | refine th_r ?_ | refine w_ret ?_ | refine w_true rfl ?_ | refine g_no rfl ?_ | refine g_un rfl ?_ | refine mv_c rfl ?_ | refine pick_t rfl rfl ?_ | refine lss_t rfl rfl (by omega) ?_ | refine alloc_ (fun u => ?_) | refine box_ rfl rfl rfl (fun u => ?_) | refine build_ rfl rfl ?_ | refine store_ptr rfl rfl (by decide) rfl rfl (Nat.le_of_ble_eq_true rfl) rfl ?_)
      exact fin_r (rv_cell rfl rfl rfl rfl rv_nil) rfl
    · repeat' (first | refine w_seq ?_ | refine w_ops ?_ | refine st_nil ?_ | refine th_n ?_ | refine th_r ?_ | refine w_ret ?_ | refine w_true rfl ?_ | refine g_yes rfl ?_ | refine g_no rfl ?_ | refine g_un rfl ?_ | refine mv_c rfl ?_ | refine pick_t rfl rfl ?_ | refine pick_f rfl rfl ?_ | refine lss_f rfl rfl (by omega) ?_ | refine gtr_t rfl rfl (by omega) ?_ | refine alloc_ (fun u => ?_) | refine box_ rfl rfl rfl (fun u => ?_) | refine build_ rfl rfl ?_ | refine store_ptr rfl rfl (by decide) rfl rfl (Nat.le_of_ble_eq_true rfl) rfl ?_)
      exact fin_r (rv_cell rfl rfl rfl rfl rv_nil) rfl
def lightD (d : Delta) : Bool := decide (d.i0.length ≤ 60 ∧ d.i1.length ≤ 60 ∧ d.o0.length ≤ 60 ∧ d.o1.length ≤ 60)
theorem mm_max3 {C : CallP} {l : List POp} {s : PS} {K : PS → Prop} {d : Nat} {x y z : PO} {k : IntKind} {a b c v : Int} (hx : s.ev x = .c (.int k a)) (hy : s.ev y = .c (.int k b)) (hz : s.ev z = .c (.int k c)) (hv : (if c > (if b > a then b else a) then c else (if b > a then b else a)) = v)
    (h : wL C l (s.put d (.c (.int k v))) K) : wL C (⟨some d, .mm true x [y, z], none⟩ :: l) s K := by
  have e : foldMm s true k a [y, z] = some v := by
    simp only [foldMm, PS.evc, hy, hz, if_true, hv]
  simp only [wL, wpL, wpG, wpK, pstep, PS.evc, hx, e, PS.putO] at h ⊢; exact h
theorem C_LightDelta (d : Delta) (h0 : d.i0.length ≤ 9223372036854775807) (h1 : d.i1.length ≤ 9223372036854775807) (h2 : d.o0.length ≤ 9223372036854775807) (h3 : d.o1.length ≤ 9223372036854775807) : PCallG Try.prog 57 [.c (encDelta d)] (.c (.bool (lightD d))) [] := by
  obtain ⟨n, s0, s1, i0, i1, o0, o1⟩ := d
  simp only at h0 h1 h2 h3
  show PCallG _ 57 [.c (.agg [.int .i64 n, .int .i64 s0, .int .i64 s1, encL i0, encL i1, encL o0, encL o1])] _ _
  refine pcallF Try.func57 c57 rfl ?_
  obtain ⟨M, hM⟩ : ∃ M : Int, (if (o0.length : Int) > (if (i0.length : Int) > 0 then (i0.length : Int) else 0) then (o0.length : Int) else (if (i0.length : Int) > 0 then (i0.length : Int) else 0)) = M := ⟨_, rfl⟩
  obtain ⟨L, hL⟩ : ∃ L : Int, (if (o1.length : Int) > (if (i1.length : Int) > M then (i1.length : Int) else M) then (o1.length : Int) else (if (i1.length : Int) > M then (i1.length : Int) else M)) = L := ⟨_, rfl⟩
  have key : L ≤ 60 ↔ i0.length ≤ 60 ∧ i1.length ≤ 60 ∧ o0.length ≤ 60 ∧ o1.length ≤ 60 := by
    subst hL; subst hM
    constructor
    · intro h
      refine ⟨?_, ?_, ?_, ?_⟩ <;> (repeat' split at h) <;> omega
    · intro h
      (repeat' split) <;> omega
  unfold p57 r57_0 r57_1 r57_2 r57_6
  repeat' (first | refine w_seq ?_ | refine w_ops ?_ | refine st_nil ?_ | refine th_n ?_ | refine w_block ?_ | refine mv_c rfl ?_ | refine box_ rfl rfl rfl (fun u => ?_))
  refine w_loop ?_
  unfold b57_0 r57_3 r57_4 r57_5
  repeat' (first | refine len_sl rfl (List.length_map _) ?_ | refine mm_max3 rfl rfl rfl hM ?_ | refine w_seq ?_ | refine w_ops ?_ | refine w_opsD0 rfl ?_ | refine st_nil ?_ | refine th_n ?_ | refine bk_n ?_ | refine w_block ?_ | refine w_skip ?_ | refine w_true rfl ?_ | refine mv_c rfl ?_ | refine lss_t rfl rfl (by omega) ?_ | refine add_in rfl rfl (by omega) ?_ | refine load_ptr rfl (by decide) rfl (Nat.le_of_ble_eq_true rfl) rfl ?_ | refine fad_ptr rfl rfl rfl ?_ | refine iaA_ptr rfl rfl rfl (by omega) rfl ?_)
  refine w_loop ?_
  repeat' (first | refine len_sl rfl (List.length_map _) ?_ | refine mm_max3 rfl rfl rfl hL ?_ | refine w_seq ?_ | refine w_ops ?_ | refine w_opsD0 rfl ?_ | refine st_nil ?_ | refine th_n ?_ | refine bk_n ?_ | refine w_block ?_ | refine w_skip ?_ | refine w_true rfl ?_ | refine mv_c rfl ?_ | refine lss_t rfl rfl (by omega) ?_ | refine add_in rfl rfl (by omega) ?_ | refine load_ptr rfl (by decide) rfl (Nat.le_of_ble_eq_true rfl) rfl ?_ | refine fad_ptr rfl rfl rfl ?_ | refine iaA_ptr rfl rfl rfl (by omega) rfl ?_)
  refine w_loop ?_
  by_cases h : L ≤ 60
  · rw [show lightD ⟨n, s0, s1, i0, i1, o0, o1⟩ = true from decide_eq_true (key.mp h)]
    repeat' (first | refine w_seq ?_ | refine w_ops ?_ | refine st_nil ?_ | refine th_n ?_ | refine th_x ?_ | refine bk_x ?_ | refine w_exit ?_ | refine w_ret ?_ | refine w_false rfl ?_ | refine mv_c rfl ?_ | refine lss_f rfl rfl (by omega) ?_ | refine leq_t rfl rfl (by omega) ?_)
    exact fin_r rfl rfl
  · rw [show lightD ⟨n, s0, s1, i0, i1, o0, o1⟩ = false from decide_eq_false (fun k => h (key.mpr k))]
    repeat' (first | refine w_seq ?_ | refine w_ops ?_ | refine st_nil ?_ | refine th_n ?_ | refine th_x ?_ | refine bk_x ?_ | refine w_exit ?_ | refine w_ret ?_ | refine w_false rfl ?_ | refine mv_c rfl ?_ | refine lss_f rfl rfl (by omega) ?_ | refine leq_f rfl rfl (by omega) ?_)
    exact fin_r rfl rfl
end Go.Proofs.Ytcmejdkjfekoeaa
namespace Go.Proofs.Ytcmejdkjfekoeaa
open Go.Pl Go.Bag
set_option maxHeartbeats 32000000
set_option maxRecDepth 100000
theorem C_many10 (two : Bool) : PCallG Try.prog 80 [.c (.bool two)] (.c (.int .i64 (if two then 2 else 1))) [] := by
  refine pcallF Try.func80 c80 rfl ?_
  unfold p80 r80_0 r80_1 r80_2 r80_3
  cases two <;>
  repeat' (first | refine w_seq ?_ | refine w_ops ?_ | refine st_nil ?_ | refine th_n ?_ | refine th_r ?_ | refine w_skip ?_ | refine w_ret ?_ | refine w_true rfl ?_ | refine w_false rfl ?_ | refine mv_c rfl ?_)
  all_goals exact fin_r rfl rfl
theorem w_cut {C : CallP} {p q : PCode} {s : PS} {K : Ex → PS → Prop} (R : PS → Prop) (h1 : wP C p s (xT R K)) (h2 : ∀ s', R s' → wP C q s' K) : wP C (.seq p q) s K := by
  refine w_seq ?_
  unfold wP xT at *
  refine pwp_mono (fun e s h => ?_) h1
  cases e with
  | n => exact h2 s h
  | x i => exact h
  | r => exact h
theorem ne_self {C : CallP} {l : List POp} {s : PS} {K : PS → Prop} {d : Nat} {x y : PO} {a : Bool} (hx : s.ev x = .c (.bool a)) (hy : s.ev y = .c (.bool a)) (h : wL C l (s.put d (.c (.bool false))) K) : wL C (⟨some d, .eqs true false [.b] x y, none⟩ :: l) s K :=
  neqB_ hx hy (by rw [show (!(a == a)) = false by simp]; exact h)
theorem lightD_in {d : Delta} (h : inD 9223372036854775807 d) (hl : lightD d = true) : inD 60 d := by
  obtain ⟨h1, h2, h3, h4, h5, h6, h7⟩ := h
  simp only [lightD, decide_eq_true_eq] at hl
  exact ⟨h1, h2, h3, ⟨h4.1, hl.1⟩, ⟨h5.1, hl.2.1⟩, ⟨h6.1, hl.2.2.1⟩, ⟨h7.1, hl.2.2.2⟩⟩
theorem C_DeltaJoins (two : Bool) (A B D : Delta) (hA : inD 9223372036854775807 A) (hB : inD 9223372036854775807 B) (hD : inD 9223372036854775807 D) : PCallG Try.prog 18 [.c (.bool two), .c (.agg (encD A ++ (encD B ++ encD D)))] (.c (.bool true)) [] := by
  have cw := C_wakes10
  have l1 := C_LightDelta A hA.2.2.2.1.2 hA.2.2.2.2.1.2 hA.2.2.2.2.2.1.2 hA.2.2.2.2.2.2.2
  have l2 := C_LightDelta B hB.2.2.2.1.2 hB.2.2.2.2.1.2 hB.2.2.2.2.2.1.2 hB.2.2.2.2.2.2.2
  have l3 := C_LightDelta D hD.2.2.2.1.2 hD.2.2.2.2.1.2 hD.2.2.2.2.2.1.2 hD.2.2.2.2.2.2.2
  refine pcallF Try.func18 c18 rfl ?_
  unfold p18 r18_0 r18_1 r18_2 r18_3 r18_4 r18_5 r18_6 r18_7 r18_8 r18_9 r18_10 r18_11 r18_12 r18_13 r18_14 r18_15 r18_16 r18_17 r18_18 r18_19 r18_20 r18_21
  cases q1 : lightD A with
  | false =>
    rw [q1] at l1
    repeat' (first | refine call1 rfl l1 ?_ | refine call0 cw ?_ | refine w_seq ?_ | refine w_ops ?_ | refine st_nil ?_ | refine th_n ?_ | refine th_r ?_ | refine w_ret ?_ | refine w_true rfl ?_ | refine g_no rfl ?_ | refine mv_c rfl ?_ | refine pick_t rfl rfl ?_ | refine not_ rfl ?_ | refine box_ rfl rfl rfl (fun u => ?_) | refine load_ptr rfl (by decide) rfl (Nat.le_of_ble_eq_true rfl) rfl ?_ | refine fad_ptr rfl rfl rfl ?_)
    exact fin_r rfl rfl
  | true =>
    rw [q1] at l1
    cases q2 : lightD B with
    | false =>
      rw [q2] at l2
      repeat' (first | refine call1 rfl l1 ?_ | refine call1 rfl l2 ?_ | refine call0 cw ?_ | refine w_seq ?_ | refine w_ops ?_ | refine st_nil ?_ | refine th_n ?_ | refine th_r ?_ | refine w_ret ?_ | refine w_true rfl ?_ | refine g_yes rfl ?_ | refine g_no rfl ?_ | refine mv_c rfl ?_ | refine pick_t rfl rfl ?_ | refine pick_f rfl rfl ?_ | refine not_ rfl ?_ | refine box_ rfl rfl rfl (fun u => ?_) | refine load_ptr rfl (by decide) rfl (Nat.le_of_ble_eq_true rfl) rfl ?_ | refine fad_ptr rfl rfl rfl ?_)
      exact fin_r rfl rfl
    | true =>
      rw [q2] at l2
      cases q3 : lightD D with
      | false =>
        rw [q3] at l3
        repeat' (first | refine call1 rfl l1 ?_ | refine call1 rfl l2 ?_ | refine call1 rfl l3 ?_ | refine call0 cw ?_ | refine w_seq ?_ | refine w_ops ?_ | refine st_nil ?_ | refine th_n ?_ | refine th_r ?_ | refine w_ret ?_ | refine w_true rfl ?_ | refine g_yes rfl ?_ | refine mv_c rfl ?_ | refine pick_f rfl rfl ?_ | refine not_ rfl ?_ | refine box_ rfl rfl rfl (fun u => ?_) | refine load_ptr rfl (by decide) rfl (Nat.le_of_ble_eq_true rfl) rfl ?_ | refine fad_ptr rfl rfl rfl ?_)
        exact fin_r rfl rfl
      | true =>
        rw [q3] at l3
        have iA := lightD_in hA q1
        have iB := lightD_in hB q2
        have iD := lightD_in hD q3
        have cm := C_many10 two
        generalize (if two then (2 : Int) else 1) = m at cm
        have j1 := C_dJoin m A B (inD_to iA (by omega)) (inD_to iB (by omega))
        have j2 := C_dJoin m B A (inD_to iB (by omega)) (inD_to iA (by omega))
        rw [joinD_comm m B A] at j2
        have ix := inD_join (m := m) iA iB
        have iv := inD_join (m := m) iB iD
        have j3 := C_dJoin m (joinD m A B).1 D (inD_to ix (by omega)) (inD_to iD (by omega))
        have j4 := C_dJoin m B D (inD_to iB (by omega)) (inD_to iD (by omega))
        have j5 := C_dJoin m A (joinD m B D).1 (inD_to iA (by omega)) (inD_to iv (by omega))
        have iu := inD_join (m := m) ix iD
        have iw := inD_join (m := m) iA iv
        have sx := C_dSame (joinD m A B).1 (joinD m A B).1 (inD_len ix (by omega)) (inD_len ix (by omega))
        have su := C_dSame (joinD m (joinD m A B).1 D).1 (joinD m A (joinD m B D).1).1 (inD_len iu (by omega)) (inD_len iw (by omega))
        rw [decide_eq_true rfl] at sx
        have has := @joinD_assoc m A B D
        have n1 := C_dNeg m A (inD_to iA (by omega))
        have inn := inD_neg (m := m) iA
        have n2 := C_dNeg m (negD m A).1 (inD_to inn (by omega))
        have z1 := C_dJoin m (negD m A).1 A (inD_to inn (by omega)) (inD_to iA (by omega))
        have sA := C_dSame A A (inD_len iA (by omega)) (inD_len iA (by omega))
        rw [decide_eq_true rfl] at sA
        have hnn : (negD m A).2 = true → negD m (negD m A).1 = (A, true) := fun h => neg_neg h iA.2.1 iA.2.2.1
        have hnj : (negD m A).2 = true → (joinD m (negD m A).1 A).2 = true → (joinD m (negD m A).1 A).1 = zeroD ∧ (1 ≤ m ∧ m ≤ 2) := fun h h' => ⟨neg_join h h', (goodD_iff.mp (negD_ok h).1).1⟩
        have cI := C_dIdle m zeroD (inD_zero _)
        have sZ := C_dSame zeroD zeroD lenD_zero lenD_zero
        rw [decide_eq_true rfl] at sZ
        unfold dV at j1 j2 j3 j4 j5 n1 n2 z1
        generalize hx : (joinD m A B).1 = x at *
        generalize hp : (joinD m A B).2 = p at *
        generalize hv : (joinD m B D).1 = v at *
        generalize hs : (joinD m B D).2 = s at *
        generalize hu : (joinD m x D).1 = u at *
        generalize hr : (joinD m x D).2 = r at *
        generalize hw : (joinD m A v).1 = w at *
        generalize ht : (joinD m A v).2 = t at *
        generalize hn : (negD m A).1 = n at *
        generalize hf : (negD m A).2 = f at *
        generalize hz : (joinD m n A).1 = z at *
        generalize hh : (joinD m n A).2 = h at *
        have hq : p = true → r = true → s = true → t = true → decide (u = w) = true := fun h1 h2 h3 h4 => decide_eq_true (has h1 h2 h3 h4)
        generalize decide (u = w) = q at su hq
        repeat' (first | refine w_cut (p := .seq (.ops false r18_11) _) (fun s' => ∃ v, s'.t 3 = .ptr 3 v 0 ∧ s'.bx 3 = ⟨v, .var (encD A ++ (encD B ++ encD D))⟩ ∧ s'.t 5 = .c (.int .i64 m)) ?_ ?_ | refine ne_self rfl rfl ?_ | refine call1 rfl l1 ?_ | refine call1 rfl l2 ?_ | refine call1 rfl l3 ?_ | refine call1 rfl cm ?_ | refine call3 rfl rfl rfl j1 ?_ | refine call3 rfl rfl rfl j2 ?_ | refine call3 rfl rfl rfl j3 ?_ | refine call3 rfl rfl rfl j4 ?_ | refine call3 rfl rfl rfl j5 ?_ | refine call2 rfl rfl sx ?_ | refine call2 rfl rfl su ?_ | refine w_seq ?_ | refine w_ops ?_ | refine st_nil ?_ | refine th_n ?_ | refine th_r ?_ | refine w_skip ?_ | refine w_ret ?_ | refine w_false rfl ?_ | refine w_cond rfl (fun hc => ?_) (fun hc => ?_) | refine g_yes rfl ?_ | refine g_no rfl ?_ | refine g_split rfl (fun hg => ?_) (fun hg => ?_) | refine mv_c rfl ?_ | refine pick_t rfl rfl ?_ | refine pick_f rfl rfl ?_ | refine not_ rfl ?_ | refine alloc_ (fun u => ?_) | refine box_ rfl rfl rfl (fun u => ?_) | refine load_ptr rfl (by decide) rfl (Nat.le_of_ble_eq_true rfl) rfl ?_ | refine store_ptr rfl rfl (by decide) rfl rfl (Nat.le_of_ble_eq_true rfl) rfl ?_ | refine fad_ptr rfl rfl rfl ?_ | refine ext_ rfl rfl ?_)
        all_goals first | exact ⟨_, rfl, rfl, rfl⟩ | (exfalso; have := hq (by assumption) (by assumption) (by assumption) (by assumption); simp_all; done) | skip
        rintro s' ⟨v3, t3, b3, t5⟩
        rw [← put_same t3, ← box_same b3, ← put_same t5]
        cases f with
        | false =>
          repeat' (first | refine call2 rfl rfl n1 ?_ | refine call0 cw ?_ | refine w_seq ?_ | refine w_ops ?_ | refine st_nil ?_ | refine th_n ?_ | refine w_skip ?_ | refine w_ret ?_ | refine w_false rfl ?_ | refine mv_c rfl ?_ | refine alloc_ (fun u => ?_) | refine load_ptr rfl (by decide) rfl (Nat.le_of_ble_eq_true rfl) rfl ?_ | refine store_ptr rfl rfl (by decide) rfl rfl (Nat.le_of_ble_eq_true rfl) rfl ?_ | refine fad_ptr rfl rfl rfl ?_ | refine ext_ rfl rfl ?_)
          exact fin_r rfl rfl
        | true =>
          rw [hnn rfl] at n2
          cases h with
          | false =>
            repeat' (first | refine call2 rfl rfl n1 ?_ | refine call2 rfl rfl n2 ?_ | refine call2 rfl rfl sA ?_ | refine call3 rfl rfl rfl z1 ?_ | refine call0 cw ?_ | refine w_seq ?_ | refine w_ops ?_ | refine st_nil ?_ | refine th_n ?_ | refine w_skip ?_ | refine w_ret ?_ | refine w_true rfl ?_ | refine w_false rfl ?_ | refine g_yes rfl ?_ | refine g_no rfl ?_ | refine g_un rfl ?_ | refine mv_c rfl ?_ | refine pick_f rfl rfl ?_ | refine not_ rfl ?_ | refine alloc_ (fun u => ?_) | refine load_ptr rfl (by decide) rfl (Nat.le_of_ble_eq_true rfl) rfl ?_ | refine store_ptr rfl rfl (by decide) rfl rfl (Nat.le_of_ble_eq_true rfl) rfl ?_ | refine fad_ptr rfl rfl rfl ?_ | refine ext_ rfl rfl ?_)
            exact fin_r rfl rfl
          | true =>
            obtain ⟨rfl, hm⟩ := hnj rfl rfl
            rw [show idleD m zeroD = true by unfold idleD; rw [goodD_zero hm]; rfl] at cI
            repeat' (first | refine call2 rfl rfl n1 ?_ | refine call2 rfl rfl n2 ?_ | refine call2 rfl rfl sA ?_ | refine call3 rfl rfl rfl z1 ?_ | refine call2 rfl rfl cI ?_ | refine call2 rfl rfl sZ ?_ | refine call0 cw ?_ | refine w_seq ?_ | refine w_ops ?_ | refine st_nil ?_ | refine th_n ?_ | refine w_skip ?_ | refine w_ret ?_ | refine w_true rfl ?_ | refine w_false rfl ?_ | refine g_yes rfl ?_ | refine mv_c rfl ?_ | refine pick_t rfl rfl ?_ | refine pick_f rfl rfl ?_ | refine not_ rfl ?_ | refine alloc_ (fun u => ?_) | refine build_ rfl rfl ?_ | refine load_ptr rfl (by decide) rfl (Nat.le_of_ble_eq_true rfl) rfl ?_ | refine store_ptr rfl rfl (by decide) rfl rfl (Nat.le_of_ble_eq_true rfl) rfl ?_ | refine fad_ptr rfl rfl rfl ?_ | refine ext_ rfl rfl ?_)
            exact fin_r rfl rfl
theorem ok_delta {cs : List CV} (h : OkL [.int .i64, .int .i64, .int .i64, .sl [.int .i64, .int .i64], .sl [.int .i64, .int .i64], .sl [.int .i64, .int .i64], .sl [.int .i64, .int .i64]] cs) : ∃ d : Delta, cs = encD d ∧ inD 9223372036854775807 d := by
  obtain ⟨hl, he⟩ := h
  match cs, hl, he with
  | [x0, x1, x2, x3, x4, x5, x6], _, he =>
    obtain ⟨n, rfl, q0⟩ := ok_i64 (he 0 (by simp) (by simp))
    obtain ⟨s0, rfl, q1⟩ := ok_i64 (he 1 (by simp) (by simp))
    obtain ⟨s1, rfl, q2⟩ := ok_i64 (he 2 (by simp) (by simp))
    obtain ⟨i0, rfl, q3, k3⟩ := ok_runs (he 3 (by simp) (by simp))
    obtain ⟨i1, rfl, q4, k4⟩ := ok_runs (he 4 (by simp) (by simp))
    obtain ⟨o0, rfl, q5, k5⟩ := ok_runs (he 5 (by simp) (by simp))
    obtain ⟨o1, rfl, q6, k6⟩ := ok_runs (he 6 (by simp) (by simp))
    exact ⟨⟨n, s0, s1, i0, i1, o0, o1⟩, rfl, q0, q1, q2, ⟨q3, k3⟩, ⟨q4, k4⟩, ⟨q5, k5⟩, ⟨q6, k6⟩⟩
theorem okL_append {k l : List LF} {cs : List CV} (h : OkL (k ++ l) cs) : ∃ a b, cs = a ++ b ∧ OkL k a ∧ OkL l b := by
  obtain ⟨hl, he⟩ := h
  simp only [List.length_append] at hl
  refine ⟨cs.take k.length, cs.drop k.length, (List.take_append_drop _ _).symm, ⟨by simp; omega, fun i h1 h2 => ?_⟩, ⟨by simp; omega, fun i h1 h2 => ?_⟩⟩
  · have := he i (by simp; omega) (by simp at h2; omega)
    rw [List.getElem_append_left h1] at this
    simpa using this
  · have := he (k.length + i) (by simp; omega) (by simp at h2; omega)
    rw [List.getElem_append_right (by omega)] at this
    simpa using this
theorem L_DeltaJoins (c0 : CV) (h0 : LF.Ok .bool c0) (c1 : List CV) (h1 : OkL [.int .i64, .int .i64, .int .i64, .sl [.int .i64, .int .i64], .sl [.int .i64, .int .i64], .sl [.int .i64, .int .i64], .sl [.int .i64, .int .i64], .int .i64, .int .i64, .int .i64, .sl [.int .i64, .int .i64], .sl [.int .i64, .int .i64], .sl [.int .i64, .int .i64], .sl [.int .i64, .int .i64], .int .i64, .int .i64, .int .i64, .sl [.int .i64, .int .i64], .sl [.int .i64, .int .i64], .sl [.int .i64, .int .i64], .sl [.int .i64, .int .i64]] c1) :
    PCallG Try.prog 18 [.c c0, .c (.agg c1)] (.c (.bool true)) [] := by
  obtain ⟨two, rfl⟩ := ok_bool h0
  obtain ⟨a, b, rfl, ha, hb⟩ := okL_append (k := [.int .i64, .int .i64, .int .i64, .sl [.int .i64, .int .i64], .sl [.int .i64, .int .i64], .sl [.int .i64, .int .i64], .sl [.int .i64, .int .i64]]) h1
  obtain ⟨b, d, rfl, hb, hd⟩ := okL_append (k := [.int .i64, .int .i64, .int .i64, .sl [.int .i64, .int .i64], .sl [.int .i64, .int .i64], .sl [.int .i64, .int .i64], .sl [.int .i64, .int .i64]]) hb
  obtain ⟨A, rfl, iA⟩ := ok_delta ha
  obtain ⟨B, rfl, iB⟩ := ok_delta hb
  obtain ⟨D, rfl, iD⟩ := ok_delta hd
  exact C_DeltaJoins two A B D iA iB iD
end Go.Proofs.Ytcmejdkjfekoeaa
namespace Go.Proofs.Ytcmejdkjfekoeaa
open Go.Pl Go.Bag
set_option maxHeartbeats 32000000
set_option maxRecDepth 100000
theorem C_rdNeg (m : Int) (d : Delta) (hd : inD 400000 d) : PCallG Try.prog 64 [.c (.int .i64 m), .c (encDelta d)] (.c (rdV (negD m d))) [] := by
  have c1 := C_rdGood m d (inD_to hd (by omega))
  obtain ⟨n, s0, s1, i0, i1, o0, o1⟩ := d
  obtain ⟨hn, hs0, hs1, ⟨ri0, li0⟩, ⟨ri1, li1⟩, ⟨ro0, lo0⟩, ⟨ro1, lo1⟩⟩ := hd
  simp only at hn hs0 hs1 ri0 li0 ri1 li1 ro0 lo0 ro1 lo1
  show PCallG _ 64 [.c (.int .i64 m), .c (.agg [.int .i64 n, .int .i64 s0, .int .i64 s1, encL i0, encL i1, encL o0, encL o1])] _ _
  unfold encDelta encD at c1
  refine pcallF Try.func64 c64 rfl ?_
  unfold p64 r64_0 r64_1 r64_2 r64_3
  cases ga : goodD m ⟨n, s0, s1, i0, i1, o0, o1⟩ with
  | false =>
    rw [ga] at c1
    rw [show negD m ⟨n, s0, s1, i0, i1, o0, o1⟩ = (zeroD, false) by unfold negD; rw [ga]; rfl]
    repeat' (first | refine call2 rfl rfl c1 ?_ | refine w_seq ?_ | refine w_ops ?_ | refine st_nil ?_ | refine th_n ?_ | refine th_r ?_ | refine w_ret ?_ | refine w_true rfl ?_ | refine mv_c rfl ?_ | refine not_ rfl ?_ | refine alloc_ (fun u => ?_) | refine box_ rfl rfl rfl (fun u => ?_) | refine build_ rfl rfl ?_ | refine load_ptr rfl (by decide) rfl (Nat.le_of_ble_eq_true rfl) rfl ?_ | refine store_ptr rfl rfl (by decide) rfl rfl (Nat.le_of_ble_eq_true rfl) rfl ?_)
    exact fin_r (rv_cell rfl rfl rfl rfl rv_nil) rfl
  | true =>
    rw [ga] at c1
    have hp := negD_pre ga
    obtain ⟨hm, hnn, _⟩ := goodD_iff.mp ga
    simp only at hnn hp
    have c2 := C_rdMade m (-n) o0 o1 i0 i1 hp ⟨by omega, by omega⟩ (by omega) (by omega) (by omega) (by omega) ro0 ro1 ri0 ri1
    rw [show negD m ⟨n, s0, s1, i0, i1, o0, o1⟩ = mkD m (-n) o0 o1 i0 i1 by unfold negD; rw [if_pos ga]]
    generalize mkD m (-n) o0 o1 i0 i1 = w at c2
    obtain ⟨⟨_, _, _, _, _, _, _⟩, _⟩ := w
    repeat' (first | refine call2 rfl rfl c1 ?_ | refine call4 rfl rfl rfl rfl c2 ?_ | refine w_seq ?_ | refine w_ops ?_ | refine st_nil ?_ | refine th_n ?_ | refine w_skip ?_ | refine w_ret ?_ | refine w_false rfl ?_ | refine mv_c rfl ?_ | refine not_ rfl ?_ | refine neg_in rfl (by omega) ?_ | refine alloc_ (fun u => ?_) | refine box_ rfl rfl rfl (fun u => ?_) | refine load_ptr rfl (by decide) rfl (Nat.le_of_ble_eq_true rfl) rfl ?_ | refine store_ptr rfl rfl (by decide) rfl rfl (Nat.le_of_ble_eq_true rfl) rfl ?_ | refine fad_ptr rfl rfl rfl ?_)
    exact fin_r (rv_cell rfl rfl rfl rfl rv_nil) rfl
theorem C_rdOf (m : Int) (del : Bool) (r : RowS) (h0 : in64 r.m0) (h1 : in64 r.m1) : PCallG Try.prog 60 [.c (.int .i64 m), .c (encCh del r)] (.c (rdV (ofD m del r))) [] := by
  obtain ⟨⟨p0, p1, p2, p3⟩, m0, m1⟩ := r
  simp only at h0 h1
  show PCallG _ 60 [.c (.int .i64 m), .c (.agg [.bool del, .int .u8 p0, .int .u8 p1, .int .u8 p2, .int .u8 p3, .int .i64 m0, .int .i64 m1])] _ _
  refine pcallF Try.func60 c60 rfl ?_
  unfold p60 r60_0 r60_1 r60_2 r60_3 r60_4 r60_5 r60_13
  by_cases hm : 1 ≤ m ∧ m ≤ 2
  · obtain ⟨q1, q2⟩ := ofD_pre hm m0 m1
    have rn : ranged [] := (inB_nil 0).1
    have rx := (inB_one h0).1
    have ry := (inB_one h1).1
    have c1 := C_rdMade m 1 [(m0, 1)] [(m1, 1)] [] [] q1 (by decide) (by simp) (by simp) (by simp) (by simp) rx ry rn rn
    have c2 := C_rdMade m (-1) [] [] [(m0, 1)] [(m1, 1)] q2 (by decide) (by simp) (by simp) (by simp) (by simp) rn rn rx ry
    have c3 : m ≠ 2 → PCallG Try.prog 101 [.c (.int .i64 m), .c (.int .i64 1), .c (.agg [encL [(m0, 1)], encL []]), .c (.agg [encL [], encL []])] (.c (rdV (mkD m 1 [(m0, 1)] [(m1, 1)] [] []))) [] := fun hm2 => by
      rw [mkD_1 (j1 := []) (q1 := []) hm2]
      exact C_rdMade m 1 [(m0, 1)] [] [] [] ⟨hm, q1.2.1, fun h => absurd h hm2⟩ (by decide) (by simp) (by simp) (by simp) (by simp) rx rn rn rn
    have c4 : m ≠ 2 → PCallG Try.prog 101 [.c (.int .i64 m), .c (.int .i64 (-1)), .c (.agg [encL [], encL []]), .c (.agg [encL [(m0, 1)], encL []])] (.c (rdV (mkD m (-1) [] [] [(m0, 1)] [(m1, 1)]))) [] := fun hm2 => by
      rw [mkD_1 (j1 := []) (q1 := []) hm2]
      exact C_rdMade m (-1) [] [] [(m0, 1)] [] ⟨hm, q2.2.1, fun h => absurd h hm2⟩ (by decide) (by simp) (by simp) (by simp) (by simp) rn rn rx rn
    rw [show ofD m del ⟨⟨p0, p1, p2, p3⟩, m0, m1⟩ = if del then mkD m (-1) [] [] [(m0, 1)] [(m1, 1)] else mkD m 1 [(m0, 1)] [(m1, 1)] [] [] by unfold ofD; rw [if_pos hm]]
    cases del with
    | true =>
      simp only [if_true]
      generalize mkD m (-1) [] [] [(m0, 1)] [(m1, 1)] = w at c2 c4
      obtain ⟨⟨_, _, _, _, _, _, _⟩, _⟩ := w
      repeat' (first | refine w_seq ?_ | refine w_ops ?_ | refine st_nil ?_ | refine th_n ?_ | refine w_block ?_ | refine w_skip ?_ | refine w_false rfl ?_ | refine g_yes rfl ?_ | refine mv_c rfl ?_ | refine pick_f rfl rfl ?_ | refine lss_f rfl rfl (by omega) ?_ | refine gtr_f rfl rfl (by omega) ?_ | refine alloc_ (fun u => ?_) | refine box_ rfl rfl rfl (fun u => ?_))
      refine w_loop ?_
      unfold b60_0 r60_6 r60_7 r60_8 r60_9 r60_10 r60_11 r60_12
      repeat' (first | refine w_seq ?_ | refine w_ops ?_ | refine st_nil ?_ | refine th_n ?_ | refine bk_n ?_ | refine w_block ?_ | refine w_skip ?_ | refine w_true rfl ?_ | refine mv_c rfl ?_ | refine lss_t rfl rfl (by omega) ?_ | refine add_in rfl rfl (by omega) ?_ | refine build_ rfl rfl ?_ | refine bsl_ rfl rfl ?_ | refine load_ptr rfl (by decide) rfl (Nat.le_of_ble_eq_true rfl) rfl ?_ | refine store_ptr rfl rfl (by decide) rfl rfl (Nat.le_of_ble_eq_true rfl) rfl ?_ | refine fad_ptr rfl rfl rfl ?_ | refine iaA_ptr rfl rfl rfl (by omega) rfl ?_)
      refine w_loop ?_
      by_cases hm2 : m = 2
      · repeat' (first | refine w_seq ?_ | refine w_ops ?_ | refine st_nil ?_ | refine th_n ?_ | refine bk_n ?_ | refine w_block ?_ | refine w_skip ?_ | refine w_true rfl ?_ | refine mv_c rfl ?_ | refine lss_t rfl rfl (by omega) ?_ | refine add_in rfl rfl (by omega) ?_ | refine build_ rfl rfl ?_ | refine bsl_ rfl rfl ?_ | refine load_ptr rfl (by decide) rfl (Nat.le_of_ble_eq_true rfl) rfl ?_ | refine store_ptr rfl rfl (by decide) rfl rfl (Nat.le_of_ble_eq_true rfl) rfl ?_ | refine fad_ptr rfl rfl rfl ?_ | refine iaA_ptr rfl rfl rfl (by omega) rfl ?_)
        refine w_loop ?_
        repeat' (first | refine call4 rfl rfl rfl rfl c2 ?_ | refine w_seq ?_ | refine w_ops ?_ | refine st_nil ?_ | refine th_n ?_ | refine th_x ?_ | refine bk_x ?_ | refine w_exit ?_ | refine w_ret ?_ | refine w_false rfl ?_ | refine mv_c rfl ?_ | refine lss_f rfl rfl (by omega) ?_ | refine load_ptr rfl (by decide) rfl (Nat.le_of_ble_eq_true rfl) rfl ?_ | refine store_ptr rfl rfl (by decide) rfl rfl (Nat.le_of_ble_eq_true rfl) rfl ?_)
        exact fin_r (rv_cell rfl rfl rfl rfl rv_nil) rfl
      · have c5 := c4 hm2
        repeat' (first | refine call4 rfl rfl rfl rfl c5 ?_ | refine w_seq ?_ | refine w_ops ?_ | refine st_nil ?_ | refine th_n ?_ | refine th_x ?_ | refine bk_x ?_ | refine w_exit ?_ | refine w_ret ?_ | refine w_false rfl ?_ | refine mv_c rfl ?_ | refine lss_f rfl rfl (by omega) ?_ | refine load_ptr rfl (by decide) rfl (Nat.le_of_ble_eq_true rfl) rfl ?_ | refine store_ptr rfl rfl (by decide) rfl rfl (Nat.le_of_ble_eq_true rfl) rfl ?_)
        exact fin_r (rv_cell rfl rfl rfl rfl rv_nil) rfl
    | false =>
      simp only [Bool.false_eq_true, if_false]
      generalize mkD m 1 [(m0, 1)] [(m1, 1)] [] [] = w at c1 c3
      obtain ⟨⟨_, _, _, _, _, _, _⟩, _⟩ := w
      repeat' (first | refine w_seq ?_ | refine w_ops ?_ | refine st_nil ?_ | refine th_n ?_ | refine w_block ?_ | refine w_skip ?_ | refine w_false rfl ?_ | refine g_yes rfl ?_ | refine mv_c rfl ?_ | refine pick_f rfl rfl ?_ | refine lss_f rfl rfl (by omega) ?_ | refine gtr_f rfl rfl (by omega) ?_ | refine alloc_ (fun u => ?_) | refine box_ rfl rfl rfl (fun u => ?_))
      refine w_loop ?_
      unfold b60_0 r60_6 r60_7 r60_8 r60_9 r60_10 r60_11 r60_12
      repeat' (first | refine w_seq ?_ | refine w_ops ?_ | refine st_nil ?_ | refine th_n ?_ | refine bk_n ?_ | refine w_block ?_ | refine w_skip ?_ | refine w_true rfl ?_ | refine w_false rfl ?_ | refine mv_c rfl ?_ | refine lss_t rfl rfl (by omega) ?_ | refine add_in rfl rfl (by omega) ?_ | refine build_ rfl rfl ?_ | refine bsl_ rfl rfl ?_ | refine load_ptr rfl (by decide) rfl (Nat.le_of_ble_eq_true rfl) rfl ?_ | refine store_ptr rfl rfl (by decide) rfl rfl (Nat.le_of_ble_eq_true rfl) rfl ?_ | refine fad_ptr rfl rfl rfl ?_ | refine iaA_ptr rfl rfl rfl (by omega) rfl ?_)
      refine w_loop ?_
      by_cases hm2 : m = 2
      · repeat' (first | refine w_seq ?_ | refine w_ops ?_ | refine st_nil ?_ | refine th_n ?_ | refine bk_n ?_ | refine w_block ?_ | refine w_skip ?_ | refine w_true rfl ?_ | refine w_false rfl ?_ | refine mv_c rfl ?_ | refine lss_t rfl rfl (by omega) ?_ | refine add_in rfl rfl (by omega) ?_ | refine build_ rfl rfl ?_ | refine bsl_ rfl rfl ?_ | refine load_ptr rfl (by decide) rfl (Nat.le_of_ble_eq_true rfl) rfl ?_ | refine store_ptr rfl rfl (by decide) rfl rfl (Nat.le_of_ble_eq_true rfl) rfl ?_ | refine fad_ptr rfl rfl rfl ?_ | refine iaA_ptr rfl rfl rfl (by omega) rfl ?_)
        refine w_loop ?_
        repeat' (first | refine call4 rfl rfl rfl rfl c1 ?_ | refine w_seq ?_ | refine w_ops ?_ | refine st_nil ?_ | refine th_n ?_ | refine th_x ?_ | refine bk_x ?_ | refine w_exit ?_ | refine w_ret ?_ | refine w_false rfl ?_ | refine mv_c rfl ?_ | refine lss_f rfl rfl (by omega) ?_ | refine load_ptr rfl (by decide) rfl (Nat.le_of_ble_eq_true rfl) rfl ?_ | refine store_ptr rfl rfl (by decide) rfl rfl (Nat.le_of_ble_eq_true rfl) rfl ?_)
        exact fin_r (rv_cell rfl rfl rfl rfl rv_nil) rfl
      · have c5 := c3 hm2
        repeat' (first | refine call4 rfl rfl rfl rfl c5 ?_ | refine w_seq ?_ | refine w_ops ?_ | refine st_nil ?_ | refine th_n ?_ | refine th_x ?_ | refine bk_x ?_ | refine w_exit ?_ | refine w_ret ?_ | refine w_false rfl ?_ | refine mv_c rfl ?_ | refine lss_f rfl rfl (by omega) ?_ | refine load_ptr rfl (by decide) rfl (Nat.le_of_ble_eq_true rfl) rfl ?_ | refine store_ptr rfl rfl (by decide) rfl rfl (Nat.le_of_ble_eq_true rfl) rfl ?_)
        exact fin_r (rv_cell rfl rfl rfl rfl rv_nil) rfl
  · rw [show ofD m del ⟨⟨p0, p1, p2, p3⟩, m0, m1⟩ = (zeroD, false) by unfold ofD; rw [if_neg hm]]
    by_cases h : m < 1
    · repeat' (first | refine w_seq ?_ | refine w_ops ?_ | refine st_nil ?_ | refine th_n ?_ | refine th_r ?_ | refine w_ret ?_ | refine w_true rfl ?_ | refine g_no rfl ?_ | refine mv_c rfl ?_ | refine pick_t rfl rfl ?_ | refine lss_t rfl rfl (by omega) ?_ | refine alloc_ (fun u => ?_) | refine box_ rfl rfl rfl (fun u => ?_) | refine build_ rfl rfl ?_ | refine store_ptr rfl rfl (by decide) rfl rfl (Nat.le_of_ble_eq_true rfl) rfl ?_)
      exact fin_r (rv_cell rfl rfl rfl rfl rv_nil) rfl
    · repeat' (first | refine w_seq ?_ | refine w_ops ?_ | refine st_nil ?_ | refine th_n ?_ | refine th_r ?_ | refine w_ret ?_ | refine w_true rfl ?_ | refine g_yes rfl ?_ | refine mv_c rfl ?_ | refine pick_f rfl rfl ?_ | refine lss_f rfl rfl (by omega) ?_ | refine gtr_t rfl rfl (by omega) ?_ | refine alloc_ (fun u => ?_) | refine box_ rfl rfl rfl (fun u => ?_) | refine build_ rfl rfl ?_ | refine store_ptr rfl rfl (by decide) rfl rfl (Nat.le_of_ble_eq_true rfl) rfl ?_)
      exact fin_r (rv_cell rfl rfl rfl rfl rv_nil) rfl
theorem C_rdJoin (m : Int) (a b : Delta) (ha : inD 400000 a) (hb : inD 400000 b) : PCallG Try.prog 70 [.c (.int .i64 m), .c (encDelta a), .c (encDelta b)] (.c (rdV (joinD m a b))) [] := by
  have c1 := C_rdGood m a (inD_to ha (by omega))
  have c2 := C_rdGood m b (inD_to hb (by omega))
  have hz : ¬ (goodD m a = true ∧ goodD m b = true ∧ joks m a b) → joinD m a b = (zeroD, false) := fun h => by unfold joinD; rw [if_neg h]
  have hy : goodD m a = true → goodD m b = true → joks m a b → joinD m a b = mkD m (a.n + b.n) (join a.i0 b.i0).1 (join a.i1 b.i1).1 (join a.o0 b.o0).1 (join a.o1 b.o1).1 := fun h1 h2 h3 => by unfold joinD; rw [if_pos ⟨h1, h2, h3⟩]
  have hpre := @joinD_pre m a b
  obtain ⟨n, s0, s1, i0, i1, o0, o1⟩ := a
  obtain ⟨k, t0, t1, j0, j1, q0, q1⟩ := b
  obtain ⟨hn, hs0, hs1, bi0, bi1, bo0, bo1⟩ := ha
  obtain ⟨hk, ht0, ht1, bj0, bj1, bq0, bq1⟩ := hb
  simp only at hn hs0 hs1 bi0 bi1 bo0 bo1 hk ht0 ht1 bj0 bj1 bq0 bq1 hy hpre
  have x0 := inB_join bi0 bj0
  have x1 := inB_join bi1 bj1
  have x2 := inB_join bo0 bq0
  have x3 := inB_join bo1 bq1
  have c3 := C_rJoin i0 j0 (by have := bi0.2; omega) (by have := bj0.2; omega)
  have c4 := C_rJoin o0 q0 (by have := bo0.2; omega) (by have := bq0.2; omega)
  have c5 := C_rJoin i1 j1 (by have := bi1.2; omega) (by have := bj1.2; omega)
  have c6 := C_rJoin o1 q1 (by have := bo1.2; omega) (by have := bq1.2; omega)
  unfold bagV at c3 c4 c5 c6
  show PCallG _ 70 [.c (.int .i64 m), .c (.agg [.int .i64 n, .int .i64 s0, .int .i64 s1, encL i0, encL i1, encL o0, encL o1]), .c (.agg [.int .i64 k, .int .i64 t0, .int .i64 t1, encL j0, encL j1, encL q0, encL q1])] _ _
  unfold encDelta encD at c1 c2
  refine pcallF Try.func70 c70 rfl ?_
  unfold p70 r70_0 r70_1 r70_2 r70_3 r70_4 r70_12
  cases ga : goodD m ⟨n, s0, s1, i0, i1, o0, o1⟩ with
  | false =>
    rw [ga] at c1
    rw [hz (fun h => by rw [ga] at h; cases h.1)]
    repeat' (first | refine call2 rfl rfl c1 ?_ | refine w_seq ?_ | refine w_ops ?_ | refine st_nil ?_ | refine th_n ?_ | refine th_r ?_ | refine w_ret ?_ | refine w_true rfl ?_ | refine g_no rfl ?_ | refine mv_c rfl ?_ | refine pick_t rfl rfl ?_ | refine not_ rfl ?_ | refine alloc_ (fun u => ?_) | refine box_ rfl rfl rfl (fun u => ?_) | refine build_ rfl rfl ?_ | refine load_ptr rfl (by decide) rfl (Nat.le_of_ble_eq_true rfl) rfl ?_ | refine store_ptr rfl rfl (by decide) rfl rfl (Nat.le_of_ble_eq_true rfl) rfl ?_)
    exact fin_r (rv_cell rfl rfl rfl rfl rv_nil) rfl
  | true =>
    rw [ga] at c1
    cases gb : goodD m ⟨k, t0, t1, j0, j1, q0, q1⟩ with
    | false =>
      rw [gb] at c2
      rw [hz (fun h => by rw [gb] at h; cases h.2.1)]
      repeat' (first | refine call2 rfl rfl c1 ?_ | refine call2 rfl rfl c2 ?_ | refine w_seq ?_ | refine w_ops ?_ | refine st_nil ?_ | refine th_n ?_ | refine th_r ?_ | refine w_ret ?_ | refine w_true rfl ?_ | refine g_yes rfl ?_ | refine mv_c rfl ?_ | refine pick_f rfl rfl ?_ | refine not_ rfl ?_ | refine alloc_ (fun u => ?_) | refine box_ rfl rfl rfl (fun u => ?_) | refine build_ rfl rfl ?_ | refine load_ptr rfl (by decide) rfl (Nat.le_of_ble_eq_true rfl) rfl ?_ | refine store_ptr rfl rfl (by decide) rfl rfl (Nat.le_of_ble_eq_true rfl) rfl ?_)
      exact fin_r (rv_cell rfl rfl rfl rfl rv_nil) rfl
    | true =>
      rw [gb] at c2
      obtain ⟨hm, hnn, _⟩ := goodD_iff.mp ga
      obtain ⟨_, hkk, _⟩ := goodD_iff.mp gb
      simp only at hnn hkk
      have hno : ∀ {p : Prop}, (joks m ⟨n, s0, s1, i0, i1, o0, o1⟩ ⟨k, t0, t1, j0, j1, q0, q1⟩ → p) → ¬ p → joinD m ⟨n, s0, s1, i0, i1, o0, o1⟩ ⟨k, t0, t1, j0, j1, q0, q1⟩ = (zeroD, false) := fun h hp => hz fun k => hp (h k.2.2)
      cases h3 : (join i0 j0).2 with
      | false =>
        rw [h3] at c3
        rw [hno (fun h => h.1) (by rw [h3]; simp)]
        repeat' (first | refine call2 rfl rfl c1 ?_ | refine call2 rfl rfl c2 ?_ | refine w_seq ?_ | refine w_ops ?_ | refine st_nil ?_ | refine th_n ?_ | refine w_block ?_ | refine w_skip ?_ | refine w_false rfl ?_ | refine g_yes rfl ?_ | refine mv_c rfl ?_ | refine pick_f rfl rfl ?_ | refine not_ rfl ?_ | refine alloc_ (fun u => ?_) | refine box_ rfl rfl rfl (fun u => ?_) | refine load_ptr rfl (by decide) rfl (Nat.le_of_ble_eq_true rfl) rfl ?_)
        refine w_loop ?_
        unfold b70_0 r70_5 r70_6 r70_7 r70_8 r70_9 r70_10 r70_11
        repeat' (first | refine call2 rfl rfl c3 ?_ | refine call2 rfl rfl c4 ?_ | refine w_seq ?_ | refine w_ops ?_ | refine w_opsD2 rfl (fun u u => ?_) | refine st_nil ?_ | refine th_n ?_ | refine th_r ?_ | refine bk_r ?_ | refine w_block ?_ | refine w_skip ?_ | refine w_ret ?_ | refine w_true rfl ?_ | refine g_no rfl ?_ | refine mv_c rfl ?_ | refine pick_t rfl rfl ?_ | refine lss_t rfl rfl (by omega) ?_ | refine not_ rfl ?_ | refine alloc_ (fun u => ?_) | refine build_ rfl rfl ?_ | refine load_ptr rfl (by decide) rfl (Nat.le_of_ble_eq_true rfl) rfl ?_ | refine store_ptr rfl rfl (by decide) rfl rfl (Nat.le_of_ble_eq_true rfl) rfl ?_ | refine fad_ptr rfl rfl rfl ?_ | refine iaA_ptr rfl rfl rfl (by omega) rfl ?_)
        exact fin_r (rv_cell rfl rfl rfl rfl rv_nil) rfl
      | true =>
        rw [h3] at c3
        cases h4 : (join o0 q0).2 with
        | false =>
          rw [h4] at c4
          rw [hno (fun h => h.2.1) (by rw [h4]; simp)]
          repeat' (first | refine call2 rfl rfl c1 ?_ | refine call2 rfl rfl c2 ?_ | refine w_seq ?_ | refine w_ops ?_ | refine st_nil ?_ | refine th_n ?_ | refine w_block ?_ | refine w_skip ?_ | refine w_false rfl ?_ | refine g_yes rfl ?_ | refine mv_c rfl ?_ | refine pick_f rfl rfl ?_ | refine not_ rfl ?_ | refine alloc_ (fun u => ?_) | refine box_ rfl rfl rfl (fun u => ?_) | refine load_ptr rfl (by decide) rfl (Nat.le_of_ble_eq_true rfl) rfl ?_)
          refine w_loop ?_
          unfold b70_0 r70_5 r70_6 r70_7 r70_8 r70_9 r70_10 r70_11
          repeat' (first | refine call2 rfl rfl c3 ?_ | refine call2 rfl rfl c4 ?_ | refine w_seq ?_ | refine w_ops ?_ | refine w_opsD2 rfl (fun u u => ?_) | refine st_nil ?_ | refine th_n ?_ | refine th_r ?_ | refine bk_r ?_ | refine w_block ?_ | refine w_skip ?_ | refine w_ret ?_ | refine w_true rfl ?_ | refine g_yes rfl ?_ | refine mv_c rfl ?_ | refine pick_f rfl rfl ?_ | refine lss_t rfl rfl (by omega) ?_ | refine not_ rfl ?_ | refine alloc_ (fun u => ?_) | refine build_ rfl rfl ?_ | refine load_ptr rfl (by decide) rfl (Nat.le_of_ble_eq_true rfl) rfl ?_ | refine store_ptr rfl rfl (by decide) rfl rfl (Nat.le_of_ble_eq_true rfl) rfl ?_ | refine fad_ptr rfl rfl rfl ?_ | refine iaA_ptr rfl rfl rfl (by omega) rfl ?_)
          exact fin_r (rv_cell rfl rfl rfl rfl rv_nil) rfl
        | true =>
          rw [h4] at c4
          by_cases hm2 : m = 2
          · cases h5 : (join i1 j1).2 with
            | false =>
              rw [h5] at c5
              rw [hno (fun h => (h.2.2 hm2).1) (by rw [h5]; simp)]
              repeat' (first | refine call2 rfl rfl c1 ?_ | refine call2 rfl rfl c2 ?_ | refine w_seq ?_ | refine w_ops ?_ | refine st_nil ?_ | refine th_n ?_ | refine w_block ?_ | refine w_skip ?_ | refine w_false rfl ?_ | refine g_yes rfl ?_ | refine mv_c rfl ?_ | refine pick_f rfl rfl ?_ | refine not_ rfl ?_ | refine alloc_ (fun u => ?_) | refine box_ rfl rfl rfl (fun u => ?_) | refine load_ptr rfl (by decide) rfl (Nat.le_of_ble_eq_true rfl) rfl ?_)
              refine w_loop ?_
              unfold b70_0 r70_5 r70_6 r70_7 r70_8 r70_9 r70_10 r70_11
              repeat' (first | refine call2 rfl rfl c3 ?_ | refine call2 rfl rfl c4 ?_ | refine w_seq ?_ | refine w_ops ?_ | refine w_opsD2 rfl (fun u u => ?_) | refine st_nil ?_ | refine th_n ?_ | refine bk_n ?_ | refine w_block ?_ | refine w_skip ?_ | refine w_true rfl ?_ | refine w_false rfl ?_ | refine g_yes rfl ?_ | refine mv_c rfl ?_ | refine pick_f rfl rfl ?_ | refine lss_t rfl rfl (by omega) ?_ | refine not_ rfl ?_ | refine add_in rfl rfl (by omega) ?_ | refine alloc_ (fun u => ?_) | refine load_ptr rfl (by decide) rfl (Nat.le_of_ble_eq_true rfl) rfl ?_ | refine store_ptr rfl rfl (by decide) rfl rfl (Nat.le_of_ble_eq_true rfl) rfl ?_ | refine fad_ptr rfl rfl rfl ?_ | refine iaA_ptr rfl rfl rfl (by omega) rfl ?_)
              refine w_loop ?_
              repeat' (first | refine call2 rfl rfl c5 ?_ | refine call2 rfl rfl c6 ?_ | refine w_seq ?_ | refine w_ops ?_ | refine w_opsD2 rfl (fun u u => ?_) | refine st_nil ?_ | refine th_n ?_ | refine th_r ?_ | refine bk_r ?_ | refine w_block ?_ | refine w_skip ?_ | refine w_ret ?_ | refine w_true rfl ?_ | refine g_no rfl ?_ | refine mv_c rfl ?_ | refine pick_t rfl rfl ?_ | refine lss_t rfl rfl (by omega) ?_ | refine not_ rfl ?_ | refine alloc_ (fun u => ?_) | refine build_ rfl rfl ?_ | refine load_ptr rfl (by decide) rfl (Nat.le_of_ble_eq_true rfl) rfl ?_ | refine store_ptr rfl rfl (by decide) rfl rfl (Nat.le_of_ble_eq_true rfl) rfl ?_ | refine fad_ptr rfl rfl rfl ?_ | refine iaA_ptr rfl rfl rfl (by omega) rfl ?_)
              exact fin_r (rv_cell rfl rfl rfl rfl rv_nil) rfl
            | true =>
              rw [h5] at c5
              cases h6 : (join o1 q1).2 with
              | false =>
                rw [h6] at c6
                rw [hno (fun h => (h.2.2 hm2).2) (by rw [h6]; simp)]
                repeat' (first | refine call2 rfl rfl c1 ?_ | refine call2 rfl rfl c2 ?_ | refine w_seq ?_ | refine w_ops ?_ | refine st_nil ?_ | refine th_n ?_ | refine w_block ?_ | refine w_skip ?_ | refine w_false rfl ?_ | refine g_yes rfl ?_ | refine mv_c rfl ?_ | refine pick_f rfl rfl ?_ | refine not_ rfl ?_ | refine alloc_ (fun u => ?_) | refine box_ rfl rfl rfl (fun u => ?_) | refine load_ptr rfl (by decide) rfl (Nat.le_of_ble_eq_true rfl) rfl ?_)
                refine w_loop ?_
                unfold b70_0 r70_5 r70_6 r70_7 r70_8 r70_9 r70_10 r70_11
                repeat' (first | refine call2 rfl rfl c3 ?_ | refine call2 rfl rfl c4 ?_ | refine w_seq ?_ | refine w_ops ?_ | refine w_opsD2 rfl (fun u u => ?_) | refine st_nil ?_ | refine th_n ?_ | refine bk_n ?_ | refine w_block ?_ | refine w_skip ?_ | refine w_true rfl ?_ | refine w_false rfl ?_ | refine g_yes rfl ?_ | refine mv_c rfl ?_ | refine pick_f rfl rfl ?_ | refine lss_t rfl rfl (by omega) ?_ | refine not_ rfl ?_ | refine add_in rfl rfl (by omega) ?_ | refine alloc_ (fun u => ?_) | refine load_ptr rfl (by decide) rfl (Nat.le_of_ble_eq_true rfl) rfl ?_ | refine store_ptr rfl rfl (by decide) rfl rfl (Nat.le_of_ble_eq_true rfl) rfl ?_ | refine fad_ptr rfl rfl rfl ?_ | refine iaA_ptr rfl rfl rfl (by omega) rfl ?_)
                refine w_loop ?_
                repeat' (first | refine call2 rfl rfl c5 ?_ | refine call2 rfl rfl c6 ?_ | refine w_seq ?_ | refine w_ops ?_ | refine w_opsD2 rfl (fun u u => ?_) | refine st_nil ?_ | refine th_n ?_ | refine th_r ?_ | refine bk_r ?_ | refine w_block ?_ | refine w_skip ?_ | refine w_ret ?_ | refine w_true rfl ?_ | refine g_yes rfl ?_ | refine mv_c rfl ?_ | refine pick_f rfl rfl ?_ | refine lss_t rfl rfl (by omega) ?_ | refine not_ rfl ?_ | refine alloc_ (fun u => ?_) | refine build_ rfl rfl ?_ | refine load_ptr rfl (by decide) rfl (Nat.le_of_ble_eq_true rfl) rfl ?_ | refine store_ptr rfl rfl (by decide) rfl rfl (Nat.le_of_ble_eq_true rfl) rfl ?_ | refine fad_ptr rfl rfl rfl ?_ | refine iaA_ptr rfl rfl rfl (by omega) rfl ?_)
                exact fin_r (rv_cell rfl rfl rfl rfl rv_nil) rfl
              | true =>
                rw [h6] at c6
                have hjk : joks m ⟨n, s0, s1, i0, i1, o0, o1⟩ ⟨k, t0, t1, j0, j1, q0, q1⟩ := ⟨h3, h4, fun _ => ⟨h5, h6⟩⟩
                have c7 := C_rdMade m (n + k) _ _ _ _ (hpre ga gb hjk) ⟨by omega, by omega⟩ (by have := x0.2; omega) (by have := x1.2; omega) (by have := x2.2; omega) (by have := x3.2; omega) x0.1 x1.1 x2.1 x3.1
                rw [hy ga gb hjk]
                generalize mkD m (n + k) (join i0 j0).1 (join i1 j1).1 (join o0 q0).1 (join o1 q1).1 = w at c7
                generalize (join i0 j0).1 = z0 at *
                generalize (join i1 j1).1 = z1 at *
                generalize (join o0 q0).1 = z2 at *
                generalize (join o1 q1).1 = z3 at *
                obtain ⟨⟨_, _, _, _, _, _, _⟩, _⟩ := w
                repeat' (first | refine call2 rfl rfl c1 ?_ | refine call2 rfl rfl c2 ?_ | refine w_seq ?_ | refine w_ops ?_ | refine st_nil ?_ | refine th_n ?_ | refine w_block ?_ | refine w_skip ?_ | refine w_false rfl ?_ | refine g_yes rfl ?_ | refine mv_c rfl ?_ | refine pick_f rfl rfl ?_ | refine not_ rfl ?_ | refine alloc_ (fun u => ?_) | refine box_ rfl rfl rfl (fun u => ?_) | refine load_ptr rfl (by decide) rfl (Nat.le_of_ble_eq_true rfl) rfl ?_)
                refine w_loop ?_
                unfold b70_0 r70_5 r70_6 r70_7 r70_8 r70_9 r70_10 r70_11
                repeat' (first | refine call2 rfl rfl c3 ?_ | refine call2 rfl rfl c4 ?_ | refine w_seq ?_ | refine w_ops ?_ | refine w_opsD2 rfl (fun u u => ?_) | refine st_nil ?_ | refine th_n ?_ | refine bk_n ?_ | refine w_block ?_ | refine w_skip ?_ | refine w_true rfl ?_ | refine w_false rfl ?_ | refine g_yes rfl ?_ | refine mv_c rfl ?_ | refine pick_f rfl rfl ?_ | refine lss_t rfl rfl (by omega) ?_ | refine not_ rfl ?_ | refine add_in rfl rfl (by omega) ?_ | refine alloc_ (fun u => ?_) | refine load_ptr rfl (by decide) rfl (Nat.le_of_ble_eq_true rfl) rfl ?_ | refine store_ptr rfl rfl (by decide) rfl rfl (Nat.le_of_ble_eq_true rfl) rfl ?_ | refine fad_ptr rfl rfl rfl ?_ | refine iaA_ptr rfl rfl rfl (by omega) rfl ?_)
                refine w_loop ?_
                repeat' (first | refine call2 rfl rfl c5 ?_ | refine call2 rfl rfl c6 ?_ | refine w_seq ?_ | refine w_ops ?_ | refine w_opsD2 rfl (fun u u => ?_) | refine st_nil ?_ | refine th_n ?_ | refine bk_n ?_ | refine w_block ?_ | refine w_skip ?_ | refine w_true rfl ?_ | refine w_false rfl ?_ | refine g_yes rfl ?_ | refine mv_c rfl ?_ | refine pick_f rfl rfl ?_ | refine lss_t rfl rfl (by omega) ?_ | refine not_ rfl ?_ | refine add_in rfl rfl (by omega) ?_ | refine alloc_ (fun u => ?_) | refine load_ptr rfl (by decide) rfl (Nat.le_of_ble_eq_true rfl) rfl ?_ | refine store_ptr rfl rfl (by decide) rfl rfl (Nat.le_of_ble_eq_true rfl) rfl ?_ | refine fad_ptr rfl rfl rfl ?_ | refine iaA_ptr rfl rfl rfl (by omega) rfl ?_)
                refine w_loop ?_
                repeat' (first | refine call4 rfl rfl rfl rfl c7 ?_ | refine w_seq ?_ | refine w_ops ?_ | refine st_nil ?_ | refine th_n ?_ | refine th_x ?_ | refine bk_x ?_ | refine w_exit ?_ | refine w_ret ?_ | refine w_false rfl ?_ | refine mv_c rfl ?_ | refine lss_f rfl rfl (by omega) ?_ | refine add_in rfl rfl (by omega) ?_ | refine load_ptr rfl (by decide) rfl (Nat.le_of_ble_eq_true rfl) rfl ?_ | refine store_ptr rfl rfl (by decide) rfl rfl (Nat.le_of_ble_eq_true rfl) rfl ?_ | refine fad_ptr rfl rfl rfl ?_)
                exact fin_r (rv_cell rfl rfl rfl rfl rv_nil) rfl
          · have hjk : joks m ⟨n, s0, s1, i0, i1, o0, o1⟩ ⟨k, t0, t1, j0, j1, q0, q1⟩ := ⟨h3, h4, fun h => absurd h hm2⟩
            have rn : ranged [] := (inB_nil 0).1
            have hp := hpre ga gb hjk
            have c7 := C_rdMade m (n + k) (join i0 j0).1 [] (join o0 q0).1 [] ⟨hp.1, hp.2.1, fun h => absurd h hm2⟩ ⟨by omega, by omega⟩ (by have := x0.2; omega) (by simp) (by have := x2.2; omega) (by simp) x0.1 rn x2.1 rn
            rw [hy ga gb hjk, mkD_1 (j1 := []) (q1 := []) hm2]
            generalize mkD m (n + k) (join i0 j0).1 [] (join o0 q0).1 [] = w at c7
            generalize (join i0 j0).1 = z0 at *
            generalize (join o0 q0).1 = z2 at *
            obtain ⟨⟨_, _, _, _, _, _, _⟩, _⟩ := w
            repeat' (first | refine call2 rfl rfl c1 ?_ | refine call2 rfl rfl c2 ?_ | refine w_seq ?_ | refine w_ops ?_ | refine st_nil ?_ | refine th_n ?_ | refine w_block ?_ | refine w_skip ?_ | refine w_false rfl ?_ | refine g_yes rfl ?_ | refine mv_c rfl ?_ | refine pick_f rfl rfl ?_ | refine not_ rfl ?_ | refine alloc_ (fun u => ?_) | refine box_ rfl rfl rfl (fun u => ?_) | refine load_ptr rfl (by decide) rfl (Nat.le_of_ble_eq_true rfl) rfl ?_)
            refine w_loop ?_
            unfold b70_0 r70_5 r70_6 r70_7 r70_8 r70_9 r70_10 r70_11
            repeat' (first | refine call2 rfl rfl c3 ?_ | refine call2 rfl rfl c4 ?_ | refine w_seq ?_ | refine w_ops ?_ | refine w_opsD2 rfl (fun u u => ?_) | refine st_nil ?_ | refine th_n ?_ | refine bk_n ?_ | refine w_block ?_ | refine w_skip ?_ | refine w_true rfl ?_ | refine w_false rfl ?_ | refine g_yes rfl ?_ | refine mv_c rfl ?_ | refine pick_f rfl rfl ?_ | refine lss_t rfl rfl (by omega) ?_ | refine not_ rfl ?_ | refine add_in rfl rfl (by omega) ?_ | refine alloc_ (fun u => ?_) | refine load_ptr rfl (by decide) rfl (Nat.le_of_ble_eq_true rfl) rfl ?_ | refine store_ptr rfl rfl (by decide) rfl rfl (Nat.le_of_ble_eq_true rfl) rfl ?_ | refine fad_ptr rfl rfl rfl ?_ | refine iaA_ptr rfl rfl rfl (by omega) rfl ?_)
            refine w_loop ?_
            repeat' (first | refine call4 rfl rfl rfl rfl c7 ?_ | refine w_seq ?_ | refine w_ops ?_ | refine st_nil ?_ | refine th_n ?_ | refine th_x ?_ | refine bk_x ?_ | refine w_exit ?_ | refine w_ret ?_ | refine w_false rfl ?_ | refine mv_c rfl ?_ | refine lss_f rfl rfl (by omega) ?_ | refine add_in rfl rfl (by omega) ?_ | refine load_ptr rfl (by decide) rfl (Nat.le_of_ble_eq_true rfl) rfl ?_ | refine store_ptr rfl rfl (by decide) rfl rfl (Nat.le_of_ble_eq_true rfl) rfl ?_ | refine fad_ptr rfl rfl rfl ?_)
            exact fin_r (rv_cell rfl rfl rfl rfl rv_nil) rfl
end Go.Proofs.Ytcmejdkjfekoeaa
namespace Go.Proofs.Ytcmejdkjfekoeaa
open Go.Pl Go.Bag
set_option maxHeartbeats 32000000
set_option maxRecDepth 100000
def sumS (m : Int) : Delta × Bool → List (Bool × RowS) → Delta × Bool
  | p, [] => p
  | p, c :: l => if p.2 = true then (if (ofD m c.1 c.2).2 = true then sumS m (joinD m p.1 (ofD m c.1 c.2).1) l else (zeroD, false)) else p
def sumD (m : Int) (l : List (Bool × RowS)) : Delta × Bool := sumS m (zeroD, true) l
def encCe (c : Bool × RowS) : List CV := .bool c.1 :: encRow c.2
def encChs (l : List (Bool × RowS)) : CV := .sl (l.map encCe)
def inCh (c : Bool × RowS) : Prop := in64 c.2.m0 ∧ in64 c.2.m1
def rdCells (p : Delta × Bool) : List CV := [.int .i64 p.1.n, .int .i64 p.1.s0, .int .i64 p.1.s1, encL p.1.i0, encL p.1.i1, encL p.1.o0, encL p.1.o1, .bool p.2]
theorem inD_sum (m : Int) : ∀ (l : List (Bool × RowS)) (k : Nat) (p : Delta × Bool), inD k p.1 → (∀ c ∈ l, inCh c) → inD (k + l.length) (sumS m p l).1
  | [], k, p, hp, _ => hp
  | c :: l, k, p, hp, hl => by
    unfold sumS
    have hc := hl c (by simp)
    split
    · split
      · have := inD_sum m l (k + 1) (joinD m p.1 (ofD m c.1 c.2).1) (inD_join hp (inD_of hc.1 hc.2)) (fun q hq => hl q (by simp [hq]))
        exact inD_to this (by simp; omega)
      · exact inD_zero _
    · exact inD_to hp (by omega)
theorem sum_loop {K : Ex → PS → Prop} (m : Int) (l : List (Bool × RowS)) (hlen : l.length ≤ 1000) (hr : ∀ c ∈ l, inCh c) (v4 v5 : Nat) : ∀ (rest : List (Bool × RowS)) (j : Nat) (p : Delta × Bool) (s : PS), l.drop j = rest → j ≤ l.length → inD j p.1 →
    s.t 0 = .c (.int .i64 m) → s.t 1 = .c (encChs l) → s.t 4 = .ptr 4 v4 0 → s.bx 4 = ⟨v4, .var (rdCells (zeroD, false))⟩ → s.t 5 = .ptr 5 v5 0 → s.bx 5 = ⟨v5, .var (rdCells p)⟩ → s.t 6 = .c (.int .i64 j) →
    (∀ s', s'.t 4 = .ptr 4 v4 0 → s'.bx 4 = ⟨v4, .var (rdCells (zeroD, false))⟩ → s'.t 5 = .ptr 5 v5 0 → s'.bx 5 = ⟨v5, .var (rdCells (sumS m p rest))⟩ → K (.x 0) s') →
    (sumS m p rest = (zeroD, false) → ∀ s', s'.t 4 = .ptr 4 v4 0 → s'.bx 4 = ⟨v4, .var (rdCells (zeroD, false))⟩ → K .r s') → wP (PCallG Try.prog) (.loop b62_0) s K := by
  intro rest
  induction rest with
  | nil =>
    intro j p s hd hj hp t0 t1 t4 b4 t5 b5 t6 hx hy
    refine w_loop ?_
    have := drop_end hd hj
    subst this
    rw [← put_same t0, ← put_same t1, ← put_same t4, ← box_same b4, ← put_same t5, ← box_same b5, ← put_same t6]
    unfold b62_0 r62_3 r62_4 r62_5 r62_6 r62_7 r62_8
    repeat' (first | refine len_sl rfl (List.length_map _) ?_ | refine w_seq ?_ | refine w_ops ?_ | refine st_nil ?_ | refine th_n ?_ | refine th_x ?_ | refine w_exit ?_ | refine w_false rfl ?_ | refine g_no rfl ?_ | refine mv_c rfl ?_ | refine pick_f rfl rfl ?_ | refine lss_f rfl rfl (by omega) ?_)
    exact hx _ (by rfl) (by rfl) (by rfl) (by rfl)
  | cons c rest ih =>
    intro j p s hd hj hp t0 t1 t4 b4 t5 b5 t6 hx hy
    refine w_loop ?_
    have hl := get_slen hd
    have hn := drop_next hd
    have he : (l.map encCe)[j]? = some (encCe c) := by
      have : l[j]? = some c := by have := congrArg List.head? hd; simpa [List.head?_drop] using this
      simp [this]
    have hc : inCh c := hr c (by have : c ∈ l.drop j := by rw [hd]; simp
                                 exact List.mem_of_mem_drop this)
    have c1 := C_rdOf m c.1 c.2 hc.1 hc.2
    have c2 := C_rdJoin m p.1 (ofD m c.1 c.2).1 (inD_to hp (by omega)) (inD_to (inD_of hc.1 hc.2) (by omega))
    have hin := inD_join (m := m) hp (inD_of (m := m) (del := c.1) hc.1 hc.2)
    have e : sumS m p (c :: rest) = if p.2 = true then (if (ofD m c.1 c.2).2 = true then sumS m (joinD m p.1 (ofD m c.1 c.2).1) rest else (zeroD, false)) else p := rfl
    rw [e] at hx hy
    obtain ⟨p1, p2⟩ := p
    generalize hO : ofD m c.1 c.2 = o at *
    obtain ⟨o1, o2⟩ := o
    generalize hJ : joinD m p1 o1 = w at *
    rw [← put_same t0, ← put_same t1, ← put_same t4, ← box_same b4, ← put_same t5, ← box_same b5, ← put_same t6]
    unfold b62_0 r62_3 r62_4 r62_5 r62_6 r62_7 r62_8
    cases p2 with
    | false =>
      repeat' (first | refine len_sl rfl (List.length_map _) ?_ | refine w_seq ?_ | refine w_ops ?_ | refine st_nil ?_ | refine th_n ?_ | refine th_x ?_ | refine w_exit ?_ | refine w_false rfl ?_ | refine g_yes rfl ?_ | refine mv_c rfl ?_ | refine pick_t rfl rfl ?_ | refine lss_t rfl rfl (by omega) ?_ | refine load_ptr rfl (by decide) rfl (Nat.le_of_ble_eq_true rfl) rfl ?_ | refine fad_ptr rfl rfl rfl ?_)
      exact hx _ (by rfl) (by rfl) (by rfl) (by rfl)
    | true =>
      cases o2 with
      | false =>
        repeat' (first | refine len_sl rfl (List.length_map _) ?_ | refine call2 rfl rfl c1 ?_ | refine w_seq ?_ | refine w_ops ?_ | refine st_nil ?_ | refine th_n ?_ | refine th_r ?_ | refine bk_r ?_ | refine w_block ?_ | refine w_skip ?_ | refine w_ret ?_ | refine w_true rfl ?_ | refine g_yes rfl ?_ | refine mv_c rfl ?_ | refine pick_t rfl rfl ?_ | refine lss_t rfl rfl (by omega) ?_ | refine not_ rfl ?_ | refine alloc_ (fun u => ?_) | refine build_ rfl rfl ?_ | refine load_rp rfl (Nat.le_of_ble_eq_true rfl) rfl ?_ | refine load_ptr rfl (by decide) rfl (Nat.le_of_ble_eq_true rfl) rfl ?_ | refine store_ptr rfl rfl (by decide) rfl rfl (Nat.le_of_ble_eq_true rfl) rfl ?_ | refine fad_ptr rfl rfl rfl ?_ | refine iaS_c rfl rfl (by omega) (by assumption) rfl ?_)
        exact hy rfl _ (by rfl) (by rfl)
      | true =>
        repeat' (first | refine len_sl rfl (List.length_map _) ?_ | refine call2 rfl rfl c1 ?_ | refine call3 rfl rfl rfl c2 ?_ | refine w_seq ?_ | refine w_ops ?_ | refine st_nil ?_ | refine th_n ?_ | refine bk_n ?_ | refine w_block ?_ | refine w_skip ?_ | refine w_true rfl ?_ | refine w_false rfl ?_ | refine g_yes rfl ?_ | refine mv_c rfl ?_ | refine pick_t rfl rfl ?_ | refine lss_t rfl rfl (by omega) ?_ | refine not_ rfl ?_ | refine add_in rfl rfl (by omega) ?_ | refine alloc_ (fun u => ?_) | refine load_rp rfl (Nat.le_of_ble_eq_true rfl) rfl ?_ | refine load_ptr rfl (by decide) rfl (Nat.le_of_ble_eq_true rfl) rfl ?_ | refine store_ptr rfl rfl (by decide) rfl rfl (Nat.le_of_ble_eq_true rfl) rfl ?_ | refine fad_ptr rfl rfl rfl ?_ | refine iaS_c rfl rfl (by omega) (by assumption) rfl ?_)
        exact ih (j + 1) w _ hn (by omega) hin (by rfl) (by rfl) (by rfl) (by rfl) (by rfl) (by rfl) (by rfl) hx hy
theorem C_lsum (m : Int) (l : List (Bool × RowS)) (hlen : l.length ≤ 1000) (hr : ∀ c ∈ l, inCh c) : PCallG Try.prog 62 [.c (.int .i64 m), .c (encChs l)] (.c (rdV (sumD m l))) [] := by
  refine pcallF Try.func62 c62 rfl ?_
  unfold p62 r62_0 r62_1 r62_2 r62_9
  repeat' (first | refine w_seq ?_ | refine w_ops ?_ | refine st_nil ?_ | refine th_n ?_ | refine w_block ?_ | refine mv_c rfl ?_ | refine alloc_ (fun u => ?_) | refine build_ rfl rfl ?_ | refine store_ptr rfl rfl (by decide) rfl rfl (Nat.le_of_ble_eq_true rfl) rfl ?_)
  refine sum_loop m l hlen hr _ _ l 0 (zeroD, true) _ rfl (by omega) (inD_zero _) (by rfl) (by rfl) (by rfl) (by rfl) (by rfl) (by rfl) (by rfl) ?_ ?_
  · intro s' t4 b4 t5 b5
    rw [← put_same t4, ← box_same b4, ← put_same t5, ← box_same b5]
    repeat' (first | refine w_seq ?_ | refine w_ops ?_ | refine st_nil ?_ | refine th_n ?_ | refine bk_x ?_ | refine w_ret ?_ | refine load_ptr rfl (by decide) rfl (Nat.le_of_ble_eq_true rfl) rfl ?_ | refine store_ptr rfl rfl (by decide) rfl rfl (Nat.le_of_ble_eq_true rfl) rfl ?_)
    exact fin_r (rv_cell rfl rfl rfl rfl rv_nil) rfl
  · intro e s' t4 b4
    rw [← put_same t4, ← box_same b4]
    repeat' (first | refine th_r ?_ | refine bk_r ?_)
    exact fin_r (rv_cell rfl rfl rfl rfl rv_nil) (by unfold sumD; rw [e]; rfl)
theorem C_back10 (m : Int) (c : Cell) (is : Bool) (d : Delta) (hc : inC 1000 c) (hd : inD 1000 d) : PCallG Try.prog 77 [.c (.int .i64 m), .c (encCell c), .c (.bool is), .c (encDelta d)] (.c (.bool true)) [] := by
  have c1 := C_dApply m c is d (inC_to hc (by omega)) (inD_to hd (by omega))
  have c2 := C_dNeg m d (inD_to hd (by omega))
  have ix := inC_apply (m := m) (is := is) hc hd
  have inn := inD_neg (m := m) hd
  have c3 := C_dApply m (applyD m c is d).1 (applyD m c is d).2.1 (negD m d).1 (inC_to ix (by omega)) (inD_to inn (by omega))
  have c4 := C_cSame c c ⟨by have := hc.2.2.2.2.2.1; omega, by have := hc.2.2.2.2.2.2; omega⟩ ⟨by have := hc.2.2.2.2.2.1; omega, by have := hc.2.2.2.2.2.2; omega⟩
  rw [decide_eq_true rfl] at c4
  have hb := @back_law m c is d hc.2.1 hc.2.2.1
  unfold aV at c1
  unfold dV at c2
  generalize hx : (applyD m c is d).1 = x at *
  generalize hl : (applyD m c is d).2.1 = left at *
  generalize ho : (applyD m c is d).2.2 = ok at *
  generalize hn : (negD m d).1 = n at *
  generalize hp : (negD m d).2 = p at *
  refine pcallF Try.func77 c77 rfl ?_
  unfold p77 r77_0 r77_1 r77_2 r77_3 r77_4 r77_5 r77_6
  cases ok with
  | false =>
    repeat' (first | refine call4 rfl rfl rfl rfl c1 ?_ | refine call2 rfl rfl c2 ?_ | refine w_seq ?_ | refine w_ops ?_ | refine st_nil ?_ | refine th_n ?_ | refine th_r ?_ | refine w_ret ?_ | refine w_true rfl ?_ | refine g_no rfl ?_ | refine mv_c rfl ?_ | refine pick_t rfl rfl ?_ | refine not_ rfl ?_ | refine alloc_ (fun u => ?_) | refine box_ rfl rfl rfl (fun u => ?_) | refine load_ptr rfl (by decide) rfl (Nat.le_of_ble_eq_true rfl) rfl ?_ | refine store_ptr rfl rfl (by decide) rfl rfl (Nat.le_of_ble_eq_true rfl) rfl ?_ | refine ext_ rfl rfl ?_)
    exact fin_r rfl rfl
  | true =>
    cases p with
    | false =>
      repeat' (first | refine call4 rfl rfl rfl rfl c1 ?_ | refine call2 rfl rfl c2 ?_ | refine w_seq ?_ | refine w_ops ?_ | refine st_nil ?_ | refine th_n ?_ | refine th_r ?_ | refine w_ret ?_ | refine w_true rfl ?_ | refine g_yes rfl ?_ | refine mv_c rfl ?_ | refine pick_f rfl rfl ?_ | refine not_ rfl ?_ | refine alloc_ (fun u => ?_) | refine box_ rfl rfl rfl (fun u => ?_) | refine load_ptr rfl (by decide) rfl (Nat.le_of_ble_eq_true rfl) rfl ?_ | refine store_ptr rfl rfl (by decide) rfl rfl (Nat.le_of_ble_eq_true rfl) rfl ?_ | refine ext_ rfl rfl ?_)
      exact fin_r rfl rfl
    | true =>
      rw [hb rfl rfl] at c3
      unfold aV at c3
      cases is <;>
      repeat' (first | refine call4 rfl rfl rfl rfl c1 ?_ | refine call2 rfl rfl c2 ?_ | refine call4 rfl rfl rfl rfl c3 ?_ | refine call2 rfl rfl c4 ?_ | refine eqs_t rfl rfl rfl ?_ | refine w_seq ?_ | refine w_ops ?_ | refine st_nil ?_ | refine th_n ?_ | refine w_skip ?_ | refine w_ret ?_ | refine w_false rfl ?_ | refine g_yes rfl ?_ | refine mv_c rfl ?_ | refine pick_t rfl rfl ?_ | refine pick_f rfl rfl ?_ | refine not_ rfl ?_ | refine alloc_ (fun u => ?_) | refine box_ rfl rfl rfl (fun u => ?_) | refine load_ptr rfl (by decide) rfl (Nat.le_of_ble_eq_true rfl) rfl ?_ | refine store_ptr rfl rfl (by decide) rfl rfl (Nat.le_of_ble_eq_true rfl) rfl ?_ | refine ext_ rfl rfl ?_)
      all_goals exact fin_r rfl rfl
theorem C_light10 (M : Int) (c : Cell) (is : Bool) (d : Delta) (rows : List RowS) (l : List (Bool × RowS)) (h0 : c.b0.length ≤ 9223372036854775807) (h1 : c.b1.length ≤ 9223372036854775807) (hd : inD 9223372036854775807 d) (hrl : rows.length ≤ 9223372036854775807) (hll : l.length ≤ 9223372036854775807) :
    PCallG Try.prog 72 [.c (.agg (.int .i64 M :: (encC c ++ (.bool is :: encD d)))), .c (encRows rows), .c (encChs l)] (.c (.bool (lightC c && (lightD d && (decide (rows.length ≤ 30) && decide (l.length ≤ 30)))))) [] := by
  have c1 := C_LightCell c h0 h1
  have c2 := C_LightDelta d hd.2.2.2.1.2 hd.2.2.2.2.1.2 hd.2.2.2.2.2.1.2 hd.2.2.2.2.2.2.2
  refine pcallF Try.func72 c72 rfl ?_
  unfold p72 r72_0 r72_1
  cases q1 : lightC c with
  | false =>
    rw [q1] at c1
    repeat' (first | refine call1 rfl c1 ?_ | refine w_seq ?_ | refine w_ops ?_ | refine st_nil ?_ | refine th_n ?_ | refine w_ret ?_ | refine g_no rfl ?_ | refine mv_c rfl ?_ | refine pick_f rfl rfl ?_ | refine box_ rfl rfl rfl (fun u => ?_) | refine load_ptr rfl (by decide) rfl (Nat.le_of_ble_eq_true rfl) rfl ?_ | refine fad_ptr rfl rfl rfl ?_)
    exact fin_r rfl rfl
  | true =>
    rw [q1] at c1
    cases q2 : lightD d with
    | false =>
      rw [q2] at c2
      repeat' (first | refine call1 rfl c1 ?_ | refine call1 rfl c2 ?_ | refine w_seq ?_ | refine w_ops ?_ | refine st_nil ?_ | refine th_n ?_ | refine w_ret ?_ | refine g_yes rfl ?_ | refine g_no rfl ?_ | refine mv_c rfl ?_ | refine pick_t rfl rfl ?_ | refine pick_f rfl rfl ?_ | refine box_ rfl rfl rfl (fun u => ?_) | refine load_ptr rfl (by decide) rfl (Nat.le_of_ble_eq_true rfl) rfl ?_ | refine fad_ptr rfl rfl rfl ?_)
      exact fin_r rfl rfl
    | true =>
      rw [q2] at c2
      by_cases k1 : rows.length ≤ 30
      · rw [decide_eq_true k1]
        by_cases k2 : l.length ≤ 30
        · rw [decide_eq_true k2]
          repeat' (first | refine len_sl rfl (List.length_map _) ?_ | refine call1 rfl c1 ?_ | refine call1 rfl c2 ?_ | refine w_seq ?_ | refine w_ops ?_ | refine st_nil ?_ | refine th_n ?_ | refine w_ret ?_ | refine g_yes rfl ?_ | refine mv_c rfl ?_ | refine pick_t rfl rfl ?_ | refine leq_t rfl rfl (by omega) ?_ | refine box_ rfl rfl rfl (fun u => ?_) | refine load_ptr rfl (by decide) rfl (Nat.le_of_ble_eq_true rfl) rfl ?_ | refine fad_ptr rfl rfl rfl ?_)
          exact fin_r rfl rfl
        · rw [decide_eq_false k2]
          repeat' (first | refine len_sl rfl (List.length_map _) ?_ | refine call1 rfl c1 ?_ | refine call1 rfl c2 ?_ | refine w_seq ?_ | refine w_ops ?_ | refine st_nil ?_ | refine th_n ?_ | refine w_ret ?_ | refine g_yes rfl ?_ | refine mv_c rfl ?_ | refine pick_t rfl rfl ?_ | refine leq_t rfl rfl (by omega) ?_ | refine leq_f rfl rfl (by omega) ?_ | refine box_ rfl rfl rfl (fun u => ?_) | refine load_ptr rfl (by decide) rfl (Nat.le_of_ble_eq_true rfl) rfl ?_ | refine fad_ptr rfl rfl rfl ?_)
          exact fin_r rfl rfl
      · rw [decide_eq_false k1]
        repeat' (first | refine len_sl rfl (List.length_map _) ?_ | refine call1 rfl c1 ?_ | refine call1 rfl c2 ?_ | refine w_seq ?_ | refine w_ops ?_ | refine st_nil ?_ | refine th_n ?_ | refine w_ret ?_ | refine g_yes rfl ?_ | refine g_no rfl ?_ | refine mv_c rfl ?_ | refine pick_t rfl rfl ?_ | refine pick_f rfl rfl ?_ | refine leq_f rfl rfl (by omega) ?_ | refine box_ rfl rfl rfl (fun u => ?_) | refine load_ptr rfl (by decide) rfl (Nat.le_of_ble_eq_true rfl) rfl ?_ | refine fad_ptr rfl rfl rfl ?_)
        exact fin_r rfl rfl
theorem inC_of (m : Int) (l : List RowS) (hl : l.length ≤ 1000) (hr : ∀ r ∈ l, inR r) : inC 1000 (ofC m l).1 := by
  unfold ofC
  split
  · rename_i h
    have r0 : ranged (ofL (l.map (·.m0))) := ranged_ofL (fun a ha => by obtain ⟨r, hr', rfl⟩ := List.mem_map.mp ha; exact (hr r hr').1) (by simp; omega)
    have r1 : ranged (ofL (l.map (·.m1))) := ranged_ofL (fun a ha => by obtain ⟨r, hr', rfl⟩ := List.mem_map.mp ha; exact (hr r hr').2) (by simp; omega)
    have k0 := (ofL_facts (l.map (·.m0))).2.2.2.2
    have k1 := (ofL_facts (l.map (·.m1))).2.2.2.2
    simp only [List.length_map] at k0 k1
    refine ⟨⟨by show -9223372036854775808 ≤ (l.length : Int); omega, by show (l.length : Int) ≤ 9223372036854775807; omega⟩, h.2.2.1, ?_, r0, ?_, by show (ofL (l.map (·.m0))).length ≤ 1000; omega, ?_⟩
    · show in64 (if m = 2 then _ else _)
      split
      · rename_i hm; exact h.2.2.2 hm
      · decide
    · show ranged (if m = 2 then _ else _)
      split
      · exact r1
      · exact (inB_nil 0).1
    · show (if m = 2 then _ else _ : List Run).length ≤ 1000
      split
      · omega
      · simp
  · exact inC_zero _
theorem C_DeltaBack (M : Int) (c : Cell) (is : Bool) (d : Delta) (rows : List RowS) (l : List (Bool × RowS)) (hc : inC 9223372036854775807 c) (hd : inD 9223372036854775807 d) (rr : ∀ r ∈ rows, inR r) (rl : ∀ q ∈ l, inCh q) (hrl : rows.length ≤ 9223372036854775807) (hll : l.length ≤ 9223372036854775807) :
    PCallG Try.prog 16 [.c (.agg (.int .i64 M :: (encC c ++ (.bool is :: encD d)))), .c (encRows rows), .c (encChs l)] (.c (.bool true)) [] := by
  have cw := C_wakes10
  have c1 := C_light10 M c is d rows l hc.2.2.2.2.2.1 hc.2.2.2.2.2.2 hd hrl hll
  refine pcallF Try.func16 c16 rfl ?_
  unfold p16 r16_0 r16_1 r16_2 r16_3 r16_11
  by_cases hq : (lightC c && (lightD d && (decide (rows.length ≤ 30) && decide (l.length ≤ 30)))) = true
  · rw [hq] at c1
    simp only [Bool.and_eq_true, decide_eq_true_eq] at hq
    obtain ⟨q1, q2, q3, q4⟩ := hq
    simp only [lightC, decide_eq_true_eq] at q1
    have ic : inC 1000 c := ⟨hc.1, hc.2.1, hc.2.2.1, hc.2.2.2.1, hc.2.2.2.2.1, by omega, by omega⟩
    have id_ : inD 1000 d := inD_to (lightD_in hd q2) (by omega)
    have io : ∀ m, inC 1000 (ofC m rows).1 := fun m => inC_of m rows (by omega) rr
    have is_ : ∀ m, inD 1000 (sumD m l).1 := fun m => inD_to (inD_sum m l 0 (zeroD, true) (inD_zero _) rl) (by omega)
    have c2 : ∀ m, PCallG Try.prog 44 [.c (.int .i64 m), .c (encRows rows)] (.c (rcV (ofC m rows))) [] := fun m => C_rcOf m rows (by omega) rr
    have c3 : ∀ m, PCallG Try.prog 62 [.c (.int .i64 m), .c (encChs l)] (.c (rdV (sumD m l))) [] := fun m => C_lsum m l (by omega) rl
    have b1 : ∀ m, PCallG Try.prog 77 [.c (.int .i64 m), .c (encCell c), .c (.bool is), .c (encDelta d)] (.c (.bool true)) [] := fun m => C_back10 m c is d ic id_
    have b2 : ∀ m, PCallG Try.prog 77 [.c (.int .i64 m), .c (encCell (ofC m rows).1), .c (.bool (ofC m rows).2), .c (encDelta (sumD m l).1)] (.c (.bool true)) [] := fun m => C_back10 m _ _ _ (io m) (is_ m)
    have b3 : ∀ m, PCallG Try.prog 77 [.c (.int .i64 m), .c (encCell c), .c (.bool is), .c (encDelta (sumD m l).1)] (.c (.bool true)) [] := fun m => C_back10 m _ _ _ ic (is_ m)
    have b4 : ∀ m, PCallG Try.prog 77 [.c (.int .i64 m), .c (encCell (ofC m rows).1), .c (.bool (ofC m rows).2), .c (encDelta d)] (.c (.bool true)) [] := fun m => C_back10 m _ _ _ (io m) id_
    have b5 : ∀ m, PCallG Try.prog 77 [.c (.int .i64 m), .c (encCell zeroC), .c (.bool false), .c (encDelta (sumD m l).1)] (.c (.bool true)) [] := fun m => C_back10 m _ _ _ (inC_zero _) (is_ m)
    have o1 := c2 M; have o2 := c2 1; have o3 := c2 2
    have p1 := c3 M; have p2 := c3 1; have p3 := c3 2
    have x1 := b1 M; have x2 := b1 1; have x3 := b1 2
    have y1 := b2 M; have y2 := b2 1; have y3 := b2 2
    have z1 := b3 M; have z2 := b3 1; have z3 := b3 2
    have u1 := b4 M; have u2 := b4 1; have u3 := b4 2
    have w1 := b5 M; have w2 := b5 1; have w3 := b5 2
    clear c2 c3 b1 b2 b3 b4 b5
    generalize ofC M rows = O1 at *
    generalize ofC 1 rows = O2 at *
    generalize ofC 2 rows = O3 at *
    generalize sumD M l = S1 at *
    generalize sumD 1 l = S2 at *
    generalize sumD 2 l = S3 at *
    repeat' (first | refine call3 rfl rfl rfl c1 ?_ | refine len_sl (n := 3) rfl rfl ?_ | refine w_seq ?_ | refine w_ops ?_ | refine st_nil ?_ | refine th_n ?_ | refine w_block ?_ | refine w_skip ?_ | refine w_false rfl ?_ | refine mv_c rfl ?_ | refine not_ rfl ?_ | refine box_ rfl rfl rfl (fun u => ?_) | refine bsl_ rfl rfl ?_ | refine load_ptr rfl (by decide) rfl (Nat.le_of_ble_eq_true rfl) rfl ?_ | refine fad_ptr rfl rfl rfl ?_)
    refine w_loop ?_
    unfold b16_0 r16_4 r16_5 r16_6 r16_7 r16_8 r16_9 r16_10
    repeat' (first | refine iaS_c rfl rfl (by omega) rfl rfl ?_ | refine call2 rfl rfl o1 ?_ | refine call2 rfl rfl p1 ?_ | refine call4 rfl rfl rfl rfl x1 ?_ | refine call4 rfl rfl rfl rfl y1 ?_ | refine call4 rfl rfl rfl rfl z1 ?_ | refine call4 rfl rfl rfl rfl u1 ?_ | refine call4 rfl rfl rfl rfl w1 ?_ | refine w_seq ?_ | refine w_ops ?_ | refine st_nil ?_ | refine th_n ?_ | refine bk_n ?_ | refine w_block ?_ | refine w_skip ?_ | refine w_true rfl ?_ | refine w_false rfl ?_ | refine g_yes rfl ?_ | refine mv_c rfl ?_ | refine pick_f rfl rfl ?_ | refine lss_t rfl rfl (by omega) ?_ | refine not_ rfl ?_ | refine add_in rfl rfl (by omega) ?_ | refine alloc_ (fun u => ?_) | refine build_ rfl rfl ?_ | refine load_rp rfl (Nat.le_of_ble_eq_true rfl) rfl ?_ | refine load_ptr rfl (by decide) rfl (Nat.le_of_ble_eq_true rfl) rfl ?_ | refine store_ptr rfl rfl (by decide) rfl rfl (Nat.le_of_ble_eq_true rfl) rfl ?_ | refine fad_ptr rfl rfl rfl ?_ | refine fld_ rfl (Nat.le_of_ble_eq_true rfl) rfl ?_)
    refine w_loop ?_
    repeat' (first | refine iaS_c rfl rfl (by omega) rfl rfl ?_ | refine call2 rfl rfl o2 ?_ | refine call2 rfl rfl p2 ?_ | refine call4 rfl rfl rfl rfl x2 ?_ | refine call4 rfl rfl rfl rfl y2 ?_ | refine call4 rfl rfl rfl rfl z2 ?_ | refine call4 rfl rfl rfl rfl u2 ?_ | refine call4 rfl rfl rfl rfl w2 ?_ | refine w_seq ?_ | refine w_ops ?_ | refine st_nil ?_ | refine th_n ?_ | refine bk_n ?_ | refine w_block ?_ | refine w_skip ?_ | refine w_true rfl ?_ | refine w_false rfl ?_ | refine g_yes rfl ?_ | refine mv_c rfl ?_ | refine pick_f rfl rfl ?_ | refine lss_t rfl rfl (by omega) ?_ | refine not_ rfl ?_ | refine add_in rfl rfl (by omega) ?_ | refine alloc_ (fun u => ?_) | refine build_ rfl rfl ?_ | refine load_rp rfl (Nat.le_of_ble_eq_true rfl) rfl ?_ | refine load_ptr rfl (by decide) rfl (Nat.le_of_ble_eq_true rfl) rfl ?_ | refine store_ptr rfl rfl (by decide) rfl rfl (Nat.le_of_ble_eq_true rfl) rfl ?_ | refine fad_ptr rfl rfl rfl ?_ | refine fld_ rfl (Nat.le_of_ble_eq_true rfl) rfl ?_)
    refine w_loop ?_
    repeat' (first | refine iaS_c rfl rfl (by omega) rfl rfl ?_ | refine call2 rfl rfl o3 ?_ | refine call2 rfl rfl p3 ?_ | refine call4 rfl rfl rfl rfl x3 ?_ | refine call4 rfl rfl rfl rfl y3 ?_ | refine call4 rfl rfl rfl rfl z3 ?_ | refine call4 rfl rfl rfl rfl u3 ?_ | refine call4 rfl rfl rfl rfl w3 ?_ | refine w_seq ?_ | refine w_ops ?_ | refine st_nil ?_ | refine th_n ?_ | refine bk_n ?_ | refine w_block ?_ | refine w_skip ?_ | refine w_true rfl ?_ | refine w_false rfl ?_ | refine g_yes rfl ?_ | refine mv_c rfl ?_ | refine pick_f rfl rfl ?_ | refine lss_t rfl rfl (by omega) ?_ | refine not_ rfl ?_ | refine add_in rfl rfl (by omega) ?_ | refine alloc_ (fun u => ?_) | refine build_ rfl rfl ?_ | refine load_rp rfl (Nat.le_of_ble_eq_true rfl) rfl ?_ | refine load_ptr rfl (by decide) rfl (Nat.le_of_ble_eq_true rfl) rfl ?_ | refine store_ptr rfl rfl (by decide) rfl rfl (Nat.le_of_ble_eq_true rfl) rfl ?_ | refine fad_ptr rfl rfl rfl ?_ | refine fld_ rfl (Nat.le_of_ble_eq_true rfl) rfl ?_)
    refine w_loop ?_
    repeat' (first | refine call0 cw ?_ | refine w_seq ?_ | refine w_ops ?_ | refine st_nil ?_ | refine th_n ?_ | refine th_x ?_ | refine bk_x ?_ | refine w_exit ?_ | refine w_ret ?_ | refine w_false rfl ?_ | refine mv_c rfl ?_ | refine lss_f rfl rfl (by omega) ?_)
    exact fin_r rfl rfl
  · rw [show (lightC c && (lightD d && (decide (rows.length ≤ 30) && decide (l.length ≤ 30)))) = false by simpa using hq] at c1
    repeat' (first | refine call3 rfl rfl rfl c1 ?_ | refine call0 cw ?_ | refine w_seq ?_ | refine w_ops ?_ | refine st_nil ?_ | refine th_n ?_ | refine th_r ?_ | refine w_ret ?_ | refine w_true rfl ?_ | refine mv_c rfl ?_ | refine not_ rfl ?_ | refine box_ rfl rfl rfl (fun u => ?_) | refine load_ptr rfl (by decide) rfl (Nat.le_of_ble_eq_true rfl) rfl ?_)
    exact fin_r rfl rfl
theorem ok_rows10 {c : CV} (h : LF.Ok (.sl [.int .u8, .int .u8, .int .u8, .int .u8, .int .i64, .int .i64]) c) : ∃ l, c = encRows l ∧ (∀ r ∈ l, inR r) ∧ l.length ≤ 9223372036854775807 := by
  cases h with
  | sl _ es hn hl hh =>
    have : ∀ e ∈ es, ∃ r : RowS, e = encRow r ∧ inR r := fun e he => by
      have h1 := hl e he
      match e, h1, hh e he with
      | [x0, x1, x2, x3, x4, x5], _, hh =>
        obtain ⟨a0, rfl, i0⟩ := ok_u8 (hh 0 (by simp) (by simp))
        obtain ⟨a1, rfl, i1⟩ := ok_u8 (hh 1 (by simp) (by simp))
        obtain ⟨a2, rfl, i2⟩ := ok_u8 (hh 2 (by simp) (by simp))
        obtain ⟨a3, rfl, i3⟩ := ok_u8 (hh 3 (by simp) (by simp))
        obtain ⟨a4, rfl, i4⟩ := ok_i64 (hh 4 (by simp) (by simp))
        obtain ⟨a5, rfl, i5⟩ := ok_i64 (hh 5 (by simp) (by simp))
        exact ⟨⟨⟨a0, a1, a2, a3⟩, a4, a5⟩, rfl, i4, i5⟩
    clear hl hh
    have : ∃ l : List (RowS), es = l.map encRow ∧ ∀ r ∈ l, inR r := by
      induction es with
      | nil => exact ⟨[], rfl, fun a ha => by simp at ha⟩
      | cons e es ih =>
        obtain ⟨a, rfl, ha⟩ := this e (by simp)
        obtain ⟨l, rfl, hl⟩ := ih (by simp at hn; omega) (fun q hq => this q (by simp [hq]))
        exact ⟨a :: l, rfl, fun b hb => by
          rcases List.mem_cons.mp hb with rfl | hb
          · exact ha
          · exact hl b hb⟩
    obtain ⟨l, rfl, hl⟩ := this
    exact ⟨l, rfl, hl, by simpa [maxLen] using hn⟩
theorem ok_chs {c : CV} (h : LF.Ok (.sl [.bool, .int .u8, .int .u8, .int .u8, .int .u8, .int .i64, .int .i64]) c) : ∃ l, c = encChs l ∧ (∀ r ∈ l, inCh r) ∧ l.length ≤ 9223372036854775807 := by
  cases h with
  | sl _ es hn hl hh =>
    have : ∀ e ∈ es, ∃ r : Bool × RowS, e = encCe r ∧ inCh r := fun e he => by
      have h1 := hl e he
      match e, h1, hh e he with
      | [x, x0, x1, x2, x3, x4, x5], _, hh =>
        obtain ⟨b, rfl⟩ := ok_bool (hh 0 (by simp) (by simp))
        obtain ⟨a0, rfl, i0⟩ := ok_u8 (hh 1 (by simp) (by simp))
        obtain ⟨a1, rfl, i1⟩ := ok_u8 (hh 2 (by simp) (by simp))
        obtain ⟨a2, rfl, i2⟩ := ok_u8 (hh 3 (by simp) (by simp))
        obtain ⟨a3, rfl, i3⟩ := ok_u8 (hh 4 (by simp) (by simp))
        obtain ⟨a4, rfl, i4⟩ := ok_i64 (hh 5 (by simp) (by simp))
        obtain ⟨a5, rfl, i5⟩ := ok_i64 (hh 6 (by simp) (by simp))
        exact ⟨(b, ⟨⟨a0, a1, a2, a3⟩, a4, a5⟩), rfl, i4, i5⟩
    clear hl hh
    have : ∃ l : List (Bool × RowS), es = l.map encCe ∧ ∀ r ∈ l, inCh r := by
      induction es with
      | nil => exact ⟨[], rfl, fun a ha => by simp at ha⟩
      | cons e es ih =>
        obtain ⟨a, rfl, ha⟩ := this e (by simp)
        obtain ⟨l, rfl, hl⟩ := ih (by simp at hn; omega) (fun q hq => this q (by simp [hq]))
        exact ⟨a :: l, rfl, fun b hb => by
          rcases List.mem_cons.mp hb with rfl | hb
          · exact ha
          · exact hl b hb⟩
    obtain ⟨l, rfl, hl⟩ := this
    exact ⟨l, rfl, hl, by simpa [maxLen] using hn⟩
theorem ok_case {cs : List CV} (h : OkL [.int .i64, .int .i64, .int .i64, .int .i64, .sl [.int .i64, .int .i64], .sl [.int .i64, .int .i64], .bool, .int .i64, .int .i64, .int .i64, .sl [.int .i64, .int .i64], .sl [.int .i64, .int .i64], .sl [.int .i64, .int .i64], .sl [.int .i64, .int .i64]] cs) :
    ∃ (M : Int) (c : Cell) (is : Bool) (d : Delta), cs = .int .i64 M :: (encC c ++ (.bool is :: encD d)) ∧ I64 M ∧ inC 9223372036854775807 c ∧ inD 9223372036854775807 d := by
  obtain ⟨a, b, rfl, ha, hb⟩ := okL_append (k := [.int .i64, .int .i64, .int .i64, .int .i64, .sl [.int .i64, .int .i64], .sl [.int .i64, .int .i64], .bool]) h
  obtain ⟨d, rfl, id_⟩ := ok_delta hb
  obtain ⟨hl, he⟩ := ha
  match a, hl, he with
  | [x0, x1, x2, x3, x4, x5, x6], _, he =>
    obtain ⟨M, rfl, q0⟩ := ok_i64 (he 0 (by simp) (by simp))
    obtain ⟨n, rfl, q1⟩ := ok_i64 (he 1 (by simp) (by simp))
    obtain ⟨s0, rfl, q2⟩ := ok_i64 (he 2 (by simp) (by simp))
    obtain ⟨s1, rfl, q3⟩ := ok_i64 (he 3 (by simp) (by simp))
    obtain ⟨b0, rfl, q4, k4⟩ := ok_runs (he 4 (by simp) (by simp))
    obtain ⟨b1, rfl, q5, k5⟩ := ok_runs (he 5 (by simp) (by simp))
    obtain ⟨is, rfl⟩ := ok_bool (he 6 (by simp) (by simp))
    exact ⟨M, ⟨n, s0, s1, b0, b1⟩, is, d, rfl, q0, ⟨q1, q2, q3, q4, q5, k4, k5⟩, id_⟩
theorem L_DeltaBack (c0 : List CV) (h0 : OkL [.int .i64, .int .i64, .int .i64, .int .i64, .sl [.int .i64, .int .i64], .sl [.int .i64, .int .i64], .bool, .int .i64, .int .i64, .int .i64, .sl [.int .i64, .int .i64], .sl [.int .i64, .int .i64], .sl [.int .i64, .int .i64], .sl [.int .i64, .int .i64]] c0)
    (c1 : CV) (h1 : LF.Ok (.sl [.int .u8, .int .u8, .int .u8, .int .u8, .int .i64, .int .i64]) c1) (c2 : CV) (h2 : LF.Ok (.sl [.bool, .int .u8, .int .u8, .int .u8, .int .u8, .int .i64, .int .i64]) c2) : PCallG Try.prog 16 [.c (.agg c0), .c c1, .c c2] (.c (.bool true)) [] := by
  obtain ⟨M, c, is, d, rfl, _, ic, id_⟩ := ok_case h0
  obtain ⟨rows, rfl, rr, hrl⟩ := ok_rows10 h1
  obtain ⟨l, rfl, rl, hll⟩ := ok_chs h2
  exact C_DeltaBack M c is d rows l ic id_ rr rl hrl hll
end Go.Proofs.Ytcmejdkjfekoeaa

/- Part of the proof of DeltaTells, DeltaApplies, DeltaBack, DeltaJoins, DeltaSpoilt: lemmas. -/
import Derived.Test.YtcmejdkjfekoeaaDeltaS4
import Derived.Test.YtcmejdkjfekoeaaDeltaS5
import Derived.Test.YtcmejdkjfekoeaaDeltaS6
import Derived.Test.YtcmejdkjfekoeaaDeltaS7
import Derived.Test.YtcmejdkjfekoeaaDeltaS8
set_option linter.unusedVariables false
set_option linter.unusedSimpArgs false
namespace Go.Proofs.Ytcmejdkjfekoeaa
open Go.Pl Go.Bag
set_option maxHeartbeats 16000000
theorem C_cGood (m : Int) (c : Cell) (hc : inC 1000000 c) : PCallG Try.prog 47 [.c (.int .i64 m), .c (encCell c)] (.c (.bool (goodC m c))) [] := by
  obtain ⟨n, s0, s1, b0, b1⟩ := c
  obtain ⟨hn, hs0, hs1, hr0, hr1, hl0, hl1⟩ := hc
  simp only at hn hs0 hs1 hr0 hr1 hl0 hl1
  show PCallG _ 47 [.c (.int .i64 m), .c (.agg [.int .i64 n, .int .i64 s0, .int .i64 s1, encL b0, encL b1])] _ _
  refine pcallF Try.func47 c47 rfl ?_
  have c1 := C_measures m
  have c2 := C_Sum b0 (by omega) hr0
  have c3 := C_Sum b1 (by omega) hr1
  have c4 := C_Count b0 (by omega)
  have c5 := C_Count b1 (by omega)
  -- what a measure's values come to, and what of it
  have key : ∀ (b : List Run) (s : Int), I64 s → (gM b s n = true ∧ sumB b = (s, true) ∧ (if good b = true then sum b else 0) = n) ∨
      (gM b s n = false ∧ ((sumB b).2 = false ∨ ((sumB b).2 = true ∧ (sumB b).1 ≠ s) ∨ ((sumB b).2 = true ∧ (sumB b).1 = s ∧ (if good b = true then sum b else 0) ≠ n))) := fun b s hs => by
    cases hg : good b with
    | false =>
      refine .inr ⟨by simp [gM, hg], .inl (by simp [sumB, hg])⟩
    | true =>
      by_cases hw : I64 (wsum b)
      · have e : sumB b = (wsum b, true) := by simp [sumB, hg, hw]
        rw [e]
        simp only [if_true]
        by_cases h1 : wsum b = s
        · by_cases h2 : sum b = n
          · exact .inl ⟨by simp [gM, hg, h1, h2], by rw [h1], h2⟩
          · exact .inr ⟨by simp [gM, h2], .inr (.inr ⟨trivial, h1, h2⟩)⟩
        · exact .inr ⟨by simp [gM, h1], .inr (.inl ⟨trivial, h1⟩)⟩
      · have e : sumB b = (0, false) := by simp [sumB, hw]
        refine .inr ⟨?_, .inl (by rw [e])⟩
        have : ¬ wsum b = s := fun h => hw (by rw [h]; exact hs)
        simp [gM, this]
  unfold p47 r47_0 r47_1 r47_2 r47_3 r47_13
  by_cases hm : 1 ≤ m ∧ m ≤ 2
  · rw [decide_eq_true hm] at c1
    by_cases hnn : 1 ≤ n ∧ n ≤ 1099511627776
    · have k0 := key b0 s0 hs0
      have k1 := key b1 s1 hs1
      generalize sumB b0 = q at c2 k0
      generalize sumB b1 = r at c3 k1
      obtain ⟨q1, q2⟩ := q
      obtain ⟨r1, r2⟩ := r
      generalize (if good b0 = true then sum b0 else 0) = g0 at c4 k0
      generalize (if good b1 = true then sum b1 else 0) = g1 at c5 k1
      rcases k0 with ⟨p1, p2, p3⟩ | ⟨p1, p2⟩
      · obtain ⟨rfl, rfl⟩ := Prod.mk.inj p2
        subst p3
        repeat' (first | refine call1 rfl c1 ?_ | refine w_seq ?_ | refine w_ops ?_ | refine st_nil ?_ | refine th_n ?_ | refine w_block ?_ | refine w_skip ?_ | refine w_false rfl ?_ | refine g_yes rfl ?_ | refine mv_c rfl ?_ | refine pick_f rfl rfl ?_ | refine lss_f rfl rfl (by omega) ?_ | refine gtr_f rfl rfl (by omega) ?_ | refine not_ rfl ?_ | refine box_ rfl rfl rfl (fun u => ?_) | refine load_ptr rfl (by decide) rfl (Nat.le_of_ble_eq_true rfl) rfl ?_ | refine fad_ptr rfl rfl rfl ?_)
        refine w_loop ?_
        unfold b47_0 r47_4 r47_5 r47_6 r47_7 r47_8 r47_9 r47_10 r47_11 r47_12
        repeat' (first | refine idA_ rfl rfl ⟨by omega, by omega, Nat.le_of_ble_eq_true rfl⟩ rfl ?_ | refine call1 rfl c2 ?_ | refine call1 rfl c4 ?_ | refine w_seq ?_ | refine w_ops ?_ | refine w_opsD0 rfl ?_ | refine st_nil ?_ | refine th_n ?_ | refine bk_n ?_ | refine w_block ?_ | refine w_skip ?_ | refine w_true rfl ?_ | refine w_false rfl ?_ | refine g_yes rfl ?_ | refine mv_c rfl ?_ | refine pick_f rfl rfl ?_ | refine lss_t rfl rfl (by omega) ?_ | refine geq_f rfl rfl (by omega) ?_ | refine neq_f rfl rfl (by omega) ?_ | refine not_ rfl ?_ | refine add_in rfl rfl (by omega) ?_ | refine load_ptr rfl (by decide) rfl (Nat.le_of_ble_eq_true rfl) rfl ?_ | refine fad_ptr rfl rfl rfl ?_ | refine iaA_ptr rfl rfl rfl (by omega) rfl ?_ | refine ext_ rfl rfl ?_)
        refine w_loop ?_
        by_cases hm2 : m = 2
        · rcases k1 with ⟨t1, t2, t3⟩ | ⟨t1, t2⟩
          · obtain ⟨rfl, rfl⟩ := Prod.mk.inj t2
            subst t3
            rw [goodC_iff.mpr ⟨hm, hnn, p1, by rw [if_pos hm2]; exact t1⟩]
            repeat' (first | refine idA_ rfl rfl ⟨by omega, by omega, Nat.le_of_ble_eq_true rfl⟩ rfl ?_ | refine call1 rfl c3 ?_ | refine call1 rfl c5 ?_ | refine w_seq ?_ | refine w_ops ?_ | refine w_opsD0 rfl ?_ | refine st_nil ?_ | refine th_n ?_ | refine bk_n ?_ | refine w_block ?_ | refine w_skip ?_ | refine w_true rfl ?_ | refine w_false rfl ?_ | refine g_yes rfl ?_ | refine mv_c rfl ?_ | refine pick_f rfl rfl ?_ | refine lss_t rfl rfl (by omega) ?_ | refine geq_f rfl rfl (by omega) ?_ | refine neq_f rfl rfl (by omega) ?_ | refine not_ rfl ?_ | refine add_in rfl rfl (by omega) ?_ | refine load_ptr rfl (by decide) rfl (Nat.le_of_ble_eq_true rfl) rfl ?_ | refine fad_ptr rfl rfl rfl ?_ | refine iaA_ptr rfl rfl rfl (by omega) rfl ?_ | refine ext_ rfl rfl ?_)
            refine w_loop ?_
            repeat' (first | refine w_seq ?_ | refine w_ops ?_ | refine st_nil ?_ | refine th_n ?_ | refine th_x ?_ | refine bk_x ?_ | refine w_exit ?_ | refine w_ret ?_ | refine w_false rfl ?_ | refine mv_c rfl ?_ | refine lss_f rfl rfl (by omega) ?_)
            exact fin_r rfl rfl
          · have e : goodC m ⟨g0, q1, s1, b0, b1⟩ = false := by
              rw [Bool.eq_false_iff]; intro h
              have := (goodC_iff.mp h).2.2.2
              rw [if_pos hm2] at this
              rw [this] at t1; cases t1
            rw [e]
            simp only at t2
            rcases t2 with rfl | ⟨rfl, t2⟩ | ⟨rfl, rfl, t2⟩
            all_goals
              repeat' (first | refine idA_ rfl rfl ⟨by omega, by omega, Nat.le_of_ble_eq_true rfl⟩ rfl ?_ | refine call1 rfl c3 ?_ | refine call1 rfl c5 ?_ | refine w_seq ?_ | refine w_ops ?_ | refine w_opsD0 rfl ?_ | refine st_nil ?_ | refine th_n ?_ | refine th_r ?_ | refine bk_r ?_ | refine w_block ?_ | refine w_skip ?_ | refine w_ret ?_ | refine w_true rfl ?_ | refine w_false rfl ?_ | refine g_yes rfl ?_ | refine g_no rfl ?_ | refine mv_c rfl ?_ | refine pick_t rfl rfl ?_ | refine pick_f rfl rfl ?_ | refine lss_t rfl rfl (by omega) ?_ | refine geq_f rfl rfl (by omega) ?_ | refine neq_t rfl rfl (by omega) ?_ | refine neq_f rfl rfl (by omega) ?_ | refine not_ rfl ?_ | refine load_ptr rfl (by decide) rfl (Nat.le_of_ble_eq_true rfl) rfl ?_ | refine fad_ptr rfl rfl rfl ?_ | refine iaA_ptr rfl rfl rfl (by omega) rfl ?_ | refine ext_ rfl rfl ?_)
            all_goals exact fin_r rfl rfl
        · by_cases h1 : s1 = 0
          · cases b1 with
            | nil =>
              rw [goodC_iff.mpr ⟨hm, hnn, p1, by rw [if_neg hm2]; exact ⟨h1, rfl⟩⟩]
              repeat' (first | refine idA_ rfl rfl ⟨by omega, by omega, Nat.le_of_ble_eq_true rfl⟩ rfl ?_ | refine len_sl (es := []) rfl rfl ?_ | refine w_seq ?_ | refine w_ops ?_ | refine st_nil ?_ | refine th_n ?_ | refine th_x ?_ | refine bk_x ?_ | refine w_block ?_ | refine w_skip ?_ | refine w_exit ?_ | refine w_true rfl ?_ | refine w_false rfl ?_ | refine g_yes rfl ?_ | refine mv_c rfl ?_ | refine pick_f rfl rfl ?_ | refine lss_t rfl rfl (by omega) ?_ | refine gtr_ rfl rfl ?_ | refine geq_t rfl rfl (by omega) ?_ | refine neq_f rfl rfl (by omega) ?_ | refine add_in rfl rfl (by omega) ?_ | refine load_ptr rfl (by decide) rfl (Nat.le_of_ble_eq_true rfl) rfl ?_ | refine fad_ptr rfl rfl rfl ?_ | refine iaA_ptr rfl rfl rfl (by omega) rfl ?_)
              refine w_loop ?_
              repeat' (first | refine w_seq ?_ | refine w_ops ?_ | refine st_nil ?_ | refine th_n ?_ | refine th_x ?_ | refine bk_x ?_ | refine w_exit ?_ | refine w_ret ?_ | refine w_false rfl ?_ | refine mv_c rfl ?_ | refine lss_f rfl rfl (by omega) ?_)
              exact fin_r rfl rfl
            | cons x b1 =>
              have e : goodC m ⟨g0, q1, s1, b0, x :: b1⟩ = false := by
                rw [Bool.eq_false_iff]; intro h
                have := (goodC_iff.mp h).2.2.2
                rw [if_neg hm2] at this
                cases this.2
              rw [e]
              have hp : 0 < (x :: b1).length := by simp
              repeat' (first | refine idA_ rfl rfl ⟨by omega, by omega, Nat.le_of_ble_eq_true rfl⟩ rfl ?_ | refine len_sl rfl (List.length_map _) ?_ | refine w_seq ?_ | refine w_ops ?_ | refine st_nil ?_ | refine th_n ?_ | refine th_r ?_ | refine bk_r ?_ | refine w_block ?_ | refine w_skip ?_ | refine w_ret ?_ | refine w_true rfl ?_ | refine g_yes rfl ?_ | refine mv_c rfl ?_ | refine pick_f rfl rfl ?_ | refine lss_t rfl rfl (by omega) ?_ | refine gtr_t rfl rfl (by omega) ?_ | refine geq_t rfl rfl (by omega) ?_ | refine neq_f rfl rfl (by omega) ?_ | refine load_ptr rfl (by decide) rfl (Nat.le_of_ble_eq_true rfl) rfl ?_ | refine fad_ptr rfl rfl rfl ?_ | refine iaA_ptr rfl rfl rfl (by omega) rfl ?_)
              exact fin_r rfl rfl
          · have e : goodC m ⟨g0, q1, s1, b0, b1⟩ = false := by
              rw [Bool.eq_false_iff]; intro h
              have := (goodC_iff.mp h).2.2.2
              rw [if_neg hm2] at this
              exact h1 this.1
            rw [e]
            repeat' (first | refine idA_ rfl rfl ⟨by omega, by omega, Nat.le_of_ble_eq_true rfl⟩ rfl ?_ | refine w_seq ?_ | refine w_ops ?_ | refine st_nil ?_ | refine th_n ?_ | refine th_r ?_ | refine bk_r ?_ | refine w_block ?_ | refine w_skip ?_ | refine w_ret ?_ | refine w_true rfl ?_ | refine g_no rfl ?_ | refine mv_c rfl ?_ | refine pick_t rfl rfl ?_ | refine lss_t rfl rfl (by omega) ?_ | refine geq_t rfl rfl (by omega) ?_ | refine neq_t rfl rfl (by omega) ?_ | refine load_ptr rfl (by decide) rfl (Nat.le_of_ble_eq_true rfl) rfl ?_ | refine fad_ptr rfl rfl rfl ?_ | refine iaA_ptr rfl rfl rfl (by omega) rfl ?_)
            exact fin_r rfl rfl
      · have e : goodC m ⟨n, s0, s1, b0, b1⟩ = false := by
          rw [Bool.eq_false_iff]; intro h
          have := (goodC_iff.mp h).2.2.1
          simp only at this
          rw [this] at p1; cases p1
        rw [e]
        simp only at p2
        rcases p2 with rfl | ⟨rfl, p2⟩ | ⟨rfl, rfl, p2⟩
        all_goals
          repeat' (first | refine call1 rfl c1 ?_ | refine w_seq ?_ | refine w_ops ?_ | refine st_nil ?_ | refine th_n ?_ | refine w_block ?_ | refine w_skip ?_ | refine w_false rfl ?_ | refine g_yes rfl ?_ | refine mv_c rfl ?_ | refine pick_f rfl rfl ?_ | refine lss_f rfl rfl (by omega) ?_ | refine gtr_f rfl rfl (by omega) ?_ | refine not_ rfl ?_ | refine box_ rfl rfl rfl (fun u => ?_) | refine load_ptr rfl (by decide) rfl (Nat.le_of_ble_eq_true rfl) rfl ?_ | refine fad_ptr rfl rfl rfl ?_)
        all_goals refine w_loop ?_
        all_goals
          unfold b47_0 r47_4 r47_5 r47_6 r47_7 r47_8 r47_9 r47_10 r47_11 r47_12
        all_goals
          repeat' (first | refine idA_ rfl rfl ⟨by omega, by omega, Nat.le_of_ble_eq_true rfl⟩ rfl ?_ | refine call1 rfl c2 ?_ | refine call1 rfl c4 ?_ | refine w_seq ?_ | refine w_ops ?_ | refine w_opsD0 rfl ?_ | refine st_nil ?_ | refine th_n ?_ | refine th_r ?_ | refine bk_r ?_ | refine w_block ?_ | refine w_skip ?_ | refine w_ret ?_ | refine w_true rfl ?_ | refine w_false rfl ?_ | refine g_yes rfl ?_ | refine g_no rfl ?_ | refine mv_c rfl ?_ | refine pick_t rfl rfl ?_ | refine pick_f rfl rfl ?_ | refine lss_t rfl rfl (by omega) ?_ | refine geq_f rfl rfl (by omega) ?_ | refine neq_t rfl rfl (by omega) ?_ | refine neq_f rfl rfl (by omega) ?_ | refine not_ rfl ?_ | refine load_ptr rfl (by decide) rfl (Nat.le_of_ble_eq_true rfl) rfl ?_ | refine fad_ptr rfl rfl rfl ?_ | refine iaA_ptr rfl rfl rfl (by omega) rfl ?_ | refine ext_ rfl rfl ?_)
        all_goals exact fin_r rfl rfl
    · have e : goodC m ⟨n, s0, s1, b0, b1⟩ = false := by
        rw [Bool.eq_false_iff]; intro h
        exact hnn (goodC_iff.mp h).2.1
      rw [e]
      by_cases h1 : n < 1
      · repeat' (first | refine call1 rfl c1 ?_ | refine w_seq ?_ | refine w_ops ?_ | refine st_nil ?_ | refine th_n ?_ | refine th_r ?_ | refine w_ret ?_ | refine w_true rfl ?_ | refine g_yes rfl ?_ | refine g_no rfl ?_ | refine mv_c rfl ?_ | refine pick_t rfl rfl ?_ | refine pick_f rfl rfl ?_ | refine lss_t rfl rfl (by omega) ?_ | refine not_ rfl ?_ | refine box_ rfl rfl rfl (fun u => ?_) | refine load_ptr rfl (by decide) rfl (Nat.le_of_ble_eq_true rfl) rfl ?_ | refine fad_ptr rfl rfl rfl ?_)
        exact fin_r rfl rfl
      · repeat' (first | refine call1 rfl c1 ?_ | refine w_seq ?_ | refine w_ops ?_ | refine st_nil ?_ | refine th_n ?_ | refine th_r ?_ | refine w_ret ?_ | refine w_true rfl ?_ | refine g_yes rfl ?_ | refine mv_c rfl ?_ | refine pick_f rfl rfl ?_ | refine lss_f rfl rfl (by omega) ?_ | refine gtr_t rfl rfl (by omega) ?_ | refine not_ rfl ?_ | refine box_ rfl rfl rfl (fun u => ?_) | refine load_ptr rfl (by decide) rfl (Nat.le_of_ble_eq_true rfl) rfl ?_ | refine fad_ptr rfl rfl rfl ?_)
        exact fin_r rfl rfl
  · rw [decide_eq_false hm] at c1
    have e : goodC m ⟨n, s0, s1, b0, b1⟩ = false := by
      rw [Bool.eq_false_iff]; intro h
      exact hm (goodC_iff.mp h).1
    rw [e]
    repeat' (first | refine call1 rfl c1 ?_ | refine w_seq ?_ | refine w_ops ?_ | refine st_nil ?_ | refine th_n ?_ | refine th_r ?_ | refine w_ret ?_ | refine w_true rfl ?_ | refine g_no rfl ?_ | refine mv_c rfl ?_ | refine pick_t rfl rfl ?_ | refine not_ rfl ?_ | refine box_ rfl rfl rfl (fun u => ?_))
    exact fin_r rfl rfl
theorem C_rcGood (m : Int) (c : Cell) (hc : inC 999999 c) : PCallG Try.prog 48 [.c (.int .i64 m), .c (encCell c)] (.c (.bool (goodC m c))) [] := by
  obtain ⟨n, s0, s1, b0, b1⟩ := c
  obtain ⟨hn, hs0, hs1, hr0, hr1, hl0, hl1⟩ := hc
  simp only at hn hs0 hs1 hr0 hr1 hl0 hl1
  show PCallG _ 48 [.c (.int .i64 m), .c (.agg [.int .i64 n, .int .i64 s0, .int .i64 s1, encL b0, encL b1])] _ _
  refine pcallF Try.func48 c48 rfl ?_
  have c2 := C_rGood b0 (by omega)
  have c3 := C_rGood b1 (by omega)
  have c4 := C_rCount b0 (by omega)
  have c5 := C_rCount b1 (by omega)
  have wide : ∀ (b : List Run), b.length ≤ 999999 → ranged b → good b = true → PCallG Try.prog 92 [.c (encL b)] (.c (.agg (cellsV (wsum b)))) [] := fun b hb hr hg => by
    have := C_rWide b (by omega) hr
    obtain ⟨g1, g2, g3⟩ := good_iff.mp hg
    have h0 : cap = 1099511627776 := rfl
    rw [wideS_of b 0 g2 hr (by simp [absI]; omega), Int.zero_add, enc3_of] at this
    exact this
  have c6 := wide b0 hl0 hr0
  have c7 := wide b1 hl1 hr1
  have c8 := C_rOf1 s0 hs0
  have c9 := C_rOf1 s1 hs1
  have e0 := eq3_of (wsum b0) s0
  have e1 := eq3_of (wsum b1) s1
  have key : ∀ (b : List Run) (s : Int), (gM b s n = true ∧ good b = true ∧ wsum b = s ∧ sum b = n) ∨ (gM b s n = false ∧ (good b = false ∨ (good b = true ∧ sum b ≠ n) ∨ (good b = true ∧ sum b = n ∧ wsum b ≠ s))) := fun b s => by
    cases hg : good b with
    | false => exact .inr ⟨by simp [gM, hg], .inl rfl⟩
    | true =>
      by_cases h2 : sum b = n
      · by_cases h1 : wsum b = s
        · exact .inl ⟨by simp [gM, hg, h1, h2], rfl, h1, h2⟩
        · exact .inr ⟨by simp [gM, h1], .inr (.inr ⟨rfl, h2, h1⟩)⟩
      · exact .inr ⟨by simp [gM, h2], .inr (.inl ⟨rfl, h2⟩)⟩
  have k0 := key b0 s0
  have k1 := key b1 s1
  clear key wide
  unfold p48 r48_0 r48_1 r48_2 r48_3 r48_11
  by_cases hm : 1 ≤ m ∧ m ≤ 2
  · by_cases hnn : 1 ≤ n ∧ n ≤ 1099511627776
    · generalize good b0 = x0 at c2 c4 c6 k0
      generalize good b1 = x1 at c3 c5 c7 k1
      generalize sum b0 = g0 at c4 k0
      generalize sum b1 = g1 at c5 k1
      generalize wsum b0 = w0 at c6 e0 k0
      generalize wsum b1 = w1 at c7 e1 k1
      rcases k0 with ⟨p1, rfl, rfl, rfl⟩ | ⟨p1, p2⟩
      · rw [if_pos rfl] at c4
        have c6' := c6 rfl
        rw [decide_eq_true rfl] at e0
        repeat' (first | refine w_seq ?_ | refine w_ops ?_ | refine st_nil ?_ | refine th_n ?_ | refine w_block ?_ | refine w_skip ?_ | refine w_false rfl ?_ | refine g_yes rfl ?_ | refine mv_c rfl ?_ | refine pick_f rfl rfl ?_ | refine lss_f rfl rfl (by omega) ?_ | refine gtr_f rfl rfl (by omega) ?_ | refine box_ rfl rfl rfl (fun u => ?_) | refine load_ptr rfl (by decide) rfl (Nat.le_of_ble_eq_true rfl) rfl ?_ | refine fad_ptr rfl rfl rfl ?_)
        refine w_loop ?_
        unfold b48_0 r48_4 r48_5 r48_6 r48_7 r48_8 r48_9 r48_10
        repeat' (first | refine call1 rfl c2 ?_ | refine call1 rfl c4 ?_ | refine call1 rfl c6' ?_ | refine call1 rfl c8 ?_ | refine eqs_f rfl rfl e0 ?_ | refine w_seq ?_ | refine w_ops ?_ | refine w_opsD0 rfl ?_ | refine st_nil ?_ | refine th_n ?_ | refine bk_n ?_ | refine w_block ?_ | refine w_skip ?_ | refine w_true rfl ?_ | refine w_false rfl ?_ | refine g_yes rfl ?_ | refine mv_c rfl ?_ | refine pick_f rfl rfl ?_ | refine lss_t rfl rfl (by omega) ?_ | refine geq_f rfl rfl (by omega) ?_ | refine neq_f rfl rfl (by omega) ?_ | refine not_ rfl ?_ | refine add_in rfl rfl (by omega) ?_ | refine load_ptr rfl (by decide) rfl (Nat.le_of_ble_eq_true rfl) rfl ?_ | refine fad_ptr rfl rfl rfl ?_ | refine iaA_ptr rfl rfl rfl (by omega) rfl ?_)
        refine w_loop ?_
        by_cases hm2 : m = 2
        · rcases k1 with ⟨t1, rfl, rfl, rfl⟩ | ⟨t1, t2⟩
          · rw [if_pos rfl] at c5
            have c7' := c7 rfl
            rw [decide_eq_true rfl] at e1
            rw [goodC_iff.mpr ⟨hm, hnn, p1, by rw [if_pos hm2]; exact t1⟩]
            repeat' (first | refine call1 rfl c3 ?_ | refine call1 rfl c5 ?_ | refine call1 rfl c7' ?_ | refine call1 rfl c9 ?_ | refine eqs_f rfl rfl e1 ?_ | refine w_seq ?_ | refine w_ops ?_ | refine w_opsD0 rfl ?_ | refine st_nil ?_ | refine th_n ?_ | refine bk_n ?_ | refine w_block ?_ | refine w_skip ?_ | refine w_true rfl ?_ | refine w_false rfl ?_ | refine g_yes rfl ?_ | refine mv_c rfl ?_ | refine pick_f rfl rfl ?_ | refine lss_t rfl rfl (by omega) ?_ | refine geq_f rfl rfl (by omega) ?_ | refine neq_f rfl rfl (by omega) ?_ | refine not_ rfl ?_ | refine add_in rfl rfl (by omega) ?_ | refine load_ptr rfl (by decide) rfl (Nat.le_of_ble_eq_true rfl) rfl ?_ | refine fad_ptr rfl rfl rfl ?_ | refine iaA_ptr rfl rfl rfl (by omega) rfl ?_)
            refine w_loop ?_
            repeat' (first | refine w_seq ?_ | refine w_ops ?_ | refine st_nil ?_ | refine th_n ?_ | refine th_x ?_ | refine bk_x ?_ | refine w_exit ?_ | refine w_ret ?_ | refine w_false rfl ?_ | refine mv_c rfl ?_ | refine lss_f rfl rfl (by omega) ?_)
            exact fin_r rfl rfl
          · have e : goodC m ⟨g0, w0, s1, b0, b1⟩ = false := by
              rw [Bool.eq_false_iff]; intro h
              have := (goodC_iff.mp h).2.2.2
              rw [if_pos hm2] at this
              rw [this] at t1; cases t1
            rw [e]
            rcases t2 with rfl | ⟨rfl, t2⟩ | ⟨rfl, rfl, t2⟩
            · repeat' (first | refine call1 rfl c3 ?_ | refine w_seq ?_ | refine w_ops ?_ | refine w_opsD0 rfl ?_ | refine st_nil ?_ | refine th_n ?_ | refine th_r ?_ | refine bk_r ?_ | refine w_block ?_ | refine w_skip ?_ | refine w_ret ?_ | refine w_true rfl ?_ | refine w_false rfl ?_ | refine g_no rfl ?_ | refine mv_c rfl ?_ | refine pick_t rfl rfl ?_ | refine lss_t rfl rfl (by omega) ?_ | refine geq_f rfl rfl (by omega) ?_ | refine not_ rfl ?_ | refine load_ptr rfl (by decide) rfl (Nat.le_of_ble_eq_true rfl) rfl ?_ | refine fad_ptr rfl rfl rfl ?_ | refine iaA_ptr rfl rfl rfl (by omega) rfl ?_)
              exact fin_r rfl rfl
            · rw [if_pos rfl] at c5
              repeat' (first | refine call1 rfl c3 ?_ | refine call1 rfl c5 ?_ | refine w_seq ?_ | refine w_ops ?_ | refine w_opsD0 rfl ?_ | refine st_nil ?_ | refine th_n ?_ | refine th_r ?_ | refine bk_r ?_ | refine w_block ?_ | refine w_skip ?_ | refine w_ret ?_ | refine w_true rfl ?_ | refine w_false rfl ?_ | refine g_yes rfl ?_ | refine g_no rfl ?_ | refine mv_c rfl ?_ | refine pick_t rfl rfl ?_ | refine pick_f rfl rfl ?_ | refine lss_t rfl rfl (by omega) ?_ | refine geq_f rfl rfl (by omega) ?_ | refine neq_t rfl rfl (by omega) ?_ | refine not_ rfl ?_ | refine load_ptr rfl (by decide) rfl (Nat.le_of_ble_eq_true rfl) rfl ?_ | refine fad_ptr rfl rfl rfl ?_ | refine iaA_ptr rfl rfl rfl (by omega) rfl ?_)
              exact fin_r rfl rfl
            · rw [if_pos rfl] at c5
              have c7' := c7 rfl
              rw [decide_eq_false t2] at e1
              repeat' (first | refine call1 rfl c3 ?_ | refine call1 rfl c5 ?_ | refine call1 rfl c7' ?_ | refine call1 rfl c9 ?_ | refine eqs_f rfl rfl e1 ?_ | refine w_seq ?_ | refine w_ops ?_ | refine w_opsD0 rfl ?_ | refine st_nil ?_ | refine th_n ?_ | refine th_r ?_ | refine bk_r ?_ | refine w_block ?_ | refine w_skip ?_ | refine w_ret ?_ | refine w_true rfl ?_ | refine w_false rfl ?_ | refine g_yes rfl ?_ | refine mv_c rfl ?_ | refine pick_f rfl rfl ?_ | refine lss_t rfl rfl (by omega) ?_ | refine geq_f rfl rfl (by omega) ?_ | refine neq_f rfl rfl (by omega) ?_ | refine not_ rfl ?_ | refine load_ptr rfl (by decide) rfl (Nat.le_of_ble_eq_true rfl) rfl ?_ | refine fad_ptr rfl rfl rfl ?_ | refine iaA_ptr rfl rfl rfl (by omega) rfl ?_)
              exact fin_r rfl rfl
        · by_cases h1 : s1 = 0
          · cases b1 with
            | nil =>
              rw [goodC_iff.mpr ⟨hm, hnn, p1, by rw [if_neg hm2]; exact ⟨h1, rfl⟩⟩]
              repeat' (first | refine len_sl (es := []) rfl rfl ?_ | refine w_seq ?_ | refine w_ops ?_ | refine st_nil ?_ | refine th_n ?_ | refine bk_n ?_ | refine w_block ?_ | refine w_skip ?_ | refine w_true rfl ?_ | refine w_false rfl ?_ | refine g_yes rfl ?_ | refine mv_c rfl ?_ | refine pick_f rfl rfl ?_ | refine lss_t rfl rfl (by omega) ?_ | refine gtr_ rfl rfl ?_ | refine geq_t rfl rfl (by omega) ?_ | refine neq_f rfl rfl (by omega) ?_ | refine add_in rfl rfl (by omega) ?_ | refine load_ptr rfl (by decide) rfl (Nat.le_of_ble_eq_true rfl) rfl ?_ | refine fad_ptr rfl rfl rfl ?_ | refine iaA_ptr rfl rfl rfl (by omega) rfl ?_)
              refine w_loop ?_
              repeat' (first | refine w_seq ?_ | refine w_ops ?_ | refine st_nil ?_ | refine th_n ?_ | refine th_x ?_ | refine bk_x ?_ | refine w_exit ?_ | refine w_ret ?_ | refine w_false rfl ?_ | refine mv_c rfl ?_ | refine lss_f rfl rfl (by omega) ?_)
              exact fin_r rfl rfl
            | cons x b1 =>
              have e : goodC m ⟨g0, w0, s1, b0, x :: b1⟩ = false := by
                rw [Bool.eq_false_iff]; intro h
                have := (goodC_iff.mp h).2.2.2
                rw [if_neg hm2] at this
                cases this.2
              rw [e]
              have hp : 0 < (x :: b1).length := by simp
              repeat' (first | refine len_sl rfl (List.length_map _) ?_ | refine w_seq ?_ | refine w_ops ?_ | refine st_nil ?_ | refine th_n ?_ | refine th_r ?_ | refine bk_r ?_ | refine w_block ?_ | refine w_skip ?_ | refine w_ret ?_ | refine w_true rfl ?_ | refine g_yes rfl ?_ | refine mv_c rfl ?_ | refine pick_f rfl rfl ?_ | refine lss_t rfl rfl (by omega) ?_ | refine gtr_t rfl rfl (by omega) ?_ | refine geq_t rfl rfl (by omega) ?_ | refine neq_f rfl rfl (by omega) ?_ | refine load_ptr rfl (by decide) rfl (Nat.le_of_ble_eq_true rfl) rfl ?_ | refine fad_ptr rfl rfl rfl ?_ | refine iaA_ptr rfl rfl rfl (by omega) rfl ?_)
              exact fin_r rfl rfl
          · have e : goodC m ⟨g0, w0, s1, b0, b1⟩ = false := by
              rw [Bool.eq_false_iff]; intro h
              have := (goodC_iff.mp h).2.2.2
              rw [if_neg hm2] at this
              exact h1 this.1
            rw [e]
            repeat' (first | refine w_seq ?_ | refine w_ops ?_ | refine st_nil ?_ | refine th_n ?_ | refine th_r ?_ | refine bk_r ?_ | refine w_block ?_ | refine w_skip ?_ | refine w_ret ?_ | refine w_true rfl ?_ | refine g_no rfl ?_ | refine mv_c rfl ?_ | refine pick_t rfl rfl ?_ | refine lss_t rfl rfl (by omega) ?_ | refine geq_t rfl rfl (by omega) ?_ | refine neq_t rfl rfl (by omega) ?_ | refine load_ptr rfl (by decide) rfl (Nat.le_of_ble_eq_true rfl) rfl ?_ | refine fad_ptr rfl rfl rfl ?_ | refine iaA_ptr rfl rfl rfl (by omega) rfl ?_)
            exact fin_r rfl rfl
      · have e : goodC m ⟨n, s0, s1, b0, b1⟩ = false := by
          rw [Bool.eq_false_iff]; intro h
          have := (goodC_iff.mp h).2.2.1
          simp only at this
          rw [this] at p1; cases p1
        rw [e]
        repeat' (first | refine w_seq ?_ | refine w_ops ?_ | refine st_nil ?_ | refine th_n ?_ | refine w_block ?_ | refine w_skip ?_ | refine w_false rfl ?_ | refine g_yes rfl ?_ | refine mv_c rfl ?_ | refine pick_f rfl rfl ?_ | refine lss_f rfl rfl (by omega) ?_ | refine gtr_f rfl rfl (by omega) ?_ | refine box_ rfl rfl rfl (fun u => ?_) | refine load_ptr rfl (by decide) rfl (Nat.le_of_ble_eq_true rfl) rfl ?_ | refine fad_ptr rfl rfl rfl ?_)
        refine w_loop ?_
        unfold b48_0 r48_4 r48_5 r48_6 r48_7 r48_8 r48_9 r48_10
        rcases p2 with rfl | ⟨rfl, p2⟩ | ⟨rfl, rfl, p2⟩
        · repeat' (first | refine call1 rfl c2 ?_ | refine w_seq ?_ | refine w_ops ?_ | refine w_opsD0 rfl ?_ | refine st_nil ?_ | refine th_n ?_ | refine th_r ?_ | refine bk_r ?_ | refine w_block ?_ | refine w_skip ?_ | refine w_ret ?_ | refine w_true rfl ?_ | refine w_false rfl ?_ | refine g_no rfl ?_ | refine mv_c rfl ?_ | refine pick_t rfl rfl ?_ | refine lss_t rfl rfl (by omega) ?_ | refine geq_f rfl rfl (by omega) ?_ | refine not_ rfl ?_ | refine load_ptr rfl (by decide) rfl (Nat.le_of_ble_eq_true rfl) rfl ?_ | refine fad_ptr rfl rfl rfl ?_ | refine iaA_ptr rfl rfl rfl (by omega) rfl ?_)
          exact fin_r rfl rfl
        · rw [if_pos rfl] at c4
          repeat' (first | refine call1 rfl c2 ?_ | refine call1 rfl c4 ?_ | refine w_seq ?_ | refine w_ops ?_ | refine w_opsD0 rfl ?_ | refine st_nil ?_ | refine th_n ?_ | refine th_r ?_ | refine bk_r ?_ | refine w_block ?_ | refine w_skip ?_ | refine w_ret ?_ | refine w_true rfl ?_ | refine w_false rfl ?_ | refine g_yes rfl ?_ | refine g_no rfl ?_ | refine mv_c rfl ?_ | refine pick_t rfl rfl ?_ | refine pick_f rfl rfl ?_ | refine lss_t rfl rfl (by omega) ?_ | refine geq_f rfl rfl (by omega) ?_ | refine neq_t rfl rfl (by omega) ?_ | refine not_ rfl ?_ | refine load_ptr rfl (by decide) rfl (Nat.le_of_ble_eq_true rfl) rfl ?_ | refine fad_ptr rfl rfl rfl ?_ | refine iaA_ptr rfl rfl rfl (by omega) rfl ?_)
          exact fin_r rfl rfl
        · rw [if_pos rfl] at c4
          have c6' := c6 rfl
          rw [decide_eq_false p2] at e0
          repeat' (first | refine call1 rfl c2 ?_ | refine call1 rfl c4 ?_ | refine call1 rfl c6' ?_ | refine call1 rfl c8 ?_ | refine eqs_f rfl rfl e0 ?_ | refine w_seq ?_ | refine w_ops ?_ | refine w_opsD0 rfl ?_ | refine st_nil ?_ | refine th_n ?_ | refine th_r ?_ | refine bk_r ?_ | refine w_block ?_ | refine w_skip ?_ | refine w_ret ?_ | refine w_true rfl ?_ | refine w_false rfl ?_ | refine g_yes rfl ?_ | refine mv_c rfl ?_ | refine pick_f rfl rfl ?_ | refine lss_t rfl rfl (by omega) ?_ | refine geq_f rfl rfl (by omega) ?_ | refine neq_f rfl rfl (by omega) ?_ | refine not_ rfl ?_ | refine load_ptr rfl (by decide) rfl (Nat.le_of_ble_eq_true rfl) rfl ?_ | refine fad_ptr rfl rfl rfl ?_ | refine iaA_ptr rfl rfl rfl (by omega) rfl ?_)
          exact fin_r rfl rfl
    · have e : goodC m ⟨n, s0, s1, b0, b1⟩ = false := by
        rw [Bool.eq_false_iff]; intro h
        exact hnn (goodC_iff.mp h).2.1
      rw [e]
      by_cases h1 : n < 1
      · repeat' (first | refine w_seq ?_ | refine w_ops ?_ | refine st_nil ?_ | refine th_n ?_ | refine th_r ?_ | refine w_ret ?_ | refine w_true rfl ?_ | refine g_yes rfl ?_ | refine g_no rfl ?_ | refine mv_c rfl ?_ | refine pick_t rfl rfl ?_ | refine pick_f rfl rfl ?_ | refine lss_t rfl rfl (by omega) ?_ | refine lss_f rfl rfl (by omega) ?_ | refine gtr_f rfl rfl (by omega) ?_ | refine box_ rfl rfl rfl (fun u => ?_) | refine load_ptr rfl (by decide) rfl (Nat.le_of_ble_eq_true rfl) rfl ?_ | refine fad_ptr rfl rfl rfl ?_)
        exact fin_r rfl rfl
      · repeat' (first | refine w_seq ?_ | refine w_ops ?_ | refine st_nil ?_ | refine th_n ?_ | refine th_r ?_ | refine w_ret ?_ | refine w_true rfl ?_ | refine g_yes rfl ?_ | refine mv_c rfl ?_ | refine pick_f rfl rfl ?_ | refine lss_f rfl rfl (by omega) ?_ | refine gtr_t rfl rfl (by omega) ?_ | refine gtr_f rfl rfl (by omega) ?_ | refine box_ rfl rfl rfl (fun u => ?_) | refine load_ptr rfl (by decide) rfl (Nat.le_of_ble_eq_true rfl) rfl ?_ | refine fad_ptr rfl rfl rfl ?_)
        exact fin_r rfl rfl
  · have e : goodC m ⟨n, s0, s1, b0, b1⟩ = false := by
      rw [Bool.eq_false_iff]; intro h
      exact hm (goodC_iff.mp h).1
    rw [e]
    by_cases h1 : m < 1
    · repeat' (first | refine w_seq ?_ | refine w_ops ?_ | refine st_nil ?_ | refine th_n ?_ | refine th_r ?_ | refine w_ret ?_ | refine w_true rfl ?_ | refine g_no rfl ?_ | refine mv_c rfl ?_ | refine pick_t rfl rfl ?_ | refine lss_t rfl rfl (by omega) ?_ | refine box_ rfl rfl rfl (fun u => ?_))
      exact fin_r rfl rfl
    · repeat' (first | refine w_seq ?_ | refine w_ops ?_ | refine st_nil ?_ | refine th_n ?_ | refine th_r ?_ | refine w_ret ?_ | refine w_true rfl ?_ | refine g_yes rfl ?_ | refine g_no rfl ?_ | refine mv_c rfl ?_ | refine pick_t rfl rfl ?_ | refine pick_f rfl rfl ?_ | refine lss_f rfl rfl (by omega) ?_ | refine gtr_t rfl rfl (by omega) ?_ | refine box_ rfl rfl rfl (fun u => ?_))
      exact fin_r rfl rfl
end Go.Proofs.Ytcmejdkjfekoeaa
namespace Go.Proofs.Ytcmejdkjfekoeaa
open Go.Pl Go.Bag
set_option maxHeartbeats 16000000
theorem same_B (j k : List Run) (hj : j.length ≤ 1000000) (hk : k.length ≤ 1000000) : PCallG Try.prog 29 [.c (encL j), .c (encL k)] (.c (.bool (decide (j = k)))) [] := C_Same j k (by omega) (by omega)
theorem eq2_of (a b c d : Int) : eqC true [LK.i, LK.i] (.agg [.int .i64 a, .int .i64 b]) (.agg [.int .i64 c, .int .i64 d]) = some (decide (a = c ∧ b = d)) := by
  have : eqC true [LK.i, LK.i] (.agg [.int .i64 a, .int .i64 b]) (.agg [.int .i64 c, .int .i64 d]) = some ((a == c) && ((b == d) && true)) := by simp [eqC, shEq]
  rw [this]
  congr 1
  by_cases h1 : a = c <;> by_cases h2 : b = d <;> simp [h1, h2]
theorem C_cSame (a b : Cell) (ha : a.b0.length ≤ 1000000 ∧ a.b1.length ≤ 1000000) (hb : b.b0.length ≤ 1000000 ∧ b.b1.length ≤ 1000000) : PCallG Try.prog 53 [.c (encCell a), .c (encCell b)] (.c (.bool (decide (a = b)))) [] := by
  obtain ⟨n, s0, s1, b0, b1⟩ := a
  obtain ⟨k, t0, t1, d0, d1⟩ := b
  simp only at ha hb
  show PCallG _ 53 [.c (.agg [.int .i64 n, .int .i64 s0, .int .i64 s1, encL b0, encL b1]), .c (.agg [.int .i64 k, .int .i64 t0, .int .i64 t1, encL d0, encL d1])] _ _
  refine pcallF Try.func53 c53 rfl ?_
  have c1 := same_B b0 d0 ha.1 hb.1
  have c2 := same_B b1 d1 ha.2 hb.2
  have e := eq2_of s0 s1 t0 t1
  unfold p53 r53_0 r53_1 r53_2 r53_3 r53_9
  by_cases h1 : n = k
  · by_cases h2 : s0 = t0 ∧ s1 = t1
    · rw [decide_eq_true h2] at e
      repeat' (first | refine eqs_f rfl rfl e ?_ | refine w_seq ?_ | refine w_ops ?_ | refine st_nil ?_ | refine th_n ?_ | refine w_block ?_ | refine w_skip ?_ | refine w_false rfl ?_ | refine g_yes rfl ?_ | refine mv_c rfl ?_ | refine pick_f rfl rfl ?_ | refine neq_f rfl rfl (by omega) ?_ | refine box_ rfl rfl rfl (fun u => ?_) | refine load_ptr rfl (by decide) rfl (Nat.le_of_ble_eq_true rfl) rfl ?_ | refine fad_ptr rfl rfl rfl ?_)
      refine w_loop ?_
      unfold b53_0 r53_4 r53_5 r53_6 r53_7 r53_8
      by_cases h3 : b0 = d0
      · rw [decide_eq_true h3] at c1
        repeat' (first | refine call2 rfl rfl c1 ?_ | refine w_seq ?_ | refine w_ops ?_ | refine w_opsD0 rfl ?_ | refine st_nil ?_ | refine th_n ?_ | refine bk_n ?_ | refine w_block ?_ | refine w_skip ?_ | refine w_true rfl ?_ | refine w_false rfl ?_ | refine mv_c rfl ?_ | refine lss_t rfl rfl (by omega) ?_ | refine not_ rfl ?_ | refine add_in rfl rfl (by omega) ?_ | refine load_ptr rfl (by decide) rfl (Nat.le_of_ble_eq_true rfl) rfl ?_ | refine fad_ptr rfl rfl rfl ?_ | refine iaA_ptr rfl rfl rfl (by omega) rfl ?_)
        refine w_loop ?_
        by_cases h4 : b1 = d1
        · rw [decide_eq_true h4] at c2
          rw [decide_eq_true (by rw [h1, h2.1, h2.2, h3, h4])]
          repeat' (first | refine call2 rfl rfl c2 ?_ | refine w_seq ?_ | refine w_ops ?_ | refine w_opsD0 rfl ?_ | refine st_nil ?_ | refine th_n ?_ | refine bk_n ?_ | refine w_block ?_ | refine w_skip ?_ | refine w_true rfl ?_ | refine w_false rfl ?_ | refine mv_c rfl ?_ | refine lss_t rfl rfl (by omega) ?_ | refine not_ rfl ?_ | refine add_in rfl rfl (by omega) ?_ | refine load_ptr rfl (by decide) rfl (Nat.le_of_ble_eq_true rfl) rfl ?_ | refine fad_ptr rfl rfl rfl ?_ | refine iaA_ptr rfl rfl rfl (by omega) rfl ?_)
          refine w_loop ?_
          repeat' (first | refine w_seq ?_ | refine w_ops ?_ | refine st_nil ?_ | refine th_n ?_ | refine th_x ?_ | refine bk_x ?_ | refine w_exit ?_ | refine w_ret ?_ | refine w_false rfl ?_ | refine mv_c rfl ?_ | refine lss_f rfl rfl (by omega) ?_)
          exact fin_r rfl rfl
        · rw [decide_eq_false h4] at c2
          rw [decide_eq_false (by intro h; exact h4 (congrArg Cell.b1 h))]
          repeat' (first | refine call2 rfl rfl c2 ?_ | refine w_seq ?_ | refine w_ops ?_ | refine w_opsD0 rfl ?_ | refine st_nil ?_ | refine th_n ?_ | refine th_r ?_ | refine bk_r ?_ | refine w_block ?_ | refine w_skip ?_ | refine w_ret ?_ | refine w_true rfl ?_ | refine mv_c rfl ?_ | refine lss_t rfl rfl (by omega) ?_ | refine not_ rfl ?_ | refine load_ptr rfl (by decide) rfl (Nat.le_of_ble_eq_true rfl) rfl ?_ | refine fad_ptr rfl rfl rfl ?_ | refine iaA_ptr rfl rfl rfl (by omega) rfl ?_)
          exact fin_r rfl rfl
      · rw [decide_eq_false h3] at c1
        rw [decide_eq_false (by intro h; exact h3 (congrArg Cell.b0 h))]
        repeat' (first | refine call2 rfl rfl c1 ?_ | refine w_seq ?_ | refine w_ops ?_ | refine w_opsD0 rfl ?_ | refine st_nil ?_ | refine th_n ?_ | refine th_r ?_ | refine bk_r ?_ | refine w_block ?_ | refine w_skip ?_ | refine w_ret ?_ | refine w_true rfl ?_ | refine mv_c rfl ?_ | refine lss_t rfl rfl (by omega) ?_ | refine not_ rfl ?_ | refine load_ptr rfl (by decide) rfl (Nat.le_of_ble_eq_true rfl) rfl ?_ | refine fad_ptr rfl rfl rfl ?_ | refine iaA_ptr rfl rfl rfl (by omega) rfl ?_)
        exact fin_r rfl rfl
    · rw [decide_eq_false h2] at e
      rw [decide_eq_false (by intro h; exact h2 ⟨congrArg Cell.s0 h, congrArg Cell.s1 h⟩)]
      repeat' (first | refine eqs_f rfl rfl e ?_ | refine w_seq ?_ | refine w_ops ?_ | refine st_nil ?_ | refine th_n ?_ | refine th_r ?_ | refine w_ret ?_ | refine w_true rfl ?_ | refine g_yes rfl ?_ | refine mv_c rfl ?_ | refine pick_f rfl rfl ?_ | refine neq_f rfl rfl (by omega) ?_ | refine box_ rfl rfl rfl (fun u => ?_) | refine load_ptr rfl (by decide) rfl (Nat.le_of_ble_eq_true rfl) rfl ?_ | refine fad_ptr rfl rfl rfl ?_)
      exact fin_r rfl rfl
  · rw [decide_eq_false (by intro h; exact h1 (congrArg Cell.n h))]
    repeat' (first | refine w_seq ?_ | refine w_ops ?_ | refine st_nil ?_ | refine th_n ?_ | refine th_r ?_ | refine w_ret ?_ | refine w_true rfl ?_ | refine g_no rfl ?_ | refine mv_c rfl ?_ | refine pick_t rfl rfl ?_ | refine neq_t rfl rfl (by omega) ?_ | refine box_ rfl rfl rfl (fun u => ?_) | refine load_ptr rfl (by decide) rfl (Nat.le_of_ble_eq_true rfl) rfl ?_ | refine fad_ptr rfl rfl rfl ?_)
    exact fin_r rfl rfl
theorem C_rcSame (a b : Cell) (ha : a.b0.length ≤ 1000000 ∧ a.b1.length ≤ 1000000) (hb : b.b0.length ≤ 1000000 ∧ b.b1.length ≤ 1000000) : PCallG Try.prog 46 [.c (encCell a), .c (encCell b)] (.c (.bool (decide (a = b)))) [] := by
  obtain ⟨n, s0, s1, b0, b1⟩ := a
  obtain ⟨k, t0, t1, d0, d1⟩ := b
  simp only at ha hb
  show PCallG _ 46 [.c (.agg [.int .i64 n, .int .i64 s0, .int .i64 s1, encL b0, encL b1]), .c (.agg [.int .i64 k, .int .i64 t0, .int .i64 t1, encL d0, encL d1])] _ _
  refine pcallF Try.func46 c46 rfl ?_
  have c1 := C_rSame b0 d0 (by omega) (by omega)
  have c2 := C_rSame b1 d1 (by omega) (by omega)
  unfold p46 r46_0 r46_1 r46_6
  repeat' (first | refine w_seq ?_ | refine w_ops ?_ | refine st_nil ?_ | refine th_n ?_ | refine w_block ?_ | refine mv_c rfl ?_ | refine box_ rfl rfl rfl (fun u => ?_))
  refine w_loop ?_
  unfold b46_0 r46_2 r46_3 r46_4 r46_5
  by_cases h1 : s0 = t0
  · by_cases h3 : b0 = d0
    · rw [decide_eq_true h3] at c1
      repeat' (first | refine call2 rfl rfl c1 ?_ | refine w_seq ?_ | refine w_ops ?_ | refine w_opsD0 rfl ?_ | refine st_nil ?_ | refine th_n ?_ | refine bk_n ?_ | refine w_block ?_ | refine w_skip ?_ | refine w_true rfl ?_ | refine w_false rfl ?_ | refine g_yes rfl ?_ | refine mv_c rfl ?_ | refine pick_f rfl rfl ?_ | refine lss_t rfl rfl (by omega) ?_ | refine neq_f rfl rfl (by omega) ?_ | refine not_ rfl ?_ | refine add_in rfl rfl (by omega) ?_ | refine load_ptr rfl (by decide) rfl (Nat.le_of_ble_eq_true rfl) rfl ?_ | refine fad_ptr rfl rfl rfl ?_ | refine iaA_ptr rfl rfl rfl (by omega) rfl ?_)
      refine w_loop ?_
      by_cases h2 : s1 = t1
      · by_cases h4 : b1 = d1
        · rw [decide_eq_true h4] at c2
          repeat' (first | refine call2 rfl rfl c2 ?_ | refine w_seq ?_ | refine w_ops ?_ | refine w_opsD0 rfl ?_ | refine st_nil ?_ | refine th_n ?_ | refine bk_n ?_ | refine w_block ?_ | refine w_skip ?_ | refine w_true rfl ?_ | refine w_false rfl ?_ | refine g_yes rfl ?_ | refine mv_c rfl ?_ | refine pick_f rfl rfl ?_ | refine lss_t rfl rfl (by omega) ?_ | refine neq_f rfl rfl (by omega) ?_ | refine not_ rfl ?_ | refine add_in rfl rfl (by omega) ?_ | refine load_ptr rfl (by decide) rfl (Nat.le_of_ble_eq_true rfl) rfl ?_ | refine fad_ptr rfl rfl rfl ?_ | refine iaA_ptr rfl rfl rfl (by omega) rfl ?_)
          refine w_loop ?_
          by_cases h5 : n = k
          · rw [decide_eq_true (by rw [h1, h2, h3, h4, h5])]
            repeat' (first | refine w_seq ?_ | refine w_ops ?_ | refine st_nil ?_ | refine th_n ?_ | refine th_x ?_ | refine bk_x ?_ | refine w_exit ?_ | refine w_ret ?_ | refine w_false rfl ?_ | refine mv_c rfl ?_ | refine lss_f rfl rfl (by omega) ?_ | refine eql_t rfl rfl (by omega) ?_ | refine load_ptr rfl (by decide) rfl (Nat.le_of_ble_eq_true rfl) rfl ?_ | refine fad_ptr rfl rfl rfl ?_)
            exact fin_r rfl rfl
          · rw [decide_eq_false (by intro h; exact h5 (congrArg Cell.n h))]
            repeat' (first | refine w_seq ?_ | refine w_ops ?_ | refine st_nil ?_ | refine th_n ?_ | refine th_x ?_ | refine bk_x ?_ | refine w_exit ?_ | refine w_ret ?_ | refine w_false rfl ?_ | refine mv_c rfl ?_ | refine lss_f rfl rfl (by omega) ?_ | refine eql_f rfl rfl (by omega) ?_ | refine load_ptr rfl (by decide) rfl (Nat.le_of_ble_eq_true rfl) rfl ?_ | refine fad_ptr rfl rfl rfl ?_)
            exact fin_r rfl rfl
        · rw [decide_eq_false h4] at c2
          rw [decide_eq_false (by intro h; exact h4 (congrArg Cell.b1 h))]
          repeat' (first | refine call2 rfl rfl c2 ?_ | refine w_seq ?_ | refine w_ops ?_ | refine w_opsD0 rfl ?_ | refine st_nil ?_ | refine th_n ?_ | refine th_r ?_ | refine bk_r ?_ | refine w_block ?_ | refine w_skip ?_ | refine w_ret ?_ | refine w_true rfl ?_ | refine g_yes rfl ?_ | refine mv_c rfl ?_ | refine pick_f rfl rfl ?_ | refine lss_t rfl rfl (by omega) ?_ | refine neq_f rfl rfl (by omega) ?_ | refine not_ rfl ?_ | refine load_ptr rfl (by decide) rfl (Nat.le_of_ble_eq_true rfl) rfl ?_ | refine fad_ptr rfl rfl rfl ?_ | refine iaA_ptr rfl rfl rfl (by omega) rfl ?_)
          exact fin_r rfl rfl
      · rw [decide_eq_false (by intro h; exact h2 (congrArg Cell.s1 h))]
        repeat' (first | refine w_seq ?_ | refine w_ops ?_ | refine w_opsD0 rfl ?_ | refine st_nil ?_ | refine th_n ?_ | refine th_r ?_ | refine bk_r ?_ | refine w_block ?_ | refine w_skip ?_ | refine w_ret ?_ | refine w_true rfl ?_ | refine g_no rfl ?_ | refine mv_c rfl ?_ | refine pick_t rfl rfl ?_ | refine lss_t rfl rfl (by omega) ?_ | refine neq_t rfl rfl (by omega) ?_ | refine load_ptr rfl (by decide) rfl (Nat.le_of_ble_eq_true rfl) rfl ?_ | refine fad_ptr rfl rfl rfl ?_ | refine iaA_ptr rfl rfl rfl (by omega) rfl ?_)
        exact fin_r rfl rfl
    · rw [decide_eq_false h3] at c1
      rw [decide_eq_false (by intro h; exact h3 (congrArg Cell.b0 h))]
      repeat' (first | refine call2 rfl rfl c1 ?_ | refine w_seq ?_ | refine w_ops ?_ | refine w_opsD0 rfl ?_ | refine st_nil ?_ | refine th_n ?_ | refine th_r ?_ | refine bk_r ?_ | refine w_block ?_ | refine w_skip ?_ | refine w_ret ?_ | refine w_true rfl ?_ | refine g_yes rfl ?_ | refine mv_c rfl ?_ | refine pick_f rfl rfl ?_ | refine lss_t rfl rfl (by omega) ?_ | refine neq_f rfl rfl (by omega) ?_ | refine not_ rfl ?_ | refine load_ptr rfl (by decide) rfl (Nat.le_of_ble_eq_true rfl) rfl ?_ | refine fad_ptr rfl rfl rfl ?_ | refine iaA_ptr rfl rfl rfl (by omega) rfl ?_)
      exact fin_r rfl rfl
  · rw [decide_eq_false (by intro h; exact h1 (congrArg Cell.s0 h))]
    repeat' (first | refine w_seq ?_ | refine w_ops ?_ | refine w_opsD0 rfl ?_ | refine st_nil ?_ | refine th_n ?_ | refine th_r ?_ | refine bk_r ?_ | refine w_block ?_ | refine w_skip ?_ | refine w_ret ?_ | refine w_true rfl ?_ | refine g_no rfl ?_ | refine mv_c rfl ?_ | refine pick_t rfl rfl ?_ | refine lss_t rfl rfl (by omega) ?_ | refine neq_t rfl rfl (by omega) ?_ | refine load_ptr rfl (by decide) rfl (Nat.le_of_ble_eq_true rfl) rfl ?_ | refine fad_ptr rfl rfl rfl ?_ | refine iaA_ptr rfl rfl rfl (by omega) rfl ?_)
    exact fin_r rfl rfl
def lightC (c : Cell) : Bool := decide (c.b0.length ≤ 60 ∧ c.b1.length ≤ 60)
theorem C_LightCell (c : Cell) (h0 : c.b0.length ≤ 9223372036854775807) (h1 : c.b1.length ≤ 9223372036854775807) : PCallG Try.prog 42 [.c (encCell c)] (.c (.bool (lightC c))) [] := by
  obtain ⟨n, s0, s1, b0, b1⟩ := c
  simp only at h0 h1
  show PCallG _ 42 [.c (.agg [.int .i64 n, .int .i64 s0, .int .i64 s1, encL b0, encL b1])] _ _
  refine pcallF Try.func42 c42 rfl ?_
  unfold p42 r42_0 r42_1 r42_2 r42_6
  repeat' (first | refine w_seq ?_ | refine w_ops ?_ | refine st_nil ?_ | refine th_n ?_ | refine w_block ?_ | refine mv_c rfl ?_ | refine box_ rfl rfl rfl (fun u => ?_))
  refine w_loop ?_
  unfold b42_0 r42_3 r42_4 r42_5
  repeat' (first | refine len_sl rfl (List.length_map _) ?_ | refine w_seq ?_ | refine w_ops ?_ | refine st_nil ?_ | refine th_n ?_ | refine bk_n ?_ | refine w_block ?_ | refine w_skip ?_ | refine w_true rfl ?_ | refine mv_c rfl ?_ | refine lss_t rfl rfl (by omega) ?_ | refine add_in rfl rfl (by omega) ?_ | refine load_ptr rfl (by decide) rfl (Nat.le_of_ble_eq_true rfl) rfl ?_ | refine fad_ptr rfl rfl rfl ?_ | refine iaA_ptr rfl rfl rfl (by omega) rfl ?_ | refine mm_max rfl rfl ?_)
  refine w_loop ?_
  repeat' (first | refine len_sl rfl (List.length_map _) ?_ | refine w_seq ?_ | refine w_ops ?_ | refine st_nil ?_ | refine th_n ?_ | refine bk_n ?_ | refine w_block ?_ | refine w_skip ?_ | refine w_true rfl ?_ | refine mv_c rfl ?_ | refine lss_t rfl rfl (by omega) ?_ | refine add_in rfl rfl (by omega) ?_ | refine load_ptr rfl (by decide) rfl (Nat.le_of_ble_eq_true rfl) rfl ?_ | refine fad_ptr rfl rfl rfl ?_ | refine iaA_ptr rfl rfl rfl (by omega) rfl ?_ | refine mm_max rfl rfl ?_)
  refine w_loop ?_
  by_cases h : b0.length ≤ 60 ∧ b1.length ≤ 60
  · rw [show lightC ⟨n, s0, s1, b0, b1⟩ = true from decide_eq_true h]
    repeat' (first | refine leq_t rfl rfl (by (repeat' split) <;> omega) ?_ | refine w_seq ?_ | refine w_ops ?_ | refine st_nil ?_ | refine th_n ?_ | refine th_x ?_ | refine bk_x ?_ | refine w_exit ?_ | refine w_ret ?_ | refine w_false rfl ?_ | refine mv_c rfl ?_ | refine lss_f rfl rfl (by omega) ?_)
    exact fin_r rfl rfl
  · rw [show lightC ⟨n, s0, s1, b0, b1⟩ = false from decide_eq_false h]
    repeat' (first | refine leq_f rfl rfl (by (repeat' split) <;> omega) ?_ | refine w_seq ?_ | refine w_ops ?_ | refine st_nil ?_ | refine th_n ?_ | refine th_x ?_ | refine bk_x ?_ | refine w_exit ?_ | refine w_ret ?_ | refine w_false rfl ?_ | refine mv_c rfl ?_ | refine lss_f rfl rfl (by omega) ?_)
    exact fin_r rfl rfl
end Go.Proofs.Ytcmejdkjfekoeaa
namespace Go.Proofs.Ytcmejdkjfekoeaa
open Go.Pl Go.Bag
set_option maxHeartbeats 16000000
set_option maxRecDepth 100000
theorem C_Sub (a b : Int) (ha : I64 a) (hb : I64 b) : PCallG Try.prog 109 [.c (.int .i64 a), .c (.int .i64 b)] (.c (if I64 (a - b) then .tup [.int .i64 (a - b), .bool true] else .tup [.int .i64 0, .bool false])) [] := by
  refine pcallF Try.func109 c109 rfl ?_
  obtain ⟨a1, a2⟩ := id ha
  obtain ⟨b1, b2⟩ := id hb
  have c1 := C_Plus 0 a 1 (by constructor <;> omega) ha (by constructor <;> omega) (by constructor <;> omega)
  rw [show (0 : Int) + a * 1 = a by omega] at c1
  have c2 := C_Plus a b (-1) (by constructor <;> omega) hb (by constructor <;> omega) (by constructor <;> omega)
  rw [show a + b * -1 = a - b by omega] at c2
  have c3 := C_Int (a - b) (by constructor <;> omega)
  unfold p109 r109_0 r109_1
  by_cases h : I64 (a - b)
  · rw [if_pos h] at c3 ⊢
    repeat' (first | refine call3 rfl rfl rfl c1 ?_ | refine call3 rfl rfl rfl c2 ?_ | refine call1 rfl c3 ?_ | refine w_seq ?_ | refine w_ops ?_ | refine st_nil ?_ | refine th_n ?_ | refine w_ret ?_ | refine mv_c rfl ?_ | refine build_ rfl rfl ?_ | refine ext_ rfl rfl ?_)
    exact fin_r rfl rfl
  · rw [if_neg h] at c3 ⊢
    repeat' (first | refine call3 rfl rfl rfl c1 ?_ | refine call3 rfl rfl rfl c2 ?_ | refine call1 rfl c3 ?_ | refine w_seq ?_ | refine w_ops ?_ | refine st_nil ?_ | refine th_n ?_ | refine w_ret ?_ | refine mv_c rfl ?_ | refine build_ rfl rfl ?_ | refine ext_ rfl rfl ?_)
    exact fin_r rfl rfl
theorem C_calcNeg (a : Int) (ha : I64 a) : PCallG Try.prog 102 [.c (.int .i64 a)] (.c (if I64 (-a) then .tup [.int .i64 (-a), .bool true] else .tup [.int .i64 0, .bool false])) [] := by
  refine pcallF Try.func102 c102 rfl ?_
  have c1 := C_Sub 0 a (by constructor <;> omega) ha
  rw [Int.zero_sub] at c1
  unfold p102 r102_0 r102_1
  by_cases h : I64 (-a)
  · rw [if_pos h] at c1 ⊢
    repeat' (first | refine call2 rfl rfl c1 ?_ | refine w_seq ?_ | refine w_ops ?_ | refine st_nil ?_ | refine th_n ?_ | refine w_ret ?_ | refine mv_c rfl ?_ | refine ext_ rfl rfl ?_)
    exact fin_r rfl rfl
  · rw [if_neg h] at c1 ⊢
    repeat' (first | refine call2 rfl rfl c1 ?_ | refine w_seq ?_ | refine w_ops ?_ | refine st_nil ?_ | refine th_n ?_ | refine w_ret ?_ | refine mv_c rfl ?_ | refine ext_ rfl rfl ?_)
    exact fin_r rfl rfl
theorem apart_loop {K : Ex → PS → Prop} (b : List Run) (hb : b.length < 4611686018427387904) (gb : good b = true) (l : List Run) (hlen : l.length < 4611686018427387904) : ∀ (rest : List Run) (i : Nat) (s : PS), l.drop i = rest → i ≤ l.length →
    s.t 7 = .c (encL l) → s.t 8 = .c (.int .i64 l.length) → s.t 9 = .c (.int .i64 i) → s.t 1 = .c (encL b) →
    (apartL rest b = true → ∀ s', K (.x 0) s') → (apartL rest b = false → ∀ s', s'.t 4 = .c (.bool false) → K .r s') → wP (PCallG Try.prog) (.loop b130_0) s K := by
  intro rest
  induction rest with
  | nil =>
    intro i s hd hi t7 t8 t9 t1 hx hr
    refine w_loop ?_
    have := get_end hd hi
    subst this
    rw [← put_same t8, ← put_same t9]
    unfold b130_0 r130_2 r130_3 r130_4 r130_5 r130_6
    repeat' (first | refine w_seq ?_ | refine w_ops ?_ | refine st_nil ?_ | refine th_n ?_ | refine th_x ?_ | refine w_exit ?_ | refine w_false rfl ?_ | refine lss_f rfl rfl (by omega) ?_)
    exact hx rfl _
  | cons r rest ih =>
    intro i s hd hi t7 t8 t9 t1 hx hr
    refine w_loop ?_
    have he := get_enc hd
    have hl := get_len hd
    have hn := get_next hd
    have hC := C_Has b r.1 hb
    rw [if_pos gb] at hC
    rw [← put_same t7, ← put_same t8, ← put_same t9, ← put_same t1]
    unfold b130_0 r130_2 r130_3 r130_4 r130_5 r130_6
    by_cases h : 0 < has b r.1
    · have e : apartL (r :: rest) b = false := by
        simp only [apartL, List.all_cons, Bool.and_eq_false_iff, decide_eq_false_iff_not]; exact .inl (by omega)
      repeat' (first | refine call2 rfl rfl hC ?_ | refine w_seq ?_ | refine w_ops ?_ | refine st_nil ?_ | refine th_n ?_ | refine th_r ?_ | refine bk_r ?_ | refine w_block ?_ | refine w_skip ?_ | refine w_ret ?_ | refine w_true rfl ?_ | refine mv_c rfl ?_ | refine lss_t rfl rfl (by omega) ?_ | refine gtr_t rfl rfl (by omega) ?_ | refine alloc_ (fun u => ?_) | refine load_rp rfl (Nat.le_of_ble_eq_true rfl) rfl ?_ | refine load_ptr rfl (by decide) rfl (Nat.le_of_ble_eq_true rfl) rfl ?_ | refine store_ptr rfl rfl (by decide) rfl rfl (Nat.le_of_ble_eq_true rfl) rfl ?_ | refine fad_ptr rfl rfl rfl ?_ | refine iaS_c rfl rfl (by omega) (by assumption) rfl ?_)
      exact hr e _ (by rfl)
    · have e : apartL (r :: rest) b = apartL rest b := by
        simp only [apartL, List.all_cons]; rw [decide_eq_true (by omega), Bool.true_and]
      rw [e] at hx hr
      repeat' (first | refine call2 rfl rfl hC ?_ | refine w_seq ?_ | refine w_ops ?_ | refine st_nil ?_ | refine th_n ?_ | refine bk_n ?_ | refine w_block ?_ | refine w_skip ?_ | refine w_true rfl ?_ | refine w_false rfl ?_ | refine mv_c rfl ?_ | refine lss_t rfl rfl (by omega) ?_ | refine gtr_f rfl rfl (by omega) ?_ | refine add_in rfl rfl (by omega) ?_ | refine alloc_ (fun u => ?_) | refine load_rp rfl (Nat.le_of_ble_eq_true rfl) rfl ?_ | refine load_ptr rfl (by decide) rfl (Nat.le_of_ble_eq_true rfl) rfl ?_ | refine store_ptr rfl rfl (by decide) rfl rfl (Nat.le_of_ble_eq_true rfl) rfl ?_ | refine fad_ptr rfl rfl rfl ?_ | refine iaS_c rfl rfl (by omega) (by assumption) rfl ?_)
      exact ih (i + 1) _ hn (by omega) (by rfl) (by rfl) (by rfl) (by rfl) hx hr
theorem C_apart (a b : List Run) (ha : a.length < 4611686018427387904) (hb : b.length < 4611686018427387904) (gb : good b = true) : PCallG Try.prog 130 [.c (encL a), .c (encL b)] (.c (.bool (apartL a b))) [] := by
  refine pcallF Try.func130 c130 rfl ?_
  unfold p130 r130_0 r130_1 r130_7
  repeat' (first | refine len_sl rfl (List.length_map _) ?_ | refine w_seq ?_ | refine w_ops ?_ | refine st_nil ?_ | refine th_n ?_ | refine w_block ?_ | refine mv_c rfl ?_)
  refine apart_loop b hb gb a ha a 0 _ rfl (by omega) (by rfl) (by rfl) (by rfl) (by rfl) (fun h s' => ?_) (fun h s' h4 => ?_)
  · rw [h]
    repeat' (first | refine w_seq ?_ | refine w_ops ?_ | refine st_nil ?_ | refine th_n ?_ | refine bk_x ?_ | refine w_ret ?_ | refine mv_c rfl ?_)
    exact fin_r rfl rfl
  · rw [h, ← put_same h4]
    repeat' (first | refine th_r ?_ | refine bk_r ?_)
    exact fin_r rfl rfl
theorem C_measure (n s : Int) (a b : List Run) (ha : a.length < 4611686018427387904) (hb : b.length < 4611686018427387904) (ra : ranged a) (rb : ranged b) (hs : I64 s) :
    PCallG Try.prog 104 [.c (.int .i64 n), .c (.int .i64 s), .c (encL a), .c (encL b)] (.c (.bool (mD n s a b))) [] := by
  refine pcallF Try.func104 c104 rfl ?_
  have c1 := C_good a ha
  have c2 := C_good b hb
  have c4 := C_Count a ha
  have c5 := C_Count b hb
  unfold p104 r104_0 r104_1 r104_2 r104_3 r104_4
  cases ga : good a with
  | false =>
    rw [ga] at c1
    rw [show mD n s a b = false by simp [mD, ga]]
    repeat' (first | refine call1 rfl c1 ?_ | refine w_seq ?_ | refine w_ops ?_ | refine st_nil ?_ | refine th_n ?_ | refine th_r ?_ | refine w_ret ?_ | refine w_true rfl ?_ | refine g_no rfl ?_ | refine mv_c rfl ?_ | refine pick_t rfl rfl ?_ | refine not_ rfl ?_)
    exact fin_r rfl rfl
  | true =>
    rw [ga] at c1
    rw [if_pos ga] at c4
    cases gb : good b with
    | false =>
      rw [gb] at c2
      rw [show mD n s a b = false by simp [mD, gb]]
      repeat' (first | refine call1 rfl c1 ?_ | refine call1 rfl c2 ?_ | refine w_seq ?_ | refine w_ops ?_ | refine st_nil ?_ | refine th_n ?_ | refine th_r ?_ | refine w_ret ?_ | refine w_true rfl ?_ | refine g_yes rfl ?_ | refine g_no rfl ?_ | refine mv_c rfl ?_ | refine pick_t rfl rfl ?_ | refine pick_f rfl rfl ?_ | refine not_ rfl ?_)
      exact fin_r rfl rfl
    | true =>
      rw [gb] at c2
      rw [if_pos gb] at c5
      have c3 := C_apart a b ha hb gb
      obtain ⟨pa, sa⟩ := good_facts ga
      obtain ⟨pb, sb⟩ := good_facts gb
      have na := sum_nonneg pa
      have nb := sum_nonneg pb
      have h0 : cap = 1099511627776 := rfl
      rw [h0] at sa sb
      have wa := wsum_bound pa ra
      have wb := wsum_bound pb rb
      cases hp : apartL a b with
      | false =>
        rw [hp] at c3
        rw [show mD n s a b = false by simp [mD, hp]]
        repeat' (first | refine call1 rfl c1 ?_ | refine call1 rfl c2 ?_ | refine call2 rfl rfl c3 ?_ | refine w_seq ?_ | refine w_ops ?_ | refine st_nil ?_ | refine th_n ?_ | refine th_r ?_ | refine w_ret ?_ | refine w_true rfl ?_ | refine g_yes rfl ?_ | refine g_no rfl ?_ | refine mv_c rfl ?_ | refine pick_t rfl rfl ?_ | refine pick_f rfl rfl ?_ | refine not_ rfl ?_)
        exact fin_r rfl rfl
      | true =>
        rw [hp] at c3
        by_cases hn : sum a - sum b = n
        · have c6 := C_Part a b ha hb pa ra sa pb rb sb
          have c7 := C_Int (wsum a - wsum b) (by constructor <;> omega)
          by_cases hw : I64 (wsum a - wsum b)
          · rw [if_pos hw] at c7
            by_cases hv : wsum a - wsum b = s
            · rw [show mD n s a b = true by simp [mD, ga, gb, hp, hn, hv]]
              repeat' (first | refine call1 rfl c1 ?_ | refine call1 rfl c2 ?_ | refine call2 rfl rfl c3 ?_ | refine call1 rfl c4 ?_ | refine call1 rfl c5 ?_ | refine call2 rfl rfl c6 ?_ | refine call1 rfl c7 ?_ | refine w_seq ?_ | refine w_ops ?_ | refine st_nil ?_ | refine th_n ?_ | refine w_skip ?_ | refine w_ret ?_ | refine w_false rfl ?_ | refine g_yes rfl ?_ | refine mv_c rfl ?_ | refine pick_t rfl rfl ?_ | refine pick_f rfl rfl ?_ | refine eql_t rfl rfl (by omega) ?_ | refine neq_f rfl rfl (by omega) ?_ | refine not_ rfl ?_ | refine sub_in rfl rfl (by omega) ?_ | refine ext_ rfl rfl ?_)
              exact fin_r rfl rfl
            · rw [show mD n s a b = false by simp [mD, hv]]
              repeat' (first | refine call1 rfl c1 ?_ | refine call1 rfl c2 ?_ | refine call2 rfl rfl c3 ?_ | refine call1 rfl c4 ?_ | refine call1 rfl c5 ?_ | refine call2 rfl rfl c6 ?_ | refine call1 rfl c7 ?_ | refine w_seq ?_ | refine w_ops ?_ | refine st_nil ?_ | refine th_n ?_ | refine w_skip ?_ | refine w_ret ?_ | refine w_false rfl ?_ | refine g_yes rfl ?_ | refine mv_c rfl ?_ | refine pick_t rfl rfl ?_ | refine pick_f rfl rfl ?_ | refine eql_f rfl rfl (by omega) ?_ | refine neq_f rfl rfl (by omega) ?_ | refine not_ rfl ?_ | refine sub_in rfl rfl (by omega) ?_ | refine ext_ rfl rfl ?_)
              exact fin_r rfl rfl
          · rw [if_neg hw] at c7
            have hv : ¬ wsum a - wsum b = s := fun h => hw (by rw [h]; exact hs)
            rw [show mD n s a b = false by simp [mD, hv]]
            repeat' (first | refine call1 rfl c1 ?_ | refine call1 rfl c2 ?_ | refine call2 rfl rfl c3 ?_ | refine call1 rfl c4 ?_ | refine call1 rfl c5 ?_ | refine call2 rfl rfl c6 ?_ | refine call1 rfl c7 ?_ | refine w_seq ?_ | refine w_ops ?_ | refine st_nil ?_ | refine th_n ?_ | refine w_skip ?_ | refine w_ret ?_ | refine w_false rfl ?_ | refine g_yes rfl ?_ | refine g_no rfl ?_ | refine mv_c rfl ?_ | refine pick_f rfl rfl ?_ | refine neq_f rfl rfl (by omega) ?_ | refine not_ rfl ?_ | refine sub_in rfl rfl (by omega) ?_ | refine ext_ rfl rfl ?_)
            exact fin_r rfl rfl
        · rw [show mD n s a b = false by simp [mD, hn]]
          repeat' (first | refine call1 rfl c1 ?_ | refine call1 rfl c2 ?_ | refine call2 rfl rfl c3 ?_ | refine call1 rfl c4 ?_ | refine call1 rfl c5 ?_ | refine w_seq ?_ | refine w_ops ?_ | refine st_nil ?_ | refine th_n ?_ | refine th_r ?_ | refine w_ret ?_ | refine w_true rfl ?_ | refine g_yes rfl ?_ | refine mv_c rfl ?_ | refine pick_f rfl rfl ?_ | refine neq_t rfl rfl (by omega) ?_ | refine not_ rfl ?_ | refine sub_in rfl rfl (by omega) ?_)
          exact fin_r rfl rfl
end Go.Proofs.Ytcmejdkjfekoeaa
namespace Go.Proofs.Ytcmejdkjfekoeaa
open Go.Pl Go.Bag
set_option maxHeartbeats 16000000
set_option maxRecDepth 100000
theorem C_dGood (m : Int) (d : Delta) (hd : inD 1000000 d) : PCallG Try.prog 65 [.c (.int .i64 m), .c (encDelta d)] (.c (.bool (goodD m d))) [] := by
  obtain ⟨n, s0, s1, i0, i1, o0, o1⟩ := d
  obtain ⟨hn, hs0, hs1, ⟨ri0, li0⟩, ⟨ri1, li1⟩, ⟨ro0, lo0⟩, ⟨ro1, lo1⟩⟩ := hd
  simp only at hn hs0 hs1 ri0 li0 ri1 li1 ro0 lo0 ro1 lo1
  show PCallG _ 65 [.c (.int .i64 m), .c (.agg [.int .i64 n, .int .i64 s0, .int .i64 s1, encL i0, encL i1, encL o0, encL o1])] _ _
  refine pcallF Try.func65 c65 rfl ?_
  have c1 := C_measure n s0 i0 o0 (by omega) (by omega) ri0 ro0 hs0
  have c2 := C_measure n s1 i1 o1 (by omega) (by omega) ri1 ro1 hs1
  have hno : ∀ {b : Bool}, (goodD m ⟨n, s0, s1, i0, i1, o0, o1⟩ = true → b = true) → b = false → goodD m ⟨n, s0, s1, i0, i1, o0, o1⟩ = false := fun h hb => by
    cases hg : goodD m ⟨n, s0, s1, i0, i1, o0, o1⟩ with
    | false => rfl
    | true => rw [h hg] at hb; cases hb
  unfold p65 r65_0 r65_1 r65_2 r65_3 r65_11
  by_cases hm : 1 ≤ m ∧ m ≤ 2
  · by_cases hnn : -1099511627776 ≤ n ∧ n ≤ 1099511627776
    · cases h1 : mD n s0 i0 o0 with
      | false =>
        rw [h1] at c1
        rw [hno (fun h => (goodD_iff.mp h).2.2.1) h1]
        repeat' (first | refine w_seq ?_ | refine w_ops ?_ | refine st_nil ?_ | refine th_n ?_ | refine w_block ?_ | refine w_skip ?_ | refine w_false rfl ?_ | refine g_yes rfl ?_ | refine mv_c rfl ?_ | refine pick_f rfl rfl ?_ | refine lss_f rfl rfl (by omega) ?_ | refine gtr_f rfl rfl (by omega) ?_ | refine box_ rfl rfl rfl (fun u => ?_) | refine load_ptr rfl (by decide) rfl (Nat.le_of_ble_eq_true rfl) rfl ?_ | refine fad_ptr rfl rfl rfl ?_)
        refine w_loop ?_
        unfold b65_0 r65_4 r65_5 r65_6 r65_7 r65_8 r65_9 r65_10
        repeat' (first | refine call4 rfl rfl rfl rfl c1 ?_ | refine w_seq ?_ | refine w_ops ?_ | refine w_opsD0 rfl ?_ | refine st_nil ?_ | refine th_n ?_ | refine th_r ?_ | refine bk_r ?_ | refine w_block ?_ | refine w_skip ?_ | refine w_ret ?_ | refine w_true rfl ?_ | refine g_yes rfl ?_ | refine mv_c rfl ?_ | refine pick_t rfl rfl ?_ | refine lss_t rfl rfl (by omega) ?_ | refine not_ rfl ?_ | refine load_ptr rfl (by decide) rfl (Nat.le_of_ble_eq_true rfl) rfl ?_ | refine fad_ptr rfl rfl rfl ?_ | refine iaA_ptr rfl rfl rfl (by omega) rfl ?_)
        exact fin_r rfl rfl
      | true =>
        rw [h1] at c1
        repeat' (first | refine w_seq ?_ | refine w_ops ?_ | refine st_nil ?_ | refine th_n ?_ | refine w_block ?_ | refine w_skip ?_ | refine w_false rfl ?_ | refine g_yes rfl ?_ | refine mv_c rfl ?_ | refine pick_f rfl rfl ?_ | refine lss_f rfl rfl (by omega) ?_ | refine gtr_f rfl rfl (by omega) ?_ | refine box_ rfl rfl rfl (fun u => ?_) | refine load_ptr rfl (by decide) rfl (Nat.le_of_ble_eq_true rfl) rfl ?_ | refine fad_ptr rfl rfl rfl ?_)
        refine w_loop ?_
        unfold b65_0 r65_4 r65_5 r65_6 r65_7 r65_8 r65_9 r65_10
        repeat' (first | refine call4 rfl rfl rfl rfl c1 ?_ | refine w_seq ?_ | refine w_ops ?_ | refine w_opsD0 rfl ?_ | refine st_nil ?_ | refine th_n ?_ | refine bk_n ?_ | refine w_block ?_ | refine w_skip ?_ | refine w_true rfl ?_ | refine w_false rfl ?_ | refine g_yes rfl ?_ | refine g_no rfl ?_ | refine g_un rfl ?_ | refine mv_c rfl ?_ | refine pick_t rfl rfl ?_ | refine pick_f rfl rfl ?_ | refine lss_t rfl rfl (by omega) ?_ | refine geq_f rfl rfl (by omega) ?_ | refine not_ rfl ?_ | refine add_in rfl rfl (by omega) ?_ | refine load_ptr rfl (by decide) rfl (Nat.le_of_ble_eq_true rfl) rfl ?_ | refine fad_ptr rfl rfl rfl ?_ | refine iaA_ptr rfl rfl rfl (by omega) rfl ?_)
        refine w_loop ?_
        by_cases hm2 : m = 2
        · cases h2 : mD n s1 i1 o1 with
          | false =>
            rw [h2] at c2
            rw [hno (fun h => by have := (goodD_iff.mp h).2.2.2; rw [if_pos hm2] at this; exact this) h2]
            repeat' (first | refine call4 rfl rfl rfl rfl c2 ?_ | refine w_seq ?_ | refine w_ops ?_ | refine w_opsD0 rfl ?_ | refine st_nil ?_ | refine th_n ?_ | refine th_r ?_ | refine bk_r ?_ | refine w_block ?_ | refine w_skip ?_ | refine w_ret ?_ | refine w_true rfl ?_ | refine g_yes rfl ?_ | refine mv_c rfl ?_ | refine pick_t rfl rfl ?_ | refine lss_t rfl rfl (by omega) ?_ | refine not_ rfl ?_ | refine load_ptr rfl (by decide) rfl (Nat.le_of_ble_eq_true rfl) rfl ?_ | refine fad_ptr rfl rfl rfl ?_ | refine iaA_ptr rfl rfl rfl (by omega) rfl ?_)
            exact fin_r rfl rfl
          | true =>
            rw [h2] at c2
            rw [goodD_iff.mpr ⟨hm, hnn, h1, by rw [if_pos hm2]; exact h2⟩]
            repeat' (first | refine call4 rfl rfl rfl rfl c2 ?_ | refine w_seq ?_ | refine w_ops ?_ | refine w_opsD0 rfl ?_ | refine st_nil ?_ | refine th_n ?_ | refine bk_n ?_ | refine w_block ?_ | refine w_skip ?_ | refine w_true rfl ?_ | refine w_false rfl ?_ | refine g_yes rfl ?_ | refine g_no rfl ?_ | refine g_un rfl ?_ | refine mv_c rfl ?_ | refine pick_t rfl rfl ?_ | refine pick_f rfl rfl ?_ | refine lss_t rfl rfl (by omega) ?_ | refine geq_f rfl rfl (by omega) ?_ | refine not_ rfl ?_ | refine add_in rfl rfl (by omega) ?_ | refine load_ptr rfl (by decide) rfl (Nat.le_of_ble_eq_true rfl) rfl ?_ | refine fad_ptr rfl rfl rfl ?_ | refine iaA_ptr rfl rfl rfl (by omega) rfl ?_)
            refine w_loop ?_
            repeat' (first | refine w_seq ?_ | refine w_ops ?_ | refine st_nil ?_ | refine th_n ?_ | refine th_x ?_ | refine bk_x ?_ | refine w_exit ?_ | refine w_ret ?_ | refine w_false rfl ?_ | refine mv_c rfl ?_ | refine lss_f rfl rfl (by omega) ?_)
            exact fin_r rfl rfl
        · have hz : goodD m ⟨n, s0, s1, i0, i1, o0, o1⟩ = true → s1 = 0 ∧ i1 = [] ∧ o1 = [] := fun h => by have := (goodD_iff.mp h).2.2.2; rw [if_neg hm2] at this; exact this
          by_cases z1 : s1 = 0
          · cases i1 with
            | nil =>
              cases o1 with
              | nil =>
                rw [goodD_iff.mpr ⟨hm, hnn, h1, by rw [if_neg hm2]; exact ⟨z1, rfl, rfl⟩⟩]
                repeat' (first | refine len_sl (es := []) rfl rfl ?_ | refine w_seq ?_ | refine w_ops ?_ | refine w_opsD0 rfl ?_ | refine st_nil ?_ | refine th_n ?_ | refine bk_n ?_ | refine w_block ?_ | refine w_skip ?_ | refine w_true rfl ?_ | refine w_false rfl ?_ | refine g_yes rfl ?_ | refine g_no rfl ?_ | refine mv_c rfl ?_ | refine pick_t rfl rfl ?_ | refine pick_f rfl rfl ?_ | refine lss_t rfl rfl (by omega) ?_ | refine lss_f rfl rfl (by omega) ?_ | refine gtr_ rfl rfl ?_ | refine geq_t rfl rfl (by omega) ?_ | refine neq_f rfl rfl (by omega) ?_ | refine add_in rfl rfl (by omega) ?_ | refine load_ptr rfl (by decide) rfl (Nat.le_of_ble_eq_true rfl) rfl ?_ | refine fad_ptr rfl rfl rfl ?_ | refine iaA_ptr rfl rfl rfl (by omega) rfl ?_)
                refine w_loop ?_
                repeat' (first | refine w_seq ?_ | refine w_ops ?_ | refine st_nil ?_ | refine th_n ?_ | refine th_x ?_ | refine bk_x ?_ | refine w_exit ?_ | refine w_ret ?_ | refine w_false rfl ?_ | refine mv_c rfl ?_ | refine lss_f rfl rfl (by omega) ?_)
                exact fin_r rfl rfl
              | cons x o1 =>
                rw [hno (b := false) (fun h => by have := (hz h).2.2; cases this) rfl]
                have hp : 0 < (x :: o1).length := by simp
                repeat' (first | refine len_sl (es := []) rfl rfl ?_ | refine len_sl rfl (List.length_map _) ?_ | refine w_seq ?_ | refine w_ops ?_ | refine w_opsD0 rfl ?_ | refine st_nil ?_ | refine th_n ?_ | refine th_r ?_ | refine bk_r ?_ | refine w_block ?_ | refine w_skip ?_ | refine w_ret ?_ | refine w_true rfl ?_ | refine w_false rfl ?_ | refine g_yes rfl ?_ | refine g_no rfl ?_ | refine mv_c rfl ?_ | refine pick_t rfl rfl ?_ | refine pick_f rfl rfl ?_ | refine lss_t rfl rfl (by omega) ?_ | refine lss_f rfl rfl (by omega) ?_ | refine gtr_t rfl rfl (by omega) ?_ | refine gtr_ rfl rfl ?_ | refine geq_t rfl rfl (by omega) ?_ | refine neq_f rfl rfl (by omega) ?_ | refine load_ptr rfl (by decide) rfl (Nat.le_of_ble_eq_true rfl) rfl ?_ | refine fad_ptr rfl rfl rfl ?_ | refine iaA_ptr rfl rfl rfl (by omega) rfl ?_)
                exact fin_r rfl rfl
            | cons x i1 =>
              rw [hno (b := false) (fun h => by have := (hz h).2.1; cases this) rfl]
              have hp : 0 < (x :: i1).length := by simp
              repeat' (first | refine len_sl rfl (List.length_map _) ?_ | refine w_seq ?_ | refine w_ops ?_ | refine w_opsD0 rfl ?_ | refine st_nil ?_ | refine th_n ?_ | refine th_r ?_ | refine bk_r ?_ | refine w_block ?_ | refine w_skip ?_ | refine w_ret ?_ | refine w_true rfl ?_ | refine w_false rfl ?_ | refine g_yes rfl ?_ | refine g_no rfl ?_ | refine mv_c rfl ?_ | refine pick_t rfl rfl ?_ | refine pick_f rfl rfl ?_ | refine lss_t rfl rfl (by omega) ?_ | refine lss_f rfl rfl (by omega) ?_ | refine gtr_t rfl rfl (by omega) ?_ | refine geq_t rfl rfl (by omega) ?_ | refine neq_f rfl rfl (by omega) ?_ | refine load_ptr rfl (by decide) rfl (Nat.le_of_ble_eq_true rfl) rfl ?_ | refine fad_ptr rfl rfl rfl ?_ | refine iaA_ptr rfl rfl rfl (by omega) rfl ?_)
              exact fin_r rfl rfl
          · rw [hno (b := false) (fun h => absurd (hz h).1 z1) rfl]
            repeat' (first | refine w_seq ?_ | refine w_ops ?_ | refine w_opsD0 rfl ?_ | refine st_nil ?_ | refine th_n ?_ | refine th_r ?_ | refine bk_r ?_ | refine w_block ?_ | refine w_skip ?_ | refine w_ret ?_ | refine w_true rfl ?_ | refine w_false rfl ?_ | refine g_yes rfl ?_ | refine g_no rfl ?_ | refine mv_c rfl ?_ | refine pick_t rfl rfl ?_ | refine pick_f rfl rfl ?_ | refine lss_t rfl rfl (by omega) ?_ | refine lss_f rfl rfl (by omega) ?_ | refine geq_t rfl rfl (by omega) ?_ | refine neq_t rfl rfl (by omega) ?_ | refine load_ptr rfl (by decide) rfl (Nat.le_of_ble_eq_true rfl) rfl ?_ | refine fad_ptr rfl rfl rfl ?_ | refine iaA_ptr rfl rfl rfl (by omega) rfl ?_)
            exact fin_r rfl rfl
    · rw [hno (b := false) (fun h => absurd (goodD_iff.mp h).2.1 hnn) rfl]
      by_cases h1 : n < -1099511627776
      · repeat' (first | refine w_seq ?_ | refine w_ops ?_ | refine st_nil ?_ | refine th_n ?_ | refine th_r ?_ | refine w_ret ?_ | refine w_true rfl ?_ | refine g_yes rfl ?_ | refine g_no rfl ?_ | refine mv_c rfl ?_ | refine pick_t rfl rfl ?_ | refine pick_f rfl rfl ?_ | refine lss_t rfl rfl (by omega) ?_ | refine lss_f rfl rfl (by omega) ?_ | refine gtr_f rfl rfl (by omega) ?_ | refine box_ rfl rfl rfl (fun u => ?_) | refine load_ptr rfl (by decide) rfl (Nat.le_of_ble_eq_true rfl) rfl ?_ | refine fad_ptr rfl rfl rfl ?_)
        exact fin_r rfl rfl
      · repeat' (first | refine w_seq ?_ | refine w_ops ?_ | refine st_nil ?_ | refine th_n ?_ | refine th_r ?_ | refine w_ret ?_ | refine w_true rfl ?_ | refine g_yes rfl ?_ | refine mv_c rfl ?_ | refine pick_f rfl rfl ?_ | refine lss_f rfl rfl (by omega) ?_ | refine gtr_t rfl rfl (by omega) ?_ | refine gtr_f rfl rfl (by omega) ?_ | refine box_ rfl rfl rfl (fun u => ?_) | refine load_ptr rfl (by decide) rfl (Nat.le_of_ble_eq_true rfl) rfl ?_ | refine fad_ptr rfl rfl rfl ?_)
        exact fin_r rfl rfl
  · rw [hno (b := false) (fun h => absurd (goodD_iff.mp h).1 hm) rfl]
    by_cases h1 : m < 1
    · repeat' (first | refine w_seq ?_ | refine w_ops ?_ | refine st_nil ?_ | refine th_n ?_ | refine th_r ?_ | refine w_ret ?_ | refine w_true rfl ?_ | refine g_no rfl ?_ | refine mv_c rfl ?_ | refine pick_t rfl rfl ?_ | refine lss_t rfl rfl (by omega) ?_ | refine box_ rfl rfl rfl (fun u => ?_))
      exact fin_r rfl rfl
    · repeat' (first | refine w_seq ?_ | refine w_ops ?_ | refine st_nil ?_ | refine th_n ?_ | refine th_r ?_ | refine w_ret ?_ | refine w_true rfl ?_ | refine g_yes rfl ?_ | refine g_no rfl ?_ | refine mv_c rfl ?_ | refine pick_t rfl rfl ?_ | refine pick_f rfl rfl ?_ | refine lss_f rfl rfl (by omega) ?_ | refine gtr_t rfl rfl (by omega) ?_ | refine box_ rfl rfl rfl (fun u => ?_))
      exact fin_r rfl rfl
def lenD (d : Delta) : Prop := d.i0.length ≤ 1000000 ∧ d.i1.length ≤ 1000000 ∧ d.o0.length ≤ 1000000 ∧ d.o1.length ≤ 1000000
theorem C_dSame (a b : Delta) (ha : lenD a) (hb : lenD b) : PCallG Try.prog 71 [.c (encDelta a), .c (encDelta b)] (.c (.bool (decide (a = b)))) [] := by
  obtain ⟨n, s0, s1, i0, i1, o0, o1⟩ := a
  obtain ⟨k, t0, t1, j0, j1, q0, q1⟩ := b
  obtain ⟨a1, a2, a3, a4⟩ := ha
  obtain ⟨b1, b2, b3, b4⟩ := hb
  simp only at a1 a2 a3 a4 b1 b2 b3 b4
  show PCallG _ 71 [.c (.agg [.int .i64 n, .int .i64 s0, .int .i64 s1, encL i0, encL i1, encL o0, encL o1]), .c (.agg [.int .i64 k, .int .i64 t0, .int .i64 t1, encL j0, encL j1, encL q0, encL q1])] _ _
  refine pcallF Try.func71 c71 rfl ?_
  have c1 := same_B i0 j0 a1 b1
  have c2 := same_B o0 q0 a3 b3
  have c3 := same_B i1 j1 a2 b2
  have c4 := same_B o1 q1 a4 b4
  have e := eq2_of s0 s1 t0 t1
  unfold p71 r71_0 r71_1 r71_2 r71_3 r71_9
  by_cases h1 : n = k
  · by_cases h2 : s0 = t0 ∧ s1 = t1
    · rw [decide_eq_true h2] at e
      repeat' (first | refine eqs_f rfl rfl e ?_ | refine w_seq ?_ | refine w_ops ?_ | refine st_nil ?_ | refine th_n ?_ | refine w_block ?_ | refine w_skip ?_ | refine w_false rfl ?_ | refine g_yes rfl ?_ | refine mv_c rfl ?_ | refine pick_f rfl rfl ?_ | refine neq_f rfl rfl (by omega) ?_ | refine box_ rfl rfl rfl (fun u => ?_) | refine load_ptr rfl (by decide) rfl (Nat.le_of_ble_eq_true rfl) rfl ?_ | refine fad_ptr rfl rfl rfl ?_)
      refine w_loop ?_
      unfold b71_0 r71_4 r71_5 r71_6 r71_7 r71_8
      by_cases h3 : i0 = j0
      · rw [decide_eq_true h3] at c1
        by_cases h4 : o0 = q0
        · rw [decide_eq_true h4] at c2
          repeat' (first | refine call2 rfl rfl c1 ?_ | refine call2 rfl rfl c2 ?_ | refine w_seq ?_ | refine w_ops ?_ | refine w_opsD0 rfl ?_ | refine st_nil ?_ | refine th_n ?_ | refine bk_n ?_ | refine w_block ?_ | refine w_skip ?_ | refine w_true rfl ?_ | refine w_false rfl ?_ | refine g_yes rfl ?_ | refine mv_c rfl ?_ | refine pick_f rfl rfl ?_ | refine lss_t rfl rfl (by omega) ?_ | refine not_ rfl ?_ | refine add_in rfl rfl (by omega) ?_ | refine load_ptr rfl (by decide) rfl (Nat.le_of_ble_eq_true rfl) rfl ?_ | refine fad_ptr rfl rfl rfl ?_ | refine iaA_ptr rfl rfl rfl (by omega) rfl ?_)
          refine w_loop ?_
          by_cases h5 : i1 = j1
          · rw [decide_eq_true h5] at c3
            by_cases h6 : o1 = q1
            · rw [decide_eq_true h6] at c4
              rw [decide_eq_true (by rw [h1, h2.1, h2.2, h3, h4, h5, h6])]
              repeat' (first | refine call2 rfl rfl c3 ?_ | refine call2 rfl rfl c4 ?_ | refine w_seq ?_ | refine w_ops ?_ | refine w_opsD0 rfl ?_ | refine st_nil ?_ | refine th_n ?_ | refine bk_n ?_ | refine w_block ?_ | refine w_skip ?_ | refine w_true rfl ?_ | refine w_false rfl ?_ | refine g_yes rfl ?_ | refine mv_c rfl ?_ | refine pick_f rfl rfl ?_ | refine lss_t rfl rfl (by omega) ?_ | refine not_ rfl ?_ | refine add_in rfl rfl (by omega) ?_ | refine load_ptr rfl (by decide) rfl (Nat.le_of_ble_eq_true rfl) rfl ?_ | refine fad_ptr rfl rfl rfl ?_ | refine iaA_ptr rfl rfl rfl (by omega) rfl ?_)
              refine w_loop ?_
              repeat' (first | refine w_seq ?_ | refine w_ops ?_ | refine st_nil ?_ | refine th_n ?_ | refine th_x ?_ | refine bk_x ?_ | refine w_exit ?_ | refine w_ret ?_ | refine w_false rfl ?_ | refine mv_c rfl ?_ | refine lss_f rfl rfl (by omega) ?_)
              exact fin_r rfl rfl
            · rw [decide_eq_false h6] at c4
              rw [decide_eq_false (by intro h; exact h6 (congrArg Delta.o1 h))]
              repeat' (first | refine call2 rfl rfl c3 ?_ | refine call2 rfl rfl c4 ?_ | refine w_seq ?_ | refine w_ops ?_ | refine w_opsD0 rfl ?_ | refine st_nil ?_ | refine th_n ?_ | refine th_r ?_ | refine bk_r ?_ | refine w_block ?_ | refine w_skip ?_ | refine w_ret ?_ | refine w_true rfl ?_ | refine g_yes rfl ?_ | refine mv_c rfl ?_ | refine pick_f rfl rfl ?_ | refine lss_t rfl rfl (by omega) ?_ | refine not_ rfl ?_ | refine load_ptr rfl (by decide) rfl (Nat.le_of_ble_eq_true rfl) rfl ?_ | refine fad_ptr rfl rfl rfl ?_ | refine iaA_ptr rfl rfl rfl (by omega) rfl ?_)
              exact fin_r rfl rfl
          · rw [decide_eq_false h5] at c3
            rw [decide_eq_false (by intro h; exact h5 (congrArg Delta.i1 h))]
            repeat' (first | refine call2 rfl rfl c3 ?_ | refine w_seq ?_ | refine w_ops ?_ | refine w_opsD0 rfl ?_ | refine st_nil ?_ | refine th_n ?_ | refine th_r ?_ | refine bk_r ?_ | refine w_block ?_ | refine w_skip ?_ | refine w_ret ?_ | refine w_true rfl ?_ | refine g_no rfl ?_ | refine mv_c rfl ?_ | refine pick_t rfl rfl ?_ | refine lss_t rfl rfl (by omega) ?_ | refine not_ rfl ?_ | refine load_ptr rfl (by decide) rfl (Nat.le_of_ble_eq_true rfl) rfl ?_ | refine fad_ptr rfl rfl rfl ?_ | refine iaA_ptr rfl rfl rfl (by omega) rfl ?_)
            exact fin_r rfl rfl
        · rw [decide_eq_false h4] at c2
          rw [decide_eq_false (by intro h; exact h4 (congrArg Delta.o0 h))]
          repeat' (first | refine call2 rfl rfl c1 ?_ | refine call2 rfl rfl c2 ?_ | refine w_seq ?_ | refine w_ops ?_ | refine w_opsD0 rfl ?_ | refine st_nil ?_ | refine th_n ?_ | refine th_r ?_ | refine bk_r ?_ | refine w_block ?_ | refine w_skip ?_ | refine w_ret ?_ | refine w_true rfl ?_ | refine g_yes rfl ?_ | refine mv_c rfl ?_ | refine pick_f rfl rfl ?_ | refine lss_t rfl rfl (by omega) ?_ | refine not_ rfl ?_ | refine load_ptr rfl (by decide) rfl (Nat.le_of_ble_eq_true rfl) rfl ?_ | refine fad_ptr rfl rfl rfl ?_ | refine iaA_ptr rfl rfl rfl (by omega) rfl ?_)
          exact fin_r rfl rfl
      · rw [decide_eq_false h3] at c1
        rw [decide_eq_false (by intro h; exact h3 (congrArg Delta.i0 h))]
        repeat' (first | refine call2 rfl rfl c1 ?_ | refine w_seq ?_ | refine w_ops ?_ | refine w_opsD0 rfl ?_ | refine st_nil ?_ | refine th_n ?_ | refine th_r ?_ | refine bk_r ?_ | refine w_block ?_ | refine w_skip ?_ | refine w_ret ?_ | refine w_true rfl ?_ | refine g_no rfl ?_ | refine mv_c rfl ?_ | refine pick_t rfl rfl ?_ | refine lss_t rfl rfl (by omega) ?_ | refine not_ rfl ?_ | refine load_ptr rfl (by decide) rfl (Nat.le_of_ble_eq_true rfl) rfl ?_ | refine fad_ptr rfl rfl rfl ?_ | refine iaA_ptr rfl rfl rfl (by omega) rfl ?_)
        exact fin_r rfl rfl
    · rw [decide_eq_false h2] at e
      rw [decide_eq_false (by intro h; exact h2 ⟨congrArg Delta.s0 h, congrArg Delta.s1 h⟩)]
      repeat' (first | refine eqs_f rfl rfl e ?_ | refine w_seq ?_ | refine w_ops ?_ | refine st_nil ?_ | refine th_n ?_ | refine th_r ?_ | refine w_ret ?_ | refine w_true rfl ?_ | refine g_yes rfl ?_ | refine mv_c rfl ?_ | refine pick_f rfl rfl ?_ | refine neq_f rfl rfl (by omega) ?_ | refine box_ rfl rfl rfl (fun u => ?_) | refine load_ptr rfl (by decide) rfl (Nat.le_of_ble_eq_true rfl) rfl ?_ | refine fad_ptr rfl rfl rfl ?_)
      exact fin_r rfl rfl
  · rw [decide_eq_false (by intro h; exact h1 (congrArg Delta.n h))]
    repeat' (first | refine w_seq ?_ | refine w_ops ?_ | refine st_nil ?_ | refine th_n ?_ | refine th_r ?_ | refine w_ret ?_ | refine w_true rfl ?_ | refine g_no rfl ?_ | refine mv_c rfl ?_ | refine pick_t rfl rfl ?_ | refine neq_t rfl rfl (by omega) ?_ | refine box_ rfl rfl rfl (fun u => ?_) | refine load_ptr rfl (by decide) rfl (Nat.le_of_ble_eq_true rfl) rfl ?_ | refine fad_ptr rfl rfl rfl ?_)
    exact fin_r rfl rfl
theorem inD_len {d : Delta} {k : Nat} (h : inD k d) (hk : k ≤ 1000000) : lenD d := by
  obtain ⟨_, _, _, ⟨_, h1⟩, ⟨_, h2⟩, ⟨_, h3⟩, ⟨_, h4⟩⟩ := h
  exact ⟨by omega, by omega, by omega, by omega⟩
theorem lenD_zero : lenD zeroD := ⟨by simp [zeroD], by simp [zeroD], by simp [zeroD], by simp [zeroD]⟩
theorem C_dIdle (m : Int) (d : Delta) (hd : inD 1000000 d) : PCallG Try.prog 67 [.c (.int .i64 m), .c (encDelta d)] (.c (.bool (idleD m d))) [] := by
  have c1 := C_dGood m d hd
  have c2 := C_dSame d zeroD (inD_len hd (by omega)) lenD_zero
  obtain ⟨n, s0, s1, i0, i1, o0, o1⟩ := d
  refine pcallF Try.func67 c67 rfl ?_
  unfold p67 r67_0 r67_1
  unfold idleD
  cases hg : goodD m ⟨n, s0, s1, i0, i1, o0, o1⟩ with
  | false =>
    rw [hg] at c1
    repeat' (first | refine call2 rfl rfl c1 ?_ | refine w_seq ?_ | refine w_ops ?_ | refine st_nil ?_ | refine th_n ?_ | refine w_ret ?_ | refine g_no rfl ?_ | refine mv_c rfl ?_ | refine pick_f rfl rfl ?_ | refine box_ rfl rfl rfl (fun u => ?_) | refine load_ptr rfl (by decide) rfl (Nat.le_of_ble_eq_true rfl) rfl ?_)
    exact fin_r rfl rfl
  | true =>
    rw [hg] at c1
    repeat' (first | refine call2 rfl rfl c1 ?_ | refine call2 rfl rfl c2 ?_ | refine w_seq ?_ | refine w_ops ?_ | refine st_nil ?_ | refine th_n ?_ | refine w_ret ?_ | refine g_yes rfl ?_ | refine mv_c rfl ?_ | refine pick_t rfl rfl ?_ | refine box_ rfl rfl rfl (fun u => ?_) | refine build_ rfl rfl ?_ | refine load_ptr rfl (by decide) rfl (Nat.le_of_ble_eq_true rfl) rfl ?_)
    exact fin_r rfl rfl
theorem mm_minv {C : CallP} {l : List POp} {s : PS} {K : PS → Prop} {d : Nat} {x y : PO} {k : IntKind} {a b v : Int} (hx : s.ev x = .c (.int k a)) (hy : s.ev y = .c (.int k b)) (hv : (if b < a then b else a) = v) (h : wL C l (s.put d (.c (.int k v))) K) :
    wL C (⟨some d, .mm false x [y], none⟩ :: l) s K := mm_min hx hy (by rw [hv]; exact h)
theorem com_loop {K : Ex → PS → Prop} (b : List Run) (hb : b.length < 4611686018427387904) (gb : good b = true) (l : List Run) (hlen : l.length < 400000000) : ∀ (rest : List Run) (i : Nat) (out : List Run) (s : PS), l.drop i = rest → i ≤ l.length → out.length ≤ i →
    s.t 8 = .c (encL l) → s.t 9 = .c (.int .i64 l.length) → s.t 10 = .c (.int .i64 i) → s.t 1 = .c (encL b) → s.t 5 = .osl 5 (s.bx 5).ver 0 (encE out).length → s.bx 5 = ⟨(s.bx 5).ver, .sl 2 (encE out)⟩ →
    (∀ s' v, s'.t 5 = .osl 5 v 0 (encE (out ++ com b rest)).length → s'.bx 5 = ⟨v, .sl 2 (encE (out ++ com b rest))⟩ → K (.x 0) s') → wP (PCallG Try.prog) (.loop b132_0) s K := by
  intro rest
  induction rest with
  | nil =>
    intro i out s hd hi ho t8 t9 t10 t1 t5 b5 hx
    refine w_loop ?_
    have := get_end hd hi
    subst this
    generalize (s.bx 5).ver = v5 at t5 b5
    rw [← put_same t8, ← put_same t9, ← put_same t10, ← put_same t5, ← box_same b5]
    unfold b132_0 r132_3 r132_4 r132_5 r132_6 r132_7 r132_8
    repeat' (first | refine w_seq ?_ | refine w_ops ?_ | refine st_nil ?_ | refine th_n ?_ | refine th_x ?_ | refine w_exit ?_ | refine w_false rfl ?_ | refine lss_f rfl rfl (by omega) ?_)
    exact hx _ v5 (by simp only [com, List.append_nil]; rfl) (by simp only [com, List.append_nil]; rfl)
  | cons r rest ih =>
    intro i out s hd hi ho t8 t9 t10 t1 t5 b5 hx
    refine w_loop ?_
    have he := get_enc hd
    have hl := get_len hd
    have hn := get_next hd
    have hC := C_Has b r.1 hb
    rw [if_pos gb] at hC
    have hmin : (if has b r.1 < r.2 then has b r.1 else r.2) = min r.2 (has b r.1) := by split <;> omega
    have hk : (encE out).length = out.length := List.length_map _
    have z1 : ∀ q : List CV, (encE out).length + [q].length ≤ maxGrow := fun q => by rw [hk]; simp [maxGrow]; omega
    have z2 : ∀ q : Run, encE out ++ [encR q] = encE (out ++ [q]) := fun q => by simp [encE]
    generalize (s.bx 5).ver = v5 at t5 b5
    rw [← put_same t8, ← put_same t9, ← put_same t10, ← put_same t1, ← put_same t5, ← box_same b5]
    unfold b132_0 r132_3 r132_4 r132_5 r132_6 r132_7 r132_8
    by_cases h : 0 < min r.2 (has b r.1)
    · have e : out ++ com b (r :: rest) = (out ++ [(r.1, min r.2 (has b r.1))]) ++ com b rest := by simp only [com, some_, if_pos h, List.append_assoc]
      rw [e] at hx
      repeat' (first | refine call2 rfl rfl hC ?_ | refine mm_minv rfl rfl hmin ?_ | refine app_own rfl rfl rfl rfl (z1 _) (by intro e he; cases List.mem_singleton.mp he; rfl) (z2 (r.1, min r.2 (has b r.1))) rfl (fun _ _ => ?_) | refine w_seq ?_ | refine w_ops ?_ | refine w_opsD0 rfl ?_ | refine st_nil ?_ | refine th_n ?_ | refine bk_n ?_ | refine w_block ?_ | refine w_skip ?_ | refine w_true rfl ?_ | refine mv_c rfl ?_ | refine mv_osl rfl ?_ | refine lss_t rfl rfl (by omega) ?_ | refine gtr_t rfl rfl (by omega) ?_ | refine add_in rfl rfl (by omega) ?_ | refine alloc_ (fun u => ?_) | refine bsl_ rfl rfl ?_ | refine load_rp rfl (Nat.le_of_ble_eq_true rfl) rfl ?_ | refine load_ptr rfl (by decide) rfl (Nat.le_of_ble_eq_true rfl) rfl ?_ | refine store_ptr rfl rfl (by decide) rfl rfl (Nat.le_of_ble_eq_true rfl) rfl ?_ | refine fad_ptr rfl rfl rfl ?_ | refine iaS_c rfl rfl (by omega) (by assumption) rfl ?_ | refine w_rn rfl (by decide) rfl rfl (fun _ _ => ?_))
      exact ih (i + 1) (out ++ [(r.1, min r.2 (has b r.1))]) _ hn (by omega) (by simp; omega) (by rfl) (by rfl) (by rfl) (by rfl) (by rfl) (by rfl) hx
    · have e : out ++ com b (r :: rest) = out ++ com b rest := by simp only [com, some_, if_neg h, List.nil_append]
      rw [e] at hx
      repeat' (first | refine call2 rfl rfl hC ?_ | refine mm_minv rfl rfl hmin ?_ | refine w_seq ?_ | refine w_ops ?_ | refine w_opsD0 rfl ?_ | refine st_nil ?_ | refine th_n ?_ | refine bk_n ?_ | refine w_block ?_ | refine w_skip ?_ | refine w_true rfl ?_ | refine w_false rfl ?_ | refine mv_c rfl ?_ | refine lss_t rfl rfl (by omega) ?_ | refine gtr_f rfl rfl (by omega) ?_ | refine add_in rfl rfl (by omega) ?_ | refine alloc_ (fun u => ?_) | refine load_rp rfl (Nat.le_of_ble_eq_true rfl) rfl ?_ | refine load_ptr rfl (by decide) rfl (Nat.le_of_ble_eq_true rfl) rfl ?_ | refine store_ptr rfl rfl (by decide) rfl rfl (Nat.le_of_ble_eq_true rfl) rfl ?_ | refine fad_ptr rfl rfl rfl ?_ | refine iaS_c rfl rfl (by omega) (by assumption) rfl ?_ | refine w_rn_same rfl ?_)
      exact ih (i + 1) out _ hn (by omega) (by omega) (by rfl) (by rfl) (by rfl) (by rfl) (by rfl) (by rfl) hx
theorem C_common (a b : List Run) (ha : a.length < 400000000) (hb : b.length < 4611686018427387904) (gb : good b = true) : PCallG Try.prog 132 [.c (encL a), .c (encL b)] (.c (encL (com b a))) [] := by
  refine pcallF Try.func132 c132 rfl ?_
  unfold p132 r132_0 r132_1 r132_2 r132_9
  repeat' (first | refine len_sl rfl (List.length_map _) ?_ | refine w_seq ?_ | refine w_ops ?_ | refine st_nil ?_ | refine th_n ?_ | refine w_block ?_ | refine mv_c rfl ?_ | refine own0_ (fun u => ?_))
  refine com_loop b hb gb a ha a 0 [] _ rfl (by omega) (by simp) (by rfl) (by rfl) (by rfl) (by rfl) (by rfl) (by rfl) ?_
  intro s' v t5 b5
  rw [← put_same t5, ← box_same b5]
  repeat' (first | refine w_seq ?_ | refine w_ops ?_ | refine st_nil ?_ | refine th_n ?_ | refine bk_x ?_ | refine w_ret ?_ | refine mv_osl rfl ?_)
  exact fin_r (rv_own rfl rfl rfl rv_nil) rfl
theorem C_part (a b : List Run) (ha : a.length < 4000000) (hb : b.length < 4000000) (ga : good a = true) (gb : good b = true) : PCallG Try.prog 106 [.c (encL a), .c (encL b)] (.c (.tup [encL (cut b a), encL (cut a b)])) [] := by
  refine pcallF Try.func106 c106 rfl ?_
  have hl := com_len b a
  have c1 := C_common a b (by omega) (by omega) gb
  have c2 := C_Minus a (com b a) (by omega) (by omega)
  have c3 := C_Minus b (com b a) (by omega) (by omega)
  rw [(minus_com ga gb).1] at c2
  rw [(minus_com ga gb).2] at c3
  unfold p106 r106_0 r106_1 r106_2 r106_3 r106_4
  repeat' (first | refine call2 rfl rfl c1 ?_ | refine call2 rfl rfl c2 ?_ | refine call2 rfl rfl c3 ?_ | refine w_seq ?_ | refine w_ops ?_ | refine st_nil ?_ | refine th_n ?_ | refine w_ret ?_ | refine mv_c rfl ?_ | refine ext_ rfl rfl ?_)
  exact fin_r rfl rfl
theorem C_own (a : List Run) (ha : a.length < 4000000) (ga : good a = true) : PCallG Try.prog 103 [.c (encL a)] (.c (encL a)) [] := by
  refine pcallF Try.func103 c103 rfl ?_
  have c1 := C_Join a [] (by omega) (by simp)
  rw [join_nil ga] at c1
  unfold p103 r103_0 r103_1 r103_2
  repeat' (first | refine call2 rfl rfl c1 ?_ | refine w_seq ?_ | refine w_ops ?_ | refine st_nil ?_ | refine th_n ?_ | refine w_ret ?_ | refine mv_c rfl ?_ | refine ext_ rfl rfl ?_)
  exact fin_r rfl rfl
end Go.Proofs.Ytcmejdkjfekoeaa
/-
  DELTAS, PLAIN, the third part: how long, of what numbers. My own work.
-/
namespace Go.Bag
open Go.Pl
theorem ranged_of {o a b : List Run} (go : good o = true) (ra : ranged a) (rb : ranged b) (h : ∀ v, cnt o v ≠ 0 → cnt a v ≠ 0 ∨ cnt b v ≠ 0) : ranged o := by
  obtain ⟨g1, g2, g3⟩ := good_iff.mp go
  have h0 : cap = 1099511627776 := rfl
  intro r hr
  have h1 := le_sum g2 r hr
  have h2 := asc_cnt g1 hr
  refine ⟨?_, by omega⟩
  rcases h r.1 (by omega) with h | h
  · obtain ⟨q, hq, e⟩ := mem_of_cnt h; rw [← e]; exact (ra q hq).1
  · obtain ⟨q, hq, e⟩ := mem_of_cnt h; rw [← e]; exact (rb q hq).1
theorem mergeLen : ∀ (m : Nat) (out a b : List Run), a.length + b.length = m → (merge out a b).length ≤ out.length + m := by
  intro m
  induction m with
  | zero =>
    intro out a b hm
    obtain rfl : a = [] := List.eq_nil_of_length_eq_zero (by omega)
    obtain rfl : b = [] := List.eq_nil_of_length_eq_zero (by omega)
    simp [merge]
  | succ m ih =>
    intro out a b hm
    match a, b, hm with
    | [], s :: b, hm =>
      rw [show merge out [] (s :: b) = merge (moreL out s.1 s.2) [] b by simp only [merge]]
      have := ih (moreL out s.1 s.2) [] b (by simpa using hm)
      have := moreL_len out s.1 s.2
      omega
    | r :: a, [], hm =>
      rw [show merge out (r :: a) [] = merge (moreL out r.1 r.2) a [] by simp only [merge]]
      have := ih (moreL out r.1 r.2) a [] (by simpa using hm)
      have := moreL_len out r.1 r.2
      omega
    | r :: a, s :: b, hm =>
      rw [merge]
      split
      · have := ih (moreL out s.1 s.2) (r :: a) b (by simp at hm ⊢; omega)
        have := moreL_len out s.1 s.2
        omega
      · have := ih (moreL out r.1 r.2) a (s :: b) (by simp at hm ⊢; omega)
        have := moreL_len out r.1 r.2
        omega
theorem joinLen (a b : List Run) : (join a b).1.length ≤ a.length + b.length := by
  unfold join
  split
  · have := mergeLen _ [] a b rfl
    simpa using this
  · simp
theorem minusLLen : ∀ (a out b : List Run) (o k : List Run), minusL out a b = some (o, k) → o.length ≤ out.length + a.length
  | [], out, b, o, k, h => by simp only [minusL, Option.some.injEq, Prod.mk.injEq] at h; rw [h.1]; simp
  | r :: a, out, b, o, k, h => by
    rw [minusL_cons] at h
    split at h
    · cases h
    · have := minusLLen a _ _ o k h
      split at this <;> simp at this ⊢ <;> omega
theorem minusLen (a b : List Run) : (minus a b).1.length ≤ a.length := by
  unfold minus
  split
  · split
    · rename_i o h
      have := minusLLen a [] b _ _ h
      simpa using this
    · simp
  · simp
theorem inB_nil (k : Nat) : inB k [] := ⟨fun q hq => by simp at hq, by simp⟩
theorem inB_mono {k l : Nat} {b : List Run} (h : inB k b) (hk : k ≤ l) : inB l b := ⟨h.1, by have := h.2; omega⟩
theorem inB_join {k l : Nat} {a b : List Run} (ha : inB k a) (hb : inB l b) : inB (k + l) (join a b).1 := by
  refine ⟨?_, by have := joinLen a b; have := ha.2; have := hb.2; omega⟩
  cases h : (join a b).2 with
  | true =>
    have j := join_is h
    exact ranged_of j.2.2.2.1 ha.1 hb.1 fun v hv => by rw [j.2.2.2.2.2.2] at hv; omega
  | false =>
    have : ¬ (good a = true ∧ good b = true ∧ sum a + sum b ≤ cap) := fun hc => by
      obtain ⟨o, h1, _⟩ := join_ok hc.1 hc.2.1 hc.2.2
      rw [h1] at h; cases h
    rw [join_no this]; exact (inB_nil 0).1
theorem inB_minus {k : Nat} {a b : List Run} (ha : inB k a) : inB k (minus a b).1 := by
  refine ⟨?_, by have := minusLen a b; have := ha.2; omega⟩
  cases h : (minus a b).2 with
  | true =>
    obtain ⟨g1, g2, g3, g4⟩ := minus_of h
    exact ranged_of g3 ha.1 ha.1 fun v hv => by
      have := cnt_good g3 v; have := cnt_good g2 v; rw [g4] at *; omega
  | false =>
    by_cases hg : good a = true ∧ good b = true
    · by_cases hs : sub b a
      · obtain ⟨o, h1, _⟩ := minus_facts hg.1 hg.2 hs
        rw [h1] at h; cases h
      · rw [minus_no hs]; exact (inB_nil 0).1
    · unfold minus; rw [if_neg hg]; exact (inB_nil 0).1
theorem inB_cut {k : Nat} {a b : List Run} (ga : good a = true) (gb : good b = true) (ha : inB k a) : inB k (cut b a) := by
  obtain ⟨d1, d2⟩ := good_cut ga gb
  refine ⟨ranged_of d1 ha.1 ha.1 fun v hv => ?_, by have := cut_len b a; have := ha.2; omega⟩
  rw [d2] at hv; have := cnt_good gb v; omega
theorem inB_swap {k l : Nat} {b o i : List Run} (hb : inB k b) (hi : inB l i) : inB (k + l) (swap b o i).1 := by
  unfold swap
  split
  · exact inB_join (inB_minus hb) hi
  · exact inB_nil _
theorem inD_zero (k : Nat) : inD k zeroD := ⟨by decide, by decide, by decide, inB_nil _, inB_nil _, inB_nil _, inB_nil _⟩
theorem inD_to {k l : Nat} {d : Delta} (h : inD k d) (hk : k ≤ l) : inD l d := by
  obtain ⟨h1, h2, h3, h4, h5, h6, h7⟩ := h
  exact ⟨h1, h2, h3, inB_mono h4 hk, inB_mono h5 hk, inB_mono h6 hk, inB_mono h7 hk⟩
theorem inC_to {k l : Nat} {c : Cell} (h : inC k c) (hk : k ≤ l) : inC l c := by
  obtain ⟨h1, h2, h3, h4, h5, h6, h7⟩ := h
  exact ⟨h1, h2, h3, h4, h5, by omega, by omega⟩
theorem inC_zero (k : Nat) : inC k zeroC := ⟨by decide, by decide, by decide, (inB_nil k).1, (inB_nil k).1, by simp [zeroC], by simp [zeroC]⟩
theorem inD_mk {k : Nat} {m n : Int} {i0 i1 o0 o1 : List Run} (h : preD m n i0 i1 o0 o1) (h1 : inB k i0) (h2 : m = 2 → inB k i1) (h3 : inB k o0) (h4 : m = 2 → inB k o1) : inD k (mkD m n i0 i1 o0 o1).1 := by
  unfold mkD
  split
  · rename_i hc
    obtain ⟨hm, ⟨g1, g2, g3⟩, hh⟩ := h
    refine ⟨⟨by show -9223372036854775808 ≤ n; omega, by show n ≤ 9223372036854775807; omega⟩, hc.1, ?_, inB_cut g1 g2 h1, ?_, inB_cut g2 g1 h3, ?_⟩
    · show in64 (if m = 2 then _ else _)
      split
      · rename_i hm2; exact hc.2.1 hm2
      · decide
    · show inB k (if m = 2 then _ else _)
      split
      · rename_i hm2; exact inB_cut (hh hm2).1 (hh hm2).2.1 (h2 hm2)
      · exact inB_nil _
    · show inB k (if m = 2 then _ else _)
      split
      · rename_i hm2; exact inB_cut (hh hm2).2.1 (hh hm2).1 (h4 hm2)
      · exact inB_nil _
  · exact inD_zero k
theorem inD_join {k l : Nat} {m : Int} {a b : Delta} (ha : inD k a) (hb : inD l b) : inD (k + l) (joinD m a b).1 := by
  unfold joinD
  split
  · rename_i hc
    obtain ⟨_, _, _, a1, a2, a3, a4⟩ := ha
    obtain ⟨_, _, _, b1, b2, b3, b4⟩ := hb
    exact inD_mk (joinD_pre hc.1 hc.2.1 hc.2.2) (inB_join a1 b1) (fun _ => inB_join a2 b2) (inB_join a3 b3) (fun _ => inB_join a4 b4)
  · exact inD_zero _
theorem negD_pre {m : Int} {d : Delta} (h : goodD m d = true) : preD m (-d.n) d.o0 d.o1 d.i0 d.i1 := by
  obtain ⟨hm, _, d1, d2⟩ := goodD_iff.mp h
  obtain ⟨a1, a2, a3, a4, a5⟩ := mD_iff.mp d1
  refine ⟨hm, ⟨a2, a1, by omega⟩, fun hm2 => ?_⟩
  rw [if_pos hm2] at d2
  obtain ⟨p1, p2, p3, p4, p5⟩ := mD_iff.mp d2
  exact ⟨p2, p1, by omega⟩
theorem inD_neg {k : Nat} {m : Int} {d : Delta} (h : inD k d) : inD k (negD m d).1 := by
  unfold negD
  split
  · rename_i hg
    obtain ⟨_, _, _, a1, a2, a3, a4⟩ := h
    exact inD_mk (negD_pre hg) a3 (fun _ => a4) a1 (fun _ => a2)
  · exact inD_zero _
theorem mayC_is {m : Int} {c : Cell} {is : Bool} (h : mayC m c is = true) : (good c.b0 = true ∧ sum c.b0 = c.n ∧ wsum c.b0 = c.s0) ∧ (m = 2 → good c.b1 = true ∧ sum c.b1 = c.n ∧ wsum c.b1 = c.s1) ∧ (0 ≤ c.n ∧ c.n ≤ 1099511627776) := by
  unfold mayC at h
  cases is with
  | true =>
    simp only [if_true] at h
    obtain ⟨_, h1, h2, h3⟩ := goodC_iff.mp h
    obtain ⟨q1, q2, q3⟩ := gM_iff.mp h2
    refine ⟨⟨q1, q3, q2⟩, fun hm2 => ?_, by omega⟩
    rw [if_pos hm2] at h3
    obtain ⟨q1, q2, q3⟩ := gM_iff.mp h3
    exact ⟨q1, q3, q2⟩
  | false =>
    simp only [Bool.false_eq_true, if_false, decide_eq_true_eq] at h
    subst h
    exact ⟨⟨by decide, rfl, rfl⟩, fun _ => ⟨by decide, rfl, rfl⟩, by decide⟩
theorem betweenD_pre {m : Int} {a b : Cell} {was is : Bool} (hm : 1 ≤ m ∧ m ≤ 2) (ha : mayC m a was = true) (hb : mayC m b is = true) : preD m (b.n - a.n) b.b0 b.b1 a.b0 a.b1 := by
  obtain ⟨a1, a2, a3⟩ := mayC_is ha
  obtain ⟨b1, b2, b3⟩ := mayC_is hb
  refine ⟨hm, ⟨b1.1, a1.1, by omega⟩, fun hm2 => ⟨(b2 hm2).1, (a2 hm2).1, ?_⟩⟩
  have := a2 hm2; have := b2 hm2; omega
theorem inD_between {k : Nat} {m : Int} {a b : Cell} {was is : Bool} (ha : inC k a) (hb : inC k b) : inD k (betweenD m a was b is).1 := by
  unfold betweenD
  split
  · rename_i hc
    obtain ⟨_, _, _, a1, a2, a3, a4⟩ := ha
    obtain ⟨_, _, _, b1, b2, b3, b4⟩ := hb
    exact inD_mk (betweenD_pre hc.1 hc.2.1 hc.2.2) ⟨b1, b3⟩ (fun _ => ⟨b2, b4⟩) ⟨a1, a3⟩ (fun _ => ⟨a2, a4⟩)
  · exact inD_zero _
theorem good_one (v : Int) : good [(v, 1)] = true := by simp [good, goodFrom, cap]
theorem ofD_pre {m : Int} (hm : 1 ≤ m ∧ m ≤ 2) (a b : Int) : preD m 1 [(a, 1)] [(b, 1)] [] [] ∧ preD m (-1) [] [] [(a, 1)] [(b, 1)] :=
  ⟨⟨hm, ⟨good_one a, by decide, by simp [sum]⟩, fun _ => ⟨good_one b, by decide, by simp [sum]⟩⟩, ⟨hm, ⟨by decide, good_one a, by simp [sum]⟩, fun _ => ⟨by decide, good_one b, by simp [sum]⟩⟩⟩
theorem inB_one {v : Int} (h : in64 v) : inB 1 [(v, 1)] := ⟨fun q hq => by obtain rfl := List.mem_singleton.mp hq; exact ⟨h, by show -9223372036854775808 ≤ (1 : Int) ∧ (1 : Int) ≤ 9223372036854775807; omega⟩, by simp⟩
theorem inD_of {m : Int} {del : Bool} {r : RowS} (h0 : in64 r.m0) (h1 : in64 r.m1) : inD 1 (ofD m del r).1 := by
  unfold ofD
  split
  · rename_i hm
    cases del with
    | true => exact inD_mk (ofD_pre hm r.m0 r.m1).2 (inB_nil _) (fun _ => inB_nil _) (inB_one h0) (fun _ => inB_one h1)
    | false => exact inD_mk (ofD_pre hm r.m0 r.m1).1 (inB_one h0) (fun _ => inB_one h1) (inB_nil _) (fun _ => inB_nil _)
  · exact inD_zero _
theorem inC_apply {k l : Nat} {m : Int} {c : Cell} {is : Bool} {d : Delta} (hc : inC k c) (hd : inD l d) : inC (k + l) (applyD m c is d).1 := by
  unfold applyD
  split
  · rename_i h
    obtain ⟨_, _, _, c1, c2, c3, c4⟩ := hc
    obtain ⟨_, _, _, d1, d2, d3, d4⟩ := hd
    have e0 := inB_swap (o := d.o0) (b := c.b0) ⟨c1, c3⟩ d1
    have e1 := inB_swap (o := d.o1) (b := c.b1) ⟨c2, c4⟩ d2
    have hn := (mayC_is h.2.2.2.2).2.2
    have hn' : (applyN m c d).n = c.n + d.n := rfl
    have p1 : in64 (applyN m c d).s1 ∧ inB (k + l) (applyN m c d).b1 := by
      show in64 (if m = 2 then _ else _) ∧ inB _ (if m = 2 then _ else _)
      by_cases hm2 : m = 2
      · rw [if_pos hm2, if_pos hm2]; exact ⟨h.2.2.2.1.2 hm2, e1⟩
      · rw [if_neg hm2, if_neg hm2]; exact ⟨by decide, inB_nil _⟩
    exact ⟨⟨by show -9223372036854775808 ≤ c.n + d.n; omega, by show c.n + d.n ≤ 9223372036854775807; omega⟩, h.2.2.2.1.1, p1.1, e0.1, p1.2.1, e0.2, p1.2.2⟩
  · exact inC_zero _
def dV (p : Delta × Bool) : CV := .tup [encDelta p.1, .bool p.2]
def aV (p : Cell × Bool × Bool) : CV := .tup [encCell p.1, .bool p.2.1, .bool p.2.2]
def encCh (del : Bool) (r : RowS) : CV := .agg (.bool del :: encRow r)
/-! ### what the program comes to, told the document's way -/
def keD (m n s0 s1 : Int) (i0 i1 o0 o1 : List Run) : Delta := ⟨n, s0, if m = 2 then s1 else 0, cut o0 i0, if m = 2 then cut o1 i1 else [], cut i0 o0, if m = 2 then cut i1 o1 else []⟩
theorem mkD_eq {m n s0 s1 : Int} {i0 i1 o0 o1 : List Run} (h : preD m n i0 i1 o0 o1) (h0 : wsum i0 - wsum o0 = s0) (h1 : m = 2 → wsum i1 - wsum o1 = s1) :
    mkD m n i0 i1 o0 o1 = if in64 s0 ∧ (m = 2 → in64 s1) ∧ goodD m (keD m n s0 s1 i0 i1 o0 o1) = true then (keD m n s0 s1 i0 i1 o0 o1, true) else (zeroD, false) := by
  subst h0
  have ek : keD m n (wsum i0 - wsum o0) s1 i0 i1 o0 o1 = ⟨n, wsum i0 - wsum o0, if m = 2 then wsum i1 - wsum o1 else 0, cut o0 i0, if m = 2 then cut o1 i1 else [], cut i0 o0, if m = 2 then cut i1 o1 else []⟩ := by
    unfold keD
    by_cases hm2 : m = 2
    · simp only [hm2, if_true, h1 hm2]
    · simp only [hm2, if_false]
  have e1 : (m = 2 → in64 s1) ↔ (m = 2 → in64 (wsum i1 - wsum o1)) := ⟨fun k hm2 => by rw [h1 hm2]; exact k hm2, fun k hm2 => by rw [← h1 hm2]; exact k hm2⟩
  rw [ek]
  by_cases hc : in64 (wsum i0 - wsum o0) ∧ (m = 2 → in64 (wsum i1 - wsum o1)) ∧ (-1099511627776 ≤ n ∧ n ≤ 1099511627776)
  · have em : mkD m n i0 i1 o0 o1 = (⟨n, wsum i0 - wsum o0, if m = 2 then wsum i1 - wsum o1 else 0, cut o0 i0, if m = 2 then cut o1 i1 else [], cut i0 o0, if m = 2 then cut i1 o1 else []⟩, true) := by unfold mkD; rw [if_pos hc]
    have hg := mkD_good h (by rw [em])
    rw [em] at hg ⊢
    exact (if_pos ⟨hc.1, e1.mpr hc.2.1, hg⟩).symm
  · have em : mkD m n i0 i1 o0 o1 = (zeroD, false) := by unfold mkD; rw [if_neg hc]
    rw [em]
    exact (if_neg fun k => hc ⟨k.1, e1.mp k.2.1, (goodD_iff.mp k.2.2).2.1⟩).symm
theorem joinD_eq {m : Int} {a b : Delta} (ha : goodD m a = true) (hb : goodD m b = true) (hj : joks m a b) :
    joinD m a b = if in64 (a.s0 + b.s0) ∧ (m = 2 → in64 (a.s1 + b.s1)) ∧ goodD m (keD m (a.n + b.n) (a.s0 + b.s0) (a.s1 + b.s1) (join a.i0 b.i0).1 (join a.i1 b.i1).1 (join a.o0 b.o0).1 (join a.o1 b.o1).1) = true then (keD m (a.n + b.n) (a.s0 + b.s0) (a.s1 + b.s1) (join a.i0 b.i0).1 (join a.i1 b.i1).1 (join a.o0 b.o0).1 (join a.o1 b.o1).1, true) else (zeroD, false) := by
  obtain ⟨hm, _, d1, d2⟩ := goodD_iff.mp ha
  obtain ⟨_, _, e1, e2⟩ := goodD_iff.mp hb
  obtain ⟨a1, a2, a3, a4, a5⟩ := mD_iff.mp d1
  obtain ⟨b1, b2, b3, b4, b5⟩ := mD_iff.mp e1
  have k1 := join_is hj.1
  have k2 := join_is hj.2.1
  have ej : joinD m a b = mkD m (a.n + b.n) (join a.i0 b.i0).1 (join a.i1 b.i1).1 (join a.o0 b.o0).1 (join a.o1 b.o1).1 := by unfold joinD; rw [if_pos ⟨ha, hb, hj⟩]
  rw [ej]
  refine mkD_eq (joinD_pre ha hb hj) (by rw [k1.2.2.2.2.2.1, k2.2.2.2.2.2.1]; omega) fun hm2 => ?_
  rw [if_pos hm2] at d2 e2
  obtain ⟨p1, p2, p3, p4, p5⟩ := mD_iff.mp d2
  obtain ⟨q1, q2, q3, q4, q5⟩ := mD_iff.mp e2
  rw [(join_is (hj.2.2 hm2).1).2.2.2.2.2.1, (join_is (hj.2.2 hm2).2).2.2.2.2.2.1]; omega
theorem betweenD_eq {m : Int} {a b : Cell} {was is : Bool} (hm : 1 ≤ m ∧ m ≤ 2) (ha : mayC m a was = true) (hb : mayC m b is = true) :
    betweenD m a was b is = if in64 (b.s0 - a.s0) ∧ (m = 2 → in64 (b.s1 - a.s1)) ∧ goodD m (keD m (b.n - a.n) (b.s0 - a.s0) (b.s1 - a.s1) b.b0 b.b1 a.b0 a.b1) = true then (keD m (b.n - a.n) (b.s0 - a.s0) (b.s1 - a.s1) b.b0 b.b1 a.b0 a.b1, true) else (zeroD, false) := by
  have eb : betweenD m a was b is = mkD m (b.n - a.n) b.b0 b.b1 a.b0 a.b1 := by unfold betweenD; rw [if_pos ⟨hm, ha, hb⟩]
  obtain ⟨a1, a2, a3⟩ := mayC_is ha
  obtain ⟨b1, b2, b3⟩ := mayC_is hb
  rw [eb]
  exact mkD_eq (betweenD_pre hm ha hb) (by rw [a1.2.2, b1.2.2]) fun hm2 => by rw [(a2 hm2).2.2, (b2 hm2).2.2]
theorem ofL_one (a : Int) : ofL [a] = [(a, 1)] := by
  refine (ofL_ext (by simp [asc]) (fun q hq => by obtain rfl := List.mem_singleton.mp hq; show 1 ≤ (1 : Int); omega) fun v => ?_).symm
  simp [cnt, num_cons, num_nil]
theorem ofC_one {m : Int} (hm : 1 ≤ m ∧ m ≤ 2) (r : RowS) (h0 : in64 r.m0) (h1 : in64 r.m1) : ofC m [r] = (⟨1, r.m0, if m = 2 then r.m1 else 0, [(r.m0, 1)], if m = 2 then [(r.m1, 1)] else []⟩, true) := by
  unfold ofC
  rw [if_pos ⟨hm, by simp, by simpa [sumI] using h0, fun _ => by simpa [sumI] using h1⟩]
  simp [sumI, ofL_one]
theorem good_cone {m : Int} (hm : 1 ≤ m ∧ m ≤ 2) (a b : Int) : goodC m ⟨1, a, if m = 2 then b else 0, [(a, 1)], if m = 2 then [(b, 1)] else []⟩ = true := by
  refine goodC_iff.mpr ⟨hm, by show (1 : Int) ≤ 1 ∧ (1 : Int) ≤ 1099511627776; omega, gM_iff.mpr ⟨good_one a, by simp [wsum], by simp [sum]⟩, ?_⟩
  by_cases hm2 : m = 2
  · simp only [hm2, if_true]; exact gM_iff.mpr ⟨good_one b, by simp [wsum], by simp [sum]⟩
  · simp only [hm2, if_false]; exact ⟨trivial, trivial⟩
theorem ofD_between {m : Int} (hm : 1 ≤ m ∧ m ≤ 2) (del : Bool) (r : RowS) (h0 : in64 r.m0) (h1 : in64 r.m1) : ofD m del r = if del then betweenD m (ofC m [r]).1 true zeroC false else betweenD m zeroC false (ofC m [r]).1 true := by
  rw [ofC_one hm r h0 h1]
  have g := good_cone hm r.m0 r.m1
  have z : mayC m zeroC false = true := by simp [mayC]
  have key : ∀ (n : Int) (i0 o0 : List Run) (x y : Int) (p q : List Run), (m = 2 → p = q) → True := fun _ _ _ _ _ _ _ _ => trivial
  unfold ofD betweenD
  rw [if_pos hm]
  cases del with
  | true =>
    simp only [if_true]
    rw [if_pos ⟨hm, g, z⟩]
    by_cases hm2 : m = 2
    · simp only [hm2, if_true]; rfl
    · simp only [hm2, if_false]
      show mkD m (-1) [] [] [(r.m0, 1)] [(r.m1, 1)] = mkD m (0 - 1) [] [] [(r.m0, 1)] []
      unfold mkD; simp only [hm2, if_false, false_implies]; rfl
  | false =>
    simp only [Bool.false_eq_true, if_false]
    rw [if_pos ⟨hm, z, g⟩]
    by_cases hm2 : m = 2
    · simp only [hm2, if_true]; rfl
    · simp only [hm2, if_false]
      show mkD m 1 [(r.m0, 1)] [(r.m1, 1)] [] [] = mkD m (1 - 0) [(r.m0, 1)] [] [] []
      unfold mkD; simp only [hm2, if_false, false_implies]; rfl
end Go.Bag
